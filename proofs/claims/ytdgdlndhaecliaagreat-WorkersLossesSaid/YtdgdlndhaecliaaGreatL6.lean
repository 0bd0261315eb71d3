/- Every step of the main goroutine's, and of elder ones, keeps the invariant and lowers the measure. No condition. -/
import Derived.Test.YtdgdlndhaecliaaGreatL5
import Derived.Test.YtdgdlndhaecliaaGreatL4
import Derived.Test.YtdgdlndhaecliaaGreatL1
import Derived.Conc.Beside
import Derived.Conc.QuitsD
import Derived.Conc.WgGenLone
import Derived.Conc.WgGenWait
import Derived.Conc.WgArith
import Derived.Conc.CrowdRun
open Array renaming getD_eq_getD_getElem?→Av,getElem?_eq_getElem→Ak,getElem?_eq_some_iff→AQ,getElem?_map→BN,getElem?_push_lt→Fi,getElem?_setIfInBounds→FH,getElem?_setIfInBounds_ne→AF,getElem?_setIfInBounds_self_of_lt→BM,mem_of_getElem?→BQ,replicate→AX
open Bool renaming and_eq_true→A1
open Decidable renaming byContradiction→BW
open Go.Conc renaming mem_ofEvents→BA
open Go.ConcN renaming Deaf_still→FA,Mode→D9,cnt→B9,upd→Bb,upd_ne→Bf,upd_same→A5
open Go.ConcN.Mode renaming retag→ER
open Go.Event renaming mute→D8
open Go.Frame renaming finish_at→DU
open Go.IntKind renaming bits→Cz,i64→Ag,signed→Ee,u32→BC,u64→Az,wrap→EL,wrap_u32→Ei,wrap_u64→Ej
open Go.MemAct renaming ofEvent→Bc,touch?→Bx
open Go.MemOp renaming ofEvents→BK
open Go.Obj renaming cells→CZ
open Go.Proofs.Tryz renaming prog→Aa
open Go.Region renaming wanted→Bs
open Go.Trace renaming g?→FY
open Go.Value renaming cells→DY
open Go.World renaming cell?→Bw
open Int renaming emod_nonneg→Ez,tdiv_eq_ediv_of_nonneg→C9,tmod_eq_emod_of_nonneg→B5,toNat→FN
open List renaming all_eq_true→A4,append_assoc→CH,cons_append→Ci,contains_cons→Bq,drop_zero→FW,ext_getElem→Fq,ext_getElem?→Dp,filter_cons→Fx,getD_eq_getElem?_getD→Af,getElem?_append_left→AR,getElem?_append_right→AM,getElem?_cons_succ→B7,getElem?_eq_getElem→Ab,getElem?_eq_none→A6,getElem?_eq_some_iff→Aq,getElem?_map→Ai,getElem?_range→BF,getElem?_replicate→Dr,getElem?_set→DZ,getElem?_take→Bv,getElem_mem→BH,length_append→A9,length_cons→Ah,length_drop→CM,length_eq_zero_iff→CJ,length_map→Bm,length_nil→As,length_pos_iff→Eb,length_set→Dh,length_singleton→BX,length_take→AT,map→CI,map_congr_left→CF,map_cons→BI,map_map→DD,mem_append→BZ,mem_cons→BB,mem_cons_of_mem→AD,mem_cons_self→AH,mem_map→AZ,mem_map_of_mem→Dy,mem_of_getElem?→Ao,mem_of_mem_take→Bl,mem_or_eq_of_mem_set→ET,mem_range→CK,mem_range'_1→Gh,mem_singleton→Cb,not_mem_nil→Fy,range→AK,replicate→Aw,set_append_right→Fo,set_cons_succ→E3,set_cons_zero→DO,take→DM,take_add_one→A7,take_append_drop→Di,take_of_length_le→Ax,take_sublist→CY,take_succ_cons→Dz,take_zero→BG
open Nat renaming add_sub_cancel→FQ,div_eq_of_lt→C4,eq_zero_or_pos→Be,le_refl→AE,le_trans→AO,lt_log2_self→Fz,lt_of_le_of_lt→Bo,lt_of_lt_of_le→A3,lt_or_ge→AY,lt_succ_self→Cj,mod_eq_of_lt→Ce,mod_lt→BY,mul_comm→BV,mul_le_mul→Bg,mul_le_mul_right→B3,mul_lt_mul''→Ft,pow_add→E6,pow_le_pow_right→B4,pow_succ→BJ,sub_lt_sub_left→EV,sub_self→Eo,zero_le→A8
open Ne renaming symm→Ea
open Option renaming getD_some→AU,map_eq_some_iff→Ae,map_some→AW
open Option.some renaming inj→Bj,injEq→Au
open Prod.Lex renaming left→EY,right→FZ
open _root_ renaming beq_eq_false_iff_ne→Dx,decide_eq_false→Bn,decide_eq_true→BU,decide_eq_true_eq→BO,getElem!_pos→B8,if_neg→Aj,if_pos→Ar,or_false→Fc
set_option linter.unusedSectionVars false
set_option linter.unusedVariables false
set_option linter.unusedSimpArgs false
section
open List renaming map_map→ζ,mapM_map→ξ
open Go Go.Am Go.Proofs
namespace Go.Am
def Bkk:Nat→Nat
 |0=>10
 |k+1=>2*(Bkk k*(Bkk k*Bkk k*Bkk k))
def Ok:Nat→Nat
 |0=>1
 |k+1=>Ok k*Bkk k
theorem aLl{k:Nat}(h:k≤3):Bkk k≤b1k:=by
 have:k=0∨k=1∨k=2∨k=3:=by omega
 rcases this with rfl|rfl|rfl|rfl<;>(unfold b1k;simp only[Bkk];decide)
theorem bGn{k:Nat}(h:k≤2):Bkk k*Bkk k≤b1k∧Bkk k*Bkk k*Bkk k≤b1k:=by
 have:k=0∨k=1∨k=2:=by omega
 rcases this with rfl|rfl|rfl<;>(unfold b1k;simp only[Bkk];decide)
theorem bQh{k:Nat}(h:k≤4):Ok k≤b1k:=by
 have:k=0∨k=1∨k=2∨k=3∨k=4:=by omega
 rcases this with rfl|rfl|rfl|rfl|rfl<;>(unfold b1k;simp only[Ok,Bkk];decide)
def aCg(B:Nat)(r:List Rat):Prop:=∀ q∈r,QB B q
theorem aUs{B:Nat}{a b:List Rat}{c:Rat}(ha:aCg B a)(hb:aCg B b)(hab:a.length≤b.length)(hc:QB (B*B) c):aCg (2*(B*(B*B*B))) (iU a b c):=fun q hq=>by
 obtain⟨i,hi,rfl⟩:=AZ.1 hq
 have hi:=CK.1 hi
 rw[Af,Af,Ab hi,Ab (by omega)]
 exact(ha _ (BH hi)).sub (hc.mul (hb _ (BH (by omega))))
theorem vD(l:List Rat):one (.d (gP l))=true:=rfl
theorem nS(l:List Rat):dG (.d (gP l))=some [.d (gP l)]:=rfl
theorem rZ(l:List Rat):aT (gP l)=.d (gP l):=rfl
theorem vH(l:List Rat):inj (gP l)=.d (gP l):=rfl
theorem pI(H:Hp)(avs:List AV)(l:List Rat):bC H avs (gP l)=cC H avs:=rfl
theorem aDd(l:List Int):one (.d (fS l))=true:=rfl
theorem uD(l:List Int):dG (.d (fS l))=some [.d (fS l)]:=rfl
theorem zS(l:List Int):aT (fS l)=.d (fS l):=rfl
theorem aDs(l:List Int):inj (fS l)=.d (fS l):=rfl
def dE(M:List (List Rat)):List D:=M.map gP
theorem cX(M:List (List Rat)):(dE M).length=M.length:=by simp[dE]
theorem aUg(M N:List (List Rat)):dE (M++N)=dE M++dE N:=by simp[dE]
theorem uY(M:List (List Rat))(i:Nat)(r:List Rat):(dE M).set i (gP r)=dE (M.set i r):=by unfold dE;rw[List.map_set]
theorem aUf(r:List Rat):dE [r]=[gP r]:=rfl
def dtS(M:List (List Rat))(o:Rat)(k:Nat):St:=StL [(2,.ptr 1 0),(4,.own 2 0 M.length 1),(5,.ptr 3 0),(7,.d (.i .i64 k))] none [.cells 31 [.d (.b false),.nil],.cells 171 ((dE M).map .d),.cells 169 [.d (.b (decide (o.num<0))),.d (aG (aM o.num.natAbs)),.d (.b false),.d (aG (aM o.den))]]
def aPc(M:List (List Rat))(o:Rat)(k a:Nat):St:=StL [(2,.ptr 1 0),(4,.own 2 0 M.length 1),(5,.ptr 3 0),(7,.d (.i .i64 k)),(8,.d (.i .i64 a))] none [.cells 31 [.d (.b false),.nil],.cells 171 ((dE M).map .d),.cells 169 [.d (.b (decide (o.num<0))),.d (aG (aM o.num.natAbs)),.d (.b false),.d (aG (aM o.den))]]
def aPb(M:List (List Rat))(o:Rat)(k i:Nat):St:=StL [(2,.ptr 1 0),(4,.own 2 0 M.length 1),(5,.ptr 3 0),(7,.d (.i .i64 k)),(9,.d (.i .i64 i))] none [.cells 31 [.d (.b false),.nil],.cells 171 ((dE M).map .d),.cells 169 [.d (.b (decide (o.num<0))),.d (aG (aM o.num.natAbs)),.d (.b false),.d (aG (aM o.den))]]
def dtI(n:Nat)(D:Rat)(k:Nat)(M:List (List Rat))(o:Rat):Prop:=k≤n∧Rw n M∧Sg n k D M o∧Lo n k M∧QB (Ok k) o∧∀ r,k≤r→r<n→aCg (Bkk k) (M.getD r [])
def dtE(n:Nat)(D:Rat)(k:Nat)(x:List Rat)(o:Rat)(i:Nat)(E:List (List Rat)):Prop:=k+1≤i∧i≤n∧Rw n E∧Sg n (k+1) D E o∧Lo n k E∧(∀ r,k<r→r<i→en E r k=0)∧E.getD k []=x∧(∀ r,k<r→r<i→aCg (Bkk (k+1)) (E.getD r []))∧(∀ r,i≤r→r<n→aCg (Bkk k) (E.getD r []))
def kW(n:Nat)(A:List (List Int)):D:=.ag [.i .i64 (n:Int),.i .i64 (n:Int),.sl (A.map fun v=>[fS v])]
def rC(A:List (List Int)):List (List Rat):=A.map pA
def aPd(n:Nat)(L:List (List D))(T:List (List Rat))(i:Nat):St:=StL [(1,.ptr 1 0),(2,.ptr 2 0),(4,.own 3 0 T.length 1),(5,.ptr 4 0),(6,.d (.i .i64 i))] none [.cells 61 [.d (.i .i64 n),.d (.i .i64 n),.d (.sl L)],.cells 31 [.d (.b false),.nil],.cells 171 ((dE T).map .d),.cells 169 [.d (.b (decide ((1:Rat).num<0))),.d (aG (aM (1:Rat).num.natAbs)),.d (.b false),.d (aG (aM (1:Rat).den))]]
set_option maxHeartbeats 8000000 in
set_option maxRecDepth 10000 in
theorem bSs[M:Mch Aa](n:Nat)(A:List (List Int))(d:Int)(hn:n≤4)(hA:A.length=n)(hAr:∀ v∈A,v.length=n)(hB:∀ v∈A,∀ z∈v,z.natAbs≤10)(hd:dN n (rC A)=(d:Rat)) :
  Spec Aa 77 [kW n A] (.tp [encZ d,.i .i64 0]):=by
 obtain⟨L,hL,hLl,hLg⟩:∃ L,(A.map fun v=>[fS v])=L∧L.length=A.length∧∀(i:Nat) (v:List Int),A[i]? = some v→L[i]? = some [fS v]:=⟨_,rfl,by simp,fun i v h=>by rw[Ai,h];rfl⟩
 have hOne:=bSv (M:=M)
 unfold kW
 rw[hL]
 refine bI (N:=127) Tryz.func77 ?_
 simp[-ζ,-ξ,↓KW]
 refine aH hOne ?_
 simp[-ζ,-ξ,↓KW,cN 1,aA,aD,aC,aE,aB]
 refine bL (τ:=Nat) (fun i=>i≤n) (fun i=>aPd n L (rC (A.take i)) i) (fun i=>n-i) 0 (A8 _) ?_ ?_
 ·rw[BG]
  show ∃ ρ,Wk _ (aPd _ _ [] _) ρ
  unfold aPd
  refine wkQ [1,2,3,4] ?_ ?_<;>simp[-ζ,upd,aT,Γ0,dE]
 ·intro i hi
  have hTl:(rC (A.take i)).length=i:=by simp[rC];omega
  by_cases hlt:i<n
  ·obtain⟨v,hge⟩:∃ x,A[i]? = some x:=⟨_,Ab (by omega)⟩
   have hLi:=hLg i _ hge
   have hLi':=cK hLi
   have hiL:i<L.length:=by omega
   have hvl:=hAr v (Ao hge)
   have hRt:=aFn v (by omega)
   have hT1:rC (A.take (i+1))=rC (A.take i)++[pA v]:=by rw[A7,hge];simp[rC]
   have hw0:Ag.wrap (i:Int)=i:=aV
   have hw1:Ag.wrap ((i:Int)+1)=((i+1:Nat):Int):=aV
   generalize pA v=q at *
   generalize rC (A.take i)=T at *
   have hbb:(i+1)*24≤140737488355328∧i+1≤1099511627776:=by omega
   simp[-ζ,-ξ,↓KW,aPd,hlt,hiL,hLi,hLi',hw0,aDd,uD,zS,aDs]
   refine aH hRt ?_
   simp[-ζ,-ξ,↓KW,cX,hTl,hbb,bU,hw1,vD,nS,rZ,vH,pI]
   refine aN (i+1) (by omega) (by show n-(i+1)<n-i;omega) ?_
   show ∃ ρ,Wk _ (aPd _ _ _ _) ρ
   rw[hT1]
   unfold aPd
   refine wkQ [1,2,6,4] ?_ ?_<;>simp[-ζ,upd,aT,Γ0,Bq,bQ,aUg,aUf,A9,hTl]
  ·have hin:n=i:=by omega
   subst hin
   rw[Ax (show A.length≤n by omega)]at hTl ⊢
   clear hlt hi
   have hI0:dtI n (d:Rat) 0 (rC A) 1:=by
    refine⟨A8 _,⟨hTl,fun i hi=>?_⟩,hd ▸ bAe n _,fun i j h=>by omega,?_,fun r _ hr=>?_⟩
    ·have hA':(rC A).getD i []=pA (A.getD i []):=by
      unfold rC;rw[Af,Ai,Af,Ab (by omega)];rfl
     rw[hA',Af,Ab (by omega)]
     simp only[pA,Bm,AU]
     exact hAr _ (BH _)
    ·exact⟨by decide,by decide⟩
    ·have hA':(rC A).getD r []=pA (A.getD r []):=by
      unfold rC;rw[Af,Ai,Af,Ab (by omega)];rfl
     rw[hA',Af,Ab (by omega)]
     intro q hq
     obtain⟨z,hz,rfl⟩:=AZ.1 hq
     exact QB.int (hB _ (BH _) z hz) (by decide)
   generalize rC A=M0 at *
   clear hd hB hAr hLg
   simp[-ζ,-ξ,↓KW,aPd]
   refine bE ?_
   simp[-ζ,-ξ,↓KW]
   refine bL (τ:=Nat×List (List Rat)×Rat) (fun t=>dtI n d t.1 t.2.1 t.2.2) (fun t=>dtS t.2.1 t.2.2 t.1) (fun t=>n-t.1) (0,M0,1) hI0 ?_ ?_
   ·show ∃ ρ,Wk _ (dtS _ _ _) ρ
    unfold dtS
    refine wkQ [2,3,4] ?_ ?_<;>simp[-ζ,upd,aT,Γ0]
   ·rintro⟨k,R,o⟩ hI
    simp only at hI
    obtain⟨hkn,hRw,hSg,hLo,hO,hQ⟩:=hI
    have hRl:=hRw.1
    by_cases hk:k<n
    ·simp[-ζ,-ξ,↓KW,dtS,hk,cX,hRl]
     refine bL (τ:=Nat) (fun a=>k≤a∧a≤n∧∀ r,k≤r→r<a→en R r k=0) (fun a=>aPc R o k a) (fun a=>n-a) k ⟨AE _,hkn,fun r h1 h2=>by omega⟩ ?_ ?_
     ·show ∃ ρ,Wk _ (aPc _ _ _ _) ρ
      unfold aPc
      refine wkQ [1,2,3] ?_ ?_<;>simp[-ζ,upd,aT,Γ0,hRl]
     ·rintro a ⟨hka,han,hz⟩
      by_cases ha:a<n
      ·obtain⟨x,hx⟩:∃ x,R.getD a []=x:=⟨_,rfl⟩
       obtain⟨Lx,hLx,hLxl,hLxg⟩:=tY x
       have hxl:x.length=n:=by rw[←hx];exact hRw.2 a ha
       obtain⟨q,hq⟩:∃ q,x[k]? = some q:=⟨_,Ab (by omega)⟩
       have hLk:=hLxg k q hq
       have hLk':=cK hLk
       have hra:(dE R)[a]? = some (.sl Lx):=by
        rw[←hLx,←hx];unfold dE;rw[Ai,Af,Ab (by omega)];rfl
       have hra':∀ h,(dE R)[a]'h=.sl Lx:=fun h=>by rw[Ab h]at hra;injection hra
       have hqe:en R a k=q:=by unfold en;rw[hx,Af,hq];rfl
       have hSn:=bLd q
       have hw0:Ag.wrap (a:Int)=a:=aV
       have hwk:Ag.wrap (k:Int)=k:=aV
       have hw1:Ag.wrap ((a:Int)+1)=((a+1:Nat):Int):=aV
       have hkL:k<Lx.length:=by omega
       simp[-ζ,-ξ,↓KW,aPc,ha,cX,hRl,hra,hra',hw0,hwk,hkL,hLk,hLk',aA,aD,aC,aE,aB]
       refine aH hSn ?_
       by_cases hq0:q=0
       ·subst hq0
        simp[-ζ,-ξ,↓KW,hw1]
        refine aN (a+1) ⟨by omega,by omega,fun r h1 h2=>?_⟩ (by show n-(a+1)<n-a;omega) ?_
        ·by_cases hr:r=a
         ·rw[hr];exact hqe
         ·exact hz r h1 (by omega)
        ·show ∃ ρ,Wk _ (aPc _ _ _ _) ρ
         unfold aPc
         refine wkQ [1,2,3] ?_ ?_<;>simp[-ζ,upd,aT,Γ0,hRl]
       ·have hs0:(q.num.sign==0)=false:=by
         have:=aNe (b:=q.num) (fun h=>hq0 (Rat.num_eq_zero.1 h))
         rw[bne,Bool.not_eq_true']at this;exact this
        generalize q.num.sign=sg at *
        have hna:((a:Int)==(n:Int))=false:=by simp;omega
        have hna':¬a=n:=by omega
        simp[-ζ,-ξ,↓KW,hs0]
        refine bE ?_
        by_cases hak:a=k
        case' pos =>
         have hak:=hak.symm
         subst hak
         have hRw2:=hRw
         have hSg2:=hSg
         have hLo2:=hLo
         have hO2:=hO
         have hQ2:=hQ
         have hxk:=hx
         have piv:=hqe
         generalize hR2:R=R2 at *
         generalize o=o2 at *
         simp[-ζ,-ξ,↓KW,cX,hRl,hna,hna']
        case' neg =>
         have hak':((a:Int) != (k:Int))=true:=by simp;omega
         have hrk:(dE R)[k]? = some (gP (R.getD k [])):=by
          unfold dE;rw[Ai,Af,Ab (by omega)];rfl
         have hrk':∀ h,(dE R)[k]'h=gP (R.getD k []):=fun h=>by rw[Ab h]at hrk;injection hrk
         have hl1:lay (CI AV.d (dE R)) k [AV.d (D.sl Lx)]=CI AV.d (dE (R.set k x)):=by
          rw[fR _ _ _ (by rw[cX];omega),←hLx,uY]
         have hl2:lay (CI AV.d (dE (R.set k x))) a [AV.d (gP (R.getD k []))]=CI AV.d (dE (oR R k a)):=by
          rw[fR _ _ _ (by rw[cX,Dh];omega),uY];unfold oR;rw[hx]
         have hk1:k+1≤n:=hk
         have ha1:a+1≤n:=ha
         have hRw2:=bKj hRw hk ha
         have hSg2:=bKf hn hRl (show k<a by omega) ha hSg
         have hLo2:=bMt hRl (show k<a by omega) ha hLo
         have hO2:=hO.neg
         have hsg:=fun r=>bSb (M:=R) (k:=k) (a:=a) (r:=r) (by omega) (by omega)
         have hQ2:∀ r,k≤r→r<n→aCg (Bkk k) ((oR R k a).getD r []):=fun r h1 h2=>by
          rw[hsg]
          split
          ·exact hQ k (AE _) hk
          ·split
           ·exact hQ a hka ha
           ·exact hQ r h1 h2
         have hxk:(oR R k a).getD k []=x:=by rw[hsg,Aj (by omega),Ar rfl];exact hx
         have piv:en (oR R k a) k k=q:=by
          rw[bFc (by omega) (by omega) (by omega)];unfold swp;rw[Ar rfl];exact hqe
         have hNg:=bBl o (hO.mono (bQh (by omega)))
         clear hsg
         generalize R.getD k []=y at *
         generalize oR R k a=R2 at *
         generalize -o=o2 at *
         simp[-ζ,-ξ,↓KW,cX,hRl,hk1,ha1,hl1,hl2,Dh,hna,hna',hak,hak',ha,hk,hra,hra',hrk,hrk',vD,nS,rZ,vH,pI,aA,aD,aC,aE,aB]
         refine aH hNg ?_
         simp[-ζ,-ξ,↓KW,cN o2,aA,aD,aC,aE,aB]
        all_goals
         have hrk2:(dE R2)[k]? = some (.sl Lx):=by
          rw[←hLx,←hxk];unfold dE;rw[Ai,Af,Ab (by have:=hRw2.1;omega)];rfl
         have hrk2':∀ h,(dE R2)[k]'h=.sl Lx:=fun h=>by rw[Ab h]at hrk2;injection hrk2
         have hqB:QB (Bkk k) q:=by
          have:=hQ2 k (AE _) hk
          rw[hxk]at this
          exact this q (Ao hq)
         have hMl:=bBm o2 q (hO2.mono (bQh (by omega))) (hqB.mono (aLl (by omega)))
         have hR2l:=hRw2.1
         simp[-ζ,-ξ,↓KW,hk,cX,hR2l,hrk2,hrk2',hwk,hkL,hLk,hLk',aA,aD,aC,aE,aB]
         refine aH hMl ?_
         have hO3:QB (Ok (k+1)) (o2*q):=hO2.mul hqB
         have hSg3:Sg n (k+1) d R2 (o2*q):=by
          have:=bSj hSg2
          rwa [piv]at this
         generalize o2*q=o3 at *
         have hwk1:Ag.wrap ((k:Int)+1)=((k+1:Nat):Int):=aV
         simp[-ζ,-ξ,↓KW,cN o3,hwk1,aA,aD,aC,aE,aB]
         refine bL (τ:=Nat×List (List Rat)) (fun t=>dtE n d k x o3 t.1 t.2) (fun t=>aPb t.2 o3 k t.1) (fun t=>n-t.1) (k+1,R2) ⟨AE _,hk,hRw2,hSg3,hLo2,fun r h1 h2=>by omega,hxk,fun r h1 h2=>by omega,fun r h1 h2=>hQ2 r (by omega) h2⟩ ?_ ?_
         ·show ∃ ρ,Wk _ (aPb _ _ _ _) ρ
          unfold aPb
          refine wkQ [1,2,3] ?_ ?_<;>simp[-ζ,upd,aT,Γ0,hR2l]
         ·rintro⟨i,E⟩ hE
          simp only at hE
          obtain⟨hki,hin,hRwE,hSgE,hLoE,hzE,hxE,hQ1,hQE⟩:=hE
          have hEl:=hRwE.1
          by_cases hi:i<n
          ·obtain⟨y,hy⟩:∃ y,E.getD i []=y:=⟨_,rfl⟩
           obtain⟨Ly,hLy,hLyl,hLyg⟩:=tY y
           have hyl:y.length=n:=by rw[←hy];exact hRwE.2 i hi
           obtain⟨u,hu⟩:∃ u,y[k]? = some u:=⟨_,Ab (by omega)⟩
           have hLu:=hLyg k u hu
           have hLu':=cK hLu
           have hre:(dE E)[i]? = some (.sl Ly):=by
            rw[←hLy,←hy];unfold dE;rw[Ai,Af,Ab (by omega)];rfl
           have hre':∀ h,(dE E)[i]'h=.sl Ly:=fun h=>by rw[Ab h]at hre;injection hre
           have hrx:(dE E)[k]? = some (.sl Lx):=by
            rw[←hLx,←hxE];unfold dE;rw[Ai,Af,Ab (by omega)];rfl
           have hrx':∀ h,(dE E)[k]'h=.sl Lx:=fun h=>by rw[Ab h]at hrx;injection hrx
           have hxl:x.length=n:=by rw[←hxE];exact hRwE.2 k hk
           have hyB:aCg (Bkk k) y:=hy ▸ hQE i (AE _) hi
           have hxB:aCg (Bkk k) x:=by
            have:=hQ2 k (AE _) hk
            rwa [hxk]at this
           have huB:QB (Bkk k) u:=hyB u (Ao hu)
           have hk2:k≤2:=by omega
           have hOv:=bLe u q hq0 (huB.mono (aLl (by omega))) (hqB.mono (aLl (by omega)))
           have hcB:QB (Bkk k*Bkk k) (u/q):=huB.div hqB hq0
           have hLs:=bLc y x (u/q) (by omega) (by omega) (hcB.mono (bGn hk2).1) (fun t ht=>(hyB t ht).mono (aLl (by omega))) (fun t ht=>(hxB t ht).mono (aLl (by omega))) (fun t ht=>(hcB.mul (hxB t ht)).mono (bGn hk2).2)
           rw[hLy,hLx]at hLs
           have hnB:aCg (Bkk (k+1)) (iU y x (u/q)):=aUs hyB hxB (by omega) hcB
           have huE:en E i k=u:=by unfold en;rw[hy,Af,hu];rfl
           have hqE:en E k k=q:=by unfold en;rw[hxE,Af,hq];rfl
           have hnew:dtE n d k x o3 (i+1) (elR E k i (u/q)):=by
            have hgt:=fun r=>bUz (M:=E) (k:=k) (i:=i) (r:=r) (c:=u/q) (by omega)
            refine⟨by omega,hi,bQb _ hRwE hi,bWg _ hn hRwE (by omega) hi (by omega) (by omega) hSgE,bXb _ hRwE (by omega) hi hLoE,fun r h1 h2=>?_,?_,fun r h1 h2=>?_,fun r h1 h2=>?_⟩
            ·rw[bFd _ hRwE hi r k hk]
             by_cases hr:r=i
             ·rw[Ar hr,huE,hqE];grind
             ·rw[Aj hr];exact hzE r h1 (by omega)
            ·rw[hgt,Aj (by omega)];exact hxE
            ·rw[hgt]
             by_cases hr:r=i
             ·rw[Ar hr,hy,hxE];exact hnB
             ·rw[Aj hr];exact hQ1 r h1 (by omega)
            ·rw[hgt,Aj (by omega)];exact hQE r (by omega) h2
           have hlE:lay (CI AV.d (dE E)) i [AV.d (gP (iU y x (u/q)))]=CI AV.d (dE (elR E k i (u/q))):=by
            rw[fR _ _ _ (by rw[cX];omega),uY];unfold elR;rw[hy,hxE]
           have hE1:(elR E k i (u/q)).length=n:=(bQb (k:=k) (u/q) hRwE hi).1
           generalize elR E k i (u/q)=E1 at *
           generalize iU y x (u/q)=w at *
           generalize u/q=c at *
           have hwi:Ag.wrap (i:Int)=i:=aV
           have hwi1:Ag.wrap ((i:Int)+1)=((i+1:Nat):Int):=aV
           have hkLy:k<Ly.length:=by omega
           have hi1:i+1≤n:=hi
           simp[-ζ,-ξ,↓KW,aPb,hi,hi1,hk,cX,hEl,hre,hre',hrx,hrx',hwi,hwk,hkL,hkLy,hLu,hLu',hLk,hLk',aA,aD,aC,aE,aB]
           refine aH hOv ?_
           simp[-ζ,-ξ,↓KW,cN c,hi,hi1,hk,cX,hEl,hre,hre',hrx,hrx',hwi,hwk,aA,aD,aC,aE,aB]
           refine aH hLs ?_
           simp[-ζ,-ξ,↓KW,hlE,hi,hi1,cX,hEl,hwi,hwi1,vD,nS,rZ,vH,pI]
           refine aN (i+1,E1) hnew (by show n-(i+1)<n-i;omega) ?_
           show ∃ ρ,Wk _ (aPb _ _ _ _) ρ
           unfold aPb
           refine wkQ [1,2,3] ?_ ?_<;>simp[-ζ,upd,aT,Γ0,hE1,hEl]
          ·have hie:i=n:=by omega
           have hi':¬(i:Int)<(n:Int):=by omega
           have hdI:dtI n d (k+1) E o3:=⟨hk,hRwE,hSgE,bMu hLoE fun r h1 h2=>hzE r h1 (by omega),hO3,fun r h1 h2=>hQ1 r (by omega) (by omega)⟩
           simp[-ζ,-ξ,↓KW,aPb,hi,hi',cX,hEl]
           refine bE ?_
           simp[-ζ,-ξ,↓KW,hwk1]
           refine aN (k+1,E,o3) hdI (by show n-(k+1)<n-k;omega) ?_
           show ∃ ρ,Wk _ (dtS _ _ _) ρ
           unfold dtS
           refine wkQ [1,2,3] ?_ ?_<;>simp[-ζ,upd,aT,Γ0,hEl]
      ·have hae:a=n:=by omega
       have ha':¬(a:Int)<(n:Int):=by omega
       have hd0:d=0:=by
        have:=bKe hn hk hSg hLo fun r h1 h2=>hz r h1 (by omega)
        exact Rat.intCast_eq_zero_iff.1 this
       have hna:((a:Int)==(n:Int))=true:=by simp;omega
       subst hd0
       simp[-ζ,-ξ,↓KW,aPc,ha,ha',cX,hRl]
       refine bE ?_
       simp[-ζ,-ξ,↓KW,cX,hRl,hna,hae]
       exact bE (by simp[-ζ,-ξ,↓KW,eQ,bF 0,cA,aG])
    ·have hke:k=n:=by omega
     have hk':¬(k:Int)<(n:Int):=by omega
     subst hke
     have hod:=bSk hn hSg hLo
     subst hod
     simp[-ζ,-ξ,↓KW,dtS,hk',cX,hRl]
     refine bE ?_
     simp[-ζ,-ξ,↓KW,bF d,Rat.num_intCast,aA,aD,aC,aE,aB,eQ]
     exact decide_eq_decide.2 Iff.rfl
/-! Matrices by their entries -/
structure Sh(R c:Nat)(M:List (List Int)):Prop where
 len:M.length=R
 row:∀ v∈M,v.length=c
def ent(M:List (List Int))(r s:Nat):Int:=(M.getD r []).getD s 0
def mkM(R c:Nat)(f:Nat→Nat→Int):List (List Int):=(AK R).map fun r=>(AK c).map fun s=>f r s
theorem Sh.get{R c r:Nat}{M:List (List Int)}(h:Sh R c M)(hr:r<R):∃ v,M[r]? = some v∧v.length=c∧∀ s,v.getD s 0=ent M r s:=by
 have hl:r<M.length:=by rw[h.len];exact hr
 refine⟨M[r],Ab hl,h.row _ (BH hl),fun s=>?_⟩
 unfold ent
 rw[Af (l:=M),Ab hl];rfl
theorem bQi(R c:Nat)(f:Nat→Nat→Int):Sh R c (mkM R c f):=⟨by simp[mkM],fun v hv=>by obtain⟨r,_,rfl⟩:=AZ.1 hv;simp⟩
theorem bTs{R c r s:Nat}(f:Nat→Nat→Int)(hr:r<R)(hs:s<c):ent (mkM R c f) r s=f r s:=by
 unfold ent mkM
 rw[Af (l:=CI _ _),Ai,BF hr]
 simp only[AW,AU]
 rw[Af,Ai,BF hs];rfl
theorem bMo{R c:Nat}{M M':List (List Int)}(h:Sh R c M)(h':Sh R c M')(he:∀ r s,r<R→s<c→ent M r s=ent M' r s):M=M':=by
 refine Fq (by rw[h.len,h'.len]) fun r h1 h2=>?_
 have hr:r<R:=by rw[←h.len];exact h1
 refine Fq (by rw[h.row _ (BH h1),h'.row _ (BH h2)]) fun s g1 g2=>?_
 have hs:s<c:=by rw[←h.row _ (BH h1)];exact g1
 have:=he r s hr hs
 unfold ent at this
 rw[Af (l:=M),Ab h1,Af (l:=M'),Ab h2]at this
 simp only[AU]at this
 rw[Af,Ab g1,Af,Ab g2]at this
 exact this
theorem bSi{R c i:Nat}{M:List (List Int)}(h:Sh R c M){v:List Int}(hv:v.length=c):Sh R c (M.set i v) :=
 ⟨by rw[Dh,h.len],fun w hw=>(ET hw).elim (h.row w) fun e=>e ▸ hv⟩
theorem bOe{R c i j:Nat}{M:List (List Int)}(h:Sh R c M){v:List Int}{z:Int}(hi:i<R)(hj:j<c)(hv:M[i]? = some v)(r s:Nat):ent (M.set i (v.set j z)) r s=if r=i∧s=j then z else ent M r s:=by
 have hl:i<M.length:=by rw[h.len];exact hi
 have hvl:v.length=c:=h.row v (Ao hv)
 unfold ent
 rw[Af (l:=M.set i _),DZ]
 by_cases e:r=i
 ·subst e
  rw[Ar rfl,Ar hl,Af (l:=M),hv]
  simp only[AU,true_and]
  rw[Af,DZ]
  by_cases e2:s=j
  ·subst e2;rw[Ar rfl,Ar (by omega),Ar rfl];rfl
  ·rw[Aj (fun h=>e2 h.symm),Aj e2,Af]
 ·rw[Aj (fun h=>e h.symm),Aj (fun h=>e h.1),Af (l:=M)]
theorem aOy{R c i j:Nat}{M:List (List Int)}(h:Sh R c M){v:List Int}{z:Int}(hv:M[i]? = some v):Sh R c (M.set i (v.set j z)) :=
 bSi h (by rw[Dh];exact h.row v (Ao hv))
theorem bWy{R c:Nat}{M:List (List Int)}(h:Sh R c M){f:Nat→Nat→Int}(he:∀ r s,r<R→s<c→ent M r s=f r s):M=mkM R c f :=
 bMo h (bQi R c f) fun r s hr hs=>by rw[he r s hr hs,bTs f hr hs]
/-! Heaps -/
def jF(b:Nat)(l:List HO):Hp:=fun id=>if id<b then none else l[id-b]?
theorem aAe{b i:Nat}{l:List HO}:jF b l (i+b)=l[i]? := by unfold jF;rw[Aj (by omega),FQ]
theorem bEv{b:Nat}{l:List HO}{id:Nat}(h:l.length+b≤id):jF b l id=none:=by
 unfold jF;rw[Aj (by omega),A6 (by omega)]
theorem aDy{b:Nat}{l:List HO}{id:Nat}(h1:b≤id)(h2:id<l.length+b):(jF b l id).isSome=true:=by
 unfold jF;rw[Aj (by omega),Ab (by omega)];rfl
def rfC(a n:Nat):AV→Bool
 |.d _|.nil=>true
 |.own id _ _ _=>decide (a≤id∧id<n)
 |.ptr id _=>decide (a≤id∧id<n)
 |_=>false
def rfO(a n:Nat):HO→Bool
 |.cells _ cs=>cs.all (rfC a n)
 |_=>false
theorem bKx{H H':Hp}{ρ:Nat→Nat}{a n:Nat}{c:AV}(hc:rfC a n c=true)(h:∀ id,a≤id→id<n→id=ρ id∧(H' id).isSome=true):mE H H' ρ c c:=by
 unfold rfC at hc
 split at hc
 ·exact(oS _ _).2 rfl
 ·trivial
 ·simp only[BO]at hc
  obtain⟨h1,h2⟩:=h _ hc.1 hc.2
  exact⟨h1,rfl,rfl,rfl,h2⟩
 ·simp only[BO]at hc
  obtain⟨h1,h2⟩:=h _ hc.1 hc.2
  exact⟨h1,rfl,h2⟩
 ·cases hc
theorem bKv{H H':Hp}{ρ:Nat→Nat}{a n:Nat}{o:HO}(ho:rfO a n o=true)(h:∀ id,a≤id→id<n→id=ρ id∧(H' id).isSome=true):pV H H' ρ o o:=by
 cases o with
 | cells e cs =>
  refine fW.2 ⟨rfl,gE.2 ⟨rfl,fun k c d h1 h2=>?_⟩⟩
  rw[h1]at h2;injection h2 with h2;subst h2
  exact bKx (A4.1 ho c (Ao h1)) h
 |map k es=>cases ho
 |iter _ _ _=>cases ho
theorem bKw(a n:Nat)(v:List Int):rfO a n (aIp v)=true:=by
 unfold rfO aIp
 refine A4.2 fun c hc=>?_
 obtain⟨x,_,rfl⟩:=AZ.1 hc;rfl
theorem bSr{a n c m:Nat}{M:List (List Int)}(h1:a≤m+1)(h2:m+1+M.length≤n):∀ o∈mB c M m,rfO a n o=true:=by
 intro o ho
 rcases BB.1 ho with rfl|ho
 ·refine A4.2 fun x hx=>?_
  obtain⟨j,hj,rfl⟩:=AZ.1 hx
  have:=CK.1 hj
  simp only[rfC,BO];omega
 ·obtain⟨v,_,rfl⟩:=AZ.1 ho
  exact bKw _ _ _
theorem bEu{H:Hp}{b:Nat}{l:List HO}(h:∀ o∈l,rfO b (l.length+b) o=true){id:Nat}{o:HO}(ho:jF b l id=some o):pV H (jF b l) (fun i=>i) o o:=by
 refine bKv (h o ?_) fun id h1 h2=>⟨rfl,aDy h1 h2⟩
 unfold jF at ho
 split at ho
 ·cases ho
 ·exact Ao ho
theorem aSb{b c m:Nat}{pre post:List HO}{M:List (List Int)}(hm:m=pre.length+b):jF b (pre++mB c M m++post) m=some (.cells 110 (hdr c M.length (m+1))):=by
 subst hm
 rw[aAe,CH,AM (AE _),Eo];rfl
theorem aGq{b c m j:Nat}{pre post:List HO}{M:List (List Int)}{v:List Int}(hm:m=pre.length+b)(hv:M[j]? = some v):jF b (pre++mB c M m++post) (j+(m+1))=some (aIp v):=by
 have hj:=(Aq.1 hv).1
 rw[show j+(m+1)=(j+1+pre.length)+b by omega,aAe,CH,AM (by omega),FQ,AR (by rw[nH];omega)]
 simp only[mB,B7,Ai,hv,AW]
theorem bNz{b c m i:Nat}{pre post:List HO}{M:List (List Int)}{v:List Int}(hm:m=pre.length+b)(hi:i<M.length)(id:Nat) :
  jF b (pre++mB c (M.set i v) m++post) id=if id=i+(m+1)then some (aIp v)else jF b (pre++mB c M m++post) id:=by
 by_cases e:id=i+(m+1)
 ·rw[Ar e,e]
  exact aGq hm (List.getElem?_set_self hi)
 ·rw[Aj e]
  unfold jF
  by_cases h0:id<b
  ·rw[Ar h0,Ar h0]
  ·rw[Aj h0,Aj h0]
   have hl:(mB c (M.set i v) m).length=(mB c M m).length:=by rw[nH,nH,Dh]
   rw[CH,CH]
   rcases AY (id-b) pre.length with h1|h1
   ·rw[AR h1,AR h1]
   ·rw[AM h1,AM h1]
    rcases AY (id-b-pre.length) (mB c M m).length with h2|h2
    ·rw[AR (by omega),AR h2]
     generalize hk:id-b-pre.length=k at *
     rcases k with _|k
     ·simp[mB]
     ·simp only[mB,B7,Ai]
      rw[List.getElem?_set_ne (by omega)]
    ·rw[AM (by omega),AM h2,hl]
theorem aGr{c m:Nat}{pre post:List HO}{M:List (List Int)}:(pre++mB c M m++post).length=pre.length+M.length+1+post.length:=by
 rw[A9,A9,nH];omega
theorem bMy{v:List Int}{j:Nat}(z:Int)(hj:j<v.length):lay ((vcs v).map AV.d) (j*2) [.d (.b (decide (z<0))),.d (aG (aM z.natAbs))]=(vcs (v.set j z)).map .d:=by
 rw[←aQm _ hj]
 simp[lay,xB]
theorem bJh{b c m i:Nat}{pre post:List HO}{M:List (List Int)}{v:List Int}(hm:m=pre.length+b)(hi:i<M.length) :
  upd (jF b (pre++mB c M m++post)) (i+(m+1)) (some (aIp v))=jF b (pre++mB c (M.set i v) m++post):=by
 funext id
 rw[bNz hm hi]
 rfl
theorem aSc{b n:Nat}{pre l:List HO}(h:n=pre.length+b):iZ (jF b pre) n l=jF b (pre++l):=by
 funext id
 subst h
 unfold iZ jF
 by_cases h0:id<b
 ·rw[Aj (by omega),Ar h0,Ar h0]
 ·rw[Aj h0]
  by_cases h1:pre.length+b≤id∧id<pre.length+b+l.length
  ·rw[Ar h1,Aj h0,AM (by omega),show id-b-pre.length=id-(pre.length+b)by omega]
  ·rw[Aj h1,Aj h0]
   rcases AY (id-b) pre.length with h2|h2
   ·rw[AR h2]
   ·rw[A6 h2,AM h2,A6 (by omega)]
theorem aKv{b n:Nat}{l:List HO}{p:HO}(h:n=l.length+b):upd (jF b l) n (some p)=jF b (l++[p]):=by
 rw[←aSc h]
 funext id
 unfold upd iZ
 simp only[BX]
 by_cases e:id=n
 ·subst e;rw[Ar rfl,Ar (by omega),Eo];rfl
 ·rw[Aj e,Aj (by omega)]
theorem bOb(b:Nat):(fun _=>none:Hp)=jF b []:=by
 funext id;unfold jF;split<;>rfl
theorem aTi{H:Hp}{n:Nat}{a a':Option HO}:upd (upd H n a) n a'=upd H n a':=by
 funext id;unfold upd;split<;>rfl
theorem bOa(a:HO):upd (fun _=>none) 1 (some a)=jF 1 [a]:=by rw[bOb 1];exact aKv rfl
theorem aKw{b c m n:Nat}{pre:List HO}{M:List (List Int)}{p:HO}(hn:n=pre.length+b+(M.length+1)):jF b (pre++mB c M m++[p]) n=some p:=by
 subst hn
 rw[show pre.length+b+(M.length+1)=(pre.length+M.length+1)+b by omega,aAe,AM (by rw[A9,nH];omega),A9,nH,
  show pre.length+M.length+1-(pre.length+(M.length+1))=0 by omega];rfl
def aSf(l:List Int):D:=.sl (l.map fun n=>[D.i .i8 n])
def vf(l:List Int)(t:Nat):Int:=(l.getD t 0).tmod 10
theorem bPy(l:List Int)(t:Nat):(vf l t).natAbs≤10:=by
 have h1:=Int.tmod_lt_of_pos (l.getD t 0) (b:=10) (by decide)
 have h2:=Int.tmod_lt_of_pos (-(l.getD t 0)) (b:=10) (by decide)
 rw[Int.neg_tmod]at h2
 show((l.getD t 0).tmod 10).natAbs≤10
 omega
def sqM(l:List Int)(n:Nat):List (List Int):=mkM n n fun r s=>vf l (r*n+s)
def sqF(l:List Int)(n i j r s:Nat):Int:=if r<i∨(r=i∧s<j)then vf l (r*n+s)else 0
theorem aYd{n:Int}(h1:-128≤n)(h2:n≤127):IntKind.i8.wrap n=n:=by
 unfold EL
 simp[Cz,Ee]
 omega
theorem aKz(l:List Int):∃ L,aSf l=.sl L∧L.length=l.length∧∀(i:Nat) (z:Int),l[i]? = some z→L[i]? = some [D.i .i8 z]:=⟨_,rfl,by simp,fun i x hx=>by rw[Ai,hx];rfl⟩
def fqH(n:Nat)(M:List (List Int)):Hp:=jF 1 ([.cells 61 [.d (.i .i64 0),.d (.i .i64 0),.nil]]++mB n M 2++[.cells 61 [.d (.i .i64 (n:Int)),.d (.i .i64 (n:Int)),.own 2 0 n 1]])
theorem pM{n:Nat}{M:List (List Int)}(hM:Sh n n M){H:Hp}{id:Nat}{o:HO}(ho:fqH n M id=some o):pV H (fqH n M) (fun i=>i) o o:=by
 refine bEu (fun o ho=>?_) ho
 rw[aGr,hM.len,BX,BX]
 rcases BZ.1 ho with ho|ho
 ·rcases BZ.1 ho with ho|ho
  ·rw[Cb.1 ho];rfl
  ·exact bSr (by omega) (by rw[hM.len];omega) o ho
 ·rw[Cb.1 ho]
  simp only[rfO,rfC,List.all_cons,List.all_nil,Bool.and_true,Bool.true_and,BO];omega
theorem tV{n:Nat}{M:List (List Int)}(hM:Sh n n M){id:Nat}(h:n+4≤id):fqH n M id=none :=
 bEv (by rw[aGr,hM.len,BX,BX];omega)
theorem kT{n:Nat}{M:List (List Int)}(hM:Sh n n M){id:Nat}(h1:1≤id)(h2:id<n+4):(fqH n M id).isSome=true :=
 aDy h1 (by rw[aGr,hM.len,BX,BX];omega)
set_option maxHeartbeats 8000000 in
set_option maxRecDepth 10000 in
theorem aUm[M:Mch Aa](l:List Int)(n:Nat)(hn:n≤16)(hb:∀ x∈l,-128≤x∧x≤127)(hll:l.length≤9223372036854775807) :
  Spec Aa 66 [.i .i64 (n:Int),.i .i64 (n:Int),aSf l] (kW n (sqM l n)):=by
 obtain⟨L,hL,hLl,hLg⟩:=aKz l
 rw[hL]
 refine bI (N:=60) Tryz.func66 ?_
 have hN:=aFo (M:=M) n n (by omega) (by omega)
 have m1:¬(n:Int)<0:=by omega
 have m2:¬(16:Int)<n:=by omega
 have m3:¬16<n:=by omega
 simp[-ζ,-ξ,↓KW,m1,m2,m3]
 refine tE [.i .i64 (n:Int),.i .i64 (n:Int)] (nwV n n) (mB n (Aw n (Aw n 0))) (by simp) (by simp) (by simp) (by rfl) (by rfl) hN ?_
 have hne1:¬1=2+(n+1):=by omega
 have hz0:Sh n n (Aw n (Aw n (0:Int))):=⟨by simp,fun v hv=>by rw[List.eq_of_mem_replicate hv];simp⟩
 have hH0:∀ p q:HO,upd (iZ (upd (fun _=>none) 1 (some q)) 2 (mB n (Aw n (Aw n 0)) 2)) (2+(n+1)) (some p)=jF 1 ([q]++mB n (Aw n (Aw n 0)) 2++[p]):=fun p q=>by
  rw[bOa,aSc (n:=2) (pre:=[_]) rfl,aKv (by rw[A9,nH,List.length_replicate,BX];omega)]
 simp[-ζ,-ξ,↓KW,nwV,nH,iZ,hne1]
 refine cL (fun x:Nat×List (List Int)=>x.1≤n∧Sh n n x.2∧∀ r s,r<n→s<n→ent x.2 r s=sqF l n x.1 0 r s) (fun x=>⟨kB [(2,.d (.sl L)),(6,.ptr 1 0),(7,.ptr (n+3) 0),(8,.d (.i .i64 (x.1:Int)))],fqH n x.2,n+4⟩) (fun x=>n-x.1)
  (0,Aw n (Aw n 0)) ⟨A8 _,hz0,fun r s hr hs=>?_⟩ ?_ ?_
 ·unfold ent sqF
  rw[Aj (by omega),Af (l:=Aw n _),Dr,Ar hr]
  simp only[AU]
  rw[Af,Dr,Ar hs];rfl
 ·rw[aTi,hH0]
  refine⟨_,aCk ?_ (fun id o' ho=>⟨o',ho,pM hz0 ho⟩) (fun id hid=>tV hz0 hid) (by simp)⟩
  have g1:=kT hz0 (id:=1) (by omega) (by omega)
  have g4:=kT hz0 (id:=n+3) (by omega) (by omega)
  have g5:2+(n+1)=n+3:=by omega
  simp[-ζ,upd,aT,Γ0,g1,g4,g5]
 ·rintro⟨i,M⟩ ⟨hi,hM,hME⟩
  simp only at hi hM hME
  have hH1:fqH n M 1=some (.cells 61 [.d (.i .i64 0),.d (.i .i64 0),.nil]):=rfl
  have hHo:fqH n M (n+3)=some (.cells 61 [.d (.i .i64 (n:Int)),.d (.i .i64 (n:Int)),.own 2 0 n 1]):=aKw (by rw[hM.len,BX];omega)
  by_cases hgi:i<n
  ·have q1:(i:Int)<n:=by omega
   have hw:Ag.wrap ((i:Int)+1)=(i:Int)+1:=aV
   have hsome:=fun id=>kT hM (id:=id)
   have htop:=fun id=>tV hM (id:=id)
   have hself:=fun(H:Hp) id o=>pM hM (H:=H) (id:=id) (o:=o)
   generalize hHg:fqH n M=H at *
   simp[-ζ,-ξ,↓KW,q1,hH1,hHo]
   refine cL (fun x:Nat×List (List Int)=>x.1≤n∧Sh n n x.2∧∀ r s,r<n→s<n→ent x.2 r s=sqF l n i x.1 r s) (fun x=>⟨kB [(2,.d (.sl L)),(6,.ptr 1 0),(7,.ptr (n+3) 0),(8,.d (.i .i64 (i:Int))),(9,.d (.i .i64 (x.1:Int)))],fqH n x.2,n+4⟩) (fun x=>n-x.1)
    (0,M) ⟨A8 _,hM,hME⟩ ?_ ?_
   ·rw[hHg]
    refine⟨_,aCk ?_ (fun id o' ho=>⟨o',ho,hself _ _ _ ho⟩) (fun id hid=>htop id hid) (by simp)⟩
    have g1:=hsome 1 (by omega) (by omega)
    have g4:=hsome (n+3) (by omega) (by omega)
    simp[-ζ,upd,aT,Γ0,g1,g4]
   ·clear hHg hH1 hHo hsome htop hself hM hME
    rintro⟨j,M⟩ ⟨hj,hM,hME⟩
    simp only at hj hM hME
    have hH1:fqH n M 1=some (.cells 61 [.d (.i .i64 0),.d (.i .i64 0),.nil]):=rfl
    have hHo:fqH n M (n+3)=some (.cells 61 [.d (.i .i64 (n:Int)),.d (.i .i64 (n:Int)),.own 2 0 n 1]):=aKw (by rw[hM.len,BX];omega)
    have hHh:fqH n M 2=some (.cells 110 (hdr n n 3)):=by
     have:=aSb (b:=1) (c:=n) (m:=2) (pre:=[.cells 61 [.d (.i .i64 0),.d (.i .i64 0),.nil]]) (M:=M) (post:=[.cells 61 [.d (.i .i64 (n:Int)),.d (.i .i64 (n:Int)),.own 2 0 n 1]]) rfl
     rwa [hM.len]at this
    obtain⟨v,hv,hvl,hve⟩:=hM.get hgi
    have hHi:fqH n M (i+3)=some (.cells 31 ((vcs v).map .d)):=aGq (m:=2) rfl hv
    have hin:i*n≤16*16:=Bg (by omega) hn
    have hmm:((i:Int)*(n:Int))=((i*n:Nat):Int):=by rw[Int.natCast_mul]
    obtain⟨q,hq⟩:∃ q,q=i*n+j:=⟨_,rfl⟩
    obtain⟨t,ht⟩:∃ t,t=i*n:=⟨_,rfl⟩
    rw[←ht]at hmm hin hq
    have hwm:Ag.wrap ((i:Int)*(n:Int))=(t:Int):=by rw[hmm];exact aV
    have hwq:Ag.wrap ((t:Int)+(j:Int))=(q:Int):=by rw[hq,Int.natCast_add];exact aV
    by_cases hgj:j<n
    ·have q2:(j:Int)<n:=by omega
     have hw2:Ag.wrap ((j:Int)+1)=(j:Int)+1:=aV
     by_cases hql:q<l.length
     ·have q3:q<L.length:=by omega
      have q3':(q:Int)<L.length:=by omega
      have hwq0:Ag.wrap (q:Int)=q:=aV
      obtain⟨z,hz⟩:∃ z,l[q]? = some z:=⟨_,Ab hql⟩
      have hLi:=hLg q z hz
      have hLi':=cK hLi
      have hz8:=hb _ (Ao hz)
      have hvq:vf l (i*n+j)=z.tmod 10:=by
       unfold vf;rw[←ht,←hq,Af,hz];rfl
      obtain⟨u,hu⟩:∃ u,z.tmod 10=u:=⟨_,rfl⟩
      have hub:=bPy l (i*n+j)
      rw[hu]at hvq
      rw[hvq]at hub
      have hw8:IntKind.i8.wrap u=u:=aYd (by omega) (by omega)
      have hwu:Ag.wrap u=u:=aV
      have hof:=aIz u (by omega) (by omega)
      have hM':Sh n n (M.set i (v.set j u)):=aOy hM hv
      have hupd:upd (fqH n M) (i+3) (some (.cells 31 ((vcs (v.set j u)).map .d)))=fqH n (M.set i (v.set j u)):=bJh (m:=2) rfl (by rw[hM.len];exact hgi)
      have hlay:=bMy (v:=v) u (j:=j) (by rw[hvl];exact hgj)
      have hvcl:=aEx v
      rw[hvl]at hvcl
      have hj2:j*2+2≤n*2:=by omega
      have hg:=xZ (c:=n) (b:=3) hgi
      have hgl:=kG n n 3
      have hg2:∀ h:i<(hdr n n 3).length,(hdr n n 3)[i]'h=.own (i+3) 0 n 2:=fun h=>Bj ((Ab h).symm.trans hg)
      generalize hHg:fqH n M=H at *
      generalize hdr n n 3=cellsR at *
      simp[-ζ,-ξ,↓KW,q1,q2,q3,q3',hwm,hwq,hwq0,hLi,hLi',hu,hw8,hwu,hH1,hHo,hHh,hHi,hg,hg2,hgl,hgi,hgj]
      refine aH hof ?_
      rw[bF]
      simp[-ζ,-ξ,↓KW,hw2,hH1,hHo,hHh,hHi,hg,hg2,hgl,hgi,hgj,hj2,hvcl,hlay,aA,aD,aC,aE,aB]
      rw[hupd]
      refine aN (j+1,M.set i (v.set j u)) ⟨hgj,hM',fun r s hr hs=>?_⟩ (EV hgj (Cj _)) ?_
      ·rw[bOe hM hgi hgj hv,hME r s hr hs]
       simp only[sqF]
       split
       ·rename_i e;rw[Ar (by omega),e.1,e.2,hvq]
       ·split
        ·rw[Ar (by omega)]
        ·rw[Aj (by omega)]
      ·refine⟨_,aCk ?_ (fun id o' ho=>⟨o',ho,pM hM' ho⟩) (fun id hid=>tV hM' hid) (by simp)⟩
       have g1:=kT hM' (id:=1) (by omega) (by omega)
       have g4:=kT hM' (id:=n+3) (by omega) (by omega)
       simp[-ζ,upd,aT,Γ0,g1,g4]
     ·have q3:¬q<L.length:=by omega
      have q3':¬(q:Int)<L.length:=by omega
      have hsome:=fun id=>kT hM (id:=id)
      have htop:=fun id=>tV hM (id:=id)
      have hself:=fun(H:Hp) id o=>pM hM (H:=H) (id:=id) (o:=o)
      generalize hHg:fqH n M=H at *
      simp[-ζ,-ξ,↓KW,q1,q2,q3,q3',hwm,hwq,hH1,hHo,hw]
      refine aN (i+1,M) ⟨hgi,hM,fun r s hr hs=>?_⟩ (EV hgi (Cj _)) ?_
      ·rw[hME r s hr hs]
       simp only[sqF]
       by_cases e:r<i∨(r=i∧s<j)
       ·rw[Ar e,Ar (by omega)]
       ·rw[Aj e]
        by_cases e2:r<i+1∨(r=i+1∧s<0)
        ·have er:r=i:=by omega
         rw[Ar e2,er,←ht]
         unfold vf
         rw[Af,A6 (by omega)];rfl
        ·rw[Aj e2]
      ·rw[hHg]
       refine⟨_,aCk ?_ (fun id o' ho=>⟨o',ho,hself _ _ _ ho⟩) (fun id hid=>htop id hid) (by simp)⟩
       have g1:=hsome 1 (by omega) (by omega)
       have g4:=hsome (n+3) (by omega) (by omega)
       simp[-ζ,upd,aT,Γ0,g1,g4]
    ·have q2:¬(j:Int)<n:=by omega
     have ej:j=n:=by omega
     have hsome:=fun id=>kT hM (id:=id)
     have htop:=fun id=>tV hM (id:=id)
     have hself:=fun(H:Hp) id o=>pM hM (H:=H) (id:=id) (o:=o)
     generalize hHg:fqH n M=H at *
     simp[-ζ,-ξ,↓KW,q2,hH1,hHo,hw]
     refine aN (i+1,M) ⟨hgi,hM,fun r s hr hs=>?_⟩ (EV hgi (Cj _)) ?_
     ·rw[hME r s hr hs]
      simp only[sqF]
      by_cases e:r<i∨(r=i∧s<j)
      ·rw[Ar e,Ar (by omega)]
      ·rw[Aj e,Aj (by omega)]
     ·rw[hHg]
      refine⟨_,aCk ?_ (fun id o' ho=>⟨o',ho,hself _ _ _ ho⟩) (fun id hid=>htop id hid) (by simp)⟩
      have g1:=hsome 1 (by omega) (by omega)
      have g4:=hsome (n+3) (by omega) (by omega)
      simp[-ζ,upd,aT,Γ0,g1,g4]
  ·have q1:¬(i:Int)<n:=by omega
   have hMk:M=sqM l n:=bWy hM fun r s hr hs=>by
    rw[hME r s hr hs];simp only[sqF];rw[Ar (by omega)]
   have hMl:=hM.len
   have hHh:fqH n M 2=some (.cells 110 (hdr n n 3)):=by
    have:=aSb (b:=1) (c:=n) (m:=2) (pre:=[.cells 61 [.d (.i .i64 0),.d (.i .i64 0),.nil]]) (M:=M) (post:=[.cells 61 [.d (.i .i64 (n:Int)),.d (.i .i64 (n:Int)),.own 2 0 n 1]]) rfl
    rwa [hM.len]at this
   have hfr:∀(H:Hp),(∀ id,id<n→H (id+3)=fqH n M (id+3))→(hdr n n 3).mapM (frz H 6)=some (M.map fS):=fun H hH=>by
    rw[mapM_some (frz H 6) (fun k=>fS (M.getD k [])) _ fun k x hx=>by
     have hlt:k<n:=by have:=(Aq.1 hx).1;rwa [kG]at this
     rw[xZ hlt]at hx
     injection hx with hx;subst hx
     obtain⟨v,hv,hvl,hve⟩:=hM.get hlt
     have hHi:fqH n M (k+3)=some (.cells 31 ((vcs v).map .d)):=aGq (m:=2) rfl hv
     rw[Af,hv,AU]
     exact bEj 4 (by rw[hH k hlt,hHi]) hvl]
    congr 1
    apply Dp
    intro k
    rw[kG]
    by_cases hk:k<n
    ·rw[Ai,BF hk,Ai,AW,Af,Ab (by omega)];rfl
    ·rw[A6 (by simpa using hk),A6 (by simpa[hMl]using hk)]
   have hgl:=kG n n 3
   have htk:DM n (hdr n n 3)=hdr n n 3:=Ax (by rw[hgl];exact AE _)
   rw[←hMk]
   generalize fqH n M=H at *
   generalize hdr n n 3=cellsR at *
   have hml:(M.map fS).length=n:=by rw[Bm,hMl]
   simp[-ζ,-ξ,↓KW,q1,hH1,hHo,hHh,kW,hgl,htk]
   have hch:chunk 1 n (M.map fS)=M.map fun v=>[fS v]:=by rw[qX _ _ hml.symm,DD];rfl
   rw[hfr _ (fun id hid=>by simp[upd])]
   simp[-ζ,hch]
def blL(z:Int)(l:List (Nat×Nat×Nat)):List Int:=(l.filter fun x=>z%(x.2.1:Int) != (x.2.2:Int)).map fun x=>(x.1:Int)
theorem bGl(z:Int)(l:List (Nat×Nat×Nat))(w p v:Nat):blL z (l++[(w,p,v)])=blL z l++if z%(p:Int)=(v:Int)then[]else[(w:Int)]:=by
 unfold blL
 rw[List.filter_append,List.map_append]
 congr 1
 by_cases h:z%(p:Int)=(v:Int)<;>simp[h]
theorem bGm(z:Int)(l:List (Nat×Nat×Nat)):(blL z l).length≤l.length:=by
 unfold blL;rw[Bm];exact List.length_filter_le ..
theorem bFi(x:Int)(a b:List Int):dzI (x::(a++b))=dzI (x::a)++dzI b:=by simp[dzI]
theorem aSi(x:Int):dzI [x]=[.i .i64 x]:=rfl
theorem aGw{l:List Int}{n:Nat}(h:l.length=n):DM n ((dzI l).map AV.d)=(dzI l).map AV.d:=Ax (by simp[dzI,h])
theorem aWv{l:List Int}{n:Nat}(h:l.length=n):chunk 1 n (dzI l)=l.map fun x=>[D.i .i64 x]:=by
 rw[qX _ _ (by rw[jK];exact h.symm)];simp[dzI]
def bS(z:Int)(L:List (List D))(n i:Nat):List Int→St
 |[]=>StL [(2,.ptr 1 0),(5,.nil),(8,.d (.sl L)),(9,.d (.i .i64 n)),(10,.d (.i .i64 i))] none [.cells 31 [.d (.b (decide (z<0))),.d (aG (aM z.natAbs))]]
 |x::T=>StL [(2,.ptr 1 0),(5,.own 2 0 (T.length+1) 1),(8,.d (.sl L)),(9,.d (.i .i64 n)),(10,.d (.i .i64 i))] none [.cells 31 [.d (.b (decide (z<0))),.d (aG (aM z.natAbs))],.cells 3 ((dzI (x::T)).map .d)]
set_option maxHeartbeats 4000000 in
set_option maxRecDepth 10000 in
theorem aXi[M:Mch Aa](z:Int)(l:List (Nat×Nat×Nat))(hl:l.length≤12)(hz:Sz z)(hp:∀ x∈l,0<x.2.1∧x.2.1≤2147483648)(hP:∀ x∈l,Spec Aa 52 [.i .u64 (x.2.1:Nat)] (.b true)) :
  Spec Aa 16 [encZ z,dX l] (ezI (dV (blL z l))):=by
 obtain⟨L,hL,hLl,hLg⟩:=mR l
 rw[hL]
 refine bI (N:=39) Tryz.func16 ?_
 simp[-ζ,-ξ,↓KW,bF z,aA,aD,aC,aE,aB]
 refine bL (τ:=Nat) (fun i=>i≤l.length) (fun i=>bS z L L.length i (blL z (l.take i))) (fun i=>l.length-i) 0 (A8 _) ?_ ?_
 ·rw[BG]
  show ∃ ρ,Wk _ (bS _ _ _ _ []) ρ
  unfold bS
  refine wkQ [1] ?_ ?_<;>simp[-ζ,upd,aT,Γ0]
 ·intro i hi
  by_cases hlt:i<l.length
  ·obtain⟨⟨w,p,v⟩,hge⟩:∃ x,l[i]? = some x:=⟨_,Ab hlt⟩
   have hmem:=Ao hge
   have hLi:=hLg i _ hge
   simp only at hLi
   have hLi':=cK hLi
   have hiL:i<L.length:=by omega
   have hT1:blL z (l.take (i+1))=blL z (l.take i)++if z%(p:Int)=(v:Int)then[]else[(w:Int)]:=by
    rw[A7,hge,Option.toList_some,bGl]
   have hBl:(blL z (l.take i)).length≤i:=AO (bGm _ _) (by rw[AT];omega)
   have hw1:Ag.wrap ((i:Int)+1)=((i+1:Nat):Int):=aV
   have hPp:Spec Aa 52 [.i .u64 (p:Nat)] (.b true):=hP _ hmem
   have hRd:=aQw p z (hp _ hmem).1 (hp _ hmem).2 hz
   generalize blL z (l.take i)=T at *
   generalize z%(p:Int)=r at *
   by_cases hr:r=(v:Int)
   ·rw[Ar hr,List.append_nil]at hT1
    cases T with
    | nil =>
     simp[-ζ,-ξ,↓KW,bS,hiL,hLi,hLi',hw1,aA,aD,aC,aE,aB]
     refine aH hPp ?_
     simp[-ζ,-ξ,↓KW,aA,aD,aC,aE,aB]
     refine aH hRd ?_
     simp[-ζ,-ξ,↓KW,hr,hw1]
     refine aN (i+1) (by omega) (by show l.length-(i+1)<l.length-i;omega) ?_
     show ∃ ρ,Wk _ (bS _ _ _ _ _) ρ
     rw[hT1]
     unfold bS
     refine wkQ [1] ?_ ?_<;>simp[-ζ,upd,aT,Γ0]
    | cons x T =>
     simp[-ζ,-ξ,↓KW,bS,hiL,hLi,hLi',hw1,aA,aD,aC,aE,aB]
     refine aH hPp ?_
     simp[-ζ,-ξ,↓KW,aA,aD,aC,aE,aB]
     refine aH hRd ?_
     simp[-ζ,-ξ,↓KW,hr,hw1]
     refine aN (i+1) (by omega) (by show l.length-(i+1)<l.length-i;omega) ?_
     show ∃ ρ,Wk _ (bS _ _ _ _ _) ρ
     rw[hT1]
     unfold bS
     refine wkQ [1,2] ?_ ?_<;>simp[-ζ,upd,aT,Γ0]
   ·rw[Aj hr]at hT1
    have hr':(r != (v:Int))=true:=by simp[hr]
    cases T with
    | nil =>
     have hm1:(1:Nat)≤maxLen:=bU (by decide)
     simp[-ζ,-ξ,↓KW,bS,hiL,hLi,hLi',hw1,aA,aD,aC,aE,aB]
     refine aH hPp ?_
     simp[-ζ,-ξ,↓KW,aA,aD,aC,aE,aB]
     refine aH hRd ?_
     simp[-ζ,-ξ,↓KW,hr,hr',hw1,hm1]
     refine aN (i+1) (by omega) (by show l.length-(i+1)<l.length-i;omega) ?_
     show ∃ ρ,Wk _ (bS _ _ _ _ _) ρ
     rw[hT1]
     show ∃ ρ,Wk _ (bS _ _ _ _ ((w:Int)::[])) ρ
     unfold bS
     refine wkQ [1,4] ?_ ?_<;>simp[-ζ,upd,aT,Γ0,Bq,bQ,aSi]
    | cons x T =>
     have hbb:=gF (n:=T.length+1) (by simp only[Ah]at hBl;omega)
     simp[-ζ,-ξ,↓KW,bS,hiL,hLi,hLi',hw1,aA,aD,aC,aE,aB]
     refine aH hPp ?_
     simp[-ζ,-ξ,↓KW,aA,aD,aC,aE,aB]
     refine aH hRd ?_
     simp[-ζ,-ξ,↓KW,hr,hr',hw1,jK,hbb,bU]
     refine aN (i+1) (by omega) (by show l.length-(i+1)<l.length-i;omega) ?_
     show ∃ ρ,Wk _ (bS _ _ _ _ _) ρ
     rw[hT1]
     show ∃ ρ,Wk _ (bS _ _ _ _ (x::(T++[(w:Int)]))) ρ
     unfold bS
     refine wkQ [1,5] ?_ ?_<;>simp[-ζ,upd,aT,Γ0,Bq,bQ,bFi,aSi]
  ·have hiL:¬i<L.length:=by omega
   rw[Ax (show l.length≤i by omega)]
   have hTl:=bGm z l
   generalize blL z l=T at *
   cases T with
   | nil =>
    simp[-ζ,-ξ,↓KW,bS,hiL]
    refine bE ?_
    simp[-ζ,-ξ,↓KW]
    have h0:ezI (dV [])=.sl []:=rfl
    refine aVh (h:=.nil) (ds:=[]) (r:=.tp []) (l:=[]) (by simp) (by rfl) (by rfl) (by rfl) (by rfl) (by rfl) (aHw (d:=.sl []) (by rfl) bSg) ?_
    simp[-ζ,-ξ,↓KW,h0]
   | cons x T =>
    have hsl:(x::T).length≤12:=by omega
    have hSo:=bWf (x::T) hsl
    have hlen:(dzI (dV (x::T))).length=(dzI (x::T)).length:=by rw[jK,jK];exact eD _ _
    have hSl:(dV (x::T)).length=T.length+1:=eD _ _
    have e1:=aGw hSl
    have e2:=aWv hSl
    have e3:=jK (dV (x::T))
    rw[hSl]at e3
    have hno1:=nD 3 (x::T)
    have hno2:=nD 3 (dV (x::T))
    have e4:ezI (dV (x::T))=.sl ((dV (x::T)).map fun x=>[D.i .i64 x]):=rfl
    rw[show(x::T).length=T.length+1 from rfl]at hSo
    generalize dV (x::T)=S at *
    simp[-ζ,-ξ,↓KW,bS,hiL]
    refine bE ?_
    simp[-ζ,-ξ,↓KW]
    refine mJ (by simp) ?_
    refine iM (id:=2) (h:=.own 0 0 (T.length+1) 1) (by rfl) hno1 (by rfl) (by rfl) hSo (by simp[HO.len,hlen]) hno2 ?_
    simp[-ζ,-ξ,↓KW,e4,e1,e2,e3]
theorem rT(p:Nat):∀ l:List Nat,bH (l++[p])=bH l*p
 |[]=>by simp[bH]
 |x::l=>by simp only[Ci,bH,rT p l,Nat.mul_assoc]
set_option maxHeartbeats 4000000 in
set_option maxRecDepth 10000 in
theorem bOg[M:Mch Aa](l:List Nat)(b:Nat)(hl:l.length≤1000)(hb:b<2^200)(h1:∀ p∈l,0<p∧p<4294967296)(hB:bH l<2^255) :
  Spec Aa 44 [cM l,bN b] (.b (decide (2*b<bH l))):=by
 obtain⟨L,hL,hLl,hLg⟩:=tX l
 have hO:=nK (n:=1) (by omega)
 have hA:=aXm (x:=b) (y:=b) (by omega) (by omega)
 rw[←Nat.two_mul]at hA
 rw[hL]
 obtain⟨c,hc⟩:∃ c,2*b=c:=⟨_,rfl⟩
 have hc2:c<2^201:=by omega
 rw[hc]at hA ⊢
 refine bI (N:=26) Tryz.func44 ?_
 simp[-ζ,-ξ,↓KW,aP b,aA,aD,aC,aE,aB]
 refine aH hO ?_
 simp[-ζ,-ξ,↓KW,aP 1,aA,aD,aC,aE,aB]
 have hq:∀ i,bH (l.take i)<2^255:=fun i=>Bo (lX (fun q hq=>(h1 q hq).1) i) hB
 refine bL (τ:=Nat) (fun i=>i≤l.length) (fun i=>StL [(3,.ptr 1 0),(5,.ptr 2 0),(9,.d (.sl L)),(10,.d (.i .i64 L.length)),(11,.d (.i .i64 i))] none [.cells 31 [.d (.b false),.d (aG (aM b))],.cells 31 [.d (.b false),.d (aG (aM (bH (l.take i))))]]) (fun i=>l.length-i) 0 (A8 _) ?_ ?_
 ·rw[BG]
  refine wkQ [1,2] ?_ ?_<;>simp[-ζ,upd,aT,Γ0,bH]
 ·intro i hi
  have hqi:=hq i
  by_cases hlt:i<l.length
  ·have hLi:=hLg i hlt
   have hge:l[i]? = some l[i]! := by rw[B8 l i hlt];exact Ab hlt
   have hp:=h1 l[i]! (Ao hge)
   have hT:bH (l.take (i+1))=bH (l.take i)*l[i]! := by rw[A7,hge];exact rT _ _
   have hLi':=cK hLi
   have hiL:i<L.length:=by omega
   have hw1:Ag.wrap ((i:Int)+1)=((i+1:Nat):Int):=aV
   have hW:=bVx (n:=l[i]!) (by omega)
   have hM:=aOd (x:=bH (l.take i)) (y:=l[i]!) (by omega) (by omega)
   rw[←hT]at hM
   obtain⟨q',hq'⟩:∃ q',bH (l.take (i+1))=q':=⟨_,rfl⟩
   rw[hq']at hM
   generalize l[i]! = p at *
   generalize bH (l.take i)=q at *
   simp[-ζ,-ξ,↓KW,hiL,hLi,hLi',aA,aD,aC,aE,aB]
   refine aH hW ?_
   simp[-ζ,-ξ,↓KW,aP p,aA,aD,aC,aE,aB]
   refine aH hM ?_
   simp[-ζ,-ξ,↓KW,aP q',hw1,aA,aD,aC,aE,aB]
   refine aN (i+1) (by omega) (by show l.length-(i+1)<l.length-i;omega) ?_
   show ∃ ρ,Wk _ (StL _ _ _) ρ
   rw[hq']
   refine wkQ [1,2] ?_ ?_<;>simp[-ζ,upd,aT,Γ0]
  ·have hiL:¬i<L.length:=by omega
   rw[Ax (show l.length≤i by omega)]at hqi ⊢
   obtain⟨r,hC,hr⟩:=bGb (x:=bH l) (y:=c) (by omega) (by omega)
   have hd:decide (0<r)=decide (c<bH l):=by
    by_cases h:c<bH l
    ·rw[BU h,BU (hr.2 h)]
    ·rw[Bn h,Bn (fun h'=>h (hr.1 h'))]
   generalize bH l=q at *
   simp[-ζ,-ξ,↓KW,hiL]
   refine bE ?_
   simp[-ζ,-ξ,↓KW,aA,aD,aC,aE,aB]
   refine aH hA ?_
   simp[-ζ,-ξ,↓KW,aP c,aA,aD,aC,aE,aB]
   refine aH hC ?_
   simp[-ζ,-ξ,↓KW,hd]
end Go.Am
end
section
open List renaming map_map→ζ,mapM_map→ξ
namespace Go.Am
def sqS:List Int→Nat
 |[]=>0
 |z::v=>z.natAbs*z.natAbs+sqS v
theorem aIe(z:Int):∀ v:List Int,sqS (v++[z])=sqS v+z.natAbs*z.natAbs
 |[]=>by simp[sqS]
 |y::v=>by rw[Ci,sqS,sqS,aIe z v];omega
theorem aFc{B:Nat}:∀{v:List Int} {n:Nat},v.length≤n→(∀ z∈v,z.natAbs≤B)→sqS v≤n*(B*B)
 |[],n,_,_=>A8 _
 |z::v,0,h,_=>by simp at h
 | z::v,n+1,h,hb=>by
  have h1:=aFc (v:=v) (n:=n) (by simpa using h) fun y hy=>hb y (AD _ hy)
  have h2:=Bg (hb z (AH ..)) (hb z (AH ..))
  rw[sqS,Nat.succ_mul];omega
def aUz(n:Nat)(A:List (List Int))(i j:Nat):Int:=if i<n∧j<n then(A.getD i []).getD j 0 else if i=j then 1 else 0
def aAk(n:Nat)(A:List (List Int)):Int:=mC (aUz n A)
theorem bOr{n:Nat}{A:List (List Int)}(hA:A.length=n):dN n (rC A)=((aAk n A:Int):Rat):=by
 unfold dN aAk
 rw[←aWp]
 congr 1
 funext i j
 unfold pad aUz
 by_cases h:i<n∧j<n
 ·rw[Ar h,Ar h]
  unfold en rC
  rw[Af (l:=A.map pA),Ai,Af (l:=A),Ab (by omega)]
  simp only[AW,AU,pA]
  rw[Af,Ai,Af]
  cases(A[i])[j]?<;>rfl
 ·rw[Aj h,Aj h]
  split<;>rfl
def rsq(x:Nat→Int):Int:=x 0^2+x 1^2+x 2^2+x 3^2
theorem yQ(z:Int):((z.natAbs*z.natAbs:Nat):Int)=z^2:=by rw[Int.natAbs_mul_self,Int.pow_succ,Int.pow_one]
theorem bKt{n:Nat}(hn:n≤4){v:List Int}(hv:v.length=n):rsq (fun j=>if j<n then v.getD j 0 else 0)=(sqS v:Int):=by
 have:n=0∨n=1∨n=2∨n=3∨n=4:=by omega
 rcases this with rfl|rfl|rfl|rfl|rfl
 ·match v,hv with
  |[],_=>rfl
 ·match v,hv with
  |[a],_=>simp[rsq,sqS,←yQ]
 ·match v,hv with
  |[a,b],_=>simp[rsq,sqS,←yQ]
 ·match v,hv with
  |[a,b,c],_=>simp[rsq,sqS,←yQ];omega
 ·match v,hv with
  |[a,b,c,d],_=>simp[rsq,sqS,←yQ];omega
theorem xO{n:Nat}(hn:n≤4){A:List (List Int)}(hA:A.length=n)(hr:∀ v∈A,v.length=n){i:Nat}(hi:i≤3):rsq (aUz n A i)=if i<n then(sqS (A.getD i []):Int)else 1:=by
 by_cases h:i<n
 ·rw[Ar h,Af,Ab (by omega),AU,←bKt hn (hr _ (BH (by omega)))]
  congr 1
  funext j
  unfold aUz
  by_cases hj:j<n
  ·rw[Ar ⟨h,hj⟩,Ar hj,Af (l:=A),Ab (by omega),AU]
  ·rw[Aj (fun h'=>hj h'.2),Aj (by omega),Aj hj]
 ·rw[Aj h]
  have:i=0∨i=1∨i=2∨i=3:=by omega
  rcases this with rfl|rfl|rfl|rfl<;>simp[rsq,aUz,h]
theorem bEd{n:Nat}(hn:n≤4){A:List (List Int)}(hA:A.length=n)(hr:∀ v∈A,v.length=n):(aAk n A).natAbs*(aAk n A).natAbs≤bH (A.map sqS):=by
 have h:=bZs (aUz n A)
 have h0:=xO hn hA hr (i:=0) (by decide)
 have h1:=xO hn hA hr (i:=1) (by decide)
 have h2:=xO hn hA hr (i:=2) (by decide)
 have h3:=xO hn hA hr (i:=3) (by decide)
 unfold rsq at h0 h1 h2 h3
 rw[h0,h1,h2,h3]at h
 have h':(((aAk n A).natAbs*(aAk n A).natAbs:Nat):Int)≤((bH (A.map sqS):Nat):Int):=by
  rw[yQ]
  refine Int.le_trans h (Int.le_of_eq ?_)
  have:n=0∨n=1∨n=2∨n=3∨n=4:=by omega
  rcases this with rfl|rfl|rfl|rfl|rfl
  ·match A,hA with
   |[],_=>simp[bH]
  ·match A,hA with
   |[a],_=>simp[bH]
  ·match A,hA with
   |[a,b],_=>simp[bH]
  ·match A,hA with
   |[a,b,c],_=>simp[bH,Int.mul_assoc]
  ·match A,hA with
   |[a,b,c,d],_=>simp[bH,Int.mul_assoc]
 exact_mod_cast h'
def bPt(P b:Nat):Prop:=P≤b*b∧∀ c,P≤c*c→b≤c
theorem aKk{a b:Nat}(h:a*a≤b*b):a≤b:=by
 rcases AY b a with h'|h'
 ·have:=Ft h' h';omega
 ·exact h'
theorem bUj{n:Nat}(hn:n≤4){A:List (List Int)}(hA:A.length=n)(hr:∀ v∈A,v.length=n){b:Nat}(hb:bPt (bH (A.map sqS)) b):(aAk n A).natAbs≤b :=
 aKk (AO (bEd hn hA hr) hb.1)
theorem aJe{A:List (List Int)}(hA:A.length≤4)(hr:∀ v∈A,v.length≤4)(hB:∀ v∈A,∀ z∈v,z.natAbs≤10):bH (A.map sqS)≤25600000000:=by
 have hk:∀ L:List (List Int),(∀ v∈L,sqS v≤400)→bH (L.map sqS)≤400^L.length:=fun L=>by
  induction L with
  |nil=>intro _;exact AE _
  | cons v L ih =>
   intro h
   have h1:=ih fun w hw=>h w (AD _ hw)
   have h2:=Bg (h v (AH ..)) h1
   rw[BI,bH,Ah,BJ,BV (400^L.length)]
   exact h2
 refine AO (hk A fun v hv=>?_) (AO (B4 (by decide) hA) (by decide))
 exact AO (aFc (n:=4) (B:=10) (hr v hv) fun z hz=>hB v hv z hz) (by decide)
theorem bNc{P b:Nat}(h:bPt P b)(hP:P≤25600000000):b≤160000:=h.2 160000 (by omega)
theorem bNb{P r:Nat}(h1:r*r≤P)(h2:P<(r+1)*(r+1)):bPt P (if r*r<P then r+1 else r):=by
 split
 ·rename_i h
  exact⟨by omega,fun c hc=>by
   rcases AY r c with h'|h'
   ·exact h'
   ·have:=Bg h' h';omega⟩
 ·exact⟨by omega,fun c hc=>aKk (by omega)⟩
end Go.Am
end
section
open List renaming map_map→ζ,mapM_map→ξ
open Go Go.Am Go.Proofs
namespace Go.Am
set_option maxRecDepth 10000 in
theorem bVb[M:Mch Aa](m:List Nat)(h:m.length≤1000000):Spec Aa 96 [aG m] (aG m):=by
 refine bI (N:=8) Tryz.func96 ?_
 cases m with
 | nil =>
  simp[-ζ,-ξ,↓KW,aG]
 | cons x m =>
  have hb:(m.length+1)*4≤140737488355328∧m.length+1≤maxLen:=by
   simp only[Ah]at h
   exact⟨by omega,bU (by omega)⟩
  have e1:chunk 1 (m.length+1) (lms (x::m))=(x::m).map fun(x:Nat)=>[D.i .u32 (x:Int)]:=dT rfl
  have e2:(lms m).length=m.length:=by simp[lms]
  have e3:DM m.length ((lms m).map AV.d)=(lms m).map AV.d:=Ax (by simp[lms])
  have e4:chunk 1 (m.length+1) (D.i .u32 (x:Int)::lms m)=(x::m).map fun(x:Nat)=>[D.i .u32 (x:Int)]:=e1
  have e5:∀ d,DM (m.length+1) (AV.d d::(lms m).map AV.d)=AV.d d::(lms m).map AV.d:=fun d=>by rw[Dz,e3]
  simp[-ζ,-ξ,↓KW,aG,hb,e2,e3,e4,e5]
theorem bNj[M:Mch Aa](x:Int)(hx:x.natAbs<2^256):Spec Aa 49 [encZ x] (bN x.natAbs):=by
 have hlen:(aM x.natAbs).length≤8:=dB (n:=x.natAbs) (k:=8) (A3 hx (by decide))
 have hC:=bVb (aM x.natAbs) (by omega)
 have hV:=mN (bW x.natAbs) (by omega) false
 rw[cE]at hV
 have hV':Spec Aa 95 [.b false,aG (aM x.natAbs)] (bN x.natAbs):=by rw[←dD];exact hV
 refine bI (N:=7) Tryz.func49 ?_
 simp[-ζ,-ξ,↓KW,bF x,aA,aD,aC,aE,aB]
 refine aH hC ?_
 simp[-ζ,-ξ,↓KW,aA,aD,aC,aE,aB]
 refine aH hV' ?_
 simp[-ζ,-ξ,↓KW,aP x.natAbs,aA,aD,aC,aE,aB]
theorem bBy[M:Mch Aa](s:Nat)(hs:s<1024):Spec Aa 45 [.i .u32 s] (.i .i64 (iN 10 s:Nat)):=by
 have h:((AK 1024).all fun n=>match(jW Aa EP 100 20).call 45 [.i .u32 (n:Nat)]with|some (.i .i64 r)=>r==(iN 10 n:Nat)|_=>false)=true:=by kernel_rfl
 have:=A4.1 h s (CK.2 hs)
 split at this
 ·rename_i r hr
  rw[beq_iff_eq]at this
  subst this
  exact fJ hr
 ·cases this
def vdE(e:Int):D:=.tp [.ag [.b false,.sl [],.sl []],.i .i64 e]
theorem bYt[M:Mch Aa](b:Nat)(hb:b<2^200):∃ s:Int,¬s<0∧Spec Aa 41 [bN b] (.i .i64 s):=by
 have h:=zP (b:Int) (szN (by omega))
 rw[dD]at h
 refine⟨_,?_,h⟩
 rw[jH];split
 ·omega
 ·split<;>omega
def kA(l:List Nat):List Nat:=(dV (uI l)).map FN
theorem aEz(l:List Nat):uI (kA l)=dV (uI l):=by
 unfold uI kA
 rw[DD]
 have:∀ x∈dV (uI l),((fun(p:Nat)=>(p:Int)) ∘ FN) x=x:=fun x hx=>by
  have hm:=(aCt (uI l)).mem_iff.1 hx
  obtain⟨p,_,rfl⟩:=AZ.1 hm
  simp
 exact(CF this).trans (List.map_id _)
theorem qI(l:List Nat):(kA l).Perm l:=by
 have h:=(aCt (uI l)).map FN
 have e:(uI l).map FN=l:=by
  unfold uI;rw[DD]
  exact(CF (fun x _=>by simp)).trans (List.map_id _)
 rw[e]at h
 exact h
theorem bFg(l:List Nat):dzU (uI l)=dU l:=by simp[dzU,uI,dU]
theorem bNw{H:Hp}{id:Nat}{e:TypeId}{T:List Nat}{k:Nat}(hk:k≤T.length)(hH:H id=some (.cells e ((dU T).map AV.d))):frz H 8 (.own id 0 k 1)=some (cM (T.take k)):=by
 have e0:DM k ((dU T).map AV.d)=(dU (T.take k)).map AV.d:=by simp[dU]
 have e2:=mS (l:=T.take k) (n:=k) (by rw[AT];omega)
 have e3:=eK T
 simp[-ζ,-ξ,zZ,hH,e0,e2,e3,cM,hk]
theorem zD{B:Nat}:∀{l:List Nat} {k:Nat},(∀ p∈l,p≤B)→l.length=k→bH l≤B^k
 |[],_,_,h=>by subst h;simp[bH]
 |p::l,0,_,h=>by simp at h
 | p::l,k+1,h,hk=>by
  rw[bH,BJ,BV]
  exact Bg (zD (fun q hq=>h q (AD _ hq)) (by simpa using hk)) (h p (AH ..))
theorem bEh{H:Hp}{x y:AV}{a b:D}(h1:frz H 8 x=some a)(h2:frz H 8 y=some b):cO H [x,y]=some [a,b]:=by simp[cO,h1,h2]
theorem aIc(l:List Nat):(kA l).length=l.length:=(qI l).length_eq
def aZa(z:Int)(l:List (Nat×Nat×Nat)):D:=.tp [.ag [.b (decide (z<0)),aG (aM z.natAbs),ezI (dV (blL z l))],.i .i64 0]
def zOf(l:List (Nat×Nat×Nat))(s:Nat):Int:=aGz (fA (rsL l) s)
theorem aJm(l:List (Nat×Nat)):one (.d (oM l))=true:=rfl
theorem wM(l:List (Nat×Nat)):dG (.d (oM l))=some [.d (oM l)]:=rfl
theorem aDt(l:List (Nat×Nat)):aT (oM l)=.d (oM l):=rfl
theorem aKp(l:List (Nat×Nat)):inj (oM l)=.d (oM l):=rfl
theorem zN(H:Hp)(avs:List AV)(l:List (Nat×Nat)):bC H avs (oM l)=cC H avs:=rfl
def okS(b:Nat)(l:List (Nat×Nat×Nat))(n s:Nat):Prop:=iN 10 s=l.length-2*n∧(zOf l s).natAbs≤b∧(blL (zOf l s) l).length≤n
def enR(b:Nat)(l:List (Nat×Nat×Nat))(n:Nat):Prop:=2*b<bH ((kA (pmL l)).take (l.length-2*n))
theorem bUv(l:List Int):∃ L,ezI l=.sl L∧L.length=l.length:=⟨_,rfl,by simp⟩
def kU(P:List Nat)(n i:Nat):List Int:=uI (P.take i)++Aw (n-i) 0
theorem uF{α:Type}:∀(l:List α) (s:Nat),(fA l s).Sublist l
 |[],s=>List.Sublist.refl _
 | x::l,s=>by
  unfold fA
  split
  ·exact(uF l _).cons_cons x
  ·exact(uF l _).cons x
theorem aTa{n:Int}(h1:0≤n)(h2:n<4294967296):BC.wrap n=n:=by rw[Ei];omega
theorem aQt(l:List (Nat×Nat×Nat)):prR (rsL l)=pmL l:=by simp[prR,rsL,pmL]
set_option maxHeartbeats 8000000 in
set_option maxRecDepth 10000 in
theorem aWr[M:Mch Aa](b:Nat)(l:List (Nat×Nat×Nat))(n B:Nat)(R:D)(hb:b<2^200)(hl:l.length≤12)(hl2:l.length-n≤10)(hgood:aJo l∧(pmL l).Nodup)(hP:∀ x∈l,Spec Aa 52 [.i .u64 (x.2.1:Nat)] (.b true))(hf:2*n≤l.length)
  (hpr:∀ x∈l,PrN x.2.1∧x.2.1≤B) (hB31:B<2147483648) (hB:B^(l.length-2*n)<2^250)
  (hR0:¬enR b l n→R=vdE 200) (hR1:enR b l n→∀ s,s<2^(l.length-n)→okS b l n s→(∀ s',s'<s→¬okS b l n s')→R=aZa (zOf l s) l) (hR2:enR b l n→(∀ s,s<2^(l.length-n)→¬okS b l n s)→R=vdE 201) :
  Spec Aa 10 [bN b,dX l,.i .i64 n] R:=by
 obtain⟨s,hs0,hSg⟩:=bYt b hb
 have hPr:=aNs l true ⟨fun h=>hgood,fun h=>rfl⟩ (by omega) hP
 obtain⟨L,hL,hLl,hLg⟩:=mR l
 rw[hL]at hPr ⊢
 have hn0:¬(n:Int)<0:=by omega
 have hl16:¬(16:Int)<(L.length:Int):=by omega
 have hL16:¬16<L.length:=by omega
 have hd2:¬((L.length:Int).tdiv 2)<n:=by rw[C9 (by omega)];omega
 have hd3:¬(L.length:Int)/2<n:=by omega
 have hw:Ag.wrap ((L.length:Int)/2)=(L.length:Int)/2:=aV
 have hm1:8*(L.length:Int)≤281474976710656∧(L.length:Int)≤9223372036854775807:=by omega
 have hPl:(pmL l).length=l.length:=by simp[pmL]
 have hrep:Aw L.length (AV.d (D.i .u64 0))=(dzU (kU (pmL l) l.length 0)).map AV.d:=by simp[kU,uI,dzU,hLl]
 obtain⟨D00,hD00⟩:∃ D00,dzU (kU (pmL l) l.length 0)=D00:=⟨_,rfl⟩
 rw[hD00]at hrep
 refine bI (N:=109) Tryz.func10 ?_
 simp[-ζ,-ξ,↓KW,aP b,aA,aD,aC,aE,aB]
 refine aH hSg ?_
 simp[-ζ,-ξ,↓KW,hs0,hn0,hl16,hL16,aA,aD,aC,aE,aB]
 refine aH hPr ?_
 simp[-ζ,-ξ,↓KW,hd2,hd3,hw]
 simp[-ζ,-ξ,↓KW,hm1,hrep]
 refine bL (τ:=Nat) (fun i=>i≤l.length) (fun i=>StL [(1,.d (.sl L)),(2,.d (.i .i64 n)),(3,.ptr 1 0),(6,.ptr 2 0),(7,.d (.i .i64 0)),(8,.own 3 0 L.length 1),(41,.d (.sl L)),(42,.d (.i .i64 L.length)),(43,.d (.i .i64 i))] none [.cells 31 [.d (.b false),.d (aG (aM b))],.cells 34 [.d (.b false),.nil,.nil],.cells 51 ((dzU (kU (pmL l) l.length i)).map .d)]) (fun i=>l.length-i) 0 (A8 _) ?_ ?_
 ·rw[hD00]
  refine wkQ [1,2,3] ?_ ?_<;>simp[-ζ,upd,aT,Γ0]
 ·intro i hi
  by_cases hlt:i<l.length
  ·obtain⟨⟨w,p,v⟩,hge⟩:∃ x,l[i]? = some x:=⟨_,Ab hlt⟩
   have hLi:=hLg i _ hge
   simp only at hLi
   have hLi':=cK hLi
   have hiL:i<L.length:=by omega
   have hw1:Ag.wrap ((i:Int)+1)=((i+1:Nat):Int):=aV
   have hw0:Ag.wrap (i:Int)=i:=aV
   have hfl:(dzU (kU (pmL l) l.length i)).length=L.length:=by rw[lP,kU];simp[uI,pmL];omega
   have hset:(dzU (kU (pmL l) l.length i)).set i (.i .u64 (p:Int))=dzU (kU (pmL l) l.length (i+1)):=by
    rw[aGv]
    congr 1
    unfold kU
    have hpg:(pmL l)[i]? = some p:=by unfold pmL;rw[Ai,hge];rfl
    have e1:(pmL l).take (i+1)=(pmL l).take i++[p]:=by rw[A7,hpg];rfl
    have e2:l.length-i=(l.length-(i+1))+1:=by omega
    have e3:(uI ((pmL l).take i)).length=i:=by simp[uI];omega
    rw[e1,e2,List.replicate_succ,Fo _ _ (by omega),e3,Eo,DO]
    simp[uI]
   have e1:lay ((dzU (kU (pmL l) l.length i)).map AV.d) i [.d (.i .u64 (p:Int))]=(dzU (kU (pmL l) l.length (i+1))).map .d:=by rw[fR _ _ _ (by omega),hset]
   obtain⟨D1,hD1⟩:∃ D1,dzU (kU (pmL l) l.length (i+1))=D1:=⟨_,rfl⟩
   rw[hD1]at e1
   generalize dzU (kU (pmL l) l.length i)=D0 at *
   have hiL1:i+1≤L.length:=by omega
   simp[-ζ,-ξ,↓KW,hiL,hLi,hLi',hw0,hw1,hfl,hiL1,e1]
   refine aN (i+1) (by omega) (by show l.length-(i+1)<l.length-i;omega) ?_
   show ∃ ρ,Wk _ (StL _ _ _) ρ
   rw[hD1]
   refine wkQ [1,2,3] ?_ ?_<;>simp[-ζ,upd,aT,Γ0,e1]
  ·have hiL:¬i<L.length:=by omega
   have hfi:kU (pmL l) l.length i=uI (pmL l):=by
    unfold kU
    rw[show l.length-i=0 from by omega,Ax (by omega)];simp
   rw[hfi]
   simp[-ζ,-ξ,↓KW,hiL]
   refine bE ?_
   have hSo:=bWe (uI (pmL l)) (by simp[uI];omega)
   have hlen:(dzU (dV (uI (pmL l)))).length=(dzU (uI (pmL l))).length:=by rw[lP,lP];exact eD _ _
   have hno1:=nC 51 (uI (pmL l))
   have hno2:=nC 51 (dV (uI (pmL l)))
   have hul:(uI (pmL l)).length=L.length:=by simp[uI];omega
   rw[hul,←aEz,bFg (kA (pmL l))]at hSo
   rw[←aEz,bFg (kA (pmL l))]at hlen hno2
   have hsl:(kA (pmL l)).length=L.length:=by rw[aIc];omega
   have hsure:L.length-2*n≤(kA (pmL l)).length:=by omega
   have hmp:∀ p∈kA (pmL l),0<p∧p≤B:=fun p hp=>by
    have:=(qI (pmL l)).mem_iff.1 hp
    obtain⟨x,hx,rfl⟩:=AZ.1 this
    have h:=hpr x hx
    have:=h.1.1
    exact⟨by omega,h.2⟩
   have htk:((kA (pmL l)).take (L.length-2*n)).length=L.length-2*n:=by rw[AT];omega
   have hpb:bH ((kA (pmL l)).take (L.length-2*n))≤B^(L.length-2*n):=zD (fun p hp=>(hmp p (Bl hp)).2) htk
   rw[hLl]at hpb
   have hpb2:bH ((kA (pmL l)).take (l.length-2*n))<2^255:=Bo hpb (Nat.lt_trans hB (by decide))
   rw[←hLl]at hpb2
   have hEn:=bOg ((kA (pmL l)).take (L.length-2*n)) b (by omega) hb (fun p hp=>by
    have:=hmp p (Bl hp);omega) hpb2
   have hEE:enR b l n↔2*b<bH ((kA (pmL l)).take (L.length-2*n)):=by unfold enR;rw[hLl]
   have hfr:∀ H:Hp,H 3=some (.cells 51 ((dU (kA (pmL l))).map AV.d))→frz H 8 (.own 3 0 (L.length-2*n) 1)=some (cM ((kA (pmL l)).take (L.length-2*n))):=fun H hH=>bNw hsure hH
   have hwn2:Ag.wrap (2*(n:Int))=2*(n:Int):=aV
   have hwsu:Ag.wrap ((L.length:Int)-2*(n:Int))=((L.length-2*n:Nat):Int):=by
    have e:(L.length:Int)-2*(n:Int)=((L.length-2*n:Nat):Int):=by omega
    rw[e];exact aV
   have hsle:L.length-2*n≤L.length:=by omega
   obtain⟨su,hsu⟩:∃ su,L.length-2*n=su:=⟨_,rfl⟩
   rw[hsu]at hEn hEE hwsu hsle hsure
   simp only[hsu]at hfr
   generalize kA (pmL l)=SP at *
   generalize dzU (uI (pmL l))=D0 at *
   generalize hsEn:DM su SP=SPs at *
   generalize hD1:dU SP=D1 at *
   simp[-ζ,-ξ,↓KW]
   refine mJ (by simp) ?_
   refine iM (id:=3) (h:=.own 0 0 L.length 1) (by rfl) hno1 (by rfl) (by rfl) hSo (by simp[HO.len,hlen]) hno2 ?_
   obtain⟨X,hX,hfX⟩:∃ X,kM 1 (.own 3 0 L.length 1) 0 (su:Int) false=some X∧∀ H:Hp,H 3=some (.cells 51 (D1.map AV.d))→frz H 8 X=some (cM SPs):=by
    rcases Be su with h0|h0
    ·refine⟨.d (.sl []),by subst h0;simp[kM],fun H _=>?_⟩
     rw[←hsEn,h0,BG];rfl
    ·refine⟨.own 3 0 su 1,?_,fun H hH=>hfr H (by rw[hH])⟩
     have h1:¬(0:Int)=(su:Int):=by omega
     have h2:(su:Int)≤(L.length:Int):=by omega
     simp[kM,hsle]
     omega
   simp[-ζ,-ξ,↓KW,hwn2,hwsu,hX,aA,aD,aC,aE,aB]
   refine bJ (ds:=[cM SPs,bN b]) (bEh (hfX _ rfl) (by rfl)) hEn ?_
   by_cases hE:2*b<bH SPs
   ·have hEr:=hEE.2 hE
    rw[BU hE]
    obtain⟨K,hK⟩:∃ K,L.length-n=K:=⟨_,rfl⟩
    have hKl:l.length-n=K:=by omega
    rw[hKl]at hR1 hR2
    have hK10:K≤10:=by omega
    have hN:(2:Nat)^K≤1024:=AO (B4 (by decide) hK10) (by decide)
    have hwk:Ag.wrap ((L.length:Int)-(n:Int))=(K:Int):=by
     rw[show(L.length:Int)-(n:Int)=(K:Int)from by omega];exact aV
    have hshl:dW .shl .u32 1 (K:Int)=some (.i .u32 ((2^K:Nat):Int)):=by
     simp only[dW,Cz]
     rw[Aj (by omega)]
     congr 2
     rw[show min (K:Int).toNat 32=K from by omega,Int.one_mul,show(2:Int)^K=((2^K:Nat):Int)from by simp]
     rw[Ei]
     generalize(2:Nat)^K=N at *
     omega
    replace hR1:=hR1 hEr
    replace hR2:=hR2 hEr
    generalize hNN:(2:Nat)^K=N at *
    simp[-ζ,-ξ,↓KW,hwk,hshl]
    refine bL (τ:=Nat) (fun s=>s≤N∧∀ s',s'<s→¬okS b l n s') (fun s=>StL [(1,.d (.sl L)),(2,.d (.i .i64 n)),(3,.ptr 1 0),(6,.ptr 2 0),(7,.d (.i .i64 0)),(11,.d (.i .i64 su)),(73,.d (.i .u32 N)),(74,.d (.i .u32 s))] none [.cells 31 [.d (.b false),.d (aG (aM b))],.cells 34 [.d (.b false),.nil,.nil]]) (fun s=>N-s) 0 ⟨A8 _,fun s' h=>by omega⟩ ?_ ?_
    ·refine wkQ [1,2] ?_ ?_<;>simp[-ζ,upd,aT,Γ0]
    ·rintro s ⟨hs1,hs2⟩
     by_cases hsN:s<N
     ·have hOn:=bBy s (by omega)
      have hws:BC.wrap ((s:Int)+1)=((s+1:Nat):Int):=aTa (by omega) (by omega)
      have hsK:s<2^K:=by rw[hNN];exact hsN
      have hp10:iN 10 s=iN K s:=by rw[show 10=K+(10-K)from by omega];exact qN K _ s hsK
      have hpl:iN l.length s=iN K s:=by rw[show l.length=K+n from by omega];exact qN K _ s hsK
      have hsul:l.length-2*n=su:=by omega
      by_cases hpk:iN 10 s=su
      ·have hbl:(fA (rsL l) s).length=su:=by rw[pR,show(rsL l).length=l.length from by simp[rsL],hpl,←hp10,hpk]
       have hsub:=uF (rsL l) s
       have hmr:∀ x∈rsL l,∃ y∈l,y.2=x:=fun x hx=>by
        obtain⟨y,hy,e⟩:=AZ.1 hx;exact⟨y,hy,e⟩
       have hPr2:aXq (fA (rsL l) s):=⟨fun x hx=>by
        obtain⟨y,hy,rfl⟩:=hmr x (hsub.subset hx);exact(hpr y hy).1,fun x hx=>by
        obtain⟨y,hy,rfl⟩:=hmr x (hsub.subset hx);exact hgood.1.2 y hy,by
        have h1:((rsL l).map (·.1)).Nodup:=by have:=hgood.2;rw[←aQt]at this;exact this
        exact(hsub.map (·.1)).nodup h1⟩
       have hbd:bH (prR (fA (rsL l) s))<2^250:=by
        refine Bo (zD (B:=B) (k:=su) (fun p hp=>?_) (by simp[prR,hbl])) (by rw[←hsul];exact hB)
        obtain⟨x,hx,rfl⟩:=AZ.1 hp
        obtain⟨y,hy,rfl⟩:=hmr x (hsub.subset hx);exact(hpr y hy).2
       have hCo:=aLe (fA (rsL l) s) hPr2 (by omega) hbd (fun x hx=>by
        obtain⟨y,hy,rfl⟩:=hmr x (hsub.subset hx)
        have:=(hpr y hy).2;omega) (fun x hx=>by
        obtain⟨y,hy,rfl⟩:=hmr x (hsub.subset hx);exact hP y hy)
       obtain⟨_,hz1,hz2⟩:=aSk hPr2
       have hz3:(zOf l s).natAbs<2^250:=by
        unfold zOf
        have hbd':bH ((fA (rsL l) s).map (·.1))<2^250:=hbd
        generalize bH ((fA (rsL l) s).map (·.1))=Mx at *
        omega
       have hCh:=aPi l s (by omega) (by omega)
       rw[hL]at hCh
       have hzd:aGz (fA (rsL l) s)=zOf l s:=rfl
       rw[hzd]at hCo
       have hAb:=bNj (zOf l s) (by omega)
       obtain⟨r,hCm,hr⟩:=bGb (x:=(zOf l s).natAbs) (y:=b) (by omega) (by omega)
       have hBl:=aXi (zOf l s) l hl (rM (by omega)) (fun x hx=>by
        have h1:=(hpr x hx).1.1
        have h2:=(hpr x hx).2
        omega) hP
       rw[hL]at hBl
       have hokd:okS b l n s↔(zOf l s).natAbs≤b∧(blL (zOf l s) l).length≤n:=⟨fun h=>h.2,fun h=>⟨by rw[hpk,hsul],h⟩⟩
       have hsl2:(dV (blL (zOf l s) l)).length=(blL (zOf l s) l).length:=eD _ _
       have hRok:=hR1 s hsN
       unfold aZa at hRok
       obtain⟨BL,hBLe,hBLl⟩:=bUv (dV (blL (zOf l s) l))
       rw[hBLe]at hBl hRok
       rw[hsl2]at hBLl
       have hpk2:(((iN 10 s:Nat):Int) != (su:Int))=false:=by simp[hpk]
       have hcont:¬okS b l n s→∀ s',s'<s+1→¬okS b l n s':=fun hnok s' h=>by
        by_cases h':s'=s
        ·subst h';exact hnok
        ·exact hs2 s' (by omega)
       generalize fA (rsL l) s=CR at *
       generalize iN 10 s=pk at *
       generalize hzz:zOf l s=z at *
       generalize(blL z l).length=bn at *
       simp[-ζ,-ξ,↓KW,hsN]
       refine aH hOn ?_
       simp[-ζ,-ξ,↓KW,hpk2,hpk,hws]
       refine aH hCh ?_
       simp[-ζ,-ξ,↓KW,aJm,wM,aDt,aKp,zN]
       refine aH hCo ?_
       simp[-ζ,-ξ,↓KW,bF z,aJm,wM,aDt,aKp,zN,aA,aD,aC,aE,aB]
       refine aH hAb ?_
       simp[-ζ,-ξ,↓KW,aP z.natAbs,aA,aD,aC,aE,aB]
       refine aH hCm ?_
       by_cases hzb:b<z.natAbs
       ·have hr1:=hr.2 hzb
        have hnok:¬okS b l n s:=fun h=>by have:=(hokd.1 h).1;omega
        simp[-ζ,-ξ,↓KW,hr1,hws]
        refine aN (s+1) ⟨by omega,hcont hnok⟩ (by show N-(s+1)<N-s;omega) ?_
        show ∃ ρ,Wk _ (StL _ _ _) ρ
        refine wkQ [1,2] ?_ ?_<;>simp[-ζ,upd,aT,Γ0]
       ·have hr1:¬0<r:=fun h=>hzb (hr.1 h)
        simp[-ζ,-ξ,↓KW,hr1,hws,aA,aD,aC,aE,aB]
        refine aH hBl ?_
        by_cases hbn:bn≤n
        ·have hR:=hRok (hokd.2 ⟨by omega,hbn⟩) hs2
         subst hR
         have hbn':(bn:Int)≤(n:Int):=by omega
         simp[-ζ,-ξ,↓KW,hBLl,hbn,hbn',aA,aD,aC,aE,aB,eQ]
         exact bE (by simp[-ζ,-ξ,↓KW,aA,aD,aC,aE,aB,eQ])
        ·have hbn':¬(bn:Int)≤(n:Int):=by omega
         have hnok:¬okS b l n s:=fun h=>hbn (hokd.1 h).2
         simp[-ζ,-ξ,↓KW,hBLl,hbn,hbn',hws]
         refine aN (s+1) ⟨by omega,hcont hnok⟩ (by show N-(s+1)<N-s;omega) ?_
         show ∃ ρ,Wk _ (StL _ _ _) ρ
         refine wkQ [1,2] ?_ ?_<;>simp[-ζ,upd,aT,Γ0]
      ·have hnok:¬okS b l n s:=fun h=>hpk (by have:=h.1;omega)
       have hpk1:(((iN 10 s:Nat):Int) != (su:Int))=true:=by simp;omega
       generalize iN 10 s=pk at *
       simp[-ζ,-ξ,↓KW,hsN]
       refine aH hOn ?_
       simp[-ζ,-ξ,↓KW,hpk1,hpk,hws]
       refine aN (s+1) ⟨by omega,fun s' h=>by
        by_cases h':s'=s
        ·subst h';exact hnok
        ·exact hs2 s' (by omega)⟩ (by show N-(s+1)<N-s;omega) ?_
       show ∃ ρ,Wk _ (StL _ _ _) ρ
       refine wkQ [1,2] ?_ ?_<;>simp[-ζ,upd,aT,Γ0]
     ·have hsN':s=N:=by omega
      have hR:=hR2 (fun s' h=>hs2 s' (by omega))
      subst hR
      simp[-ζ,-ξ,↓KW,hsN]
      refine bE ?_
      simp[-ζ,-ξ,↓KW,vdE,eQ]
   ·have hR:=hR0 (fun h=>hE (hEE.1 h))
    rw[Bn hE]
    subst hR
    simp[-ζ,-ξ,↓KW,vdE,eQ]
theorem szD{z:Int}(h:z.natAbs<2^256):(aM z.natAbs).length≤130000000000:=by
 have:=dB (n:=z.natAbs) (k:=8) (A3 h (by decide))
 omega
set_option maxRecDepth 10000 in
theorem aUq[M:Mch Aa](n:Nat)(hn:n<4294967296):Spec Aa 135 [bN n] (.tp [.i .i64 n,.b true]):=by
 have hw1:Ag.wrap (n:Int)=n:=aV
 have hw2:Az.wrap (n:Int)=n:=wrap_u64 (by omega) (by omega)
 have hle:(n:Int)≤9223372036854775807:=by omega
 have hle2:n≤9223372036854775807:=by omega
 have z0:Ag.wrap 0=0:=by decide
 have z1:Ag.wrap (-1)=-1:=by decide
 have z2:Az.wrap 0=0:=by decide
 rcases Be n with h0|h0
 ·subst h0
  have e:bN 0=.ag [.b false,.sl []]:=by rw[aP,cA];rfl
  rw[e]
  refine bI (N:=38) Tryz.func135 ?_
  simp[-ζ,-ξ,↓KW]
  refine fI 1 ?_
  simp[-ζ,-ξ,↓KW,↓aL,↓aF,↓aJ,↓aK,z0,z1,z2,eQ]
 ·have e:bN n=.ag [.b false,.sl [[.i .u32 n]]]:=by
   rw[aP]
   have:aM n=[n]:=by rw[gB (by omega),Ce hn,C4 hn,cA]
   rw[this];rfl
  rw[e]
  refine bI (N:=38) Tryz.func135 ?_
  simp[-ζ,-ξ,↓KW]
  refine fI 2 ?_
  simp[-ζ,-ξ,↓KW,↓aL,↓aF,↓aJ,↓aK,z0,z1,z2,hw1,hw2,hle,hle2,eQ]
set_option maxRecDepth 10000 in
theorem aUn[M:Mch Aa](p:Nat)(z:Int)(hp:0<p)(hp1:p≤2147483648)(hz:z.natAbs<2^256):Spec Aa 78 [.i .u64 p,encZ z] (.i .u64 (z%(p:Int))):=by
 have hO:=rR (x:=p) (by omega)
 have hD:=kJ z (p:Int) (by omega) (szD hz) (szD (by simp;omega))
 rw[dD]at hD
 have hr0:=Ez z (show(p:Int)≠0 by omega)
 have hr1:=Int.emod_lt_of_pos z (show(0:Int)<p by omega)
 obtain⟨r,hr⟩:∃ r:Nat,z%(p:Int)=r:=⟨(z%(p:Int)).toNat,by omega⟩
 rw[hr,dD]at hD
 rw[hr]
 have hS:=aUq r (by omega)
 have hw1:Ag.wrap (p:Int)=p:=aV
 have hw2:Az.wrap (r:Int)=r:=wrap_u64 (by omega) (by omega)
 generalize z/(p:Int)=q at *
 refine bI (N:=26) Tryz.func78 ?_
 simp[-ζ,-ξ,↓KW,bF z,hw1,aA,aD,aC,aE,aB]
 refine aH hO ?_
 simp[-ζ,-ξ,↓KW,aP p,aA,aD,aC,aE,aB]
 refine aH hD ?_
 simp[-ζ,-ξ,↓KW,bF q,aP r,aA,aD,aC,aE,aB]
 refine aH hS ?_
 simp[-ζ,-ξ,↓KW,hw2]
theorem aVj{α:Type}{l:List α}{i k:Nat}{x:α}(hk:k<i)(h1:l[k]? = some x)(h2:l[i]? = some x):¬l.Nodup:=fun h=>by
 obtain⟨a,ha⟩:=Aq.1 h1
 obtain⟨b,hb⟩:=Aq.1 h2
 have:=(List.nodup_iff_pairwise_ne.1 h)
 rw[List.pairwise_iff_getElem]at this
 exact this k i a b hk (ha.trans hb.symm)
theorem wZ{α:Type}{l:List α}{i:Nat}{x:α}(hx:l[i]? = some x)(h:(l.take i).Nodup)(hne:∀ k,k<i→l[k]? ≠ some x):(l.take (i+1)).Nodup:=by
 rw[A7,hx]
 refine nE h fun hm=>?_
 obtain⟨k,hk⟩:=List.mem_iff_getElem?.1 hm
 have hk2:=(Aq.1 hk).1
 rw[AT]at hk2
 rw[List.getElem?_take_of_lt (by omega)]at hk
 exact hne k (by omega) hk
set_option maxHeartbeats 4000000 in
set_option maxRecDepth 10000 in
theorem aFl[M:Mch Aa](l:List Nat)(hl:l.length≤1000000)(hP:∀ p∈l,Spec Aa 98 [.i .u64 (p:Nat)] (.b true)):Spec Aa 51 [cM l] (.b (decide l.Nodup)):=by
 obtain⟨L,hL,hLl,hLg⟩:=tX l
 rw[hL]
 refine bI (N:=31) Tryz.func51 ?_
 simp[-ζ,-ξ,↓KW]
 refine bL (τ:=Nat) (fun i=>i≤l.length∧(l.take i).Nodup) (fun i=>StL [(0,.d (.sl L)),(3,.d (.i .i64 i))] none []) (fun i=>l.length-i) 0 ⟨A8 _,by simp⟩ ?_ ?_
 ·refine wkQ [] ?_ ?_<;>simp[-ζ,upd,aT,Γ0]
 ·rintro i ⟨hi,hn⟩
  by_cases hlt:i<l.length
  ·have hLi:=hLg i hlt
   have hLi':=cK hLi
   have hiL:i<L.length:=by omega
   have hge:l[i]? = some l[i]! := by rw[B8 l i hlt];exact Ab hlt
   have hPp:Spec Aa 98 [.i .u64 (l[i]! : Nat)] (.b true):=hP _ (Ao hge)
   have hw0:Ag.wrap (i:Int)=i:=aV
   have hw1:Ag.wrap ((i:Int)+1)=((i+1:Nat):Int):=aV
   generalize hpe:l[i]! = p at *
   simp[-ζ,-ξ,↓KW,hiL,hLi,hLi',hw0]
   refine aH hPp ?_
   simp[-ζ,-ξ,↓KW]
   refine bL (τ:=Nat) (fun k=>k≤i∧∀ j,j<k→l[j]? ≠ some p) (fun k=>StL [(0,.d (.sl L)),(3,.d (.i .i64 i)),(4,.d (.i .i64 k))] none []) (fun k=>i-k) 0 ⟨A8 _,fun j h=>by omega⟩ ?_ ?_
   ·refine wkQ [] ?_ ?_<;>simp[-ζ,upd,aT,Γ0]
   ·rintro k ⟨hk,hne⟩
    by_cases hki:k<i
    ·have hLk:=hLg k (by omega)
     have hLk':=cK hLk
     have hkL:k<L.length:=by omega
     have hgk:l[k]? = some l[k]! := by rw[B8 l k (by omega)];exact Ab (by omega)
     have hwk0:Ag.wrap (k:Int)=k:=aV
     have hwk1:Ag.wrap ((k:Int)+1)=((k+1:Nat):Int):=aV
     generalize hqe:l[k]! = q at *
     by_cases hpq:q=p
     ·subst hpq
      have hd:decide l.Nodup=false:=Bn (aVj hki hgk hge)
      rw[hd]
      simp[-ζ,-ξ,↓KW,hki,hkL,hiL,hLk,hLk',hLi,hLi',hw0,hwk0]
      refine bE ?_
      simp[-ζ,-ξ,↓KW]
      exact bE (by simp[-ζ,-ξ,↓KW])
     ·have hpqi:((q:Int)==(p:Int))=false:=by simp;omega
      simp[-ζ,-ξ,↓KW,hki,hkL,hiL,hLk,hLk',hLi,hLi',hw0,hwk0,hwk1,hpq,hpqi]
      refine aN (k+1) ⟨by omega,fun j h=>?_⟩ (by show i-(k+1)<i-k;omega) (wkQ [] ?_ ?_)
      ·by_cases hj:j=k
       ·subst hj;rw[hgk];intro h';injection h' with h';exact hpq h'
       ·exact hne j (by omega)
      ·simp[-ζ,upd,aT,Γ0]
      ·simp[-ζ,upd,aT,Γ0]
    ·have hke:k=i:=by omega
     subst hke
     simp[-ζ,-ξ,↓KW,hki]
     refine bE ?_
     simp[-ζ,-ξ,↓KW,hw1]
     refine aN (k+1) ⟨by omega,wZ hge hn hne⟩ (by show l.length-(k+1)<l.length-k;omega) (wkQ [] ?_ ?_)<;>simp[-ζ,upd,aT,Γ0]
  ·have hiL:¬i<L.length:=by omega
   rw[Ax (show l.length≤i by omega)]at hn
   rw[BU hn]
   simp[-ζ,-ξ,↓KW,hiL]
   exact bE (by simp[-ζ,-ξ,↓KW])
theorem aQr(z:Int):z.sign<0↔z<0:=by
 rw[jH];split
 ·simp_all
 ·split<;>simp_all
theorem bWi[M:Mch Aa](b:Nat):∃ s:Int,¬s<0∧Spec Aa 64 [bN b] (.i .i64 s):=by
 have h:=kN (b:Int)
 rw[dD]at h
 refine⟨_,?_,h⟩
 rw[aQr];omega
theorem aIb(l:List Nat):(kA l).Pairwise (·≤·):=by
 have h:=aNa (uI l)
 rw[←aEz]at h
 exact(List.pairwise_map.1 h).imp fun h=>by omega
theorem zB:∀(S Q:List Nat) (k:Nat),S.Pairwise (·≤·)→(∀ p∈S,0<p)→Q.Sublist S→k≤Q.length→bH (S.take k)≤bH Q
 |S,Q,0,_,hp,hQ,_=>qL (l:=Q) fun p h=>hp p (hQ.mem h)
 |[],Q,k+1,_,_,hQ,hk=>by cases hQ;simp at hk
 | x::T,Q,k+1,hs,hp,hQ,hk=>by
  rw[List.pairwise_cons]at hs
  have hpT:∀ p∈T,0<p:=fun p h=>hp p (AD _ h)
  rw[Dz,bH]
  rcases List.sublist_cons_iff.1 hQ with h|⟨R,rfl,h⟩
  ·cases Q with
   |nil=>simp at hk
   | cons y R =>
    rw[bH]
    exact Bg (hs.1 y (h.mem (AH ..))) (zB T R k hs.2 hpT ((List.sublist_cons_self y R).trans h) (by simpa using hk))
  ·rw[bH]
   exact Nat.mul_le_mul_left x (zB T R k hs.2 hpT h (by simpa using hk))
theorem aNt{P Q:List Nat}{k:Nat}(hn:P.Nodup)(hp:∀ p∈P,0<p)(hQ:Q.Sublist P)(hk:k≤Q.length):bH ((kA P).take k)≤bH Q:=by
 have hS:=qI P
 have h1:Q.Perm ((kA P).filter (fun x=>decide (x∈Q))):=by
  rw[List.perm_ext_iff_of_nodup (hQ.nodup hn) ((hS.nodup_iff.2 hn).filter _)]
  intro a
  rw[List.mem_filter,hS.mem_iff,decide_eq_true_iff]
  exact⟨fun h=>⟨hQ.mem h,h⟩,fun h=>h.2⟩
 rw[zC h1]
 exact zB _ _ k (aIb P) (fun p h=>hp p (hS.mem_iff.1 h)) List.filter_sublist (by rw[←h1.length_eq];exact hk)
structure Good(l:List (Nat×Nat×Nat)):Prop where
 ok:aJo l
 nd:(pmL l).Nodup
 pr:∀ x∈l,PrN x.2.1
theorem uR{α:Type}(f g:α→Bool):∀ l:List α,l.length≤(l.filter fun x=>f x&&g x).length+(l.filter fun x=>!f x).length+(l.filter fun x=>!g x).length
 |[]=>by simp
 | x::l=>by
  have:=uR f g l
  cases hf:f x<;>cases hg:g x<;>simp[hf,hg]<;>omega
theorem yD(z:Int)(l:List (Nat×Nat×Nat)):(l.filter fun x=>!(z%(x.2.1:Int)==(x.2.2:Int))).length=(blL z l).length:=by
 unfold blL;rw[Bm];rfl
theorem aSg{l:List (Nat×Nat×Nat)}(hG:Good l){b n:Nat}(he:enR b l n){Q:List Nat}(hQ:Q.Sublist (pmL l))(hk:l.length-2*n≤Q.length):2*b<bH Q :=
 A3 he (aNt hG.nd (fun p hp=>by
  obtain⟨x,hx,rfl⟩:=AZ.1 hp
  have:=(hG.pr x hx).1;omega) hQ hk)
theorem bBs{l:List (Nat×Nat×Nat)}(hG:Good l){p:Nat}(hp:p∈pmL l):PrN p:=by
 obtain⟨x,hx,rfl⟩:=AZ.1 hp
 exact hG.pr x hx
theorem aHv{l:List (Nat×Nat×Nat)}(hG:Good l){b n:Nat}(he:enR b l n){y z:Int}(hy:y.natAbs≤b)(hz:z.natAbs≤b)(hy1:(blL y l).length≤n)(hz1:(blL z l).length≤n):y=z:=by
 have hc:=uR (fun x:Nat×Nat×Nat=>y%(x.2.1:Int)==(x.2.2:Int)) (fun x=>z%(x.2.1:Int)==(x.2.2:Int)) l
 rw[yD,yD]at hc
 obtain⟨F,hF⟩:∃ F,(l.filter fun x:Nat×Nat×Nat=>y%(x.2.1:Int)==(x.2.2:Int)&&z%(x.2.1:Int)==(x.2.2:Int))=F:=⟨_,rfl⟩
 have hFs:F.Sublist l:=hF ▸ List.filter_sublist
 have hFc:∀ x∈F,y%(x.2.1:Int)=(x.2.2:Int)∧z%(x.2.1:Int)=(x.2.2:Int):=fun x hx=>by
  rw[←hF,List.mem_filter]at hx
  simpa using hx.2
 rw[hF]at hc
 have hQ:(pmL F).Sublist (pmL l):=hFs.map _
 have hb:=aSg hG he hQ (by simp only[pmL,Bm];omega)
 refine aLa (l:=pmL F) (fun q hq=>bBs hG (hQ.mem hq)) (hQ.nodup hG.nd) (fun q hq=>?_) (by omega)
 obtain⟨x,hx,rfl⟩:=AZ.1 hq
 obtain⟨h1,h2⟩:=hFc x hx
 rw[Int.sub_emod,h1,h2,Int.sub_self,Int.zero_emod]
def mkS{α:Type}(f:α→Bool):List α→Nat→Nat
 |[],_=>0
 |_::_,0=>0
 |x::l,k+1=>if f x then 1+2*mkS f l k else 2*mkS f l (k+1)
theorem aOg{α:Type}(f:α→Bool):∀(l:List α) (k:Nat),mkS f l k<2^l.length
 |[],k=>by simp[mkS]
 |x::l,0=>by simp only[mkS];exact Nat.pow_pos (by decide)
 | x::l,k+1=>by
  have h1:=aOg f l k
  have h2:=aOg f l (k+1)
  rw[Ah,BJ]
  unfold mkS
  split<;>omega
theorem vR{α:Type}:∀ l:List α,fA l 0=[]
 |[]=>rfl
 |x::l=>by simp[fA,vR l]
theorem aLn{α:Type}:∀(a b:List α) (s:Nat),s<2^a.length→fA (a++b) s=fA a s
 | [],b,s,h=>by
  have:s=0:=by simpa using h
  subst this;rw[List.nil_append,vR];rfl
 | x::a,b,s,h=>by
  have h':s/2<2^a.length:=by rw[Ah,BJ]at h;omega
  simp only[Ci,fA,aLn a b (s/2) h']
theorem aGc{α:Type}(f:α→Bool):∀(l:List α) (k:Nat),∀ x∈fA l (mkS f l k),f x=true
 |[],k,x,h=>by simp[fA]at h
 |y::l,0,x,h=>by simp only[mkS,vR]at h;cases h
 | y::l,k+1,x,h=>by
  unfold mkS at h
  by_cases hy:f y=true
  ·rw[Ar hy]at h
   simp only[fA,show(1+2*mkS f l k)%2=1 from by omega,if_true,show(1+2*mkS f l k)/2=mkS f l k from by omega,BB]at h
   rcases h with rfl|h
   ·exact hy
   ·exact aGc f l k x h
  ·rw[Aj hy]at h
   simp only[fA,show 2*mkS f l (k+1)%2=0 from by omega,show 2*mkS f l (k+1)/2=mkS f l (k+1)from by omega,Nat.zero_ne_one,if_false]at h
   exact aGc f l (k+1) x h
theorem aDa:∀ n,iN n 0=0
 |0=>rfl
 |n+1=>by simp[iN,aDa n]
theorem aGb{α:Type}(f:α→Bool):∀(l:List α) (k:Nat),k≤(l.filter f).length→iN l.length (mkS f l k)=k
 |[],k,h=>by simp at h;subst h;rfl
 |y::l,0,h=>by simp only[mkS];exact aDa _
 | y::l,k+1,h=>by
  unfold mkS
  by_cases hy:f y=true
  ·rw[Ar hy,Ah,iN,show(1+2*mkS f l k)%2=1 from by omega,show(1+2*mkS f l k)/2=mkS f l k from by omega,aGb f l k (by simp[hy]at h;exact h)]
   omega
  ·rw[Aj hy,Ah,iN,show 2*mkS f l (k+1)%2=0 from by omega,show 2*mkS f l (k+1)/2=mkS f l (k+1)from by omega,aGb f l (k+1) (by simp[hy]at h;exact h)]
   omega
theorem aLm{α β:Type}(g:α→β):∀(l:List α) (s:Nat),fA (l.map g) s=(fA l s).map g
 |[],s=>rfl
 | x::l,s=>by
  simp only[BI,fA,aLm g l]
  split<;>simp
theorem bTb{l:List (Nat×Nat×Nat)}(hG:Good l){C:List (Nat×Nat)}(hC:C.Sublist (rsL l)):aXq C where
 pr:=fun x hx=>by
  obtain⟨y,hy,rfl⟩:=AZ.1 (hC.mem hx)
  exact hG.pr y hy
 lt:=fun x hx=>by
  obtain⟨y,hy,rfl⟩:=AZ.1 (hC.mem hx)
  exact hG.ok.2 y hy
 nd:=(hC.map (·.1)).nodup (by have:=hG.nd;rwa [←aQt]at this)
theorem bSl{l:List (Nat×Nat×Nat)}(hG:Good l){b n:Nat}(he:enR b l n)(hf:2*n≤l.length){z:Int}(hz:z.natAbs≤b)(hz1:(blL z l).length≤n) :
  ∃ s,s<2^(l.length-n)∧iN (l.length-n) s=l.length-2*n∧zOf l s=z:=by
 obtain⟨f,hfe⟩:∃ f:Nat×Nat×Nat→Bool,f=fun x=>z%(x.2.1:Int)==(x.2.2:Int):=⟨_,rfl⟩
 obtain⟨s,hs⟩:∃ s,mkS f (l.take (l.length-n)) (l.length-2*n)=s:=⟨_,rfl⟩
 have hll:(l.take (l.length-n)).length=l.length-n:=by rw[AT];omega
 have hcnt:l.length-2*n≤((l.take (l.length-n)).filter f).length:=by
  have h1:=uR f f (l.take (l.length-n))
  have h2:((l.take (l.length-n)).filter fun x=>!f x).length≤n:=by
   refine AO ?_ hz1
   rw[←yD,hfe]
   exact((CY _ l).filter _).length_le
  have h3:((l.take (l.length-n)).filter fun x=>f x&&f x)=(l.take (l.length-n)).filter f:=List.filter_congr fun x _=>Bool.and_self _
  have h4:l.length-n≤(l.filter fun x=>!f x).length+((l.take (l.length-n)).filter f).length:=by
   have h5:∀ L:List (Nat×Nat×Nat),L.length≤(L.filter fun x=>!f x).length+(L.filter f).length:=fun L=>by
    induction L with
    |nil=>simp
    |cons x L ih=>cases hx:f x<;>simp[hx]<;>omega
   have h6:=h5 (l.take (l.length-n))
   have h7:=((CY (l.length-n) l).filter fun x=>!f x).length_le
   omega
  have h8:(l.filter fun x=>!f x).length≤n:=by
   rw[hfe,yD];exact hz1
  omega
 have hlt:=aOg f (l.take (l.length-n)) (l.length-2*n)
 have hbit:=aGc f (l.take (l.length-n)) (l.length-2*n)
 have hpop:=aGb f (l.take (l.length-n)) (l.length-2*n) hcnt
 rw[hll,hs]at hlt hpop
 rw[hs]at hbit
 have hbl:fA l s=fA (l.take (l.length-n)) s:=by
  have h:=aLn (l.take (l.length-n)) (l.drop (l.length-n)) s (by rw[hll];exact hlt)
  rwa [Di]at h
 refine⟨s,hlt,hpop,?_⟩
 obtain⟨T,hT⟩:∃ T,fA l s=T:=⟨_,rfl⟩
 have hTs:T.Sublist l:=hT ▸ uF l s
 have hTl:T.length=l.length-2*n:=by rw[←hT,hbl,pR,hll,hpop]
 have hTc:∀ x∈T,z%(x.2.1:Int)=(x.2.2:Int):=fun x hx=>by
  rw[←hT,hbl]at hx
  have:=hbit x hx
  rw[hfe]at this
  simpa using this
 unfold zOf
 rw[show rsL l=l.map (·.2)from rfl,aLm,hT]
 have hC:(T.map (·.2)).Sublist (rsL l):=hTs.map _
 obtain⟨h1,h2,h3⟩:=aSk (bTb hG hC)
 have hpm:(T.map (·.2)).map (·.1)=pmL T:=by simp[pmL]
 rw[hpm]at h2 h3
 have hQ:(pmL T).Sublist (pmL l):=hTs.map _
 have hb:=aSg hG he hQ (by simp only[pmL,Bm];omega)
 refine aLa (l:=pmL T) (fun q hq=>bBs hG (hQ.mem hq)) (hQ.nodup hG.nd) (fun q hq=>?_) (by omega)
 obtain⟨x,hx,rfl⟩:=AZ.1 hq
 have h4:=h1 x.2 (Dy hx)
 have h5:=hTc x hx
 rw[Int.sub_emod,h4,h5,Int.sub_self,Int.zero_emod]
abbrev Rp3:=Nat×Nat×Nat
def mO(d:Int)(ps:List Nat):List Rp3:=(AK ps.length).map fun i=>(i,ps.getD i 0,(d%(ps.getD i 0:Int)).toNat)
theorem zT(d:Int)(ps:List Nat):(mO d ps).length=ps.length:=by simp[mO]
theorem aRy(d:Int)(ps:List Nat):pmL (mO d ps)=ps:=by
 unfold pmL mO
 rw[DD]
 apply Fq (by simp)
 intro i h1 h2
 simp only[List.getElem_map,List.getElem_range,Function.comp]
 rw[Af,Ab h2];rfl
theorem bNq(d:Int)(ps:List Nat):wkL (mO d ps)=AK ps.length:=by
 unfold wkL mO
 rw[DD]
 exact(CF fun i _=>rfl).trans (List.map_id _)
theorem bFf{d:Int}{p:Nat}(hp:0<p):(d%(p:Int)).toNat<p:=by
 have h1:=Ez d (b:=(p:Int)) (by omega)
 have h2:=Int.emod_lt_of_pos d (b:=(p:Int)) (by omega)
 omega
structure Gd(d:Int)(k:Nat)(l:List Rp3):Prop where
 good:Good l
 lies:(blL d l).length≤k
theorem bPj{d:Int}{l:List Rp3}(h:∀ x∈l,d%(x.2.1:Int)=(x.2.2:Int)):blL d l=[]:=by
 unfold blL
 rw[List.filter_eq_nil_iff.2 fun x hx=>by simp[h x hx]];rfl
theorem bUh{d:Int}{ps:List Nat}(hn:ps.Nodup)(hp:∀ p∈ps,PrN p):Gd d 0 (mO d ps):=by
 have hm:∀ x∈mO d ps,x.2.1∈ps∧x.2.2=(d%(x.2.1:Int)).toNat:=fun x hx=>by
  obtain⟨i,hi,rfl⟩:=AZ.1 hx
  have hi:=CK.1 hi
  refine⟨?_,rfl⟩
  show ps.getD i 0∈ps
  rw[Af,Ab hi]
  exact BH hi
 refine⟨⟨⟨by rw[bNq];exact List.nodup_range,fun x hx=>?_⟩,by rw[aRy];exact hn,fun x hx=>hp _ (hm x hx).1⟩,?_⟩
 ·rw[(hm x hx).2];exact bFf (by have:=(hp _ (hm x hx).1).1;omega)
 ·rw[bPj fun x hx=>?_]
  ·exact AE _
  ·rw[(hm x hx).2]
   have h0:=(hp _ (hm x hx).1).1
   have:=Ez d (b:=(x.2.1:Int)) (by omega)
   omega
def xC(l:List Rp3)(y:Nat×Nat):List Rp3:=let x:=l.getD (y.1%l.length) (0,0,0);l.set (y.1%l.length) (x.1,x.2.1,(x.2.2+y.2%x.2.1)%x.2.1)
def jG(l:List Rp3)(ys:List (Nat×Nat)):List Rp3:=ys.foldl xC l
theorem bFx(l:List Rp3)(y:Nat×Nat):(xC l y).length=l.length:=by simp[xC]
theorem uB(l:List Rp3)(ys:List (Nat×Nat)):(jG l ys).length=l.length:=by
 unfold jG
 induction ys generalizing l with
 |nil=>rfl
 |cons y ys ih=>rw[List.foldl_cons,ih,bFx]
theorem aWq(l:List Rp3)(ys:List (Nat×Nat))(y:Nat×Nat):jG l (ys++[y])=xC (jG l ys) y:=by unfold jG;rw[List.foldl_append];rfl
theorem aQs{α β:Type}(f:α→β)(l:List α)(i:Nat)(x:α)(d:α)(h:f x=f (l.getD i d)):(l.set i x).map f=l.map f:=by
 apply Dp fun k=>?_
 rw[Ai,Ai,DZ]
 split
 ·rename_i e;subst e
  split
  ·rename_i hi
   rw[Af,Ab hi]at h
   rw[Ab hi];simp only[AW,h,AU]
  ·rename_i hi;rw[A6 (by omega)]
 ·rfl
theorem aHb(l:List Rp3)(y:Nat×Nat):pmL (xC l y)=pmL l:=aQs _ _ _ _ (0,0,0) rfl
theorem bOv(l:List Rp3)(y:Nat×Nat):wkL (xC l y)=wkL l:=aQs _ _ _ _ (0,0,0) rfl
theorem count_set(d:Int):∀(l:List Rp3) (i:Nat) (x:Rp3),(blL d (l.set i x)).length≤(blL d l).length+1
 |[],i,x=>by simp
 | z::l,0,x=>by
  have h1:(blL d (x::l)).length≤(blL d l).length+1:=by
   unfold blL;rw[Fx];split<;>simp
  have h2:(blL d l).length≤(blL d (z::l)).length:=by
   unfold blL;rw[Fx (x:=z)];split<;>simp
  rw[DO];omega
 | z::l,i+1,x=>by
  have ih:=count_set d l i x
  rw[E3]
  unfold blL at ih ⊢
  rw[Fx,Fx]
  split<;>simp at ih ⊢<;>omega
theorem bOw{d:Int}{k:Nat}{l:List Rp3}(h:Gd d k l)(y:Nat×Nat):Gd d (k+1) (xC l y):=by
 refine⟨⟨⟨by rw[bOv];exact h.good.ok.1,fun x hx=>?_⟩,by rw[aHb];exact h.good.nd,fun x hx=>?_⟩,AO (count_set _ _ _ _) (by have:=h.lies;omega)⟩
 ·by_cases hl:l=[]
  ·subst hl;simp[xC]at hx
  ·have hlt:y.1%l.length<l.length:=BY _ (Eb.2 hl)
   rcases ET hx with hx|rfl
   ·exact h.good.ok.2 x hx
   ·have hm:l.getD (y.1%l.length) (0,0,0)∈l:=by
     rw[Af,Ab hlt];exact BH hlt
    exact BY _ (by have:=(h.good.pr _ hm).1;omega)
 ·have:x.2.1∈pmL (xC l y):=Dy hx
  rw[aHb]at this
  exact bBs h.good this
theorem aHc{d:Int}:∀{ys:List (Nat×Nat)} {k:Nat} {l:List Rp3},Gd d k l→Gd d (k+ys.length) (jG l ys)
 |[],k,l,h=>h
 | y::ys,k,l,h=>by
  have:=aHc (ys:=ys) (bOw h y)
  rw[Ah,show k+(ys.length+1)=k+1+ys.length by omega]
  exact this
theorem bOx(l:List Rp3):∀ ys:List (Nat×Nat),pmL (jG l ys)=pmL l:=fun ys=>by
 unfold jG
 induction ys generalizing l with
 |nil=>rfl
 |cons y ys ih=>rw[List.foldl_cons,ih,aHb]
theorem aLc{l:List Rp3}{ys:List (Nat×Nat)}{x:Rp3}(h:x∈jG l ys):x.2.1∈pmL l:=by
 have:x.2.1∈pmL (jG l ys):=Dy h
 rwa [bOx]at this
def jZ(l:List Rp3)(n:Nat):List Rp3:=(AK l.length).map fun i=>l.getD ((i+n)%l.length) (0,0,0)
theorem sT(l:List Rp3)(n:Nat):(jZ l n).length=l.length:=by simp[jZ]
theorem aCo(l:List Rp3)(n:Nat):(jZ l n).Perm l:=by
 rcases Be l.length with h0|h0
 ·have:l=[]:=CJ.1 h0
  subst this;exact List.Perm.refl _
 obtain⟨m,hm⟩:∃ m,n%l.length=m:=⟨_,rfl⟩
 have hml:m<l.length:=hm ▸ BY _ h0
 have he:jZ l n=l.drop m++l.take m:=by
  apply Dp fun i=>?_
  unfold jZ
  rw[Ai]
  by_cases hi:i<l.length
  ·rw[BF hi,AW]
   have hmod:(i+n)%l.length=(i+m)%l.length:=by rw[←hm,Nat.add_mod_mod]
   rw[hmod]
   by_cases h1:i<l.length-m
   ·rw[AR (by rw[CM];exact h1),List.getElem?_drop,Ce (by omega),Nat.add_comm m i,Af,Ab (by omega)];rfl
   ·have e:(i+m)%l.length=i+m-l.length:=by
     rw[Nat.mod_eq_sub_mod (by omega),Ce (by omega)]
    rw[AM (by rw[CM];omega),CM,Bv,Ar (by omega),e,show i-(l.length-m)=i+m-l.length by omega,Af,Ab (by omega)];rfl
  ·rw[A6 (by simpa using hi),A6 (by rw[A9,CM,AT];omega)];rfl
 rw[he]
 exact List.perm_append_comm.trans (by rw[Di])
theorem bUo{d:Int}{k:Nat}{l m:List Rp3}(h:Gd d k l)(hs:m.Sublist l):Gd d k m:=by
 have hb:(blL d m).length≤(blL d l).length:=by
  unfold blL;rw[Bm,Bm];exact(hs.filter _).length_le
 exact⟨⟨⟨(hs.map _).nodup h.good.ok.1,fun x hx=>h.good.ok.2 x (hs.mem hx)⟩,(hs.map _).nodup h.good.nd,fun x hx=>h.good.pr x (hs.mem hx)⟩,AO hb h.lies⟩
theorem bNs{d:Int}{k:Nat}{l m:List Rp3}(h:Gd d k l)(hs:m.Perm l):Gd d k m:=by
 have hb:(blL d m).length=(blL d l).length:=((hs.filter _).map _).length_eq
 exact⟨⟨⟨(hs.map _).nodup_iff.2 h.good.ok.1,fun x hx=>h.good.ok.2 x (hs.mem_iff.1 hx)⟩,(hs.map _).nodup_iff.2 h.good.nd,fun x hx=>h.good.pr x (hs.mem_iff.1 hx)⟩,by rw[hb];exact h.lies⟩
def aHm(l:List Rp3):Prop:=∀ x∈l,x.2.1∈P10
theorem qP{p:Nat}(h:p∈P10):2147483477≤p∧p≤2147483647:=by
 simp only[P10,BB,Fy,Fc]at h
 omega
theorem bFe{b n:Nat}{l:List Rp3}(hb:b≤160000)(hg:aHm l)(h:b=0∨1≤l.length-2*n):enR b l n:=by
 unfold enR
 have hm:∀ p∈(kA (pmL l)).take (l.length-2*n),2147483477≤p:=fun p hp=>by
  have:=(qI (pmL l)).mem_iff.1 (Bl hp)
  obtain⟨x,hx,rfl⟩:=AZ.1 this
  exact(qP (hg x hx)).1
 have hlen:((kA (pmL l)).take (l.length-2*n)).length=l.length-2*n:=by
  rw[AT,aIc];simp only[pmL,Bm];omega
 generalize(kA (pmL l)).take (l.length-2*n)=Q at *
 rcases Q with _|⟨q,Q⟩
 ·rw[As]at hlen
  have:b=0:=by omega
  subst this;decide
 ·have h1:=hm q (AH ..)
  have h2:0<bH Q:=qL fun p hp=>by have:=hm p (AD _ hp);omega
  rw[bH]
  have:=Bg h1 h2
  omega
theorem uP{b k:Nat}(hb:b≤160000)(hk:k≤3):wpL b k=P10.take (2*k+if b=0 then 0 else 1):=by
 unfold wpL
 have h2:2*k<P10.length:=by rw[tA];omega
 obtain⟨q,hq⟩:∃ q,P10[2*k]? = some q:=⟨_,Ab h2⟩
 have hd:P10.drop (2*k)=q::P10.drop (2*k+1):=by
  rw[Ab h2]at hq
  injection hq with hq
  rw[←hq];exact(List.drop_eq_getElem_cons h2)
 have hqb:=qP (Ao hq)
 rw[hd]
 by_cases h0:b=0
 ·subst h0
  rw[Ar rfl,Nat.add_zero]
  simp[fH]
 ·rw[Aj h0,A7,hq]
  congr 1
  unfold fH
  rw[Aj (by omega)]
  rcases P10.drop (2*k+1)with _|⟨r,l⟩
  ·rfl
  ·unfold fH
   rw[Ar (by omega)];rfl
theorem bIt{b k p:Nat}(hb:b≤160000)(hk:k≤3)(h:p∈wpL b k):p∈P10:=by
 rw[uP hb hk]at h;exact Bl h
theorem bTd:P10.Nodup:=by decide
theorem bRn{b k:Nat}(hb:b≤160000)(hk:k≤3):(wpL b k).Nodup:=by
 rw[uP hb hk];exact(CY _ _).nodup bTd
theorem bIu{b k:Nat}(hb:b≤160000)(hk:k≤3):(wpL b k).length=2*k+if b=0 then 0 else 1:=by
 rw[uP hb hk,AT,tA];split<;>omega
theorem bLj{p:Nat}(h:Pr3 p):PrN p:=⟨h.1,h.2.2⟩
theorem aVa[M:Mch Aa]{p:Nat}(h:p∈P10):Spec Aa 52 [.i .u64 (p:Nat)] (.b true) :=
 bBq (b:=true) (by
  have:(P10.all fun p=>prB p==1)=true:=by kernel_rfl
  exact eq_of_beq (A4.1 this p h))
theorem aRe{p:Nat}(h:p∈P10):Pr3 p:=by
 simp only[P10,BB,Fy,Fc]at h
 rcases h with rfl|rfl|rfl|rfl|rfl|rfl|rfl|rfl|rfl|rfl
 ·exact eR (by decide) (by decide) (by decide) np0
 ·exact eR (by decide) (by decide) (by decide) np1
 ·exact eR (by decide) (by decide) (by decide) np2
 ·exact eR (by decide) (by decide) (by decide) np3
 ·exact eR (by decide) (by decide) (by decide) np4
 ·exact eR (by decide) (by decide) (by decide) np5
 ·exact eR (by decide) (by decide) (by decide) np6
 ·exact eR (by decide) (by decide) (by decide) np7
 ·exact eR (by decide) (by decide) (by decide) np8
 ·exact eR (by decide) (by decide) (by decide) np9
theorem bLn[M:Mch Aa]{p:Nat}(h:p∈P10):Spec Aa 98 [.i .u64 (p:Nat)] (.b true) :=
 aIu p true ⟨fun _=>aRe h,fun _=>rfl⟩ (by have:=qP h;omega)
theorem bLo{p:Nat}(h:p∈P10):PrN p:=bLj (aRe h)
theorem aPh[M:Mch Aa](b n:Nat)(l:List Rp3)(hb:b≤160000)(hG:Good l)(hg:aHm l)(hl:l.length≤9)(hf:2*n≤l.length)(hs:l.length-2*n≤7)(he:b=0∨1≤l.length-2*n) :
  (∃ z:Int,z.natAbs≤b∧(blL z l).length≤n∧Spec Aa 10 [bN b,dX l,.i .i64 n] (aZa z l)) ∨
  ((∀ z:Int,z.natAbs≤b→n<(blL z l).length)∧Spec Aa 10 [bN b,dX l,.i .i64 n] (vdE 201)):=by
 have hE:=bFe (n:=n) hb hg he
 have hc:=fun R h0 h1 h2=>aWr b l n 2147483647 R (Bo hb (by decide)) (by omega) (by omega) ⟨hG.ok,hG.nd⟩ (fun x hx=>aVa (hg x hx)) hf (fun x hx=>⟨hG.pr x hx,(qP (hg x hx)).2⟩) (by decide) (Bo (B4 (by decide) hs) (by decide)) h0 h1 h2
 by_cases hz:∃ z:Int,z.natAbs≤b∧(blL z l).length≤n
 ·obtain⟨z,hz,hz1⟩:=hz
  refine .inl ⟨z,hz,hz1,hc _ (fun h=>absurd hE h) (fun _ s _ hs _=>?_) fun _ hno=>?_⟩
  ·rw[aHv hG hE hz hs.2.1 hz1 hs.2.2]
  ·obtain⟨s,h1,h2,h3⟩:=bSl hG hE hf hz hz1
   refine absurd ⟨?_,by rw[h3];exact hz,by rw[h3];exact hz1⟩ (hno s h1)
   have:=qN (l.length-n) (10-(l.length-n)) s h1
   rw[show l.length-n+(10-(l.length-n))=10 from by omega]at this
   rw[this,h2]
 ·refine .inr ⟨fun z h=>?_,hc _ (fun h=>absurd hE h) (fun _ s _ hs _=>absurd ⟨_,hs.2.1,hs.2.2⟩ hz) fun _ _=>rfl⟩
  exact Nat.lt_of_not_le fun h'=>hz ⟨z,h,h'⟩
theorem aEb[M:Mch Aa](b n:Nat)(d:Int)(l:List Rp3)(hb:b≤160000)(hd:d.natAbs≤b)(hG:Gd d n l)(hg:aHm l)(hl:l.length≤9)(hf:2*n≤l.length)(hs:l.length-2*n≤7)(he:b=0∨1≤l.length-2*n) :
  Spec Aa 10 [bN b,dX l,.i .i64 n] (aZa d l):=by
 rcases aPh b n l hb hG.good hg hl hf hs he with ⟨z,h1,h2,h3⟩|⟨h1,_⟩
 ·rw[aHv hG.good (bFe hb hg he) hd h1 hG.lies h2];exact h3
 ·have:=h1 d hd
  have:=hG.lies
  omega
theorem zsq(z:Int):encZ (z*z)=bN (z.natAbs*z.natAbs):=by rw[←Int.natAbs_mul_self,dD]
theorem bWk[M:Mch Aa](z:Int)(hz:z.natAbs<2^100):Spec Aa 24 [encZ z,encZ z] (bN (z.natAbs*z.natAbs)):=by
 have h:=jI z z (szR (z:=z) (by omega)).1 (szR (z:=z) (by omega)).1
 rwa [zsq]at h
def lnS(L:List (List D))(i s:Nat):St:=StL [(0,.d (.sl L)),(2,.ptr 1 0),(3,.ptr 2 0),(4,.d (.i .i64 (i:Int)))] none [.cells 31 [.d (.b false),.nil],.cells 31 [.d (.b false),.d (aG (aM s))]]
set_option maxHeartbeats 8000000 in
set_option maxRecDepth 10000 in
theorem aUk[M:Mch Aa](v:List Int)(hl:v.length≤1000)(hb:∀ z∈v,z.natAbs≤1000000):Spec Aa 67 [fS v] (bN (sqS v)):=by
 obtain⟨L,hL,hLl,hLg⟩:=aKx v
 rw[hL]
 have hO:=rR (M:=M) (x:=0) (by omega)
 refine bI (N:=24) Tryz.func67 ?_
 simp[-ζ,-ξ,↓KW]
 refine aH hO ?_
 simp[-ζ,-ξ,↓KW,aP 0,aA,aD,aC,aE,aB]
 refine bL (τ:=Nat) (fun i=>i≤v.length) (fun i=>lnS L i (sqS (v.take i))) (fun i=>v.length-i) 0 (A8 _) ?_ ?_
 ·rw[BG]
  show ∃ ρ,Wk _ (lnS _ _ 0) ρ
  unfold lnS
  refine wkQ [1,2] ?_ ?_<;>simp[-ζ,upd,aT,Γ0]
 ·intro i hi
  by_cases hlt:i<v.length
  ·obtain⟨z,hge⟩:∃ x,v[i]? = some x:=⟨_,Ab hlt⟩
   have hLi:=hLg i _ hge
   have hLi':=cK hLi
   have hiL:i<L.length:=by omega
   have hzb:=hb z (Ao hge)
   have hM:=bWk z (Bo hzb (by decide))
   have hsb:sqS (v.take i)≤1000*(1000000*1000000):=aFc (by rw[AT];omega) fun y hy=>hb y (Bl hy)
   have hzz:z.natAbs*z.natAbs≤1000000*1000000:=Bg hzb hzb
   have hA:=xS (x:=sqS (v.take i)) (y:=z.natAbs*z.natAbs) (by omega) (by omega)
   have hT1:sqS (v.take (i+1))=sqS (v.take i)+z.natAbs*z.natAbs:=by rw[A7,hge];exact aIe z _
   rw[←hT1]at hA
   obtain⟨s1,hs1⟩:∃ s,sqS (v.take (i+1))=s:=⟨_,rfl⟩
   rw[hs1]at hA
   have hw0:Ag.wrap (i:Int)=i:=aV
   have hw1:Ag.wrap ((i:Int)+1)=((i+1:Nat):Int):=aV
   clear hT1 hsb hzz
   generalize sqS (v.take i)=s0 at *
   generalize z.natAbs*z.natAbs=q at *
   simp[-ζ,-ξ,↓KW,lnS,hiL,hLi,hLi',hw0,aA,aD,aC,aE,aB]
   refine aH hM ?_
   simp[-ζ,-ξ,↓KW,aP q,aA,aD,aC,aE,aB]
   refine aH hA ?_
   simp[-ζ,-ξ,↓KW,aP s1,hw1,aA,aD,aC,aE,aB]
   refine aN (i+1) (by omega) (by show v.length-(i+1)<v.length-i;omega) ?_
   show ∃ ρ,Wk _ (lnS _ _ _) ρ
   rw[hs1]
   unfold lnS
   refine wkQ [1,2] ?_ ?_<;>simp[-ζ,upd,aT,Γ0]
  ·have hiL:¬i<L.length:=by omega
   rw[Ax (show v.length≤i by omega)]
   generalize sqS v=s0 at *
   simp[-ζ,-ξ,↓KW,lnS,hiL]
   refine bE ?_
   simp[-ζ,-ξ,↓KW,aP s0,aA,aD,aC,aE,aB]
set_option maxHeartbeats 8000000 in
set_option maxRecDepth 10000 in
theorem aJa[M:Mch Aa](m:List Nat)(n t k:Nat)(hn:n≤100)(hm:m.length=n+1)(hg:m[n]! = t)(ht:t<4294967296)(hk:k≤31)(h1:2^k≤t)(h2:t<2^(k+1)) :
  Spec Aa 164 [.ag [.b false,aG m]] (.i .i64 ((32*n+k+1:Nat):Int)):=by
 obtain⟨L,hL,hLl,hLg⟩:=aSe m
 rw[hL]
 have hLn:=hLg n (by omega)
 rw[hg]at hLn
 have hLn':=cK hLn
 obtain⟨R,hR⟩:∃ R:Int,((32*n+k+1:Nat):Int)=R:=⟨_,rfl⟩
 rw[hR]
 have hLL:(L.length:Int)=(n:Int)+1:=by omega
 have hnL:n<L.length:=by omega
 have hw1:Ag.wrap (32*((n:Int)+1))=32*((n:Int)+1):=aV
 have hw2:Ag.wrap ((n:Int)+1-1)=n:=by rw[show(n:Int)+1-1=n by omega];exact aV
 have hw3:Ag.wrap (n:Int)=n:=aV
 have hw4:Ag.wrap (32*(n:Int))=32*(n:Int):=aV
 refine bI (N:=39) Tryz.func164 ?_
 simp[-ζ,-ξ,↓KW,hLL,hw1,hw2,hw3]
 refine bL (τ:=Unit) (fun _=>True) (fun _=>StL [(1,.ptr 1 0),(2,.d (.i .i64 0)),(3,.d (.i .i64 (32*((n:Int)+1)))),(4,.d (.i .i64 (n:Int)))] none [.cells 31 [.d (.b false),.d (.sl L)]]) (fun _=>0) () trivial ?_ ?_
 ·refine wkQ [1] ?_ ?_<;>simp[-ζ,upd,aT,Γ0]
 ·rintro⟨⟩ _
  simp[-ζ,-ξ,↓KW]
  refine bL (τ:=Nat) (fun j=>k≤j∧j≤31) (fun j=>StL [(1,.ptr 1 0),(2,.d (.i .i64 0)),(3,.d (.i .i64 (32*((n:Int)+1)-(31-(j:Int))))),(4,.d (.i .i64 (n:Int))),(5,.d (.i .i64 (j:Int)))] none [.cells 31 [.d (.b false),.d (.sl L)]]) (fun j=>j) 31 ⟨hk,AE _⟩ ?_ ?_
  ·refine wkQ [1] ?_ ?_<;>simp[-ζ,upd,aT,Γ0]
  ·rintro j ⟨hj1,hj2⟩
   have hsh:=aQp t j (by omega)
   have hx32:t/2^j<4294967296:=Bo (Nat.div_le_self ..) ht
   have hand:dJ .and false (.d (.i .u32 ((t/2^j:Nat):Int))) (.d (.i .u32 1))=some (.i .u32 ((t/2^j%2:Nat):Int)):=by
    show some (D.i .u32 (bits .and .u32 ((t/2^j:Nat):Int) 1))=_
    rw[aLt _ hx32]
   have hwj:Ag.wrap (j:Int)=j:=aV
   by_cases hjk:j=k
   ·have hz:t/2^j=1:=by
     rw[hjk]
     refine Nat.div_eq_of_lt_le ?_ ?_
     ·omega
     ·rw[BJ]at h2;omega
    rw[hz]at hsh hand
    replace hand:dJ .and false (.d (.i .u32 1)) (.d (.i .u32 1))=some (.i .u32 1):=hand
    have hwr:Ag.wrap (Ag.wrap (32*(n:Int)+(j:Int))+1)=R:=by
     rw[wrap_i64 (n:=32*(n:Int)+(j:Int)) (by omega) (by omega),←hR,hjk]
     rw[aV];omega
    simp[-ζ,-ξ,↓KW,hnL,hLn,hLn',hw3,hw4,hsh,hand,hwr]
    refine bE ?_
    simp[-ζ,-ξ,↓KW]
    refine bE ?_
    simp[-ζ,-ξ,↓KW]
   ·have hz:t/2^j=0:=C4 (A3 h2 (B4 (by decide) (by omega)))
    rw[hz]at hsh hand
    replace hand:dJ .and false (.d (.i .u32 0)) (.d (.i .u32 1))=some (.i .u32 0):=hand
    obtain⟨i,rfl⟩:∃ i,j=i+1:=⟨j-1,by omega⟩
    have hwr:Ag.wrap (32*((n:Int)+1)-(31-((i+1:Nat):Int))-1)=32*((n:Int)+1)-(31-(i:Int)):=by
     rw[aV];omega
    have hwi:Ag.wrap (((i+1:Nat):Int)-1)=i:=by rw[aV];omega
    obtain⟨J,hJ⟩:∃ J:Int,((i+1:Nat):Int)=J:=⟨_,rfl⟩
    have hJ0:(0:Int)≤J:=by omega
    rw[hJ]at hsh hwr hwi hwj ⊢
    simp[-ζ,-ξ,↓KW,hnL,hLn,hLn',hw3,hsh,hand,hwr,hwi,hwj,hJ0]
    refine aN i ⟨by omega,by omega⟩ (by omega) ?_
    refine wkQ [1] ?_ ?_<;>simp[-ζ,upd,aT,Γ0]
def rtF(a:Nat):Nat→Nat→Nat
 |0,o=>o
 |j+1,o=>if(o+2^j)*(o+2^j)≤a then rtF a j (o+2^j)else rtF a j o
theorem aNo(a:Nat):∀(j o:Nat),o*o≤a→a<(o+2^j)*(o+2^j)→rtF a j o*rtF a j o≤a∧a<(rtF a j o+1)*(rtF a j o+1)
 |0,o,h1,h2=>⟨h1,by simpa[rtF]using h2⟩
 | j+1,o,h1,h2=>by
  unfold rtF
  split
  ·rename_i h
   refine aNo a j _ h ?_
   rw[show o+2^j+2^j=o+2^(j+1)by rw[BJ];omega];exact h2
  ·exact aNo a j o h1 (by omega)
theorem bTw[M:Mch Aa](n:Nat)(hn:n<4294967296):Spec Aa 18 [aG [n],.b false] (bN n):=by rw[←dD];exact aKh n hn
theorem bAb(j:Nat)(hj:j≤31):dW .shl .u32 1 (j:Int)=some (.i .u32 ((2^j:Nat):Int)):=by
 simp only[dW,Cz]
 rw[Aj (by omega)]
 congr 2
 rw[show min (j:Int).toNat 32=j from by omega,Int.one_mul,show(2:Int)^j=((2^j:Nat):Int)from by simp]
 rw[Ei]
 have:2^j≤2^31:=B4 (by decide) hj
 generalize(2:Nat)^j=N at *
 omega
def rtS(a j o:Nat):St:=StL [(1,.ptr 1 0),(2,.ptr 2 0),(3,.d (.i .i64 0)),(4,.ptr 3 0),(5,.d (.i .i64 (oJ j)))] none [.cells 31 [.d (.b false),.d (aG (aM a))],.cells 31 [.d (.b false),.nil],.cells 31 [.d (.b false),.d (aG (aM o))]]
set_option maxHeartbeats 8000000 in
set_option maxRecDepth 10000 in
theorem bLh[M:Mch Aa](a c:Nat)(ha:a<2^60)(hc:c≤61)(hB:Spec Aa 164 [bN a] (.i .i64 (c:Nat))) :
  Spec Aa 105 [bN a] (.tp [bN (rtF a ((c+1)/2+1) 0),.i .i64 0]):=by
 obtain⟨r,hr⟩:∃ r,rtF a ((c+1)/2+1) 0=r:=⟨_,rfl⟩
 rw[hr]
 obtain⟨s,hs0,hSg⟩:=bWi a
 obtain⟨n,hn⟩:∃ n,(c+1)/2=n:=⟨_,rfl⟩
 have hn31:n≤31:=by omega
 have hw1:Ag.wrap ((c:Int)+1)=((c+1:Nat):Int):=aV
 have hw2:Ag.wrap (((c+1:Nat):Int).tdiv 2)=(n:Int):=by
  rw[C9 (by omega),aV];omega
 obtain⟨c1,hc1⟩:∃ c1:Int,((c+1:Nat):Int)=c1:=⟨_,rfl⟩
 rw[hc1]at hw1 hw2
 rw[hn]at hr
 have hp0:oJ (n+1)=(n:Int):=rW n
 refine bI (N:=44) Tryz.func105 ?_
 simp[-ζ,-ξ,↓KW,aP a,aA,aD,aC,aE,aB]
 refine aH hSg ?_
 simp[-ζ,-ξ,↓KW,hs0,aP a,aA,aD,aC,aE,aB]
 refine aH hB ?_
 simp[-ζ,-ξ,↓KW,hw1,hw2]
 refine bL (τ:=Nat×Nat) (fun x=>x.1≤n+1∧rtF a x.1 x.2=r∧x.2*x.2≤a) (fun x=>rtS a x.1 x.2) (fun x=>x.1) (n+1,0) ⟨AE _,hr,by simp⟩ ?_ ?_
 ·show ∃ ρ,Wk _ (rtS _ _ _) ρ
  unfold rtS
  refine wkQ [1,2,3] ?_ ?_<;>simp[-ζ,upd,aT,Γ0,hp0,cA,show aG []=.sl []from rfl]
  exact⟨rfl,fun a ha=>by simp[vis]at ha⟩
 ·rintro⟨j,o⟩ ⟨hj,hro,hoo⟩
  simp only at hj hro hoo
  have ho30:o<2^31:=by
   rcases AY o (2^31)with h|h
   ·exact h
   ·have:=Bg h h;omega
  rcases j with _|j
  ·have hlt:¬(0:Int)≤oJ 0:=by decide
   have hro:o=r:=hro
   subst hro
   simp[-ζ,-ξ,↓KW,rtS,hlt]
   refine bE ?_
   simp[-ζ,-ξ,↓KW,aP o,aA,aD,aC,aE,aB,eQ]
  ·have hps:=rW j
   have hj31:j≤31:=by omega
   have hq1:(j:Int).tdiv 32=0:=by rw[C9 (by omega)];omega
   have hq2:(j:Int)/32=0:=by omega
   have hr1:(j:Int).tmod 32=j:=by rw[B5 (by omega)];omega
   have hr2:(j:Int)%32=j:=by omega
   have hwj:Ag.wrap (j:Int)=j:=aV
   have hwp:Ag.wrap ((j:Int)-1)=oJ j:=by rw[aV];rfl
   have hsh:=bAb j hj31
   have h2j:2^j≤2^31:=B4 (by decide) hj31
   have hMd:=bTw (M:=M) (2^j) (by omega)
   obtain⟨q,hq⟩:∃ q,2^j=q:=⟨_,rfl⟩
   unfold rtF at hro
   rw[hq]at hsh h2j hMd hro
   have hAd:=xS (M:=M) (x:=o) (y:=q) (by omega) (by omega)
   obtain⟨x,hx⟩:∃ x,o+q=x:=⟨_,rfl⟩
   rw[hx]at hAd hro
   have hxb:x*x≤2^32*2^32:=Bg (by omega) (by omega)
   have hMl:=xR (M:=M) (x:=x) (y:=x) (by omega) (by omega)
   obtain⟨t,hCm,ht1,ht2⟩:=aQy (M:=M) (x:=x*x) (y:=a) (by omega) (by omega)
   obtain⟨y,hy⟩:∃ y,x*x=y:=⟨_,rfl⟩
   rw[hy]at hMl hCm ht1 ht2 hro
   have hm1:(1:Nat)≤maxLen:=bU (by decide)
   have hnn:(0:Int)≤(j:Int):=by omega
   have z0:Ag.wrap 0=0:=by decide
   have z1:Ag.wrap 1=1:=by decide
   have hfz:∀ H:Hp,∀ e,H 4=some (.cells e [.d (.i .u32 (q:Int))])→frz H 8 (.own 4 0 1 1)=some (aG [q]):=fun H e hH=>by
    simp[aGl,hH,chunk,aG,aRz]
   simp[-ζ,-ξ,↓KW,rtS,hps,hnn,hq1,hq2,hr1,hr2,hwj,hsh,hm1,z0,z1]
   refine bJ (ds:=[aG [q],.b false]) ?_ hMd ?_
   ·simp[-ζ,-ξ,↓KW,aG]
   simp[-ζ,-ξ,↓KW,aP q,aA,aD,aC,aE,aB]
   refine aH hAd ?_
   simp[-ζ,-ξ,↓KW,aP x,aA,aD,aC,aE,aB]
   refine aH hMl ?_
   simp[-ζ,-ξ,↓KW,aP y,aA,aD,aC,aE,aB]
   refine aH hCm ?_
   by_cases hya:y≤a
   ·have ht:=ht1.2 hya
    rw[Ar hya]at hro
    simp[-ζ,-ξ,↓KW,ht,hps,hwp,aP x,aA,aD,aC,aE,aB]
    refine aN (j,x) ⟨by omega,hro,by show x*x≤a;rw[hy];exact hya⟩ (Cj _) ?_
    show ∃ ρ,Wk _ (rtS _ _ _) ρ
    unfold rtS
    refine wkQ [1,2,3] ?_ ?_<;>simp[-ζ,upd,aT,Γ0]
   ·have ht:¬t≤0:=fun h=>hya (ht1.1 h)
    rw[Aj hya]at hro
    simp[-ζ,-ξ,↓KW,ht,hps,hwp,aA,aD,aC,aE,aB]
    refine aN (j,o) ⟨by omega,hro,hoo⟩ (Cj _) ?_
    show ∃ ρ,Wk _ (rtS _ _ _) ρ
    unfold rtS
    refine wkQ [1,2,3] ?_ ?_<;>simp[-ζ,upd,aT,Γ0]
theorem bLi[M:Mch Aa]{x y:Nat}(hx:x<2^254)(hy:y<2^254):∃ r:Int,Spec Aa 23 [bN x,bN y] (.i .i64 r)∧(r<0↔x<y):=by
 have h:=aQz (M:=M) (x:Int) (y:Int) (by omega) (by omega)
 rw[dD,dD]at h
 exact⟨_,h,by rw[aQr];omega⟩
set_option maxHeartbeats 8000000 in
set_option maxRecDepth 10000 in
theorem bWj[M:Mch Aa](a r:Nat)(ha:a<2^60)(hr:r<2^60)(hR:Spec Aa 105 [bN a] (.tp [bN r,.i .i64 0])) :
  Spec Aa 68 [bN a] (bN (if r*r<a then r+1 else r)):=by
 have hrr:r*r<2^60*2^60:=Ft hr hr
 have hMl:=xR (M:=M) (x:=r) (y:=r) (by omega) (by omega)
 obtain⟨t,hCm,ht⟩:=bLi (M:=M) (x:=r*r) (y:=a) (by omega) (by omega)
 have hAd:=xS (M:=M) (x:=r) (y:=1) (by omega) (by omega)
 have hO:=rR (M:=M) (x:=1) (by omega)
 generalize r*r=q at *
 generalize hr1:r+1=r1 at *
 refine bI (N:=20) Tryz.func68 ?_
 simp[-ζ,-ξ,↓KW,aP a,aA,aD,aC,aE,aB]
 refine aH hR ?_
 simp[-ζ,-ξ,↓KW,aP r,aA,aD,aC,aE,aB]
 refine aH hMl ?_
 simp[-ζ,-ξ,↓KW,aP q,aA,aD,aC,aE,aB]
 refine aH hCm ?_
 by_cases h:q<a
 ·have ht1:=ht.2 h
  rw[Ar h]
  simp[-ζ,-ξ,↓KW,ht1,aA,aD,aC,aE,aB]
  refine aH hO ?_
  simp[-ζ,-ξ,↓KW,aP 1,aA,aD,aC,aE,aB]
  refine aH hAd ?_
  simp[-ζ,-ξ,↓KW,aP r1,aA,aD,aC,aE,aB]
 ·have ht1:¬t<0:=fun h'=>h (ht.1 h')
  rw[Aj h]
  simp[-ζ,-ξ,↓KW,ht1,aP r,aA,aD,aC,aE,aB]
def hdS(n:Nat)(L:List (List D))(i q:Nat):St:=StL [(1,.ptr 1 0),(2,.ptr 2 0),(3,.d (.i .i64 0)),(4,.ptr 3 0),(5,.d (.i .i64 (i:Int)))] none [.cells 61 [.d (.i .i64 n),.d (.i .i64 n),.d (.sl L)],.cells 31 [.d (.b false),.nil],.cells 31 [.d (.b false),.d (aG (aM q))]]
set_option maxHeartbeats 8000000 in
set_option maxRecDepth 10000 in
theorem aFm[M:Mch Aa](n:Nat)(A:List (List Int))(b:Nat)(hn:n≤4)(hA:A.length=n)(hr:∀ v∈A,v.length=n)(hB:∀ v∈A,∀ z∈v,z.natAbs≤10)
  (hU:Spec Aa 68 [bN (bH (A.map sqS))] (bN b)):Spec Aa 26 [kW n A] (.tp [bN b,.i .i64 0]):=by
 obtain⟨L,hL,hLl,hLg⟩:∃ L,(A.map fun v=>[fS v])=L∧L.length=A.length∧∀(i:Nat) (v:List Int),A[i]? = some v→L[i]? = some [fS v]:=⟨_,rfl,by simp,fun i v h=>by rw[Ai,h];rfl⟩
 have hO:=rR (M:=M) (x:=1) (by omega)
 unfold kW
 rw[hL]
 refine bI (N:=29) Tryz.func26 ?_
 simp[-ζ,-ξ,↓KW]
 refine aH hO ?_
 simp[-ζ,-ξ,↓KW,aP 1,aA,aD,aC,aE,aB]
 refine bL (τ:=Nat) (fun i=>i≤n) (fun i=>hdS n L i (bH ((A.take i).map sqS))) (fun i=>n-i) 0 (A8 _) ?_ ?_
 ·rw[BG]
  show ∃ ρ,Wk _ (hdS _ _ _ 1) ρ
  unfold hdS
  refine wkQ [1,2,3] ?_ ?_<;>simp[-ζ,upd,aT,Γ0]
 ·intro i hi
  by_cases hlt:i<n
  ·obtain⟨v,hge⟩:∃ x,A[i]? = some x:=⟨_,Ab (by omega)⟩
   have hLi:=hLg i _ hge
   have hLi':=cK hLi
   have hiL:i<L.length:=by omega
   have hv:=Ao hge
   have hvl:=hr v hv
   have hLn:=aUk (M:=M) v (by omega) fun z hz=>AO (hB v hv z hz) (by decide)
   have hT1:(A.take (i+1)).map sqS=(A.take i).map sqS++[sqS v]:=by rw[A7,hge];simp
   have hb0:=aJe (A:=A.take i) (by rw[AT];omega) (fun w hw=>by rw[hr w (Bl hw)];exact hn) fun w hw=>hB w (Bl hw)
   have hb1:sqS v≤4*(10*10):=aFc (by omega) fun z hz=>hB v hv z hz
   have hMl:=xR (M:=M) (x:=bH ((A.take i).map sqS)) (y:=sqS v) (by omega) (by omega)
   rw[←rT,←hT1]at hMl
   obtain⟨q1,hq1⟩:∃ q1,bH ((A.take (i+1)).map sqS)=q1:=⟨_,rfl⟩
   rw[hq1]at hMl
   have hw0:Ag.wrap (i:Int)=i:=aV
   have hw1:Ag.wrap ((i:Int)+1)=((i+1:Nat):Int):=aV
   clear hT1 hb0 hb1
   generalize bH ((A.take i).map sqS)=q at *
   generalize sqS v=s at *
   simp[-ζ,-ξ,↓KW,hdS,hlt,hiL,hLi,hLi',hw0,aDd,uD,zS,aDs,aA,aD,aC,aE,aB]
   refine aH hLn ?_
   simp[-ζ,-ξ,↓KW,aP s,aA,aD,aC,aE,aB]
   refine aH hMl ?_
   simp[-ζ,-ξ,↓KW,aP q1,hw1,aA,aD,aC,aE,aB]
   refine aN (i+1) (by omega) (by show n-(i+1)<n-i;omega) ?_
   show ∃ ρ,Wk _ (hdS _ _ _ (bH ((A.take (i+1)).map sqS))) ρ
   rw[hq1]
   unfold hdS
   refine wkQ [1,2,3] ?_ ?_<;>simp[-ζ,upd,aT,Γ0]
  ·have hlt':¬(i:Int)<(n:Int):=by omega
   rw[Ax (show A.length≤i by omega)]
   generalize bH (A.map sqS)=q at *
   simp[-ζ,-ξ,↓KW,hdS,hlt,hlt']
   refine bE ?_
   simp[-ζ,-ξ,↓KW,aP q,aA,aD,aC,aE,aB]
   refine aH hU ?_
   simp[-ζ,-ξ,↓KW,aP b,aA,aD,aC,aE,aB,eQ]
theorem bBp[M:Mch Aa](a:Nat)(ha:a<2^60):∃ c:Nat,c≤61∧a<2^c∧Spec Aa 164 [bN a] (.i .i64 (c:Nat)):=by
 rcases Be a with h0|h0
 ·subst h0
  refine⟨0,by decide,by decide,?_⟩
  unfold bN
  rw[cA,aG]
  have z0:Ag.wrap 0=0:=by decide
  have z1:Ag.wrap (-1)=-1:=by decide
  refine bI (N:=39) Tryz.func164 ?_
  simp[-ζ,-ξ,↓KW,z0,z1]
  refine bL (τ:=Unit) (fun _=>True) (fun _=>StL [(1,.ptr 1 0),(2,.d (.i .i64 0)),(3,.d (.i .i64 0)),(4,.d (.i .i64 (-1)))] none [.cells 31 [.d (.b false),.d (.sl [])]]) (fun _=>0) () trivial ?_ ?_
  ·refine wkQ [1] ?_ ?_<;>simp[-ζ,upd,aT,Γ0,z0,z1]
  ·rintro⟨⟩ _
   simp[-ζ,-ξ,↓KW]
   refine bE ?_
   simp[-ζ,-ξ,↓KW]
 ·rcases AY a 4294967296 with h1|h1
  ·have hk:a.log2≤31:=by
    have:=(Nat.log2_lt (n:=a) (k:=32) (by omega)).2 (by omega)
    omega
   refine⟨32*0+a.log2+1,by omega,by rw[show 32*0+a.log2+1=a.log2+1 by omega];exact Fz,?_⟩
   have:=aJa (M:=M) [a] 0 a a.log2 (by decide) rfl rfl h1 hk (Nat.log2_self_le (by omega)) Fz
   rw[←aGx (by omega) h1]at this
   exact this
  ·obtain⟨t,ht⟩:∃ t,a/4294967296=t:=⟨_,rfl⟩
   have ht0:t≠0:=by omega
   have ht2:t<2^28:=by omega
   have hk:t.log2<28:=(Nat.log2_lt ht0).2 ht2
   have hd:aM a=[a%4294967296,t]:=by
    rw[gB (by omega),ht,aGx ht0 (by omega)]
   refine⟨32*1+t.log2+1,by omega,?_,?_⟩
   ·have h3:=Fz (n:=t)
    rw[show 32*1+t.log2+1=t.log2+1+32 by omega,E6]
    generalize 2^(t.log2+1)=X at *
    omega
   ·have:=aJa (M:=M) [a%4294967296,t] 1 t t.log2 (by decide) rfl rfl (by omega) (by omega) (Nat.log2_self_le ht0) Fz
    rw[←hd]at this
    exact this
theorem aIt[M:Mch Aa](n:Nat)(A:List (List Int))(hn:n≤4)(hA:A.length=n)(hr:∀ v∈A,v.length=n)(hB:∀ v∈A,∀ z∈v,z.natAbs≤10) :
  ∃ b:Nat,bPt (bH (A.map sqS)) b∧b≤160000∧Spec Aa 26 [kW n A] (.tp [bN b,.i .i64 0]):=by
 have hP:=aJe (by omega) (fun v hv=>by rw[hr v hv];exact hn) hB
 obtain⟨c,hc,hac,hBt⟩:=bBp (M:=M) (bH (A.map sqS)) (by omega)
 have hR:=bLh (bH (A.map sqS)) c (by omega) hc hBt
 have hok:=aNo (bH (A.map sqS)) ((c+1)/2+1) 0 (A8 _) (by
  rw[Nat.zero_add,←E6]
  exact A3 hac (B4 (by decide) (by omega)))
 generalize rtF (bH (A.map sqS)) ((c+1)/2+1) 0=r at *
 have hr60:r<2^60:=by
  rcases AY r (2^60)with h|h
  ·exact h
  ·have:=Bg h h;omega
 have hup:=bNb hok.1 hok.2
 exact⟨_,hup,bNc hup hP,aFm n A _ hn hA hr hB (bWj _ r (by omega) hr60 hR)⟩
def dRp(l:List (Nat×Nat×Nat)):List D:=(l.map fun x=>[.i .i64 (x.1:Int),.i .u64 (x.2.1:Int),.i .u64 (x.2.2:Int)]).flatten
theorem nQ(l:List (Nat×Nat×Nat)):(dRp l).length=l.length*3:=by
 unfold dRp
 induction l with
 |nil=>rfl
 |cons x l ih=>simp only[BI,List.flatten_cons,A9,ih,Ah,As];omega
theorem yC(a b:List (Nat×Nat×Nat)):dRp (a++b)=dRp a++dRp b:=by simp[dRp]
theorem aSj(w p v:Nat):dRp [(w,p,v)]=[.i .i64 w,.i .u64 p,.i .u64 v]:=rfl
theorem nP{l:List (Nat×Nat×Nat)}{n:Nat}(h:l.length=n):((dRp l).map AV.d).take (n*3)=(dRp l).map AV.d:=Ax (by rw[Bm,nQ,h];exact AE _)
theorem vP{l:List (Nat×Nat×Nat)}{n:Nat}(h:l.length=n):chunk 3 n (dRp l)=l.map fun x=>[D.i .i64 (x.1:Int),D.i .u64 (x.2.1:Int),D.i .u64 (x.2.2:Int)]:=by
 subst h
 have:=aAp (k:=3) (by decide) (l.map fun x=>[D.i .i64 (x.1:Int),D.i .u64 (x.2.1:Int),D.i .u64 (x.2.2:Int)]) (fun x hx=>by
  obtain⟨y,_,rfl⟩:=AZ.1 hx;rfl)
 rwa [Bm]at this
def bBi(R C:Nat)(V:List Int):D:=.ag [.i .u8 R,.i .u8 C,aSf V]
set_option maxHeartbeats 4000000 in
set_option maxRecDepth 10000 in
theorem aUl[M:Mch Aa](R C:Nat)(V:List Int)(hR:R<256)(hb:∀ x∈V,-128≤x∧x≤127)(hll:V.length≤9223372036854775807) :
  Spec Aa 25 [bBi R C V] (kW (R%5) (sqM V (R%5))):=by
 have hF:=aUm (M:=M) V (R%5) (by omega) hb hll
 obtain⟨L,hL,_,_⟩:=aKz V
 unfold bBi
 rw[hL]at hF ⊢
 obtain⟨n,hn⟩:∃ n,R%5=n:=⟨_,rfl⟩
 rw[hn]at hF ⊢
 have h1:(R:Int).tmod 5=n:=by rw[B5 (by omega)];omega
 have h2:(R:Int)%5=n:=by omega
 have hw:IntKind.u8.wrap (n:Int)=n:=by
  unfold EL
  simp[Cz,Ee]
  omega
 have hw2:Ag.wrap (n:Int)=n:=aV
 generalize sqM V n=A at *
 refine bI (N:=14) Tryz.func25 ?_
 simp[-ζ,-ξ,↓KW,h1,h2,hw,hw2]
 refine aH hF ?_
 simp[-ζ,-ξ,↓KW,kW]
set_option maxHeartbeats 4000000 in
set_option maxRecDepth 10000 in
theorem bBk[M:Mch Aa](n:Nat)(A:List (List Int))(hn:n≤4)(hA:A.length=n)(hAr:∀ v∈A,v.length=n)(hB:∀ v∈A,∀ z∈v,z.natAbs≤10) :
  Spec Aa 30 [kW n A] (encZ (aAk n A)):=by
 have hD:=bSs (M:=M) n A (aAk n A) hn hA hAr hB (bOr hA)
 generalize aAk n A=d at *
 unfold kW at hD ⊢
 generalize(A.map fun v=>[fS v])=L at *
 refine bI (N:=11) Tryz.func30 ?_
 simp[-ζ,-ξ,↓KW]
 refine aH hD ?_
 simp[-ζ,-ξ,↓KW,bF d,aA,aD,aC,aE,aB]
set_option maxHeartbeats 4000000 in
theorem bSt[M:Mch Aa](p a b:Nat)(hp:0<p)(ha:a<4294967296)(hb:b<4294967296):Spec Aa 76 [.i .u64 p,.i .u64 a,.i .u64 b] (.i .u64 ((a+b)%p:Nat)):=by
 have hw:Az.wrap ((a:Int)+b)=((a+b:Nat):Int):=by
  rw[Ej];omega
 obtain⟨s,hs⟩:∃ s,a+b=s:=⟨_,rfl⟩
 obtain⟨q,hq⟩:∃ q,s%p=q:=⟨_,rfl⟩
 have hqb:q<p:=by rw[←hq];exact BY _ hp
 have hqs:q≤s:=by rw[←hq];exact Nat.mod_le _ _
 rw[hs]at hw ⊢
 have h1:(s:Int).tmod p=q:=by rw[B5 (by omega),←hq];rfl
 have h2:(s:Int)%p=q:=by rw[←hq];rfl
 have hw2:Az.wrap (q:Int)=q:=by rw[Ej];omega
 have hp0:((p:Int)==0)=false:=by simp;omega
 have hp1:¬p=0:=by omega
 rw[hq]
 refine bI (N:=12) Tryz.func76 ?_
 simp[-ζ,-ξ,↓KW,hw,h1,h2,hw2,hp0,hp1]
def wkS(U:List (List D))(d:Int)(i:Nat)(T:List Rp3):St:=StL [(1,.d (.sl U)),(5,.d (.i .i64 0)),(6,.ptr 1 0),(7,.own 2 0 T.length 3),(8,.d (.i .i64 (i:Int)))] none [.cells 31 [.d (.b (decide (d<0))),.d (aG (aM d.natAbs))],.cells 78 ((dRp T).map .d)]
set_option maxHeartbeats 8000000 in
set_option maxRecDepth 10000 in
theorem bLb[M:Mch Aa](n:Nat)(A:List (List Int))(d:Int)(ps:List Nat)(hps:ps.length≤1000)(hnd:ps.Nodup)(hp:∀ p∈ps,0<p∧p≤2147483648)(hd:d.natAbs<2^256)(hP:∀ p∈ps,Spec Aa 98 [.i .u64 (p:Nat)] (.b true))
  (hV:Spec Aa 30 [kW n A] (encZ d)):Spec Aa 32 [kW n A,cM ps] (.tp [dX (mO d ps),.i .i64 0]):=by
 have hDf:=aFl (M:=M) ps (by omega) hP
 rw[BU hnd]at hDf
 obtain⟨U,hU,hUl,hUg⟩:=tX ps
 rw[hU]at hDf ⊢
 unfold kW at hV ⊢
 generalize(A.map fun v=>[fS v])=L at *
 refine bI (N:=43) Tryz.func32 ?_
 simp[-ζ,-ξ,↓KW]
 refine aH hDf ?_
 simp[-ζ,-ξ,↓KW]
 refine aH hV ?_
 simp[-ζ,-ξ,↓KW,bF d,aA,aD,aC,aE,aB]
 refine bL (τ:=Nat) (fun i=>i≤ps.length) (fun i=>wkS U d i ((mO d ps).take i)) (fun i=>ps.length-i) 0 (A8 _) ?_ ?_
 ·rw[BG]
  show ∃ ρ,Wk _ (wkS _ _ _ []) ρ
  unfold wkS
  refine wkQ [3,2] ?_ ?_<;>simp[-ζ,upd,aT,Γ0,dRp]
 ·intro i hi
  have hTl:((mO d ps).take i).length=i:=by rw[AT,zT];omega
  by_cases hlt:i<ps.length
  ·have hUi:=hUg i hlt
   have hUi':=cK hUi
   have hiU:i<U.length:=by omega
   have hpm:ps[i]! ∈ ps:=by rw[B8 ps i hlt];exact BH hlt
   obtain⟨p,hpe⟩:∃ p,ps[i]! = p:=⟨_,rfl⟩
   rw[hpe]at hUi hUi' hpm
   have hpp:=hp p hpm
   have hRd:=aUn (M:=M) p d hpp.1 hpp.2 hd
   obtain⟨v,hv⟩:∃ v:Nat,d%(p:Int)=v:=⟨(d%(p:Int)).toNat,by have:=Ez d (b:=(p:Int)) (by omega);omega⟩
   rw[hv]at hRd
   have hT1:(mO d ps).take (i+1)=(mO d ps).take i++[(i,p,v)]:=by
    rw[A7]
    congr 1
    unfold mO
    have e:ps.getD i 0=p:=by rw[Af,Ab hlt,←hpe,B8 ps i hlt];rfl
    rw[Ai,BF hlt,AW,e,hv];rfl
   have hw0:Ag.wrap (i:Int)=i:=aV
   have hw1:Ag.wrap ((i:Int)+1)=((i+1:Nat):Int):=aV
   have hbb:(i+1)*24≤140737488355328∧i+1≤1099511627776:=by omega
   generalize(mO d ps).take i=T at *
   simp[-ζ,-ξ,↓KW,wkS,hiU,hUi,hUi',hw0,aA,aD,aC,aE,aB]
   refine aH hRd ?_
   simp[-ζ,-ξ,↓KW,nQ,hTl,hbb,bU,hw0,hw1]
   refine aN (i+1) (by omega) (by show ps.length-(i+1)<ps.length-i;omega) ?_
   show ∃ ρ,Wk _ (wkS _ _ _ _) ρ
   rw[hT1]
   unfold wkS
   refine wkQ [1,4] ?_ ?_<;>simp[-ζ,upd,aT,Γ0,Bq,bQ,yC,aSj,A9,hTl]
  ·have hiU:¬i<U.length:=by omega
   rw[Ax (show(mO d ps).length≤i by rw[zT];omega)]at hTl ⊢
   generalize mO d ps=T at *
   have e1:=nP hTl
   have e2:=vP hTl
   have e3:=nQ T
   rw[hTl]at e3
   simp[-ζ,-ξ,↓KW,wkS,hiU]
   exact bE (by simp[-ζ,-ξ,↓KW,hTl,e1,e2,e3,dX,eQ])
def tuS(L:List (List D))(n i:Nat)(T:List Rp3):St:=StL [(0,.d (.sl L)),(1,.d (.i .i64 (n:Int))),(5,.own 1 0 T.length 3),(6,.d (.i .i64 (i:Int)))] none [.cells 78 ((dRp T).map .d)]
set_option maxHeartbeats 8000000 in
set_option maxRecDepth 10000 in
theorem aMr[M:Mch Aa](l:List Rp3)(n:Nat)(hl:l.length≤1000)(hn:n≤1000):Spec Aa 29 [dX l,.i .i64 n] (dX (jZ l n)):=by
 obtain⟨L,hL,hLl,hLg⟩:=mR l
 rw[hL]
 refine bI (N:=27) Tryz.func29 ?_
 simp[-ζ,-ξ,↓KW]
 refine bL (τ:=Nat) (fun i=>i≤l.length) (fun i=>tuS L n i ((jZ l n).take i)) (fun i=>l.length-i) 0 (A8 _) ?_ ?_
 ·rw[BG]
  show ∃ ρ,Wk _ (tuS _ _ _ []) ρ
  unfold tuS
  refine wkQ [1] ?_ ?_<;>simp[-ζ,upd,aT,Γ0,dRp]
 ·intro i hi
  have hTl:((jZ l n).take i).length=i:=by rw[AT,sT];omega
  by_cases hlt:i<l.length
  ·obtain⟨j,hj⟩:∃ j,(i+n)%l.length=j:=⟨_,rfl⟩
   have hjl:j<l.length:=hj ▸ BY _ (by omega)
   obtain⟨⟨w,p,v⟩,hge⟩:∃ x,l[j]? = some x:=⟨_,Ab hjl⟩
   have hLi:=hLg j _ hge
   simp only at hLi
   have hLi':=cK hLi
   have hiL:i<L.length:=by omega
   have hjL:j<L.length:=by omega
   have hT1:(jZ l n).take (i+1)=(jZ l n).take i++[(w,p,v)]:=by
    rw[A7]
    congr 1
    unfold jZ
    rw[Ai,BF hlt,AW,hj,Af,hge];rfl
   have hw0:Ag.wrap ((i:Int)+(n:Int))=((i+n:Nat):Int):=aV
   obtain⟨t,ht⟩:∃ t,i+n=t:=⟨_,rfl⟩
   rw[ht]at hw0 hj
   have hL0:((L.length:Int)==0)=false:=by rw[Dx];omega
   have hL1:¬L.length=0:=by omega
   have hL2:¬L=[]:=fun h=>by rw[h]at hL1;exact hL1 rfl
   have hr1:(t:Int).tmod (L.length:Int)=j:=by rw[B5 (by omega),←hj,hLl];rfl
   have hr2:(t:Int)%(L.length:Int)=j:=by rw[←hj,hLl];rfl
   have hwj:Ag.wrap (j:Int)=j:=aV
   have hw1:Ag.wrap ((i:Int)+1)=((i+1:Nat):Int):=aV
   have hbb:(i+1)*24≤140737488355328∧i+1≤1099511627776:=by omega
   generalize(jZ l n).take i=T at *
   simp[-ζ,-ξ,↓KW,tuS,hiL,hjL,hLi,hLi',hw0,hwj,hL0,hL1,hL2,hr1,hr2,nQ,hTl,hbb,bU,hw1]
   refine aN (i+1) (by omega) (by show l.length-(i+1)<l.length-i;omega) ?_
   show ∃ ρ,Wk _ (tuS _ _ _ _) ρ
   rw[hT1]
   unfold tuS
   refine wkQ [3] ?_ ?_<;>simp[-ζ,upd,aT,Γ0,Bq,bQ,yC,aSj,A9,hTl]
  ·have hiL:¬i<L.length:=by omega
   rw[Ax (show(jZ l n).length≤i by rw[sT];omega)]at hTl ⊢
   generalize jZ l n=T at *
   have e1:=nP hTl
   have e2:=vP hTl
   have e3:=nQ T
   rw[hTl]at e3
   simp[-ζ,-ξ,↓KW,tuS,hiL]
   exact bE (by simp[-ζ,-ξ,↓KW,hTl,e1,e2,e3,dX])
def bFb(l:List Nat):D:=.sl (l.map fun(n:Nat)=>[D.i .u8 (n:Int)])
theorem bFa(l:List Nat):∃ L,bFb l=.sl L∧L.length=l.length∧∀(i n:Nat),l[i]? = some n→L[i]? = some [.i .u8 (n:Int)]:=⟨_,rfl,by simp,fun i n h=>by rw[Ai,h];rfl⟩
theorem bEz(l:List Nat):∃ L,cM l=.sl L∧L.length=l.length∧∀(i n:Nat),l[i]? = some n→L[i]? = some [.i .u64 (n:Int)]:=⟨_,rfl,by simp,fun i n h=>by rw[Ai,h];rfl⟩
def tZ(N:Nat)(At By:List Nat)(T:Nat):D:=.ag [.i .u8 N,bFb At,cM By,.i .u8 T]
theorem bOp{T:List Rp3}{k:Nat}{w p v:Nat}(h:T[k]? = some (w,p,v)):(dRp T)[k*3+1]? = some (.i .u64 p)∧(dRp T)[k*3+2]? = some (.i .u64 v):=by
 induction T generalizing k with
 |nil=>simp at h
 | cons x T ih =>
  have e:dRp (x::T)=dRp [x]++dRp T:=by rw[←yC];rfl
  have e3:(dRp [x]).length=3:=rfl
  rcases k with _|k
  ·simp at h;subst h;exact⟨rfl,rfl⟩
  ·have:=ih (k:=k) (by simpa using h)
   rw[e,AM (by omega),AM (by omega),e3,show(k+1)*3+1-3=k*3+1 by omega,show(k+1)*3+2-3=k*3+2 by omega]
   exact this
theorem bOo{T:List Rp3}{k:Nat}{w p v u:Nat}(h:T[k]? = some (w,p,v)):(dRp T).set (k*3+2) (.i .u64 (u:Int))=dRp (T.set k (w,p,u)):=by
 induction T generalizing k with
 |nil=>simp at h
 | cons x T ih =>
  have e:∀ y T,dRp (y::T)=dRp [y]++dRp T:=fun y T=>by rw[←yC];rfl
  rcases k with _|k
  ·simp at h;subst h
   rw[DO,e,e];rfl
  ·have:=ih (k:=k) (by simpa using h)
   rw[E3,e,e _ (T.set k _),←this,Fo _ _ (by show 3≤_;omega)]
   congr 2
   show(k+1)*3+2-3=k*3+2
   omega
theorem aLb(ys:List (Nat×Nat)):jG [] ys=[]:=CJ.1 (by rw[uB];rfl)
def coS(N n tn:Nat)(A B:List (List D))(i:Nat)(T:List Rp3):St:=StL [(2,.d (.i .i64 (n:Int))),(4,.ptr 1 0),(7,.own 2 0 T.length 3),(8,.d (.i .i64 (i:Int)))] none [.cells 58 [.d (.i .u8 N),.d (.sl A),.d (.sl B),.d (.i .u8 tn)],.cells 78 ((dRp T).map .d)]
set_option maxHeartbeats 8000000 in
set_option maxRecDepth 10000 in
theorem aCd[M:Mch Aa](l:List Rp3)(N tn n:Nat)(At By:List Nat)(d:Int)(k0:Nat)(hl:l.length≤1000)(hn:n≤1000)(hA:∀ x∈At,x<256)(hB:∀ x∈By,x<18446744073709551616)
  (hAl:At.length≤9223372036854775807) (hBl:By.length≤9223372036854775807) (hG:Gd d k0 l) (hg:aHm l):Spec Aa 28 [dX l,tZ N At By tn,.i .i64 n] (dX (jG l ((At.zip By).take n))):=by
 obtain⟨L,hL,hLl,hLg⟩:=mR l
 obtain⟨A,hAe,hAL,hAg⟩:=bFa At
 obtain⟨B,hBe,hBL,hBg⟩:=bEz By
 obtain⟨Z,hZ⟩:∃ Z,(At.zip By).take n=Z:=⟨_,rfl⟩
 have hZl:Z.length=min n (min At.length By.length):=by rw[←hZ,AT,List.length_zip]
 have hZg:∀ i,i<Z.length→∃ a b,At[i]? = some a∧By[i]? = some b∧Z[i]? = some (a,b):=fun i hi=>by
  have h1:i<At.length:=by omega
  have h2:i<By.length:=by omega
  refine⟨At[i],By[i],Ab h1,Ab h2,?_⟩
  rw[←hZ,Bv,Ar (by omega),List.getElem?_zip_eq_some]
  exact⟨Ab h1,Ab h2⟩
 unfold tZ
 rw[hL,hAe,hBe,hZ]
 have hfl:(CI (CI AV.d) L).flatten=(dRp l).map AV.d:=by
  have:L=l.map fun x=>[D.i .i64 (x.1:Int),D.i .u64 (x.2.1:Int),D.i .u64 (x.2.2:Int)]:=by
   unfold dX at hL;injection hL with hL;exact hL.symm
  rw[this,dRp,List.map_flatten]
 have hok:eW 3 L=true:=by
  have:L=l.map fun x=>[D.i .i64 (x.1:Int),D.i .u64 (x.2.1:Int),D.i .u64 (x.2.2:Int)]:=by
   unfold dX at hL;injection hL with hL;exact hL.symm
  rw[this]
  rcases l with _|⟨x,l⟩<;>rfl
 have hone:(∀ x:D,x∈dRp l→one (AV.d x)=true)=True:=eq_true fun x hx=>by
  unfold dRp at hx
  obtain⟨y,hy,hx⟩:=List.mem_flatten.1 hx
  obtain⟨z,_,rfl⟩:=AZ.1 hy
  simp only[BB,Fy,Fc]at hx
  rcases hx with rfl|rfl|rfl<;>rfl
 have hbb:l.length*24≤140737488355328∧l.length≤1099511627776:=by omega
 refine bI (N:=77) Tryz.func28 ?_
 simp[-ζ,-ξ,↓KW,hLl,hfl,hbb,bU,hok,hone]
 refine bL (τ:=Nat) (fun i=>i≤Z.length) (fun i=>coS N n tn A B i (jG l (Z.take i))) (fun i=>Z.length-i) 0 (A8 _) ?_ ?_
 ·rw[BG]
  show ∃ ρ,Wk _ (coS _ _ _ _ _ _ l) ρ
  unfold coS
  refine wkQ [1,3] ?_ ?_<;>simp[-ζ,upd,aT,Γ0]
 ·intro i hi
  have hTl:(jG l (Z.take i)).length=l.length:=uB _ _
  have hfin:∀{P:Prop},(¬(i<Z.length∧l≠[]))→jG l (Z.take i)=jG l Z:=fun h=>by
   by_cases h':i<Z.length
   ·have:l=[]:=BW fun h2=>h ⟨h',h2⟩
    rw[this,aLb,aLb]
   ·rw[Ax (by omega)]
  by_cases hgo:i<Z.length∧l≠[]
  ·obtain⟨hlt,hne⟩:=hgo
   have hl0:0<l.length:=Eb.2 hne
   obtain⟨a,b,ha,hb,hz⟩:=hZg i hlt
   have hAi:=hAg i a ha
   have hAi':=cK hAi
   have hBi:=hBg i b hb
   have hBi':=cK hBi
   have hiA:i<A.length:=by omega
   have hiB:i<B.length:=by omega
   have hin:(i:Int)<(n:Int):=by omega
   have hin':i<n:=by omega
   have hGT:=aHc (ys:=Z.take i) hG
   have hgT:∀ x∈jG l (Z.take i),x.2.1∈P10:=fun x hx=>by
    obtain⟨y,hy,e⟩:=AZ.1 (aLc hx)
    rw[←e];exact hg y hy
   obtain⟨k,hk⟩:∃ k,a%l.length=k:=⟨_,rfl⟩
   have hkl:k<l.length:=hk ▸ BY _ hl0
   have hcs:jG l (Z.take (i+1))=xC (jG l (Z.take i)) (a,b):=by
    rw[A7,hz];exact aWq _ _ _
   obtain⟨T,hT⟩:∃ T,jG l (Z.take i)=T:=⟨_,rfl⟩
   rw[hT]at hcs hTl hGT hgT
   obtain⟨⟨w,p,v⟩,hge⟩:∃ x,T[k]? = some x:=⟨_,Ab (by omega)⟩
   have hmem:=Ao hge
   have hpb:=qP (hgT _ hmem)
   have hvp:=hGT.good.ok.2 _ hmem
   simp only at hpb hvp
   have hcs2:xC T (a,b)=T.set k (w,p,(v+b%p)%p):=by
    unfold xC
    simp only
    rw[hTl,hk,Af,hge];rfl
   have hbm:b%p<p:=BY _ (by omega)
   have hAd:=bSt (M:=M) p v (b%p) (by omega) (by omega) (by omega)
   obtain⟨c,hc⟩:∃ c,b%p=c:=⟨_,rfl⟩
   obtain⟨u,hu⟩:∃ u,(v+c)%p=u:=⟨_,rfl⟩
   rw[hc]at hAd hcs2 hbm
   rw[hu]at hAd hcs2
   have hc1:(b:Int).tmod (p:Int)=c:=by rw[B5 (by omega),←hc];rfl
   have hc2:(b:Int)%(p:Int)=c:=by rw[←hc];rfl
   have hk1:(a:Int).tmod (l.length:Int)=k:=by rw[B5 (by omega),←hk];rfl
   have hk2:(a:Int)%(l.length:Int)=k:=by rw[←hk];rfl
   have hwa:Ag.wrap (a:Int)=a:=wrap_i64 (by omega) (by have:=hA a (Ao ha);omega)
   have hwk:Ag.wrap (k:Int)=k:=aV
   have hwc:Az.wrap (c:Int)=c:=by rw[Ej];omega
   have hwi:Ag.wrap (i:Int)=i:=aV
   have hw1:Ag.wrap ((i:Int)+1)=((i+1:Nat):Int):=aV
   have hl1:((l.length:Int)==0)=false:=by rw[Dx];omega
   have hl2:¬l.length=0:=by omega
   have hp1:((p:Int)==0)=false:=by rw[Dx];omega
   have hp2:¬p=0:=by omega
   obtain⟨hg1,hg2⟩:=bOp hge
   have hst:=bOo (u:=u) hge
   rw[←hcs2,←hcs]at hst
   simp[-ζ,-ξ,↓KW,coS,hT,hiA,hiB,hin,hin',hTl,hl0,hAi,hAi',hBi,hBi',hl1,hl2,hne,hk1,hk2,hwa,hwk,hwc,hwi,hp1,hp2,hc1,hc2,hg1,hg2,hkl]
   refine aH hAd ?_
   have hdl:=nQ T
   rw[hTl]at hdl
   have hk3:k*3+2<l.length*3:=by omega
   have hk4:k*3+3≤l.length*3:=by omega
   have hly:lay (CI AV.d (dRp T)) (k*3+2) [AV.d (D.i .u64 (u:Int))]=CI AV.d (dRp (jG l (Z.take (i+1)))):=by
    rw[fR _ _ _ (by omega),hst]
   obtain⟨T1,hT1⟩:∃ T1,jG l (Z.take (i+1))=T1:=⟨_,rfl⟩
   have hT1l:T1.length=l.length:=by rw[←hT1];exact uB _ _
   rw[hT1]at hly
   simp[-ζ,-ξ,↓KW,hdl,hk3,hk4,hly,hw1,hkl,hTl,hl0,hwk,hwi]
   refine aN (i+1) (by omega) (by show Z.length-(i+1)<Z.length-i;omega) ?_
   show ∃ ρ,Wk _ (coS _ _ _ _ _ _ (jG l (Z.take (i+1)))) ρ
   rw[hT1]
   unfold coS
   refine wkQ [1,2] ?_ ?_<;>simp[-ζ,upd,aT,Γ0,hT1l]
  ·rw[hfin (P:=True) hgo]at hTl ⊢
   obtain⟨T,hT⟩:∃ T,jG l Z=T:=⟨_,rfl⟩
   rw[hT]at hTl ⊢
   have e1:=nP hTl
   have e2:=vP hTl
   have e3:=nQ T
   rw[hTl]at e3
   by_cases a1:i<A.length
   ·by_cases a2:i<B.length
    ·by_cases a3:i<n
     ·have hl0:l.length=0:=by
       refine CJ.2 (BW fun h=>hgo ⟨by omega,h⟩)
      rw[hl0]at hTl e1 e2 e3
      have hTn:=CJ.1 hTl
      simp[-ζ,-ξ,↓KW,coS,a1,a2,a3,hTl]
      exact bE (by simp[-ζ,-ξ,↓KW,hTl,e1,e2,e3,dX,hTn])
     ·simp[-ζ,-ξ,↓KW,coS,a1,a2,a3,hTl]
      exact bE (by simp[-ζ,-ξ,↓KW,hTl,e1,e2,e3,dX])
    ·simp[-ζ,-ξ,↓KW,coS,a1,a2,hTl]
     exact bE (by simp[-ζ,-ξ,↓KW,hTl,e1,e2,e3,dX])
   ·simp[-ζ,-ξ,↓KW,coS,a1,hTl]
    exact bE (by simp[-ζ,-ξ,↓KW,hTl,e1,e2,e3,dX])
end Go.Am
end
section
open List renaming map_map→ζ,mapM_map→ξ
open Go Go.Am Go.Proofs
namespace Go.Am
open Go.ChangeShapes Go.WideShapes Go.ChangeAt Go.RowKit
theorem bVr:Aa.cellsOf 55=3:=by kernel_rfl
theorem bRg:Aa.cellsOf 58=4:=by kernel_rfl
theorem bRe:Aa.cellsOf 5=1:=by kernel_rfl
theorem bYl:Aa.cellsOf 25=1:=by kernel_rfl
theorem bVq:Aa.cellsOf 51=1:=by kernel_rfl
theorem bVt:Aa.cellsOf 53=1:=by kernel_rfl
theorem bVs:Aa.cellsOf 56=1:=by kernel_rfl
theorem bRf:Aa.cellsOf 46=1:=by kernel_rfl
theorem bXf{α:Type}{l:List α}(h:l.length=3):∃ a b c,l=[a,b,c]:=by
 match l,h with
 |[a,b,c],_=>exact⟨a,b,c,rfl⟩
theorem bXe{α:Type}{l:List α}(h:l.length=4):∃ a b c d,l=[a,b,c,d]:=by
 match l,h with
 |[a,b,c,d],_=>exact⟨a,b,c,d,rfl⟩
section
variable {H:Type} {enc:TypeId×Value→H} {w:World} {sp:Nat→Bool} {held:Bool}
theorem aFs{cs:List Value}{x:DataW H×List MemPlace}{fuel:Nat}(h:DataW.trod enc Aa w 0 sp held fuel 5 cs=some x):∃ n:Nat,cs=[.int .u8 n]∧n<256:=by
 obtain⟨a,q1,_,w1⟩:=DataW.trod_int Tryz.underlying5 h
 have:=aYr w1
 exact⟨a.toNat,by rw[q1];congr 2;omega,by omega⟩
theorem aNw{t e:TypeId}{cs:List Value}{x:DataW H×List MemPlace}{fuel:Nat}(k:IntKind)(lo hi:Int)(ht:Aa.underlying t=some (.slice e))(he:Aa.underlying e=some (.int k))(ce:Aa.cellsOf e=1)
  (hw:∀ n:Int,(Lit.int k n).wf=true→lo≤n∧n≤hi) (hf:DataW.trod enc Aa w 0 sp held fuel t cs=some x):∃(v:Value) (m:List Int),cs=[v]∧VD (fun b=>b<w.heap.size) w (.sl (m.map fun n=>[D.i k n])) v∧(∀ n∈m,lo≤n∧n≤hi)∧m.length≤9223372036854775807:=by
 obtain⟨v,m,h1,h2,h3,h4⟩:=aVf ht (by omega) (fun n:Int=>[D.i k n]) (fun n=>lo≤n∧n≤hi) (fun fuel cs x h=>by
  obtain⟨a,q1,_,w1⟩:=DataW.trod_int he h
  subst q1
  refine⟨a,hw a w1,by simp[ce],fun k c v hk hv=>?_⟩
  rcases k with _|k
  ·simp at hk hv
   subst hk;subst hv
   exact .i _ _
  ·simp at hk) hf
 exact⟨v,m,h1,h2,h3,h4⟩
theorem bWv{k:IntKind}{m:List Int}(h:∀ n∈m,(0:Int)≤n):(m.map fun n=>[D.i k n])=(m.map FN).map fun n:Nat=>[D.i k (n:Int)]:=by
 rw[DD]
 refine CF fun n hn=>?_
 have:=h n hn
 show[D.i k n]=[D.i k ((n.toNat:Nat):Int)]
 rw[Int.toNat_of_nonneg this]
theorem bRr{n:Int}(h:(Lit.int .i8 n).wf=true):-128≤n∧n≤127:=by
 have hmin:IntKind.i8.min=-128:=rfl
 have hmax:IntKind.i8.max=127:=rfl
 simp only[Lit.wf,A1,BO]at h
 omega
theorem bIx{n:Int}(h:(Lit.int .u64 n).wf=true):0≤n∧n≤18446744073709551615:=by
 have hmin:Az.min=0:=rfl
 have hmax:Az.max=18446744073709551615:=rfl
 simp only[Lit.wf,A1,BO]at h
 omega
theorem bBw{v:Value}{d:DataW H}{ps:List MemPlace}{cs:Array Value}(hv:v=.agg cs)(h:DataW.Trod enc Aa w 0 sp held 55 v d ps) :
  ∃(R C:Nat) (V:List Int),VD (fun b=>b<w.heap.size) w (bBi R C V) v∧R<256∧(∀ x∈V,-128≤x∧x≤127)∧V.length≤9223372036854775807:=by
 subst hv
 obtain⟨fuel,hf⟩:=h
 obtain⟨xs,n,_,_,hl,hlen,hfs⟩:=DataW.trod_struct Tryz.underlying55 hf
 rw[bVr]at hl
 have h0:=hfs 0 { name := "R",type:=5,offset:=0,embedded:=false,tag := "",pkgPath := "",byteOffset:=0 } rfl
 have h1:=hfs 1 { name := "C",type:=5,offset:=1,embedded:=false,tag := "",pkgPath := "",byteOffset:=1 } rfl
 have h2:=hfs 2 { name := "V",type:=53,offset:=2,embedded:=false,tag := "",pkgPath := "",byteOffset:=8 } rfl
 obtain⟨x0,hx0⟩:∃ x,xs[0]? = some x:=⟨_,Ab (by rw[hlen];decide)⟩
 obtain⟨x1,hx1⟩:∃ x,xs[1]? = some x:=⟨_,Ab (by rw[hlen];decide)⟩
 obtain⟨x2,hx2⟩:∃ x,xs[2]? = some x:=⟨_,Ab (by rw[hlen];decide)⟩
 rw[hx0]at h0;rw[hx1]at h1;rw[hx2]at h2
 simp only[DY]at h0 h1 h2 hl
 obtain⟨cs⟩:=cs
 simp only at h0 h1 h2 hl
 obtain⟨a,b,c,rfl⟩:=bXf hl
 simp only[bRe,bVt,FW,List.drop_succ_cons,Dz,BG]at h0 h1 h2
 obtain⟨R,e0,hR⟩:=aFs h0
 obtain⟨C,e1,_⟩:=aFs h1
 obtain⟨u,V,e2,hu,hg,hL⟩:=aNw .i8 (-128) 127 Tryz.underlying53 Tryz.underlying25 bYl (fun n h=>bRr h) h2
 injection e0 with e0;injection e1 with e1;injection e2 with e2
 subst e0;subst e1;subst e2
 refine⟨R,C,V,.ag _ _ rfl fun k d v hk hv=>?_,hR,hg,hL⟩
 rcases k with _|_|_|k
 ·simp at hk hv;subst hk;subst hv;exact .i _ _
 ·simp at hk hv;subst hk;subst hv;exact .i _ _
 ·simp at hk hv;subst hk;subst hv;exact hu
 ·simp at hk
theorem bBx{v:Value}{d:DataW H}{ps:List MemPlace}{cs:Array Value}(hv:v=.agg cs)(h:DataW.Trod enc Aa w 0 sp held 58 v d ps) :
  ∃(N tn:Nat) (At By:List Nat),VD (fun b=>b<w.heap.size) w (tZ N At By tn) v∧N<256∧tn<256∧(∀ x∈At,x<256)∧(∀ x∈By,x<18446744073709551616)∧At.length≤9223372036854775807∧By.length≤9223372036854775807:=by
 subst hv
 obtain⟨fuel,hf⟩:=h
 obtain⟨xs,n,_,_,hl,hlen,hfs⟩:=DataW.trod_struct Tryz.underlying58 hf
 rw[bRg]at hl
 have h0:=hfs 0 { name := "N",type:=5,offset:=0,embedded:=false,tag := "",pkgPath := "",byteOffset:=0 } rfl
 have h1:=hfs 1 { name := "At",type:=56,offset:=1,embedded:=false,tag := "",pkgPath := "",byteOffset:=8 } rfl
 have h2:=hfs 2 { name := "By",type:=46,offset:=2,embedded:=false,tag := "",pkgPath := "",byteOffset:=32 } rfl
 have h3:=hfs 3 { name := "Turn",type:=5,offset:=3,embedded:=false,tag := "",pkgPath := "",byteOffset:=56 } rfl
 obtain⟨x0,hx0⟩:∃ x,xs[0]? = some x:=⟨_,Ab (by rw[hlen];decide)⟩
 obtain⟨x1,hx1⟩:∃ x,xs[1]? = some x:=⟨_,Ab (by rw[hlen];decide)⟩
 obtain⟨x2,hx2⟩:∃ x,xs[2]? = some x:=⟨_,Ab (by rw[hlen];decide)⟩
 obtain⟨x3,hx3⟩:∃ x,xs[3]? = some x:=⟨_,Ab (by rw[hlen];decide)⟩
 rw[hx0]at h0;rw[hx1]at h1;rw[hx2]at h2;rw[hx3]at h3
 simp only[DY]at h0 h1 h2 h3 hl
 obtain⟨cs⟩:=cs
 simp only at h0 h1 h2 h3 hl
 obtain⟨a,b,c,e,rfl⟩:=bXe hl
 simp only[bRe,bVs,bRf,FW,List.drop_succ_cons,Dz,BG]at h0 h1 h2 h3
 obtain⟨N,e0,hN⟩:=aFs h0
 obtain⟨T,e3,hT⟩:=aFs h3
 obtain⟨u,At,e1,hu,hg,hL⟩:=aNw .u8 0 255 Tryz.underlying56 Tryz.underlying5 bRe (fun n h=>aYr h) h1
 obtain⟨u',By,e2,hu',hg',hL'⟩:=aNw .u64 0 18446744073709551615 Tryz.underlying46 Tryz.underlying51 bVq (fun n h=>bIx h) h2
 injection e0 with e0;injection e1 with e1;injection e2 with e2;injection e3 with e3
 subst e0;subst e1;subst e2;subst e3
 rw[bWv fun n hn=>(hg n hn).1]at hu
 rw[bWv fun n hn=>(hg' n hn).1]at hu'
 refine⟨N,T,At.map FN,By.map FN,.ag _ _ rfl fun k d v hk hv=>?_,hN,hT,fun x hx=>?_,fun x hx=>?_,by rw[Bm];exact hL,by rw[Bm];exact hL'⟩
 ·rcases k with _|_|_|_|k
  ·simp at hk hv;subst hk;subst hv;exact .i _ _
  ·simp at hk hv;subst hk;subst hv;exact hu
  ·simp at hk hv;subst hk;subst hv;exact hu'
  ·simp at hk hv;subst hk;subst hv;exact .i _ _
  ·simp at hk
 ·obtain⟨y,hy,rfl⟩:=AZ.1 hx
  have:=hg y hy;omega
 ·obtain⟨y,hy,rfl⟩:=AZ.1 hx
  have:=hg' y hy;omega
end
end Go.Am
end
section
open List renaming map_map→ζ,mapM_map→ξ
namespace Go.Am
def bVa(ops:Array Oper)(i j:Nat):Bool:=match ops[i]? with|some o=>o.after.any fun e=>Region.binds .any e&&e.on==j|none=>false
def bQq(ops:Array Oper):Bool:=(AK ops.size).all fun i=>match ops[i]? with|some o=>o.after.all fun e=>!Region.binds .any e||decide (e.on<i)|none=>true
def unl(l:Array Bool):Nat:=l.toList.count false
theorem bJj{l:Array Bool}{i:Nat}:l.getD i true=false↔l.toList[i]? = some false:=by
 rw[Av,Array.getElem?_toList]
 cases l[i]? with
 |none=>simp
 |some b=>simp
theorem bJi{l:Array Bool}{i:Nat}(h:l.getD i true=false):unl (l.setIfInBounds i true)<unl l:=by
 rw[bJj]at h
 unfold unl
 obtain⟨hi,he⟩:=Aq.1 h
 have h1:0<l.toList.count false:=List.count_pos_iff.2 (Ao h)
 rw[Array.toList_setIfInBounds,List.count_set hi,he,Ar (by rfl),Aj (by decide)]
 omega
theorem aZe{l:Array Bool}(h:unl l=0)(i:Nat)(hi:i<l.size):l.getD i false=true:=by
 unfold unl at h
 rw[List.count_eq_zero]at h
 rw[Av,Ak hi,AU]
 cases hb:l[i]with
 |true=>rfl
 |false=>exact absurd (by rw[←hb];simp) h
theorem aWc{l:Array Bool}{i:Nat}(hi:i<l.size)(h:¬l.getD i true=false):l.getD i false=true:=by
 rw[Av,Ak hi,AU]at h ⊢
 simpa using h
section
variable {P:Program} [M:Mch P] {ops:Array Oper} {k:St→Prop}
theorem bCa(T:(Nat→Prop)→St→Prop)(hb:bQq ops=true)
  (hstep:∀(L:Nat→Prop) (i:Nat) (o:Oper),ops[i]? = some o→¬L i→(∀ j,bVa ops i j=true→L j)→∀ σ,T L σ→OWd P ops [o] σ [] (fun σ' con=>aCh σ' con (fun σ2=>T (fun j=>L j∨j=i) σ2) .mk) .mk)
  (hend:∀ L σ,(∀ i,i<ops.size→L i)→T L σ→k σ) :
  ∀(fuel:Nat) (listed:Array Bool) (σ:St),listed.size=ops.size→unl listed≤fuel→T (fun j=>listed.getD j false=true) σ→OA P ops k fuel listed σ
 | 0,listed,σ,hs,hu,hT=>by
  have hall:∀ i,i<ops.size→listed.getD i false=true:=fun i hi=>aZe (by omega) i (by omega)
  refine⟨?_,hend _ σ hall hT⟩
  refine List.eq_nil_iff_forall_not_mem.2 fun j hj=>?_
  obtain⟨h1,o,ho,_⟩:=mem_ready.1 hj
  have hj:j<ops.size:=(AQ.1 ho).1
  have h2:=hall j hj
  rw[Av,Ak (by omega)]at h1 h2
  simp at h1 h2
  rw[h1]at h2;cases h2
 | fuel+1,listed,σ,hs,hu,hT=>by
  refine⟨fun h0=>hend _ σ (fun i=>?_) hT,fun i hi=>?_⟩
  ·refine Nat.strongRecOn i fun i ih hi=>?_
   refine BW fun hno=>?_
   have hun:listed.getD i true=false:=BW fun h=>hno (aWc (by omega) h)
   have:i∈Region.ready .any ops listed:=mem_ready.2 ⟨hun,ops[i],Ak hi,fun e he hbd=>by
    have h1:=A4.1 hb i (CK.2 hi)
    rw[Ak hi]at h1
    simp only[Array.all_eq_true']at h1
    have h2:=h1 e he
    rw[hbd]at h2
    have h3:e.on<i:=by simpa using h2
    exact ih e.on h3 (by omega)⟩
   rw[h0]at this;cases this
  ·obtain⟨h1,o,ho,hall⟩:=mem_ready.1 hi
   simp only[ho]
   have hii:i<listed.size:=by rw[hs];exact(AQ.1 ho).1
   have hL:(fun j=>listed.getD j false=true∨j=i)=fun j=>(listed.setIfInBounds i true).getD j false=true:=by
    funext j
    refine propext ?_
    by_cases hji:j=i
    ·subst hji
     simp[Av,FH,hii]
    ·simp[Av,FH,hji,Ea hji]
   have h2:=hstep (fun j=>listed.getD j false=true) i o ho (fun h=>by
    rw[Av,Ak hii]at h1 h
    simp at h1 h
    rw[h1]at h;cases h) (fun j hj=>by
    unfold bVa at hj
    rw[ho]at hj
    obtain⟨e,he,hbd⟩:=Array.any_eq_true'.1 hj
    simp only[A1,beq_iff_eq]at hbd
    rw[←hbd.2];exact hall e he hbd.1) σ hT
   refine yE (fun σ' con hq=>?_) _ _ _ h2
   have hq':T (fun j=>(listed.setIfInBounds i true).getD j false=true) (fin σ' con):=hL ▸ hq
   exact bCa T hb hstep hend fuel _ _ (by rw[Array.size_setIfInBounds];exact hs) (by have:=bJi h1;omega) hq'
theorem bJa{x y:Code}{σ S:St}{Q:Exit→St→Prop}(hk:Wal P y S Q)(h:Wal P x σ fun e σ'=>match e with|.normal=>∃ ρ,Wk σ' S ρ|e=>Q e σ'):Wal P (.seq x y) σ Q :=
 xI fun G N ds a w hm hZ hd hs=>cD (h G N ds a w hm hZ hd hs) (by
  rintro e a' w' ⟨σ',hq,hs'⟩
  cases e with
  |normal=>exact⟨σ',aHr hq hk,hs'⟩
  |_=>exact⟨σ',hq,hs'⟩)
theorem bIz{id:Nat}{l:List Oper}{σ:St}{Q:Exit→St→Prop}(T:(Nat→Prop)→St→Prop)(hno:fP l=true)(hb:bQq l.toArray=true)(h0:T (fun _=>False) σ)
  (hstep:∀(L:Nat→Prop) (i:Nat) (o:Oper),l[i]? = some o→¬L i→(∀ j,bVa l.toArray i j=true→L j)→∀ σ,T L σ→OWd P l.toArray [o] σ [] (fun σ' con=>aCh σ' con (fun σ2=>T (fun j=>L j∨j=i) σ2) .mk) .mk)
  (hend:∀ L σ,(∀ i,i<l.length→L i)→T L σ→Q .normal σ):Wal P (.region id l.toArray true) σ Q:=by
 refine aYu hno ?_
 refine bCa T hb (fun L i o ho hn hd σ hT=>hstep L i o (by simpa using ho) hn hd σ hT) (fun L σ hL hT=>hend L σ (fun i hi=>hL i (by simpa using hi)) hT) _ _ _ (by simp) (by
  unfold unl;rw[Array.toList_replicate];exact AO List.count_le_length (by simp)) ?_
 have:(fun j=>(AX l.length false).getD j false=true)=fun _=>False:=by
  funext j
  refine propext ⟨fun h=>?_,fun h=>h.elim⟩
  rw[Av,Array.getElem?_replicate]at h
  split at h<;>simp at h
 rw[this];exact h0
end
end Go.Am
end
section
open List renaming map_map→ζ,mapM_map→ξ
open Go Go.Am Go.Proofs
namespace Go.Am
theorem bSf(V:List Int)(n:Nat):(sqM V n).length=n∧(∀ v∈sqM V n,v.length=n)∧∀ v∈sqM V n,∀ z∈v,z.natAbs≤10:=by
 have h:=bQi n n fun r s=>vf V (r*n+s)
 refine⟨h.len,h.row,fun v hv z hz=>?_⟩
 obtain⟨r,_,rfl⟩:=AZ.1 hv
 obtain⟨s,_,rfl⟩:=AZ.1 hz
 exact bPy V _
theorem bUm{d:Int}{ps:List Nat}(h:∀ p∈ps,p∈P10):aHm (mO d ps):=fun x hx=>by
 have:x.2.1∈pmL (mO d ps):=Dy hx
 rw[aRy]at this
 exact h _ this
theorem bUn{l:List Rp3}{ys:List (Nat×Nat)}(h:aHm l):aHm (jG l ys):=fun x hx=>by
 obtain⟨y,hy,e⟩:=AZ.1 (aLc hx)
 rw[←e];exact h y hy
theorem aYb{n:Nat}(h:n<256):IntKind.u8.wrap (n:Int)=n:=by
 unfold EL
 simp[Cz,Ee]
 omega
structure SqT(a0 a1 a2 a3 a4 a5:Nat)(R C N k m tn:Nat)(VL L A B:List (List D))(LL:Nat→Prop)(Γ:Nat→AV)(H:Hp)(n:Nat):Prop where
 b2:Γ 2=.ptr 1 0
 b3:Γ 3=.ptr 2 0
 b5:Γ 5=.d (.b true)
 s0:LL 0→Γ a0=.ag [.d (.i .u8 R),.d (.i .u8 C),.d (.sl VL)]
 s1:LL 1→Γ a1=.ag [.d (.i .i64 m),.d (.i .i64 m),.d (.sl L)]
 s2:LL 2→Γ a2=.ptr 2 0
 s3:LL 3→Γ a3=.d (.i .u8 N)
 s4:LL 4→Γ a4=.d (.i .u8 k)
 s5:LL 5→Γ a5=.d (.i .i64 k)
 s8:LL 8→Γ 7=.d (.i .i64 k)
 h1:H 1=some (.cells 55 [.d (.i .u8 R),.d (.i .u8 C),.d (.sl VL)])
 h2:H 2=some (.cells 58 [.d (.i .u8 N),.d (.sl A),.d (.sl B),.d (.i .u8 tn)])
 n0:¬LL 6→n=3
 n1:LL 6→n=4∧Γ 6=.ptr 3 0
 z3:LL 6→¬LL 7→H 3=some (.cells 61 [.d (.i .i64 0),.d (.i .i64 0),.nil])
 m3:LL 7→H 3=some (.cells 61 [.d (.i .i64 m),.d (.i .i64 m),.d (.sl L)])
 top:∀ id,n≤id→H id=none
 w7:LL 7→LL 6
theorem bTm{l:List Rp3}{L:List (List D)}(hL:dX l=.sl L):eW 3 L=true:=by
 have:L=l.map fun x=>[D.i .i64 (x.1:Int),D.i .u64 (x.2.1:Int),D.i .u64 (x.2.2:Int)]:=by
  unfold dX at hL;injection hL with hL;exact hL.symm
 rw[this]
 rcases l with _|⟨x,l⟩<;>rfl
theorem aPa{l:List Rp3}{L:List (List D)}(hL:dX l=.sl L)(m:Nat):dX (l.take m)=.sl (L.take m):=by
 have:L=l.map fun x=>[D.i .i64 (x.1:Int),D.i .u64 (x.2.1:Int),D.i .u64 (x.2.2:Int)]:=by
  unfold dX at hL;injection hL with hL;exact hL.symm
 rw[this,←List.map_take];rfl
theorem bUl{l:List Rp3}{n m:Nat}(h:aHm l):aHm ((jZ l n).take m):=fun x hx=>h x ((aCo l n).mem_iff.1 (Bl hx))
set_option maxHeartbeats 8000000 in
set_option maxRecDepth 10000 in
theorem bXg[M:Mch Aa](R C N tn:Nat)(V:List Int)(At By:List Nat)(hR:R<256)(hN:N<256)(hT:tn<256)(hb:∀ x∈V,-128≤x∧x≤127)(hll:V.length≤9223372036854775807)
  (hA:∀ x∈At,x<256) (hB:∀ x∈By,x<18446744073709551616) (hAl:At.length≤9223372036854775807) (hBl:By.length≤9223372036854775807) (hS:Spec Aa 8 [] (.b true)) :
  bVk Aa Tryz.f7 99 [bBi R C V,tZ N At By tn] (.b true):=by
 have hSq:=aUl (M:=M) R C V hR hb hll
 obtain⟨n,hn⟩:∃ n,R%5=n:=⟨_,rfl⟩
 have hn4:n≤4:=by omega
 rw[hn]at hSq
 obtain⟨a1,a2,a3⟩:=bSf V n
 generalize sqM V n=A at *
 obtain⟨b,hup,hb16,hHd⟩:=aIt (M:=M) n A hn4 a1 a2 a3
 have hdb:=bUj hn4 a1 a2 hup
 have hV:=bBk (M:=M) n A hn4 a1 a2 a3
 generalize aAk n A=d at *
 obtain⟨k,hk⟩:∃ k,N%4=k:=⟨_,rfl⟩
 have hk2:k≤3:=by omega
 have hPr:=aUj (M:=M) b k (Bo hb16 (by decide)) (by omega)
 have hpl:=bIu (b:=b) (k:=k) hb16 (by omega)
 have hpm:∀ p∈wpL b k,p∈P10:=fun p hp=>bIt hb16 (by omega) hp
 have hpn:=bRn (b:=b) (k:=k) hb16 (by omega)
 have hWk:=bLb (M:=M) n A d (wpL b k) (by rw[hpl];split<;>omega) hpn (fun p hp=>by have:=qP (hpm p hp);omega) (by omega) (fun p hp=>bLn (hpm p hp)) hV
 have hG0:=bUh (d:=d) hpn fun p hp=>bLo (hpm p hp)
 have hg0:=bUm (d:=d) hpm
 have hl0:=zT d (wpL b k)
 rw[hpl]at hl0
 generalize wpL b k=ps at *
 generalize mO d ps=l at *
 have hlb:l.length≤7∧2*k≤l.length∧(b=0∨l.length=2*k+1):=by rw[hl0];split<;>omega
 have hTu:=aMr (M:=M) l tn (by omega) (by omega)
 have hGr:=bUo (bNs hG0 (aCo l tn)) (CY (l.length-k) (jZ l tn))
 have hgr:=bUl (n:=tn) (m:=l.length-k) hg0
 have hlr:((jZ l tn).take (l.length-k)).length=l.length-k:=by rw[AT,sT];omega
 have hbr:blL d ((jZ l tn).take (l.length-k))=[]:=CJ.1 (by have:=hGr.lies;omega)
 have hC0:=aEb (M:=M) b 0 d _ hb16 hdb hGr hgr (by omega) (by omega) (by omega) (by omega)
 obtain⟨h,hh⟩:∃ h,k/2=h:=⟨_,rfl⟩
 have hCo:=aCd (M:=M) ((jZ l tn).take (l.length-k)) N tn h At By d 0 (by omega) (by omega) hA hB hAl hBl hGr hgr
 have hGc:=aHc (ys:=(At.zip By).take h) hGr
 have hgc:=bUn (ys:=(At.zip By).take h) hgr
 have hlc:=uB ((jZ l tn).take (l.length-k)) ((At.zip By).take h)
 rw[hlr]at hlc
 have hGc2:Gd d h (jG ((jZ l tn).take (l.length-k)) ((At.zip By).take h)):=⟨hGc.good,AO hGc.lies (by rw[AT];omega)⟩
 have hC1:=aEb (M:=M) b h d _ hb16 hdb hGc2 hgc (by omega) (by omega) (by omega) (by omega)
 generalize jG ((jZ l tn).take (l.length-k)) ((At.zip By).take h)=c at *
 have hSm:=bBn (M:=M) d d (AO (szR (z:=d) (by omega)).2 (by decide)) (AO (szR (z:=d) (by omega)).2 (by decide))
 rw[BU rfl]at hSm
 have h1:(N:Int).tmod 4=k:=by rw[B5 (by omega)];omega
 have h2:(N:Int)%4=k:=by omega
 have hw:IntKind.u8.wrap (k:Int)=k:=aYb (by omega)
 have hw2:Ag.wrap (k:Int)=k:=aV
 obtain⟨Lv,hLv⟩:∃ L,dX l=.sl L:=⟨_,rfl⟩
 have hLvl:Lv.length=l.length:=by
  have:Lv=l.map fun x=>[D.i .i64 (x.1:Int),D.i .u64 (x.2.1:Int),D.i .u64 (x.2.2:Int)]:=by
   unfold dX at hLv;injection hLv with hLv;exact hLv.symm
  rw[this,Bm]
 obtain⟨Lt,hLt⟩:∃ L,dX (jZ l tn)=.sl L:=⟨_,rfl⟩
 have hLtl:Lt.length=l.length:=by
  have:Lt=(jZ l tn).map fun x=>[D.i .i64 (x.1:Int),D.i .u64 (x.2.1:Int),D.i .u64 (x.2.2:Int)]:=by
   unfold dX at hLt;injection hLt with hLt;exact hLt.symm
  rw[this,Bm,sT]
 have hOk:=bTm hLt
 have hTk:=aPa hLt (l.length-k)
 have hTn:l.length=0→Lt.take (l.length-k)=[]:=fun h=>by
  have:Lt=[]:=CJ.1 (by omega)
  rw[this,List.take_nil]
 obtain⟨Lr,hLr⟩:∃ L,Lt.take (l.length-k)=L:=⟨_,rfl⟩
 rw[hLr]at hTk hTn
 obtain⟨Lc,hLc⟩:∃ L,dX c=.sl L:=⟨_,rfl⟩
 obtain⟨U,hU⟩:∃ L,cM ps=.sl L:=⟨_,rfl⟩
 obtain⟨VL,hVL⟩:∃ L,aSf V=.sl L:=⟨_,rfl⟩
 obtain⟨AL,hAL⟩:∃ L,bFb At=.sl L:=⟨_,rfl⟩
 obtain⟨BL,hBL⟩:∃ L,cM By=.sl L:=⟨_,rfl⟩
 unfold kW at hSq hHd hV hWk
 unfold bBi at hSq ⊢
 unfold tZ at hCo ⊢
 generalize(A.map fun v=>[fS v])=L at *
 unfold aZa at hC0 hC1
 rw[hbr]at hC0
 generalize dV (blL d c)=S1 at *
 have hs0:ezI (dV [])=.sl []:=rfl
 rw[hs0]at hC0
 obtain⟨SL,hSL⟩:∃ S,ezI S1=.sl S:=⟨_,rfl⟩
 rw[hSL]at hC1
 rw[hVL]at hSq ⊢
 rw[hAL,hBL]at hCo ⊢
 rw[hU]at hPr hWk
 rw[hLv]at hWk hTu
 rw[hLt]at hTu
 rw[hTk]at hC0 hCo
 rw[hLc]at hCo hC1
 refine aKl rfl rfl (by kernel_rfl) (by simp) ?_
 refine fV (by kernel_rfl) ?_
 simp[-ζ,-ξ,↓KW]
 refine fV (by kernel_rfl) ?_
 simp[-ζ,-ξ,↓KW]
 refine aH hS ?_
 simp[-ζ,-ξ,↓KW]
 refine xI (bIz (fun LL σ=>SqT 19 20 21 22 23 24 R C N k n tn VL L AL BL LL σ.Γ σ.H σ.n) (by kernel_rfl) (by kernel_rfl) ?_ ?_ ?_)
 ·refine⟨?_,?_,?_,?_,?_,?_,?_,?_,?_,?_,?_,?_,?_,?_,?_,?_,?_,?_⟩<;>simp[upd]
  intro id h
  rw[Aj (by omega),Aj (by omega)]
 ·rintro LL i o ho hn hd ⟨Γ,H,nn⟩ hT
  replace hT:SqT 19 20 21 22 23 24 R C N k n tn VL L AL BL LL Γ H nn:=hT
  obtain⟨b2,b3,b5,s0,s1,s2,s3,s4,s5,s8,g1,g2,n0,n1,z3,m3,top,w7⟩:=hT
  rcases i with _|_|_|_|_|_|_|_|_|i
  ·cases ho
   simp[-ζ,-ξ,↓KW,b2,g1]
   refine⟨?_,?_,?_,?_,?_,?_,?_,?_,?_,?_,?_,?_,?_,?_,?_,?_,?_,?_⟩<;>(try simp[upd,b2,b3,b5,g1,g2])<;>(try assumption)
  ·cases ho
   have q:=s0 (hd 0 (by kernel_rfl))
   simp[-ζ,-ξ,↓KW,q]
   refine aH hSq ?_
   simp[-ζ,-ξ,↓KW,q]
   refine⟨?_,?_,?_,?_,?_,?_,?_,?_,?_,?_,?_,?_,?_,?_,?_,?_,?_,?_⟩<;>(try simp[upd,b2,b3,b5,g1,g2])<;>(try assumption)
  ·cases ho
   simp[-ζ,-ξ,↓KW,b3]
   refine⟨?_,?_,?_,?_,?_,?_,?_,?_,?_,?_,?_,?_,?_,?_,?_,?_,?_,?_⟩<;>(try simp[upd,b2,b3,b5,g1,g2])<;>(try assumption)
  ·cases ho
   have q:=s2 (hd 2 (by kernel_rfl))
   simp[-ζ,-ξ,↓KW,q,g2]
   refine⟨?_,?_,?_,?_,?_,?_,?_,?_,?_,?_,?_,?_,?_,?_,?_,?_,?_,?_⟩<;>(try simp[upd,b2,b3,b5,g1,g2])<;>(try assumption)
  ·cases ho
   have q:=s3 (hd 3 (by kernel_rfl))
   simp[-ζ,-ξ,↓KW,q,h1,h2,hw]
   refine⟨?_,?_,?_,?_,?_,?_,?_,?_,?_,?_,?_,?_,?_,?_,?_,?_,?_,?_⟩<;>(try simp[upd,b2,b3,b5,g1,g2])<;>(try assumption)
  ·cases ho
   have q:=s4 (hd 4 (by kernel_rfl))
   simp[-ζ,-ξ,↓KW,q,hw2]
   refine⟨?_,?_,?_,?_,?_,?_,?_,?_,?_,?_,?_,?_,?_,?_,?_,?_,?_,?_⟩<;>(try simp[upd,b2,b3,b5,g1,g2])<;>(try assumption)
  ·cases ho
   have q:=n0 hn
   have q7:¬LL 7:=fun h=>hn (w7 h)
   subst q
   simp[-ζ,-ξ,↓KW]
   refine⟨?_,?_,?_,?_,?_,?_,?_,?_,?_,?_,?_,?_,?_,?_,?_,?_,?_,?_⟩<;>(try simp[upd,b2,q7,b3,b5,g1,g2])<;>(try assumption)
   all_goals first|exact hd 6 (by kernel_rfl)|exact fun id h=>by rw[Aj (by omega)];exact top id (by omega)
  ·cases ho
   obtain⟨e,q6⟩:=n1 (hd 6 (by kernel_rfl))
   have e3:=z3 (hd 6 (by kernel_rfl)) hn
   have q:=s1 (hd 1 (by kernel_rfl))
   subst e
   simp[-ζ,-ξ,↓KW,q,q6,e3]
   refine⟨?_,?_,?_,?_,?_,?_,?_,?_,?_,?_,?_,?_,?_,?_,?_,?_,?_,?_⟩<;>(try simp[upd,b2,q6,b3,b5,g1,g2])<;>(try assumption)
   all_goals first|exact hd 6 (by kernel_rfl)|exact fun id h=>by rw[Aj (by omega)];exact top id (by omega)
  ·cases ho
   have q:=s5 (hd 5 (by kernel_rfl))
   simp[-ζ,-ξ,↓KW,q]
   refine⟨?_,?_,?_,?_,?_,?_,?_,?_,?_,?_,?_,?_,?_,?_,?_,?_,?_,?_⟩<;>(try simp[upd,b2,b3,b5,g1,g2])<;>(try assumption)
  ·cases ho
 ·rintro LL ⟨Γ,H,nn⟩ hL hT
  replace hT:SqT 19 20 21 22 23 24 R C N k n tn VL L AL BL LL Γ H nn:=hT
  obtain⟨b2,b3,b5,s0,s1,s2,s3,s4,s5,s8,g1,g2,n0,n1,z3,m3,top,w7⟩:=hT
  have q8:=s8 (hL 8 (by decide))
  obtain⟨e,q6⟩:=n1 (hL 6 (by decide))
  have q3:=m3 (hL 7 (by decide))
  subst e
  refine aHr (σ2:=StL [(2,.ptr 1 0),(3,.ptr 2 0),(5,.d (.b true)),(6,.ptr 3 0),(7,.d (.i .i64 k))] none [.cells 55 [.d (.i .u8 R),.d (.i .u8 C),.d (.sl VL)],.cells 58 [.d (.i .u8 N),.d (.sl AL),.d (.sl BL),.d (.i .u8 tn)],.cells 61 [.d (.i .i64 n),.d (.i .i64 n),.d (.sl L)]]) ?_ ?_
  ·refine wkQ [1,2,3] ?_ ?_<;>simp[-ζ,upd,aT,Γ0,b2,b3,b5,q6,q8,g1,g2,q3]
  ·refine fV (by kernel_rfl) ?_
   simp[-ζ,-ξ,↓KW]
   refine aH hHd ?_
   simp[-ζ,-ξ,↓KW,aP b,aA,aD,aC,aE,aB]
   refine fV (by kernel_rfl) ?_
   simp[-ζ,-ξ,↓KW,aP b,aA,aD,aC,aE,aB]
   refine aH hPr ?_
   simp[-ζ,-ξ,↓KW]
   refine aH hWk ?_
   simp[-ζ,-ξ,↓KW]
   refine fV (by kernel_rfl) ?_
   simp[-ζ,-ξ,↓KW]
   refine bJa (S:=StL [(3,.ptr 1 0),(5,.d (.b true)),(6,.ptr 2 0),(7,.d (.i .i64 k)),(8,.ptr 3 0),(12,.d (.sl Lr))] none [.cells 58 [.d (.i .u8 N),.d (.sl AL),.d (.sl BL),.d (.i .u8 tn)],.cells 61 [.d (.i .i64 n),.d (.i .i64 n),.d (.sl L)],.cells 31 [.d (.b false),.d (aG (aM b))]]) ?_ ?_
   ·refine xJ (by kernel_rfl) ?_
    have hk1:(k:Int).tdiv 2=h:=by rw[C9 (by omega)];omega
    have hk2':(k:Int)/2=h:=by omega
    have hwh:Ag.wrap (h:Int)=h:=aV
    simp[-ζ,-ξ,↓KW,hk1,hk2',hwh]
    refine aH hC0 ?_
    simp[-ζ,-ξ,↓KW,aA,aD,aC,aE,aB]
    refine aH hCo ?_
    simp[-ζ,-ξ,↓KW,aA,aD,aC,aE,aB]
    refine aH hC1 ?_
    simp[-ζ,-ξ,↓KW,aA,aD,aC,aE,aB]
    refine aH hV ?_
    simp[-ζ,-ξ,↓KW,bF d,aA,aD,aC,aE,aB]
    refine aH hSm ?_
    simp[-ζ,-ξ,↓KW,aA,aD,aC,aE,aB]
    refine aH hV ?_
    simp[-ζ,-ξ,↓KW,bF d,aA,aD,aC,aE,aB]
    refine aH hSm ?_
    simp[-ζ,-ξ,↓KW,aA,aD,aC,aE,aB]
   ·refine xJ (by kernel_rfl) ?_
    by_cases h0:l.length=0
    ·have hv0:Lv.length=0:=by omega
     have hv1:=CJ.1 hv0
     have hr0:=hTn h0
     simp[-ζ,-ξ,↓KW,hv0,hv1]
     refine wkQ [2,3,4] ?_ ?_<;>simp[-ζ,upd,aT,Γ0,hr0]
     refine⟨by rfl,fun a ha id hid=>aQv hid (by simp) ?_⟩
     simp[vis,upd]at ha
     simp[ha]
    ·have hv0:0<Lv.length:=by omega
     have hv1:¬Lv=[]:=fun h=>by rw[h]at hv0;exact Nat.lt_irrefl _ hv0
     have hwt:Ag.wrap (tn:Int)=tn:=aV
     have hws:Ag.wrap ((Lv.length:Int)-k)=((l.length-k:Nat):Int):=by
      rw[aV];omega
     have hle:l.length-k≤Lt.length:=by omega
     obtain⟨m,hm⟩:∃ m,l.length-k=m:=⟨_,rfl⟩
     rw[hm]at hws hle hLr
     have hle':(m:Int)≤Lt.length:=by omega
     have hm0:(0:Int)≤m:=by omega
     simp[-ζ,-ξ,↓KW,hv0,hv1,hwt]
     refine aH hTu ?_
     simp[-ζ,-ξ,↓KW,hws,hle,hle',hm0,hOk,hLr]
     refine wkQ [2,3,4] ?_ ?_<;>simp[-ζ,upd,aT,Γ0]
def iv(n:Int):D:=.ag [.b false,.sl [[.i .u32 n]]]
def iv0:D:=.ag [.b false,.sl []]
def rp(w p v:Int):List D:=[.i .i64 w,.i .u64 p,.i .u64 v]
def rl4:List (List D):=[rp 0 7 5,rp 1 11 5,rp 2 13 5,rp 3 17 0]
def rl3:List (List D):=[rp 0 7 5,rp 1 11 5,rp 2 13 5]
def rl2:List (List D):=[rp 0 7 5,rp 1 11 5]
def m12:D:=.ag [.i .i64 1,.i .i64 2,.sl [[.sl [[.b false,.sl []],[.b false,.sl []]]]]]
def m00:D:=.ag [.i .i64 0,.i .i64 0,.sl []]
def vd(v:Int)(l:List Int):D:=.ag [.b false,.sl [[.i .u32 v]],.sl (l.map fun x=>[.i .i64 x])]
def vd0:D:=.ag [.b false,.sl [],.sl []]
section
variable [M:Mch Aa]
theorem kC1:Spec Aa 10 [iv 10,.sl rl4,.i .i64 1] (.tp [vd 5 [3],.i .i64 0]):=fJ (by kernel_rfl)
theorem kC2:Spec Aa 10 [iv 10,.sl rl3,.i .i64 1] (.tp [vd0,.i .i64 200]):=fJ (by kernel_rfl)
theorem kC3:Spec Aa 10 [iv 10,.sl rl2,.i .i64 0] (.tp [vd 5 [],.i .i64 0]):=fJ (by kernel_rfl)
theorem kC4:Spec Aa 10 [iv 3,.sl [rp 0 7 1,rp 1 11 2],.i .i64 0] (.tp [vd0,.i .i64 201]):=fJ (by kernel_rfl)
theorem kC5:Spec Aa 10 [iv 10,.sl rl4,.i .i64 (-1)] (.tp [vd0,.i .i64 1]):=fJ (by kernel_rfl)
theorem kC6:Spec Aa 10 [iv 10,.sl [rp 0 8 1],.i .i64 0] (.tp [vd0,.i .i64 40]):=fJ (by kernel_rfl)
theorem kBl:Spec Aa 16 [iv 5,.sl rl4] (.sl [[.i .i64 3]]):=fJ (by kernel_rfl)
theorem kRe(w p v:Int)(h:(jW Aa EP 100 20).call 36 [.i .i64 w,.i .u64 p,.i .u64 v]=some (.ag (rp w p v)):=by kernel_rfl):Spec Aa 36 [.i .i64 w,.i .u64 p,.i .u64 v] (.ag (rp w p v)):=fJ h
theorem kOf(n:Int)(h:(jW Aa EP 100 20).call 11 [.i .i64 n]=some (iv n):=by kernel_rfl):Spec Aa 11 [.i .i64 n] (iv n):=fJ h
theorem bXi:Spec Aa 11 [.i .i64 0] iv0:=fJ (by kernel_rfl)
theorem kW2:Spec Aa 27 [m12,.sl []] (.tp [.sl [],.i .i64 50]):=fJ (by kernel_rfl)
theorem kW3:Spec Aa 27 [m00,.sl [[.i .u64 5],[.i .u64 5]]] (.tp [.sl [],.i .i64 40]):=fJ (by kernel_rfl)
theorem kNu(a b:List Nat)(h:(jW Aa EP 100 20).call 20 [cM a,cM b]=some (.b true):=by kernel_rfl):Spec Aa 20 [cM a,cM b] (.b true):=fJ h
theorem kSa(v:Int)(l:List Int)(h:(jW Aa EP 100 20).call 13 [vd v l,vd v l]=some (.b true):=by kernel_rfl):Spec Aa 13 [vd v l,vd v l] (.b true):=fJ h
theorem kSR:Spec Aa 39 [.sl [rp 0 5 4,rp 1 3 2],.sl [rp 0 5 4,rp 1 3 2]] (.b true):=fJ (by kernel_rfl)
theorem kIn:Spec Aa 15 [.sl [[.i .i64 3]],.sl [[.i .i64 3]]] (.b true):=fJ (by kernel_rfl)
theorem kVa:Spec Aa 69 [mA] (.b true):=fJ (by kernel_rfl)
theorem kDi:Spec Aa 70 [.sl [[.i .u64 5],[.i .u64 3]]] (.b true):=fJ (by kernel_rfl)
theorem kR5:Spec Aa 74 [mA,.i .u64 5] (.tp [.ag [.i .u64 5,.i .u64 4],.i .i64 0]):=fJ (by kernel_rfl)
theorem kR3:Spec Aa 74 [mA,.i .u64 3] (.tp [.ag [.i .u64 3,.i .u64 2],.i .i64 0]):=fJ (by kernel_rfl)
theorem bDm:bN 0=iv0:=by
 rw[←dD];exact aWl
theorem bTz:bN 1=iv 1:=by
 rw[←dD];exact aAh (by decide) (by decide)
theorem kP1:Spec Aa 19 [iv0,.i .i64 1] (cM [2147483647,2147483629]):=by
 have h:=aEv 0 1 (by decide) (by decide)
 rwa [bDm,show wpL 0 1=[2147483647,2147483629]from by decide]at h
theorem kP2:Spec Aa 19 [iv 1,.i .i64 0] (cM [2147483647]):=by
 have h:=aEv 1 0 (by decide) (by decide)
 rwa [bTz,show wpL 1 0=[2147483647]from by decide]at h
theorem kP3:Spec Aa 19 [iv0,.i .i64 0] (cM []):=by
 have h:=aEv 0 0 (by decide) (by decide)
 rwa [bDm,show wpL 0 0=[]from by decide]at h
end
end Go.Am
end
section
open List renaming map_map→ζ,mapM_map→ξ
namespace Go.Am
open Go.Conc
inductive Dl(P:Program)(main:Bool)(I:World→Prop)(Rm:Event→Prop)(K:Nat→Goroutine→Prop):Nat→Goroutine→Prop
  |here {d:Nat} {g:Goroutine} (h:K d g):Dl P main I Rm K d g
  |step {d:Nat} {g g':Goroutine} {es:Array Event} (hs:g.status=.running) (hm:∀ e∈es,D8 e=true∨Rm e) (h:∀ w,I w→stepG P main g w=.go g' w es) (hq:Dl P main I Rm K (deafBehind d es) g'):Dl P main I Rm K d g
section
variable {P:Program} {main:Bool} {I:World→Prop} {Rm:Event→Prop} {K:Nat→Goroutine→Prop} {b:Frame} {a:Act} {k:List Item} {cs:List Frame} {d:Nat}
theorem Dl.ctl{g g':Goroutine}(hs:g.status=.running)(h:∀ w,I w→stepG P main g w=.go g' w)(hq:Dl P main I Rm K d g'):Dl P main I Rm K d g:=.step hs (by simp) h hq
theorem Dl.value{ops:Array Oper}{i:Nat}{rest:List Nat}{o:Oper}(v:Value)(ho:ops[i]? = some o)(hw:Bs o (yielded ops a.tmps)=true)(hk:b.kind≠.early)
    (hr:∀ w,I w→(execOp a.eval o).run P w=.ok (.value v) w) (he:∀ w,I w→(execOp a.eval o).events P w #[]=#[])
    (hq:Dl P main I Rm K d (G (b.at (a.put o.dst v) (.inRegion ops rest::k)) cs)):Dl P main I Rm K d (G (b.at a (.inRegion ops (i::rest)::k)) cs) :=
  .ctl rfl (fun w hI=>by rw[stepG_value ho hw hk (hr w hI)];unfold listed;rw[he w hI,seen_none]) hq
theorem Dl.unwanted{ops:Array Oper}{i:Nat}{rest:List Nat}{o:Oper}(ho:ops[i]? = some o)(hw:Bs o (yielded ops a.tmps)=false)
    (hq:Dl P main I Rm K d (G (b.at (a.put o.dst undef) (.inRegion ops rest::k)) cs)):Dl P main I Rm K d (G (b.at a (.inRegion ops (i::rest)::k)) cs) :=
  .ctl rfl (fun _ _=>stepG_unwanted ho hw) hq
theorem Dl.enter{ops:Array Oper}{i:Nat}{rest:List Nat}{o:Oper}{f:FuncId}{args:Array Value}(ho:ops[i]? = some o)(hw:Bs o (yielded ops a.tmps)=true)(hk:b.kind≠.early)
    (hr:∀ w,I w→(execOp a.eval o).run P w=.ok (.enter f args) w) (he:∀ w,I w→(execOp a.eval o).events P w #[]=#[])
    (hq:Dl P main I Rm K d (G (Frame.enter P f args .normal) (b.at a (.inRegion ops (i::rest)::k)::cs))):Dl P main I Rm K d (G (b.at a (.inRegion ops (i::rest)::k)) cs) :=
  .ctl rfl (fun w hI=>by rw[stepG_enter ho hw hk (hr w hI)];unfold listed;rw[he w hI,seen_none]) hq
theorem Dl.leave0{fn:Func}{todo:List Item}{b₀:Frame}{a₀:Act}{ops:Array Oper}{i:Nat}{rest:List Nat}(hn:b.kind=.normal)(hd:a.defers=[])(hf:P.funcs[b.fn]? = some fn)(hr:fn.results=#[])
    (hq:Dl P main I Rm K d (G (b₀.at (a₀.put ((ops[i]?).bind (·.dst)) (.tuple #[])) (.inRegion ops rest::k)) cs)) :
    Dl P main I Rm K d (G { b.at a todo with mode:=.returning } (b₀.at a₀ (.inRegion ops (i::rest)::k)::cs)) :=
  .ctl rfl (fun w _=>by rw[stepG_leave hn hd hf (results_none hr _ P w) (events_results_none hr _ _),DU]) hq
theorem Dl.leave1{fn:Func}{todo:List Item}{b₀:Frame}{a₀:Act}{ops:Array Oper}{i:Nat}{rest:List Nat}{t:Tmp}(hn:b.kind=.normal)(hd:a.defers=[])(hf:P.funcs[b.fn]? = some fn)(hr:fn.results=#[.tmp t])
    (hq:Dl P main I Rm K d (G (b₀.at (a₀.put ((ops[i]?).bind (·.dst)) (a.tmps.getD t undef)) (.inRegion ops rest::k)) cs)) :
    Dl P main I Rm K d (G { b.at a todo with mode:=.returning } (b₀.at a₀ (.inRegion ops (i::rest)::k)::cs)) :=
  .ctl rfl (fun w _=>by rw[stepG_leave hn hd hf (results_tmp hr _ P w) (events_results_tmp hr _ _),DU]) hq
theorem Dl.call{ops:Array Oper}{i:Nat}{rest:List Nat}{o:Oper}{f:FuncId}{fn:Func}{c:Code}{args:Array Operand}{ats:Array TypeId}
    (ho:ops[i]? = some o) (hw:Bs o (yielded ops a.tmps)=true) (hk:b.kind≠.early) (hop:o.op=.call { callee:=.value (.func f),args,argTypes:=ats })
    (hf:P.funcs[f]? = some fn) (hname:(fn.name == "runtime.NumGoroutine")=false) (hb:fn.body=some c)
    (hq:Dl P main I Rm K d (G ((base f).at { tmps:=args.map a.eval++AX (fn.ntmps-(args.map a.eval).size) undef,defers:=[] } [.code c]) (b.at a (.inRegion ops (i::rest)::k)::cs))) :
    Dl P main I Rm K d (G (b.at a (.inRegion ops (i::rest)::k)) cs):=by
  have hb':fn.body.isNone=false:=by rw[hb];rfl
  refine .ctl rfl (fun w _=>?_) hq
  rw[stepG_enter ho hw hk (run_call_body hop hf hname hb'),enter_at _ hf hb]
  have:listed P b.fn a o w=#[]:=by unfold listed;rw[events_call_body hop hf hname hb'];exact seen_none P _
  rw[this]
theorem Dl.unwind_mark{fn:Func}{f:FuncId}{todo:List Item}{ds:List Deferred}(m:Mark)(hm:D8 ⟨.mark m,false,true⟩=true)(hx:∀ g,m≠.extern g)(hd:a.defers=dcall f #[]::ds)
    (hf:P.funcs[f]? = some fn) (hname:(fn.name == "runtime.NumGoroutine")=false) (hb:fn.body.isNone=true) (hn:Extern.findNext fn=none)
    (he:Extern.find fn=some (fun _=>do mark m;pure Extern.Race.none_))
    (hq:Dl P main I Rm K (deafBehind d #[⟨.mark m,false,true⟩]) (G { b.at ⟨a.tmps,ds⟩ todo with mode:=.returning } cs)):Dl P main I Rm K d (G { b.at a todo with mode:=.returning } cs) :=
  .step rfl (by intro e h;simp at h;subst h;exact .inl hm) (fun w _=>stepG_unwind_entry (v:=.tuple #[]) hd hf hname hb hn he (by simp[Extern.Race.none_]) (by simp) (by
    intro x hx'
    simp at hx'
    subst hx'
    exact⟨rfl,fun g h=>hx g (Loc.mark.inj h)⟩)) hq
theorem Dl.leaveD{fn:Func}{todo:List Item}{c:Frame}(hn:b.kind=.deferred)(hd:a.defers=[])(hf:P.funcs[b.fn]? = some fn)(hr:fn.results=#[])(hc:c.mode=.returning)
    (hq:Dl P main I Rm K d (G c cs)):Dl P main I Rm K d (G { b.at a todo with mode:=.returning } (c::cs)) :=
  .ctl rfl (fun w _=>stepG_leave_deferred hn hd hf (results_none hr _ P w) (events_results_none hr _ _) hc) hq
theorem Dl.done(h:Dl P main I Rm K d (G { b.at a []with mode:=.returning } cs)):Dl P main I Rm K d (G (b.at a []) cs):=.ctl rfl (fun _ _=>stepG_end) h
theorem Dl.seq{x y:Code}(h:Dl P main I Rm K d (G (b.at a (.code x::.code y::k)) cs)):Dl P main I Rm K d (G (b.at a (.code (.seq x y)::k)) cs):=.ctl rfl (fun _ _=>stepG_seq) h
theorem Dl.skip(h:Dl P main I Rm K d (G (b.at a k) cs)):Dl P main I Rm K d (G (b.at a (.code .skip::k)) cs):=.ctl rfl (fun _ _=>stepG_skip) h
theorem Dl.region{id:Nat}{ops:Array Oper}(h:Dl P main I Rm K d (G (b.at a (.inRegion ops (AK ops.size)::k)) cs)):Dl P main I Rm K d (G (b.at a (.code (.region id ops false)::k)) cs):=.ctl rfl (fun _ _=>stepG_region) h
theorem Dl.regionEnd{ops:Array Oper}(h:Dl P main I Rm K d (G (b.at a k) cs)):Dl P main I Rm K d (G (b.at a (.inRegion ops []::k)) cs):=.ctl rfl (fun _ _=>stepG_region_end) h
theorem Dl.cond{c:Operand}{x y:Code}(t:Bool)(hc:a.eval c=.bool t)(h:Dl P main I Rm K d (G (b.at a (.code (if t then x else y)::k)) cs)):Dl P main I Rm K d (G (b.at a (.code (.cond c x y)::k)) cs):=.ctl rfl (fun _ _=>stepG_cond hc) h
theorem Dl.block{id:Nat}{c:Code}(h:Dl P main I Rm K d (G (b.at a (.code c::.inBlock id::k)) cs)):Dl P main I Rm K d (G (b.at a (.code (.block id c)::k)) cs):=.ctl rfl (fun _ _=>stepG_block) h
theorem Dl.inBlock{id:Nat}(h:Dl P main I Rm K d (G (b.at a k) cs)):Dl P main I Rm K d (G (b.at a (.inBlock id::k)) cs):=.ctl rfl (fun _ _=>stepG_inBlock) h
theorem Dl.loop{c:Code}(h:Dl P main I Rm K d (G (b.at a (.code c::.inLoop c::k)) cs)):Dl P main I Rm K d (G (b.at a (.code (.loop c)::k)) cs):=.ctl rfl (fun _ _=>stepG_loop) h
theorem Dl.inLoop{c:Code}(h:Dl P main I Rm K d (G (b.at a (.code c::.inLoop c::k)) cs)):Dl P main I Rm K d (G (b.at a (.inLoop c::k)) cs):=.ctl rfl (fun _ _=>stepG_inLoop) h
theorem Dl.exit{id:Nat}{k':List Item}(hx:exitTo id k=some k')(h:Dl P main I Rm K d (G (b.at a k') cs)):Dl P main I Rm K d (G (b.at a (.code (.exit id)::k)) cs):=.ctl rfl (fun _ _=>stepG_exit hx) h
theorem Dl.ret(h:Dl P main I Rm K d (G { b.at a (.code .ret::k)with mode:=.returning } cs)):Dl P main I Rm K d (G (b.at a (.code .ret::k)) cs):=.ctl rfl (fun _ _=>stepG_ret') h
def DlN(P:Program)(main:Bool)(I:World→Prop)(Rm:Event→Prop)(K:Nat→Goroutine→Prop):Nat→Nat→Goroutine→Prop
  |0,d,g=>K d g
  |n+1,d,g=>K d g∨(g.status=.running∧∃ g' es,(∀ e∈es,D8 e=true∨Rm e)∧(∀ w,I w→stepG P main g w=.go g' w es)∧DlN P main I Rm K n (deafBehind d es) g')
theorem Dl.count{g:Goroutine}(h:Dl P main I Rm K d g):∃ n,DlN P main I Rm K n d g:=by
  induction h with
  |here h=>exact⟨0,h⟩
  |step hs hm h _ ih=>obtain⟨n,ih⟩:=ih;exact⟨n+1,.inr ⟨hs,_,_,hm,h,ih⟩⟩
theorem DlN.cases{n:Nat}{g:Goroutine}(h:DlN P main I Rm K n d g):K d g∨∃ m,n=m+1∧g.status=.running∧∃ g' es,(∀ e∈es,D8 e=true∨Rm e)∧(∀ w,I w→stepG P main g w=.go g' w es)∧DlN P main I Rm K m (deafBehind d es) g':=by
  cases n with
  |zero=>exact .inl h
  |succ n=>exact h.imp id fun x=>⟨n,rfl,x⟩
theorem Dl.mono{K':Nat→Goroutine→Prop}(hK:∀ d g,K d g→K' d g){g:Goroutine}(h:Dl P main I Rm K d g):Dl P main I Rm K' d g:=by
  induction h with
  |here h=>exact .here (hK _ _ h)
  |step hs hm h _ ih=>exact .step hs hm h ih
theorem Dl.bind{K':Nat→Goroutine→Prop}(hK:∀ d g,K d g→Dl P main I Rm K' d g){g:Goroutine}(h:Dl P main I Rm K d g):Dl P main I Rm K' d g:=by
  induction h with
  |here h=>exact hK _ _ h
  |step hs hm h _ ih=>exact .step hs hm h ih
theorem Dl.quits{g:Goroutine}(h:Dl P false (fun _=>True) (fun _=>False) (fun d g=>∃ n,QuitsD P n d g) d g):∃ n,QuitsD P n d g:=by
  induction h with
  |here h=>exact h
  |step hs hm h _ ih=>obtain⟨n,ih⟩:=ih;exact⟨n+1,.inr ⟨hs,_,_,fun e he=>(hm e he).resolve_right id,fun w=>h w trivial,ih⟩⟩
end
end Go.Am
end
section
open List renaming map_map→ζ,mapM_map→ξ
namespace Go.Am
open Go.Conc
inductive Tr where
  |leaf
  |node (f:World×World→Tr)
def sL(a b:Tr):Prop:=∃ f p,b=.node f∧a=f p
theorem aHy(t:Tr):Acc sL t:=by
  induction t with
  |leaf=>exact⟨_,fun y ⟨f,p,h,_⟩=>by cases h⟩
  |node f ih=>exact⟨_,fun y ⟨g,p,h,e⟩=>by cases h;exact e ▸ ih p⟩
def Tr.nat:Nat→Tr
  |0=>.leaf
  |n+1=>.node fun _=>Tr.nat n
theorem qG(f:World×World→Tr)(p:World×World):sL (f p) (.node f):=⟨f,p,rfl,rfl⟩
theorem iP(n:Nat):sL (Tr.nat n) (Tr.nat (n+1)):=⟨_,default,rfl,rfl⟩
def Tr.up(t:Tr):Tr:=.node fun _=>t
structure aBh(Rm:Event→Prop)(v w v' w':World)(es:Array Event):Prop where
  sim:Sim v' w'
  ok:OkV v'
  ext:Ext v v'
  rest:vX v w w'
  evs:∀ e∈es,EvV v' e∨D8 e=true∨Rm e
theorem vW.q{Rm:Event→Prop}{v w v' w':World}{es:Array Event}(h:vW v w v' w' es):aBh Rm v w v' w' es:=⟨h.sim,h.ok,h.ext,h.rest,fun e he=>.inl (h.evs e he)⟩
def GT(P:Program)(main:Bool)(I:World→Prop)(Rm:Event→Prop)(Stop:Nat→Goroutine→World→Prop):Tr→Nat→Goroutine→World→Prop
  |.leaf,d,g,v=>Stop d g v
  | .node f,d,g,v=>g.status=.running∧OkV v∧∀ v1 w,Env v v1→Sim v1 w→I w →
      ∃ g' v' w' es,stepG P main g w=.go g' w' es∧aBh Rm v1 w v' w' es∧GT P main I Rm Stop (f (v1,w)) (deafBehind d es) g' v'
def aXu(Stop:Nat→Goroutine→World→Prop):Prop:=∀ d g v v1,Stop d g v→Env v v1→Stop d g v1
theorem bOc{v:World}{e:Event}(h:EvV v e):e.loc≠.mark .disable∧e.loc≠.mark .enable:=by
  rcases h with ⟨a,c,t,f,h1,_⟩|⟨r,o,h1,_⟩|rfl
  · rw[h1];exact⟨by simp,by simp⟩
  · rw[h1];exact⟨by simp,by simp⟩
  · exact⟨by simp,by simp⟩
section
variable {P:Program} {main:Bool} {I:World→Prop} {Rm:Event→Prop} {Stop:Nat→Goroutine→World→Prop}
theorem GT.env(hS:aXu Stop){tr:Tr}{d:Nat}{g:Goroutine}{v v1:World}(h:GT P main I Rm Stop tr d g v)(he:Env v v1):GT P main I Rm Stop tr d g v1:=by
  cases tr with
  |leaf=>exact hS _ _ _ _ h he
  |node f=>exact⟨h.1,he.okV h.2.1,fun v2 w he2 hs hi=>h.2.2 v2 w (he.trans he2) hs hi⟩
def GoW(P:Program)(main:Bool)(I:World→Prop)(Rm:Event→Prop)(Stop:Nat→Goroutine→World→Prop)(g:Goroutine)(v:World):Prop:=∃ tr,GT P main I Rm Stop tr 0 g v
theorem aDv{d:Nat}{g:Goroutine}{v:World}(hr:g.status=.running)(hv:OkV v)
    (h:∀ v1 w,Env v v1→Sim v1 w→I w→∃ g' v' w' es,stepG P main g w=.go g' w' es∧aBh Rm v1 w v' w' es∧∃ tr,GT P main I Rm Stop tr (deafBehind d es) g' v'):∃ tr,GT P main I Rm Stop tr d g v:=by
  classical
  have h':∀ p:World×World,∃ tr:Tr,Env v p.1→Sim p.1 p.2→I p.2→∃ g' v' w' es,stepG P main g p.2=.go g' w' es∧aBh Rm p.1 p.2 v' w' es∧GT P main I Rm Stop tr (deafBehind d es) g' v':=by
    intro p
    by_cases hp:Env v p.1∧Sim p.1 p.2∧I p.2
    · obtain⟨g',v',w',es,h1,h2,tr,h3⟩:=h p.1 p.2 hp.1 hp.2.1 hp.2.2
      exact⟨tr,fun _ _ _=>⟨g',v',w',es,h1,h2,h3⟩⟩
    · exact⟨.leaf,fun a b c=>(hp ⟨a,b,c⟩).elim⟩
  obtain⟨F,hF⟩:=Classical.axiomOfChoice h'
  exact⟨.node F,hr,hv,fun v1 w he hs hi=>hF (v1,w) he hs hi⟩
theorem aOr(hS:aXu Stop):aHn P main (GoW P main I Rm Stop) where
  env h he:=by obtain⟨tr,h⟩:=h;exact⟨tr,h.env hS he⟩
  step {g v} hr hv h:=aDv hr hv fun v1 w he hs hi=>by
    obtain⟨g',v',w',es,h1,h2,tr,h3⟩:=h v1 w he hs
    exact⟨g',v',w',es,h1,h2.q,tr,by rw[deafBehind_still fun e hx=>bOc (h2.evs e hx)];exact h3⟩
@[instance_reducible]def lN(P:Program)(main:Bool):Mch P where
  main:=main
  Fam Win:=(∃ I Rm Stop,aXu Stop∧Win=GoW P main I Rm Stop)∨Win=fun _ _=>False
  closed h:=by
    rcases h with ⟨I,Rm,Stop,hS,rfl⟩|rfl
    · exact aOr hS
    · exact wE main
  none:=.inr rfl
theorem Dl.gt{K:Nat→Goroutine→Prop}{d:Nat}{g:Goroutine}(h:Dl P main I Rm K d g):∀{v:World},OkV v→(∀ d g v1,Env v v1→K d g→∃ tr,GT P main I Rm Stop tr d g v1)→∃ tr,GT P main I Rm Stop tr d g v:=by
  induction h with
  |here h=>exact fun _ hK=>hK _ _ _ (.refl _) h
  | step hs hm h _ ih =>
    intro v hv hK
    exact aDv hs hv fun v1 w he hsim hi=>⟨_,v1,w,_,h w hi,⟨hsim,he.okV hv,.refl _,.refl _ _,fun e hx=>.inr (hm e hx)⟩,ih (he.okV hv) fun d g v2 he2 hk=>hK d g v2 (he.trans he2) hk⟩
end
end Go.Am
end
section
open List renaming map_map→ζ,mapM_map→ξ
namespace Go.Am
open Go.Conc
def Unf(v:World)(b:Nat):Prop:=∃ o,v.heap[b]? = some o∧∀ c t,o≠CZ c t (0,c.size)
def pT(v:World)(b:Nat):Prop:=∃ c t,v.heap[b]? = some (.cells c t (0,c.size))
theorem sJ{v:World}{b:Nat}(h:v.heap[b]? = some hole):pT v b:=⟨#[],0,h⟩
theorem pT.not_unf{v:World}{b:Nat}(h:pT v b):¬Unf v b:=by
 obtain⟨c,t,h⟩:=h
 rintro⟨o,ho,hn⟩
 rw[h]at ho;exact hn c t (Bj ho).symm
theorem kE{v:World}{b:Nat}(h:v.heap[b]? = some hole):¬Unf v b:=(sJ h).not_unf
theorem aEt{v:World}{b:Nat}(h:b<v.heap.size):pT v b∨Unf v b:=by
 classical
 by_cases hw:pT v b
 ·exact .inl hw
 ·exact .inr ⟨_,Ak h,fun c t e=>hw ⟨c,t,by rw[Ak h,e]⟩⟩
def iI(v w':World):World:={ v with heap:=v.heap++AX (w'.heap.size-v.heap.size) hole,drawn:=w'.drawn }
theorem cG(v w':World):Env v (iI v w'):=⟨rfl,rfl,rfl,_,rfl⟩
theorem zV{v w':World}(h:v.heap.size≤w'.heap.size):(iI v w').heap.size=w'.heap.size:=by simp[iI];omega
theorem qT{v w':World}{b:Nat}(h:b<v.heap.size):(iI v w').heap[b]? = v.heap[b]? := (cG v w').get h
theorem vJ{v w':World}{b:Nat}(h:v.heap.size≤b){o:Obj}(ho:(iI v w').heap[b]? = some o):o=hole:=by
 simp only[iI]at ho
 rw[Array.getElem?_append_right h]at ho
 have:=BQ ho
 rw[Array.mem_replicate]at this
 exact this.2
theorem aDw{v w':World}{b:Nat}:Unf (iI v w') b↔Unf v b:=by
 constructor
 ·rintro⟨o,ho,hn⟩
  rcases AY b v.heap.size with h|h
  ·exact⟨o,by rw[←qT h];exact ho,hn⟩
  ·exact absurd (vJ h ho) (by rintro rfl;exact hn #[] 0 rfl)
 ·rintro⟨o,ho,hn⟩
  exact⟨o,by rw[qT (bG ho)];exact ho,hn⟩
theorem kS{v w':World}{b:Nat}(h:v.heap[b]? = some hole):(iI v w').heap[b]? = some hole:=by rw[qT (bG h)];exact h
structure dP(v v':World):Prop where
 size:v.heap.size≤v'.heap.size
 unf:∀ b,b<v.heap.size→(Unf v' b↔Unf v b)
 whole:∀ b c t,b<v.heap.size→(v'.heap[b]? = some (.cells c t (0,c.size))↔v.heap[b]? = some (.cells c t (0,c.size)))
 tape:v'.tape=v.tape
 os:v'.os=v.os
 output:v'.output=v.output
theorem dP.of_env{v v':World}(h:Env v v'):dP v v':=⟨h.size,fun b hb=>by simp only[Unf,h.get hb],fun b c t hb=>by rw[h.get hb],h.tape,h.os,h.output⟩
theorem dP.of_ext{v v':World}(h:Ext v v')(hv:OkV v):dP v v':=by
 have key:∀(b:Nat) (o:Obj),v.heap[b]? = some o→(∃(c:Array Value) (t:TypeId) (f:Nat×Nat),o=CZ c t f∧∃ c':Array Value,v'.heap[b]? = some (CZ c' t f)∧c'.size=c.size∧(f=(0,c.size)→c'=c))∨((∀(c:Array Value) (t:TypeId) (f:Nat×Nat),o≠CZ c t f)∧∃ o':Obj,v'.heap[b]? = some o'∧∀(c:Array Value) (t:TypeId) (f:Nat×Nat),o'≠CZ c t f):=by
  intro b o hb
  by_cases hc:∃(c:Array Value) (t:TypeId) (f:Nat×Nat),o=CZ c t f
  ·obtain⟨c,t,f,rfl⟩:=hc
   exact .inl ⟨c,t,f,rfl,h.cells b c t f hb⟩
  ·have hc':∀ c t f,o≠CZ c t f:=fun c t f e=>hc ⟨c,t,f,e⟩
   obtain⟨o',h1,h2,_⟩:=h.other b o hb hc' (hv b o hb)
   exact .inr ⟨hc',o',h1,h2⟩
 refine⟨h.size,fun b hb=>?_,fun b c t hb=>?_,h.tape,h.os,h.output⟩
 ·obtain⟨o,ho⟩:∃ o,v.heap[b]? = some o:=⟨_,Ak hb⟩
  rcases key b o ho with ⟨c,t,f,rfl,c',h1,h2,h3⟩|⟨h1,o',h2,h3⟩
  ·constructor
   ·rintro⟨o,ho',hn⟩
    rw[h1]at ho';obtain rfl:=Bj ho'
    refine⟨_,ho,fun c2 t2 e=>?_⟩
    injection e with e1 e2 e3;subst e1;subst e3
    have:=h3 rfl;subst this;exact hn _ _ rfl
   ·rintro⟨o,ho',hn⟩
    rw[ho]at ho';obtain rfl:=Bj ho'
    refine⟨_,h1,fun c2 t2 e=>?_⟩
    injection e with e1 e2 e3;subst e1;subst e3
    exact hn c t (by rw[h2])
  ·exact⟨fun _=>⟨o,ho,fun c t=>h1 c t _⟩,fun _=>⟨o',h2,fun c t=>h3 c t _⟩⟩
 ·obtain⟨o,ho⟩:∃ o,v.heap[b]? = some o:=⟨_,Ak hb⟩
  rcases key b o ho with ⟨c0,t0,f,rfl,c',h1,h2,h3⟩|⟨h1,o',h2,h3⟩
  ·rw[h1,ho]
   constructor
   ·intro e;injection e with e;injection e with e1 e2 e3;subst e1;subst e2;subst e3
    have:=h3 (by rw[h2]);subst this;rfl
   ·intro e;injection e with e;injection e with e1 e2 e3;subst e1;subst e2;subst e3
    have:=h3 rfl;subst this;rfl
  ·rw[h2,ho]
   constructor
   ·intro e;exact absurd (Bj e) (h3 _ _ _)
   ·intro e;exact absurd (Bj e) (h1 _ _ _)
theorem dP.trans{v v1 v2:World}(h:dP v v1)(k:dP v1 v2):dP v v2 :=
 ⟨AO h.size k.size,fun b hb=>(k.unf b (A3 hb h.size)).trans (h.unf b hb),fun b c t hb=>(k.whole b c t (A3 hb h.size)).trans (h.whole b c t hb),k.tape.trans h.tape,k.os.trans h.os,k.output.trans h.output⟩
theorem dP.hole{v v':World}(h:dP v v'){b:Nat}(hb:v.heap[b]? = some hole):v'.heap[b]? = some hole:=(h.whole b #[] 0 (bG hb)).2 hb
theorem dP.whole'{v v':World}(h:dP v v'){b:Nat}(hb:pT v b):pT v' b:=by
 obtain⟨c,t,hb⟩:=hb
 exact⟨c,t,(h.whole b c t (bG hb)).2 hb⟩
structure Vws(A:Nat→Prop)(V:Nat→World)(w:World):Prop where
 sim:∀ k,A k→Sim (V k) w
 ok:∀ k,A k→OkV (V k)
 dis:∀ k k',A k→A k'→k≠k'→∀ b,Unf (V k) b→(V k').heap[b]? = some hole
def aBx(V:Nat→World)(k:Nat)(v' w':World)(x:Nat):World:=if x=k then v' else iI (V x) w'
theorem kK(V:Nat→World)(k:Nat)(v' w':World):aBx V k v' w' k=v':=by simp[aBx]
theorem nB(V:Nat→World){k x:Nat}(v' w':World)(h:x≠k):aBx V k v' w' x=iI (V x) w':=by simp[aBx,h]
theorem aDx{v w w':World}(h:Sim v w)(hsz:w.heap.size≤w'.heap.size)(ht:w'.tape=w.tape)(ho:w'.os=w.os)(hp:w'.output=w.output)
  (hb:∀(b:Nat) (o:Obj),v.heap[b]? = some o→o≠hole→w'.heap[b]? = w.heap[b]?):Sim (iI v w') w':=by
 have hs:v.heap.size=w.heap.size:=h.size
 refine⟨by simp[iI,h.tape,ht],rfl,by simp[iI,h.os,ho],by simp[iI,h.output,hp],zV (by omega),fun b o hx=>?_⟩
 rcases AY b v.heap.size with hlt|hge
 ·rw[qT hlt]at hx
  by_cases e:o=hole
  ·exact .inl e
  ·rw[hb b o hx e];exact h.blk b o hx
 ·exact .inl (vJ hge hx)
theorem Vws.step{A:Nat→Prop}{V:Nat→World}{w:World}(h:Vws A V w){k:Nat}(hk:A k){Rm:Event→Prop}{v' w':World}{es:Array Event}(hs:aBh Rm (V k) w v' w' es):Vws A (aBx V k v' w') w':=by
 have hsz:(V k).heap.size=w.heap.size:=(h.sim k hk).size
 have hsz':v'.heap.size=w'.heap.size:=hs.sim.size
 have hge:(V k).heap.size≤v'.heap.size:=hs.ext.size
 have hO:=dP.of_ext hs.ext (h.ok k hk)
 have htp:w'.tape=w.tape:=by rw[←hs.sim.tape,hs.ext.tape,(h.sim k hk).tape]
 have hos:w'.os=w.os:=by rw[←hs.sim.os,hs.ext.os,(h.sim k hk).os]
 have hop:w'.output=w.output:=by rw[←hs.sim.output,hs.ext.output,(h.sim k hk).output]
 refine⟨fun x hx=>?_,fun x hx=>?_,fun x y hx hy hne b hu=>?_⟩
 ·by_cases e:x=k
  ·subst e;rw[kK];exact hs.sim
  ·rw[nB V _ _ e]
   refine aDx (h.sim x hx) (by omega) htp hos hop fun b o hb hne=>?_
   have hlt:b<(V k).heap.size:=by rw[hsz,←(h.sim x hx).size];exact bG hb
   rcases aEt hlt with ⟨c,t,hw⟩|hu
   ·exact hs.rest b c t hw
   ·have:=h.dis k x hk hx (Ea e) b hu
    rw[hb]at this;exact absurd (Bj this) hne
 ·by_cases e:x=k
  ·subst e;rw[kK];exact hs.ok
  ·rw[nB V _ _ e];exact(cG _ _).okV (h.ok x hx)
 ·by_cases e:x=k
  ·subst e
   have ey:y≠x:=Ea hne
   rw[kK]at hu
   rw[nB V _ _ ey]
   rcases AY b (V x).heap.size with hlt|hge'
   ·exact kS (h.dis x y hx hy hne b ((hO.unf b hlt).1 hu))
   ·obtain⟨o,ho,_⟩:=hu
    have hlt:=bG ho
    have hy':(V y).heap.size=w.heap.size:=(h.sim y hy).size
    have hb:b<(iI (V y) w').heap.size:=by rw[zV (by omega)];omega
    have hget:=Ak hb
    have:=vJ (v:=V y) (w':=w') (b:=b) (by omega) hget
    rw[hget,this]
  ·rw[nB V _ _ e]at hu
   have hu':=aDw.1 hu
   by_cases ey:y=k
   ·subst ey
    rw[kK]
    exact hO.hole (h.dis x y hx hy hne b hu')
   ·rw[nB V _ _ ey]
    exact kS (h.dis x y hx hy hne b hu')
theorem Vws.aside{A:Nat→Prop}{V:Nat→World}{w w':World}(h:Vws A V w)(hsz:w'.heap.size=w.heap.size)(ht:w'.tape=w.tape)(ho:w'.os=w.os)(hp:w'.output=w.output)
  (hb:∀ k,A k→∀(b:Nat) (o:Obj),(V k).heap[b]? = some o→o≠hole→w'.heap[b]? = w.heap[b]?):Vws A (fun x=>iI (V x) w') w' :=
 ⟨fun k hk=>aDx (h.sim k hk) (by omega) ht ho hp (hb k hk),fun k hk=>(cG _ _).okV (h.ok k hk),fun k k' hk hk' hne b hu=>kS (h.dis k k' hk hk' hne b (aDw.1 hu))⟩
/-! ### what is handed to a worker -/
def aAc:Obj→Obj
 |.cells c e _=>.cells c e (0,c.size)
 |_=>hole
def iY(v:World):World:={ v with heap:=v.heap.map aAc }
theorem mP(v:World)(b:Nat):(iY v).heap[b]? = (v.heap[b]?).map aAc:=by simp[iY]
theorem vK(v:World):(iY v).heap.size=v.heap.size:=by simp[iY]
theorem pL(o:Obj):∃ c t,aAc o=.cells c t (0,c.size):=by
 cases o with
 |cells c e f=>exact⟨c,e,rfl⟩
 |_=>exact⟨#[],0,rfl⟩
theorem aAa{v:World}{b:Nat}(h:b<v.heap.size):pT (iY v) b:=by
 obtain⟨c,t,e⟩:=pL v.heap[b]
 exact⟨c,t,by rw[mP,Ak h,AW,e]⟩
theorem aGn(v:World)(b:Nat):¬Unf (iY v) b:=by
 rintro⟨o,ho,hn⟩
 have hlt:=bG ho
 rw[vK]at hlt
 exact(aAa hlt).not_unf ⟨o,ho,hn⟩
theorem aAb:aAc hole=hole:=rfl
theorem vL{v:World}{b:Nat}(h:v.heap[b]? = some hole):(iY v).heap[b]? = some hole:=by rw[mP,h,AW,aAb]
theorem aGm(v:World):OkV (iY v):=fun b o ho=>by
 rw[mP]at ho
 obtain⟨x,_,rfl⟩:=Ae.1 ho
 obtain⟨c,t,e⟩:=pL x
 rw[e];rfl
theorem aKs{v w:World}(h:Sim v w):Sim (iY v) w:=by
 refine⟨h.tape,h.drawn,h.os,h.output,by rw[vK];exact h.size,fun b o ho=>?_⟩
 rw[mP]at ho
 obtain⟨x,hx,rfl⟩:=Ae.1 ho
 cases x with
 | cells c e f =>
  simp only[aAc]
  rcases h.blk b _ hx with e1|e1|⟨c',e',f',e1,e2⟩
  ·injection e1 with e1 e2 e3;subst e1;subst e2;exact .inl rfl
  ·exact .inr (.inr ⟨c,e,f,rfl,e1⟩)
  ·injection e1 with e1 e3 e4;subst e1;subst e3
   exact .inr (.inr ⟨c,e,f',rfl,e2⟩)
 |_=>exact .inl rfl
end Go.Am
end
section
open List renaming map_map→ζ,mapM_map→ξ
namespace Go.Am
open Go.Conc Go.ConcR.Gen Go.Conc.Lib Go.RowKit Go.ConcR
open Go
def cU(ty:TypeId)(Wg:Nat)(w:World):Prop:=∃ st sm,w.heap[Wg]? = some (wgBlock ty st sm)
theorem cU.cell0{ty:TypeId}{Wg:Nat}{w:World}(h:cU ty Wg w):∃ v,w.cell? ⟨Wg,0,none⟩=some v:=by
 obtain⟨st,sm,h⟩:=h
 exact⟨.int .u64 st,by simp[Bw,h,wgBlock]⟩
theorem cU.cell1{ty:TypeId}{Wg:Nat}{w:World}(h:cU ty Wg w):∃ v,w.cell? ⟨Wg,1,none⟩=some v:=by
 obtain⟨st,sm,h⟩:=h
 exact⟨.int .u32 sm,by simp[Bw,h,wgBlock]⟩
def noE:Event→Prop:=fun _=>False
section
variable (P:Program) (L:WgLink) (Wg:Nat)
def bQz(d:Nat)(g:Goroutine):Prop :=
 d=1∧g.status=.running∧mayWake P g=true∧∀ w,w.heap[Wg]? = some (wgBlock L.tWg 0 0)→∃ g',stepG P false g w=.go g' (w.setCell (smA Wg) (.int .u32 1)) (semEvents (smA Wg))∧∃ q,QuitsD P q d g'
def bIa(d:Nat)(g:Goroutine):Prop :=
 d=1∧g.status=.running∧∀ w,w.heap[Wg]? = some (wgBlock L.tWg 1 0)→∃ g',stepG P false g w=.go g' (w.setCell (stA Wg) (.int .u64 0)) #[wr (stA Wg)]∧Dl P false (cU L.tWg Wg) noE (bQz P L Wg) d g'
def bIb(d:Nat)(g:Goroutine):Prop :=
 d=1∧g.status=.running∧∀ w,w.heap[Wg]? = some (wgBlock L.tWg 1 0)→∃ g',stepG P false g w=.go g' w #[rd (stA Wg)]∧Dl P false (cU L.tWg Wg) noE (bIa P L Wg) d g'
def bQy(d:Nat)(g:Goroutine):Prop :=
 g.status=.running∧∀(w:World) (v wt:Nat),wt≤1→v<2147483647→w.heap[Wg]? = some (wgBlock L.tWg (((v:Int)+1)*KK+wt) 0) →
  ∃ g',stepG P false g w=.go g' (w.setCell (stA Wg) (.int .u64 ((v:Int)*KK+wt))) #[rd (stA Wg),wr (stA Wg)] ∧
   ((v=0∧wt=1)→Dl P false (cU L.tWg Wg) noE (bIb P L Wg) d g')∧(¬(v=0∧wt=1)→∃ q,QuitsD P q d g')
def vY(d:Nat)(g:Goroutine):Prop :=
 g.status=.running∧d=0∧∃ g',(∀ w,cU L.tWg Wg w→stepG P false g w=.go g' w #[mk (.releaseMerge (stA Wg))])∧Dl P false (cU L.tWg Wg) noE (fun d g=>d=1∧bQy P L Wg d g) 0 g'
end
def dO(Wg:Nat)(e:Event):Prop:=e=⟨.mark (.read (smA Wg)),false,true⟩∨e=⟨.mark (.write (smA Wg)),false,true⟩
section
variable (P:Program) (L:WgLink) (Wg:Nat)
def aEn(K:Nat→Goroutine→Prop)(d:Nat)(g:Goroutine):Prop :=
 g.status=.running∧∀(w:World) (v:Nat),v<2147483647→w.heap[Wg]? = some (wgBlock L.tWg ((v:Int)*KK) 0) →
  ∃ g',stepG P true g w=.go g' (w.setCell (stA Wg) (.int .u64 (((v:Int)+1)*KK))) #[rd (stA Wg),wr (stA Wg)]∧Dl P true (cU L.tWg Wg) (dO Wg) K d g'
end
section
variable (P:Program) (L:WgLink) (Wg:Nat) (K:Goroutine→Prop)
def bIc(d:Nat)(g:Goroutine):Prop :=
 d=0∧g.status=.running∧∃ g',(∀ w,cU L.tWg Wg w→stepG P true g w=.go g' w #[mk (.acquire (stA Wg))])∧Dl P true (fun _=>True) noE (fun d g=>d=0∧K g) 0 g'
def bRb(d:Nat)(g:Goroutine):Prop :=
 g.status=.running∧∀ w,w.heap[Wg]? = some (wgBlock L.tWg 0 0)→∃ g',stepG P true g w=.go g' w #[rd (stA Wg)]∧Dl P true (cU L.tWg Wg) (dO Wg) (bIc P L Wg K) d g'
def aQd(d:Nat)(g:Goroutine):Prop :=
 g.status=.running∧g.offers=none∧(∀ w st,w.heap[Wg]? = some (wgBlock L.tWg st 0)→stepG P true g w=.go { g with status:=.blocked } w #[]) ∧
  ∀ w,w.heap[Wg]? = some (wgBlock L.tWg 0 1)→∃ g',stepG P true g w=.go g' (w.setCell (smA Wg) (.int .u32 0)) (semEvents (smA Wg))∧Dl P true (cU L.tWg Wg) (dO Wg) (bRb P L Wg K) d g'
def aSz(An:Goroutine→Prop)(vs:Nat)(d:Nat)(g:Goroutine):Prop :=
 g.status=.running∧∀(w:World) (v:Nat),v<2147483648→w.heap[Wg]? = some (wgBlock L.tWg ((v:Int)*KK) 0) →
  (v=vs→∃ g',stepG P true g w=.go g' (w.setCell (stA Wg) (.int .u64 ((v:Int)*KK+1))) #[rd (stA Wg),wr (stA Wg)]∧Dl P true (cU L.tWg Wg) (dO Wg) (aQd P L Wg K) d g') ∧
  (v≠vs→∃ g',stepG P true g w=.go g' w #[rd (stA Wg)]∧Dl P true (cU L.tWg Wg) (dO Wg) (fun d' g=>d'=d∧An g) d g')
def xG(An:Goroutine→Prop)(d:Nat)(g:Goroutine):Prop :=
 g.status=.running∧∀(w:World) (v:Nat),v<2147483648→w.heap[Wg]? = some (wgBlock L.tWg ((v:Int)*KK) 0) →
  ∃ g',stepG P true g w=.go g' w #[rd (stA Wg)]∧(v=0→Dl P true (cU L.tWg Wg) (dO Wg) (bIc P L Wg K) d g')∧(v≠0→Dl P true (cU L.tWg Wg) (dO Wg) (fun d' g=>d'=d∧aSz P L Wg K An v d' g) d g')
def aBm(c:Frame)(cs:List Frame)(g:Goroutine):Prop :=
 ∃ T:Array Value,g=G ((base L.wait).at ⟨T,[]⟩ [.code (L7 L),.inLoop (L7 L),.inBlock 0]) (c::cs)∧T.size=84∧T[0]? = some (.pointer (some ⟨Wg,0,none⟩))
end
end Go.Am
end
section
open List renaming map_map→ζ,mapM_map→ξ
namespace Go.Am
open Go.Conc
open Go.ConcN (CT Apart Ok0 OkW PermW)
open Go.ConcR (stA smA)
structure Pl where
 C:Nat
 wd:Nat
 n:Nat
 ety:TypeId
 val:Nat→Nat→Value
 pos:0<wd
 tot:Nat
 le:n*wd≤tot
def Pl.cell(p:Pl)(i r:Nat):Addr:=⟨p.C,i*p.wd+r,none⟩
def nI:Loc→Option Nat
 |.cell a=>some a.block
 |.obj r=>some r
 |_=>none
section
variable (p:Pl) (m j:Nat) (V:Nat→World)
def sN(k:Nat)(l:Loc):Prop:=m≤k∧k<m+j∧((∃ b,nI l=some b∧Unf (V k) b)∨∃ r,r<p.wd∧l=.cell (p.cell (k-m) r))
def RdF(k:Nat)(l:Loc):Prop:=m≤k∧k<m+j∧∃(a:Addr) (c:Array Value) (t:TypeId),l=.cell a∧(V k).heap[a.block]? = some (.cells c t (0,c.size))∧a.off<c.size
end
def gQ(m j k:Nat):Prop:=k=0∨(m≤k∧k<m+j)
theorem uH{p:Pl}{m j:Nat}{V:Nat→World}{w:World}{S:Nat→Prop}(hv:Vws (gQ m j) V w)(hm:1≤m)(hC:∀ k,gQ m j k→(V k).heap[p.C]? = some hole)(hS:∀ k,gQ m j k→∀ b,S b→(V k).heap[b]? = some hole)(hCS:¬S p.C) :
  Apart (dH S) (sN p m j V) (RdF m j V) where
 own k k' l h h':=by
  obtain⟨a1,a2,h⟩:=h
  obtain⟨b1,b2,h'⟩:=h'
  by_cases hne:k=k'
  ·exact hne
  rcases h with ⟨b,e,hu⟩|⟨r,hr,e⟩<;>rcases h' with ⟨b',e',hu'⟩|⟨r',hr',e'⟩
  ·rw[e]at e';obtain rfl:=Bj e'
   exact absurd hu' (kE (hv.dis k k' (.inr ⟨a1,a2⟩) (.inr ⟨b1,b2⟩) hne b hu))
  ·subst e';simp only[nI,Au,Pl.cell]at e;subst e
   exact absurd hu (kE (hC k (.inr ⟨a1,a2⟩)))
  ·subst e;simp only[nI,Au,Pl.cell]at e';subst e'
   exact absurd hu' (kE (hC k' (.inr ⟨b1,b2⟩)))
  ·subst e
   simp only[Pl.cell,Loc.cell.injEq,Addr.mk.injEq,and_true,true_and]at e'
   have h1:(r+p.wd*(k-m))/p.wd=k-m:=by rw[Nat.add_mul_div_left _ _ (by omega),C4 hr];omega
   have h2:(r'+p.wd*(k'-m))/p.wd=k'-m:=by rw[Nat.add_mul_div_left _ _ (by omega),C4 hr'];omega
   have h3:r+p.wd*(k-m)=r'+p.wd*(k'-m):=by rw[BV,BV p.wd];omega
   rw[h3,h2]at h1;omega
 ownRd k k' l h h':=by
  obtain⟨a1,a2,h⟩:=h
  obtain⟨b1,b2,a,c,t,rfl,hw,hlt⟩:=h'
  rcases h with ⟨b,e,hu⟩|⟨r,hr,e⟩
  ·simp only[nI,Au]at e;subst e
   by_cases hne:k=k'
   ·subst hne;exact pT.not_unf ⟨c,t,hw⟩ hu
   ·have:=hv.dis k k' (.inr ⟨a1,a2⟩) (.inr ⟨b1,b2⟩) hne _ hu
    rw[hw]at this;injection this with this;injection this with e1 _ _;subst e1;simp at hlt
  ·injection e with e;subst e
   rw[show(p.cell (k-m) r).block=p.C from rfl,hC k' (.inr ⟨b1,b2⟩)]at hw
   injection hw with hw;injection hw with e1 _ _;subst e1;simp at hlt
 ownSh k l h hs:=by
  obtain⟨a1,a2,h⟩:=h
  cases l with
  | cell a =>
   rcases h with ⟨b,e,hu⟩|⟨r,hr,e⟩
   ·simp only[nI,Au]at e;subst e
    exact kE (hS k (.inr ⟨a1,a2⟩) _ hs) hu
   ·injection e with e;subst e;exact hCS hs
  |_=>exact hs
 rdSh k l h hs:=by
  obtain⟨b1,b2,a,c,t,rfl,hw,hlt⟩:=h
  rw[hS k (.inr ⟨b1,b2⟩) _ hs]at hw
  injection hw with hw;injection hw with e1 _ _;subst e1;simp at hlt
/-! ### the trace -/
def vV(t:Trace)(l:Loc):Prop:=∀ i a,touchAt t i=some a→a.loc≠l
theorem aCp{x:MemAct}{B:Nat}{a:Touch}(h:x.low B)(ha:x.touch? = some a):a.loc.low B:=by
 cases x with
 |access e=>simp only[Bx,Au]at ha;subst ha;exact h
 |mark mk=>cases mk<;>simp[Bx]at ha<;>subst ha<;>exact h
 |_=>simp[Bx]at ha
theorem sS{t:Trace}{B:Nat}(h:∀ op∈t,op.act.low B){l:Loc}{b:Nat}(hl:nI l=some b)(hb:B≤b):vV t l:=by
 intro i a ha e
 obtain⟨op,hop,hoa⟩:=touch_of ha
 have:=aCp (h op (BQ hop)) hoa
 rw[e]at this
 cases l<;>simp[nI]at hl<;>subst hl<;>simp only[Loc.low]at this<;>omega
theorem CT.grow{Sh:Loc→Prop}{Own Own' Rd Rd':Nat→Loc→Prop}{t:Trace}{j:Nat}(h:CT Sh Own Rd t j)(ho:∀ k l,1≤k→k≤j→Own k l→Own' k l)(hr:∀ k l,1≤k→k≤j→Rd k l→Rd' k l)
  (hf:∀ k l,1≤k→k≤j→Own' k l→Own k l∨vV t l) (hg:∀ k l,1≤k→k≤j→Rd' k l→Rd k l∨vV t l):CT Sh Own' Rd' t j where
 quiet:=h.quiet
 own k h1 h2 l hl:=by
  rcases hf k l h1 h2 hl with h3|h3
  ·exact h.own k h1 h2 l h3
  ·exact fun i a ha e=>(h3 i a ha e).elim
 rd k h1 h2 l hl:=by
  rcases hg k l h1 h2 hl with h3|h3
  ·exact h.rd k h1 h2 l h3
  ·exact fun i a ha e _=>(h3 i a ha e).elim
 free l hs hn:=h.free l hs fun k h1 h2=>⟨fun x=>(hn k h1 h2).1 (ho k l h1 h2 x),fun x=>(hn k h1 h2).2 (hr k l h1 h2 x)⟩
 mine l hs hn:=h.mine l hs fun k h1 h2 x=>hn k h1 h2 (ho k l h1 h2 x)
 nr:=h.nr
 gs:=h.gs
theorem aAn{p:Pl}{m j N:Nat}{V V':Nat→World}{t:Trace}{S:Nat→Prop}{B:Nat}(h:CT (dH S) (sN p m j V) (RdF m j V) t N)(hB:∀ op∈t,op.act.low B)(hsz:∀ k,m≤k→k<m+j→(V k).heap.size=B)(hO:∀ k,m≤k→k<m+j→dP (V k) (V' k)) :
  CT (dH S) (sN p m j V') (RdF m j V') t N:=by
 refine CT.grow h (fun k l _ _ ⟨a1,a2,hl⟩=>⟨a1,a2,?_⟩) (fun k l _ _ ⟨a1,a2,a,c,ty,e,hw,hlt⟩=>⟨a1,a2,a,c,ty,e,?_,hlt⟩) (fun k l _ _ ⟨a1,a2,hl⟩=>?_) (fun k l _ _ ⟨a1,a2,a,c,ty,e,hw,hlt⟩=>?_)
 ·rcases hl with ⟨b,e,hu⟩|hl
  ·exact .inl ⟨b,e,((hO k a1 a2).unf b (let ⟨_,ho,_⟩:=hu;bG ho)).2 hu⟩
  ·exact .inr hl
 ·exact((hO k a1 a2).whole _ c ty (bG hw)).2 hw
 ·rcases hl with ⟨b,e,hu⟩|hl
  ·rcases AY b B with hlt|hge
   ·exact .inl ⟨a1,a2,.inl ⟨b,e,((hO k a1 a2).unf b (by rw[hsz k a1 a2];exact hlt)).1 hu⟩⟩
   ·exact .inr (sS hB e hge)
  ·exact .inl ⟨a1,a2,.inr hl⟩
 ·rcases AY a.block B with hlt'|hge
  ·exact .inl ⟨a1,a2,a,c,ty,e,((hO k a1 a2).whole _ c ty (by rw[hsz k a1 a2];exact hlt')).1 hw,hlt⟩
  ·exact .inr (sS hB (by rw[e];rfl) hge)
theorem bLv{p:Pl}{m j k:Nat}{V:Nat→World}{S:Nat→Prop}(hk:m≤k)(hkj:k<m+j){e:Event}(h:EvV (V k) e)(fn:FuncId)(pos:String):OkW (dH S) (sN p m j V) (RdF m j V) k { g:=k,fn,pos,act:=.ofEvent e }:=by
 refine⟨rfl,fun x hx=>?_⟩
 obtain⟨loc,wr,sy⟩:=e
 rcases h with ⟨a,c,t,f,h1,h2,h3,h4,h5⟩|⟨r,o,h1,h2,h3,h4,h5⟩|h
 ·simp only at h1 h2 h3 h5;subst h1;subst h2
  simp[Bc,Bx]at hx;subst hx
  by_cases hf:f=(0,c.size)
  ·subst hf
   refine .inr (.inr ⟨⟨hk,hkj,a,c,t,rfl,h3,h4⟩,?_⟩)
   cases wr with
   |false=>rfl
   |true=>exact absurd rfl (h5 rfl)
  ·refine .inr (.inl ⟨hk,hkj,.inl ⟨a.block,rfl,_,h3,fun c2 t2 e=>?_⟩⟩)
   injection e with e1 e2 e3;subst e1;exact hf e3
 ·simp only at h1 h2 h3;subst h1;subst h2
  simp[Bc,Bx]at hx;subst hx
  exact .inr (.inl ⟨hk,hkj,.inl ⟨r,rfl,o,h3,fun c t=>h4 c t _⟩⟩)
 ·injection h with e1 e2 e3;subst e1;subst e2;subst e3
  simp[Bc,Bx]at hx
theorem bLw{p:Pl}{m j N:Nat}{V:Nat→World}{w:World}{S:Nat→Prop}(hv:Vws (gQ m j) V w)(hm:1≤m)(hC:(V 0).heap[p.C]? = some hole)(hS:∀ b,S b→(V 0).heap[b]? = some hole){e:Event}(h:EvV (V 0) e)(fn:FuncId)(pos:String) :
  Ok0 (dH S) (sN p m j V) (RdF m j V) N { g:=0,fn,pos,act:=.ofEvent e }:=by
 refine⟨rfl,fun x hx=>?_⟩
 obtain⟨loc,wr,sy⟩:=e
 have key:∀ k b,m≤k→k<m+j→∀ o,(V 0).heap[b]? = some o→o≠hole→¬Unf (V k) b:=fun k b h1 h2 o ho hne hu=>by
  have:=hv.dis k 0 (.inr ⟨h1,h2⟩) (.inl rfl) (by omega) b hu
  rw[ho]at this;exact hne (Bj this)
 rcases h with ⟨a,c,t,f,h1,h2,h3,h4,h5⟩|⟨r,o,h1,h2,h3,h4,h5⟩|h
 ·simp only at h1 h2 h3 h5;subst h1;subst h2
  simp[Bc,Bx]at hx;subst hx
  have hne:CZ c t f≠hole:=by intro e;injection e with e1 _ _;subst e1;simp at h4
  refine .inr ⟨fun hs=>?_,fun k _ _ ⟨a1,a2,ho⟩=>?_,fun hw k _ _ ⟨a1,a2,a',c',t',e,hw',hlt⟩=>?_⟩
  ·rw[hS a.block hs]at h3;exact hne (Bj h3).symm
  ·rcases ho with ⟨b,e,hu⟩|⟨r,hr,e⟩
   ·simp only[nI,Au]at e;subst e
    exact key k _ a1 a2 _ h3 hne hu
   ·injection e with e;subst e
    rw[show(p.cell (k-m) r).block=p.C from rfl,hC]at h3;exact hne (Bj h3).symm
  ·injection e with e;subst e
   have hu:Unf (V 0) a.block:=⟨_,h3,fun c2 t2 e=>by injection e with e1 e2 e3;subst e1;exact h5 hw e3⟩
   have:=hv.dis 0 k (.inl rfl) (.inr ⟨a1,a2⟩) (by omega) _ hu
   rw[hw']at this;injection this with this;injection this with e1 _ _;subst e1;simp at hlt
 ·simp only at h1 h2 h3;subst h1;subst h2
  simp[Bc,Bx]at hx;subst hx
  have hne:o≠hole:=fun e=>h4 _ _ _ e
  refine .inr ⟨fun hs=>hs.elim,fun k _ _ ⟨a1,a2,ho⟩=>?_,fun hw k _ _ ⟨a1,a2,a',c',t',e,_⟩=>by cases e⟩
  rcases ho with ⟨b,e,hu⟩|⟨r',hr,e⟩
  ·simp only[nI,Au]at e;subst e
   exact key k _ a1 a2 _ h3 hne hu
  ·cases e
 ·injection h with e1 e2 e3;subst e1;subst e2;subst e3
  simp[Bc,Bx]at hx
theorem aRr{v:World}{B:Nat}(hB:v.heap.size≤B){e:Event}(h:EvV v e):(Bc e).low B:=by
 exact(nN (S:=fun _=>False) (fun _ x=>x.elim) hB h).2.2.2
end Go.Am
end
section
open List renaming map_map→ζ,mapM_map→ξ
namespace Go.Am
open Go.Conc Go.Conc.Lib
open Go.ConcN (CT Apart Ok0 OkW PermW RelBy CTag phi Mode WD Vc Ssum sumTo upd upd_same upd_ne)
open Go.ConcR (KK wgBlock stA smA rd wr mk)
section
variable (P:Program) (L:WgLink) (Wg:Nat) (p:Pl)
def aXr(w:World):Prop:=∃(cs:Array Value) (f:Nat×Nat),w.heap[p.C]? = some (.cells cs p.ety f)∧cs.size=p.tot∧(cs.size≠0→f=(0,0))
structure bYb(i:Nat)(w w':World):Prop where
 tape:w'.tape=w.tape
 os:w'.os=w.os
 output:w'.output=w.output
 size:w'.heap.size=w.heap.size
 block:∀ b,b≠p.C→w'.heap[b]? = w.heap[b]?
 pay:aXr p w'
 cells:∀ o,(o<i*p.wd∨(i+1)*p.wd≤o)→w'.cell? ⟨p.C,o,none⟩=w.cell? ⟨p.C,o,none⟩
 new:∀ r,r<p.wd→w'.cell? (p.cell i r)=some (p.val i r)
def bRa(i:Nat)(d:Nat)(g:Goroutine):Prop :=
 d=0∧g.status=.running∧∀ w,aXr p w→∃ g' w' es,stepG P false g w=.go g' w' es∧bYb p i w w'∧(∀ e∈es,∃ r,r<p.wd∧e=⟨.cell (p.cell i r),true,false⟩)∧Dl P false (cU L.tWg Wg) noE (vY P L Wg) 0 g'
abbrev GTw(i:Nat):=GT P false (fun _=>True) noE (fun d g _=>bRa P L Wg p i d g)
inductive WS(i:Nat):Nat→Tr→Nat→Goroutine→World→Prop
 |work {tr:Tr} {d:Nat} {g:Goroutine} {v:World}:GTw P L Wg p i tr d g v→WS i 7 tr d g v
 |rel {n d:Nat} {g:Goroutine} {v:World}:DlN P false (cU L.tWg Wg) noE (vY P L Wg) n d g→WS i 6 (Tr.nat n) d g v
 |sub {n d:Nat} {g:Goroutine} {v:World}:DlN P false (cU L.tWg Wg) noE (fun d g=>d=1∧bQy P L Wg d g) n d g→WS i 5 (Tr.nat n) d g v
 |look {n d:Nat} {g:Goroutine} {v:World}:DlN P false (cU L.tWg Wg) noE (bIb P L Wg) n d g→WS i 4 (Tr.nat n) d g v
 |zero {n d:Nat} {g:Goroutine} {v:World}:DlN P false (cU L.tWg Wg) noE (bIa P L Wg) n d g→WS i 3 (Tr.nat n) d g v
 |sem {n d:Nat} {g:Goroutine} {v:World}:DlN P false (cU L.tWg Wg) noE (bQz P L Wg) n d g→WS i 2 (Tr.nat n) d g v
 |quit {n d:Nat} {g:Goroutine} {v:World}:QuitsD P n d g→WS i 1 (Tr.nat n) d g v
abbrev GTm(Stop:Nat→Goroutine→World→Prop):=GT P true (cU L.tWg Wg) (dO Wg) Stop
def aXv(i:Nat)(Next:Goroutine→World→Prop)(d:Nat)(g:Goroutine)(v:World):Prop :=
 d=0∧g.status=.running∧∀ v1,Env v v1→∃ g' child,(∀ w,Sim v1 w→cU L.tWg Wg w→stepG P true g w=.spawn g' child w #[])∧child.status=.running∧(∃ tr,GTw P L Wg p i tr 0 child (iY v1))∧Next g' (iY v1)
def aSs(i:Nat)(Next:Goroutine→World→Prop)(d:Nat)(g:Goroutine)(v:World):Prop :=
 d=1∧aEn P L Wg (fun d' g'=>∀ v1,Env v v1→OkV v1→∃ tr,GTm P L Wg (aXv P L Wg p i Next) tr d' g' v1) d g
variable (K An:Goroutine→Prop)
def aLz(d:Nat)(g:Goroutine)(_:World):Prop:=d=1∧xG P L Wg K An d g
def rF:Nat→Goroutine→World→Prop
 |0,g,v=>∃ tr,GTm P L Wg (aLz P L Wg K An) tr 0 g v
 |r+1,g,v=>∃ tr,GTm P L Wg (aSs P L Wg p (p.n-(r+1)) (rF r)) tr 0 g v
inductive CS:CTag→Nat→Tr→Nat→Goroutine→World→Prop
 |a1 {r:Nat} {tr:Tr} {d:Nat} {g:Goroutine} {v:World}:r<p.n→GTm P L Wg (aSs P L Wg p (p.n-(r+1)) (rF P L Wg p K An r)) tr d g v→CS (.sp r 4) (p.n-(r+1)) tr d g v
 |go {r:Nat} {tr:Tr} {d:Nat} {g:Goroutine} {v:World}:r<p.n→GTm P L Wg (aXv P L Wg p (p.n-(r+1)) (rF P L Wg p K An r)) tr d g v→CS (.sp r 3) (p.n-(r+1)) tr d g v
 |w1 {tr:Tr} {d:Nat} {g:Goroutine} {v:World}:GTm P L Wg (aLz P L Wg K An) tr d g v→CS .w1 p.n tr d g v
 |w2 {vs n d:Nat} {g:Goroutine} {v:World}:DlN P true (cU L.tWg Wg) (dO Wg) (fun d g=>d=1∧aSz P L Wg K An vs d g) n d g→CS (.w2 vs) p.n (Tr.nat n) d g v
 |w3 {n d:Nat} {g:Goroutine} {v:World}:DlN P true (cU L.tWg Wg) (dO Wg) (aQd P L Wg K) n d g→CS .w3 p.n (Tr.nat (n+1)) d g v
 |blk {r:Tr} {d:Nat} {g:Goroutine} {v:World}:aQd P L Wg K d g→CS .blk p.n r d { g with status:=.blocked } v
 |w4 {n d:Nat} {g:Goroutine} {v:World}:DlN P true (cU L.tWg Wg) (dO Wg) (bRb P L Wg K) n d g→CS .w4 p.n (Tr.nat n) d g v
 |acq {n d:Nat} {g:Goroutine} {v:World}:DlN P true (cU L.tWg Wg) (dO Wg) (bIc P L Wg K) n d g→CS .acq p.n (Tr.nat n) d g v
 |ret {n d:Nat} {g:Goroutine} {v:World}:DlN P true (fun _=>True) noE (fun d g=>d=0∧K g) n d g→CS .ret p.n (Tr.nat n) d g v
end
section
variable {P:Program} {L:WgLink} {Wg:Nat} {p:Pl} {K An:Goroutine→Prop}
theorem GTw.env'{i:Nat}{tr:Tr}{d:Nat}{g:Goroutine}{v v1:World}(h:GTw P L Wg p i tr d g v)(he:Env v v1):GTw P L Wg p i tr d g v1:=GT.env (fun _ _ _ _ h _=>h) h he
theorem WS.env{i s d:Nat}{r:Tr}{g:Goroutine}{v v1:World}(h:WS P L Wg p i s r d g v)(he:Env v v1):WS P L Wg p i s r d g v1:=by
 cases h with
 |work h=>exact .work (h.env' he)
 |rel h=>exact .rel h
 |sub h=>exact .sub h
 |look h=>exact .look h
 |zero h=>exact .zero h
 |sem h=>exact .sem h
 |quit h=>exact .quit h
theorem aLr{i:Nat}{N:Goroutine→World→Prop}:aXu (aXv P L Wg p i N):=fun _ _ _ _ h he=>⟨h.1,h.2.1,fun v2 he2=>h.2.2 v2 (he.trans he2)⟩
theorem aBc{K K':Nat→Goroutine→Prop}(hK:∀ d g,K d g→K' d g){d:Nat}{g:Goroutine}(h:aEn P L Wg K d g):aEn P L Wg K' d g :=
 ⟨h.1,fun w v hv hw=>let ⟨g',h1,h2⟩:=h.2 w v hv hw;⟨g',h1,h2.mono hK⟩⟩
theorem aCs{i:Nat}{N:Goroutine→World→Prop}:aXu (aSs P L Wg p i N):=fun _ _ _ _ h he=>⟨h.1,aBc (fun _ _ hk v2 he2 ho=>hk v2 (he.trans he2) ho) h.2⟩
theorem uT:aXu (aLz P L Wg K An):=fun _ _ _ _ h _=>h
theorem CS.env{tag:CTag}{j d:Nat}{r:Tr}{g:Goroutine}{v v1:World}(h:CS P L Wg p K An tag j r d g v)(he:Env v v1):CS P L Wg p K An tag j r d g v1:=by
 cases h with
 |a1 hr h=>exact .a1 hr (h.env aCs he)
 |go hr h=>exact .go hr (h.env aLr he)
 |w1 h=>exact .w1 (h.env uT he)
 |w2 h=>exact .w2 h
 |w3 h=>exact .w3 h
 |blk h=>exact .blk h
 |w4 h=>exact .w4 h
 |acq h=>exact .acq h
 |ret h=>exact .ret h
theorem DlN.run{main:Bool}{I:World→Prop}{Rm:Event→Prop}{K:Nat→Goroutine→Prop}(hK:∀ d g,K d g→g.status=.running){n d:Nat}{g:Goroutine}(h:DlN P main I Rm K n d g):g.status=.running:=by
 rcases h.cases with h|⟨_,_,h,_⟩
 ·exact hK _ _ h
 ·exact h
theorem GT.run{main:Bool}{I:World→Prop}{Rm:Event→Prop}{Stop:Nat→Goroutine→World→Prop}(hK:∀ d g v,Stop d g v→g.status=.running){tr:Tr}{d:Nat}{g:Goroutine}{v:World}(h:GT P main I Rm Stop tr d g v):g.status=.running:=by
 cases tr with
 |leaf=>exact hK _ _ _ h
 |node f=>exact h.1
theorem WS.status{i s d:Nat}{r:Tr}{g:Goroutine}{v:World}(h:WS P L Wg p i s r d g v):(g.status=.running)∨(g.status=.finished∧s=1):=by
 cases h with
 |work h=>exact .inl (h.run fun _ _ _ h=>h.2.1)
 |rel h=>exact .inl (h.run fun _ _ h=>h.1)
 |sub h=>exact .inl (h.run fun _ _ h=>h.2.1)
 |look h=>exact .inl (h.run fun _ _ h=>h.2.1)
 |zero h=>exact .inl (h.run fun _ _ h=>h.2.1)
 |sem h=>exact .inl (h.run fun _ _ h=>h.2.1)
 |quit h=>exact h.status.elim .inl fun x=>.inr ⟨x,rfl⟩
theorem WS.woken{i s d:Nat}{r:Tr}{g:Goroutine}{v:World}(h:WS P L Wg p i s r d g v)(a a':Goroutine)(w':World):woken P a a' w' g=g:=by
 unfold Go.Conc.woken
 split
 ·exact again_running _ (h.status.elim .inl fun x=>.inr x.1)
 ·rfl
theorem CS.status(hK:∀ g,K g→g.status=.running){tag:CTag}{j d:Nat}{r:Tr}{g:Goroutine}{v:World}(h:CS P L Wg p K An tag j r d g v):(g.status=.running∧tag≠.blk)∨(g.status=.blocked∧tag=.blk):=by
 cases h with
 |a1 hr h=>exact .inl ⟨h.run fun _ _ _ h=>h.2.1,by simp⟩
 |go hr h=>exact .inl ⟨h.run fun _ _ _ h=>h.2.1,by simp⟩
 |w1 h=>exact .inl ⟨h.run fun _ _ _ h=>h.2.1,by simp⟩
 |w2 h=>exact .inl ⟨h.run fun _ _ h=>h.2.1,by simp⟩
 |w3 h=>exact .inl ⟨h.run fun _ _ h=>h.1,by simp⟩
 |blk h=>exact .inr ⟨rfl,rfl⟩
 |w4 h=>exact .inl ⟨h.run fun _ _ h=>h.1,by simp⟩
 |acq h=>exact .inl ⟨h.run fun _ _ h=>h.2.1,by simp⟩
 |ret h=>exact .inl ⟨h.run fun _ _ h=>hK _ h.2,by simp⟩
theorem CS.wokenBy(hK:∀ g,K g→g.status=.running){tag:CTag}{j d:Nat}{r:Tr}{a:Goroutine}{v:World}(h:CS P L Wg p K An tag j r d a v)(g g':Goroutine)(w':World) :
  ∃ tag' r',CS P L Wg p K An tag' j r' d (woken P g g' w' a) v∧(tag'=tag∨(tag=.blk∧tag'=.w3))∧(mayWake P g=true→g'.status=.running→tag'≠.blk):=by
 unfold Go.Conc.woken
 split
 ·rcases h.status hK with ⟨hs,hne⟩|⟨_,rfl⟩
  ·exact⟨tag,r,by rw[again_running _ (.inl hs)];exact h,.inl rfl,fun _ _=>hne⟩
  ·cases h with
   | blk hb =>
    exact⟨.w3,Tr.nat (0+1),by rw[Go.ConcR.again_blocked hb.1 hb.2.1];exact .w3 (n:=0) hb,.inr ⟨rfl,rfl⟩,fun _ _=>by simp⟩
 ·rename_i hc
  exact⟨tag,r,h,.inl rfl,fun h1 h2=>absurd (by simp[h1,h2]) hc⟩
end
end Go.Am
end
section
open List renaming map_map→ζ,mapM_map→ξ
namespace Go.Am
open Go.Conc Go.Conc.Lib
open Go.ConcN (CT Apart Ok0 OkW PermW RelBy CTag phi Mode WD Vc Ssum sumTo)
open Go.ConcR (KK wgBlock stA smA rd wr mk)
def ShW(S:Nat→Prop)(Wg b:Nat):Prop:=S b∨b=Wg
structure Com(P:Program)(L:WgLink)(Wg:Nat)(p:Pl)(S:Nat→Prop)(w0:World)(m j:Nat)(gs:Array Goroutine)(w:World)(t:Trace)(D:Nat→WD)(R:Nat→Tr)(V:Nat→World)(d0:Nat):Prop where
 mpos:1≤m
 size:gs.size=m+j
 wk:∀ i,i<j→∃ g,gs[m+i]? = some g∧WS P L Wg p i (D i).stage (R (m+i)) (D i).deaf g (V (m+i))
 old:∀ i,0<i→i<m→∃ g q,gs[i]? = some g∧R i=Tr.nat q∧QuitsD P q (Deaf t i) g
 above:∀ i,m+j≤i→Deaf t i=0
 ct:CT (dH (ShW S Wg)) (sN p m j V) (RdF m j V) t (m+j-1)
 norel:NoRelease (stA Wg) t
 deaf0:Deaf t 0=d0
 deafW:∀ i,i<j→Deaf t (m+i)=(D i).deaf
 rel:∀ i,i<j→(D i).stage≤5→∃ r,RelBy (stA Wg) t (m+i) r
 has:∀ i,i<j→(D i).stage≤6→∀ r,r<p.wd→w.cell? (p.cell i r)=some (p.val i r)
 pay:aXr p w
 vws:Vws (gQ m j) V w
 low:∀ k,gQ m j k→∀ b,b≤Wg→pT (V k) b
 hC:∀ k,gQ m j k→(V k).heap[p.C]? = some hole
 hS:∀ k,gQ m j k→∀ b,ShW S Wg b→(V k).heap[b]? = some hole
 stay:∀ b,b<Wg→(b≠p.C∨p.tot=0)→w.heap[b]? = w0.heap[b]?
 like:w.tape=w0.tape∧w.os=w0.os∧w.output=w0.output
 kn:∀ i a,touchAt t i=some a→Knows t 0 i∨(dH (ShW S Wg) a.loc∧a.kind=.atomic)∨((∃ g,t.g? i=some g∧m≤g)∧a.kind≠.atomic)
 mem:∀ i a,touchAt t i=some a→a.loc.isMemory=true
 over:∀ i g,t.g? i=some g→g≠0→g<m→t.counts i→∃ q,t.g? q=some 0∧HappensBefore t i q
 seen:∀ op∈t,op.act.low w.heap.size
structure Geo(Wg:Nat)(p:Pl)(S:Nat→Prop):Prop where
 C:p.C<Wg
 S:¬S p.C
section
variable {P:Program} {L:WgLink} {Wg:Nat} {p:Pl} {S:Nat→Prop} {w0:World} {m j:Nat} {gs:Array Goroutine} {w w':World} {t u:Trace} {D:Nat→WD} {R:Nat→Tr} {V V':Nat→World} {d0:Nat}
theorem Com.apart(h:Com P L Wg p S w0 m j gs w t D R V d0)(G:Geo Wg p S):Apart (dH (ShW S Wg)) (sN p m j V) (RdF m j V) :=
 uH h.vws h.mpos h.hC h.hS fun hs=>hs.elim G.S fun e=>by have:=G.C;omega
theorem aGi(h:∀ i a,touchAt t i=some a→Knows t 0 i∨(dH (ShW S Wg) a.loc∧a.kind=.atomic)∨((∃ g,t.g? i=some g∧m≤g)∧a.kind≠.atomic))
  (hu:∀ op∈u,∀ a,op.act.touch? = some a→op.g=0∨(dH (ShW S Wg) a.loc∧a.kind=.atomic)∨(m≤op.g∧a.kind≠.atomic)) :
  ∀ i a,touchAt (t++u) i=some a→Knows (t++u) 0 i∨(dH (ShW S Wg) a.loc∧a.kind=.atomic)∨((∃ g,(t++u).g? i=some g∧m≤g)∧a.kind≠.atomic):=by
 intro i a ha
 obtain⟨x,hx,hxa⟩:=touch_of ha
 rcases getElem?_append_cases hx with ⟨hi,hx'⟩|⟨_,hxu⟩
 ·rcases h i a (by rw[touchAt_of hx'];exact hxa)with h1|h1|⟨⟨g,h1,h2⟩,h3⟩
  ·exact .inl (h1.app u)
  ·exact .inr (.inl h1)
  ·exact .inr (.inr ⟨⟨g,by simpa[FY,getElem?_append_old hi]using h1,h2⟩,h3⟩)
 ·rcases hu x hxu a hxa with h1|h1|⟨h1,h2⟩
  ·have:=knows_own hx
   rw[h1]at this
   exact .inl this
  ·exact .inr (.inl h1)
  ·exact .inr (.inr ⟨⟨x.g,by simp[FY,hx],h1⟩,h2⟩)
theorem xV(h:∀ i a,touchAt t i=some a→a.loc.isMemory=true)(hu:∀ op∈u,∀ a,op.act.touch? = some a→a.loc.isMemory=true):∀ i a,touchAt (t++u) i=some a→a.loc.isMemory=true:=by
 intro i a ha
 obtain⟨x,hx,hxa⟩:=touch_of ha
 rcases getElem?_append_cases hx with ⟨_,hx'⟩|⟨_,hxu⟩
 ·exact h i a (by rw[touchAt_of hx'];exact hxa)
 ·exact hu x hxu a hxa
theorem tB(h:∀ i g,t.g? i=some g→g≠0→g<m→t.counts i→∃ q,t.g? q=some 0∧HappensBefore t i q)(hu:∀ op∈u,op.g=0∨m≤op.g∨op.act.touch? = none) :
  ∀ i g,(t++u).g? i=some g→g≠0→g<m→(t++u).counts i→∃ q,(t++u).g? q=some 0∧HappensBefore (t++u) i q:=by
 intro i g hg hne hlt hc
 obtain⟨x,hx,_⟩:=hc
 obtain⟨op,hop,hox⟩:=touch_of hx
 rcases getElem?_append_cases hop with ⟨hi,hop'⟩|⟨_,hopu⟩
 ·obtain⟨q,hq,hb⟩:=h i g (by simpa[FY,getElem?_append_old hi]using hg) hne hlt ((counts_old hi).1 ⟨x,hx,‹_›⟩)
  have hql:q<t.size:=by
   unfold FY at hq
   obtain⟨z,hz,_⟩:=Ae.1 hq
   exact lt_size_of_getElem? hz
  exact⟨q,by simpa[FY,getElem?_append_old hql]using hq,hb_app u hb⟩
 ·have hgg:op.g=g:=by simpa[FY,hop]using hg
  rcases hu op hopu with h0|h0|h0
  ·exact absurd (hgg.symm.trans h0) hne
  ·omega
  ·rw[h0]at hox;cases hox
theorem xX{B B':Nat}(h:∀ op∈t,op.act.low B)(hB:B≤B')(hu:∀ op∈u,op.act.low B'):∀ op∈t++u,op.act.low B':=fun op hop=>(Array.mem_append.1 hop).elim (fun x=>MemAct.low_mono hB (h op x)) (hu op)
structure aEm(p:Pl)(Wg:Nat)(w w':World):Prop where
 size:w.heap.size≤w'.heap.size
 stay:∀ b,b<Wg→(b≠p.C∨p.tot=0)→w'.heap[b]? = w.heap[b]?
 like:w'.tape=w.tape∧w'.os=w.os∧w'.output=w.output
 pay:aXr p w'
theorem Com.stepW(h:Com P L Wg p S w0 m j gs w t D R V d0)(G:Geo Wg p S){i:Nat}(hi:i<j){g g':Goroutine}{es:Array Event}{s' dd':Nat}{r':Tr}
  (hg:gs[m+i]? = some g) (hK:aEm p Wg w w') (hV:Vws (gQ m j) V' w') (hE:∀ x,x≠m+i→Env (V x) (V' x)) (hO:dP (V (m+i)) (V' (m+i)))
  (hs':WS P L Wg p i s' r' dd' g' (V' (m+i))) (hdd:deafBehind (D i).deaf es=dd')
  (hok:∀ e∈es,∀ fn pos,OkW (dH (ShW S Wg)) (sN p m j V') (RdF m j V') (m+i) { g:=m+i,fn,pos,act:=.ofEvent e })
  (hat:∀ e∈es,∀ x,(Bc e).touch? = some x→x.loc.isMemory=true∧((dH (ShW S Wg) x.loc∧x.kind=.atomic)∨x.kind≠.atomic))
  (hnr:∀ e∈es,e.loc≠.mark (.release (stA Wg))) (hlow:∀ e∈es,(Bc e).low w'.heap.size)
  (hrel:s'≤5→∃ r,RelBy (stA Wg) (t++BK (m+i) g.frame.fn g.frame.place es) (m+i) r)
  (hhas:s'≤6→∀ r,r<p.wd→w'.cell? (p.cell i r)=some (p.val i r)) (hho:∀ i',i'<j→i'≠i→∀ r,r<p.wd→w'.cell? (p.cell i' r)=w.cell? (p.cell i' r)) :
  Com P L Wg p S w0 m j ((gs.map (woken P g g' w')).setIfInBounds (m+i) g') w' (t++BK (m+i) g.frame.fn g.frame.place es) (Bb D i ⟨s',0,dd'⟩) (Bb R (m+i) r') V' d0:=by
 have hm:=h.mpos
 have hact:gQ m j (m+i):=.inr ⟨by omega,by omega⟩
 have hold:∀ x,dP (V x) (V' x):=fun x=>by
  by_cases e:x=m+i
  ·subst e;exact hO
  ·exact dP.of_env (hE x e)
 have hops:∀ op∈BK (m+i) g.frame.fn g.frame.place es,op.g=m+i:=fun op hop=>by obtain⟨e,_,rfl⟩:=BA hop;rfl
 have hA:Apart (dH (ShW S Wg)) (sN p m j V') (RdF m j V'):=uH hV hm (fun k hk=>(hold k).hole (h.hC k hk)) (fun k hk b hb=>(hold k).hole (h.hS k hk b hb)) fun hs=>hs.elim G.S fun e=>by have:=G.C;omega
 refine⟨hm,by simp[h.size],fun i' hi'=>?_,fun i' h1 h2=>?_,fun i' hi'=>?_,?_,?_,?_,fun i' hi'=>?_,fun i' hi' hs=>?_,fun i' hi' hs r hr=>?_,hK.pay,hV,fun k hk b hb=>(hold k).whole' (h.low k hk b hb),fun k hk=>(hold k).hole (h.hC k hk),fun k hk b hb=>(hold k).hole (h.hS k hk b hb),
  fun b hb hne=>(hK.stay b hb hne).trans (h.stay b hb hne),⟨hK.like.1.trans h.like.1,hK.like.2.1.trans h.like.2.1,hK.like.2.2.trans h.like.2.2⟩,?_,?_,?_,xX h.seen hK.size fun op hop=>by obtain⟨e,he,rfl⟩:=BA hop;exact hlow e he⟩
 ·by_cases e:i'=i
  ·subst e
   refine⟨g',?_,by rw[A5,A5];exact hs'⟩
   have:m+i'<gs.size:=(AQ.1 hg).1
   rw[BM (by simpa using this)]
  ·obtain⟨g1,hg1,hs1⟩:=h.wk i' hi'
   refine⟨g1,?_,by rw[Bf D _ e,Bf R _ (by omega)];exact hs1.env (hE _ (by omega))⟩
   rw[AF (by omega),BN,hg1]
   simp[hs1.woken]
 ·obtain⟨g1,q,hg1,hr,hq⟩:=h.old i' h1 h2
  refine⟨g1,q,?_,by rw[Bf R _ (by omega)];exact hr,by rw[Deaf_other t (by omega) _ hops];exact hq⟩
  rw[AF (by omega),BN,hg1]
  simp[woken_quitsD hq]
 ·rw[Deaf_other t (g':=m+i) (by omega) _ hops];exact h.above i' hi'
 ·refine ConcN.CT.appW hA (aAn h.ct h.seen (fun k h1 h2=>(h.vws.sim k (.inr ⟨h1,h2⟩)).size) fun k _ _=>hold k) (k:=m+i) (by omega) (by omega) fun op hop=>?_
  obtain⟨e,he,rfl⟩:=BA hop
  exact hok e he _ _
 ·exact h.norel.app (ConcN.norel_of hnr)
 ·rw[Deaf_other t (g:=0) (g':=m+i) (by omega) _ hops];exact h.deaf0
 ·by_cases e:i'=i
  ·subst e;rw[A5,Deaf_own,h.deafW i' hi',hdd]
  ·rw[Bf D _ e,Deaf_other t (g':=m+i) (by omega) _ hops,h.deafW i' hi']
 ·by_cases e:i'=i
  ·subst e;rw[A5]at hs;exact hrel hs
  ·rw[Bf D _ e]at hs
   obtain⟨r,hr⟩:=h.rel i' hi' hs
   exact⟨r,hr.appOther hops (by omega)⟩
 ·by_cases e:i'=i
  ·subst e;rw[A5]at hs;exact hhas hs r hr
  ·rw[Bf D _ e]at hs
   rw[hho i' hi' e r hr];exact h.has i' hi' hs r hr
 ·refine aGi h.kn fun op hop a ha=>?_
  obtain⟨e,he,rfl⟩:=BA hop
  rcases(hat e he a ha).2 with h1|h1
  ·exact .inr (.inl h1)
  ·exact .inr (.inr ⟨by simp only;omega,h1⟩)
 ·refine xV h.mem fun op hop a ha=>?_
  obtain⟨e,he,rfl⟩:=BA hop
  exact(hat e he a ha).1
 ·exact tB h.over fun op hop=>.inr (.inl (by rw[hops op hop];omega))
theorem Com.step0(h:Com P L Wg p S w0 m j gs w t D R V d0)(G:Geo Wg p S){g g':Goroutine}{es:Array Event}
  (hg:gs[0]? = some g) (hK:aEm p Wg w w') (hV:Vws (gQ m j) V' w') (hE:∀ x,x≠0→Env (V x) (V' x)) (hO:dP (V 0) (V' 0))
  (hok:∀ e∈es,∀ fn pos,Ok0 (dH (ShW S Wg)) (sN p m j V') (RdF m j V') (m+j-1) { g:=0,fn,pos,act:=.ofEvent e })
  (hat:∀ e∈es,∀ x,(Bc e).touch? = some x→x.loc.isMemory=true)
  (hnr:∀ e∈es,e.loc≠.mark (.release (stA Wg))) (hlow:∀ e∈es,(Bc e).low w'.heap.size)
  (hho:∀ i,i<j→∀ r,r<p.wd→w'.cell? (p.cell i r)=w.cell? (p.cell i r)) (r0:Tr) :
  Com P L Wg p S w0 m j ((gs.map (woken P g g' w')).setIfInBounds 0 g') w' (t++BK 0 g.frame.fn g.frame.place es) D (Bb R 0 r0) V' (deafBehind d0 es):=by
 have hm:=h.mpos
 have hold:∀ x,dP (V x) (V' x):=fun x=>by
  by_cases e:x=0
  ·subst e;exact hO
  ·exact dP.of_env (hE x e)
 have hops:∀ op∈BK 0 g.frame.fn g.frame.place es,op.g=0:=fun op hop=>by obtain⟨e,_,rfl⟩:=BA hop;rfl
 have hA:Apart (dH (ShW S Wg)) (sN p m j V') (RdF m j V'):=uH hV hm (fun k hk=>(hold k).hole (h.hC k hk)) (fun k hk b hb=>(hold k).hole (h.hS k hk b hb)) fun hs=>hs.elim G.S fun e=>by have:=G.C;omega
 refine⟨hm,by simp[h.size],fun i' hi'=>?_,fun i' h1 h2=>?_,fun i' hi'=>?_,?_,?_,?_,fun i' hi'=>?_,fun i' hi' hs=>?_,fun i' hi' hs r hr=>?_,hK.pay,hV,fun k hk b hb=>(hold k).whole' (h.low k hk b hb),fun k hk=>(hold k).hole (h.hC k hk),fun k hk b hb=>(hold k).hole (h.hS k hk b hb),
  fun b hb hne=>(hK.stay b hb hne).trans (h.stay b hb hne),⟨hK.like.1.trans h.like.1,hK.like.2.1.trans h.like.2.1,hK.like.2.2.trans h.like.2.2⟩,?_,?_,?_,xX h.seen hK.size fun op hop=>by obtain⟨e,he,rfl⟩:=BA hop;exact hlow e he⟩
 ·obtain⟨g1,hg1,hs1⟩:=h.wk i' hi'
  refine⟨g1,?_,by rw[Bf R _ (by omega)];exact hs1.env (hE _ (by omega))⟩
  rw[AF (by omega),BN,hg1]
  simp[hs1.woken]
 ·obtain⟨g1,q,hg1,hr,hq⟩:=h.old i' h1 h2
  refine⟨g1,q,?_,by rw[Bf R _ (by omega)];exact hr,by rw[Deaf_other t (by omega) _ hops];exact hq⟩
  rw[AF (by omega),BN,hg1]
  simp[woken_quitsD hq]
 ·rw[Deaf_other t (g':=0) (by omega) _ hops];exact h.above i' hi'
 ·refine ConcN.CT.app0 hA (aAn h.ct h.seen (fun k h1 h2=>(h.vws.sim k (.inr ⟨h1,h2⟩)).size) fun k _ _=>hold k) fun op hop=>?_
  obtain⟨e,he,rfl⟩:=BA hop
  exact hok e he _ _
 ·exact h.norel.app (ConcN.norel_of hnr)
 ·rw[Deaf_own,h.deaf0]
 ·rw[Deaf_other t (g':=0) (by omega) _ hops,h.deafW i' hi']
 ·obtain⟨r,hr⟩:=h.rel i' hi' hs
  exact⟨r,hr.appOther hops (by omega)⟩
 ·rw[hho i' hi' r hr];exact h.has i' hi' hs r hr
 ·exact aGi h.kn fun op hop a ha=>.inl (hops op hop)
 ·refine xV h.mem fun op hop a ha=>?_
  obtain⟨e,he,rfl⟩:=BA hop
  exact hat e he a ha
 ·exact tB h.over fun op hop=>.inl (hops op hop)
theorem Com.stepO(h:Com P L Wg p S w0 m j gs w t D R V d0)(G:Geo Wg p S){i q:Nat}(h0:0<i)(him:i<m){g g':Goroutine}{es:Array Event}
  (hg:gs[i]? = some g) (hm':∀ e∈es,D8 e=true) (hq':QuitsD P q (deafBehind (Deaf t i) es) g') :
  Com P L Wg p S w0 m j ((gs.map (woken P g g' w)).setIfInBounds i g') w (t++BK i g.frame.fn g.frame.place es) D (Bb R i (Tr.nat q)) V d0:=by
 have hm:=h.mpos
 have hlt:i<gs.size:=(AQ.1 hg).1
 have hops:∀ op∈BK i g.frame.fn g.frame.place es,op.g=i:=fun op hop=>by obtain⟨e,_,rfl⟩:=BA hop;rfl
 have hnt:∀ op∈BK i g.frame.fn g.frame.place es,op.act.touch? = none:=fun op hop=>by obtain⟨e,he,rfl⟩:=BA hop;exact touch_mute (hm' e he)
 refine⟨hm,by simp[h.size],fun i' hi'=>?_,fun i' h1 h2=>?_,fun i' hi'=>?_,?_,?_,?_,fun i' hi'=>?_,fun i' hi' hs=>?_,h.has,h.pay,h.vws,h.low,h.hC,h.hS,h.stay,h.like,aGi h.kn fun op hop a ha=>?_,xV h.mem fun op hop a ha=>?_,tB h.over fun op hop=>.inr (.inr (hnt op hop)),xX h.seen (AE _) fun op hop=>?_⟩
 ·obtain⟨g1,hg1,hs1⟩:=h.wk i' hi'
  refine⟨g1,?_,by rw[Bf R _ (by omega)];exact hs1⟩
  rw[AF (by omega),BN,hg1]
  simp[hs1.woken]
 ·by_cases e:i'=i
  ·subst e
   refine⟨g',q,by rw[BM (by simpa using hlt)],by rw[A5],by rw[Deaf_own];exact hq'⟩
  ·obtain⟨g1,q1,hg1,hr,hq⟩:=h.old i' h1 h2
   refine⟨g1,q1,?_,by rw[Bf R _ e];exact hr,by rw[Deaf_other t (by omega) _ hops];exact hq⟩
   rw[AF (by omega),BN,hg1]
   simp[woken_quitsD hq]
 ·rw[Deaf_other t (g':=i) (by omega) _ hops];exact h.above i' hi'
 ·refine ConcN.CT.appW (h.apart G) h.ct (k:=i) (by omega) (by omega) fun op hop=>⟨hops op hop,fun x hx=>by rw[hnt op hop]at hx;cases hx⟩
 ·refine h.norel.app fun op hop e=>?_
  obtain⟨x,hx,rfl⟩:=BA hop
  have:=hm' x hx
  have e':=Go.ConcR.loc_of_ofEvent e
  obtain⟨loc,wr,sy⟩:=x
  simp only at e'
  subst e'
  simp[D8]at this
 ·rw[Deaf_other t (g:=0) (g':=i) (by omega) _ hops];exact h.deaf0
 ·rw[Deaf_other t (g':=i) (by omega) _ hops,h.deafW i' hi']
 ·obtain⟨r,hr⟩:=h.rel i' hi' hs
  exact⟨r,hr.appOther hops (by omega)⟩
 ·rw[hnt op hop]at ha;cases ha
 ·rw[hnt op hop]at ha;cases ha
 ·obtain⟨e,he,rfl⟩:=BA hop
  exact low_mute (hm' e he) _
theorem Com.at(h:Com P L Wg p S w0 m j gs w t D R V d0)(d:Nat):Com P L Wg p S w0 m j gs (w.at d) t D R (fun x=>iI (V x) (w.at d)) d0 where
 mpos:=h.mpos
 size:=h.size
 wk i hi:=let ⟨g,h1,h2⟩:=h.wk i hi;⟨g,h1,h2.env (cG _ _)⟩
 old:=h.old
 above:=h.above
 ct:=aAn h.ct h.seen (fun k h1 h2=>(h.vws.sim k (.inr ⟨h1,h2⟩)).size) fun k _ _=>dP.of_env (cG _ _)
 norel:=h.norel
 deaf0:=h.deaf0
 deafW:=h.deafW
 rel:=h.rel
 has:=h.has
 pay:=h.pay
 vws:=h.vws.aside rfl rfl rfl rfl fun _ _ _ _ _ _=>rfl
 low k hk b hb:=(dP.of_env (cG _ _)).whole' (h.low k hk b hb)
 hC k hk:=kS (h.hC k hk)
 hS k hk b hb:=kS (h.hS k hk b hb)
 stay:=h.stay
 like:=h.like
 kn:=h.kn
 mem:=h.mem
 over:=h.over
 seen:=h.seen
end
end Go.Am
end
section
open List renaming map_map→ζ,mapM_map→ξ
namespace Go.Am
open Go.Conc Go.Conc.Lib
open Go.ConcN (CT Apart Ok0 OkW PermW RelBy CTag phi WD Vc Ssum sumTo sumTo_upd OpenSt AllQuit isOpen isW3 isFin pend phi_mono phi_retag le_sumTo Vc_le Vc_upd others_uncounted bk_cell)
open Go.ConcR (KK wgBlock stA smA rd wr mk Bk bk_of_mute ofEvent_loc_mark ofEvent_cell ofEvent_mk)
/-! ### the measure -/
inductive LLt:List Tr→List Tr→Prop
 |head {x y:Tr} {l:List Tr}:sL x y→LLt (x::l) (y::l)
 |tail {x:Tr} {l l':List Tr}:LLt l l'→LLt (x::l) (x::l')
theorem bCv{x:Tr}(hx:Acc sL x):∀ l,Acc LLt l→Acc LLt (x::l):=by
 induction hx with
 | intro x _ ihx =>
  intro l hl
  induction hl with
  | intro l hl' ihl =>
   refine⟨_,fun y hy=>?_⟩
   cases hy with
   |head h=>exact ihx _ h l ⟨_,hl'⟩
   |tail h=>exact ihl _ h
theorem aRv:∀ l:List Tr,Acc LLt l
 |[]=>⟨_,fun y hy=>by cases hy⟩
 |x::l=>bCv (aHy x) l (aRv l)
theorem bMw{l:List Nat}{f f':Nat→Tr}{k:Nat}(hk:k∈l)(hn:l.Nodup)(h:sL (f' k) (f k))(he:∀ x∈l,x≠k→f' x=f x):LLt (l.map f') (l.map f):=by
 induction l with
 |nil=>cases hk
 | cons x l ih =>
  have hn':=List.nodup_cons.1 hn
  by_cases e:x=k
  ·subst e
   have:l.map f'=l.map f:=CF fun y hy=>he y (by simp[hy]) fun e=>hn'.1 (e ▸ hy)
   rw[BI,BI,this]
   exact .head h
  ·rw[BI,BI,he x (by simp) e]
   exact .tail (ih (by simpa[Ea e]using hk) hn'.2 fun y hy=>he y (by simp[hy]))
abbrev Mu:=Nat×(List Tr×Tr)
def MLt:Mu→Mu→Prop:=Prod.Lex (·<·) (Prod.Lex LLt sL)
theorem bTr:WellFounded MLt:=(Prod.lex ⟨(·<·),Nat.lt_wfRel.wf⟩ (Prod.lex ⟨LLt,⟨aRv⟩⟩ ⟨sL,⟨aHy⟩⟩)).wf
def jC(R:Nat→Tr)(N:Nat):List Tr:=(List.range' 1 (N-1)).map R
theorem aIs{R R':Nat→Tr}{N k:Nat}(h1:1≤k)(h2:k<N)(h:sL (R' k) (R k))(he:∀ x,x≠0→x≠k→R' x=R x):LLt (jC R' N) (jC R N) :=
 bMw (k:=k) (by simp[Gh];omega) (List.nodup_range' (step:=1)) h fun x hx hne=>he x (by simp[Gh]at hx;omega) hne
theorem bBj{R R':Nat→Tr}{N:Nat}(he:∀ x,x≠0→R' x=R x):jC R' N=jC R N :=
 CF fun x hx=>he x (by simp[Gh]at hx;omega)
def uN(Wg m j:Nat)(t:Trace):Prop :=
 ∃ q,t.act? q=some (.mark (.acquire (stA Wg)))∧t.g? q=some 0∧t.heard q∧∀ i,i<j→∃ r,RelBy (stA Wg) t (m+i) r∧r<q
theorem uN.app{Wg m j:Nat}{t u:Trace}(h:uN Wg m j t)(hu:∀ i r,i<j→RelBy (stA Wg) t (m+i) r→RelBy (stA Wg) (t++u) (m+i) r):uN Wg m j (t++u):=by
 obtain⟨q,h1,h2,h3,h4⟩:=h
 have hq:=lt_of_act? h1
 exact⟨q,by rw[act?_old hq];exact h1,by rw[g?_old hq];exact h2,(heard_old hq).2 h3,fun i hi=>let ⟨r,hr,hrq⟩:=h4 i hi;⟨r,hu i r hi hr,hrq⟩⟩
section
variable (P:Program) (L:WgLink) (Wg:Nat) (p:Pl) (K An:Goroutine→Prop) (S:Nat→Prop) (w0:World) (m:Nat)
def Inv(μ:Mu)(M:Machine)(t:Trace):Prop :=
 ∃(gs:Array Goroutine) (w:World) (sl:Option (Nat×Nat)) (j:Nat) (D:Nat→WD) (R:Nat→Tr) (V:Nat→World) (tag:CTag) (d0:Nat) (a:Goroutine) (st sm:Int),
  M=crowd gs w sl∧gs[0]? = some a∧CS P L Wg p K An tag j (R 0) d0 a (V 0)∧Com P L Wg p S w0 m j gs w t D R V d0∧w.heap[Wg]? = some (wgBlock L.tWg st sm)∧D9 j D tag st sm ∧
  (tag=.ret→uN Wg m j t)∧μ=(phi p.n (Vc j D) tag+Ssum j D,jC R (m+j),R 0)
end
section
variable {P:Program} {L:WgLink} {Wg:Nat} {p:Pl} {K An:Goroutine→Prop} {S:Nat→Prop} {w0:World} {m j:Nat} {gs:Array Goroutine} {w w':World} {sl:Option (Nat×Nat)} {t:Trace} {D:Nat→WD} {R:Nat→Tr} {V V':Nat→World} {tag:CTag} {d0:Nat} {a:Goroutine} {st sm:Int}
theorem mW(hKr:∀ g,K g→g.status=.running)(G:Geo Wg p S)
  (ha:gs[0]? = some a) (hcs:CS P L Wg p K An tag j (R 0) d0 a (V 0)) (hcom:Com P L Wg p S w0 m j gs w t D R V d0)
  {i:Nat} (hi:i<j) {g g':Goroutine} {es:Array Event} {s' dd':Nat} {r':Tr} {st' sm':Int} (hg:gs[m+i]? = some g) (hgo:stepG P false g w=.go g' w' es)
  (hK:aEm p Wg w w') (hV:Vws (gQ m j) V' w') (hE:∀ x,x≠m+i→Env (V x) (V' x)) (hO:dP (V (m+i)) (V' (m+i)))
  (hs':WS P L Wg p i s' r' dd' g' (V' (m+i))) (hdd:deafBehind (D i).deaf es=dd')
  (hok:∀ e∈es,∀ fn pos,OkW (dH (ShW S Wg)) (sN p m j V') (RdF m j V') (m+i) { g:=m+i,fn,pos,act:=.ofEvent e })
  (hat:∀ e∈es,∀ x,(Bc e).touch? = some x→x.loc.isMemory=true∧((dH (ShW S Wg) x.loc∧x.kind=.atomic)∨x.kind≠.atomic))
  (hnr:∀ e∈es,e.loc≠.mark (.release (stA Wg))) (hlow:∀ e∈es,(Bc e).low w'.heap.size)
  (hrel:s'≤5→∃ r,RelBy (stA Wg) (t++BK (m+i) g.frame.fn g.frame.place es) (m+i) r)
  (hhas:s'≤6→∀ r,r<p.wd→w'.cell? (p.cell i r)=some (p.val i r)) (hho:∀ i',i'<j→i'≠i→∀ r,r<p.wd→w'.cell? (p.cell i' r)=w.cell? (p.cell i' r))
  (hwg:w'.heap[Wg]? = some (wgBlock L.tWg st' sm'))
  (hmode:∀ tag',(tag'=tag∨(tag=.blk∧tag'=.w3))→(mayWake P g=true→g'.status=.running→tag'≠.blk)→D9 j (Bb D i ⟨s',0,dd'⟩) tag' st' sm')
  (hacq:tag=.ret→uN Wg m j (t++BK (m+i) g.frame.fn g.frame.place es))
  (hlt:(s'<(D i).stage∧B9 ⟨s',0,dd'⟩≤B9 (D i))∨(s'=(D i).stage∧sL r' (R (m+i)))) :
  ∃ M ops μ',runT P (crowd gs w sl) (m+i)=(.next M,ops)∧MLt μ' (phi p.n (Vc j D) tag+Ssum j D,jC R (m+j),R 0)∧Inv P L Wg p K An S w0 m μ' M (t++ops):=by
 have hm:=hcom.mpos
 obtain⟨tag',r0,hcs',htag,hwk⟩:=(hcs.env (hE 0 (by omega))).wokenBy hKr g g' w'
 have hrun:=runT_crowd_go (P:=P) (sl:=sl) (i:=m+i) hg (by rw[show(m+i==0)=false by simp;omega];exact hgo)
 have e1:=sumTo_upd D (⟨s',0,dd'⟩:WD) B9 hi
 have e2:=sumTo_upd D (⟨s',0,dd'⟩:WD) WD.stage hi
 have hcom':=hcom.stepW G hi hg hK hV hE hO hs' hdd hok hat hnr hlow hrel hhas hho
 have hcom'':Com P L Wg p S w0 m j ((gs.map (woken P g g' w')).setIfInBounds (m+i) g') w' (t++BK (m+i) g.frame.fn g.frame.place es) (Bb D i ⟨s',0,dd'⟩) (Bb (Bb R (m+i) r') 0 r0) V' d0 :=
  { hcom' with wk:=fun i' hi'=>by rw[Bf (Bb R (m+i) r') r0 (show m+i'≠0 by omega)];exact hcom'.wk i' hi',old:=fun i' h1 h2=>by rw[Bf (Bb R (m+i) r') r0 (show i'≠0 by omega)];exact hcom'.old i' h1 h2 }
 refine⟨_,_,(phi p.n (Vc j (Bb D i ⟨s',0,dd'⟩)) tag'+Ssum j (Bb D i ⟨s',0,dd'⟩),jC (Bb (Bb R (m+i) r') 0 r0) (m+j),r0),hrun,?_,
  _,w',sl,j,Bb D i ⟨s',0,dd'⟩,Bb (Bb R (m+i) r') 0 r0,V',tag',d0,woken P g g' w' a,st',sm',rfl,?_,by rw[A5];exact hcs',hcom'',hwg,hmode tag' htag hwk,?_,by rw[A5]⟩
 ·rw[phi_retag p.n _ htag]
  simp only[Vc,Ssum]at *
  rcases hlt with ⟨h1,h2⟩|⟨h1,h2⟩
  ·refine EY _ _ ?_
   have:=phi_mono p.n (v':=sumTo j fun a=>B9 (Bb D i ⟨s',0,dd'⟩ a)) (v:=sumTo j fun a=>B9 (D a)) (by omega) tag
   omega
  ·have ec:B9 (⟨s',0,dd'⟩:WD)=B9 (D i):=by simp only[B9,h1]
   have ev:(sumTo j fun a=>B9 (Bb D i ⟨s',0,dd'⟩ a))=sumTo j fun a=>B9 (D a):=by omega
   have es':(sumTo j fun a=>(Bb D i ⟨s',0,dd'⟩ a).stage)=sumTo j fun a=>(D a).stage:=by omega
   rw[ev,es']
   refine FZ _ (EY _ _ (aIs (k:=m+i) (by omega) (by omega) ?_ fun x h0 hx=>by rw[Bf _ _ h0,Bf _ _ hx]))
   rw[Bf _ _ (by omega),A5];exact h2
 ·rw[AF (by omega),BN,ha];rfl
 ·intro e
  rcases htag with rfl|⟨_,rfl⟩
  ·exact hacq e
  ·cases e
/-! ### small laws -/
theorem bBz{k:Nat}{Own Rd:Nat→Loc→Prop}{e:Event}(h:Bk Wg e)(fn:FuncId)(pos:String):OkW (dH (ShW S Wg)) Own Rd k { g:=k,fn,pos,act:=.ofEvent e }:=by
 refine⟨rfl,fun x hx=>?_⟩
 rcases h with h1|h1|⟨a,wr,rfl,ha⟩
 ·simp only[ofEvent_loc_mark h1]at hx;cases hx
 ·simp only[ofEvent_loc_mark h1]at hx;cases hx
 ·simp only[ofEvent_cell,Bx,Au]at hx
  subst hx
  exact .inl ⟨.inr ha,by simp,by simp⟩
theorem aNy{N:Nat}{Own Rd:Nat→Loc→Prop}{e:Event}(h:Bk Wg e)(fn:FuncId)(pos:String):Ok0 (dH (ShW S Wg)) Own Rd N { g:=0,fn,pos,act:=.ofEvent e }:=by
 refine⟨rfl,fun x hx=>?_⟩
 rcases h with h1|h1|⟨a,wr,rfl,ha⟩
 ·simp only[ofEvent_loc_mark h1]at hx;cases hx
 ·simp only[ofEvent_loc_mark h1]at hx;cases hx
 ·simp only[ofEvent_cell,Bx,Au]at hx
  subst hx
  exact .inl ⟨.inr ha,by simp⟩
theorem bHg{e:Event}(h:Bk Wg e):∀ x,(Bc e).touch? = some x→x.loc.isMemory=true∧((dH (ShW S Wg) x.loc∧x.kind=.atomic)∨x.kind≠.atomic):=by
 intro x hx
 rcases h with h1|h1|⟨a,wr,rfl,ha⟩
 ·simp only[ofEvent_loc_mark h1]at hx;cases hx
 ·simp only[ofEvent_loc_mark h1]at hx;cases hx
 ·simp only[ofEvent_cell,Bx,Au]at hx
  subst hx
  exact⟨rfl,.inl ⟨.inr ha,by simp⟩⟩
theorem aJy{e:Event}(h:Bk Wg e):e.loc≠.mark (.release (stA Wg)):=by
 intro hl
 rcases h with h1|h1|⟨a,wr,rfl,_⟩
 ·rw[h1]at hl;cases hl
 ·rw[h1]at hl;cases hl
 ·cases hl
theorem aOh{e:Event}(h:Bk Wg e){B:Nat}(hB:Wg<B):(Bc e).low B:=by
 rcases h with h1|h1|⟨a,wr,rfl,ha⟩
 ·rw[ofEvent_loc_mark h1];trivial
 ·rw[ofEvent_loc_mark h1];trivial
 ·rw[ofEvent_cell];simp only[MemAct.low,Loc.low];omega
structure gY(Wg:Nat)(w w':World):Prop where
 tape:w'.tape=w.tape
 os:w'.os=w.os
 output:w'.output=w.output
 size:w'.heap.size=w.heap.size
 block:∀ b,b≠Wg→w'.heap[b]? = w.heap[b]?
theorem gY.refl(Wg:Nat)(w:World):gY Wg w w:=⟨rfl,rfl,rfl,rfl,fun _ _=>rfl⟩
theorem gY.set(Wg:Nat)(w:World)(o:Nat)(x:Value):gY Wg w (w.setCell ⟨Wg,o,none⟩ x):=⟨rfl,rfl,rfl,by simp[World.setCell],fun b hb=>by rw[dF,Aj hb]⟩
theorem uU{Wg:Nat}{w:World}{ty:TypeId}{st sm:Int}(h:w.heap[Wg]? = some (wgBlock ty st sm))(x:Int):(w.setCell (stA Wg) (.int .u64 x)).heap[Wg]? = some (wgBlock ty x sm):=by
 rw[dF,Ar (show Wg=(stA Wg).block from rfl),h];simp[bKg,wgBlock,stA]
theorem bAg{Wg:Nat}{w:World}{ty:TypeId}{st sm:Int}(h:w.heap[Wg]? = some (wgBlock ty st sm))(x:Int):(w.setCell (smA Wg) (.int .u32 x)).heap[Wg]? = some (wgBlock ty st x):=by
 rw[dF,Ar (show Wg=(smA Wg).block from rfl),h];simp[bKg,wgBlock,smA]
theorem gY.kept(h:gY Wg w w')(G:Geo Wg p S)(hp:aXr p w):aEm p Wg w w' :=
 ⟨Nat.le_of_eq h.size.symm,fun b hb _=>h.block b (by omega),⟨h.tape,h.os,h.output⟩,by obtain⟨cs,f,h1,h2⟩:=hp;exact⟨cs,f,(h.block p.C (by have:=G.C;omega)).trans h1,h2⟩⟩
theorem gY.cells(h:gY Wg w w')(G:Geo Wg p S)(i r:Nat):w'.cell? (p.cell i r)=w.cell? (p.cell i r):=by
 have:=h.block p.C (by have:=G.C;omega)
 simp[Bw,Pl.cell,this]
theorem Com.turn(hcom:Com P L Wg p S w0 m j gs w t D R V d0)(h:gY Wg w w'):Vws (gQ m j) (fun x=>iI (V x) w') w' :=
 hcom.vws.aside h.size h.tape h.os h.output fun k hk b o ho hne=>h.block b fun e=>by
  subst e
  rw[hcom.hS k hk b (.inr rfl)]at ho
  exact hne (Bj ho).symm
theorem aAv(hKr:∀ g,K g→g.status=.running)(G:Geo Wg p S)(ha:gs[0]? = some a)(hcs:CS P L Wg p K An tag j (R 0) d0 a (V 0))(hcom:Com P L Wg p S w0 m j gs w t D R V d0)
  {i:Nat} (hi:i<j) {g g':Goroutine} {es:Array Event} {s' dd':Nat} {r':Tr} {st' sm':Int} (hg:gs[m+i]? = some g) (hgo:stepG P false g w=.go g' w' es)
  (hT:gY Wg w w') (hwg:w'.heap[Wg]? = some (wgBlock L.tWg st' sm')) (hbk:∀ e∈es,Bk Wg e)
  (hd:∀ jx e,es[jx]? = some e→(Bc e).touch? = none∨0<deafBehind (D i).deaf (es.extract 0 jx))
  (hs':∀ v,WS P L Wg p i s' r' dd' g' v) (hdd:deafBehind (D i).deaf es=dd') (h6:(D i).stage≤6) (h5:s'≤5→(D i).stage≤5)
  (hmode:∀ tag',(tag'=tag∨(tag=.blk∧tag'=.w3))→(mayWake P g=true→g'.status=.running→tag'≠.blk)→D9 j (Bb D i ⟨s',0,dd'⟩) tag' st' sm')
  (hacq:tag=.ret→uN Wg m j (t++BK (m+i) g.frame.fn g.frame.place es))
  (hlt:(s'<(D i).stage∧B9 ⟨s',0,dd'⟩≤B9 (D i))∨(s'=(D i).stage∧sL r' (R (m+i)))) :
  ∃ M ops μ',runT P (crowd gs w sl) (m+i)=(.next M,ops)∧MLt μ' (phi p.n (Vc j D) tag+Ssum j D,jC R (m+j),R 0)∧Inv P L Wg p K An S w0 m μ' M (t++ops):=by
 have hdk:Deaf t (m+i)=(D i).deaf:=hcom.deafW i hi
 have hlt':Wg<w'.heap.size:=bG hwg
 exact mW hKr G ha hcs hcom hi hg hgo (hT.kept G hcom.pay) (hcom.turn hT) (fun x _=>cG _ _) (dP.of_env (cG _ _)) (hs' _) hdd
  (fun e he fn pos=>bBz (hbk e he) fn pos) (fun e he=>bHg (hbk e he)) (fun e he=>aJy (hbk e he)) (fun e he=>aOh (hbk e he) hlt')
  (fun h=>let ⟨r,hr⟩:=hcom.rel i hi (h5 h);⟨r,hr.book hdk _ _ hbk hd⟩) (fun _ r hr=>(hT.cells G i r).trans (hcom.has i hi h6 r hr)) (fun i' _ _ r _=>hT.cells G i' r) hwg hmode hacq hlt
end
end Go.Am
end
section
open List renaming map_map→ζ,mapM_map→ξ
namespace Go.Am
open Go.Conc Go.Conc.Lib
open Go.ConcN (CT Apart Ok0 OkW PermW RelBy CTag phi WD Vc Ssum sumTo sumTo_upd OpenSt AllQuit isOpen isW3 isFin pend phi_mono phi_retag le_sumTo Vc_le Vc_upd others_uncounted bk_cell)
open Go.ConcR (KK wgBlock stA smA rd wr mk Bk bk_of_mute ofEvent_loc_mark ofEvent_cell ofEvent_mk)
theorem aWk{v:World}{e:Event}(h:EvV v e){x:Touch}(hx:(Bc e).touch? = some x):x.kind=.plain:=by
 obtain⟨loc,wr,sy⟩:=e
 rcases h with ⟨a,c,t,f,h1,h2,_⟩|⟨r,o,h1,h2,_⟩|h
 ·simp only at h1 h2;subst h1;subst h2
  simp[Bc,Bx]at hx;subst hx;rfl
 ·simp only at h1 h2;subst h1;subst h2
  simp[Bc,Bx]at hx;subst hx;rfl
 ·injection h with e1 e2 e3;subst e1;subst e2;subst e3
  simp[Bc,Bx]at hx
theorem bEx{v:World}{e:Event}(h:EvV v e)(a:Addr):e.loc≠.mark (.release a):=by
 rcases h with ⟨a,c,t,f,h1,_⟩|⟨r,o,h1,_⟩|rfl
 ·rw[h1];simp
 ·rw[h1];simp
 ·simp
section
variable {P:Program} {L:WgLink} {Wg:Nat} {p:Pl} {K An:Goroutine→Prop} {S:Nat→Prop} {w0:World} {m j:Nat} {gs:Array Goroutine} {w w':World} {sl:Option (Nat×Nat)} {t:Trace} {D:Nat→WD} {R:Nat→Tr} {V V':Nat→World} {tag:CTag} {d0:Nat} {a:Goroutine} {st sm:Int}
theorem Com.keptQ(hcom:Com P L Wg p S w0 m j gs w t D R V d0)(G:Geo Wg p S){k:Nat}(hk:gQ m j k){Rm:Event→Prop}{v':World}{es:Array Event}(hq:aBh Rm (V k) w v' w' es) :
  aEm p Wg w w'∧w'.heap[Wg]? = w.heap[Wg]? ∧ w'.heap[p.C]? = w.heap[p.C]? := by
 have hs:=hcom.vws.sim k hk
 have hsz:(V k).heap.size=w.heap.size:=hs.size
 have hge:=hq.ext.size
 have hsz':=hq.sim.size
 have hC:w'.heap[p.C]? = w.heap[p.C]? := hq.rest _ #[] 0 (hcom.hC k hk)
 refine⟨⟨by omega,fun b hb hne=>?_,⟨by rw[←hq.sim.tape,hq.ext.tape,hs.tape],by rw[←hq.sim.os,hq.ext.os,hs.os],by rw[←hq.sim.output,hq.ext.output,hs.output]⟩,?_⟩,hq.rest _ #[] 0 (hcom.hS k hk _ (.inr rfl)),hC⟩
 ·obtain⟨c,ty,h⟩:=hcom.low k hk b (by omega)
  exact hq.rest b c ty h
 ·obtain⟨cs,f,h1,h2⟩:=hcom.pay
  exact⟨cs,f,hC.trans h1,h2⟩
set_option maxHeartbeats 1600000 in
theorem aMx(hKr:∀ g,K g→g.status=.running)(G:Geo Wg p S)(hn:p.n<2147483648)(hjn:j+pend tag≤p.n)
  (ha:gs[0]? = some a) (hcs:CS P L Wg p K An tag j (R 0) d0 a (V 0)) (hcom:Com P L Wg p S w0 m j gs w t D R V d0) (hwg:w.heap[Wg]? = some (wgBlock L.tWg st sm)) (hmode:D9 j D tag st sm)
  (hacq:tag=.ret→uN Wg m j t) {i:Nat} (hi:i<j) {g:Goroutine} (hg:gs[m+i]? = some g) (hrun:g.status=.running) :
  ∃ M ops μ',runT P (crowd gs w sl) (m+i)=(.next M,ops)∧MLt μ' (phi p.n (Vc j D) tag+Ssum j D,jC R (m+j),R 0)∧Inv P L Wg p K An S w0 m μ' M (t++ops):=by
 obtain⟨g₁,hg₁,hs⟩:=hcom.wk i hi
 obtain rfl:g=g₁:=by rw[hg]at hg₁;exact Bj hg₁
 have hm:=hcom.mpos
 have hact:gQ m j (m+i):=.inr ⟨by omega,by omega⟩
 have hVj:=Vc_le j D
 have hdk:Deaf t (m+i)=(D i).deaf:=hcom.deafW i hi
 have hI:cU L.tWg Wg w:=⟨st,sm,hwg⟩
 generalize hst:(D i).stage=s at hs
 generalize hR:R (m+i)=r at hs
 generalize hde:(D i).deaf=dd at hs
 have nr:s≠1→tag≠.ret:=fun h=>hmode.not_ret hi (by omega)
 -- idle steps behind the working stage
 have idle:∀{g':Goroutine} {es:Array Event} {k:Nat},stepG P false g w=.go g' w es→(∀ e∈es,D8 e=true∨noE e)→(∀ v,WS P L Wg p i s (Tr.nat k) (deafBehind dd es) g' v)→r=Tr.nat (k+1)→s≤6 →
   ∃ M ops μ',runT P (crowd gs w sl) (m+i)=(.next M,ops)∧MLt μ' (phi p.n (Vc j D) tag+Ssum j D,jC R (m+j),R 0)∧Inv P L Wg p K An S w0 m μ' M (t++ops):=by
  intro g' es k hgo hmu hs' hr h6
  have hmu':∀ e∈es,D8 e=true:=fun e he=>(hmu e he).resolve_right id
  have hbk:∀ e∈es,Bk Wg e:=fun e he=>bk_of_mute (hmu' e he)
  have hno:∀ jx e,es[jx]? = some e→(Bc e).touch? = none∨0<deafBehind (D i).deaf (es.extract 0 jx):=fun jx e he=>.inl (touch_mute (hmu' e (BQ he)))
  refine aAv hKr G ha hcs hcom hi hg hgo (.refl Wg w) hwg hbk hno (s':=s) hs' (by rw[hde]) (by omega) (fun h=>by omega) (fun tag' ht _=>?_) (fun e=>?_) (.inr ⟨hst.symm,by rw[hR,hr];exact iP k⟩)
  ·have:=hmode.same (i:=i) 0 (deafBehind dd es)
   rw[hst]at this
   exact this.retag ht
  ·refine(hacq e).app fun i' r' hi' hr'=>?_
   by_cases e':i'=i
   ·subst e';exact hr'.book hdk _ _ hbk hno
   ·exact hr'.appOther Go.ConcR.g_of_ofEvents (by omega)
 cases hs with
 | work h =>
  cases htr:r with
  | node f =>
   rw[htr]at h
   obtain⟨_,hv,hst'⟩:=h
   obtain⟨g',v',w',es,hgo,hq,hgt⟩:=hst' (V (m+i)) w (.refl _) (hcom.vws.sim _ hact) trivial
   obtain⟨hK,hW,hC⟩:=hcom.keptQ G hact hq
   have hput:aBx V (m+i) v' w' (m+i)=v':=kK _ _ _ _
   have hev:∀ e∈es,EvV v' e∨D8 e=true:=fun e he=>(hq.evs e he).imp id fun x=>x.resolve_right id
   have hcell:∀ i' r,w'.cell? (p.cell i' r)=w.cell? (p.cell i' r):=fun i' r=>by simp[Bw,Pl.cell,hC]
   have hlt':Wg<w'.heap.size:=bG (hW.trans hwg)
   refine mW hKr G ha hcs hcom hi hg hgo (V':=aBx V (m+i) v' w') hK (hcom.vws.step hact hq) (fun x hx=>by rw[nB V _ _ hx];exact cG _ _) (by rw[hput];exact dP.of_ext hq.ext hv)
    (s':=7) (r':=f (V (m+i),w)) (dd':=deafBehind dd es) (.work (by rw[hput];exact hgt)) (by rw[hde])
    (fun e he fn pos=>?_) (fun e he x hx=>?_) (fun e he=>?_) (fun e he=>?_) (fun h=>by omega) (fun h=>by omega) (fun i' _ _ r _=>hcell i' r) (hW.trans hwg) (fun tag' ht _=>?_) (fun e=>absurd e (nr (by omega))) (.inr ⟨hst.symm,?_⟩)
   ·rcases hev e he with h1|h1
    ·exact bLv (by omega) (by omega) (by rw[hput];exact h1) fn pos
    ·exact bBz (bk_of_mute h1) fn pos
   ·rcases hev e he with h1|h1
    ·exact⟨(aGt h1 hx).1,.inr (by rw[aWk h1 hx];simp)⟩
    ·rw[touch_mute h1]at hx;cases hx
   ·rcases hev e he with h1|h1
    ·exact bEx h1 _
    ·exact aJy (bk_of_mute h1)
   ·rcases hev e he with h1|h1
    ·exact aRr (Nat.le_of_eq hq.sim.size) h1
    ·exact low_mute h1 _
   ·have:=hmode.same (i:=i) 0 (deafBehind dd es)
    rw[hst]at this
    exact this.retag ht
   ·rw[hR,htr];exact qG f _
  | leaf =>
   rw[htr]at h
   obtain⟨hd,_,hput⟩:=h
   obtain⟨g',w',es,hgo,hp,hes,hdl⟩:=hput w hcom.pay
   obtain⟨n,hdn⟩:=hdl.count
   have hd0:deafBehind dd es=0:=by
    rw[deafBehind_still fun e he=>by obtain⟨r,_,rfl⟩:=hes e he;exact⟨by simp,by simp⟩];exact hd
   have hCl:p.C<w'.heap.size:=by obtain⟨cs,f,h1,_⟩:=hp.pay;exact bG h1
   have hW:w'.heap[Wg]? = w.heap[Wg]? := hp.block Wg (by have:=G.C;omega)
   refine mW hKr G ha hcs hcom hi hg hgo (V':=fun x=>iI (V x) w') ⟨Nat.le_of_eq hp.size.symm,fun b _ hne=>hne.elim (hp.block b) fun e=>absurd e (by have:=Nat.mul_pos (show 0<p.n by omega) p.pos;have:=p.le;omega),⟨hp.tape,hp.os,hp.output⟩,hp.pay⟩
    (hcom.vws.aside hp.size hp.tape hp.os hp.output fun k hk b o ho hne=>hp.block b fun e=>by subst e;rw[hcom.hC k hk]at ho;exact hne (Bj ho).symm) (fun x _=>cG _ _) (dP.of_env (cG _ _))
    (s':=6) (dd':=0) (.rel hdn) (by rw[hde];exact hd0) (fun e he fn pos=>?_) (fun e he x hx=>?_) (fun e he=>?_) (fun e he=>?_) (fun h=>by omega) (fun _ r hr=>hp.new r hr) (fun i' hi' hne r hr=>?_) (hW.trans hwg)
    (fun tag' ht _=>(hmode.counted hi (by omega) (.inl rfl) _ _).retag ht) (fun e=>absurd e (nr (by omega))) (.inl ⟨by omega,by simp[B9,hst]⟩)
   ·obtain⟨r,hr,rfl⟩:=hes e he
    refine⟨rfl,fun x hx=>?_⟩
    simp only[ofEvent_cell,Bx,Au]at hx
    subst hx
    exact .inr (.inl ⟨by omega,by omega,.inr ⟨r,hr,by simp⟩⟩)
   ·obtain⟨r,hr,rfl⟩:=hes e he
    simp only[ofEvent_cell,Bx,Au]at hx
    subst hx
    exact⟨rfl,.inr (by simp)⟩
   ·obtain⟨r,hr,rfl⟩:=hes e he
    simp
   ·obtain⟨r,hr,rfl⟩:=hes e he
    rw[ofEvent_cell];exact hCl
   ·refine hp.cells _ ?_
    rcases Nat.lt_or_gt_of_ne hne with h1|h1
    ·left
     have:(i'+1)*p.wd≤i*p.wd:=B3 _ h1
     rw[Nat.add_mul]at this;omega
    ·right
     have:(i+1)*p.wd≤i'*p.wd:=B3 _ h1
     omega
 | rel h =>
  rcases h.cases with ⟨_,hd,g',hgo,hdl⟩|⟨n',rfl,_,g',es,hmu,hgo,h'⟩
  ·obtain⟨n,hdn⟩:=hdl.count
   have hlt':Wg<w.heap.size:=bG hwg
   refine mW hKr G ha hcs hcom hi hg (hgo w hI) (V':=V) ((gY.refl Wg w).kept G hcom.pay) hcom.vws (fun x _=>.refl _) (dP.of_env (.refl _)) (s':=5) (dd':=0) (.sub hdn) (by rw[hde,hd];rfl)
    (fun e he fn pos=>?_) (fun e he x hx=>?_) (fun e he=>?_) (fun e he=>?_) (fun _=>⟨t.size,ConcN.RelBy.new (by rw[hdk,hde,hd]) _ _⟩) (fun _ r hr=>hcom.has i hi (by omega) r hr) (fun _ _ _ _ _=>rfl) hwg
    (fun tag' ht _=>(hmode.counted hi (by omega) (.inr rfl) _ _).retag ht) (fun e=>absurd e (nr (by omega))) (.inl ⟨by omega,by simp[B9,hst]⟩)
   ·simp at he;subst he;exact⟨rfl,fun x hx=>by simp[ofEvent_mk,Bx]at hx⟩
   ·simp at he;subst he;simp[ofEvent_mk,Bx]at hx
   ·simp at he;subst he;simp[mk]
   ·simp at he;subst he;rw[ofEvent_mk];exact hlt'
  ·exact idle (hgo w hI) hmu (fun v=>.rel h') rfl (by omega)
 | sub h =>
  rcases h.cases with ⟨hd,_,hall⟩|⟨n',rfl,_,g',es,hmu,hgo,h'⟩
  ·have hc1:B9 (D i)=1:=by simp[B9,hst]
   have hV1:1≤Vc j D:=by have:=le_sumTo (f:=fun x=>B9 (D x)) hi;simp only[Vc];omega
   have bk2:∀ e∈#[rd (stA Wg),wr (stA Wg)],Bk Wg e:=by intro e he;simp at he;rcases he with rfl|rfl<;>exact bk_cell _ _ rfl
   have df2:∀ jx e,(#[rd (stA Wg),wr (stA Wg)]:Array Event)[jx]? = some e→(Bc e).touch? = none∨0<deafBehind (D i).deaf ((#[rd (stA Wg),wr (stA Wg)]:Array Event).extract 0 jx):=by
    intro jx e he
    rw[hde,hd]
    match jx,he with
    |0,_=>exact .inr (by simp[deafBehind])
    |1,_=>exact .inr (by simp[deafBehind,rd])
    |jx+2,he=>simp at he
   have hdd:deafBehind (D i).deaf #[rd (stA Wg),wr (stA Wg)]=dd:=by rw[hde];simp[deafBehind,rd,wr]
   have hq0:∀ x,B9 (⟨1,0,x⟩:WD)=0:=fun _=>rfl
   have opq:OpenSt j D→OpenSt j (Bb D i ⟨1,0,dd⟩):=fun h a ha=>by
    by_cases e:a=i
    ·subst e;rw[A5];simp
    ·rw[Bf D _ e];exact h a ha
   cases hmode with
   | opn h1 h2 h3 =>
    obtain⟨v,hv⟩:∃ v,Vc j D+pend tag=v+1:=⟨Vc j D+pend tag-1,by omega⟩
    rw[hv]at hwg
    have hw1:w.heap[Wg]? = some (wgBlock L.tWg (((v:Int)+1)*KK+((0:Nat):Int)) 0):=by simpa using hwg
    obtain⟨g',hgo,_,hq⟩:=hall w v 0 (by omega) (by omega) hw1
    obtain⟨q,hq⟩:=hq (by omega)
    have hv':Vc j (Bb D i ⟨1,0,dd⟩)+pend tag=v:=by have:=Vc_upd D (⟨1,0,dd⟩:WD) hi;have:=hq0 dd;omega
    refine aAv hKr G ha hcs hcom hi hg hgo (gY.set Wg w 0 _) (uU hw1 _) bk2 df2 (s':=1) (dd':=dd) (fun v=>.quit hq) hdd (by omega) (fun _=>by omega) (fun tag' ht _=>ER ?_ ht) (fun e=>absurd e (nr (by omega))) (.inl ⟨by omega,by simp[B9]⟩)
    have e:((v:Nat):Int)*KK+((0:Nat):Int)=((Vc j (Bb D i ⟨1,0,dd⟩)+pend tag:Nat):Int)*KK:=by rw[hv'];simp
    rw[e]
    exact .opn h1 (opq h2) (fun vs ev=>by have:=h3 vs ev;omega)
   | reg h1 h2 h3 =>
    obtain⟨v,hv⟩:∃ v,Vc j D=v+1:=⟨Vc j D-1,by omega⟩
    rw[hv]at hwg
    have hp:pend tag=0:=by cases tag<;>first|rfl|exact h1.elim
    have hw1:w.heap[Wg]? = some (wgBlock L.tWg (((v:Int)+1)*KK+((1:Nat):Int)) 0):=by simpa using hwg
    obtain⟨g',hgo,hl,hq⟩:=hall w v 1 (by omega) (by omega) hw1
    by_cases hv0:v=0
    ·subst hv0
     obtain⟨n2,hk⟩:=(hl ⟨rfl,rfl⟩).count
     refine aAv hKr G ha hcs hcom hi hg hgo (gY.set Wg w 0 _) (uU hw1 _) bk2 df2 (s':=4) (dd':=dd) (fun v=>.look hk) hdd (by omega) (fun _=>by omega) (fun tag' ht _=>ER ?_ ht) (fun e=>absurd e (nr (by omega))) (.inl ⟨by omega,by simp[B9]⟩)
     have hoth:∀ a,a<j→a≠i→(D a).stage=1:=fun a ha e=>by
      have c0:=others_uncounted hi hv hc1 a ha e
      have:=h2 a ha
      simp only[B9]at c0
      split at c0<;>omega
     have:=ConcN.Mode.last (j:=j) (D:=Bb D i ⟨4,0,dd⟩) (tag:=tag) i h1 hi (by rw[A5];simp) (fun a ha e=>by rw[Bf D _ e];exact hoth a ha e)
     rw[A5]at this
     simpa using this
    ·obtain⟨q,hq⟩:=hq (by omega)
     have hv':Vc j (Bb D i ⟨1,0,dd⟩)=v:=by have:=Vc_upd D (⟨1,0,dd⟩:WD) hi;have:=hq0 dd;omega
     refine aAv hKr G ha hcs hcom hi hg hgo (gY.set Wg w 0 _) (uU hw1 _) bk2 df2 (s':=1) (dd':=dd) (fun v=>.quit hq) hdd (by omega) (fun _=>by omega) (fun tag' ht _=>ER ?_ ht) (fun e=>absurd e (nr (by omega))) (.inl ⟨by omega,by simp[B9]⟩)
     have e:((v:Nat):Int)*KK+((1:Nat):Int)=((Vc j (Bb D i ⟨1,0,dd⟩):Nat):Int)*KK+1:=by rw[hv'];simp
     rw[e]
     exact .reg h1 (opq h2) (by omega)
   | last L' _ h2 h3 h4 =>
    by_cases e:i=L'
    ·subst e;omega
    ·have:=h4 i hi e;omega
   |sema h2=>have:=h2 i hi;omega
   |fin _ h2=>have:=h2 i hi;omega
  ·exact idle (hgo w hI) hmu (fun v=>.sub h') rfl (by omega)
 | look h =>
  rcases h.cases with ⟨hd,_,hx⟩|⟨n',rfl,_,g',es,hmu,hgo,h'⟩
  ·obtain⟨hW3,hoth,rfl,rfl⟩:=hmode.isLast hi (by omega)
   simp only[hst]at hwg
   obtain⟨g',hgo,hk⟩:=hx w (by simpa using hwg)
   obtain⟨n2,hk⟩:=hk.count
   refine aAv hKr G ha hcs hcom hi hg hgo (.refl Wg w) hwg (by intro e he;simp at he;subst he;exact bk_cell _ _ rfl) (by rw[hde,hd];intro jx e he;match jx,he with|0,_=>exact .inr (by simp[deafBehind])|jx+1,he=>simp at he)
    (s':=3) (dd':=dd) (fun v=>.zero hk) (by rw[hde];simp[deafBehind,rd]) (by omega) (fun _=>by omega) (fun tag' ht _=>ER ?_ ht) (fun e=>absurd e (nr (by omega))) (.inl ⟨by omega,by simp[B9]⟩)
   have:=ConcN.Mode.last (j:=j) (D:=Bb D i ⟨3,0,dd⟩) (tag:=tag) i hW3 hi (by rw[A5];simp) (fun a ha e=>by rw[Bf D _ e];exact hoth a ha e)
   rw[A5]at this
   simpa using this
  ·exact idle (hgo w hI) hmu (fun v=>.look h') rfl (by omega)
 | zero h =>
  rcases h.cases with ⟨hd,_,hx⟩|⟨n',rfl,_,g',es,hmu,hgo,h'⟩
  ·obtain⟨hW3,hoth,rfl,rfl⟩:=hmode.isLast hi (by omega)
   simp only[hst]at hwg
   have hwg':w.heap[Wg]? = some (wgBlock L.tWg 1 0):=by simpa using hwg
   obtain⟨g',hgo,hk⟩:=hx w hwg'
   obtain⟨n2,hk⟩:=hk.count
   refine aAv hKr G ha hcs hcom hi hg hgo (gY.set Wg w 0 _) (uU hwg' 0) (by intro e he;simp at he;subst he;exact bk_cell _ _ rfl) (by rw[hde,hd];intro jx e he;match jx,he with|0,_=>exact .inr (by simp[deafBehind])|jx+1,he=>simp at he)
    (s':=2) (dd':=dd) (fun v=>.sem hk) (by rw[hde];simp[deafBehind,wr]) (by omega) (fun _=>by omega) (fun tag' ht _=>ER ?_ ht) (fun e=>absurd e (nr (by omega))) (.inl ⟨by omega,by simp[B9]⟩)
   have:=ConcN.Mode.last (j:=j) (D:=Bb D i ⟨2,0,dd⟩) (tag:=tag) i hW3 hi (by rw[A5];simp) (fun a ha e=>by rw[Bf D _ e];exact hoth a ha e)
   rw[A5]at this
   simpa using this
  ·exact idle (hgo w hI) hmu (fun v=>.zero h') rfl (by omega)
 | sem h =>
  rcases h.cases with ⟨hd,_,hmw,hx⟩|⟨n',rfl,_,g',es,hmu,hgo,h'⟩
  ·obtain⟨hW3,hoth,rfl,rfl⟩:=hmode.isLast hi (by omega)
   simp only[hst]at hwg
   have hwg':w.heap[Wg]? = some (wgBlock L.tWg 0 0):=by simpa using hwg
   obtain⟨g',hgo,q,hq⟩:=hx w hwg'
   have hrun':g'.status=.running:=by
    cases q with
    |zero=>exact absurd hq.2 (by omega)
    |succ q=>exact hq.elim (fun x=>absurd x.2 (by omega)) (fun x=>x.1)
   refine aAv hKr G ha hcs hcom hi hg hgo (gY.set Wg w 1 _) (bAg hwg' 1) (es:=semEvents (smA Wg)) ?_ ?_ (s':=1) (dd':=dd) (fun v=>.quit hq) (by rw[hde,hd];simp[deafBehind,semEvents]) (by omega) (fun _=>by omega) ?_ (fun e=>absurd e (nr (by omega))) (.inl ⟨by omega,by simp[B9]⟩)
   ·exact ConcN.bk_sem
   ·intro jx e he
    rw[hde,hd]
    match jx,he with
    |0,he=>simp[semEvents]at he;subst he;exact .inl rfl
    |1,_=>exact .inr (by simp[deafBehind,semEvents])
    |2,_=>exact .inr (by simp[deafBehind,semEvents])
    |3,he=>simp[semEvents]at he;subst he;exact .inl rfl
    |jx+4,he=>simp[semEvents]at he
   ·intro tag' ht hw
    have hnb:=hw hmw hrun'
    have e3:tag'=.w3:=by
     rcases ht with rfl|⟨_,rfl⟩
     ·cases tag'<;>first|rfl|exact hW3.elim|exact absurd rfl hnb
     ·rfl
    subst e3
    exact .sema fun a ha=>by
     by_cases e:a=i
     ·subst e;rw[A5]
     ·rw[Bf D _ e];exact hoth a ha e
  ·exact idle (hgo w hI) hmu (fun v=>.sem h') rfl (by omega)
 | quit h =>
  rename_i n
  cases n with
  |zero=>rw[h.1]at hrun;cases hrun
  | succ q =>
   rcases h with ⟨hf,_⟩|⟨_,g',es,hmute,hstep,hq⟩
   ·rw[hf]at hrun;cases hrun
   ·exact idle (hstep w) (fun e he=>.inl (hmute e he)) (fun v=>.quit hq) rfl (by omega)
end
end Go.Am
end
section
open List renaming map_map→ζ,mapM_map→ξ
namespace Go.Am
open Go.Conc Go.Conc.Lib
open Go.ConcN (CT Apart Ok0 OkW PermW RelBy CTag phi WD Vc Ssum sumTo sumTo_upd sumTo_upd_out OpenSt AllQuit isOpen isW3 isFin pend phi_mono phi_retag le_sumTo Vc_le Vc_upd others_uncounted bk_cell allQuit_of)
open Go.ConcR (KK wgBlock stA smA rd wr mk Bk bk_of_mute ofEvent_loc_mark ofEvent_cell ofEvent_mk)
section
variable {P:Program} {L:WgLink} {Wg:Nat} {p:Pl} {K An:Goroutine→Prop} {S:Nat→Prop} {w0:World} {m j:Nat} {gs:Array Goroutine} {w w':World} {sl:Option (Nat×Nat)} {t:Trace} {D:Nat→WD} {R:Nat→Tr} {V V':Nat→World} {tag tag':CTag} {d0:Nat} {a a':Goroutine} {st sm st' sm':Int} {es:Array Event} {r':Tr}
theorem CS.bound{d:Nat}{r:Tr}{v:World}(h:CS P L Wg p K An tag j r d a v):j+pend tag≤p.n:=by
 cases h<;>simp only[pend]<;>(try simp)<;>omega
theorem nV(G:Geo Wg p S)(ha:gs[0]? = some a)(hcom:Com P L Wg p S w0 m j gs w t D R V d0)
  (hgo:stepG P true a w=.go a' w' es) (hK:aEm p Wg w w') (hV:Vws (gQ m j) V' w') (hE:∀ x,x≠0→Env (V x) (V' x)) (hO:dP (V 0) (V' 0))
  (hok:∀ e∈es,∀ fn pos,Ok0 (dH (ShW S Wg)) (sN p m j V') (RdF m j V') (m+j-1) { g:=0,fn,pos,act:=.ofEvent e })
  (hat:∀ e∈es,∀ x,(Bc e).touch? = some x→x.loc.isMemory=true) (hnr:∀ e∈es,e.loc≠.mark (.release (stA Wg))) (hlow:∀ e∈es,(Bc e).low w'.heap.size)
  (hho:∀ i,i<j→∀ r,r<p.wd→w'.cell? (p.cell i r)=w.cell? (p.cell i r))
  (hcs':CS P L Wg p K An tag' j r' (deafBehind d0 es) a' (V' 0)) (hwg:w'.heap[Wg]? = some (wgBlock L.tWg st' sm')) (hmode:D9 j D tag' st' sm')
  (hacq:tag'=.ret→uN Wg m j (t++BK 0 a.frame.fn a.frame.place es))
  (hlt:phi p.n (Vc j D) tag'<phi p.n (Vc j D) tag∨(phi p.n (Vc j D) tag'=phi p.n (Vc j D) tag∧sL r' (R 0))) :
  ∃ M ops μ',runT P (crowd gs w sl) 0=(.next M,ops)∧MLt μ' (phi p.n (Vc j D) tag+Ssum j D,jC R (m+j),R 0)∧Inv P L Wg p K An S w0 m μ' M (t++ops):=by
 have hrun:=runT_crowd_go (P:=P) (sl:=sl) (i:=0) ha (by simpa using hgo)
 have hlt0:0<gs.size:=(AQ.1 ha).1
 refine⟨_,_,(phi p.n (Vc j D) tag'+Ssum j D,jC (Bb R 0 r') (m+j),r'),hrun,?_,
  _,w',sl,j,D,Bb R 0 r',V',tag',deafBehind d0 es,a',st',sm',rfl,by simp[hlt0],by rw[A5];exact hcs',hcom.step0 G ha hK hV hE hO hok hat hnr hlow hho r',hwg,hmode,hacq,by rw[A5]⟩
 rw[bBj (R':=Bb R 0 r') (R:=R) fun x hx=>Bf R _ hx]
 rcases hlt with h|⟨h1,h2⟩
 ·exact EY _ _ (by omega)
 ·rw[h1];exact FZ _ (FZ _ h2)
theorem lH{e:Event}(h:dO Wg e):(∀{Own Rd:Nat→Loc→Prop} {N:Nat} (fn:FuncId) (pos:String),Ok0 (dH (ShW S Wg)) Own Rd N { g:=0,fn,pos,act:=.ofEvent e })∧(∀ x,(Bc e).touch? = some x→x.loc.isMemory=true)∧e.loc≠.mark (.release (stA Wg))∧∀ B,Wg<B→(Bc e).low B:=by
 rcases h with rfl|rfl
 ·refine⟨fun fn pos=>⟨rfl,fun x hx=>?_⟩,fun x hx=>?_,by simp,fun B hB=>hB⟩<;>simp only[Bc,Bx,Au]at hx<;>subst hx
  ·exact .inl ⟨.inr rfl,by simp⟩
  ·rfl
 ·refine⟨fun fn pos=>⟨rfl,fun x hx=>?_⟩,fun x hx=>?_,by simp,fun B hB=>hB⟩<;>simp only[Bc,Bx,Au]at hx<;>subst hx
  ·exact .inl ⟨.inr rfl,by simp⟩
  ·rfl
theorem rK(G:Geo Wg p S)(ha:gs[0]? = some a)(hcom:Com P L Wg p S w0 m j gs w t D R V d0)
  (hgo:stepG P true a w=.go a' w' es) (hT:gY Wg w w') (hwg:w'.heap[Wg]? = some (wgBlock L.tWg st' sm')) (hbk:∀ e∈es,Bk Wg e∨dO Wg e)
  (hcs':∀ v,Env (V 0) v→CS P L Wg p K An tag' j r' (deafBehind d0 es) a' v) (hmode:D9 j D tag' st' sm')
  (hacq:tag'=.ret→uN Wg m j (t++BK 0 a.frame.fn a.frame.place es))
  (hlt:phi p.n (Vc j D) tag'<phi p.n (Vc j D) tag∨(phi p.n (Vc j D) tag'=phi p.n (Vc j D) tag∧sL r' (R 0))) :
  ∃ M ops μ',runT P (crowd gs w sl) 0=(.next M,ops)∧MLt μ' (phi p.n (Vc j D) tag+Ssum j D,jC R (m+j),R 0)∧Inv P L Wg p K An S w0 m μ' M (t++ops):=by
 have hlt':Wg<w'.heap.size:=bG hwg
 refine nV G ha hcom hgo (hT.kept G hcom.pay) (hcom.turn hT) (fun x _=>cG _ _) (dP.of_env (cG _ _)) (fun e he fn pos=>?_) (fun e he=>?_) (fun e he=>?_) (fun e he=>?_) (fun i _ r _=>hT.cells G i r) (hcs' _ (cG _ _)) hwg hmode hacq hlt
 ·rcases hbk e he with h|h
  ·exact aNy h fn pos
  ·exact(lH (S:=S) h).1 fn pos
 ·rcases hbk e he with h|h
  ·exact fun x hx=>(bHg (S:=S) h x hx).1
  ·exact(lH (S:=S) h).2.1
 ·rcases hbk e he with h|h
  ·exact aJy h
  ·exact(lH (S:=S) h).2.2.1
 ·rcases hbk e he with h|h
  ·exact aOh h hlt'
  ·exact(lH (S:=S) h).2.2.2 _ hlt'
theorem aYz(G:Geo Wg p S)(ha:gs[0]? = some a)(hcom:Com P L Wg p S w0 m j gs w t D R V d0)(hwg:w.heap[Wg]? = some (wgBlock L.tWg st sm))(hmode:D9 j D tag st sm)(hacq:tag≠.ret)
  {v':World} (hgo:stepG P true a w=.go a' w' es) (hq:aBh (dO Wg) (V 0) w v' w' es) (hcs':CS P L Wg p K An tag j r' (deafBehind d0 es) a' v') (hlt:sL r' (R 0)) :
  ∃ M ops μ',runT P (crowd gs w sl) 0=(.next M,ops)∧MLt μ' (phi p.n (Vc j D) tag+Ssum j D,jC R (m+j),R 0)∧Inv P L Wg p K An S w0 m μ' M (t++ops):=by
 obtain⟨hK,hW,hC⟩:=hcom.keptQ G (.inl rfl) hq
 have hput:aBx V 0 v' w' 0=v':=kK _ _ _ _
 have hcell:∀ i' r,w'.cell? (p.cell i' r)=w.cell? (p.cell i' r):=fun i' r=>by simp[Bw,Pl.cell,hC]
 have hlt':Wg<w'.heap.size:=bG (hW.trans hwg)
 have hO:dP (V 0) v':=dP.of_ext hq.ext (hcom.vws.ok 0 (.inl rfl))
 have hVV:Vws (gQ m j) (aBx V 0 v' w') w':=hcom.vws.step (.inl rfl) hq
 refine nV G ha hcom hgo (V':=aBx V 0 v' w') hK hVV (fun x hx=>by rw[nB V _ _ hx];exact cG _ _) (by rw[hput];exact hO) (fun e he fn pos=>?_) (fun e he=>?_) (fun e he=>?_) (fun e he=>?_) (fun i _ r _=>hcell i r) (by rw[hput];exact hcs') (hW.trans hwg) hmode (fun e=>absurd e hacq) (.inr ⟨rfl,hlt⟩)
 ·rcases hq.evs e he with h|h|h
  ·exact bLw hVV hcom.mpos (by rw[hput];exact hO.hole (hcom.hC 0 (.inl rfl))) (fun b hb=>by rw[hput];exact hO.hole (hcom.hS 0 (.inl rfl) b hb)) (by rw[hput];exact h) fn pos
  ·exact aNy (bk_of_mute h) fn pos
  ·exact(lH (S:=S) h).1 fn pos
 ·rcases hq.evs e he with h|h|h
  ·exact fun x hx=>(aGt h hx).1
  ·exact fun x hx=>by rw[touch_mute h]at hx;cases hx
  ·exact(lH (S:=S) h).2.1
 ·rcases hq.evs e he with h|h|h
  ·exact bEx h _
  ·exact aJy (bk_of_mute h)
  ·exact(lH (S:=S) h).2.2.1
 ·rcases hq.evs e he with h|h|h
  ·exact aRr (Nat.le_of_eq hq.sim.size) h
  ·exact low_mute h _
  ·exact(lH (S:=S) h).2.2.2 _ hlt'
theorem Com.spawn(h:Com P L Wg p S w0 m j gs w t D R V 0)(G:Geo Wg p S){child:Goroutine}{x y:MemOp}{tr r0:Tr}(hx:x.g=0∧x.act=.go (m+j))(hy:y.g=m+j∧y.act=.start)(hWg:Wg<w.heap.size)
  (hc:GTw P L Wg p j tr 0 child (iY (V 0))) :
  Com P L Wg p S w0 m (j+1) ((gs.setIfInBounds 0 a').push child) w (t++#[x,y]) (Bb D j ⟨7,0,0⟩) (Bb (Bb R (m+j) tr) 0 r0) (Bb (Bb V (m+j) (iY (V 0))) 0 (iY (V 0))) 0:=by
 have hm:=h.mpos
 generalize hVd:Bb (Bb V (m+j) (iY (V 0))) 0 (iY (V 0))=V'
 have v0:V' 0=iY (V 0):=by rw[←hVd,A5]
 have vj:V' (m+j)=iY (V 0):=by rw[←hVd,Bf _ _ (by omega),A5]
 have vx:∀ k,k≠0→k≠m+j→V' k=V k:=fun k h0 h1=>by rw[←hVd,Bf _ _ h0,Bf _ _ h1]
 have hact:∀ k,gQ m (j+1) k→(V' k=iY (V 0)∧(k=0∨k=m+j))∨(V' k=V k∧k≠0∧m≤k∧k<m+j):=fun k hk=>by
  by_cases h0:k=0
  ·subst h0;exact .inl ⟨v0,.inl rfl⟩
  by_cases h1:k=m+j
  ·subst h1;exact .inl ⟨vj,.inr rfl⟩
  ·rcases hk with hk|⟨h2,h3⟩
   ·exact absurd hk h0
   ·exact .inr ⟨vx k h0 h1,h0,h2,by omega⟩
 have hmm:∀ op∈#[x,y],op=x∨op=y:=by intro op hop;simpa using hop
 have hst:∀ op∈#[x,y],op.act≠.mark .disable∧op.act≠.mark .enable:=by
  intro op hop
  rcases hmm op hop with rfl|rfl
  ·rw[hx.2];exact⟨by simp,by simp⟩
  ·rw[hy.2];exact⟨by simp,by simp⟩
 have hnt:∀ op∈#[x,y],op.act.touch? = none:=by
  intro op hop
  rcases hmm op hop with rfl|rfl
  ·rw[hx.2];rfl
  ·rw[hy.2];rfl
 have hVw:Vws (gQ m (j+1)) V' w:=by
  refine⟨fun k hk=>?_,fun k hk=>?_,fun k k' hk hk' hne b hu=>?_⟩
  ·rcases hact k hk with ⟨e,_⟩|⟨e,_,h1,h2⟩
   ·rw[e];exact aKs (h.vws.sim 0 (.inl rfl))
   ·rw[e];exact h.vws.sim k (.inr ⟨h1,h2⟩)
  ·rcases hact k hk with ⟨e,_⟩|⟨e,_,h1,h2⟩
   ·rw[e];exact aGm _
   ·rw[e];exact h.vws.ok k (.inr ⟨h1,h2⟩)
  ·rcases hact k hk with ⟨e,_⟩|⟨e,h0,h1,h2⟩
   ·rw[e]at hu;exact absurd hu (aGn _ _)
   ·rw[e]at hu
    rcases hact k' hk' with ⟨e',_⟩|⟨e',h0',h1',h2'⟩
    ·rw[e'];exact vL (h.vws.dis k 0 (.inr ⟨h1,h2⟩) (.inl rfl) h0 b hu)
    ·rw[e'];exact h.vws.dis k k' (.inr ⟨h1,h2⟩) (.inr ⟨h1',h2'⟩) hne b hu
 have hC':∀ k,gQ m (j+1) k→(V' k).heap[p.C]? = some hole:=fun k hk=>by
  rcases hact k hk with ⟨e,_⟩|⟨e,_,h1,h2⟩
  ·rw[e];exact vL (h.hC 0 (.inl rfl))
  ·rw[e];exact h.hC k (.inr ⟨h1,h2⟩)
 have hS':∀ k,gQ m (j+1) k→∀ b,ShW S Wg b→(V' k).heap[b]? = some hole:=fun k hk b hb=>by
  rcases hact k hk with ⟨e,_⟩|⟨e,_,h1,h2⟩
  ·rw[e];exact vL (h.hS 0 (.inl rfl) b hb)
  ·rw[e];exact h.hS k (.inr ⟨h1,h2⟩) b hb
 have hA:Apart (dH (ShW S Wg)) (sN p m (j+1) V') (RdF m (j+1) V'):=uH hVw hm hC' hS' fun hs=>hs.elim G.S fun e=>by have:=G.C;omega
 have hct:CT (dH (ShW S Wg)) (sN p m (j+1) V') (RdF m (j+1) V') t (m+j-1):=by
  refine CT.grow h.ct (fun k l k1 kj ⟨a1,a2,hl⟩=>⟨a1,by omega,?_⟩) (fun k l k1 kj ⟨a1,a2,hl⟩=>⟨a1,by omega,?_⟩) (fun k l k1 kj ⟨a1,a2,hl⟩=>.inl ⟨a1,by omega,?_⟩) (fun k l k1 kj ⟨a1,a2,hl⟩=>.inl ⟨a1,by omega,?_⟩)
  ·rw[vx k (by omega) (by omega)];exact hl
  ·rw[vx k (by omega) (by omega)];exact hl
  ·rw[vx k (by omega) (by omega)]at hl;exact hl
  ·rw[vx k (by omega) (by omega)]at hl;exact hl
 have hsz:=h.size
 refine⟨hm,by simp[hsz];omega,fun i hi=>?_,fun i h1 h2=>?_,fun i hi=>?_,?_,h.norel.app fun op hop=>?_,by rw[FA t 0 _ hst,h.deaf0],fun i hi=>?_,fun i hi hs=>?_,fun i hi hs r hr=>?_,h.pay,hVw,fun k hk b hb=>?_,hC',hS',h.stay,h.like,aGi h.kn fun op hop a ha=>?_,xV h.mem fun op hop a ha=>?_,tB h.over fun op hop=>.inr (.inr (hnt op hop)),xX h.seen (AE _) fun op hop=>?_⟩
 ·rcases AY i j with hlt|hge
  ·obtain⟨g,hg,hsg⟩:=h.wk i hlt
   refine⟨g,?_,by rw[Bf D _ (by omega),Bf (Bb R (m+j) tr) _ (by omega),Bf R _ (by omega),vx _ (by omega) (by omega)];exact hsg⟩
   rw[Fi (by simp[hsz];omega),←Ak,AF (by omega)]
   exact hg
  ·obtain rfl:i=j:=by omega
   refine⟨child,?_,by rw[A5,Bf (Bb R (m+i) tr) _ (by omega),A5,vj];exact .work hc⟩
   rw[show m+i=(gs.setIfInBounds 0 a').size by simp[hsz],Array.getElem?_push_size]
 ·obtain⟨g,q,hg,hr,hq⟩:=h.old i h1 h2
  refine⟨g,q,?_,by rw[Bf (Bb R (m+j) tr) _ (by omega),Bf R _ (by omega)];exact hr,by rw[FA t _ _ hst];exact hq⟩
  rw[Fi (by simp[hsz];omega),←Ak,AF (by omega)]
  exact hg
 ·rw[FA t _ _ hst];exact h.above i (by omega)
 ·have:=ConcN.CT.fork hA hct (x:=x) (y:=y) (by rw[show m+j-1+1=m+j by omega];exact hx) (by rw[show m+j-1+1=m+j by omega];exact hy) h.deaf0
  rw[show m+j-1+1=m+(j+1)-1 by omega]at this
  exact this
 ·rcases hmm op hop with rfl|rfl
  ·rw[hx.2];simp
  ·rw[hy.2];simp
 ·rw[FA t _ _ hst]
  rcases AY i j with hlt|hge
  ·rw[h.deafW i hlt,Bf D _ (by omega)]
  ·obtain rfl:i=j:=by omega
   rw[A5]
   exact h.above _ (AE _)
 ·rcases AY i j with hlt|hge
  ·rw[Bf D _ (by omega)]at hs
   obtain⟨r,hr⟩:=h.rel i hlt hs
   refine⟨r,hr.appNot fun op hop=>?_⟩
   rcases hmm op hop with rfl|rfl
   ·rw[hx.1];omega
   ·rw[hy.1];omega
  ·obtain rfl:i=j:=by omega
   rw[A5]at hs
   simp at hs
 ·rcases AY i j with hlt|hge
  ·rw[Bf D _ (by omega)]at hs
   exact h.has i hlt hs r hr
  ·obtain rfl:i=j:=by omega
   rw[A5]at hs
   simp at hs
 ·rcases hact k hk with ⟨e,_⟩|⟨e,_,h1,h2⟩
  ·rw[e];exact aAa (by have:=(h.vws.sim 0 (.inl rfl)).size;omega)
  ·rw[e];exact h.low k (.inr ⟨h1,h2⟩) b hb
 ·rw[hnt op hop]at ha;cases ha
 ·rw[hnt op hop]at ha;cases ha
 ·rcases hmm op hop with rfl|rfl
  ·rw[hx.2];trivial
  ·rw[hy.2];trivial
end
end Go.Am
end
