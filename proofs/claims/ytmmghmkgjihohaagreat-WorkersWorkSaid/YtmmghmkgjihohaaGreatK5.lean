/- The blocks of a matrix under elimination: rows by their names. No condition. -/
import Derived.Test.YtmmghmkgjihohaaGreatK4
import Derived.Test.YtmmghmkgjihohaaGreatK3
open Array renaming getD_eq_getD_getElem?→Ay,getElem?_append_left→BX,getElem?_eq_getElem→Ak,getElem?_replicate→Ch,replicate→AU
open Bool renaming not_eq_true'→C2,true_and→FG
open Decidable renaming byContradiction→CQ
open Function renaming comp_def→Fg
open Go.Act renaming eval→Dk
open Go.Builtin renaming append_→BT,zeroCells→C1
open Go.IntKind renaming bits→Dt,i64→Al,u32→BR,u64→AB
open Go.Proofs.Tryz renaming f101→Fc,prog→Aa
open Go.Region renaming wanted→Bl
open Go.Value renaming int→FA,slice→Et
open Int renaming add_mul_emod_self_left→F9,emod_add_mul_ediv→Fv,emod_lt_of_pos→Gb,emod_nonneg→De,mul_assoc→FH,mul_comm→EZ,mul_le_mul_of_nonneg_right→FB,mul_neg→DJ,natAbs_ediv_le_natAbs→Gh,natAbs_mul→D2,natAbs_natCast→Ci,natAbs_neg→Fh,natCast_add→D7,natCast_ediv→EY,natCast_mul→B9,neg_mul→Gm,sign_eq_zero_iff_zero→Gg,sq_nonneg→B5,toNat_of_nonneg→BN
open List renaming all_eq_true→AW,append_assoc→CG,append_nil→FQ,contains_cons→B6,drop_eq_getElem_cons→Cv,drop_eq_nil_of_le→CO,drop_zero→Ep,eq_nil_of_length_eq_zero→Cc,eq_of_mem_replicate→Ed,ext_getElem→Fw,ext_getElem?→C4,flatten_cons→CH,getD_eq_getElem?_getD→Ac,getElem?_append_left→AP,getElem?_append_right→AM,getElem?_cons_succ→Bt,getElem?_cons_zero→BP,getElem?_eq_getElem→Ab,getElem?_eq_none→AX,getElem?_eq_some_iff→Ao,getElem?_map→Ag,getElem?_range→Bn,getElem?_replicate→DM,getElem?_set→C3,getElem?_set_ne→D9,getElem_mem→Bj,getLast?_eq_getElem?→Gf,length_append→A8,length_cons→Aj,length_drop→Ek,length_map→BF,length_nil→Au,length_pos_iff→FV,length_replicate→Fu,length_set→CL,length_singleton→BD,length_take→Be,lookup_cons→Fz,map→Cs,map_append→FT,map_congr_left→Dx,map_cons→BO,map_map→DH,map_replicate→Ga,mem_append→BU,mem_cons→Bq,mem_cons_of_mem→AJ,mem_cons_self→AI,mem_map→A1,mem_of_getElem?→Ai,mem_of_mem_take→DI,mem_range→CI,mem_singleton→BY,nil_append→FO,nodup_cons→Dz,pairwise_map→Gq,range→AK,range_succ→FP,range_succ_eq_map→Ex,replicate→As,replicate_succ→CF,set_append_right→D4,set_cons_zero→DG,take→Fy,take_add_one→BE,take_of_length_le→AG,take_zero→Cx
open Nat renaming Coprime→Gp,add_comm→Ey,add_mul→BV,add_sub_cancel→Dh,add_zero→B8,div_add_mod→DQ,div_eq_of_lt→Ej,div_le_self→EG,dvd_of_mod_eq_zero→B1,eq_zero_or_pos→Bb,le_of_dvd→CM,le_of_lt→Dd,le_refl→AA,le_trans→AY,lt_of_le_of_lt→BG,lt_of_lt_of_le→A9,lt_or_ge→Az,lt_succ_of_lt→Gs,lt_succ_self→Cr,min_eq_left→Da,mod_eq_of_lt→BQ,mod_lt→BL,mod_mod→FM,mul_add→Cd,mul_assoc→B0,mul_comm→BJ,mul_le_mul→A3,mul_le_mul_left→Cn,mul_left_comm→Fl,mul_mod→Dn,mul_one→CJ,mul_pos→FJ,one_mul→CE,pos_of_ne_zero→D3,pow_add→Es,pow_le_pow_right→Dj,pow_mod→Ea,pow_succ→BH,sub_lt_sub_left→E4,sub_mod_eq_zero_of_mod_eq→Eu,sub_self→CN,zero_add→Ax,zero_le→A5,zero_mul→DT
open Option renaming getD_some→AT,map_eq_some_iff→Af,map_some→AQ,toList_some→EA
open Option.some renaming inj→Bg
open Rat renaming intCast_eq_zero_iff→GF,intCast_mul→Cy,intCast_natCast→CY
open _root_ renaming beq_eq_false_iff_ne→Eg,decide_eq_false→By,decide_eq_false_iff_not→Fe,decide_eq_true→B2,decide_eq_true_eq→Bw,getElem!_pos→Df,if_neg→Ah,if_pos→Ap
set_option linter.unusedSectionVars false
set_option linter.unusedVariables false
set_option linter.unusedSimpArgs false
section
open List renaming map_map→ζ,mapM_map→ξ
open Go Go.Am Go.Proofs
namespace Go.Am
theorem aTa{u:Nat}(hu:u<18446744073709551616):∃ lo hi:Nat,Lim [lo,hi]∧val [lo,hi]=u∧BR.wrap (u:Int)=lo∧fJ .shr .u64 (u:Int) 32=some (.i .u64 hi)∧BR.wrap (hi:Int)=hi:=by
 refine⟨u%4294967296,u/4294967296,.cons (by omega) (.one (by omega)),by simp only[val];omega,by rw[eZ];omega,?_,by rw[gJ (by omega) (by omega)]⟩
 simp only[fJ,Dt]
 rw[Ah (by decide)]
 congr 2
 rw[show(2:Int)^(min (32:Int).toNat 64)=4294967296 from by decide,Int.fdiv_eq_ediv_of_nonneg _ (by decide)]
 omega
theorem yE{l:List Nat}{n:Nat}(hn:l.length=n+1):val l=val (l.take n)+4294967296^n*l.getD n 0:=by
 rw[←bW,AG (by omega)]
theorem aYo{l:List Nat}{n:Nat}(hn:l.length=n+2):val l=val (l.take n)+4294967296^n*(l.getD (n+1) 0*4294967296+l.getD n 0):=by
 rw[yE hn,bW,BH,Cd,B0,BJ 4294967296];omega
theorem aLz{l:List Nat}{n:Nat}(h:Lim l)(hn:l.length=n+1):val l<4294967296^n*(l.getD n 0+1):=by
 have h1:=oO (h.take n)
 rw[Be,Da (by omega)]at h1
 rw[yE hn,Cd,CJ];omega
theorem bFe{p q e low t D R:Nat}(hD:D≤q*low)(he:e*low≤t)(hR:p*q*t≤R):p*e*D≤R:=by
 refine AY (Cn _ hD) (AY ?_ hR)
 have:p*e*(q*low)=p*q*(e*low):=by
  rw[B0,B0,Fl e]
 rw[this];exact Cn _ he
theorem aVn{a b:List Nat}(hb:Lim b)(hc:lF a)(hla:Lim a)(h:val a≤val b):a.length≤b.length:=by
 have e1:=bFp hla hc
 rw[←e1]
 exact dI (BG h (oO hb))
set_option maxRecDepth 10000 in
theorem aIj[M:Mch Aa](r d:List Nat)(hr:Lim r)(hd:Lim d)(hcr:lF r)(hcd:lF d)(hd0:d≠[])(hle:val d≤val r)(hl:r.length≤137438953472) :
  ∃ e:Nat,0<e∧e*val d≤val r∧Spec Aa 157 [aA r,aA d] (encZ e):=by
 have hlen:=aVn hr hcd hd hle
 have hdl:0<d.length:=FV.2 hd0
 obtain⟨m,hm⟩:∃ m,d.length=m+1:=⟨d.length-1,by omega⟩
 obtain⟨k,hk⟩:∃ k,r.length=k+(m+1):=⟨r.length-d.length,by omega⟩
 have gd:=getD_some (l:=d) (i:=m) (by omega)
 have gr:=getD_some (l:=r) (i:=k+m) (by omega)
 have hdm:=hd.getD m
 have hrm:=hr.getD (k+m)
 have hdv:=Dd (aLz hd hm)
 have hrtop:0<r.getD (k+m) 0:=by
  have h1:r.getLast? = some (r.getD (k+m) 0):=by rw[Gf,show r.length-1=k+m by omega];exact gr
  have h2:r.getLast? ≠ some 0:=hcr
  rw[h1]at h2
  rcases Bb (r.getD (k+m) 0)with h|h
  ·rw[h]at h2;exact absurd rfl h2
  ·exact h
 generalize hdt:d.getD m 0=dt at *
 obtain⟨low,hlow⟩:∃ low,dt+1=low:=⟨_,rfl⟩
 rw[hlow]at hdv
 have c1:Al.wrap ((r.length:Int)-d.length)=(k:Int):=by rw[aU];omega
 have c2:Al.wrap ((d.length:Int)-1)=(m:Int):=by rw[aU];omega
 have c3:AB.wrap (dt:Int)=dt:=wrap_u64 (by omega) (by omega)
 have c4:AB.wrap ((dt:Int)+1)=low:=by rw[wrap_u64 (by omega) (by omega)];omega
 have c5:Al.wrap ((r.length:Int)-1)=((k+m:Nat):Int):=by rw[aU];omega
 have c6:¬low=0:=by omega
 by_cases hk0:k=0
 ·subst hk0
  rw[Ax]at gr hrm hrtop hk
  rw[show((0+m:Nat):Int)=(m:Int)by omega]at c5
  have hv1:4294967296^m*r.getD m 0≤val r:=by rw[yE hk];omega
  generalize r.getD m 0=rt at *
  obtain⟨e0,he0⟩:∃ e0,rt/low=e0:=⟨_,rfl⟩
  have he0':e0*low≤rt:=by rw[←he0];exact Nat.div_mul_le_self _ _
  have he0l:e0≤rt:=by rw[←he0];exact EG _ _
  have c7:AB.wrap (rt:Int)=rt:=wrap_u64 (by omega) (by omega)
  have c8:AB.wrap ((rt:Int)/low)=e0:=by rw[←EY,he0,wrap_u64 (by omega) (by omega)]
  obtain⟨e,he⟩:∃ e:Nat,max 1 e0=e:=⟨_,rfl⟩
  have c9:Al.wrap (e:Int)=e:=aU
  refine⟨e,by omega,?_,?_⟩
  ·by_cases h1:e0≤1
   ·have:e=1:=by omega
    rw[this,CE];exact hle
   ·have:e=e0:=by omega
    rw[this]
    have:=bFe (p:=1) hdv he0' (by rw[CE];exact hv1)
    rwa [CE]at this
  ·refine bD (N:=66) Tryz.func157 ?_
   simp[-ζ,-ξ,↓KW,aA,c1,c2,c3,c4,c5,c6,c7,c8,gd,gr,hdt,c9]
   refine aZ (ds:=[.i .i64 e]) ?_ (aIk e (by omega) (by omega)) ?_
   ·have he2:(if(1:Int)<(e0:Int)then(e0:Int)else 1)=e:=by split<;>omega
    simp[-ζ,-ξ,↓KW,he2,c9]
   ·simp[-ζ,-ξ,↓KW,aA,encZ,encI]
 ·obtain⟨j,hj⟩:∃ j,k=j+1:=⟨k-1,by omega⟩
  have hk2:r.length=(j+m)+2:=by omega
  have gs:=getD_some (l:=r) (i:=j+m) (by omega)
  have hrs:=hr.getD (j+m)
  have hv2:=aYo hk2
  rw[show j+m+1=k+m by omega]at hv2
  have c10:Al.wrap ((r.length:Int)-2)=((j+m:Nat):Int):=by rw[aU];omega
  have c11:Al.wrap ((k:Int)-1)=(j:Int):=by rw[aU];omega
  obtain⟨n1,hn1⟩:∃ n1,k+m=n1:=⟨_,rfl⟩
  obtain⟨n2,hn2⟩:∃ n2,j+m=n2:=⟨_,rfl⟩
  rw[hn1]at gr hrm hrtop c5 hv2
  rw[hn2]at gs hrs c10 hv2
  generalize r.getD n1 0=rt at *
  generalize r.getD n2 0=rs at *
  have c12:AB.wrap (rt:Int)=rt:=wrap_u64 (by omega) (by omega)
  have c13:AB.wrap (rs:Int)=rs:=wrap_u64 (by omega) (by omega)
  have c14:AB.wrap ((rt:Int)*4294967296)=(rt:Int)*4294967296:=wrap_u64 (by omega) (by omega)
  obtain⟨t,ht⟩:∃ t,rt*4294967296+rs=t:=⟨_,rfl⟩
  rw[ht]at hv2
  have c15:AB.wrap ((rt:Int)*4294967296+rs)=t:=by rw[wrap_u64 (by omega) (by omega)];omega
  obtain⟨e,he⟩:∃ e,t/low=e:=⟨_,rfl⟩
  have he1:e*low≤t:=by rw[←he];exact Nat.div_mul_le_self _ _
  have hel:e≤t:=by rw[←he];exact EG _ _
  have he0:0<e:=by rw[←he];exact Nat.div_pos (by omega) (by omega)
  have c16:AB.wrap ((t:Int)/low)=e:=by rw[←EY,he,wrap_u64 (by omega) (by omega)]
  obtain⟨lo,hi,k1,k2,e3,e4,e5⟩:=aTa (u:=e) (by omega)
  have hpow:4294967296^j*4294967296^m=4294967296^n2:=by rw[←Es,hn2]
  refine⟨4294967296^j*e,FJ (Nat.pow_pos (by decide)) he0,bFe hdv he1 (by rw[hpow];omega),?_⟩
  have hlim:Lim (As j 0++[lo,hi]):=(Lim.rep j).app k1
  have hval:val (As j 0++[lo,hi])=4294967296^j*e:=by rw[jY,xH,Fu,k2,Ax]
  have hlen2:(As j 0++[lo,hi]).length=j+2:=by simp
  have hm2:=dW (As j 0++[lo,hi]) false (by rw[hlen2];omega)
  rw[cM hlim,hval,show sg false (4294967296^j*e)=((4294967296^j*e:Nat):Int)from rfl]at hm2
  have m1:(4:Int)*j≤281474976710656:=by omega
  have m2:(j:Int)≤9223372036854775807:=by omega
  have m3:(j+2)*4≤140737488355328:=by omega
  have m4:j+2≤maxLen:=by unfold maxLen;omega
  have hrep:(Cs AV.d (lms (As j 0))).length=j:=by simp[jN]
  refine bD (N:=66) Tryz.func157 ?_
  generalize 4294967296^j*e=res at *
  have hcells:Cs AV.d (lms (As j 0))++[AV.d (D.i .u32 (lo:Int)),AV.d (D.i .u32 (hi:Int))]=Cs AV.d (lms (As j 0++[lo,hi])):=by rw[dY,FT];rfl
  have hkk:((k:Int)==0)=false:=by simp only[Eg,ne_eq];omega
  simp[-ζ,-ξ,↓KW,aA,c1,c2,c3,c4,c5,c6,c10,c11,c12,c13,c14,c15,c16,gd,gr,gs,hdt,e3,e4,e5,hkk,m1,m2,m3,m4,hrep]
  rw[hcells]
  generalize As j 0++[lo,hi]=L at *
  refine aZ (ds:=[aA L,.b false]) ?_ hm2 ?_
  ·simp[-ζ,-ξ,↓KW,aA,hlen2,dT hlen2,cL hlen2]
  ·simp[-ζ,-ξ,↓KW,aA,encZ,encI,hlen2,dT hlen2,cL hlen2]
theorem qJ[M:Mch Aa](x:Int)(hx:(aJ x.natAbs).length≤549755813888):Spec Aa 119 [encZ x] (encZ (-x)):=by
 refine bD (N:=9) Tryz.func119 ?_
 have la:=bU x.natAbs
 have va:=cC x.natAbs
 have sx:=fA x
 have ex:encZ x=.ag [.b (decide (x<0)),aA (aJ x.natAbs)]:=rfl
 have hm:=dW (aJ x.natAbs) (!decide (x<0)) (by omega)
 rw[cM la,va]at hm
 have e:sg (!decide (x<0)) x.natAbs=-x:=by
  unfold sg;by_cases h:x<0<;>simp[h]<;>omega
 rw[e]at hm
 rw[ex]
 generalize aJ x.natAbs=a at *
 generalize decide (x<0)=nx at *
 simp[-ζ,-ξ,↓KW,aA]
 refine aZ (ds:=[aA a,.b (!nx)]) ?_ hm ?_
 ·cases nx<;>rfl
 ·simp[-ζ,-ξ,↓KW,aA,encZ,encI]
theorem aQr[M:Mch Aa](x y:Int)(hx:(aJ x.natAbs).length≤549755813888)(hy:(aJ y.natAbs).length≤549755813888):Spec Aa 118 [encZ x,encZ y] (encZ (x-y)):=by
 refine bD (N:=9) Tryz.func118 ?_
 have h1:=qJ y hy
 have h2:=xM x (-y) hx (by rw[Fh];exact hy)
 rw[←Int.sub_eq_add_neg]at h2
 simp[-ζ,-ξ,↓KW,encZ,encI,aA]
 refine aD h1 ?_
 simp[-ζ,-ξ,↓KW,encZ,encI,aA]
 refine aZ (ds:=[encZ x,encZ (-y)]) ?_ h2 ?_
 ·simp[-ζ,-ξ,↓KW,encZ,encI,aA]
 ·simp[-ζ,-ξ,↓KW,encZ,encI,aA]
theorem bPh{n:Nat}(h0:n≠0)(h:n<4294967296):aJ n=[n]:=by
 rw[gT h0,BQ h,Ej h,cA]
theorem aAe{n:Nat}(h0:n≠0)(h:n<4294967296):encZ (n:Int)=.ag [.b false,.sl [[.i .u32 (n:Int)]]]:=by
 have hd:decide ((n:Int)<0)=false:=by simp
 rw[bB,hd]
 simp[aA,bPh h0 h]
theorem bDz[M:Mch Aa]:Spec Aa 85 [.i .i64 1] (encZ 1):=by
 rw[show(1:Int)=((1:Nat):Int)from rfl,aAe (by decide) (by decide)]
 exact(oV (fuel:=100) aT aSm 20).call 85 [.i .i64 1] (.ag [.b false,.sl [[.i .u32 1]]]) (by kernel_rfl)
noncomputable def wdB(p:Nat):Bool:=match(mL Aa EP 100 20).call 87 [.i .u64 p]with
 |some (.ag [.b false,.sl [[.i .u32 q]]])=>q==(p:Int)
 |_=>false
theorem bWn[M:Mch Aa]{p:Nat}(h0:p≠0)(h:p<4294967296)(hw:wdB p=true):Spec Aa 87 [.i .u64 p] (encZ (p:Int)):=by
 rw[aAe h0 h]
 refine(oV (fuel:=100) aT aSm 20).call _ _ _ ?_
 unfold wdB at hw
 split at hw
 ·rename_i q he
  rw[he,beq_iff_eq]at *
  subst hw;rfl
 ·cases hw
theorem bZe:(P10.all wdB)=true:=by kernel_rfl
theorem aYc[M:Mch Aa]{p:Nat}(h:p∈P10):Spec Aa 87 [.i .u64 p] (encZ (p:Int)):=by
 have hb:∀ q∈P10,q≠0∧q<4294967296:=by decide
 exact bWn (hb p h).1 (hb p h).2 (AW.1 bZe p h)
theorem yJ{z:Int}(h:z.natAbs<2^256):Sz z:=by
 have:=dI (n:=z.natAbs) (k:=8) (A9 h (by decide))
 unfold Sz;omega
theorem bZj:Sz 1:=yJ (by decide)
set_option maxRecDepth 10000 in
theorem aRz[M:Mch Aa](b:Int)(hb:Sz b)(hb2:Sz (b+b))(h0:0≤b):Spec Aa 38 [.sl [],encZ b] (.b (decide (b=0))):=by
 refine bD (N:=26) Tryz.func38 ?_
 have hA:=aRr b b hb hb
 obtain⟨r,hC,hr⟩:=aRq 1 (b+b) (bZj) hb2
 have hd:decide (0<r)=decide (b=0):=by
  by_cases h:b=0
  ·subst h;simp[hr.2]
  ·have:¬0<r:=fun h'=>h (by have:=hr.1 h';omega)
   simp[h,this]
 generalize b+b=c at *
 simp[-ζ,-ξ,↓KW,bB b,aR]
 refine aD bDz ?_
 rw[bB 1]
 simp[-ζ,-ξ,↓KW,aR]
 refine gL 2 ?_
 simp[-ζ,-ξ,↓KW,↓aE,↓aB,↓aF,↓aG,aR]
 refine aD hA ?_
 rw[bB c]
 simp[-ζ,-ξ,↓KW,aR]
 refine aD hC ?_
 simp[-ζ,-ξ,↓KW,hd]
def cX(n:Nat):D:=.ag [.b false,aA (aJ n)]
theorem bV(n:Nat):cX n=.ag [.b false,aA (aJ n)]:=rfl
theorem iW(n:Nat):encZ (n:Int)=cX n:=by
 rw[bB,bV]
 simp
theorem szN{n:Nat}(h:n<2^256):Sz (n:Int):=yJ (by simpa using h)
theorem cAy[M:Mch Aa]{x y:Nat}(hx:x<2^256)(hy:y<2^256):Spec Aa 88 [cX x,cX y] (cX (x+y)):=by
 have:=aRr (x:Int) (y:Int) (szN hx) (szN hy)
 rwa [←D7,iW,iW,iW]at this
theorem bXm[M:Mch Aa]{x y:Nat}(hx:x<2^256)(hy:y<2^256):Spec Aa 86 [cX x,cX y] (cX (x*y)):=by
 have:=bNy (x:Int) (y:Int) (szN hx) (szN hy)
 rwa [←B9,iW,iW,iW]at this
theorem bYl[M:Mch Aa]{x y:Nat}(hx:x<2^256)(hy:y<2^256):∃ r:Int,Spec Aa 42 [cX x,cX y] (.i .i64 r)∧(0<r↔y<x):=by
 obtain⟨r,h1,h2⟩:=aRq (x:Int) (y:Int) (szN hx) (szN hy)
 rw[iW,iW]at h1
 exact⟨r,h1,by rw[h2];omega⟩
theorem bZv[M:Mch Aa]:Spec Aa 85 [.i .i64 1] (cX 1):=by rw[←iW];exact bDz
theorem bWk[M:Mch Aa]{p:Nat}(h:p∈P10):Spec Aa 87 [.i .u64 p] (cX p):=by rw[←iW];exact aYc h
theorem bPa[M:Mch Aa]{b:Nat}(h0:0<b)(h:b<2^200):Spec Aa 38 [.sl [],cX b] (.b false):=by
 have:=aRz (b:Int) (szN (by omega)) (yJ (by omega)) (by omega)
 rwa [By (by omega),iW]at this
def cU:List Nat→Nat
 |[]=>1
 |p::l=>p*cU l
theorem zA(l:List Nat)(p:Nat):cU (l++[p])=cU l*p:=by
 induction l with
 |nil=>simp[cU]
 |cons x l ih=>simp only[List.cons_append,cU,ih,B0]
theorem vD:∀(l:List Nat),(∀ p∈l,p<2147483648)→cU l≤2147483648^l.length
 |[],_=>by simp[cU]
 | p::l,h=>by
  have h1:=h p (AI ..)
  have h2:=vD l fun q hq=>h q (AJ _ hq)
  simp only[cU,Aj,BH]
  rw[BJ]
  exact A3 h2 (by omega)
structure Ndd(b:Nat)(l:List Nat):Prop where
 big:2*b<cU l
 low:∀ k,k<l.length→cU (l.take k)≤2*b
def neF(c:Nat):List Nat→St
 |[]=>StL [(4,.ptr 1 0),(5,.ptr 2 0),(6,.ptr 3 0),(7,.ptr 4 0)] none [.cells 25 [.nil],.cells 25 [.nil],.cells 40 [.d (.b false),.d (aA (aJ 1))],.cells 40 [.d (.b false),.d (aA (aJ c))]]
 |x::l=>StL [(4,.ptr 1 0),(5,.ptr 2 0),(6,.ptr 3 0),(7,.ptr 4 0)] none [.cells 25 [.nil],.cells 25 [.own 5 0 (l.length+1) 1],.cells 40 [.d (.b false),.d (aA (aJ (cU (x::l))))],.cells 40 [.d (.b false),.d (aA (aJ c))],.cells 43 ((dU (x::l)).map .d)]
def neS(c:Nat)(L:List Nat)(k:Nat):St :=
 if k<L.length then neF c (L.take k)else StL [(4,.ptr 1 0)] none [.cells 25 [.own 2 0 L.length 1],.cells 43 ((dU L).map .d)]
set_option maxHeartbeats 8000000 in
set_option maxRecDepth 10000 in
theorem aNt[M:Mch Aa](b n p0:Nat)(ps:List Nat)(hb:b<2^100)(hb0:0<b)(hd:jB n (p0::ps))(hl:ps.length≤6)(hn:Ndd b (p0::ps))(hw:∀ p∈p0::ps,Spec Aa 87 [.i .u64 p] (cX p)) :
  Spec Aa 46 [cX b,.i .u64 n] (bL (p0::ps)):=by
 have hx0:∀ k:Nat,(psL (p0::ps))[k]? = ((p0::ps)[k]?).map (fun(p:Nat)=>[D.i .u64 (p:Int)]):=fun k=>by simp only[psL,Ag]
 have hlen:(psL (p0::ps)).length=(p0::ps).length:=by simp[psL]
 have hseq:=aKw n p0 ps hd
 have hE:=bPa hb0 (A9 hb (by decide))
 have hA:=cAy (x:=b) (y:=b) (by omega) (by omega)
 have hlL:(p0::ps).length≤7:=by simp;omega
 have hL0:0<(p0::ps).length:=by simp
 have hlt:∀ p∈p0::ps,p<2147483648:=fun p hp=>by
  obtain⟨k,hk,rfl⟩:=List.mem_iff_getElem.1 hp
  exact(jB.pos hd (Ab hk)).2
 generalize p0::ps=L at *
 obtain⟨hbig,hlow⟩:=hn
 rw[←Nat.two_mul]at hA
 have hc:2*b<2^256:=by omega
 generalize 2*b=c at *
 have hO:=bZv
 refine oR (N:=31) aT Tryz.func46 rfl rfl rfl (by kernel_rfl) (by kernel_rfl) (by simp) ?_
 refine cQ (by kernel_rfl) ?_
 simp[-ζ,-ξ,↓KW,↓aE,↓aB,↓aF,↓aG,bV b,fU,kN]
 refine cQ (by kernel_rfl) ?_
 simp[-ζ,-ξ,↓KW,↓aE,↓aB,↓aF,↓aG,bV b,aR]
 refine aD hE ?_
 simp[-ζ,-ξ,↓KW,↓aE,↓aB,↓aF,↓aG,bV b,aR]
 refine cQ (by kernel_rfl) ?_
 simp[-ζ,-ξ,↓KW,↓aE,↓aB,↓aF,↓aG]
 refine cQ (by kernel_rfl) ?_
 simp[-ζ,-ξ,↓KW,↓aE,↓aB,↓aF,↓aG,aR]
 refine aD hO ?_
 rw[bV 1]
 simp[-ζ,-ξ,↓KW,↓aE,↓aB,↓aF,↓aG,aR]
 refine aD hA ?_
 rw[bV c]
 simp[-ζ,-ξ,↓KW,↓aE,↓aB,↓aF,↓aG,aR]
 refine aAs (P:=Aa) ?_
 refine cQ (by kernel_rfl) ?_
 simp[-ζ,-ξ,↓KW,↓aE,↓aB,↓aF,↓aG]
 refine aD (aDr n) ?_
 simp[-ζ,-ξ,↓KW,↓aE,↓aB,↓aF,↓aG]
 refine rZ ?_
 refine pU (psL L) (fun k=>neS c L k) [8,17,18,19,20,21,22,23,24,25,26,27,28,29,30] .ret .ret (.inl rfl) (gf:=142) (caps:=[.pt [.i .u64 n]]) (by rfl) (by rfl) (by rfl) hseq ?_ (by kernel_rfl) (by rw[hlen];omega) ?_ ?_ ?_
 ·show ∃ ρ,Wk _ (neS c L 0) ρ
  unfold neS
  rw[Ap hL0,Cx]
  refine wkQ [2,3,4,5] ?_ ?_<;>simp[-ζ,upd,aL,Γ0,neF]
 ·intro k x hk hx
  rw[hlen]at hk
  rw[hx0,Af]at hx
  obtain⟨p,hp,rfl⟩:=hx
  refine⟨rfl,?_⟩
  have hpL:=Ai hp
  have hW:=hw p hpL
  have hp31:=hlt p hpL
  have htl:(L.take k).length=k:=by rw[Be];omega
  have hPb:cU (L.take k)≤2147483648^7:=AY (vD _ fun q hq=>hlt q (DI hq)) (Dj (by decide) (by omega))
  have hP2:cU (L.take k)*p<2^256:=BG (A3 hPb (Dd hp31)) (by decide)
  have hM:=bXm (x:=cU (L.take k)) (y:=p) (BG hPb (by decide)) (by omega)
  obtain⟨r,hC,hr⟩:=bYl (x:=cU (L.take k)*p) (y:=c) hP2 hc
  have hsn:L.take (k+1)=L.take k++[p]:=by rw[BE,hp];rfl
  have hps:=zA (L.take k) p
  have hle:=hlow (k+1) hk
  rw[hsn,hps]at hle
  have hrr:¬0<r:=fun h=>by have:=hr.1 h;omega
  unfold neS
  rw[Ap (by omega),Ap hk,hsn]
  generalize L.take k=T at *
  generalize hPp:cU T*p=Pp at *
  cases T with
  | nil =>
   have hm1:(1:Nat)≤maxLen:=bY (by decide)
   show AWP _ _ ⟨upd (neF c []).Γ 17 (.d (.i .u64 (p:Int))),(neF c []).H,(neF c []).n⟩ _
   change Spec _ _ [cX 1,cX p] _ at hM
   simp[-ζ,-ξ,↓KW,↓aE,↓aB,↓aF,↓aG,neF,hm1,aR]
   refine aD hW ?_
   rw[bV p]
   simp[-ζ,-ξ,↓KW,↓aE,↓aB,↓aF,↓aG,aR]
   refine aD hM ?_
   rw[bV Pp]
   simp[-ζ,-ξ,↓KW,↓aE,↓aB,↓aF,↓aG,aR]
   refine aD hC ?_
   simp[-ζ,-ξ,↓KW,↓aE,↓aB,↓aF,↓aG,hrr,aR]
   have hps':cU [p]=Pp:=hps
   refine wkQ [1,2,3,4,6] ?_ ?_<;>simp[-ζ,upd,aL,Γ0,B6,cF,lU,pQ,hps']
  | cons y T =>
   have hps':cU (y::(T++[p]))=Pp:=hps
   have hbb:=lA (n:=T.length+1) (by simp at htl;omega)
   show AWP _ _ ⟨upd (neF c (y::T)).Γ 17 (.d (.i .u64 (p:Int))),(neF c (y::T)).H,(neF c (y::T)).n⟩ _
   simp[-ζ,-ξ,↓KW,↓aE,↓aB,↓aF,↓aG,neF,eN,hbb,bY,aR]
   refine aD hW ?_
   rw[bV p]
   simp[-ζ,-ξ,↓KW,↓aE,↓aB,↓aF,↓aG,aR]
   refine aD hM ?_
   rw[bV Pp]
   simp[-ζ,-ξ,↓KW,↓aE,↓aB,↓aF,↓aG,aR]
   refine aD hC ?_
   simp[-ζ,-ξ,↓KW,↓aE,↓aB,↓aF,↓aG,hrr,aR]
   refine wkQ [1,2,3,4,7] ?_ ?_<;>simp[-ζ,upd,aL,Γ0,B6,cF,lU,pQ,hps']
 ·intro k x hk hx
  rw[hlen]at hk
  rw[hx0,Af]at hx
  obtain⟨p,hp,rfl⟩:=hx
  refine⟨rfl,?_⟩
  have hpL:=Ai hp
  have hW:=hw p hpL
  have hp31:=hlt p hpL
  have htl:(L.take k).length=k:=by rw[Be];omega
  have hPb:cU (L.take k)≤2147483648^7:=AY (vD _ fun q hq=>hlt q (DI hq)) (Dj (by decide) (by omega))
  have hP2:cU (L.take k)*p<2^256:=BG (A3 hPb (Dd hp31)) (by decide)
  have hM:=bXm (x:=cU (L.take k)) (y:=p) (BG hPb (by decide)) (by omega)
  obtain⟨r,hC,hr⟩:=bYl (x:=cU (L.take k)*p) (y:=c) hP2 hc
  have hsn:L.take (k+1)=L.take k++[p]:=by rw[BE,hp];rfl
  have hps:=zA (L.take k) p
  have hLe:L.take (k+1)=L:=by rw[hk];exact List.take_length
  rw[hLe]at hsn
  rw[hLe.symm.trans (hLe.trans hsn),hps]at hbig
  have hrr:0<r:=hr.2 hbig
  unfold neS
  rw[Ap (by omega),Ah (by omega)]
  have hTl:L.length=k+1:=hk.symm
  rw[hTl]
  generalize L.take k=T at *
  subst hsn
  generalize hPp:cU T*p=Pp at *
  cases T with
  | nil =>
   have hm1:(1:Nat)≤maxLen:=bY (by decide)
   have hk0:k=0:=htl.symm
   subst hk0
   show AWP _ _ ⟨upd (neF c []).Γ 17 (.d (.i .u64 (p:Int))),(neF c []).H,(neF c []).n⟩ _
   change Spec _ _ [cX 1,cX p] _ at hM
   simp[-ζ,-ξ,↓KW,↓aE,↓aB,↓aF,↓aG,neF,hm1,aR]
   refine aD hW ?_
   rw[bV p]
   simp[-ζ,-ξ,↓KW,↓aE,↓aB,↓aF,↓aG,aR]
   refine aD hM ?_
   rw[bV Pp]
   simp[-ζ,-ξ,↓KW,↓aE,↓aB,↓aF,↓aG,aR]
   refine aD hC ?_
   simp[-ζ,-ξ,↓KW,↓aE,↓aB,↓aF,↓aG,hrr,aR]
   refine wkQ [1,6] ?_ ?_<;>simp[-ζ,upd,aL,Γ0,B6,cF,lU,pQ]
  | cons y T =>
   have hk0:k=T.length+1:=htl.symm
   subst hk0
   have hbb:=lA (n:=T.length+1) (by omega)
   show AWP _ _ ⟨upd (neF c (y::T)).Γ 17 (.d (.i .u64 (p:Int))),(neF c (y::T)).H,(neF c (y::T)).n⟩ _
   simp[-ζ,-ξ,↓KW,↓aE,↓aB,↓aF,↓aG,neF,eN,hbb,bY,aR]
   refine aD hW ?_
   rw[bV p]
   simp[-ζ,-ξ,↓KW,↓aE,↓aB,↓aF,↓aG,aR]
   refine aD hM ?_
   rw[bV Pp]
   simp[-ζ,-ξ,↓KW,↓aE,↓aB,↓aF,↓aG,aR]
   refine aD hC ?_
   simp[-ζ,-ξ,↓KW,↓aE,↓aB,↓aF,↓aG,hrr,aR]
   refine wkQ [1,7] ?_ ?_<;>simp[-ζ,upd,aL,Γ0,B6,cF,lU,pQ]
 ·rw[hlen]
  unfold neS
  rw[Ah (by omega)]
  have hfl:=eN L
  simp[-ζ,-ξ,↓KW,↓aE,↓aB,↓aF,↓aG,bL,hfl,pS (rfl:L.length=L.length),iK (rfl:L.length=L.length)]
end Go.Am
end
section
open List renaming map_map→ζ,mapM_map→ξ
open Go Go.Am Go.Proofs
namespace Go.Am
open Go.RowKit (Below)
theorem sW{P:Program}(w:World)(t tn ty e:TypeId)(i:TypeInfo)(z:Value)(kq kn:IntKind)(ht:P.underlying t=some (.slice e))(htn:P.underlying tn=some (.int kn))(hi:P.info? e=some i)(hz:i.zero=some z)
    (k:Nat) (h0:0<k) (hs:0<i.size) (h63:(k:Int)≤9223372036854775807) (h48:k*i.bytes≤281474976710656) :
    aH P (BT #[t,tn] ty #[.slice none 0 0,.int kq k]) w =
      .ok (.slice (some ⟨w.heap.size,0,none⟩) k (grownCap w k 0 e))
        (w.drew.alloc (.cells (C1 z.cells k++C1 z.cells (grownCap w k 0 e-k)) e)):=by
  have hk:k≠0:=by omega
  have hw:Al.wrap (k:Int)=k:=by rw[IntKind.wrap_i64];omega
  have h63':¬(9223372036854775807<(k:Int)):=by omega
  have h48':¬(281474976710656<Builtin.nextslicecap k 0*i.bytes):=by rw[nextslicecap_zero h0];omega
  have h48i:¬(281474976710656<(k:Int)*(i.bytes:Int)):=by rw[←B9];omega
  have hneg:¬((k:Int)<0):=by omega
  have hns:¬(k*i.size=0):=Nat.mul_ne_zero hk (by omega)
  simp[BT,aC ht,aC htn,sizeOf,typeInfo,zeroValue,hi,hz,asInt,asIntOf,hw,hk,hneg,hns,h63',h48',h48i,Question.forced,jW,newRow,grownCap]
structure AL(n:Nat)(l:List (Nat×Value))(a:Act):Prop where
  size:a.tmps.size=n
  defs:a.defers=[]
  get:∀ t x,l.lookup t=some x→a.eval (.tmp t)=x
theorem AL.put{n:Nat}{l:List (Nat×Value)}{a:Act}(h:AL n l a){d:Nat}(hd:d<n)(x:Value):AL n ((d,x)::l) (a.put (some d) x) where
  size:=by simp[Act.put,h.size]
  defs:=h.defs
  get t y hy:=by
    have hg:=iU a (some d) x (fun _ e=>by injection e with e;subst e;rw[h.size];exact hd) t
    have he:(a.put (some d) x).eval (.tmp t)=if(some d:Option Nat)=some t then x else a.eval (.tmp t):=by simpa[Dk]using hg
    rw[he]
    rw[Fz]at hy
    by_cases e:t=d
    · subst e;simp at hy;simp[hy]
    · rw[show(t==d)=false from by simp[e]]at hy
      rw[Ah (by simpa using Ne.symm e)]
      exact h.get t y hy
def evL(l:List (Nat×Value)):Operand→Option Value
  |.tmp t=>l.lookup t
  |.const v=>some v
  |_=>none
theorem AL.ev{n:Nat}{l:List (Nat×Value)}{a:Act}(h:AL n l a){o:Operand}{x:Value}(hx:evL l o=some x):a.eval o=x:=by
  cases o with
  |tmp t=>exact h.get t x hx
  | const v => have e : v = x := by simpa[evL]using hx
               subst e;rfl
  |_=>cases hx
section
variable {P:Program} [M:Mch P] {Q:Exit→Act→World→Prop} {ops:Array Oper} {n:Nat} {l:List (Nat×Value)}
theorem qB{W v:World}{d:Nat}{op:Op}{ty:TypeId}{pos:String}{after:Array Edge}{rest:List Oper}{a:Act}(x:Value)(hA:AL n l a)(he:Env W v)(hd:d<n)(hr:∀ w,aH P (execOp a.eval ⟨some d,op,ty,pos,after,none⟩) w=.ok (.value x) w)
    (h:∀ a' v',AL n ((d,x)::l) a'→Env W v'→gD P ops Q rest a' v'):gD P ops Q (⟨some d,op,ty,pos,after,none⟩::rest) a v:=by
  have hw:Bl (⟨some d,op,ty,pos,after,none⟩:Oper) (yielded ops a.tmps)=true:=rfl
  unfold gD
  rw[Ap hw]
  intro v1 he1
  unfold wpX
  rw[hr]
  exact h _ _ (hA.put hd x) (he.trans he1)
def dv:D→Value
  |.b x=>.bool x
  |.i k n=>.int k n
  |_=>undef
theorem oN{W v:World}{dst:Nat}{op:BinOp}{t t2:TypeId}{x y:Operand}{pos:String}{ty:TypeId}{after:Array Edge}{rest:List Oper}{a:Act}{k k':IntKind}{m m':Int}(d:D)(hA:AL n l a)(he:Env W v)(hdst:dst<n)(hx:evL l x=some (.int k m))(hy:evL l y=some (.int k' m'))
    (hd:dK op (bI P t) (.d (.i k m)) (.d (.i k' m'))=some d) (hd2:(∃ b,d=.b b)∨∃ k n,d=.i k n)
    (h:∀ a' v',AL n ((dst,dv d)::l) a'→Env W v'→gD P ops Q rest a' v'):gD P ops Q (⟨some dst,.binOp op t x y t2,ty,pos,after,none⟩::rest) a v:=by
  refine qB _ hA he hdst (fun w=>?_) h
  obtain⟨z,⟨h1,h2⟩,hz⟩:=aHu (P:=P) (F:=fun _=>False) (w:=w) (ι:=fun _=>none) (u:=.int k m) (v:=.int k' m') hd (.d _ _ (.i k m)) (.d _ _ (.i k' m')) x y
  have hzd:z=dv d:=by
    rcases hd2 with ⟨b,rfl⟩|⟨k,n,rfl⟩<;>cases hz<;>rfl
  subst hzd
  simp[execOp,hA.ev hx,hA.ev hy,h1,h2]
theorem eE{W v:World}{dst:Nat}{x:Operand}{pos:String}{ty:TypeId}{after:Array Edge}{rest:List Oper}{a:Act}{u:Value}(hA:AL n l a)(he:Env W v)(hdst:dst<n)(hx:evL l x=some u)
    (h:∀ a' v',AL n ((dst,u)::l) a'→Env W v'→gD P ops Q rest a' v'):gD P ops Q (⟨some dst,.move x,ty,pos,after,none⟩::rest) a v :=
  qB _ hA he hdst (fun w=>by simp[execOp,hA.ev hx]) h
theorem rL{W v:World}{dst:Nat}{x:Operand}{pos:String}{ty:TypeId}{after:Array Edge}{rest:List Oper}{a:Act}{u:Value}(hA:AL n l a)(he:Env W v)(hdst:dst<n)(hx:evL l x=some u)
    (h:∀ a' v',AL n ((dst,u)::l) a'→Env W v'→gD P ops Q rest a' v'):gD P ops Q (⟨some dst,.assign x,ty,pos,after,none⟩::rest) a v :=
  qB _ hA he hdst (fun w=>by simp[execOp,hA.ev hx]) h
theorem aLu{W v:World}{dst:Nat}{x:Operand}{pos:String}{ty t e:TypeId}{after:Array Edge}{rest:List Oper}{a:Act}{b:Option Addr}{len cap:Nat}(hA:AL n l a)(he:Env W v)(hdst:dst<n)(ht:P.underlying t=some (.slice e))(hx:evL l x=some (.slice b len cap))
    (h:∀ a' v',AL n ((dst,.int .i64 cap)::l) a'→Env W v'→gD P ops Q rest a' v'):gD P ops Q (⟨some dst,.call ⟨.builtin .cap,#[x],#[t]⟩,ty,pos,after,none⟩::rest) a v :=
  qB _ hA he hdst (fun w=>by simp[execOp,resolve,invoke,builtin,hA.ev hx,aC ht,Builtin.cap_];rfl) h
theorem aLt{W v:World}{dst:Nat}{x:Operand}{pos:String}{ty t e:TypeId}{after:Array Edge}{rest:List Oper}{a:Act}{b:Option Addr}{len cap:Nat}(hA:AL n l a)(he:Env W v)(hdst:dst<n)(ht:P.underlying t=some (.slice e))(hx:evL l x=some (.slice b len cap))
    (h:∀ a' v',AL n ((dst,.int .i64 len)::l) a'→Env W v'→gD P ops Q rest a' v'):gD P ops Q (⟨some dst,.call ⟨.builtin .len,#[x],#[t]⟩,ty,pos,after,none⟩::rest) a v :=
  qB _ hA he hdst (fun w=>by simp[execOp,resolve,invoke,builtin,hA.ev hx,aC ht,Builtin.len_,Builtin.lenOf];rfl) h
theorem bSb{v:World}{d:Nat}{op:Op}{ty:TypeId}{pos:String}{after:Array Edge}{rest:List Oper}{a:Act}(hA:AL n l a)(hd:d<n)
    (h:∀ v1,Env v v1→∃ x w1,aH P (execOp a.eval ⟨some d,op,ty,pos,after,none⟩) v1=.ok (.value x) w1∧∀ a',AL n ((d,x)::l) a'→gD P ops Q rest a' w1):gD P ops Q (⟨some d,op,ty,pos,after,none⟩::rest) a v:=by
  have hw:Bl (⟨some d,op,ty,pos,after,none⟩:Oper) (yielded ops a.tmps)=true:=rfl
  unfold gD
  rw[Ap hw]
  intro v1 he1
  obtain⟨x,w1,h1,h2⟩:=h v1 he1
  unfold wpX
  rw[h1]
  exact h2 _ (hA.put hd x)
theorem aCa{W v:World}{dst:Nat}{x hi:Operand}{pos:String}{ty t e:TypeId}{sz:Nat}{after:Array Edge}{rest:List Oper}{a:Act}{b:Option Addr}{len cap:Nat}(hA:AL n l a)(he:Env W v)(hdst:dst<n)(ht:tel P t=some e)(hs:tsz P e=some sz)(hc:len≤cap)(hx:evL l x=some (.slice b len cap))(hh:evL l hi=some (.int .i64 0))(hb:b=none∧cap=0∨0<cap∧∃ k,b=some ⟨k,0,none⟩)
    (h:∀ a' v',AL n ((dst,.slice b 0 cap)::l) a'→Env W v'→gD P ops Q rest a' v'):gD P ops Q (⟨some dst,.slice t x none (some hi) none,ty,pos,after,none⟩::rest) a v:=by
  refine qB _ hA he hdst (fun w=>?_) h
  have hr:=lZ (P:=P) w ht hs b len cap hc none (some (.int .i64 0)) none 0 0 (.inl ⟨rfl,rfl⟩) (.inr ⟨_,rfl⟩) (by omega) (by omega) (by omega) cap (.inl ⟨rfl,rfl⟩)
  simp only[execOp,hA.ev hx,hA.ev hh,AQ,Option.map_none,Sem.run_bind,hr,Result.andThen_ok]
  rcases hb with ⟨rfl,rfl⟩|⟨h0,k,rfl⟩
  · simp
  · simp[Addr.add,Nat.ne_of_gt h0]
theorem kL{a:Act}{v:World}(h:Q .normal a v):gD P ops Q [] a v:=h
end
theorem AL.start(x y:Value)(k:Nat):AL (2+k) [(0,x),(1,y)] ⟨#[x,y]++AU k undef,[]⟩ where
  size:=by simp
  defs:=rfl
  get t z hz:=by
    have h2:∀ t,t<2→(#[x,y]++AU k undef:Array Value).getD t undef=(#[x,y]:Array Value).getD t undef:=fun t ht=>by
      simp only[Ay];rw[BX (by simpa using ht)]
    match t with
    |0=>rw[Fz]at hz;simp at hz;subst hz;show Array.getD _ _ _=_;rw[h2 0 (by decide)];rfl
    |1=>simp[Fz]at hz;subst hz;show Array.getD _ _ _=_;rw[h2 1 (by decide)];rfl
    |t+2=>simp[Fz]at hz
noncomputable def aTe:TypeInfo:=((Aa).info? 43).get (by kernel_rfl)
theorem bJq:(Aa).info? 43=some aTe:=by kernel_rfl
noncomputable def aYs:Value:=aTe.zero.get (by kernel_rfl)
theorem aTc:aTe.zero=some aYs:=by kernel_rfl
theorem aTb:aYs.cells.size=1:=by kernel_rfl
theorem aTd:aTe.size=1:=by kernel_rfl
theorem aMb:aTe.bytes=8:=by kernel_rfl
set_option maxHeartbeats 400000 in
set_option maxRecDepth 100000 in
theorem bEl[M : Mch Aa](n : Nat)(W : World)(h0 : 0 < n)(hn : n ≤ 1000000) : CX Aa 101 #[.slice none 0 0, .int .i64 n] W fun x w' => ∃ b G ROW, n ≤ G ∧ G ≤ maxLen ∧ G ≤ ROW.size ∧ W.heap.size ≤ b ∧
      x=.slice (some ⟨b,0,none⟩) 0 G∧w'.heap[b]? = some (.cells ROW 43 (0,0))∧Below W.heap.size W w':=by
  refine fS Tryz.func101 rfl ?_
  have hu46:(Aa).underlying 25=some (.slice 43):=by kernel_rfl
  have hu3:(Aa).underlying 3=some (.int .i64):=by kernel_rfl
  have e0:Env W W:=.refl W
  have hb0:∀ t,dK .sub t (.d (.i .i64 0)) (.d (.i .i64 0))=some (.i .i64 0):=fun t=>by simp[dK,arith];decide
  have hwn:Al.wrap (n:Int)=n:=aU
  have hb1:∀ t,dK .sub t (.d (.i .i64 (n:Int))) (.d (.i .i64 0))=some (.i .i64 n):=fun t=>by simp[dK,arith,hwn]
  have hA:AL 27 [(0,.slice none 0 0),(1,.int .i64 n)] { tmps:=#[Et none 0 0,FA .i64 n]++AU (Fc.ntmps - #[Et none 0 0,FA .i64 n].size) undef,defers:=[] }:=AL.start _ _ 25
  generalize({ tmps:=#[Et none 0 0,FA .i64 n]++AU (Fc.ntmps - #[Et none 0 0,FA .i64 n].size) undef,defers:=[] }:Act)=a0 at hA ⊢
  refine eB (gX ?_)
  refine rL hA e0 (by decide) rfl fun a v hA e1=>kL ?_
  refine eB (eB (gX ?_))
  refine eE hA e1 (by decide) rfl fun a v hA e2=>?_
  refine oN (.b false) hA e2 (by decide) rfl rfl (by simp[dK,arith]) (.inl ⟨_,rfl⟩) fun a v hA e3=>kL ?_
  refine nA (t:=false) (hA.get _ _ rfl) (xF ?_)
  refine eB (eB (gX ?_))
  refine eE hA e3 (by decide) rfl fun a v hA e4=>?_
  refine eE hA e4 (by decide) rfl fun a v hA e5=>?_
  refine aLu hA e5 (by decide) hu46 rfl fun a v hA e6=>?_
  refine eE hA e6 (by decide) rfl fun a v hA e7=>?_
  refine aLt hA e7 (by decide) hu46 rfl fun a v hA e8=>?_
  refine oN (.i .i64 0) hA e8 (by decide) rfl rfl (hb0 _) (.inr ⟨_,_,rfl⟩) fun a v hA e9=>?_
  refine oN (.i .i64 n) hA e9 (by decide) rfl rfl (hb1 _) (.inr ⟨_,_,rfl⟩) fun a v hA e10=>?_
  refine rL hA e10 (by decide) rfl fun a v hA e11=>kL ?_
  refine eB (gX ?_)
  refine eE hA e11 (by decide) rfl fun a v hA e12=>?_
  refine oN (.b true) hA e12 (by decide) rfl rfl (by simp[dK,arith,h0]) (.inl ⟨_,rfl⟩) fun a v hA e13=>kL ?_
  refine nA (t:=true) (hA.get _ _ rfl) (gX ?_)
  refine eE hA e13 (by decide) rfl fun a v hA e14=>?_
  refine eE hA e14 (by decide) rfl fun a v hA e15=>?_
  refine aLu hA e15 (by decide) hu46 rfl fun a v hA e16=>?_
  refine aCa (e:=43) (sz:=1) hA e16 (by decide) (by kernel_rfl) (by kernel_rfl) (AA _) rfl rfl (.inl ⟨rfl,rfl⟩) fun a v hA e17=>?_
  refine eE hA e17 (by decide) rfl fun a v hA e18=>?_
  refine bSb hA (by decide) fun w e19=>?_
  have e20:=e18.trans e19
  obtain⟨G,hG⟩:∃ G,G=grownCap w n 0 43:=⟨_,rfl⟩
  obtain⟨ROW,hROW⟩:∃ ROW,ROW=C1 aYs.cells n++C1 aYs.cells (G-n):=⟨_,rfl⟩
  have hGn:n≤G:=hG ▸ grownCap_ge w _ _ _
  have hGm:G≤maxLen:=hG ▸ grownCap_le_maxLen w n 0 43 (by unfold maxLen;omega)
  have hRl:G≤ROW.size:=by
    rw[hROW]
    simp only[Array.size_append,C1,Array.size_map,Array.size_range,aTb]
    omega
  refine⟨.slice (some ⟨w.heap.size,0,none⟩) n G,w.drew.alloc (.cells ROW 43),?_,fun a hA=>?_⟩
  · have hr:=sW w 25 3 25 43 aTe aYs .i64 .i64 hu46 hu3 bJq aTc n h0 (by rw[aTd];decide) (by omega) (by rw[aMb];omega)
    rw[←hG,←hROW]at hr
    simp only[execOp,resolve,invoke,builtin]
    simp[hA.get 20 _ rfl,hA.get 21 _ rfl,dv,hr]
  have hw0:Below W.heap.size W w:=by
    exact⟨e20.os,e20.tape,e20.output,e20.size,fun k hk=>e20.get hk⟩
  have hb:Below W.heap.size W (w.drew.alloc (.cells ROW 43)):=by
    have h:=hw0.alloc hw0.size (.cells ROW 43)
    exact⟨h.os,h.tape,h.output,h.size,h.block⟩
  have hat:(w.drew.alloc (.cells ROW 43)).heap[w.heap.size]? = some (.cells ROW 43 (0,0)):=by
    simp only[World.alloc,World.drew]
    rw[Array.getElem?_push,Ap rfl]
  have hsz:w.heap.size<(w.drew.alloc (.cells ROW 43)).heap.size:=by simp only[World.alloc,World.drew,Array.size_push];omega
  generalize w.drew.alloc (.cells ROW 43)=W1 at hb hat hsz ⊢
  have f0:Env W1 W1:=.refl _
  have hG0:0<G:=by omega
  refine eE hA f0 (by decide) rfl fun a v hA f1=>?_
  refine aLt hA f1 (by decide) hu46 rfl fun a v hA f2=>?_
  refine aCa (e:=43) (sz:=1) hA f2 (by decide) (by kernel_rfl) (by kernel_rfl) hGn rfl rfl (.inr ⟨hG0,_,rfl⟩) fun a v hA f3=>?_
  refine rL hA f3 (by decide) rfl fun a v hA f4=>kL ?_
  refine eB (gX ?_)
  refine eE hA f4 (by decide) rfl fun a v hA f5=>?_
  refine rL hA f5 (by decide) rfl fun a v hA f6=>kL (yC ?_)
  refine⟨hA.defs,fun v1 f7=>⟨.slice (some ⟨w.heap.size,0,none⟩) 0 G,?_,w.heap.size,G,ROW,hGn,hGm,hRl,e20.size,rfl,?_,?_⟩⟩
  · have hr:=hA.get 4 _ rfl
    show aH _ (results _ a.tmps) v1=_
    have hrs:Fc.results=#[.tmp 4]:=rfl
    simp only[results,hrs]
    simp only[Dk,Ay]at hr
    simp[hr]
  · rw[(f6.trans f7).get hsz];exact hat
  · have f8:=f6.trans f7
    exact⟨f8.os.trans hb.os,f8.tape.trans hb.tape,f8.output.trans hb.output,AY hb.size f8.size,fun k hk=>(f8.get (A9 hk hb.size)).trans (hb.block k hk)⟩
set_option maxHeartbeats 400000 in
set_option maxRecDepth 100000 in
theorem aVv[M:Mch Aa](W:World):CX Aa 101 #[.slice none 0 0,.int .i64 0] W fun x w'=>x=.slice none 0 0∧Below W.heap.size W w':=by
  refine fS Tryz.func101 rfl ?_
  have hu46:(Aa).underlying 25=some (.slice 43):=by kernel_rfl
  have e0:Env W W:=.refl W
  have hb0:∀ t,dK .sub t (.d (.i .i64 0)) (.d (.i .i64 0))=some (.i .i64 0):=fun t=>by simp[dK,arith];decide
  have hA:AL 27 [(0,.slice none 0 0),(1,.int .i64 0)] { tmps:=#[Et none 0 0,FA .i64 0]++AU (Fc.ntmps - #[Et none 0 0,FA .i64 0].size) undef,defers:=[] }:=AL.start _ _ 25
  generalize({ tmps:=#[Et none 0 0,FA .i64 0]++AU (Fc.ntmps - #[Et none 0 0,FA .i64 0].size) undef,defers:=[] }:Act)=a0 at hA ⊢
  refine eB (gX ?_)
  refine rL hA e0 (by decide) rfl fun a v hA e1=>kL ?_
  refine eB (eB (gX ?_))
  refine eE hA e1 (by decide) rfl fun a v hA e2=>?_
  refine oN (.b false) hA e2 (by decide) rfl rfl (by simp[dK,arith]) (.inl ⟨_,rfl⟩) fun a v hA e3=>kL ?_
  refine nA (t:=false) (hA.get _ _ rfl) (xF ?_)
  refine eB (eB (gX ?_))
  refine eE hA e3 (by decide) rfl fun a v hA e4=>?_
  refine eE hA e4 (by decide) rfl fun a v hA e5=>?_
  refine aLu hA e5 (by decide) hu46 rfl fun a v hA e6=>?_
  refine eE hA e6 (by decide) rfl fun a v hA e7=>?_
  refine aLt hA e7 (by decide) hu46 rfl fun a v hA e8=>?_
  refine oN (.i .i64 0) hA e8 (by decide) rfl rfl (hb0 _) (.inr ⟨_,_,rfl⟩) fun a v hA e9=>?_
  refine oN (.i .i64 0) hA e9 (by decide) rfl rfl (hb0 _) (.inr ⟨_,_,rfl⟩) fun a v hA e10=>?_
  refine rL hA e10 (by decide) rfl fun a v hA e11=>kL ?_
  refine eB (gX ?_)
  refine eE hA e11 (by decide) rfl fun a v hA e12=>?_
  refine oN (.b false) hA e12 (by decide) rfl rfl (by simp[dK,arith]) (.inl ⟨_,rfl⟩) fun a v hA e13=>kL ?_
  refine nA (t:=false) (hA.get _ _ rfl) (xF ?_)
  refine eB (gX ?_)
  refine eE hA e13 (by decide) rfl fun a v hA e14=>?_
  refine rL hA e14 (by decide) rfl fun a v hA e15=>kL (yC ?_)
  refine⟨hA.defs,fun v1 f7=>⟨.slice none 0 0,?_,rfl,?_⟩⟩
  · have hr:=hA.get 4 _ rfl
    show aH _ (results _ a.tmps) v1=_
    have hrs:Fc.results=#[.tmp 4]:=rfl
    simp only[results,hrs]
    simp only[Dk,Ay]at hr
    simp[hr]
  · have f8:=e15.trans f7
    exact⟨f8.os,f8.tape,f8.output,f8.size,fun k hk=>f8.get hk⟩
theorem aHj{vs:Array Value}(h:2=vs.size):∃ v0 v1,vs=#[v0,v1]:=by
  obtain⟨v0,hv0⟩:∃ v1,vs[0]? = some v1:=⟨vs[0],Ak (by omega)⟩
  obtain⟨v1,hv1⟩:∃ v1,vs[1]? = some v1:=⟨vs[1],Ak (by omega)⟩
  refine⟨v0,v1,?_⟩
  apply Array.ext_getElem?
  intro k
  match k with
  |0=>simpa using hv0
  |1=>simpa using hv1
  |k+2=>rw[Array.getElem?_eq_none (by omega)];simp
theorem wK(vs:Array Value)(w:World):aH Aa (callFunc 101 vs) w=.ok (.enter 101 vs) w:=by
  have hn:¬ Fc.name = "runtime.NumGoroutine" := by
    have:(Fc.name == "runtime.NumGoroutine")=false:=rfl
    simpa using this
  have hb:Fc.body=some _:=rfl
  simp[callFunc,Tryz.func101,hn,hb]
theorem bYc[M:Mch Aa](n:Nat)(h0:0<n)(hn:n≤1000000):aBe Aa 101 [.nil,.d (.i .i64 (n:Int))] (fun m=>.own m 0 0 1) (fun _=>[.cells 43 []]):=by
  intro A W vs hA hl hv
  obtain⟨v0,v1,rfl⟩:=aHj hl
  have h1:=hv 0 _ v0 rfl rfl
  cases h1
  have h2:=hv 1 _ v1 rfl rfl
  cases h2 with|d _ _ h2 =>
  cases h2
  refine⟨wK _,?_⟩
  refine(bEl n W h0 hn).mono ?_
  rintro e w' ⟨b,G,ROW,hG,hGm,hR,hbW,rfl,hat,hb⟩
  have hsz:b<w'.heap.size:=aY hat
  refine⟨hb,fun m hm=>⟨A,fun id=>if id=m then some b else none,fun b h=>.inl h,?_,fun id=>?_,fun id b' h=>?_,fun i o b' ho hb'=>?_,fun id id' b' h h'=>?_⟩⟩
  · have:=V.own (F:=A) (w:=w') (ι:=fun id=>if id=m then some b else none) m 0 0 1 b G ROW 43 (Ap rfl) hat (by omega) (by omega) hGm
    rwa [DT]at this
  · constructor
    · rintro⟨b',h⟩
      simp only at h
      split at h
      · rename_i e;subst e;exact⟨AA _,by simp⟩
      · cases h
    · rintro⟨h1,h2⟩
      have e:id=m:=by simp at h2;omega
      exact⟨_,Ap e⟩
  · simp only at h
    split at h
    · injection h with h;subst h
      exact⟨hbW,hsz,fun h=>Nat.lt_irrefl _ (A9 (hA _ h) hbW)⟩
    · cases h
  · have hi:i=0:=by
      have:=(Ao.1 ho).1
      simp at this;exact this
    subst hi
    simp at ho;subst ho
    simp at hb';subst hb'
    exact⟨_,hat,.cells _ _ _ (A5 _) fun k c h=>by simp at h⟩
  · simp only at h h'
    split at h
    · rename_i e
      split at h'
      · rename_i e';exact e.trans e'.symm
      · cases h'
    · cases h
theorem bVc[M:Mch Aa]:aBe Aa 101 [.nil,.d (.i .i64 0)] (fun _=>.nil) (fun _=>[]):=by
  intro A W vs hA hl hv
  obtain⟨v0,v1,rfl⟩:=aHj hl
  have h1:=hv 0 _ v0 rfl rfl
  cases h1
  have h2:=hv 1 _ v1 rfl rfl
  cases h2 with|d _ _ h2 =>
  cases h2
  refine⟨wK _,?_⟩
  refine(aVv W).mono ?_
  rintro e w' ⟨rfl,hb⟩
  exact⟨hb,fun m hm=>⟨A,fun _=>none,fun b h=>.inl h,.nil,fun id=>⟨fun⟨b,h⟩=>(by cases h),fun h=>(by simp at h;omega)⟩,fun id b h=>(by cases h),fun i o b h=>(by simp at h),fun id id' b h h'=>(by cases h)⟩⟩
end Go.Am
end
section
open List renaming map_map→ζ,mapM_map→ξ
open Go Go.Am Go.Proofs
namespace Go.Am
theorem iS(l:List Nat):one (.d (bL l))=true:=rfl
theorem dZ(l:List Nat):dF (.d (bL l))=some [.d (bL l)]:=rfl
theorem fY(l:List Nat):aL (bL l)=.d (bL l):=rfl
theorem bFc(H:Hp)(n:Nat):gF H n []=H:=by
 funext id;unfold gF;rw[Ah (by simp)]
theorem tY(H:Hp)(n:Nat)(o:HO):gF H n [o]=upd H n (some o):=by
 funext id;unfold gF upd
 by_cases h:id=n
 ·subst h;simp
 ·rw[Ah (by simp;omega)];simp[h]
theorem aSc(l:List Nat):((l.map fun(p:Nat)=>[D.i .u64 (p:Int)]).map (Cs AV.d)).flatten=(dU l).map AV.d:=by
 induction l with
 |nil=>rfl
 |cons x l ih=>simp only[BO,CH,ih];rfl
theorem bVn(a b:List Nat):dU (a++b)=dU a++dU b:=by simp[dU]
theorem bPk(l:List Nat):((dU l).map AV.d).all one=true:=by
 rw[AW]
 intro x hx
 obtain⟨d,hd,rfl⟩:=A1.1 hx
 obtain⟨p,_,rfl⟩:=A1.1 hd
 rfl
def aDn(a b:List Nat):D:=.sl [[bL a],[bL b]]
set_option maxHeartbeats 4000000 in
set_option maxRecDepth 10000 in
theorem aSd[M:Mch Aa](a b:List Nat)(ha:a.length≤10000)(hb:b.length≤10000):Spec Aa 45 [aDn a b] (bL (a++b)):=by
 have hw0:Al.wrap (a.length:Int)=(a.length:Int):=aU
 have hw1:Al.wrap ((a.length:Int)+b.length)=(a.length:Int)+b.length:=aU
 have hwz:Al.wrap 1=1:=by decide
 have hwz2:Al.wrap 2=2:=by decide
 have h00:¬(a.length:Int)<0:=by omega
 have h01:¬(a.length:Int)+b.length<0:=by omega
 refine bD (N:=36) Tryz.func45 ?_
 simp[-ζ,-ξ,↓KW,aDn,iS,dZ,fY]
 refine gL 3 ?_
 simp[-ζ,-ξ,↓KW,↓aE,↓aB,↓aF,↓aG,aDn,bL,iS,dZ,fY,hw0,hw1,hwz,hwz2,h00,h01]
 by_cases hab:a.length+b.length=0
 ·have ea:a=[]:=Cc (by omega)
  have eb:b=[]:=Cc (by omega)
  subst ea;subst eb
  refine aCt (fun _=>.nil) (fun _=>[]) (by simp) (by simp) (by simp) (by rfl) (by simpa[aFl,aMa]using bVc) ?_
  simp[-ζ,-ξ,↓KW,bFc,bL]
  refine gL 3 ?_
  simp[-ζ,-ξ,↓KW,↓aE,↓aB,↓aF,↓aG,aDn,bL,iS,dZ,fY,hwz,hwz2]
 ·refine aCt (fun m=>.own m 0 0 1) (fun _=>[.cells 43 []]) (by simp) (by simp) (by simp) (by rfl) (by simpa[aFl,aMa]using bYc (a.length+b.length) (by omega) (by omega)) ?_
  have hok:∀ l:List Nat,fD 1 (l.map fun(p:Nat)=>[D.i .u64 (p:Int)])=true:=fun l=>by cases l<;>simp[fD]
  have hff:=aSc
  have hla:=eN a
  have hlb:=eN b
  have hbb:a.length*8≤140737488355328∧a.length≤maxLen:=⟨by omega,bY (by omega)⟩
  have hbb2:(a.length+b.length)*8≤140737488355328∧a.length+b.length≤maxLen:=⟨by omega,bY (by omega)⟩
  have hab':(a++b).length=a.length+b.length:=A8
  have e1:Fy (a.length+b.length) ((dU (a++b)).map AV.d)=(dU (a++b)).map AV.d:=iK hab'
  have e2:chunk 1 (a.length+b.length) (dU (a++b))=(a++b).map fun(p:Nat)=>[D.i .u64 (p:Int)]:=pS hab'
  have e3:=eN (a++b)
  rw[hab']at e3
  have e4:(dU a).map AV.d++(dU b).map AV.d=(dU (a++b)).map AV.d:=by rw[bVn,FT]
  have hone:=bPk
  simp[-ζ,-ξ,↓KW,tY,bL]
  refine gL 3 ?_
  simp[-ζ,-ξ,↓KW,↓aE,↓aB,↓aF,↓aG,aDn,bL,iS,dZ,fY,hwz,hwz2,bHm,hok,hone,hff,hla,hlb,hbb,hbb2,e1,e2,e3,e4]
theorem pJ(l:List Nat):inj (bL l)=.d (bL l):=rfl
theorem kR(H:Hp)(avs:List AV)(l:List Nat):aX H avs (bL l)=bT H avs:=rfl
set_option maxRecDepth 10000 in
theorem bMv[M:Mch Aa](n:Nat):Spec Aa 46 [cX 0,.i .u64 n] (bL []):=by
 have hE:=aRz 0 (yJ (by decide)) (yJ (by decide)) (by decide)
 have h0:encZ 0=cX 0:=iW 0
 rw[h0]at hE
 simp only[decide_true]at hE
 refine oR (N:=31) aT Tryz.func46 rfl rfl rfl (by kernel_rfl) (by kernel_rfl) (by simp) ?_
 refine cQ (by kernel_rfl) ?_
 simp[-ζ,-ξ,↓KW,↓aE,↓aB,↓aF,↓aG,bV 0,fU,kN]
 refine cQ (by kernel_rfl) ?_
 simp[-ζ,-ξ,↓KW,↓aE,↓aB,↓aF,↓aG,bV 0,aR]
 refine aD hE ?_
 simp[-ζ,-ξ,↓KW,↓aE,↓aB,↓aF,↓aG,bV 0,aR,bL]
def iF(c:Nat):Nat→List Nat→List Nat
 |acc,[]=>[]
 |acc,p::l=>if c<acc then[]else p::iF c (acc*p) l
theorem kB(c:Nat):∀(l:List Nat) (acc:Nat),∃ k,iF c acc l=l.take k
 |[],acc=>⟨0,by simp[iF]⟩
 | p::l,acc=>by
  unfold iF
  split
  ·exact⟨0,rfl⟩
  ·obtain⟨k,hk⟩:=kB c l (acc*p)
   exact⟨k+1,by simp[hk]⟩
theorem aDb(c:Nat):∀(l:List Nat) (acc:Nat),c<acc*cU l→c<acc*cU (iF c acc l)
 |[],acc,h=>by simpa[iF]using h
 | p::l,acc,h=>by
  unfold iF
  split
  ·rename_i h1;simpa[cU]using h1
  ·have:=aDb c l (acc*p) (by simpa[cU,B0]using h)
   simpa[cU,B0]using this
theorem vH(c:Nat):∀(l:List Nat) (acc k:Nat),k<(iF c acc l).length→acc*cU ((iF c acc l).take k)≤c
 |[],acc,k,h=>by simp[iF]at h
 | p::l,acc,k,h=>by
  unfold iF at h ⊢
  split
  ·rename_i h1;simp[h1]at h
  ·rename_i h1
   rw[Ah h1]at h
   cases k with
   |zero=>simp[cU];omega
   | succ k =>
    have:=vH c l (acc*p) k (by simpa using h)
    simpa[cU,B0]using this
theorem aVd{b:Nat}{l:List Nat}(h:2*b<cU l):Ndd b (iF (2*b) 1 l) where
 big:=by have:=aDb (2*b) l 1 (by simpa using h);simpa using this
 low k hk:=by have:=vH (2*b) l 1 k hk;simpa using this
def wpL(b k:Nat):List Nat:=P10.take (2*k)++iF (2*b) 1 (P10.drop (2*k))
set_option maxHeartbeats 4000000 in
set_option maxRecDepth 10000 in
theorem bRy[M:Mch Aa](b:Nat)(N:List Nat)(hN:N.length≤1000)(hNe:Spec Aa 46 [cX b,.i .u64 2147483648] (bL N)):Spec Aa 18 [cX b,.i .i64 0] (bL N):=by
 have hPr:=aIm 2147483648
 have hC:=aSd [] N (by simp) (by omega)
 rw[FO]at hC
 refine bD (N:=26) Tryz.func18 ?_
 simp[-ζ,-ξ,↓KW,bV b,fU,kN]
 refine aD hPr ?_
 have hnil:bL []=.sl []:=rfl
 simp[-ζ,-ξ,↓KW,hnil,aR]
 refine aD hNe ?_
 simp[-ζ,-ξ,↓KW,iS,dZ,fY,pJ,kR]
 refine aD hC ?_
 simp[-ζ,-ξ,↓KW,iS,dZ,fY,pJ,kR]
set_option maxHeartbeats 4000000 in
set_option maxRecDepth 10000 in
theorem aEc[M:Mch Aa](b k p:Nat)(T N:List Nat)(hN:N.length≤1000)(hk:k≤3)(hT:T.length+1=2*k)(hPr:Spec Aa 44 [.i .u64 2147483648,.i .i64 ((2*k:Nat):Int)] (bL (T++[p])))(hNe:Spec Aa 46 [cX b,.i .u64 p] (bL N)):Spec Aa 18 [cX b,.i .i64 k] (bL (T++[p]++N)):=by
 have hC:=aSd (T++[p]) N (by simp;omega) (by omega)
 have hmin:(if(1073741824:Int)<(k:Int)then(1073741824:Int)else(k:Int))=k:=by rw[Ah (by omega)]
 have hw:Al.wrap (2*(k:Int))=((2*k:Nat):Int):=by rw[show 2*(k:Int)=((2*k:Nat):Int)from by omega];exact aU
 have hwl:Al.wrap (T.length:Int)=(T.length:Int):=aU
 have h0:(0:Int)<(T.length:Int)+1:=by omega
 refine bD (N:=26) Tryz.func18 ?_
 simp[-ζ,-ξ,↓KW,bV b,fU,kN]
 rw[hmin]
 simp[-ζ,-ξ,↓KW,hw]
 refine aD hPr ?_
 have hlen:∃ l,bL (T++[p])=.sl l∧l.length=T.length+1∧l[T.length]? = some [.i .u64 (p:Int)]:=⟨_,rfl,by simp,by simp⟩
 obtain⟨l,hl,hl1,hl2⟩:=hlen
 have hl3:inj (bL (T++[p]))=.d (.sl l):=by rw[pJ,hl]
 have hl4:aDn (T++[p]) N=.sl [[.sl l],[bL N]]:=by rw[←hl];rfl
 rw[hl4]at hC
 have hl5:∀ h,l[T.length]'h=[.i .u64 (p:Int)]:=fun h=>by rw[Ab h]at hl2;injection hl2
 simp[-ζ,-ξ,↓KW,hl3,kR,hl1,h0,hwl,hl2,hl5,iS,dZ,fY,aR]
 refine aD hNe ?_
 simp[-ζ,-ξ,↓KW,iS,dZ,fY,pJ,kR]
 refine aD hC ?_
 simp[-ζ,-ξ,↓KW,iS,dZ,fY,pJ,kR]
theorem aFi:P10.length=10:=rfl
theorem aVh{c acc:Nat}{l:List Nat}{p:Nat}(h:p∈iF c acc l):p∈l:=by
 obtain⟨k,hk⟩:=kB c l acc
 rw[hk]at h
 exact DI h
theorem bVr:∀ k:Nat,k≤3→2*2^96<cU (P10.drop (2*k)):=by decide
theorem bMu[M:Mch Aa](b k:Nat)(hb:b<2^96)(hk:k≤3):Spec Aa 46 [cX b,.i .u64 ((if 2*k=0 then 2147483648 else P10[2*k-1]! : Nat):Int)] (bL (iF (2*b) 1 (P10.drop (2*k)))):=by
 have hbig:=bVr k hk
 have hD:=jB.drop (k:=2*k) bFs (by rw[aFi];omega)
 have hm:∀ p∈P10.drop (2*k),p∈P10:=fun p hp=>List.mem_of_mem_drop hp
 have hln:(P10.drop (2*k)).length≤10:=by rw[Ek,aFi];omega
 generalize(if 2*k=0 then 2147483648 else P10[2*k-1]! : Nat)=n at *
 generalize P10.drop (2*k)=L at *
 rcases Bb b with h0|h0
 ·subst h0
  have e:iF (2*0) 1 L=[]:=by
   cases L with
   |nil=>rfl
   |cons p L=>rfl
  rw[e];exact bMv n
 ·have hN:=aVd (b:=b) (l:=L) (by omega)
  have hlow:=vH (2*b) L 1
  have hmm:∀ p∈iF (2*b) 1 L,p∈P10:=fun p hp=>hm p (aVh hp)
  obtain⟨j,hj⟩:=kB (2*b) L 1
  have hD2:jB n (iF (2*b) 1 L):=by rw[hj];exact jB.take hD
  generalize iF (2*b) 1 L=N at *
  have hl6:N.length≤7:=by
   refine CQ fun hc=>?_
   have h8:=hlow 7 (by omega)
   have hmin:∀ l:List Nat,(∀ p∈l,1073741824≤p)→1073741824^l.length≤cU l:=by
    intro l
    induction l with
    |nil=>intro _;simp[cU]
    | cons x l ih =>
     intro h
     rw[Aj,BH,BJ]
     exact A3 (h x (AI ..)) (ih fun p hp=>h p (AJ _ hp))
   have hge:∀ p∈P10,1073741824≤p:=by decide
   have h9:=hmin (N.take 7) fun p hp=>hge p (hmm p (DI hp))
   have hl7:(N.take 7).length=7:=by rw[Be];omega
   rw[hl7]at h9
   have h10:(1073741824:Nat)^7=2^210:=by decide
   have h11:(2:Nat)^96*2^114=2^210:=by decide
   have h12:(2:Nat)^114=20769187434139310514121985316880384:=by decide
   have h13:(2:Nat)^96=79228162514264337593543950336:=by decide
   omega
  cases N with
  |nil=>exact absurd hN.big (by simp[cU];omega)
  |cons p0 ps=>exact aNt b n p0 ps (by omega) h0 hD2 (by simp at hl6;omega) hN fun p hp=>bWk (hmm p hp)
theorem aEh[M:Mch Aa](b k:Nat)(hb:b<2^96)(hk:k≤3):Spec Aa 18 [cX b,.i .i64 k] (bL (wpL b k)):=by
 have hN:=bMu b k hb hk
 have hl:(iF (2*b) 1 (P10.drop (2*k))).length≤1000:=by
  obtain⟨j,hj⟩:=kB (2*b) (P10.drop (2*k)) 1
  have:=List.length_take_le' j (P10.drop (2*k))
  have h2:(P10.drop (2*k)).length≤10:=by rw[Ek,aFi];omega
  rw[hj];omega
 have hd:=bFs
 unfold wpL
 have hk4:k=0∨k=1∨k=2∨k=3:=by omega
 rcases hk4 with rfl|rfl|rfl|rfl
 ·exact bRy b _ hl hN
 ·exact aEc b 1 2147483629 [2147483647] _ hl (by omega) rfl (rR 2147483648 2147483647 [2147483629] (jB.take (k:=2) hd) (by decide)) hN
 ·exact aEc b 2 2147483579 [2147483647,2147483629,2147483587] _ hl (by omega) rfl (rR 2147483648 2147483647 [2147483629,2147483587,2147483579] (jB.take (k:=4) hd) (by decide)) hN
 ·exact aEc b 3 2147483549 [2147483647,2147483629,2147483587,2147483579,2147483563] _ hl (by omega) rfl (rR 2147483648 2147483647 [2147483629,2147483587,2147483579,2147483563,2147483549] (jB.take (k:=6) hd) (by decide)) hN
def Pr3(n:Nat):Prop:=2≤n∧n<2147483648∧∀ d,2≤d→d*d≤n→n%d≠0
set_option maxHeartbeats 4000000 in
set_option maxRecDepth 10000 in
theorem aIf[M:Mch Aa](n:Nat)(b:Bool)(hb:b=true↔Pr3 n)(hn:n<18446744073709551616):Spec Aa 72 [.i .u64 n] (.b b):=by
 refine bD (N:=21) Tryz.func72 ?_
 simp[-ζ,-ξ,↓KW]
 by_cases h1:n<2
 ·have hbf:b=false:=by
   cases b with
   |false=>rfl
   |true=>have:=hb.1 rfl;unfold Pr3 at this;omega
  have hi:decide ((n:Int)<2)=true:=by simp;omega
  subst hbf
  simp[-ζ,-ξ,↓KW,hi,h1]
 by_cases h2:2147483648≤n
 ·have hbf:b=false:=by
   cases b with
   |false=>rfl
   |true=>have:=hb.1 rfl;unfold Pr3 at this;omega
  subst hbf
  have hi:¬((n:Int)<2):=by omega
  have hj:(2147483648:Int)≤(n:Int):=by omega
  simp[-ζ,-ξ,↓KW,hi,hj,h1,h2]
 have hi:¬((n:Int)<2):=by omega
 have hj:¬(2147483648:Int)≤(n:Int):=by omega
 simp[-ζ,-ξ,↓KW,hi,hj,h1,h2]
 refine bX (τ:=Nat) (fun d=>2≤d∧d≤46341∧∀ e,2≤e→e<d→n%e≠0) (fun d=>StL [(0,.d (.i .u64 n)),(3,.d (.i .u64 d))] none []) (fun d=>46341-d) 2 ⟨by omega,by omega,fun e h1 h2=>by omega⟩ ?_ ?_
 ·refine wkQ [] ?_ ?_<;>simp[-ζ,upd,aL,Γ0]
 ·rintro d ⟨h3,h4,h5⟩
  have hw:AB.wrap ((d:Int)*(d:Int))=((d*d:Nat):Int):=by
   rw[←B9]
   have:=A3 h4 h4
   exact wrap_u64 (by omega) (by omega)
  have hd0:((d:Int)==0)=false:=by simp;omega
  have hd1:¬d=0:=by omega
  have htm:((n:Int).tmod (d:Int))=((n%d:Nat):Int):=by rw[Int.tmod_eq_emod_of_nonneg (by omega)];rfl
  have hw1:AB.wrap ((d:Int)+1)=((d+1:Nat):Int):=wrap_u64 (by omega) (by omega)
  by_cases hd:d*d≤n
  ·have hle:decide (((d*d:Nat):Int)≤(n:Int))=true:=by simp only[Bw];omega
   have hd2:d<46341:=by
    refine CQ fun hc=>?_
    have:d=46341:=by omega
    subst this;omega
   by_cases hz:n%d=0
   ·have hbf:b=false:=by
     cases b with
     |false=>rfl
     |true=>exact absurd hz ((hb.1 rfl).2.2 d h3 hd)
    have hzi:(((n%d:Nat):Int)==0)=true:=by rw[hz];rfl
    subst hbf
    generalize d*d=dd at *
    generalize n%d=r at *
    simp[-ζ,-ξ,↓KW,hw,hd,hd0,hd1,htm,hzi]
   ·have hzi:(((n%d:Nat):Int)==0)=false:=by simp;omega
    have hst:∀ e,2≤e→e<d+1→n%e≠0:=fun e g1 g2=>by
     by_cases g:e=d
     ·subst g;exact hz
     ·exact h5 e g1 (by omega)
    generalize d*d=dd at *
    generalize n%d=r at *
    simp[-ζ,-ξ,↓KW,hw,hd,hd0,hd1,htm,hzi,hw1]
    refine aK (d+1) ⟨by omega,by omega,hst⟩ (by show 46341-(d+1)<46341-d;omega) (wkQ [] ?_ ?_)<;>simp[-ζ,upd,aL,Γ0]
  ·have hle:decide (((d*d:Nat):Int)≤(n:Int))=false:=by simp only[Fe];omega
   have hbt:b=true:=hb.2 ⟨by omega,by omega,fun e g1 g2=>h5 e g1 (by
    refine CQ fun hc=>hd ?_
    exact AY (A3 (by omega) (by omega)) g2)⟩
   subst hbt
   generalize d*d=dd at *
   simp[-ζ,-ξ,↓KW,hw,hd]
theorem szR{z:Int}(h:z.natAbs<2^256):(aJ z.natAbs).length≤137438953472∧(aJ z.natAbs).length≤549755813888:=by
 have:=dI (n:=z.natAbs) (k:=8) (A9 h (by decide))
 omega
theorem bBj[M:Mch Aa]{x:Nat}(hx:x<9223372036854775808):Spec Aa 13 [.i .i64 x] (cX x):=by
 have:=aIk (x:Int) (by omega) (by omega)
 rwa [iW]at this
end Go.Am
end
section
open List renaming map_map→ζ,mapM_map→ξ
namespace Go.Am
open RowKit (Below)
def Wal(P:Program)[M:Mch P](c:Code)(σ:St)(Q:Exit→St→Prop):Prop :=
 ∀(G:Ctx) (N:Nat) (ds:List Deferred) (a:Act) (w:World),P.follows .mixedOrders=true→(∀ d,G.Z d=none)→bH N c=true→SR G N ds σ a w→WC P c (fun e a' w'=>∃ σ',Q e σ'∧SR G N ds σ' a' w') a w
section
variable {P:Program} [M:Mch P] {σ:St} {Q:Exit→St→Prop} {x y c:Code}
theorem xG(hl:bK P c=true)(h:AWP P c σ Q):Wal P c σ Q:=fun G N ds a w hm hZ hd hs=>cG hm hZ c Q σ a w hd hl h hs
theorem aQi(h:Wal P x σ fun e σ'=>match e with|.normal=>Wal P y σ' Q|e=>Q e σ'):Wal P (.seq x y) σ Q:=fun G N ds a w hm hZ hd hs=>by
 simp only[bH,Bool.and_eq_true]at hd
 refine eB (bQ (h G N ds a w hm hZ hd.1 hs) ?_)
 rintro e a' w' ⟨σ',hq,hs'⟩
 cases e with
 |normal=>exact hq G N ds a' w' hm hZ hd.2 hs'
 |_=>exact⟨σ',hq,hs'⟩
theorem rM(hl:bK P x=true)(h:AWP P x σ fun e σ'=>match e with|.normal=>Wal P y σ' Q|e=>Q e σ'):Wal P (.seq x y) σ Q:=aQi (xG hl h)
theorem aCd{id:Nat}(h:Wal P c σ fun e σ'=>match e with|.exit id'=>if id'=id then Q .normal σ' else Q (.exit id') σ'|e=>Q e σ'):Wal P (.block id c) σ Q:=fun G N ds a w hm hZ hd hs=>by
 refine(WpR.plain P).block (bQ (h G N ds a w hm hZ hd hs) ?_)
 rintro e a' w' ⟨σ',hq,hs'⟩
 cases e with
 | exit id' =>
  simp only[Exit.inBlock]at hq ⊢
  split at hq
  ·rename_i he;rw[Ap he];exact⟨σ',hq,hs'⟩
  ·rename_i he;rw[Ah he];exact⟨σ',hq,hs'⟩
 |_=>exact⟨σ',hq,hs'⟩
theorem aYj{τ:Type}(Good:τ→Prop)(S:τ→St)(m:τ→Nat)(x0:τ)(h0:Good x0)(hk:∃ ρ,Wk σ (S x0) ρ)
  (h:∀ x,Good x→Wal P c (S x) fun e σ'=>match e with|.normal=>∃ y,Good y∧m y<m x∧∃ ρ,Wk σ' (S y) ρ|e=>Q e σ'):Wal P (.loop c) σ Q:=fun G N ds a w hm hZ hd hs=>by
 refine(WpR.plain P).loop (fun n a w=>∃ x,Good x∧m x=n∧SR G N ds (S x) a w) ⟨m x0,x0,h0,rfl,mX (.inr hk) hs⟩ ?_
 rintro n a w ⟨x,hg,rfl,hsx⟩
 refine bQ (h x hg G N ds a w hm hZ hd hsx) ?_
 rintro e a' w' ⟨σ',hq,hs'⟩
 cases e with
 | normal =>
  obtain⟨y,hgy,hlt,hk⟩:=hq
  exact⟨m y,hlt,y,hgy,rfl,mX (.inr hk) hs'⟩
 |_=>exact⟨σ',hq,hs'⟩
theorem bSj{id:Nat}{l:List Oper}(hno:fM l=true)(h:OAd P l.toArray (Q .normal) l.length (AU l.length false) σ .mk):Wal P (.region id l.toArray true) σ Q:=fun G N ds a w hm hZ hd hs =>
 (WpR.plain P).regA hm (fun e=>by cases e) fun d=>uP (Q:=Q .normal) (N:=N) (ds:=ds) (G:=G) (by simpa using hno) (fun i o d hi hd'=>⟨pA hd i o d hi hd',hZ d⟩) (fun σ' a' w' hq hs'=>⟨σ',hq,hs'⟩) _ _ σ _ _ (hs.env ⟨rfl,rfl,rfl,0,by simp⟩) h
theorem aZl {f N:Nat} {fn:Func} {args:List D} {r:D} (hm:P.follows .mixedOrders=true) (hf:P.funcs[f]? = some fn) (hb:fn.body=some c) (hname:(fn.name == "runtime.NumGoroutine")=false) (hN:fn.ntmps=N)
  (hd:bH N c=true) (ha:args.length≤N) (h:Wal P c (St0 args N) fun e σ=>(e=.normal∨e=.ret)∧iY P fn.results.toList σ=some r):Spec P f args r:=by
 intro A W vs hA hl hv
 have hn:¬ fn.name = "runtime.NumGoroutine" := by simpa using hname
 refine⟨fun w=>by simp[callFunc,hf,hn,hb],?_⟩
 refine fS hf hb ?_
 subst hN
 refine(WpR.plain P).okv fun hok=>bQ (h _ _ _ _ _ hm (fun _=>rfl) hd (SR0 hok hA hl hv ha)) ?_
 rintro e a w ⟨σ,⟨he,hr⟩,hs⟩
 have hend:a.defers=[]∧∀ v1,Env w v1→∃ x,aH P (results fn a.tmps) v1=.ok x v1∧Below W.heap.size W v1∧VD (fun b=>A b∨(W.heap.size≤b∧b<v1.heap.size)) v1 r x:=by
  refine⟨hs.2.2.2.elim fun _ h=>h.elim fun _ h=>h.2.2.2.2.1,fun v1 he=>?_⟩
  have hs1:=hs.env he
  obtain⟨v,hrun,hvd⟩:=dV hs1 hr
  obtain⟨_,_,_,F,ι,hR,_,_,_,hdf,_⟩:=hs1
  refine⟨v,hrun,⟨hR.kept.os,hR.kept.tape,hR.kept.output,hR.kept.size,fun k hk=>hR.kept.block k hk (fun h=>h)⟩,hvd.mono ?_⟩
  rintro b (h|h|h)
  ·exact .inl h
  ·exact h.elim
  ·exact .inr h
 rcases he with rfl|rfl<;>exact hend
end
end Go.Am
end
section
open List renaming map_map→ζ,mapM_map→ξ
open Go Go.Am Go.Proofs
namespace Go.Am
theorem aWf{x y c q r:Nat}(hc:0<c)(hy:0<y)(h:q*(y*c)+r=x*c)(hr:r<y*c):q=x/y∧r/c=x%y:=by
 have hq:x*c/(y*c)=q:=by
  have:=(Nat.div_mod_unique (FJ hy hc) (a:=x*c) (d:=q) (c:=r)).2 ⟨by rw[BJ (y*c)];omega,hr⟩
  exact this.1
 rw[Nat.mul_div_mul_right _ _ hc]at hq
 refine⟨hq.symm,?_⟩
 have h2:r=x%y*c:=by
  have h3:=DQ x y
  rw[hq]at h3
  have h4:(y*q+x%y)*c=x*c:=by rw[h3]
  rw[BV]at h4
  have h5:y*q*c=q*(y*c):=by rw[BJ y,B0]
  omega
 rw[h2,Nat.mul_div_cancel _ hc]
theorem bFj{dt c:Nat}(htop:0<dt)(hs:dt*c<4294967296):∃ t,dt*c=t∧c≤t∧t<4294967296∧(t<2147483648→dt*(2*c)<4294967296) :=
 ⟨_,rfl,Nat.le_mul_of_pos_left _ htop,hs,fun h=>by rw[Fl];omega⟩
def zq(q:Nat):AV:=if q=0 then .nil else .d (aA (aJ q))
theorem uE{x c n:Nat}(h1:(aJ x).length≤n)(h2:c<4294967296):(aJ (x*c)).length≤n+1 :=
 dI (by rw[BH];exact Nat.mul_lt_mul'' (kQ h1) h2)
theorem bHr[M:Mch Aa]{x c X:Nat}(h:x+c=X)(h1:(aJ (x:Int).natAbs).length≤549755813888)(h2:(aJ (c:Int).natAbs).length≤549755813888):Spec Aa 117 [encZ (x:Int),encZ (c:Int)] (encZ (X:Int)):=by
 have:=xM (x:Int) (c:Int) h1 h2
 rwa [←D7,h]at this
theorem aYw[M:Mch Aa]{x c X:Nat}(h:x=X+c)(h1:(aJ (x:Int).natAbs).length≤549755813888)(h2:(aJ (c:Int).natAbs).length≤549755813888):Spec Aa 118 [encZ (x:Int),encZ (c:Int)] (encZ (X:Int)):=by
 have:=aQr (x:Int) (c:Int) h1 h2
 rwa [show(x:Int)-c=X by omega]at this
theorem bFo{q Y r X e E r':Nat}(hp:q*Y+r=X)(hE:e*Y=E)(hr:r=r'+E)(he:0<e)(hY:0<Y):(q+e)*Y+r'=X∧r'<r∧q+e≤X∧E≤X:=by
 have h1:(q+e)*Y+r'=X:=by rw[BV,hE];omega
 have h2:0<E:=by rw[←hE];exact FJ he hY
 have h3:q+e≤(q+e)*Y:=Nat.le_mul_of_pos_right _ hY
 exact⟨h1,by omega,by omega,by omega⟩
theorem bDb{c:Nat}(h:c<4294967296):(aJ (c:Int).natAbs).length≤1:=dI (by simpa using h)
theorem zI[M:Mch Aa]{x c X:Nat}(h:x*c=X)(h1:(aJ (x:Int).natAbs).length≤137438953472)(h2:(aJ (c:Int).natAbs).length≤137438953472):Spec Aa 122 [encZ (x:Int),encZ (c:Int)] (encZ (X:Int)):=by
 have:=lP (x:Int) (c:Int) h1 h2
 rwa [←B9,h]at this
theorem bCs[M:Mch Aa](n:Nat)(hn:n<4294967296):Spec Aa 34 [aA [n],.b false] (encZ (n:Int)):=by
 have hm:=dW [n] false (by simp)
 rw[cM (.one hn)]at hm
 simpa[val,sg]using hm
set_option maxRecDepth 10000 in
theorem aUh[M:Mch Aa](x y qq rr:Nat)(hqq:x/y=qq)(hrr:x%y=rr)(hy:0<y)(hlx:(aJ x).length≤130000000000)(hly:(aJ y).length≤130000000000):Spec Aa 116 [aA (aJ x),aA (aJ y)] (.tp [encZ (qq:Int),encZ (rr:Int)]):=by
 refine bD (N:=86) Tryz.func116 ?_
 have lx:=bU x
 have ly:=bU y
 have vx:=cC x
 have vy:=cC y
 have cy:=kZ y
 have hne:aJ y≠[]:=fun h=>by rw[fQ]at h;omega
 have hyl:0<(aJ y).length:=FV.2 hne
 have hmx:∀ n:Nat,n<4294967296→Spec Aa 34 [aA [n],.b false] (encZ (n:Int)):=fun n hn=>by
  have hm:=dW [n] false (by simp)
  rw[cM (.one hn)]at hm
  simpa[val,sg]using hm
 by_cases h1:(aJ y).length=1
 ·obtain⟨d,hd⟩:=List.length_eq_one_iff.1 h1
  have hdl:d<4294967296:=ly d (by rw[hd];simp)
  have hdv:d=y:=by rw[hd]at vy;simpa[val]using vy
  have hs:=aIh (aJ x) d lx (by omega) hdl (by omega)
  obtain⟨s1,s2,s3,_⟩:=aEt (a:=aJ x) (d:=d) lx (by omega)
  have hm1:=dW (shQ (aJ x) d) false (by omega)
  rw[cM s2,s3,vx,show sg false (x/d)=((x/d:Nat):Int)from rfl]at hm1
  have hm2:=hmx (val (aJ x)%d) (by have:=BL (val (aJ x)) (show d>0 by omega);omega)
  rw[hd]
  rw[vx,hdv,hrr]at hm2 hs
  rw[hdv,hqq]at hm1
  rw[hdv]
  generalize shQ (aJ x) y=Q at *
  generalize aJ x=a at *
  simp[-ζ,-ξ,↓KW,aA]
  refine aD hs ?_
  simp[-ζ,-ξ,↓KW,aA]
  refine aD hm1 ?_
  simp[-ζ,-ξ,↓KW,aA]
  refine aZ (ds:=[aA [rr],.b false]) ?_ hm2 ?_
  ·simp[-ζ,-ξ,↓KW,aA]
  simp[-ζ,-ξ,↓KW,aA,encZ,encI,eJ]
 ·have hq1:(((aJ y).length:Int)==1)=false:=by simp only[Eg,ne_eq];omega
  obtain⟨m,hm⟩:∃ m,(aJ y).length=m+1:=⟨(aJ y).length-1,by omega⟩
  have gd:=getD_some (l:=aJ y) (i:=m) (by omega)
  have hdm:=ly.getD m
  have htop:0<(aJ y).getD m 0:=by
   have h2:(aJ y).getLast? ≠ some 0:=cy
   rw[Gf,show(aJ y).length-1=m by omega,gd]at h2
   rcases Bb ((aJ y).getD m 0)with h|h
   ·rw[h]at h2;exact absurd rfl h2
   ·exact h
  generalize(aJ y).getD m 0=dt at *
  have c2:Al.wrap (((aJ y).length:Int)-1)=(m:Int):=by rw[aU];omega
  have c3:AB.wrap (dt:Int)=dt:=wrap_u64 (by omega) (by omega)
  have hma:=dW (aJ x) false (by omega)
  rw[cM lx,vx,show sg false x=(x:Int)from rfl]at hma
  have hmb:=dW (aJ y) false (by omega)
  rw[cM ly,vy,show sg false y=(y:Int)from rfl]at hmb
  have hX:(aJ (x:Int).natAbs).length≤130000000000:=hlx
  have hY:(aJ (y:Int).natAbs).length≤130000000000:=hly
  generalize aJ x=a at *
  generalize aJ y=b at *
  clear hmx lx ly vx vy cy hne
  simp[-ζ,-ξ,↓KW,aA,hq1]
  refine bX (fun c:Nat=>0<c∧dt*c<4294967296)
   (fun c=>StL [(0,.d (aA a)),(1,.d (aA b)),(4,.ptr 1 0),(5,.ptr 2 0),(8,.d (.i .u32 (c:Int)))] none
    [.cells 40 [.d (.b false),.nil],.cells 40 [.d (.b false),.nil]]) (fun c=>4294967296-c) 1 ⟨by decide,by omega⟩ ?_ ?_
  ·refine wkQ [1,2] ?_ ?_<;>simp[-ζ,upd,aL,Γ0,aA]
  ·intro c hs
   refine(bFj htop hs.2).elim fun t h5=>?_
   have hc0:=hs.1
   have ht:=h5.1
   have hcd:=h5.2.1
   have hs2:=h5.2.2.1
   have hdc:=h5.2.2.2
   have c4:AB.wrap (c:Int)=c:=wrap_u64 (by omega) (by omega)
   have c5:AB.wrap ((dt:Int)*c)=t:=by rw[←B9,ht,wrap_u64 (by omega) (by omega)]
   by_cases hgo:t<2147483648
   ·have q1:(t:Int)<2147483648:=by omega
    have c6:BR.wrap (2*(c:Int))=2*(c:Int):=gJ (by omega) (by omega)
    simp[-ζ,-ξ,↓KW,aA,c2,c3,c4,c5,c6,gd,q1]
    refine aK (2*c) ⟨by omega,hdc hgo⟩ ?_ (wkQ [1,2] ?_ ?_)
    ·omega
    ·simp[-ζ,upd,aL,Γ0,aA]
    ·simp[-ζ,upd,aL,Γ0,aA]
   ·have q1:¬(t:Int)<2147483648:=by omega
    have hc32:c<4294967296:=by omega
    have hmc:=bCs c hc32
    simp[-ζ,-ξ,↓KW,aA,c2,c3,c4,c5,gd,q1]
    refine aZ (ds:=[aA [c],.b false]) ?_ hmc ?_
    ·simp[-ζ,-ξ,↓KW,aA]
    simp[-ζ,-ξ,↓KW,aA,encZ,encI]
    refine aD hma ?_
    simp[-ζ,-ξ,↓KW,encZ,encI,aA]
    refine(⟨_,rfl⟩:∃ X,x*c=X).elim fun X hXe=>?_
    refine(⟨_,rfl⟩:∃ X,y*c=X).elim fun Y hYe=>?_
    have hC:=bDb hc32
    have hXl:(aJ X).length≤130000000001:=by rw[←hXe];exact uE hX hc32
    have hYl:(aJ Y).length≤130000000001:=by rw[←hYe];exact uE hY hc32
    have hY0:0<Y:=by rw[←hYe];exact FJ hy hc0
    have hMx:=zI (X:=X) hXe (by omega) (by omega) (x:=x) (c:=c)
    have hMy:=zI (X:=Y) hYe (by omega) (by omega) (x:=y) (c:=c)
    refine aZ (ds:=[encZ x,encZ c]) ?_ hMx ?_
    ·simp[-ζ,-ξ,↓KW,encZ,encI,aA]
    simp[-ζ,-ξ,↓KW,encZ,encI,aA]
    refine aD hmb ?_
    simp[-ζ,-ξ,↓KW,encZ,encI,aA]
    refine aZ (ds:=[encZ y,encZ c]) ?_ hMy ?_
    ·simp[-ζ,-ξ,↓KW,encZ,encI,aA]
    simp[-ζ,-ξ,↓KW,encZ,encI,aA]
    refine bX (fun p:Nat×Nat=>p.1*Y+p.2=X)
     (fun p=>StL [(4,.ptr 1 0),(5,.ptr 2 0),(8,.d (.i .u32 (c:Int))),(10,.ptr 3 0),(11,.ptr 4 0),(12,.ptr 5 0)] none
      [.cells 40 [.d (.b false),.nil],.cells 40 [.d (.b false),.nil],.cells 40 [.d (.b false),.d (aA (aJ p.2))],.cells 40 [.d (.b false),.d (aA (aJ Y))],.cells 40 [.d (.b false),zq p.1]]) (fun p=>p.2) (0,X) (by simp) ?_ ?_
    ·refine wkQ [1,2,5,6,7] ?_ ?_<;>simp[-ζ,upd,aL,Γ0,aA,zq]
    ·intro p hp
     have hpX:p.2≤X:=by rw[←hp];exact Nat.le_add_left _ _
     have hpl:=AY (eD hpX) hXl
     have hless:=aQq (aJ p.2) (aJ Y) (bU _) (bU _) (by omega) (by omega)
     rw[fO]at hless
     simp[-ζ,-ξ,↓KW,aA]
     refine aD hless ?_
     by_cases hgo:p.2<Y
     ·simp[-ζ,-ξ,↓KW,hgo]
      have hsh:=aIh (aJ p.2) c (bU _) hc0 hc32 (by omega)
      have hsv:=aEt (bU p.2) hc0
      have hmd:=dW (shQ (aJ p.2) c) false (by have:=hsv.1;omega)
      have hfin:=aWf hc0 hy (x:=x) (q:=p.1) (r:=p.2) (by rw[hYe,hXe];exact hp) (by rw[hYe];exact hgo)
      rw[cM hsv.2.1,hsv.2.2.1,cC,hfin.2,hrr,show sg false rr=(rr:Int)from rfl]at hmd
      refine aD hsh ?_
      simp[-ζ,-ξ,↓KW,aA]
      refine aD hmd ?_
      have hq1:p.1=qq:=hfin.1.trans hqq
      rw[hq1]
      by_cases hq0:qq=0
      ·simp[-ζ,-ξ,↓KW,encZ,encI,aA,eJ,zq,hq0,cA]
      ·simp[-ζ,-ξ,↓KW,encZ,encI,aA,eJ,zq,hq0]
     ·simp[-ζ,-ξ,↓KW,hgo]
      refine(aIj (aJ p.2) (aJ Y) (bU _) (bU _) (kZ _) (kZ _) (fun h=>by rw[fQ]at h;omega) (by rw[cC,cC];omega) (by omega)).elim fun e he=>?_
      have he1:=he.2.1
      rw[cC,cC]at he1
      refine(⟨_,rfl⟩:∃ E,e*Y=E).elim fun E hE=>?_
      rw[hE]at he1
      refine(⟨_,rfl⟩:∃ F,p.2-E=F).elim fun R' hR'=>?_
      have hR2:p.2=R'+E:=by omega
      have hst:=bFo hp hE hR2 he.1 hY0
      refine(⟨_,rfl⟩:∃ F,p.1+e=F).elim fun q' hq'=>?_
      rw[hq']at hst
      have hel:(aJ (e:Int).natAbs).length≤130000000001:=AY (eD (show e≤X by omega)) hXl
      have hqpl:(aJ (p.1:Int).natAbs).length≤130000000001:=AY (eD (show p.1≤X by omega)) hXl
      have hEl:(aJ (E:Int).natAbs).length≤130000000001:=AY (eD (show E≤X by omega)) hXl
      have hrl:(aJ (p.2:Int).natAbs).length≤130000000001:=hpl
      have hYl2:(aJ (Y:Int).natAbs).length≤130000000001:=hYl
      have hadd:=bHr hq' (by omega) (by omega)
      have hmul:=zI hE (by omega) (by omega)
      have hsub:=aYw hR2 (by omega) (by omega)
      by_cases hq0:p.1=0
      ·have hz:zq p.1=.nil:=Ap hq0
       refine aD he.2.2 ?_
       simp[-ζ,-ξ,↓KW,aA,encZ,encI,hz]
       refine aZ (ds:=[encZ p.1,encZ e]) ?_ hadd ?_
       ·simp[-ζ,-ξ,↓KW,encZ,encI,aA,hq0,cA]
       simp[-ζ,-ξ,↓KW,aA,encZ,encI]
       refine aZ (ds:=[encZ e,encZ Y]) ?_ hmul ?_
       ·simp[-ζ,-ξ,↓KW,encZ,encI,aA]
       simp[-ζ,-ξ,↓KW,aA,encZ,encI]
       refine aZ (ds:=[encZ p.2,encZ E]) ?_ hsub ?_
       ·simp[-ζ,-ξ,↓KW,encZ,encI,aA]
       simp[-ζ,-ξ,↓KW,aA,encZ,encI]
       have hz2:zq q'=.d (aA (aJ q')):=Ah (by have:=he.1;omega)
       refine aK (q',R') hst.1 hst.2.1 (wkQ [1,2,3,4,5] ?_ ?_)
       ·simp[-ζ,upd,aL,Γ0,aA,hz2]
       ·simp[-ζ,upd,aL,Γ0,aA,hz2]
      ·have hz:zq p.1=.d (aA (aJ p.1)):=Ah hq0
       refine aD he.2.2 ?_
       simp[-ζ,-ξ,↓KW,aA,encZ,encI,hz]
       refine aZ (ds:=[encZ p.1,encZ e]) ?_ hadd ?_
       ·simp[-ζ,-ξ,↓KW,encZ,encI,aA,hq0,cA]
       simp[-ζ,-ξ,↓KW,aA,encZ,encI]
       refine aZ (ds:=[encZ e,encZ Y]) ?_ hmul ?_
       ·simp[-ζ,-ξ,↓KW,encZ,encI,aA]
       simp[-ζ,-ξ,↓KW,aA,encZ,encI]
       refine aZ (ds:=[encZ p.2,encZ E]) ?_ hsub ?_
       ·simp[-ζ,-ξ,↓KW,encZ,encI,aA]
       simp[-ζ,-ξ,↓KW,aA,encZ,encI]
       have hz2:zq q'=.d (aA (aJ q')):=Ah (by have:=he.1;omega)
       refine aK (q',R') hst.1 hst.2.1 (wkQ [1,2,3,4,5] ?_ ?_)
       ·simp[-ζ,upd,aL,Γ0,aA,hz2]
       ·simp[-ζ,upd,aL,Γ0,aA,hz2]
theorem iJ{x y q r:Int}(hy:y≠0)(h:r+y*q=x)(h0:0≤r)(h1:r<(y.natAbs:Int)):x/y=q∧x%y=r:=by
 by_cases hp:0<y
 ·exact(Int.ediv_emod_unique hp).2 ⟨h,h0,by omega⟩
 ·obtain⟨z,hz⟩:∃ z,y=-z:=⟨-y,by omega⟩
  subst hz
  have:=(Int.ediv_emod_unique (a:=x) (b:=z) (q:=-q) (r:=r) (by omega)).2 ⟨by rw[←h,DJ,Gm],h0,by omega⟩
  rw[Int.ediv_neg,Int.emod_neg]
  omega
theorem aDg[M:Mch Aa](x:Int)(hx:(aJ x.natAbs).length≤1099511627776):Spec Aa 34 [aA (aJ x.natAbs),.b (decide (x<0))] (encZ x):=by
 have hm:=dW (aJ x.natAbs) (decide (x<0)) hx
 rwa [cM (bU _),cC,fA]at hm
theorem bFm(x y:Int)(hy:y≠0){qq rr:Nat}(hqq:x.natAbs/y.natAbs=qq)(hrr:x.natAbs%y.natAbs=rr) :
  (rr<y.natAbs)∧qq*y.natAbs+rr=x.natAbs∧(¬x<0→¬y<0→x/y=qq∧x%y=rr)∧(¬x<0→y<0→x/y=-(qq:Int)∧x%y=rr) ∧
  (x<0→rr=0→¬y<0→x/y=-(qq:Int)∧x%y=0)∧(x<0→rr=0→y<0→x/y=qq∧x%y=0) ∧
  (x<0→0<rr→¬y<0→x/y=-((qq:Int)+1)∧x%y=(y.natAbs:Int)-rr)∧(x<0→0<rr→y<0→x/y=(qq:Int)+1∧x%y=(y.natAbs:Int)-rr):=by
 have hya:0<y.natAbs:=by omega
 have h1:rr<y.natAbs:=by rw[←hrr];exact BL _ hya
 have h2:qq*y.natAbs+rr=x.natAbs:=by rw[←hqq,←hrr,BJ];exact DQ ..
 have h3:(qq:Int)*(y.natAbs:Int)+rr=(x.natAbs:Int):=by exact_mod_cast h2
 have ep:¬y<0→(y.natAbs:Int)=y:=fun h=>by omega
 have en:y<0→(y.natAbs:Int)=-y:=fun h=>by omega
 refine⟨h1,h2,fun hx h=>?_,fun hx h=>?_,fun hx h0 h=>?_,fun hx h0 h=>?_,fun hx h0 h=>?_,fun hx h0 h=>?_⟩
 ·exact iJ hy (by rw[ep h,EZ]at h3;omega) (by omega) (by omega)
 ·exact iJ hy (by rw[en h,DJ,EZ]at h3;rw[DJ];omega) (by omega) (by omega)
 ·exact iJ hy (by rw[ep h,EZ]at h3;rw[DJ];omega) (by omega) (by omega)
 ·exact iJ hy (by rw[en h,DJ,EZ]at h3;omega) (by omega) (by omega)
 ·exact iJ hy (by rw[ep h,EZ]at h3;rw[ep h,DJ,Int.mul_add];omega) (by omega) (by omega)
 ·exact iJ hy (by rw[en h,DJ,EZ]at h3;rw[en h,Int.mul_add];omega) (by omega) (by omega)
theorem aBu(n:Nat):(aJ (n+1)).length≤(aJ n).length+1:=by
 have h:=kQ (AA (aJ n).length)
 refine dI ?_
 rw[BH]
 have:0<4294967296^(aJ n).length:=Nat.pow_pos (by decide)
 omega
theorem aVj[M:Mch Aa](y:Int)(hy:(aJ y.natAbs).length≤1099511627776):Spec Aa 34 [aA (aJ y.natAbs),.b false] (encZ (y.natAbs:Int)):=by
 have hm:=dW (aJ y.natAbs) false hy
 rw[cM (bU _),cC]at hm
 exact hm
set_option maxRecDepth 10000 in
theorem kJ[M:Mch Aa](x y:Int)(hy:y≠0)(hx:(aJ x.natAbs).length≤130000000000)(hyl:(aJ y.natAbs).length≤130000000000):Spec Aa 73 [encZ x,encZ y] (.tp [encZ (x/y),encZ (x%y),.i .i64 0]):=by
 have hx0:=hx
 have hyl0:=hyl
 refine aZn (N:=56) aT Tryz.func73 rfl rfl rfl (by kernel_rfl) (by kernel_rfl) (by simp) ?_
 obtain⟨qq,hqq⟩:∃ q,x.natAbs/y.natAbs=q:=⟨_,rfl⟩
 obtain⟨rr,hrr⟩:∃ q,x.natAbs%y.natAbs=q:=⟨_,rfl⟩
 have hf:=bFm x y hy hqq hrr
 obtain⟨Q,hQ⟩:∃ Q,x/y=Q:=⟨_,rfl⟩
 obtain⟨R,hR⟩:∃ Q,x%y=Q:=⟨_,rfl⟩
 have hm1:=aDg x (by omega)
 have hm2:=aDg y (by omega)
 have hd:=aUh x.natAbs y.natAbs qq rr hqq hrr (by omega) hx hyl
 have hs:=oY y
 have hs0:y.sign≠0:=fun h=>hy (Gg.1 h)
 have hmy:=aVj y (by omega)
 have hlq:(aJ qq).length≤130000000000:=AY (eD (by rw[←hqq];exact EG ..)) hx0
 have hlr:(aJ rr).length≤130000000000:=AY (eD (by have:=hf.1;omega)) hyl0
 have hnq:((qq:Int)).natAbs=qq:=Ci qq
 have hnr:((rr:Int)).natAbs=rr:=Ci rr
 have hny0:((y.natAbs:Int)).natAbs=y.natAbs:=Ci _
 have hof:=aIk 1 (by decide) (by decide)
 have had:=xM (qq:Int) 1 (by rw[hnq];omega) (AY (dI (k:=1) (by decide)) (by decide))
 have hsu:=aQr (y.natAbs:Int) (rr:Int) (by rw[hny0];omega) (by rw[hnr];omega)
 have hn1:=qJ (qq:Int) (by rw[hnq];omega)
 have hn2:=qJ ((qq:Int)+1) (by
  have:((qq:Int)+1).natAbs=qq+1:=by omega
  rw[this]
  have:=aBu qq
  omega)
 have hsr:=oY (rr:Int)
 have hz:∀ z:Int,∃ s m,encZ z=.ag [.b s,aA m]:=fun z=>⟨_,_,rfl⟩
 obtain⟨sq,mq,eq⟩:=hz qq
 obtain⟨sr,mr,er⟩:=hz rr
 obtain⟨s1,m1,e1⟩:=hz 1
 obtain⟨sp,mp,ep⟩:=hz ((qq:Int)+1)
 obtain⟨sy,my,ey0⟩:=hz (y.natAbs:Int)
 obtain⟨sd,md,ed⟩:=hz ((y.natAbs:Int)-rr)
 obtain⟨sn,mn,en1⟩:=hz (-(qq:Int))
 obtain⟨sm,mm,en2⟩:=hz (-((qq:Int)+1))
 rw[eq,er]at hd
 rw[e1]at hof
 rw[eq,e1,ep]at had
 rw[ey0,er,ed]at hsu
 rw[eq,en1]at hn1
 rw[ep,en2]at hn2
 rw[er]at hsr
 rw[ey0]at hmy
 have hsg0:rr=0→(rr:Int).sign=0:=fun h=>by rw[h];rfl
 have hsg1:¬rr=0→(rr:Int).sign=1:=fun h=>Int.sign_eq_one_of_pos (by omega)
 rw[hQ,hR]at hf ⊢
 have ex:encZ x=.ag [.b (decide (x<0)),aA (aJ x.natAbs)]:=rfl
 have ey:encZ y=.ag [.b (decide (y<0)),aA (aJ y.natAbs)]:=rfl
 rw[ex]at hm1 ⊢
 rw[ey]at hm2 hs ⊢
 generalize aJ x.natAbs=a at *
 generalize aJ y.natAbs=b at *
 have hs1:(y.sign==0)=false:=by simpa using hs0
 simp[-ζ,-ξ,↓KW,↓aP,↓aQ,aO,aA]
 refine aD hm1 ?_
 simp[-ζ,-ξ,↓KW,↓aP,↓aQ,aO,aA]
 refine aD hm2 ?_
 simp[-ζ,-ξ,↓KW,↓aP,↓aQ,aO,aA]
 refine aZ (ds:=[.ag [.b (decide (y<0)),aA b]]) ?_ hs ?_
 ·simp[-ζ,-ξ,↓KW,↓aP,↓aQ,aO,aA,hs1]
 simp[-ζ,-ξ,↓KW,↓aP,↓aQ,aO,aA,hs1]
 refine aD hd ?_
 by_cases hnx:x<0<;>by_cases hny:y<0
 rw[B2 hnx,B2 hny]at *
 by_cases hr0:rr=0
 obtain⟨f1,f2⟩:=hf.2.2.2.2.2.1 hnx hr0 hny
 have e0:encZ 0=.ag [.b sr,aA mr]:=by rw[←er,hr0];rfl
 have hsg:=hsg0 hr0
 rw[f1,f2,eq,e0]
 simp[-ζ,-ξ,↓KW,↓aP,↓aQ,aO,aA]
 refine aZ (ds:=[.ag [.b sr,aA mr]]) ?_ hsr ?_
 ·simp[-ζ,-ξ,↓KW,↓aP,↓aQ,aO,aA,hsg]
 simp[-ζ,-ξ,↓KW,↓aP,↓aQ,aO,aA,hsg]
 rotate_left
 obtain⟨f1,f2⟩:=hf.2.2.2.2.2.2.2 hnx (by omega) hny
 have hsg:=hsg1 hr0
 rw[f1,f2,ep,ed]
 simp[-ζ,-ξ,↓KW,↓aP,↓aQ,aO,aA]
 refine aZ (ds:=[.ag [.b sr,aA mr]]) ?_ hsr ?_
 ·simp[-ζ,-ξ,↓KW,↓aP,↓aQ,aO,aA,hsg]
 simp[-ζ,-ξ,↓KW,↓aP,↓aQ,aO,aA,hsg]
 refine aD hof ?_
 simp[-ζ,-ξ,↓KW,↓aP,↓aQ,aO,aA]
 refine aZ (ds:=[.ag [.b sq,aA mq],.ag [.b s1,aA m1]]) ?_ had ?_
 ·simp[-ζ,-ξ,↓KW,↓aP,↓aQ,aO,aA]
 simp[-ζ,-ξ,↓KW,↓aP,↓aQ,aO,aA]
 refine aD hmy ?_
 simp[-ζ,-ξ,↓KW,↓aP,↓aQ,aO,aA]
 refine aZ (ds:=[.ag [.b sy,aA my],.ag [.b sr,aA mr]]) ?_ hsu ?_
 ·simp[-ζ,-ξ,↓KW,↓aP,↓aQ,aO,aA]
 simp[-ζ,-ξ,↓KW,↓aP,↓aQ,aO,aA]
 rotate_left
 rw[B2 hnx,By hny]at *
 by_cases hr0:rr=0
 obtain⟨f1,f2⟩:=hf.2.2.2.2.1 hnx hr0 hny
 have e0:encZ 0=.ag [.b sr,aA mr]:=by rw[←er,hr0];rfl
 have hsg:=hsg0 hr0
 rw[f1,f2,en1,e0]
 simp[-ζ,-ξ,↓KW,↓aP,↓aQ,aO,aA]
 refine aZ (ds:=[.ag [.b sr,aA mr]]) ?_ hsr ?_
 ·simp[-ζ,-ξ,↓KW,↓aP,↓aQ,aO,aA,hsg]
 simp[-ζ,-ξ,↓KW,↓aP,↓aQ,aO,aA,hsg]
 refine aZ (ds:=[.ag [.b sq,aA mq]]) ?_ hn1 ?_
 ·simp[-ζ,-ξ,↓KW,↓aP,↓aQ,aO,aA]
 simp[-ζ,-ξ,↓KW,↓aP,↓aQ,aO,aA]
 rotate_left
 obtain⟨f1,f2⟩:=hf.2.2.2.2.2.2.1 hnx (by omega) hny
 have hsg:=hsg1 hr0
 rw[f1,f2,en2,ed]
 simp[-ζ,-ξ,↓KW,↓aP,↓aQ,aO,aA]
 refine aZ (ds:=[.ag [.b sr,aA mr]]) ?_ hsr ?_
 ·simp[-ζ,-ξ,↓KW,↓aP,↓aQ,aO,aA,hsg]
 simp[-ζ,-ξ,↓KW,↓aP,↓aQ,aO,aA,hsg]
 refine aD hof ?_
 simp[-ζ,-ξ,↓KW,↓aP,↓aQ,aO,aA]
 refine aZ (ds:=[.ag [.b sq,aA mq],.ag [.b s1,aA m1]]) ?_ had ?_
 ·simp[-ζ,-ξ,↓KW,↓aP,↓aQ,aO,aA]
 simp[-ζ,-ξ,↓KW,↓aP,↓aQ,aO,aA]
 refine aD hmy ?_
 simp[-ζ,-ξ,↓KW,↓aP,↓aQ,aO,aA]
 refine aZ (ds:=[.ag [.b sy,aA my],.ag [.b sr,aA mr]]) ?_ hsu ?_
 ·simp[-ζ,-ξ,↓KW,↓aP,↓aQ,aO,aA]
 simp[-ζ,-ξ,↓KW,↓aP,↓aQ,aO,aA]
 refine aZ (ds:=[.ag [.b sp,aA mp]]) ?_ hn2 ?_
 ·simp[-ζ,-ξ,↓KW,↓aP,↓aQ,aO,aA]
 simp[-ζ,-ξ,↓KW,↓aP,↓aQ,aO,aA]
 rotate_left
 rw[By hnx,B2 hny]at *
 obtain⟨f1,f2⟩:=hf.2.2.2.1 hnx hny
 rw[f1,f2,en1,er]
 simp[-ζ,-ξ,↓KW,↓aP,↓aQ,aO,aA]
 refine aZ (ds:=[.ag [.b sq,aA mq]]) ?_ hn1 ?_
 ·simp[-ζ,-ξ,↓KW,↓aP,↓aQ,aO,aA]
 simp[-ζ,-ξ,↓KW,↓aP,↓aQ,aO,aA]
 rotate_left
 rw[By hnx,By hny]at *
 obtain⟨f1,f2⟩:=hf.2.2.1 hnx hny
 rw[f1,f2,eq,er]
 simp[-ζ,-ξ,↓KW,↓aP,↓aQ,aO,aA]
 rotate_left
 all_goals
  refine aFm 0 1 (by kernel_rfl) rfl rfl ?_ ?_
  ·simp[-ζ,-ξ,↓KW,↓aP,↓aQ,aO,aA]
   refine aFm 1 2 (by kernel_rfl) rfl rfl ?_ ?_
   ·simp[-ζ,-ξ,↓KW,↓aP,↓aQ,aO,aA]
    refine fL 2 (by kernel_rfl) rfl ?_
    simp[-ζ,-ξ,↓KW,↓aP,↓aQ,aO,aA]
    refine fL 3 (by kernel_rfl) rfl ?_
    simp[-ζ,-ξ,↓KW,↓aP,↓aQ,aO,aA]
    refine fL 4 (by kernel_rfl) rfl ?_
    simp[-ζ,-ξ,↓KW,↓aP,↓aQ,aO,aA]
    refine vG (by kernel_rfl) ?_
    simp[-ζ,-ξ,↓KW,↓aP,↓aQ,aO,aA,aNc]
   ·simp[-ζ,-ξ,↓KW,↓aP,↓aQ,aO,aA]
    refine fL 1 (by kernel_rfl) rfl ?_
    simp[-ζ,-ξ,↓KW,↓aP,↓aQ,aO,aA]
    refine fL 3 (by kernel_rfl) rfl ?_
    simp[-ζ,-ξ,↓KW,↓aP,↓aQ,aO,aA]
    refine fL 4 (by kernel_rfl) rfl ?_
    simp[-ζ,-ξ,↓KW,↓aP,↓aQ,aO,aA]
    refine vG (by kernel_rfl) ?_
    simp[-ζ,-ξ,↓KW,↓aP,↓aQ,aO,aA,aNc]
  ·simp[-ζ,-ξ,↓KW,↓aP,↓aQ,aO,aA]
   refine fL 0 (by kernel_rfl) rfl ?_
   simp[-ζ,-ξ,↓KW,↓aP,↓aQ,aO,aA]
   refine fL 2 (by kernel_rfl) rfl ?_
   simp[-ζ,-ξ,↓KW,↓aP,↓aQ,aO,aA]
   refine fL 3 (by kernel_rfl) rfl ?_
   simp[-ζ,-ξ,↓KW,↓aP,↓aQ,aO,aA]
   refine fL 4 (by kernel_rfl) rfl ?_
   simp[-ζ,-ξ,↓KW,↓aP,↓aQ,aO,aA]
   refine vG (by kernel_rfl) ?_
   simp[-ζ,-ξ,↓KW,↓aP,↓aQ,aO,aA,aNc]
def aXc:Nat:=4294967296^128
def SB(z:Int):Prop:=z.natAbs<aXc
theorem SB.len{z:Int}(h:SB z):(aJ z.natAbs).length≤128:=dI h
theorem SB.le{z:Int}{n:Nat}(h:SB z)(hn:128≤n):(aJ z.natAbs).length≤n:=AY h.len hn
theorem aMp{b:Int}(h:b≠0):(b.sign != 0)=true:=by
 rw[bne_iff_ne];exact fun h'=>h (Gg.1 h')
theorem bEm(a b:Int):Int.gcd b (a%b)=Int.gcd a b:=by
 rw[Int.gcd_comm b,Int.emod_def,Int.gcd_sub_mul_left_left]
set_option maxHeartbeats 4000000 in
set_option maxRecDepth 10000 in
theorem bBk[M:Mch Aa](x y:Int)(hx:SB x)(hy:SB y):Spec Aa 176 [encZ x,encZ y] (cX (Int.gcd x y)):=by
 refine aZl (N:=23) aT Tryz.func176 rfl rfl rfl (by kernel_rfl) (by simp) ?_
 refine rM (by kernel_rfl) ?_
 simp[-ζ,-ξ,↓KW,bB x,bB y,aR]
 refine aQi (aCd (aYj (τ:=Int×Int) (fun t=>SB t.1∧SB t.2∧Int.gcd t.1 t.2=Int.gcd x y) (fun t=>StL [(2,.ptr 1 0),(3,.ptr 2 0),(4,.ptr 3 0)] none [.cells 40 [.d (.b (decide (t.1<0))),.d (aA (aJ t.1.natAbs))],.cells 40 [.d (.b (decide (t.2<0))),.d (aA (aJ t.2.natAbs))],.cells 40 [.d (.b false),.nil]]) (fun t=>t.2.natAbs) (x,y) ⟨hx,hy,rfl⟩ ?_ ?_))
 ·refine wkQ [1,2,3] ?_ ?_<;>simp[-ζ,upd,aL,Γ0]
 ·rintro⟨a,b⟩ ⟨ha,hb,hg⟩
  simp only at ha hb hg
  have hSg:=oY b
  refine rM (by kernel_rfl) ?_
  by_cases h0:b=0
  ·subst h0
   have hMd:=dW (aJ a.natAbs) false (ha.le (by decide))
   rw[fI (bU _),cC]at hMd
   simp only[Bool.false_and]at hMd
   have hMd':Spec Aa 34 [aA (aJ a.natAbs),.b false] (cX a.natAbs):=hMd
   rw[Int.gcd_zero_right]at hg
   rw[←hg]
   generalize a.natAbs=n at *
   simp[-ζ,-ξ,↓KW]
   refine aD hSg ?_
   simp[-ζ,-ξ,↓KW]
   refine xG (by kernel_rfl) ?_
   simp[-ζ,-ξ,↓KW,aR]
   refine aD hMd' ?_
   simp[-ζ,-ξ,↓KW,bV n,aR]
  ·have hs:=aMp h0
   have hDm:=kJ a b h0 (ha.le (by decide)) (hb.le (by decide))
   have hr:SB (a%b):=by
    have h1:=De a h0
    have h2:=Int.emod_lt a h0
    unfold SB at *;omega
   have hlt:(a%b).natAbs<b.natAbs:=by
    have h1:=De a h0
    have h2:=Int.emod_lt a h0
    omega
   have hg2:=bEm a b
   generalize a%b=r at *
   generalize a/b=q at *
   generalize b.sign=s at *
   simp[-ζ,-ξ,↓KW,bB b,aR]
   refine aD hSg ?_
   simp[-ζ,-ξ,↓KW,hs,aR]
   refine aCd (rM (by kernel_rfl) ?_)
   simp[-ζ,-ξ,↓KW,aR]
   refine aD hDm ?_
   simp[-ζ,-ξ,↓KW,bB q,bB r,aR]
   refine bSj (by kernel_rfl) ?_
   refine aFm 0 1 (by kernel_rfl) rfl rfl ?_ ?_
   ·simp[-ζ,-ξ,↓KW,aO,aR]
    refine aFm 1 2 (by kernel_rfl) rfl rfl ?_ ?_
    ·simp[-ζ,-ξ,↓KW,aO,aR]
     refine fL 2 (by kernel_rfl) rfl ?_
     simp[-ζ,-ξ,↓KW,aO,aR]
     refine fL 3 (by kernel_rfl) rfl ?_
     simp[-ζ,-ξ,↓KW,aO,aR]
     refine vG (by kernel_rfl) ?_
     refine⟨b,r,⟨hb,hr,by rw[hg2];exact hg⟩,hlt,?_⟩
     refine wkQ [1,2,3] ?_ ?_<;>simp[-ζ,upd,aL,Γ0]
    ·simp[-ζ,-ξ,↓KW,aO,aR]
     refine fL 1 (by kernel_rfl) rfl ?_
     simp[-ζ,-ξ,↓KW,aO,aR]
     refine fL 3 (by kernel_rfl) rfl ?_
     simp[-ζ,-ξ,↓KW,aO,aR]
     refine vG (by kernel_rfl) ?_
     refine⟨b,r,⟨hb,hr,by rw[hg2];exact hg⟩,hlt,?_⟩
     refine wkQ [1,2,3] ?_ ?_<;>simp[-ζ,upd,aL,Γ0]
   ·simp[-ζ,-ξ,↓KW,aO,aR]
    refine fL 0 (by kernel_rfl) rfl ?_
    simp[-ζ,-ξ,↓KW,aO,aR]
    refine fL 2 (by kernel_rfl) rfl ?_
    simp[-ζ,-ξ,↓KW,aO,aR]
    refine fL 3 (by kernel_rfl) rfl ?_
    simp[-ζ,-ξ,↓KW,aO,aR]
    refine vG (by kernel_rfl) ?_
    refine⟨b,r,⟨hb,hr,by rw[hg2];exact hg⟩,hlt,?_⟩
    refine wkQ [1,2,3] ?_ ?_<;>simp[-ζ,upd,aL,Γ0]
end Go.Am
end
section
open List renaming map_map→ζ,mapM_map→ξ
namespace Go.Am
def fq(n d:Int):Rat:=if d<0 then mkRat (-n) (-d).toNat else mkRat n d.toNat
theorem bEx(n d:Int):fq n d=(n:Rat)/(d:Rat):=by
 unfold fq
 split
 ·rename_i h
  rw[Rat.mkRat_eq_div]
  have:(((-d).toNat:Nat):Rat)=-(d:Rat):=by
   rw[←Rat.intCast_neg,←CY,BN (by omega)]
  rw[this,Rat.intCast_neg]
  have h0:(d:Rat)≠0:=by
   intro h';have:=GF.1 h';omega
  grind
 ·rename_i h
  rw[Rat.mkRat_eq_div]
  have:((d.toNat:Nat):Rat)=(d:Rat):=by
   rw[←CY,BN (by omega)]
  rw[this]
theorem aFs{n:Int}{k:Nat}(h:k≠0):(mkRat n k).num=n/((n.natAbs.gcd k:Nat):Int)∧(mkRat n k).den=k/n.natAbs.gcd k:=by
 rw[Rat.mkRat_def,dif_neg h,Rat.normalize_eq]
 exact⟨rfl,rfl⟩
theorem aUl(a:Rat):a=(a.num:Rat)/(a.den:Rat):=by rw[←Rat.mkRat_eq_div,Rat.mkRat_self]
theorem aCp(a:Rat):(a.den:Rat)≠0:=by
 intro h
 have:=a.den_nz
 exact this (by exact_mod_cast h)
theorem bEv(a b:Rat):fq (a.num*b.num) ((a.den:Int)*(b.den:Int))=a*b:=by
 rw[bEx,Cy,Cy,CY,CY]
 have h1:=aCp a
 have h2:=aCp b
 have e1:=aUl a
 have e2:=aUl b
 generalize(a.den:Rat)=x at *
 generalize(b.den:Rat)=y at *
 generalize(a.num:Rat)=u at *
 generalize(b.num:Rat)=v at *
 subst e1;subst e2
 grind
theorem bEz(a b:Rat):fq (a.num*(b.den:Int)+b.num*(a.den:Int)) ((a.den:Int)*(b.den:Int))=a+b:=by
 rw[bEx,Cy,Rat.intCast_add,Cy,Cy,CY,CY]
 have h1:=aCp a
 have h2:=aCp b
 have e1:=aUl a
 have e2:=aUl b
 generalize(a.den:Rat)=x at *
 generalize(b.den:Rat)=y at *
 generalize(a.num:Rat)=u at *
 generalize(b.num:Rat)=v at *
 subst e1;subst e2
 grind
theorem bEy(a b:Rat)(hb:b≠0):fq (a.num*(b.den:Int)) ((a.den:Int)*b.num)=a/b:=by
 rw[bEx,Cy,Cy,CY,CY]
 have h1:=aCp a
 have h2:=aCp b
 have e1:=aUl a
 have e2:=aUl b
 have h3:(b.num:Rat)≠0:=by
  intro h;rw[h]at e2;apply hb;rw[e2];grind
 generalize(a.den:Rat)=x at *
 generalize(b.den:Rat)=y at *
 generalize(a.num:Rat)=u at *
 generalize(b.num:Rat)=v at *
 subst e1;subst e2
 grind
theorem bEw{n d:Int}(hd:d≠0):(fq n d).num.natAbs≤n.natAbs∧(fq n d).den≤d.natAbs:=by
 unfold fq
 split
 ·obtain⟨h1,h2⟩:=aFs (n:=-n) (k:=(-d).toNat) (by omega)
  rw[h1,h2]
  refine⟨AY (Gh _ _) (by omega),AY (EG ..) (by omega)⟩
 ·obtain⟨h1,h2⟩:=aFs (n:=n) (k:=d.toNat) (by omega)
  rw[h1,h2]
  refine⟨AY (Gh _ _) (by omega),AY (EG ..) (by omega)⟩
def QB(B:Nat)(q:Rat):Prop:=q.num.natAbs≤B∧q.den≤B
theorem QB.mono{B C:Nat}{q:Rat}(h:QB B q)(hc:B≤C):QB C q:=⟨AY h.1 hc,AY h.2 hc⟩
theorem bPf(q:Rat):(q.den:Int)≠0:=by have:=q.den_nz;omega
theorem bNc(a b:Rat):(a.den:Int)*(b.den:Int)≠0:=Int.mul_ne_zero (bPf a) (bPf b)
theorem QB.mul{B C:Nat}{a b:Rat}(ha:QB B a)(hb:QB C b):QB (B*C) (a*b):=by
 obtain⟨h1,h2⟩:=bEw (n:=a.num*b.num) (bNc a b)
 rw[bEv]at h1 h2
 rw[D2]at h1 h2
 exact⟨AY h1 (A3 ha.1 hb.1),AY h2 (A3 ha.2 hb.2)⟩
theorem QB.add{B C:Nat}{a b:Rat}(ha:QB B a)(hb:QB C b):QB (2*(B*C)) (a+b):=by
 obtain⟨h1,h2⟩:=bEw (n:=a.num*(b.den:Int)+b.num*(a.den:Int)) (bNc a b)
 rw[bEz]at h1 h2
 rw[D2]at h2
 have h3:=A3 ha.1 hb.2
 have h4:=A3 hb.1 ha.2
 have h5:=A3 ha.2 hb.2
 have h6:(a.num*(b.den:Int)+b.num*(a.den:Int)).natAbs≤a.num.natAbs*b.den+b.num.natAbs*a.den:=by
  refine AY (Int.natAbs_add_le _ _) ?_
  rw[D2,D2];simp
 rw[BJ C B]at h4
 simp only[Ci]at h2
 exact⟨by omega,by omega⟩
theorem QB.neg{B:Nat}{a:Rat}(ha:QB B a):QB B (-a):=by
 unfold QB;rw[Rat.neg_num,Rat.neg_den,Fh];exact ha
theorem QB.sub{B C:Nat}{a b:Rat}(ha:QB B a)(hb:QB C b):QB (2*(B*C)) (a-b):=by
 rw[Rat.sub_eq_add_neg];exact ha.add hb.neg
theorem QB.div{B C:Nat}{a b:Rat}(ha:QB B a)(hb:QB C b)(h0:b≠0):QB (B*C) (a/b):=by
 obtain⟨h1,h2⟩:=bEw (n:=a.num*(b.den:Int)) (d:=(a.den:Int)*b.num) (Int.mul_ne_zero (bPf a) (fun h=>h0 (Rat.num_eq_zero.1 h)))
 rw[bEy a b h0]at h1 h2
 rw[D2]at h1 h2
 simp only[Ci]at h1 h2
 exact⟨AY h1 (A3 ha.1 hb.2),AY h2 (A3 ha.2 hb.1)⟩
theorem QB.int{B:Nat}{z:Int}(h:z.natAbs≤B)(h1:1≤B):QB B (z:Rat):=⟨by rw[Rat.num_intCast];exact h,by rw[Rat.den_intCast];exact h1⟩
def fR{α:Type}[_root_.Add α][_root_.Sub α][_root_.Mul α](x:Nat→Nat→α):α :=
 x 0 0*(x 1 1*(x 2 2*x 3 3-x 2 3*x 3 2)-x 1 2*(x 2 1*x 3 3-x 2 3*x 3 1)+x 1 3*(x 2 1*x 3 2-x 2 2*x 3 1))
 - x 0 1*(x 1 0*(x 2 2*x 3 3-x 2 3*x 3 2)-x 1 2*(x 2 0*x 3 3-x 2 3*x 3 0)+x 1 3*(x 2 0*x 3 2-x 2 2*x 3 0))
 + x 0 2*(x 1 0*(x 2 1*x 3 3-x 2 3*x 3 1)-x 1 1*(x 2 0*x 3 3-x 2 3*x 3 0)+x 1 3*(x 2 0*x 3 1-x 2 1*x 3 0))
 - x 0 3*(x 1 0*(x 2 1*x 3 2-x 2 2*x 3 1)-x 1 1*(x 2 0*x 3 2-x 2 2*x 3 0)+x 1 2*(x 2 0*x 3 1-x 2 1*x 3 0))
theorem jK(x:Nat→Nat→Int):fR (fun i j=>((x i j:Int):Rat))=((fR x:Int):Rat):=by
 simp only[fR,Cy,Rat.intCast_sub,Rat.intCast_add]
def swp(k a i:Nat):Nat:=if i=k then a else if i=a then k else i
theorem aDp(x:Nat→Nat→Rat){k a:Nat}(h:k<a)(ha:a≤3):fR (fun i j=>x (swp k a i) j)=- fR x:=by
 have:(k=0∧a=1)∨(k=0∧a=2)∨(k=0∧a=3)∨(k=1∧a=2)∨(k=1∧a=3)∨(k=2∧a=3):=by omega
 rcases this with ⟨rfl,rfl⟩|⟨rfl,rfl⟩|⟨rfl,rfl⟩|⟨rfl,rfl⟩|⟨rfl,rfl⟩|⟨rfl,rfl⟩<;>(simp[fR,swp];grind)
theorem aKm(x:Nat→Nat→Rat)(c:Rat){k a:Nat}(h:k<a)(ha:a≤3):fR (fun i j=>if i=a then x a j-c*x k j else x i j)=fR x:=by
 have:(k=0∧a=1)∨(k=0∧a=2)∨(k=0∧a=3)∨(k=1∧a=2)∨(k=1∧a=3)∨(k=2∧a=3):=by omega
 rcases this with ⟨rfl,rfl⟩|⟨rfl,rfl⟩|⟨rfl,rfl⟩|⟨rfl,rfl⟩|⟨rfl,rfl⟩|⟨rfl,rfl⟩<;>(simp[fR];grind)
theorem aKl(x:Nat→Nat→Rat)(h:∀ i j,j<i→i≤3→x i j=0):fR x=x 0 0*x 1 1*x 2 2*x 3 3:=by
 have h10:=h 1 0 (by decide) (by decide)
 have h20:=h 2 0 (by decide) (by decide)
 have h30:=h 3 0 (by decide) (by decide)
 have h21:=h 2 1 (by decide) (by decide)
 have h31:=h 3 1 (by decide) (by decide)
 have h32:=h 3 2 (by decide) (by decide)
 simp only[fR,h10,h20,h30,h21,h31,h32]
 grind
theorem aDo(x:Nat→Nat→Rat){k:Nat}(hk:k≤3)(h:∀ i j,j<i→j<k→i≤3→x i j=0)(h0:∀ i,k≤i→i≤3→x i k=0):fR x=0:=by
 have:k=0∨k=1∨k=2∨k=3:=by omega
 rcases this with rfl|rfl|rfl|rfl
 ·simp only[fR,h0 0 (by decide) (by decide),h0 1 (by decide) (by decide),h0 2 (by decide) (by decide),h0 3 (by decide) (by decide)];grind
 ·simp only[fR,h 1 0 (by decide) (by decide) (by decide),h 2 0 (by decide) (by decide) (by decide),h 3 0 (by decide) (by decide) (by decide),h0 1 (by decide) (by decide),h0 2 (by decide) (by decide),h0 3 (by decide) (by decide)];grind
 ·simp only[fR,h 1 0 (by decide) (by decide) (by decide),h 2 0 (by decide) (by decide) (by decide),h 3 0 (by decide) (by decide) (by decide),h 2 1 (by decide) (by decide) (by decide),h 3 1 (by decide) (by decide) (by decide),h0 2 (by decide) (by decide),h0 3 (by decide) (by decide)];grind
 ·simp only[fR,h 1 0 (by decide) (by decide) (by decide),h 2 0 (by decide) (by decide) (by decide),h 3 0 (by decide) (by decide) (by decide),h 2 1 (by decide) (by decide) (by decide),h 3 1 (by decide) (by decide) (by decide),h 3 2 (by decide) (by decide) (by decide),h0 3 (by decide) (by decide)];grind
theorem bSh(a b c d e f g h:Int):(a*f-b*e)^2+(a*g-c*e)^2+(a*h-d*e)^2+(b*g-c*f)^2+(b*h-d*f)^2+(c*h-d*g)^2≤(a^2+b^2+c^2+d^2)*(e^2+f^2+g^2+h^2):=by
 have h1:(a*f-b*e)^2+(a*g-c*e)^2+(a*h-d*e)^2+(b*g-c*f)^2+(b*h-d*f)^2+(c*h-d*g)^2+(a*e+b*f+c*g+d*h)^2=(a^2+b^2+c^2+d^2)*(e^2+f^2+g^2+h^2):=by grind
 have h2:0≤(a*e+b*f+c*g+d*h)^2:=B5 _
 omega
theorem bSg(p q r s t u a b c d:Int):(p*c-q*b+s*a)^2+(p*d-r*b+t*a)^2+(q*d-r*c+u*a)^2+(s*d-t*c+u*b)^2≤(p^2+q^2+r^2+s^2+t^2+u^2)*(a^2+b^2+c^2+d^2):=by
 have h1:(p*c-q*b+s*a)^2+(p*d-r*b+t*a)^2+(q*d-r*c+u*a)^2+(s*d-t*c+u*b)^2+((p*b+q*c+r*d)^2+(-p*a+s*c+t*d)^2+(-q*a-s*b+u*d)^2+(-r*a-t*b-u*c)^2)=(p^2+q^2+r^2+s^2+t^2+u^2)*(a^2+b^2+c^2+d^2):=by grind
 have h2:0≤(p*b+q*c+r*d)^2:=B5 _
 have h3:0≤(-p*a+s*c+t*d)^2:=B5 _
 have h4:0≤(-q*a-s*b+u*d)^2:=B5 _
 have h5:0≤(-r*a-t*b-u*c)^2:=B5 _
 omega
theorem bSf(p q r s a b c d:Int):(p*d-q*c+r*b-s*a)^2≤(p^2+q^2+r^2+s^2)*(a^2+b^2+c^2+d^2):=by
 have h1:(p*d-q*c+r*b-s*a)^2+((p*c+q*d)^2+(p*b-r*d)^2+(p*a+s*d)^2+(q*b+r*c)^2+(q*a-s*c)^2+(r*a+s*b)^2)=(p^2+q^2+r^2+s^2)*(a^2+b^2+c^2+d^2):=by grind
 have h2:0≤(p*c+q*d)^2:=B5 _
 have h3:0≤(p*b-r*d)^2:=B5 _
 have h4:0≤(p*a+s*d)^2:=B5 _
 have h5:0≤(q*b+r*c)^2:=B5 _
 have h6:0≤(q*a-s*c)^2:=B5 _
 have h7:0≤(r*a+s*b)^2:=B5 _
 omega
set_option maxRecDepth 10000 in
theorem cAg(x:Nat→Nat→Int):(fR x)^2≤(x 0 0^2+x 0 1^2+x 0 2^2+x 0 3^2)*(x 1 0^2+x 1 1^2+x 1 2^2+x 1 3^2)*(x 2 0^2+x 2 1^2+x 2 2^2+x 2 3^2)*(x 3 0^2+x 3 1^2+x 3 2^2+x 3 3^2):=by
 have h1:=bSh (x 0 0) (x 0 1) (x 0 2) (x 0 3) (x 1 0) (x 1 1) (x 1 2) (x 1 3)
 have h2:=bSg (x 0 0*x 1 1-x 0 1*x 1 0) (x 0 0*x 1 2-x 0 2*x 1 0) (x 0 0*x 1 3-x 0 3*x 1 0) (x 0 1*x 1 2-x 0 2*x 1 1) (x 0 1*x 1 3-x 0 3*x 1 1) (x 0 2*x 1 3-x 0 3*x 1 2) (x 2 0) (x 2 1) (x 2 2) (x 2 3)
 generalize hp:x 0 0*x 1 1-x 0 1*x 1 0=p at *
 generalize hq:x 0 0*x 1 2-x 0 2*x 1 0=q at *
 generalize hr:x 0 0*x 1 3-x 0 3*x 1 0=r at *
 generalize hs:x 0 1*x 1 2-x 0 2*x 1 1=s at *
 generalize ht:x 0 1*x 1 3-x 0 3*x 1 1=t at *
 generalize hu:x 0 2*x 1 3-x 0 3*x 1 2=u at *
 have h3:=bSf (p*x 2 2-q*x 2 1+s*x 2 0) (p*x 2 3-r*x 2 1+t*x 2 0) (q*x 2 3-r*x 2 2+u*x 2 0) (s*x 2 3-t*x 2 2+u*x 2 1) (x 3 0) (x 3 1) (x 3 2) (x 3 3)
 have hd:fR x=(p*x 2 2-q*x 2 1+s*x 2 0)*x 3 3-(p*x 2 3-r*x 2 1+t*x 2 0)*x 3 2+(q*x 2 3-r*x 2 2+u*x 2 0)*x 3 1-(s*x 2 3-t*x 2 2+u*x 2 1)*x 3 0:=by
  subst hp hq hr hs ht hu
  unfold fR
  grind
 rw[hd]
 have n2:0≤x 2 0^2+x 2 1^2+x 2 2^2+x 2 3^2:=by
  have a:=B5 (x 2 0);have b:=B5 (x 2 1);have c:=B5 (x 2 2);have d:=B5 (x 2 3);omega
 have n3:0≤x 3 0^2+x 3 1^2+x 3 2^2+x 3 3^2:=by
  have a:=B5 (x 3 0);have b:=B5 (x 3 1);have c:=B5 (x 3 2);have d:=B5 (x 3 3);omega
 refine Int.le_trans h3 (FB ?_ n3)
 exact Int.le_trans h2 (FB h1 n2)
end Go.Am
end
section
open List renaming map_map→ζ,mapM_map→ξ
open Go Go.Am Go.Proofs
namespace Go.Am
def dC(q:Rat):D:=.ag [.b (decide (q.num<0)),aA (aJ q.num.natAbs),.b false,aA (aJ q.den)]
theorem cH(q:Rat):dC q=.ag [.b (decide (q.num<0)),aA (aJ q.num.natAbs),.b false,aA (aJ q.den)]:=rfl
theorem aMv{n:Nat}(h:n<aXc):SB (n:Int):=by unfold SB;rw[Ci];exact h
set_option maxHeartbeats 8000000 in
set_option maxRecDepth 10000 in
theorem bQz[M:Mch Aa](n d:Int)(hd:d≠0)(hn:SB n)(hdb:SB d):Spec Aa 160 [encZ n,encZ d] (.tp [dC (fq n d),.i .i64 0]):=by
 have hSg:=oY d
 have hse:(d.sign==0)=false:=by
  have:=aMp hd
  rw[bne,C2]at this;exact this
 by_cases h0:d<0
 ·have hs1:d.sign<0:=(nC d).symm ▸ (by rw[Ap h0];decide)
  have hN1:=qJ n (hn.le (by decide))
  have hN2:=qJ d (hdb.le (by decide))
  have hn':SB (-n):=by unfold SB at *;rwa [Fh]
  have hd':SB (-d):=by unfold SB at *;rwa [Fh]
  have hG:=bBk (-n) (-d) hn' hd'
  obtain⟨g,hg⟩:∃ g,Int.gcd (-n) (-d)=g:=⟨_,rfl⟩
  have hg0:(g:Int)≠0:=by
   rw[←hg];intro h
   have h2:Int.gcd (-n) (-d)=0:=by omega
   rw[Int.gcd_eq_zero_iff]at h2;omega
  have hgb:SB (g:Int):=by
   refine aMv ?_
   have h1:=Int.gcd_dvd_right (-n) (-d)
   rw[hg]at h1
   have h2:=Int.le_of_dvd (by omega) h1
   unfold SB at hd';omega
  have hD1:=kJ (-n) g hg0 (hn'.le (by decide)) (hgb.le (by decide))
  have hD2:=kJ (-d) g hg0 (hd'.le (by decide)) (hgb.le (by decide))
  obtain⟨q1,q2⟩:=aFs (n:=-n) (k:=(-d).toNat) (by omega)
  have hgg:(-n).natAbs.gcd (-d).toNat=g:=by rw[←hg];show _=(-n).natAbs.gcd (-d).natAbs;congr 1;omega
  rw[hgg]at q1 q2
  have hR:dC (fq n d)=.ag [.b (decide ((-n)/(g:Int)<0)),aA (aJ ((-n)/(g:Int)).natAbs),.b (decide ((-d)/(g:Int)<0)),aA (aJ ((-d)/(g:Int)).natAbs)]:=by
   have e1:fq n d=mkRat (-n) (-d).toNat:=by unfold fq;rw[Ap h0]
   have e2:(((-d).toNat/g:Nat):Int)=(-d)/(g:Int):=by rw[EY,BN (by omega)]
   have e3:¬(-d)/(g:Int)<0:=by rw[←e2];omega
   have e4:((-d)/(g:Int)).natAbs=(-d).toNat/g:=by rw[←e2,Ci]
   unfold dC
   rw[e1,q1,q2,By e3,e4]
  rw[hR]
  rw[hg]at hG
  rw[←iW]at hG
  generalize(-n)/(g:Int)=u1 at *
  generalize(-n)%(g:Int)=u2 at *
  generalize(-d)/(g:Int)=u3 at *
  generalize(-d)%(g:Int)=u4 at *
  generalize d.sign=s at *
  generalize -n=n1 at *
  generalize -d=d1 at *
  refine bD (N:=44) Tryz.func160 ?_
  simp[-ζ,-ξ,↓KW,bB n,bB d,aR]
  refine aD hSg ?_
  simp[-ζ,-ξ,↓KW,hse,aR]
  refine aD hSg ?_
  simp[-ζ,-ξ,↓KW,hs1,aR]
  refine aD hN1 ?_
  simp[-ζ,-ξ,↓KW,bB n1,aR]
  refine aD hN2 ?_
  simp[-ζ,-ξ,↓KW,bB d1,aR]
  refine aD hG ?_
  simp[-ζ,-ξ,↓KW,bB (g:Int),aR]
  refine aD hD1 ?_
  simp[-ζ,-ξ,↓KW,bB u1,bB u2,aR]
  refine aD hD2 ?_
  simp[-ζ,-ξ,↓KW,bB u3,bB u4,aR,eJ]
 ·have hs1:¬d.sign<0:=by
   rw[nC,Ah h0];split<;>decide
  have hG:=bBk n d hn hdb
  obtain⟨g,hg⟩:∃ g,Int.gcd n d=g:=⟨_,rfl⟩
  have hg0:(g:Int)≠0:=by
   rw[←hg];intro h
   have h2:Int.gcd n d=0:=by omega
   rw[Int.gcd_eq_zero_iff]at h2;omega
  have hgb:SB (g:Int):=by
   refine aMv ?_
   have h1:=Int.gcd_dvd_right n d
   rw[hg]at h1
   have h2:=Int.le_of_dvd (by omega) h1
   unfold SB at hdb;omega
  have hD1:=kJ n g hg0 (hn.le (by decide)) (hgb.le (by decide))
  have hD2:=kJ d g hg0 (hdb.le (by decide)) (hgb.le (by decide))
  obtain⟨q1,q2⟩:=aFs (n:=n) (k:=d.toNat) (by omega)
  have hgg:n.natAbs.gcd d.toNat=g:=by rw[←hg];show _=n.natAbs.gcd d.natAbs;congr 1;omega
  rw[hgg]at q1 q2
  have hR:dC (fq n d)=.ag [.b (decide (n/(g:Int)<0)),aA (aJ (n/(g:Int)).natAbs),.b (decide (d/(g:Int)<0)),aA (aJ (d/(g:Int)).natAbs)]:=by
   have e1:fq n d=mkRat n d.toNat:=by unfold fq;rw[Ah h0]
   have e2:((d.toNat/g:Nat):Int)=d/(g:Int):=by rw[EY,BN (by omega)]
   have e3:¬d/(g:Int)<0:=by rw[←e2];omega
   have e4:(d/(g:Int)).natAbs=d.toNat/g:=by rw[←e2,Ci]
   unfold dC
   rw[e1,q1,q2,By e3,e4]
  rw[hR]
  rw[hg]at hG
  rw[←iW]at hG
  generalize n/(g:Int)=u1 at *
  generalize n%(g:Int)=u2 at *
  generalize d/(g:Int)=u3 at *
  generalize d%(g:Int)=u4 at *
  generalize d.sign=s at *
  refine bD (N:=44) Tryz.func160 ?_
  simp[-ζ,-ξ,↓KW,bB n,bB d,aR]
  refine aD hSg ?_
  simp[-ζ,-ξ,↓KW,hse,aR]
  refine aD hSg ?_
  simp[-ζ,-ξ,↓KW,hs1,aR]
  refine aD hG ?_
  simp[-ζ,-ξ,↓KW,bB (g:Int),aR]
  refine aD hD1 ?_
  simp[-ζ,-ξ,↓KW,bB u1,bB u2,aR]
  refine aD hD2 ?_
  simp[-ζ,-ξ,↓KW,bB u3,bB u4,aR,eJ]
def b1k:Nat:=4294967296^32
theorem bHe:2*(b1k*b1k)<aXc:=by unfold b1k aXc;decide
theorem bHf:b1k<aXc:=by unfold b1k aXc;decide
def QS(q:Rat):Prop:=QB b1k q
theorem QS.num{q:Rat}(h:QS q):SB q.num:=BG h.1 bHf
theorem QS.den{q:Rat}(h:QS q):SB (q.den:Int):=aMv (BG h.2 bHf)
theorem rP{x y:Int}(hx:x.natAbs≤b1k)(hy:y.natAbs≤b1k):SB (x*y):=by
 have:=A3 hx hy
 have h2:=bHe
 unfold SB;rw[D2];omega
theorem bTc{x y u v:Int}(hx:x.natAbs≤b1k)(hy:y.natAbs≤b1k)(hu:u.natAbs≤b1k)(hv:v.natAbs≤b1k):SB (x*y+u*v):=by
 have h1:=A3 hx hy
 have h2:=A3 hu hv
 have h3:=bHe
 have h4:=Int.natAbs_add_le (x*y) (u*v)
 rw[D2,D2]at h4
 unfold SB;omega
theorem QS.n{q:Rat}(h:QS q):q.num.natAbs≤b1k:=h.1
theorem QS.d{q:Rat}(h:QS q):(q.den:Int).natAbs≤b1k:=by rw[Ci];exact h.2
theorem qS(q:Rat):dC q=.ag [.b (decide (q.num<0)),aA (aJ q.num.natAbs),.b (decide ((q.den:Int)<0)),aA (aJ (q.den:Int).natAbs)]:=by
 rw[dC,Ci,By (show ¬(q.den:Int)<0 by omega)]
set_option maxHeartbeats 4000000 in
set_option maxRecDepth 10000 in
theorem bQy[M:Mch Aa](n d:Int)(hd:d≠0)(hn:SB n)(hdb:SB d):Spec Aa 121 [encZ n,encZ d] (dC (fq n d)):=by
 have hO:=bQz n d hd hn hdb
 generalize fq n d=q at *
 refine bD (N:=14) Tryz.func121 ?_
 simp[-ζ,-ξ,↓KW,bB n,bB d,aR]
 refine aD hO ?_
 simp[-ζ,-ξ,↓KW,cH q,aR]
set_option maxHeartbeats 4000000 in
set_option maxRecDepth 10000 in
theorem bBh[M:Mch Aa](q:Rat)(hq:QS q):Spec Aa 78 [dC q] (dC (-q)):=by
 have hN:=qJ q.num (hq.num.le (by decide))
 have hR:dC (-q)=.ag [.b (decide (-q.num<0)),aA (aJ (-q.num).natAbs),.b false,aA (aJ q.den)]:=by unfold dC;rw[Rat.neg_num,Rat.neg_den]
 rw[hR]
 generalize -q.num=u at *
 refine bD (N:=9) Tryz.func78 ?_
 simp[-ζ,-ξ,↓KW,cH q,aR]
 refine aD hN ?_
 simp[-ζ,-ξ,↓KW,bB u,aR]
set_option maxHeartbeats 4000000 in
set_option maxRecDepth 10000 in
theorem bLu[M:Mch Aa](q:Rat):Spec Aa 77 [dC q] (.i .i64 q.num.sign):=by
 have hS:=oY q.num
 generalize q.num.sign=s at *
 refine bD (N:=6) Tryz.func77 ?_
 simp[-ζ,-ξ,↓KW,cH q,aR]
 refine aD hS ?_
 simp[-ζ,-ξ,↓KW]
set_option maxHeartbeats 4000000 in
set_option maxRecDepth 10000 in
theorem aIg[M:Mch Aa](z:Int):Spec Aa 120 [encZ z] (dC (z:Rat)):=by
 have hO:=bBj (x:=1) (by omega)
 have hR:dC (z:Rat)=.ag [.b (decide (z<0)),aA (aJ z.natAbs),.b false,aA (aJ 1)]:=by unfold dC;rw[Rat.num_intCast,Rat.den_intCast]
 rw[hR]
 refine bD (N:=6) Tryz.func120 ?_
 simp[-ζ,-ξ,↓KW,bB z,aR]
 refine aD hO ?_
 simp[-ζ,-ξ,↓KW,bV 1,aR]
set_option maxHeartbeats 4000000 in
set_option maxRecDepth 10000 in
theorem bTm[M:Mch Aa]:Spec Aa 75 [.i .i64 1] (dC 1):=by
 have hO:=aIk 1 (by decide) (by decide)
 have hW:=aIg 1
 rw[show((1:Int):Rat)=1 from rfl]at hW
 refine bD (N:=6) Tryz.func75 ?_
 simp[-ζ,-ξ,↓KW]
 refine aD hO ?_
 simp[-ζ,-ξ,↓KW,bB 1,aR]
 refine aD hW ?_
 simp[-ζ,-ξ,↓KW,cH 1,aR]
set_option maxHeartbeats 4000000 in
set_option maxRecDepth 10000 in
theorem bBi[M:Mch Aa](a b:Rat)(ha:QS a)(hb:QS b):Spec Aa 79 [dC a,dC b] (dC (a*b)):=by
 have h1:=lP a.num b.num (ha.num.le (by decide)) (hb.num.le (by decide))
 have h2:=lP (a.den:Int) (b.den:Int) (ha.den.le (by decide)) (hb.den.le (by decide))
 have h3:=bQy (a.num*b.num) ((a.den:Int)*(b.den:Int)) (bNc a b) (rP ha.n hb.n) (rP ha.d hb.d)
 rw[bEv]at h3
 generalize a*b=q at *
 generalize a.num*b.num=x at *
 generalize(a.den:Int)*(b.den:Int)=y at *
 refine bD (N:=16) Tryz.func79 ?_
 simp[-ζ,-ξ,↓KW,qS a,qS b,aR]
 refine aD h1 ?_
 simp[-ζ,-ξ,↓KW,bB x,aR]
 refine aD h2 ?_
 simp[-ζ,-ξ,↓KW,bB y,aR]
 refine aD h3 ?_
 simp[-ζ,-ξ,↓KW,cH q,aR]
set_option maxHeartbeats 4000000 in
set_option maxRecDepth 10000 in
theorem bTo[M:Mch Aa](a b:Rat)(ha:QS a)(hb:QS b):Spec Aa 161 [dC a,dC b] (dC (a+b)):=by
 have h1:=lP a.num (b.den:Int) (ha.num.le (by decide)) (hb.den.le (by decide))
 have h2:=lP b.num (a.den:Int) (hb.num.le (by decide)) (ha.den.le (by decide))
 have h3:=xM (a.num*(b.den:Int)) (b.num*(a.den:Int)) ((rP ha.n hb.d).le (by decide)) ((rP hb.n ha.d).le (by decide))
 have h4:=lP (a.den:Int) (b.den:Int) (ha.den.le (by decide)) (hb.den.le (by decide))
 have h5:=bQy (a.num*(b.den:Int)+b.num*(a.den:Int)) ((a.den:Int)*(b.den:Int)) (bNc a b) (bTc ha.n hb.d hb.n ha.d) (rP ha.d hb.d)
 rw[bEz]at h5
 generalize a+b=q at *
 generalize a.num*(b.den:Int)+b.num*(a.den:Int)=w at *
 generalize a.num*(b.den:Int)=x at *
 generalize b.num*(a.den:Int)=u at *
 generalize(a.den:Int)*(b.den:Int)=y at *
 refine bD (N:=24) Tryz.func161 ?_
 simp[-ζ,-ξ,↓KW,qS a,qS b,aR]
 refine aD h1 ?_
 simp[-ζ,-ξ,↓KW,bB x,aR]
 refine aD h2 ?_
 simp[-ζ,-ξ,↓KW,bB u,aR]
 refine aD h3 ?_
 simp[-ζ,-ξ,↓KW,bB w,aR]
 refine aD h4 ?_
 simp[-ζ,-ξ,↓KW,bB y,aR]
 refine aD h5 ?_
 simp[-ζ,-ξ,↓KW,cH q,aR]
set_option maxHeartbeats 4000000 in
set_option maxRecDepth 10000 in
theorem bTl[M:Mch Aa](a b:Rat)(ha:QS a)(hb:QS b):Spec Aa 123 [dC a,dC b] (dC (a-b)):=by
 have h1:=bBh b hb
 have h2:=bTo a (-b) ha hb.neg
 rw[←Rat.sub_eq_add_neg]at h2
 generalize a-b=q at *
 generalize -b=c at *
 refine bD (N:=9) Tryz.func123 ?_
 simp[-ζ,-ξ,↓KW,cH a,cH b,aR]
 refine aD h1 ?_
 simp[-ζ,-ξ,↓KW,cH c,aR]
 refine aD h2 ?_
 simp[-ζ,-ξ,↓KW,cH q,aR]
set_option maxHeartbeats 4000000 in
set_option maxRecDepth 10000 in
theorem bTn[M:Mch Aa](a b:Rat)(h0:b≠0)(ha:QS a)(hb:QS b):Spec Aa 124 [dC a,dC b] (.tp [dC (a/b),.i .i64 0]):=by
 have h1:=lP a.num (b.den:Int) (ha.num.le (by decide)) (hb.den.le (by decide))
 have h2:=lP (a.den:Int) b.num (ha.den.le (by decide)) (hb.num.le (by decide))
 have h3:=bQz (a.num*(b.den:Int)) ((a.den:Int)*b.num) (Int.mul_ne_zero (bPf a) (fun h=>h0 (Rat.num_eq_zero.1 h))) (rP ha.n hb.d) (rP ha.d hb.n)
 rw[bEy a b h0]at h3
 generalize a/b=q at *
 generalize a.num*(b.den:Int)=x at *
 generalize(a.den:Int)*b.num=y at *
 refine bD (N:=19) Tryz.func124 ?_
 simp[-ζ,-ξ,↓KW,qS a,qS b,aR]
 refine aD h1 ?_
 simp[-ζ,-ξ,↓KW,bB x,aR]
 refine aD h2 ?_
 simp[-ζ,-ξ,↓KW,bB y,aR]
 refine aD h3 ?_
 simp[-ζ,-ξ,↓KW,cH q,aR,eJ]
set_option maxHeartbeats 4000000 in
set_option maxRecDepth 10000 in
theorem bLv[M:Mch Aa](a b:Rat)(h0:b≠0)(ha:QS a)(hb:QS b):Spec Aa 81 [dC a,dC b] (dC (a/b)):=by
 have h1:=bTn a b h0 ha hb
 generalize a/b=q at *
 refine bD (N:=14) Tryz.func81 ?_
 simp[-ζ,-ξ,↓KW,cH a,cH b,aR]
 refine aD h1 ?_
 simp[-ζ,-ξ,↓KW,cH q,aR]
end Go.Am
end
section
open List renaming map_map→ζ,mapM_map→ξ
namespace Go.Am
def PrN(n:Nat):Prop:=2≤n∧∀ d,2≤d→d*d≤n→n%d≠0
theorem PrN.dvd{p d:Nat}(hp:PrN p)(hd:d ∣ p):d=1∨d=p:=by
 obtain⟨e,he⟩:=hd
 have hp2:=hp.1
 rcases Az d 2 with h1|h1
 ·left
  rcases Bb d with h0|h0
  ·subst h0;simp at he;omega
  ·omega
 rcases Az e 2 with h2|h2
 ·right
  rcases Bb e with h0|h0
  ·subst h0;simp at he;omega
  ·have:e=1:=by omega
   subst this;omega
 exfalso
 rcases Nat.le_total d e with h|h
 ·exact hp.2 d h1 (by rw[he];exact Cn d h) (by rw[he];exact Nat.mul_mod_right d e)
 ·exact hp.2 e h2 (by rw[he];exact Nat.mul_le_mul_right e h) (by rw[he];exact Nat.mul_mod_left d e)
theorem PrN.cop{p a:Nat}(hp:PrN p)(ha:a%p≠0):Gp p a:=by
 rcases hp.dvd (Nat.gcd_dvd_left p a)with h|h
 ·exact h
 ·exact absurd (Nat.mod_eq_zero_of_dvd (h ▸ Nat.gcd_dvd_right p a)) ha
theorem PrN.two{p q:Nat}(hp:PrN p)(hq:PrN q)(h:p≠q):Gp p q:=by
 refine hp.cop fun hz=>?_
 rcases hq.dvd (B1 hz)with h1|h1
 ·have:=hp.1;omega
 ·exact h h1
def eK:List Nat→Nat
 |[]=>1
 |p::l=>p*eK l
theorem aNi{l m:List Nat}(h:l.Perm m):eK l=eK m:=by
 induction h with
 |nil=>rfl
 |cons x _ ih=>simp only[eK,ih]
 |swap x y l=>simp only[eK,←B0,BJ x y]
 |trans _ _ h1 h2=>exact h1.trans h2
theorem bMe{l m:List Nat}:l.Nodup→(∀ x∈l,x∈m)→m.length≤l.length→l.Perm m:=by
 induction l generalizing m with
 | nil =>
  intro _ _ hl
  have:m=[]:=Cc (by simpa using hl)
  subst this;exact .refl _
 | cons x l ih =>
  intro hn hs hl
  have hx:x∈m:=hs x (AI ..)
  rw[Dz]at hn
  have hp:=List.perm_cons_erase hx
  refine .trans (List.Perm.cons x (ih hn.2 (fun y hy=>?_) ?_)) hp.symm
  ·have hyx:y≠x:=fun e=>hn.1 (e ▸ hy)
   exact(List.mem_erase_of_ne hyx).2 (hs y (AJ _ hy))
  ·have:=hp.length_eq
   simp only[Aj]at this hl
   omega
theorem rD(p a:Nat):∀ l:List Nat,eK (l.map fun i=>a*i%p)%p=a^l.length*eK l%p
 |[]=>by simp[eK]
 | x::l=>by
  have ih:=rD p a l
  simp only[BO,eK,Aj,BH]
  rw[Dn,ih,FM,←Dn]
  congr 1
  ac_rfl
theorem aCq{p:Nat}:∀{l:List Nat},(∀ x∈l,Gp p x)→Gp p (eK l)
 |[],_=>by simp[eK]
 |x::l,h=>Nat.Coprime.mul_right (h x (AI ..)) (aCq fun y hy=>h y (AJ _ hy))
theorem aAa{p a:Nat}(hp:PrN p)(ha:a%p≠0):a^(p-1)%p=1:=by
 have hp2:=hp.1
 have hcop:=hp.cop ha
 obtain⟨L,hL⟩:∃ L,L=(AK (p-1)).map (·+1):=⟨_,rfl⟩
 have hmem:∀ x,x∈L↔0<x∧x<p:=fun x=>by
  rw[hL,A1]
  constructor
  ·rintro⟨y,hy,rfl⟩
   rw[CI]at hy
   omega
  ·rintro⟨h1,h2⟩
   exact⟨x-1,CI.2 (by omega),by omega⟩
 have hlen:L.length=p-1:=by rw[hL];simp
 have hcx:∀ x∈L,Gp p x:=fun x hx=>by
  obtain⟨h1,h2⟩:=(hmem x).1 hx
  exact hp.cop (by rw[BQ h2];omega)
 have hnd:(L.map fun i=>a*i%p).Nodup:=by
  rw[List.Nodup,Gq]
  have h0:L.Pairwise (·≠·):=by
   rw[hL,Gq]
   exact List.Pairwise.imp (fun h=>by omega) List.nodup_range
  refine List.Pairwise.imp_of_mem (fun{x y} hx hy hne he=>hne ?_) h0
  obtain⟨x1,x2⟩:=(hmem x).1 hx
  obtain⟨y1,y2⟩:=(hmem y).1 hy
  rcases Nat.le_total x y with hxy|hxy
  ·have h1:(a*y-a*x)%p=0:=Eu he.symm
   rw[←Nat.mul_sub]at h1
   have h2:=hcop.dvd_of_dvd_mul_left (B1 h1)
   have:=fun h=>CM h h2
   rcases Bb (y-x)with h3|h3
   ·omega
   ·have:=this h3;omega
  ·have h1:(a*x-a*y)%p=0:=Eu he
   rw[←Nat.mul_sub]at h1
   have h2:=hcop.dvd_of_dvd_mul_left (B1 h1)
   have:=fun h=>CM h h2
   rcases Bb (x-y)with h3|h3
   ·omega
   ·have:=this h3;omega
 have hperm:(L.map fun i=>a*i%p).Perm L:=by
  refine bMe hnd (fun x hx=>?_) (by simp)
  obtain⟨i,hi,rfl⟩:=A1.1 hx
  obtain⟨i1,i2⟩:=(hmem i).1 hi
  refine(hmem _).2 ⟨?_,BL _ (by omega)⟩
  refine D3 fun hz=>?_
  have:=hcop.dvd_of_dvd_mul_left (B1 hz)
  have:=CM i1 this
  omega
 have h1:=rD p a L
 rw[aNi hperm,hlen]at h1
 have hcP:=aCq hcx
 have hpos:0<a^(p-1):=Nat.pow_pos (D3 fun h=>ha (by subst h;simp))
 have h2:(a^(p-1)*eK L-1*eK L)%p=0:=Eu (by rw[CE];exact h1.symm)
 rw[←Nat.sub_mul]at h2
 have h3:=hcP.dvd_of_dvd_mul_right (B1 h2)
 obtain⟨k,hk⟩:=h3
 have:a^(p-1)=1+p*k:=by omega
 rw[this,Nat.add_mul_mod_self_left,BQ (by omega)]
theorem aOs{p a:Nat}(hp:PrN p)(ha:a%p≠0):a^(p-2)*a%p=1:=by
 have h2:=hp.1
 rw[←BH,show(p-2).succ=p-1 from by omega]
 exact aAa hp ha
theorem aIq(p:Nat):∀(n r a e:Nat),e<2^n→rU p n r a e%p=r*a^e%p
 | 0,r,a,e,h=>by
  have:e=0:=by simpa using h
  subst this;simp[rU]
 | n+1,r,a,e,h=>by
  unfold rU
  split
  ·rename_i h0;subst h0;simp
  ·have ih:=aIq p n (if e%2=1 then r*a%p else r) (a*a%p) (e/2) (by rw[BH]at h;omega)
   rw[ih]
   have h2:a^e=(a*a)^(e/2)*a^(e%2):=by
    rw[←Nat.pow_two,←Nat.pow_mul,←Es];congr 1;omega
   rw[h2]
   rcases Nat.mod_two_eq_zero_or_one e with he|he
   ·rw[he,Ah (by decide),Nat.pow_zero,CJ,Dn,←Ea,←Dn]
   ·rw[he,Ap rfl,Nat.pow_one,Dn,FM,←Ea,←Dn]
    congr 1;ac_rfl
theorem aQv(p:Nat)(hp:0<p):∀(n r a e:Nat),r<p→rU p n r a e<p
 |0,r,a,e,h=>by simpa[rU]using h
 | n+1,r,a,e,h=>by
  unfold rU
  split
  ·exact h
  ·refine aQv p hp n _ _ _ ?_
   split
   ·exact BL _ hp
   ·exact h
theorem aIp{p a e:Nat}(hp:0<p)(he:e<18446744073709551616):rU p 64 (1%p) a e=a^e%p:=by
 have h1:=aIq p 64 (1%p) a e he
 have h2:=aQv p hp 64 (1%p) a e (BL _ hp)
 rw[BQ h2]at h1
 rw[h1,Dn,FM,←Dn,CE]
theorem bZy{p a b c d:Nat}(h1:a%p=b%p)(h2:c%p=d%p):a*c%p=b*d%p:=by rw[Dn,h1,h2,←Dn]
theorem cAz{p a b c d:Nat}(h1:a%p=b%p)(h2:c%p=d%p):(a+c)%p=(b+d)%p:=by rw[Nat.add_mod,h1,h2,←Nat.add_mod]
end Go.Am
end
section
open List renaming map_map→ζ,mapM_map→ξ
open Go Go.Am Go.Proofs
namespace Go.Am
def wF(k:Nat):Int:=(k:Int)-1
theorem aNk(k:Nat):wF (k+1)=(k:Int):=by unfold wF;omega
theorem aNj:wF 0=-1:=rfl
def rmd(p x:Nat):Nat:=x%p
theorem aYp{m:List Nat}{k:Nat}(h:k<m.length):val (m.drop k)=m[k]! + 4294967296*val (m.drop (k+1)):=by
 rw[Cv h,Df m k h];rfl
theorem bPd(m:List Nat):∃ L,aA m=.sl L∧L.length=m.length∧∀ i,i<m.length→L[i]? = some [.i .u32 ((m[i]! : Nat):Int)]:=⟨_,rfl,by simp,fun i hi=>by rw[Ag,Ab hi,Df m i hi];rfl⟩
set_option maxHeartbeats 4000000 in
set_option maxRecDepth 10000 in
theorem bLk[M:Mch Aa](p:Nat)(neg:Bool)(m:List Nat)(hp:0<p)(hp1:p≤2147483648)(hm:Lim m)(hl:m.length≤9223372036854775807) :
  Spec Aa 49 [.i .u64 p,.ag [.b neg,aA m]] (.i .u64 (if neg=true∧0<val m%p then p-val m%p else val m%p:Nat)):=by
 obtain⟨L,hL,hLl,hLg⟩:=bPd m
 have h1L:one (.d (.sl L))=true:=rfl
 refine bD (N:=36) Tryz.func49 ?_
 rw[hL]
 simp[-ζ,-ξ,↓KW]
 have hlw:Al.wrap ((L.length:Int)-1)=wF m.length:=by
  rw[hLl];unfold wF;exact aU
 have hmod:∀ x:Nat,x%p<p:=fun x=>BL x hp
 refine bJ (τ:=Nat) (fun k=>k≤m.length) (fun k=>StL [(0,.d (.i .u64 p)),(3,.ptr 1 0),(5,.d (.i .u64 (rmd p (val (m.drop k)):Nat))),(6,.d (.i .i64 (wF k)))] none [.cells 40 [.d (.b neg),.d (.sl L)]]) (fun k=>k) m.length (AA _) ?_ ?_
 ·rw[List.drop_length]
  refine wkQ [1] ?_ ?_<;>simp[-ζ,upd,aL,Γ0,val,hlw,rmd]
 ·intro k hk
  cases k with
  | zero =>
   rw[aNj,Ep]
   show AWP _ _ (StL [(0,_),(3,_),(5,.d (.i .u64 ((val m%p:Nat):Int))),(6,_)] none _) _
   have hr:=hmod (val m)
   generalize val m%p=r at *
   simp[-ζ,-ξ,↓KW]
   refine bF ?_
   cases neg with
   |false=>simp[-ζ,-ξ,↓KW]
   | true =>
    rcases Bb r with h0|h0
    ·subst h0
     simp[-ζ,-ξ,↓KW]
    ·have hi:(0:Int)<(r:Int):=by omega
     have hw:AB.wrap ((p:Int)-(r:Int))=((p-r:Nat):Int):=by
      rw[show(p:Int)-(r:Int)=((p-r:Nat):Int)from by omega];exact wrap_u64 (by omega) (by omega)
     simp[-ζ,-ξ,↓KW,hi,h0,hw]
  | succ k =>
   rw[aNk]
   show AWP _ _ (StL [(0,_),(3,_),(5,.d (.i .u64 ((val (m.drop (k+1))%p:Nat):Int))),(6,_)] none _) _
   have hx:m[k]! < 4294967296:=by rw[Df m k (by omega)];exact hm _ (Bj ..)
   have hLk:=hLg k (by omega)
   have hLk':∀ h,L[k]'h=[.i .u32 ((m[k]! : Nat):Int)]:=fun h=>by rw[Ab h]at hLk;injection hLk
   have hv:val (m.drop k)%p=(val (m.drop (k+1))%p*4294967296+m[k]!)%p:=by
    rw[aYp (by omega)]
    rw[Ey m[k]!,BJ 4294967296]
    exact cAz (bZy (FM _ _).symm rfl) rfl
   obtain⟨r',hr'⟩:∃ r',val (m.drop k)%p=r':=⟨_,rfl⟩
   have hr:=hmod (val (m.drop (k+1)))
   rw[hr']at hv
   generalize val (m.drop (k+1))%p=r at *
   generalize m[k]! = x at *
   have hR:=sY (r*4294967296+x) p hp
   rw[←hv]at hR
   have hk0:(0:Int)≤(k:Int):=by omega
   have hkl:k<L.length:=by omega
   have hwk:Al.wrap (k:Int)=k:=aU
   have hwk1:Al.wrap ((k:Int)-1)=wF k:=by unfold wF;exact aU
   have hsh:fJ .shl .u64 (r:Int) 32=some (.i .u64 ((r*4294967296:Nat):Int)):=by
    simp only[fJ,Dt]
    rw[Ah (by decide)]
    congr 2
    rw[show(2:Int)^(min (32:Int).toNat 64)=4294967296 from by decide]
    rw[show(r:Int)*4294967296=((r*4294967296:Nat):Int)from by omega]
    exact wrap_u64 (by omega) (by omega)
   have hwx:AB.wrap (x:Int)=x:=wrap_u64 (by omega) (by omega)
   have hor:dK .or false (.d (.i .u64 ((r*4294967296:Nat):Int))) (.d (.i .u64 (x:Int)))=some (.i .u64 ((r*4294967296+x:Nat):Int)):=by
    show some (D.i .u64 (bits .or .u64 ((r*4294967296:Nat):Int) (x:Int)))=_
    rw[bits_or_u64_nat _ _ (by omega) (by omega)]
    congr 3
    have:=Nat.shiftLeft_add_eq_or_of_lt (i:=32) (b:=x) (by omega) r
    rw[Nat.shiftLeft_eq]at this
    exact this.symm
   generalize r*4294967296=R at *
   generalize R+x=Rx at *
   simp[-ζ,-ξ,↓KW,hk0,hsh,hkl,hwk,hwk1,hLk,hLk',hwx,hor]
   refine aD hR ?_
   simp[-ζ,-ξ,↓KW,hwk1]
   refine aK k (by omega) (by omega) ?_
   show ∃ ρ,Wk _ (StL _ _ _) ρ
   rw[show rmd p (val (m.drop k))=r' from hr']
   refine wkQ [1] ?_ ?_<;>simp[-ζ,upd,aL,Γ0]
theorem bLj[M:Mch Aa](p:Nat)(z:Int)(hp:0<p)(hp1:p≤2147483648)(hz:Sz z):Spec Aa 49 [.i .u64 p,encZ z] (.i .u64 (z%(p:Int))):=by
 have h:=bLk p (decide (z<0)) (aJ z.natAbs) hp hp1 (bU _) (AY hz (by decide))
 rw[←bB,cC]at h
 have e:(((if decide (z<0)=true∧0<z.natAbs%p then p-z.natAbs%p else z.natAbs%p:Nat)):Int)=z%(p:Int):=by
  simp only[Bw]
  have hlt:=BL z.natAbs hp
  by_cases hz:z<0
  ·have hzz:z=-(z.natAbs:Int):=by omega
   have hm:z%(p:Int)=(-(z.natAbs:Int))%(p:Int):=by rw[←hzz]
   have hd:=DQ z.natAbs p
   rw[hm]
   generalize z.natAbs=n at *
   rcases Bb (n%p)with h0|h0
   ·rw[Ah (by omega),h0]
    have:(p:Int) ∣ -(n:Int):=Int.dvd_neg.2 (Int.natCast_dvd_natCast.2 (B1 h0))
    rw[Int.emod_eq_zero_of_dvd this];rfl
   ·rw[Ap ⟨hz,h0⟩]
    have:-(n:Int)=((p-n%p:Nat):Int)+(p:Int)*(-(n/p:Nat)-1:Int):=by
     have h2:(n:Int)=(p:Int)*((n/p:Nat):Int)+((n%p:Nat):Int):=by rw[←B9,←D7,hd]
     rw[Int.mul_sub,DJ,Int.mul_one]
     omega
    rw[this,F9]
    rw[Int.emod_eq_of_lt (by omega) (by omega)]
  ·rw[Ah (by omega)]
   have:z=(z.natAbs:Int):=by omega
   conv=>rhs;rw[this]
   rfl
 rwa [e]at h
theorem bNv[M:Mch Aa](p a:Nat)(hp:2≤p)(hp1:p≤2147483648)(ha:a<p)(h0:a≠0):Spec Aa 91 [.i .u64 p,.i .u64 a] (.tp [.i .u64 (a^(p-2)%p:Nat),.i .i64 0]):=by
 have hP:=aFh p a (p-2) (by omega) hp1 (by omega) (by omega)
 rw[aIp (by omega) (by omega)]at hP
 generalize a^(p-2)%p=r at *
 have hw:AB.wrap ((p:Int)-2)=((p-2:Nat):Int):=by
  rw[show(p:Int)-2=((p-2:Nat):Int)from by omega];exact wrap_u64 (by omega) (by omega)
 have hi:((a:Int)==0)=false:=by simp;omega
 generalize p-2=e at *
 refine bD (N:=13) Tryz.func91 ?_
 simp[-ζ,-ξ,↓KW,hi,h0,hw]
 refine aD hP ?_
 simp[-ζ,-ξ,↓KW]
 rfl
theorem aQm[M:Mch Aa](p a b:Nat)(hp:0<p)(hp1:p≤2147483648)(ha:a<p)(hb:b<p):Spec Aa 93 [.i .u64 p,.i .u64 a,.i .u64 b] (.i .u64 ((a+p-b)%p:Nat)):=by
 have hR:=sY (a+p-b) p hp
 generalize(a+p-b)%p=r at *
 have hw1:AB.wrap ((a:Int)+(p:Int))=((a+p:Nat):Int):=by rw[←D7];exact wrap_u64 (by omega) (by omega)
 have hw2:AB.wrap (((a+p:Nat):Int)-(b:Int))=((a+p-b:Nat):Int):=by
  rw[show((a+p:Nat):Int)-(b:Int)=((a+p-b:Nat):Int)from by omega];exact wrap_u64 (by omega) (by omega)
 generalize a+p-b=x at *
 generalize a+p=y at *
 refine bD (N:=14) Tryz.func93 ?_
 simp[-ζ,-ξ,↓KW,hw1,hw2]
 refine aD hR ?_
 simp[-ζ,-ξ,↓KW]
def jC(T:List Int):List (Int×AV):=T.map fun n=>(n,.d (.b true))
def uI(l:List Nat):List Int:=l.map fun(p:Nat)=>(p:Int)
theorem pP(l:List Nat):∃ L,bL l=.sl L∧L.length=l.length∧∀ i,i<l.length→L[i]? = some [.i .u64 ((l[i]! : Nat):Int)]:=⟨_,rfl,by simp,fun i hi=>by rw[Ag,Ab hi,Df l i hi];rfl⟩
theorem rV(n:Int):∀ T:List Int,(eL n (jC T)=none↔n ∉ T)∧∀ j,eL n (jC T)=some j→(jC T)[j]? = some (n,.d (.b true))
  |[]=>⟨by simp[jC,eL],by simp[jC,eL]⟩
  | x::T=>by
    obtain⟨h1,h2⟩:=rV n T
    show(eL n ((x,_)::jC T)=none↔_)∧∀ j,eL n ((x,_)::jC T)=some j→((x,AV.d (.b true))::jC T)[j]? = _
    unfold eL
    by_cases h:x=n
    · subst h;simp
    · have hn:¬n=x:=fun e=>h e.symm
      simp only[h,if_false,Option.map_eq_none_iff,Bq,not_or,hn,not_false_eq_true,true_and]
      refine⟨h1,fun j hj=>?_⟩
      obtain⟨i,hi,rfl⟩:=Af.1 hj
      simpa using h2 i hi
theorem aVk(P:Program)(t kt vt:TypeId)(k:IntKind)(T:List Int)(n:Int)(ht:tmp P t=some (kt,vt))(hk:eQ P kt=some k)(hz:tz P vt=some (.bool false)):wI P t k (jC T) (.d (.i k n)) false=some (.d (.b (decide (n∈T)))):=by
  obtain⟨h1,h2⟩:=rV n T
  unfold wI
  simp only[ht,Option.bind_some,hk,and_self,if_true,aRk]
  cases hm:eL n (jC T)with
  | none =>
    have:=h1.1 hm
    simp[hz,this];rfl
  | some j =>
    have hj:=h2 j hm
    have:n∈T:=CQ fun h=>by rw[h1.2 h]at hm;cases hm
    simp[hj,this]
theorem aVf(n:Int)(T:List Int)(h:n ∉ T):aJm (jC T) n (.d (.b true))=jC (T++[n]):=by
  unfold aJm
  rw[(rV n T).1.2 h]
  simp[jC]
theorem aTg{H H':Hp}{ρ:Nat→Nat}{k:IntKind}(T:List Int):mW H H' ρ (.map k (jC T)) (.map k (jC T))↔True:=⟨fun _=>trivial,fun _=>aYy fun x hx=>by
  obtain⟨n,_,rfl⟩:=A1.1 hx
  simp⟩
theorem bJv{H H':Hp}{ρ:Nat→Nat}{k:IntKind}:mW H H' ρ (.map k []) (.map k [])↔True:=⟨fun _=>trivial,fun _=>⟨rfl,rfl,fun _ _ _ h=>by simp at h⟩⟩
theorem aNw{l:List Nat}{p:Nat}:((p:Int)∈uI l)↔p∈l:=by
  unfold uI
  rw[A1]
  constructor
  · rintro⟨q,hq,e⟩
    have:q=p:=by omega
    subst this;exact hq
  · exact fun h=>⟨p,h,rfl⟩
theorem zH{α:Type}{T:List α}{p:α}(h:T.Nodup)(hp:p ∉ T):(T++[p]).Nodup:=by
  rw[List.nodup_append]
  exact⟨h,by simp,fun a ha b hb e=>by simp at hb;subst hb;exact hp (e ▸ ha)⟩
theorem aLc{T:List Nat}{Q:Nat→Bool}{p:Nat}(hq:∀ x∈T,Q x=true)(hp:Q p=true):∀ x∈T++[p],Q x=true:=fun x hx=>by
  rcases BU.1 hx with hx|hx
  · exact hq x hx
  · rw[BY.1 hx];exact hp
theorem bCr:tmp Aa 102=some (43,4):=by kernel_rfl
theorem bCu(T:List Int)(n:Int):wI Aa 102 .u64 (jC T) (.d (.i .u64 n)) false=some (.d (.b (decide (n∈T)))):=aVk _ _ _ _ _ _ _ bCr (by kernel_rfl) (by kernel_rfl)
theorem bNf{P:Program}(H:Hp)(t:TypeId)(id:Nat)(x:AV)(v:Option AV):pD P H t (.mp id) x v=match H id with
    | some (.map k es)=>(tmp P t).bind fun p=>match x with
      |.d (.i k' n)=>if k'=k∧eQ P p.1=some k then some (id,.map k (match v with|some v=>aJm es n v|none=>aVi es n))else none
      |_=>none
    |_=>none:=rfl
theorem aJs{P:Program}{H:Hp}{t:TypeId}{id:Nat}{x:AV}{ok:Bool}:aDh P H t (.mp id) x ok=match H id with|some (.map k es)=>wI P t k es x ok|_=>none:=rfl
set_option maxHeartbeats 4000000 in
set_option maxRecDepth 10000 in
theorem wN[M:Mch Aa](Q:Nat→Bool)(l:List Nat)(hl:l.length≤1000000)(hP:∀ p∈l,Spec Aa 48 [.i .u64 (p:Nat)] (.b (Q p))):Spec Aa 24 [bL l] (.b (l.all Q&&decide l.Nodup)):=by
  obtain⟨L,hL,hLl,hLg⟩:=pP l
  rw[hL]
  refine bD (N:=24) Tryz.func24 ?_
  simp[-ζ,-ξ,↓KW]
  refine bJ (τ:=Nat) (fun i=>i≤l.length∧(l.take i).Nodup∧∀ p∈l.take i,Q p=true) (fun i=>StL [(3,.mp 1),(7,.d (.sl L)),(8,.d (.i .i64 L.length)),(9,.d (.i .i64 i))] none [.map .u64 (jC (uI (l.take i)))]) (fun i=>l.length-i) 0 ⟨A5 _,by simp,by simp⟩ ?_ ?_
  · rw[Cx]
    refine wkQ [1] ?_ ?_<;>simp[-ζ,upd,aL,Γ0,show jC (uI [])=[]from rfl,bJv]
  · rintro i ⟨hi,hn,hq⟩
    by_cases hlt:i<l.length
    · have hLi:=hLg i hlt
      have hLi':∀ h,L[i]'h=[.i .u64 ((l[i]! : Nat):Int)]:=fun h=>by rw[Ab h]at hLi;injection hLi
      have hiL:i<L.length:=by omega
      generalize hT:l.take i=T at *
      generalize hp:l[i]! = p at *
      have hPp:Spec Aa 48 [.i .u64 (p:Nat)] (.b (Q p)):=hP p (by rw[←hp,Df l i hlt];exact Bj ..)
      have hge:l[i]? = some p:=by rw[←hp,Df l i hlt];exact Ab hlt
      have hT1:l.take (i+1)=T++[p]:=by rw[BE,hge,hT];rfl
      by_cases hm:p∈T
      · have hdl:(l.all Q && decide l.Nodup)=false:=by
          have hx:decide l.Nodup=false:=by
           simp only[Fe]
           intro hnd
           have:(l.take (i+1)).Nodup:=List.Sublist.nodup (List.take_sublist ..) hnd
           rw[hT1,List.nodup_append]at this
           exact this.2.2 p hm p (by simp) rfl
          rw[hx,Bool.and_false]
        rw[hdl]
        have hlk:=bCu (uI T) p
        rw[B2 (aNw.2 hm)]at hlk
        simp[-ζ,-ξ,↓KW,hiL,hLi,hLi',aJs,hlk]
        exact bF (by simp[-ζ,-ξ,↓KW])
      · have hlk:=bCu (uI T) p
        rw[By (fun h=>hm (aNw.1 h))]at hlk
        have hmp:=aVf (p:Int) (uI T) (fun h=>hm (aNw.1 h))
        have hu:uI T++[(p:Int)]=uI (T++[p]):=by simp[uI]
        rw[hu]at hmp
        have hw1:Al.wrap ((i:Int)+1)=((i+1:Nat):Int):=aU
        simp[-ζ,-ξ,↓KW,hiL,hLi,hLi',aJs,hlk]
        refine aD hPp ?_
        cases hQp:Q p with
        | false =>
          have hd:(l.all Q&&decide l.Nodup)=false:=by
            have:l.all Q=false:=by
              rw[List.all_eq_false]
              exact⟨p,Ai hge,by rw[hQp];exact Bool.false_ne_true⟩
            rw[this];rfl
          rw[hd]
          simp[-ζ,-ξ,↓KW]
          exact bF (by simp[-ζ,-ξ,↓KW])
        |true =>
        simp[-ζ,-ξ,↓KW,bNf,hmp,hw1]
        refine aK (i+1) ⟨by omega,by rw[hT1];exact zH hn hm,by rw[hT1];exact aLc hq hQp⟩ (by show l.length-(i+1)<l.length-i;omega) ?_
        show ∃ ρ,Wk _ (StL _ _ _) ρ
        rw[hT1]
        refine wkQ [1] ?_ ?_<;>simp[-ζ,upd,aL,Γ0,aTg]
    · have hiL:¬i<L.length:=by omega
      have hdl:(l.all Q&&decide l.Nodup)=true:=by
        rw[AG (by omega)]at hn hq
        rw[B2 hn,AW.2 hq,Bool.and_self]
      rw[hdl]
      simp[-ζ,-ξ,↓KW,hiL]
      exact bF (by simp[-ζ,-ξ,↓KW])
theorem aPa[M:Mch Aa](l:List Nat)(hl:l.length≤1000000)(hP:∀ p∈l,Spec Aa 48 [.i .u64 (p:Nat)] (.b true)):Spec Aa 24 [bL l] (.b (decide l.Nodup)):=by
  have:=wN (fun _=>true) l hl hP
  rwa [AW.2 (fun _ _=>rfl),FG]at this
def kX(l:List (Nat×Nat×Nat)):D:=.sl (l.map fun x=>[.i .i64 (x.1:Int),.i .u64 (x.2.1:Int),.i .u64 (x.2.2:Int)])
theorem aAf(l:List (Nat×Nat×Nat)):∃ L,kX l=.sl L∧L.length=l.length∧∀(i:Nat) (x:Nat×Nat×Nat),l[i]? = some x→L[i]? = some [D.i .i64 (x.1:Int),D.i .u64 (x.2.1:Int),D.i .u64 (x.2.2:Int)]:=⟨_,rfl,by simp,fun i x hx=>by rw[Ag,hx];rfl⟩
theorem cD{L:List (List D)}{i:Nat}{x:List D}(h:L[i]? = some x):∀ h',L[i]'h'=x:=fun h'=>by rw[Ab h']at h;injection h
def wkL(l:List (Nat×Nat×Nat)):List Nat:=l.map (·.1)
def pmL(l:List (Nat×Nat×Nat)):List Nat:=l.map (·.2.1)
def bBy(l:List (Nat×Nat×Nat)):Prop:=(wkL l).Nodup∧∀ x∈l,x.2.2<x.2.1
theorem aHd(l:List (Nat×Nat×Nat))(i:Nat):wkL (l.take i)=(wkL l).take i:=by simp[wkL]
theorem bVg{H:Hp}{id:Nat}{e:TypeId}{T:List Nat}{n:Nat}(hn:T.length=n)(hH:H id=some (.cells e ((dU T).map AV.d))):frz H 8 (.own id 0 n 1)=some (bL T):=by
 have e1:=iK hn
 have e2:=pS hn
 have e3:=eN T
 rw[hn]at e3
 simp[-ζ,-ξ,bEr,hH,e1,e2,e3,bL]
theorem bEn{H:Hp}{x:AV}{d:D}(h:frz H 8 x=some d):cI H [x]=some [d]:=by simp[cI,h]
def uC(z:Int):List D:=[.b (decide (z<0)),aA (aJ z.natAbs)]
def dB(v:List Int):D:=.sl (v.map uC)
def vcs(v:List Int):List D:=(v.map uC).flatten
theorem aEj(l:List Int):(vcs l).length=l.length*2:=by
 unfold vcs
 induction l with
 |nil=>rfl
 |cons x l ih=>simp only[BO,CH,A8,ih,uC,Aj,Au];omega
theorem bPc(z:Int):uC z=[.b (decide (z<0)),aA (aJ z.natAbs)]:=rfl
theorem aWl(l:List (List D))(h:∀ x∈l,x.length=2):chunk 2 l.length l.flatten=l:=by
 induction l with
 |nil=>rfl
 | cons a l ih =>
  have ha:=h a (AI ..)
  have:=ih fun x hx=>h x (AJ _ hx)
  unfold chunk at this ⊢
  rw[Aj,Ex,BO,DH,CH]
  congr 1
  ·simp[ha]
  ·conv=>rhs;rw[←this]
   apply Dx
   intro i _
   simp only[Function.comp]
   rw[show Nat.succ i*2=a.length+i*2 from by omega,List.drop_append,CO (by omega)]
   simp
theorem aWk{l:List Int}{n:Nat}(h:l.length=n):chunk 2 n (vcs l)=l.map uC:=by
 subst h
 have:=aWl (l.map uC) (fun x hx=>by obtain⟨y,_,rfl⟩:=A1.1 hx;rfl)
 rwa [BF]at this
theorem aEi{l:List Int}{n:Nat}(h:l.length=n):Fy (n*2) ((vcs l).map AV.d)=(vcs l).map AV.d:=AG (by simp[aEj,h])
theorem bEp{H:Hp}{B:Nat}{e:TypeId}{v:List Int}{n:Nat}(m:Nat)(hB:H B=some (.cells e ((vcs v).map .d)))(hv:v.length=n):frz H (m+2) (.own B 0 n 2)=some (dB v):=by
 have hl:=aEj v
 rw[hv]at hl
 rw[xX,hB]
 simp only[Ax,BF,hl,DT,Ep]
 rw[aEi hv,Ap ⟨AA _,by decide⟩]
 have:List.mapM (frz H (m+1)) ((vcs v).map AV.d)=some (vcs v):=zK H m (vcs v)
 rw[this,AQ,aWk hv];rfl
theorem sQ(z:Int)(v:List Int):vcs (z::v)=uC z++vcs v:=by simp[vcs]
theorem aQj:∀{v:List Int} {k:Nat} (z:Int),k<v.length→(vcs v).take (k*2)++uC z++(vcs v).drop (k*2+2)=vcs (v.set k z)
 |[],k,z,h=>by simp at h
 | y::v,0,z,h=>by
  rw[DG,sQ,sQ];rfl
 | y::v,k+1,z,h=>by
  have ih:=aQj (v:=v) (k:=k) z (by simpa using h)
  rw[List.set_cons_succ,sQ,sQ,←ih,show(k+1)*2=2+k*2 by omega,show 2+k*2+2=2+(k*2+2)by omega]
  have e1:∀ n,Fy (2+n) (uC y++vcs v)=uC y++Fy n (vcs v):=fun n=>by rw[List.take_append,AG (by show 2≤2+n;omega)];congr 2;show 2+n-2=n;omega
  have e2:∀ n,List.drop (2+n) (uC y++vcs v)=List.drop n (vcs v):=fun n=>by rw[←List.drop_drop];rfl
  rw[e1,e2];simp
theorem mapM_some{α β:Type}(f:α→Option β)(g:Nat→β):∀(l:List α),(∀ k x,l[k]? = some x→f x=some (g k))→l.mapM f=some ((AK l.length).map g)
 |[],_=>rfl
 | x::l,h=>by
  rw[List.mapM_cons,h 0 x rfl,mapM_some f (fun k=>g (k+1)) l fun k y hy=>h (k+1) y (by simpa using hy),Aj,Ex]
  simp[Fg]
def zr(cols:Nat):List AV:=(As cols [AV.d (.b false),AV.nil]).flatten
theorem bIk{H H':Hp}{ρ:Nat→Nat}(cols:Nat):eX H H' ρ (zr cols) (zr cols):=by
 refine dJ.2 ⟨rfl,fun k c d h1 h2=>?_⟩
 rw[h1]at h2;injection h2 with h2;subst h2
 have hm:=Ai h1
 unfold zr at hm
 rw[List.mem_flatten]at hm
 obtain⟨l,hl,hc⟩:=hm
 rw[Ed hl]at hc
 rcases Bq.1 hc with rfl|hc
 ·exact(kM _ _).2 rfl
 ·rw[BY.1 hc];trivial
theorem aXp{H H':Hp}{ρ:Nat→Nat}:∀ c:Nat,eX H H' ρ (zr c) ((vcs (As c 0)).map .d)
 |0=>trivial
 | c+1=>by
  have ih:=aXp (H:=H) (H':=H') (ρ:=ρ) c
  have e1:zr (c+1)=AV.d (.b false)::AV.nil::zr c:=by simp[zr,CF]
  have e2:(vcs (As (c+1) 0)).map AV.d=AV.d (.b (decide ((0:Int)<0)))::AV.d (aA (aJ (0:Int).natAbs))::(vcs (As c 0)).map AV.d:=by
   rw[CF];rfl
  rw[e1,e2]
  refine⟨?_,?_,ih⟩
  ·exact(kM _ _).2 rfl
  ·exact⟨by rw[show((0:Int).natAbs)=0 from rfl,cA];rfl,fun a ha=>by simp[vis]at ha⟩
def nwV(rows cols m:Nat):AV:=.ag [.d (.i .i64 (rows:Int)),.d (.i .i64 (cols:Int)),.own m 0 rows 1]
def hdr(c n b:Nat):List AV:=(AK n).map fun j=>AV.own (j+b) 0 c 2
def aHy(v:List Int):HO:=.cells 40 ((vcs v).map .d)
def mB(c:Nat)(M:List (List Int))(m:Nat):List HO:=.cells 93 (hdr c M.length (m+1))::M.map aHy
theorem kD(c n b:Nat):(hdr c n b).length=n:=by simp[hdr]
theorem xU{c n b i:Nat}(h:i<n):(hdr c n b)[i]? = some (.own (i+b) 0 c 2):=by
 unfold hdr;rw[Ag,Bn h];rfl
theorem bEj(c n b:Nat):hdr c (n+1) b=hdr c n b++[.own (n+b) 0 c 2]:=by simp[hdr,FP]
theorem nI(c:Nat)(M:List (List Int))(m:Nat):(mB c M m).length=M.length+1:=by simp[mB]
def nwH(cols i:Nat):Hp:=fun id =>
 if id=1 then some (.cells 29 [.d (.i .i64 0),.d (.i .i64 0),.nil])else if id=2 then some (.cells 93 (hdr cols i 3))else if 3≤id∧id<i+3 then some (.cells 40 (zr cols))else none
set_option maxHeartbeats 8000000 in
set_option maxRecDepth 10000 in
theorem aFf[M:Mch Aa](rows cols:Nat)(hr:rows≤1000)(hc:cols≤1000):rJ Aa 16 [.i .i64 (rows:Int),.i .i64 (cols:Int)] (nwV rows cols) (mB cols (As rows (As cols 0))):=by
 refine zG (N:=22) aT Tryz.func16 rfl rfl rfl (by decide) (by kernel_rfl) (by kernel_rfl) (by simp) rfl ?_
 have m1:¬(rows:Int)<0:=by omega
 have m2:¬(cols:Int)<0:=by omega
 have hm3:32*(cols:Int)≤281474976710656:=by omega
 have hm4:(cols:Int)≤9223372036854775807:=by omega
 simp[-ζ,-ξ,↓KW,m1,m2,bY]
 refine bX (fun i:Nat=>i≤rows) (fun i=>⟨fV [(0,.d (.i .i64 (rows:Int))),(1,.d (.i .i64 (cols:Int))),(4,.ptr 1 0),(5,.own 2 0 i 1),(6,.d (.i .i64 (i:Int)))],nwH cols i,i+3⟩) (fun i=>rows-i) 0 (A5 _) ?_ ?_
 ·refine⟨_,lH ?_ (fun id o' ho=>?_) (fun id hid=>?_) (by simp)⟩
  ·simp[-ζ,upd,aL,Γ0,nwH]
  ·simp only[nwH]at ho
   split at ho
   ·rename_i e;subst e
    injection ho with ho;subst ho
    exact⟨_,rfl,by simp[-ζ,upd,aL,Γ0]⟩
   ·split at ho
    ·rename_i e;subst e
     injection ho with ho;subst ho
     exact⟨_,rfl,dL.2 ⟨rfl,trivial⟩⟩
    ·rw[Ah (by omega)]at ho;cases ho
  ·simp only[nwH]
   rw[Ah (by omega),Ah (by omega),Ah (by omega)]
 ·intro i hi
  have hH1:nwH cols i 1=some (.cells 29 [.d (.i .i64 0),.d (.i .i64 0),.nil]):=rfl
  have hH2:nwH cols i 2=some (.cells 93 (hdr cols i 3)):=rfl
  have hlen:(hdr cols i 3).length=i:=kD ..
  by_cases hgo:i<rows
  ·have q1:(i:Int)<rows:=by omega
   have hw:Al.wrap ((i:Int)+1)=(i:Int)+1:=aU
   generalize hHg:nwH cols i=H at *
   generalize hcl:hdr cols i 3=cells at *
   have hb:(i+1)*24≤140737488355328:=by omega
   have hb2:i+1≤maxLen:=bY (by omega)
   simp[-ζ,-ξ,↓KW,q1,hgo,hw,hm3,hm4,hH1,hH2,hlen,m1,m2,hb,hb2]
   have hn1:(nwH cols (i+1) 1).isSome=true:=rfl
   have hn2:(nwH cols (i+1) 2).isSome=true:=rfl
   have hnj:∀ j,j<i+1→(nwH cols (i+1) (j+3)).isSome=true:=fun j hj=>by
    unfold nwH;rw[Ah (by omega),Ah (by omega),Ap (by omega)];rfl
   refine aK (i+1) hgo (slQ hgo) ⟨_,bSc (fun id=>if id=2 then i+5 else id) ?_ (fun id o' ho=>?_) (fun id id' h1 h2 e=>?_) (fun _=>rfl) (fun id hid=>?_) (by simp)⟩
   ·simp[-ζ,upd,aL,Γ0,hn1,hn2]
   ·simp only[nwH]at ho
    split at ho
    ·rename_i e;subst e
     injection ho with ho;subst ho
     refine⟨.cells 29 [.d (.i .i64 0),.d (.i .i64 0),.nil],?_,by simp[-ζ,upd,aL,Γ0]⟩
     rw[Ah (by omega)]
     simp only
     rw[Ah (by omega),Ah (by omega),Ah (by omega),Ah (by omega),hH1]
     rfl
    ·split at ho
     ·rename_i e;subst e
      injection ho with ho;subst ho
      refine⟨.cells 93 (hdr cols (i+1) 3),?_,dL.2 ⟨rfl,dJ.2 ⟨rfl,fun k x y h1 h2=>?_⟩⟩⟩
      ·show Option.map (gY [2]) (if i+5=i+3+1+1 then some (HO.cells 93 (cells++[AV.own (i+3) 0 cols 2]))else _)=_
       rw[Ap (by omega),bEj,hcl]
       simp only[AQ,gY,FT,BO,List.map_nil]
       have e1:cells.map (dS [2])=cells:=by
        rw[←hcl]
        unfold hdr
        rw[DH]
        apply Dx
        intro j hj
        simp[dS]
       rw[e1]
       simp[dS]
      ·rw[h1]at h2;injection h2 with h2;subst h2
       have hk:k<i+1:=by have:=(Ao.1 h1).1;rwa [kD]at this
       rw[xU hk]at h1;injection h1 with h1;subst h1
       exact⟨by simp only;rw[Ah (by omega)],rfl,rfl,rfl,hnj k hk⟩
     ·split at ho
      ·rename_i e2 e3
       injection ho with ho;subst ho
       refine⟨.cells 40 (zr cols),?_,dL.2 ⟨rfl,bIk cols⟩⟩
       rw[Ah e2]
       simp only
       rw[Ah (by omega),Ah e2,Ah (by omega)]
       have ez:Option.map (gY [2]) (some (HO.cells 40 (zr cols)))=some (.cells 40 (zr cols)):=by
        simp only[AQ,gY]
        congr 2
        unfold zr
        rw[List.map_flatten,Ga];rfl
       by_cases e4:id=i+3
       ·rw[Ap e4];exact ez
       ·rw[Ah e4,←hHg]
        unfold nwH
        rw[Ah (by omega),Ah (by omega),Ap (by omega)]
        exact ez
      ·cases ho
   ·have k1:∀ id,(nwH cols (i+1) id).isSome=true→1≤id∧id<i+4:=fun id h=>by
     unfold nwH at h
     split at h
     ·omega
     ·split at h
      ·omega
      ·split at h
       ·omega
       ·cases h
    have b1:=k1 id h1
    have b2:=k1 id' h2
    have e':(if id=2 then i+5 else id)=(if id'=2 then i+5 else id'):=e
    split at e'<;>split at e'<;>omega
   ·simp only[nwH]
    rw[Ah (by omega),Ah (by omega),Ah (by omega)]
  ·have q1:¬(i:Int)<rows:=by omega
   have e:i=rows:=by omega
   subst e
   generalize hHg:nwH cols i=H at *
   simp[-ζ,-ξ,↓KW,q1,hH1,hH2]
   intro m hm0
   have hML:(mB cols (As i (As cols (0:Int))) m).length=i+1:=by simp[nI]
   have hin:∀ id,m≤id→id<m+(i+1)→(iZ (nwV i cols) (mB cols (As i (As cols 0))) m).H id=(mB cols (As i (As cols 0)) m)[id-m]? := fun id h1 h2=>by
    simp only[iZ,gF]
    rw[Ap ⟨h1,by rw[hML];exact h2⟩]
   have hout:∀ id,¬(m≤id∧id<m+(i+1))→(iZ (nwV i cols) (mB cols (As i (As cols 0))) m).H id=none:=fun id h=>by
    simp only[iZ,gF]
    rw[Ah (by rw[hML];exact h)]
   have hsome:∀ id,((iZ (nwV i cols) (mB cols (As i (As cols 0))) m).H id).isSome=true→m≤id∧id<m+(i+1):=fun id h=>by
    by_cases hr:m≤id∧id<m+(i+1)
    ·exact hr
    ·rw[hout id hr]at h;cases h
   have hS0:((iZ (nwV i cols) (mB cols (As i (As cols 0))) m).H m).isSome=true:=by
    rw[hin m (AA _) (by omega),CN];rfl
   have hSj:∀ j,j<i→(iZ (nwV i cols) (mB cols (As i (As cols 0))) m).H (j+(m+1))=some (aHy (As cols 0)):=fun j hj=>by
    rw[hin _ (by omega) (by omega),show j+(m+1)-m=j+1 by omega]
    simp only[mB,Bt,Ga,DM,Ap hj]
   refine⟨fun id=>id-m+2,fun id hid=>hout id (by simp only[iZ]at hid;rw[hML]at hid;omega),fun t=>?_,fun id o' ho=>?_,fun id id' h1 h2 e=>?_,fun h=>?_,fun h=>?_⟩
   ·show Sub _ _ _ _ (upd (fun _=>.any) 0 (nwV i cols m) t)
    by_cases e:t=0
    ·subst e
     simp only[upd_same,nwV]
     refine⟨rfl,fun k c d h1 h2=>?_⟩
     rcases k with _|_|_|k
     ·simp at h1 h2;subst h1;subst h2;exact(kM _ _).2 rfl
     ·simp at h1 h2;subst h1;subst h2;exact(kM _ _).2 rfl
     ·simp at h1 h2;subst h1;subst h2
      exact⟨by simp,rfl,rfl,rfl,hS0⟩
     ·simp at h1
    ·rw[upd_ne _ _ e];exact qG _
   ·have hr:=hsome id (by rw[ho];rfl)
    rw[hin id hr.1 hr.2]at ho
    simp only
    obtain⟨j,rfl⟩:∃ j,id=m+j:=⟨id-m,by omega⟩
    rw[show m+j-m=j by omega]at ho ⊢
    rcases j with _|j
    ·simp only[mB,BP,Fu]at ho
     injection ho with ho;subst ho
     refine⟨.cells 93 (hdr cols i 3),by simp only[upd];rw[Ah (by omega)];exact hH2,dL.2 ⟨rfl,dJ.2 ⟨by rw[kD,kD],fun k c d h1 h2=>?_⟩⟩⟩
     have hlt:k<i:=by have:=(Ao.1 h1).1;rwa [kD]at this
     rw[xU hlt]at h1 h2
     injection h1 with h1;injection h2 with h2;subst h1;subst h2
     exact⟨by show k+3=k+(m+1)-m+2;omega,rfl,rfl,rfl,by rw[hSj k hlt];rfl⟩
    ·have hlt:j<i:=by omega
     simp only[mB,Bt,Ga,DM,Ap hlt]at ho
     injection ho with ho;subst ho
     refine⟨.cells 40 (zr cols),?_,dL.2 ⟨rfl,aXp cols⟩⟩
     simp only[upd]
     rw[Ah (by omega),←hHg]
     unfold nwH
     rw[Ah (by omega),Ah (by omega),Ap (by omega)]
   ·have q1':=hsome id h1
    have q2':=hsome id' h2
    have e':id-m+2=id'-m+2:=e
    omega
   ·have:=hsome 0 h;omega
   ·simp only[iZ]at h;omega
theorem gP[M:Mch Aa]{f:FuncId}{args:List D}{r:D}(h:(mL Aa EP 100 20).call f args=some r):Spec Aa f args r:=(oV (fuel:=100) aT aSm 20).call _ _ _ h
def mA:D:=.ag [.i .i64 1,.i .i64 1,.sl [[.sl [[.b true,.sl [[.i .u32 1]]]]]]]
theorem aGh(H:Hp)(n:Nat)(a b:HO):gF H n [a,b]=upd (upd H n (some a)) (n+1) (some b):=by
 funext id
 unfold gF upd
 by_cases h1:id=n+1
 ·subst h1;simp
 ·by_cases h2:id=n
  ·subst h2;simp
  ·simp only[h1,h2,if_false,Aj,Au]
   rw[Ah (by omega)]
set_option maxHeartbeats 4000000 in
set_option maxRecDepth 10000 in
theorem bXw[M:Mch Aa]:Spec Aa 15 [.i .i64 1,.i .i64 1,.sl [[.i .i64 (-1)]]] mA:=by
 refine bD (N:=50) Tryz.func15 ?_
 have hN:rJ Aa 16 [.i .i64 1,.i .i64 1] (nwV 1 1) (mB 1 [[0]]):=aFf 1 1 (by decide) (by decide)
 have hmB:mB 1 [[0]] 2=[.cells 93 [.own 3 0 1 2],.cells 40 [.d (.b (decide ((0:Int)<0))),.d (aA (aJ (0:Int).natAbs))]]:=rfl
 have hO:Spec Aa 13 [.i .i64 (-1)] (.ag [.b true,.sl [[.i .u32 1]]]):=gP (by kernel_rfl)
 simp[-ζ,-ξ,↓KW]
 refine kO [.i .i64 1,.i .i64 1] (nwV 1 1) (mB 1 [[0]]) (by simp) (by simp) (by simp) (by rfl) (by rfl) hN ?_
 simp[-ζ,-ξ,↓KW,nwV,hmB,aGh]
 have hz0:Al.wrap 0=0:=by decide
 have hz1:Al.wrap 1=1:=by decide
 refine gL 2 ?_
 simp[-ζ,-ξ,↓KW,↓aE,↓aB,↓aF,↓aG,hz0,hz1]
 refine gL 2 ?_
 simp[-ζ,-ξ,↓KW,↓aE,↓aB,↓aF,↓aG,hz0,hz1]
 refine aD hO ?_
 simp[-ζ,-ξ,↓KW,↓aE,↓aB,↓aF,↓aG,hz0,hz1]
 rfl
theorem aIb{P:Program}(σ:St):iY P [] σ=some (.tp []):=rfl
theorem bWm{σ:St}{sl:List (Nat×AV)}{e:TypeId}{dl:List D}(hslot:jL σ.H (StL sl (some (.cells e (dl.map .d))) []).H (wX []) σ.Γ sl)(h0:σ.H 0=some (.cells e (dl.map .d))):∃ ρ,Wk σ (StL sl (some (.cells e (dl.map .d))) []) ρ :=
 ⟨_,aQd [] (by simp) hslot (fun o' h=>⟨_,h0,by injection h with h;subst h;exact mJ ..⟩) (by simp)⟩
end Go.Am
end
section
open List renaming map_map→ζ,mapM_map→ξ
namespace Go.Am

end Go.Am
end
section
open List renaming map_map→ζ,mapM_map→ξ
open Go Go.Am Go.Proofs
namespace Go.Am
theorem aKp{k:Nat}(hk:0<k)(l:List (List D))(h:∀ x∈l,x.length=k):chunk k l.length l.flatten=l:=by
 induction l with
 |nil=>rfl
 | cons a l ih =>
  have ha:=h a (AI ..)
  have:=ih fun x hx=>h x (AJ _ hx)
  unfold chunk at this ⊢
  rw[Aj,Ex,BO,DH,CH]
  congr 1
  ·simp[←ha]
  ·conv=>rhs;rw[←this]
   apply Dx
   intro i _
   simp only[Function.comp]
   rw[show Nat.succ i*k=a.length+i*k from by rw[Nat.succ_mul,ha,Ey],List.drop_append,CO (by omega)]
   simp
def dR(l:List (Nat×Nat)):List D:=(l.map fun x=>[.i .u64 (x.1:Int),.i .u64 (x.2:Int)]).flatten
def aKi(q:Rat):List D:=[.b (decide (q.num<0)),aA (aJ q.num.natAbs),.b false,aA (aJ q.den)]
def gA(l:List Rat):D:=.sl (l.map aKi)
def dQ(l:List Rat):List D:=(l.map aKi).flatten
theorem aAj(l:List Rat):(dQ l).length=l.length*4:=by
 unfold dQ
 induction l with
 |nil=>rfl
 |cons x l ih=>simp only[BO,CH,A8,ih,Aj,aKi,Au];omega
theorem bFy(a b:List Rat):dQ (a++b)=dQ a++dQ b:=by simp[dQ]
theorem bFx(q:Rat):dQ [q]=[.b (decide (q.num<0)),aA (aJ q.num.natAbs),.b false,aA (aJ q.den)]:=rfl
theorem wO{l:List Rat}{n:Nat}(h:l.length=n):((dQ l).map AV.d).take (n*4)=(dQ l).map AV.d:=AG (by rw[BF,aAj,h];exact AA _)
theorem aKq{l:List Rat}{n:Nat}(h:l.length=n):chunk 4 n (dQ l)=l.map aKi:=by
 subst h
 have:=aKp (k:=4) (by decide) (l.map aKi) (fun x hx=>by
  obtain⟨y,_,rfl⟩:=A1.1 hx;rfl)
 rwa [BF]at this
theorem uB(l:List Rat):∃ L,gA l=.sl L∧L.length=l.length∧∀(i:Nat) (q:Rat),l[i]? = some q→L[i]? = some [.b (decide (q.num<0)),aA (aJ q.num.natAbs),.b false,aA (aJ q.den)]:=⟨_,rfl,by simp,fun i x hx=>by rw[Ag,hx];rfl⟩
theorem aKh(v:List Int):∃ L,dB v=.sl L∧L.length=v.length∧∀(i:Nat) (z:Int),v[i]? = some z→L[i]? = some [.b (decide (z<0)),aA (aJ z.natAbs)]:=⟨_,rfl,by simp,fun i x hx=>by rw[Ag,hx];rfl⟩
def oX(v:List Int):List Rat:=v.map fun(z:Int)=>(z:Rat)
def qsS(L:List (List D))(i:Nat)(T:List Rat):St:=StL [(0,.d (.sl L)),(3,.own 1 0 T.length 4),(4,.d (.i .i64 i))] none [.cells 130 ((dQ T).map .d)]
set_option maxHeartbeats 4000000 in
set_option maxRecDepth 10000 in
theorem aFe[M:Mch Aa](v:List Int)(hv:v.length≤1000):Spec Aa 76 [dB v] (gA (oX v)):=by
 obtain⟨L,hL,hLl,hLg⟩:=aKh v
 rw[hL]
 refine bD (N:=21) Tryz.func76 ?_
 simp[-ζ,-ξ,↓KW]
 refine bJ (τ:=Nat) (fun i=>i≤v.length) (fun i=>qsS L i (oX (v.take i))) (fun i=>v.length-i) 0 (A5 _) ?_ ?_
 ·rw[Cx]
  show ∃ ρ,Wk _ (qsS _ _ []) ρ
  unfold qsS
  refine wkQ [1] ?_ ?_<;>simp[-ζ,upd,aL,Γ0,dQ]
 ·intro i hi
  have hTl:(oX (v.take i)).length=i:=by simp[oX];omega
  by_cases hlt:i<v.length
  ·obtain⟨z,hge⟩:∃ x,v[i]? = some x:=⟨_,Ab hlt⟩
   have hLi:=hLg i _ hge
   have hLi':=cD hLi
   have hiL:i<L.length:=by omega
   have hW:=aIg z
   have hT1:oX (v.take (i+1))=(oX (v.take i))++[(z:Rat)]:=by rw[BE,hge];simp[oX]
   have hw0:Al.wrap (i:Int)=i:=aU
   have hw1:Al.wrap ((i:Int)+1)=((i+1:Nat):Int):=aU
   generalize(z:Rat)=q at *
   generalize(oX (v.take i))=T at *
   have hbb:(i+1)*64≤140737488355328∧i+1≤1099511627776:=by omega
   simp[-ζ,-ξ,↓KW,qsS,hiL,hLi,hLi',hw0,aR]
   refine aD hW ?_
   simp[-ζ,-ξ,↓KW,cH q,aAj,hTl,hbb,bY,hw1,aR]
   refine aK (i+1) (by omega) (by show v.length-(i+1)<v.length-i;omega) ?_
   show ∃ ρ,Wk _ (qsS _ _ _) ρ
   rw[hT1]
   unfold qsS
   refine wkQ [3] ?_ ?_<;>simp[-ζ,upd,aL,Γ0,B6,cF,bFy,bFx,A8,hTl]
  ·have hiL:¬i<L.length:=by omega
   rw[AG (show v.length≤i by omega)]at hTl ⊢
   generalize(oX v)=T at *
   have e1:=wO hTl
   have e2:=aKq hTl
   have e3:=aAj T
   rw[hTl]at e3
   simp[-ζ,-ξ,↓KW,qsS,hiL]
   exact bF (by simp[-ζ,-ξ,↓KW,hTl,e1,e2,e3,gA])
def iT(a b:List Rat)(c:Rat):List Rat:=(AK a.length).map fun i=>a.getD i 0-c*b.getD i 0
def lsS(A B:List (List D))(c:Rat)(i:Nat)(T:List Rat):St:=StL [(0,.d (.sl A)),(1,.d (.sl B)),(5,.ptr 1 0),(7,.own 2 0 T.length 4),(8,.d (.i .i64 i))] none [.cells 130 [.d (.b (decide (c.num<0))),.d (aA (aJ c.num.natAbs)),.d (.b false),.d (aA (aJ c.den))],.cells 130 ((dQ T).map .d)]
set_option maxHeartbeats 4000000 in
set_option maxRecDepth 10000 in
theorem bLs[M:Mch Aa](a b:List Rat)(c:Rat)(ha:a.length≤1000)(hab:a.length≤b.length)(hc:QS c)(hA:∀ q∈a,QS q)(hB:∀ q∈b,QS q)(hcb:∀ q∈b,QS (c*q)) :
  Spec Aa 80 [gA a,gA b,dC c] (gA (iT a b c)):=by
 obtain⟨LA,hLA,hLAl,hLAg⟩:=uB a
 obtain⟨LB,hLB,hLBl,hLBg⟩:=uB b
 rw[hLA,hLB]
 refine bD (N:=31) Tryz.func80 ?_
 simp[-ζ,-ξ,↓KW,cH c,aR]
 refine bJ (τ:=Nat) (fun i=>i≤a.length) (fun i=>lsS LA LB c i ((iT a b c).take i)) (fun i=>a.length-i) 0 (A5 _) ?_ ?_
 ·rw[Cx]
  show ∃ ρ,Wk _ (lsS _ _ _ _ []) ρ
  unfold lsS
  refine wkQ [1,2] ?_ ?_<;>simp[-ζ,upd,aL,Γ0,dQ]
 ·intro i hi
  have hTl:((iT a b c).take i).length=i:=by simp[iT];omega
  by_cases hlt:i<a.length
  ·obtain⟨x,hx⟩:∃ x,a[i]? = some x:=⟨_,Ab hlt⟩
   obtain⟨y,hy⟩:∃ x,b[i]? = some x:=⟨_,Ab (by omega)⟩
   have hLi:=hLAg i _ hx
   have hLi':=cD hLi
   have hLb:=hLBg i _ hy
   have hLb':=cD hLb
   have hiL:i<LA.length:=by omega
   have hiB:i<LB.length:=by omega
   have hMl:=bBi c y hc (hB y (Ai hy))
   have hSb:=bTl x (c*y) (hA x (Ai hx)) (hcb y (Ai hy))
   have hT1:(iT a b c).take (i+1)=(iT a b c).take i++[x-c*y]:=by
    rw[BE]
    congr 1
    unfold iT
    rw[Ag,Bn hlt,AQ,EA,Ac,Ac,hx,hy];rfl
   have hw0:Al.wrap (i:Int)=i:=aU
   have hw1:Al.wrap ((i:Int)+1)=((i+1:Nat):Int):=aU
   generalize x-c*y=u at *
   generalize c*y=w at *
   generalize(iT a b c).take i=T at *
   have hbb:(i+1)*64≤140737488355328∧i+1≤1099511627776:=by omega
   simp[-ζ,-ξ,↓KW,lsS,hiL,hiB,hLi,hLi',hLb,hLb',hw0,aR]
   refine aD hMl ?_
   simp[-ζ,-ξ,↓KW,cH w,aR]
   refine aD hSb ?_
   simp[-ζ,-ξ,↓KW,cH u,aAj,hTl,hbb,bY,hw1,aR]
   refine aK (i+1) (by omega) (by show a.length-(i+1)<a.length-i;omega) ?_
   show ∃ ρ,Wk _ (lsS _ _ _ _ _) ρ
   rw[hT1]
   unfold lsS
   refine wkQ [1,4] ?_ ?_<;>simp[-ζ,upd,aL,Γ0,B6,cF,bFy,bFx,A8,hTl]
  ·have hiL:¬i<LA.length:=by omega
   rw[AG (show(iT a b c).length≤i by simp[iT];omega)]at hTl ⊢
   generalize iT a b c=T at *
   have e1:=wO hTl
   have e2:=aKq hTl
   have e3:=aAj T
   rw[hTl]at e3
   simp[-ζ,-ξ,↓KW,lsS,hiL]
   exact bF (by simp[-ζ,-ξ,↓KW,hTl,e1,e2,e3,gA])
end Go.Am
end
section
open List renaming map_map→ζ,mapM_map→ξ
namespace Go.Am
def en(M:List (List Rat))(i j:Nat):Rat:=(M.getD i []).getD j 0
def pad(n:Nat)(M:List (List Rat))(i j:Nat):Rat:=if i<n∧j<n then en M i j else if i=j then 1 else 0
theorem vE{n:Nat}{M:List (List Rat)}{i j:Nat}(h:i<n∧j<n):pad n M i j=en M i j:=Ap h
theorem qL{n:Nat}{M:List (List Rat)}{i j:Nat}(h:¬(i<n∧j<n)):pad n M i j=if i=j then 1 else 0:=Ah h
def dN(n:Nat)(M:List (List Rat)):Rat:=fR (pad n M)
def dg(M:List (List Rat)):Nat→Rat
 |0=>1
 |k+1=>dg M k*en M k k
theorem aAh{M M':List (List Rat)}:∀ k:Nat,(∀ i j,i<k→en M' i j=en M i j)→dg M' k=dg M k
 |0,_=>rfl
 |k+1,h=>by rw[dg,dg,h k k (Cr k),aAh k fun i j hi=>h i j (Gs hi)]
theorem gR{α:Type}{l:List α}{i r:Nat}{x d:α}(hi:i<l.length):(l.set i x).getD r d=if r=i then x else l.getD r d:=by
 rw[Ac,C3]
 by_cases h:r=i
 ·subst h;rw[Ap rfl,Ap rfl,Ap hi];rfl
 ·rw[Ah (fun e=>h e.symm),Ah h,Ac]
def Sg(n k:Nat)(D:Rat)(M:List (List Rat))(o:Rat):Prop:=∃ s:Rat,(s=1∨s=-1)∧o=s*dg M k∧D=s*dN n M
def Lo(n k:Nat)(M:List (List Rat)):Prop:=∀ i j,j<k→j<i→i<n→en M i j=0
def Rw(n:Nat)(M:List (List Rat)):Prop:=M.length=n∧∀ i,i<n→(M.getD i []).length=n
theorem aZt(n:Nat)(M:List (List Rat)):Sg n 0 (dN n M) M 1:=⟨1,.inl rfl,by simp[dg],by simp⟩
theorem bKi{n k:Nat}{D o:Rat}{M:List (List Rat)}(hn:n≤4)(hk:k<n)(h:Sg n k D M o)(hl:Lo n k M)(h0:∀ i,k≤i→i<n→en M i k=0):D=0:=by
 obtain⟨s,_,_,rfl⟩:=h
 have:dN n M=0:=by
  refine aDo (pad n M) (k:=k) (by omega) (fun i j h1 h2 h3=>?_) fun i h1 h2=>?_
  ·unfold pad
   by_cases h:i<n∧j<n
   ·rw[Ap h];exact hl i j h2 h1 h.1
   ·rw[Ah h,Ah (by omega)]
  ·unfold pad
   by_cases h:i<n∧k<n
   ·rw[Ap h];exact h0 i h1 h.1
   ·rw[Ah h,Ah (by omega)]
 rw[this];simp
def oP(M:List (List Rat))(k a:Nat):List (List Rat):=(M.set k (M.getD a [])).set a (M.getD k [])
theorem bFg{M:List (List Rat)}{k a:Nat}(hk:k<M.length)(ha:a<M.length)(hka:k≠a)(i j:Nat):en (oP M k a) i j=en M (swp k a i) j:=by
 unfold en oP swp
 rw[gR (by simpa using ha),gR hk]
 by_cases h1:i=a
 ·rw[Ap h1,h1,Ah (fun e=>hka e.symm),Ap rfl]
 ·rw[Ah h1]
  by_cases h2:i=k
  ·rw[Ap h2,Ap h2]
  ·rw[Ah h2,Ah h2,Ah h1]
theorem bKj{n k a:Nat}{D o:Rat}{M:List (List Rat)}(hn:n≤4)(hM:M.length=n)(hk:k<a)(ha:a<n)(h:Sg n k D M o):Sg n k D (oP M k a) (-o):=by
 obtain⟨s,hs,rfl,rfl⟩:=h
 have he:=bFg (M:=M) (k:=k) (a:=a) (by omega) (by omega) (by omega)
 have hd:dN n (oP M k a)=- dN n M:=by
  unfold dN
  rw[←aDp (pad n M) hk (by omega)]
  congr 1
  funext i j
  have h1:swp k a i<n↔i<n:=by unfold swp;split<;>(try split)<;>omega
  by_cases h:i<n∧j<n
  ·rw[vE h,vE ⟨h1.2 h.1,h.2⟩,he]
  ·rw[qL h,qL fun h'=>h ⟨h1.1 h'.1,h'.2⟩]
   by_cases h3:i<n
   ·rw[Ah (by omega),Ah (by have:=h1.2 h3;omega)]
   ·have:swp k a i=i:=by unfold swp;rw[Ah (by omega),Ah (by omega)]
    rw[this]
 refine⟨-s,by rcases hs with rfl|rfl<;>simp,?_,?_⟩
 ·rw[aAh (M:=M) (M':=oP M k a) k fun i j hi=>by rw[he];unfold swp;rw[Ah (by omega),Ah (by omega)]]
  grind
 ·rw[hd];grind
theorem bNl{n k a:Nat}{M:List (List Rat)}(hM:M.length=n)(hk:k<a)(ha:a<n)(h:Lo n k M):Lo n k (oP M k a):=fun i j h1 h2 h3=>by
 rw[bFg (by omega) (by omega) (by omega)]
 unfold swp
 split
 ·exact h a j h1 (by omega) ha
 ·split
  ·exact h k j h1 (by omega) (by omega)
  ·exact h i j h1 h2 h3
theorem bKq{n k a:Nat}{M:List (List Rat)}(hM:Rw n M)(hk:k<n)(ha:a<n):Rw n (oP M k a):=by
 refine⟨by simp[oP,hM.1],fun i hi=>?_⟩
 unfold oP
 rw[gR (by rw[CL,hM.1];exact ha),gR (by rw[hM.1];exact hk)]
 split
 ·exact hM.2 k hk
 ·split
  ·exact hM.2 a ha
  ·exact hM.2 i hi
def elR(M:List (List Rat))(k i:Nat)(c:Rat):List (List Rat):=M.set i (iT (M.getD i []) (M.getD k []) c)
theorem bFh{n:Nat}{M:List (List Rat)}{k a:Nat}(c:Rat)(hM:Rw n M)(ha:a<n)(i j:Nat)(hj:j<n):en (elR M k a c) i j=if i=a then en M a j-c*en M k j else en M i j:=by
 unfold en elR
 rw[gR (by rw[hM.1];exact ha)]
 by_cases h:i=a
 ·rw[Ap h,Ap h]
  unfold iT
  rw[Ac,Ag,Bn (by rw[hM.2 a ha];exact hj)];rfl
 ·rw[Ah h,Ah h]
theorem bQv{n:Nat}{M:List (List Rat)}{k a:Nat}(c:Rat)(hM:Rw n M)(ha:a<n):Rw n (elR M k a c):=by
 refine⟨by simp[elR,hM.1],fun i hi=>?_⟩
 unfold elR
 rw[gR (by rw[hM.1];exact ha)]
 split
 ·simp only[iT,BF,List.length_range];exact hM.2 a ha
 ·exact hM.2 i hi
theorem bWq{n k K a:Nat}{D o:Rat}{M:List (List Rat)}(c:Rat)(hn:n≤4)(hM:Rw n M)(hk:k<a)(ha:a<n)(hK:K≤a)(hKn:K≤n)(h:Sg n K D M o):Sg n K D (elR M k a c) o:=by
 obtain⟨s,hs,rfl,rfl⟩:=h
 have he:=bFh (k:=k) c hM ha
 refine⟨s,hs,?_,?_⟩
 ·rw[aAh (M:=M) (M':=elR M k a c) K fun i j hi=>by
   unfold en elR
   rw[gR (by rw[hM.1];exact ha),Ah (by omega)]]
 ·congr 1
  unfold dN
  rw[←aKm (pad n M) c hk (by omega)]
  congr 1
  funext i j
  symm
  by_cases h:i<n∧j<n
  ·rw[vE h,he i j h.2,vE ⟨ha,h.2⟩,vE ⟨by omega,h.2⟩,vE h]
  ·rw[qL h]
   by_cases h2:i=a
   ·subst h2
    rw[Ap rfl,qL (by omega),qL (by omega),Ah (by omega),Ah (by omega)];grind
   ·rw[Ah h2,qL h]
theorem bXr{n k a:Nat}{M:List (List Rat)}(c:Rat)(hM:Rw n M)(hk:k<a)(ha:a<n)(h:Lo n k M):Lo n k (elR M k a c):=fun i j h1 h2 h3=>by
 rw[bFh c hM ha i j (by omega)]
 split
 ·rw[h a j h1 (by omega) ha,h k j h1 (by omega) (by omega)];grind
 ·exact h i j h1 h2 h3
theorem bSz{n k:Nat}{D o:Rat}{M:List (List Rat)}(h:Sg n k D M o):Sg n (k+1) D M (o*en M k k):=by
 obtain⟨s,hs,rfl,rfl⟩:=h
 exact⟨s,hs,by rw[dg,Rat.mul_assoc],rfl⟩
theorem bNm{n k:Nat}{M:List (List Rat)}(h:Lo n k M)(h0:∀ r,k<r→r<n→en M r k=0):Lo n (k+1) M:=fun i j h1 h2 h3=>by
 by_cases hj:j=k
 ·rw[hj];exact h0 i (by omega) h3
 ·exact h i j (by omega) h2 h3
theorem bVl{M:List (List Rat)}{k i r:Nat}{c:Rat}(hi:i<M.length):(elR M k i c).getD r []=if r=i then iT (M.getD i []) (M.getD k []) c else M.getD r []:=by
 unfold elR;rw[gR hi]
theorem bSq{M:List (List Rat)}{k a r:Nat}(hk:k<M.length)(ha:a<M.length):(oP M k a).getD r []=if r=a then M.getD k []else if r=k then M.getD a []else M.getD r []:=by
 unfold oP;rw[gR (by simpa using ha),gR hk]
theorem bTa{n:Nat}{D o:Rat}{M:List (List Rat)}(hn:n≤4)(h:Sg n n D M o)(hl:Lo n n M):o=D:=by
 obtain⟨s,_,rfl,rfl⟩:=h
 congr 1
 have ht:=aKl (pad n M) fun i j h1 h2=>by
  unfold pad
  by_cases h:i<n∧j<n
  ·rw[Ap h];exact hl i j h.2 h1 h.1
  ·rw[Ah h,Ah (by omega)]
 unfold dN
 rw[ht]
 have:n=0∨n=1∨n=2∨n=3∨n=4:=by omega
 rcases this with rfl|rfl|rfl|rfl|rfl<;>simp[pad,dg]
end Go.Am
end
section
open List renaming map_map→ζ,mapM_map→ξ
open Go Go.Am Go.Proofs
namespace Go.Am
def Bkk:Nat→Nat
 |0=>10
 |k+1=>2*(Bkk k*(Bkk k*Bkk k*Bkk k))
def Ok:Nat→Nat
 |0=>1
 |k+1=>Ok k*Bkk k
theorem aKv{k:Nat}(h:k≤3):Bkk k≤b1k:=by
 have:k=0∨k=1∨k=2∨k=3:=by omega
 rcases this with rfl|rfl|rfl|rfl<;>(unfold b1k;simp only[Bkk];decide)
theorem bGq{k:Nat}(h:k≤2):Bkk k*Bkk k≤b1k∧Bkk k*Bkk k*Bkk k≤b1k:=by
 have:k=0∨k=1∨k=2:=by omega
 rcases this with rfl|rfl|rfl<;>(unfold b1k;simp only[Bkk];decide)
theorem bRb{k:Nat}(h:k≤4):Ok k≤b1k:=by
 have:k=0∨k=1∨k=2∨k=3∨k=4:=by omega
 rcases this with rfl|rfl|rfl|rfl|rfl<;>(unfold b1k;simp only[Ok,Bkk];decide)
def aBy(B:Nat)(r:List Rat):Prop:=∀ q∈r,QB B q
theorem aUk{B:Nat}{a b:List Rat}{c:Rat}(ha:aBy B a)(hb:aBy B b)(hab:a.length≤b.length)(hc:QB (B*B) c):aBy (2*(B*(B*B*B))) (iT a b c):=fun q hq=>by
 obtain⟨i,hi,rfl⟩:=A1.1 hq
 have hi:=CI.1 hi
 rw[Ac,Ac,Ab hi,Ab (by omega)]
 exact(ha _ (Bj hi)).sub (hc.mul (hb _ (Bj (by omega))))
theorem vF(l:List Rat):one (.d (gA l))=true:=rfl
theorem nR(l:List Rat):dF (.d (gA l))=some [.d (gA l)]:=rfl
theorem rW(l:List Rat):aL (gA l)=.d (gA l):=rfl
theorem vI(l:List Rat):inj (gA l)=.d (gA l):=rfl
theorem pH(H:Hp)(avs:List AV)(l:List Rat):aX H avs (gA l)=bT H avs:=rfl
theorem aUz(l:List Int):one (.d (dB l))=true:=rfl
theorem aGp(l:List Int):dF (.d (dB l))=some [.d (dB l)]:=rfl
theorem aOe(l:List Int):aL (dB l)=.d (dB l):=rfl
theorem aVq(l:List Int):inj (dB l)=.d (dB l):=rfl
def cS(M:List (List Rat)):List D:=M.map gA
theorem cP(M:List (List Rat)):(cS M).length=M.length:=by simp[cS]
theorem aUa(M N:List (List Rat)):cS (M++N)=cS M++cS N:=by simp[cS]
theorem vC(M:List (List Rat))(i:Nat)(r:List Rat):(cS M).set i (gA r)=cS (M.set i r):=by unfold cS;rw[List.map_set]
theorem aTz(r:List Rat):cS [r]=[gA r]:=rfl
def dtS(M:List (List Rat))(o:Rat)(k:Nat):St:=StL [(2,.ptr 1 0),(4,.own 2 0 M.length 1),(5,.ptr 3 0),(7,.d (.i .i64 k))] none [.cells 40 [.d (.b false),.nil],.cells 132 ((cS M).map .d),.cells 130 [.d (.b (decide (o.num<0))),.d (aA (aJ o.num.natAbs)),.d (.b false),.d (aA (aJ o.den))]]
def aOw(M:List (List Rat))(o:Rat)(k a:Nat):St:=StL [(2,.ptr 1 0),(4,.own 2 0 M.length 1),(5,.ptr 3 0),(7,.d (.i .i64 k)),(8,.d (.i .i64 a))] none [.cells 40 [.d (.b false),.nil],.cells 132 ((cS M).map .d),.cells 130 [.d (.b (decide (o.num<0))),.d (aA (aJ o.num.natAbs)),.d (.b false),.d (aA (aJ o.den))]]
def aOv(M:List (List Rat))(o:Rat)(k i:Nat):St:=StL [(2,.ptr 1 0),(4,.own 2 0 M.length 1),(5,.ptr 3 0),(7,.d (.i .i64 k)),(9,.d (.i .i64 i))] none [.cells 40 [.d (.b false),.nil],.cells 132 ((cS M).map .d),.cells 130 [.d (.b (decide (o.num<0))),.d (aA (aJ o.num.natAbs)),.d (.b false),.d (aA (aJ o.den))]]
def dtI(n:Nat)(D:Rat)(k:Nat)(M:List (List Rat))(o:Rat):Prop:=k≤n∧Rw n M∧Sg n k D M o∧Lo n k M∧QB (Ok k) o∧∀ r,k≤r→r<n→aBy (Bkk k) (M.getD r [])
def dtE(n:Nat)(D:Rat)(k:Nat)(x:List Rat)(o:Rat)(i:Nat)(E:List (List Rat)):Prop:=k+1≤i∧i≤n∧Rw n E∧Sg n (k+1) D E o∧Lo n k E∧(∀ r,k<r→r<i→en E r k=0)∧E.getD k []=x∧(∀ r,k<r→r<i→aBy (Bkk (k+1)) (E.getD r []))∧(∀ r,i≤r→r<n→aBy (Bkk k) (E.getD r []))
def jR(n:Nat)(A:List (List Int)):D:=.ag [.i .i64 (n:Int),.i .i64 (n:Int),.sl (A.map fun v=>[dB v])]
def qY(A:List (List Int)):List (List Rat):=A.map oX
def aOx(n:Nat)(L:List (List D))(T:List (List Rat))(i:Nat):St:=StL [(1,.ptr 1 0),(2,.ptr 2 0),(4,.own 3 0 T.length 1),(5,.ptr 4 0),(6,.d (.i .i64 i))] none [.cells 29 [.d (.i .i64 n),.d (.i .i64 n),.d (.sl L)],.cells 40 [.d (.b false),.nil],.cells 132 ((cS T).map .d),.cells 130 [.d (.b (decide ((1:Rat).num<0))),.d (aA (aJ (1:Rat).num.natAbs)),.d (.b false),.d (aA (aJ (1:Rat).den))]]
set_option maxHeartbeats 8000000 in
set_option maxRecDepth 10000 in
theorem bTk[M:Mch Aa](n:Nat)(A:List (List Int))(d:Int)(hn:n≤4)(hA:A.length=n)(hAr:∀ v∈A,v.length=n)(hB:∀ v∈A,∀ z∈v,z.natAbs≤10)(hd:dN n (qY A)=(d:Rat)) :
  Spec Aa 33 [jR n A] (.tp [encZ d,.i .i64 0]):=by
 obtain⟨L,hL,hLl,hLg⟩:∃ L,(A.map fun v=>[dB v])=L∧L.length=A.length∧∀(i:Nat) (v:List Int),A[i]? = some v→L[i]? = some [dB v]:=⟨_,rfl,by simp,fun i v h=>by rw[Ag,h];rfl⟩
 have hOne:=bTm (M:=M)
 unfold jR
 rw[hL]
 refine bD (N:=127) Tryz.func33 ?_
 simp[-ζ,-ξ,↓KW]
 refine aD hOne ?_
 simp[-ζ,-ξ,↓KW,cH 1,aR]
 refine bJ (τ:=Nat) (fun i=>i≤n) (fun i=>aOx n L (qY (A.take i)) i) (fun i=>n-i) 0 (A5 _) ?_ ?_
 ·rw[Cx]
  show ∃ ρ,Wk _ (aOx _ _ [] _) ρ
  unfold aOx
  refine wkQ [1,2,3,4] ?_ ?_<;>simp[-ζ,upd,aL,Γ0,cS]
 ·intro i hi
  have hTl:(qY (A.take i)).length=i:=by simp[qY];omega
  by_cases hlt:i<n
  ·obtain⟨v,hge⟩:∃ x,A[i]? = some x:=⟨_,Ab (by omega)⟩
   have hLi:=hLg i _ hge
   have hLi':=cD hLi
   have hiL:i<L.length:=by omega
   have hvl:=hAr v (Ai hge)
   have hRt:=aFe v (by omega)
   have hT1:qY (A.take (i+1))=qY (A.take i)++[oX v]:=by rw[BE,hge];simp[qY]
   have hw0:Al.wrap (i:Int)=i:=aU
   have hw1:Al.wrap ((i:Int)+1)=((i+1:Nat):Int):=aU
   generalize oX v=q at *
   generalize qY (A.take i)=T at *
   have hbb:(i+1)*24≤140737488355328∧i+1≤1099511627776:=by omega
   simp[-ζ,-ξ,↓KW,aOx,hlt,hiL,hLi,hLi',hw0,aUz,aGp,aOe,aVq]
   refine aD hRt ?_
   simp[-ζ,-ξ,↓KW,cP,hTl,hbb,bY,hw1,vF,nR,rW,vI,pH]
   refine aK (i+1) (by omega) (by show n-(i+1)<n-i;omega) ?_
   show ∃ ρ,Wk _ (aOx _ _ _ _) ρ
   rw[hT1]
   unfold aOx
   refine wkQ [1,2,6,4] ?_ ?_<;>simp[-ζ,upd,aL,Γ0,B6,cF,aUa,aTz,A8,hTl]
  ·have hin:n=i:=by omega
   subst hin
   rw[AG (show A.length≤n by omega)]at hTl ⊢
   clear hlt hi
   have hI0:dtI n (d:Rat) 0 (qY A) 1:=by
    refine⟨A5 _,⟨hTl,fun i hi=>?_⟩,hd ▸ aZt n _,fun i j h=>by omega,?_,fun r _ hr=>?_⟩
    ·have hA':(qY A).getD i []=oX (A.getD i []):=by
      unfold qY;rw[Ac,Ag,Ac,Ab (by omega)];rfl
     rw[hA',Ac,Ab (by omega)]
     simp only[oX,BF,AT]
     exact hAr _ (Bj _)
    ·exact⟨by decide,by decide⟩
    ·have hA':(qY A).getD r []=oX (A.getD r []):=by
      unfold qY;rw[Ac,Ag,Ac,Ab (by omega)];rfl
     rw[hA',Ac,Ab (by omega)]
     intro q hq
     obtain⟨z,hz,rfl⟩:=A1.1 hq
     exact QB.int (hB _ (Bj _) z hz) (by decide)
   generalize qY A=M0 at *
   clear hd hB hAr hLg
   simp[-ζ,-ξ,↓KW,aOx]
   refine bF ?_
   simp[-ζ,-ξ,↓KW]
   refine bJ (τ:=Nat×List (List Rat)×Rat) (fun t=>dtI n d t.1 t.2.1 t.2.2) (fun t=>dtS t.2.1 t.2.2 t.1) (fun t=>n-t.1) (0,M0,1) hI0 ?_ ?_
   ·show ∃ ρ,Wk _ (dtS _ _ _) ρ
    unfold dtS
    refine wkQ [2,3,4] ?_ ?_<;>simp[-ζ,upd,aL,Γ0]
   ·rintro⟨k,R,o⟩ hI
    simp only at hI
    obtain⟨hkn,hRw,hSg,hLo,hO,hQ⟩:=hI
    have hRl:=hRw.1
    by_cases hk:k<n
    ·simp[-ζ,-ξ,↓KW,dtS,hk,cP,hRl]
     refine bJ (τ:=Nat) (fun a=>k≤a∧a≤n∧∀ r,k≤r→r<a→en R r k=0) (fun a=>aOw R o k a) (fun a=>n-a) k ⟨AA _,hkn,fun r h1 h2=>by omega⟩ ?_ ?_
     ·show ∃ ρ,Wk _ (aOw _ _ _ _) ρ
      unfold aOw
      refine wkQ [1,2,3] ?_ ?_<;>simp[-ζ,upd,aL,Γ0,hRl]
     ·rintro a ⟨hka,han,hz⟩
      by_cases ha:a<n
      ·obtain⟨x,hx⟩:∃ x,R.getD a []=x:=⟨_,rfl⟩
       obtain⟨Lx,hLx,hLxl,hLxg⟩:=uB x
       have hxl:x.length=n:=by rw[←hx];exact hRw.2 a ha
       obtain⟨q,hq⟩:∃ q,x[k]? = some q:=⟨_,Ab (by omega)⟩
       have hLk:=hLxg k q hq
       have hLk':=cD hLk
       have hra:(cS R)[a]? = some (.sl Lx):=by
        rw[←hLx,←hx];unfold cS;rw[Ag,Ac,Ab (by omega)];rfl
       have hra':∀ h,(cS R)[a]'h=.sl Lx:=fun h=>by rw[Ab h]at hra;injection hra
       have hqe:en R a k=q:=by unfold en;rw[hx,Ac,hq];rfl
       have hSn:=bLu q
       have hw0:Al.wrap (a:Int)=a:=aU
       have hwk:Al.wrap (k:Int)=k:=aU
       have hw1:Al.wrap ((a:Int)+1)=((a+1:Nat):Int):=aU
       have hkL:k<Lx.length:=by omega
       simp[-ζ,-ξ,↓KW,aOw,ha,cP,hRl,hra,hra',hw0,hwk,hkL,hLk,hLk',aR]
       refine aD hSn ?_
       by_cases hq0:q=0
       ·subst hq0
        simp[-ζ,-ξ,↓KW,hw1]
        refine aK (a+1) ⟨by omega,by omega,fun r h1 h2=>?_⟩ (by show n-(a+1)<n-a;omega) ?_
        ·by_cases hr:r=a
         ·rw[hr];exact hqe
         ·exact hz r h1 (by omega)
        ·show ∃ ρ,Wk _ (aOw _ _ _ _) ρ
         unfold aOw
         refine wkQ [1,2,3] ?_ ?_<;>simp[-ζ,upd,aL,Γ0,hRl]
       ·have hs0:(q.num.sign==0)=false:=by
         have:=aMp (b:=q.num) (fun h=>hq0 (Rat.num_eq_zero.1 h))
         rw[bne,C2]at this;exact this
        generalize q.num.sign=sg at *
        have hna:((a:Int)==(n:Int))=false:=by simp;omega
        have hna':¬a=n:=by omega
        simp[-ζ,-ξ,↓KW,hs0]
        refine bF ?_
        by_cases hak:a=k
        case' pos =>
         have hak:=hak.symm
         subst hak
         have hRw2:=hRw
         have hSg2:=hSg
         have hLo2:=hLo
         have hO2:=hO
         have hQ2:=hQ
         have hxk:=hx
         have piv:=hqe
         generalize hR2:R=R2 at *
         generalize o=o2 at *
         simp[-ζ,-ξ,↓KW,cP,hRl,hna,hna']
        case' neg =>
         have hak':((a:Int) != (k:Int))=true:=by simp;omega
         have hrk:(cS R)[k]? = some (gA (R.getD k [])):=by
          unfold cS;rw[Ag,Ac,Ab (by omega)];rfl
         have hrk':∀ h,(cS R)[k]'h=gA (R.getD k []):=fun h=>by rw[Ab h]at hrk;injection hrk
         have hl1:lay (Cs AV.d (cS R)) k [AV.d (D.sl Lx)]=Cs AV.d (cS (R.set k x)):=by
          rw[jO _ _ _ (by rw[cP];omega),←hLx,vC]
         have hl2:lay (Cs AV.d (cS (R.set k x))) a [AV.d (gA (R.getD k []))]=Cs AV.d (cS (oP R k a)):=by
          rw[jO _ _ _ (by rw[cP,CL];omega),vC];unfold oP;rw[hx]
         have hk1:k+1≤n:=hk
         have ha1:a+1≤n:=ha
         have hRw2:=bKq hRw hk ha
         have hSg2:=bKj hn hRl (show k<a by omega) ha hSg
         have hLo2:=bNl hRl (show k<a by omega) ha hLo
         have hO2:=hO.neg
         have hsg:=fun r=>bSq (M:=R) (k:=k) (a:=a) (r:=r) (by omega) (by omega)
         have hQ2:∀ r,k≤r→r<n→aBy (Bkk k) ((oP R k a).getD r []):=fun r h1 h2=>by
          rw[hsg]
          split
          ·exact hQ k (AA _) hk
          ·split
           ·exact hQ a hka ha
           ·exact hQ r h1 h2
         have hxk:(oP R k a).getD k []=x:=by rw[hsg,Ah (by omega),Ap rfl];exact hx
         have piv:en (oP R k a) k k=q:=by
          rw[bFg (by omega) (by omega) (by omega)];unfold swp;rw[Ap rfl];exact hqe
         have hNg:=bBh o (hO.mono (bRb (by omega)))
         clear hsg
         generalize R.getD k []=y at *
         generalize oP R k a=R2 at *
         generalize -o=o2 at *
         simp[-ζ,-ξ,↓KW,cP,hRl,hk1,ha1,hl1,hl2,CL,hna,hna',hak,hak',ha,hk,hra,hra',hrk,hrk',vF,nR,rW,vI,pH,aR]
         refine aD hNg ?_
         simp[-ζ,-ξ,↓KW,cH o2,aR]
        all_goals
         have hrk2:(cS R2)[k]? = some (.sl Lx):=by
          rw[←hLx,←hxk];unfold cS;rw[Ag,Ac,Ab (by have:=hRw2.1;omega)];rfl
         have hrk2':∀ h,(cS R2)[k]'h=.sl Lx:=fun h=>by rw[Ab h]at hrk2;injection hrk2
         have hqB:QB (Bkk k) q:=by
          have:=hQ2 k (AA _) hk
          rw[hxk]at this
          exact this q (Ai hq)
         have hMl:=bBi o2 q (hO2.mono (bRb (by omega))) (hqB.mono (aKv (by omega)))
         have hR2l:=hRw2.1
         simp[-ζ,-ξ,↓KW,hk,cP,hR2l,hrk2,hrk2',hwk,hkL,hLk,hLk',aR]
         refine aD hMl ?_
         have hO3:QB (Ok (k+1)) (o2*q):=hO2.mul hqB
         have hSg3:Sg n (k+1) d R2 (o2*q):=by
          have:=bSz hSg2
          rwa [piv]at this
         generalize o2*q=o3 at *
         have hwk1:Al.wrap ((k:Int)+1)=((k+1:Nat):Int):=aU
         simp[-ζ,-ξ,↓KW,cH o3,hwk1,aR]
         refine bJ (τ:=Nat×List (List Rat)) (fun t=>dtE n d k x o3 t.1 t.2) (fun t=>aOv t.2 o3 k t.1) (fun t=>n-t.1) (k+1,R2) ⟨AA _,hk,hRw2,hSg3,hLo2,fun r h1 h2=>by omega,hxk,fun r h1 h2=>by omega,fun r h1 h2=>hQ2 r (by omega) h2⟩ ?_ ?_
         ·show ∃ ρ,Wk _ (aOv _ _ _ _) ρ
          unfold aOv
          refine wkQ [1,2,3] ?_ ?_<;>simp[-ζ,upd,aL,Γ0,hR2l]
         ·rintro⟨i,E⟩ hE
          simp only at hE
          obtain⟨hki,hin,hRwE,hSgE,hLoE,hzE,hxE,hQ1,hQE⟩:=hE
          have hEl:=hRwE.1
          by_cases hi:i<n
          ·obtain⟨y,hy⟩:∃ y,E.getD i []=y:=⟨_,rfl⟩
           obtain⟨Ly,hLy,hLyl,hLyg⟩:=uB y
           have hyl:y.length=n:=by rw[←hy];exact hRwE.2 i hi
           obtain⟨u,hu⟩:∃ u,y[k]? = some u:=⟨_,Ab (by omega)⟩
           have hLu:=hLyg k u hu
           have hLu':=cD hLu
           have hre:(cS E)[i]? = some (.sl Ly):=by
            rw[←hLy,←hy];unfold cS;rw[Ag,Ac,Ab (by omega)];rfl
           have hre':∀ h,(cS E)[i]'h=.sl Ly:=fun h=>by rw[Ab h]at hre;injection hre
           have hrx:(cS E)[k]? = some (.sl Lx):=by
            rw[←hLx,←hxE];unfold cS;rw[Ag,Ac,Ab (by omega)];rfl
           have hrx':∀ h,(cS E)[k]'h=.sl Lx:=fun h=>by rw[Ab h]at hrx;injection hrx
           have hxl:x.length=n:=by rw[←hxE];exact hRwE.2 k hk
           have hyB:aBy (Bkk k) y:=hy ▸ hQE i (AA _) hi
           have hxB:aBy (Bkk k) x:=by
            have:=hQ2 k (AA _) hk
            rwa [hxk]at this
           have huB:QB (Bkk k) u:=hyB u (Ai hu)
           have hk2:k≤2:=by omega
           have hOv:=bLv u q hq0 (huB.mono (aKv (by omega))) (hqB.mono (aKv (by omega)))
           have hcB:QB (Bkk k*Bkk k) (u/q):=huB.div hqB hq0
           have hLs:=bLs y x (u/q) (by omega) (by omega) (hcB.mono (bGq hk2).1) (fun t ht=>(hyB t ht).mono (aKv (by omega))) (fun t ht=>(hxB t ht).mono (aKv (by omega))) (fun t ht=>(hcB.mul (hxB t ht)).mono (bGq hk2).2)
           rw[hLy,hLx]at hLs
           have hnB:aBy (Bkk (k+1)) (iT y x (u/q)):=aUk hyB hxB (by omega) hcB
           have huE:en E i k=u:=by unfold en;rw[hy,Ac,hu];rfl
           have hqE:en E k k=q:=by unfold en;rw[hxE,Ac,hq];rfl
           have hnew:dtE n d k x o3 (i+1) (elR E k i (u/q)):=by
            have hgt:=fun r=>bVl (M:=E) (k:=k) (i:=i) (r:=r) (c:=u/q) (by omega)
            refine⟨by omega,hi,bQv _ hRwE hi,bWq _ hn hRwE (by omega) hi (by omega) (by omega) hSgE,bXr _ hRwE (by omega) hi hLoE,fun r h1 h2=>?_,?_,fun r h1 h2=>?_,fun r h1 h2=>?_⟩
            ·rw[bFh _ hRwE hi r k hk]
             by_cases hr:r=i
             ·rw[Ap hr,huE,hqE];grind
             ·rw[Ah hr];exact hzE r h1 (by omega)
            ·rw[hgt,Ah (by omega)];exact hxE
            ·rw[hgt]
             by_cases hr:r=i
             ·rw[Ap hr,hy,hxE];exact hnB
             ·rw[Ah hr];exact hQ1 r h1 (by omega)
            ·rw[hgt,Ah (by omega)];exact hQE r (by omega) h2
           have hlE:lay (Cs AV.d (cS E)) i [AV.d (gA (iT y x (u/q)))]=Cs AV.d (cS (elR E k i (u/q))):=by
            rw[jO _ _ _ (by rw[cP];omega),vC];unfold elR;rw[hy,hxE]
           have hE1:(elR E k i (u/q)).length=n:=(bQv (k:=k) (u/q) hRwE hi).1
           generalize elR E k i (u/q)=E1 at *
           generalize iT y x (u/q)=w at *
           generalize u/q=c at *
           have hwi:Al.wrap (i:Int)=i:=aU
           have hwi1:Al.wrap ((i:Int)+1)=((i+1:Nat):Int):=aU
           have hkLy:k<Ly.length:=by omega
           have hi1:i+1≤n:=hi
           simp[-ζ,-ξ,↓KW,aOv,hi,hi1,hk,cP,hEl,hre,hre',hrx,hrx',hwi,hwk,hkL,hkLy,hLu,hLu',hLk,hLk',aR]
           refine aD hOv ?_
           simp[-ζ,-ξ,↓KW,cH c,hi,hi1,hk,cP,hEl,hre,hre',hrx,hrx',hwi,hwk,aR]
           refine aD hLs ?_
           simp[-ζ,-ξ,↓KW,hlE,hi,hi1,cP,hEl,hwi,hwi1,vF,nR,rW,vI,pH]
           refine aK (i+1,E1) hnew (by show n-(i+1)<n-i;omega) ?_
           show ∃ ρ,Wk _ (aOv _ _ _ _) ρ
           unfold aOv
           refine wkQ [1,2,3] ?_ ?_<;>simp[-ζ,upd,aL,Γ0,hE1,hEl]
          ·have hie:i=n:=by omega
           have hi':¬(i:Int)<(n:Int):=by omega
           have hdI:dtI n d (k+1) E o3:=⟨hk,hRwE,hSgE,bNm hLoE fun r h1 h2=>hzE r h1 (by omega),hO3,fun r h1 h2=>hQ1 r (by omega) (by omega)⟩
           simp[-ζ,-ξ,↓KW,aOv,hi,hi',cP,hEl]
           refine bF ?_
           simp[-ζ,-ξ,↓KW,hwk1]
           refine aK (k+1,E,o3) hdI (by show n-(k+1)<n-k;omega) ?_
           show ∃ ρ,Wk _ (dtS _ _ _) ρ
           unfold dtS
           refine wkQ [1,2,3] ?_ ?_<;>simp[-ζ,upd,aL,Γ0,hEl]
      ·have hae:a=n:=by omega
       have ha':¬(a:Int)<(n:Int):=by omega
       have hd0:d=0:=by
        have:=bKi hn hk hSg hLo fun r h1 h2=>hz r h1 (by omega)
        exact GF.1 this
       have hna:((a:Int)==(n:Int))=true:=by simp;omega
       subst hd0
       simp[-ζ,-ξ,↓KW,aOw,ha,ha',cP,hRl]
       refine bF ?_
       simp[-ζ,-ξ,↓KW,cP,hRl,hna,hae]
       exact bF (by simp[-ζ,-ξ,↓KW,eJ,bB 0,cA,aA])
    ·have hke:k=n:=by omega
     have hk':¬(k:Int)<(n:Int):=by omega
     subst hke
     have hod:=bTa hn hSg hLo
     subst hod
     simp[-ζ,-ξ,↓KW,dtS,hk',cP,hRl]
     refine bF ?_
     simp[-ζ,-ξ,↓KW,bB d,Rat.num_intCast,aR,eJ]
     exact decide_eq_decide.2 Iff.rfl
/-! Matrices by their entries -/
structure Sh(R c:Nat)(M:List (List Int)):Prop where
 len:M.length=R
 row:∀ v∈M,v.length=c
def ent(M:List (List Int))(r s:Nat):Int:=(M.getD r []).getD s 0
def mkM(R c:Nat)(f:Nat→Nat→Int):List (List Int):=(AK R).map fun r=>(AK c).map fun s=>f r s
theorem Sh.get{R c r:Nat}{M:List (List Int)}(h:Sh R c M)(hr:r<R):∃ v,M[r]? = some v∧v.length=c∧∀ s,v.getD s 0=ent M r s:=by
 have hl:r<M.length:=by rw[h.len];exact hr
 refine⟨M[r],Ab hl,h.row _ (Bj hl),fun s=>?_⟩
 unfold ent
 rw[Ac (l:=M),Ab hl];rfl
theorem bRc(R c:Nat)(f:Nat→Nat→Int):Sh R c (mkM R c f):=⟨by simp[mkM],fun v hv=>by obtain⟨r,_,rfl⟩:=A1.1 hv;simp⟩
theorem bUm{R c r s:Nat}(f:Nat→Nat→Int)(hr:r<R)(hs:s<c):ent (mkM R c f) r s=f r s:=by
 unfold ent mkM
 rw[Ac (l:=Cs _ _),Ag,Bn hr]
 simp only[AQ,AT]
 rw[Ac,Ag,Bn hs];rfl
theorem bNe{R c:Nat}{M M':List (List Int)}(h:Sh R c M)(h':Sh R c M')(he:∀ r s,r<R→s<c→ent M r s=ent M' r s):M=M':=by
 refine Fw (by rw[h.len,h'.len]) fun r h1 h2=>?_
 have hr:r<R:=by rw[←h.len];exact h1
 refine Fw (by rw[h.row _ (Bj h1),h'.row _ (Bj h2)]) fun s g1 g2=>?_
 have hs:s<c:=by rw[←h.row _ (Bj h1)];exact g1
 have:=he r s hr hs
 unfold ent at this
 rw[Ac (l:=M),Ab h1,Ac (l:=M'),Ab h2]at this
 simp only[AT]at this
 rw[Ac,Ab g1,Ac,Ab g2]at this
 exact this
theorem bSy{R c i:Nat}{M:List (List Int)}(h:Sh R c M){v:List Int}(hv:v.length=c):Sh R c (M.set i v) :=
 ⟨by rw[CL,h.len],fun w hw=>(List.mem_or_eq_of_mem_set hw).elim (h.row w) fun e=>e ▸ hv⟩
theorem bOz{R c i j:Nat}{M:List (List Int)}(h:Sh R c M){v:List Int}{z:Int}(hi:i<R)(hj:j<c)(hv:M[i]? = some v)(r s:Nat):ent (M.set i (v.set j z)) r s=if r=i∧s=j then z else ent M r s:=by
 have hl:i<M.length:=by rw[h.len];exact hi
 have hvl:v.length=c:=h.row v (Ai hv)
 unfold ent
 rw[Ac (l:=M.set i _),C3]
 by_cases e:r=i
 ·subst e
  rw[Ap rfl,Ap hl,Ac (l:=M),hv]
  simp only[AT,true_and]
  rw[Ac,C3]
  by_cases e2:s=j
  ·subst e2;rw[Ap rfl,Ap (by omega),Ap rfl];rfl
  ·rw[Ah (fun h=>e2 h.symm),Ah e2,Ac]
 ·rw[Ah (fun h=>e h.symm),Ah (fun h=>e h.1),Ac (l:=M)]
theorem aOt{R c i j:Nat}{M:List (List Int)}(h:Sh R c M){v:List Int}{z:Int}(hv:M[i]? = some v):Sh R c (M.set i (v.set j z)) :=
 bSy h (by rw[CL];exact h.row v (Ai hv))
theorem bXo{R c:Nat}{M:List (List Int)}(h:Sh R c M){f:Nat→Nat→Int}(he:∀ r s,r<R→s<c→ent M r s=f r s):M=mkM R c f :=
 bNe h (bRc R c f) fun r s hr hs=>by rw[he r s hr hs,bUm f hr hs]
/-! Heaps -/
def iV(b:Nat)(l:List HO):Hp:=fun id=>if id<b then none else l[id-b]?
theorem pO{b i:Nat}{l:List HO}:iV b l (i+b)=l[i]? := by unfold iV;rw[Ah (by omega),Dh]
theorem aAc{b:Nat}{l:List HO}{id:Nat}(h:l.length+b≤id):iV b l id=none:=by
 unfold iV;rw[Ah (by omega),AX (by omega)]
theorem aDm{b:Nat}{l:List HO}{id:Nat}(h1:b≤id)(h2:id<l.length+b):(iV b l id).isSome=true:=by
 unfold iV;rw[Ah (by omega),Ab (by omega)];rfl
def rfC(a n:Nat):AV→Bool
 |.d _|.nil=>true
 |.own id _ _ _=>decide (a≤id∧id<n)
 |.ptr id _=>decide (a≤id∧id<n)
 |_=>false
def rfO(a n:Nat):HO→Bool
 |.cells _ cs=>cs.all (rfC a n)
 |_=>false
theorem bLg{H H':Hp}{ρ:Nat→Nat}{a n:Nat}{c:AV}(hc:rfC a n c=true)(h:∀ id,a≤id→id<n→id=ρ id∧(H' id).isSome=true):mG H H' ρ c c:=by
 unfold rfC at hc
 split at hc
 ·exact(kM _ _).2 rfl
 ·trivial
 ·simp only[Bw]at hc
  obtain⟨h1,h2⟩:=h _ hc.1 hc.2
  exact⟨h1,rfl,rfl,rfl,h2⟩
 ·simp only[Bw]at hc
  obtain⟨h1,h2⟩:=h _ hc.1 hc.2
  exact⟨h1,rfl,h2⟩
 ·cases hc
theorem bLe{H H':Hp}{ρ:Nat→Nat}{a n:Nat}{o:HO}(ho:rfO a n o=true)(h:∀ id,a≤id→id<n→id=ρ id∧(H' id).isSome=true):mW H H' ρ o o:=by
 cases o with
 | cells e cs =>
  refine dL.2 ⟨rfl,dJ.2 ⟨rfl,fun k c d h1 h2=>?_⟩⟩
  rw[h1]at h2;injection h2 with h2;subst h2
  exact bLg (AW.1 ho c (Ai h1)) h
 |map k es=>cases ho
 |iter _ _ _=>cases ho
theorem bLf(a n:Nat)(v:List Int):rfO a n (aHy v)=true:=by
 unfold rfO aHy
 refine AW.2 fun c hc=>?_
 obtain⟨x,_,rfl⟩:=A1.1 hc;rfl
theorem bTi{a n c m:Nat}{M:List (List Int)}(h1:a≤m+1)(h2:m+1+M.length≤n):∀ o∈mB c M m,rfO a n o=true:=by
 intro o ho
 rcases Bq.1 ho with rfl|ho
 ·refine AW.2 fun x hx=>?_
  obtain⟨j,hj,rfl⟩:=A1.1 hx
  have:=CI.1 hj
  simp only[rfC,Bw];omega
 ·obtain⟨v,_,rfl⟩:=A1.1 ho
  exact bLf _ _ _
theorem aAb{H:Hp}{b:Nat}{l:List HO}(h:∀ o∈l,rfO b (l.length+b) o=true){id:Nat}{o:HO}(ho:iV b l id=some o):mW H (iV b l) (fun i=>i) o o:=by
 refine bLe (h o ?_) fun id h1 h2=>⟨rfl,aDm h1 h2⟩
 unfold iV at ho
 split at ho
 ·cases ho
 ·exact Ai ho
theorem aRx{b c m:Nat}{pre post:List HO}{M:List (List Int)}(hm:m=pre.length+b):iV b (pre++mB c M m++post) m=some (.cells 93 (hdr c M.length (m+1))):=by
 subst hm
 rw[pO,CG,AM (AA _),CN];rfl
theorem aGf{b c m j:Nat}{pre post:List HO}{M:List (List Int)}{v:List Int}(hm:m=pre.length+b)(hv:M[j]? = some v):iV b (pre++mB c M m++post) (j+(m+1))=some (aHy v):=by
 have hj:=(Ao.1 hv).1
 rw[show j+(m+1)=(j+1+pre.length)+b by omega,pO,CG,AM (by omega),Dh,AP (by rw[nI];omega)]
 simp only[mB,Bt,Ag,hv,AQ]
theorem bOu{b c m i:Nat}{pre post:List HO}{M:List (List Int)}{v:List Int}(hm:m=pre.length+b)(hi:i<M.length)(id:Nat) :
  iV b (pre++mB c (M.set i v) m++post) id=if id=i+(m+1)then some (aHy v)else iV b (pre++mB c M m++post) id:=by
 by_cases e:id=i+(m+1)
 ·rw[Ap e,e]
  exact aGf hm (List.getElem?_set_self hi)
 ·rw[Ah e]
  unfold iV
  by_cases h0:id<b
  ·rw[Ap h0,Ap h0]
  ·rw[Ah h0,Ah h0]
   have hl:(mB c (M.set i v) m).length=(mB c M m).length:=by rw[nI,nI,CL]
   rw[CG,CG]
   rcases Az (id-b) pre.length with h1|h1
   ·rw[AP h1,AP h1]
   ·rw[AM h1,AM h1]
    rcases Az (id-b-pre.length) (mB c M m).length with h2|h2
    ·rw[AP (by omega),AP h2]
     generalize hk:id-b-pre.length=k at *
     rcases k with _|k
     ·simp[mB]
     ·simp only[mB,Bt,Ag]
      rw[D9 (by omega)]
    ·rw[AM (by omega),AM h2,hl]
theorem aGg{c m:Nat}{pre post:List HO}{M:List (List Int)}:(pre++mB c M m++post).length=pre.length+M.length+1+post.length:=by
 rw[A8,A8,nI];omega
theorem bNq{v:List Int}{j:Nat}(z:Int)(hj:j<v.length):lay ((vcs v).map AV.d) (j*2) [.d (.b (decide (z<0))),.d (aA (aJ z.natAbs))]=(vcs (v.set j z)).map .d:=by
 rw[←aQj _ hj]
 simp[lay,uC]
theorem bJm{b c m i:Nat}{pre post:List HO}{M:List (List Int)}{v:List Int}(hm:m=pre.length+b)(hi:i<M.length) :
  upd (iV b (pre++mB c M m++post)) (i+(m+1)) (some (aHy v))=iV b (pre++mB c (M.set i v) m++post):=by
 funext id
 rw[bOu hm hi]
 rfl
theorem aRy{b n:Nat}{pre l:List HO}(h:n=pre.length+b):gF (iV b pre) n l=iV b (pre++l):=by
 funext id
 subst h
 unfold gF iV
 by_cases h0:id<b
 ·rw[Ah (by omega),Ap h0,Ap h0]
 ·rw[Ah h0]
  by_cases h1:pre.length+b≤id∧id<pre.length+b+l.length
  ·rw[Ap h1,Ah h0,AM (by omega),show id-b-pre.length=id-(pre.length+b)by omega]
  ·rw[Ah h1,Ah h0]
   rcases Az (id-b) pre.length with h2|h2
   ·rw[AP h2]
   ·rw[AX h2,AM h2,AX (by omega)]
theorem aKf{b n:Nat}{l:List HO}{p:HO}(h:n=l.length+b):upd (iV b l) n (some p)=iV b (l++[p]):=by
 rw[←aRy h]
 funext id
 unfold upd gF
 simp only[BD]
 by_cases e:id=n
 ·subst e;rw[Ap rfl,Ap (by omega),CN];rfl
 ·rw[Ah e,Ah (by omega)]
theorem bOw(b:Nat):(fun _=>none:Hp)=iV b []:=by
 funext id;unfold iV;split<;>rfl
theorem aSz{H:Hp}{n:Nat}{a a':Option HO}:upd (upd H n a) n a'=upd H n a':=by
 funext id;unfold upd;split<;>rfl
theorem bOv(a:HO):upd (fun _=>none) 1 (some a)=iV 1 [a]:=by rw[bOw 1];exact aKf rfl
theorem aKg{b c m n:Nat}{pre:List HO}{M:List (List Int)}{p:HO}(hn:n=pre.length+b+(M.length+1)):iV b (pre++mB c M m++[p]) n=some p:=by
 subst hn
 rw[show pre.length+b+(M.length+1)=(pre.length+M.length+1)+b by omega,pO,AM (by rw[A8,nI];omega),A8,nI,
  show pre.length+M.length+1-(pre.length+(M.length+1))=0 by omega];rfl
def aSa(l:List Int):D:=.sl (l.map fun n=>[D.i .i8 n])
def vf(l:List Int)(t:Nat):Int:=(l.getD t 0).tmod 10
theorem bQq(l:List Int)(t:Nat):(vf l t).natAbs≤10:=by
 have h1:=Int.tmod_lt_of_pos (l.getD t 0) (b:=10) (by decide)
 have h2:=Int.tmod_lt_of_pos (-(l.getD t 0)) (b:=10) (by decide)
 rw[Int.neg_tmod]at h2
 show((l.getD t 0).tmod 10).natAbs≤10
 omega
def rcM(l:List Int)(n c:Nat):List (List Int):=mkM n c fun r s=>vf l (r*c+s)
def lT(n c:Nat)(A:List (List Int)):D:=.ag [.i .i64 (n:Int),.i .i64 (c:Int),.sl (A.map fun v=>[dB v])]
def sqF(l:List Int)(c i j r s:Nat):Int:=if r<i∨(r=i∧s<j)then vf l (r*c+s)else 0
theorem aXu{n:Int}(h1:-128≤n)(h2:n≤127):IntKind.i8.wrap n=n:=by
 unfold IntKind.wrap
 simp[Dt,IntKind.signed]
 omega
theorem aKj(l:List Int):∃ L,aSa l=.sl L∧L.length=l.length∧∀(i:Nat) (z:Int),l[i]? = some z→L[i]? = some [D.i .i8 z]:=⟨_,rfl,by simp,fun i x hx=>by rw[Ag,hx];rfl⟩
def fqH(n c:Nat)(M:List (List Int)):Hp:=iV 1 ([.cells 29 [.d (.i .i64 0),.d (.i .i64 0),.nil]]++mB c M 2++[.cells 29 [.d (.i .i64 (n:Int)),.d (.i .i64 (c:Int)),.own 2 0 n 1]])
theorem pM{n c:Nat}{M:List (List Int)}(hM:Sh n c M){H:Hp}{id:Nat}{o:HO}(ho:fqH n c M id=some o):mW H (fqH n c M) (fun i=>i) o o:=by
 refine aAb (fun o ho=>?_) ho
 rw[aGg,hM.len,BD,BD]
 rcases BU.1 ho with ho|ho
 ·rcases BU.1 ho with ho|ho
  ·rw[BY.1 ho];rfl
  ·exact bTi (by omega) (by rw[hM.len];omega) o ho
 ·rw[BY.1 ho]
  simp only[rfO,rfC,List.all_cons,List.all_nil,Bool.and_true,FG,Bw];omega
theorem tV{n c:Nat}{M:List (List Int)}(hM:Sh n c M){id:Nat}(h:n+4≤id):fqH n c M id=none :=
 aAc (by rw[aGg,hM.len,BD,BD];omega)
theorem kV{n c:Nat}{M:List (List Int)}(hM:Sh n c M){id:Nat}(h1:1≤id)(h2:id<n+4):(fqH n c M id).isSome=true :=
 aDm h1 (by rw[aGg,hM.len,BD,BD];omega)
set_option maxHeartbeats 8000000 in
set_option maxRecDepth 10000 in
theorem aNg[M:Mch Aa](l:List Int)(n c:Nat)(hn:n≤16)(hc:c≤16)(hb:∀ x∈l,-128≤x∧x≤127)(hll:l.length≤9223372036854775807) :
  Spec Aa 22 [.i .i64 (n:Int),.i .i64 (c:Int),aSa l] (lT n c (rcM l n c)):=by
 obtain⟨L,hL,hLl,hLg⟩:=aKj l
 rw[hL]
 refine bD (N:=60) Tryz.func22 ?_
 have hN:=aFf (M:=M) n c (by omega) (by omega)
 have m1:¬(n:Int)<0:=by omega
 have m2:¬(16:Int)<n:=by omega
 have m3:¬16<n:=by omega
 have m1c:¬(c:Int)<0:=by omega
 have m2c:¬(16:Int)<c:=by omega
 have m3c:¬16<c:=by omega
 simp[-ζ,-ξ,↓KW,m1,m2,m3,m1c,m2c,m3c]
 refine kO [.i .i64 (n:Int),.i .i64 (c:Int)] (nwV n c) (mB c (As n (As c 0))) (by simp) (by simp) (by simp) (by rfl) (by rfl) hN ?_
 have hne1:¬1=2+(n+1):=by omega
 have hz0:Sh n c (As n (As c (0:Int))):=⟨by simp,fun v hv=>by rw[Ed hv];simp⟩
 have hH0:∀ p q:HO,upd (gF (upd (fun _=>none) 1 (some q)) 2 (mB c (As n (As c 0)) 2)) (2+(n+1)) (some p)=iV 1 ([q]++mB c (As n (As c 0)) 2++[p]):=fun p q=>by
  rw[bOv,aRy (n:=2) (pre:=[_]) rfl,aKf (by rw[A8,nI,Fu,BD];omega)]
 simp[-ζ,-ξ,↓KW,nwV,nI,gF,hne1]
 refine bX (fun x:Nat×List (List Int)=>x.1≤n∧Sh n c x.2∧∀ r s,r<n→s<c→ent x.2 r s=sqF l c x.1 0 r s) (fun x=>⟨fV [(2,.d (.sl L)),(6,.ptr 1 0),(7,.ptr (n+3) 0),(8,.d (.i .i64 (x.1:Int)))],fqH n c x.2,n+4⟩) (fun x=>n-x.1)
  (0,As n (As c 0)) ⟨A5 _,hz0,fun r s hr hs=>?_⟩ ?_ ?_
 ·unfold ent sqF
  rw[Ah (by omega),Ac (l:=As n _),DM,Ap hr]
  simp only[AT]
  rw[Ac,DM,Ap hs];rfl
 ·rw[aSz,hH0]
  refine⟨_,lH ?_ (fun id o' ho=>⟨o',ho,pM hz0 ho⟩) (fun id hid=>tV hz0 hid) (by simp)⟩
  have g1:=kV hz0 (id:=1) (by omega) (by omega)
  have g4:=kV hz0 (id:=n+3) (by omega) (by omega)
  have g5:2+(n+1)=n+3:=by omega
  simp[-ζ,upd,aL,Γ0,g1,g4,g5]
 ·rintro⟨i,M⟩ ⟨hi,hM,hME⟩
  simp only at hi hM hME
  have hH1:fqH n c M 1=some (.cells 29 [.d (.i .i64 0),.d (.i .i64 0),.nil]):=rfl
  have hHo:fqH n c M (n+3)=some (.cells 29 [.d (.i .i64 (n:Int)),.d (.i .i64 (c:Int)),.own 2 0 n 1]):=aKg (by rw[hM.len,BD];omega)
  by_cases hgi:i<n
  ·have q1:(i:Int)<n:=by omega
   have hw:Al.wrap ((i:Int)+1)=(i:Int)+1:=aU
   have hsome:=fun id=>kV hM (id:=id)
   have htop:=fun id=>tV hM (id:=id)
   have hself:=fun(H:Hp) id o=>pM hM (H:=H) (id:=id) (o:=o)
   generalize hHg:fqH n c M=H at *
   simp[-ζ,-ξ,↓KW,q1,hH1,hHo]
   refine bX (fun x:Nat×List (List Int)=>x.1≤c∧Sh n c x.2∧∀ r s,r<n→s<c→ent x.2 r s=sqF l c i x.1 r s) (fun x=>⟨fV [(2,.d (.sl L)),(6,.ptr 1 0),(7,.ptr (n+3) 0),(8,.d (.i .i64 (i:Int))),(9,.d (.i .i64 (x.1:Int)))],fqH n c x.2,n+4⟩) (fun x=>c-x.1)
    (0,M) ⟨A5 _,hM,hME⟩ ?_ ?_
   ·rw[hHg]
    refine⟨_,lH ?_ (fun id o' ho=>⟨o',ho,hself _ _ _ ho⟩) (fun id hid=>htop id hid) (by simp)⟩
    have g1:=hsome 1 (by omega) (by omega)
    have g4:=hsome (n+3) (by omega) (by omega)
    simp[-ζ,upd,aL,Γ0,g1,g4]
   ·clear hHg hH1 hHo hsome htop hself hM hME
    rintro⟨j,M⟩ ⟨hj,hM,hME⟩
    simp only at hj hM hME
    have hH1:fqH n c M 1=some (.cells 29 [.d (.i .i64 0),.d (.i .i64 0),.nil]):=rfl
    have hHo:fqH n c M (n+3)=some (.cells 29 [.d (.i .i64 (n:Int)),.d (.i .i64 (c:Int)),.own 2 0 n 1]):=aKg (by rw[hM.len,BD];omega)
    have hHh:fqH n c M 2=some (.cells 93 (hdr c n 3)):=by
     have:=aRx (b:=1) (c:=c) (m:=2) (pre:=[.cells 29 [.d (.i .i64 0),.d (.i .i64 0),.nil]]) (M:=M) (post:=[.cells 29 [.d (.i .i64 (n:Int)),.d (.i .i64 (c:Int)),.own 2 0 n 1]]) rfl
     rwa [hM.len]at this
    obtain⟨v,hv,hvl,hve⟩:=hM.get hgi
    have hHi:fqH n c M (i+3)=some (.cells 40 ((vcs v).map .d)):=aGf (m:=2) rfl hv
    have hin:i*c≤16*16:=A3 (by omega) hc
    have hmm:((i:Int)*(c:Int))=((i*c:Nat):Int):=by rw[B9]
    obtain⟨q,hq⟩:∃ q,q=i*c+j:=⟨_,rfl⟩
    obtain⟨t,ht⟩:∃ t,t=i*c:=⟨_,rfl⟩
    rw[←ht]at hmm hin hq
    have hwm:Al.wrap ((i:Int)*(c:Int))=(t:Int):=by rw[hmm];exact aU
    have hwq:Al.wrap ((t:Int)+(j:Int))=(q:Int):=by rw[hq,D7];exact aU
    by_cases hgj:j<c
    ·have q2:(j:Int)<c:=by omega
     have hw2:Al.wrap ((j:Int)+1)=(j:Int)+1:=aU
     by_cases hql:q<l.length
     ·have q3:q<L.length:=by omega
      have q3':(q:Int)<L.length:=by omega
      have hwq0:Al.wrap (q:Int)=q:=aU
      obtain⟨z,hz⟩:∃ z,l[q]? = some z:=⟨_,Ab hql⟩
      have hLi:=hLg q z hz
      have hLi':=cD hLi
      have hz8:=hb _ (Ai hz)
      have hvq:vf l (i*c+j)=z.tmod 10:=by
       unfold vf;rw[←ht,←hq,Ac,hz];rfl
      obtain⟨u,hu⟩:∃ u,z.tmod 10=u:=⟨_,rfl⟩
      have hub:=bQq l (i*c+j)
      rw[hu]at hvq
      rw[hvq]at hub
      have hw8:IntKind.i8.wrap u=u:=aXu (by omega) (by omega)
      have hwu:Al.wrap u=u:=aU
      have hof:=aIk u (by omega) (by omega)
      have hM':Sh n c (M.set i (v.set j u)):=aOt hM hv
      have hupd:upd (fqH n c M) (i+3) (some (.cells 40 ((vcs (v.set j u)).map .d)))=fqH n c (M.set i (v.set j u)):=bJm (m:=2) rfl (by rw[hM.len];exact hgi)
      have hlay:=bNq (v:=v) u (j:=j) (by rw[hvl];exact hgj)
      have hvcl:=aEj v
      rw[hvl]at hvcl
      have hj2:j*2+2≤c*2:=by omega
      have hg:=xU (c:=c) (b:=3) hgi
      have hgl:=kD c n 3
      have hg2:∀ h:i<(hdr c n 3).length,(hdr c n 3)[i]'h=.own (i+3) 0 c 2:=fun h=>Bg ((Ab h).symm.trans hg)
      generalize hHg:fqH n c M=H at *
      generalize hdr c n 3=cellsR at *
      simp[-ζ,-ξ,↓KW,q1,q2,q3,q3',hwm,hwq,hwq0,hLi,hLi',hu,hw8,hwu,hH1,hHo,hHh,hHi,hg,hg2,hgl,hgi,hgj]
      refine aD hof ?_
      rw[bB]
      simp[-ζ,-ξ,↓KW,hw2,hH1,hHo,hHh,hHi,hg,hg2,hgl,hgi,hgj,hj2,hvcl,hlay,aR]
      rw[hupd]
      refine aK (j+1,M.set i (v.set j u)) ⟨hgj,hM',fun r s hr hs=>?_⟩ (E4 hgj (Cr _)) ?_
      ·rw[bOz hM hgi hgj hv,hME r s hr hs]
       simp only[sqF]
       split
       ·rename_i e;rw[Ap (by omega),e.1,e.2,hvq]
       ·split
        ·rw[Ap (by omega)]
        ·rw[Ah (by omega)]
      ·refine⟨_,lH ?_ (fun id o' ho=>⟨o',ho,pM hM' ho⟩) (fun id hid=>tV hM' hid) (by simp)⟩
       have g1:=kV hM' (id:=1) (by omega) (by omega)
       have g4:=kV hM' (id:=n+3) (by omega) (by omega)
       simp[-ζ,upd,aL,Γ0,g1,g4]
     ·have q3:¬q<L.length:=by omega
      have q3':¬(q:Int)<L.length:=by omega
      have hsome:=fun id=>kV hM (id:=id)
      have htop:=fun id=>tV hM (id:=id)
      have hself:=fun(H:Hp) id o=>pM hM (H:=H) (id:=id) (o:=o)
      generalize hHg:fqH n c M=H at *
      simp[-ζ,-ξ,↓KW,q1,q2,q3,q3',hwm,hwq,hH1,hHo,hw]
      refine aK (i+1,M) ⟨hgi,hM,fun r s hr hs=>?_⟩ (E4 hgi (Cr _)) ?_
      ·rw[hME r s hr hs]
       simp only[sqF]
       by_cases e:r<i∨(r=i∧s<j)
       ·rw[Ap e,Ap (by omega)]
       ·rw[Ah e]
        by_cases e2:r<i+1∨(r=i+1∧s<0)
        ·have er:r=i:=by omega
         rw[Ap e2,er,←ht]
         unfold vf
         rw[Ac,AX (by omega)];rfl
        ·rw[Ah e2]
      ·rw[hHg]
       refine⟨_,lH ?_ (fun id o' ho=>⟨o',ho,hself _ _ _ ho⟩) (fun id hid=>htop id hid) (by simp)⟩
       have g1:=hsome 1 (by omega) (by omega)
       have g4:=hsome (n+3) (by omega) (by omega)
       simp[-ζ,upd,aL,Γ0,g1,g4]
    ·have q2:¬(j:Int)<c:=by omega
     have ej:j=c:=by omega
     have hsome:=fun id=>kV hM (id:=id)
     have htop:=fun id=>tV hM (id:=id)
     have hself:=fun(H:Hp) id o=>pM hM (H:=H) (id:=id) (o:=o)
     generalize hHg:fqH n c M=H at *
     simp[-ζ,-ξ,↓KW,q2,hH1,hHo,hw]
     refine aK (i+1,M) ⟨hgi,hM,fun r s hr hs=>?_⟩ (E4 hgi (Cr _)) ?_
     ·rw[hME r s hr hs]
      simp only[sqF]
      by_cases e:r<i∨(r=i∧s<j)
      ·rw[Ap e,Ap (by omega)]
      ·rw[Ah e,Ah (by omega)]
     ·rw[hHg]
      refine⟨_,lH ?_ (fun id o' ho=>⟨o',ho,hself _ _ _ ho⟩) (fun id hid=>htop id hid) (by simp)⟩
      have g1:=hsome 1 (by omega) (by omega)
      have g4:=hsome (n+3) (by omega) (by omega)
      simp[-ζ,upd,aL,Γ0,g1,g4]
  ·have q1:¬(i:Int)<n:=by omega
   have hMk:M=rcM l n c:=bXo hM fun r s hr hs=>by
    rw[hME r s hr hs];simp only[sqF];rw[Ap (by omega)]
   have hMl:=hM.len
   have hHh:fqH n c M 2=some (.cells 93 (hdr c n 3)):=by
    have:=aRx (b:=1) (c:=c) (m:=2) (pre:=[.cells 29 [.d (.i .i64 0),.d (.i .i64 0),.nil]]) (M:=M) (post:=[.cells 29 [.d (.i .i64 (n:Int)),.d (.i .i64 (c:Int)),.own 2 0 n 1]]) rfl
    rwa [hM.len]at this
   have hfr:∀(H:Hp),(∀ id,id<n→H (id+3)=fqH n c M (id+3))→(hdr c n 3).mapM (frz H 6)=some (M.map dB):=fun H hH=>by
    rw[mapM_some (frz H 6) (fun k=>dB (M.getD k [])) _ fun k x hx=>by
     have hlt:k<n:=by have:=(Ao.1 hx).1;rwa [kD]at this
     rw[xU hlt]at hx
     injection hx with hx;subst hx
     obtain⟨v,hv,hvl,hve⟩:=hM.get hlt
     have hHi:fqH n c M (k+3)=some (.cells 40 ((vcs v).map .d)):=aGf (m:=2) rfl hv
     rw[Ac,hv,AT]
     exact bEp 4 (by rw[hH k hlt,hHi]) hvl]
    congr 1
    apply C4
    intro k
    rw[kD]
    by_cases hk:k<n
    ·rw[Ag,Bn hk,Ag,AQ,Ac,Ab (by omega)];rfl
    ·rw[AX (by simpa using hk),AX (by simpa[hMl]using hk)]
   have hgl:=kD c n 3
   have htk:Fy n (hdr c n 3)=hdr c n 3:=AG (by rw[hgl];exact AA _)
   rw[←hMk]
   generalize fqH n c M=H at *
   generalize hdr c n 3=cellsR at *
   have hml:(M.map dB).length=n:=by rw[BF,hMl]
   simp[-ζ,-ξ,↓KW,q1,hH1,hHo,hHh,lT,hgl,htk]
   have hch:chunk 1 n (M.map dB)=M.map fun v=>[dB v]:=by rw[mS _ _ hml.symm,DH];rfl
   rw[hfr _ (fun id hid=>by simp[upd])]
   simp[-ζ,hch]
def blL(z:Int)(l:List (Nat×Nat×Nat)):List Int:=(l.filter fun x=>z%(x.2.1:Int) != (x.2.2:Int)).map fun x=>(x.1:Int)
theorem bGp(z:Int)(l:List (Nat×Nat×Nat))(w p v:Nat):blL z (l++[(w,p,v)])=blL z l++if z%(p:Int)=(v:Int)then[]else[(w:Int)]:=by
 unfold blL
 rw[List.filter_append,FT]
 congr 1
 by_cases h:z%(p:Int)=(v:Int)<;>simp[h]
theorem bVp(z:Int)(l:List (Nat×Nat×Nat)):(blL z l).length≤l.length:=by
 unfold blL;rw[BF];exact List.length_filter_le ..
end Go.Am
end
section
open List renaming map_map→ζ,mapM_map→ξ
namespace Go.Am
def sqS:List Int→Nat
 |[]=>0
 |z::v=>z.natAbs*z.natAbs+sqS v
theorem aZj{B:Nat}:∀{v:List Int} {n:Nat},v.length≤n→(∀ z∈v,z.natAbs≤B)→sqS v≤n*(B*B)
 |[],n,_,_=>A5 _
 |z::v,0,h,_=>by simp at h
 | z::v,n+1,h,hb=>by
  have h1:=aZj (v:=v) (n:=n) (by simpa using h) fun y hy=>hb y (AJ _ hy)
  have h2:=A3 (hb z (AI ..)) (hb z (AI ..))
  rw[sqS,Nat.succ_mul];omega
def aIs(n:Nat)(A:List (List Int))(i j:Nat):Int:=if i<n∧j<n then(A.getD i []).getD j 0 else if i=j then 1 else 0
def iL(n:Nat)(A:List (List Int)):Int:=fR (aIs n A)
theorem bPn{n:Nat}{A:List (List Int)}(hA:A.length=n):dN n (qY A)=((iL n A:Int):Rat):=by
 unfold dN iL
 rw[←jK]
 congr 1
 funext i j
 unfold pad aIs
 by_cases h:i<n∧j<n
 ·rw[Ap h,Ap h]
  unfold en qY
  rw[Ac (l:=A.map oX),Ag,Ac (l:=A),Ab (by omega)]
  simp only[AQ,AT,oX]
  rw[Ac,Ag,Ac]
  cases(A[i])[j]?<;>rfl
 ·rw[Ah h,Ah h]
  split<;>rfl
def rsq(x:Nat→Int):Int:=x 0^2+x 1^2+x 2^2+x 3^2
theorem yO(z:Int):((z.natAbs*z.natAbs:Nat):Int)=z^2:=by rw[Int.natAbs_mul_self,Int.pow_succ,Int.pow_one]
theorem bLa{n:Nat}(hn:n≤4){v:List Int}(hv:v.length=n):rsq (fun j=>if j<n then v.getD j 0 else 0)=(sqS v:Int):=by
 have:n=0∨n=1∨n=2∨n=3∨n=4:=by omega
 rcases this with rfl|rfl|rfl|rfl|rfl
 ·match v,hv with
  |[],_=>rfl
 ·match v,hv with
  |[a],_=>simp[rsq,sqS,←yO]
 ·match v,hv with
  |[a,b],_=>simp[rsq,sqS,←yO]
 ·match v,hv with
  |[a,b,c],_=>simp[rsq,sqS,←yO];omega
 ·match v,hv with
  |[a,b,c,d],_=>simp[rsq,sqS,←yO];omega
theorem xL{n:Nat}(hn:n≤4){A:List (List Int)}(hA:A.length=n)(hr:∀ v∈A,v.length=n){i:Nat}(hi:i≤3):rsq (aIs n A i)=if i<n then(sqS (A.getD i []):Int)else 1:=by
 by_cases h:i<n
 ·rw[Ap h,Ac,Ab (by omega),AT,←bLa hn (hr _ (Bj (by omega)))]
  congr 1
  funext j
  unfold aIs
  by_cases hj:j<n
  ·rw[Ap ⟨h,hj⟩,Ap hj,Ac (l:=A),Ab (by omega),AT]
  ·rw[Ah (fun h'=>hj h'.2),Ah (by omega),Ah hj]
 ·rw[Ah h]
  have:i=0∨i=1∨i=2∨i=3:=by omega
  rcases this with rfl|rfl|rfl|rfl<;>simp[rsq,aIs,h]
theorem bEk{n:Nat}(hn:n≤4){A:List (List Int)}(hA:A.length=n)(hr:∀ v∈A,v.length=n):(iL n A).natAbs*(iL n A).natAbs≤eK (A.map sqS):=by
 have h:=cAg (aIs n A)
 have h0:=xL hn hA hr (i:=0) (by decide)
 have h1:=xL hn hA hr (i:=1) (by decide)
 have h2:=xL hn hA hr (i:=2) (by decide)
 have h3:=xL hn hA hr (i:=3) (by decide)
 unfold rsq at h0 h1 h2 h3
 rw[h0,h1,h2,h3]at h
 have h':(((iL n A).natAbs*(iL n A).natAbs:Nat):Int)≤((eK (A.map sqS):Nat):Int):=by
  rw[yO]
  refine Int.le_trans h (Int.le_of_eq ?_)
  have:n=0∨n=1∨n=2∨n=3∨n=4:=by omega
  rcases this with rfl|rfl|rfl|rfl|rfl
  ·match A,hA with
   |[],_=>simp[eK]
  ·match A,hA with
   |[a],_=>simp[eK]
  ·match A,hA with
   |[a,b],_=>simp[eK]
  ·match A,hA with
   |[a,b,c],_=>simp[eK,FH]
  ·match A,hA with
   |[a,b,c,d],_=>simp[eK,FH]
 exact_mod_cast h'
theorem bDg{a b:Nat}(h:a*a≤b*b):a≤b:=by
 rcases Az b a with h'|h'
 ·have:=Nat.mul_lt_mul'' h' h';omega
 ·exact h'
theorem bBm{A:List (List Int)}(hA:A.length≤4)(hr:∀ v∈A,v.length≤4)(hB:∀ v∈A,∀ z∈v,z.natAbs≤10):eK (A.map sqS)≤25600000000:=by
 have hk:∀ L:List (List Int),(∀ v∈L,sqS v≤400)→eK (L.map sqS)≤400^L.length:=fun L=>by
  induction L with
  |nil=>intro _;exact AA _
  | cons v L ih =>
   intro h
   have h1:=ih fun w hw=>h w (AJ _ hw)
   have h2:=A3 (h v (AI ..)) h1
   rw[BO,eK,Aj,BH,BJ (400^L.length)]
   exact h2
 refine AY (hk A fun v hv=>?_) (AY (Dj (by decide) hA) (by decide))
 exact AY (aZj (n:=4) (B:=10) (hr v hv) fun z hz=>hB v hv z hz) (by decide)
end Go.Am
end
section
open List renaming map_map→ζ,mapM_map→ξ
open Go Go.Am Go.Proofs
namespace Go.Am
abbrev Rp3:=Nat×Nat×Nat
def kT(d:Int)(ps:List Nat):List Rp3:=(AK ps.length).map fun i=>(i,ps.getD i 0,(d%(ps.getD i 0:Int)).toNat)
theorem pK(d:Int)(ps:List Nat):(kT d ps).length=ps.length:=by simp[kT]
theorem aRt(d:Int)(ps:List Nat):pmL (kT d ps)=ps:=by
 unfold pmL kT
 rw[DH]
 apply Fw (by simp)
 intro i h1 h2
 simp only[List.getElem_map,List.getElem_range,Function.comp]
 rw[Ac,Ab h2];rfl
theorem bOi(d:Int)(ps:List Nat):wkL (kT d ps)=AK ps.length:=by
 unfold wkL kT
 rw[DH]
 exact(Dx fun i _=>rfl).trans (List.map_id _)
theorem bFi{d:Int}{p:Nat}(hp:0<p):(d%(p:Int)).toNat<p:=by
 have h1:=De d (b:=(p:Int)) (by omega)
 have h2:=Gb d (b:=(p:Int)) (by omega)
 omega
theorem bQd{d:Int}{l:List Rp3}(h:∀ x∈l,d%(x.2.1:Int)=(x.2.2:Int)):blL d l=[]:=by
 unfold blL
 rw[List.filter_eq_nil_iff.2 fun x hx=>by simp[h x hx]];rfl
def dRp(l:List (Nat×Nat×Nat)):List D:=(l.map fun x=>[.i .i64 (x.1:Int),.i .u64 (x.2.1:Int),.i .u64 (x.2.2:Int)]).flatten
theorem aGl(l:List (Nat×Nat×Nat)):(dRp l).length=l.length*3:=by
 unfold dRp
 induction l with
 |nil=>rfl
 |cons x l ih=>simp only[BO,CH,A8,ih,Aj,Au];omega
theorem bPm(a b:List (Nat×Nat×Nat)):dRp (a++b)=dRp a++dRp b:=by simp[dRp]
theorem bPl(w p v:Nat):dRp [(w,p,v)]=[.i .i64 w,.i .u64 p,.i .u64 v]:=rfl
theorem aGk{l:List (Nat×Nat×Nat)}{n:Nat}(h:l.length=n):((dRp l).map AV.d).take (n*3)=(dRp l).map AV.d:=AG (by rw[BF,aGl,h];exact AA _)
theorem aWm{l:List (Nat×Nat×Nat)}{n:Nat}(h:l.length=n):chunk 3 n (dRp l)=l.map fun x=>[D.i .i64 (x.1:Int),D.i .u64 (x.2.1:Int),D.i .u64 (x.2.2:Int)]:=by
 subst h
 have:=aKp (k:=3) (by decide) (l.map fun x=>[D.i .i64 (x.1:Int),D.i .u64 (x.2.1:Int),D.i .u64 (x.2.2:Int)]) (fun x hx=>by
  obtain⟨y,_,rfl⟩:=A1.1 hx;rfl)
 rwa [BF]at this
theorem szD{z:Int}(h:z.natAbs<2^256):(aJ z.natAbs).length≤130000000000:=by
 have:=dI (n:=z.natAbs) (k:=8) (A9 h (by decide))
 omega
set_option maxRecDepth 10000 in
theorem aUi[M:Mch Aa](n:Nat)(hn:n<4294967296):Spec Aa 74 [cX n] (.tp [.i .i64 n,.b true]):=by
 have hw1:Al.wrap (n:Int)=n:=aU
 have hw2:AB.wrap (n:Int)=n:=wrap_u64 (by omega) (by omega)
 have hle:(n:Int)≤9223372036854775807:=by omega
 have hle2:n≤9223372036854775807:=by omega
 have z0:Al.wrap 0=0:=by decide
 have z1:Al.wrap (-1)=-1:=by decide
 have z2:AB.wrap 0=0:=by decide
 rcases Bb n with h0|h0
 ·subst h0
  have e:cX 0=.ag [.b false,.sl []]:=by rw[bV,cA];rfl
  rw[e]
  refine bD (N:=38) Tryz.func74 ?_
  simp[-ζ,-ξ,↓KW]
  refine gL 1 ?_
  simp[-ζ,-ξ,↓KW,↓aE,↓aB,↓aF,↓aG,z0,z1,z2,eJ]
 ·have e:cX n=.ag [.b false,.sl [[.i .u32 n]]]:=by
   rw[bV]
   have:aJ n=[n]:=by rw[gT (by omega),BQ hn,Ej hn,cA]
   rw[this];rfl
  rw[e]
  refine bD (N:=38) Tryz.func74 ?_
  simp[-ζ,-ξ,↓KW]
  refine gL 2 ?_
  simp[-ζ,-ξ,↓KW,↓aE,↓aB,↓aF,↓aG,z0,z1,z2,hw1,hw2,hle,hle2,eJ]
set_option maxRecDepth 10000 in
theorem aCo[M:Mch Aa](p:Nat)(z:Int)(hp:0<p)(hp1:p≤2147483648)(hz:z.natAbs<2^256):Spec Aa 31 [.i .u64 p,encZ z] (.i .u64 (z%(p:Int))):=by
 have hO:=bBj (x:=p) (by omega)
 have hD:=kJ z (p:Int) (by omega) (szD hz) (szD (by simp;omega))
 rw[iW]at hD
 have hr0:=De z (show(p:Int)≠0 by omega)
 have hr1:=Gb z (show(0:Int)<p by omega)
 obtain⟨r,hr⟩:∃ r:Nat,z%(p:Int)=r:=⟨(z%(p:Int)).toNat,by omega⟩
 rw[hr,iW]at hD
 rw[hr]
 have hS:=aUi r (by omega)
 have hw1:Al.wrap (p:Int)=p:=aU
 have hw2:AB.wrap (r:Int)=r:=wrap_u64 (by omega) (by omega)
 generalize z/(p:Int)=q at *
 refine bD (N:=26) Tryz.func31 ?_
 simp[-ζ,-ξ,↓KW,bB z,hw1,aR]
 refine aD hO ?_
 simp[-ζ,-ξ,↓KW,bV p,aR]
 refine aD hD ?_
 simp[-ζ,-ξ,↓KW,bB q,bV r,aR]
 refine aD hS ?_
 simp[-ζ,-ξ,↓KW,hw2]
theorem aIe[M:Mch Aa](w p v:Nat)(z:Int)(hp:0<p)(hp1:p≤2147483648)(hz:z.natAbs<2^256):Spec Aa 32 [.ag [.i .i64 w,.i .u64 p,.i .u64 v],encZ z] (.b (decide (z%(p:Int)=(v:Int)))):=by
 have hR:=aCo p z hp hp1 hz
 generalize z%(p:Int)=r at *
 have hd:(r==(v:Int))=decide (r=(v:Int)):=rfl
 refine bD (N:=14) Tryz.func32 ?_
 simp[-ζ,-ξ,↓KW,bB z,aR]
 refine aD hR ?_
 simp[-ζ,-ξ,↓KW,hd]
theorem bHq(z:Int)(l:List (Nat×Nat×Nat))(w p v:Nat):(blL z (l++[(w,p,v)])).length=(blL z l).length+if z%(p:Int)=(v:Int)then 0 else 1:=by
 rw[bGp,A8];split<;>rfl
set_option maxHeartbeats 4000000 in
set_option maxRecDepth 10000 in
theorem aNf[M:Mch Aa](z:Int)(l:List (Nat×Nat×Nat))(hl:l.length≤1000)(hz:z.natAbs<2^256)(hp:∀ x∈l,0<x.2.1∧x.2.1≤2147483648):Spec Aa 10 [encZ z,kX l] (.i .i64 ((blL z l).length:Nat)):=by
 obtain⟨L,hL,hLl,hLg⟩:=aAf l
 rw[hL]
 refine bD (N:=23) Tryz.func10 ?_
 simp[-ζ,-ξ,↓KW,bB z,aR]
 refine bJ (τ:=Nat) (fun i=>i≤l.length) (fun i=>StL [(1,.d (.sl L)),(2,.ptr 1 0),(5,.d (.i .i64 ((blL z (l.take i)).length:Nat))),(6,.d (.i .i64 i))] none [.cells 40 [.d (.b (decide (z<0))),.d (aA (aJ z.natAbs))]]) (fun i=>l.length-i) 0 (A5 _) ?_ ?_
 ·rw[Cx]
  refine wkQ [1] ?_ ?_<;>simp[-ζ,upd,aL,Γ0,blL]
 ·intro i hi
  by_cases hlt:i<l.length
  ·obtain⟨⟨w,p,v⟩,hge⟩:∃ x,l[i]? = some x:=⟨_,Ab hlt⟩
   have hmem:=Ai hge
   have hLi:=hLg i _ hge
   simp only at hLi
   have hLi':=cD hLi
   have hiL:i<L.length:=by omega
   have hC:=aIe w p v z (hp _ hmem).1 (hp _ hmem).2 hz
   have hT1:(blL z (l.take (i+1))).length=(blL z (l.take i)).length+if z%(p:Int)=(v:Int)then 0 else 1:=by
    rw[BE,hge,EA,bHq]
   have hBl:(blL z (l.take i)).length≤i:=AY (bVp _ _) (by rw[Be];omega)
   have hw0:Al.wrap (i:Int)=i:=aU
   have hw1:Al.wrap ((i:Int)+1)=((i+1:Nat):Int):=aU
   obtain⟨bn',hbn'⟩:∃ x,(blL z (l.take (i+1))).length=x:=⟨_,rfl⟩
   rw[hbn']at hT1
   generalize(blL z (l.take i)).length=bn at *
   have hwb:Al.wrap ((bn:Int)+1)=((bn+1:Nat):Int):=aU
   generalize z%(p:Int)=r at *
   by_cases hr:r=(v:Int)
   ·rw[Ap hr]at hT1
    rw[B2 hr]at hC
    simp[-ζ,-ξ,↓KW,hiL,hLi,hLi',hw0,aR]
    refine aD hC ?_
    simp[-ζ,-ξ,↓KW,hw1]
    refine aK (i+1) (by omega) (by show l.length-(i+1)<l.length-i;omega) ?_
    show ∃ ρ,Wk _ (StL _ _ _) ρ
    rw[hbn',hT1]
    refine wkQ [1] ?_ ?_<;>simp[-ζ,upd,aL,Γ0]
   ·rw[Ah hr]at hT1
    rw[By hr]at hC
    simp[-ζ,-ξ,↓KW,hiL,hLi,hLi',hw0,aR]
    refine aD hC ?_
    simp[-ζ,-ξ,↓KW,hw1,hwb]
    refine aK (i+1) (by omega) (by show l.length-(i+1)<l.length-i;omega) ?_
    show ∃ ρ,Wk _ (StL _ _ _) ρ
    rw[hbn',hT1]
    refine wkQ [1] ?_ ?_<;>simp[-ζ,upd,aL,Γ0]
  ·have hiL:¬i<L.length:=by omega
   rw[AG (show l.length≤i by omega)]
   generalize(blL z l).length=bn at *
   simp[-ζ,-ξ,↓KW,hiL]
   exact bF (by simp[-ζ,-ξ,↓KW])
theorem aCz{α:Type}{l:List α}{i k:Nat}{x:α}(hk:k<i)(h1:l[k]? = some x)(h2:l[i]? = some x):¬l.Nodup:=fun h=>by
 obtain⟨a,ha⟩:=Ao.1 h1
 obtain⟨b,hb⟩:=Ao.1 h2
 have:=(List.nodup_iff_pairwise_ne.1 h)
 rw[List.pairwise_iff_getElem]at this
 exact this k i a b hk (ha.trans hb.symm)
theorem oH{α:Type}{l:List α}{i:Nat}{x:α}(hx:l[i]? = some x)(h:(l.take i).Nodup)(hne:∀ k,k<i→l[k]? ≠ some x):(l.take (i+1)).Nodup:=by
 rw[BE,hx]
 refine zH h fun hm=>?_
 obtain⟨k,hk⟩:=List.mem_iff_getElem?.1 hm
 have hk2:=(Ao.1 hk).1
 rw[Be]at hk2
 rw[List.getElem?_take_of_lt (by omega)]at hk
 exact hne k (by omega) hk
set_option maxHeartbeats 4000000 in
set_option maxRecDepth 10000 in
theorem rC[M:Mch Aa](Q:Nat→Bool)(l:List Nat)(hl:l.length≤1000000)(hP:∀ p∈l,Spec Aa 72 [.i .u64 (p:Nat)] (.b (Q p))):Spec Aa 30 [bL l] (.b (l.all Q&&decide l.Nodup)):=by
 obtain⟨L,hL,hLl,hLg⟩:=pP l
 rw[hL]
 refine bD (N:=31) Tryz.func30 ?_
 simp[-ζ,-ξ,↓KW]
 refine bJ (τ:=Nat) (fun i=>i≤l.length∧(l.take i).Nodup∧∀ p∈l.take i,Q p=true) (fun i=>StL [(0,.d (.sl L)),(3,.d (.i .i64 i))] none []) (fun i=>l.length-i) 0 ⟨A5 _,by simp,by simp⟩ ?_ ?_
 ·refine wkQ [] ?_ ?_<;>simp[-ζ,upd,aL,Γ0]
 ·rintro i ⟨hi,hn,hq⟩
  by_cases hlt:i<l.length
  ·have hLi:=hLg i hlt
   have hLi':=cD hLi
   have hiL:i<L.length:=by omega
   have hge:l[i]? = some l[i]! := by rw[Df l i hlt];exact Ab hlt
   have hPp:Spec Aa 72 [.i .u64 (l[i]! : Nat)] (.b (Q l[i]!)):=hP _ (Ai hge)
   have hw0:Al.wrap (i:Int)=i:=aU
   have hw1:Al.wrap ((i:Int)+1)=((i+1:Nat):Int):=aU
   generalize hpe:l[i]! = p at *
   simp[-ζ,-ξ,↓KW,hiL,hLi,hLi',hw0]
   refine aD hPp ?_
   cases hQp:Q p with
   | false =>
    have hd:(l.all Q&&decide l.Nodup)=false:=by
     have:l.all Q=false:=by
      rw[List.all_eq_false]
      exact⟨p,Ai hge,by rw[hQp];exact Bool.false_ne_true⟩
     rw[this];rfl
    rw[hd]
    simp[-ζ,-ξ,↓KW]
    exact bF (by simp[-ζ,-ξ,↓KW])
   |true =>
   simp[-ζ,-ξ,↓KW]
   refine bJ (τ:=Nat) (fun k=>k≤i∧∀ j,j<k→l[j]? ≠ some p) (fun k=>StL [(0,.d (.sl L)),(3,.d (.i .i64 i)),(4,.d (.i .i64 k))] none []) (fun k=>i-k) 0 ⟨A5 _,fun j h=>by omega⟩ ?_ ?_
   ·refine wkQ [] ?_ ?_<;>simp[-ζ,upd,aL,Γ0]
   ·rintro k ⟨hk,hne⟩
    by_cases hki:k<i
    ·have hLk:=hLg k (by omega)
     have hLk':=cD hLk
     have hkL:k<L.length:=by omega
     have hgk:l[k]? = some l[k]! := by rw[Df l k (by omega)];exact Ab (by omega)
     have hwk0:Al.wrap (k:Int)=k:=aU
     have hwk1:Al.wrap ((k:Int)+1)=((k+1:Nat):Int):=aU
     generalize hqe:l[k]! = q at *
     by_cases hpq:q=p
     ·subst hpq
      have hd:(l.all Q&&decide l.Nodup)=false:=by rw[By (aCz hki hgk hge),Bool.and_false]
      rw[hd]
      simp[-ζ,-ξ,↓KW,hki,hkL,hiL,hLk,hLk',hLi,hLi',hw0,hwk0]
      refine bF ?_
      simp[-ζ,-ξ,↓KW]
      exact bF (by simp[-ζ,-ξ,↓KW])
     ·have hpqi:((q:Int)==(p:Int))=false:=by simp;omega
      simp[-ζ,-ξ,↓KW,hki,hkL,hiL,hLk,hLk',hLi,hLi',hw0,hwk0,hwk1,hpq,hpqi]
      refine aK (k+1) ⟨by omega,fun j h=>?_⟩ (by show i-(k+1)<i-k;omega) (wkQ [] ?_ ?_)
      ·by_cases hj:j=k
       ·subst hj;rw[hgk];intro h';injection h' with h';exact hpq h'
       ·exact hne j (by omega)
      ·simp[-ζ,upd,aL,Γ0]
      ·simp[-ζ,upd,aL,Γ0]
    ·have hke:k=i:=by omega
     subst hke
     simp[-ζ,-ξ,↓KW,hki]
     refine bF ?_
     simp[-ζ,-ξ,↓KW,hw1]
     refine aK (k+1) ⟨by omega,oH hge hn hne,by rw[BE,hge];exact aLc hq hQp⟩ (by show l.length-(k+1)<l.length-k;omega) (wkQ [] ?_ ?_)<;>simp[-ζ,upd,aL,Γ0]
  ·have hiL:¬i<L.length:=by omega
   rw[AG (show l.length≤i by omega)]at hn hq
   rw[B2 hn,AW.2 hq,Bool.and_self]
   simp[-ζ,-ξ,↓KW,hiL]
   exact bF (by simp[-ζ,-ξ,↓KW])
theorem tB[M:Mch Aa](l:List Nat)(hl:l.length≤1000000)(hP:∀ p∈l,Spec Aa 72 [.i .u64 (p:Nat)] (.b true)):Spec Aa 30 [bL l] (.b (decide l.Nodup)):=by
 have:=rC (fun _=>true) l hl hP
 rwa [AW.2 (fun _ _=>rfl),FG]at this
set_option maxHeartbeats 4000000 in
set_option maxRecDepth 10000 in
theorem bBg[M:Mch Aa](n:Nat)(A:List (List Int))(hn:n≤4)(hA:A.length=n)(hAr:∀ v∈A,v.length=n)(hB:∀ v∈A,∀ z∈v,z.natAbs≤10) :
  Spec Aa 11 [jR n A] (encZ (iL n A)):=by
 have hD:=bTk (M:=M) n A (iL n A) hn hA hAr hB (bPn hA)
 generalize iL n A=d at *
 unfold jR at hD ⊢
 generalize(A.map fun v=>[dB v])=L at *
 refine bD (N:=11) Tryz.func11 ?_
 simp[-ζ,-ξ,↓KW]
 refine aD hD ?_
 simp[-ζ,-ξ,↓KW,bB d,aR]
def wkS(U:List (List D))(d:Int)(i:Nat)(T:List Rp3):St:=StL [(1,.d (.sl U)),(5,.d (.i .i64 0)),(6,.ptr 1 0),(7,.own 2 0 T.length 3),(8,.d (.i .i64 (i:Int)))] none [.cells 40 [.d (.b (decide (d<0))),.d (aA (aJ d.natAbs))],.cells 47 ((dRp T).map .d)]
set_option maxHeartbeats 8000000 in
set_option maxRecDepth 10000 in
theorem bLr[M:Mch Aa](n:Nat)(A:List (List Int))(d:Int)(ps:List Nat)(hps:ps.length≤1000)(hnd:ps.Nodup)(hp:∀ p∈ps,0<p∧p≤2147483648)(hd:d.natAbs<2^256)(hP:∀ p∈ps,Spec Aa 72 [.i .u64 (p:Nat)] (.b true))
  (hV:Spec Aa 11 [jR n A] (encZ d)):Spec Aa 7 [jR n A,bL ps] (.tp [kX (kT d ps),.i .i64 0]):=by
 have hDf:=tB (M:=M) ps (by omega) hP
 rw[B2 hnd]at hDf
 obtain⟨U,hU,hUl,hUg⟩:=pP ps
 rw[hU]at hDf ⊢
 unfold jR at hV ⊢
 generalize(A.map fun v=>[dB v])=L at *
 refine bD (N:=43) Tryz.func7 ?_
 simp[-ζ,-ξ,↓KW]
 refine aD hDf ?_
 simp[-ζ,-ξ,↓KW]
 refine aD hV ?_
 simp[-ζ,-ξ,↓KW,bB d,aR]
 refine bJ (τ:=Nat) (fun i=>i≤ps.length) (fun i=>wkS U d i ((kT d ps).take i)) (fun i=>ps.length-i) 0 (A5 _) ?_ ?_
 ·rw[Cx]
  show ∃ ρ,Wk _ (wkS _ _ _ []) ρ
  unfold wkS
  refine wkQ [3,2] ?_ ?_<;>simp[-ζ,upd,aL,Γ0,dRp]
 ·intro i hi
  have hTl:((kT d ps).take i).length=i:=by rw[Be,pK];omega
  by_cases hlt:i<ps.length
  ·have hUi:=hUg i hlt
   have hUi':=cD hUi
   have hiU:i<U.length:=by omega
   have hpm:ps[i]! ∈ ps:=by rw[Df ps i hlt];exact Bj hlt
   obtain⟨p,hpe⟩:∃ p,ps[i]! = p:=⟨_,rfl⟩
   rw[hpe]at hUi hUi' hpm
   have hpp:=hp p hpm
   have hRd:=aCo (M:=M) p d hpp.1 hpp.2 hd
   obtain⟨v,hv⟩:∃ v:Nat,d%(p:Int)=v:=⟨(d%(p:Int)).toNat,by have:=De d (b:=(p:Int)) (by omega);omega⟩
   rw[hv]at hRd
   have hT1:(kT d ps).take (i+1)=(kT d ps).take i++[(i,p,v)]:=by
    rw[BE]
    congr 1
    unfold kT
    have e:ps.getD i 0=p:=by rw[Ac,Ab hlt,←hpe,Df ps i hlt];rfl
    rw[Ag,Bn hlt,AQ,e,hv];rfl
   have hw0:Al.wrap (i:Int)=i:=aU
   have hw1:Al.wrap ((i:Int)+1)=((i+1:Nat):Int):=aU
   have hbb:(i+1)*24≤140737488355328∧i+1≤1099511627776:=by omega
   generalize(kT d ps).take i=T at *
   simp[-ζ,-ξ,↓KW,wkS,hiU,hUi,hUi',hw0,aR]
   refine aD hRd ?_
   simp[-ζ,-ξ,↓KW,aGl,hTl,hbb,bY,hw0,hw1]
   refine aK (i+1) (by omega) (by show ps.length-(i+1)<ps.length-i;omega) ?_
   show ∃ ρ,Wk _ (wkS _ _ _ _) ρ
   rw[hT1]
   unfold wkS
   refine wkQ [1,4] ?_ ?_<;>simp[-ζ,upd,aL,Γ0,B6,cF,bPm,bPl,A8,hTl]
  ·have hiU:¬i<U.length:=by omega
   rw[AG (show(kT d ps).length≤i by rw[pK];omega)]at hTl ⊢
   generalize kT d ps=T at *
   have e1:=aGk hTl
   have e2:=aWm hTl
   have e3:=aGl T
   rw[hTl]at e3
   simp[-ζ,-ξ,↓KW,wkS,hiU]
   exact bF (by simp[-ζ,-ξ,↓KW,hTl,e1,e2,e3,kX,eJ])
end Go.Am
end
section
open List renaming map_map→ζ,mapM_map→ξ
namespace Go.Am
open RowKit (Below)
section
variable {P:Program} [M:Mch P]
def StR(d0:D)(h:AV)(o:HO)(args:List D)(N:Nat):St:=⟨fun t=>match t with|0=>aL d0|1=>h|t+2=>Γ0 args N t,fun id=>if id=0 then some o else none,1⟩
theorem SRR{A:Nat→Prop}{W:World}{vs:Array Value}{args:List D}{d0:D}{h:AV}{o:HO}{b N:Nat}(hok:OkV W)(hA:∀ b,A b→b<W.heap.size)(hAb:¬A b)(hb:b<W.heap.size)(ho:∃ ob,W.heap[b]? = some ob∧CR A W (ι1 b) o ob)
    (hl:args.length+2=vs.size) (hd:∃ v,vs[0]? = some v∧VD A W d0 v) (h0:∃ v,vs[1]? = some v∧V A W (ι1 b) h v) (hv:∀(k:Nat) d v,args[k]? = some d→vs[k+2]? = some v→VD A W d v) (hN:args.length+2≤N) :
    SR ⟨W,A,(·=b),(·=b),fun _=>none⟩ N [] (StR d0 h o args N) { tmps:=vs++AU (N-vs.size) undef,defers:=[] } W:=by
  have hι:∀ id b',ι1 b id=some b'→id=0∧b'=b:=fun id b' e=>by
    unfold ι1 at e
    split at e
    · injection e with e;exact⟨by assumption,e.symm⟩
    · cases e
  have hH:∀ id o',(if id=0 then some o else none)=some o'→id=0∧o'=o:=fun id o' e=>by
    split at e
    · injection e with e;exact⟨by assumption,e.symm⟩
    · cases e
  refine⟨fun id h=>by simp only[StR]at h ⊢;rw[Ah (by omega)],fun h=>by simp[StR]at h,hok,A,ι1 b,⟨.refl _ _ _,hA,fun b h=>.inl h,fun id b' e=>?_,fun id b' o' e e'=>?_,fun id id' b' e e' _ _=>?_,fun id id' b' o1 o2 e e' _ h1 h2=>?_⟩,fun id=>?_,fun t=>?_,⟨by simp;omega,fun _ _ h=>by cases h⟩,rfl,fun b' e=>(hι 0 b' e).2⟩
  · obtain⟨_,rfl⟩:=hι id b' e;exact⟨.inl rfl,hb,fun _=>hAb⟩
  · obtain⟨_,rfl⟩:=hι id b' e;obtain⟨_,rfl⟩:=hH id o' e';exact ho
  · rw[(hι _ _ e).1,(hι _ _ e').1]
  · rw[(hH _ _ h1).2,(hH _ _ h2).2];exact AA _
  · simp only[StR,ι1]
    by_cases hid:id=0<;>simp[hid]
  · have hget:∀ k,k<vs.size→(vs++AU (N - vs.size) undef).getD k undef=vs.getD k undef:=fun k hk=>by
      simp only[Ay];rw[BX hk]
    have hget2:∀ k,vs.size≤k→(vs++AU (N-vs.size) undef).getD k undef=undef:=fun k hk=>by
      simp only[Ay]
      rw[Array.getElem?_append_right hk]
      by_cases h2:k-vs.size<N-vs.size
      · rw[Ch,Ap h2];rfl
      · rw[Ch,Ah h2];rfl
    rcases t with _|_|t
    · obtain⟨v,hv0,hV0⟩:=hd
      show V A W (ι1 b) (aL d0) _
      rw[show(({ tmps:=vs++AU (N-vs.size) undef,defers:=[] }:Act).tmps.getD 0 undef)=v from by
        rw[hget 0 (by omega)];simp[Ay,hv0]]
      exact mF hV0
    · obtain⟨v,hv0,hV0⟩:=h0
      show V A W (ι1 b) h _
      rw[show(({ tmps:=vs++AU (N-vs.size) undef,defers:=[] }:Act).tmps.getD (0+1) undef)=v from by
        rw[hget 1 (by omega)];simp[Ay,hv0]]
      exact hV0
    · show V A W (ι1 b) (Γ0 args N t) _
      simp only[Γ0]
      by_cases ht:t<args.length
      · have ht':t+2<vs.size:=by omega
        rw[Ab ht,show t+1+1=t+2 from rfl,hget _ ht',Ay,Ak ht']
        exact mF (hv t _ _ (Ab ht) (Ak ht'))
      · rw[AX (by omega),show t+1+1=t+2 from rfl,hget2 _ (by omega)]
        simp only[ite_self]
        exact .un
theorem bAv {f N:Nat} {fn:Func} {c:Code} {d0:D} {h:AV} {o o':HO} {args:List D} (hm:P.follows .mixedOrders=true) (hf:P.funcs[f]? = some fn) (hb:fn.body=some c) (hname:(fn.name == "runtime.NumGoroutine")=false) (hN:fn.ntmps=N)
    (hd:bH N c=true) (ha:args.length+2≤N) (hno':qZ o'=true)
    (hA:Wal P c (StR d0 h o args N) fun e σ=>(e=.normal∨e=.ret)∧iY P fn.results.toList σ=some (.tp [])∧σ.H 0=some o'):aLi P f d0 h o args o':=by
  intro A W vs b hAl hAb hbl hob hl hd0 hv0 hv
  have hn:¬ fn.name = "runtime.NumGoroutine" := by simpa using hname
  refine⟨fun w=>by simp[callFunc,hf,hn,hb],?_⟩
  refine fS hf hb ?_
  subst hN
  refine(WpR.plain P).okv fun hok=>?_
  have hsr:=SRR (N:=fn.ntmps) hok hAl hAb hbl hob hl hd0 hv0 hv ha
  refine bQ (hA _ _ _ _ _ hm (fun _=>rfl) hd hsr) ?_
  rintro e a w0 ⟨σ,⟨he,hr,hH0⟩,hs0⟩
  have hend:a.defers=[]∧∀ w,Env w0 w→∃ v,aH P (results fn a.tmps) w=.ok v w∧∃ ob',Kept (·=b) W.heap.size W w∧w.heap[b]? = some ob' ∧
      (∀ cur e,W.heap[b]? = some (.cells cur e (0,0))→∃ cur',ob'=.cells cur' e (0,0)∧cur'.size=cur.size) ∧
      CR (fun k=>A k∨(W.heap.size≤k∧k<w.heap.size)) w (ι1 b) o' ob'∧VD (fun k=>A k∨(W.heap.size≤k∧k<w.heap.size)) w (.tp []) v:=by
   refine⟨hs0.2.2.2.elim fun _ h=>h.elim fun _ h=>h.2.2.2.2.1,fun w henv=>?_⟩
   have hs:=hs0.env henv
   obtain⟨_,_,_,F,ι,hR,hdom,hVs,_,hdf,hp⟩:=hs
   obtain⟨v,hrun,hvd⟩:=jZ hR hVs hr
   obtain⟨b',hb'⟩:=(hdom 0).2 (by rw[hH0];rfl)
   have hbb:=hp b' hb'
   simp only at hbb
   subst hbb
   obtain⟨ob',hob',hcr⟩:=hR.obj 0 b' o' hb' hH0
   have hnF:¬F b':=(hR.place 0 b' hb').2.2 (fun x=>x)
   have hFA:∀ k,F k→A k∨(W.heap.size≤k∧k<w.heap.size):=fun k hk=>by
     rcases hR.F_ok k hk with h|h|h
     · exact .inl h
     · simp only at h;subst h;exact(hnF hk).elim
     · exact .inr ⟨h,hR.F_lt k hk⟩
   refine⟨v,hrun,ob',hR.kept,hob',fun cur e he=>?_,(wB hno' hcr).step ⟨hFA,fun _ _=>rfl,fun _ _ h=>h,fun _ _ cur _ _ h=>⟨cur,h,rfl⟩⟩,?_⟩
   · obtain⟨cur',h1,h2⟩:=hR.kept.shape b' cur e hbl he
     rw[hob']at h1;injection h1 with h1
     exact⟨cur',h1,h2⟩
   · cases hvd with|tp ds vs hl hh=>exact .tp _ _ hl fun k d v hk=>by simp at hk
  rcases he with rfl|rfl<;>exact hend
end
end Go.Am
end
section
open List renaming map_map→ζ,mapM_map→ξ
open Go Go.Am Go.Proofs
namespace Go.Am
theorem bQj[M:Mch Aa](p a b:Nat)(hp:0<p)(ha:a<4294967296)(hb:b<4294967296):Spec Aa 155 [.i .u64 p,.i .u64 a,.i .u64 b] (.i .u64 ((a+b)%p:Nat)):=by
 have hR:=sY (a+b) p hp
 generalize(a+b)%p=r at *
 have hw1:AB.wrap ((a:Int)+(b:Int))=((a+b:Nat):Int):=by rw[←D7];exact wrap_u64 (by omega) (by omega)
 generalize a+b=x at *
 refine bD (N:=12) Tryz.func155 ?_
 simp[-ζ,-ξ,↓KW,hw1]
 refine aD hR ?_
 simp[-ζ,-ξ,↓KW]
theorem aRw(e:TypeId)(l:List Nat):tX (.cells e ((dU l).map .d))=true:=by
 unfold tX
 refine AW.2 fun c hc=>?_
 obtain⟨x,hx,rfl⟩:=A1.1 hc
 obtain⟨y,_,rfl⟩:=A1.1 hx
 rfl
theorem bUi(e:TypeId)(l:List Nat):qZ (.cells e ((dU l).map .d))=true:=by
 unfold qZ
 refine AW.2 fun c hc=>?_
 obtain⟨x,hx,rfl⟩:=A1.1 hc
 rfl
theorem aPc{l:List Nat}{i x:Nat}(h:l[i]? = some x):(dU l)[i]? = some (.i .u64 (x:Int)):=by unfold dU;rw[Ag,h];rfl
theorem bFw(l:List Nat)(i x:Nat):(dU l).set i (.i .u64 (x:Int))=dU (l.set i x):=by unfold dU;rw[List.map_set]
def adL(p:Nat)(a b:List Nat)(k:Nat):List Nat:=(AK a.length).map fun j=>(a.getD j 0+k*b.getD j 0%p)%p
theorem kG(p:Nat)(a b:List Nat)(k:Nat):(adL p a b k).length=a.length:=by simp[adL]
theorem uL{p k j:Nat}{a b:List Nat}(hj:j<a.length):(adL p a b k)[j]? = some ((a.getD j 0+k*b.getD j 0%p)%p):=by
 unfold adL;rw[Ag,Bn hj];rfl
theorem bHt{p:Nat}{a b:List Nat}(ha:∀ x∈a,x<p):adL p a b 0=a:=by
 apply C4 fun j=>?_
 by_cases hj:j<a.length
 ·rw[uL hj,Ab hj,Ac,Ab hj,DT,Nat.zero_mod,B8,AT,BQ (ha _ (Bj hj))]
 ·rw[AX (by rw[kG];omega),AX (by omega)]
def atS(p k n:Nat)(L:List (List D))(j:Nat)(T:List Nat):St:=StL [(0,.d (.i .u64 p)),(1,.own 0 0 n 1),(3,.d (.i .u64 k)),(12,.d (.sl L)),(13,.d (.i .i64 n)),(14,.d (.i .i64 (j:Int)))] (some (.cells 43 ((dU T).map .d))) []
set_option maxHeartbeats 8000000 in
set_option maxRecDepth 10000 in
theorem aXf[M:Mch Aa](p k:Nat)(a b:List Nat)(hp:0<p)(hp1:p≤2147483648)(hk:k<p)(ha:∀ x∈a,x<p)(hb:∀ x∈b,x<p)(hl:a.length=b.length)(hn:a.length≤1000) :
  aLi Aa 113 (.i .u64 p) (.own 0 0 a.length 1) (.cells 43 ((dU a).map .d)) [bL b,.i .u64 k] (.cells 43 ((dU (adL p a b k)).map .d)):=by
 obtain⟨L,hL,hLl,hLg⟩:=pP b
 rw[hL]
 refine bAv (N:=33) aT Tryz.func113 rfl rfl rfl (by kernel_rfl) (by simp) (bUi _ _) (xG (by kernel_rfl) ?_)
 by_cases hk0:k=0
 ·subst hk0
  rw[bHt ha]
  simp[-ζ,-ξ,↓KW,StR,aIb]
 ·have hk1:((k:Int)==0)=false:=by rw[Eg];omega
  have hLn:(L.length:Int)=(a.length:Int):=by omega
  simp[-ζ,-ξ,↓KW,StR,hk1,hk0,hLn]
  refine bJ (τ:=Nat) (fun j=>j≤a.length) (fun j=>atS p k a.length L j ((adL p a b k).take j++a.drop j)) (fun j=>a.length-j) 0 (A5 _) ?_ ?_
  ·rw[Cx,Ep,FO]
   show ∃ ρ,Wk _ (atS _ _ _ _ _ a) ρ
   unfold atS
   refine bWm ?_ rfl
   simp[-ζ,upd,aL,Γ0,hLl]
  ·intro j hj
   have hTl:((adL p a b k).take j++a.drop j).length=a.length:=by rw[A8,Be,kG,Ek];omega
   by_cases hlt:j<a.length
   ·obtain⟨x,hx⟩:∃ x,a[j]? = some x:=⟨_,Ab hlt⟩
    have hjb:j<b.length:=by omega
    have hLj:=hLg j hjb
    have hLj':=cD hLj
    have hjL:j<L.length:=by omega
    obtain⟨y,hy⟩:∃ y,b[j]! = y:=⟨_,rfl⟩
    have hyb:b.getD j 0=y:=by rw[Ac,Ab hjb,←hy,Df b j hjb];rfl
    have hyp:y<p:=by rw[←hy,Df b j hjb];exact hb _ (Bj hjb)
    have hxp:x<p:=ha x (Ai hx)
    have hxa:a.getD j 0=x:=by rw[Ac,hx];rfl
    rw[hy]at hLj hLj'
    have hM:=nG (M:=M) p k y hp (BG (A3 (Dd hk) (Dd hyp)) (BG (A3 hp1 hp1) (by decide)))
    have hmp:k*y%p<p:=BL _ hp
    have hA:=bQj (M:=M) p x (k*y%p) hp (by omega) (by omega)
    obtain⟨z,hz⟩:∃ z,(x+k*y%p)%p=z:=⟨_,rfl⟩
    rw[hz]at hA
    obtain⟨T,hT⟩:∃ T,(adL p a b k).take j++a.drop j=T:=⟨_,rfl⟩
    have hTj:T[j]? = some x:=by
     rw[←hT,AM (by rw[Be,kG];omega),Be,kG,Da (by omega),CN,List.getElem?_drop,B8];exact hx
    have hT1:T.set j z=(adL p a b k).take (j+1)++a.drop (j+1):=by
     rw[←hT,BE,uL hlt,hyb,hxa,hz,D4 _ _ (by rw[Be,kG];omega),Be,kG,Da (by omega),CN,Cv hlt,DG]
     simp
    rw[hT]at hTl ⊢
    have hTd:=aPc hTj
    have hTd':∀ h,(dU T)[j]'h=.i .u64 (x:Int):=fun h=>by rw[Ab h]at hTd;injection hTd
    have hdl:(dU T).length=a.length:=by rw[eN];exact hTl
    have hly:lay (Cs AV.d (dU T)) j [AV.d (D.i .u64 (z:Int))]=Cs AV.d (dU (T.set j z)):=by rw[jO _ _ _ (by omega),bFw]
    obtain⟨T1,hT1e⟩:∃ T1,T.set j z=T1:=⟨_,rfl⟩
    rw[hT1e]at hly hT1
    have hw0:Al.wrap (j:Int)=j:=aU
    have hw1:Al.wrap ((j:Int)+1)=((j+1:Nat):Int):=aU
    have hj1:j+1≤a.length:=by omega
    have hlt':(j:Int)<(a.length:Int):=by omega
    generalize k*y%p=q at *
    simp[-ζ,-ξ,↓KW,atS,hlt,hlt',hjL,hLj,hLj',hw0,hdl,hTd,hTd']
    refine aD hM ?_
    simp[-ζ,-ξ,↓KW,hlt,hlt',hw0,hdl,hTd,hTd']
    refine aD hA ?_
    simp[-ζ,-ξ,↓KW,hlt,hlt',hw0,hw1,hdl,hTd,hTd',hj1,hly]
    refine aK (j+1) hj1 (by show a.length-(j+1)<a.length-j;omega) ?_
    show ∃ ρ,Wk _ (atS _ _ _ _ _ ((adL p a b k).take (j+1)++a.drop (j+1))) ρ
    rw[←hT1]
    unfold atS
    refine bWm ?_ rfl
    simp[-ζ,upd,aL,Γ0]
   ·have hj':j=a.length:=by omega
    have hlt':¬(j:Int)<(a.length:Int):=by omega
    rw[AG (by rw[kG];omega),CO (by omega),FQ]
    simp[-ζ,-ξ,↓KW,atS,hlt,hlt']
    exact bF (by simp[-ζ,-ξ,↓KW,aIb])
end Go.Am
end
section
open List renaming map_map→ζ,mapM_map→ξ
namespace Go.Am
def Cg(p x y:Int):Prop:=∃ t:Int,x-y=p*t
theorem Cg.refl(p x:Int):Cg p x x:=⟨0,by simp⟩
theorem Cg.symm{p x y:Int}(h:Cg p x y):Cg p y x:=by obtain⟨t,h⟩:=h;exact⟨-t,by rw[DJ,←h];omega⟩
theorem Cg.trans{p x y z:Int}(h:Cg p x y)(h2:Cg p y z):Cg p x z:=by obtain⟨t,h⟩:=h;obtain⟨u,h2⟩:=h2;exact⟨t+u,by rw[Int.mul_add,←h,←h2];omega⟩
theorem Cg.add{p x y u v:Int}(h:Cg p x y)(h2:Cg p u v):Cg p (x+u) (y+v):=by obtain⟨t,h⟩:=h;obtain⟨s,h2⟩:=h2;exact⟨t+s,by rw[Int.mul_add,←h,←h2];omega⟩
theorem Cg.sub{p x y u v:Int}(h:Cg p x y)(h2:Cg p u v):Cg p (x-u) (y-v):=by obtain⟨t,h⟩:=h;obtain⟨s,h2⟩:=h2;exact⟨t-s,by rw[Int.mul_sub,←h,←h2];omega⟩
theorem Cg.mul{p x y u v:Int}(h:Cg p x y)(h2:Cg p u v):Cg p (x*u) (y*v):=by
 obtain⟨t,h⟩:=h;obtain⟨s,h2⟩:=h2
 exact⟨t*u+y*s,by
  have e1:x=y+p*t:=by omega
  have e2:u=v+p*s:=by omega
  subst e1;subst e2;grind⟩
theorem Cg.emod(p:Int)(x:Int):Cg p (x%p) x:=⟨-(x/p),by have:=Fv x p;rw[DJ];omega⟩
theorem Cg.eq{p x y:Int}(h:Cg p x y):x%p=y%p:=by
 obtain⟨t,h⟩:=h
 have e:x=y+p*t:=by omega
 rw[e,F9]
theorem Cg.modN{p a:Nat}:Cg (p:Int) ((a%p:Nat):Int) (a:Int):=by rw[Int.natCast_emod];exact Cg.emod _ _
theorem Cg.zero{p x:Int}(h:x%p=0):Cg p x 0:=⟨x/p,by have:=Fv x p;omega⟩
theorem aSb{p:Int}{x y:Nat→Nat→Int}(h:∀ i j,Cg p (x i j) (y i j)):Cg p (fR x) (fR y):=by
 unfold fR
 repeat' (first|exact h _ _|refine Cg.sub ?_ ?_|refine Cg.add ?_ ?_|refine Cg.mul ?_ ?_)
theorem bLq{a b:Int}(h:(a:Rat)=(b:Rat)):a=b:=by exact_mod_cast h
theorem aWh(x:Nat→Nat→Int){k a:Nat}(h:k<a)(ha:a≤3):fR (fun i j=>x (swp k a i) j)=- fR x:=by
 refine bLq ?_
 rw[Rat.intCast_neg,←jK,←jK]
 exact aDp (fun i j=>((x i j:Int):Rat)) h ha
theorem bFr(x:Nat→Nat→Int)(c:Int){k a:Nat}(h:k<a)(ha:a≤3):fR (fun i j=>if i=a then x a j-c*x k j else x i j)=fR x:=by
 refine bLq ?_
 rw[←jK,←jK,←aKm (fun i j=>((x i j:Int):Rat)) (c:Rat) h ha]
 congr 1
 funext i j
 split
 ·rw[Rat.intCast_sub,Cy]
 ·rfl
theorem bFq(x:Nat→Nat→Int)(h:∀ i j,j<i→i≤3→x i j=0):fR x=x 0 0*x 1 1*x 2 2*x 3 3:=by
 refine bLq ?_
 rw[←jK,Cy,Cy,Cy]
 exact aKl (fun i j=>((x i j:Int):Rat)) fun i j h1 h2=>by simp[h i j h1 h2]
theorem aWg(x:Nat→Nat→Int){k:Nat}(hk:k≤3)(h:∀ i j,j<i→j<k→i≤3→x i j=0)(h0:∀ i,k≤i→i≤3→x i k=0):fR x=0:=by
 refine bLq ?_
 rw[←jK]
 exact aDo (fun i j=>((x i j:Int):Rat)) hk (fun i j h1 h2 h3=>by simp[h i j h1 h2 h3]) fun i h1 h2=>by simp[h0 i h1 h2]
def enN(M:List (List Nat))(i j:Nat):Nat:=(M.getD i []).getD j 0
def wZ(n:Nat)(M:List (List Nat))(i j:Nat):Int:=if i<n∧j<n then(enN M i j:Int)else if i=j then 1 else 0
theorem jM{n:Nat}{M:List (List Nat)}{i j:Nat}(h:i<n∧j<n):wZ n M i j=(enN M i j:Int):=Ap h
theorem gK{n:Nat}{M:List (List Nat)}{i j:Nat}(h:¬(i<n∧j<n)):wZ n M i j=if i=j then 1 else 0:=Ah h
def dgI(M:List (List Nat)):Nat→Int
 |0=>1
 |k+1=>dgI M k*(enN M k k:Int)
theorem vS{M M':List (List Nat)}:∀ k:Nat,(∀ i j,i<k→enN M' i j=enN M i j)→dgI M' k=dgI M k
 |0,_=>rfl
 |k+1,h=>by rw[dgI,dgI,h k k (Cr k),vS k fun i j hi=>h i j (Gs hi)]
def SgM(p:Nat)(n k:Nat)(D:Int)(M:List (List Nat))(o:Nat):Prop:=∃ s:Int,(s=1∨s=-1)∧Cg p o (s*dgI M k)∧Cg p D (s*fR (wZ n M))
def LoM(n k:Nat)(M:List (List Nat)):Prop:=∀ i j,j<k→j<i→i<n→enN M i j=0
def RwM(p n:Nat)(M:List (List Nat)):Prop:=M.length=n∧∀ i,i<n→(M.getD i []).length=n∧∀ x∈M.getD i [],x<p
theorem qP{α:Type}{l:List α}{i r:Nat}{x d:α}(hi:i<l.length):(l.set i x).getD r d=if r=i then x else l.getD r d:=by
 rw[Ac,C3]
 by_cases h:r=i
 ·subst h;rw[Ap rfl,Ap rfl,Ap hi];rfl
 ·rw[Ah (fun e=>h e.symm),Ah h,Ac]
theorem aZu{p n k:Nat}{D:Int}{o:Nat}{M:List (List Nat)}(hn:n≤4)(hk:k<n)(h:SgM p n k D M o)(hl:LoM n k M)(h0:∀ i,k≤i→i<n→enN M i k=0):D%(p:Int)=0:=by
 obtain⟨s,_,_,h⟩:=h
 have:fR (wZ n M)=0:=by
  refine aWg (wZ n M) (k:=k) (by omega) (fun i j h1 h2 h3=>?_) fun i h1 h2=>?_
  ·by_cases h:i<n∧j<n
   ·rw[jM h,hl i j h2 h1 h.1];rfl
   ·rw[gK h,Ah (by omega)]
  ·by_cases h:i<n∧k<n
   ·rw[jM h,h0 i h1 h.1];rfl
   ·rw[gK h,Ah (by omega)]
 rw[this,Int.mul_zero]at h
 rw[h.eq];simp
def swM(M:List (List Nat))(k a:Nat):List (List Nat):=(M.set k (M.getD a [])).set a (M.getD k [])
theorem aEl{M:List (List Nat)}{k a r:Nat}(hk:k<M.length)(ha:a<M.length):(swM M k a).getD r []=if r=a then M.getD k []else if r=k then M.getD a []else M.getD r []:=by
 unfold swM;rw[qP (by simpa using ha),qP hk]
theorem bFf{M:List (List Nat)}{k a:Nat}(hk:k<M.length)(ha:a<M.length)(hka:k≠a)(i j:Nat):enN (swM M k a) i j=enN M (swp k a i) j:=by
 unfold enN swp
 rw[aEl hk ha]
 by_cases h1:i=a
 ·rw[Ap h1,h1,Ah (fun e=>hka e.symm),Ap rfl]
 ·rw[Ah h1]
  by_cases h2:i=k
  ·rw[Ap h2,Ap h2]
  ·rw[Ah h2,Ah h2,Ah h1]
theorem bCn{p o:Nat}(hp:0<p)(ho:o<p):Cg p ((0+p-o)%p:Nat) (-(o:Int)):=by
 refine Cg.modN.trans ⟨1,?_⟩
 omega
theorem aZv{p n k a:Nat}{D:Int}{o:Nat}{M:List (List Nat)}(hn:n≤4)(hp:0<p)(ho:o<p)(hM:M.length=n)(hk:k<a)(ha:a<n)(h:SgM p n k D M o):SgM p n k D (swM M k a) ((0+p-o)%p):=by
 obtain⟨s,hs,h1,h2⟩:=h
 have he:=bFf (M:=M) (k:=k) (a:=a) (by omega) (by omega) (by omega)
 have hd:fR (wZ n (swM M k a))=- fR (wZ n M):=by
  rw[←aWh (wZ n M) hk (by omega)]
  congr 1
  funext i j
  have h1:swp k a i<n↔i<n:=by unfold swp;split<;>(try split)<;>omega
  by_cases h:i<n∧j<n
  ·rw[jM h,jM ⟨h1.2 h.1,h.2⟩,he]
  ·rw[gK h,gK fun h'=>h ⟨h1.1 h'.1,h'.2⟩]
   by_cases h3:i<n
   ·rw[Ah (by omega),Ah (by have:=h1.2 h3;omega)]
   ·have:swp k a i=i:=by unfold swp;rw[Ah (by omega),Ah (by omega)]
    rw[this]
 refine⟨-s,by rcases hs with rfl|rfl<;>simp,?_,?_⟩
 ·rw[vS (M:=M) (M':=swM M k a) k fun i j hi=>by rw[he];unfold swp;rw[Ah (by omega),Ah (by omega)]]
  refine(bCn hp ho).trans ?_
  have:=(Cg.refl (p:Int) 0).sub h1
  rw[Int.zero_sub,Int.zero_sub]at this
  rwa [Gm]
 ·rw[hd,Int.neg_mul_neg];exact h2
theorem bCw{n k a:Nat}{M:List (List Nat)}(hM:M.length=n)(hk:k<a)(ha:a<n)(h:LoM n k M):LoM n k (swM M k a):=fun i j h1 h2 h3=>by
 rw[bFf (by omega) (by omega) (by omega)]
 unfold swp
 split
 ·exact h a j h1 (by omega) ha
 ·split
  ·exact h k j h1 (by omega) (by omega)
  ·exact h i j h1 h2 h3
theorem bAk{p n k a:Nat}{M:List (List Nat)}(hM:RwM p n M)(hk:k<n)(ha:a<n):RwM p n (swM M k a):=by
 refine⟨by simp[swM,hM.1],fun i hi=>?_⟩
 rw[aEl (by rw[hM.1];exact hk) (by rw[hM.1];exact ha)]
 split
 ·exact hM.2 k hk
 ·split
  ·exact hM.2 a ha
  ·exact hM.2 i hi
theorem bKk{p n k:Nat}{D:Int}{o:Nat}{M:List (List Nat)}(h:SgM p n k D M o):SgM p n (k+1) D M (o*enN M k k%p):=by
 obtain⟨s,hs,h1,h2⟩:=h
 refine⟨s,hs,Cg.modN.trans ?_,h2⟩
 rw[dgI,←FH,B9]
 exact h1.mul (Cg.refl _ _)
theorem bTb{p n k K a:Nat}{D:Int}{o:Nat}{M:List (List Nat)}(c:Int)(v:List Nat)(hn:n≤4)(hM:RwM p n M)(hk:k<a)(ha:a<n)(hK:K≤a)(hv:∀ j,j<n→Cg p (v.getD j 0:Nat) ((enN M a j:Int)-c*(enN M k j:Int)))(h:SgM p n K D M o):SgM p n K D (M.set a v) o:=by
 obtain⟨s,hs,h1,h2⟩:=h
 have hg:=fun r=>qP (l:=M) (i:=a) (r:=r) (x:=v) (d:=[]) (by rw[hM.1];exact ha)
 refine⟨s,hs,?_,?_⟩
 ·rw[vS (M:=M) (M':=M.set a v) K fun i j hi=>by unfold enN;rw[hg,Ah (by omega)]];exact h1
 ·refine h2.trans ((Cg.refl _ _).mul ?_)
  rw[←bFr (wZ n M) c hk (by omega)]
  refine(aSb fun i j=>?_).symm
  by_cases h:i<n∧j<n
  ·rw[jM h]
   unfold enN
   rw[hg]
   by_cases hi:i=a
   ·rw[Ap hi,Ap hi,jM ⟨ha,h.2⟩,jM ⟨by omega,h.2⟩];exact hv j h.2
   ·rw[Ah hi,Ah hi,jM h];exact Cg.refl _ _
  ·rw[gK h]
   by_cases hi:i=a
   ·subst hi
    rw[Ap rfl,gK (by omega),gK (by omega),Ah (by omega),Ah (by omega)];exact⟨0,by simp⟩
   ·rw[Ah hi,gK h];exact Cg.refl _ _
theorem bKl{p n:Nat}{D:Int}{o:Nat}{M:List (List Nat)}(hn:n≤4)(h:SgM p n n D M o)(hl:LoM n n M):Cg p o D:=by
 obtain⟨s,hs,h1,h2⟩:=h
 have ht:=bFq (wZ n M) fun i j h1 h2=>by
  by_cases h:i<n∧j<n
  ·rw[jM h,hl i j h.2 h1 h.1];rfl
  ·rw[gK h,Ah (by omega)]
 have hd:fR (wZ n M)=dgI M n:=by
  rw[ht]
  have:n=0∨n=1∨n=2∨n=3∨n=4:=by omega
  rcases this with rfl|rfl|rfl|rfl|rfl<;>simp[wZ,dgI]
 rw[hd]at h2
 exact h1.trans h2.symm
def eP(p:Nat)(A:List (List Int)):List (List Nat):=A.map fun v=>v.map fun z=>(z%(p:Int)).toNat
theorem bLl{p n:Nat}{A:List (List Int)}(hp:0<p)(hA:A.length=n)(hr:∀ v∈A,v.length=n):RwM p n (eP p A):=by
 refine⟨by simp[eP,hA],fun i hi=>?_⟩
 have hg:(eP p A).getD i []=(A[i]'(by omega)).map fun z=>(z%(p:Int)).toNat:=by
  unfold eP;rw[Ac,Ag,Ab (by omega)];rfl
 rw[hg]
 refine⟨by rw[BF];exact hr _ (Bj _),fun x hx=>?_⟩
 obtain⟨z,_,rfl⟩:=A1.1 hx
 have h1:=De z (b:=(p:Int)) (by omega)
 have h2:=Gb z (b:=(p:Int)) (by omega)
 omega
theorem aTp{p n:Nat}{A:List (List Int)}(hp:0<p)(hA:A.length=n):SgM p n 0 (iL n A) (eP p A) 1:=by
 refine⟨1,.inl rfl,by simp[dgI];exact Cg.refl _ _,?_⟩
 rw[Int.one_mul]
 unfold iL
 refine aSb fun i j=>?_
 by_cases h:i<n∧j<n
 ·rw[jM h]
  unfold aIs
  rw[Ap h]
  have hg:enN (eP p A) i j=(((A.getD i []).getD j 0)%(p:Int)).toNat:=by
   unfold enN eP
   rw[Ac (l:=Cs _ A),Ag,Ac (l:=A)]
   cases A[i]? with
   |none=>simp
   | some v =>
    simp only[AQ,AT]
    rw[Ac,Ag,Ac]
    cases v[j]? with
    |none=>simp
    |some z=>rfl
  rw[hg,BN (De _ (by omega))]
  exact(Cg.emod _ _).symm
 ·rw[gK h];unfold aIs;rw[Ah h];exact Cg.refl _ _
end Go.Am
end
section
open List renaming map_map→ζ,mapM_map→ξ
open Go Go.Am Go.Proofs
namespace Go.Am
def rG(M:List (List Nat)):D:=.sl (M.map fun v=>[bL v])
theorem uA(M:List (List Nat)):∃ L,rG M=.sl L∧L.length=M.length∧∀(i:Nat) (v:List Nat),M[i]? = some v→L[i]? = some [bL v]:=⟨_,rfl,by simp,fun i v h=>by rw[Ag,h];rfl⟩
def SrR(M:List (List Nat))(n k c:Nat)(r:Int):Prop:=(r=-1∧∀ i,k≤i→i<n→enN M i c=0)∨∃ i:Nat,r=i∧k≤i∧i<n∧enN M i c≠0∧∀ j,k≤j→j<i→enN M j c=0
theorem bSu(M:List (List Nat))(n k c:Nat):∃ r,SrR M n k c r:=by
 by_cases h:∃ i,k≤i∧i<n∧enN M i c≠0
 ·have key:∀ m,(∃ i,k≤i∧i<n∧enN M i c≠0∧i<k+m)→∃ i,k≤i∧i<n∧enN M i c≠0∧∀ j,k≤j→j<i→enN M j c=0:=fun m=>by
   induction m with
   |zero=>rintro⟨i,h1,_,_,h4⟩;omega
   | succ m ih =>
    rintro⟨i,h1,h2,h3,h4⟩
    by_cases h5:∃ i,k≤i∧i<n∧enN M i c≠0∧i<k+m
    ·exact ih h5
    ·exact⟨i,h1,h2,h3,fun j hj1 hj2=>CQ fun hne=>h5 ⟨j,hj1,by omega,hne,by omega⟩⟩
  obtain⟨i,h1,h2,h3⟩:=h
  obtain⟨i,h⟩:=key (i+1) ⟨i,h1,h2,h3,by omega⟩
  exact⟨i,.inr ⟨i,rfl,h⟩⟩
 ·exact⟨-1,.inl ⟨rfl,fun i h1 h2=>CQ fun hne=>h ⟨i,h1,h2,hne⟩⟩⟩
def seS(L:List (List D))(k c i:Nat):St:=StL [(0,.d (.sl L)),(1,.d (.i .i64 k)),(2,.d (.i .i64 c)),(7,.d (.i .i64 (-1))),(8,.d (.i .i64 (i:Int)))] none []
set_option maxHeartbeats 8000000 in
set_option maxRecDepth 10000 in
theorem aMq[M0:Mch Aa](p n k c:Nat)(M:List (List Nat))(r:Int)(hn:n≤1000)(hM:RwM p n M)(hk:k≤n)(hc:c<n)(hr:SrR M n k c r):Spec Aa 112 [rG M,.i .i64 k,.i .i64 c] (.i .i64 r):=by
 obtain⟨L,hL,hLl,hLg⟩:=uA M
 have hMl:=hM.1
 have hLn:(L.length:Int)=(n:Int):=by omega
 have hLn':L.length=n:=by omega
 have hm1:Al.wrap (-1)=-1:=by decide
 rw[hL]
 refine bD (N:=27) Tryz.func112 ?_
 simp[-ζ,-ξ,↓KW,hm1]
 refine bJ (τ:=Nat) (fun i=>k≤i∧i≤n∧∀ j,k≤j→j<i→enN M j c=0) (fun i=>seS L k c i) (fun i=>n-i) k ⟨AA _,hk,fun j h1 h2=>by omega⟩ ?_ ?_
 ·unfold seS
  refine wkQ [] ?_ ?_<;>simp[-ζ,upd,aL,Γ0]
 ·rintro i ⟨hki,hin,hz⟩
  by_cases hlt:i<n
  ·obtain⟨v,hv⟩:∃ v,M[i]? = some v:=⟨_,Ab (by omega)⟩
   have hLi:=hLg i v hv
   have hLi':=cD hLi
   obtain⟨U,hU,hUl,hUg⟩:=pP v
   have hgv:M.getD i []=v:=by rw[Ac,hv];rfl
   have hvl:v.length=n:=by have:=(hM.2 i hlt).1;rwa [hgv]at this
   have hcv:c<v.length:=by omega
   have hUc:=hUg c hcv
   have hUc':=cD hUc
   have hcU:c<U.length:=by omega
   obtain⟨x,hx⟩:∃ x,v[c]! = x:=⟨_,rfl⟩
   have hen:enN M i c=x:=by unfold enN;rw[hgv,Ac,Ab hcv,←hx,Df v c hcv];rfl
   rw[hU]at hLi hLi'
   rw[hx]at hUc hUc'
   have hw0:Al.wrap (i:Int)=i:=aU
   have hwc:Al.wrap (c:Int)=c:=aU
   have hw1:Al.wrap ((i:Int)+1)=((i+1:Nat):Int):=aU
   have hltI:(i:Int)<(n:Int):=by omega
   by_cases hx0:x=0
   ·subst hx0
    simp[-ζ,-ξ,↓KW,seS,hLn,hLn',hlt,hltI,hLi,hLi',hcU,hUc,hUc',hw0,hwc,hw1]
    refine aK (i+1) ⟨by omega,by omega,fun j h1 h2=>?_⟩ (by show n-(i+1)<n-i;omega) ?_
    ·by_cases hj:j=i
     ·rw[hj];exact hen
     ·exact hz j h1 (by omega)
    ·show ∃ ρ,Wk _ (seS _ _ _ _) ρ
     unfold seS
     refine wkQ [] ?_ ?_<;>simp[-ζ,upd,aL,Γ0]
   ·have hx1:((x:Int)==0)=false:=by rw[Eg];omega
    have hri:r=i:=by
     rcases hr with ⟨_,h⟩|⟨i',rfl,h1,h2,h3,h4⟩
     ·exact absurd (hen ▸ h i hki hlt) hx0
     ·rcases Nat.lt_trichotomy i i' with h|h|h
      ·exact absurd (hen ▸ h4 i hki h) hx0
      ·rw[h]
      ·exact absurd (hz i' h1 h) h3
    subst hri
    simp[-ζ,-ξ,↓KW,seS,hLn,hLn',hlt,hltI,hLi,hLi',hcU,hUc,hUc',hw0,hwc,hx0,hx1]
    exact bF (by simp[-ζ,-ξ,↓KW])
  ·have hltI:¬(i:Int)<(n:Int):=by omega
   have hri:r=-1:=by
    rcases hr with ⟨h,_⟩|⟨i',rfl,h1,h2,h3,h4⟩
    ·exact h
    ·exact absurd (hz i' h1 (by omega)) h3
   subst hri
   simp[-ζ,-ξ,↓KW,seS,hLn,hLn',hlt,hltI]
   exact bF (by simp[-ζ,-ξ,↓KW])
theorem tZ(l:List Nat):∃ L,bL l=.sl L∧L.length=l.length∧∀(i n:Nat),l[i]? = some n→L[i]? = some [.i .u64 (n:Int)]:=⟨_,rfl,by simp,fun i n h=>by rw[Ag,h];rfl⟩
theorem bQe[M:Mch Aa](p x:Nat)(h:x<p):Spec Aa 175 [.i .u64 x,.pt [.i .u64 p]] (.b false):=by
 have h1:¬(p:Int)≤(x:Int):=by omega
 have h2:¬p≤x:=by omega
 refine bD (N:=7) Tryz.func175 ?_
 simp[-ζ,-ξ,↓KW,↓aE,↓aB,↓aF,↓aG,h1,h2]
set_option maxHeartbeats 8000000 in
theorem aOi[M:Mch Aa](p:Nat)(v:List Nat)(hv:∀ x∈v,x<p)(hl:v.length≤1000000):Spec Aa 180 [bL v,.fn 175 [.pt [.i .u64 p]]] (.i .i64 (-1)):=by
 obtain⟨L,hL,hLl,hLg⟩:=tZ v
 have hm1:Al.wrap (-1)=-1:=by decide
 rw[hL]
 refine bD (N:=19) Tryz.func180 ?_
 simp[-ζ,-ξ,↓KW,↓aE,↓aB,↓aF,↓aG]
 refine bX (fun i:Nat=>i≤v.length) (fun i=>StL [(0,.d (.sl L)),(1,.d (.fn 175 [.pt [.i .u64 p]])),(7,.d (.i .i64 (L.length:Int))),(8,.d (.i .i64 (i:Int)))] none []) (fun i=>v.length-i) 0 (A5 _) ?_ ?_
 ·refine wkQ [] ?_ ?_<;>simp[-ζ,upd,aL,Γ0]
 ·intro i hi
  by_cases hgo:i<v.length
  ·obtain⟨x,hx⟩:∃ x,v[i]? = some x:=⟨_,Ab hgo⟩
   have hLi:=hLg i x hx
   have hLi':=cD hLi
   have hiL:i<L.length:=by omega
   have hw:Al.wrap ((i:Int)+1)=((i+1:Nat):Int):=aU
   have hw0:Al.wrap (i:Int)=i:=aU
   have hS:=bQe (M:=M) p x (hv x (Ai hx))
   simp[-ζ,-ξ,↓KW,↓aE,↓aB,↓aF,↓aG,hiL,hLi,hLi',hw0]
   refine aKu (ds:=[.i .u64 x,.pt [.i .u64 p]]) (by rfl) hS ?_
   simp[-ζ,-ξ,↓KW,↓aE,↓aB,↓aF,↓aG,hw]
   refine aK (i+1) hgo (slQ hgo) (wkQ [] ?_ ?_)<;>simp[-ζ,upd,aL,Γ0]
  ·have hiL:¬i<L.length:=by omega
   simp[-ζ,-ξ,↓KW,↓aE,↓aB,↓aF,↓aG,hiL,hm1]
theorem aBv[M:Mch Aa](p:Nat)(v:List Nat)(hv:∀ x∈v,x<p)(hl:v.length≤1000000):Spec Aa 174 [bL v,.fn 175 [.pt [.i .u64 p]]] (.b false):=by
 have hS:=aOi (M:=M) p v hv hl
 obtain⟨L,hL,hLl,hLg⟩:=tZ v
 rw[hL]at hS ⊢
 refine bD (N:=9) Tryz.func174 ?_
 simp[-ζ,-ξ,↓KW,↓aE,↓aB,↓aF,↓aG]
 refine aD hS ?_
 simp[-ζ,-ξ,↓KW,↓aE,↓aB,↓aF,↓aG]
theorem aPo[M:Mch Aa](p:Nat)(v:List Nat)(hv:∀ x∈v,x<p)(hl:v.length≤1000000):Spec Aa 153 [.i .u64 p,bL v] (.b true):=by
 have hS:=aBv (M:=M) p v hv hl
 obtain⟨L,hL,hLl,hLg⟩:=tZ v
 rw[hL]at hS ⊢
 refine bD (N:=9) Tryz.func153 ?_
 simp[-ζ,-ξ,↓KW,↓aE,↓aB,↓aF,↓aG]
 refine aD hS ?_
 simp[-ζ,-ξ,↓KW,↓aE,↓aB,↓aF,↓aG]
def rH(p n:Nat)(M:List (List Nat)):D:=.ag [.i .u64 p,.i .i64 (n:Int),rG M]
set_option maxHeartbeats 8000000 in
set_option maxRecDepth 10000 in
theorem aRj[M0:Mch Aa](p n:Nat)(M:List (List Nat))(hn:n≤1000)(hM:RwM p n M)(hP:Spec Aa 48 [.i .u64 p] (.b true)):Spec Aa 110 [rH p n M] (.b true):=by
 obtain⟨L,hL,hLl,hLg⟩:=uA M
 have hMl:=hM.1
 have hLn:(L.length:Int)=(n:Int):=by omega
 have hLn':L.length=n:=by omega
 have hn0:¬(n:Int)<0:=by omega
 unfold rH
 rw[hL]
 refine bD (N:=34) Tryz.func110 ?_
 simp[-ζ,-ξ,↓KW]
 refine aD hP ?_
 simp[-ζ,-ξ,↓KW,hn0,hLn,hLn']
 refine bJ (τ:=Nat) (fun i=>i≤n) (fun i=>StL [(1,.ptr 1 0),(15,.d (.sl L)),(16,.d (.i .i64 n)),(17,.d (.i .i64 (i:Int)))] none [.cells 119 [.d (.i .u64 p),.d (.i .i64 n),.d (.sl L)]]) (fun i=>n-i) 0 (A5 _) ?_ ?_
 ·refine wkQ [1] ?_ ?_<;>simp[-ζ,upd,aL,Γ0]
 ·intro i hi
  by_cases hlt:i<n
  ·obtain⟨v,hv⟩:∃ v,M[i]? = some v:=⟨_,Ab (by omega)⟩
   have hLi:=hLg i v hv
   have hLi':=cD hLi
   have hiL:i<L.length:=by omega
   have hgv:M.getD i []=v:=by rw[Ac,hv];rfl
   have hMv:=hM.2 i hlt
   rw[hgv]at hMv
   have hB:=aPo (M:=M0) p v hMv.2 (by omega)
   obtain⟨U,hU,hUl,_⟩:=tZ v
   rw[hU]at hLi hLi' hB
   have hUn:(U.length:Int)=(n:Int):=by omega
   have hUn':U.length=n:=by omega
   have hw0:Al.wrap (i:Int)=i:=aU
   have hw1:Al.wrap ((i:Int)+1)=((i+1:Nat):Int):=aU
   have hltI:(i:Int)<(n:Int):=by omega
   simp[-ζ,-ξ,↓KW,hlt,hltI,hiL,hLi,hLi',hUn,hUn',hw0]
   refine aD hB ?_
   simp[-ζ,-ξ,↓KW,hw1]
   refine aK (i+1) hlt (by show n-(i+1)<n-i;omega) ?_
   show ∃ ρ,Wk _ (StL _ _ _) ρ
   refine wkQ [1] ?_ ?_<;>simp[-ζ,upd,aL,Γ0]
  ·have hltI:¬(i:Int)<(n:Int):=by omega
   simp[-ζ,-ξ,↓KW,hlt,hltI]
   exact bF (by simp[-ζ,-ξ,↓KW])
theorem oZ(v:Nat→AV)(o:HO)(m id:Nat):(iZ v (fun _=>[o]) m).H id=if id=m then some o else none:=by
 simp only[iZ,gF,BD]
 by_cases h:id=m
 ·rw[Ap h,Ap (by omega),h,CN];rfl
 ·rw[Ah h,Ah (by omega)]
theorem bJc{Γ:Nat→AV}{H:Hp}{n b l s:Nat}{e:TypeId}{dl:List D}(hn:n≠0)(hH:H b=some (.cells e (dl.map .d))) :
  ∀ m,0<m→∃ ρ,Wk ⟨upd Γ 0 (.own b 0 l s),H,n⟩ (iZ (fun m=>.own m 0 l s) (fun _=>[.cells e (dl.map .d)]) m) ρ:=by
 intro m hm
 refine⟨fun _=>b,fun id hid=>?_,fun t=>?_,fun id o' ho=>?_,fun id id' h1 h2 _=>?_,fun h=>?_,fun h=>absurd h ?_⟩
 ·rw[oZ,Ah (by simp only[iZ,BD]at hid;omega)]
 ·show Sub _ _ _ _ (upd (fun _=>.any) 0 (.own m 0 l s) t)
  by_cases e:t=0
  ·subst e
   simp only[upd_same]
   exact⟨rfl,rfl,rfl,rfl,by rw[oZ,Ap rfl];rfl⟩
  ·rw[upd_ne _ _ e];exact qG _
 ·rw[oZ]at ho
  split at ho
  ·injection ho with ho;subst ho
   exact⟨_,hH,mJ _ _⟩
  ·cases ho
 ·rw[oZ]at h1 h2
  split at h1
  ·split at h2
   ·omega
   ·cases h2
  ·cases h1
 ·rw[oZ,Ah (by omega)]at h;cases h
 ·simp only[iZ,BD];omega
set_option maxHeartbeats 4000000 in
set_option maxRecDepth 10000 in
theorem bVo[M:Mch Aa](v:List Nat)(h0:v≠[])(h:v.length≤1000000):rJ Aa 154 [bL v] (fun m=>.own m 0 v.length 1) (fun _=>[.cells 43 ((dU v).map .d)]):=by
 refine zG (N:=8) aT Tryz.func154 rfl rfl rfl (by decide) (by kernel_rfl) (by kernel_rfl) (by simp) rfl ?_
 obtain⟨x,w,rfl⟩:∃ x w,v=x::w:=by
  cases v with
  |nil=>exact absurd rfl h0
  |cons x w=>exact⟨x,w,rfl⟩
 have hb:(w.length+1)*8≤140737488355328∧w.length+1≤maxLen:=by
  simp only[Aj]at h
  exact⟨by omega,bY (by omega)⟩
 have hcs:dU (x::w)=D.i .u64 x::dU w:=rfl
 have hfl:(Cs (Cs AV.d) (Cs (fun(p:Nat)=>[D.i .u64 (p:Int)]) w)).flatten=(dU w).map AV.d:=aSc w
 have hone:(∀ y:D,y∈dU w→one (AV.d y)=true)=True:=eq_true fun y hy=>by
  obtain⟨z,_,rfl⟩:=A1.1 hy;rfl
 have hdl:=eN w
 simp[-ζ,-ξ,↓KW,bL,hb,hfl,hcs,hone,hdl]
 refine bJc (e:=43) (dl:=dU (x::w)) (by decide) ?_
 rw[Ap rfl,hcs]
 simp[gY,dS,Fg]
def iP(v:List Nat):HO:=.cells 43 ((dU v).map .d)
def hdI(ids:List Nat)(c:Nat):List AV:=ids.map fun j=>AV.own j 0 c 1
def idR(n m:Nat):List Nat:=(AK n).map (·+m)
theorem bOh(n m:Nat):(idR n m).length=n:=by simp[idR]
theorem xT{n m i:Nat}(h:i<n):(idR n m)[i]? = some (i+m):=by unfold idR;rw[Ag,Bn h];rfl
def mU(c:Nat)(M:List (List Nat))(m:Nat):List HO:=.cells 25 (hdI (idR M.length (m+1)) c)::M.map iP
theorem aFv(c:Nat)(M:List (List Nat))(m:Nat):(mU c M m).length=M.length+1:=by simp[mU]
theorem nL{ids:List Nat}{c i j:Nat}(h:ids[i]? = some j):(hdI ids c)[i]? = some (.own j 0 c 1):=by unfold hdI;rw[Ag,h];rfl
theorem bJb{Γ:Nat→AV}{H:Hp}{n:Nat}{av:AV}{R c m0:Nat}{M:List (List Nat)}(hM:M.length=R)(hn:n≠0)(hav:av=.own m0 0 R 1)(hH:∀(i:Nat) o,(mU c M m0)[i]? = some o→H (i+m0)=some o) :
  ∀ m,0<m→∃ ρ,Wk ⟨upd Γ 0 av,H,n⟩ (iZ (fun m=>.own m 0 R 1) (mU c M) m) ρ:=by
 intro m hm0
 subst hav
 have hML:(mU c M m).length=R+1:=by rw[aFv,hM]
 have hin:∀ i,i<R+1→(iZ (fun m=>.own m 0 R 1) (mU c M) m).H (i+m)=(mU c M m)[i]? := fun i h=>by
  simp only[iZ,gF]
  rw[Ap ⟨by omega,by rw[hML];omega⟩,Dh]
 have hout:∀ id,¬(m≤id∧id<m+(R+1))→(iZ (fun m=>.own m 0 R 1) (mU c M) m).H id=none:=fun id h=>by
  simp only[iZ,gF]
  rw[Ah (by rw[hML];exact h)]
 have hsome:∀ id,((iZ (fun m=>.own m 0 R 1) (mU c M) m).H id).isSome=true→∃ i,id=i+m∧i<R+1:=fun id h=>by
  by_cases hr:m≤id∧id<m+(R+1)
  ·exact⟨id-m,by omega,by omega⟩
  ·rw[hout id hr]at h;cases h
 have hget:∀ i,i<R+1→((iZ (fun m=>.own m 0 R 1) (mU c M) m).H (i+m)).isSome=true:=fun i h=>by
  rw[hin i h,Ab (by rw[hML];exact h)];rfl
 refine⟨fun id=>id-m+m0,fun id hid=>hout id (by simp only[iZ]at hid;rw[hML]at hid;omega),fun t=>?_,fun id o' ho=>?_,fun id id' h1 h2 e=>?_,fun h=>?_,fun h=>?_⟩
 ·show Sub _ _ _ _ (upd (fun _=>.any) 0 (.own m 0 R 1) t)
  by_cases e:t=0
  ·subst e
   simp only[upd_same]
   exact⟨by simp,rfl,rfl,rfl,by have:=hget 0 (by omega);rwa [Ax]at this⟩
  ·rw[upd_ne _ _ e];exact qG _
 ·obtain⟨i,rfl,hi⟩:=hsome id (by rw[ho];rfl)
  rw[hin i hi]at ho
  simp only[Dh]
  rcases i with _|i
  ·simp only[mU,BP]at ho
   injection ho with ho;subst ho
   refine⟨_,hH 0 _ rfl,dL.2 ⟨rfl,dJ.2 ⟨by simp[hdI,idR],fun k x y h1 h2=>?_⟩⟩⟩
   have hlt:k<M.length:=by have:=(Ao.1 h1).1;simpa[hdI,idR]using this
   rw[nL (xT hlt)]at h1 h2
   injection h1 with h1;injection h2 with h2;subst h1;subst h2
   rw[hM]at hlt
   exact⟨by show k+(m0+1)=k+(m+1)-m+m0;omega,rfl,rfl,rfl,by have:=hget (k+1) (by omega);rwa [show k+1+m=k+(m+1)by omega]at this⟩
  ·refine⟨o',hH (i+1) o' (by simpa only[mU,Bt]using ho),?_⟩
   simp only[mU,Bt,Ag]at ho
   obtain⟨v,_,rfl⟩:=Af.1 ho
   exact mJ _ _
 ·obtain⟨i,rfl,_⟩:=hsome id h1
  obtain⟨j,rfl,_⟩:=hsome id' h2
  have e':i+m-m+m0=j+m-m+m0:=e
  omega
 ·obtain⟨i,hi,_⟩:=hsome 0 h;omega
 ·simp only[iZ]at h;omega
def hdC(n c i:Nat):List AV:=hdI (idR i 2) c++As (n-i) .nil
theorem bOn{n c i:Nat}(h:i≤n):(hdC n c i).length=n:=by simp[hdC,hdI,idR];omega
theorem aJz(i m:Nat):idR (i+1) m=idR i m++[i+m]:=by simp[idR,FP]
theorem bOm{n c i:Nat}(h:i<n):(hdC n c i).set i (.own (i+2) 0 c 1)=hdC n c (i+1):=by
 unfold hdC
 have hl:(hdI (idR i 2) c).length=i:=by simp[hdI,idR]
 rw[D4 _ _ (by omega),hl,CN,show n-i=(n-(i+1))+1 by omega,CF,DG,aJz]
 simp[hdI]
theorem aOa(l:List AV)(off:Nat)(x:AV)(h:off<l.length):lay l off [x]=l.set off x:=by
 have h1:off+[x].length≤l.length:=by simp;omega
 apply C4
 intro k
 rw[xR h1,C3]
 by_cases e:off=k
 ·subst e;simp[h]
 ·rw[Ah (by simp;omega),Ah e]
def cpH(n c:Nat)(M:List (List Nat))(i:Nat):Hp:=iV 1 (.cells 25 (hdC n c i)::(M.take i).map iP)
theorem xY{n c i j:Nat}{M:List (List Nat)}{v:List Nat}(hj:j<i)(hv:M[j]? = some v):cpH n c M i (j+2)=some (iP v):=by
 unfold cpH
 rw[show j+2=(j+1)+1 by omega,pO,Bt,Ag,List.getElem?_take,Ap hj,hv];rfl
theorem uF{n c i id:Nat}{M:List (List Nat)}(hi:i≤M.length)(h:i+2≤id):cpH n c M i id=none:=aAc (by simp;omega)
theorem aKo{n c i:Nat}{M:List (List Nat)}(hi:i≤M.length){H:Hp}{id:Nat}{o:HO}(ho:cpH n c M i id=some o):mW H (cpH n c M i) (fun i=>i) o o:=by
 refine aAb (fun o ho=>?_) ho
 have hlen:(HO.cells 25 (hdC n c i)::(M.take i).map iP).length=i+1:=by simp;omega
 rw[hlen]
 rcases Bq.1 ho with rfl|ho
 ·refine AW.2 fun x hx=>?_
  rcases BU.1 hx with hx|hx
  ·obtain⟨j,hj,rfl⟩:=A1.1 hx
   obtain⟨k,hk,rfl⟩:=A1.1 hj
   have:=CI.1 hk
   simp only[rfC,Bw];omega
  ·rw[Ed hx];rfl
 ·obtain⟨v,_,rfl⟩:=A1.1 ho
  refine AW.2 fun c hc=>?_
  obtain⟨x,_,rfl⟩:=A1.1 hc;rfl
set_option maxHeartbeats 8000000 in
set_option maxRecDepth 10000 in
theorem aAl[M0:Mch Aa](n c:Nat)(M:List (List Nat))(hn:n≤1000)(hM:M.length=n)(hr:∀ v∈M,v.length=c)(hc:0<c)(hc1:c≤1000):rJ Aa 111 [rG M] (fun m=>.own m 0 n 1) (mU c M):=by
 obtain⟨L,hL,hLl,hLg⟩:=uA M
 have hLn:(L.length:Int)=(n:Int):=by omega
 have hLn':L.length=n:=by omega
 have m1:¬(n:Int)<0:=by omega
 have hm3:24*(n:Int)≤281474976710656:=by omega
 have hm4:(n:Int)≤9223372036854775807:=by omega
 rw[hL]
 refine zG (N:=23) aT Tryz.func111 rfl rfl rfl (by decide) (by kernel_rfl) (by kernel_rfl) (by simp) rfl ?_
 simp[-ζ,-ξ,↓KW,hLn,hLn',m1,hm3,hm4,bY]
 refine bX (fun i:Nat=>i≤n) (fun i=>⟨fV [(3,.own 1 0 n 1),(9,.d (.sl L)),(10,.d (.i .i64 n)),(11,.d (.i .i64 (i:Int)))],cpH n c M i,i+2⟩) (fun i=>n-i) 0 (A5 _) ?_ ?_
 ·refine⟨_,lH ?_ (fun id o' ho=>?_) (fun id hid=>uF (by omega) hid) (by simp)⟩
  ·have g1:(cpH n c M 0 1).isSome=true:=rfl
   simp[-ζ,upd,aL,Γ0,g1]
  ·refine⟨o',?_,aKo (by omega) ho⟩
   have hid:id=1:=by
    rcases Az id 2 with h|h
    ·rcases Bb id with h0|h0
     ·subst h0;cases ho
     ·omega
    ·rw[uF (by omega) h]at ho;cases ho
   subst hid
   have e:cpH n c M 0 1=some (.cells 25 (As n .nil)):=by
    show some (HO.cells _ (hdC n c 0))=_
    simp[hdC,hdI,idR]
   rw[e]at ho
   simpa[upd]using ho
 ·intro i hi
  by_cases hlt:i<n
  ·obtain⟨v,hv⟩:∃ v,M[i]? = some v:=⟨_,Ab (by omega)⟩
   have hLi:=hLg i v hv
   have hLi':=cD hLi
   have hiL:i<L.length:=by omega
   have hvl:=hr v (Ai hv)
   have hv0:v≠[]:=fun e=>by rw[e]at hvl;simp at hvl;omega
   have hCl:=bVo (M:=M0) v hv0 (by omega)
   rw[hvl]at hCl
   have q1:(i:Int)<n:=by omega
   have hw0:Al.wrap (i:Int)=i:=aU
   have hw1:Al.wrap ((i:Int)+1)=((i+1:Nat):Int):=aU
   have hH1:cpH n c M i 1=some (.cells 25 (hdC n c i)):=rfl
   have hhl:=bOn (c:=c) hi
   have hset:=bOm (c:=c) hlt
   have hly:lay (hdC n c i) i [.own (i+2) 0 c 1]=hdC n c (i+1):=by rw[aOa _ _ _ (by omega),hset]
   have hne1:¬1=i+2:=by omega
   have hi1:i+1≤n:=hlt
   have hrow:=fun j (hj:j<i+1) (w:List Nat) (hw:M[j]? = some w)=>xY (n:=n) (c:=c) hj hw
   have hold:∀ id,id≠1→id≠i+2→cpH n c M (i+1) id=cpH n c M i id:=fun id h1 h2=>by
    rcases Bb id with h0|h0
    ·subst h0;rfl
    ·obtain⟨j,rfl⟩:∃ j,id=j+2:=⟨id-2,by omega⟩
     by_cases hj:j<i
     ·have hjM:M[j]? = some (M.getD j []):=by rw[Ac,Ab (by omega)];rfl
      rw[xY hj hjM,xY (by omega) hjM]
     ·rw[uF (by omega) (by omega),uF (by omega) (by omega)]
   have htop:=fun id=>uF (n:=n) (c:=c) (M:=M) (i:=i+1) (id:=id) (by omega)
   have hself:=fun(H:Hp) id o=>aKo (n:=n) (c:=c) (M:=M) (i:=i+1) (by omega) (H:=H) (id:=id) (o:=o)
   have hnew:=hrow i (by omega) v hv
   have hn1:cpH n c M (i+1) 1=some (.cells 25 (hdC n c (i+1))):=rfl
   generalize hHg:cpH n c M i=H at *
   generalize hKg:cpH n c M (i+1)=K at *
   generalize hdC n c i=cs at *
   generalize hdC n c (i+1)=cs1 at *
   simp[-ζ,-ξ,↓KW,q1,hlt,hiL,hLi,hLi',hw0]
   refine kO [bL v] (fun m=>.own m 0 c 1) (fun _=>[.cells 43 ((dU v).map .d)]) (by simp) (by simp) (by simp) (by rfl) (by rfl) hCl ?_
   simp[-ζ,-ξ,↓KW,tY,hne1,hH1,hhl,hlt,hi1,hly,hw0,hw1]
   refine aK (i+1) hi1 (by show n-(i+1)<n-i;omega) ?_
   rw[hKg]
   refine⟨_,lH ?_ (fun id o' ho=>?_) (fun id hid=>htop id hid) (by simp)⟩
   ·simp[-ζ,upd,aL,Γ0,hn1]
   ·refine⟨o',?_,hself _ _ _ ho⟩
    by_cases h1:id=1
    ·subst h1;rw[hn1]at ho;simpa[upd]using ho
    ·by_cases h2:id=i+2
     ·subst h2;rw[hnew]at ho;simpa[upd,iP]using ho
     ·rw[hold id h1 h2]at ho;simpa[upd,h1,h2]using ho
  ·have q1:¬(i:Int)<n:=by omega
   have hin:i=n:=by omega
   subst hin
   have hmb:∀(j:Nat) o,(mU c M 1)[j]? = some o→cpH i c M i (j+1)=some o:=fun j o h=>by
    rcases j with _|j
    ·simp only[mU,BP]at h
     injection h with h;subst h
     show some (HO.cells _ (hdC i c i))=_
     unfold hdC
     rw[CN,List.replicate_zero,FQ,hM]
    ·simp only[mU,Bt,Ag]at h
     obtain⟨v,hv,rfl⟩:=Af.1 h
     exact xY (by have:=(Ao.1 hv).1;omega) hv
   generalize hHg:cpH i c M i=H at *
   simp[-ζ,-ξ,↓KW,q1]
   exact bJb hM (Nat.succ_ne_zero _) rfl hmb
def iQ:List Nat→List (List Nat)→Nat→Option HO
 |j::ids,v::M,id=>if id=j then some (iP v)else iQ ids M id
 |_,_,_=>none
theorem fK:∀{ids:List Nat} {M:List (List Nat)} {id:Nat} {o:HO},iQ ids M id=some o→∃(i:Nat) (v:List Nat),ids[i]? = some id∧M[i]? = some v∧o=iP v
 |[],M,id,o,h=>by cases M<;>cases h
 |j::ids,[],id,o,h=>by cases h
 | j::ids,v::M,id,o,h=>by
  unfold iQ at h
  split at h
  ·rename_i e;injection h with h;exact⟨0,v,by simp[e],rfl,h.symm⟩
  ·obtain⟨i,w,h1,h2,h3⟩:=fK h
   exact⟨i+1,w,h1,h2,h3⟩
theorem jG:∀{ids:List Nat} {M:List (List Nat)} {i id:Nat} {v:List Nat},ids.Nodup→ids[i]? = some id→M[i]? = some v→iQ ids M id=some (iP v)
 |[],M,i,id,v,_,h,_=>by simp at h
 |j::ids,[],i,id,v,_,_,h=>by simp at h
 | j::ids,w::M,0,id,v,_,h1,h2=>by
  simp at h1 h2;subst h1;subst h2
  unfold iQ;rw[Ap rfl]
 | j::ids,w::M,i+1,id,v,hn,h1,h2=>by
  have h1':ids[i]? = some id:=by simpa using h1
  have hne:id≠j:=fun e=>(Dz.1 hn).1 (by rw[←e];exact Ai h1')
  unfold iQ;rw[Ah hne]
  exact jG (Dz.1 hn).2 h1' (by simpa using h2)
theorem aUb{ids ids':List Nat}{M M':List (List Nat)}(hn:ids.Nodup)(hn':ids'.Nodup)(h:∀(i:Nat) (id:Nat) (v:List Nat),ids[i]? = some id→M[i]? = some v→∃ j:Nat,ids'[j]? = some id∧M'[j]? = some v)
  (h':∀(i:Nat) (id:Nat) (v:List Nat),ids'[i]? = some id→M'[i]? = some v→∃ j:Nat,ids[j]? = some id∧M[j]? = some v):iQ ids M=iQ ids' M':=by
 funext id
 cases h1:iQ ids M id with
 | some o =>
  obtain⟨i,v,e1,e2,rfl⟩:=fK h1
  obtain⟨j,e3,e4⟩:=h i id v e1 e2
  exact(jG hn' e3 e4).symm
 | none =>
  cases h2:iQ ids' M' id with
  |none=>rfl
  | some o =>
   obtain⟨i,v,e1,e2,rfl⟩:=fK h2
   obtain⟨j,e3,e4⟩:=h' i id v e1 e2
   rw[jG hn e3 e4]at h1;cases h1
theorem aCm{ids:List Nat}{M:List (List Nat)}{i id:Nat}{v:List Nat}(hn:ids.Nodup)(hl:ids.length=M.length)(hi:ids[i]? = some id)(j:Nat):iQ ids (M.set i v) j=if j=id then some (iP v)else iQ ids M j:=by
 have hil:i<M.length:=by rw[←hl];exact(Ao.1 hi).1
 by_cases hj:j=id
 ·subst hj
  rw[Ap rfl]
  exact jG hn hi (List.getElem?_set_self hil)
 ·rw[Ah hj]
  cases h1:iQ ids M j with
  | some o =>
   obtain⟨k,w,e1,e2,rfl⟩:=fK h1
   refine jG hn e1 ?_
   rw[D9 (fun e=>by rw[e]at hi;rw[hi]at e1;injection e1 with e1;exact hj e1.symm)];exact e2
  | none =>
   cases h2:iQ ids (M.set i v) j with
   |none=>rfl
   | some o =>
    obtain⟨k,w,e1,e2,rfl⟩:=fK h2
    rw[D9 (fun e=>by rw[e]at hi;rw[hi]at e1;injection e1 with e1;exact hj e1.symm)]at e2
    rw[jG hn e1 e2]at h1;cases h1
structure oK(n:Nat)(ids:List Nat):Prop where
 len:ids.length=n
 nd:ids.Nodup
 lo:∀ j∈ids,3≤j∧j<n+3
def deH(p n:Nat)(L:List (List D))(ids:List Nat)(M:List (List Nat)):Hp:=fun id =>
 if id=1 then some (.cells 119 [.d (.i .u64 p),.d (.i .i64 n),.d (.sl L)])else if id=2 then some (.cells 25 (hdI ids n))else iQ ids M id
section
variable {p n:Nat} {L:List (List D)} {ids:List Nat} {M:List (List Nat)}
theorem qU{i id:Nat}{v:List Nat}(h:oK n ids)(hi:ids[i]? = some id)(hv:M[i]? = some v):deH p n L ids M id=some (iP v):=by
 have:=h.lo id (Ai hi)
 unfold deH;rw[Ah (by omega),Ah (by omega)]
 exact jG h.nd hi hv
theorem aGj{id:Nat}(h:oK n ids)(hid:n+3≤id):deH p n L ids M id=none:=by
 unfold deH;rw[Ah (by omega),Ah (by omega)]
 cases h1:iQ ids M id with
 |none=>rfl
 | some o =>
  obtain⟨i,v,e1,_,_⟩:=fK h1
  have:=h.lo id (Ai e1);omega
theorem aKn(h:oK n ids)(hM:M.length=n){H:Hp}{id:Nat}{o:HO}(ho:deH p n L ids M id=some o):mW H (deH p n L ids M) (fun i=>i) o o:=by
 unfold deH at ho
 split at ho
 ·injection ho with ho;subst ho
  refine dL.2 ⟨rfl,dJ.2 ⟨rfl,fun k x y h1 h2=>?_⟩⟩
  rw[h1]at h2;injection h2 with h2;subst h2
  rcases k with _|_|_|k
  ·simp at h1;subst h1;exact(kM _ _).2 rfl
  ·simp at h1;subst h1;exact(kM _ _).2 rfl
  ·simp at h1;subst h1;exact(kM _ _).2 rfl
  ·simp at h1
 ·split at ho
  ·injection ho with ho;subst ho
   refine dL.2 ⟨rfl,dJ.2 ⟨rfl,fun k x y h1 h2=>?_⟩⟩
   rw[h1]at h2;injection h2 with h2;subst h2
   unfold hdI at h1
   rw[Ag]at h1
   obtain⟨j,hj,rfl⟩:=Af.1 h1
   have hk:k<M.length:=by rw[hM,←h.len];exact(Ao.1 hj).1
   exact⟨rfl,rfl,rfl,rfl,by rw[qU h hj (Ab hk)];rfl⟩
  ·obtain⟨i,v,_,_,rfl⟩:=fK ho
   exact mJ _ _
theorem bPj{i id:Nat}{v:List Nat}(h:oK n ids)(hM:M.length=n)(hi:ids[i]? = some id):upd (deH p n L ids M) id (some (iP v))=deH p n L ids (M.set i v):=by
 have hlo:=h.lo id (Ai hi)
 funext j
 unfold upd deH
 by_cases hj:j=id
 ·subst hj
  rw[Ap rfl,Ah (by omega),Ah (by omega),aCm h.nd (by rw[h.len,hM]) hi,Ap rfl]
 ·rw[Ah hj]
  split
  ·rfl
  ·split
   ·rfl
   ·rw[aCm h.nd (by rw[h.len,hM]) hi,Ah hj]
def swI(ids:List Nat)(k a:Nat):List Nat:=(ids.set k (ids.getD a 0)).set a (ids.getD k 0)
theorem aEm{k a r:Nat}(hk:k<ids.length)(ha:a<ids.length)(hr:r<ids.length):(swI ids k a)[r]? = some (if r=a then ids.getD k 0 else if r=k then ids.getD a 0 else ids.getD r 0):=by
 unfold swI
 rw[C3]
 by_cases h1:a=r
 ·rw[Ap h1,Ap (by rw[CL];exact ha),Ap h1.symm]
 ·rw[Ah h1,Ah (fun e=>h1 e.symm),C3]
  by_cases h2:k=r
  ·rw[Ap h2,Ap hk,Ap h2.symm]
  ·rw[Ah h2,Ah (fun e=>h2 e.symm),Ab hr,Ac,Ab hr];rfl
theorem yK{k a r:Nat}(hk:k<M.length)(ha:a<M.length)(hr:r<M.length):(swM M k a)[r]? = some (if r=a then M.getD k []else if r=k then M.getD a []else M.getD r []):=by
 have h:=aEl (M:=M) (k:=k) (a:=a) (r:=r) hk ha
 rw[←h,Ac,Ab (by simp[swM];exact hr)];rfl
theorem aYv{k a:Nat}(hk:k<ids.length)(ha:a<ids.length):(swI ids k a).Perm ids:=by
 unfold swI
 by_cases e:a=k
 ·subst e
  have:ids.set a (ids.getD a 0)=ids:=by rw[Ac,Ab hk];exact List.set_getElem_self hk
  rw[this,this]
 ·have h1:ids.getD a 0=ids[a]:=by rw[Ac,Ab ha];rfl
  have h2:ids.getD k 0=ids[k]:=by rw[Ac,Ab hk];rfl
  rw[h1,h2]
  exact List.set_set_perm hk ha
theorem aMd{k a:Nat}(h:oK n ids)(hk:k<n)(ha:a<n):oK n (swI ids k a):=by
 have hp:=aYv (ids:=ids) (k:=k) (a:=a) (by rw[h.len];exact hk) (by rw[h.len];exact ha)
 exact⟨by rw[hp.length_eq,h.len],hp.nodup_iff.2 h.nd,fun j hj=>h.lo j (hp.mem_iff.1 hj)⟩
theorem aNa{k a:Nat}(h:oK n ids)(hM:M.length=n)(hk:k<n)(ha:a<n):iQ (swI ids k a) (swM M k a)=iQ ids M:=by
 have hk1:k<ids.length:=by rw[h.len];exact hk
 have ha1:a<ids.length:=by rw[h.len];exact ha
 have hk2:k<M.length:=by rw[hM];exact hk
 have ha2:a<M.length:=by rw[hM];exact ha
 have gI:∀ r,r<n→ids[r]? = some (ids.getD r 0):=fun r hr=>by rw[Ac,Ab (by rw[h.len];exact hr)];rfl
 have gM:∀ r,r<n→M[r]? = some (M.getD r []):=fun r hr=>by rw[Ac,Ab (by rw[hM];exact hr)];rfl
 refine aUb (aMd h hk ha).nd h.nd (fun i id v e1 e2=>?_) fun i id v e1 e2=>?_
 ·have hi:i<n:=by have:=(Ao.1 e1).1;rw[(aMd h hk ha).len]at this;exact this
  rw[aEm hk1 ha1 (by rw[h.len];exact hi)]at e1
  rw[yK hk2 ha2 (by rw[hM];exact hi)]at e2
  injection e1 with e1;injection e2 with e2
  by_cases c1:i=a
  ·rw[Ap c1]at e1 e2;exact⟨k,by rw[gI k hk,e1],by rw[gM k hk,e2]⟩
  ·rw[Ah c1]at e1 e2
   by_cases c2:i=k
   ·rw[Ap c2]at e1 e2;exact⟨a,by rw[gI a ha,e1],by rw[gM a ha,e2]⟩
   ·rw[Ah c2]at e1 e2;exact⟨i,by rw[gI i hi,e1],by rw[gM i hi,e2]⟩
 ·have hi:i<n:=by have:=(Ao.1 e1).1;rw[h.len]at this;exact this
  rw[gI i hi]at e1
  rw[gM i hi]at e2
  injection e1 with e1;injection e2 with e2
  have sI:=fun r (hr:r<n)=>aEm (ids:=ids) (k:=k) (a:=a) (r:=r) hk1 ha1 (by rw[h.len];exact hr)
  have sM:=fun r (hr:r<n)=>yK (M:=M) (k:=k) (a:=a) (r:=r) hk2 ha2 (by rw[hM];exact hr)
  by_cases c1:i=a
  ·subst c1
   refine⟨k,?_,?_⟩
   ·rw[sI k hk]
    by_cases c:k=i
    ·rw[Ap c,c,e1]
    ·rw[Ah c,Ap rfl,e1]
   ·rw[sM k hk]
    by_cases c:k=i
    ·rw[Ap c,c,e2]
    ·rw[Ah c,Ap rfl,e2]
  ·by_cases c2:i=k
   ·subst c2
    exact⟨a,by rw[sI a ha,Ap rfl,e1],by rw[sM a ha,Ap rfl,e2]⟩
   ·exact⟨i,by rw[sI i hi,Ah c1,Ah c2,e1],by rw[sM i hi,Ah c1,Ah c2,e2]⟩
theorem bFv{k a:Nat}(h:oK n ids)(hM:M.length=n)(hk:k<n)(ha:a<n):upd (deH p n L ids M) 2 (some (.cells 25 (hdI (swI ids k a) n)))=deH p n L (swI ids k a) (swM M k a):=by
 funext j
 unfold upd deH
 rw[aNa h hM hk ha]
 by_cases h1:j=1
 ·subst h1;rw[Ah (by decide),Ap rfl,Ap rfl]
 ·by_cases h2:j=2
  ·subst h2;rw[Ap rfl,Ah (by decide),Ap rfl]
  ·rw[Ah h2,Ah h1,Ah h2,Ah h1,Ah h2]
theorem zW{H:Hp}{B:Nat}{v:List Nat}{n:Nat}(m:Nat)(hB:H B=some (iP v))(hv:v.length=n):frz H (m+2) (.own B 0 n 1)=some (bL v)∧vis H (m+2) (.own B 0 n 1)=[B]:=by
 have hl:=eN v
 rw[hv]at hl
 constructor
 ·rw[xX,hB]
  simp only[iP,Ax,BF,hl,DT,Ep,CJ]
  rw[iK hv,Ap ⟨AA _,by decide⟩]
  have:List.mapM (frz H (m+1)) ((dU v).map AV.d)=some (dU v):=zK H m (dU v)
  rw[this,AQ,pS hv];rfl
 ·simp only[vis,hB,iP,DT,Ep,CJ]
  rw[iK hv]
  congr 1
  refine List.flatMap_eq_nil_iff.2 fun x hx=>?_
  obtain⟨y,_,rfl⟩:=A1.1 hx
  rfl
theorem bVe(h:oK n ids)(hM:M.length=n)(hr:∀ v∈M,v.length=n){H:Hp}(hH:∀ id,(id=2∨id∈ids)→H id=deH p n L ids M id):frz H 8 (.own 2 0 n 1)=some (rG M):=by
 have h2:H 2=some (.cells 25 (hdI ids n)):=by rw[hH 2 (.inl rfl)];rfl
 have hl:(hdI ids n).length=n:=by simp[hdI,h.len]
 rw[xX,h2]
 simp only[Ax,hl,DT,Ep,CJ]
 rw[AG (by rw[hl];exact AA _),Ap ⟨AA _,by decide⟩]
 have:(hdI ids n).mapM (frz H 7)=some (M.map bL):=by
  rw[mapM_some (frz H 7) (fun k=>bL (M.getD k [])) _ fun k x hx=>by
   have hlt:k<n:=by have:=(Ao.1 hx).1;rwa [hl]at this
   unfold hdI at hx
   rw[Ag]at hx
   obtain⟨j,hj,rfl⟩:=Af.1 hx
   have hv:M[k]? = some (M.getD k []):=by rw[Ac,Ab (by omega)];rfl
   exact(zW 5 (by rw[hH j (.inr (Ai hj))];exact qU h hj hv) (hr _ (Ai hv))).1]
  congr 1
  apply C4
  intro k
  rw[hl]
  by_cases hk:k<n
  ·rw[Ag,Bn hk,Ag,AQ,Ac,Ab (by omega)];rfl
  ·rw[AX (by simpa using hk),AX (by simpa[hM]using hk)]
 rw[this,AQ,mS _ _ (by rw[BF,hM]),DH];rfl
end
end Go.Am
end
