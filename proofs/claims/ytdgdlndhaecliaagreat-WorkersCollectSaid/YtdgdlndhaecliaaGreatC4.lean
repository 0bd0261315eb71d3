/- slices.Sort at numbers (int), of at most 12. No condition. -/
import Derived.Test.YtdgdlndhaecliaaGreatC3
import Derived.Conc.LeavingOf
import Derived.Conc.Holds
import Derived.ProofKit
import Derived.OpenShut
import Derived.Laws.Bits64b
set_option linter.all false
set_option maxHeartbeats 8000000
set_option maxRecDepth 100000
open And renaming intro->AO
open Array renaming getD_eq_getD_getElem?->Au,getElem?_eq_getElem->Al,replicate->AY
open Bool renaming and_eq_true->A8,not_eq_true'->C8
open Decidable renaming byContradiction->BW
open Go.Act renaming eval->Dk
open Go.Builtin renaming append_->B0,zeroCells->C7
open Go.Frame renaming enter->C5
open Go.IntKind renaming bits->CK,i64->Ah,u32->BI,u64->AB,wrap_u32->Ez
open Go.Proofs.Tryz renaming f103->Fs,prog->Aa
open Go.Region renaming wanted->Bu
open Go.Value renaming int->FI,slice->EW
open Go.World renaming cell?->BA
open Int renaming emod_eq_zero_of_dvd->GL,emod_nonneg->Dw,fdiv_eq_ediv_of_nonneg->CY,lt_trichotomy->Fx,mul_comm->E5,mul_le_mul_of_nonneg_right->FJ,mul_neg->DD,natAbs_ediv_le_natAbs->Gl,natAbs_mul->D3,natAbs_natCast->Ct,natAbs_neg->Fw,natCast_add->DM,natCast_dvd_natCast->Ft,natCast_ediv->E4,natCast_mul->Cd,neg_mul->Gs,sign_eq_neg_one_of_neg->DZ,sign_eq_one_of_pos->DU,sign_eq_zero_iff_zero->Gk,sq_nonneg->Cc,tmod_eq_emod_of_nonneg->Ca,toNat_of_nonneg->BV
open List renaming all_eq_true->A3,cons_append->Co,contains_cons->Bo,drop_eq_getElem_cons->Cn,drop_eq_nil_of_le->C0,drop_zero->D4,eq_nil_of_length_eq_zero->B1,flatten_cons->CG,getD_eq_getElem?_getD->Ac,getElem?_append_right->AJ,getElem?_cons_succ->BB,getElem?_cons_zero->BX,getElem?_eq_getElem->Ab,getElem?_eq_none->AW,getElem?_eq_some_iff->Ao,getElem?_map->Ag,getElem?_replicate->DH,getElem?_set_ne->Ef,getElem_mem->Bz,getLast?_eq_getElem?->Gj,length_append->Bc,length_cons->Ak,length_drop->CZ,length_map->Bl,length_nil->Aw,length_pos_iff->Ep,length_replicate->FC,length_set->CB,length_take->AZ,lookup_cons->FH,map->Cj,map_append->EL,map_congr_left->CP,map_cons->BO,map_map->Dd,map_replicate->Gf,map_set->Fv,mem_append->BP,mem_cons->Bn,mem_cons_of_mem->AE,mem_cons_self->AI,mem_iff_getElem->BM,mem_map->AM,mem_map_of_mem->DN,mem_of_getElem?->Aj,mem_of_mem_take->Bw,mem_range->Cr,mem_singleton->BQ,nil_append->Dv,nodup_append->Eh,nodup_cons->Df,pairwise_map->Fz,range->AN,range_succ_eq_map->ED,replicate->Av,replicate_succ->Cz,set_cons_succ->Fl,set_cons_zero->CL,take->D9,take_add_one->A5,take_of_length_le->As,take_sublist->Dq,take_zero->BD
open List.Sublist renaming nodup->EF
open Nat renaming Coprime->EX,add_assoc->Ei,add_comm->EE,add_mul->B8,add_mul_mod_self_left->Fb,add_zero->B6,div_add_mod->EK,div_eq_of_lt->Di,div_le_self->Eb,dvd_of_mod_eq_zero->Cs,eq_zero_or_pos->A7,le_of_dvd->GF,le_of_lt->C1,le_refl->Ay,le_trans->AR,lt_of_le_of_lt->Bf,lt_of_lt_of_le->A6,lt_or_ge->A4,lt_succ_self->Ck,lt_trans->F0,min_eq_left->De,mod_eq_of_lt->BY,mod_lt->BF,mod_mod->EB,mod_two_eq_zero_or_one->Gc,mul_add->Cx,mul_assoc->B2,mul_comm->B5,mul_le_mul->A9,mul_le_mul_left->Ce,mul_le_mul_right->B9,mul_left_comm->Fy,mul_lt_mul''->FG,mul_mod->Eg,mul_one->Dj,mul_pos->Fo,mul_zero->Dg,one_mul->DW,pow_add->Fq,pow_le_pow_right->Ci,pow_succ->BR,sub_mod_eq_zero_of_mod_eq->EC,sub_self->CU,zero_add->AA,zero_le->A1,zero_mul->DS
open Nat.Coprime renaming eq_one_of_dvd->Gm
open Option renaming map_eq_some_iff->Af,map_some->AU,toList_some->DC
open Option.some renaming injEq->Ax
open Rat renaming intCast_mul->CM,intCast_natCast->C4
open _root_ renaming beq_eq_false_iff_ne->CO,decide_eq_false->Bs,decide_eq_false_iff_not->Ey,decide_eq_true->B4,decide_eq_true_eq->BC,getElem!_pos->B7,if_neg->Ai,if_pos->Aq
section
open List renaming map_map->I,mapM_map->O
namespace Go.Am
open Go.Conc
open RowKit (Below)
def bPe{P:Program}{f N:Nat}{fn:Func}{c:Code}{args:List D}{r:D}(hm:P.follows .mixedOrders=true)(hf:P.funcs[f]? = some fn)(hb:fn.body=some c)(hi:P.inits.idxOf? f=none)(hN:fn.ntmps=N)
    (hd:bN N c=true) (ha:args.length<=N) (h:letI:=cE P;Wal P c (St0 args N) λe σ=>(e=.normal\/e=.ret)/\jA P fn.results.toList σ=some r)
    {W:World} {vs:Array Value} (hl:args.length=vs.size) (hv:∀(k:Nat) d v,args[k]? = some d->vs[k]? = some v->VD (λb=>b<(strike W).heap.size) (strike W) d v) :
    dF P (rX W r) (solo (G (C5 P f vs .normal) []) W) #[]:=by
  refine aQq hf hb hi ?_
  letI:=cE P
  subst hN
  refine cC (h _ _ _ _ _ hm (λ_=>rfl) hd (SR0 (A:=λb=>b<(strike W).heap.size) (wG W) (λ_ h=>h) hl hv ha)) ?_
  rintro e a w ⟨σ,⟨he,hr⟩,hs⟩
  have hend:a.defers=[]/\∀v1,Env w v1->∃x,aK P (results fn a.tmps) v1=.ok x v1/\Below (strike W).heap.size (strike W) v1/\VD (λb=>b<v1.heap.size) v1 r x:=by
    refine⟨hs.2.2.2.elim λ_ h=>h.elim λ_ h=>h.2.2.2.2.1,λv1 he=>?_⟩;have hs1:=hs.env he;obtain⟨v,hrun,hvd⟩:=eB hs1 hr;obtain⟨_,_,_,F,ι,hR,_,_,_,hdf,_⟩:=hs1;have hsz:=hR.kept.size;refine⟨v,hrun,⟨hR.kept.os,hR.kept.tape,hR.kept.output,hR.kept.size,λk hk=>hR.kept.block k hk (λh=>h)⟩,hvd.mono ?_⟩;rintro b (h|h|h)
    · exact A6 h hsz
    · exact h.elim
    · exact h.2
  rcases he with rfl|rfl<;>exact hend
end Go.Am
end
section
open List renaming map_map->I,mapM_map->O
namespace Go.Am
open Go.Conc
open RowKit (Below)
def cBd(P:Program)[M:Mch P](fn:Func)(N:Nat)(args:List D)(r:D):Prop :=
  ∃c,fn.body=some c/\fn.ntmps=N/\bN N c=true/\args.length<=N/\Wal P c (St0 args N) λe σ=>(e=.normal\/e=.ret)/\jA P fn.results.toList σ=some r
def aNf{P:Program}[M:Mch P]{fn:Func}{N:Nat}{c:Code}{args:List D}{r:D}(hb:fn.body=some c)(hN:fn.ntmps=N)(hd:bN N c=true)(ha:args.length<=N)
    (h:Wal P c (St0 args N) λe σ=>(e=.normal\/e=.ret)/\jA P fn.results.toList σ=some r):cBd P fn N args r:=⟨c,hb,hN,hd,ha,h⟩
def xR{W:World}{a:Addr}{x:Value}(h:W.cell? a=some x):(strike W).cell? a=some x:=by
  obtain⟨c,t,f,hb,hlt,hs⟩:=oP h;have:(strike W).heap[a.block]? = some (.cells c t f):=by rw[jM,hb];rfl
  simp only[BA,hb,this]at h ⊢;exact h
def VD.strike{F:Nat->Prop}{W:World}{d:D}{x:Value}(h:VD F W d x):VD F (strike W) d x:=by
  induction h with
  |b x=>exact .b x
  |i k n=>exact .i k n
  |sl0 ad c=>exact .sl0 ad c
  |sl els ad n c sz f hn hc hsz hFb hcell hel ih=>exact .sl els ad n c sz f hn hc hsz hFb (λj hj=>xR (hcell j hj)) ih
  |ag cs vs hl h ih=>exact .ag cs vs hl ih
  |tp cs vs hl h ih=>exact .tp cs vs hl ih
  |lit v=>exact .lit v
  |pt cs ad f hFb hcell hel ih=>exact .pt cs ad f hFb (λj hj=>xR (hcell j hj)) ih
  |fn g cs vs hl h ih=>exact .fn g cs vs hl ih
  |mp k ks ds b ents clock hFb hb' hst hl hl' hk hv ih=>exact .mp k ks ds b ents clock hFb (by rw[jM,hb'];rfl) hst hl hl' hk ih
  |iff t x v h ih=>exact .iff t x v ih
  |fm g x u h ih=>exact .fm g x u ih
def bPh{P:Program}{f N:Nat}{fn:Func}{args:List D}{r:D}(hm:P.follows .mixedOrders=true)(hf:P.funcs[f]? = some fn)(hi:P.inits.idxOf? f=none)(h:letI:=cE P;cBd P fn N args r)
    {W:World} {vs:Array Value} {Q:Value->World->Prop} (hl:args.length=vs.size) (hv:∀(k:Nat) d v,args[k]? = some d->vs[k]? = some v->VD (λb=>b<W.heap.size) W d v)
    (hQ:∀x W',Below W.heap.size W W'->(∃(F:Nat->Prop) (v':World),VD F v' r x)->Q x W') :
    ∃M last o w' t',runNT P (M+1) (solo (G (C5 P f vs .normal) []) W) #[]=(.ended o w',t')/\runN P M (solo (G (C5 P f vs .normal) []) W)=.next last/\step P last=.ended o w'/\Conc.Good P Q last o w' t':=by
  obtain⟨c,hb,hN,hd,ha,hw⟩:=h
  obtain⟨M,last,o,w',t',h1,h2,h3,h4⟩:=bPe hm hf hb hi hN hd ha hw (W:=W) (vs:=vs) hl λk d v hk hv'=>by have:=(hv k d v hk hv').strike;simpa[lY]using this
  refine⟨M,last,o,w',t',h1,h2,h3,h4.mono λx hx=>?_⟩
  obtain⟨q1,q2,q3,q4,q5,v',q6⟩:=hx
  exact hQ x w' ⟨q2,q3,q4,q5,λk hk=>q1 k hk⟩ ⟨_,v',q6⟩
end Go.Am
end
section
open List renaming map_map->I,mapM_map->O
namespace Go.Am
variable {P:Program} [Mc:Mch P]
def aMq(f:FuncId)(cs:List Operand)(Γ:Nat->AV)(n:Nat):nev P (.makeFunc (.func f) #[] cs.toArray) Γ n=some (.fn f (cs.map (oev Γ)),none):=by simp[nev,cT]
def bGm(t : TypeId)(x : Tmp)(i : Operand)(Γ : Nat -> AV)(n : Nat) : nev P (.index t (.tmp x) i) Γ n = cT ((yJ P t).bind λp => (tsz P p.2).bind λsz => (cA P p.2).bind λag => (eY (oev Γ i)).bind λk => (yU (oev Γ (.tmp x))).bind λcs =>
      if 0<=k/\k<p.1 then(if ag then(if k.toNat*sz+sz<=cs.length then some (.ag ((cs.drop (k.toNat*sz)).take sz))else none)else cs[k.toNat*sz]?)else none):=rfl
def bZv(f:FuncId)(cs:List D):inj (.fn f cs)=.d (.fn f cs):=rfl
def bSt(f:FuncId)(cs:List D):aL (.fn f cs)=.d (.fn f cs):=rfl
def bSs(cs:List D):aL (.pt cs)=.fp cs:=rfl
def bIf(v:Value):aL (.lit v)=.d (.lit v):=rfl
def bHq(H:Hp)(avs:List AV)(f:FuncId)(cs:List D):aZ H avs (.fn f cs)=bV H avs:=rfl
def bHp(H:Hp)(avs:List AV)(cs:List D):aZ H avs (.pt cs)=bV H avs:=rfl
def aSw(f:FuncId)(cs:List AV):dM (.fn f cs)=some (f,cs):=rfl
def aOh(f:FuncId)(cs:List D):dM (.d (.fn f cs))=some (f,cs.map aL):=rfl
def aOg(f:FuncId):dM (.d (.lit (.func (.func f) #[] #[])))=some (f,[]):=rfl
def bTg(H:Hp)(n:Nat)(f:FuncId)(cs:List AV):frz H (n+1) (.fn f cs)=(cs.mapM (frz H n)).map (.fn f):=rfl
def bTf(H:Hp)(n:Nat)(cs:List D):frz H (n+1) (.fp cs)=some (.pt cs):=rfl
def bIv(H : Hp)(n : Nat)(id off : Nat) : frz H (n + 1) (.ptr id off) = match H id with
      |some (.cells _ cs)=>if off<=cs.length then((cs.drop off).mapM (frz H n)).map .pt else none
      |_=>none:=rfl
def bNy(H:Hp)(n:Nat)(f:FuncId)(cs:List AV):vis H (n+1) (.fn f cs)=cs.flatMap (vis H n):=rfl
def bNx(H:Hp)(n:Nat)(cs:List D):vis H (n+1) (.fp cs)=[]:=rfl
def bCo(H : Hp)(n : Nat)(id off : Nat) : vis H (n + 1) (.ptr id off) = match H id with
      |some (.cells _ cs)=>id::(cs.drop off).flatMap (vis H n)
      |_=>[]:=rfl
def bAq(f:FuncId)(cs:List AV):cY (.fn f cs)=some [.fn f cs]:=rfl
def aSu(f:FuncId)(cs:List D):cY (.d (.fn f cs))=some [.d (.fn f cs)]:=rfl
def bEl(l:List Nat)(f:FuncId)(cs:List AV):jK l (.fn f cs)=.fn f (cs.map (aHp l)):=rfl
section
variable (dst:Option Tmp) (ty:TypeId) (pos:String) (after:Array Edge) (guard:Option (Nat×Bool)) (σ:St) (con:List Nat) (k:St->List Nat->Prop)
def aA(f:Fn)(x y:Array Operand)(d:Dm ((⟨dst,.makeFunc f x y,ty,pos,after,guard⟩:Oper),k)):O1d P ⟨dst,.makeFunc f x y,ty,pos,after,guard⟩ σ con k d=cL (nev P (.makeFunc f x y) σ.Γ σ.n) (λp=>k ⟨bI σ.Γ dst p.1,gT σ.H σ.n p.2,cnt p.2 σ.n⟩ con) .mk:=bY rfl rfl
def aF(t:TypeId)(x y:Operand)(d:Dm ((⟨dst,.index t x y,ty,pos,after,guard⟩:Oper),k)):O1d P ⟨dst,.index t x y,ty,pos,after,guard⟩ σ con k d=cL (nev P (.index t x y) σ.Γ σ.n) (λp=>k ⟨bI σ.Γ dst p.1,gT σ.H σ.n p.2,cnt p.2 σ.n⟩ con) .mk:=bY rfl rfl
def bMq(P:Program)[Mc:Mch P](c:Option (FuncId×List AV))(avs:List AV)(H:Hp)(k:List AV->D->Prop)(_:Dm k):Prop:=match c with
 |some (f,cs)=>∃ds r,cI H (avs++cs)=some ds/\Spec P f ds r/\k (avs++cs) r
 |none=>False
def aOi{f:FuncId}{cs avs:List AV}{H:Hp}{k:List AV->D->Prop}{d:Dm k}{ds:List D}{r:D}(h1:cI H (avs++cs)=some ds)(h2:Spec P f ds r)(h3:k (avs++cs) r):bMq P (some (f,cs)) avs H k d:=⟨ds,r,h1,h2,h3⟩
def aWl(P:Program)[Mc:Mch P](x:AV)(avs:List AV)(H:Hp)(k:List AV->D->Prop)(_:Dm k):Prop:=match x with
 |.d (.fm f d)=>∃ds r,cI H (.d d::avs)=some ds/\Spec P f ds r/\k (.d d::avs) r
 |_=>False
def aWj(P:Program)[Mc:Mch P](c:Option (FuncId×List AV))(x:AV)(avs:List AV)(H:Hp)(k:List AV->D->Prop)(_:Dm k):Prop:=match c with
 |some p=>bMq P (some p) avs H k .mk
 |none=>aWl P x avs H k .mk
def aSx(p:FuncId×List AV)(x:AV)(avs:List AV)(H:Hp)(k:List AV->D->Prop)(d:Dm k):aWj P (some p) x avs H k d=bMq P (some p) avs H k .mk:=rfl
def aG(t:Tmp)(args:List Operand)(ts:Array TypeId)(d:Dm ((⟨dst,.call ⟨.value (.tmp t),args.toArray,ts⟩,ty,pos,after,guard⟩:Oper),k)):O1d P ⟨dst,.call ⟨.value (.tmp t),args.toArray,ts⟩,ty,pos,after,guard⟩ σ con k d =
  aWj P (dM (σ.Γ t)) (σ.Γ t) (args.map (oev σ.Γ)) σ.H (λavs r=>k ⟨bI σ.Γ dst (inj r),kill (aZ σ.H avs r) σ.H,σ.n⟩ (aZ σ.H avs r++con)) .mk:=by
 unfold O1d;simp only[O1,aWj,aWl]
 cases dM (σ.Γ t)with
 |none=>rfl
 |some p=>obtain⟨f,cs⟩:=p;rfl
end
attribute [simp] aSx aMq bGm bZv bSt bSs bIf aSw aOh aOg bTg bTf bIv bNy bNx bCo bAq aSu bEl bHq bHp
end Go.Am
end
section
open List renaming map_map->I,mapM_map->O
open Go Go.Am Go.Proofs
namespace Go.Am
def oW{raw:List Nat}{n:Nat}(hn:n<raw.length)(h0:raw[n]≠0):strip (raw.take (n+1))=raw.take (n+1):=by refine pS ?_;rw[A5,Ab hn,lV,DC,List.getLast?_append];simp[h0]
def oV{raw:List Nat}{n:Nat}(hn:n<raw.length)(h0:raw[n]=0):strip (raw.take (n+1))=strip (raw.take n):=by rw[A5,Ab hn,h0];exact aAg _
def eC[M:Mch Aa](raw:List Nat)(neg:Bool)(hl:raw.length<=1099511627776):Spec Aa 18 [aB raw,.b neg] (encI (neg&&decide (strip raw≠[])) (strip raw)):=by
 refine aX (N:=31) Tryz.func18 ?_;simp[-I,-O,↓KW,aB];refine mH (τ:={ n:Nat // n<=raw.length/\strip (raw.take n)=strip raw }) (S:=λn=>StL [(0,.d (aB raw)),(1,.d (.b neg)),(4,.ptr 1 0),(5,.d (.i .i64 n.1))] none [.cells 31 [.d (.b false),.nil]]) (m:=λn=>n.1) ⟨raw.length,Ay _,by simp⟩ ?_ ?_
 ·refine wkQ [1] ?_ ?_
  ·simp[-I,upd,aL,Γ0,aB]
  ·simp[-I,upd,aL,Γ0]
 ·rintro⟨n,hn,hs⟩;rcases n with _|n
  ·have hs':strip raw=[]:=hs.symm;cases neg<;>simp[-I,-O,↓KW,aB,encI,hs',chunk]
  ·have hx:raw[n]? = some raw[n]:=Ab hn;have hw:Ah.wrap (n:Int)=n:=aP;have hp:(0:Int)<(n:Int)+1:=by omega
   by_cases h0:raw[n]=0
   ·simp[-I,-O,↓KW,aB,hx,hw,h0,hp];refine⟨n,by omega,⟨by omega,(oV hn h0).symm.trans hs⟩,.inr (wkQ [1] ?_ ?_)⟩<;>simp[-I,upd,aL,Γ0,aB]
   ·have h1:((raw[n]:Int)==0)=false:=by simp;omega
    have he:strip raw=raw.take (n+1):=hs.symm.trans (oW hn h0);have hp2:(0:Int)<=(n:Int)+1:=by omega
    have hn':(n:Int)+1<=raw.length:=by omega
    obtain⟨pre,hpre⟩:∃pre,raw.take (n+1)=pre:=⟨_,rfl⟩;have hpl:pre.length=n+1:=by rw[<-hpre];simp;omega
    have hp1:∀f:Nat->List D,(raw.map f).take (n+1)=pre.map f:=λf=>by rw[<-hpre,List.map_take]
    have hpn:pre≠[]:=λe=>by rw[e]at hpl;cases hpl
    rw[hpre]at he;have hb:(n+1)*4<=140737488355328:=by omega
    have hb2:n+1<=maxLen:=by unfold maxLen;omega
    cases neg<;>simp[-I,-O,↓KW,aB,encI,hx,hw,h1,hp,hp2,he,hn',hp1,hpl,hpn,dP hpl,cN hpl,aNc,aVg,jV,hb,hb2]
def cO{raw:List Nat}(h:Lim raw)(neg:Bool):encI (neg&&decide (strip raw≠[])) (strip raw)=encZ (sg neg (val raw)):=by rw[fF h,<-bTu];simp[gD]
def aLs[M:Mch Aa](n:Int)(h1:-9223372036854775808<=n)(h2:n<9223372036854775808):Spec Aa 11 [.i .i64 n] (encZ n):=by
 refine aX (N:=19) Tryz.func11 ?_;have key:∀(u:Nat),u<18446744073709551616->∃lo hi:Nat,Lim [lo,hi]/\val [lo,hi]=u/\BI.wrap (u:Int)=lo/\dT .shr .u64 (u:Int) 32=some (.i .u64 hi)/\BI.wrap (hi:Int)=hi:=λu hu=>by refine⟨u%4294967296,u/4294967296,.cons (by omega) (.one (by omega)),by simp only[val];omega,by rw[fM];omega,?_,by rw[wrap_u32 (by omega) (by omega)]⟩;simp only[dT,CK];rw[Ai (by decide)];congr 2;rw[show(2:Int)^(min (32:Int).toNat 64)=4294967296 from by decide,CY _ (by decide)];omega
 by_cases hn:n<0
 ·obtain⟨u,hu⟩:∃u:Nat,n=-(u:Int):=⟨n.natAbs,by omega⟩;have hu2:u<18446744073709551616:=by omega
  have e1:AB.wrap n=n+18446744073709551616:=by rw[wC];omega
  have e2:AB.wrap (-(n+18446744073709551616))=(u:Int):=by rw[wC];omega
  obtain⟨lo,hi,k1,k2,e3,e4,e5⟩:=key u hu2;simp[-I,-O,↓KW,hn,e1,e2,e3,e4,e5];have hm:=eC [lo,hi] true (by simp);rw[cO k1,k2,show sg true u=n by simp[sg];omega]at hm;refine bE (ds:=[aB [lo,hi],.b true]) ?_ hm ?_
  ·simp[-I,-O,↓KW,aB]
  ·simp[-I,-O,↓KW,aB,encZ,encI]
 ·obtain⟨u,rfl⟩:∃u:Nat,n=(u:Int):=⟨n.natAbs,by omega⟩;have hu2:u<18446744073709551616:=by omega
  have e1:AB.wrap (u:Int)=u:=wrap_u64 (by omega) (by omega);obtain⟨lo,hi,k1,k2,e3,e4,e5⟩:=key u hu2;simp[-I,-O,↓KW,hn,e1,e3,e4,e5];have hm:=eC [lo,hi] false (by simp);rw[cO k1,k2,show sg false u=u by simp[sg]]at hm;refine bE (ds:=[aB [lo,hi],.b false]) ?_ hm ?_
  ·simp[-I,-O,↓KW,aB]
  ·simp[-I,-O,↓KW,aB,encZ,encI]
def bQi[M:Mch Aa](neg:Bool)(m:List Nat):Spec Aa 64 [encI neg m] (.i .i64 (if m=[]then 0 else if neg then -1 else 1)):=by
 refine aX (N:=9) Tryz.func64 ?_;cases m with
 |nil=>simp[-I,-O,↓KW,encI,aB]
 | cons x m =>
  have h1:(((m.length:Int)+1==0):Bool)=false:=by simp;omega
  cases neg<;>simp[-I,-O,↓KW,encI,aB,h1]
def lG[M:Mch Aa](z:Int):Spec Aa 64 [encZ z] (.i .i64 z.sign):=by
 have:=bQi (decide (z<0)) (aJ z.natAbs);have e:(if aJ z.natAbs=[]then(0:Int)else if(decide (z<0))=true then -1 else 1)=z.sign:=by
  simp only[gD];rcases Fx z 0 with h|h|h
  ·rw[Ai (by omega),Aq (by simpa using h),DZ h]
  ·subst h;rfl
  ·rw[Ai (by omega),Ai (by simp;omega),DU h]
 rwa [e]at this
def nG(a b:List Nat):Bool:=if a.length=b.length then decide (val a<val b)else decide (a.length<b.length)
def fI(x y:Nat):nG (aJ x) (aJ y)=decide (x<y):=by
 unfold nG;by_cases h:(aJ x).length=(aJ y).length
 ·rw[Aq h,cD,cD]
 ·rw[Ai h];by_cases h1:(aJ x).length<(aJ y).length
  ·simp[h1,gQ h1]
  ·have:=gQ (a:=y) (b:=x) (by omega);simp only[h1,decide_false];simp;omega
def zF[M:Mch Aa](a b:List Nat)(ha:Lim a)(hb:Lim b)(hla:a.length<=1099511627776)(hlb:b.length<=1099511627776):Spec Aa 62 [aB a,aB b] (.b (nG a b)):=by
 refine aX (N:=41) Tryz.func62 ?_;by_cases hn:a.length=b.length
 rotate_left
 ·have h1:(((a.length:Int) != b.length):Bool)=true:=by simp;omega
  simp[-I,-O,↓KW,aB,h1,nG,hn]
 ·have h1:(((a.length:Int) != b.length):Bool)=false:=by simp;omega
  have hw:Ah.wrap ((a.length:Int)-1)=(a.length:Int)-1:=aP;simp[-I,-O,↓KW,aB,h1,hw];refine mH (τ:={ k:Nat // k<=a.length/\a.drop k=b.drop k }) (S:=λk=>StL [(0,.d (aB a)),(1,.d (aB b)),(5,.d (.i .i64 ((k.1:Int)-1)))] none []) (m:=λk=>k.1) ⟨a.length,Ay _,by rw[C0 (Ay _),C0 (by omega)]⟩ ?_ ?_
  ·refine wkQ [] ?_ ?_<;>simp[-I,upd,aL,Γ0,aB]
  ·rintro⟨k,hk,hd⟩;rcases k with _|k
   ·have e:a=b:=by simpa using hd
    subst e;simp[-I,-O,↓KW,aB,nG]
   ·have hkb:k<b.length:=by omega
    have hxa:a[k]? = some a[k]:=Ab hk;have hxb:b[k]? = some b[k]:=Ab hkb;have hw2:Ah.wrap ((k:Int)-1)=(k:Int)-1:=aP;have hp:(0:Int)<=k:=by omega
    by_cases he:a[k]=b[k]
    ·have h2:(((a[k]:Int) != (b[k]:Int)):Bool)=false:=by simp[he]
     simp[-I,-O,↓KW,aB,hxa,hxb,hw2,hp,h2];refine⟨k,by omega,⟨by omega,?_⟩,.inr (wkQ [] ?_ ?_)⟩
     ·rw[Cn hk,Cn hkb,he,hd]
     ·simp[-I,upd,aL,Γ0,aB]
     ·trivial
    ·have h2:(((a[k]:Int) != (b[k]:Int)):Bool)=true:=by simp;omega
     simp[-I,-O,↓KW,aB,hxa,hxb,hw2,hp,h2,nG,hn];have ga:a.getD k 0=a[k]:=by rw[Ac,hxa];rfl
     have gb:b.getD k 0=b[k]:=by rw[Ac,hxb];rfl
     rcases A4 a[k] b[k]with hlt|hge
     ·have:=rD ha (i:=k) hn hk hd (by rw[ga,gb];exact hlt);simp[hlt,this]
     ·have:=rD hb (i:=k) hn.symm hkb hd.symm (by rw[ga,gb];omega);omega
def bFr[M:Mch Aa](x y:Int)(hx:(aJ x.natAbs).length<=1099511627776)(hy:(aJ y.natAbs).length<=1099511627776):Spec Aa 31 [encZ x,encZ y] (.b (decide (x=y))):=by
 refine aX (N:=26) Tryz.func31 ?_;have l1:=zF _ _ (bT x.natAbs) (bT y.natAbs) hx hy;have l2:=zF _ _ (bT y.natAbs) (bT x.natAbs) hy hx;rw[fI]at l1 l2;unfold encZ encI;generalize aJ x.natAbs=a at *;generalize aJ y.natAbs=b at *;by_cases hs:decide (x<0)=decide (y<0)
 rotate_left
 ·have h1:(decide (x<0)==decide (y<0))=false:=by simpa using hs
  have h2:¬x=y:=λe=>hs (by rw[e])
  simp[-I,-O,↓KW,aB,h1,h2]
 ·have h1:(decide (x<0)==decide (y<0))=true:=by simpa using hs
  simp[-I,-O,↓KW,aB,h1];refine aC l1 ?_;by_cases h3:x.natAbs<y.natAbs
  ·have h2:¬x=y:=λe=>by rw[e]at h3;omega
   simp[-I,-O,↓KW,aB,h3,h2]
  ·simp[-I,-O,↓KW,aB,h3];refine aC l2 ?_;simp[-I,-O,↓KW,aB];have hs':x<0↔y<0:=by simpa using hs
   rw[Bool.eq_iff_iff];simp;omega
def plS(a b:List Nat):Nat->List Nat×Nat
 |0=>([],0)
 |i+1=>((plS a b i).1++[((plS a b i).2+a.getD i 0+b.getD i 0)%4294967296],((plS a b i).2+a.getD i 0+b.getD i 0)/4294967296)
def kP{a b:List Nat}(ha:Lim a)(hb:Lim b):∀i,(plS a b i).1.length=i/\(plS a b i).2<=1/\Lim (plS a b i).1/\val (plS a b i).1+4294967296^i*(plS a b i).2=val (a.take i)+val (b.take i)
 |0=>⟨rfl,A1 _,.nil,by simp[plS,val]⟩
 | i+1=>by
  obtain⟨h1,h2,h3,h4⟩:=kP ha hb i;have ha':=ha.getD i;have hb':=hb.getD i;simp only[plS];generalize(plS a b i).1=out at *;generalize(plS a b i).2=c at *;refine⟨by simp[h1],by omega,h3.app (.one (by omega)),?_⟩;rw[kM,cF,cF,h1,BR];simp only[val];have h5:4294967296^i*((c+a.getD i 0+b.getD i 0)%4294967296)+4294967296^i*4294967296*((c+a.getD i 0+b.getD i 0)/4294967296)=4294967296^i*c+4294967296^i*a.getD i 0+4294967296^i*b.getD i 0:=by rw[B2,<-Cx,Nat.mod_add_div,Cx,Cx]
  simp only[Dg,B6];omega
def plN(a b:List Nat):Nat:=if(plS a b (max a.length b.length)).2=0 then max a.length b.length else max a.length b.length+1
def aAz(a b:List Nat):List Nat:=(plS a b (plN a b)).1
def getD_none{l:List Nat}{i:Nat}(h:¬i<l.length):l.getD i 0=0:=by rw[Ac,AW (by omega)];rfl
def aFd{a b:List Nat}(ha:Lim a)(hb:Lim b){i:Nat}(h1:a.length<=i)(h2:b.length<=i):(plS a b (i+1)).2=0:=by have h:=(kP ha hb i).2.1;show((plS a b i).2+a.getD i 0+b.getD i 0)/4294967296=0;rw[getD_none (l:=a) (by omega),getD_none (l:=b) (by omega)];omega
def aMa{a b:List Nat}(ha:Lim a)(hb:Lim b){i:Nat}(h1:a.length<=i)(h2:b.length<=i)(hc:(plS a b i).2=0):val (plS a b i).1=val a+val b:=by have h:=(kP ha hb i).2.2.2;rw[As h1,As h2,hc,Dg,B6]at h;exact h
def aYq{a b:List Nat}(ha:Lim a)(hb:Lim b):val (aAz a b)=val a+val b/\Lim (aAz a b)/\(aAz a b).length<=max a.length b.length+1:=by
 unfold aAz plN;have h1:a.length<=max a.length b.length:=by omega
 have h2:b.length<=max a.length b.length:=by omega
 generalize max a.length b.length=M at *;by_cases hc:(plS a b M).2=0
 ·rw[Aq hc];have h:=kP ha hb M;exact⟨aMa ha hb h1 h2 hc,h.2.2.1,by rw[h.1];omega⟩
 ·rw[Ai hc];have h:=kP ha hb (M+1);exact⟨aMa ha hb (by omega) (by omega) (aFd ha hb h1 h2),h.2.2.1,by rw[h.1];exact Ay _⟩
def getD_some{l:List Nat}{i:Nat}(h:i<l.length):l[i]? = some (l.getD i 0):=by rw[Ac,Ab h];rfl
def bQh[M:Mch Aa](a b:List Nat)(ha:Lim a)(hb:Lim b)(hla:a.length<=1099511627776)(hlb:b.length<=1099511627776):Spec Aa 61 [aB a,aB b] (aB (aAz a b)):=by
 refine aX (N:=55) Tryz.func61 ?_;simp[-I,-O,↓KW,aB];refine cB (λi:Nat=>i<=max a.length b.length\/(i=max a.length b.length+1/\(plS a b (max a.length b.length)).2≠0))
  (λi=>StL [(0,.d (aB a)),(1,.d (aB b)),(5,.own 1 0 i 1),(6,.d (.i .u64 (plS a b i).2)),(7,.d (.i .i64 i))] none [.cells 89 ((lms (plS a b i).1).map .d)]) (λi=>max a.length b.length+1-i) 0 (.inl (A1 _)) ?_ ?_
 ·refine wkQ [1] ?_ ?_<;>simp[-I,upd,aL,Γ0,aB,plS,lms]
 ·intro i hi;obtain⟨hlen,hc,_,_⟩:=kP ha hb i;have hsucc:plS a b (i+1)=((plS a b i).1++[((plS a b i).2+a.getD i 0+b.getD i 0)%4294967296],((plS a b i).2+a.getD i 0+b.getD i 0)/4294967296):=rfl;have hstop:(i<a.length\/i<b.length\/0<(plS a b i).2)\/i=plN a b:=by
   unfold plN;rcases hi with hi|⟨hi,hc⟩
   ·by_cases h1:i=max a.length b.length
    ·subst h1;by_cases h2:(plS a b (max a.length b.length)).2=0
     ·rw[Aq h2];exact .inr rfl
     ·exact .inl (.inr (.inr (by omega)))
    ·exact .inl (by omega)
   ·rw[Ai hc];exact .inr hi
  have hnext:(i<a.length\/i<b.length\/0<(plS a b i).2)->i<=max a.length b.length/\(i+1<=max a.length b.length\/(i+1=max a.length b.length+1/\(plS a b (max a.length b.length)).2≠0)):=by
   intro h;rcases hi with hi|⟨hi,hc2⟩
   ·refine⟨hi,?_⟩;by_cases h1:i=max a.length b.length
    ·subst h1;exact .inr ⟨rfl,by omega⟩
    ·exact .inl (by omega)
   ·exfalso;have e:(plS a b i).2=0:=by rw[hi];exact aFd ha hb (by omega) (by omega)
    omega
  have hal:=ha.getD i;have hbl:=hb.getD i;have hres:i=plN a b->(plS a b i).1=aAz a b:=λe=>by rw[e];rfl
  generalize hout:(plS a b i).1=out at *;generalize hcar:(plS a b i).2=c at *;by_cases hgo:i<a.length\/i<b.length\/0<c
  ·obtain⟨hi1,hi2⟩:=hnext hgo;have hb1:(i+1)*4<=140737488355328:=by omega
   have hb2:i+1<=maxLen:=by unfold maxLen;omega
   have hw7:Ah.wrap ((i:Int)+1)=(i:Int)+1:=aP;have hpos:(0:Int)<=i:=by omega
   obtain⟨s1,hs1⟩:∃s1:Nat,c+a.getD i 0=s1:=⟨_,rfl⟩;obtain⟨s2,hs2⟩:∃s2:Nat,s1+b.getD i 0=s2:=⟨_,rfl⟩;rw[hs1,hs2]at hsucc;have hw1:AB.wrap ((c:Int)+((a.getD i 0:Nat):Int))=s1:=by rw[wrap_u64 (by omega) (by omega)];omega
   have hw2:AB.wrap ((s1:Int)+((b.getD i 0:Nat):Int))=s2:=by rw[wrap_u64 (by omega) (by omega)];omega
   have hwa:AB.wrap ((a.getD i 0:Nat):Int)=((a.getD i 0:Nat):Int):=wrap_u64 (by omega) (by omega);have hwb:AB.wrap ((b.getD i 0:Nat):Int)=((b.getD i 0:Nat):Int):=wrap_u64 (by omega) (by omega);obtain⟨lo,hlo⟩:∃lo:Nat,s2%4294967296=lo:=⟨_,rfl⟩;obtain⟨hi',hhi⟩:∃hi':Nat,s2/4294967296=hi':=⟨_,rfl⟩;have hw3:BI.wrap (s2:Int)=lo:=by rw[fM];omega
   have hw4:AB.wrap ((s2:Int).tdiv 4294967296)=hi':=by rw[Int.tdiv_eq_ediv_of_nonneg (by omega),wrap_u64 (by omega) (by omega)];omega
   have hw4':AB.wrap ((s2:Int)/4294967296)=hi':=by rw[wrap_u64 (by omega) (by omega)];omega
   rw[hlo,hhi]at hsucc;have hcase:(a.getD i 0=0/\¬i<a.length)\/i<a.length:=by
    by_cases h:i<a.length
    ·exact .inr h
    ·exact .inl ⟨getD_none h,h⟩
   have hcase2:(b.getD i 0=0/\¬i<b.length)\/i<b.length:=by
    by_cases h:i<b.length
    ·exact .inr h
    ·exact .inl ⟨getD_none h,h⟩
   rcases hcase with ⟨ha0,han⟩|han<;>rcases hcase2 with ⟨hb0,hbn⟩|hbn
   ·have q1:¬(i:Int)<a.length:=by omega
    have q2:¬(i:Int)<b.length:=by omega
    have q3:0<c:=by omega
    rw[ha0]at hs1;rw[hb0]at hs2;have e2:s2=c:=by omega
    rw[e2]at hw3 hw4 hw4';simp[-I,-O,↓KW,aB,q1,q2,q3,hw3,hw4,hw7,hb1,hb2,hlen];refine aI (i+1) hi2 ?_ (wkQ [3] ?_ ?_)
    ·omega
    ·simp[-I,upd,aL,Γ0,aB,hsucc,eE,eP,hw4']
    ·simp[-I,upd,aL,Γ0,aB,hsucc,eE,eP]
   ·have q1:¬(i:Int)<a.length:=by omega
    have q2:(i:Int)<b.length:=by omega
    rw[ha0]at hs1;have e1:s1=c:=by omega
    have g2:=getD_some hbn;rw[e1]at hw2;generalize b.getD i 0=y at *;simp[-I,-O,↓KW,aB,q1,q2,g2,hwb,hw2,hw3,hw4,hw7,hb1,hb2,hlen];refine aI (i+1) hi2 ?_ (wkQ [3] ?_ ?_)
    ·omega
    ·simp[-I,upd,aL,Γ0,aB,hsucc,eE,eP,hw4']
    ·simp[-I,upd,aL,Γ0,aB,hsucc,eE,eP]
   ·have q1:(i:Int)<a.length:=by omega
    have q2:¬(i:Int)<b.length:=by omega
    rw[hb0]at hs2;have e2:s2=s1:=by omega
    have g1:=getD_some han;rw[e2]at hw3 hw4 hw4';generalize a.getD i 0=x at *;simp[-I,-O,↓KW,aB,q1,q2,g1,hwa,hw1,hw3,hw4,hw7,hb1,hb2,hlen];refine aI (i+1) hi2 ?_ (wkQ [3] ?_ ?_)
    ·omega
    ·simp[-I,upd,aL,Γ0,aB,hsucc,eE,eP,hw4']
    ·simp[-I,upd,aL,Γ0,aB,hsucc,eE,eP]
   ·have q1:(i:Int)<a.length:=by omega
    have q2:(i:Int)<b.length:=by omega
    have g1:=getD_some han;have g2:=getD_some hbn;generalize a.getD i 0=x at *;generalize b.getD i 0=y at *;simp[-I,-O,↓KW,aB,q1,q2,g1,g2,hwa,hwb,hw1,hw2,hw3,hw4,hw7,hb1,hb2,hlen];refine aI (i+1) hi2 ?_ (wkQ [3] ?_ ?_)
    ·omega
    ·simp[-I,upd,aL,Γ0,aB,hsucc,eE,eP,hw4']
    ·simp[-I,upd,aL,Γ0,aB,hsucc,eE,eP]
  ·have e:=hstop.resolve_left hgo;have h1:¬(i:Int)<a.length:=by omega
   have h2:¬(i:Int)<b.length:=by omega
   have h3:c=0:=by omega
   have h4:=hres e;subst h3;simp[-I,-O,↓KW,aB,h1,h2,hlen,dP hlen,cN hlen,<-h4]
def miS(a b:List Nat):Nat->List Nat×Nat
 |0=>([],0)
 |i+1=>if(miS a b i).2+b.getD i 0<=a.getD i 0 then((miS a b i).1++[a.getD i 0-((miS a b i).2+b.getD i 0)],0)else((miS a b i).1++[a.getD i 0+4294967296-((miS a b i).2+b.getD i 0)],1)
def aFq{p o vb va x y c z:Nat}(h4:o+vb=va+p*c)(hx:x=z+(c+y)):o+p*z+(vb+p*y)=va+p*x:=by subst hx;rw[Cx,Cx];omega
def aZe{p o vb va x y c z k:Nat}(h4:o+vb=va+p*c)(hx:x+k=z+(c+y)):o+p*z+(vb+p*y)=va+p*x+p*k:=by have:=aFq (p:=p) (x:=x+k) h4 hx;rw[Cx]at this;omega
def bRp{p va vb i:Nat}{out:List Nat}{c x y z:Nat}(hz:x=z+(c+y))(hl:z<4294967296)(h1:out.length=i)(hp:4294967296^i=p)(h3:Lim out)(h4:val out+vb=va+p*c) :
  (out++[z]).length=i+1/\Lim (out++[z])/\val (out++[z])+(vb+p*y)=va+p*x:=by
 refine⟨by simp[h1],h3.app (.one hl),?_⟩
 simp only[kM,val,Dg,B6,h1,hp]
 exact aFq h4 hz
def bRq{p va vb i:Nat}{out:List Nat}{c x y z k:Nat}(hz:x+k=z+(c+y))(hl:z<4294967296)(h1:out.length=i)(hp:4294967296^i=p)(h3:Lim out)(h4:val out+vb=va+p*c) :
  (out++[z]).length=i+1/\Lim (out++[z])/\val (out++[z])+(vb+p*y)=va+p*x+p*k:=by
 refine⟨by simp[h1],h3.app (.one hl),?_⟩
 simp only[kM,val,Dg,B6,h1,hp]
 exact aZe h4 hz
def aMw(a b:List Nat)(i:Nat):miS a b (i+1)=if(miS a b i).2+b.getD i 0<=a.getD i 0 then((miS a b i).1++[a.getD i 0-((miS a b i).2+b.getD i 0)],0)else((miS a b i).1++[a.getD i 0+4294967296-((miS a b i).2+b.getD i 0)],1):=rfl
def bLw{a b:Nat}(q:Nat)(h:a=b):a=b+q*0:=by rw[Dg,B6];exact h
def bLv{a b:Nat}(q:Nat)(h:a=b+q):a=b+q*1:=by rw[Dj];exact h
def aIs{a b:List Nat}(ha:Lim a)(hb:Lim b)(i:Nat):(miS a b i).1.length=i/\(miS a b i).2<=1/\Lim (miS a b i).1/\val (miS a b i).1+val (b.take i)=val (a.take i)+4294967296^i*(miS a b i).2:=by
 induction i with
 |zero=>exact⟨rfl,A1 _,.nil,by simp[miS,val]⟩
 | succ i ih =>
  obtain⟨h1,h2,h3,h4⟩:=ih;have hx:=ha.getD i;have hy:=hb.getD i;rw[cF,cF,BR,aMw];generalize(miS a b i).1=out at *;generalize(miS a b i).2=c at *;generalize a.getD i 0=x at *;generalize b.getD i 0=y at *;generalize hp:4294967296^i=p at *;by_cases h:c+y<=x
  ·rw[Aq h];obtain⟨z,hz,hz'⟩:∃z,x-(c+y)=z/\x=z+(c+y):=⟨_,rfl,(Nat.sub_add_cancel h).symm⟩;rw[hz];clear hz;obtain⟨q1,q2,q3⟩:=bRp hz' (by omega) h1 hp h3 h4;exact⟨q1,A1 _,q2,bLw _ q3⟩
  ·rw[Ai h];obtain⟨z,hz,hz'⟩:∃z,x+4294967296-(c+y)=z/\x+4294967296=z+(c+y):=⟨_,rfl,(Nat.sub_add_cancel (by omega)).symm⟩;rw[hz];clear hz;obtain⟨q1,q2,q3⟩:=bRq hz' (by omega) h1 hp h3 h4;exact⟨q1,Ay _,q2,bLv _ q3⟩
def mS(a b:List Nat):List Nat:=(miS a b a.length).1
def oA{a b:List Nat}(ha:Lim a)(hb:Lim b)(hl:b.length<=a.length)(hv:val b<=val a):val (mS a b)=val a-val b/\Lim (mS a b)/\(mS a b).length=a.length:=by
 obtain⟨h1,h2,h3,h4⟩:=aIs ha hb a.length;rw[As hl,As (Ay _)]at h4;refine⟨?_,h3,h1⟩;have hlt:=pQ h3;rw[h1]at hlt;unfold mS;generalize(miS a b a.length).1=out at *;generalize(miS a b a.length).2=c at *;rcases A4 0 c with hc|hc
 ·have:c=1:=by omega
  rw[this,Dj]at h4;omega
 ·have:c=0:=by omega
  rw[this,Dg]at h4;omega
def aLq[M:Mch Aa](a b:List Nat)(ha:Lim a)(hb:Lim b)(hla:a.length<=1099511627776)(_hlb:b.length<=1099511627776):Spec Aa 63 [aB a,aB b] (aB (mS a b)):=by
 refine aX (N:=44) Tryz.func63 ?_;simp[-I,-O,↓KW,aB];refine cB (λi:Nat=>i<=a.length)
  (λi=>StL [(0,.d (aB a)),(1,.d (aB b)),(5,.own 1 0 i 1),(6,.d (.i .i64 (miS a b i).2)),(7,.d (.i .i64 i))] none [.cells 89 ((lms (miS a b i).1).map .d)]) (λi=>a.length-i) 0 (A1 _) ?_ ?_
 ·refine wkQ [1] ?_ ?_<;>simp[-I,upd,aL,Γ0,aB,miS,lms]
 ·intro i hi;obtain⟨hlen,hc,_,_⟩:=aIs ha hb i;have hsucc:miS a b (i+1)=if(miS a b i).2+b.getD i 0<=a.getD i 0 then((miS a b i).1++[a.getD i 0-((miS a b i).2+b.getD i 0)],0)else((miS a b i).1++[a.getD i 0+4294967296-((miS a b i).2+b.getD i 0)],1):=rfl
  have hal:=ha.getD i;have hbl:=hb.getD i;have hres:i=a.length->(miS a b i).1=mS a b:=λe=>by rw[e];rfl
  generalize hout:(miS a b i).1=out at *;generalize hcar:(miS a b i).2=c at *;by_cases hgo:i<a.length
  ·have hb1:(i+1)*4<=140737488355328:=by omega
   have hb2:i+1<=maxLen:=by unfold maxLen;omega
   have hw7:Ah.wrap ((i:Int)+1)=(i:Int)+1:=aP;have q1:(i:Int)<a.length:=by omega
   have g1:=getD_some hgo;have hb0:¬i<b.length->b.getD i 0=0:=getD_none;have g2:i<b.length->b[i]? = some (b.getD i 0):=getD_some;generalize a.getD i 0=x at *;generalize b.getD i 0=y at *;have hwx:Ah.wrap (x:Int)=x:=aP;have hwy:Ah.wrap (y:Int)=y:=aP;obtain⟨d1,hd1⟩:∃d1:Int,(x:Int)-c=d1:=⟨_,rfl⟩;obtain⟨d,hd⟩:∃d:Int,d1-y=d:=⟨_,rfl⟩;have hw1:Ah.wrap ((x:Int)-c)=d1:=by rw[aP];exact hd1
   have hw2:Ah.wrap (d1-y)=d:=by rw[aP];exact hd
   by_cases hneg:d<0
   ·rw[Ai (by omega)]at hsucc;obtain⟨lo,hlo⟩:∃lo:Nat,x+4294967296-(c+y)=lo:=⟨_,rfl⟩;rw[hlo]at hsucc;have hw3:Ah.wrap (d+4294967296)=lo:=by rw[aP];omega
    have hw4:BI.wrap (lo:Int)=lo:=wrap_u32 (by omega) (by omega);by_cases hbn:i<b.length
    ·have q2:(i:Int)<b.length:=by omega
     have g3:=g2 hbn;simp[-I,-O,↓KW,aB,q1,q2,g1,g3,hwx,hwy,hw1,hw2,hw3,hw4,hneg,hw7,hb1,hb2,hlen];refine aI (i+1) hgo ?_ (wkQ [3] ?_ ?_)
     ·omega
     ·simp[-I,upd,aL,Γ0,aB,hsucc,eE,eP]
     ·simp[-I,upd,aL,Γ0,aB,hsucc,eE,eP]
    ·have q2:¬(i:Int)<b.length:=by omega
     have e1:d1=d:=by have:=hb0 hbn;omega
     rw[e1]at hw1;simp[-I,-O,↓KW,aB,q1,q2,g1,hwx,hw1,hw3,hw4,hneg,hw7,hb1,hb2,hlen];refine aI (i+1) hgo ?_ (wkQ [3] ?_ ?_)
     ·omega
     ·simp[-I,upd,aL,Γ0,aB,hsucc,eE,eP]
     ·simp[-I,upd,aL,Γ0,aB,hsucc,eE,eP]
   ·rw[Aq (by omega)]at hsucc;obtain⟨lo,hlo⟩:∃lo:Nat,x-(c+y)=lo:=⟨_,rfl⟩;rw[hlo]at hsucc;have e0:d=lo:=by omega
    rw[e0]at hw2 hneg;have hw4:BI.wrap (lo:Int)=lo:=wrap_u32 (by omega) (by omega);by_cases hbn:i<b.length
    ·have q2:(i:Int)<b.length:=by omega
     have g3:=g2 hbn;simp[-I,-O,↓KW,aB,q1,q2,g1,g3,hwx,hwy,hw1,hw2,hw4,hneg,hw7,hb1,hb2,hlen];refine aI (i+1) hgo ?_ (wkQ [3] ?_ ?_)
     ·omega
     ·simp[-I,upd,aL,Γ0,aB,hsucc,eE,eP]
     ·simp[-I,upd,aL,Γ0,aB,hsucc,eE,eP]
    ·have q2:¬(i:Int)<b.length:=by omega
     have e1:d1=lo:=by have:=hb0 hbn;omega
     rw[e1]at hw1;simp[-I,-O,↓KW,aB,q1,q2,g1,hwx,hw1,hw4,hneg,hw7,hb1,hb2,hlen];refine aI (i+1) hgo ?_ (wkQ [3] ?_ ?_)
     ·omega
     ·simp[-I,upd,aL,Γ0,aB,hsucc,eE,eP]
     ·simp[-I,upd,aL,Γ0,aB,hsucc,eE,eP]
  ·have e:i=a.length:=by omega
   have h1:¬(i:Int)<a.length:=by omega
   have h4:=hres e;simp[-I,-O,↓KW,aB,h1,hlen,dP hlen,cN hlen,<-h4]
def uE[M:Mch Aa](x y:Int)(hx:(aJ x.natAbs).length<=549755813888)(hy:(aJ y.natAbs).length<=549755813888):Spec Aa 22 [encZ x,encZ y] (encZ (x+y)):=by
 refine aX (N:=39) Tryz.func22 ?_;have la:=bT x.natAbs;have lb:=bT y.natAbs;have va:=cD x.natAbs;have vb:=cD y.natAbs;have hless:(aJ x.natAbs).length<(aJ y.natAbs).length->x.natAbs<y.natAbs:=gQ;have hless2:(aJ y.natAbs).length<(aJ x.natAbs).length->y.natAbs<x.natAbs:=gQ;have hl:=zF _ _ la lb (by omega) (by omega);rw[fI]at hl;have sx:=fN x;have sy:=fN y;have ex:encZ x=.ag [.b (decide (x<0)),aB (aJ x.natAbs)]:=rfl;have ey:encZ y=.ag [.b (decide (y<0)),aB (aJ y.natAbs)]:=rfl;rw[ex,ey];generalize aJ x.natAbs=a at *;generalize aJ y.natAbs=b at *;generalize hbx:decide (x<0)=nx at *;generalize hby:decide (y<0)=ny at *;by_cases hn:nx=ny
 ·have h1:(nx==ny)=true:=by simpa using hn
  simp[-I,-O,↓KW,aB,h1];obtain⟨pv,pl,pn⟩:=aYq la lb;refine aC (bQh a b la lb (by omega) (by omega)) ?_;simp[-I,-O,↓KW,aB];have hm:=eC (aAz a b) nx (by omega);rw[cO pl,pv,va,vb]at hm;refine aC hm ?_;have e:sg nx (x.natAbs+y.natAbs)=x+y:=by rw[<-sx,<-sy,<-hn];cases nx<;>simp[sg]<;>omega
  rw[e];simp[-I,-O,↓KW,aB,encZ,encI]
 ·have h1:(nx==ny)=false:=by simpa using hn
  simp[-I,-O,↓KW,aB,h1];refine aC hl ?_;by_cases hlt:x.natAbs<y.natAbs
  ·simp[-I,-O,↓KW,aB,hlt];obtain⟨pv,pl,pn⟩:=oA lb la (by omega) (by omega);refine aC (aLq b a lb la (by omega) (by omega)) ?_;simp[-I,-O,↓KW,aB];have hm:=eC (mS b a) ny (by omega);rw[cO pl,pv,va,vb]at hm;refine aC hm ?_;have e:sg ny (y.natAbs-x.natAbs)=x+y:=by rw[<-sx,<-sy];cases nx<;>cases ny<;>simp[sg]at hn ⊢<;>omega
   rw[e];simp[-I,-O,↓KW,aB,encZ,encI]
  ·simp[-I,-O,↓KW,aB,hlt];obtain⟨pv,pl,pn⟩:=oA la lb (by omega) (by omega);refine aC (aLq a b la lb (by omega) (by omega)) ?_;simp[-I,-O,↓KW,aB];have hm:=eC (mS a b) nx (by omega);rw[cO pl,pv,va,vb]at hm;refine aC hm ?_;have e:sg nx (x.natAbs-y.natAbs)=x+y:=by rw[<-sx,<-sy];cases nx<;>cases ny<;>simp[sg]at hn ⊢<;>omega
   rw[e];simp[-I,-O,↓KW,aB,encZ,encI]
def aHg{l:List Nat}{j:Nat}(h:j<l.length)(v:Nat):val (l.set j v)+4294967296^j*l.getD j 0=val l+4294967296^j*v:=by
 induction l generalizing j with
 |nil=>simp at h
 | cons x l ih =>
  cases j with
  |zero=>simp only[CL,val,Nat.pow_zero,DW,List.getD_cons_zero];omega
  | succ j =>
   have:=ih (j:=j) (by simpa using h);simp only[Fl,val,List.getD_cons_succ,BR];generalize 4294967296^j=p at *;generalize l.getD j 0=o at *;generalize val (l.set j v)=w at *;rw[B5 p,B2,B2];generalize p*o=e1 at *;generalize p*v=e2 at *;omega
def muI(out:List Nat)(x:Nat)(b:List Nat)(i:Nat):Nat->List Nat×Nat
 |0=>(out,0)
 |k+1=>((muI out x b i k).1.set (i+k) (((muI out x b i k).2+(muI out x b i k).1.getD (i+k) 0+x*b.getD k 0)%4294967296),((muI out x b i k).2+(muI out x b i k).1.getD (i+k) 0+x*b.getD k 0)/4294967296)
def muN(out:List Nat)(x:Nat)(b:List Nat)(i:Nat):Nat:=if(muI out x b i b.length).2=0 then b.length else b.length+1
def muO(a b:List Nat):Nat->List Nat
 |0=>Av (a.length+b.length+1) 0
 |i+1=>(muI (muO a b i) (a.getD i 0) b i (muN (muO a b i) (a.getD i 0) b i)).1
def bGv{P v v' o c t q r e w k:Nat}(hs:v'+P*o=v+P*r)(ht:r+k*q=t)(ht2:c+o+e=t)(hv:v+P*c=w):v'+P*k*q=w+P*e:=by
 have h1:P*t=P*r+P*(k*q):=by rw[<-ht,Cx]
 have h2:P*t=P*c+P*o+P*e:=by rw[<-ht2,Cx,Cx]
 rw[B2];omega
def aRl{c o x y:Nat}(hc:c<4294967296)(ho:o<4294967296)(hx:x<4294967296)(hy:y<4294967296):c+o+x*y<18446744073709551616:=by have:x*y<=4294967295*4294967295:=A9 (by omega) (by omega);omega
def rO{out b:List Nat}{x i:Nat}(ho:Lim out)(hb:Lim b)(hx:x<4294967296)(hl:i+b.length<out.length)(k:Nat)(hk:k<=b.length+1) :
  (muI out x b i k).1.length=out.length/\(muI out x b i k).2<4294967296/\Lim (muI out x b i k).1/\val (muI out x b i k).1+4294967296^(i+k)*(muI out x b i k).2=val out+4294967296^i*(x*val (b.take k)):=by
 induction k with
 |zero=>exact⟨rfl,Nat.zero_lt_of_lt hx,ho,by simp[muI,val]⟩
 | succ k ih =>
  obtain⟨h1,h2,h3,h4⟩:=ih (by omega)
  have hy:=hb.getD k
  have hoo:=h3.getD (i+k)
  have hset:=aHg (l:=(muI out x b i k).1) (j:=i+k) (by omega) (((muI out x b i k).2+(muI out x b i k).1.getD (i+k) 0+x*b.getD k 0)%4294967296)
  have hlim:=aRl h2 hoo hx hy
  rw[cF]
  simp only[muI]
  generalize(muI out x b i k).1=out' at *
  generalize(muI out x b i k).2=c at *
  generalize out'.getD (i+k) 0=o at *
  generalize b.getD k 0=y at *
  refine⟨by simp[h1],by omega,h3.set _ (by omega),?_⟩
  have:=bGv hset (Nat.mod_add_div _ _) rfl h4
  rw[<-Ei i k 1,BR,this,Fq,Cx,Cx,B2,Ei]
  congr 2
  rw[Fy x]
def aMu{out b:List Nat}{x i:Nat}(ho:Lim out)(hb:Lim b)(hx:x<4294967296)(hl:i+b.length<out.length)(hv:val out<4294967296^(i+b.length)):(muI out x b i (b.length+1)).2=0:=by
 obtain⟨_,_,_,h4⟩:=rO ho hb hx hl (b.length+1) (Ay _);rw[As (by omega)]at h4;have hbv:=pQ hb;rcases A7 (muI out x b i (b.length+1)).2 with h|h
 ·exact h
 exfalso;have e1:4294967296^(i+(b.length+1))*1<=4294967296^(i+(b.length+1))*(muI out x b i (b.length+1)).2:=Ce _ h;have e2:x*val b<=4294967295*4294967296^b.length:=A9 (by omega) (by omega);have e3:4294967296^i*(x*val b)<=4294967296^i*(4294967295*4294967296^b.length):=Ce _ e2;have e4:4294967296^i*(4294967295*4294967296^b.length)=4294967295*4294967296^(i+b.length):=by rw[Fq,Fy]
 have e5:4294967296^(i+(b.length+1))=4294967296^(i+b.length)*4294967296:=by rw[<-Ei,BR]
 rw[Dj,e5]at e1;rw[e5]at h4;rw[e4]at e3;generalize 4294967296^(i+b.length)=p at *;generalize 4294967296^i*(x*val b)=q at *;generalize(muI out x b i (b.length+1)).2=c at *;generalize p*4294967296*c=d at *;omega
def bRm{out b:List Nat}{x i:Nat}(ho:Lim out)(hb:Lim b)(hx:x<4294967296)(hl:i+b.length<out.length)(hv:val out<4294967296^(i+b.length)) :
  (muI out x b i (muN out x b i)).1.length=out.length/\Lim (muI out x b i (muN out x b i)).1/\val (muI out x b i (muN out x b i)).1=val out+4294967296^i*(x*val b):=by
 unfold muN
 have hstop:=aMu ho hb hx hl hv
 by_cases h:(muI out x b i b.length).2=0
 ·rw[Aq h]
  obtain⟨h1,_,h3,h4⟩:=rO ho hb hx hl b.length (by omega)
  rw[As (by omega),h,Dg,B6]at h4
  exact⟨h1,h3,h4⟩
 ·rw[Ai h]
  obtain⟨h1,_,h3,h4⟩:=rO ho hb hx hl (b.length+1) (Ay _)
  rw[As (by omega),hstop,Dg,B6]at h4
  exact⟨h1,h3,h4⟩
def aRm{a b:List Nat}(ha:Lim a)(hb:Lim b){i:Nat}(hi:i<=a.length):val (a.take i)*val b<4294967296^(i+b.length):=by have h1:=pQ (ha.take i);rw[AZ,De hi]at h1;have h2:=pQ hb;rw[Fq];exact FG h1 h2
def bRl{a b:List Nat}(ha:Lim a)(hb:Lim b)(i:Nat)(hi:i<=a.length):(muO a b i).length=a.length+b.length+1/\Lim (muO a b i)/\val (muO a b i)=val (a.take i)*val b:=by
 induction i with
 |zero=>exact⟨by simp[muO],.rep _,by simp[muO,zB,val]⟩
 | succ i ih =>
  obtain⟨h1,h2,h3⟩:=ih (by omega);have hv:=aRm ha hb (i:=i) (by omega);rw[<-h3]at hv;obtain⟨q1,q2,q3⟩:=bRm (x:=a.getD i 0) (i:=i) h2 hb (ha.getD i) (by omega) hv;refine⟨q1.trans h1,q2,?_⟩;show val (muI (muO a b i) (a.getD i 0) b i (muN (muO a b i) (a.getD i 0) b i)).1=_;rw[q3,h3,cF,B8,B2]
def jT[M:Mch Aa](x y:Int)(hx:(aJ x.natAbs).length<=137438953472)(hy:(aJ y.natAbs).length<=137438953472):Spec Aa 24 [encZ x,encZ y] (encZ (x*y)):=by
 refine aX (N:=81) Tryz.func24 ?_;have la:=bT x.natAbs;have lb:=bT y.natAbs;have va:=cD x.natAbs;have vb:=cD y.natAbs;have sx:=fN x;have sy:=fN y;have ex:encZ x=.ag [.b (decide (x<0)),aB (aJ x.natAbs)]:=rfl;have ey:encZ y=.ag [.b (decide (y<0)),aB (aJ y.natAbs)]:=rfl;rw[ex,ey];generalize aJ x.natAbs=a at *;generalize aJ y.natAbs=b at *;generalize hbx:decide (x<0)=nx at *;generalize hby:decide (y<0)=ny at *;obtain⟨n,hn⟩:∃n,a.length+b.length+1=n:=⟨_,rfl⟩;have hw1:Ah.wrap ((a.length:Int)+b.length)=(a.length:Int)+b.length:=aP;have hw2:Ah.wrap ((a.length:Int)+b.length+1)=(n:Int):=by rw[aP];omega
 have hm1:(4:Int)*n<=281474976710656:=by omega
 have hm2:(n:Int)<=9223372036854775807:=by omega
 have h00:muO a b 0=Av n 0:=by rw[<-hn];rfl
 simp[-I,-O,↓KW,aB,hw1,hw2,hm1,hm2];refine cB (λi:Nat=>i<=a.length)
  (λi=>StL [(2,.ptr 1 0),(3,.ptr 2 0),(4,.ptr 3 0),(5,.own 4 0 n 1),(6,.d (.i .i64 i))] none
   [.cells 31 [.d (.b nx),.d (aB a)],.cells 31 [.d (.b ny),.d (aB b)],.cells 31 [.d (.b false),.nil],.cells 89 ((lms (muO a b i)).map .d)]) (λi=>a.length-i) 0 (A1 _) ?_ ?_
 ·refine wkQ [1,2,3,4] ?_ ?_<;>simp[-I,upd,aL,Γ0,aB,h00]
 ·intro i hi;obtain⟨ol,om,ov⟩:=bRl la lb i hi;rw[hn]at ol;by_cases hgo:i<a.length
  ·have q1:(i:Int)<a.length:=by omega
   simp[-I,-O,↓KW,aB,q1];have hsucc:muO a b (i+1)=(muI (muO a b i) (a.getD i 0) b i (muN (muO a b i) (a.getD i 0) b i)).1:=rfl;have g1:=getD_some hgo;have hlt:=aRm la lb hi;rw[<-ov]at hlt;generalize hout:muO a b i=out at *;have hal:=la.getD i;generalize a.getD i 0=xv at *;have hwx:AB.wrap (xv:Int)=xv:=wrap_u64 (by omega) (by omega);refine cB (λk:Nat=>k<=b.length\/(k=b.length+1/\(muI out xv b i b.length).2≠0))
    (λk=>StL [(2,.ptr 1 0),(3,.ptr 2 0),(4,.ptr 3 0),(5,.own 4 0 n 1),(6,.d (.i .i64 i)),(7,.d (.i .u64 (muI out xv b i k).2)),(8,.d (.i .i64 k))] none
     [.cells 31 [.d (.b nx),.d (aB a)],.cells 31 [.d (.b ny),.d (aB b)],.cells 31 [.d (.b false),.nil],.cells 89 ((lms (muI out xv b i k).1).map .d)]) (λk=>b.length+1-k) 0 (.inl (A1 _)) ?_ ?_
   ·refine wkQ [1,2,3,4] ?_ ?_<;>simp[-I,upd,aL,Γ0,aB,muI]
   ·intro k hk;have hkl:k<=b.length+1:=by omega
    obtain⟨il,ic,im,_⟩:=rO om lb hal (i:=i) (by omega) k hkl;have isucc:muI out xv b i (k+1)=((muI out xv b i k).1.set (i+k) (((muI out xv b i k).2+(muI out xv b i k).1.getD (i+k) 0+xv*b.getD k 0)%4294967296),((muI out xv b i k).2+(muI out xv b i k).1.getD (i+k) 0+xv*b.getD k 0)/4294967296):=rfl;have hstop0:=aMu om lb hal (i:=i) (by omega) hlt;have hres:(k<b.length\/0<(muI out xv b i k).2)\/muO a b (i+1)=(muI out xv b i k).1:=by
     rw[hsucc];unfold muN;rcases hk with hk|⟨hk,hc⟩
     ·by_cases h1:k=b.length
      ·subst h1;by_cases h2:(muI out xv b i b.length).2=0
       ·rw[Aq h2];exact .inr rfl
       ·exact .inl (.inr (by omega))
      ·exact .inl (.inl (by omega))
     ·rw[Ai hc,hk];exact .inr rfl
    have hnext:(k<b.length\/0<(muI out xv b i k).2)->k<=b.length/\(k+1<=b.length\/(k+1=b.length+1/\(muI out xv b i b.length).2≠0)):=by
     intro h;rcases hk with hk|⟨hk,hc⟩
     ·refine⟨hk,?_⟩;by_cases h1:k=b.length
      ·subst h1;exact .inr ⟨rfl,by omega⟩
      ·exact .inl (by omega)
     ·rw[hk,hstop0]at h;omega
    clear hstop0 hsucc;have ho:=im.getD (i+k);generalize hcar:(muI out xv b i k).2=c at *;generalize hcur:(muI out xv b i k).1=cur at *;by_cases hg2:k<b.length\/0<c
    ·obtain⟨n1,n2⟩:=hnext hg2;obtain⟨j,hj⟩:∃j,i+k=j:=⟨_,rfl⟩;rw[hj]at isucc ho;have hjl:j<cur.length:=by omega
     have g2:=aVf (getD_some hjl);have hwj:Ah.wrap ((i:Int)+k)=j:=by rw[aP];omega
     have hjn:(j:Int)<n:=by omega
     have hw8:Ah.wrap ((k:Int)+1)=(k:Int)+1:=aP;have hjl2:j<(lms cur).length:=by rw[jV];exact hjl
     have hjl3:j+1<=n:=by omega
     have hyb:=lb.getD k;have hlim:=aRl ic ho hal hyb;have hy0:¬k<b.length->b.getD k 0=0:=getD_none;have g3:k<b.length->b[k]? = some (b.getD k 0):=getD_some;generalize cur.getD j 0=o at *;generalize b.getD k 0=yv at *;obtain⟨s1,hs1⟩:∃s1:Nat,c+o=s1:=⟨_,rfl⟩;obtain⟨t,ht⟩:∃t:Nat,s1+xv*yv=t:=⟨_,rfl⟩;rw[hs1]at isucc hlim;rw[ht]at isucc hlim;obtain⟨lo,hlo⟩:∃lo:Nat,t%4294967296=lo:=⟨_,rfl⟩;obtain⟨hi',hhi⟩:∃hi':Nat,t/4294967296=hi':=⟨_,rfl⟩;rw[hlo,hhi]at isucc;have hwo:AB.wrap (o:Int)=o:=wrap_u64 (by omega) (by omega);have hws:AB.wrap ((c:Int)+o)=s1:=by rw[wrap_u64 (by omega) (by omega)];omega
     have hwlo:BI.wrap (t:Int)=lo:=by rw[fM];omega
     have hwhi:AB.wrap ((t:Int)/4294967296)=hi':=by rw[wrap_u64 (by omega) (by omega)];omega
     have hlay:lay (Cj AV.d (lms cur)) j [AV.d (D.i .u32 (lo:Int))]=Cj AV.d (lms (cur.set j lo)):=by rw[eQ _ _ _ hjl2,uR]
     have hgj:List.length cur=n:=by omega
     by_cases hkb:k<b.length
     ·have q2:(k:Int)<b.length:=by omega
      have g4:=g3 hkb;have hwy:AB.wrap (yv:Int)=yv:=wrap_u64 (by omega) (by omega);obtain⟨e,he⟩:∃e:Nat,xv*yv=e:=⟨_,rfl⟩;rw[he]at ht;have hwm:AB.wrap ((xv:Int)*yv)=e:=by rw[<-Cd,he,wrap_u64 (by omega) (by omega)]
      have hwt:AB.wrap ((s1:Int)+e)=t:=by rw[wrap_u64 (by omega) (by omega)];omega
      simp[-I,-O,↓KW,aB,q2,hwj,hjn,g2,hwo,hws,g1,g4,hwx,hwy,hwm,hwt,hwlo,hwhi,hlay,hw8,hjl3,hgj];refine aI (k+1) n2 ?_ (wkQ [1,2,3,4] ?_ ?_)
      ·omega
      ·simp[-I,upd,aL,Γ0,aB,isucc]
      ·simp[-I,upd,aL,Γ0,aB,isucc]
     ·have q2:¬(k:Int)<b.length:=by omega
      have q3:0<c:=by omega
      have e1:t=s1:=by rw[hy0 hkb,Dg]at ht;omega
      rw[e1]at hwlo hwhi;simp[-I,-O,↓KW,aB,q2,q3,hwj,hjn,g2,hwo,hws,hwlo,hwhi,hlay,hw8,hjl3,hgj];refine aI (k+1) n2 ?_ (wkQ [1,2,3,4] ?_ ?_)
      ·omega
      ·simp[-I,upd,aL,Γ0,aB,isucc]
      ·simp[-I,upd,aL,Γ0,aB,isucc]
    ·have q2:¬(k:Int)<b.length:=by omega
     have q3:¬0<c:=by omega
     have hfin:=hres.resolve_left hg2;have hw8:Ah.wrap ((i:Int)+1)=(i:Int)+1:=aP;simp[-I,-O,↓KW,aB,q2,q3,hw8];refine aI (i+1) hgo ?_ (wkQ [1,2,3,4] ?_ ?_)
     ·omega
     ·simp[-I,upd,aL,Γ0,aB,hfin]
     ·simp[-I,upd,aL,Γ0,aB,hfin]
  ·have q1:¬(i:Int)<a.length:=by omega
   have e:i=a.length:=by omega
   rw[e,As (Ay _),va,vb]at ov;have hm:=eC (muO a b i) (nx != ny) (by omega);rw[cO om,e,ov]at hm;have e2:sg (nx != ny) (x.natAbs*y.natAbs)=x*y:=by rw[<-sx,<-sy];cases nx<;>cases ny<;>simp[sg,DD,Gs]
   rw[e2]at hm;rw[e]at ol;have e':muO a b i=muO a b a.length:=by rw[e]
   generalize muO a b a.length=out at *;simp[-I,-O,↓KW,aB,q1,e'];refine bE (ds:=[aB out,.b (nx != ny)]) ?_ hm ?_
   ·simp[-I,-O,↓KW,aB,ol,dP ol,cN ol];cases nx<;>cases ny<;>rfl
   ·simp[-I,-O,↓KW,aB,encZ,encI,ol,dP ol,cN ol]
def bBu{n:Nat}(h:n<=9223372036854775807):Ah.wrap (n:Int)=n:=aP
def mI[M:Mch Aa](m:List Nat)(hl:m.length<=1099511627776):Spec Aa 79 [aB m] (aB (strip m)):=by
 refine aX (N:=21) Tryz.func79 ?_;simp[-I,-O,↓KW,aB];refine cB (λn:Nat=>n<=m.length/\strip (m.take n)=strip m) (λn=>StL [(0,.d (aB m)),(3,.d (.i .i64 n))] none []) (λn=>n) m.length ⟨Ay _,by simp⟩ ?_ ?_
 ·refine wkQ [] ?_ ?_<;>simp[-I,upd,aL,Γ0,aB]
 ·rintro n ⟨hn,hs⟩;rcases n with _|n
  ·have hs':strip m=[]:=hs.symm;have h0:fH 1 (m.map λ(x:Nat)=>[D.i .u32 (x:Int)])=true:=qF m _;simp[-I,-O,↓KW,aB,hs',h0]
  ·have hx:m[n]? = some m[n]:=Ab hn;have hw:Ah.wrap (n:Int)=n:=bBu (by omega);have hp:(0:Int)<(n:Int)+1:=by omega
   have hp2:(0:Int)<=(n:Int)+1:=by omega
   by_cases h0:m[n]=0
   ·simp[-I,-O,↓KW,aB,hx,hw,h0,hp];refine aI n ⟨by omega,(oV hn h0).symm.trans hs⟩ (by omega) (wkQ [] ?_ ?_)<;>simp[-I,upd,aL,Γ0,aB]
   ·have h1:((m[n]:Int)==0)=false:=by simp;omega
    have he:strip m=m.take (n+1):=hs.symm.trans (oW hn h0);have hn':(n:Int)+1<=m.length:=by omega
    obtain⟨pre,hpre⟩:∃pre,m.take (n+1)=pre:=⟨_,rfl⟩;have hp1:∀f:Nat->List D,(m.map f).take (n+1)=pre.map f:=λf=>by rw[<-hpre,List.map_take]
    rw[hpre]at he;simp[-I,-O,↓KW,aB,hx,hw,h1,hp,hp2,he,hn',hp1,qF]
def aNh[M:Mch Aa](neg:Bool)(m:List Nat)(hl:m.length<=1099511627776):Spec Aa 95 [.b neg,aB m] (encI (neg&&decide (strip m≠[])) (strip m)):=by
 refine aX (N:=14) Tryz.func95 ?_;simp[-I,-O,↓KW,aB];refine aC (mI m hl) ?_;cases hm:strip m with
 | nil =>
  cases neg<;>simp[-I,-O,↓KW,aB,encI]
 | cons x l =>
  have h1:(((l.length:Int)+1==0):Bool)=false:=by simp;omega
  cases neg<;>simp[-I,-O,↓KW,aB,encI,h1]
def nI[M:Mch Aa]{m:List Nat}(h:Lim m)(hl:m.length<=1099511627776)(neg:Bool):Spec Aa 95 [.b neg,aB m] (encZ (sg neg (val m))):=by rw[<-cO h];exact aNh neg m hl
def bSm[M:Mch Aa](neg:Bool)(m:List Nat)(hl:m.length<=1099511627776):Spec Aa 41 [encI neg m] (.i .i64 (if strip m=[]then 0 else if neg then -1 else 1)):=by
 refine aX (N:=12) Tryz.func41 ?_;simp[-I,-O,↓KW,encI,aB];refine aC (mI m hl) ?_;cases hm:strip m with
 |nil=>simp[-I,-O,↓KW,aB,encI]
 | cons x l =>
  have h1:(((l.length:Int)+1==0):Bool)=false:=by simp;omega
  cases neg<;>simp[-I,-O,↓KW,aB,encI,h1]
def bIa[M:Mch Aa](neg:Bool)(m:List Nat)(hl:m.length<=1099511627776):Spec Aa 106 [encI neg m] (.b (match m.getLast? with|some x=>x != 0|none=>!neg)):=by
 refine aX (N:=19) Tryz.func106 ?_;rcases List.eq_nil_or_concat m with rfl|⟨m',x,rfl⟩
 ·simp[-I,-O,↓KW,encI,aB]
 ·have hw:Ah.wrap (m'.length:Int)=m'.length:=by simp at hl;rw[wrap_i64]<;>omega
  have h1:(0:Int)<(m'.length:Int)+1:=by omega
  have hg:(Cj (λ(x:Nat)=>[D.i .u32 (x:Int)]) m'++[[D.i .u32 (x:Int)]])[m'.length]? = some [D.i .u32 (x:Int)]:=by rw[AJ (by simp)];simp
  simp[-I,-O,↓KW,encI,aB,hw,h1,hg];rw[Bool.eq_iff_iff];simp
def cCq[M:Mch Aa](x:Int):Spec Aa 151 [.i .i64 x] (.b false):=by refine aX (N:=6) Tryz.func151 ?_;simp[-I,-O,↓KW]
def cCp[M:Mch Aa](x:Int):Spec Aa 185 [.i .u32 x] (.b false):=by refine aX (N:=6) Tryz.func185 ?_;simp[-I,-O,↓KW]
def mW(x y:Int):Int:=if x<y then -1 else if y<x then 1 else 0
def bKv[M:Mch Aa](x y:Int):Spec Aa 93 [.i .i64 x,.i .i64 y] (.i .i64 (mW x y)):=by
 refine aX (N:=20) Tryz.func93 ?_;simp[-I,-O,↓KW];refine aC (cCq x) ?_;simp[-I,-O,↓KW];refine aC (cCq y) ?_;by_cases h1:x<y
 ·simp[-I,-O,↓KW,h1,mW]
 ·by_cases h2:y<x<;>simp[-I,-O,↓KW,h1,h2,mW]
def cFn[M:Mch Aa](x y:Int):Spec Aa 152 [.i .u32 x,.i .u32 y] (.i .i64 (mW x y)):=by
 refine aX (N:=20) Tryz.func152 ?_;simp[-I,-O,↓KW];refine aC (cCp x) ?_;simp[-I,-O,↓KW];refine aC (cCp y) ?_;by_cases h1:x<y
 ·simp[-I,-O,↓KW,h1,mW]
 ·by_cases h2:y<x<;>simp[-I,-O,↓KW,h1,h2,mW]
def lR(a b:List Nat):Int:=if nG a b then -1 else if nG b a then 1 else 0
def aBp[M:Mch Aa](a b:List Nat)(ha:Lim a)(hb:Lim b)(hla:a.length<=1099511627776)(hlb:b.length<=1099511627776):Spec Aa 94 [aB a,aB b] (.i .i64 (lR a b)):=by
 refine aX (N:=35) Tryz.func94 ?_;simp[-I,-O,↓KW,aB];refine aC (bKv _ _) ?_;by_cases hn:a.length=b.length
 rotate_left
 ·rcases Nat.lt_or_gt_of_ne hn with h|h
  ·have h1:mW a.length b.length=-1:=by unfold mW;rw[Aq (by omega)]
   have h2:lR a b=-1:=by simp[lR,nG,hn,h]
   simp[-I,-O,↓KW,aB,h1,h2]
  ·have h1:mW a.length b.length=1:=by unfold mW;rw[Ai (by omega),Aq (by omega)]
   have h2:lR a b=1:=by
    have h3:¬a.length<b.length:=by omega
    have h4:¬b.length=a.length:=λe=>hn e.symm
    simp[lR,nG,hn,h,h3,h4]
   simp[-I,-O,↓KW,aB,h1,h2]
 ·have h1:mW a.length b.length=0:=by simp[mW,hn]
  have hw:Ah.wrap ((a.length:Int)-1)=(a.length:Int)-1:=aP;simp[-I,-O,↓KW,aB,h1,hw];refine cB (λk:Nat=>k<=a.length/\a.drop k=b.drop k) (λk=>StL [(0,.d (aB a)),(1,.d (aB b)),(6,.d (.i .i64 ((k:Int)-1)))] none []) (λk=>k) a.length ⟨Ay _,by rw[C0 (Ay _),C0 (by omega)]⟩ ?_ ?_
  ·refine wkQ [] ?_ ?_<;>simp[-I,upd,aL,Γ0,aB]
  ·rintro k ⟨hk,hd⟩;rcases k with _|k
   ·have e:a=b:=by simpa using hd
    subst e;simp[-I,-O,↓KW,aB,nG,lR]
   ·have hkb:k<b.length:=by omega
    have hxa:a[k]? = some a[k]:=Ab hk;have hxb:b[k]? = some b[k]:=Ab hkb;have hw2:Ah.wrap ((k:Int)-1)=(k:Int)-1:=aP;have hp:(0:Int)<=k:=by omega
    simp[-I,-O,↓KW,aB,hxa,hxb,hp];refine aC (cFn _ _) ?_;by_cases he:a[k]=b[k]
    ·have h2:mW a[k] b[k]=0:=by simp[mW,he]
     simp[-I,-O,↓KW,aB,h2,hw2];refine aI k ⟨by omega,?_⟩ (by omega) (wkQ [] ?_ ?_)
     ·rw[Cn hk,Cn hkb,he,hd]
     ·simp[-I,upd,aL,Γ0,aB]
     ·trivial
    ·have ga:a.getD k 0=a[k]:=by rw[Ac,hxa];rfl
     have gb:b.getD k 0=b[k]:=by rw[Ac,hxb];rfl
     rcases A4 a[k] b[k]with hlt|hge
     ·have h3:=rD ha (i:=k) hn hk hd (by rw[ga,gb];exact hlt);have h4:mW a[k] b[k]=-1:=by unfold mW;rw[Aq (by omega)]
      have h5:lR a b=-1:=by simp[lR,nG,hn,h3]
      simp[-I,-O,↓KW,aB,h4,h5]
     ·have h3:=rD hb (i:=k) hn.symm hkb hd.symm (by rw[ga,gb];omega);have h4:mW a[k] b[k]=1:=by unfold mW;rw[Ai (by omega),Aq (by omega)]
      have h6:¬val a<val b:=by omega
      have h5:lR a b=1:=by simp[lR,nG,hn,h3,h6]
      simp[-I,-O,↓KW,aB,h4,h5]
def zp(out:List Nat)(n:Nat):List Nat:=out++Av (n-out.length) 0
def aGw{out:List Nat}{n:Nat}(h:out.length<=n):(zp out n).length=n:=by simp[zp];omega
def aGx{out:List Nat}{n:Nat}(h:out.length=n):zp out n=out:=by subst h;simp[zp]
def aPi(n:Nat):zp [] n=Av n 0:=by simp[zp]
def bWr{out:List Nat}{n i:Nat}(h:out.length=i)(hi:i<n)(v:Nat):(zp out n).set i v=zp (out++[v]) n:=by subst h;unfold zp;obtain⟨k,hk⟩:∃k,n-out.length=k+1:=⟨n-out.length-1,by omega⟩;rw[hk,List.set_append_right _ _ (Ay _),CU,Cz,CL,Bc,List.length_singleton,show n-(out.length+1)=k from by omega,List.append_assoc];rfl
def zU{out:List Nat}{n i:Nat}(h:out.length=i)(hi:i<n)(v:Nat):lay (Cj AV.d (lms (zp out n))) i [AV.d (D.i .u32 (v:Int))]=Cj AV.d (lms (zp (out++[v]) n)):=by rw[eQ _ _ _ (by rw[jV,aGw (by omega)];exact hi),uR,bWr h hi]
def aEu{t:Nat}:dT .shr .u64 (t:Int) 32=some (.i .u64 ((t/4294967296:Nat):Int)):=by simp only[dT,CK];rw[Ai (by decide)];congr 2;rw[show(2:Int)^(min (32:Int).toNat 64)=4294967296 from by decide,CY _ (by decide)];omega
def bVp{t:Int}(_h0:0<=t):dT .shr .u64 t 63=some (.i .u64 (t/9223372036854775808)):=by simp only[dT,CK];rw[Ai (by decide)];congr 2;rw[show(2:Int)^(min (63:Int).toNat 64)=9223372036854775808 from by decide,CY _ (by decide)]
def ip(p q:List Nat):List Nat:=(plS p q p.length).1++[(plS p q p.length).2]
def bHy{p q:List Nat}(lp:Lim p)(lq:Lim q)(h:q.length<=p.length):val (ip p q)=val p+val q/\Lim (ip p q)/\(ip p q).length=p.length+1:=by obtain⟨h1,h2,h3,h4⟩:=kP lp lq p.length;rw[As (Ay _),As h]at h4;unfold ip;refine⟨?_,h3.app (.one (by omega)),by simp[h1]⟩;rw[kM,h1];simp only[val,Dg,B6];exact h4
def qJ(a b:List Nat):List Nat:=if a.length<b.length then ip b a else ip a b
def aRu{a b:List Nat}(ha:Lim a)(hb:Lim b):val (qJ a b)=val a+val b/\Lim (qJ a b)/\(qJ a b).length<=a.length+b.length+1:=by
 unfold qJ;by_cases h:a.length<b.length
 ·rw[Aq h];obtain⟨h1,h2,h3⟩:=bHy hb ha (by omega);exact⟨by omega,h2,by omega⟩
 ·rw[Ai h];obtain⟨h1,h2,h3⟩:=bHy ha hb (by omega);exact⟨h1,h2,by omega⟩
def bSn[M:Mch Aa](a b:List Nat)(ha:Lim a)(hb:Lim b)(hla:a.length<=274877906944)(hlb:b.length<=274877906944):Spec Aa 149 [aB a,aB b] (aB (qJ a b)):=by
 refine aX (N:=57) Tryz.func149 ?_;obtain⟨p,q,lp,lq,hqp,hpl,hr,hc⟩:∃p q:List Nat,Lim p/\Lim q/\q.length<=p.length/\p.length<=274877906944/\qJ a b=ip p q/\((a.length<b.length/\p=b/\q=a)\/(¬a.length<b.length/\p=a/\q=b)):=by
  by_cases h:a.length<b.length
  ·exact⟨b,a,hb,ha,by omega,hlb,by simp[qJ,h],.inl ⟨h,rfl,rfl⟩⟩
  ·exact⟨a,b,ha,hb,by omega,hla,by simp[qJ,h],.inr ⟨h,rfl,rfl⟩⟩
 rw[hr];obtain⟨n,hn⟩:∃n,p.length+1=n:=⟨_,rfl⟩;have hw2:Ah.wrap ((p.length:Int)+1)=(n:Int):=by rw[aP];omega
 have hm1:(4:Int)*n<=281474976710656:=by omega
 have hm2:(n:Int)<=9223372036854775807:=by omega
 rcases hc with ⟨h,hp,hq⟩|⟨h,hp,hq⟩<;>subst hp<;>subst hq
 ·have h1:(q.length:Int)<p.length:=by omega
  simp[-I,-O,↓KW,aB,h1,hw2,hm1,hm2];refine cB (λi:Nat=>i<=p.length) (λi=>StL [(0,.d (aB p)),(1,.d (aB q)),(5,.own 1 0 n 1),(6,.d (.i .u64 (plS p q i).2)),(20,.d (.i .i64 p.length)),(21,.d (.i .i64 i))] none [.cells 89 ((lms (zp (plS p q i).1 n)).map .d)]) (λi=>p.length-i) 0 (A1 _) ?_ ?_
  ·refine wkQ [1] ?_ ?_<;>simp[-I,upd,aL,Γ0,aB,plS,aPi]
  ·intro i hi;obtain⟨hlen,hc,_,_⟩:=kP lp lq i;have hsucc:plS p q (i+1)=((plS p q i).1++[((plS p q i).2+p.getD i 0+q.getD i 0)%4294967296],((plS p q i).2+p.getD i 0+q.getD i 0)/4294967296):=rfl;have hal:=lp.getD i;have hbl:=lq.getD i;have hres:i=p.length->(plS p q i).1++[(plS p q i).2]=ip p q:=λe=>by rw[e];rfl
   generalize hout:(plS p q i).1=out at *;generalize hcar:(plS p q i).2=c at *;have hzl:(zp out n).length=n:=aGw (by omega);by_cases hgo:i<p.length
   ·have hw7:Ah.wrap ((i:Int)+1)=(i:Int)+1:=aP;have q1:(i:Int)<p.length:=by omega
    have q3:(i:Int)<n:=by omega
    have q4:i+1<=n:=by omega
    have g1:=getD_some hgo;have hb0:¬i<q.length->q.getD i 0=0:=getD_none;have g2:i<q.length->q[i]? = some (q.getD i 0):=getD_some;generalize p.getD i 0=x at *;generalize q.getD i 0=y at *;obtain⟨s1,hs1⟩:∃s1:Nat,c+x=s1:=⟨_,rfl⟩;obtain⟨s2,hs2⟩:∃s2:Nat,s1+y=s2:=⟨_,rfl⟩;rw[hs1,hs2]at hsucc;have hwx:AB.wrap (x:Int)=x:=wrap_u64 (by omega) (by omega);have hwy:AB.wrap (y:Int)=y:=wrap_u64 (by omega) (by omega);have hw1:AB.wrap ((c:Int)+x)=s1:=by rw[wrap_u64 (by omega) (by omega)];omega
    have hw2':AB.wrap ((s1:Int)+y)=s2:=by rw[wrap_u64 (by omega) (by omega)];omega
    obtain⟨lo,hlo⟩:∃lo:Nat,s2%4294967296=lo:=⟨_,rfl⟩;have hsh:=aEu (t:=s2);obtain⟨hi',hhi⟩:∃hi':Nat,s2/4294967296=hi':=⟨_,rfl⟩;rw[hhi]at hsh;have hw3:BI.wrap (s2:Int)=lo:=by rw[fM];omega
    rw[hlo,hhi]at hsucc;have hlay:=zU hlen (show i<n by omega) lo;by_cases hbn:i<q.length
    ·have q2:(i:Int)<q.length:=by omega
     have g3:=g2 hbn;simp[-I,-O,↓KW,aB,q1,q2,q3,q4,g1,g3,hwx,hwy,hw1,hw2',hw3,hsh,hlay,hw7,hzl];refine aI (i+1) hgo ?_ (wkQ [1] ?_ ?_)
     ·omega
     ·simp[-I,upd,aL,Γ0,aB,hsucc]
     ·simp[-I,upd,aL,Γ0,aB,hsucc]
    ·have q2:¬(i:Int)<q.length:=by omega
     have e2:s2=s1:=by have:=hb0 hbn;omega
     rw[e2]at hw3 hsh;simp[-I,-O,↓KW,aB,q1,q2,q3,q4,g1,hwx,hw1,hw3,hsh,hlay,hw7,hzl];refine aI (i+1) hgo ?_ (wkQ [1] ?_ ?_)
     ·omega
     ·simp[-I,upd,aL,Γ0,aB,hsucc]
     ·simp[-I,upd,aL,Γ0,aB,hsucc]
   ·have e:i=p.length:=by omega
    have h1:¬(i:Int)<p.length:=by omega
    have h4:=hres e;have hn':(p.length:Int)<n:=by omega
    have hn2:p.length+1<=n:=by omega
    have hw3:BI.wrap (c:Int)=c:=wrap_u32 (by omega) (by omega);have hlay:=zU (hlen.trans e) (show p.length<n by omega) c;have hfl:(out++[c]).length=n:=by simp;omega
    have h5:zp (out++[c]) n=out++[c]:=aGx hfl;rw[h5,h4]at hlay;rw[h4]at hfl;simp[-I,-O,↓KW,aB,h1,hn',hn2,hw3,hlay,hzl,hfl,dP hfl,cN hfl]
 ·have h1:¬(p.length:Int)<q.length:=by omega
  simp[-I,-O,↓KW,aB,h1,hw2,hm1,hm2];refine cB (λi:Nat=>i<=p.length) (λi=>StL [(0,.d (aB p)),(1,.d (aB q)),(5,.own 1 0 n 1),(6,.d (.i .u64 (plS p q i).2)),(20,.d (.i .i64 p.length)),(21,.d (.i .i64 i))] none [.cells 89 ((lms (zp (plS p q i).1 n)).map .d)]) (λi=>p.length-i) 0 (A1 _) ?_ ?_
  ·refine wkQ [1] ?_ ?_<;>simp[-I,upd,aL,Γ0,aB,plS,aPi]
  ·intro i hi;obtain⟨hlen,hc,_,_⟩:=kP lp lq i;have hsucc:plS p q (i+1)=((plS p q i).1++[((plS p q i).2+p.getD i 0+q.getD i 0)%4294967296],((plS p q i).2+p.getD i 0+q.getD i 0)/4294967296):=rfl;have hal:=lp.getD i;have hbl:=lq.getD i;have hres:i=p.length->(plS p q i).1++[(plS p q i).2]=ip p q:=λe=>by rw[e];rfl
   generalize hout:(plS p q i).1=out at *;generalize hcar:(plS p q i).2=c at *;have hzl:(zp out n).length=n:=aGw (by omega);by_cases hgo:i<p.length
   ·have hw7:Ah.wrap ((i:Int)+1)=(i:Int)+1:=aP;have q1:(i:Int)<p.length:=by omega
    have q3:(i:Int)<n:=by omega
    have q4:i+1<=n:=by omega
    have g1:=getD_some hgo;have hb0:¬i<q.length->q.getD i 0=0:=getD_none;have g2:i<q.length->q[i]? = some (q.getD i 0):=getD_some;generalize p.getD i 0=x at *;generalize q.getD i 0=y at *;obtain⟨s1,hs1⟩:∃s1:Nat,c+x=s1:=⟨_,rfl⟩;obtain⟨s2,hs2⟩:∃s2:Nat,s1+y=s2:=⟨_,rfl⟩;rw[hs1,hs2]at hsucc;have hwx:AB.wrap (x:Int)=x:=wrap_u64 (by omega) (by omega);have hwy:AB.wrap (y:Int)=y:=wrap_u64 (by omega) (by omega);have hw1:AB.wrap ((c:Int)+x)=s1:=by rw[wrap_u64 (by omega) (by omega)];omega
    have hw2':AB.wrap ((s1:Int)+y)=s2:=by rw[wrap_u64 (by omega) (by omega)];omega
    obtain⟨lo,hlo⟩:∃lo:Nat,s2%4294967296=lo:=⟨_,rfl⟩;have hsh:=aEu (t:=s2);obtain⟨hi',hhi⟩:∃hi':Nat,s2/4294967296=hi':=⟨_,rfl⟩;rw[hhi]at hsh;have hw3:BI.wrap (s2:Int)=lo:=by rw[fM];omega
    rw[hlo,hhi]at hsucc;have hlay:=zU hlen (show i<n by omega) lo;by_cases hbn:i<q.length
    ·have q2:(i:Int)<q.length:=by omega
     have g3:=g2 hbn;simp[-I,-O,↓KW,aB,q1,q2,q3,q4,g1,g3,hwx,hwy,hw1,hw2',hw3,hsh,hlay,hw7,hzl];refine aI (i+1) hgo ?_ (wkQ [1] ?_ ?_)
     ·omega
     ·simp[-I,upd,aL,Γ0,aB,hsucc]
     ·simp[-I,upd,aL,Γ0,aB,hsucc]
    ·have q2:¬(i:Int)<q.length:=by omega
     have e2:s2=s1:=by have:=hb0 hbn;omega
     rw[e2]at hw3 hsh;simp[-I,-O,↓KW,aB,q1,q2,q3,q4,g1,hwx,hw1,hw3,hsh,hlay,hw7,hzl];refine aI (i+1) hgo ?_ (wkQ [1] ?_ ?_)
     ·omega
     ·simp[-I,upd,aL,Γ0,aB,hsucc]
     ·simp[-I,upd,aL,Γ0,aB,hsucc]
   ·have e:i=p.length:=by omega
    have h1:¬(i:Int)<p.length:=by omega
    have h4:=hres e;have hn':(p.length:Int)<n:=by omega
    have hn2:p.length+1<=n:=by omega
    have hw3:BI.wrap (c:Int)=c:=wrap_u32 (by omega) (by omega);have hlay:=zU (hlen.trans e) (show p.length<n by omega) c;have hfl:(out++[c]).length=n:=by simp;omega
    have h5:zp (out++[c]) n=out++[c]:=aGx hfl;rw[h5,h4]at hlay;rw[h4]at hfl;simp[-I,-O,↓KW,aB,h1,hn',hn2,hw3,hlay,hzl,hfl,dP hfl,cN hfl]
def aNi[M:Mch Aa](a b:List Nat)(ha:Lim a)(hb:Lim b)(hla:a.length<=274877906944):Spec Aa 150 [aB a,aB b] (aB (mS a b)):=by
 refine aX (N:=44) Tryz.func150 ?_;obtain⟨n,hn⟩:∃n,a.length=n:=⟨_,rfl⟩;have hm1:(4:Int)*n<=281474976710656:=by omega
 have hm2:(n:Int)<=9223372036854775807:=by omega
 simp[-I,-O,↓KW,aB,hn,hm1,hm2];refine cB (λi:Nat=>i<=n) (λi=>StL [(0,.d (aB a)),(1,.d (aB b)),(5,.own 1 0 n 1),(6,.d (.i .u64 (miS a b i).2)),(13,.d (.i .i64 n)),(14,.d (.i .i64 i))] none [.cells 89 ((lms (zp (miS a b i).1 n)).map .d)]) (λi=>n-i) 0 (A1 _) ?_ ?_
 ·refine wkQ [1] ?_ ?_<;>simp[-I,upd,aL,Γ0,aB,miS,aPi,hn]
 ·intro i hi;obtain⟨hlen,hc,_,_⟩:=aIs ha hb i;have hsucc:=aMw a b i;have hal:=ha.getD i;have hbl:=hb.getD i;have hres:i=n->(miS a b i).1=mS a b:=λe=>by rw[e,<-hn];rfl
  generalize hout:(miS a b i).1=out at *;generalize hcar:(miS a b i).2=c at *;have hzl:(zp out n).length=n:=aGw (by omega);by_cases hgo:i<n
  ·have hw7:Ah.wrap ((i:Int)+1)=(i:Int)+1:=aP;have q1:(i:Int)<n:=by omega
   have q4:i+1<=n:=hgo;have g1:=getD_some (l:=a) (i:=i) (by omega);have hb0:¬i<b.length->b.getD i 0=0:=getD_none;have g2:i<b.length->b[i]? = some (b.getD i 0):=getD_some;generalize a.getD i 0=x at *;generalize b.getD i 0=y at *;have hwx:AB.wrap (x:Int)=x:=wrap_u64 (by omega) (by omega);have hwy:AB.wrap (y:Int)=y:=wrap_u64 (by omega) (by omega);obtain⟨d1,hd1⟩:∃d1:Int,AB.wrap ((x:Int)-c)=d1:=⟨_,rfl⟩;obtain⟨d,hd⟩:∃d:Int,AB.wrap (d1-y)=d:=⟨_,rfl⟩;have hd1':=hd1;have hd':=hd;rw[wC]at hd1' hd';have hfin:∃(lo bw:Nat),miS a b (i+1)=(out++[lo],bw)/\BI.wrap d=lo/\dT .shr .u64 d 63=some (.i .u64 (bw:Int)):=by
    by_cases hle:c+y<=x
    ·rw[Aq hle]at hsucc;refine⟨_,_,hsucc,?_,?_⟩
     ·rw[fM];omega
     ·rw[bVp (by omega)];congr 2;omega
    ·rw[Ai hle]at hsucc;refine⟨_,_,hsucc,?_,?_⟩
     ·rw[fM];omega
     ·rw[bVp (by omega)];congr 2;omega
   obtain⟨lo,bw,hs,hlo,hbw⟩:=hfin;have hlay:=zU hlen hgo lo;by_cases hbn:i<b.length
   ·have q2:(i:Int)<b.length:=by omega
    have g3:=g2 hbn;simp[-I,-O,↓KW,aB,q1,q2,g1,g3,hwx,hwy,hd1,hd,hlo,hbw,hlay,hw7,hzl,q4];refine aI (i+1) hgo ?_ (wkQ [1] ?_ ?_)
    ·omega
    ·simp[-I,upd,aL,Γ0,aB,hs]
    ·simp[-I,upd,aL,Γ0,aB,hs]
   ·have q2:¬(i:Int)<b.length:=by omega
    have e1:d1=d:=by have:=hb0 hbn;omega
    rw[e1]at hd1;simp[-I,-O,↓KW,aB,q1,q2,g1,hwx,hd1,hlo,hbw,hlay,hw7,hzl,q4];refine aI (i+1) hgo ?_ (wkQ [1] ?_ ?_)
    ·omega
    ·simp[-I,upd,aL,Γ0,aB,hs]
    ·simp[-I,upd,aL,Γ0,aB,hs]
  ·have e:i=n:=by omega
   have h1:¬(i:Int)<n:=by omega
   have h4:=hres e;have h5:zp out n=out:=aGx (by omega);have hlen':out.length=n:=by omega
   simp[-I,-O,↓KW,aB,h1,h5,hlen',dP hlen',cN hlen',<-h4]
def bXm(l:List Nat)(j:Nat):4294967296^j*l.getD j 0<=val l:=by
 have h:=cF l j;have e:val l=val (l.take (j+1))+4294967296^(l.take (j+1)).length*val (l.drop (j+1)):=by rw[<-kM,List.take_append_drop]
 have h2:val (l.take (j+1))<=val l:=by rw[e];exact Nat.le_add_right _ _
 rw[h]at h2;exact AR (Nat.le_add_left _ _) h2
def yR{l:List Nat}{j:Nat}(h:val l<4294967296^j):l.getD j 0=0:=by
 have h1:=bXm l j;rcases A7 (l.getD j 0)with h2|h2
 ·exact h2
 ·exfalso;have:4294967296^j*1<=4294967296^j*l.getD j 0:=Ce _ h2;rw[Dj]at this;omega
def aZd{out b:List Nat}{x i:Nat}(k j:Nat)(h:i+k<=j):(muI out x b i k).1.getD j 0=out.getD j 0:=by
 induction k with
 |zero=>rfl
 | succ k ih =>
  have:=ih (by omega);rw[<-this];simp only[muI,Ac];rw[Ef (by omega)]
def tmO(a b:List Nat):Nat->List Nat
 |0=>Av (a.length+b.length) 0
 |i+1=>(muI (tmO a b i) (a.getD i 0) b i b.length).1.set (i+b.length) (muI (tmO a b i) (a.getD i 0) b i b.length).2
def aTy{a b:List Nat}(ha:Lim a)(hb:Lim b)(i:Nat)(hi:i<=a.length):(tmO a b i).length=a.length+b.length/\Lim (tmO a b i)/\val (tmO a b i)=val (a.take i)*val b:=by
 induction i with
 |zero=>exact⟨by simp[tmO],.rep _,by simp[tmO,zB,val]⟩
 | succ i ih =>
  obtain⟨h1,h2,h3⟩:=ih (by omega);have hv:=aRm ha hb (i:=i) (by omega);rw[<-h3]at hv;have hx:=ha.getD i;obtain⟨q1,q2,q3,q4⟩:=rO (x:=a.getD i 0) (i:=i) h2 hb hx (by omega) b.length (by omega);have habove:=aZd (out:=tmO a b i) (b:=b) (x:=a.getD i 0) (i:=i) b.length (i+b.length) (Ay _);rw[yR hv]at habove;rw[As (Ay _)]at q4;have hset:=aHg (l:=(muI (tmO a b i) (a.getD i 0) b i b.length).1) (j:=i+b.length) (by omega) (muI (tmO a b i) (a.getD i 0) b i b.length).2;rw[habove,Dg,B6,q4]at hset;refine⟨?_,q3.set _ q2,?_⟩
  ·show(List.set _ _ _).length=_;rw[CB,q1,h1]
  ·show val (List.set _ _ _)=_;rw[hset,h3,cF,B8,B2]
def aAc(a b:List Nat):List Nat:=tmO a b a.length
def aPw{a b:List Nat}(ha:Lim a)(hb:Lim b):val (aAc a b)=val a*val b/\Lim (aAc a b)/\(aAc a b).length=a.length+b.length:=by obtain⟨h1,h2,h3⟩:=aTy ha hb a.length (Ay _);rw[As (Ay _)]at h3;exact⟨h3,h2,h1⟩
def bIb[M:Mch Aa](a b:List Nat)(la:Lim a)(lb:Lim b)(hla:a.length<=137438953472)(hlb:b.length<=137438953472):Spec Aa 148 [aB a,aB b] (aB (aAc a b)):=by
 refine aX (N:=66) Tryz.func148 ?_;obtain⟨n,hn⟩:∃n,a.length+b.length=n:=⟨_,rfl⟩;have hw1:Ah.wrap ((a.length:Int)+b.length)=(n:Int):=by rw[aP];omega
 have hm1:(4:Int)*n<=281474976710656:=by omega
 have hm2:(n:Int)<=9223372036854775807:=by omega
 have h00:tmO a b 0=Av n 0:=by rw[<-hn];rfl
 simp[-I,-O,↓KW,aB,hw1,hm1,hm2];refine cB (λi:Nat=>i<=a.length)
  (λi=>StL [(0,.d (aB a)),(1,.d (aB b)),(5,.own 1 0 n 1),(17,.d (aB a)),(18,.d (.i .i64 a.length)),(19,.d (.i .i64 i))] none [.cells 89 ((lms (tmO a b i)).map .d)]) (λi=>a.length-i) 0 (A1 _) ?_ ?_
 ·refine wkQ [1] ?_ ?_<;>simp[-I,upd,aL,Γ0,aB,h00]
 ·intro i hi;obtain⟨ol,om,ov⟩:=aTy la lb i hi;rw[hn]at ol;by_cases hgo:i<a.length
  ·have q1:(i:Int)<a.length:=by omega
   have g1:=getD_some hgo;have hsucc:tmO a b (i+1)=(muI (tmO a b i) (a.getD i 0) b i b.length).1.set (i+b.length) (muI (tmO a b i) (a.getD i 0) b i b.length).2:=rfl;have hal:=la.getD i;generalize hout:tmO a b i=out at *;generalize a.getD i 0=xv at *;simp[-I,-O,↓KW,aB,q1,g1];have hwx:AB.wrap (xv:Int)=xv:=wrap_u64 (by omega) (by omega);refine cB (λk:Nat=>k<=b.length)
    (λk=>StL [(0,.d (aB a)),(1,.d (aB b)),(5,.own 1 0 n 1),(17,.d (aB a)),(18,.d (.i .i64 a.length)),(19,.d (.i .i64 i)),(6,.d (.i .i64 i)),(7,.d (.i .u32 xv)),(8,.d (.i .u64 (muI out xv b i k).2)),(24,.d (aB b)),(25,.d (.i .i64 b.length)),(26,.d (.i .i64 k))] none
     [.cells 89 ((lms (muI out xv b i k).1).map .d)]) (λk=>b.length-k) 0 (A1 _) ?_ ?_
   ·refine wkQ [1] ?_ ?_<;>simp[-I,upd,aL,Γ0,aB,muI]
   ·intro k hk;obtain⟨il,ic,im,_⟩:=rO om lb hal (i:=i) (by omega) k (by omega);have isucc:muI out xv b i (k+1)=((muI out xv b i k).1.set (i+k) (((muI out xv b i k).2+(muI out xv b i k).1.getD (i+k) 0+xv*b.getD k 0)%4294967296),((muI out xv b i k).2+(muI out xv b i k).1.getD (i+k) 0+xv*b.getD k 0)/4294967296):=rfl;have hres:k=b.length->tmO a b (i+1)=(muI out xv b i k).1.set (i+b.length) (muI out xv b i k).2:=λe=>by rw[e];exact hsucc
    clear hsucc;have ho:=im.getD (i+k);generalize hcar:(muI out xv b i k).2=c at *;generalize hcur:(muI out xv b i k).1=cur at *;have hgj:List.length cur=n:=by omega
    by_cases hkb:k<b.length
    ·obtain⟨j,hj⟩:∃j,i+k=j:=⟨_,rfl⟩;rw[hj]at isucc ho;have hjl:j<cur.length:=by omega
     have g2:=aVf (getD_some hjl);have hwj:Ah.wrap ((i:Int)+k)=j:=by rw[aP];omega
     have hjn:(j:Int)<n:=by omega
     have hw8:Ah.wrap ((k:Int)+1)=(k:Int)+1:=aP;have hjl2:j<(lms cur).length:=by rw[jV];exact hjl
     have hjl3:j+1<=n:=by omega
     have hyb:=lb.getD k;have hlim:=aRl ic ho hal hyb;have g4:=getD_some hkb;have q2:(k:Int)<b.length:=by omega
     generalize cur.getD j 0=o at *;generalize b.getD k 0=yv at *;obtain⟨e,he⟩:∃e:Nat,xv*yv=e:=⟨_,rfl⟩;rw[he]at isucc hlim;obtain⟨s1,hs1⟩:∃s1:Nat,e+o=s1:=⟨_,rfl⟩;obtain⟨t,ht⟩:∃t:Nat,c+o+e=t:=⟨_,rfl⟩;rw[ht]at isucc hlim;obtain⟨lo,hlo⟩:∃lo:Nat,t%4294967296=lo:=⟨_,rfl⟩;have hsh:=aEu (t:=t);obtain⟨hi',hhi⟩:∃hi':Nat,t/4294967296=hi':=⟨_,rfl⟩;rw[hlo,hhi]at isucc;rw[hhi]at hsh;have hwo:AB.wrap (o:Int)=o:=wrap_u64 (by omega) (by omega);have hwy:AB.wrap (yv:Int)=yv:=wrap_u64 (by omega) (by omega);have hwm:AB.wrap ((xv:Int)*yv)=e:=by rw[<-Cd,he,wrap_u64 (by omega) (by omega)]
     have hws:AB.wrap ((e:Int)+o)=s1:=by rw[wrap_u64 (by omega) (by omega)];omega
     have hwt:AB.wrap ((c:Int)+s1)=t:=by rw[wrap_u64 (by omega) (by omega)];omega
     have hwlo:BI.wrap (t:Int)=lo:=by rw[fM];omega
     have hlay:lay (Cj AV.d (lms cur)) j [AV.d (D.i .u32 (lo:Int))]=Cj AV.d (lms (cur.set j lo)):=by rw[eQ _ _ _ hjl2,uR]
     simp[-I,-O,↓KW,aB,q2,hwj,hjn,g2,hwo,hws,g1,g4,hwx,hwy,hwm,hwt,hwlo,hsh,hlay,hw8,hjl3,hgj];refine aI (k+1) hkb ?_ (wkQ [1] ?_ ?_)
     ·omega
     ·simp[-I,upd,aL,Γ0,aB,isucc]
     ·simp[-I,upd,aL,Γ0,aB,isucc]
    ·have q2:¬(k:Int)<b.length:=by omega
     have hfin:=hres (by omega);have hw8:Ah.wrap ((i:Int)+1)=(i:Int)+1:=aP;obtain⟨j,hj⟩:∃j,i+b.length=j:=⟨_,rfl⟩;rw[hj]at hfin;have hwj:Ah.wrap ((i:Int)+b.length)=j:=by rw[aP];omega
     have hjn:(j:Int)<n:=by omega
     have hjl3:j+1<=n:=by omega
     have hjl2:j<(lms cur).length:=by rw[jV];omega
     have hwc:BI.wrap (c:Int)=c:=wrap_u32 (by omega) (by omega);have hlay:lay (Cj AV.d (lms cur)) j [AV.d (D.i .u32 (c:Int))]=Cj AV.d (lms (cur.set j c)):=by rw[eQ _ _ _ hjl2,uR]
     simp[-I,-O,↓KW,aB,q2,hw8,hwj,hjn,hjl3,hwc,hlay,hgj];refine aI (i+1) hgo ?_ (wkQ [1] ?_ ?_)
     ·omega
     ·simp[-I,upd,aL,Γ0,aB,hfin]
     ·simp[-I,upd,aL,Γ0,aB,hfin]
  ·have q1:¬(i:Int)<a.length:=by omega
   have e:i=a.length:=by omega
   have e':tmO a b i=aAc a b:=by rw[e];rfl
   rw[e']at ol;simp[-I,-O,↓KW,aB,q1,e',ol,dP ol,cN ol]
def bSo[M:Mch Aa](x y:Int)(hx:(aJ x.natAbs).length<=137438953472)(hy:(aJ y.natAbs).length<=137438953472):Spec Aa 83 [encZ x,encZ y] (encZ (x*y)):=by
 refine aX (N:=18) Tryz.func83 ?_;have la:=bT x.natAbs;have lb:=bT y.natAbs;have va:=cD x.natAbs;have vb:=cD y.natAbs;have ta:=mI (aJ x.natAbs) (by omega);have tb:=mI (aJ y.natAbs) (by omega);rw[fF la,va]at ta;rw[fF lb,vb]at tb;have sx:=fN x;have sy:=fN y;have ex:encZ x=.ag [.b (decide (x<0)),aB (aJ x.natAbs)]:=rfl;have ey:encZ y=.ag [.b (decide (y<0)),aB (aJ y.natAbs)]:=rfl;rw[ex,ey];generalize aJ x.natAbs=a at *;generalize aJ y.natAbs=b at *;generalize hbx:decide (x<0)=nx at *;generalize hby:decide (y<0)=ny at *;obtain⟨tv,tl,tn⟩:=aPw la lb;simp[-I,-O,↓KW,aB];refine aC ta ?_;simp[-I,-O,↓KW,aB];refine aC tb ?_;simp[-I,-O,↓KW,aB];refine aC (bIb a b la lb hx hy) ?_;simp[-I,-O,↓KW,aB];have hm:=nI tl (by omega) (!(nx==ny));rw[tv,va,vb]at hm;have e2:sg (!(nx==ny)) (x.natAbs*y.natAbs)=x*y:=by rw[<-sx,<-sy];cases nx<;>cases ny<;>simp[sg,DD,Gs]
 rw[e2]at hm;refine aC hm ?_;simp[-I,-O,↓KW,aB,encZ,encI]
def aIx[M:Mch Aa](x y:Int)(hx:(aJ x.natAbs).length<=137438953472)(hy:(aJ y.natAbs).length<=137438953472):Spec Aa 85 [encZ x,encZ y] (encZ (x+y)):=by
 refine aX (N:=42) Tryz.func85 ?_;have la:=bT x.natAbs;have lb:=bT y.natAbs;have va:=cD x.natAbs;have vb:=cD y.natAbs;have ta:=mI (aJ x.natAbs) (by omega);have tb:=mI (aJ y.natAbs) (by omega);rw[fF la,va]at ta;rw[fF lb,vb]at tb;have hless:(aJ x.natAbs).length<(aJ y.natAbs).length->x.natAbs<y.natAbs:=gQ;have hless2:(aJ y.natAbs).length<(aJ x.natAbs).length->y.natAbs<x.natAbs:=gQ;have hl:=aBp _ _ la lb (by omega) (by omega);have hcmp:(x.natAbs<y.natAbs->lR (aJ x.natAbs) (aJ y.natAbs)<0)/\(¬x.natAbs<y.natAbs->¬lR (aJ x.natAbs) (aJ y.natAbs)<0):=by
  unfold lR;rw[fI,fI];constructor
  ·intro h;rw[Aq (by simpa using h)];decide
  ·intro h;rw[Ai (by simpa using h)];split<;>decide
 have sx:=fN x;have sy:=fN y;have ex:encZ x=.ag [.b (decide (x<0)),aB (aJ x.natAbs)]:=rfl;have ey:encZ y=.ag [.b (decide (y<0)),aB (aJ y.natAbs)]:=rfl;rw[ex,ey];generalize aJ x.natAbs=a at *;generalize aJ y.natAbs=b at *;generalize hbx:decide (x<0)=nx at *;generalize hby:decide (y<0)=ny at *;simp[-I,-O,↓KW,aB];refine aC ta ?_;simp[-I,-O,↓KW,aB];refine aC tb ?_;by_cases hn:nx=ny
 ·have h1:(nx==ny)=true:=by simpa using hn
  simp[-I,-O,↓KW,aB,h1];obtain⟨pv,pl,pn⟩:=aRu la lb;refine aC (bSn a b la lb (by omega) (by omega)) ?_;simp[-I,-O,↓KW,aB];have hm:=nI pl (by omega) nx;rw[pv,va,vb]at hm;have e:sg nx (x.natAbs+y.natAbs)=x+y:=by rw[<-sx,<-sy,<-hn];cases nx<;>simp[sg]<;>omega
  rw[e]at hm;refine aC hm ?_;simp[-I,-O,↓KW,aB,encZ,encI]
 ·have h1:(nx==ny)=false:=by simpa using hn
  simp[-I,-O,↓KW,aB,h1];refine aC hl ?_;by_cases hlt:x.natAbs<y.natAbs
  ·have h2:=hcmp.1 hlt;simp[-I,-O,↓KW,aB,h2];obtain⟨pv,pl,pn⟩:=oA lb la (by omega) (by omega);refine aC (aNi b a lb la (by omega)) ?_;simp[-I,-O,↓KW,aB];have hm:=nI pl (by omega) ny;rw[pv,va,vb]at hm;have e:sg ny (y.natAbs-x.natAbs)=x+y:=by rw[<-sx,<-sy];cases nx<;>cases ny<;>simp[sg]at hn ⊢<;>omega
   rw[e]at hm;refine aC hm ?_;simp[-I,-O,↓KW,aB,encZ,encI]
  ·have h2:=hcmp.2 hlt;simp[-I,-O,↓KW,aB,h2];obtain⟨pv,pl,pn⟩:=oA la lb (by omega) (by omega);refine aC (aNi a b la lb (by omega)) ?_;simp[-I,-O,↓KW,aB];have hm:=nI pl (by omega) nx;rw[pv,va,vb]at hm;have e:sg nx (x.natAbs-y.natAbs)=x+y:=by rw[<-sx,<-sy];cases nx<;>cases ny<;>simp[sg]at hn ⊢<;>omega
   rw[e]at hm;refine aC hm ?_;simp[-I,-O,↓KW,aB,encZ,encI]
def lH(m:List Nat):one (.d (aB m))=true:=rfl
def gJ(m:List Nat):cY (.d (aB m))=some [.d (aB m)]:=rfl
def wW(m:List Nat):aL (aB m)=.d (aB m):=rfl
def bJ{n:Nat}(h:n<=1099511627776):n<=maxLen:=AR h (by decide)
def Sz(z:Int):Prop:=(aJ z.natAbs).length<=137438953472
def aBr(m:List Nat):inj (aB m)=.d (aB m):=rfl
def aBm(H:Hp)(avs:List AV)(m:List Nat):aZ H avs (aB m)=bV H avs:=rfl
def aH:type_of% (AO @gJ (AO @lH (AO @wW (AO @aBr @aBm)))):=AO @gJ (AO @lH (AO @wW (AO @aBr @aBm)))
def bB(z:Int):encZ z=.ag [.b (decide (z<0)),aB (aJ z.natAbs)]:=rfl
def bAc:encZ 0=.ag [.b false,.sl []]:=by unfold encZ encI;rw[show(0:Int).natAbs=0 from rfl,bZ];rfl
def aAf(z:Int):strip (aJ z.natAbs)=[]↔z=0:=by rw[fF (bT _),cD,gD];omega
def aBo[M:Mch Aa](z:Int)(hz:Sz z):Spec Aa 41 [encZ z] (.i .i64 z.sign):=by
 have:=bSm (decide (z<0)) (aJ z.natAbs) (AR hz (by decide));have e:(if strip (aJ z.natAbs)=[]then(0:Int)else if(decide (z<0))=true then -1 else 1)=z.sign:=by
  simp only[aAf];rcases Fx z 0 with h|h|h
  ·rw[Ai (by omega),Aq (by simpa using h),DZ h]
  ·subst h;rfl
  ·rw[Ai (by omega),Ai (by simp;omega),DU h]
 rwa [e]at this
end Go.Am
end
section
open List renaming map_map->I,mapM_map->O
open Go Go.Am Go.Proofs
namespace Go.Am
open Go.ChangeShapes Go.WideShapes Go.ChangeAt Go.RowKit
def bLa{w:World}{a:Addr}{v:Value}(h:w.cell? a=some v):a.block<w.heap.size:=by
 unfold BA at h;cases hb:w.heap[a.block]? with
 |none=>rw[hb]at h;cases h
 |some o=>exact(Array.getElem?_eq_some_iff.1 hb).1
def bHf{α:Type}{Q:Nat->α->Prop}:∀{n:Nat},(∀i,i<n->∃y,Q i y)->∃l:List α,l.length=n/\∀(i:Nat) (y:α),l[i]? = some y->Q i y
 |0,_=>⟨[],rfl,λi y h=>by simp at h⟩
 | n+1,h=>by
  obtain⟨l,hl,hq⟩:=bHf (n:=n) λi hi=>h i (Nat.lt_succ_of_lt hi)
  obtain⟨y,hy⟩:=h n (Ck n);refine⟨l++[y],by simp[hl],λi z hz=>?_⟩;rcases A4 i l.length with h1|h1
  ·rw[List.getElem?_append_left h1]at hz;exact hq i z hz
  ·rw[AJ h1]at hz;have h2:i-l.length=0:=by
    rcases A7 (i-l.length)with h3|h3
    ·exact h3
    ·rw[AW (by simp;omega)]at hz;cases hz
   rw[h2]at hz;simp at hz;subst hz;rwa [show i=n by omega]
def bAn{w:World}{n:Nat}{a:Addr}{cs:List Value}(h:w.cells? 0 a n=some cs):∀k,k<n->w.cell? (a.add k)=cs[k]? := by intro k hk;unfold World.cells? at h;rw[Aq (A1 _)]at h;have:=mapM_some_get h k k (by simp[hk]);exact this
def aYw{α:Type}{P:Program}{H:Type}{enc:TypeId×Value->H}{w:World}{sp:Nat->Bool}{held:Bool}{t e:TypeId}{cs:List Value}{x:DataW H×List MemPlace}{fuel:Nat}(ht:P.underlying t=some (.slice e))(hc:0<P.cellsOf e)(E:α->List D)(good:α->Prop)
  (hE:∀(fuel:Nat) (cs:List Value) (x:DataW H×List MemPlace),DataW.trod enc P w 0 sp held fuel e cs=some x->∃y:α,good y/\(E y).length=P.cellsOf e/\∀(k:Nat) (c:D) (v:Value),(E y)[k]? = some c->cs[k]? = some v->VD (λb=>b<w.heap.size) w c v)
  (hf:DataW.trod enc P w 0 sp held fuel t cs=some x):∃(v:Value) (l:List α),cs=[v]/\VD (λb=>b<w.heap.size) w (.sl (l.map E)) v/\(∀y∈l,good y)/\l.length<=9223372036854775807:=by
 rcases DataW.trod_slice ht hf with ⟨hcs,_⟩|⟨a,len,cap,elems,rest,n,_,hcs,_,_,hlc,hcm,hel,hEl,_⟩
 ·exact⟨_,[],hcs,.sl0 _ _,(λp hp=>by cases hp),A1 _⟩
 ·have each:∀i,i<len->∃y:α,good y/\(E y).length=P.cellsOf e/\∀(k:Nat),k<P.cellsOf e->∃v,w.cell? (a.add (i*P.cellsOf e+k))=some v/\∀c:D,(E y)[k]? = some c->VD (λb=>b<w.heap.size) w c v:=by
   intro i hi;have h1:=hEl i hi;rw[Ab (by omega)]at h1;obtain⟨vs,h2,h3⟩:=Option.bind_eq_some_iff.1 h1;obtain⟨y,g,hy,hv⟩:=hE _ _ _ h3;refine⟨y,g,hy,λk hk=>?_⟩;have h4:=bAn h2 k hk;rw[add_add]at h4;have h5:k<vs.length:=by unfold World.cells? at h2;rw[Aq (A1 _)]at h2;have:=mapM_some_length h2;simp at this;omega
   rw[Ab h5]at h4;exact⟨_,h4,λc hc=>hv k c _ hc (Ab h5)⟩
  obtain⟨l,hl,hq⟩:=bHf each
  have hgood:∀y∈l,good y:=λy hy=>by obtain⟨i,hi,rfl⟩:=BM.1 hy;exact(hq i _ (Ab hi)).1
  refine⟨_,l,hcs,?_,hgood,by rw[hl];exact AR hlc hcm⟩
  rcases A7 len with h0|hpos
  ·have:l=[]:=B1 (by omega)
   subst this;subst h0;exact .sl0 _ _
  ·have hab:a.block<w.heap.size:=by obtain⟨y,_,_,hy⟩:=each 0 hpos;obtain⟨v,hv,_⟩:=hy 0 hc;have:=bLa hv;rwa [block_add]at this
   refine .sl _ a len cap (P.cellsOf e) (λj=>(w.cell? (a.add j)).getD undef) (by simp[hl]) hlc (λcs hcs=>?_) hab (λj hj=>?_) (λj k cs c hj hk=>?_)
   ·obtain⟨y,hy,rfl⟩:=AM.1 hcs
    obtain⟨i,hi,rfl⟩:=BM.1 hy
    exact(hq i _ (Ab hi)).2.1
   ·have hd:j/P.cellsOf e<len:=Nat.div_lt_of_lt_mul (by rwa [B5]at hj)
    obtain⟨y,_,_,hy⟩:=each _ hd
    obtain⟨v,hv,_⟩:=hy (j%P.cellsOf e) (BF _ hc)
    rw[B5,EK]at hv
    simp[hv]
   ·rw[Ag,Af]at hj
    obtain⟨y,hy,rfl⟩:=hj
    obtain⟨_,h6,h7⟩:=hq j y hy
    obtain⟨v,hv,hvc⟩:=h7 k (by rw[<-h6];exact(Ao.1 hk).1)
    simp only[hv,Option.getD_some]
    exact hvc c hk
end Go.Am
end
section
open List renaming map_map->I,mapM_map->O
open Go Go.Am Go.Proofs
namespace Go.Am
def bCi{n:Int}(h:(Lit.int .u8 n).wf=true):0<=n/\n<=255:=by have h1:IntKind.u8.min=0:=rfl;have h2:IntKind.u8.max=255:=rfl;simp only[Lit.wf,A8,BC]at h;omega
def cEq:ownKnob Aa.godebug=none:=by kernel_rfl
def bWb:laidOutB Aa=true:=by kernel_rfl
def dnL(n m:Nat):List (List D):=(AN (n-m)).map λk=>[.i .u64 ((n-1-k:Nat):Int)]
def rU(n m:Nat):(dnL n m).length=n-m:=by simp[dnL]
def aSl{n m k:Nat}(h:k<n-m):(dnL n m)[k]? = some [.i .u64 ((n-1-k:Nat):Int)]:=by simp[dnL,h]
def bTx[M:Mch Aa](n m:Nat)(h:m<n)(hn:n<=2147483648):mM Aa 200 [.pt [.i .u64 n]] (dnL n m):=by
 refine bEg (N:=15) aR Tryz.func200 rfl rfl rfl (by kernel_rfl) (by kernel_rfl) (by simp) λl=>?_
 refine rW (by kernel_rfl) ?_;simp[-I,-O,↓KW,↓aE,↓aA,↓aF,↓aG];have hmin:(if(2147483648:Int)<(n:Int)then(2147483648:Int)else(n:Int))=n:=by rw[Ai (by omega)]
 rw[hmin];refine oR ?_;refine aGt (τ:=Nat) (by kernel_rfl) (λk=>k<n-m) (λk=>StL [(0,.d (.lit (.func (.yield l) #[] #[]))),(3,.d (.i .u64 ((n-k:Nat):Int)))] none []) (λk=>k) (λk=>n-k) 0 (by omega) rfl ?_ ?_
 ·refine wkQ [] ?_ ?_
  ·simp[-I,upd,aL,Γ0]
  ·simp[-I,upd,aL,Γ0]
 ·intro k hk;have h1:0<n-k:=by omega
  have h2:AB.wrap (((n-k:Nat):Int)-1)=((n-1-k:Nat):Int):=by rw[show(((n-k:Nat):Int)-1)=((n-1-k:Nat):Int)from by omega];exact wrap_u64 (by omega) (by omega)
  refine rW (by kernel_rfl) ?_;simp[-I,-O,↓KW,↓aE,↓aA,↓aF,↓aG,h1];refine vT (P:=Aa) ?_;refine oR ?_;refine vT ?_;refine aDb (P:=Aa) (by kernel_rfl) rfl ?_;simp[-I,-O,↓KW,↓aE,↓aA,↓aF,↓aG,h1,h2];have hnk:n-k-1=n-1-k:=by omega
  refine aKf (dd:=[.i .u64 ((n-1-k:Nat):Int)]) (l2:=[]) (by rfl) (by rfl) (aSl hk) (by rfl) ?_;rw[rU];by_cases hl:k+1=n-m
  ·have e1:decide (k+1≠n-m)=false:=by simp[hl]
   rw[e1];simp[-I,-O,↓KW,↓aE,↓aA,↓aF,↓aG,lW,fin];refine iK _ (by kernel_rfl) ?_;simp[-I,-O,↓KW,↓aE,↓aA,↓aF,↓aG,rU,hl];exact⟨_,rfl⟩
  ·have e1:decide (k+1≠n-m)=true:=by simp[hl]
   have e2:n-(k+1)=n-1-k:=by omega
   rw[e1];simp[-I,-O,↓KW,↓aE,↓aA,↓aF,↓aG,lW,fin];refine iK _ (by kernel_rfl) ?_;simp[-I,-O,↓KW,↓aE,↓aA,↓aF,↓aG];refine iK _ (by kernel_rfl) ?_;simp[-I,-O,↓KW,↓aE,↓aA,↓aF,↓aG,h2];refine⟨k+1,by omega,by show n-(k+1)<n-k;omega,rfl,wkQ [] ?_ ?_⟩<;>simp[-I,upd,aL,Γ0,e2]
def bJx[M:Mch Aa](n:Nat):Spec Aa 190 [.i .u64 n] (.fn 200 [.pt [.i .u64 n]]):=by refine aX (N:=4) Tryz.func190 ?_;simp[-I,-O,↓KW,↓aE,↓aA,↓aF,↓aG]
def aZw[M:Mch Aa](n m:Nat)(h:m<n)(hn:n<=2147483648)(hp:∀v:Nat,m<=v->v<n->Spec Aa 52 [.i .u64 v] (.b (decide (v=m)))) :
  Spec Aa 189 [.fn 200 [.pt [.i .u64 n]]] (.i .u64 m):=by
 refine pT (N:=9) aR Tryz.func189 rfl rfl rfl (by kernel_rfl) (by kernel_rfl) (by simp) ?_
 refine cS (by kernel_rfl) ?_
 simp[-I,-O,↓KW,↓aE,↓aA,↓aF,↓aG]
 refine aDc ?_
 refine cS (by kernel_rfl) ?_
 simp[-I,-O,↓KW,↓aE,↓aA,↓aF,↓aG]
 refine tN ?_
 refine qV (dnL n m) (λk=>StL [(2,.ptr 1 0)] none [.cells 51 [.d (.i .u64 (if k<n-m then 0 else m))]]) [3,5,6,7,8] .ret .ret (.inl rfl) (gf:=200) (caps:=[.pt [.i .u64 n]]) (by rfl) (by rfl) (by rfl) (bTx n m h hn) ?_ (by kernel_rfl) (by rw[rU];omega) ?_ ?_ ?_
 ·rw[Aq (by omega)]
  refine wkQ [1] ?_ ?_<;>simp[-I,upd,aL,Γ0]
 ·intro k x hk hx
  rw[rU]at hk
  rw[aSl (by omega)]at hx
  injection hx with hx;subst hx
  refine⟨rfl,?_⟩
  have hP:=hp (n-1-k) (by omega) (by omega)
  rw[Bs (by omega)]at hP
  rw[Aq (by omega),Aq (by omega)]
  show AWP _ _ ⟨upd _ 5 (.d (.i .u64 ((n-1-k:Nat):Int))),_,_⟩ _
  simp[-I,-O,↓KW,↓aE,↓aA,↓aF,↓aG]
  refine aC hP ?_
  simp[-I,-O,↓KW,↓aE,↓aA,↓aF,↓aG]
  refine wkQ [1] ?_ ?_<;>simp[-I,upd,aL,Γ0]
 ·intro k x hk hx
  rw[rU]at hk
  rw[aSl (by omega)]at hx
  injection hx with hx;subst hx
  refine⟨rfl,?_⟩
  have hP:=hp (n-1-k) (by omega) (by omega)
  have hm:n-1-k=m:=by omega
  rw[hm,B4 rfl]at hP
  rw[Aq (by omega),Ai (by omega),hm]
  show AWP _ _ ⟨upd _ 5 (.d (.i .u64 (m:Int))),_,_⟩ _
  simp[-I,-O,↓KW,↓aE,↓aA,↓aF,↓aG]
  refine aC hP ?_
  simp[-I,-O,↓KW,↓aE,↓aA,↓aF,↓aG]
  refine wkQ [1] ?_ ?_<;>simp[-I,upd,aL,Γ0]
 ·rw[rU,Ai (by omega)]
  simp[-I,-O,↓KW,↓aE,↓aA,↓aF,↓aG]
def aTd[M:Mch Aa](n m:Nat)(h:m<n)(hn:n<=2147483648)(hp:∀v:Nat,m<=v->v<n->Spec Aa 52 [.i .u64 v] (.b (decide (v=m)))) :
  Spec Aa 163 [.i .u64 n] (.i .u64 m):=by
 refine aX (N:=6) Tryz.func163 ?_
 simp[-I,-O,↓KW,↓aE,↓aA,↓aF,↓aG]
 refine aC (bJx n) ?_
 simp[-I,-O,↓KW,↓aE,↓aA,↓aF,↓aG]
 refine aC (aZw n m h hn hp) ?_
 simp[-I,-O,↓KW,↓aE,↓aA,↓aF,↓aG]
def jJ[M:Mch Aa]:Nat->List Nat->Prop
 |_,[]=>True
 |n,p::l=>0<p/\p<2147483648/\Spec Aa 163 [.i .u64 n] (.i .u64 p)/\jJ p l
def psL(ps:List Nat):List (List D):=ps.map λ(p:Nat)=>[.i .u64 (p:Int)]
def jJ.at[M:Mch Aa]:∀{n:Nat} {ps:List Nat} {k p q:Nat},jJ n ps->ps[k]? = some p->ps[k+1]? = some q->Spec Aa 163 [.i .u64 p] (.i .u64 q)
 |n,[],k,p,q,_,h,_=>by simp at h
 | n,x::l,0,p,q,hd,h,h2=>by
  simp only[BX,Ax]at h;subst h;simp only[BB]at h2;cases l with
  |nil=>simp at h2
  |cons y l=>simp only[BX,Ax]at h2;subst h2;exact hd.2.2.2.2.2.1
 |n,x::l,k+1,p,q,hd,h,h2=>jJ.at (k:=k) hd.2.2.2 (by simpa using h) (by simpa using h2)
def jJ.pos[M:Mch Aa]:∀{n:Nat} {ps:List Nat} {k p:Nat},jJ n ps->ps[k]? = some p->0<p/\p<2147483648
 |n,[],k,p,_,h=>by simp at h
 | n,x::l,0,p,hd,h=>by simp only[BX,Ax]at h;subst h;exact⟨hd.1,hd.2.1⟩
 |n,x::l,k+1,p,hd,h=>jJ.pos (k:=k) hd.2.2.2 (by simpa using h)
def aOo[M:Mch Aa](n p0:Nat)(ps:List Nat)(hd:jJ n (p0::ps)):mM Aa 162 [.pt [.i .u64 n]] (psL (p0::ps)):=by
 refine bEg (N:=14) aR Tryz.func162 rfl rfl rfl (by kernel_rfl) (by kernel_rfl) (by simp) λl=>?_
 refine rW (by kernel_rfl) ?_;simp[-I,-O,↓KW,↓aE,↓aA,↓aF,↓aG];refine aC hd.2.2.1 ?_;simp[-I,-O,↓KW,↓aE,↓aA,↓aF,↓aG];refine oR ?_;refine aGt (τ:=Nat×Nat) (by kernel_rfl) (λx=>(p0::ps)[x.1]? = some x.2) (λx=>StL [(0,.d (.lit (.func (.yield l) #[] #[]))),(3,.d (.i .u64 (x.2:Int)))] none []) (λx=>x.1) (λx=>(p0::ps).length-x.1) (0,p0) (by rfl) rfl ?_ ?_
 ·refine wkQ [] ?_ ?_
  ·simp[-I,upd,aL,Γ0]
  ·simp[-I,upd,aL,Γ0]
 ·rintro⟨k,p⟩ hk;simp only at hk ⊢;obtain⟨hp0,hp1⟩:=jJ.pos hd hk;have hlt:=(Ao.1 hk).1;have hx:(psL (p0::ps))[k]? = some [.i .u64 (p:Int)]:=by unfold psL;rw[Ag,hk];rfl
  have hlen:(psL (p0::ps)).length=(p0::ps).length:=by simp[psL]
  generalize hL:(p0::ps)=L at *;refine rW (by kernel_rfl) ?_;simp[-I,-O,↓KW,↓aE,↓aA,↓aF,↓aG,hp0];refine vT (P:=Aa) ?_;refine oR ?_;refine vT ?_;refine aDb (P:=Aa) (by kernel_rfl) rfl ?_;simp[-I,-O,↓KW,↓aE,↓aA,↓aF,↓aG,hp0];refine aKf (dd:=[.i .u64 (p:Int)]) (l2:=[]) (by rfl) (by rfl) hx (by rfl) ?_;rw[hlen];by_cases hl:k+1=L.length
  ·have e1:decide (k+1≠L.length)=false:=by simp[hl]
   rw[e1];simp[-I,-O,↓KW,↓aE,↓aA,↓aF,↓aG,lW,fin];refine iK _ (by kernel_rfl) ?_;simp[-I,-O,↓KW,↓aE,↓aA,↓aF,↓aG,hlen,hl];exact⟨_,rfl⟩
  ·have e1:decide (k+1≠L.length)=true:=by simp[hl]
   rw[e1];obtain⟨q,hq⟩:∃q,L[k+1]? = some q:=⟨_,Ab (by omega)⟩;have hB:=jJ.at hd hk hq;simp[-I,-O,↓KW,↓aE,↓aA,↓aF,↓aG,lW,fin];refine iK _ (by kernel_rfl) ?_;simp[-I,-O,↓KW,↓aE,↓aA,↓aF,↓aG];refine iK _ (by kernel_rfl) ?_;simp[-I,-O,↓KW,↓aE,↓aA,↓aF,↓aG];refine aC hB ?_;simp[-I,-O,↓KW,↓aE,↓aA,↓aF,↓aG];refine⟨(k+1,q),hq,by show L.length-(k+1)<L.length-k;omega,rfl,wkQ [] ?_ ?_⟩<;>simp[-I,upd,aL,Γ0]
def aGn[M:Mch Aa](n:Nat):Spec Aa 102 [.i .u64 n] (.fn 162 [.pt [.i .u64 n]]):=by refine aX (N:=4) Tryz.func102 ?_;simp[-I,-O,↓KW,↓aE,↓aA,↓aF,↓aG]
def eL{n:Nat}(h:n<=2147483648):(n+1)*8<=140737488355328/\n+1<=1099511627776/\(n+1+1)*8<=140737488355328/\n+1+1<=1099511627776:=by refine⟨by omega,by omega,by omega,by omega⟩
def bU(l:List Nat):D:=.sl (l.map λ(p:Nat)=>[.i .u64 (p:Int)])
def dU(l:List Nat):List D:=l.map λ(p:Nat)=>.i .u64 (p:Int)
def dZ(l:List Nat):(dU l).length=l.length:=by simp[dU]
def jW(x:Nat)(a b:List Nat):dU (x::(a++b))=dU (x::a)++dU b:=by simp[dU]
def mV(x:Nat):dU [x]=[.i .u64 (x:Int)]:=rfl
def nL{l:List Nat}{n:Nat}(h:l.length=n):chunk 1 n (dU l)=l.map λ(p:Nat)=>[D.i .u64 (p:Int)]:=by rw[kZ _ _ (by rw[dZ];exact h.symm)];simp[dU]
def iS{l:List Nat}{n:Nat}(h:l.length=n):D9 n ((dU l).map AV.d)=(dU l).map AV.d:=As (by simp[dZ,h])
def bM{H H':Hp}{ρ:Nat->Nat}{a o l s b o' l' s':Nat}:mY H H' ρ (.own a o l s) (.own b o' l' s')↔(a=ρ b/\o=o'/\l=l'/\s=s'/\(H' b).isSome=true):=Iff.rfl
def prS(n:Int):List Nat->St
 |[]=>StL [(3,.ptr 1 0),(5,.ptr 2 0)] none [.cells 3 [.d (.i .i64 n)],.cells 46 [.nil]]
 |x::l=>StL [(3,.ptr 1 0),(5,.ptr 2 0)] none [.cells 3 [.d (.i .i64 n)],.cells 46 [.own 3 0 (l.length+1) 1],.cells 51 ((dU (x::l)).map .d)]
def tF[M:Mch Aa](n p0:Nat)(ps:List Nat)(hd:jJ n (p0::ps))(hl:ps.length<=1000000) :
  Spec Aa 57 [.i .u64 n,.i .i64 ((ps.length+1:Nat):Int)] (bU (p0::ps)):=by
 have hx0:∀k:Nat,(psL (p0::ps))[k]? = ((p0::ps)[k]?).map (λ(p:Nat)=>[D.i .u64 (p:Int)]):=λk=>by simp only[psL,Ag]
 have hlen:(psL (p0::ps)).length=ps.length+1:=by simp[psL]
 have hseq:=aOo n p0 ps hd
 obtain⟨K,hK⟩:∃K,K=ps.length+1:=⟨_,rfl⟩
 rw[<-hK]at hlen ⊢
 have hLl:(p0::ps).length=K:=by rw[hK];rfl
 generalize hL:p0::ps=L at hx0 hlen hseq hLl hd ⊢
 have hK0:0<K:=by omega
 have hK1:¬(K=0):=by omega
 refine pT (N:=22) aR Tryz.func57 rfl rfl rfl (by kernel_rfl) (by kernel_rfl) (by simp) ?_
 refine cS (by kernel_rfl) ?_
 simp[-I,-O,↓KW,↓aE,↓aA,↓aF,↓aG]
 refine aDd ?_
 refine cS (by kernel_rfl) ?_
 simp[-I,-O,↓KW,↓aE,↓aA,↓aF,↓aG,hK1]
 refine cS (by kernel_rfl) ?_
 simp[-I,-O,↓KW,↓aE,↓aA,↓aF,↓aG]
 refine cS (by kernel_rfl) ?_
 simp[-I,-O,↓KW,↓aE,↓aA,↓aF,↓aG]
 refine aDc (P:=Aa) ?_
 refine cS (by kernel_rfl) ?_
 simp[-I,-O,↓KW,↓aE,↓aA,↓aF,↓aG]
 refine aC (aGn n) ?_
 simp[-I,-O,↓KW,↓aE,↓aA,↓aF,↓aG]
 refine tN ?_
 refine qV (psL L) (λk=>prS K (L.take k)) [6,11,12,13,14,15,16,17,18,19,20] (.exit 0) (.exit 0) (.inr ⟨0,rfl⟩) (gf:=162) (caps:=[.pt [.i .u64 n]]) (by rfl) (by rfl) (by rfl) hseq ?_ (by kernel_rfl) (by rw[hlen];omega) ?_ ?_ ?_
 ·rw[BD]
  refine wkQ [1,2] ?_ ?_<;>simp[-I,upd,aL,Γ0]
 ·intro k x hk hx
  rw[hlen]at hk
  rw[hx0,Af]at hx
  obtain⟨p,hp,rfl⟩:=hx
  refine⟨rfl,?_⟩
  rw[A5,hp,DC]
  have htl:(L.take k).length=k:=by rw[AZ];omega
  generalize L.take k=T at htl ⊢
  cases T with
  | nil =>
   have hk0:k=0:=htl.symm
   have hKk:((1:Int)==(K:Int))=false:=by simp;omega
   show AWP _ _ ⟨upd (prS K []).Γ 11 (.d (.i .u64 (p:Int))),(prS K []).H,(prS K []).n⟩ _
   have hm1:(1:Nat)<=maxLen:=bJ (by decide)
   simp[-I,-O,↓KW,↓aE,↓aA,↓aF,↓aG,prS,hKk,hm1]
   refine wkQ [1,2,4] ?_ ?_<;>simp[-I,upd,aL,Γ0,Bo,bM,jW,mV]
  | cons y T =>
   have hk0:T.length+1=k:=htl
   have hKk:((T.length:Int)+1+1==(K:Int))=false:=by simp;omega
   have hbb:=eL (n:=T.length+1) (by omega)
   show AWP _ _ ⟨upd (prS K (y::T)).Γ 11 (.d (.i .u64 (p:Int))),(prS K (y::T)).H,(prS K (y::T)).n⟩ _
   simp[-I,-O,↓KW,↓aE,↓aA,↓aF,↓aG,prS,hKk,dZ,hbb,bJ]
   refine wkQ [1,2,5] ?_ ?_<;>simp[-I,upd,aL,Γ0,Bo,bM,jW,mV]
 ·intro k x hk hx
  rw[hlen]at hk
  rw[hx0,Af]at hx
  obtain⟨p,hp,rfl⟩:=hx
  refine⟨rfl,?_⟩
  rw[A5,hp,DC]
  have htl:(L.take k).length=k:=by rw[AZ];omega
  generalize L.take k=T at htl ⊢
  cases T with
  | nil =>
   have hk0:k=0:=htl.symm
   have hKk:((1:Int)==(K:Int))=true:=by simp;omega
   show AWP _ _ ⟨upd (prS K []).Γ 11 (.d (.i .u64 (p:Int))),(prS K []).H,(prS K []).n⟩ _
   have hm1:(1:Nat)<=maxLen:=bJ (by decide)
   simp[-I,-O,↓KW,↓aE,↓aA,↓aF,↓aG,prS,hKk,hm1]
   refine wkQ [1,2,4] ?_ ?_<;>simp[-I,upd,aL,Γ0,Bo,bM,jW,mV]
  | cons y T =>
   have hk0:T.length+1=k:=htl
   have hKk:((T.length:Int)+1+1==(K:Int))=true:=by simp;omega
   have hbb:=eL (n:=T.length+1) (by omega)
   show AWP _ _ ⟨upd (prS K (y::T)).Γ 11 (.d (.i .u64 (p:Int))),(prS K (y::T)).H,(prS K (y::T)).n⟩ _
   simp[-I,-O,↓KW,↓aE,↓aA,↓aF,↓aG,prS,hKk,dZ,hbb,bJ]
   refine wkQ [1,2,5] ?_ ?_<;>simp[-I,upd,aL,Γ0,Bo,bM,jW,mV]
 ·rw[hlen,<-hLl,List.take_length,<-hL]
  simp[-I,-O,↓KW,↓aE,↓aA,↓aF,↓aG,prS]
  refine aDe _ (by kernel_rfl) ?_
  have hln2:(p0::ps).length=ps.length+1:=rfl
  have hfl:=dZ (p0::ps)
  rw[hln2]at hfl
  simp[-I,-O,↓KW,↓aE,↓aA,↓aF,↓aG,prS,bU,hfl,nL hln2,iS hln2]
def aLx[M:Mch Aa](n:Nat):Spec Aa 57 [.i .u64 n,.i .i64 0] (bU []):=by refine pT (N:=22) aR Tryz.func57 rfl rfl rfl (by kernel_rfl) (by kernel_rfl) (by simp) ?_;refine cS (by kernel_rfl) ?_;simp[-I,-O,↓KW,↓aE,↓aA,↓aF,↓aG];refine aDd ?_;refine cS (by kernel_rfl) ?_;simp[-I,-O,↓KW,↓aE,↓aA,↓aF,↓aG,bU]
end Go.Am
end
section
open List renaming map_map->I,mapM_map->O
namespace Go.Am
open Go.Conc
open RowKit (Below)
section
variable {P:Program} [M:Mch P]
def xT {f N:Nat} {fn:Func} {c:Code} {h:AV} {o o':HO} {args:List D} (hf:P.funcs[f]? = some fn) (hb:fn.body=some c) (hname:(fn.name == "runtime.NumGoroutine")=false) (hN:fn.ntmps=N)
    (ha:args.length+1<=N) (hno':kE o'=true)
    (hA:∀(G:Ctx) (a:Act) (w:World),(∀d,G.Z d=none)->SR G N [] (St1 h o args N) a w->WC P c (λe a' w'=>∃σ,((e=.normal\/e=.ret)/\jA P fn.results.toList σ=some (.tp [])/\σ.H 0=some o')/\SR G N [] σ a' w') a w):kL P f h o args o' (.tp []):=by
  intro A W vs b hAl hAb hbl hob hl hv0 hv
  have hn:¬ fn.name = "runtime.NumGoroutine" := by simpa using hname
  refine⟨λw=>by simp[callFunc,hf,hn,hb],?_⟩
  refine gF hf hb ?_
  subst hN
  refine(WpR.plain P).okv λhok=>?_
  have hsr:=SR1 (N:=fn.ntmps) hok hAl hAb hbl hob hl hv0 hv ha
  refine cC (hA _ _ _ (λ_=>rfl) hsr) ?_
  rintro e a w0 ⟨σ,⟨he,hr,hH0⟩,hs0⟩
  have hend:a.defers=[]/\∀w,Env w0 w->∃v,aK P (results fn a.tmps) w=.ok v w/\∃ob',Kept (·=b) W.heap.size W w/\w.heap[b]? = some ob' /\
      (∀cur e,W.heap[b]? = some (.cells cur e (0,0))->∃cur',ob'=.cells cur' e (0,0)/\cur'.size=cur.size) /\
      CR (λk=>A k\/(W.heap.size<=k/\k<w.heap.size)) w (ι1 b) o' ob'/\VD (λk=>A k\/(W.heap.size<=k/\k<w.heap.size)) w (.tp []) v:=by
   refine⟨hs0.2.2.2.elim λ_ h=>h.elim λ_ h=>h.2.2.2.2.1,λw henv=>?_⟩
   have hs:=hs0.env henv
   obtain⟨_,_,_,F,ι,hR,hdom,hVs,_,hdf,hp⟩:=hs
   obtain⟨v,hrun,hvd⟩:=kO hR hVs hr
   obtain⟨b',hb'⟩:=(hdom 0).2 (by rw[hH0];rfl)
   have hbb:=hp b' hb'
   simp only at hbb
   subst hbb
   obtain⟨ob',hob',hcr⟩:=hR.obj 0 b' o' hb' hH0
   have hnF:¬F b':=(hR.place 0 b' hb').2.2 (λx=>x)
   have hFA:∀k,F k->A k\/(W.heap.size<=k/\k<w.heap.size):=λk hk=>by
     rcases hR.F_ok k hk with h|h|h
     · exact .inl h
     · simp only at h;subst h;exact(hnF hk).elim
     · exact .inr ⟨h,hR.F_lt k hk⟩
   refine⟨v,hrun,ob',hR.kept,hob',λcur e he=>?_,(xP hno' hcr).step ⟨hFA,λ_ _=>rfl,λ_ _ h=>h,λ_ _ cur _ _ h=>⟨cur,h,rfl⟩⟩,?_⟩
   · obtain⟨cur',h1,h2⟩:=hR.kept.shape b' cur e hbl he
     rw[hob']at h1;injection h1 with h1
     exact⟨cur',h1,h2⟩
   · cases hvd with|tp ds vs hl hh=>exact .tp _ _ hl λk d v hk=>by simp at hk
  rcases he with rfl|rfl<;>exact hend
def bEz(P:Program)(E:Kn)(fuel:Nat)(f:FuncId)(h:AV)(o:HO)(args:List D):Option (HO×D) :=
  match P.funcs[f]? with
  |none=>none
  | some fn=>match fn.body with
    | some c=>if aZv P fn c&&decide (args.length+1<=fn.ntmps)then match ex P E fuel c (St1 h o args fn.ntmps)with
      | some (e,σ)=>match σ.H 0,bTs P fn (some (e,σ))with
        |some o',some (.tp [])=>if kE o' then some (o',.tp [])else none
        |_,_=>none
      |none=>none
      else none
    |_=>none
def aLf{E:Kn}{fuel:Nat}(hm:P.follows .mixedOrders=true)(hE:aKc P E){f:FuncId}{h0:AV}{o o':HO}{args:List D}{r:D}(h:bEz P E fuel f h0 o args=some (o',r)):kL P f h0 o args o' r:=by
  unfold bEz at h;split at h
  · cases h
  rename_i fn hfn;split at h
  case h_2=>cases h
  rename_i c hc;split at h
  case isFalse=>cases h
  rename_i hok;simp only[aZv,A8,C8,BC]at hok;obtain⟨⟨⟨h1,h2⟩,h3⟩,h4⟩:=hok;split at h
  case h_2=>cases h
  rename_i e σ hex;split at h
  case h_2=>cases h
  rename_i o1 hH hr;split at h
  case isFalse=>cases h
  rename_i hfl;injection h with h;injection h with e1 e2;subst e1;subst e2
  obtain⟨he,hr3⟩:=xE hr;refine xT hfn hc h3 rfl h4 hfl λG a w hZ hs=>cC (aCg hE hm hZ fuel c _ a w _ _ h1 h2 hex hs) ?_
  rintro e' a' w' ⟨rfl,hs'⟩;exact⟨σ,⟨he,hr3,hH⟩,hs'⟩
def kJ(P:Program)(E:Kn)(fuel:Nat):Nat->Kn
  |0=>{ E with call:=λ_ _=>none,ocall:=λ_ _ _ _=>none }
  | n+1=>{ E with
      call:=λf args=>match E.call f args with|some r=>some r|none=>bYg P (kJ P E fuel n) fuel f args
      ocall:=λf h o args=>match E.ocall f h o args with|some r=>some r|none=>match o with
        |.cells _ _=>bEz P (kJ P E fuel n) fuel f h o args
        |_=>bFa P (kJ P E fuel n) fuel f h o args }
def pX{E:Kn}{fuel:Nat}(hm:P.follows .mixedOrders=true)(hE:aKc P E):∀n,aKc P (kJ P E fuel n)
  |0=>⟨(λ_ _ _ h=>by cases h),(λ_ _ _ _ _ _ h=>by cases h),hE.keys,hE.sorted⟩
  | n+1=>by
    have ih:=pX (fuel:=fuel) hm hE n;refine⟨λf ds r h=>?_,λf h0 o ds o' r h=>?_,hE.keys,hE.sorted⟩
    · unfold kJ at h
      simp only at h
      split at h
      · rename_i r' hr';injection h with h;subst h;exact hE.call _ _ _ hr'
      · exact aQs hm ih h
    · unfold kJ at h
      simp only at h
      split at h
      · rename_i r' hr';injection h with h;subst h;exact hE.ocall _ _ _ _ _ _ hr'
      · split at h
        · exact aLf hm ih h
        · exact aLg hm ih h
def E00:Kn:=⟨λ_ _=>none,λ_ _ _ _=>none,λ_=>none,λ_ _=>false⟩
end
end Go.Am
end
section
open List renaming map_map->I,mapM_map->O
open Go Go.Am Go.Proofs
namespace Go.Am
def uB[M:Mch Aa](x p:Nat)(hp:0<p):Spec Aa 100 [.i .u64 x,.i .u64 p] (.i .u64 (x%p:Nat)):=by
 refine aX (N:=10) Tryz.func100 ?_;have h0:((p:Int)==0)=false:=by simp;omega
 have ht:((x:Int).tmod (p:Int))=(x:Int)%(p:Int):=Ca (by omega);have h1:¬p=0:=by omega
 simp[-I,-O,↓KW,h0,h1,ht]
def nZ[M:Mch Aa](p a b:Nat)(hp:0<p)(hab:a*b<18446744073709551616):Spec Aa 89 [.i .u64 p,.i .u64 a,.i .u64 b] (.i .u64 (a*b%p:Nat)):=by
 refine aX (N:=12) Tryz.func89 ?_;have hw:AB.wrap ((a:Int)*(b:Int))=((a*b:Nat):Int):=by rw[<-Cd];exact wrap_u64 (by omega) (by omega)
 have hR:=uB (a*b) p hp;generalize a*b%p=r at *;generalize a*b=z at *;simp[-I,-O,↓KW,hw];refine aC hR ?_;simp[-I,-O,↓KW]
def tI(p:Nat):Nat->Nat->Nat->Nat->Nat
 |0,r,_,_=>r
 |n+1,r,a,e=>if e=0 then r else tI p n (if e%2=1 then r*a%p else r) (a*a%p) (e/2)
def aYp(p n r a:Nat):tI p n r a 0=r:=by cases n<;>simp[tI]
def aUk[M:Mch Aa](p a e:Nat)(hp:0<p)(hp1:p<=2147483648)(ha:a<=2147483648)(he:e<18446744073709551616) :
  Spec Aa 99 [.i .u64 p,.i .u64 a,.i .u64 e] (.i .u64 (tI p 64 (1%p) a e:Nat)):=by
 refine aX (N:=26) Tryz.func99 ?_
 have hR:=uB 1 p hp
 simp[-I,-O,↓KW]
 refine aC hR ?_
 simp[-I,-O,↓KW]
 have hm:∀x:Nat,x%p<=2147483648:=λx=>by have:=BF x hp;omega
 have hmm:∀x y:Nat,x<=2147483648->y<=2147483648->x*y<18446744073709551616:=λx y h1 h2=>Bf (A9 h1 h2) (by decide)
 obtain⟨R,hRR⟩:∃R,tI p 64 (1%p) a e=R:=⟨_,rfl⟩
 have hc1:((1:Int)%(p:Int))=((1%p:Nat):Int):=by simp
 rw[hRR,hc1]
 have hr0:=hm 1
 generalize 1%p=r0 at *
 refine mH (τ:={ x:Nat×Nat×Nat×Nat // tI p x.1 x.2.1 x.2.2.1 x.2.2.2=R/\x.2.2.2<2^x.1/\x.1<=64/\x.2.1<=2147483648/\x.2.2.1<=2147483648 })
  (S:=λx=>StL [(0,.d (.i .u64 p)),(1,.d (.i .u64 (x.1.2.2.1:Nat))),(2,.d (.i .u64 (x.1.2.2.2:Nat))),(7,.d (.i .u64 (x.1.2.1:Nat)))] none []) (m:=λx=>x.1.1) ⟨(64,r0,a,e),hRR,by simpa using he,Ay _,hr0,ha⟩ ?_ ?_
 ·refine wkQ [] ?_ ?_<;>simp[-I,upd,aL,Γ0]
 ·rintro⟨⟨n,r,a,e⟩,h1,h2,h3,h4,h5⟩
  simp only at h1 h2 h3 h4 h5 ⊢
  rcases A7 e with he0|he0
  ·subst he0
   rw[aYp]at h1
   subst h1
   simp[-I,-O,↓KW]
  ·obtain⟨n,rfl⟩:∃k,n=k+1:=by
    cases n with
    |zero=>simp at h2;omega
    |succ n=>exact⟨n,rfl⟩
   have hsh:dT .shr .u64 (e:Int) 1=some (.i .u64 ((e/2:Nat):Int)):=by simp only[dT,CK];rw[Ai (by decide)];congr 2;rw[show(2:Int)^(min (1:Int).toNat 64)=2 from by decide,CY _ (by decide)];simp
   have heb:e<18446744073709551616:=A6 h2 (AR (Ci (by decide) h3) (by decide))
   have hbt:bits .and .u64 (e:Int) 1=((e%2:Nat):Int):=by have:=bits_and_u64_nat e 1 heb (by decide);rw[Nat.and_one_is_mod]at this;exact this
   have hn2:e/2<2^n:=by rw[BR]at h2;omega
   unfold tI at h1
   rw[Ai (by omega)]at h1
   have hM2:=nZ p a a hp (hmm a a h5 h5)
   have hm2:=hm (a*a)
   generalize a*a%p=a2 at *
   generalize e/2=e2 at *
   by_cases hodd:e%2=1
   ·have hM1:=nZ p r a hp (hmm r a h4 h5)
    have hm1:=hm (r*a)
    rw[Aq hodd]at h1
    generalize r*a%p=r2 at *
    rw[hodd]at hbt
    replace hbt:dG .and false (.d (.i .u64 (e:Int))) (.d (.i .u64 1))=some (.i .u64 1):=by show some (D.i .u64 (bits .and .u64 (e:Int) 1))=_;rw[hbt];rfl
    simp[-I,-O,↓KW,he0,hbt]
    refine aC hM1 ?_
    simp[-I,-O,↓KW]
    refine aC hM2 ?_
    simp[-I,-O,↓KW,hsh]
    refine⟨n,Ck _,r2,a2,e2,⟨h1,hn2,by omega,hm1,hm2⟩,.inr (wkQ [] ?_ ?_)⟩<;>simp[-I,upd,aL,Γ0]
   ·have hz:e%2=0:=by omega
    rw[Ai hodd]at h1
    rw[hz]at hbt
    replace hbt:dG .and false (.d (.i .u64 (e:Int))) (.d (.i .u64 1))=some (.i .u64 0):=by show some (D.i .u64 (bits .and .u64 (e:Int) 1))=_;rw[hbt];rfl
    simp[-I,-O,↓KW,he0,hbt]
    refine aC hM2 ?_
    simp[-I,-O,↓KW,hsh]
    refine⟨n,Ck _,r,a2,e2,⟨h1,hn2,by omega,h4,hm2⟩,.inr (wkQ [] ?_ ?_)⟩<;>simp[-I,upd,aL,Γ0]
def EPc(f:FuncId)(ds:List D):Option D :=
 if f=99 then match ds with
  |[.i .u64 p,.i .u64 a,.i .u64 e]=>if 0<p/\p<=2147483648/\0<=a/\a<=2147483648/\0<=e/\e<18446744073709551616 then some (.i .u64 (tI p.toNat 64 (1%p.toNat) a.toNat e.toNat:Nat))else none
  |_=>none
 else if f=89 then match ds with
  |[.i .u64 p,.i .u64 a,.i .u64 b]=>if 0<p/\0<=a/\0<=b/\a*b<18446744073709551616 then some (.i .u64 (a.toNat*b.toNat%p.toNat:Nat))else none
  |_=>none
 else none
def cBe[M:Mch Aa]{f:FuncId}{ds:List D}{r:D}(h:EPc f ds=some r):Spec Aa f ds r:=by
 unfold EPc at h;split at h
 ·rename_i hf;subst hf;split at h
  ·rename_i p a e;split at h
   ·rename_i hc;injection h with h;subst h
    obtain⟨h1,h2,h3,h4,h5,h6⟩:=hc;have:=aUk p.toNat a.toNat e.toNat (by omega) (by omega) (by omega) (by omega);rwa [BV (by omega),BV h3,BV h5]at this
   ·cases h
  ·cases h
 ·split at h
  ·rename_i hf;subst hf;split at h
   ·rename_i p a b;split at h
    ·rename_i hc;injection h with h;subst h
     obtain⟨h1,h2,h3,h4⟩:=hc;have:=nZ p.toNat a.toNat b.toNat (by omega) (by
      have:((a.toNat*b.toNat:Nat):Int)=a*b:=by rw[Cd,BV h2,BV h3]
      omega)
     rwa [BV (by omega),BV h2,BV h3]at this
    ·cases h
   ·cases h
  ·cases h
def EP:Kn:={ E00 with call:=EPc }
def aWi[M:Mch Aa]:aKc Aa EP:=⟨λf ds r h=>cBe h,λ_ _ _ _ _ _ h=>by(cases h),λ_ _ h=>by(cases h),λ_ _ h=>by(cases h)⟩
noncomputable def prB(n:Nat):Nat:=match(kJ Aa EP 100 20).call 52 [.i .u64 n]with
 |some (.b true)=>1
 |some (.b false)=>2
 |_=>0
def bFv[M:Mch Aa]{n:Nat}{b:Bool}(h:prB n=if b then 1 else 2):Spec Aa 52 [.i .u64 n] (.b b):=by
 refine(pX (fuel:=100) aR aWi 20).call _ _ _ ?_;unfold prB at h;split at h
 ·rename_i he;rw[he];cases b<;>first|rfl|cases h
 ·rename_i he;rw[he];cases b<;>first|rfl|cases h
 ·cases b<;>cases h
noncomputable def aBv(n m:Nat):Bool:=(AN (n-m)).all λk=>prB (m+k)==if k==0 then 1 else 2
def fP[M:Mch Aa]{n m:Nat}(h:m<n)(hn:n<=2147483648)(hg:aBv n m=true):Spec Aa 163 [.i .u64 n] (.i .u64 m):=by
 refine aTd n m h hn λv h1 h2=>bFv ?_
 have:=A3.1 hg (v-m) (Cr.2 (by omega));rw[show m+(v-m)=v from by omega,beq_iff_eq]at this;rw[this];by_cases hv:v=m
 ·subst hv;simp
 ·have:v-m≠0:=by omega
  simp[hv,this]
def cFm:aBv 2147483648 2147483647=true:=by kernel_rfl
def cFl:aBv 2147483647 2147483629=true:=by kernel_rfl
def cFk:aBv 2147483629 2147483587=true:=by kernel_rfl
def cFj:aBv 2147483587 2147483579=true:=by kernel_rfl
def cFi:aBv 2147483579 2147483563=true:=by kernel_rfl
def cFh:aBv 2147483563 2147483549=true:=by kernel_rfl
def cFg:aBv 2147483549 2147483543=true:=by kernel_rfl
def cFf:aBv 2147483543 2147483497=true:=by kernel_rfl
def cFe:aBv 2147483497 2147483489=true:=by kernel_rfl
def cFd:aBv 2147483489 2147483477=true:=by kernel_rfl
def P10:List Nat:=[2147483647,2147483629,2147483587,2147483579,2147483563,2147483549,2147483543,2147483497,2147483489,2147483477]
def bKf[M:Mch Aa]:jJ 2147483648 P10 :=
 ⟨by decide,by decide,fP (by decide) (by decide) cFm,by decide,by decide,fP (by decide) (by decide) cFl,by decide,by decide,fP (by decide) (by decide) cFk,by decide,by decide,fP (by decide) (by decide) cFj,by decide,by decide,fP (by decide) (by decide) cFi,by decide,by decide,fP (by decide) (by decide) cFh,by decide,by decide,fP (by decide) (by decide) cFg,by decide,by decide,fP (by decide) (by decide) cFf,by decide,by decide,fP (by decide) (by decide) cFe,by decide,by decide,fP (by decide) (by decide) cFd,trivial⟩
def jJ.drop[M:Mch Aa]:∀{k n:Nat} {l:List Nat},jJ n l->k<l.length->jJ (if k=0 then n else l[k-1]!) (l.drop k)
 |0,n,l,h,_=>h
 |k+1,n,[],h,hk=>by simp at hk
 |1,n,x::l,h,hk=>h.2.2.2
 | k+2,n,x::l,h,hk=>by have:=jJ.drop (k:=k+1) h.2.2.2 (by simp only[Ak]at hk;omega);simpa using this
def jJ.take[M:Mch Aa]:∀{k n:Nat} {l:List Nat},jJ n l->jJ n (l.take k)
 |0,n,l,h=>trivial
 |k+1,n,[],h=>trivial
 |k+1,n,x::l,h=>⟨h.1,h.2.1,h.2.2.1,jJ.take h.2.2.2⟩
def bAk(m n:Nat):lR (aJ m) (aJ n)=0↔m=n:=by
 unfold lR;rw[fI,fI];by_cases h1:m<n
 ·simp[h1];omega
 ·by_cases h2:n<m
  ·simp[h1,h2];omega
  ·simp[h1,h2];omega
def bKu(a b:List Nat):-1<=lR a b/\lR a b<=1:=by
 unfold lR;split
 ·exact⟨by decide,by decide⟩
 ·split<;>exact⟨by decide,by decide⟩
def bKt(m n:Nat):lR (aJ m) (aJ n)=if m<n then -1 else if n<m then 1 else 0:=by
 unfold lR;rw[fI,fI];by_cases h1:m<n
 ·simp[h1]
 ·by_cases h2:n<m
  ·simp[h1,h2]
  ·simp[h1,h2]
def jS(x:Int):x.sign=if x<0 then -1 else if x=0 then 0 else 1:=by
 rcases Fx x 0 with h|h|h
 ·rw[DZ h,Aq h]
 ·subst h;rfl
 ·rw[DU h,Ai (by omega),Ai (by omega)]
def bOv{x y:Int}(hs:x.sign=y.sign):0<x.sign*lR (aJ x.natAbs) (aJ y.natAbs)↔y<x:=by rw[bKt];rw[jS,jS]at hs;rw[jS];split at hs<;>(try split at hs)<;>(try split at hs)<;>(try split at hs)<;>simp_all<;>(try omega);all_goals (split<;>(try split)<;>omega)
def bDz{x y:Int}(hs:¬x.sign=y.sign):0<mW x.sign y.sign↔y<x:=by unfold mW;rw[jS,jS]at hs ⊢;split at hs<;>(try split at hs)<;>(try split at hs)<;>(try split at hs)<;>simp_all<;>(try omega)
def aVj[M:Mch Aa](x y:Int)(hx:Sz x)(hy:Sz y):∃r:Int,Spec Aa 48 [encZ x,encZ y] (.i .i64 r)/\(0<r↔y<x):=by
 have hSx:=aBo x hx;have hSy:=aBo y hy;have hTx:=mI (aJ x.natAbs) (AR hx (by decide));have hTy:=mI (aJ y.natAbs) (AR hy (by decide));rw[pS (lS _)]at hTx hTy;have hC:=aBp (aJ x.natAbs) (aJ y.natAbs) (bT _) (bT _) (AR hx (by decide)) (AR hy (by decide));have hc0:=bAk x.natAbs y.natAbs;have hcb:=bKu (aJ x.natAbs) (aJ y.natAbs);have hI:=bKv x.sign y.sign;by_cases hs:x.sign=y.sign
 ·refine⟨x.sign*lR (aJ x.natAbs) (aJ y.natAbs),?_,?_⟩
  rotate_left
  ·exact bOv hs
  ·refine aX (N:=26) Tryz.func48 ?_;have hne:((x.sign != y.sign):Bool)=false:=by simp[hs]
   have hsb:-1<=x.sign/\x.sign<=1:=by
    rcases Fx x 0 with h|h|h
    ·rw[DZ h];decide
    ·subst h;decide
    ·rw[DU h];decide
   generalize lR (aJ x.natAbs) (aJ y.natAbs)=r at *;generalize y.sign=sy at *;generalize x.sign=sx at *;have hw:Ah.wrap (sx*r)=sx*r:=by
    have h1:sx=-1\/sx=0\/sx=1:=by omega
    rcases h1 with rfl|rfl|rfl<;>exact aP
   simp[-I,-O,↓KW,bB,aH];refine aC hSx ?_;simp[-I,-O,↓KW,bB,aH];refine aC hSy ?_;simp[-I,-O,↓KW,hne,aH];refine aC hTx ?_;simp[-I,-O,↓KW,aH];refine aC hTy ?_;simp[-I,-O,↓KW,aH];refine aC hC ?_;simp[-I,-O,↓KW,hw,aH]
 ·refine⟨mW x.sign y.sign,?_,?_⟩
  rotate_left
  ·exact bDz hs
  ·refine aX (N:=26) Tryz.func48 ?_;have hne:((x.sign != y.sign):Bool)=true:=by simpa using hs
   generalize y.sign=sy at *;generalize x.sign=sx at *;simp[-I,-O,↓KW,bB,aH];refine aC hSx ?_;simp[-I,-O,↓KW,bB,aH];refine aC hSy ?_;simp[-I,-O,↓KW,hne,aH];refine aC hI ?_;simp[-I,-O,↓KW]
def dV{P:Program}(σ:St)(x y:ResultVar):jA P [x,y] σ=(kD P σ x).bind λa=>(kD P σ y).bind λb=>(frz σ.H 8 a).bind λu=>(frz σ.H 8 b).bind λv=>some (.tp [u,v]):=by unfold jA;cases h1:kD P σ x<;>cases h2:kD P σ y<;>simp[cI,h1,h2];rename_i a b;cases frz σ.H 8 a<;>cases frz σ.H 8 b<;>simp
def aQw{P:Program}(σ:St)(x y z:ResultVar):jA P [x,y,z] σ=(kD P σ x).bind λa=>(kD P σ y).bind λb=>(kD P σ z).bind λc=>(frz σ.H 8 a).bind λu=>(frz σ.H 8 b).bind λv=>(frz σ.H 8 c).bind λw=>some (.tp [u,v,w]):=by unfold jA;cases h1:kD P σ x<;>cases h2:kD P σ y<;>cases h3:kD P σ z<;>simp[cI,h1,h2,h3];rename_i a b c;cases frz σ.H 8 a<;>cases frz σ.H 8 b<;>cases frz σ.H 8 c<;>simp
def shS(a:List Nat)(d:Nat):Nat->List Nat×Nat
 |0=>(Av a.length 0,0)
 |k+1=>((shS a d k).1.set (a.length-1-k) (((shS a d k).2*4294967296+a.getD (a.length-1-k) 0)/d),((shS a d k).2*4294967296+a.getD (a.length-1-k) 0)%d)
def bDy{o v v' p q d r r' x t t' w:Nat}(hs:v'+p*o=v+p*q)(ho:o=0)(ht:r*4294967296+x=t)(hq:r'+d*q=t)(hv:v*d+p*4294967296*r+(t'+p*x)=w):v'*d+p*r'+t'=w:=by
 subst ho;have h1:v'=v+p*q:=by omega
 have h2:p*t=p*(r*4294967296)+p*x:=by rw[<-ht,Cx]
 have h3:p*t=p*r'+p*(d*q):=by rw[<-hq,Cx]
 have h4:p*q*d=p*(d*q):=by rw[B2,B5 q]
 have h5:p*4294967296*r=p*(r*4294967296):=by rw[B2,B5 r]
 rw[h1,B8,h4];omega
def bVq{r x d:Nat}(hr:r<d)(hx:x<4294967296):(r*4294967296+x)/d<4294967296:=by
 rw[Nat.div_lt_iff_lt_mul (by omega)];have:r*4294967296+4294967296<=d*4294967296:=by have:=B9 4294967296 (Nat.succ_le_of_lt hr);rw[Nat.succ_mul]at this;exact this
 rw[B5 4294967296];omega
def aUb{a:List Nat}{d:Nat}(ha:Lim a)(hd:0<d)(k:Nat)(hk:k<=a.length) :
  (shS a d k).1.length=a.length/\(shS a d k).2<d/\Lim (shS a d k).1/\(∀i,i<a.length-k->(shS a d k).1.getD i 0=0) /\
  val (shS a d k).1*d+4294967296^(a.length-k)*(shS a d k).2+val (a.take (a.length-k))=val a:=by
 induction k with
 |zero=>exact⟨by simp[shS],hd,.rep _,λi _=>by simp[shS,DH];split<;>rfl,by simp[shS,zB]⟩
 | succ k ih =>
  obtain⟨h1,h2,h3,h4,h5⟩:=ih (by omega)
  obtain⟨j,hj⟩:∃j,a.length-1-k=j:=⟨_,rfl⟩
  have hj1:a.length-k=j+1:=by omega
  have hj2:a.length-(k+1)=j:=by omega
  have hx:=ha.getD j
  have hset:=aHg (l:=(shS a d k).1) (j:=j) (by omega) (((shS a d k).2*4294967296+a.getD j 0)/d)
  have hoj:=h4 j (by omega)
  simp only[shS,hj,hj2]
  rw[hj1,cF,BR]at h5
  have hlt:=bVq h2 hx
  refine⟨by simp[h1],BF _ hd,h3.set _ hlt,λi hi=>?_,?_⟩
  ·rw[Ac,Ef (by omega),<-Ac]
   exact h4 i (by omega)
  ·exact bDy hset hoj rfl (Nat.mod_add_div _ _) h5
def shQ(a:List Nat)(d:Nat):List Nat:=(shS a d a.length).1
def aHo{a:List Nat}{d:Nat}(ha:Lim a)(hd:0<d):(shQ a d).length=a.length/\Lim (shQ a d)/\val (shQ a d)=val a/d/\(shS a d a.length).2=val a%d:=by obtain⟨h1,h2,h3,_,h5⟩:=aUb ha hd a.length (Ay _);rw[CU,Nat.pow_zero,DW,BD,val,B6]at h5;have:=(Nat.div_mod_unique hd).2 ⟨show(shS a d a.length).2+d*val (shQ a d)=val a by rw[B5,EE];exact h5,h2⟩;exact⟨h1,h3,this.1.symm,this.2.symm⟩
def aLp[M:Mch Aa](a:List Nat)(d:Nat)(ha:Lim a)(hd:0<d)(hd2:d<4294967296)(hla:a.length<=1099511627776):Spec Aa 196 [aB a,.i .u32 d] (.tp [aB (shQ a d),.i .u32 ((val a%d:Nat):Int)]):=by
 refine aX (N:=42) Tryz.func196 ?_;obtain⟨n,hn⟩:∃n,a.length=n:=⟨_,rfl⟩;have hm1:(4:Int)*n<=281474976710656:=by omega
 have hm2:(n:Int)<=9223372036854775807:=by omega
 have hw1:Ah.wrap ((n:Int)-1)=(n:Int)-1:=aP;have hwd:AB.wrap (d:Int)=d:=wrap_u64 (by omega) (by omega);have hdz:¬d=0:=by omega
 have h00:(shS a d 0).1=Av n 0:=by rw[<-hn];rfl
 have h01:(shS a d 0).2=0:=rfl;simp[-I,-O,↓KW,aB,hn,hw1,hm1,hm2];refine cB (λk:Nat=>k<=n)
  (λk=>StL [(0,.d (aB a)),(1,.d (.i .u32 d)),(6,.own 1 0 n 1),(7,.d (.i .u64 (shS a d k).2)),(8,.d (.i .i64 ((n:Int)-1-k)))] none
   [.cells 89 ((lms (shS a d k).1).map .d)]) (λk=>n-k) 0 (A1 _) ?_ ?_
 ·refine wkQ [1] ?_ ?_<;>simp[-I,upd,aL,Γ0,aB,h00,h01]
 ·intro k hk;obtain⟨ol,oc,om,_,_⟩:=aUb ha hd k (by omega);rw[hn]at ol;by_cases hgo:k<n
  ·have q1:(0:Int)<=(n:Int)-1-k:=by omega
   obtain⟨j,hj⟩:∃j,a.length-1-k=j:=⟨_,rfl⟩;have hji:(n:Int)-1-k=j:=by omega
   have hsucc:shS a d (k+1)=((shS a d k).1.set j (((shS a d k).2*4294967296+a.getD j 0)/d),((shS a d k).2*4294967296+a.getD j 0)%d):=by rw[<-hj];rfl
   have g1:=getD_some (l:=a) (i:=j) (by omega);have hx:=ha.getD j;have hlt:=bVq oc hx;generalize hout:(shS a d k).1=out at *;generalize hcar:(shS a d k).2=r at *;generalize a.getD j 0=x at *;obtain⟨t,ht⟩:∃t,r*4294967296+x=t:=⟨_,rfl⟩;rw[ht]at hsucc hlt;obtain⟨q,hq⟩:∃q,t/d=q:=⟨_,rfl⟩;obtain⟨r',hr'⟩:∃r',t%d=r':=⟨_,rfl⟩;rw[hq,hr']at hsucc;rw[hq]at hlt;have hr'd:r'<d:=by rw[<-hr'];exact BF _ hd
   have hwx:AB.wrap (x:Int)=x:=wrap_u64 (by omega) (by omega);have hwr:AB.wrap ((r:Int)*4294967296)=(r:Int)*4294967296:=wrap_u64 (by omega) (by omega);have hwt:AB.wrap ((r:Int)*4294967296+x)=t:=by rw[wrap_u64 (by omega) (by omega)];omega
   have hwq:AB.wrap ((t:Int)/d)=q:=by rw[<-E4,hq,wrap_u64 (by omega) (by omega)]
   have hwq2:BI.wrap (q:Int)=q:=wrap_u32 (by omega) (by omega);have hwm:Int.tmod (t:Int) d=r':=by rw[<-Int.ofNat_tmod,hr']
   have hw8:Ah.wrap ((j:Int)-1)=(j:Int)-1:=aP;have hjn:j<n:=by omega
   have hjl3:j+1<=n:=by omega
   have hlay:lay (Cj AV.d (lms out)) j [AV.d (D.i .u32 (q:Int))]=Cj AV.d (lms (out.set j q)):=by rw[eQ _ _ _ (by rw[jV];omega),uR]
   have he:(n:Int)-1-((k:Int)+1)=(j:Int)-1:=by omega
   rw[hji];simp[-I,-O,↓KW,aB,g1,hwx,hwr,hwt,hwd,hdz,hwq,hwq2,hwm,hw8,hjn,hjl3,hlay,ol];refine aI (k+1) hgo ?_ (wkQ [1] ?_ ?_)
   ·omega
   ·simp[-I,upd,aL,Γ0,aB,hsucc,he]
   ·simp[-I,upd,aL,Γ0,aB,hsucc,he]
  ·have e:k=n:=by omega
   have q1:¬(k:Int)<=(n:Int)-1:=by omega
   obtain⟨s1,s2,s3,s4⟩:=aHo ha hd;have e1:(shS a d k).1=shQ a d:=by rw[e,<-hn];rfl
   have e2:(shS a d k).2=val a%d:=by rw[e,<-hn];exact s4
   rw[hn]at s1;have hrd:val a%d<d:=BF _ hd;have e3:(val a:Int)%d=((val a%d:Nat):Int):=by rw[Int.natCast_emod]
   rw[e1,e2];generalize val a%d=r at *;have hwr:BI.wrap (r:Int)=r:=wrap_u32 (by omega) (by omega);simp[-I,-O,↓KW,aB,q1,s1,dP s1,cN s1,hwr,e3,dV]
def aWx{u:Nat}(hu:u<18446744073709551616):∃lo hi:Nat,Lim [lo,hi]/\val [lo,hi]=u/\BI.wrap (u:Int)=lo/\dT .shr .u64 (u:Int) 32=some (.i .u64 hi)/\BI.wrap (hi:Int)=hi:=by refine⟨u%4294967296,u/4294967296,.cons (by omega) (.one (by omega)),by simp only[val];omega,by rw[fM];omega,?_,by rw[wrap_u32 (by omega) (by omega)]⟩;simp only[dT,CK];rw[Ai (by decide)];congr 2;rw[show(2:Int)^(min (32:Int).toNat 64)=4294967296 from by decide,CY _ (by decide)];omega
def aAa{l:List Nat}{n:Nat}(hn:l.length=n+1):val l=val (l.take n)+4294967296^n*l.getD n 0:=by rw[<-cF,As (by omega)]
def bCt{l:List Nat}{n:Nat}(hn:l.length=n+2):val l=val (l.take n)+4294967296^n*(l.getD (n+1) 0*4294967296+l.getD n 0):=by rw[aAa hn,cF,BR,Cx,B2,B5 4294967296];omega
def aPs{l:List Nat}{n:Nat}(h:Lim l)(hn:l.length=n+1):val l<4294967296^n*(l.getD n 0+1):=by have h1:=pQ (h.take n);rw[AZ,De (by omega)]at h1;rw[aAa hn,Cx,Dj];omega
def bJj{p q e low t D R:Nat}(hD:D<=q*low)(he:e*low<=t)(hR:p*q*t<=R):p*e*D<=R:=by
 refine AR (Ce _ hD) (AR ?_ hR);have:p*e*(q*low)=p*q*(e*low):=by rw[B2,B2,Fy e]
 rw[this];exact Ce _ he
def aZl{a b:List Nat}(hb:Lim b)(hc:lV a)(hla:Lim a)(h:val a<=val b):a.length<=b.length:=by have e1:=bKc hla hc;rw[<-e1];exact cU (Bf h (pQ hb))
def aLr[M:Mch Aa](r d:List Nat)(hr:Lim r)(hd:Lim d)(hcr:lV r)(hcd:lV d)(hd0:d≠[])(hle:val d<=val r)(hl:r.length<=137438953472) :
  ∃e:Nat,0<e/\e*val d<=val r/\Spec Aa 197 [aB r,aB d] (encZ e):=by
 have hlen:=aZl hr hcd hd hle
 have hdl:0<d.length:=Ep.2 hd0
 obtain⟨m,hm⟩:∃m,d.length=m+1:=⟨d.length-1,by omega⟩
 obtain⟨k,hk⟩:∃k,r.length=k+(m+1):=⟨r.length-d.length,by omega⟩
 have gd:=getD_some (l:=d) (i:=m) (by omega)
 have gr:=getD_some (l:=r) (i:=k+m) (by omega)
 have hdm:=hd.getD m
 have hrm:=hr.getD (k+m)
 have hdv:=C1 (aPs hd hm)
 have hrtop:0<r.getD (k+m) 0:=by
  have h1:r.getLast? = some (r.getD (k+m) 0):=by rw[Gj,show r.length-1=k+m by omega];exact gr
  have h2:r.getLast? ≠ some 0:=hcr;rw[h1]at h2;rcases A7 (r.getD (k+m) 0)with h|h
  ·rw[h]at h2;exact absurd rfl h2
  ·exact h
 generalize hdt:d.getD m 0=dt at *
 obtain⟨low,hlow⟩:∃low,dt+1=low:=⟨_,rfl⟩
 rw[hlow]at hdv
 have c1:Ah.wrap ((r.length:Int)-d.length)=(k:Int):=by rw[aP];omega
 have c2:Ah.wrap ((d.length:Int)-1)=(m:Int):=by rw[aP];omega
 have c3:AB.wrap (dt:Int)=dt:=wrap_u64 (by omega) (by omega)
 have c4:AB.wrap ((dt:Int)+1)=low:=by rw[wrap_u64 (by omega) (by omega)];omega
 have c5:Ah.wrap ((r.length:Int)-1)=((k+m:Nat):Int):=by rw[aP];omega
 have c6:¬low=0:=by omega
 by_cases hk0:k=0
 ·subst hk0
  rw[AA]at gr hrm hrtop hk
  rw[show((0+m:Nat):Int)=(m:Int)by omega]at c5
  have hv1:4294967296^m*r.getD m 0<=val r:=by rw[aAa hk];omega
  generalize r.getD m 0=rt at *
  obtain⟨e0,he0⟩:∃e0,rt/low=e0:=⟨_,rfl⟩
  have he0':e0*low<=rt:=by rw[<-he0];exact Nat.div_mul_le_self _ _
  have he0l:e0<=rt:=by rw[<-he0];exact Eb _ _
  have c7:AB.wrap (rt:Int)=rt:=wrap_u64 (by omega) (by omega)
  have c8:AB.wrap ((rt:Int)/low)=e0:=by rw[<-E4,he0,wrap_u64 (by omega) (by omega)]
  obtain⟨e,he⟩:∃e:Nat,max 1 e0=e:=⟨_,rfl⟩
  have c9:Ah.wrap (e:Int)=e:=aP
  refine⟨e,by omega,?_,?_⟩
  ·by_cases h1:e0<=1
   ·have:e=1:=by omega
    rw[this,DW];exact hle
   ·have:e=e0:=by omega
    rw[this]
    have:=bJj (p:=1) hdv he0' (by rw[DW];exact hv1)
    rwa [DW]at this
  ·refine aX (N:=66) Tryz.func197 ?_
   simp[-I,-O,↓KW,aB,c1,c2,c3,c4,c5,c6,c7,c8,gd,gr,hdt,c9]
   refine bE (ds:=[.i .i64 e]) ?_ (aLs e (by omega) (by omega)) ?_
   ·have he2:(if(1:Int)<(e0:Int)then(e0:Int)else 1)=e:=by split<;>omega
    simp[-I,-O,↓KW,he2,c9]
   ·simp[-I,-O,↓KW,aB,encZ,encI]
 ·obtain⟨j,hj⟩:∃j,k=j+1:=⟨k-1,by omega⟩
  have hk2:r.length=(j+m)+2:=by omega
  have gs:=getD_some (l:=r) (i:=j+m) (by omega)
  have hrs:=hr.getD (j+m)
  have hv2:=bCt hk2
  rw[show j+m+1=k+m by omega]at hv2
  have c10:Ah.wrap ((r.length:Int)-2)=((j+m:Nat):Int):=by rw[aP];omega
  have c11:Ah.wrap ((k:Int)-1)=(j:Int):=by rw[aP];omega
  obtain⟨n1,hn1⟩:∃n1,k+m=n1:=⟨_,rfl⟩
  obtain⟨n2,hn2⟩:∃n2,j+m=n2:=⟨_,rfl⟩
  rw[hn1]at gr hrm hrtop c5 hv2
  rw[hn2]at gs hrs c10 hv2
  generalize r.getD n1 0=rt at *
  generalize r.getD n2 0=rs at *
  have c12:AB.wrap (rt:Int)=rt:=wrap_u64 (by omega) (by omega)
  have c13:AB.wrap (rs:Int)=rs:=wrap_u64 (by omega) (by omega)
  have c14:AB.wrap ((rt:Int)*4294967296)=(rt:Int)*4294967296:=wrap_u64 (by omega) (by omega)
  obtain⟨t,ht⟩:∃t,rt*4294967296+rs=t:=⟨_,rfl⟩
  rw[ht]at hv2
  have c15:AB.wrap ((rt:Int)*4294967296+rs)=t:=by rw[wrap_u64 (by omega) (by omega)];omega
  obtain⟨e,he⟩:∃e,t/low=e:=⟨_,rfl⟩
  have he1:e*low<=t:=by rw[<-he];exact Nat.div_mul_le_self _ _
  have hel:e<=t:=by rw[<-he];exact Eb _ _
  have he0:0<e:=by rw[<-he];exact Nat.div_pos (by omega) (by omega)
  have c16:AB.wrap ((t:Int)/low)=e:=by rw[<-E4,he,wrap_u64 (by omega) (by omega)]
  obtain⟨lo,hi,k1,k2,e3,e4,e5⟩:=aWx (u:=e) (by omega)
  have hpow:4294967296^j*4294967296^m=4294967296^n2:=by rw[<-Fq,hn2]
  refine⟨4294967296^j*e,Fo (Nat.pow_pos (by decide)) he0,bJj hdv he1 (by rw[hpow];omega),?_⟩
  have hlim:Lim (Av j 0++[lo,hi]):=(Lim.rep j).app k1
  have hval:val (Av j 0++[lo,hi])=4294967296^j*e:=by rw[kM,zB,FC,k2,AA]
  have hlen2:(Av j 0++[lo,hi]).length=j+2:=by simp
  have hm2:=eC (Av j 0++[lo,hi]) false (by rw[hlen2];omega)
  rw[cO hlim,hval,show sg false (4294967296^j*e)=((4294967296^j*e:Nat):Int)from rfl]at hm2
  have m1:(4:Int)*j<=281474976710656:=by omega
  have m2:(j:Int)<=9223372036854775807:=by omega
  have m3:(j+2)*4<=140737488355328:=by omega
  have m4:j+2<=maxLen:=by unfold maxLen;omega
  have hrep:(Cj AV.d (lms (Av j 0))).length=j:=by simp[jV]
  refine aX (N:=66) Tryz.func197 ?_
  generalize 4294967296^j*e=res at *
  have hcells:Cj AV.d (lms (Av j 0))++[AV.d (D.i .u32 (lo:Int)),AV.d (D.i .u32 (hi:Int))]=Cj AV.d (lms (Av j 0++[lo,hi])):=by rw[eE,EL];rfl
  have hkk:((k:Int)==0)=false:=by simp only[CO,ne_eq];omega
  simp[-I,-O,↓KW,aB,c1,c2,c3,c4,c5,c6,c10,c11,c12,c13,c14,c15,c16,gd,gr,gs,hdt,e3,e4,e5,hkk,m1,m2,m3,m4,hrep]
  rw[hcells]
  generalize Av j 0++[lo,hi]=L at *
  refine bE (ds:=[aB L,.b false]) ?_ hm2 ?_
  ·simp[-I,-O,↓KW,aB,hlen2,dP hlen2,cN hlen2]
  ·simp[-I,-O,↓KW,aB,encZ,encI,hlen2,dP hlen2,cN hlen2]
def rJ[M:Mch Aa](x:Int)(hx:(aJ x.natAbs).length<=549755813888):Spec Aa 104 [encZ x] (encZ (-x)):=by
 refine aX (N:=9) Tryz.func104 ?_;have la:=bT x.natAbs;have va:=cD x.natAbs;have sx:=fN x;have ex:encZ x=.ag [.b (decide (x<0)),aB (aJ x.natAbs)]:=rfl;have hm:=eC (aJ x.natAbs) (!decide (x<0)) (by omega);rw[cO la,va]at hm;have e:sg (!decide (x<0)) x.natAbs=-x:=by unfold sg;by_cases h:x<0<;>simp[h]<;>omega
 rw[e]at hm;rw[ex];generalize aJ x.natAbs=a at *;generalize decide (x<0)=nx at *;simp[-I,-O,↓KW,aB];refine bE (ds:=[aB a,.b (!nx)]) ?_ hm ?_
 ·cases nx<;>rfl
 ·simp[-I,-O,↓KW,aB,encZ,encI]
def aIc[M:Mch Aa](x y:Int)(hx:(aJ x.natAbs).length<=549755813888)(hy:(aJ y.natAbs).length<=549755813888):Spec Aa 65 [encZ x,encZ y] (encZ (x-y)):=by
 refine aX (N:=9) Tryz.func65 ?_;have h1:=rJ y hy;have h2:=uE x (-y) hx (by rw[Fw];exact hy);rw[<-Int.sub_eq_add_neg]at h2;simp[-I,-O,↓KW,encZ,encI,aB];refine aC h1 ?_;simp[-I,-O,↓KW,encZ,encI,aB];refine bE (ds:=[encZ x,encZ (-y)]) ?_ h2 ?_
 ·simp[-I,-O,↓KW,encZ,encI,aB]
 ·simp[-I,-O,↓KW,encZ,encI,aB]
def aJl{n:Nat}(h0:n≠0)(h:n<4294967296):aJ n=[n]:=by rw[gB h0,BY h,Di h,bZ]
def aCh{n:Nat}(h0:n≠0)(h:n<4294967296):encZ (n:Int)=.ag [.b false,.sl [[.i .u32 (n:Int)]]]:=by
 have hd:decide ((n:Int)<0)=false:=by simp
 rw[bB,hd];simp[aB,aJl h0 h]
def bId[M:Mch Aa]:Spec Aa 82 [.i .i64 1] (encZ 1):=by rw[show(1:Int)=((1:Nat):Int)from rfl,aCh (by decide) (by decide)];exact(pX (fuel:=100) aR aWi 20).call 82 [.i .i64 1] (.ag [.b false,.sl [[.i .u32 1]]]) (by kernel_rfl)
noncomputable def wdB(p:Nat):Bool:=match(kJ Aa EP 100 20).call 84 [.i .u64 p]with
 |some (.ag [.b false,.sl [[.i .u32 q]]])=>q==(p:Int)
 |_=>false
def cBs[M:Mch Aa]{p:Nat}(h0:p≠0)(h:p<4294967296)(hw:wdB p=true):Spec Aa 84 [.i .u64 p] (encZ (p:Int)):=by
 rw[aCh h0 h];refine(pX (fuel:=100) aR aWi 20).call _ _ _ ?_;unfold wdB at hw;split at hw
 ·rename_i q he;rw[he,beq_iff_eq]at *;subst hw;rfl
 ·cases hw
def cEh:(P10.all wdB)=true:=by kernel_rfl
def bCd[M:Mch Aa]{p:Nat}(h:p∈P10):Spec Aa 84 [.i .u64 p] (encZ (p:Int)):=by
 have hb:∀q∈P10,q≠0/\q<4294967296:=by decide
 exact cBs (hb p h).1 (hb p h).2 (A3.1 cEh p h)
def sY{z:Int}(h:z.natAbs<2^256):Sz z:=by have:=cU (n:=z.natAbs) (k:=8) (A6 h (by decide));unfold Sz;omega
def cEm:Sz 1:=sY (by decide)
def aVt[M:Mch Aa](b:Int)(hb:Sz b)(hb2:Sz (b+b))(h0:0<=b):Spec Aa 44 [.sl [],encZ b] (.b (decide (b=0))):=by
 refine aX (N:=26) Tryz.func44 ?_;have hA:=aIx b b hb hb;obtain⟨r,hC,hr⟩:=aVj 1 (b+b) (cEm) hb2;have hd:decide (0<r)=decide (b=0):=by
  by_cases h:b=0
  ·subst h;simp[hr.2]
  ·have:¬0<r:=λh'=>h (by have:=hr.1 h';omega)
   simp[h,this]
 generalize b+b=c at *;simp[-I,-O,↓KW,bB b,aH];refine aC bId ?_;rw[bB 1];simp[-I,-O,↓KW,aH];refine eD 2 ?_;simp[-I,-O,↓KW,↓aE,↓aA,↓aF,↓aG,aH];refine aC hA ?_;rw[bB c];simp[-I,-O,↓KW,aH];refine aC hC ?_;simp[-I,-O,↓KW,hd]
def bK(n:Nat):D:=.ag [.b false,aB (aJ n)]
def aN(n:Nat):bK n=.ag [.b false,aB (aJ n)]:=rfl
def cX(n:Nat):encZ (n:Int)=bK n:=by rw[bB,aN];simp
def szN{n:Nat}(h:n<2^256):Sz (n:Int):=sY (by simpa using h)
def bBe[M:Mch Aa]{x y:Nat}(hx:x<2^256)(hy:y<2^256):Spec Aa 85 [bK x,bK y] (bK (x+y)):=by have:=aIx (x:Int) (y:Int) (szN hx) (szN hy);rwa [<-DM,cX,cX,cX]at this
def aRk[M:Mch Aa]{x y:Nat}(hx:x<2^256)(hy:y<2^256):Spec Aa 83 [bK x,bK y] (bK (x*y)):=by have:=bSo (x:Int) (y:Int) (szN hx) (szN hy);rwa [<-Cd,cX,cX,cX]at this
def bKs[M:Mch Aa]{x y:Nat}(hx:x<2^256)(hy:y<2^256):∃r:Int,Spec Aa 48 [bK x,bK y] (.i .i64 r)/\(0<r↔y<x):=by obtain⟨r,h1,h2⟩:=aVj (x:Int) (y:Int) (szN hx) (szN hy);rw[cX,cX]at h1;exact⟨r,h1,by rw[h2];omega⟩
def cEr[M:Mch Aa]:Spec Aa 82 [.i .i64 1] (bK 1):=by rw[<-cX];exact bId
def cBp[M:Mch Aa]{p:Nat}(h:p∈P10):Spec Aa 84 [.i .u64 p] (bK p):=by rw[<-cX];exact bCd h
def bTq[M:Mch Aa]{b:Nat}(h0:0<b)(h:b<2^200):Spec Aa 44 [.sl [],bK b] (.b false):=by have:=aVt (b:Int) (szN (by omega)) (sY (by omega)) (by omega);rwa [Bs (by omega),cX]at this
def dB:List Nat->Nat
 |[]=>1
 |p::l=>p*dB l
def aAx(l:List Nat)(p:Nat):dB (l++[p])=dB l*p:=by
 induction l with
 |nil=>simp[dB]
 |cons x l ih=>simp only[Co,dB,ih,B2]
def wO:∀(l:List Nat),(∀p∈l,p<2147483648)->dB l<=2147483648^l.length
 |[],_=>by simp[dB]
 | p::l,h=>by
  have h1:=h p (AI ..);have h2:=wO l λq hq=>h q (AE _ hq)
  simp only[dB,Ak,BR];rw[B5];exact A9 h2 (by omega)
structure Ndd(b:Nat)(l:List Nat):Prop where
 big:2*b<dB l
 low:∀k,k<l.length->dB (l.take k)<=2*b
def neF(c:Nat):List Nat->St
 |[]=>StL [(4,.ptr 1 0),(5,.ptr 2 0),(6,.ptr 3 0),(7,.ptr 4 0)] none [.cells 46 [.nil],.cells 46 [.nil],.cells 31 [.d (.b false),.d (aB (aJ 1))],.cells 31 [.d (.b false),.d (aB (aJ c))]]
 |x::l=>StL [(4,.ptr 1 0),(5,.ptr 2 0),(6,.ptr 3 0),(7,.ptr 4 0)] none [.cells 46 [.nil],.cells 46 [.own 5 0 (l.length+1) 1],.cells 31 [.d (.b false),.d (aB (aJ (dB (x::l))))],.cells 31 [.d (.b false),.d (aB (aJ c))],.cells 51 ((dU (x::l)).map .d)]
def neS(c:Nat)(L:List Nat)(k:Nat):St :=
 if k<L.length then neF c (L.take k)else StL [(4,.ptr 1 0)] none [.cells 46 [.own 2 0 L.length 1],.cells 51 ((dU L).map .d)]
def aRj[M:Mch Aa](b n p0:Nat)(ps:List Nat)(hb:b<2^100)(hb0:0<b)(hd:jJ n (p0::ps))(hl:ps.length<=6)(hn:Ndd b (p0::ps))(hw:∀p∈p0::ps,Spec Aa 84 [.i .u64 p] (bK p)) :
  Spec Aa 59 [bK b,.i .u64 n] (bU (p0::ps)):=by
 have hx0:∀k:Nat,(psL (p0::ps))[k]? = ((p0::ps)[k]?).map (λ(p:Nat)=>[D.i .u64 (p:Int)]):=λk=>by simp only[psL,Ag]
 have hlen:(psL (p0::ps)).length=(p0::ps).length:=by simp[psL]
 have hseq:=aOo n p0 ps hd
 have hE:=bTq hb0 (A6 hb (by decide))
 have hA:=bBe (x:=b) (y:=b) (by omega) (by omega)
 have hlL:(p0::ps).length<=7:=by simp;omega
 have hL0:0<(p0::ps).length:=by simp
 have hlt:∀p∈p0::ps,p<2147483648:=λp hp=>by obtain⟨k,hk,rfl⟩:=BM.1 hp;exact(jJ.pos hd (Ab hk)).2
 generalize p0::ps=L at *
 obtain⟨hbig,hlow⟩:=hn
 rw[<-Nat.two_mul]at hA
 have hc:2*b<2^256:=by omega
 generalize 2*b=c at *
 have hO:=cEr
 refine pT (N:=31) aR Tryz.func59 rfl rfl rfl (by kernel_rfl) (by kernel_rfl) (by simp) ?_
 refine cS (by kernel_rfl) ?_
 simp[-I,-O,↓KW,↓aE,↓aA,↓aF,↓aG,aN b,gJ,lH]
 refine cS (by kernel_rfl) ?_
 simp[-I,-O,↓KW,↓aE,↓aA,↓aF,↓aG,aN b,aH]
 refine aC hE ?_
 simp[-I,-O,↓KW,↓aE,↓aA,↓aF,↓aG,aN b,aH]
 refine cS (by kernel_rfl) ?_
 simp[-I,-O,↓KW,↓aE,↓aA,↓aF,↓aG]
 refine cS (by kernel_rfl) ?_
 simp[-I,-O,↓KW,↓aE,↓aA,↓aF,↓aG,aH]
 refine aC hO ?_
 rw[aN 1]
 simp[-I,-O,↓KW,↓aE,↓aA,↓aF,↓aG,aH]
 refine aC hA ?_
 rw[aN c]
 simp[-I,-O,↓KW,↓aE,↓aA,↓aF,↓aG,aH]
 refine aDc (P:=Aa) ?_
 refine cS (by kernel_rfl) ?_
 simp[-I,-O,↓KW,↓aE,↓aA,↓aF,↓aG]
 refine aC (aGn n) ?_
 simp[-I,-O,↓KW,↓aE,↓aA,↓aF,↓aG]
 refine tN ?_
 refine qV (psL L) (λk=>neS c L k) [8,17,18,19,20,21,22,23,24,25,26,27,28,29,30] .ret .ret (.inl rfl) (gf:=162) (caps:=[.pt [.i .u64 n]]) (by rfl) (by rfl) (by rfl) hseq ?_ (by kernel_rfl) (by rw[hlen];omega) ?_ ?_ ?_
 ·show ∃ρ,Wk _ (neS c L 0) ρ
  unfold neS
  rw[Aq hL0,BD]
  refine wkQ [2,3,4,5] ?_ ?_<;>simp[-I,upd,aL,Γ0,neF]
 ·intro k x hk hx
  rw[hlen]at hk
  rw[hx0,Af]at hx
  obtain⟨p,hp,rfl⟩:=hx
  refine⟨rfl,?_⟩
  have hpL:=Aj hp
  have hW:=hw p hpL
  have hp31:=hlt p hpL
  have htl:(L.take k).length=k:=by rw[AZ];omega
  have hPb:dB (L.take k)<=2147483648^7:=AR (wO _ λq hq=>hlt q (Bw hq)) (Ci (by decide) (by omega))
  have hP2:dB (L.take k)*p<2^256:=Bf (A9 hPb (C1 hp31)) (by decide)
  have hM:=aRk (x:=dB (L.take k)) (y:=p) (Bf hPb (by decide)) (by omega)
  obtain⟨r,hC,hr⟩:=bKs (x:=dB (L.take k)*p) (y:=c) hP2 hc
  have hsn:L.take (k+1)=L.take k++[p]:=by rw[A5,hp];rfl
  have hps:=aAx (L.take k) p
  have hle:=hlow (k+1) hk
  rw[hsn,hps]at hle
  have hrr:¬0<r:=λh=>by have:=hr.1 h;omega
  unfold neS
  rw[Aq (by omega),Aq hk,hsn]
  generalize L.take k=T at *
  generalize hPp:dB T*p=Pp at *
  cases T with
  | nil =>
   have hm1:(1:Nat)<=maxLen:=bJ (by decide)
   show AWP _ _ ⟨upd (neF c []).Γ 17 (.d (.i .u64 (p:Int))),(neF c []).H,(neF c []).n⟩ _
   change Spec _ _ [bK 1,bK p] _ at hM
   simp[-I,-O,↓KW,↓aE,↓aA,↓aF,↓aG,neF,hm1,aH]
   refine aC hW ?_
   rw[aN p]
   simp[-I,-O,↓KW,↓aE,↓aA,↓aF,↓aG,aH]
   refine aC hM ?_
   rw[aN Pp]
   simp[-I,-O,↓KW,↓aE,↓aA,↓aF,↓aG,aH]
   refine aC hC ?_
   simp[-I,-O,↓KW,↓aE,↓aA,↓aF,↓aG,hrr,aH]
   have hps':dB [p]=Pp:=hps
   refine wkQ [1,2,3,4,6] ?_ ?_<;>simp[-I,upd,aL,Γ0,Bo,bM,jW,mV,hps']
  | cons y T =>
   have hps':dB (y::(T++[p]))=Pp:=hps
   have hbb:=eL (n:=T.length+1) (by simp at htl;omega)
   show AWP _ _ ⟨upd (neF c (y::T)).Γ 17 (.d (.i .u64 (p:Int))),(neF c (y::T)).H,(neF c (y::T)).n⟩ _
   simp[-I,-O,↓KW,↓aE,↓aA,↓aF,↓aG,neF,dZ,hbb,bJ,aH]
   refine aC hW ?_
   rw[aN p]
   simp[-I,-O,↓KW,↓aE,↓aA,↓aF,↓aG,aH]
   refine aC hM ?_
   rw[aN Pp]
   simp[-I,-O,↓KW,↓aE,↓aA,↓aF,↓aG,aH]
   refine aC hC ?_
   simp[-I,-O,↓KW,↓aE,↓aA,↓aF,↓aG,hrr,aH]
   refine wkQ [1,2,3,4,7] ?_ ?_<;>simp[-I,upd,aL,Γ0,Bo,bM,jW,mV,hps']
 ·intro k x hk hx
  rw[hlen]at hk
  rw[hx0,Af]at hx
  obtain⟨p,hp,rfl⟩:=hx
  refine⟨rfl,?_⟩
  have hpL:=Aj hp
  have hW:=hw p hpL
  have hp31:=hlt p hpL
  have htl:(L.take k).length=k:=by rw[AZ];omega
  have hPb:dB (L.take k)<=2147483648^7:=AR (wO _ λq hq=>hlt q (Bw hq)) (Ci (by decide) (by omega))
  have hP2:dB (L.take k)*p<2^256:=Bf (A9 hPb (C1 hp31)) (by decide)
  have hM:=aRk (x:=dB (L.take k)) (y:=p) (Bf hPb (by decide)) (by omega)
  obtain⟨r,hC,hr⟩:=bKs (x:=dB (L.take k)*p) (y:=c) hP2 hc
  have hsn:L.take (k+1)=L.take k++[p]:=by rw[A5,hp];rfl
  have hps:=aAx (L.take k) p
  have hLe:L.take (k+1)=L:=by rw[hk];exact List.take_length
  rw[hLe]at hsn
  rw[hLe.symm.trans (hLe.trans hsn),hps]at hbig
  have hrr:0<r:=hr.2 hbig
  unfold neS
  rw[Aq (by omega),Ai (by omega)]
  have hTl:L.length=k+1:=hk.symm
  rw[hTl]
  generalize L.take k=T at *
  subst hsn
  generalize hPp:dB T*p=Pp at *
  cases T with
  | nil =>
   have hm1:(1:Nat)<=maxLen:=bJ (by decide)
   have hk0:k=0:=htl.symm
   subst hk0
   show AWP _ _ ⟨upd (neF c []).Γ 17 (.d (.i .u64 (p:Int))),(neF c []).H,(neF c []).n⟩ _
   change Spec _ _ [bK 1,bK p] _ at hM
   simp[-I,-O,↓KW,↓aE,↓aA,↓aF,↓aG,neF,hm1,aH]
   refine aC hW ?_
   rw[aN p]
   simp[-I,-O,↓KW,↓aE,↓aA,↓aF,↓aG,aH]
   refine aC hM ?_
   rw[aN Pp]
   simp[-I,-O,↓KW,↓aE,↓aA,↓aF,↓aG,aH]
   refine aC hC ?_
   simp[-I,-O,↓KW,↓aE,↓aA,↓aF,↓aG,hrr,aH]
   refine wkQ [1,6] ?_ ?_<;>simp[-I,upd,aL,Γ0,Bo,bM,jW,mV]
  | cons y T =>
   have hk0:k=T.length+1:=htl.symm
   subst hk0
   have hbb:=eL (n:=T.length+1) (by omega)
   show AWP _ _ ⟨upd (neF c (y::T)).Γ 17 (.d (.i .u64 (p:Int))),(neF c (y::T)).H,(neF c (y::T)).n⟩ _
   simp[-I,-O,↓KW,↓aE,↓aA,↓aF,↓aG,neF,dZ,hbb,bJ,aH]
   refine aC hW ?_
   rw[aN p]
   simp[-I,-O,↓KW,↓aE,↓aA,↓aF,↓aG,aH]
   refine aC hM ?_
   rw[aN Pp]
   simp[-I,-O,↓KW,↓aE,↓aA,↓aF,↓aG,aH]
   refine aC hC ?_
   simp[-I,-O,↓KW,↓aE,↓aA,↓aF,↓aG,hrr,aH]
   refine wkQ [1,7] ?_ ?_<;>simp[-I,upd,aL,Γ0,Bo,bM,jW,mV]
 ·rw[hlen]
  unfold neS
  rw[Ai (by omega)]
  have hfl:=dZ L
  simp[-I,-O,↓KW,↓aE,↓aA,↓aF,↓aG,bU,hfl,nL (rfl:L.length=L.length),iS (rfl:L.length=L.length)]
end Go.Am
end
section
open List renaming map_map->I,mapM_map->O
open Go Go.Am Go.Proofs
namespace Go.Am
open Go.RowKit (Below)
def uA{P:Program}(w:World)(t tn ty e:TypeId)(i:TypeInfo)(z:Value)(kq kn:IntKind)(ht:P.underlying t=some (.slice e))(htn:P.underlying tn=some (.int kn))(hi:P.info? e=some i)(hz:i.zero=some z)
    (k:Nat) (h0:0<k) (hs:0<i.size) (h63:(k:Int)<=9223372036854775807) (h48:k*i.bytes<=281474976710656) :
    aK P (B0 #[t,tn] ty #[.slice none 0 0,.int kq k]) w =
      .ok (.slice (some ⟨w.heap.size,0,none⟩) k (grownCap w k 0 e))
        (w.drew.alloc (.cells (C7 z.cells k++C7 z.cells (grownCap w k 0 e-k)) e)):=by
  have hk:k≠0:=by omega
  have hw:Ah.wrap (k:Int)=k:=by rw[IntKind.wrap_i64];omega
  have h63':¬(9223372036854775807<(k:Int)):=by omega
  have h48':¬(281474976710656<Builtin.nextslicecap k 0*i.bytes):=by rw[nextslicecap_zero h0];omega
  have h48i:¬(281474976710656<(k:Int)*(i.bytes:Int)):=by rw[<-Cd];omega
  have hneg:¬((k:Int)<0):=by omega
  have hns:¬(k*i.size=0):=Nat.mul_ne_zero hk (by omega)
  simp[B0,aD ht,aD htn,sizeOf,typeInfo,zeroValue,hi,hz,asInt,asIntOf,hw,hk,hneg,hns,h63',h48',h48i,Question.forced,kH,newRow,grownCap]
structure AL(n:Nat)(l:List (Nat×Value))(a:Act):Prop where
  size:a.tmps.size=n
  defs:a.defers=[]
  get:∀t x,l.lookup t=some x->a.eval (.tmp t)=x
def AL.put{n:Nat}{l:List (Nat×Value)}{a:Act}(h:AL n l a){d:Nat}(hd:d<n)(x:Value):AL n ((d,x)::l) (a.put (some d) x) where
  size:=by simp[Act.put,h.size]
  defs:=h.defs
  get t y hy:=by
    have hg:=jD a (some d) x (λ_ e=>by injection e with e;subst e;rw[h.size];exact hd) t;have he:(a.put (some d) x).eval (.tmp t)=if(some d:Option Nat)=some t then x else a.eval (.tmp t):=by simpa[Dk]using hg
    rw[he];rw[FH]at hy;by_cases e:t=d
    · subst e;simp at hy;simp[hy]
    · rw[show(t==d)=false from by simp[e]]at hy
      rw[Ai (by simpa using Ne.symm e)]
      exact h.get t y hy
def evL(l:List (Nat×Value)):Operand->Option Value
  |.tmp t=>l.lookup t
  |.const v=>some v
  |_=>none
def AL.ev{n:Nat}{l:List (Nat×Value)}{a:Act}(h:AL n l a){o:Operand}{x:Value}(hx:evL l o=some x):a.eval o=x:=by
  cases o with
  |tmp t=>exact h.get t x hx
  | const v => have e : v = x := by simpa[evL]using hx
               subst e;rfl
  |_=>cases hx
section
variable {P:Program} [M:Mch P] {Q:Exit->Act->World->Prop} {ops:Array Oper} {n:Nat} {l:List (Nat×Value)}
def rB{W v:World}{d:Nat}{op:Op}{ty:TypeId}{pos:String}{after:Array Edge}{rest:List Oper}{a:Act}(x:Value)(hA:AL n l a)(he:Env W v)(hd:d<n)(hr:∀w,aK P (execOp a.eval ⟨some d,op,ty,pos,after,none⟩) w=.ok (.value x) w)
    (h:∀a' v',AL n ((d,x)::l) a'->Env W v'->gW P ops Q rest a' v'):gW P ops Q (⟨some d,op,ty,pos,after,none⟩::rest) a v:=by
  have hw:Bu (⟨some d,op,ty,pos,after,none⟩:Oper) (yielded ops a.tmps)=true:=rfl
  unfold gW
  rw[Aq hw]
  intro v1 he1
  unfold wpX
  rw[hr]
  exact h _ _ (hA.put hd x) (he.trans he1)
def dv:D->Value
  |.b x=>.bool x
  |.i k n=>.int k n
  |_=>undef
def pP{W v:World}{dst:Nat}{op:BinOp}{t t2:TypeId}{x y:Operand}{pos:String}{ty:TypeId}{after:Array Edge}{rest:List Oper}{a:Act}{k k':IntKind}{m m':Int}(d:D)(hA:AL n l a)(he:Env W v)(hdst:dst<n)(hx:evL l x=some (.int k m))(hy:evL l y=some (.int k' m'))
    (hd:dG op (bL P t) (.d (.i k m)) (.d (.i k' m'))=some d) (hd2:(∃b,d=.b b)\/∃k n,d=.i k n)
    (h:∀a' v',AL n ((dst,dv d)::l) a'->Env W v'->gW P ops Q rest a' v'):gW P ops Q (⟨some dst,.binOp op t x y t2,ty,pos,after,none⟩::rest) a v:=by
  refine rB _ hA he hdst (λw=>?_) h
  obtain⟨z,⟨h1,h2⟩,hz⟩:=aLd (P:=P) (F:=λ_=>False) (w:=w) (ι:=λ_=>none) (u:=.int k m) (v:=.int k' m') hd (.d _ _ (.i k m)) (.d _ _ (.i k' m')) x y
  have hzd:z=dv d:=by rcases hd2 with ⟨b,rfl⟩|⟨k,n,rfl⟩<;>cases hz<;>rfl
  subst hzd
  simp[execOp,hA.ev hx,hA.ev hy,h1,h2]
def eN{W v:World}{dst:Nat}{x:Operand}{pos:String}{ty:TypeId}{after:Array Edge}{rest:List Oper}{a:Act}{u:Value}(hA:AL n l a)(he:Env W v)(hdst:dst<n)(hx:evL l x=some u)
    (h:∀a' v',AL n ((dst,u)::l) a'->Env W v'->gW P ops Q rest a' v'):gW P ops Q (⟨some dst,.move x,ty,pos,after,none⟩::rest) a v :=
  rB _ hA he hdst (λw=>by simp[execOp,hA.ev hx]) h
def sX{W v:World}{dst:Nat}{x:Operand}{pos:String}{ty:TypeId}{after:Array Edge}{rest:List Oper}{a:Act}{u:Value}(hA:AL n l a)(he:Env W v)(hdst:dst<n)(hx:evL l x=some u)
    (h:∀a' v',AL n ((dst,u)::l) a'->Env W v'->gW P ops Q rest a' v'):gW P ops Q (⟨some dst,.assign x,ty,pos,after,none⟩::rest) a v :=
  rB _ hA he hdst (λw=>by simp[execOp,hA.ev hx]) h
def aPn{W v:World}{dst:Nat}{x:Operand}{pos:String}{ty t e:TypeId}{after:Array Edge}{rest:List Oper}{a:Act}{b:Option Addr}{len cap:Nat}(hA:AL n l a)(he:Env W v)(hdst:dst<n)(ht:P.underlying t=some (.slice e))(hx:evL l x=some (.slice b len cap))
    (h:∀a' v',AL n ((dst,.int .i64 cap)::l) a'->Env W v'->gW P ops Q rest a' v'):gW P ops Q (⟨some dst,.call ⟨.builtin .cap,#[x],#[t]⟩,ty,pos,after,none⟩::rest) a v :=
  rB _ hA he hdst (λw=>by simp[execOp,resolve,invoke,builtin,hA.ev hx,aD ht,Builtin.cap_];rfl) h
def aPm{W v:World}{dst:Nat}{x:Operand}{pos:String}{ty t e:TypeId}{after:Array Edge}{rest:List Oper}{a:Act}{b:Option Addr}{len cap:Nat}(hA:AL n l a)(he:Env W v)(hdst:dst<n)(ht:P.underlying t=some (.slice e))(hx:evL l x=some (.slice b len cap))
    (h:∀a' v',AL n ((dst,.int .i64 len)::l) a'->Env W v'->gW P ops Q rest a' v'):gW P ops Q (⟨some dst,.call ⟨.builtin .len,#[x],#[t]⟩,ty,pos,after,none⟩::rest) a v :=
  rB _ hA he hdst (λw=>by simp[execOp,resolve,invoke,builtin,hA.ev hx,aD ht,Builtin.len_,Builtin.lenOf];rfl) h
def bXd{v:World}{d:Nat}{op:Op}{ty:TypeId}{pos:String}{after:Array Edge}{rest:List Oper}{a:Act}(hA:AL n l a)(hd:d<n)
    (h:∀v1,Env v v1->∃x w1,aK P (execOp a.eval ⟨some d,op,ty,pos,after,none⟩) v1=.ok (.value x) w1/\∀a',AL n ((d,x)::l) a'->gW P ops Q rest a' w1):gW P ops Q (⟨some d,op,ty,pos,after,none⟩::rest) a v:=by
  have hw:Bu (⟨some d,op,ty,pos,after,none⟩:Oper) (yielded ops a.tmps)=true:=rfl
  unfold gW
  rw[Aq hw]
  intro v1 he1
  obtain⟨x,w1,h1,h2⟩:=h v1 he1
  unfold wpX
  rw[h1]
  exact h2 _ (hA.put hd x)
def aEm{W v:World}{dst:Nat}{x hi:Operand}{pos:String}{ty t e:TypeId}{sz:Nat}{after:Array Edge}{rest:List Oper}{a:Act}{b:Option Addr}{len cap:Nat}(hA:AL n l a)(he:Env W v)(hdst:dst<n)(ht:tel P t=some e)(hs:tsz P e=some sz)(hc:len<=cap)(hx:evL l x=some (.slice b len cap))(hh:evL l hi=some (.int .i64 0))(hb:b=none/\cap=0\/0<cap/\∃k,b=some ⟨k,0,none⟩)
    (h:∀a' v',AL n ((dst,.slice b 0 cap)::l) a'->Env W v'->gW P ops Q rest a' v'):gW P ops Q (⟨some dst,.slice t x none (some hi) none,ty,pos,after,none⟩::rest) a v:=by
  refine rB _ hA he hdst (λw=>?_) h
  have hr:=mP (P:=P) w ht hs b len cap hc none (some (.int .i64 0)) none 0 0 (.inl ⟨rfl,rfl⟩) (.inr ⟨_,rfl⟩) (by omega) (by omega) (by omega) cap (.inl ⟨rfl,rfl⟩)
  simp only[execOp,hA.ev hx,hA.ev hh,AU,Option.map_none,Sem.run_bind,hr,Result.andThen_ok]
  rcases hb with ⟨rfl,rfl⟩|⟨h0,k,rfl⟩
  · simp
  · simp[Addr.add,Nat.ne_of_gt h0]
def lA{a:Act}{v:World}(h:Q .normal a v):gW P ops Q [] a v:=h
end
def AL.start(x y:Value)(k:Nat):AL (2+k) [(0,x),(1,y)] ⟨#[x,y]++AY k undef,[]⟩ where
  size:=by simp
  defs:=rfl
  get t z hz:=by
    have h2:∀t,t<2->(#[x,y]++AY k undef:Array Value).getD t undef=(#[x,y]:Array Value).getD t undef:=λt ht=>by simp only[Au];rw[Array.getElem?_append_left (by simpa using ht)]
    match t with
    |0=>rw[FH]at hz;simp at hz;subst hz;show Array.getD _ _ _=_;rw[h2 0 (by decide)];rfl
    |1=>simp[FH]at hz;subst hz;show Array.getD _ _ _=_;rw[h2 1 (by decide)];rfl
    |t+2=>simp[FH]at hz
noncomputable def aXb:TypeInfo:=((Aa).info? 51).get (by kernel_rfl)
def bOh:(Aa).info? 51=some aXb:=by kernel_rfl
noncomputable def bCx:Value:=aXb.zero.get (by kernel_rfl)
def aWz:aXb.zero=some bCx:=by kernel_rfl
def aWy:bCx.cells.size=1:=by kernel_rfl
def aXa:aXb.size=1:=by kernel_rfl
def aPu:aXb.bytes=8:=by kernel_rfl
def bIp[M : Mch Aa](n : Nat)(W : World)(h0 : 0 < n)(hn : n <= 1000000) : CX Aa 103 #[.slice none 0 0, .int .i64 n] W λx w' => ∃b G ROW, n <= G /\ G <= maxLen /\ G <= ROW.size /\ W.heap.size <= b /\
      x=.slice (some ⟨b,0,none⟩) 0 G/\w'.heap[b]? = some (.cells ROW 51 (0,0))/\Below W.heap.size W w':=by
  refine gF Tryz.func103 rfl ?_
  have hu46:(Aa).underlying 46=some (.slice 51):=by kernel_rfl
  have hu3:(Aa).underlying 3=some (.int .i64):=by kernel_rfl
  have e0:Env W W:=.refl W
  have hb0:∀t,dG .sub t (.d (.i .i64 0)) (.d (.i .i64 0))=some (.i .i64 0):=λt=>by simp[dG,arith];decide
  have hwn:Ah.wrap (n:Int)=n:=aP
  have hb1:∀t,dG .sub t (.d (.i .i64 (n:Int))) (.d (.i .i64 0))=some (.i .i64 n):=λt=>by simp[dG,arith,hwn]
  have hA:AL 27 [(0,.slice none 0 0),(1,.int .i64 n)] { tmps:=#[EW none 0 0,FI .i64 n]++AY (Fs.ntmps - #[EW none 0 0,FI .i64 n].size) undef,defers:=[] }:=AL.start _ _ 25
  generalize({ tmps:=#[EW none 0 0,FI .i64 n]++AY (Fs.ntmps - #[EW none 0 0,FI .i64 n].size) undef,defers:=[] }:Act)=a0 at hA ⊢
  refine eJ (iH ?_)
  refine sX hA e0 (by decide) rfl λa v hA e1=>lA ?_
  refine eJ (eJ (iH ?_))
  refine eN hA e1 (by decide) rfl λa v hA e2=>?_
  refine pP (.b false) hA e2 (by decide) rfl rfl (by simp[dG,arith]) (.inl ⟨_,rfl⟩) λa v hA e3=>lA ?_
  refine nR (t:=false) (hA.get _ _ rfl) (yY ?_)
  refine eJ (eJ (iH ?_))
  refine eN hA e3 (by decide) rfl λa v hA e4=>?_
  refine eN hA e4 (by decide) rfl λa v hA e5=>?_
  refine aPn hA e5 (by decide) hu46 rfl λa v hA e6=>?_
  refine eN hA e6 (by decide) rfl λa v hA e7=>?_
  refine aPm hA e7 (by decide) hu46 rfl λa v hA e8=>?_
  refine pP (.i .i64 0) hA e8 (by decide) rfl rfl (hb0 _) (.inr ⟨_,_,rfl⟩) λa v hA e9=>?_
  refine pP (.i .i64 n) hA e9 (by decide) rfl rfl (hb1 _) (.inr ⟨_,_,rfl⟩) λa v hA e10=>?_
  refine sX hA e10 (by decide) rfl λa v hA e11=>lA ?_
  refine eJ (iH ?_)
  refine eN hA e11 (by decide) rfl λa v hA e12=>?_
  refine pP (.b true) hA e12 (by decide) rfl rfl (by simp[dG,arith,h0]) (.inl ⟨_,rfl⟩) λa v hA e13=>lA ?_
  refine nR (t:=true) (hA.get _ _ rfl) (iH ?_)
  refine eN hA e13 (by decide) rfl λa v hA e14=>?_
  refine eN hA e14 (by decide) rfl λa v hA e15=>?_
  refine aPn hA e15 (by decide) hu46 rfl λa v hA e16=>?_
  refine aEm (e:=51) (sz:=1) hA e16 (by decide) (by kernel_rfl) (by kernel_rfl) (Ay _) rfl rfl (.inl ⟨rfl,rfl⟩) λa v hA e17=>?_
  refine eN hA e17 (by decide) rfl λa v hA e18=>?_
  refine bXd hA (by decide) λw e19=>?_
  have e20:=e18.trans e19
  obtain⟨G,hG⟩:∃G,G=grownCap w n 0 51:=⟨_,rfl⟩
  obtain⟨ROW,hROW⟩:∃ROW,ROW=C7 bCx.cells n++C7 bCx.cells (G-n):=⟨_,rfl⟩
  have hGn:n<=G:=hG ▸ grownCap_ge w _ _ _
  have hGm:G<=maxLen:=hG ▸ grownCap_le_maxLen w n 0 51 (by unfold maxLen;omega)
  have hRl:G<=ROW.size:=by rw[hROW];simp only[Array.size_append,C7,Array.size_map,Array.size_range,aWy];omega
  refine⟨.slice (some ⟨w.heap.size,0,none⟩) n G,w.drew.alloc (.cells ROW 51),?_,λa hA=>?_⟩
  · have hr:=uA w 46 3 46 51 aXb bCx .i64 .i64 hu46 hu3 bOh aWz n h0 (by rw[aXa];decide) (by omega) (by rw[aPu];omega)
    rw[<-hG,<-hROW]at hr
    simp only[execOp,resolve,invoke,builtin]
    simp[hA.get 20 _ rfl,hA.get 21 _ rfl,dv,hr]
  have hw0:Below W.heap.size W w:=by exact⟨e20.os,e20.tape,e20.output,e20.size,λk hk=>e20.get hk⟩
  have hb:Below W.heap.size W (w.drew.alloc (.cells ROW 51)):=by have h:=hw0.alloc hw0.size (.cells ROW 51);exact⟨h.os,h.tape,h.output,h.size,h.block⟩
  have hat:(w.drew.alloc (.cells ROW 51)).heap[w.heap.size]? = some (.cells ROW 51 (0,0)):=by simp only[World.alloc,World.drew];rw[Array.getElem?_push,Aq rfl]
  have hsz:w.heap.size<(w.drew.alloc (.cells ROW 51)).heap.size:=by simp only[World.alloc,World.drew,Array.size_push];omega
  generalize w.drew.alloc (.cells ROW 51)=W1 at hb hat hsz ⊢
  have f0:Env W1 W1:=.refl _
  have hG0:0<G:=by omega
  refine eN hA f0 (by decide) rfl λa v hA f1=>?_
  refine aPm hA f1 (by decide) hu46 rfl λa v hA f2=>?_
  refine aEm (e:=51) (sz:=1) hA f2 (by decide) (by kernel_rfl) (by kernel_rfl) hGn rfl rfl (.inr ⟨hG0,_,rfl⟩) λa v hA f3=>?_
  refine sX hA f3 (by decide) rfl λa v hA f4=>lA ?_
  refine eJ (iH ?_)
  refine eN hA f4 (by decide) rfl λa v hA f5=>?_
  refine sX hA f5 (by decide) rfl λa v hA f6=>lA (zY ?_)
  refine⟨hA.defs,λv1 f7=>⟨.slice (some ⟨w.heap.size,0,none⟩) 0 G,?_,w.heap.size,G,ROW,hGn,hGm,hRl,e20.size,rfl,?_,?_⟩⟩
  · have hr:=hA.get 4 _ rfl
    show aK _ (results _ a.tmps) v1=_
    have hrs:Fs.results=#[.tmp 4]:=rfl
    simp only[results,hrs]
    simp only[Dk,Au]at hr
    simp[hr]
  · rw[(f6.trans f7).get hsz];exact hat
  · have f8:=f6.trans f7
    exact⟨f8.os.trans hb.os,f8.tape.trans hb.tape,f8.output.trans hb.output,AR hb.size f8.size,λk hk=>(f8.get (A6 hk hb.size)).trans (hb.block k hk)⟩
def aZs[M:Mch Aa](W:World):CX Aa 103 #[.slice none 0 0,.int .i64 0] W λx w'=>x=.slice none 0 0/\Below W.heap.size W w':=by
  refine gF Tryz.func103 rfl ?_;have hu46:(Aa).underlying 46=some (.slice 51):=by kernel_rfl
  have e0:Env W W:=.refl W;have hb0:∀t,dG .sub t (.d (.i .i64 0)) (.d (.i .i64 0))=some (.i .i64 0):=λt=>by simp[dG,arith];decide
  have hA:AL 27 [(0,.slice none 0 0),(1,.int .i64 0)] { tmps:=#[EW none 0 0,FI .i64 0]++AY (Fs.ntmps - #[EW none 0 0,FI .i64 0].size) undef,defers:=[] }:=AL.start _ _ 25;generalize({ tmps:=#[EW none 0 0,FI .i64 0]++AY (Fs.ntmps - #[EW none 0 0,FI .i64 0].size) undef,defers:=[] }:Act)=a0 at hA ⊢;refine eJ (iH ?_);refine sX hA e0 (by decide) rfl λa v hA e1=>lA ?_
  refine eJ (eJ (iH ?_));refine eN hA e1 (by decide) rfl λa v hA e2=>?_
  refine pP (.b false) hA e2 (by decide) rfl rfl (by simp[dG,arith]) (.inl ⟨_,rfl⟩) λa v hA e3=>lA ?_
  refine nR (t:=false) (hA.get _ _ rfl) (yY ?_);refine eJ (eJ (iH ?_));refine eN hA e3 (by decide) rfl λa v hA e4=>?_
  refine eN hA e4 (by decide) rfl λa v hA e5=>?_
  refine aPn hA e5 (by decide) hu46 rfl λa v hA e6=>?_
  refine eN hA e6 (by decide) rfl λa v hA e7=>?_
  refine aPm hA e7 (by decide) hu46 rfl λa v hA e8=>?_
  refine pP (.i .i64 0) hA e8 (by decide) rfl rfl (hb0 _) (.inr ⟨_,_,rfl⟩) λa v hA e9=>?_
  refine pP (.i .i64 0) hA e9 (by decide) rfl rfl (hb0 _) (.inr ⟨_,_,rfl⟩) λa v hA e10=>?_
  refine sX hA e10 (by decide) rfl λa v hA e11=>lA ?_
  refine eJ (iH ?_);refine eN hA e11 (by decide) rfl λa v hA e12=>?_
  refine pP (.b false) hA e12 (by decide) rfl rfl (by simp[dG,arith]) (.inl ⟨_,rfl⟩) λa v hA e13=>lA ?_
  refine nR (t:=false) (hA.get _ _ rfl) (yY ?_);refine eJ (iH ?_);refine eN hA e13 (by decide) rfl λa v hA e14=>?_
  refine sX hA e14 (by decide) rfl λa v hA e15=>lA (zY ?_)
  refine⟨hA.defs,λv1 f7=>⟨.slice none 0 0,?_,rfl,?_⟩⟩
  · have hr:=hA.get 4 _ rfl
    show aK _ (results _ a.tmps) v1=_
    have hrs:Fs.results=#[.tmp 4]:=rfl
    simp only[results,hrs]
    simp only[Dk,Au]at hr
    simp[hr]
  · have f8:=e15.trans f7
    exact⟨f8.os,f8.tape,f8.output,f8.size,λk hk=>f8.get hk⟩
def aKo{vs:Array Value}(h:2=vs.size):∃v0 v1,vs=#[v0,v1]:=by
  obtain⟨v0,hv0⟩:∃v1,vs[0]? = some v1:=⟨vs[0],Al (by omega)⟩;obtain⟨v1,hv1⟩:∃v1,vs[1]? = some v1:=⟨vs[1],Al (by omega)⟩;refine⟨v0,v1,?_⟩;apply Array.ext_getElem?;intro k;match k with
  |0=>simpa using hv0
  |1=>simpa using hv1
  |k+2=>rw[Array.getElem?_eq_none (by omega)];simp
def xX(vs:Array Value)(w:World):aK Aa (callFunc 103 vs) w=.ok (.enter 103 vs) w:=by
  have hn:¬ Fs.name = "runtime.NumGoroutine" := by
    have:(Fs.name == "runtime.NumGoroutine")=false:=rfl
    simpa using this
  have hb:Fs.body=some _:=rfl;simp[callFunc,Tryz.func103,hn,hb]
def cDj[M:Mch Aa](n:Nat)(h0:0<n)(hn:n<=1000000):aDn Aa 103 [.nil,.d (.i .i64 (n:Int))] (λm=>.own m 0 0 1) (λ_=>[.cells 51 []]):=by
  intro A W vs hA hl hv;obtain⟨v0,v1,rfl⟩:=aKo hl;have h1:=hv 0 _ v0 rfl rfl;cases h1;have h2:=hv 1 _ v1 rfl rfl;cases h2 with|d _ _ h2 =>
  cases h2;refine⟨xX _,?_⟩;refine(bIp n W h0 hn).mono ?_;rintro e w' ⟨b,G,ROW,hG,hGm,hR,hbW,rfl,hat,hb⟩;have hsz:b<w'.heap.size:=bF hat;refine⟨hb,λm hm=>⟨A,λid=>if id=m then some b else none,λb h=>.inl h,?_,λid=>?_,λid b' h=>?_,λi o b' ho hb'=>?_,λid id' b' h h'=>?_⟩⟩
  · have:=V.own (F:=A) (w:=w') (ι:=λid=>if id=m then some b else none) m 0 0 1 b G ROW 51 (Aq rfl) hat (by omega) (by omega) hGm
    rwa [DS]at this
  · constructor
    · rintro⟨b',h⟩
      simp only at h
      split at h
      · rename_i e;subst e;exact⟨Ay _,by simp⟩
      · cases h
    · rintro⟨h1,h2⟩
      have e:id=m:=by simp at h2;omega
      exact⟨_,Aq e⟩
  · simp only at h
    split at h
    · injection h with h;subst h
      exact⟨hbW,hsz,λh=>Nat.lt_irrefl _ (A6 (hA _ h) hbW)⟩
    · cases h
  · have hi:i=0:=by have:=(Ao.1 ho).1;simp at this;exact this
    subst hi
    simp at ho;subst ho
    simp at hb';subst hb'
    exact⟨_,hat,.cells _ _ _ (A1 _) λk c h=>by simp at h⟩
  · simp only at h h'
    split at h
    · rename_i e
      split at h'
      · rename_i e';exact e.trans e'.symm
      · cases h'
    · cases h
def cAd[M:Mch Aa]:aDn Aa 103 [.nil,.d (.i .i64 0)] (λ_=>.nil) (λ_=>[]):=by
  intro A W vs hA hl hv;obtain⟨v0,v1,rfl⟩:=aKo hl;have h1:=hv 0 _ v0 rfl rfl;cases h1;have h2:=hv 1 _ v1 rfl rfl;cases h2 with|d _ _ h2 =>
  cases h2;refine⟨xX _,?_⟩;refine(aZs W).mono ?_;rintro e w' ⟨rfl,hb⟩;exact⟨hb,λm hm=>⟨A,λ_=>none,λb h=>.inl h,.nil,λid=>⟨λ⟨b,h⟩=>(by cases h),λh=>(by simp at h;omega)⟩,λid b h=>(by cases h),λi o b h=>(by simp at h),λid id' b h h'=>(by cases h)⟩⟩
end Go.Am
end
section
open List renaming map_map->I,mapM_map->O
open Go Go.Am Go.Proofs
namespace Go.Am
def jB(l:List Nat):one (.d (bU l))=true:=rfl
def eH(l:List Nat):cY (.d (bU l))=some [.d (bU l)]:=rfl
def gR(l:List Nat):aL (bU l)=.d (bU l):=rfl
def bJh(H:Hp)(n:Nat):gX H n []=H:=by funext id;unfold gX;rw[Ai (by simp)]
def vE(H:Hp)(n:Nat)(o:HO):gX H n [o]=upd H n (some o):=by
 funext id;unfold gX upd;by_cases h:id=n
 ·subst h;simp
 ·rw[Ai (by simp;omega)];simp[h]
def aVz(l:List Nat):((l.map λ(p:Nat)=>[D.i .u64 (p:Int)]).map (Cj AV.d)).flatten=(dU l).map AV.d:=by
 induction l with
 |nil=>rfl
 |cons x l ih=>simp only[BO,CG,ih];rfl
def cAr(a b:List Nat):dU (a++b)=dU a++dU b:=by simp[dU]
def bTz(l:List Nat):((dU l).map AV.d).all one=true:=by rw[A3];intro x hx;obtain⟨d,hd,rfl⟩:=AM.1 hx;obtain⟨p,_,rfl⟩:=AM.1 hd;rfl
def aGf(a b:List Nat):D:=.sl [[bU a],[bU b]]
def aWc[M:Mch Aa](a b:List Nat)(ha:a.length<=10000)(hb:b.length<=10000):Spec Aa 58 [aGf a b] (bU (a++b)):=by
 have hw0:Ah.wrap (a.length:Int)=(a.length:Int):=aP;have hw1:Ah.wrap ((a.length:Int)+b.length)=(a.length:Int)+b.length:=aP;have hwz:Ah.wrap 1=1:=by decide
 have hwz2:Ah.wrap 2=2:=by decide
 have h00:¬(a.length:Int)<0:=by omega
 have h01:¬(a.length:Int)+b.length<0:=by omega
 refine aX (N:=36) Tryz.func58 ?_;simp[-I,-O,↓KW,aGf,jB,eH,gR];refine eD 3 ?_;simp[-I,-O,↓KW,↓aE,↓aA,↓aF,↓aG,aGf,bU,jB,eH,gR,hw0,hw1,hwz,hwz2,h00,h01];by_cases hab:a.length+b.length=0
 ·have ea:a=[]:=B1 (by omega);have eb:b=[]:=B1 (by omega);subst ea;subst eb;refine aFg (λ_=>.nil) (λ_=>[]) (by simp) (by simp) (by simp) (by rfl) (by simpa[aIi,aPt]using cAd) ?_;simp[-I,-O,↓KW,bJh,bU];refine eD 3 ?_;simp[-I,-O,↓KW,↓aE,↓aA,↓aF,↓aG,aGf,bU,jB,eH,gR,hwz,hwz2]
 ·refine aFg (λm=>.own m 0 0 1) (λ_=>[.cells 51 []]) (by simp) (by simp) (by simp) (by rfl) (by simpa[aIi,aPt]using cDj (a.length+b.length) (by omega) (by omega)) ?_;have hok:∀l:List Nat,fH 1 (l.map λ(p:Nat)=>[D.i .u64 (p:Int)])=true:=λl=>by cases l<;>simp[fH]
  have hff:=aVz;have hla:=dZ a;have hlb:=dZ b;have hbb:a.length*8<=140737488355328/\a.length<=maxLen:=⟨by omega,bJ (by omega)⟩;have hbb2:(a.length+b.length)*8<=140737488355328/\a.length+b.length<=maxLen:=⟨by omega,bJ (by omega)⟩;have hab':(a++b).length=a.length+b.length:=Bc;have e1:D9 (a.length+b.length) ((dU (a++b)).map AV.d)=(dU (a++b)).map AV.d:=iS hab';have e2:chunk 1 (a.length+b.length) (dU (a++b))=(a++b).map λ(p:Nat)=>[D.i .u64 (p:Int)]:=nL hab'
  have e3:=dZ (a++b);rw[hab']at e3;have e4:(dU a).map AV.d++(dU b).map AV.d=(dU (a++b)).map AV.d:=by rw[cAr,EL]
  have hone:=bTz;simp[-I,-O,↓KW,vE,bU];refine eD 3 ?_;simp[-I,-O,↓KW,↓aE,↓aA,↓aF,↓aG,aGf,bU,jB,eH,gR,hwz,hwz2,bMa,hok,hone,hff,hla,hlb,hbb,hbb2,e1,e2,e3,e4]
def qK(l:List Nat):inj (bU l)=.d (bU l):=rfl
def lL(H:Hp)(avs:List AV)(l:List Nat):aZ H avs (bU l)=bV H avs:=rfl
def bRk[M:Mch Aa](n:Nat):Spec Aa 59 [bK 0,.i .u64 n] (bU []):=by have hE:=aVt 0 (sY (by decide)) (sY (by decide)) (by decide);have h0:encZ 0=bK 0:=cX 0;rw[h0]at hE;simp only[decide_true]at hE;refine pT (N:=31) aR Tryz.func59 rfl rfl rfl (by kernel_rfl) (by kernel_rfl) (by simp) ?_;refine cS (by kernel_rfl) ?_;simp[-I,-O,↓KW,↓aE,↓aA,↓aF,↓aG,aN 0,gJ,lH];refine cS (by kernel_rfl) ?_;simp[-I,-O,↓KW,↓aE,↓aA,↓aF,↓aG,aN 0,aH];refine aC hE ?_;simp[-I,-O,↓KW,↓aE,↓aA,↓aF,↓aG,aN 0,aH,bU]
def fX(c:Nat):Nat->List Nat->List Nat
 |acc,[]=>[]
 |acc,p::l=>if c<acc then[]else p::fX c (acc*p) l
def kQ(c:Nat):∀(l:List Nat) (acc:Nat),∃k,fX c acc l=l.take k
 |[],acc=>⟨0,by simp[fX]⟩
 | p::l,acc=>by
  unfold fX;split
  ·exact⟨0,rfl⟩
  ·obtain⟨k,hk⟩:=kQ c l (acc*p);exact⟨k+1,by simp[hk]⟩
def aFo(c:Nat):∀(l:List Nat) (acc:Nat),c<acc*dB l->c<acc*dB (fX c acc l)
 |[],acc,h=>by simpa[fX]using h
 | p::l,acc,h=>by
  unfold fX;split
  ·rename_i h1;simpa[dB]using h1
  ·have:=aFo c l (acc*p) (by simpa[dB,B2]using h);simpa[dB,B2]using this
def wT(c:Nat):∀(l:List Nat) (acc k:Nat),k<(fX c acc l).length->acc*dB ((fX c acc l).take k)<=c
 |[],acc,k,h=>by simp[fX]at h
 | p::l,acc,k,h=>by
  unfold fX at h ⊢;split
  ·rename_i h1;simp[h1]at h
  ·rename_i h1;rw[Ai h1]at h;cases k with
   |zero=>simp[dB];omega
   | succ k =>
    have:=wT c l (acc*p) k (by simpa using h);simpa[dB,B2]using this
def aZc{b:Nat}{l:List Nat}(h:2*b<dB l):Ndd b (fX (2*b) 1 l) where
 big:=by have:=aFo (2*b) l 1 (by simpa using h);simpa using this
 low k hk:=by have:=wT (2*b) l 1 k hk;simpa using this
def wpL(b k:Nat):List Nat:=P10.take (2*k)++fX (2*b) 1 (P10.drop (2*k))
def bWz[M:Mch Aa](b:Nat)(N:List Nat)(hN:N.length<=1000)(hNe:Spec Aa 59 [bK b,.i .u64 2147483648] (bU N)):Spec Aa 19 [bK b,.i .i64 0] (bU N):=by have hPr:=aLx 2147483648;have hC:=aWc [] N (by simp) (by omega);rw[Dv]at hC;refine aX (N:=26) Tryz.func19 ?_;simp[-I,-O,↓KW,aN b,gJ,lH];refine aC hPr ?_;have hnil:bU []=.sl []:=rfl;simp[-I,-O,↓KW,hnil,aH];refine aC hNe ?_;simp[-I,-O,↓KW,jB,eH,gR,qK,lL];refine aC hC ?_;simp[-I,-O,↓KW,jB,eH,gR,qK,lL]
def aGy[M:Mch Aa](b k p:Nat)(T N:List Nat)(hN:N.length<=1000)(hk:k<=3)(hT:T.length+1=2*k)(hPr:Spec Aa 57 [.i .u64 2147483648,.i .i64 ((2*k:Nat):Int)] (bU (T++[p])))(hNe:Spec Aa 59 [bK b,.i .u64 p] (bU N)):Spec Aa 19 [bK b,.i .i64 k] (bU (T++[p]++N)):=by
 have hC:=aWc (T++[p]) N (by simp;omega) (by omega);have hmin:(if(1073741824:Int)<(k:Int)then(1073741824:Int)else(k:Int))=k:=by rw[Ai (by omega)]
 have hw:Ah.wrap (2*(k:Int))=((2*k:Nat):Int):=by rw[show 2*(k:Int)=((2*k:Nat):Int)from by omega];exact aP
 have hwl:Ah.wrap (T.length:Int)=(T.length:Int):=aP;have h0:(0:Int)<(T.length:Int)+1:=by omega
 refine aX (N:=26) Tryz.func19 ?_;simp[-I,-O,↓KW,aN b,gJ,lH];rw[hmin];simp[-I,-O,↓KW,hw];refine aC hPr ?_;have hlen:∃l,bU (T++[p])=.sl l/\l.length=T.length+1/\l[T.length]? = some [.i .u64 (p:Int)]:=⟨_,rfl,by simp,by simp⟩;obtain⟨l,hl,hl1,hl2⟩:=hlen;have hl3:inj (bU (T++[p]))=.d (.sl l):=by rw[qK,hl]
 have hl4:aGf (T++[p]) N=.sl [[.sl l],[bU N]]:=by rw[<-hl];rfl
 rw[hl4]at hC;have hl5:∀h,l[T.length]'h=[.i .u64 (p:Int)]:=λh=>by rw[Ab h]at hl2;injection hl2
 simp[-I,-O,↓KW,hl3,lL,hl1,h0,hwl,hl2,hl5,jB,eH,gR,aH];refine aC hNe ?_;simp[-I,-O,↓KW,jB,eH,gR,qK,lL];refine aC hC ?_;simp[-I,-O,↓KW,jB,eH,gR,qK,lL]
def uF:P10.length=10:=rfl
def aZf{c acc:Nat}{l:List Nat}{p:Nat}(h:p∈fX c acc l):p∈l:=by obtain⟨k,hk⟩:=kQ c l acc;rw[hk]at h;exact Bw h
def cAv:∀k:Nat,k<=3->2*2^96<dB (P10.drop (2*k)):=by decide
def bRj[M:Mch Aa](b k:Nat)(hb:b<2^96)(hk:k<=3):Spec Aa 59 [bK b,.i .u64 ((if 2*k=0 then 2147483648 else P10[2*k-1]! : Nat):Int)] (bU (fX (2*b) 1 (P10.drop (2*k)))):=by
 have hbig:=cAv k hk;have hD:=jJ.drop (k:=2*k) bKf (by rw[uF];omega);have hm:∀p∈P10.drop (2*k),p∈P10:=λp hp=>List.mem_of_mem_drop hp
 have hln:(P10.drop (2*k)).length<=10:=by rw[CZ,uF];omega
 generalize(if 2*k=0 then 2147483648 else P10[2*k-1]! : Nat)=n at *;generalize P10.drop (2*k)=L at *;rcases A7 b with h0|h0
 ·subst h0;have e:fX (2*0) 1 L=[]:=by
   cases L with
   |nil=>rfl
   |cons p L=>rfl
  rw[e];exact bRk n
 ·have hN:=aZc (b:=b) (l:=L) (by omega);have hlow:=wT (2*b) L 1;have hmm:∀p∈fX (2*b) 1 L,p∈P10:=λp hp=>hm p (aZf hp)
  obtain⟨j,hj⟩:=kQ (2*b) L 1;have hD2:jJ n (fX (2*b) 1 L):=by rw[hj];exact jJ.take hD
  generalize fX (2*b) 1 L=N at *;have hl6:N.length<=7:=by
   refine BW λhc=>?_
   have h8:=hlow 7 (by omega);have hmin:∀l:List Nat,(∀p∈l,1073741824<=p)->1073741824^l.length<=dB l:=by
    intro l;induction l with
    |nil=>intro _;simp[dB]
    | cons x l ih =>
     intro h;rw[Ak,BR,B5];exact A9 (h x (AI ..)) (ih λp hp=>h p (AE _ hp))
   have hge:∀p∈P10,1073741824<=p:=by decide
   have h9:=hmin (N.take 7) λp hp=>hge p (hmm p (Bw hp))
   have hl7:(N.take 7).length=7:=by rw[AZ];omega
   rw[hl7]at h9;have h10:(1073741824:Nat)^7=2^210:=by decide
   have h11:(2:Nat)^96*2^114=2^210:=by decide
   have h12:(2:Nat)^114=20769187434139310514121985316880384:=by decide
   have h13:(2:Nat)^96=79228162514264337593543950336:=by decide
   omega
  cases N with
  |nil=>exact absurd hN.big (by simp[dB];omega)
  |cons p0 ps=>exact aRj b n p0 ps (by omega) h0 hD2 (by simp at hl6;omega) hN λp hp=>cBp (hmm p hp)
def zA[M:Mch Aa](b k:Nat)(hb:b<2^96)(hk:k<=3):Spec Aa 19 [bK b,.i .i64 k] (bU (wpL b k)):=by
 have hN:=bRj b k hb hk;have hl:(fX (2*b) 1 (P10.drop (2*k))).length<=1000:=by
  obtain⟨j,hj⟩:=kQ (2*b) (P10.drop (2*k)) 1;have:=List.length_take_le' j (P10.drop (2*k));have h2:(P10.drop (2*k)).length<=10:=by rw[CZ,uF];omega
  rw[hj];omega
 have hd:=bKf;unfold wpL;have hk4:k=0\/k=1\/k=2\/k=3:=by omega
 rcases hk4 with rfl|rfl|rfl|rfl
 ·exact bWz b _ hl hN
 ·exact aGy b 1 2147483629 [2147483647] _ hl (by omega) rfl (tF 2147483648 2147483647 [2147483629] (jJ.take (k:=2) hd) (by decide)) hN
 ·exact aGy b 2 2147483579 [2147483647,2147483629,2147483587] _ hl (by omega) rfl (tF 2147483648 2147483647 [2147483629,2147483587,2147483579] (jJ.take (k:=4) hd) (by decide)) hN
 ·exact aGy b 3 2147483549 [2147483647,2147483629,2147483587,2147483579,2147483563] _ hl (by omega) rfl (tF 2147483648 2147483647 [2147483629,2147483587,2147483579,2147483563,2147483549] (jJ.take (k:=6) hd) (by decide)) hN
def Pr3(n:Nat):Prop:=2<=n/\n<2147483648/\∀d,2<=d->d*d<=n->n%d≠0
def bFo[M:Mch Aa](n:Nat)(b:Bool)(hb:b=true↔Pr3 n)(hn:n<18446744073709551616):Spec Aa 98 [.i .u64 n] (.b b):=by
 refine aX (N:=21) Tryz.func98 ?_;simp[-I,-O,↓KW];by_cases h1:n<2
 ·have hbf:b=false:=by
   cases b with
   |false=>rfl
   |true=>have:=hb.1 rfl;unfold Pr3 at this;omega
  have hi:decide ((n:Int)<2)=true:=by simp;omega
  subst hbf;simp[-I,-O,↓KW,hi,h1]
 by_cases h2:2147483648<=n
 ·have hbf:b=false:=by
   cases b with
   |false=>rfl
   |true=>have:=hb.1 rfl;unfold Pr3 at this;omega
  subst hbf;have hi:¬((n:Int)<2):=by omega
  have hj:(2147483648:Int)<=(n:Int):=by omega
  simp[-I,-O,↓KW,hi,hj,h1,h2]
 have hi:¬((n:Int)<2):=by omega
 have hj:¬(2147483648:Int)<=(n:Int):=by omega
 simp[-I,-O,↓KW,hi,hj,h1,h2];refine cB (τ:=Nat) (λd=>2<=d/\d<=46341/\∀e,2<=e->e<d->n%e≠0) (λd=>StL [(0,.d (.i .u64 n)),(3,.d (.i .u64 d))] none []) (λd=>46341-d) 2 ⟨by omega,by omega,λe h1 h2=>by omega⟩ ?_ ?_
 ·refine wkQ [] ?_ ?_<;>simp[-I,upd,aL,Γ0]
 ·rintro d ⟨h3,h4,h5⟩;have hw:AB.wrap ((d:Int)*(d:Int))=((d*d:Nat):Int):=by rw[<-Cd];have:=A9 h4 h4;exact wrap_u64 (by omega) (by omega)
  have hd0:((d:Int)==0)=false:=by simp;omega
  have hd1:¬d=0:=by omega
  have htm:((n:Int).tmod (d:Int))=((n%d:Nat):Int):=by rw[Ca (by omega)];rfl
  have hw1:AB.wrap ((d:Int)+1)=((d+1:Nat):Int):=wrap_u64 (by omega) (by omega);by_cases hd:d*d<=n
  ·have hle:decide (((d*d:Nat):Int)<=(n:Int))=true:=by simp only[BC];omega
   have hd2:d<46341:=by
    refine BW λhc=>?_
    have:d=46341:=by omega
    subst this;omega
   by_cases hz:n%d=0
   ·have hbf:b=false:=by
     cases b with
     |false=>rfl
     |true=>exact absurd hz ((hb.1 rfl).2.2 d h3 hd)
    have hzi:(((n%d:Nat):Int)==0)=true:=by rw[hz];rfl
    subst hbf;generalize d*d=dd at *;generalize n%d=r at *;simp[-I,-O,↓KW,hw,hd,hd0,hd1,htm,hzi]
   ·have hzi:(((n%d:Nat):Int)==0)=false:=by simp;omega
    have hst:∀e,2<=e->e<d+1->n%e≠0:=λe g1 g2=>by
     by_cases g:e=d
     ·subst g;exact hz
     ·exact h5 e g1 (by omega)
    generalize d*d=dd at *;generalize n%d=r at *;simp[-I,-O,↓KW,hw,hd,hd0,hd1,htm,hzi,hw1];refine aI (d+1) ⟨by omega,by omega,hst⟩ (by show 46341-(d+1)<46341-d;omega) (wkQ [] ?_ ?_)<;>simp[-I,upd,aL,Γ0]
  ·have hle:decide (((d*d:Nat):Int)<=(n:Int))=false:=by simp only[Ey];omega
   have hbt:b=true:=hb.2 ⟨by omega,by omega,λe g1 g2=>h5 e g1 (by
    refine BW λhc=>hd ?_
    exact AR (A9 (by omega) (by omega)) g2)⟩
   subst hbt;generalize d*d=dd at *;simp[-I,-O,↓KW,hw,hd]
def sL(n:Nat):Nat->Nat->Bool
 |0,d=>!(Nat.beq (n%d) 0)
 |k+1,d=>sL n k d&&sL n k (d+2*2^k)
def aIn{n:Nat}:∀{k d:Nat},sL n k d=true->∀i,i<2^k->n%(d+2*i)≠0
 | 0,d,h,i,hi=>by
  have:i=0:=by simpa using hi
  subst this;intro hz;unfold sL at h;simp only[Dg,B6]at hz;rw[hz]at h;cases h
 | k+1,d,h,i,hi=>by
  unfold sL at h;simp only[A8]at h;by_cases hk:i<2^k
  ·exact aIn h.1 i hk
  ·have:=aIn h.2 (i-2^k) (by rw[BR]at hi;omega);rwa [show d+2*2^k+2*(i-2^k)=d+2*i from by omega]at this
def mR{n:Nat}(h0:2<=n)(h1:n<2147483648)(h2:n%2≠0)(h3:sL n 15 3=true):Pr3 n:=by
 refine⟨h0,h1,λd g1 g2 hz=>?_⟩;have hd:d<46341:=by
  refine BW λhc=>?_
  have:=A9 (show 46341<=d by omega) (show 46341<=d by omega);omega
 rcases Gc d with he|he
 ·have:=Nat.mod_mod_of_dvd n (Cs he);rw[hz]at this;exact h2 this.symm
 ·have hk:=aIn h3 ((d-3)/2) (by show(d-3)/2<32768;omega);rw[show 3+2*((d-3)/2)=d from by omega]at hk;exact hk hz
def np0:sL 2147483647 15 3=true:=by kernel_rfl
def np1:sL 2147483629 15 3=true:=by kernel_rfl
def np2:sL 2147483587 15 3=true:=by kernel_rfl
def np3:sL 2147483579 15 3=true:=by kernel_rfl
def np4:sL 2147483563 15 3=true:=by kernel_rfl
def np5:sL 2147483549 15 3=true:=by kernel_rfl
def np6:sL 2147483543 15 3=true:=by kernel_rfl
def np7:sL 2147483497 15 3=true:=by kernel_rfl
def np8:sL 2147483489 15 3=true:=by kernel_rfl
def np9:sL 2147483477 15 3=true:=by kernel_rfl
def aPf[M:Mch Aa]:Nat->List Nat->Prop
 |_,[]=>True
 |n,p::l=>0<p/\p<2147483648/\Spec Aa 60 [.i .u64 n] (.i .u64 p)/\aPf p l
def szR{z:Int}(h:z.natAbs<2^256):(aJ z.natAbs).length<=137438953472/\(aJ z.natAbs).length<=549755813888:=by have:=cU (n:=z.natAbs) (k:=8) (A6 h (by decide));omega
def aUi[M:Mch Aa](x y:Int)(hx:x.natAbs<2^255)(hy:y.natAbs<2^255):Spec Aa 23 [encZ x,encZ y] (.i .i64 (x-y).sign):=by have hS:=aIc x y (szR (by omega)).2 (szR (by omega)).2;have hG:=lG (x-y);generalize x-y=z at *;refine aX (N:=9) Tryz.func23 ?_;simp[-I,-O,↓KW,bB x,bB y,aH];refine aC hS ?_;simp[-I,-O,↓KW,bB z,aH];refine aC hG ?_;simp[-I,-O,↓KW]
def aIe[M:Mch Aa]{x y:Nat}(hx:x<2^255)(hy:y<2^255):Spec Aa 22 [bK x,bK y] (bK (x+y)):=by have:=uE (x:Int) (y:Int) (szR (by simp;omega)).2 (szR (by simp;omega)).2;rwa [<-DM,cX,cX,cX]at this
def aId[M:Mch Aa]{x y:Nat}(hx:x<2^255)(hy:y<2^255):Spec Aa 24 [bK x,bK y] (bK (x*y)):=by have:=jT (x:Int) (y:Int) (szR (by simp;omega)).1 (szR (by simp;omega)).1;rwa [<-Cd,cX,cX,cX]at this
def aAt[M:Mch Aa]{x:Nat}(hx:x<9223372036854775808):Spec Aa 11 [.i .i64 x] (bK x):=by have:=aLs (x:Int) (by omega) (by omega);rwa [cX]at this
def bQk[M:Mch Aa]{x y:Nat}(hx:x<2^255)(hy:y<2^255):∃r:Int,Spec Aa 23 [bK x,bK y] (.i .i64 r)/\(r<=0↔x<=y)/\(0<r↔y<x):=by have:=aUi (x:Int) (y:Int) (by simpa using hx) (by simpa using hy);rw[cX,cX]at this;refine⟨_,this,?_⟩;rw[jS];constructor<;>split<;>(try split)<;>omega
def pvL(n:Nat)(L:List Nat)(k:Nat):Nat:=match k with|0=>n|k+1=>L[k]!
def aPf.at[M:Mch Aa]:∀{n:Nat} {L:List Nat} {k:Nat},aPf n L->k<L.length->(0<L[k]! /\ L[k]! < 2147483648)/\Spec Aa 60 [.i .u64 (pvL n L k)] (.i .u64 (L[k]! : Nat))
 |n,[],k,h,hk=>by simp at hk
 |n,x::l,0,h,hk=>⟨⟨h.1,h.2.1⟩,h.2.2.1⟩
 | n,x::l,1,h,hk=>by have:=aPf.at (k:=0) h.2.2.2 (by simpa using hk);simpa[pvL]using this
 | n,x::l,k+2,h,hk=>by have:=aPf.at (k:=k+1) h.2.2.2 (by simp only[Ak]at hk;omega);simpa[pvL]using this
def bAd{x y c q r:Nat}(hc:0<c)(hy:0<y)(h:q*(y*c)+r=x*c)(hr:r<y*c):q=x/y/\r/c=x%y:=by
 have hq:x*c/(y*c)=q:=by have:=(Nat.div_mod_unique (Fo hy hc) (a:=x*c) (d:=q) (c:=r)).2 ⟨by rw[B5 (y*c)];omega,hr⟩;exact this.1
 rw[Nat.mul_div_mul_right _ _ hc]at hq;refine⟨hq.symm,?_⟩;have h2:r=x%y*c:=by
  have h3:=EK x y;rw[hq]at h3;have h4:(y*q+x%y)*c=x*c:=by rw[h3]
  rw[B8]at h4;have h5:y*q*c=q*(y*c):=by rw[B5 y,B2]
  omega
 rw[h2,Nat.mul_div_cancel _ hc]
def bJw{dt c:Nat}(htop:0<dt)(hs:dt*c<4294967296):∃t,dt*c=t/\c<=t/\t<4294967296/\(t<2147483648->dt*(2*c)<4294967296) :=
 ⟨_,rfl,Nat.le_mul_of_pos_left _ htop,hs,λh=>by rw[Fy];omega⟩
def zq(q:Nat):AV:=if q=0 then .nil else .d (aB (aJ q))
def vK{x c n:Nat}(h1:(aJ x).length<=n)(h2:c<4294967296):(aJ (x*c)).length<=n+1 :=
 cU (by rw[BR];exact FG (lK h1) h2)
def bMe[M:Mch Aa]{x c X:Nat}(h:x+c=X)(h1:(aJ (x:Int).natAbs).length<=549755813888)(h2:(aJ (c:Int).natAbs).length<=549755813888):Spec Aa 22 [encZ (x:Int),encZ (c:Int)] (encZ (X:Int)):=by have:=uE (x:Int) (c:Int) h1 h2;rwa [<-DM,h]at this
def bDc[M:Mch Aa]{x c X:Nat}(h:x=X+c)(h1:(aJ (x:Int).natAbs).length<=549755813888)(h2:(aJ (c:Int).natAbs).length<=549755813888):Spec Aa 65 [encZ (x:Int),encZ (c:Int)] (encZ (X:Int)):=by have:=aIc (x:Int) (c:Int) h1 h2;rwa [show(x:Int)-c=X by omega]at this
def bKb{q Y r X e E r':Nat}(hp:q*Y+r=X)(hE:e*Y=E)(hr:r=r'+E)(he:0<e)(hY:0<Y):(q+e)*Y+r'=X/\r'<r/\q+e<=X/\E<=X:=by
 have h1:(q+e)*Y+r'=X:=by rw[B8,hE];omega
 have h2:0<E:=by rw[<-hE];exact Fo he hY
 have h3:q+e<=(q+e)*Y:=Nat.le_mul_of_pos_right _ hY;exact⟨h1,by omega,by omega,by omega⟩
def bHh{c:Nat}(h:c<4294967296):(aJ (c:Int).natAbs).length<=1:=cU (by simpa using h)
def aBg[M:Mch Aa]{x c X:Nat}(h:x*c=X)(h1:(aJ (x:Int).natAbs).length<=137438953472)(h2:(aJ (c:Int).natAbs).length<=137438953472):Spec Aa 24 [encZ (x:Int),encZ (c:Int)] (encZ (X:Int)):=by have:=jT (x:Int) (c:Int) h1 h2;rwa [<-Cd,h]at this
def aNa[M:Mch Aa](n:Nat)(hn:n<4294967296):Spec Aa 18 [aB [n],.b false] (encZ (n:Int)):=by have hm:=eC [n] false (by simp);rw[cO (.one hn)]at hm;simpa[val,sg]using hm
def aYi[M:Mch Aa](x y qq rr:Nat)(hqq:x/y=qq)(hrr:x%y=rr)(hy:0<y)(hlx:(aJ x).length<=130000000000)(hly:(aJ y).length<=130000000000):Spec Aa 178 [aB (aJ x),aB (aJ y)] (.tp [encZ (qq:Int),encZ (rr:Int)]):=by
 refine aX (N:=86) Tryz.func178 ?_;have lx:=bT x;have ly:=bT y;have vx:=cD x;have vy:=cD y;have cy:=lS y;have hne:aJ y≠[]:=λh=>by rw[gD]at h;omega
 have hyl:0<(aJ y).length:=Ep.2 hne;have hmx:∀n:Nat,n<4294967296->Spec Aa 18 [aB [n],.b false] (encZ (n:Int)):=λn hn=>by have hm:=eC [n] false (by simp);rw[cO (.one hn)]at hm;simpa[val,sg]using hm
 by_cases h1:(aJ y).length=1
 ·obtain⟨d,hd⟩:=List.length_eq_one_iff.1 h1;have hdl:d<4294967296:=ly d (by rw[hd];simp);have hdv:d=y:=by rw[hd]at vy;simpa[val]using vy
  have hs:=aLp (aJ x) d lx (by omega) hdl (by omega);obtain⟨s1,s2,s3,_⟩:=aHo (a:=aJ x) (d:=d) lx (by omega);have hm1:=eC (shQ (aJ x) d) false (by omega);rw[cO s2,s3,vx,show sg false (x/d)=((x/d:Nat):Int)from rfl]at hm1;have hm2:=hmx (val (aJ x)%d) (by have:=BF (val (aJ x)) (show d>0 by omega);omega);rw[hd];rw[vx,hdv,hrr]at hm2 hs;rw[hdv,hqq]at hm1;rw[hdv];generalize shQ (aJ x) y=Q at *;generalize aJ x=a at *;simp[-I,-O,↓KW,aB];refine aC hs ?_;simp[-I,-O,↓KW,aB];refine aC hm1 ?_;simp[-I,-O,↓KW,aB];refine bE (ds:=[aB [rr],.b false]) ?_ hm2 ?_
  ·simp[-I,-O,↓KW,aB]
  simp[-I,-O,↓KW,aB,encZ,encI,dV]
 ·have hq1:(((aJ y).length:Int)==1)=false:=by simp only[CO,ne_eq];omega
  obtain⟨m,hm⟩:∃m,(aJ y).length=m+1:=⟨(aJ y).length-1,by omega⟩;have gd:=getD_some (l:=aJ y) (i:=m) (by omega);have hdm:=ly.getD m;have htop:0<(aJ y).getD m 0:=by
   have h2:(aJ y).getLast? ≠ some 0:=cy;rw[Gj,show(aJ y).length-1=m by omega,gd]at h2;rcases A7 ((aJ y).getD m 0)with h|h
   ·rw[h]at h2;exact absurd rfl h2
   ·exact h
  generalize(aJ y).getD m 0=dt at *;have c2:Ah.wrap (((aJ y).length:Int)-1)=(m:Int):=by rw[aP];omega
  have c3:AB.wrap (dt:Int)=dt:=wrap_u64 (by omega) (by omega);have hma:=eC (aJ x) false (by omega);rw[cO lx,vx,show sg false x=(x:Int)from rfl]at hma;have hmb:=eC (aJ y) false (by omega);rw[cO ly,vy,show sg false y=(y:Int)from rfl]at hmb;have hX:(aJ (x:Int).natAbs).length<=130000000000:=hlx;have hY:(aJ (y:Int).natAbs).length<=130000000000:=hly;generalize aJ x=a at *;generalize aJ y=b at *;clear hmx lx ly vx vy cy hne;simp[-I,-O,↓KW,aB,hq1];refine cB (λc:Nat=>0<c/\dt*c<4294967296)
   (λc=>StL [(0,.d (aB a)),(1,.d (aB b)),(4,.ptr 1 0),(5,.ptr 2 0),(8,.d (.i .u32 (c:Int)))] none
    [.cells 31 [.d (.b false),.nil],.cells 31 [.d (.b false),.nil]]) (λc=>4294967296-c) 1 ⟨by decide,by omega⟩ ?_ ?_
  ·refine wkQ [1,2] ?_ ?_<;>simp[-I,upd,aL,Γ0,aB]
  ·intro c hs;refine(bJw htop hs.2).elim λt h5=>?_
   have hc0:=hs.1;have ht:=h5.1;have hcd:=h5.2.1;have hs2:=h5.2.2.1;have hdc:=h5.2.2.2;have c4:AB.wrap (c:Int)=c:=wrap_u64 (by omega) (by omega);have c5:AB.wrap ((dt:Int)*c)=t:=by rw[<-Cd,ht,wrap_u64 (by omega) (by omega)]
   by_cases hgo:t<2147483648
   ·have q1:(t:Int)<2147483648:=by omega
    have c6:BI.wrap (2*(c:Int))=2*(c:Int):=wrap_u32 (by omega) (by omega);simp[-I,-O,↓KW,aB,c2,c3,c4,c5,c6,gd,q1];refine aI (2*c) ⟨by omega,hdc hgo⟩ ?_ (wkQ [1,2] ?_ ?_)
    ·omega
    ·simp[-I,upd,aL,Γ0,aB]
    ·simp[-I,upd,aL,Γ0,aB]
   ·have q1:¬(t:Int)<2147483648:=by omega
    have hc32:c<4294967296:=by omega
    have hmc:=aNa c hc32;simp[-I,-O,↓KW,aB,c2,c3,c4,c5,gd,q1];refine bE (ds:=[aB [c],.b false]) ?_ hmc ?_
    ·simp[-I,-O,↓KW,aB]
    simp[-I,-O,↓KW,aB,encZ,encI];refine aC hma ?_;simp[-I,-O,↓KW,encZ,encI,aB];refine(⟨_,rfl⟩:∃X,x*c=X).elim λX hXe=>?_
    refine(⟨_,rfl⟩:∃X,y*c=X).elim λY hYe=>?_
    have hC:=bHh hc32;have hXl:(aJ X).length<=130000000001:=by rw[<-hXe];exact vK hX hc32
    have hYl:(aJ Y).length<=130000000001:=by rw[<-hYe];exact vK hY hc32
    have hY0:0<Y:=by rw[<-hYe];exact Fo hy hc0
    have hMx:=aBg (X:=X) hXe (by omega) (by omega) (x:=x) (c:=c);have hMy:=aBg (X:=Y) hYe (by omega) (by omega) (x:=y) (c:=c);refine bE (ds:=[encZ x,encZ c]) ?_ hMx ?_
    ·simp[-I,-O,↓KW,encZ,encI,aB]
    simp[-I,-O,↓KW,encZ,encI,aB];refine aC hmb ?_;simp[-I,-O,↓KW,encZ,encI,aB];refine bE (ds:=[encZ y,encZ c]) ?_ hMy ?_
    ·simp[-I,-O,↓KW,encZ,encI,aB]
    simp[-I,-O,↓KW,encZ,encI,aB];refine cB (λp:Nat×Nat=>p.1*Y+p.2=X)
     (λp=>StL [(4,.ptr 1 0),(5,.ptr 2 0),(8,.d (.i .u32 (c:Int))),(10,.ptr 3 0),(11,.ptr 4 0),(12,.ptr 5 0)] none
      [.cells 31 [.d (.b false),.nil],.cells 31 [.d (.b false),.nil],.cells 31 [.d (.b false),.d (aB (aJ p.2))],.cells 31 [.d (.b false),.d (aB (aJ Y))],.cells 31 [.d (.b false),zq p.1]]) (λp=>p.2) (0,X) (by simp) ?_ ?_
    ·refine wkQ [1,2,5,6,7] ?_ ?_<;>simp[-I,upd,aL,Γ0,aB,zq]
    ·intro p hp;have hpX:p.2<=X:=by rw[<-hp];exact Nat.le_add_left _ _
     have hpl:=AR (eK hpX) hXl;have hless:=zF (aJ p.2) (aJ Y) (bT _) (bT _) (by omega) (by omega);rw[fI]at hless;simp[-I,-O,↓KW,aB];refine aC hless ?_;by_cases hgo:p.2<Y
     ·simp[-I,-O,↓KW,hgo];have hsh:=aLp (aJ p.2) c (bT _) hc0 hc32 (by omega);have hsv:=aHo (bT p.2) hc0;have hmd:=eC (shQ (aJ p.2) c) false (by have:=hsv.1;omega);have hfin:=bAd hc0 hy (x:=x) (q:=p.1) (r:=p.2) (by rw[hYe,hXe];exact hp) (by rw[hYe];exact hgo);rw[cO hsv.2.1,hsv.2.2.1,cD,hfin.2,hrr,show sg false rr=(rr:Int)from rfl]at hmd;refine aC hsh ?_;simp[-I,-O,↓KW,aB];refine aC hmd ?_;have hq1:p.1=qq:=hfin.1.trans hqq;rw[hq1];by_cases hq0:qq=0
      ·simp[-I,-O,↓KW,encZ,encI,aB,dV,zq,hq0,bZ]
      ·simp[-I,-O,↓KW,encZ,encI,aB,dV,zq,hq0]
     ·simp[-I,-O,↓KW,hgo];refine(aLr (aJ p.2) (aJ Y) (bT _) (bT _) (lS _) (lS _) (λh=>by rw[gD]at h;omega) (by rw[cD,cD];omega) (by omega)).elim λe he=>?_
      have he1:=he.2.1;rw[cD,cD]at he1;refine(⟨_,rfl⟩:∃E,e*Y=E).elim λE hE=>?_
      rw[hE]at he1;refine(⟨_,rfl⟩:∃F,p.2-E=F).elim λR' hR'=>?_
      have hR2:p.2=R'+E:=by omega
      have hst:=bKb hp hE hR2 he.1 hY0;refine(⟨_,rfl⟩:∃F,p.1+e=F).elim λq' hq'=>?_
      rw[hq']at hst;have hel:(aJ (e:Int).natAbs).length<=130000000001:=AR (eK (show e<=X by omega)) hXl;have hqpl:(aJ (p.1:Int).natAbs).length<=130000000001:=AR (eK (show p.1<=X by omega)) hXl;have hEl:(aJ (E:Int).natAbs).length<=130000000001:=AR (eK (show E<=X by omega)) hXl;have hrl:(aJ (p.2:Int).natAbs).length<=130000000001:=hpl;have hYl2:(aJ (Y:Int).natAbs).length<=130000000001:=hYl;have hadd:=bMe hq' (by omega) (by omega);have hmul:=aBg hE (by omega) (by omega);have hsub:=bDc hR2 (by omega) (by omega);by_cases hq0:p.1=0
      ·have hz:zq p.1=.nil:=Aq hq0;refine aC he.2.2 ?_;simp[-I,-O,↓KW,aB,encZ,encI,hz];refine bE (ds:=[encZ p.1,encZ e]) ?_ hadd ?_
       ·simp[-I,-O,↓KW,encZ,encI,aB,hq0,bZ]
       simp[-I,-O,↓KW,aB,encZ,encI];refine bE (ds:=[encZ e,encZ Y]) ?_ hmul ?_
       ·simp[-I,-O,↓KW,encZ,encI,aB]
       simp[-I,-O,↓KW,aB,encZ,encI];refine bE (ds:=[encZ p.2,encZ E]) ?_ hsub ?_
       ·simp[-I,-O,↓KW,encZ,encI,aB]
       simp[-I,-O,↓KW,aB,encZ,encI];have hz2:zq q'=.d (aB (aJ q')):=Ai (by have:=he.1;omega);refine aI (q',R') hst.1 hst.2.1 (wkQ [1,2,3,4,5] ?_ ?_)
       ·simp[-I,upd,aL,Γ0,aB,hz2]
       ·simp[-I,upd,aL,Γ0,aB,hz2]
      ·have hz:zq p.1=.d (aB (aJ p.1)):=Ai hq0;refine aC he.2.2 ?_;simp[-I,-O,↓KW,aB,encZ,encI,hz];refine bE (ds:=[encZ p.1,encZ e]) ?_ hadd ?_
       ·simp[-I,-O,↓KW,encZ,encI,aB,hq0,bZ]
       simp[-I,-O,↓KW,aB,encZ,encI];refine bE (ds:=[encZ e,encZ Y]) ?_ hmul ?_
       ·simp[-I,-O,↓KW,encZ,encI,aB]
       simp[-I,-O,↓KW,aB,encZ,encI];refine bE (ds:=[encZ p.2,encZ E]) ?_ hsub ?_
       ·simp[-I,-O,↓KW,encZ,encI,aB]
       simp[-I,-O,↓KW,aB,encZ,encI];have hz2:zq q'=.d (aB (aJ q')):=Ai (by have:=he.1;omega);refine aI (q',R') hst.1 hst.2.1 (wkQ [1,2,3,4,5] ?_ ?_)
       ·simp[-I,upd,aL,Γ0,aB,hz2]
       ·simp[-I,upd,aL,Γ0,aB,hz2]
def iQ{x y q r:Int}(hy:y≠0)(h:r+y*q=x)(h0:0<=r)(h1:r<(y.natAbs:Int)):x/y=q/\x%y=r:=by
 by_cases hp:0<y
 ·exact(Int.ediv_emod_unique hp).2 ⟨h,h0,by omega⟩
 ·obtain⟨z,hz⟩:∃z,y=-z:=⟨-y,by omega⟩;subst hz;have:=(Int.ediv_emod_unique (a:=x) (b:=z) (q:=-q) (r:=r) (by omega)).2 ⟨by rw[<-h,DD,Gs],h0,by omega⟩;rw[Int.ediv_neg,Int.emod_neg];omega
def aFs[M:Mch Aa](x:Int)(hx:(aJ x.natAbs).length<=1099511627776):Spec Aa 18 [aB (aJ x.natAbs),.b (decide (x<0))] (encZ x):=by have hm:=eC (aJ x.natAbs) (decide (x<0)) hx;rwa [cO (bT _),cD,fN]at hm
def bJz(x y:Int)(hy:y≠0){qq rr:Nat}(hqq:x.natAbs/y.natAbs=qq)(hrr:x.natAbs%y.natAbs=rr) :
  (rr<y.natAbs)/\qq*y.natAbs+rr=x.natAbs/\(¬x<0->¬y<0->x/y=qq/\x%y=rr)/\(¬x<0->y<0->x/y=-(qq:Int)/\x%y=rr) /\
  (x<0->rr=0->¬y<0->x/y=-(qq:Int)/\x%y=0)/\(x<0->rr=0->y<0->x/y=qq/\x%y=0) /\
  (x<0->0<rr->¬y<0->x/y=-((qq:Int)+1)/\x%y=(y.natAbs:Int)-rr)/\(x<0->0<rr->y<0->x/y=(qq:Int)+1/\x%y=(y.natAbs:Int)-rr):=by
 have hya:0<y.natAbs:=by omega
 have h1:rr<y.natAbs:=by rw[<-hrr];exact BF _ hya
 have h2:qq*y.natAbs+rr=x.natAbs:=by rw[<-hqq,<-hrr,B5];exact EK ..
 have h3:(qq:Int)*(y.natAbs:Int)+rr=(x.natAbs:Int):=by exact_mod_cast h2
 have ep:¬y<0->(y.natAbs:Int)=y:=λh=>by omega
 have en:y<0->(y.natAbs:Int)=-y:=λh=>by omega
 refine⟨h1,h2,λhx h=>?_,λhx h=>?_,λhx h0 h=>?_,λhx h0 h=>?_,λhx h0 h=>?_,λhx h0 h=>?_⟩
 ·exact iQ hy (by rw[ep h,E5]at h3;omega) (by omega) (by omega)
 ·exact iQ hy (by rw[en h,DD,E5]at h3;rw[DD];omega) (by omega) (by omega)
 ·exact iQ hy (by rw[ep h,E5]at h3;rw[DD];omega) (by omega) (by omega)
 ·exact iQ hy (by rw[en h,DD,E5]at h3;omega) (by omega) (by omega)
 ·exact iQ hy (by rw[ep h,E5]at h3;rw[ep h,DD,Int.mul_add];omega) (by omega) (by omega)
 ·exact iQ hy (by rw[en h,DD,E5]at h3;rw[en h,Int.mul_add];omega) (by omega) (by omega)
def aEe(n:Nat):(aJ (n+1)).length<=(aJ n).length+1:=by have h:=lK (Ay (aJ n).length);refine cU ?_;rw[BR];have:0<4294967296^(aJ n).length:=Nat.pow_pos (by decide);omega
def aZh[M:Mch Aa](y:Int)(hy:(aJ y.natAbs).length<=1099511627776):Spec Aa 18 [aB (aJ y.natAbs),.b false] (encZ (y.natAbs:Int)):=by have hm:=eC (aJ y.natAbs) false hy;rw[cO (bT _),cD]at hm;exact hm
def kX[M:Mch Aa](x y:Int)(hy:y≠0)(hx:(aJ x.natAbs).length<=130000000000)(hyl:(aJ y.natAbs).length<=130000000000):Spec Aa 134 [encZ x,encZ y] (.tp [encZ (x/y),encZ (x%y),.i .i64 0]):=by
 have hx0:=hx;have hyl0:=hyl;refine bDu (N:=56) aR Tryz.func134 rfl rfl rfl (by kernel_rfl) (by kernel_rfl) (by simp) ?_;obtain⟨qq,hqq⟩:∃q,x.natAbs/y.natAbs=q:=⟨_,rfl⟩;obtain⟨rr,hrr⟩:∃q,x.natAbs%y.natAbs=q:=⟨_,rfl⟩;have hf:=bJz x y hy hqq hrr;obtain⟨Q,hQ⟩:∃Q,x/y=Q:=⟨_,rfl⟩;obtain⟨R,hR⟩:∃Q,x%y=Q:=⟨_,rfl⟩;have hm1:=aFs x (by omega);have hm2:=aFs y (by omega);have hd:=aYi x.natAbs y.natAbs qq rr hqq hrr (by omega) hx hyl;have hs:=lG y;have hs0:y.sign≠0:=λh=>hy (Gk.1 h)
 have hmy:=aZh y (by omega);have hlq:(aJ qq).length<=130000000000:=AR (eK (by rw[<-hqq];exact Eb ..)) hx0;have hlr:(aJ rr).length<=130000000000:=AR (eK (by have:=hf.1;omega)) hyl0;have hnq:((qq:Int)).natAbs=qq:=Ct qq;have hnr:((rr:Int)).natAbs=rr:=Ct rr;have hny0:((y.natAbs:Int)).natAbs=y.natAbs:=Ct _;have hof:=aLs 1 (by decide) (by decide);have had:=uE (qq:Int) 1 (by rw[hnq];omega) (AR (cU (k:=1) (by decide)) (by decide));have hsu:=aIc (y.natAbs:Int) (rr:Int) (by rw[hny0];omega) (by rw[hnr];omega);have hn1:=rJ (qq:Int) (by rw[hnq];omega);have hn2:=rJ ((qq:Int)+1) (by
  have:((qq:Int)+1).natAbs=qq+1:=by omega
  rw[this];have:=aEe qq;omega)
 have hsr:=lG (rr:Int);have hz:∀z:Int,∃s m,encZ z=.ag [.b s,aB m]:=λz=>⟨_,_,rfl⟩
 obtain⟨sq,mq,eq⟩:=hz qq;obtain⟨sr,mr,er⟩:=hz rr;obtain⟨s1,m1,e1⟩:=hz 1;obtain⟨sp,mp,ep⟩:=hz ((qq:Int)+1);obtain⟨sy,my,ey0⟩:=hz (y.natAbs:Int);obtain⟨sd,md,ed⟩:=hz ((y.natAbs:Int)-rr);obtain⟨sn,mn,en1⟩:=hz (-(qq:Int));obtain⟨sm,mm,en2⟩:=hz (-((qq:Int)+1));rw[eq,er]at hd;rw[e1]at hof;rw[eq,e1,ep]at had;rw[ey0,er,ed]at hsu;rw[eq,en1]at hn1;rw[ep,en2]at hn2;rw[er]at hsr;rw[ey0]at hmy;have hsg0:rr=0->(rr:Int).sign=0:=λh=>by rw[h];rfl
 have hsg1:¬rr=0->(rr:Int).sign=1:=λh=>DU (by omega)
 rw[hQ,hR]at hf ⊢;have ex:encZ x=.ag [.b (decide (x<0)),aB (aJ x.natAbs)]:=rfl;have ey:encZ y=.ag [.b (decide (y<0)),aB (aJ y.natAbs)]:=rfl;rw[ex]at hm1 ⊢;rw[ey]at hm2 hs ⊢;generalize aJ x.natAbs=a at *;generalize aJ y.natAbs=b at *;have hs1:(y.sign==0)=false:=by simpa using hs0
 simp[-I,-O,↓KW,↓aU,↓aV,aT,aB];refine aC hm1 ?_;simp[-I,-O,↓KW,↓aU,↓aV,aT,aB];refine aC hm2 ?_;simp[-I,-O,↓KW,↓aU,↓aV,aT,aB];refine bE (ds:=[.ag [.b (decide (y<0)),aB b]]) ?_ hs ?_
 ·simp[-I,-O,↓KW,↓aU,↓aV,aT,aB,hs1]
 simp[-I,-O,↓KW,↓aU,↓aV,aT,aB,hs1];refine aC hd ?_;by_cases hnx:x<0<;>by_cases hny:y<0;rw[B4 hnx,B4 hny]at *;by_cases hr0:rr=0;obtain⟨f1,f2⟩:=hf.2.2.2.2.2.1 hnx hr0 hny;have e0:encZ 0=.ag [.b sr,aB mr]:=by rw[<-er,hr0];rfl
 have hsg:=hsg0 hr0;rw[f1,f2,eq,e0];simp[-I,-O,↓KW,↓aU,↓aV,aT,aB];refine bE (ds:=[.ag [.b sr,aB mr]]) ?_ hsr ?_
 ·simp[-I,-O,↓KW,↓aU,↓aV,aT,aB,hsg]
 simp[-I,-O,↓KW,↓aU,↓aV,aT,aB,hsg]
 rotate_left
 obtain⟨f1,f2⟩:=hf.2.2.2.2.2.2.2 hnx (by omega) hny;have hsg:=hsg1 hr0;rw[f1,f2,ep,ed];simp[-I,-O,↓KW,↓aU,↓aV,aT,aB];refine bE (ds:=[.ag [.b sr,aB mr]]) ?_ hsr ?_
 ·simp[-I,-O,↓KW,↓aU,↓aV,aT,aB,hsg]
 simp[-I,-O,↓KW,↓aU,↓aV,aT,aB,hsg];refine aC hof ?_;simp[-I,-O,↓KW,↓aU,↓aV,aT,aB];refine bE (ds:=[.ag [.b sq,aB mq],.ag [.b s1,aB m1]]) ?_ had ?_
 ·simp[-I,-O,↓KW,↓aU,↓aV,aT,aB]
 simp[-I,-O,↓KW,↓aU,↓aV,aT,aB];refine aC hmy ?_;simp[-I,-O,↓KW,↓aU,↓aV,aT,aB];refine bE (ds:=[.ag [.b sy,aB my],.ag [.b sr,aB mr]]) ?_ hsu ?_
 ·simp[-I,-O,↓KW,↓aU,↓aV,aT,aB]
 simp[-I,-O,↓KW,↓aU,↓aV,aT,aB]
 rotate_left
 rw[B4 hnx,Bs hny]at *;by_cases hr0:rr=0;obtain⟨f1,f2⟩:=hf.2.2.2.2.1 hnx hr0 hny;have e0:encZ 0=.ag [.b sr,aB mr]:=by rw[<-er,hr0];rfl
 have hsg:=hsg0 hr0;rw[f1,f2,en1,e0];simp[-I,-O,↓KW,↓aU,↓aV,aT,aB];refine bE (ds:=[.ag [.b sr,aB mr]]) ?_ hsr ?_
 ·simp[-I,-O,↓KW,↓aU,↓aV,aT,aB,hsg]
 simp[-I,-O,↓KW,↓aU,↓aV,aT,aB,hsg];refine bE (ds:=[.ag [.b sq,aB mq]]) ?_ hn1 ?_
 ·simp[-I,-O,↓KW,↓aU,↓aV,aT,aB]
 simp[-I,-O,↓KW,↓aU,↓aV,aT,aB]
 rotate_left
 obtain⟨f1,f2⟩:=hf.2.2.2.2.2.2.1 hnx (by omega) hny;have hsg:=hsg1 hr0;rw[f1,f2,en2,ed];simp[-I,-O,↓KW,↓aU,↓aV,aT,aB];refine bE (ds:=[.ag [.b sr,aB mr]]) ?_ hsr ?_
 ·simp[-I,-O,↓KW,↓aU,↓aV,aT,aB,hsg]
 simp[-I,-O,↓KW,↓aU,↓aV,aT,aB,hsg];refine aC hof ?_;simp[-I,-O,↓KW,↓aU,↓aV,aT,aB];refine bE (ds:=[.ag [.b sq,aB mq],.ag [.b s1,aB m1]]) ?_ had ?_
 ·simp[-I,-O,↓KW,↓aU,↓aV,aT,aB]
 simp[-I,-O,↓KW,↓aU,↓aV,aT,aB];refine aC hmy ?_;simp[-I,-O,↓KW,↓aU,↓aV,aT,aB];refine bE (ds:=[.ag [.b sy,aB my],.ag [.b sr,aB mr]]) ?_ hsu ?_
 ·simp[-I,-O,↓KW,↓aU,↓aV,aT,aB]
 simp[-I,-O,↓KW,↓aU,↓aV,aT,aB];refine bE (ds:=[.ag [.b sp,aB mp]]) ?_ hn2 ?_
 ·simp[-I,-O,↓KW,↓aU,↓aV,aT,aB]
 simp[-I,-O,↓KW,↓aU,↓aV,aT,aB]
 rotate_left
 rw[Bs hnx,B4 hny]at *;obtain⟨f1,f2⟩:=hf.2.2.2.1 hnx hny;rw[f1,f2,en1,er];simp[-I,-O,↓KW,↓aU,↓aV,aT,aB];refine bE (ds:=[.ag [.b sq,aB mq]]) ?_ hn1 ?_
 ·simp[-I,-O,↓KW,↓aU,↓aV,aT,aB]
 simp[-I,-O,↓KW,↓aU,↓aV,aT,aB]
 rotate_left
 rw[Bs hnx,Bs hny]at *;obtain⟨f1,f2⟩:=hf.2.2.1 hnx hny;rw[f1,f2,eq,er];simp[-I,-O,↓KW,↓aU,↓aV,aT,aB]
 rotate_left
 all_goals
  refine aIj 0 1 (by kernel_rfl) rfl rfl ?_ ?_
  ·simp[-I,-O,↓KW,↓aU,↓aV,aT,aB]
   refine aIj 1 2 (by kernel_rfl) rfl rfl ?_ ?_
   ·simp[-I,-O,↓KW,↓aU,↓aV,aT,aB]
    refine fW 2 (by kernel_rfl) rfl ?_
    simp[-I,-O,↓KW,↓aU,↓aV,aT,aB]
    refine fW 3 (by kernel_rfl) rfl ?_
    simp[-I,-O,↓KW,↓aU,↓aV,aT,aB]
    refine fW 4 (by kernel_rfl) rfl ?_
    simp[-I,-O,↓KW,↓aU,↓aV,aT,aB]
    refine wS (by kernel_rfl) ?_
    simp[-I,-O,↓KW,↓aU,↓aV,aT,aB,aQw]
   ·simp[-I,-O,↓KW,↓aU,↓aV,aT,aB]
    refine fW 1 (by kernel_rfl) rfl ?_
    simp[-I,-O,↓KW,↓aU,↓aV,aT,aB]
    refine fW 3 (by kernel_rfl) rfl ?_
    simp[-I,-O,↓KW,↓aU,↓aV,aT,aB]
    refine fW 4 (by kernel_rfl) rfl ?_
    simp[-I,-O,↓KW,↓aU,↓aV,aT,aB]
    refine wS (by kernel_rfl) ?_
    simp[-I,-O,↓KW,↓aU,↓aV,aT,aB,aQw]
  ·simp[-I,-O,↓KW,↓aU,↓aV,aT,aB]
   refine fW 0 (by kernel_rfl) rfl ?_
   simp[-I,-O,↓KW,↓aU,↓aV,aT,aB]
   refine fW 2 (by kernel_rfl) rfl ?_
   simp[-I,-O,↓KW,↓aU,↓aV,aT,aB]
   refine fW 3 (by kernel_rfl) rfl ?_
   simp[-I,-O,↓KW,↓aU,↓aV,aT,aB]
   refine fW 4 (by kernel_rfl) rfl ?_
   simp[-I,-O,↓KW,↓aU,↓aV,aT,aB]
   refine wS (by kernel_rfl) ?_
   simp[-I,-O,↓KW,↓aU,↓aV,aT,aB,aQw]
def bBb:Nat:=4294967296^128
def SB(z:Int):Prop:=z.natAbs<bBb
def SB.len{z:Int}(h:SB z):(aJ z.natAbs).length<=128:=cU h
def SB.le{z:Int}{n:Nat}(h:SB z)(hn:128<=n):(aJ z.natAbs).length<=n:=AR h.len hn
def aQi{b:Int}(h:b≠0):(b.sign != 0)=true:=by rw[bne_iff_ne];exact λh'=>h (Gk.1 h')
def bIr(a b:Int):Int.gcd b (a%b)=Int.gcd a b:=by rw[Int.gcd_comm b,Int.emod_def,Int.gcd_sub_mul_left_left]
def bFs[M:Mch Aa](x y:Int)(hx:SB x)(hy:SB y):Spec Aa 203 [encZ x,encZ y] (bK (Int.gcd x y)):=by
 refine bDs (N:=23) aR Tryz.func203 rfl rfl rfl (by kernel_rfl) (by simp) ?_;refine lB (by kernel_rfl) ?_;simp[-I,-O,↓KW,bB x,bB y,aH];refine aHd (aEp (bCn (τ:=Int×Int) (λt=>SB t.1/\SB t.2/\Int.gcd t.1 t.2=Int.gcd x y) (λt=>StL [(2,.ptr 1 0),(3,.ptr 2 0),(4,.ptr 3 0)] none [.cells 31 [.d (.b (decide (t.1<0))),.d (aB (aJ t.1.natAbs))],.cells 31 [.d (.b (decide (t.2<0))),.d (aB (aJ t.2.natAbs))],.cells 31 [.d (.b false),.nil]]) (λt=>t.2.natAbs) (x,y) ⟨hx,hy,rfl⟩ ?_ ?_))
 ·refine wkQ [1,2,3] ?_ ?_<;>simp[-I,upd,aL,Γ0]
 ·rintro⟨a,b⟩ ⟨ha,hb,hg⟩;simp only at ha hb hg;have hSg:=lG b;refine lB (by kernel_rfl) ?_;by_cases h0:b=0
  ·subst h0;have hMd:=eC (aJ a.natAbs) false (ha.le (by decide));rw[fF (bT _),cD]at hMd;simp only[Bool.false_and]at hMd;have hMd':Spec Aa 18 [aB (aJ a.natAbs),.b false] (bK a.natAbs):=hMd;rw[Int.gcd_zero_right]at hg;rw[<-hg];generalize a.natAbs=n at *;simp[-I,-O,↓KW];refine aC hSg ?_;simp[-I,-O,↓KW];refine yZ (by kernel_rfl) ?_;simp[-I,-O,↓KW,aH];refine aC hMd' ?_;simp[-I,-O,↓KW,aN n,aH]
  ·have hs:=aQi h0;have hDm:=kX a b h0 (ha.le (by decide)) (hb.le (by decide));have hr:SB (a%b):=by have h1:=Dw a h0;have h2:=Int.emod_lt a h0;unfold SB at *;omega
   have hlt:(a%b).natAbs<b.natAbs:=by have h1:=Dw a h0;have h2:=Int.emod_lt a h0;omega
   have hg2:=bIr a b;generalize a%b=r at *;generalize a/b=q at *;generalize b.sign=s at *;simp[-I,-O,↓KW,bB b,aH];refine aC hSg ?_;simp[-I,-O,↓KW,hs,aH];refine aEp (lB (by kernel_rfl) ?_);simp[-I,-O,↓KW,aH];refine aC hDm ?_;simp[-I,-O,↓KW,bB q,bB r,aH];refine bCm (by kernel_rfl) ?_;refine aIj 0 1 (by kernel_rfl) rfl rfl ?_ ?_
   ·simp[-I,-O,↓KW,aT,aH];refine aIj 1 2 (by kernel_rfl) rfl rfl ?_ ?_
    ·simp[-I,-O,↓KW,aT,aH];refine fW 2 (by kernel_rfl) rfl ?_;simp[-I,-O,↓KW,aT,aH];refine fW 3 (by kernel_rfl) rfl ?_;simp[-I,-O,↓KW,aT,aH];refine wS (by kernel_rfl) ?_;refine⟨b,r,⟨hb,hr,by rw[hg2];exact hg⟩,hlt,?_⟩;refine wkQ [1,2,3] ?_ ?_<;>simp[-I,upd,aL,Γ0]
    ·simp[-I,-O,↓KW,aT,aH];refine fW 1 (by kernel_rfl) rfl ?_;simp[-I,-O,↓KW,aT,aH];refine fW 3 (by kernel_rfl) rfl ?_;simp[-I,-O,↓KW,aT,aH];refine wS (by kernel_rfl) ?_;refine⟨b,r,⟨hb,hr,by rw[hg2];exact hg⟩,hlt,?_⟩;refine wkQ [1,2,3] ?_ ?_<;>simp[-I,upd,aL,Γ0]
   ·simp[-I,-O,↓KW,aT,aH];refine fW 0 (by kernel_rfl) rfl ?_;simp[-I,-O,↓KW,aT,aH];refine fW 2 (by kernel_rfl) rfl ?_;simp[-I,-O,↓KW,aT,aH];refine fW 3 (by kernel_rfl) rfl ?_;simp[-I,-O,↓KW,aT,aH];refine wS (by kernel_rfl) ?_;refine⟨b,r,⟨hb,hr,by rw[hg2];exact hg⟩,hlt,?_⟩;refine wkQ [1,2,3] ?_ ?_<;>simp[-I,upd,aL,Γ0]
end Go.Am
end
section
open List renaming map_map->I,mapM_map->O
namespace Go.Am
def fq(n d:Int):Rat:=if d<0 then mkRat (-n) (-d).toNat else mkRat n d.toNat
def bJc(n d:Int):fq n d=(n:Rat)/(d:Rat):=by
 unfold fq;split
 ·rename_i h;rw[Rat.mkRat_eq_div];have:(((-d).toNat:Nat):Rat)=-(d:Rat):=by rw[<-Rat.intCast_neg,<-C4,BV (by omega)]
  rw[this,Rat.intCast_neg];have h0:(d:Rat)≠0:=by intro h';have:=Rat.intCast_eq_zero_iff.1 h';omega
  grind
 ·rename_i h;rw[Rat.mkRat_eq_div];have:((d.toNat:Nat):Rat)=(d:Rat):=by rw[<-C4,BV (by omega)]
  rw[this]
def aIp{n:Int}{k:Nat}(h:k≠0):(mkRat n k).num=n/((n.natAbs.gcd k:Nat):Int)/\(mkRat n k).den=k/n.natAbs.gcd k:=by rw[Rat.mkRat_def,dif_neg h,Rat.normalize_eq];exact⟨rfl,rfl⟩
def aYm(a:Rat):a=(a.num:Rat)/(a.den:Rat):=by rw[<-Rat.mkRat_eq_div,Rat.mkRat_self]
def aFb(a:Rat):(a.den:Rat)≠0:=by intro h;have:=a.den_nz;exact this (by exact_mod_cast h)
def bJa(a b:Rat):fq (a.num*b.num) ((a.den:Int)*(b.den:Int))=a*b:=by rw[bJc,CM,CM,C4,C4];have h1:=aFb a;have h2:=aFb b;have e1:=aYm a;have e2:=aYm b;generalize(a.den:Rat)=x at *;generalize(b.den:Rat)=y at *;generalize(a.num:Rat)=u at *;generalize(b.num:Rat)=v at *;subst e1;subst e2;grind
def bJe(a b:Rat):fq (a.num*(b.den:Int)+b.num*(a.den:Int)) ((a.den:Int)*(b.den:Int))=a+b:=by rw[bJc,CM,Rat.intCast_add,CM,CM,C4,C4];have h1:=aFb a;have h2:=aFb b;have e1:=aYm a;have e2:=aYm b;generalize(a.den:Rat)=x at *;generalize(b.den:Rat)=y at *;generalize(a.num:Rat)=u at *;generalize(b.num:Rat)=v at *;subst e1;subst e2;grind
def bJd(a b:Rat)(hb:b≠0):fq (a.num*(b.den:Int)) ((a.den:Int)*b.num)=a/b:=by
 rw[bJc,CM,CM,C4,C4];have h1:=aFb a;have h2:=aFb b;have e1:=aYm a;have e2:=aYm b;have h3:(b.num:Rat)≠0:=by intro h;rw[h]at e2;apply hb;rw[e2];grind
 generalize(a.den:Rat)=x at *;generalize(b.den:Rat)=y at *;generalize(a.num:Rat)=u at *;generalize(b.num:Rat)=v at *;subst e1;subst e2;grind
def bJb{n d:Int}(hd:d≠0):(fq n d).num.natAbs<=n.natAbs/\(fq n d).den<=d.natAbs:=by
 unfold fq;split
 ·obtain⟨h1,h2⟩:=aIp (n:=-n) (k:=(-d).toNat) (by omega);rw[h1,h2];refine⟨AR (Gl _ _) (by omega),AR (Eb ..) (by omega)⟩
 ·obtain⟨h1,h2⟩:=aIp (n:=n) (k:=d.toNat) (by omega);rw[h1,h2];refine⟨AR (Gl _ _) (by omega),AR (Eb ..) (by omega)⟩
def QB(B:Nat)(q:Rat):Prop:=q.num.natAbs<=B/\q.den<=B
def QB.mono{B C:Nat}{q:Rat}(h:QB B q)(hc:B<=C):QB C q:=⟨AR h.1 hc,AR h.2 hc⟩
def bTw(q:Rat):(q.den:Int)≠0:=by have:=q.den_nz;omega
def bRr(a b:Rat):(a.den:Int)*(b.den:Int)≠0:=Int.mul_ne_zero (bTw a) (bTw b)
def QB.mul{B C:Nat}{a b:Rat}(ha:QB B a)(hb:QB C b):QB (B*C) (a*b):=by obtain⟨h1,h2⟩:=bJb (n:=a.num*b.num) (bRr a b);rw[bJa]at h1 h2;rw[D3]at h1 h2;exact⟨AR h1 (A9 ha.1 hb.1),AR h2 (A9 ha.2 hb.2)⟩
def QB.add{B C:Nat}{a b:Rat}(ha:QB B a)(hb:QB C b):QB (2*(B*C)) (a+b):=by
 obtain⟨h1,h2⟩:=bJb (n:=a.num*(b.den:Int)+b.num*(a.den:Int)) (bRr a b);rw[bJe]at h1 h2;rw[D3]at h2;have h3:=A9 ha.1 hb.2;have h4:=A9 hb.1 ha.2;have h5:=A9 ha.2 hb.2;have h6:(a.num*(b.den:Int)+b.num*(a.den:Int)).natAbs<=a.num.natAbs*b.den+b.num.natAbs*a.den:=by refine AR (Int.natAbs_add_le _ _) ?_;rw[D3,D3];simp
 rw[B5 C B]at h4;simp only[Ct]at h2;exact⟨by omega,by omega⟩
def QB.neg{B:Nat}{a:Rat}(ha:QB B a):QB B (-a):=by unfold QB;rw[Rat.neg_num,Rat.neg_den,Fw];exact ha
def QB.sub{B C:Nat}{a b:Rat}(ha:QB B a)(hb:QB C b):QB (2*(B*C)) (a-b):=by rw[Rat.sub_eq_add_neg];exact ha.add hb.neg
def QB.div{B C:Nat}{a b:Rat}(ha:QB B a)(hb:QB C b)(h0:b≠0):QB (B*C) (a/b):=by obtain⟨h1,h2⟩:=bJb (n:=a.num*(b.den:Int)) (d:=(a.den:Int)*b.num) (Int.mul_ne_zero (bTw a) (λh=>h0 (Rat.num_eq_zero.1 h)));rw[bJd a b h0]at h1 h2;rw[D3]at h1 h2;simp only[Ct]at h1 h2;exact⟨AR h1 (A9 ha.1 hb.2),AR h2 (A9 ha.2 hb.1)⟩
def QB.int{B:Nat}{z:Int}(h:z.natAbs<=B)(h1:1<=B):QB B (z:Rat):=⟨by rw[Rat.num_intCast];exact h,by rw[Rat.den_intCast];exact h1⟩
def gE{α:Type}[_root_.Add α][_root_.Sub α][_root_.Mul α](x:Nat->Nat->α):α :=
 x 0 0*(x 1 1*(x 2 2*x 3 3-x 2 3*x 3 2)-x 1 2*(x 2 1*x 3 3-x 2 3*x 3 1)+x 1 3*(x 2 1*x 3 2-x 2 2*x 3 1))
 - x 0 1*(x 1 0*(x 2 2*x 3 3-x 2 3*x 3 2)-x 1 2*(x 2 0*x 3 3-x 2 3*x 3 0)+x 1 3*(x 2 0*x 3 2-x 2 2*x 3 0))
 + x 0 2*(x 1 0*(x 2 1*x 3 3-x 2 3*x 3 1)-x 1 1*(x 2 0*x 3 3-x 2 3*x 3 0)+x 1 3*(x 2 0*x 3 1-x 2 1*x 3 0))
 - x 0 3*(x 1 0*(x 2 1*x 3 2-x 2 2*x 3 1)-x 1 1*(x 2 0*x 3 2-x 2 2*x 3 0)+x 1 2*(x 2 0*x 3 1-x 2 1*x 3 0))
def jP(x:Nat->Nat->Int):gE (λi j=>((x i j:Int):Rat))=((gE x:Int):Rat):=by simp only[gE,CM,Rat.intCast_sub,Rat.intCast_add]
def swp(k a i:Nat):Nat:=if i=k then a else if i=a then k else i
def aGh(x:Nat->Nat->Rat){k a:Nat}(h:k<a)(ha:a<=3):gE (λi j=>x (swp k a i) j)=- gE x:=by
 have:(k=0/\a=1)\/(k=0/\a=2)\/(k=0/\a=3)\/(k=1/\a=2)\/(k=1/\a=3)\/(k=2/\a=3):=by omega
 rcases this with ⟨rfl,rfl⟩|⟨rfl,rfl⟩|⟨rfl,rfl⟩|⟨rfl,rfl⟩|⟨rfl,rfl⟩|⟨rfl,rfl⟩<;>(simp[gE,swp];grind)
def aNw(x:Nat->Nat->Rat)(c:Rat){k a:Nat}(h:k<a)(ha:a<=3):gE (λi j=>if i=a then x a j-c*x k j else x i j)=gE x:=by
 have:(k=0/\a=1)\/(k=0/\a=2)\/(k=0/\a=3)\/(k=1/\a=2)\/(k=1/\a=3)\/(k=2/\a=3):=by omega
 rcases this with ⟨rfl,rfl⟩|⟨rfl,rfl⟩|⟨rfl,rfl⟩|⟨rfl,rfl⟩|⟨rfl,rfl⟩|⟨rfl,rfl⟩<;>(simp[gE];grind)
def aNv(x:Nat->Nat->Rat)(h:∀i j,j<i->i<=3->x i j=0):gE x=x 0 0*x 1 1*x 2 2*x 3 3:=by have h10:=h 1 0 (by decide) (by decide);have h20:=h 2 0 (by decide) (by decide);have h30:=h 3 0 (by decide) (by decide);have h21:=h 2 1 (by decide) (by decide);have h31:=h 3 1 (by decide) (by decide);have h32:=h 3 2 (by decide) (by decide);simp only[gE,h10,h20,h30,h21,h31,h32];grind
def aGg(x:Nat->Nat->Rat){k:Nat}(hk:k<=3)(h:∀i j,j<i->j<k->i<=3->x i j=0)(h0:∀i,k<=i->i<=3->x i k=0):gE x=0:=by
 have:k=0\/k=1\/k=2\/k=3:=by omega
 rcases this with rfl|rfl|rfl|rfl
 ·simp only[gE,h0 0 (by decide) (by decide),h0 1 (by decide) (by decide),h0 2 (by decide) (by decide),h0 3 (by decide) (by decide)];grind
 ·simp only[gE,h 1 0 (by decide) (by decide) (by decide),h 2 0 (by decide) (by decide) (by decide),h 3 0 (by decide) (by decide) (by decide),h0 1 (by decide) (by decide),h0 2 (by decide) (by decide),h0 3 (by decide) (by decide)];grind
 ·simp only[gE,h 1 0 (by decide) (by decide) (by decide),h 2 0 (by decide) (by decide) (by decide),h 3 0 (by decide) (by decide) (by decide),h 2 1 (by decide) (by decide) (by decide),h 3 1 (by decide) (by decide) (by decide),h0 2 (by decide) (by decide),h0 3 (by decide) (by decide)];grind
 ·simp only[gE,h 1 0 (by decide) (by decide) (by decide),h 2 0 (by decide) (by decide) (by decide),h 3 0 (by decide) (by decide) (by decide),h 2 1 (by decide) (by decide) (by decide),h 3 1 (by decide) (by decide) (by decide),h 3 2 (by decide) (by decide) (by decide),h0 3 (by decide) (by decide)];grind
def bXi(a b c d e f g h:Int):(a*f-b*e)^2+(a*g-c*e)^2+(a*h-d*e)^2+(b*g-c*f)^2+(b*h-d*f)^2+(c*h-d*g)^2<=(a^2+b^2+c^2+d^2)*(e^2+f^2+g^2+h^2):=by
 have h1:(a*f-b*e)^2+(a*g-c*e)^2+(a*h-d*e)^2+(b*g-c*f)^2+(b*h-d*f)^2+(c*h-d*g)^2+(a*e+b*f+c*g+d*h)^2=(a^2+b^2+c^2+d^2)*(e^2+f^2+g^2+h^2):=by grind
 have h2:0<=(a*e+b*f+c*g+d*h)^2:=Cc _;omega
def bXh(p q r s t u a b c d:Int):(p*c-q*b+s*a)^2+(p*d-r*b+t*a)^2+(q*d-r*c+u*a)^2+(s*d-t*c+u*b)^2<=(p^2+q^2+r^2+s^2+t^2+u^2)*(a^2+b^2+c^2+d^2):=by
 have h1:(p*c-q*b+s*a)^2+(p*d-r*b+t*a)^2+(q*d-r*c+u*a)^2+(s*d-t*c+u*b)^2+((p*b+q*c+r*d)^2+(-p*a+s*c+t*d)^2+(-q*a-s*b+u*d)^2+(-r*a-t*b-u*c)^2)=(p^2+q^2+r^2+s^2+t^2+u^2)*(a^2+b^2+c^2+d^2):=by grind
 have h2:0<=(p*b+q*c+r*d)^2:=Cc _;have h3:0<=(-p*a+s*c+t*d)^2:=Cc _;have h4:0<=(-q*a-s*b+u*d)^2:=Cc _;have h5:0<=(-r*a-t*b-u*c)^2:=Cc _;omega
def bXg(p q r s a b c d:Int):(p*d-q*c+r*b-s*a)^2<=(p^2+q^2+r^2+s^2)*(a^2+b^2+c^2+d^2):=by
 have h1:(p*d-q*c+r*b-s*a)^2+((p*c+q*d)^2+(p*b-r*d)^2+(p*a+s*d)^2+(q*b+r*c)^2+(q*a-s*c)^2+(r*a+s*b)^2)=(p^2+q^2+r^2+s^2)*(a^2+b^2+c^2+d^2):=by grind
 have h2:0<=(p*c+q*d)^2:=Cc _;have h3:0<=(p*b-r*d)^2:=Cc _;have h4:0<=(p*a+s*d)^2:=Cc _;have h5:0<=(q*b+r*c)^2:=Cc _;have h6:0<=(q*a-s*c)^2:=Cc _;have h7:0<=(r*a+s*b)^2:=Cc _;omega
def cFc(x:Nat->Nat->Int):(gE x)^2<=(x 0 0^2+x 0 1^2+x 0 2^2+x 0 3^2)*(x 1 0^2+x 1 1^2+x 1 2^2+x 1 3^2)*(x 2 0^2+x 2 1^2+x 2 2^2+x 2 3^2)*(x 3 0^2+x 3 1^2+x 3 2^2+x 3 3^2):=by
 have h1:=bXi (x 0 0) (x 0 1) (x 0 2) (x 0 3) (x 1 0) (x 1 1) (x 1 2) (x 1 3);have h2:=bXh (x 0 0*x 1 1-x 0 1*x 1 0) (x 0 0*x 1 2-x 0 2*x 1 0) (x 0 0*x 1 3-x 0 3*x 1 0) (x 0 1*x 1 2-x 0 2*x 1 1) (x 0 1*x 1 3-x 0 3*x 1 1) (x 0 2*x 1 3-x 0 3*x 1 2) (x 2 0) (x 2 1) (x 2 2) (x 2 3);generalize hp:x 0 0*x 1 1-x 0 1*x 1 0=p at *;generalize hq:x 0 0*x 1 2-x 0 2*x 1 0=q at *;generalize hr:x 0 0*x 1 3-x 0 3*x 1 0=r at *;generalize hs:x 0 1*x 1 2-x 0 2*x 1 1=s at *;generalize ht:x 0 1*x 1 3-x 0 3*x 1 1=t at *;generalize hu:x 0 2*x 1 3-x 0 3*x 1 2=u at *;have h3:=bXg (p*x 2 2-q*x 2 1+s*x 2 0) (p*x 2 3-r*x 2 1+t*x 2 0) (q*x 2 3-r*x 2 2+u*x 2 0) (s*x 2 3-t*x 2 2+u*x 2 1) (x 3 0) (x 3 1) (x 3 2) (x 3 3);have hd:gE x=(p*x 2 2-q*x 2 1+s*x 2 0)*x 3 3-(p*x 2 3-r*x 2 1+t*x 2 0)*x 3 2+(q*x 2 3-r*x 2 2+u*x 2 0)*x 3 1-(s*x 2 3-t*x 2 2+u*x 2 1)*x 3 0:=by subst hp hq hr hs ht hu;unfold gE;grind
 rw[hd];have n2:0<=x 2 0^2+x 2 1^2+x 2 2^2+x 2 3^2:=by have a:=Cc (x 2 0);have b:=Cc (x 2 1);have c:=Cc (x 2 2);have d:=Cc (x 2 3);omega
 have n3:0<=x 3 0^2+x 3 1^2+x 3 2^2+x 3 3^2:=by have a:=Cc (x 3 0);have b:=Cc (x 3 1);have c:=Cc (x 3 2);have d:=Cc (x 3 3);omega
 refine Int.le_trans h3 (FJ ?_ n3);exact Int.le_trans h2 (FJ h1 n2)
end Go.Am
end
section
open List renaming map_map->I,mapM_map->O
open Go Go.Am Go.Proofs
namespace Go.Am
def dH(q:Rat):D:=.ag [.b (decide (q.num<0)),aB (aJ q.num.natAbs),.b false,aB (aJ q.den)]
def cK(q:Rat):dH q=.ag [.b (decide (q.num<0)),aB (aJ q.num.natAbs),.b false,aB (aJ q.den)]:=rfl
def aQo{n:Nat}(h:n<bBb):SB (n:Int):=by unfold SB;rw[Ct];exact h
def bVv[M:Mch Aa](n d:Int)(hd:d≠0)(hn:SB n)(hdb:SB d):Spec Aa 194 [encZ n,encZ d] (.tp [dH (fq n d),.i .i64 0]):=by
 have hSg:=lG d;have hse:(d.sign==0)=false:=by have:=aQi hd;rw[bne,C8]at this;exact this
 by_cases h0:d<0
 ·have hs1:d.sign<0:=(jS d).symm ▸ (by rw[Aq h0];decide);have hN1:=rJ n (hn.le (by decide));have hN2:=rJ d (hdb.le (by decide));have hn':SB (-n):=by unfold SB at *;rwa [Fw]
  have hd':SB (-d):=by unfold SB at *;rwa [Fw]
  have hG:=bFs (-n) (-d) hn' hd';obtain⟨g,hg⟩:∃g,Int.gcd (-n) (-d)=g:=⟨_,rfl⟩;have hg0:(g:Int)≠0:=by
   rw[<-hg];intro h;have h2:Int.gcd (-n) (-d)=0:=by omega
   rw[Int.gcd_eq_zero_iff]at h2;omega
  have hgb:SB (g:Int):=by refine aQo ?_;have h1:=Int.gcd_dvd_right (-n) (-d);rw[hg]at h1;have h2:=Int.le_of_dvd (by omega) h1;unfold SB at hd';omega
  have hD1:=kX (-n) g hg0 (hn'.le (by decide)) (hgb.le (by decide));have hD2:=kX (-d) g hg0 (hd'.le (by decide)) (hgb.le (by decide));obtain⟨q1,q2⟩:=aIp (n:=-n) (k:=(-d).toNat) (by omega);have hgg:(-n).natAbs.gcd (-d).toNat=g:=by rw[<-hg];show _=(-n).natAbs.gcd (-d).natAbs;congr 1;omega
  rw[hgg]at q1 q2;have hR:dH (fq n d)=.ag [.b (decide ((-n)/(g:Int)<0)),aB (aJ ((-n)/(g:Int)).natAbs),.b (decide ((-d)/(g:Int)<0)),aB (aJ ((-d)/(g:Int)).natAbs)]:=by
   have e1:fq n d=mkRat (-n) (-d).toNat:=by unfold fq;rw[Aq h0]
   have e2:(((-d).toNat/g:Nat):Int)=(-d)/(g:Int):=by rw[E4,BV (by omega)]
   have e3:¬(-d)/(g:Int)<0:=by rw[<-e2];omega
   have e4:((-d)/(g:Int)).natAbs=(-d).toNat/g:=by rw[<-e2,Ct]
   unfold dH;rw[e1,q1,q2,Bs e3,e4]
  rw[hR];rw[hg]at hG;rw[<-cX]at hG;generalize(-n)/(g:Int)=u1 at *;generalize(-n)%(g:Int)=u2 at *;generalize(-d)/(g:Int)=u3 at *;generalize(-d)%(g:Int)=u4 at *;generalize d.sign=s at *;generalize -n=n1 at *;generalize -d=d1 at *;refine aX (N:=44) Tryz.func194 ?_;simp[-I,-O,↓KW,bB n,bB d,aH];refine aC hSg ?_;simp[-I,-O,↓KW,hse,aH];refine aC hSg ?_;simp[-I,-O,↓KW,hs1,aH];refine aC hN1 ?_;simp[-I,-O,↓KW,bB n1,aH];refine aC hN2 ?_;simp[-I,-O,↓KW,bB d1,aH];refine aC hG ?_;simp[-I,-O,↓KW,bB (g:Int),aH];refine aC hD1 ?_;simp[-I,-O,↓KW,bB u1,bB u2,aH];refine aC hD2 ?_;simp[-I,-O,↓KW,bB u3,bB u4,aH,dV]
 ·have hs1:¬d.sign<0:=by rw[jS,Ai h0];split<;>decide
  have hG:=bFs n d hn hdb;obtain⟨g,hg⟩:∃g,Int.gcd n d=g:=⟨_,rfl⟩;have hg0:(g:Int)≠0:=by
   rw[<-hg];intro h;have h2:Int.gcd n d=0:=by omega
   rw[Int.gcd_eq_zero_iff]at h2;omega
  have hgb:SB (g:Int):=by refine aQo ?_;have h1:=Int.gcd_dvd_right n d;rw[hg]at h1;have h2:=Int.le_of_dvd (by omega) h1;unfold SB at hdb;omega
  have hD1:=kX n g hg0 (hn.le (by decide)) (hgb.le (by decide));have hD2:=kX d g hg0 (hdb.le (by decide)) (hgb.le (by decide));obtain⟨q1,q2⟩:=aIp (n:=n) (k:=d.toNat) (by omega);have hgg:n.natAbs.gcd d.toNat=g:=by rw[<-hg];show _=n.natAbs.gcd d.natAbs;congr 1;omega
  rw[hgg]at q1 q2;have hR:dH (fq n d)=.ag [.b (decide (n/(g:Int)<0)),aB (aJ (n/(g:Int)).natAbs),.b (decide (d/(g:Int)<0)),aB (aJ (d/(g:Int)).natAbs)]:=by
   have e1:fq n d=mkRat n d.toNat:=by unfold fq;rw[Ai h0]
   have e2:((d.toNat/g:Nat):Int)=d/(g:Int):=by rw[E4,BV (by omega)]
   have e3:¬d/(g:Int)<0:=by rw[<-e2];omega
   have e4:(d/(g:Int)).natAbs=d.toNat/g:=by rw[<-e2,Ct]
   unfold dH;rw[e1,q1,q2,Bs e3,e4]
  rw[hR];rw[hg]at hG;rw[<-cX]at hG;generalize n/(g:Int)=u1 at *;generalize n%(g:Int)=u2 at *;generalize d/(g:Int)=u3 at *;generalize d%(g:Int)=u4 at *;generalize d.sign=s at *;refine aX (N:=44) Tryz.func194 ?_;simp[-I,-O,↓KW,bB n,bB d,aH];refine aC hSg ?_;simp[-I,-O,↓KW,hse,aH];refine aC hSg ?_;simp[-I,-O,↓KW,hs1,aH];refine aC hG ?_;simp[-I,-O,↓KW,bB (g:Int),aH];refine aC hD1 ?_;simp[-I,-O,↓KW,bB u1,bB u2,aH];refine aC hD2 ?_;simp[-I,-O,↓KW,bB u3,bB u4,aH,dV]
def b1k:Nat:=4294967296^32
def bLt:2*(b1k*b1k)<bBb:=by unfold b1k bBb;decide
def bLu:b1k<bBb:=by unfold b1k bBb;decide
def QS(q:Rat):Prop:=QB b1k q
def QS.num{q:Rat}(h:QS q):SB q.num:=Bf h.1 bLu
def QS.den{q:Rat}(h:QS q):SB (q.den:Int):=aQo (Bf h.2 bLu)
def tC{x y:Int}(hx:x.natAbs<=b1k)(hy:y.natAbs<=b1k):SB (x*y):=by have:=A9 hx hy;have h2:=bLt;unfold SB;rw[D3];omega
def bYc{x y u v:Int}(hx:x.natAbs<=b1k)(hy:y.natAbs<=b1k)(hu:u.natAbs<=b1k)(hv:v.natAbs<=b1k):SB (x*y+u*v):=by have h1:=A9 hx hy;have h2:=A9 hu hv;have h3:=bLt;have h4:=Int.natAbs_add_le (x*y) (u*v);rw[D3,D3]at h4;unfold SB;omega
def QS.n{q:Rat}(h:QS q):q.num.natAbs<=b1k:=h.1
def QS.d{q:Rat}(h:QS q):(q.den:Int).natAbs<=b1k:=by rw[Ct];exact h.2
def rT(q:Rat):dH q=.ag [.b (decide (q.num<0)),aB (aJ q.num.natAbs),.b (decide ((q.den:Int)<0)),aB (aJ (q.den:Int).natAbs)]:=by rw[dH,Ct,Bs (show ¬(q.den:Int)<0 by omega)]
def bVu[M:Mch Aa](n d:Int)(hd:d≠0)(hn:SB n)(hdb:SB d):Spec Aa 175 [encZ n,encZ d] (dH (fq n d)):=by have hO:=bVv n d hd hn hdb;generalize fq n d=q at *;refine aX (N:=14) Tryz.func175 ?_;simp[-I,-O,↓KW,bB n,bB d,aH];refine aC hO ?_;simp[-I,-O,↓KW,cK q,aH]
def bFp[M:Mch Aa](q:Rat)(hq:QS q):Spec Aa 130 [dH q] (dH (-q)):=by
 have hN:=rJ q.num (hq.num.le (by decide));have hR:dH (-q)=.ag [.b (decide (-q.num<0)),aB (aJ (-q.num).natAbs),.b false,aB (aJ q.den)]:=by unfold dH;rw[Rat.neg_num,Rat.neg_den]
 rw[hR];generalize -q.num=u at *;refine aX (N:=9) Tryz.func130 ?_;simp[-I,-O,↓KW,cK q,aH];refine aC hN ?_;simp[-I,-O,↓KW,bB u,aH]
def bQf[M:Mch Aa](q:Rat):Spec Aa 129 [dH q] (.i .i64 q.num.sign):=by have hS:=lG q.num;generalize q.num.sign=s at *;refine aX (N:=6) Tryz.func129 ?_;simp[-I,-O,↓KW,cK q,aH];refine aC hS ?_;simp[-I,-O,↓KW]
def aLo[M:Mch Aa](z:Int):Spec Aa 174 [encZ z] (dH (z:Rat)):=by
 have hO:=aAt (x:=1) (by omega);have hR:dH (z:Rat)=.ag [.b (decide (z<0)),aB (aJ z.natAbs),.b false,aB (aJ 1)]:=by unfold dH;rw[Rat.num_intCast,Rat.den_intCast]
 rw[hR];refine aX (N:=6) Tryz.func174 ?_;simp[-I,-O,↓KW,bB z,aH];refine aC hO ?_;simp[-I,-O,↓KW,aN 1,aH]
def bYl[M:Mch Aa]:Spec Aa 127 [.i .i64 1] (dH 1):=by have hO:=aLs 1 (by decide) (by decide);have hW:=aLo 1;rw[show((1:Int):Rat)=1 from rfl]at hW;refine aX (N:=6) Tryz.func127 ?_;simp[-I,-O,↓KW];refine aC hO ?_;simp[-I,-O,↓KW,bB 1,aH];refine aC hW ?_;simp[-I,-O,↓KW,cK 1,aH]
def bFq[M:Mch Aa](a b:Rat)(ha:QS a)(hb:QS b):Spec Aa 131 [dH a,dH b] (dH (a*b)):=by have h1:=jT a.num b.num (ha.num.le (by decide)) (hb.num.le (by decide));have h2:=jT (a.den:Int) (b.den:Int) (ha.den.le (by decide)) (hb.den.le (by decide));have h3:=bVu (a.num*b.num) ((a.den:Int)*(b.den:Int)) (bRr a b) (tC ha.n hb.n) (tC ha.d hb.d);rw[bJa]at h3;generalize a*b=q at *;generalize a.num*b.num=x at *;generalize(a.den:Int)*(b.den:Int)=y at *;refine aX (N:=16) Tryz.func131 ?_;simp[-I,-O,↓KW,rT a,rT b,aH];refine aC h1 ?_;simp[-I,-O,↓KW,bB x,aH];refine aC h2 ?_;simp[-I,-O,↓KW,bB y,aH];refine aC h3 ?_;simp[-I,-O,↓KW,cK q,aH]
def bYn[M:Mch Aa](a b:Rat)(ha:QS a)(hb:QS b):Spec Aa 195 [dH a,dH b] (dH (a+b)):=by have h1:=jT a.num (b.den:Int) (ha.num.le (by decide)) (hb.den.le (by decide));have h2:=jT b.num (a.den:Int) (hb.num.le (by decide)) (ha.den.le (by decide));have h3:=uE (a.num*(b.den:Int)) (b.num*(a.den:Int)) ((tC ha.n hb.d).le (by decide)) ((tC hb.n ha.d).le (by decide));have h4:=jT (a.den:Int) (b.den:Int) (ha.den.le (by decide)) (hb.den.le (by decide));have h5:=bVu (a.num*(b.den:Int)+b.num*(a.den:Int)) ((a.den:Int)*(b.den:Int)) (bRr a b) (bYc ha.n hb.d hb.n ha.d) (tC ha.d hb.d);rw[bJe]at h5;generalize a+b=q at *;generalize a.num*(b.den:Int)+b.num*(a.den:Int)=w at *;generalize a.num*(b.den:Int)=x at *;generalize b.num*(a.den:Int)=u at *;generalize(a.den:Int)*(b.den:Int)=y at *;refine aX (N:=24) Tryz.func195 ?_;simp[-I,-O,↓KW,rT a,rT b,aH];refine aC h1 ?_;simp[-I,-O,↓KW,bB x,aH];refine aC h2 ?_;simp[-I,-O,↓KW,bB u,aH];refine aC h3 ?_;simp[-I,-O,↓KW,bB w,aH];refine aC h4 ?_;simp[-I,-O,↓KW,bB y,aH];refine aC h5 ?_;simp[-I,-O,↓KW,cK q,aH]
def bYk[M:Mch Aa](a b:Rat)(ha:QS a)(hb:QS b):Spec Aa 176 [dH a,dH b] (dH (a-b)):=by have h1:=bFp b hb;have h2:=bYn a (-b) ha hb.neg;rw[<-Rat.sub_eq_add_neg]at h2;generalize a-b=q at *;generalize -b=c at *;refine aX (N:=9) Tryz.func176 ?_;simp[-I,-O,↓KW,cK a,cK b,aH];refine aC h1 ?_;simp[-I,-O,↓KW,cK c,aH];refine aC h2 ?_;simp[-I,-O,↓KW,cK q,aH]
def bYm[M:Mch Aa](a b:Rat)(h0:b≠0)(ha:QS a)(hb:QS b):Spec Aa 177 [dH a,dH b] (.tp [dH (a/b),.i .i64 0]):=by have h1:=jT a.num (b.den:Int) (ha.num.le (by decide)) (hb.den.le (by decide));have h2:=jT (a.den:Int) b.num (ha.den.le (by decide)) (hb.num.le (by decide));have h3:=bVv (a.num*(b.den:Int)) ((a.den:Int)*b.num) (Int.mul_ne_zero (bTw a) (λh=>h0 (Rat.num_eq_zero.1 h))) (tC ha.n hb.d) (tC ha.d hb.n);rw[bJd a b h0]at h3;generalize a/b=q at *;generalize a.num*(b.den:Int)=x at *;generalize(a.den:Int)*b.num=y at *;refine aX (N:=19) Tryz.func177 ?_;simp[-I,-O,↓KW,rT a,rT b,aH];refine aC h1 ?_;simp[-I,-O,↓KW,bB x,aH];refine aC h2 ?_;simp[-I,-O,↓KW,bB y,aH];refine aC h3 ?_;simp[-I,-O,↓KW,cK q,aH,dV]
def bQg[M:Mch Aa](a b:Rat)(h0:b≠0)(ha:QS a)(hb:QS b):Spec Aa 133 [dH a,dH b] (dH (a/b)):=by have h1:=bYm a b h0 ha hb;generalize a/b=q at *;refine aX (N:=14) Tryz.func133 ?_;simp[-I,-O,↓KW,cK a,cK b,aH];refine aC h1 ?_;simp[-I,-O,↓KW,cK q,aH]
end Go.Am
end
section
open List renaming map_map->I,mapM_map->O
namespace Go.Am
def PrN(n:Nat):Prop:=2<=n/\∀d,2<=d->d*d<=n->n%d≠0
def PrN.dvd{p d:Nat}(hp:PrN p)(hd:d ∣ p):d=1\/d=p:=by
 obtain⟨e,he⟩:=hd;have hp2:=hp.1;rcases A4 d 2 with h1|h1
 ·left;rcases A7 d with h0|h0
  ·subst h0;simp at he;omega
  ·omega
 rcases A4 e 2 with h2|h2
 ·right;rcases A7 e with h0|h0
  ·subst h0;simp at he;omega
  ·have:e=1:=by omega
   subst this;omega
 exfalso;rcases Nat.le_total d e with h|h
 ·exact hp.2 d h1 (by rw[he];exact Ce d h) (by rw[he];exact Nat.mul_mod_right d e)
 ·exact hp.2 e h2 (by rw[he];exact B9 e h) (by rw[he];exact Nat.mul_mod_left d e)
def PrN.cop{p a:Nat}(hp:PrN p)(ha:a%p≠0):EX p a:=by
 rcases hp.dvd (Nat.gcd_dvd_left p a)with h|h
 ·exact h
 ·exact absurd (Nat.mod_eq_zero_of_dvd (h ▸ Nat.gcd_dvd_right p a)) ha
def PrN.two{p q:Nat}(hp:PrN p)(hq:PrN q)(h:p≠q):EX p q:=by
 refine hp.cop λhz=>?_
 rcases hq.dvd (Cs hz)with h1|h1
 ·have:=hp.1;omega
 ·exact h h1
def bG:List Nat->Nat
 |[]=>1
 |p::l=>p*bG l
def aAv{l m:List Nat}(h:l.Perm m):bG l=bG m:=by
 induction h with
 |nil=>rfl
 |cons x _ ih=>simp only[bG,ih]
 |swap x y l=>simp only[bG,<-B2,B5 x y]
 |trans _ _ h1 h2=>exact h1.trans h2
def bQs{l m:List Nat}:l.Nodup->(∀x∈l,x∈m)->m.length<=l.length->l.Perm m:=by
 induction l generalizing m with
 | nil =>
  intro _ _ hl;have:m=[]:=B1 (by simpa using hl);subst this;exact .refl _
 | cons x l ih =>
  intro hn hs hl;have hx:x∈m:=hs x (AI ..);rw[Df]at hn;have hp:=List.perm_cons_erase hx;refine .trans (List.Perm.cons x (ih hn.2 (λy hy=>?_) ?_)) hp.symm
  ·have hyx:y≠x:=λe=>hn.1 (e ▸ hy)
   exact(List.mem_erase_of_ne hyx).2 (hs y (AE _ hy))
  ·have:=hp.length_eq;simp only[Ak]at this hl;omega
def sQ(p a:Nat):∀l:List Nat,bG (l.map λi=>a*i%p)%p=a^l.length*bG l%p
 |[]=>by simp[bG]
 | x::l=>by have ih:=sQ p a l;simp only[BO,bG,Ak,BR];rw[Eg,ih,EB,<-Eg];congr 1;ac_rfl
def wN{p:Nat}:∀{l:List Nat},(∀x∈l,EX p x)->EX p (bG l)
 |[],_=>by simp[bG]
 |x::l,h=>Nat.Coprime.mul_right (h x (AI ..)) (wN λy hy=>h y (AE _ hy))
def cAk{p a:Nat}(hp:PrN p)(ha:a%p≠0):a^(p-1)%p=1:=by
 have hp2:=hp.1;have hcop:=hp.cop ha;obtain⟨L,hL⟩:∃L,L=(AN (p-1)).map (·+1):=⟨_,rfl⟩;have hmem:∀x,x∈L↔0<x/\x<p:=λx=>by
  rw[hL,AM];constructor
  ·rintro⟨y,hy,rfl⟩;rw[Cr]at hy;omega
  ·rintro⟨h1,h2⟩;exact⟨x-1,Cr.2 (by omega),by omega⟩
 have hlen:L.length=p-1:=by rw[hL];simp
 have hcx:∀x∈L,EX p x:=λx hx=>by obtain⟨h1,h2⟩:=(hmem x).1 hx;exact hp.cop (by rw[BY h2];omega)
 have hnd:(L.map λi=>a*i%p).Nodup:=by
  rw[List.Nodup,Fz];have h0:L.Pairwise (·≠·):=by rw[hL,Fz];exact List.Pairwise.imp (λh=>by omega) List.nodup_range
  refine List.Pairwise.imp_of_mem (λ{x y} hx hy hne he=>hne ?_) h0;obtain⟨x1,x2⟩:=(hmem x).1 hx;obtain⟨y1,y2⟩:=(hmem y).1 hy;rcases Nat.le_total x y with hxy|hxy
  ·have h1:(a*y-a*x)%p=0:=EC he.symm;rw[<-Nat.mul_sub]at h1;have h2:=hcop.dvd_of_dvd_mul_left (Cs h1);have:=λh=>GF h h2
   rcases A7 (y-x)with h3|h3
   ·omega
   ·have:=this h3;omega
  ·have h1:(a*x-a*y)%p=0:=EC he;rw[<-Nat.mul_sub]at h1;have h2:=hcop.dvd_of_dvd_mul_left (Cs h1);have:=λh=>GF h h2
   rcases A7 (x-y)with h3|h3
   ·omega
   ·have:=this h3;omega
 have hperm:(L.map λi=>a*i%p).Perm L:=by
  refine bQs hnd (λx hx=>?_) (by simp);obtain⟨i,hi,rfl⟩:=AM.1 hx;obtain⟨i1,i2⟩:=(hmem i).1 hi;refine(hmem _).2 ⟨?_,BF _ (by omega)⟩;refine Nat.pos_of_ne_zero λhz=>?_
  have:=hcop.dvd_of_dvd_mul_left (Cs hz);have:=GF i1 this;omega
 have h1:=sQ p a L;rw[aAv hperm,hlen]at h1;have hcP:=wN hcx;have hpos:0<a^(p-1):=Nat.pow_pos (Nat.pos_of_ne_zero λh=>ha (by subst h;simp));have h2:(a^(p-1)*bG L-1*bG L)%p=0:=EC (by rw[DW];exact h1.symm);rw[<-Nat.sub_mul]at h2;have h3:=hcP.dvd_of_dvd_mul_right (Cs h2);obtain⟨k,hk⟩:=h3;have:a^(p-1)=1+p*k:=by omega
 rw[this,Fb,BY (by omega)]
def aCd{p a:Nat}(hp:PrN p)(ha:a%p≠0):a^(p-2)*a%p=1:=by have h2:=hp.1;rw[<-BR,show(p-2).succ=p-1 from by omega];exact cAk hp ha
def aLz(p:Nat):∀(n r a e:Nat),e<2^n->tI p n r a e%p=r*a^e%p
 | 0,r,a,e,h=>by
  have:e=0:=by simpa using h
  subst this;simp[tI]
 | n+1,r,a,e,h=>by
  unfold tI;split
  ·rename_i h0;subst h0;simp
  ·have ih:=aLz p n (if e%2=1 then r*a%p else r) (a*a%p) (e/2) (by rw[BR]at h;omega);rw[ih];have h2:a^e=(a*a)^(e/2)*a^(e%2):=by rw[<-Nat.pow_two,<-Nat.pow_mul,<-Fq];congr 1;omega
   rw[h2];rcases Gc e with he|he
   ·rw[he,Ai (by decide),Nat.pow_zero,Dj,Eg,<-Nat.pow_mod,<-Eg]
   ·rw[he,Aq rfl,Nat.pow_one,Eg,EB,<-Nat.pow_mod,<-Eg];congr 1;ac_rfl
def aUl(p:Nat)(hp:0<p):∀(n r a e:Nat),r<p->tI p n r a e<p
 |0,r,a,e,h=>by simpa[tI]using h
 | n+1,r,a,e,h=>by
  unfold tI;split
  ·exact h
  ·refine aUl p hp n _ _ _ ?_;split
   ·exact BF _ hp
   ·exact h
def bFw{p a e:Nat}(hp:0<p)(he:e<18446744073709551616):tI p 64 (1%p) a e=a^e%p:=by have h1:=aLz p 64 (1%p) a e he;have h2:=aUl p hp 64 (1%p) a e (BF _ hp);rw[BY h2]at h1;rw[h1,Eg,EB,<-Eg,DW]
def sN(p v a m:Nat):Nat:=(v+p-a%p)%p*((m%p)^(p-2)%p)%p
def oN:List (Nat×Nat)->Nat->Nat->Nat×Nat
 |[],a,m=>(a,m)
 |(p,v)::l,a,m=>oN l (a+m*sN p v a m) (m*p)
def aJp(l:List (Nat×Nat)):Int:=let x:=oN l 0 1;if x.2<x.1+x.1 then(x.1:Int)-x.2 else x.1
def bGu{p a b c d:Nat}(h1:a%p=b%p)(h2:c%p=d%p):a*c%p=b*d%p:=by rw[Eg,h1,h2,<-Eg]
def cDp{p a b c d:Nat}(h1:a%p=b%p)(h2:c%p=d%p):(a+c)%p=(b+d)%p:=by rw[Nat.add_mod,h1,h2,<-Nat.add_mod]
def aWb{p v a m:Nat}(hp:0<p):sN p v a m<p:=BF _ hp
def bUh{p v a m:Nat}(hp:PrN p)(hv:v<p)(hm:m%p≠0):(a+m*sN p v a m)%p=v:=by
 have hp0:0<p:=by have:=hp.1;omega
 have hinv:(m%p)^(p-2)*(m%p)%p=1:=aCd hp (by rw[EB];exact hm);unfold sN;have ha:=BF a hp0;have hs:a+(v+p-a%p)=v+p*(a/p+1):=by have:=EK a p;rw[Cx,Dj];omega
 generalize(m%p)^(p-2)=u at *;generalize v+p-a%p=s at *;have e2:u*m%p=1%p:=by rw[bGu (b:=u) (d:=m%p) rfl (EB _ _).symm,hinv,BY (by have:=hp.1;omega)]
 have e1:m*(s%p*(u%p)%p)%p=s%p:=by rw[bGu (b:=m) (d:=s*u) rfl (by rw[EB];exact bGu (EB _ _) (EB _ _))];rw[show m*(s*u)=s*(u*m)by ac_rfl,bGu (b:=s) (d:=1) rfl e2,Dj]
 rw[cDp (b:=a) (d:=s) rfl e1,hs,Fb,BY hv]
structure bBi(l:List (Nat×Nat)):Prop where
 pr:∀x∈l,PrN x.1
 lt:∀x∈l,x.2<x.1
 nd:(l.map (·.1)).Nodup
def aCq{p:Nat}{l:List Nat}(hp:PrN p)(h:∀q∈l,PrN q)(hn:p ∉ l):EX p (bG l) :=
 wN λq hq=>hp.two (h q hq) λe=>hn (e ▸ hq)
def aLv{n:Nat}:∀{l:List Nat},(∀q∈l,PrN q)->l.Nodup->(∀q∈l,q ∣ n)->bG l ∣ n
 |[],_,_,_=>by simp[bG]
 | p::l,h,hn,hd=>by
  rw[Df]at hn;have h1:=aLv (n:=n) (l:=l) (λq hq=>h q (AE _ hq)) hn.2 λq hq=>hd q (AE _ hq)
  exact(aCq (h p (AI ..)) (λq hq=>h q (AE _ hq)) hn.1).mul_dvd_of_dvd_of_dvd (hd p (AI ..)) h1
def aNy{l:List Nat}(h:∀q∈l,PrN q)(hn:l.Nodup){x y:Int}(hr:∀q∈l,(x-y)%(q:Int)=0)(hb:(x-y).natAbs<bG l):x=y:=by
 have hd:bG l ∣ (x-y).natAbs:=aLv h hn λq hq=>Ft.1 (Int.dvd_natAbs.2 (Int.dvd_of_emod_eq_zero (hr q hq)))
 rcases A7 (x-y).natAbs with h0|h0
 ·omega
 ·have:=GF h0 hd;omega
def aJq:∀(l done:List (Nat×Nat)) (a m:Nat),bBi (done++l)->m=bG (done.map (·.1))->a<m->(∀x∈done,a%x.1=x.2) ->
  (oN l a m).2=bG ((done++l).map (·.1))/\(oN l a m).1<(oN l a m).2/\∀x∈done++l,(oN l a m).1%x.1=x.2
 |[],done,a,m,hP,hm,ha,hr=>by simp only[oN,List.append_nil];exact⟨hm,ha,hr⟩
 | (p,v)::l,done,a,m,hP,hm,ha,hr=>by
  have hp:PrN p:=hP.pr (p,v) (by simp);have hv:v<p:=hP.lt (p,v) (by simp);have hnd:=hP.nd;rw[EL,Eh]at hnd;have hpn:p ∉ done.map (·.1):=λh=>hnd.2.2 p h p (by simp) rfl
  have hcop:EX p m:=by rw[hm];refine aCq hp (λq hq=>?_) hpn;obtain⟨x,hx,rfl⟩:=AM.1 hq;exact hP.pr x (List.mem_append_left _ hx)
  have hp2:=hp.1;have hmp:m%p≠0:=λh=>by have h1:=Gm hcop (Cs h);omega
  have ht:=aWb (v:=v) (a:=a) (m:=m) (show 0<p by omega);have hok:=bUh (a:=a) (m:=m) hp hv hmp;have ih:=aJq l (done++[(p,v)]) (a+m*sN p v a m) (m*p) (by simpa using hP) (by
   rw[hm];have:∀(xs:List Nat),bG (xs++[p])=bG xs*p:=λxs=>by
    induction xs with
    |nil=>simp[bG]
    |cons x xs ih=>simp only[Co,bG,ih,B2]
   rw[EL];exact(this _).symm) (by
   have:m*(sN p v a m+1)<=m*p:=Ce m ht;rw[Cx,Dj]at this;omega) (λx hx=>by
   rcases BP.1 hx with h|h
   ·have h1:=hr x h;have hd:x.1 ∣ m:=by
     rw[hm];have:∀(xs:List Nat) (q:Nat),q∈xs->q ∣ bG xs:=λxs q hq=>by
      induction xs with
      |nil=>cases hq
      | cons y xs ih =>
       rcases Bn.1 hq with rfl|h
       ·exact⟨_,rfl⟩
       ·obtain⟨k,hk⟩:=ih h;exact⟨y*k,by simp only[bG,hk];ac_rfl⟩
     exact this _ _ (DN h)
    obtain⟨k,hk⟩:=hd;rw[hk,B2,Fb];exact h1
   ·simp only[BQ]at h;subst h;exact hok)
  simp only[oN];simpa using ih
def aWa{l:List (Nat×Nat)}(hP:bBi l):(∀x∈l,(aJp l)%(x.1:Int)=(x.2:Int))/\2*aJp l<=(bG (l.map (·.1)):Int)/\-(bG (l.map (·.1)):Int)<2*aJp l:=by
 obtain⟨h1,h2,h3⟩:=aJq l [] 0 1 (by simpa using hP) rfl (by decide) (by simp);simp only[Dv]at h1 h3;unfold aJp;rw[h1]at h2;simp only[h1];generalize(oN l 0 1).1=a at *;have hdv:∀x∈l,((bG (l.map (·.1)):Nat):Int)%(x.1:Int)=0:=λx hx=>by
  have:∀(xs:List Nat) (q:Nat),q∈xs->q ∣ bG xs:=λxs q hq=>by
   induction xs with
   |nil=>cases hq
   | cons y xs ih =>
    rcases Bn.1 hq with rfl|h
    ·exact⟨_,rfl⟩
    ·obtain⟨k,hk⟩:=ih h;exact⟨y*k,by simp only[bG,hk];ac_rfl⟩
  exact GL (Ft.2 (this _ _ (DN hx)))
 generalize bG (l.map (·.1))=Mm at *;split
 ·refine⟨λx hx=>?_,by omega,by omega⟩;have:=h3 x hx;rw[Int.sub_emod,hdv x hx,Int.sub_zero,Int.emod_emod_of_dvd _ (Int.dvd_refl _)];omega
 ·refine⟨λx hx=>?_,by omega,by omega⟩;have:=h3 x hx;omega
end Go.Am
end
section
open List renaming map_map->I,mapM_map->O
open Go Go.Am Go.Proofs
namespace Go.Am
def pE(k:Nat):Int:=(k:Int)-1
def tG(k:Nat):pE (k+1)=(k:Int):=by unfold pE;omega
def aRb:pE 0=-1:=rfl
def rmd(p x:Nat):Nat:=x%p
def bCu{m:List Nat}{k:Nat}(h:k<m.length):val (m.drop k)=m[k]! + 4294967296*val (m.drop (k+1)):=by rw[Cn h,B7 m k h];rfl
def aVu(m:List Nat):∃L,aB m=.sl L/\L.length=m.length/\∀i,i<m.length->L[i]? = some [.i .u32 ((m[i]! : Nat):Int)]:=⟨_,rfl,by simp,λi hi=>by rw[Ag,Ab hi,B7 m i hi];rfl⟩
def bPu[M:Mch Aa](p:Nat)(neg:Bool)(m:List Nat)(hp:0<p)(hp1:p<=2147483648)(hm:Lim m)(hl:m.length<=9223372036854775807) :
  Spec Aa 53 [.i .u64 p,.ag [.b neg,aB m]] (.i .u64 (if neg=true/\0<val m%p then p-val m%p else val m%p:Nat)):=by
 obtain⟨L,hL,hLl,hLg⟩:=aVu m
 have h1L:one (.d (.sl L))=true:=rfl
 refine aX (N:=36) Tryz.func53 ?_
 rw[hL]
 simp[-I,-O,↓KW]
 have hlw:Ah.wrap ((L.length:Int)-1)=pE m.length:=by rw[hLl];unfold pE;exact aP
 have hmod:∀x:Nat,x%p<p:=λx=>BF x hp
 refine aY (τ:=Nat) (λk=>k<=m.length) (λk=>StL [(0,.d (.i .u64 p)),(3,.ptr 1 0),(5,.d (.i .u64 (rmd p (val (m.drop k)):Nat))),(6,.d (.i .i64 (pE k)))] none [.cells 31 [.d (.b neg),.d (.sl L)]]) (λk=>k) m.length (Ay _) ?_ ?_
 ·rw[List.drop_length]
  refine wkQ [1] ?_ ?_<;>simp[-I,upd,aL,Γ0,val,hlw,rmd]
 ·intro k hk
  cases k with
  | zero =>
   rw[aRb,D4]
   show AWP _ _ (StL [(0,_),(3,_),(5,.d (.i .u64 ((val m%p:Nat):Int))),(6,_)] none _) _
   have hr:=hmod (val m)
   generalize val m%p=r at *
   simp[-I,-O,↓KW]
   refine aS ?_
   cases neg with
   |false=>simp[-I,-O,↓KW]
   | true =>
    rcases A7 r with h0|h0
    ·subst h0
     simp[-I,-O,↓KW]
    ·have hi:(0:Int)<(r:Int):=by omega
     have hw:AB.wrap ((p:Int)-(r:Int))=((p-r:Nat):Int):=by rw[show(p:Int)-(r:Int)=((p-r:Nat):Int)from by omega];exact wrap_u64 (by omega) (by omega)
     simp[-I,-O,↓KW,hi,h0,hw]
  | succ k =>
   rw[tG]
   show AWP _ _ (StL [(0,_),(3,_),(5,.d (.i .u64 ((val (m.drop (k+1))%p:Nat):Int))),(6,_)] none _) _
   have hx:m[k]! < 4294967296:=by rw[B7 m k (by omega)];exact hm _ (Bz ..)
   have hLk:=hLg k (by omega)
   have hLk':∀h,L[k]'h=[.i .u32 ((m[k]! : Nat):Int)]:=λh=>by rw[Ab h]at hLk;injection hLk
   have hv:val (m.drop k)%p=(val (m.drop (k+1))%p*4294967296+m[k]!)%p:=by rw[bCu (by omega)];rw[EE m[k]!,B5 4294967296];exact cDp (bGu (EB _ _).symm rfl) rfl
   obtain⟨r',hr'⟩:∃r',val (m.drop k)%p=r':=⟨_,rfl⟩
   have hr:=hmod (val (m.drop (k+1)))
   rw[hr']at hv
   generalize val (m.drop (k+1))%p=r at *
   generalize m[k]! = x at *
   have hR:=uB (r*4294967296+x) p hp
   rw[<-hv]at hR
   have hk0:(0:Int)<=(k:Int):=by omega
   have hkl:k<L.length:=by omega
   have hwk:Ah.wrap (k:Int)=k:=aP
   have hwk1:Ah.wrap ((k:Int)-1)=pE k:=by unfold pE;exact aP
   have hsh:dT .shl .u64 (r:Int) 32=some (.i .u64 ((r*4294967296:Nat):Int)):=by simp only[dT,CK];rw[Ai (by decide)];congr 2;rw[show(2:Int)^(min (32:Int).toNat 64)=4294967296 from by decide];rw[show(r:Int)*4294967296=((r*4294967296:Nat):Int)from by omega];exact wrap_u64 (by omega) (by omega)
   have hwx:AB.wrap (x:Int)=x:=wrap_u64 (by omega) (by omega)
   have hor:dG .or false (.d (.i .u64 ((r*4294967296:Nat):Int))) (.d (.i .u64 (x:Int)))=some (.i .u64 ((r*4294967296+x:Nat):Int)):=by show some (D.i .u64 (bits .or .u64 ((r*4294967296:Nat):Int) (x:Int)))=_;rw[bits_or_u64_nat _ _ (by omega) (by omega)];congr 3;have:=Nat.shiftLeft_add_eq_or_of_lt (i:=32) (b:=x) (by omega) r;rw[Nat.shiftLeft_eq]at this;exact this.symm
   generalize r*4294967296=R at *
   generalize R+x=Rx at *
   simp[-I,-O,↓KW,hk0,hsh,hkl,hwk,hwk1,hLk,hLk',hwx,hor]
   refine aC hR ?_
   simp[-I,-O,↓KW,hwk1]
   refine aI k (by omega) (by omega) ?_
   show ∃ρ,Wk _ (StL _ _ _) ρ
   rw[show rmd p (val (m.drop k))=r' from hr']
   refine wkQ [1] ?_ ?_<;>simp[-I,upd,aL,Γ0]
def aHw[M:Mch Aa](p:Nat)(z:Int)(hp:0<p)(hp1:p<=2147483648)(hz:Sz z):Spec Aa 53 [.i .u64 p,encZ z] (.i .u64 (z%(p:Int))):=by
 have h:=bPu p (decide (z<0)) (aJ z.natAbs) hp hp1 (bT _) (AR hz (by decide));rw[<-bB,cD]at h;have e:(((if decide (z<0)=true/\0<z.natAbs%p then p-z.natAbs%p else z.natAbs%p:Nat)):Int)=z%(p:Int):=by
  simp only[BC];have hlt:=BF z.natAbs hp;by_cases hz:z<0
  ·have hzz:z=-(z.natAbs:Int):=by omega
   have hm:z%(p:Int)=(-(z.natAbs:Int))%(p:Int):=by rw[<-hzz]
   have hd:=EK z.natAbs p;rw[hm];generalize z.natAbs=n at *;rcases A7 (n%p)with h0|h0
   ·rw[Ai (by omega),h0];have:(p:Int) ∣ -(n:Int):=Int.dvd_neg.2 (Ft.2 (Cs h0));rw[GL this];rfl
   ·rw[Aq ⟨hz,h0⟩];have:-(n:Int)=((p-n%p:Nat):Int)+(p:Int)*(-(n/p:Nat)-1:Int):=by
     have h2:(n:Int)=(p:Int)*((n/p:Nat):Int)+((n%p:Nat):Int):=by rw[<-Cd,<-DM,hd]
     rw[Int.mul_sub,DD,Int.mul_one];omega
    rw[this,Int.add_mul_emod_self_left];rw[Int.emod_eq_of_lt (by omega) (by omega)]
  ·rw[Ai (by omega)];have:z=(z.natAbs:Int):=by omega
   conv=>rhs;rw[this]
   rfl
 rwa [e]at h
def aUg[M:Mch Aa](p n:Nat)(hp:0<p)(hp1:p<=2147483648)(hn:n<2^256):Spec Aa 53 [.i .u64 p,bK n] (.i .u64 (n%p:Nat)):=by
 have h:=aHw p (n:Int) hp hp1 (by
  have:=cU (n:=n) (k:=8) (A6 hn (by decide));unfold Sz;simp;omega)
 rw[cX]at h;exact h
def aVi[M:Mch Aa](p a:Nat)(hp:2<=p)(hp1:p<=2147483648)(ha:a<p)(h0:a≠0):Spec Aa 88 [.i .u64 p,.i .u64 a] (.tp [.i .u64 (a^(p-2)%p:Nat),.i .i64 0]):=by
 have hP:=aUk p a (p-2) (by omega) hp1 (by omega) (by omega);rw[bFw (by omega) (by omega)]at hP;generalize a^(p-2)%p=r at *;have hw:AB.wrap ((p:Int)-2)=((p-2:Nat):Int):=by rw[show(p:Int)-2=((p-2:Nat):Int)from by omega];exact wrap_u64 (by omega) (by omega)
 have hi:((a:Int)==0)=false:=by simp;omega
 generalize p-2=e at *;refine aX (N:=13) Tryz.func88 ?_;simp[-I,-O,↓KW,hi,h0,hw];refine aC hP ?_;simp[-I,-O,↓KW];rfl
def aHk[M:Mch Aa](p a b:Nat)(hp:0<p)(hp1:p<=2147483648)(ha:a<p)(hb:b<p):Spec Aa 90 [.i .u64 p,.i .u64 a,.i .u64 b] (.i .u64 ((a+p-b)%p:Nat)):=by
 have hR:=uB (a+p-b) p hp;generalize(a+p-b)%p=r at *;have hw1:AB.wrap ((a:Int)+(p:Int))=((a+p:Nat):Int):=by rw[<-DM];exact wrap_u64 (by omega) (by omega)
 have hw2:AB.wrap (((a+p:Nat):Int)-(b:Int))=((a+p-b:Nat):Int):=by rw[show((a+p:Nat):Int)-(b:Int)=((a+p-b:Nat):Int)from by omega];exact wrap_u64 (by omega) (by omega)
 generalize a+p-b=x at *;generalize a+p=y at *;refine aX (N:=14) Tryz.func90 ?_;simp[-I,-O,↓KW,hw1,hw2];refine aC hR ?_;simp[-I,-O,↓KW]
def aZk[M:Mch Aa](n:Nat)(hn:n<18446744073709551616):Spec Aa 147 [.i .u64 n] (aB [n%4294967296,n/4294967296]):=by
 have hw0:BI.wrap (n:Int)=((n%4294967296:Nat):Int):=by rw[Ez];omega
 have hw1:BI.wrap ((n/4294967296:Nat):Int)=((n/4294967296:Nat):Int):=by rw[Ez];omega
 have hsh:=aEu (t:=n);generalize n/4294967296=hi at *;generalize n%4294967296=lo at *;refine aX (N:=9) Tryz.func147 ?_;simp[-I,-O,↓KW,hw0,hw1,hsh];rfl
def oF[M:Mch Aa]{n:Nat}(hn:n<9223372036854775808):Spec Aa 82 [.i .i64 n] (bK n):=by
 have hL:=aZk n (by omega);have hV:=aNh false [n%4294967296,n/4294967296] (by simp);rw[fF (by intro x hx;simp at hx;rcases hx with rfl|rfl<;>omega)]at hV;have hv:val [n%4294967296,n/4294967296]=n:=by simp[val];omega
 rw[hv]at hV;have hV':Spec Aa 95 [.b false,aB [n%4294967296,n/4294967296]] (bK n):=hV;generalize[n%4294967296,n/4294967296]=l at *;have hw:AB.wrap (n:Int)=n:=wrap_u64 (by omega) (by omega);have hlt:¬(n:Int)<0:=by omega
 refine aX (N:=15) Tryz.func82 ?_;simp[-I,-O,↓KW,hw,hlt];refine aC hL ?_;simp[-I,-O,↓KW,aH];refine aC hV' ?_;simp[-I,-O,↓KW,aN n,aH]
def bWh{n:Nat}(hn:n<4294967296):dG .and false (.d (.i .u64 (n:Int))) (.d (.i .u64 4294967295))=some (.i .u64 (n:Int)):=by show some (D.i .u64 (bits .and .u64 (n:Int) 4294967295))=_;have:=bits_and_u64_nat n 4294967295 (by omega) (by decide);rw[show(4294967295:Int)=((4294967295:Nat):Int)from rfl,this];congr 3;exact(Nat.and_two_pow_sub_one_eq_mod n 32).trans (BY hn)
def bVn[M:Mch Aa]{n:Nat}(hn:n<4294967296):Spec Aa 91 [.i .u64 n] (bK n):=by
 have h0:=oF (n:=0) (by omega);have h2:=oF (n:=4294967296) (by omega);have hM:=aRk (x:=0) (y:=4294967296) (by decide) (by decide);have hO:=oF (n:=n) (by omega);have hA:=bBe (x:=0) (y:=n) (by decide) (by omega);rw[DS]at hM;rw[AA]at hA;have hsh:=aEu (t:=n);rw[Di hn]at hsh;have ha:=bWh hn;have hw:Ah.wrap (n:Int)=n:=aP;have hw0:Ah.wrap 0=0:=by decide
 refine aX (N:=16) Tryz.func91 ?_;simp[-I,-O,↓KW,hsh,hw0];refine aC h0 ?_;simp[-I,-O,↓KW,aN 0,aH];refine aC h2 ?_;simp[-I,-O,↓KW,aN 4294967296,aH];refine aC hM ?_;simp[-I,-O,↓KW,aN 0,aH,ha,hw];refine aC hO ?_;simp[-I,-O,↓KW,aN n,aH];refine aC hA ?_;simp[-I,-O,↓KW,aN n,aH]
def cBq[M:Mch Aa]{n:Nat}(hn:n<4294967296):Spec Aa 84 [.i .u64 n] (bK n):=by
 have h0:=oF (n:=0) (by omega);have h2:=oF (n:=4294967296) (by omega);have hM:=aRk (x:=0) (y:=4294967296) (by decide) (by decide);have hO:=oF (n:=n) (by omega);have hA:=bBe (x:=0) (y:=n) (by decide) (by omega);rw[DS]at hM;rw[AA]at hA;have hsh:=aEu (t:=n);rw[Di hn]at hsh;have ha:=bWh hn;have hw:Ah.wrap (n:Int)=n:=aP;have hw0:Ah.wrap 0=0:=by decide
 refine aX (N:=16) Tryz.func84 ?_;simp[-I,-O,↓KW,hsh,hw0];refine aC h0 ?_;simp[-I,-O,↓KW,aN 0,aH];refine aC h2 ?_;simp[-I,-O,↓KW,aN 4294967296,aH];refine aC hM ?_;simp[-I,-O,↓KW,aN 0,aH,ha,hw];refine aC hO ?_;simp[-I,-O,↓KW,aN n,aH];refine aC hA ?_;simp[-I,-O,↓KW,aN n,aH]
def bSl[M:Mch Aa]{x y:Nat}(hx:x<2^255)(hy:y<2^255)(h0:0<y):Spec Aa 92 [bK x,bK y] (encZ ((x:Int)-y)):=by
 have hA:=aIx (x:Int) (-(y:Int)) (szN (by omega)) (sY (by simp;omega));rw[<-Int.sub_eq_add_neg,cX]at hA;have hny:encZ (-(y:Int))=.ag [.b true,aB (aJ y)]:=by rw[bB,show decide (-(y:Int)<0)=true from by simp;omega];simp
 rw[hny]at hA;generalize(x:Int)-(y:Int)=z at *;refine aX (N:=13) Tryz.func92 ?_;simp[-I,-O,↓KW,aN x,aN y,aH];refine aC hA ?_;simp[-I,-O,↓KW,bB z,aH]
def eW(T:List Int):List (Int×AV):=T.map λn=>(n,.d (.b true))
def uI(l:List Nat):List Int:=l.map λ(p:Nat)=>(p:Int)
def qP(l:List Nat):∃L,bU l=.sl L/\L.length=l.length/\∀i,i<l.length->L[i]? = some [.i .u64 ((l[i]! : Nat):Int)]:=⟨_,rfl,by simp,λi hi=>by rw[Ag,Ab hi,B7 l i hi];rfl⟩
def tJ(n:Int):∀T:List Int,(eX n (eW T)=none↔n ∉ T)/\∀j,eX n (eW T)=some j->(eW T)[j]? = some (n,.d (.b true))
 |[]=>⟨by simp[eW,eX],by simp[eW,eX]⟩
 | x::T=>by
  obtain⟨h1,h2⟩:=tJ n T;show(eX n ((x,_)::eW T)=none↔_)/\∀j,eX n ((x,_)::eW T)=some j->((x,AV.d (.b true))::eW T)[j]? = _;unfold eX;by_cases h:x=n
  ·subst h;simp
  ·have hn:¬n=x:=λe=>h e.symm
   simp only[h,if_false,Option.map_eq_none_iff,Bn,not_or,hn,not_false_eq_true,true_and];refine⟨h1,λj hj=>?_⟩;obtain⟨i,hi,rfl⟩:=Af.1 hj;simpa using h2 i hi
def aFt(P:Program)(t kt vt:TypeId)(k:IntKind)(T:List Int)(n:Int)(ht:tmp P t=some (kt,vt))(hk:fD P kt=some k)(hz:tz P vt=some (.bool false)):uP P t k (eW T) (.d (.i k n)) false=some (.d (.b (decide (n∈T)))):=by
 obtain⟨h1,h2⟩:=tJ n T;unfold uP;simp only[ht,Option.bind_some,hk,and_self,if_true,aVc];cases hm:eX n (eW T)with
 | none =>
  have:=h1.1 hm;simp[hz,this];rfl
 | some j =>
  have hj:=h2 j hm;have:n∈T:=BW λh=>by rw[h1.2 h]at hm;cases hm
  simp[hj,this]
def wU(n:Int)(T:List Int)(h:n ∉ T):aMv (eW T) n (.d (.b true))=eW (T++[n]):=by unfold aMv;rw[(tJ n T).1.2 h];simp[eW]
def rG{H H':Hp}{ρ:Nat->Nat}{k:IntKind}(T:List Int):nO H H' ρ (.map k (eW T)) (.map k (eW T))↔True:=⟨λ_=>trivial,λ_=>bDe λx hx=>by
 obtain⟨n,_,rfl⟩:=AM.1 hx;simp⟩
def aHl{H H':Hp}{ρ:Nat->Nat}{k:IntKind}:nO H H' ρ (.map k []) (.map k [])↔True:=⟨λ_=>trivial,λ_=>⟨rfl,rfl,λ_ _ _ h=>by simp at h⟩⟩
def oB{l:List Nat}{p:Nat}:((p:Int)∈uI l)↔p∈l:=by
 unfold uI;rw[AM];constructor
 ·rintro⟨q,hq,e⟩;have:q=p:=by omega
  subst this;exact hq
 ·exact λh=>⟨p,h,rfl⟩
def nY{α:Type}{T:List α}{p:α}(h:T.Nodup)(hp:p ∉ T):(T++[p]).Nodup:=by rw[Eh];exact⟨h,by simp,λa ha b hb e=>by simp at hb;subst hb;exact hp (e ▸ ha)⟩
def bGz:tmp Aa 148=some (51,4):=by kernel_rfl
def bHa:tmp Aa 125=some (3,4):=by kernel_rfl
def aRp(T:List Int)(n:Int):uP Aa 148 .u64 (eW T) (.d (.i .u64 n)) false=some (.d (.b (decide (n∈T)))):=aFt _ _ _ _ _ _ _ bGz (by kernel_rfl) (by kernel_rfl)
def bZp(T:List Int)(n:Int):uP Aa 125 .i64 (eW T) (.d (.i .i64 n)) false=some (.d (.b (decide (n∈T)))):=aFt _ _ _ _ _ _ _ bHa (by kernel_rfl) (by kernel_rfl)
def zI{P:Program}(H:Hp)(t:TypeId)(id:Nat)(x:AV)(v:Option AV):qG P H t (.mp id) x v=match H id with
  | some (.map k es)=>(tmp P t).bind λp=>match x with
   |.d (.i k' n)=>if k'=k/\fD P p.1=some k then some (id,.map k (match v with|some v=>aMv es n v|none=>aZg es n))else none
   |_=>none
  |_=>none:=rfl
def fZ{P:Program}{H:Hp}{t:TypeId}{id:Nat}{x:AV}{ok:Bool}:aFu P H t (.mp id) x ok=match H id with|some (.map k es)=>uP P t k es x ok|_=>none:=rfl
def aCk[M:Mch Aa](l:List Nat)(hl:l.length<=1000000)(hP:∀p∈l,Spec Aa 52 [.i .u64 (p:Nat)] (.b true)):Spec Aa 70 [bU l] (.b (decide l.Nodup)):=by
 obtain⟨L,hL,hLl,hLg⟩:=qP l;rw[hL];refine aX (N:=24) Tryz.func70 ?_;simp[-I,-O,↓KW];refine aY (τ:=Nat) (λi=>i<=l.length/\(l.take i).Nodup) (λi=>StL [(3,.mp 1),(7,.d (.sl L)),(8,.d (.i .i64 L.length)),(9,.d (.i .i64 i))] none [.map .u64 (eW (uI (l.take i)))]) (λi=>l.length-i) 0 ⟨A1 _,by simp⟩ ?_ ?_
 ·rw[BD];refine wkQ [1] ?_ ?_<;>simp[-I,upd,aL,Γ0,show eW (uI [])=[]from rfl,aHl]
 ·rintro i ⟨hi,hn⟩;by_cases hlt:i<l.length
  ·have hLi:=hLg i hlt;have hLi':∀h,L[i]'h=[.i .u64 ((l[i]! : Nat):Int)]:=λh=>by rw[Ab h]at hLi;injection hLi
   have hiL:i<L.length:=by omega
   generalize hT:l.take i=T at *;generalize hp:l[i]! = p at *;have hPp:Spec Aa 52 [.i .u64 (p:Nat)] (.b true):=hP p (by rw[<-hp,B7 l i hlt];exact Bz ..);have hge:l[i]? = some p:=by rw[<-hp,B7 l i hlt];exact Ab hlt
   have hT1:l.take (i+1)=T++[p]:=by rw[A5,hge,hT];rfl
   by_cases hm:p∈T
   ·have hdl:decide l.Nodup=false:=by simp only[Ey];intro hnd;have:(l.take (i+1)).Nodup:=EF (Dq ..) hnd;rw[hT1,Eh]at this;exact this.2.2 p hm p (by simp) rfl
    rw[hdl];have hlk:=aRp (uI T) p;rw[B4 (oB.2 hm)]at hlk;simp[-I,-O,↓KW,hiL,hLi,hLi',fZ,hlk];exact aS (by simp[-I,-O,↓KW])
   ·have hlk:=aRp (uI T) p;rw[Bs (λh=>hm (oB.1 h))]at hlk;have hmp:=wU (p:Int) (uI T) (λh=>hm (oB.1 h));have hu:uI T++[(p:Int)]=uI (T++[p]):=by simp[uI]
    rw[hu]at hmp;have hw1:Ah.wrap ((i:Int)+1)=((i+1:Nat):Int):=aP;simp[-I,-O,↓KW,hiL,hLi,hLi',fZ,hlk];refine aC hPp ?_;simp[-I,-O,↓KW,zI,hmp,hw1];refine aI (i+1) ⟨by omega,by rw[hT1];exact nY hn hm⟩ (by show l.length-(i+1)<l.length-i;omega) ?_;show ∃ρ,Wk _ (StL _ _ _) ρ;rw[hT1];refine wkQ [1] ?_ ?_<;>simp[-I,upd,aL,Γ0,rG]
  ·have hiL:¬i<L.length:=by omega
   have hdl:decide l.Nodup=true:=by rw[As (by omega)]at hn;simpa using hn
   rw[hdl];simp[-I,-O,↓KW,hiL];exact aS (by simp[-I,-O,↓KW])
def pM(l:List (Nat×Nat)):D:=.sl (l.map λx=>[.i .u64 (x.1:Int),.i .u64 (x.2:Int)])
def aJi(l:List (Nat×Nat)):∃L,pM l=.sl L/\L.length=l.length/\∀(i:Nat) (x:Nat×Nat),l[i]? = some x->L[i]? = some [D.i .u64 (x.1:Int),D.i .u64 (x.2:Int)]:=⟨_,rfl,by simp,λi x hx=>by rw[Ag,hx];rfl⟩
def eZ(l:List (Nat×Nat×Nat)):D:=.sl (l.map λx=>[.i .i64 (x.1:Int),.i .u64 (x.2.1:Int),.i .u64 (x.2.2:Int)])
def kA(l:List (Nat×Nat×Nat)):∃L,eZ l=.sl L/\L.length=l.length/\∀(i:Nat) (x:Nat×Nat×Nat),l[i]? = some x->L[i]? = some [D.i .i64 (x.1:Int),D.i .u64 (x.2.1:Int),D.i .u64 (x.2.2:Int)]:=⟨_,rfl,by simp,λi x hx=>by rw[Ag,hx];rfl⟩
def bP{L:List (List D)}{i:Nat}{x:List D}(h:L[i]? = some x):∀h',L[i]'h'=x:=λh'=>by rw[Ab h']at h;injection h
def prR(l:List (Nat×Nat)):List Nat:=l.map (·.1)
def okR(l:List (Nat×Nat)):Prop:=(prR l).Nodup/\∀x∈l,x.2<x.1
def aAy(l:List (Nat×Nat))(i:Nat):prR (l.take i)=(prR l).take i:=by simp[prR]
def bKn[M:Mch Aa](l:List (Nat×Nat))(b:Bool)(hb:b=true↔okR l)(hl:l.length<=1000000)(hP:∀x∈l,Spec Aa 52 [.i .u64 (x.1:Nat)] (.b true)):Spec Aa 86 [pM l] (.b b):=by
 obtain⟨L,hL,hLl,hLg⟩:=aJi l;rw[hL];refine aX (N:=34) Tryz.func86 ?_;simp[-I,-O,↓KW];refine aY (τ:=Nat) (λi=>i<=l.length/\okR (l.take i)) (λi=>StL [(3,.mp 1),(7,.d (.sl L)),(8,.d (.i .i64 L.length)),(9,.d (.i .i64 i))] none [.map .u64 (eW (uI (prR (l.take i))))]) (λi=>l.length-i) 0 ⟨A1 _,by simp[okR,prR]⟩ ?_ ?_
 ·rw[BD];refine wkQ [1] ?_ ?_<;>simp[-I,upd,aL,Γ0,show eW (uI (prR []))=[]from rfl,aHl]
 ·rintro i ⟨hi,hn⟩;by_cases hlt:i<l.length
  ·obtain⟨⟨p,v⟩,hge⟩:∃x,l[i]? = some x:=⟨_,Ab hlt⟩;have hmem:=Aj hge;have hLi:=hLg i _ hge;simp only at hLi;have hLi':=bP hLi;have hiL:i<L.length:=by omega
   have hT1:l.take (i+1)=l.take i++[(p,v)]:=by rw[A5,hge];rfl
   have hall:okR l->okR (l.take (i+1)):=λh=>⟨by rw[aAy];exact EF (Dq ..) h.1,λx hx=>h.2 x (Bw hx)⟩
   have hPp:Spec Aa 52 [.i .u64 (p:Nat)] (.b true):=hP _ hmem;have hw1:Ah.wrap ((i:Int)+1)=((i+1:Nat):Int):=aP;have hpT:prR (l.take (i+1))=prR (l.take i)++[p]:=by rw[hT1];simp[prR]
   generalize hTT:prR (l.take i)=T at *;have hlk:=aRp (uI T) p;by_cases hm:p∈T
   ·have hbf:b=false:=by
     cases b with
     |false=>rfl
     | true =>
      have h1:=(hall (hb.1 rfl)).1;rw[hpT,Eh]at h1;exact absurd rfl (h1.2.2 p hm p (by simp))
    subst hbf;rw[B4 (oB.2 hm)]at hlk;simp[-I,-O,↓KW,hiL,hLi,hLi',fZ,hlk];exact aS (by simp[-I,-O,↓KW])
   ·rw[Bs (λh=>hm (oB.1 h))]at hlk;have hmp:=wU (p:Int) (uI T) (λh=>hm (oB.1 h));have hu:uI T++[(p:Int)]=uI (T++[p]):=by simp[uI]
    rw[hu]at hmp;by_cases hv:v<p
    ·have hpv:¬(p:Int)<=(v:Int):=by omega
     have hpv':¬p<=v:=by omega
     have hokn:okR (l.take (i+1)):=⟨by rw[hpT];exact nY (hTT ▸ hn.1) hm,λx hx=>by
      rw[hT1]at hx;rcases BP.1 hx with h|h
      ·exact hn.2 x h
      ·simp only[BQ]at h;subst h;exact hv⟩
     simp[-I,-O,↓KW,hiL,hLi,hLi',fZ,hlk];refine aC hPp ?_;simp[-I,-O,↓KW,hpv,hpv',zI,hmp,hw1];refine aI (i+1) ⟨by omega,hokn⟩ (by show l.length-(i+1)<l.length-i;omega) ?_;show ∃ρ,Wk _ (StL _ _ _) ρ;rw[hpT];refine wkQ [1] ?_ ?_<;>simp[-I,upd,aL,Γ0,rG]
    ·have hpv:(p:Int)<=(v:Int):=by omega
     have hpv':p<=v:=by omega
     have hbf:b=false:=by
      cases b with
      |false=>rfl
      |true=>exact absurd ((hb.1 rfl).2 _ hmem) (by simpa using hpv')
     subst hbf;simp[-I,-O,↓KW,hiL,hLi,hLi',fZ,hlk];refine aC hPp ?_;simp[-I,-O,↓KW,hpv,hpv'];exact aS (by simp[-I,-O,↓KW])
  ·have hiL:¬i<L.length:=by omega
   have hbt:b=true:=by rw[As (by omega)]at hn;exact hb.2 hn
   subst hbt;simp[-I,-O,↓KW,hiL];exact aS (by simp[-I,-O,↓KW])
def wkL(l:List (Nat×Nat×Nat)):List Nat:=l.map (·.1)
def pmL(l:List (Nat×Nat×Nat)):List Nat:=l.map (·.2.1)
def yQ(l:List (Nat×Nat×Nat)):Prop:=(wkL l).Nodup/\∀x∈l,x.2.2<x.2.1
def zW(l:List (Nat×Nat×Nat))(i:Nat):wkL (l.take i)=(wkL l).take i:=by simp[wkL]
def aAk(c:List Nat)(k:IntKind)(W:List Int):fU c (.map k (eW W))=.map k (eW W):=by simp[fU,eW];exact λ_ _=>rfl
def bIw{H:Hp}{id:Nat}{e:TypeId}{T:List Nat}{n:Nat}(hn:T.length=n)(hH:H id=some (.cells e ((dU T).map AV.d))):frz H 8 (.own id 0 n 1)=some (bU T):=by have e1:=iS hn;have e2:=nL hn;have e3:=dZ T;rw[hn]at e3;simp[-I,-O,aBz,hH,e1,e2,e3,bU]
def aNo{H:Hp}{x:AV}{d:D}(h:frz H 8 x=some d):cI H [x]=some [d]:=by simp[cI,h]
def ppS(L:List (List D))(n i:Nat)(W:List Int):List Nat->St
 |[]=>StL [(3,.mp 1),(4,.nil),(8,.d (.sl L)),(9,.d (.i .i64 n)),(10,.d (.i .i64 i))] none [.map .i64 (eW W)]
 |x::T=>StL [(3,.mp 1),(4,.own 2 0 (T.length+1) 1),(8,.d (.sl L)),(9,.d (.i .i64 n)),(10,.d (.i .i64 i))] none [.map .i64 (eW W),.cells 51 ((dU (x::T)).map .d)]
def aQz[M:Mch Aa](l:List (Nat×Nat×Nat))(b:Bool)(hb:b=true↔yQ l/\(pmL l).Nodup)(hl:l.length<=1000000)(hP:∀x∈l,Spec Aa 52 [.i .u64 (x.2.1:Nat)] (.b true)):Spec Aa 42 [eZ l] (.b b):=by
 obtain⟨L,hL,hLl,hLg⟩:=kA l;have hD:=aCk (pmL l) (by simp[pmL];omega) (λp hp=>by
  obtain⟨x,hx,rfl⟩:=AM.1 hp;exact hP x hx)
 rw[hL];refine aX (N:=39) Tryz.func42 ?_;simp[-I,-O,↓KW];refine aY (τ:=Nat) (λi=>i<=l.length/\yQ (l.take i)) (λi=>ppS L L.length i (uI (wkL (l.take i))) (pmL (l.take i))) (λi=>l.length-i) 0 ⟨A1 _,by simp[yQ,wkL]⟩ ?_ ?_
 ·rw[BD];show ∃ρ,Wk _ (ppS _ _ _ [] []) ρ;unfold ppS;refine wkQ [1] ?_ ?_<;>simp[-I,upd,aL,Γ0,show eW []=[]from rfl,aHl]
 ·rintro i ⟨hi,hn⟩;by_cases hlt:i<l.length
  ·obtain⟨⟨w,p,v⟩,hge⟩:∃x,l[i]? = some x:=⟨_,Ab hlt⟩;have hmem:=Aj hge;have hLi:=hLg i _ hge;simp only at hLi;have hLi':=bP hLi;have hiL:i<L.length:=by omega
   have hT1:l.take (i+1)=l.take i++[(w,p,v)]:=by rw[A5,hge];rfl
   have hall:yQ l->yQ (l.take (i+1)):=λh=>⟨by rw[zW];exact EF (Dq ..) h.1,λx hx=>h.2 x (Bw hx)⟩
   have hw1:Ah.wrap ((i:Int)+1)=((i+1:Nat):Int):=aP;have hwT:wkL (l.take (i+1))=wkL (l.take i)++[w]:=by rw[hT1];simp[wkL]
   have hpT:pmL (l.take (i+1))=pmL (l.take i)++[p]:=by rw[hT1];simp[pmL]
   have hPl:(pmL (l.take i)).length=i:=by simp[pmL];omega
   generalize hTT:wkL (l.take i)=T at *;generalize pmL (l.take i)=PT at *;have hlk:=bZp (uI T) w;by_cases hm:w∈T
   ·have hbf:b=false:=by
     cases b with
     |false=>rfl
     | true =>
      have h1:=(hall (hb.1 rfl).1).1;rw[hwT,Eh]at h1;exact absurd rfl (h1.2.2 w hm w (by simp))
    subst hbf;rw[B4 (oB.2 hm)]at hlk;cases PT with
    | nil =>
     simp[-I,-O,↓KW,ppS,hiL,hLi,hLi',fZ,hlk];exact aS (by simp[-I,-O,↓KW])
    | cons x PT =>
     simp[-I,-O,↓KW,ppS,hiL,hLi,hLi',fZ,hlk];exact aS (by simp[-I,-O,↓KW])
   ·rw[Bs (λh=>hm (oB.1 h))]at hlk;have hmp:=wU (w:Int) (uI T) (λh=>hm (oB.1 h));have hu:uI T++[(w:Int)]=uI (T++[w]):=by simp[uI]
    rw[hu]at hmp;by_cases hv:v<p
    ·have hpv:¬(p:Int)<=(v:Int):=by omega
     have hpv':¬p<=v:=by omega
     have hokn:yQ (l.take (i+1)):=⟨by rw[hwT];exact nY (hTT ▸ hn.1) hm,λx hx=>by
      rw[hT1]at hx;rcases BP.1 hx with h|h
      ·exact hn.2 x h
      ·simp only[BQ]at h;subst h;exact hv⟩
     cases PT with
     | nil =>
      have hm1:(1:Nat)<=maxLen:=bJ (by decide);simp[-I,-O,↓KW,ppS,hiL,hLi,hLi',fZ,hlk,hpv,hpv',zI,hmp,hw1,hm1];refine aI (i+1) ⟨by omega,hokn⟩ (by show l.length-(i+1)<l.length-i;omega) ?_;show ∃ρ,Wk _ (ppS _ _ _ _ _) ρ;rw[hwT,hpT];show ∃ρ,Wk _ (ppS _ _ _ _ (p::[])) ρ;unfold ppS;refine wkQ [1,4] ?_ ?_<;>simp[-I,upd,aL,Γ0,Bo,bM,jW,mV,rG,aAk]
     | cons x PT =>
      have hbb:=eL (n:=PT.length+1) (by simp at hPl;omega);simp[-I,-O,↓KW,ppS,hiL,hLi,hLi',fZ,hlk,hpv,hpv',zI,hmp,hw1,dZ,hbb,bJ];refine aI (i+1) ⟨by omega,hokn⟩ (by show l.length-(i+1)<l.length-i;omega) ?_;show ∃ρ,Wk _ (ppS _ _ _ _ _) ρ;rw[hwT,hpT];show ∃ρ,Wk _ (ppS _ _ _ _ (x::(PT++[p]))) ρ;unfold ppS;refine wkQ [1,5] ?_ ?_<;>simp[-I,upd,aL,Γ0,Bo,bM,jW,mV,rG,aAk]
    ·have hpv:(p:Int)<=(v:Int):=by omega
     have hpv':p<=v:=by omega
     have hbf:b=false:=by
      cases b with
      |false=>rfl
      |true=>exact absurd ((hb.1 rfl).1.2 _ hmem) (by simpa using hpv')
     subst hbf;cases PT with
     | nil =>
      simp[-I,-O,↓KW,ppS,hiL,hLi,hLi',fZ,hlk,hpv,hpv'];exact aS (by simp[-I,-O,↓KW])
     | cons x PT =>
      simp[-I,-O,↓KW,ppS,hiL,hLi,hLi',fZ,hlk,hpv,hpv'];exact aS (by simp[-I,-O,↓KW])
  ·have hiL:¬i<L.length:=by omega
   rw[As (show l.length<=i by omega)]at hn ⊢;have hbe:b=decide (pmL l).Nodup:=by
    cases b with
    |false=>symm;rw[Ey];exact λh=>by have:=hb.2 ⟨hn,h⟩;cases this
    |true=>symm;rw[BC];exact(hb.1 rfl).2
   rw[hbe];generalize decide (pmL l).Nodup=bb at *;generalize hPT:pmL l=PT at *;cases PT with
   | nil =>
    simp[-I,-O,↓KW,ppS,hiL];refine aS ?_;simp[-I,-O,↓KW];refine aC hD ?_;simp[-I,-O,↓KW]
   | cons x PT =>
    simp[-I,-O,↓KW,ppS,hiL];refine aS ?_;simp[-I,-O,↓KW];refine bE (ds:=[bU (x::PT)]) ?_ hD ?_
    ·exact aNo (bIw (T:=x::PT) rfl rfl)
    simp[-I,-O,↓KW]
def bRh{P:Program}(f:FuncId)(x:Operand)(Γ:Nat->AV)(n:Nat):nev P (.makeFunc (.func f) #[x] #[]) Γ n=cT (match oev Γ x with|.d d=>some (.d (.fm f d))|_=>none):=by show(match[oev Γ x]with|[.d d]=>cT (some (AV.d (.fm f d)))|_=>none)=_;cases oev Γ x<;>rfl
def aCu(f:FuncId)(d:D):dM (.d (.fm f d))=none:=rfl
def aCv{P:Program}[M:Mch P](x:AV)(avs:List AV)(H:Hp)(k:List AV->D->Prop)(d:Dm k):aWj P none x avs H k d=aWl P x avs H k .mk:=rfl
def yE{P:Program}[M:Mch P]{f:FuncId}{x:D}{avs:List AV}{H:Hp}{k:List AV->D->Prop}{d:Dm k}{ds:List D}{r:D}(h1:cI H (.d x::avs)=some ds)(h2:Spec P f ds r)(h3:k (.d x::avs) r):aWl P (.d (.fm f x)) avs H k d:=⟨ds,r,h1,h2,h3⟩
def rL:∀{l:List Nat},(∀q∈l,0<q)->0<bG l
 |[],_=>by simp[bG]
 |p::l,h=>Fo (h p (AI ..)) (rL λq hq=>h q (AE _ hq))
def mQ:∀{l:List Nat},(∀q∈l,0<q)->∀i,bG (l.take i)<=bG l
 |[],_,i=>by simp
 | p::l,h,0=>by rw[BD];exact rL h
 | p::l,h,i+1=>by rw[List.take_succ_cons];exact Ce p (mQ (λq hq=>h q (AE _ hq)) i)
def tf0:bDa Aa 76 0=some (0,false,1):=by kernel_rfl
def tf1:bDa Aa 76 1=some (1,false,1):=by kernel_rfl
def aGi(p v:Nat):∀(T:List (Nat×Nat)) (a m:Nat),oN (T++[(p,v)]) a m=((oN T a m).1+(oN T a m).2*sN p v (oN T a m).1 (oN T a m).2,(oN T a m).2*p)
 |[],a,m=>rfl
 | (q,w)::T,a,m=>by simp only[Co,oN];exact aGi p v T _ _
def cAy[M:Mch Aa](l:List (Nat×Nat))(i:Nat)(p v:Nat)(h:l[i]? = some (p,v))(hl:l.length<=1000000):Spec Aa 87 [pM l,.i .i64 i] (.ag [.i .u64 p,.i .u64 v]):=by
 obtain⟨L,hL,hLl,hLg⟩:=aJi l;have hLi:=hLg i _ h;simp only at hLi;have hLi':=bP hLi;have hlt:=(Ao.1 h).1;have hiL:i<L.length:=by omega
 have hw0:Ah.wrap (i:Int)=i:=aP;rw[hL];refine aX (N:=9) Tryz.func87 ?_;simp[-I,-O,↓KW,hiL,hLi,hLi',hw0]
def aOc[M:Mch Aa](l:List (Nat×Nat))(hR:bBi l)(hl:l.length<=1000)(hB:bG (prR l)<2^250)(hp31:∀x∈l,x.1<2147483648)(hP:∀x∈l,Spec Aa 52 [.i .u64 (x.1:Nat)] (.b true)) :
  Spec Aa 46 [pM l] (.tp [encZ (aJp l),.i .i64 0]):=by
 have hV:=bKn l true ⟨λ_=>⟨hR.nd,hR.lt⟩,λ_=>rfl⟩ (by omega) hP
 have hat:=λ(i p v:Nat) (h:l[i]? = some (p,v))=>cAy l i p v h (by omega)
 obtain⟨L,hL,hLl,hLg⟩:=aJi l
 rw[hL]at hV hat ⊢
 have h0:=oF (n:=0) (by omega)
 have h1:=oF (n:=1) (by omega)
 refine aX (N:=72) Tryz.func46 ?_
 simp[-I,-O,↓KW]
 refine aC hV ?_
 simp[-I,-O,↓KW]
 refine aC h0 ?_
 simp[-I,-O,↓KW,aN 0,aH]
 refine aC h1 ?_
 simp[-I,-O,↓KW,↓aE,↓aA,↓aF,↓aG,aN 1,aH]
 simp[-I,-O,↓KW,↓aE,↓aA,↓aF,↓aG,bRh]
 obtain⟨st,hst⟩:∃st:Nat->Nat×Nat,∀i,st i=oN (l.take i) 0 1:=⟨λi=>oN (l.take i) 0 1,λi=>rfl⟩
 have hinv:∀i,i<=l.length->(st i).2=bG (prR (l.take i))/\(st i).1<(st i).2/\(st i).2<2^250:=λi hi=>by
  have hPT:bBi (l.take i):=⟨λx hx=>hR.pr x (Bw hx),λx hx=>hR.lt x (Bw hx),by rw[List.map_take];exact EF (Dq ..) hR.nd⟩;obtain⟨k1,k2,_⟩:=aJq (l.take i) [] 0 1 (by simpa using hPT) rfl (by decide) (by simp);rw[<-hst i]at k1 k2;refine⟨by simpa[prR]using k1,k2,?_⟩;rw[k1];refine Bf ?_ hB;rw[Dv];show bG (prR (l.take i))<=_;rw[aAy];exact mQ (λq hq=>by
   obtain⟨x,hx,rfl⟩:=AM.1 hq;have:=(hR.pr x hx).1;omega) i
 have hmod:∀i p v,l[i]? = some (p,v)->(st i).2%p≠0:=λi p v hge hz=>by
  have hxm:=Aj hge;have hlt:=(Ao.1 hge).1;have hpr:PrN p:=hR.pr _ hxm;have hT1:l.take (i+1)=l.take i++[(p,v)]:=by rw[A5,hge];rfl
  have hnd:(prR (l.take (i+1))).Nodup:=by rw[aAy];exact EF (Dq ..) hR.nd
  rw[hT1]at hnd;have hpn:p ∉ prR (l.take i):=λh=>by
   have e:prR (l.take i++[(p,v)])=prR (l.take i)++[p]:=by simp[prR]
   rw[e,Eh]at hnd;exact hnd.2.2 p h p (by simp) rfl
  have hcop:EX p (st i).2:=by rw[(hinv i (by omega)).1];refine aCq hpr (λq hq=>?_) hpn;obtain⟨x,hx,rfl⟩:=AM.1 hq;exact hR.pr x (Bw hx)
  have:=Gm hcop (Cs hz);have:=hpr.1;omega
 refine aY (τ:=Nat) (λi=>i<=l.length) (λi=>StL [(2,.ptr 1 0),(4,.ptr 2 0),(5,.ptr 3 0),(6,.d (.fm 87 (.sl L))),(22,.d (.i .i64 L.length)),(23,.d (.i .i64 i))] none [.cells 31 [.d (.b false),.nil],.cells 31 [.d (.b false),.d (aB (aJ (st i).1))],.cells 31 [.d (.b false),.d (aB (aJ (st i).2))]]) (λi=>l.length-i) 0 (A1 _) ?_ ?_
 ·rw[hst,BD]
  refine wkQ [1,2,3] ?_ ?_<;>simp[-I,upd,aL,Γ0,oN]
 ·intro i hi
  by_cases hlt:i<l.length
  ·obtain⟨⟨p,v⟩,hge⟩:∃x,l[i]? = some x:=⟨_,Ab hlt⟩
   have hA:=hat i p v hge
   have hiL:i<L.length:=by omega
   have hxm:=Aj hge
   have hpr:PrN p:=hR.pr _ hxm
   have hvp:v<p:=hR.lt _ hxm
   have hp31':p<2147483648:=hp31 _ hxm
   have hp2:=hpr.1
   have hT1:l.take (i+1)=l.take i++[(p,v)]:=by rw[A5,hge];rfl
   have hst1:st (i+1)=((st i).1+(st i).2*sN p v (st i).1 (st i).2,(st i).2*p):=by rw[hst,hst,hT1];exact aGi p v _ 0 1
   obtain⟨g1,g2,g3⟩:=hinv i hi
   obtain⟨g4,g5,g6⟩:=hinv (i+1) hlt
   rw[hst1]at g4 g5 g6
   simp only at g4 g5 g6
   have hmp:(st i).2%p≠0:=hmod i p v hge
   have hm1:=BF (st i).2 (show 0<p by omega)
   have ha1:=BF (st i).1 (show 0<p by omega)
   have hRm:=aUg p (st i).2 (by omega) (by omega) (by omega)
   have hRa:=aUg p (st i).1 (by omega) (by omega) (by omega)
   have hI:=aVi p ((st i).2%p) hp2 (by omega) hm1 hmp
   have hSb:=aHk p v ((st i).1%p) (by omega) (by omega) hvp ha1
   have hs1:=BF (v+p-(st i).1%p) (show 0<p by omega)
   have hi1:=BF (((st i).2%p)^(p-2)) (show 0<p by omega)
   have hMl:=nZ p ((v+p-(st i).1%p)%p) (((st i).2%p)^(p-2)%p) (by omega) (Bf (A9 (C1 (F0 hs1 hp31')) (C1 (F0 hi1 hp31'))) (by decide))
   have hct:(v+p-(st i).1%p)%p*(((st i).2%p)^(p-2)%p)%p=sN p v (st i).1 (st i).2:=rfl
   rw[hct]at hMl
   have htl:sN p v (st i).1 (st i).2<p:=aWb (by omega)
   have hWt:=bVn (n:=sN p v (st i).1 (st i).2) (by omega)
   have hWp:=bVn (n:=p) (by omega)
   have hMt:=aRk (x:=(st i).2) (y:=sN p v (st i).1 (st i).2) (by omega) (by omega)
   have hMp:=aRk (x:=(st i).2) (y:=p) (by omega) (by omega)
   have hmt2:(st i).2*sN p v (st i).1 (st i).2<=(st i).2*p:=Ce _ (C1 htl)
   have hAd:=bBe (x:=(st i).1) (y:=(st i).2*sN p v (st i).1 (st i).2) (by omega) (by omega)
   have hw1:Ah.wrap ((i:Int)+1)=((i+1:Nat):Int):=aP
   have hn1:(st (i+1)).1=(st i).1+(st i).2*sN p v (st i).1 (st i).2:=by rw[hst1]
   have hn2:(st (i+1)).2=(st i).2*p:=by rw[hst1]
   rw[<-hn1]at hAd
   rw[<-hn2]at hMp
   generalize sN p v (st i).1 (st i).2=t at *
   generalize((st i).2%p)^(p-2)%p=iv at *
   generalize(v+p-(st i).1%p)%p=sv at *
   generalize(st i).2*t=mt at *
   generalize(st i).1%p=ap at *
   generalize(st i).2%p=mp at *
   generalize(st i).1=a at *
   generalize(st i).2=m at *
   obtain⟨a',ha'⟩:∃a',(st (i+1)).1=a':=⟨_,rfl⟩
   obtain⟨m',hm'⟩:∃m',(st (i+1)).2=m':=⟨_,rfl⟩
   rw[ha']at hAd
   rw[hm']at hMp
   simp[-I,-O,↓KW,↓aE,↓aA,↓aF,↓aG,hiL,aCu,aCv]
   refine yE (ds:=[.sl L,.i .i64 i]) (by rfl) hA ?_
   simp[-I,-O,↓KW,↓aE,↓aA,↓aF,↓aG,aCu,aCv,tf0,tf1]
   refine yE (ds:=[.sl L,.i .i64 i]) (by rfl) hA ?_
   simp[-I,-O,↓KW,↓aE,↓aA,↓aF,↓aG,tf0,tf1,aH]
   refine aC hRm ?_
   simp[-I,-O,↓KW,↓aE,↓aA,↓aF,↓aG,aH]
   refine aC hI ?_
   simp[-I,-O,↓KW,↓aE,↓aA,↓aF,↓aG,aH]
   refine aC hRa ?_
   simp[-I,-O,↓KW,↓aE,↓aA,↓aF,↓aG,aH]
   refine aC hSb ?_
   simp[-I,-O,↓KW,↓aE,↓aA,↓aF,↓aG,aH]
   refine aC hMl ?_
   simp[-I,-O,↓KW,↓aE,↓aA,↓aF,↓aG,aH]
   refine aC hWt ?_
   simp[-I,-O,↓KW,↓aE,↓aA,↓aF,↓aG,aN t,aH]
   refine aC hMt ?_
   simp[-I,-O,↓KW,↓aE,↓aA,↓aF,↓aG,aN mt,aH]
   refine aC hAd ?_
   simp[-I,-O,↓KW,↓aE,↓aA,↓aF,↓aG,aN a',aH]
   refine aC hWp ?_
   simp[-I,-O,↓KW,↓aE,↓aA,↓aF,↓aG,aN p,aH]
   refine aC hMp ?_
   simp[-I,-O,↓KW,↓aE,↓aA,↓aF,↓aG,aN m',hw1,aH]
   refine aI (i+1) (by omega) (by show l.length-(i+1)<l.length-i;omega) ?_
   show ∃ρ,Wk _ (StL _ _ _) ρ
   rw[ha',hm']
   refine wkQ [1,2,3] ?_ ?_<;>simp[-I,upd,aL,Γ0]
  ·have hiL:¬i<L.length:=by omega
   obtain⟨g1,g2,g3⟩:=hinv i hi
   have hz:aJp l=if(st i).2<(st i).1+(st i).1 then((st i).1:Int)-((st i).2:Int)else((st i).1:Int):=by unfold aJp;rw[hst,As (by omega)]
   rw[hz]
   have hAA:=bBe (x:=(st i).1) (y:=(st i).1) (by omega) (by omega)
   obtain⟨r,hC,hr⟩:=bKs (x:=(st i).1+(st i).1) (y:=(st i).2) (by omega) (by omega)
   have hSb:=bSl (x:=(st i).1) (y:=(st i).2) (by omega) (by omega) (by omega)
   generalize(st i).1=a at *
   generalize(st i).2=m at *
   generalize a+a=aa at *
   simp[-I,-O,↓KW,↓aE,↓aA,↓aF,↓aG,hiL]
   refine aS ?_
   simp[-I,-O,↓KW,↓aE,↓aA,↓aF,↓aG,aH]
   refine aC hAA ?_
   simp[-I,-O,↓KW,↓aE,↓aA,↓aF,↓aG,aN aa,aH]
   refine aC hC ?_
   by_cases h:m<aa
   ·have hr1:=hr.2 h
    rw[Aq h]
    generalize(a:Int)-(m:Int)=z at *
    simp[-I,-O,↓KW,↓aE,↓aA,↓aF,↓aG,hr1,aH]
    refine aC hSb ?_
    simp[-I,-O,↓KW,↓aE,↓aA,↓aF,↓aG,bB z,aH,dV]
   ·have hr1:¬0<r:=λh'=>h (hr.1 h')
    rw[Ai h,cX]
    simp[-I,-O,↓KW,↓aE,↓aA,↓aF,↓aG,hr1,aN a,aH,dV]
def vI(z:Int):List D:=[.b (decide (z<0)),aB (aJ z.natAbs)]
def dW(v:List Int):D:=.sl (v.map vI)
def vcs(v:List Int):List D:=(v.map vI).flatten
def aHf(l:List Int):(vcs l).length=l.length*2:=by
 unfold vcs;induction l with
 |nil=>rfl
 |cons x l ih=>simp only[BO,CG,Bc,ih,vI,Ak,Aw];omega
def bTt(z:Int):vI z=[.b (decide (z<0)),aB (aJ z.natAbs)]:=rfl
def bAm(l:List (List D))(h:∀x∈l,x.length=2):chunk 2 l.length l.flatten=l:=by
 induction l with
 |nil=>rfl
 | cons a l ih =>
  have ha:=h a (AI ..);have:=ih λx hx=>h x (AE _ hx)
  unfold chunk at this ⊢;rw[Ak,ED,BO,Dd,CG];congr 1
  ·simp[ha]
  ·conv=>rhs;rw[<-this]
   apply CP;intro i _;simp only[Function.comp];rw[show Nat.succ i*2=a.length+i*2 from by omega,List.drop_append,C0 (by omega)];simp
def bAl{l:List Int}{n:Nat}(h:l.length=n):chunk 2 n (vcs l)=l.map vI:=by subst h;have:=bAm (l.map vI) (λx hx=>by obtain⟨y,_,rfl⟩:=AM.1 hx;rfl);rwa [Bl]at this
def aHe{l:List Int}{n:Nat}(h:l.length=n):D9 (n*2) ((vcs l).map AV.d)=(vcs l).map AV.d:=As (by simp[aHf,h])
def bIu{H:Hp}{B:Nat}{e:TypeId}{v:List Int}{n:Nat}(m:Nat)(hB:H B=some (.cells e ((vcs v).map .d)))(hv:v.length=n):frz H (m+2) (.own B 0 n 2)=some (dW v):=by have hl:=aHf v;rw[hv]at hl;rw[uY,hB];simp only[AA,Bl,hl,DS,D4];rw[aHe hv,Aq ⟨Ay _,by decide⟩];have:List.mapM (frz H (m+1)) ((vcs v).map AV.d)=some (vcs v):=aBi H m (vcs v);rw[this,AU,bAl hv];rfl
def tU(z:Int)(v:List Int):vcs (z::v)=vI z++vcs v:=by simp[vcs]
def aTw:∀{v:List Int} {k:Nat} (z:Int),k<v.length->(vcs v).take (k*2)++vI z++(vcs v).drop (k*2+2)=vcs (v.set k z)
 |[],k,z,h=>by simp at h
 | y::v,0,z,h=>by rw[CL,tU,tU];rfl
 | y::v,k+1,z,h=>by
  have ih:=aTw (v:=v) (k:=k) z (by simpa using h);rw[Fl,tU,tU,<-ih,show(k+1)*2=2+k*2 by omega,show 2+k*2+2=2+(k*2+2)by omega];have e1:∀n,D9 (2+n) (vI y++vcs v)=vI y++D9 n (vcs v):=λn=>by rw[List.take_append,As (by show 2<=2+n;omega)];congr 2;show 2+n-2=n;omega
  have e2:∀n,List.drop (2+n) (vI y++vcs v)=List.drop n (vcs v):=λn=>by rw[<-List.drop_drop];rfl
  rw[e1,e2];simp
def mapM_some{α β:Type}(f:α->Option β)(g:Nat->β):∀(l:List α),(∀k x,l[k]? = some x->f x=some (g k))->l.mapM f=some ((AN l.length).map g)
 |[],_=>rfl
 | x::l,h=>by rw[List.mapM_cons,h 0 x rfl,mapM_some f (λk=>g (k+1)) l λk y hy=>h (k+1) y (by simpa using hy),Ak,ED];simp[Function.comp_def]
def zr(cols:Nat):List AV:=(Av cols [AV.d (.b false),AV.nil]).flatten
def bMw{H H':Hp}{ρ:Nat->Nat}(cols:Nat):fJ H H' ρ (zr cols) (zr cols):=by
 refine dO.2 ⟨rfl,λk c d h1 h2=>?_⟩;rw[h1]at h2;injection h2 with h2;subst h2
 have hm:=Aj h1;unfold zr at hm;rw[List.mem_flatten]at hm;obtain⟨l,hl,hc⟩:=hm;rw[List.eq_of_mem_replicate hl]at hc;rcases Bn.1 hc with rfl|hc
 ·exact(lF _ _).2 rfl
 ·rw[BQ.1 hc];trivial
def bBp{H H':Hp}{ρ:Nat->Nat}:∀c:Nat,fJ H H' ρ (zr c) ((vcs (Av c 0)).map .d)
 |0=>trivial
 | c+1=>by
  have ih:=bBp (H:=H) (H':=H') (ρ:=ρ) c;have e1:zr (c+1)=AV.d (.b false)::AV.nil::zr c:=by simp[zr,Cz]
  have e2:(vcs (Av (c+1) 0)).map AV.d=AV.d (.b (decide ((0:Int)<0)))::AV.d (aB (aJ (0:Int).natAbs))::(vcs (Av c 0)).map AV.d:=by rw[Cz];rfl
  rw[e1,e2];refine⟨?_,?_,ih⟩
  ·exact(lF _ _).2 rfl
  ·exact⟨by rw[show((0:Int).natAbs)=0 from rfl,bZ];rfl,λa ha=>by simp[vis]at ha⟩
def nwV(rows cols m:Nat):AV:=.ag [.d (.i .i64 (rows:Int)),.d (.i .i64 (cols:Int)),.own m 0 rows 1]
def hdr(c n b:Nat):List AV:=(AN n).map λj=>AV.own (j+b) 0 c 2
def aLh(v:List Int):HO:=.cells 31 ((vcs v).map .d)
def mB(c:Nat)(M:List (List Int))(m:Nat):List HO:=.cells 110 (hdr c M.length (m+1))::M.map aLh
def kS(c n b:Nat):(hdr c n b).length=n:=by simp[hdr]
def zN{c n b i:Nat}(h:i<n):(hdr c n b)[i]? = some (.own (i+b) 0 c 2):=by unfold hdr;rw[Ag,List.getElem?_range h];rfl
def bIn(c n b:Nat):hdr c (n+1) b=hdr c n b++[.own (n+b) 0 c 2]:=by simp[hdr,List.range_succ]
def oC(c:Nat)(M:List (List Int))(m:Nat):(mB c M m).length=M.length+1:=by simp[mB]
def nwH(cols i:Nat):Hp:=λid =>
 if id=1 then some (.cells 61 [.d (.i .i64 0),.d (.i .i64 0),.nil])else if id=2 then some (.cells 110 (hdr cols i 3))else if 3<=id/\id<i+3 then some (.cells 31 (zr cols))else none
def aIb[M:Mch Aa](rows cols:Nat)(hr:rows<=1000)(hc:cols<=1000):sW Aa 38 [.i .i64 (rows:Int),.i .i64 (cols:Int)] (nwV rows cols) (mB cols (Av rows (Av cols 0))):=by
 refine aBf (N:=22) aR Tryz.func38 rfl rfl rfl (by decide) (by kernel_rfl) (by kernel_rfl) (by simp) rfl ?_;have m1:¬(rows:Int)<0:=by omega
 have m2:¬(cols:Int)<0:=by omega
 have hm3:32*(cols:Int)<=281474976710656:=by omega
 have hm4:(cols:Int)<=9223372036854775807:=by omega
 simp[-I,-O,↓KW,m1,m2,bJ];refine cB (λi:Nat=>i<=rows) (λi=>⟨gK [(0,.d (.i .i64 (rows:Int))),(1,.d (.i .i64 (cols:Int))),(4,.ptr 1 0),(5,.own 2 0 i 1),(6,.d (.i .i64 (i:Int)))],nwH cols i,i+3⟩) (λi=>rows-i) 0 (A1 _) ?_ ?_
 ·refine⟨_,lX ?_ (λid o' ho=>?_) (λid hid=>?_) (by simp)⟩
  ·simp[-I,upd,aL,Γ0,nwH]
  ·simp only[nwH]at ho;split at ho
   ·rename_i e;subst e;injection ho with ho;subst ho
    exact⟨_,rfl,by simp[-I,upd,aL,Γ0]⟩
   ·split at ho
    ·rename_i e;subst e;injection ho with ho;subst ho
     exact⟨_,rfl,dS.2 ⟨rfl,trivial⟩⟩
    ·rw[Ai (by omega)]at ho;cases ho
  ·simp only[nwH];rw[Ai (by omega),Ai (by omega),Ai (by omega)]
 ·intro i hi;have hH1:nwH cols i 1=some (.cells 61 [.d (.i .i64 0),.d (.i .i64 0),.nil]):=rfl;have hH2:nwH cols i 2=some (.cells 110 (hdr cols i 3)):=rfl;have hlen:(hdr cols i 3).length=i:=kS ..;by_cases hgo:i<rows
  ·have q1:(i:Int)<rows:=by omega
   have hw:Ah.wrap ((i:Int)+1)=(i:Int)+1:=aP;generalize hHg:nwH cols i=H at *;generalize hcl:hdr cols i 3=cells at *;have hb:(i+1)*24<=140737488355328:=by omega
   have hb2:i+1<=maxLen:=bJ (by omega);simp[-I,-O,↓KW,q1,hgo,hw,hm3,hm4,hH1,hH2,hlen,m1,m2,hb,hb2];have hn1:(nwH cols (i+1) 1).isSome=true:=rfl;have hn2:(nwH cols (i+1) 2).isSome=true:=rfl;have hnj:∀j,j<i+1->(nwH cols (i+1) (j+3)).isSome=true:=λj hj=>by unfold nwH;rw[Ai (by omega),Ai (by omega),Aq (by omega)];rfl
   refine aI (i+1) hgo (slQ hgo) ⟨_,bXe (λid=>if id=2 then i+5 else id) ?_ (λid o' ho=>?_) (λid id' h1 h2 e=>?_) (λ_=>rfl) (λid hid=>?_) (by simp)⟩
   ·simp[-I,upd,aL,Γ0,hn1,hn2]
   ·simp only[nwH]at ho;split at ho
    ·rename_i e;subst e;injection ho with ho;subst ho
     refine⟨.cells 61 [.d (.i .i64 0),.d (.i .i64 0),.nil],?_,by simp[-I,upd,aL,Γ0]⟩;rw[Ai (by omega)];simp only;rw[Ai (by omega),Ai (by omega),Ai (by omega),Ai (by omega),hH1];rfl
    ·split at ho
     ·rename_i e;subst e;injection ho with ho;subst ho
      refine⟨.cells 110 (hdr cols (i+1) 3),?_,dS.2 ⟨rfl,dO.2 ⟨rfl,λk x y h1 h2=>?_⟩⟩⟩
      ·show Option.map (fU [2]) (if i+5=i+3+1+1 then some (HO.cells 110 (cells++[AV.own (i+3) 0 cols 2]))else _)=_;rw[Aq (by omega),bIn,hcl];simp only[AU,fU,EL,BO,List.map_nil];have e1:cells.map (dY [2])=cells:=by rw[<-hcl];unfold hdr;rw[Dd];apply CP;intro j hj;simp[dY]
       rw[e1];simp[dY]
      ·rw[h1]at h2;injection h2 with h2;subst h2
       have hk:k<i+1:=by have:=(Ao.1 h1).1;rwa [kS]at this
       rw[zN hk]at h1;injection h1 with h1;subst h1
       exact⟨by simp only;rw[Ai (by omega)],rfl,rfl,rfl,hnj k hk⟩
     ·split at ho
      ·rename_i e2 e3;injection ho with ho;subst ho
       refine⟨.cells 31 (zr cols),?_,dS.2 ⟨rfl,bMw cols⟩⟩;rw[Ai e2];simp only;rw[Ai (by omega),Ai e2,Ai (by omega)];have ez:Option.map (fU [2]) (some (HO.cells 31 (zr cols)))=some (.cells 31 (zr cols)):=by simp only[AU,fU];congr 2;unfold zr;rw[List.map_flatten,Gf];rfl
       by_cases e4:id=i+3
       ·rw[Aq e4];exact ez
       ·rw[Ai e4,<-hHg];unfold nwH;rw[Ai (by omega),Ai (by omega),Aq (by omega)];exact ez
      ·cases ho
   ·have k1:∀id,(nwH cols (i+1) id).isSome=true->1<=id/\id<i+4:=λid h=>by
     unfold nwH at h;split at h
     ·omega
     ·split at h
      ·omega
      ·split at h
       ·omega
       ·cases h
    have b1:=k1 id h1;have b2:=k1 id' h2;have e':(if id=2 then i+5 else id)=(if id'=2 then i+5 else id'):=e;split at e'<;>split at e'<;>omega
   ·simp only[nwH];rw[Ai (by omega),Ai (by omega),Ai (by omega)]
  ·have q1:¬(i:Int)<rows:=by omega
   have e:i=rows:=by omega
   subst e;generalize hHg:nwH cols i=H at *;simp[-I,-O,↓KW,q1,hH1,hH2];intro m hm0;have hML:(mB cols (Av i (Av cols (0:Int))) m).length=i+1:=by simp[oC]
   have hin:∀id,m<=id->id<m+(i+1)->(jH (nwV i cols) (mB cols (Av i (Av cols 0))) m).H id=(mB cols (Av i (Av cols 0)) m)[id-m]? := λid h1 h2=>by simp only[jH,gX];rw[Aq ⟨h1,by rw[hML];exact h2⟩]
   have hout:∀id,¬(m<=id/\id<m+(i+1))->(jH (nwV i cols) (mB cols (Av i (Av cols 0))) m).H id=none:=λid h=>by simp only[jH,gX];rw[Ai (by rw[hML];exact h)]
   have hsome:∀id,((jH (nwV i cols) (mB cols (Av i (Av cols 0))) m).H id).isSome=true->m<=id/\id<m+(i+1):=λid h=>by
    by_cases hr:m<=id/\id<m+(i+1)
    ·exact hr
    ·rw[hout id hr]at h;cases h
   have hS0:((jH (nwV i cols) (mB cols (Av i (Av cols 0))) m).H m).isSome=true:=by rw[hin m (Ay _) (by omega),CU];rfl
   have hSj:∀j,j<i->(jH (nwV i cols) (mB cols (Av i (Av cols 0))) m).H (j+(m+1))=some (aLh (Av cols 0)):=λj hj=>by rw[hin _ (by omega) (by omega),show j+(m+1)-m=j+1 by omega];simp only[mB,BB,Gf,DH,Aq hj]
   refine⟨λid=>id-m+2,λid hid=>hout id (by simp only[jH]at hid;rw[hML]at hid;omega),λt=>?_,λid o' ho=>?_,λid id' h1 h2 e=>?_,λh=>?_,λh=>?_⟩
   ·show Sub _ _ _ _ (upd (λ_=>.any) 0 (nwV i cols m) t);by_cases e:t=0
    ·subst e;simp only[upd_same,nwV];refine⟨rfl,λk c d h1 h2=>?_⟩;rcases k with _|_|_|k
     ·simp at h1 h2;subst h1;subst h2;exact(lF _ _).2 rfl
     ·simp at h1 h2;subst h1;subst h2;exact(lF _ _).2 rfl
     ·simp at h1 h2;subst h1;subst h2;exact⟨by simp,rfl,rfl,rfl,hS0⟩
     ·simp at h1
    ·rw[upd_ne _ _ e];exact rF _
   ·have hr:=hsome id (by rw[ho];rfl);rw[hin id hr.1 hr.2]at ho;simp only;obtain⟨j,rfl⟩:∃j,id=m+j:=⟨id-m,by omega⟩;rw[show m+j-m=j by omega]at ho ⊢;rcases j with _|j
    ·simp only[mB,BX,FC]at ho;injection ho with ho;subst ho
     refine⟨.cells 110 (hdr cols i 3),by simp only[upd];rw[Ai (by omega)];exact hH2,dS.2 ⟨rfl,dO.2 ⟨by rw[kS,kS],λk c d h1 h2=>?_⟩⟩⟩;have hlt:k<i:=by have:=(Ao.1 h1).1;rwa [kS]at this
     rw[zN hlt]at h1 h2;injection h1 with h1;injection h2 with h2;subst h1;subst h2
     exact⟨by show k+3=k+(m+1)-m+2;omega,rfl,rfl,rfl,by rw[hSj k hlt];rfl⟩
    ·have hlt:j<i:=by omega
     simp only[mB,BB,Gf,DH,Aq hlt]at ho;injection ho with ho;subst ho
     refine⟨.cells 31 (zr cols),?_,dS.2 ⟨rfl,bBp cols⟩⟩;simp only[upd];rw[Ai (by omega),<-hHg];unfold nwH;rw[Ai (by omega),Ai (by omega),Aq (by omega)]
   ·have q1':=hsome id h1;have q2':=hsome id' h2;have e':id-m+2=id'-m+2:=e;omega
   ·have:=hsome 0 h;omega
   ·simp only[jH]at h;omega
def fK[M:Mch Aa]{f:FuncId}{args:List D}{r:D}(h:(kJ Aa EP 100 20).call f args=some r):Spec Aa f args r:=(pX (fuel:=100) aR aWi 20).call _ _ _ h
def mA:D:=.ag [.i .i64 1,.i .i64 1,.sl [[.sl [[.b true,.sl [[.i .u32 1]]]]]]]
def aJg(H:Hp)(n:Nat)(a b:HO):gX H n [a,b]=upd (upd H n (some a)) (n+1) (some b):=by
 funext id;unfold gX upd;by_cases h1:id=n+1
 ·subst h1;simp
 ·by_cases h2:id=n
  ·subst h2;simp
  ·simp only[h1,h2,if_false,Ak,Aw];rw[Ai (by omega)]
def cDd[M:Mch Aa]:Spec Aa 37 [.i .i64 1,.i .i64 1,.sl [[.i .i64 (-1)]]] mA:=by
 refine aX (N:=50) Tryz.func37 ?_;have hN:sW Aa 38 [.i .i64 1,.i .i64 1] (nwV 1 1) (mB 1 [[0]]):=aIb 1 1 (by decide) (by decide);have hmB:mB 1 [[0]] 2=[.cells 110 [.own 3 0 1 2],.cells 31 [.d (.b (decide ((0:Int)<0))),.d (aB (aJ (0:Int).natAbs))]]:=rfl;have hO:Spec Aa 11 [.i .i64 (-1)] (.ag [.b true,.sl [[.i .u32 1]]]):=fK (by kernel_rfl);simp[-I,-O,↓KW];refine lI [.i .i64 1,.i .i64 1] (nwV 1 1) (mB 1 [[0]]) (by simp) (by simp) (by simp) (by rfl) (by rfl) hN ?_;simp[-I,-O,↓KW,nwV,hmB,aJg];have hz0:Ah.wrap 0=0:=by decide
 have hz1:Ah.wrap 1=1:=by decide
 refine eD 2 ?_;simp[-I,-O,↓KW,↓aE,↓aA,↓aF,↓aG,hz0,hz1];refine eD 2 ?_;simp[-I,-O,↓KW,↓aE,↓aA,↓aF,↓aG,hz0,hz1];refine aC hO ?_;simp[-I,-O,↓KW,↓aE,↓aA,↓aF,↓aG,hz0,hz1];rfl
def gP {P:Program} [M:Mch P] {f N:Nat} {fn:Func} {c:Code} {h:AV} {o o':HO} {args:List D} (hm:P.follows .mixedOrders=true) (hf:P.funcs[f]? = some fn) (hb:fn.body=some c) (hname:(fn.name == "runtime.NumGoroutine")=false) (hN:fn.ntmps=N)
  (hd:bN N c=true) (hl:bQ P c=true) (ha:args.length+1<=N) (hno':kE o'=true)
  (hA:AWP P c (St1 h o args N) λe σ=>(e=.normal\/e=.ret)/\jA P fn.results.toList σ=some (.tp [])/\σ.H 0=some o'):kL P f h o args o' (.tp []) :=
 xT hf hb hname hN ha hno' λG a w hZ hs=>cJ hm hZ c _ _ a w hd hl hA hs
def gZ{P:Program}(σ:St):jA P [] σ=some (.tp []):=rfl
def yI{σ:St}{sl:List (Nat×AV)}{e:TypeId}{dl:List D}(hslot:jR σ.H (StL sl (some (.cells e (dl.map .d))) []).H (yO []) σ.Γ sl)(h0:σ.H 0=some (.cells e (dl.map .d))):∃ρ,Wk σ (StL sl (some (.cells e (dl.map .d))) []) ρ :=
 ⟨_,aTr [] (by simp) hslot (λo' h=>⟨_,h0,by injection h with h;subst h;exact nB ..⟩) (by simp)⟩
def rZ(k:Nat):Int:=((k+1:Nat):Int)
def qS:Nat->List Int->List Int
 |0,l=>l
 |j+1,l=>if l[j+1]! < l[j]! then qS j ((l.set (j+1) l[j]!).set j l[j+1]!)else l
def jY(l:List Int):Nat->List Int
 |0=>l
 |k+1=>qS (k+1) (jY l k)
def dC(l:List Int):List Int:=jY l (l.length-1)
def aOj:∀(j:Nat) (l:List Int),(qS j l).length=l.length
 |0,l=>rfl
 | j+1,l=>by
  unfold qS;split
  ·rw[aOj];simp
  ·rfl
def eF(l:List Int):∀k,(jY l k).length=l.length
 |0=>rfl
 |k+1=>by unfold jY;rw[aOj,eF l k]
def aXe{l:List Int}{i j:Nat}(hi:i<l.length)(hj:j<l.length):((l.set i l[j]!).set j l[i]!).Perm l:=by rw[B7 l i hi,B7 l j hj];exact List.set_set_perm hi hj
def aGl:∀(j:Nat) (l:List Int),j<l.length->(qS j l).Perm l
 |0,l,_=>.refl _
 | j+1,l,h=>by
  unfold qS;split
  ·refine(aGl j _ (by simp;omega)).trans (aXe h (by omega))
  ·exact .refl _
def aFw(l:List Int):∀k,k<l.length\/k=0->(jY l k).Perm l
 |0,_=>.refl _
 | k+1,h=>by unfold jY;exact(aGl (k+1) _ (by rw[eF];omega)).trans (aFw l k (by omega))
def kV(l:List Int):(dC l).Perm l:=aFw l _ (by omega)
def dzU(l:List Int):List D:=l.map λn=>.i .u64 n
def mK(l:List Int):(dzU l).length=l.length:=by simp[dzU]
def bJt{l:List Int}{i:Nat}(h:i<l.length):(dzU l)[i]? = some (.i .u64 l[i]!):=by unfold dzU;rw[Ag,Ab h,B7 l i h];rfl
def aJj(l:List Int)(i:Nat)(x:Int):(dzU l).set i (.i .u64 x)=dzU (l.set i x):=by simp[dzU]
def nW(e:TypeId)(l:List Int):kE (.cells e ((dzU l).map .d))=true:=by simp only[kE,A3];intro x hx;obtain⟨d,hd,rfl⟩:=AM.1 hx;obtain⟨n,_,rfl⟩:=AM.1 hd;rfl
def cCw[M:Mch Aa](x y:Int):Spec Aa 142 [.i .u64 x,.i .u64 y] (.b (decide (x<y))):=by
 have hN:∀z:Int,Spec Aa 184 [.i .u64 z] (.b false):=λz=>by refine aX (N:=6) Tryz.func184 ?_;simp[-I,-O,↓KW]
 refine aX (N:=17) Tryz.func142 ?_;simp[-I,-O,↓KW];refine aC (hN x) ?_;simp[-I,-O,↓KW]
def cFa[M:Mch Aa](l:List Int)(hl:l.length<=1000):kL Aa 136 (.own 0 0 l.length 1) (.cells 51 ((dzU l).map .d)) [.i .i64 0,.i .i64 l.length] (.cells 51 ((dzU (dC l)).map .d)) (.tp []):=by
 refine gP (N:=49) aR Tryz.func136 rfl rfl rfl (by kernel_rfl) (by kernel_rfl) (by simp) (nW _ _) ?_;have hw1:Ah.wrap 1=1:=by decide
 by_cases h0:l.length=0
 ·have hl0:l=[]:=B1 h0;subst hl0;simp[-I,-O,↓KW,St1,hw1];refine eD 1 ?_;simp[-I,-O,↓KW,↓aE,↓aA,↓aF,↓aG,show dC []=[]from rfl,gZ]
 replace h0:0<l.length:=by omega
 simp[-I,-O,↓KW,St1,hw1];refine aY (τ:=Nat) (λk=>k+1<=l.length) (λk=>StL [(0,.own 0 0 l.length 1),(1,.d (.i .i64 0)),(2,.d (.i .i64 l.length)),(6,.d (.i .i64 (rZ k)))] (some (.cells 51 ((dzU (jY l k)).map .d))) []) (λk=>l.length-k) 0 (by omega) ?_ ?_
 ·refine yI ?_ rfl;simp[-I,upd,aL,Γ0,rZ,jY]
 ·intro k hk;have hkl:=eF l k;by_cases hlt:k+1<l.length
  ·have hR:jY l (k+1)=qS (k+1) (jY l k):=rfl;obtain⟨R,hRR⟩:∃R,jY l (k+1)=R:=⟨_,rfl⟩;rw[hRR]at hR;obtain⟨i,hi⟩:∃i,k+1=i:=⟨_,rfl⟩;rw[hi]at hR hlt;have hs:rZ k=(i:Int):=by unfold rZ;omega
   have hs1:Ah.wrap ((i:Int)+1)=rZ (k+1):=by unfold rZ;rw[show(i:Int)+1=((k+1+1:Nat):Int)from by omega];exact aP
   rw[hs];generalize jY l k=T0 at *;generalize l.length=n at *;simp[-I,-O,↓KW,hlt];refine aY (τ:=Nat×List Int) (λx=>x.1<=i/\x.2.length=n/\qS x.1 x.2=R) (λx=>StL [(0,.own 0 0 n 1),(1,.d (.i .i64 0)),(2,.d (.i .i64 n)),(6,.d (.i .i64 i)),(7,.d (.i .i64 (x.1:Nat)))] (some (.cells 51 ((dzU x.2).map .d))) []) (λx=>x.1) (i,T0) ⟨Ay _,hkl,hR.symm⟩ ?_ ?_
   ·refine yI ?_ rfl;simp[-I,upd,aL,Γ0]
   ·rintro⟨j,T⟩ ⟨h1,h2,h3⟩;simp only at h1 h2 h3 ⊢;cases j with
    | zero =>
     have h3':T=R:=h3;subst h3';simp[-I,-O,↓KW];refine aS ?_;simp[-I,-O,↓KW,hs1];refine aI (k+1) (by omega) (by show n-(k+1)<n-k;omega) ?_;show ∃ρ,Wk _ (StL _ _ _) ρ;rw[hRR];refine yI ?_ rfl;simp[-I,upd,aL,Γ0]
    | succ j =>
     have hL:=cCw T[j+1]! T[j]!;have ha:=bJt (l:=T) (i:=j+1) (by omega);have hb:=bJt (l:=T) (i:=j) (by omega);have ha':∀h,(dzU T)[j+1]'h=.i .u64 T[j+1]! := λh=>by rw[Ab h]at ha;injection ha
     have hb':∀h,(dzU T)[j]'h=.i .u64 T[j]! := λh=>by rw[Ab h]at hb;injection hb
     have hdl:=mK T;have hjn:j+1<n:=by omega
     have hjn':j<n:=by omega
     have hw0:Ah.wrap (j:Int)=j:=aP;have hset:((dzU T).set (j+1) (.i .u64 T[j]!)).set j (.i .u64 T[j+1]!)=dzU ((T.set (j+1) T[j]!).set j T[j+1]!):=by rw[aJj,aJj]
     have hbub:qS (j+1) T=if T[j+1]! < T[j]! then qS j ((T.set (j+1) T[j]!).set j T[j+1]!)else T:=rfl
     have hTl:((T.set (j+1) T[j]!).set j T[j+1]!).length=n:=by simp[h2]
     rw[hbub]at h3;generalize(T.set (j+1) T[j]!).set j T[j+1]! = T2 at *;have hwJ:Ah.wrap (((j+1:Nat):Int)-1)=j:=by rw[show((j+1:Nat):Int)-1=(j:Int)from by omega];exact hw0
     have hwJ0:Ah.wrap ((j+1:Nat):Int)=((j+1:Nat):Int):=aP;have hJ0:0<j+1:=by omega
     have hJj:¬j+1=j:=by omega
     generalize T[j+1]! = x at *;generalize T[j]! = y at *;obtain⟨DT,hDT⟩:∃DT,dzU T=DT:=⟨_,rfl⟩;rw[hDT]at ha hb ha' hb' hdl hset ⊢;obtain⟨J,hJ⟩:∃J,j+1=J:=⟨_,rfl⟩;have hJlt:j<J:=by omega
     simp only[hJ]at *;have hJ1:J+1<=n:=by omega
     have hJ2:j+1<=n:=by omega
     have hJ3:J<=n:=by omega
     have e1:lay (DT.map AV.d) J [.d (.i .u64 y)]=(DT.set J (.i .u64 y)).map .d:=eQ _ _ _ (by omega);have e2:lay ((DT.set J (.i .u64 y)).map AV.d) j [.d (.i .u64 x)]=(dzU T2).map .d:=by rw[eQ _ _ _ (by rw[CB];omega),hset]
     have e3:lay ((DT.map AV.d).set J (.d (.i .u64 y))) j [.d (.i .u64 x)]=(dzU T2).map .d:=by rw[<-e2,Fv]
     by_cases hxy:x<y
     ·rw[Aq hxy]at h3;rw[B4 hxy]at hL;simp[-I,-O,↓KW,ha,ha',hb,hb',hw0,hwJ,hwJ0,hJ0,hdl,h2,hjn,hjn'];refine aC hL ?_;simp[-I,-O,↓KW,ha,ha',hb,hb',hw0,hwJ,hwJ0,hJ0,hdl,h2,hjn,hjn',hJ1,hJ2,hJ3,e1,e2,e3];refine aI (j,T2) ⟨by omega,hTl,h3⟩ (by show j<j+1;omega) ?_;show ∃ρ,Wk _ (StL _ _ _) ρ;refine yI ?_ ?_<;>simp[-I,upd,aL,Γ0,e3]
     ·rw[Ai hxy]at h3;rw[Bs hxy]at hL;simp[-I,-O,↓KW,ha,ha',hb,hb',hw0,hwJ,hwJ0,hJ0,hdl,h2,hjn,hjn'];refine aC hL ?_;simp[-I,-O,↓KW,ha,ha',hb,hb',hw0,hwJ,hwJ0,hJ0,hdl,h2,hjn,hjn'];subst h3;refine aS ?_;simp[-I,-O,↓KW,hs1];refine aI (k+1) (by omega) (by show n-(k+1)<n-k;omega) ?_;show ∃ρ,Wk _ (StL _ _ _) ρ;rw[hRR];refine yI ?_ ?_<;>simp[-I,upd,aL,Γ0,hDT]
  ·have hk1:k+1=l.length:=by omega
   have hsr:dC l=jY l k:=by unfold dC;rw[show l.length-1=k from by omega]
   rw[hsr];have hs:rZ k=(l.length:Int):=by unfold rZ;omega
   rw[hs];simp[-I,-O,↓KW];exact aS (by simp[-I,-O,↓KW,gZ])
def cEo[M:Mch Aa](l:List Int)(r:Int)(hl:l.length<=12):kL Aa 80 (.own 0 0 l.length 1) (.cells 51 ((dzU l).map .d)) [.i .i64 0,.i .i64 l.length,.i .i64 r] (.cells 51 ((dzU (dC l)).map .d)) (.tp []):=by
 have hI:=cFa l (by omega);have hlen:(dzU (dC l)).length=(dzU l).length:=by rw[mK,mK];exact eF l _
 have hno1:=nW 51 l;have hno2:=nW 51 (dC l);have hw0:Ah.wrap (l.length:Int)=l.length:=aP;have hle:(l.length:Int)<=12:=by omega
 refine gP (N:=134) aR Tryz.func80 rfl rfl rfl (by kernel_rfl) (by kernel_rfl) (by simp) hno2 ?_;generalize dC l=T at *;generalize l.length=n at *;generalize dzU T=DT at *;generalize dzU l=DL at *;simp[-I,-O,↓KW,St1];refine eD 1 ?_;simp[-I,-O,↓KW,↓aE,↓aA,↓aF,↓aG,hw0,hl,hle];refine nE (by simp) ?_;refine iT (id:=0) (h:=.own 0 0 n 1) (by rfl) hno1 (by rfl) (by rfl) hI (by simp[HO.len,hlen]) hno2 ?_;simp[-I,-O,↓KW,gZ]
def cDn[M:Mch Aa](n:Nat)(hn:n<=12):∃r,Spec Aa 81 [.i .u64 n] (.i .i64 r):=by
 have h:((AN 13).all λn=>match(kJ Aa EP 100 20).call 81 [.i .u64 (n:Nat)]with|some (.i .i64 r)=>true|_=>false)=true:=by kernel_rfl
 have:=A3.1 h n (Cr.2 (by omega));split at this
 ·rename_i r hr;exact⟨r,fK hr⟩
 ·cases this
def cBx[M:Mch Aa](l:List Int)(hl:l.length<=12):kL Aa 43 (.own 0 0 l.length 1) (.cells 51 ((dzU l).map .d)) [] (.cells 51 ((dzU (dC l)).map .d)) (.tp []):=by
 obtain⟨r,hB⟩:=cDn l.length hl;have hI:=cEo l r hl;have hlen:(dzU (dC l)).length=(dzU l).length:=by rw[mK,mK];exact eF l _
 have hno1:=nW 51 l;have hno2:=nW 51 (dC l);have hw0:AB.wrap (l.length:Int)=l.length:=wrap_u64 (by omega) (by omega);refine gP (N:=11) aR Tryz.func43 rfl rfl rfl (by kernel_rfl) (by kernel_rfl) (by simp) hno2 ?_;generalize dC l=T at *;generalize l.length=n at *;generalize dzU T=DT at *;generalize dzU l=DL at *;simp[-I,-O,↓KW,St1,hw0];refine aC hB ?_;simp[-I,-O,↓KW,St1,hw0];refine nE (by simp) ?_;refine iT (id:=0) (h:=.own 0 0 n 1) (by rfl) hno1 (by rfl) (by rfl) hI (by simp[HO.len,hlen]) hno2 ?_;simp[-I,-O,↓KW,gZ]
def dzI(l:List Int):List D:=l.map λn=>.i .i64 n
def ezI(l:List Int):D:=.sl (l.map λn=>[.i .i64 n])
def eR(l:List Int):(dzI l).length=l.length:=by simp[dzI]
def bJv{l:List Int}{i:Nat}(h:i<l.length):(dzI l)[i]? = some (.i .i64 l[i]!):=by unfold dzI;rw[Ag,Ab h,B7 l i h];rfl
def aVx(l:List Int)(i:Nat)(x:Int):(dzI l).set i (.i .i64 x)=dzI (l.set i x):=by simp[dzI]
def nX(e:TypeId)(l:List Int):kE (.cells e ((dzI l).map .d))=true:=by simp only[kE,A3];intro x hx;obtain⟨d,hd,rfl⟩:=AM.1 hx;obtain⟨n,_,rfl⟩:=AM.1 hd;rfl
def cCx[M:Mch Aa](x y:Int):Spec Aa 159 [.i .i64 x,.i .i64 y] (.b (decide (x<y))):=by
 have hN:∀z:Int,Spec Aa 151 [.i .i64 z] (.b false):=λz=>by refine aX (N:=6) Tryz.func151 ?_;simp[-I,-O,↓KW]
 refine aX (N:=17) Tryz.func159 ?_;simp[-I,-O,↓KW];refine aC (hN x) ?_;simp[-I,-O,↓KW]
def cFb[M:Mch Aa](l:List Int)(hl:l.length<=1000):kL Aa 153 (.own 0 0 l.length 1) (.cells 3 ((dzI l).map .d)) [.i .i64 0,.i .i64 l.length] (.cells 3 ((dzI (dC l)).map .d)) (.tp []):=by
 refine gP (N:=49) aR Tryz.func153 rfl rfl rfl (by kernel_rfl) (by kernel_rfl) (by simp) (nX _ _) ?_;have hw1:Ah.wrap 1=1:=by decide
 by_cases h0:l.length=0
 ·have hl0:l=[]:=B1 h0;subst hl0;simp[-I,-O,↓KW,St1,hw1];refine eD 1 ?_;simp[-I,-O,↓KW,↓aE,↓aA,↓aF,↓aG,show dC []=[]from rfl,gZ]
 replace h0:0<l.length:=by omega
 simp[-I,-O,↓KW,St1,hw1];refine aY (τ:=Nat) (λk=>k+1<=l.length) (λk=>StL [(0,.own 0 0 l.length 1),(1,.d (.i .i64 0)),(2,.d (.i .i64 l.length)),(6,.d (.i .i64 (rZ k)))] (some (.cells 3 ((dzI (jY l k)).map .d))) []) (λk=>l.length-k) 0 (by omega) ?_ ?_
 ·refine yI ?_ rfl;simp[-I,upd,aL,Γ0,rZ,jY]
 ·intro k hk;have hkl:=eF l k;by_cases hlt:k+1<l.length
  ·have hR:jY l (k+1)=qS (k+1) (jY l k):=rfl;obtain⟨R,hRR⟩:∃R,jY l (k+1)=R:=⟨_,rfl⟩;rw[hRR]at hR;obtain⟨i,hi⟩:∃i,k+1=i:=⟨_,rfl⟩;rw[hi]at hR hlt;have hs:rZ k=(i:Int):=by unfold rZ;omega
   have hs1:Ah.wrap ((i:Int)+1)=rZ (k+1):=by unfold rZ;rw[show(i:Int)+1=((k+1+1:Nat):Int)from by omega];exact aP
   rw[hs];generalize jY l k=T0 at *;generalize l.length=n at *;simp[-I,-O,↓KW,hlt];refine aY (τ:=Nat×List Int) (λx=>x.1<=i/\x.2.length=n/\qS x.1 x.2=R) (λx=>StL [(0,.own 0 0 n 1),(1,.d (.i .i64 0)),(2,.d (.i .i64 n)),(6,.d (.i .i64 i)),(7,.d (.i .i64 (x.1:Nat)))] (some (.cells 3 ((dzI x.2).map .d))) []) (λx=>x.1) (i,T0) ⟨Ay _,hkl,hR.symm⟩ ?_ ?_
   ·refine yI ?_ rfl;simp[-I,upd,aL,Γ0]
   ·rintro⟨j,T⟩ ⟨h1,h2,h3⟩;simp only at h1 h2 h3 ⊢;cases j with
    | zero =>
     have h3':T=R:=h3;subst h3';simp[-I,-O,↓KW];refine aS ?_;simp[-I,-O,↓KW,hs1];refine aI (k+1) (by omega) (by show n-(k+1)<n-k;omega) ?_;show ∃ρ,Wk _ (StL _ _ _) ρ;rw[hRR];refine yI ?_ rfl;simp[-I,upd,aL,Γ0]
    | succ j =>
     have hL:=cCx T[j+1]! T[j]!;have ha:=bJv (l:=T) (i:=j+1) (by omega);have hb:=bJv (l:=T) (i:=j) (by omega);have ha':∀h,(dzI T)[j+1]'h=.i .i64 T[j+1]! := λh=>by rw[Ab h]at ha;injection ha
     have hb':∀h,(dzI T)[j]'h=.i .i64 T[j]! := λh=>by rw[Ab h]at hb;injection hb
     have hdl:=eR T;have hjn:j+1<n:=by omega
     have hjn':j<n:=by omega
     have hw0:Ah.wrap (j:Int)=j:=aP;have hset:((dzI T).set (j+1) (.i .i64 T[j]!)).set j (.i .i64 T[j+1]!)=dzI ((T.set (j+1) T[j]!).set j T[j+1]!):=by rw[aVx,aVx]
     have hbub:qS (j+1) T=if T[j+1]! < T[j]! then qS j ((T.set (j+1) T[j]!).set j T[j+1]!)else T:=rfl
     have hTl:((T.set (j+1) T[j]!).set j T[j+1]!).length=n:=by simp[h2]
     rw[hbub]at h3;generalize(T.set (j+1) T[j]!).set j T[j+1]! = T2 at *;have hwJ:Ah.wrap (((j+1:Nat):Int)-1)=j:=by rw[show((j+1:Nat):Int)-1=(j:Int)from by omega];exact hw0
     have hwJ0:Ah.wrap ((j+1:Nat):Int)=((j+1:Nat):Int):=aP;have hJ0:0<j+1:=by omega
     have hJj:¬j+1=j:=by omega
     generalize T[j+1]! = x at *;generalize T[j]! = y at *;obtain⟨DT,hDT⟩:∃DT,dzI T=DT:=⟨_,rfl⟩;rw[hDT]at ha hb ha' hb' hdl hset ⊢;obtain⟨J,hJ⟩:∃J,j+1=J:=⟨_,rfl⟩;have hJlt:j<J:=by omega
     simp only[hJ]at *;have hJ1:J+1<=n:=by omega
     have hJ2:j+1<=n:=by omega
     have hJ3:J<=n:=by omega
     have e1:lay (DT.map AV.d) J [.d (.i .i64 y)]=(DT.set J (.i .i64 y)).map .d:=eQ _ _ _ (by omega);have e2:lay ((DT.set J (.i .i64 y)).map AV.d) j [.d (.i .i64 x)]=(dzI T2).map .d:=by rw[eQ _ _ _ (by rw[CB];omega),hset]
     have e3:lay ((DT.map AV.d).set J (.d (.i .i64 y))) j [.d (.i .i64 x)]=(dzI T2).map .d:=by rw[<-e2,Fv]
     by_cases hxy:x<y
     ·rw[Aq hxy]at h3;rw[B4 hxy]at hL;simp[-I,-O,↓KW,ha,ha',hb,hb',hw0,hwJ,hwJ0,hJ0,hdl,h2,hjn,hjn'];refine aC hL ?_;simp[-I,-O,↓KW,ha,ha',hb,hb',hw0,hwJ,hwJ0,hJ0,hdl,h2,hjn,hjn',hJ1,hJ2,hJ3,e1,e2,e3];refine aI (j,T2) ⟨by omega,hTl,h3⟩ (by show j<j+1;omega) ?_;show ∃ρ,Wk _ (StL _ _ _) ρ;refine yI ?_ ?_<;>simp[-I,upd,aL,Γ0,e3]
     ·rw[Ai hxy]at h3;rw[Bs hxy]at hL;simp[-I,-O,↓KW,ha,ha',hb,hb',hw0,hwJ,hwJ0,hJ0,hdl,h2,hjn,hjn'];refine aC hL ?_;simp[-I,-O,↓KW,ha,ha',hb,hb',hw0,hwJ,hwJ0,hJ0,hdl,h2,hjn,hjn'];subst h3;refine aS ?_;simp[-I,-O,↓KW,hs1];refine aI (k+1) (by omega) (by show n-(k+1)<n-k;omega) ?_;show ∃ρ,Wk _ (StL _ _ _) ρ;rw[hRR];refine yI ?_ ?_<;>simp[-I,upd,aL,Γ0,hDT]
  ·have hk1:k+1=l.length:=by omega
   have hsr:dC l=jY l k:=by unfold dC;rw[show l.length-1=k from by omega]
   rw[hsr];have hs:rZ k=(l.length:Int):=by unfold rZ;omega
   rw[hs];simp[-I,-O,↓KW];exact aS (by simp[-I,-O,↓KW,gZ])
def cEp[M:Mch Aa](l:List Int)(r:Int)(hl:l.length<=12):kL Aa 101 (.own 0 0 l.length 1) (.cells 3 ((dzI l).map .d)) [.i .i64 0,.i .i64 l.length,.i .i64 r] (.cells 3 ((dzI (dC l)).map .d)) (.tp []):=by
 have hI:=cFb l (by omega);have hlen:(dzI (dC l)).length=(dzI l).length:=by rw[eR,eR];exact eF l _
 have hno1:=nX 3 l;have hno2:=nX 3 (dC l);have hw0:Ah.wrap (l.length:Int)=l.length:=aP;have hle:(l.length:Int)<=12:=by omega
 refine gP (N:=134) aR Tryz.func101 rfl rfl rfl (by kernel_rfl) (by kernel_rfl) (by simp) hno2 ?_;generalize dC l=T at *;generalize l.length=n at *;generalize dzI T=DT at *;generalize dzI l=DL at *;simp[-I,-O,↓KW,St1];refine eD 1 ?_;simp[-I,-O,↓KW,↓aE,↓aA,↓aF,↓aG,hw0,hl,hle];refine nE (by simp) ?_;refine iT (id:=0) (h:=.own 0 0 n 1) (by rfl) hno1 (by rfl) (by rfl) hI (by simp[HO.len,hlen]) hno2 ?_;simp[-I,-O,↓KW,gZ]
def cDo[M:Mch Aa](n:Nat)(hn:n<=12):∃r,Spec Aa 81 [.i .u64 n] (.i .i64 r):=by
 have h:((AN 13).all λn=>match(kJ Aa EP 100 20).call 81 [.i .u64 (n:Nat)]with|some (.i .i64 r)=>true|_=>false)=true:=by kernel_rfl
 have:=A3.1 h n (Cr.2 (by omega));split at this
 ·rename_i r hr;exact⟨r,fK hr⟩
 ·cases this
def cBy[M:Mch Aa](l:List Int)(hl:l.length<=12):kL Aa 54 (.own 0 0 l.length 1) (.cells 3 ((dzI l).map .d)) [] (.cells 3 ((dzI (dC l)).map .d)) (.tp []):=by
 obtain⟨r,hB⟩:=cDo l.length hl;have hI:=cEp l r hl;have hlen:(dzI (dC l)).length=(dzI l).length:=by rw[eR,eR];exact eF l _
 have hno1:=nX 3 l;have hno2:=nX 3 (dC l);have hw0:AB.wrap (l.length:Int)=l.length:=wrap_u64 (by omega) (by omega);refine gP (N:=11) aR Tryz.func54 rfl rfl rfl (by kernel_rfl) (by kernel_rfl) (by simp) hno2 ?_;generalize dC l=T at *;generalize l.length=n at *;generalize dzI T=DT at *;generalize dzI l=DL at *;simp[-I,-O,↓KW,St1,hw0];refine aC hB ?_;simp[-I,-O,↓KW,St1,hw0];refine nE (by simp) ?_;refine iT (id:=0) (h:=.own 0 0 n 1) (by rfl) hno1 (by rfl) (by rfl) hI (by simp[HO.len,hlen]) hno2 ?_;simp[-I,-O,↓KW,gZ]
def bXv[M:Mch Aa]:Spec Aa 54 [.sl []] (.tp []):=fK (by kernel_rfl)
end Go.Am
end
