/- The law WorkersPrimes answers true, given its check's contract. No condition. -/
import Derived.Test.YtdgdlndhaecliaaGreatC5
import Derived.Conc.WgArith
import Derived.Conc.CrowdRun
import Derived.Test.YtdgdlndhaecliaaGreatC4
import Derived.Test.YtdgdlndhaecliaaGreatC3
import Derived.Test.YtdgdlndhaecliaaGreatProg
import Derived.Conc.WgGenDone
set_option linter.all false
set_option maxHeartbeats 8000000
set_option maxRecDepth 100000
open Array renaming ext_getElem?->Gb,getD_eq_getD_getElem?->Au,getElem?_append_left->B3,getElem?_eq_getElem->Al,getElem?_eq_none->Dp,getElem?_eq_some_iff->AX,getElem?_map->BU,getElem?_push->Bx,getElem?_push_lt->FA,getElem?_setIfInBounds_ne->AF,getElem?_setIfInBounds_self_of_lt->BT,mem_append->Dy,mem_of_getElem?->BZ,replicate->AY
open Bool renaming false_eq_true->Ae
open Classical renaming byContradiction->E9
open Go.Act renaming eval->Dk,put->C6
open Go.Conc renaming mem_ofEvents->BH
open Go.ConcN renaming Deaf_still->FL,Mode->En,bk_rw->Gy,cnt->Cb,upd->Bd,upd_ne->Bh,upd_same->Bb
open Go.ConcN.Mode renaming retag->E8
open Go.ConcR renaming g_of_ofEvents->EH
open Go.Event renaming mute->Em
open Go.Frame renaming enter->C5
open Go.GStep renaming after->Cw
open Go.Instr renaming indexAt->Ff
open Go.IntKind renaming i64->Ah,u32->BI,u64->AB,wrap_u64->EA
open Go.MemAct renaming ofEvent->Be,touch?->BE
open Go.MemOp renaming ofEvents->BS
open Go.Proofs.Tryz renaming f27->Dr,prog->Aa,zeroValue119->Gz
open Go.Region renaming wanted->Bu
open Go.Sem renaming bind->Er,runT->EJ,runT_eq->Dh
open Go.Trace renaming g?->Gh
open Go.Value renaming cells->Ed,oneCell'->CC
open Go.World renaming cell?->BA,frozen?->Dn,setCell->Fe
open List renaming forall_mem_cons->EY,getD_eq_getElem?_getD->Ac,getElem?_eq_getElem->Ab,getElem?_eq_some_iff->Ao,getElem?_map->Ag,getElem?_range->Bq,length_cons->Ak,length_nil->Aw,length_take->AZ,map_congr_left->CP,map_cons->BO,mem_cons->Bn,mem_map->AM,mem_of_getElem?->Aj,mem_range'_1->Gw,mem_singleton->BQ,range->AN,range'->Du,size_toArray->Ar
open List.range renaming loop->AG
open Nat renaming div_eq_of_lt->Di,le_refl->Ay,le_trans->AR,lt_of_lt_of_le->A6,lt_or_ge->A4,lt_trans->F0,mul_comm->B5,mul_le_mul_right->B9,reduceAdd->AP,zero_add->AA
open Ne renaming symm->Eo
open Option renaming getD_some->AT,map_eq_some_iff->Af,map_some->AU
open Option.some renaming inj->Bm,injEq->Ax
open Prod.Lex renaming left->Fh,right->Gi
open _root_ renaming decide_eq_false->Bs,decide_eq_true->B4,if_false->Az,if_neg->Ai,if_true->AH
section
open List renaming map_map->E,mapM_map->J
namespace Go.Am
open Go.Conc Go.ConcR.Gen Go.Conc.Lib Go.RowKit Go.ConcR
open Go
def cP(ty:TypeId)(Wg:Nat)(w:World):Prop:=∃st sm,w.heap[Wg]? = some (wgBlock ty st sm)
def cP.cell0{ty:TypeId}{Wg:Nat}{w:World}(h:cP ty Wg w):∃v,w.cell? ⟨Wg,0,none⟩=some v:=by obtain⟨st,sm,h⟩:=h;exact⟨.int .u64 st,by simp[BA,h,wgBlock]⟩
def cP.cell1{ty:TypeId}{Wg:Nat}{w:World}(h:cP ty Wg w):∃v,w.cell? ⟨Wg,1,none⟩=some v:=by obtain⟨st,sm,h⟩:=h;exact⟨.int .u32 sm,by simp[BA,h,wgBlock]⟩
def noE:Event->Prop:=λ_=>False
section
variable (P:Program) (L:WgLink) (Wg:Nat)
def bWn(d:Nat)(g:Goroutine):Prop :=
 d=1/\g.status=.running/\mayWake P g=true/\∀w,w.heap[Wg]? = some (wgBlock L.tWg 0 0)->∃g',stepG P false g w=.go g' (w.setCell (smA Wg) (.int .u32 1)) (semEvents (smA Wg))/\∃q,QuitsD P q d g'
def bMt(d:Nat)(g:Goroutine):Prop :=
 d=1/\g.status=.running/\∀w,w.heap[Wg]? = some (wgBlock L.tWg 1 0)->∃g',stepG P false g w=.go g' (w.setCell (stA Wg) (.int .u64 0)) #[wr (stA Wg)]/\Dl P false (cP L.tWg Wg) noE (bWn P L Wg) d g'
def bMu(d:Nat)(g:Goroutine):Prop :=
 d=1/\g.status=.running/\∀w,w.heap[Wg]? = some (wgBlock L.tWg 1 0)->∃g',stepG P false g w=.go g' w #[rd (stA Wg)]/\Dl P false (cP L.tWg Wg) noE (bMt P L Wg) d g'
def bWm(d:Nat)(g:Goroutine):Prop :=
 g.status=.running/\∀(w:World) (v wt:Nat),wt<=1->v<2147483647->w.heap[Wg]? = some (wgBlock L.tWg (((v:Int)+1)*KK+wt) 0) ->
  ∃g',stepG P false g w=.go g' (w.setCell (stA Wg) (.int .u64 ((v:Int)*KK+wt))) #[rd (stA Wg),wr (stA Wg)] /\
   ((v=0/\wt=1)->Dl P false (cP L.tWg Wg) noE (bMu P L Wg) d g')/\(¬(v=0/\wt=1)->∃q,QuitsD P q d g')
def xQ(d:Nat)(g:Goroutine):Prop :=
 g.status=.running/\d=0/\∃g',(∀w,cP L.tWg Wg w->stepG P false g w=.go g' w #[mk (.releaseMerge (stA Wg))])/\Dl P false (cP L.tWg Wg) noE (λd g=>d=1/\bWm P L Wg d g) 0 g'
end
def dK(Wg:Nat)(e:Event):Prop:=e=⟨.mark (.read (smA Wg)),false,true⟩\/e=⟨.mark (.write (smA Wg)),false,true⟩
section
variable (P:Program) (L:WgLink) (Wg:Nat)
def aGv(K:Nat->Goroutine->Prop)(d:Nat)(g:Goroutine):Prop :=
 g.status=.running/\∀(w:World) (v:Nat),v<2147483647->w.heap[Wg]? = some (wgBlock L.tWg ((v:Int)*KK) 0) ->
  ∃g',stepG P true g w=.go g' (w.setCell (stA Wg) (.int .u64 (((v:Int)+1)*KK))) #[rd (stA Wg),wr (stA Wg)]/\Dl P true (cP L.tWg Wg) (dK Wg) K d g'
end
section
variable (P:Program) (L:WgLink) (Wg:Nat) (K:Goroutine->Prop)
def bMv(d:Nat)(g:Goroutine):Prop :=
 d=0/\g.status=.running/\∃g',(∀w,cP L.tWg Wg w->stepG P true g w=.go g' w #[mk (.acquire (stA Wg))])/\Dl P true (λ_=>True) noE (λd g=>d=0/\K g) 0 g'
def bWp(d:Nat)(g:Goroutine):Prop :=
 g.status=.running/\∀w,w.heap[Wg]? = some (wgBlock L.tWg 0 0)->∃g',stepG P true g w=.go g' w #[rd (stA Wg)]/\Dl P true (cP L.tWg Wg) (dK Wg) (bMv P L Wg K) d g'
def aTm(d:Nat)(g:Goroutine):Prop :=
 g.status=.running/\g.offers=none/\(∀w st,w.heap[Wg]? = some (wgBlock L.tWg st 0)->stepG P true g w=.go { g with status:=.blocked } w #[]) /\
  ∀w,w.heap[Wg]? = some (wgBlock L.tWg 0 1)->∃g',stepG P true g w=.go g' (w.setCell (smA Wg) (.int .u32 0)) (semEvents (smA Wg))/\Dl P true (cP L.tWg Wg) (dK Wg) (bWp P L Wg K) d g'
def aWo(An:Goroutine->Prop)(vs:Nat)(d:Nat)(g:Goroutine):Prop :=
 g.status=.running/\∀(w:World) (v:Nat),v<2147483648->w.heap[Wg]? = some (wgBlock L.tWg ((v:Int)*KK) 0) ->
  (v=vs->∃g',stepG P true g w=.go g' (w.setCell (stA Wg) (.int .u64 ((v:Int)*KK+1))) #[rd (stA Wg),wr (stA Wg)]/\Dl P true (cP L.tWg Wg) (dK Wg) (aTm P L Wg K) d g') /\
  (v≠vs->∃g',stepG P true g w=.go g' w #[rd (stA Wg)]/\Dl P true (cP L.tWg Wg) (dK Wg) (λd' g=>d'=d/\An g) d g')
def yW(An:Goroutine->Prop)(d:Nat)(g:Goroutine):Prop :=
 g.status=.running/\∀(w:World) (v:Nat),v<2147483648->w.heap[Wg]? = some (wgBlock L.tWg ((v:Int)*KK) 0) ->
  ∃g',stepG P true g w=.go g' w #[rd (stA Wg)]/\(v=0->Dl P true (cP L.tWg Wg) (dK Wg) (bMv P L Wg K) d g')/\(v≠0->Dl P true (cP L.tWg Wg) (dK Wg) (λd' g=>d'=d/\aWo P L Wg K An v d' g) d g')
def aDp(c:Frame)(cs:List Frame)(g:Goroutine):Prop :=
 ∃T:Array Value,g=G ((base L.wait).at ⟨T,[]⟩ [.code (L7 L),.inLoop (L7 L),.inBlock 0]) (c::cs)/\T.size=84/\T[0]? = some (.pointer (some ⟨Wg,0,none⟩))
end
end Go.Am
end
section
open List renaming map_map->E,mapM_map->J
namespace Go.Am
open Go.Conc
open Go.ConcN (CT Apart Ok0 OkW PermW)
open Go.ConcR (stA smA)
structure Pl where
 C:Nat
 wd:Nat
 n:Nat
 ety:TypeId
 val:Nat->Nat->Value
 pos:0<wd
 tot:Nat
 le:n*wd<=tot
def Pl.cell(p:Pl)(i r:Nat):Addr:=⟨p.C,i*p.wd+r,none⟩
def oD:Loc->Option Nat
 |.cell a=>some a.block
 |.obj r=>some r
 |_=>none
section
variable (p:Pl) (m j:Nat) (V:Nat->World)
def tQ(k:Nat)(l:Loc):Prop:=m<=k/\k<m+j/\((∃b,oD l=some b/\Unf (V k) b)\/∃r,r<p.wd/\l=.cell (p.cell (k-m) r))
def RdF(k:Nat)(l:Loc):Prop:=m<=k/\k<m+j/\∃(a:Addr) (c:Array Value) (t:TypeId),l=.cell a/\(V k).heap[a.block]? = some (.cells c t (0,c.size))/\a.off<c.size
end
def gV(m j k:Nat):Prop:=k=0\/(m<=k/\k<m+j)
def vU{p:Pl}{m j:Nat}{V:Nat->World}{w:World}{S:Nat->Prop}(hv:Vws (gV m j) V w)(hm:1<=m)(hC:∀k,gV m j k->(V k).heap[p.C]? = some hole)(hS:∀k,gV m j k->∀b,S b->(V k).heap[b]? = some hole)(hCS:¬S p.C) :
  Apart (dE S) (tQ p m j V) (RdF m j V) where
 own k k' l h h':=by
  obtain⟨a1,a2,h⟩:=h;obtain⟨b1,b2,h'⟩:=h';by_cases hne:k=k'
  ·exact hne
  rcases h with ⟨b,e,hu⟩|⟨r,hr,e⟩<;>rcases h' with ⟨b',e',hu'⟩|⟨r',hr',e'⟩
  ·rw[e]at e';obtain rfl:=Bm e';exact absurd hu' (kR (hv.dis k k' (.inr ⟨a1,a2⟩) (.inr ⟨b1,b2⟩) hne b hu))
  ·subst e';simp only[oD,Ax,Pl.cell]at e;subst e;exact absurd hu (kR (hC k (.inr ⟨a1,a2⟩)))
  ·subst e;simp only[oD,Ax,Pl.cell]at e';subst e';exact absurd hu' (kR (hC k' (.inr ⟨b1,b2⟩)))
  ·subst e;simp only[Pl.cell,Loc.cell.injEq,Addr.mk.injEq,and_true,true_and]at e';have h1:(r+p.wd*(k-m))/p.wd=k-m:=by rw[Nat.add_mul_div_left _ _ (by omega),Di hr];omega
   have h2:(r'+p.wd*(k'-m))/p.wd=k'-m:=by rw[Nat.add_mul_div_left _ _ (by omega),Di hr'];omega
   have h3:r+p.wd*(k-m)=r'+p.wd*(k'-m):=by rw[B5,B5 p.wd];omega
   rw[h3,h2]at h1;omega
 ownRd k k' l h h':=by
  obtain⟨a1,a2,h⟩:=h;obtain⟨b1,b2,a,c,t,rfl,hw,hlt⟩:=h';rcases h with ⟨b,e,hu⟩|⟨r,hr,e⟩
  ·simp only[oD,Ax]at e;subst e;by_cases hne:k=k'
   ·subst hne;exact qW.not_unf ⟨c,t,hw⟩ hu
   ·have:=hv.dis k k' (.inr ⟨a1,a2⟩) (.inr ⟨b1,b2⟩) hne _ hu;rw[hw]at this;injection this with this;injection this with e1 _ _;subst e1;simp at hlt
  ·injection e with e;subst e
   rw[show(p.cell (k-m) r).block=p.C from rfl,hC k' (.inr ⟨b1,b2⟩)]at hw;injection hw with hw;injection hw with e1 _ _;subst e1;simp at hlt
 ownSh k l h hs:=by
  obtain⟨a1,a2,h⟩:=h;cases l with
  | cell a =>
   rcases h with ⟨b,e,hu⟩|⟨r,hr,e⟩
   ·simp only[oD,Ax]at e;subst e;exact kR (hS k (.inr ⟨a1,a2⟩) _ hs) hu
   ·injection e with e;subst e;exact hCS hs
  |_=>exact hs
 rdSh k l h hs:=by obtain⟨b1,b2,a,c,t,rfl,hw,hlt⟩:=h;rw[hS k (.inr ⟨b1,b2⟩) _ hs]at hw;injection hw with hw;injection hw with e1 _ _;subst e1;simp at hlt
def xM(t:Trace)(l:Loc):Prop:=∀i a,touchAt t i=some a->a.loc≠l
def aEr{x:MemAct}{B:Nat}{a:Touch}(h:x.low B)(ha:x.touch? = some a):a.loc.low B:=by
 cases x with
 |access e=>simp only[BE,Ax]at ha;subst ha;exact h
 |mark mk=>cases mk<;>simp[BE]at ha<;>subst ha<;>exact h
 |_=>simp[BE]at ha
def tV{t:Trace}{B:Nat}(h:∀op∈t,op.act.low B){l:Loc}{b:Nat}(hl:oD l=some b)(hb:B<=b):xM t l:=by intro i a ha e;obtain⟨op,hop,hoa⟩:=touch_of ha;have:=aEr (h op (BZ hop)) hoa;rw[e]at this;cases l<;>simp[oD]at hl<;>subst hl<;>simp only[Loc.low]at this<;>omega
def CT.grow{Sh:Loc->Prop}{Own Own' Rd Rd':Nat->Loc->Prop}{t:Trace}{j:Nat}(h:CT Sh Own Rd t j)(ho:∀k l,1<=k->k<=j->Own k l->Own' k l)(hr:∀k l,1<=k->k<=j->Rd k l->Rd' k l)
  (hf:∀k l,1<=k->k<=j->Own' k l->Own k l\/xM t l) (hg:∀k l,1<=k->k<=j->Rd' k l->Rd k l\/xM t l):CT Sh Own' Rd' t j where
 quiet:=h.quiet
 own k h1 h2 l hl:=by
  rcases hf k l h1 h2 hl with h3|h3
  ·exact h.own k h1 h2 l h3
  ·exact λi a ha e=>(h3 i a ha e).elim
 rd k h1 h2 l hl:=by
  rcases hg k l h1 h2 hl with h3|h3
  ·exact h.rd k h1 h2 l h3
  ·exact λi a ha e _=>(h3 i a ha e).elim
 free l hs hn:=h.free l hs λk h1 h2=>⟨λx=>(hn k h1 h2).1 (ho k l h1 h2 x),λx=>(hn k h1 h2).2 (hr k l h1 h2 x)⟩
 mine l hs hn:=h.mine l hs λk h1 h2 x=>hn k h1 h2 (ho k l h1 h2 x)
 nr:=h.nr
 gs:=h.gs
def aCo{p:Pl}{m j N:Nat}{V V':Nat->World}{t:Trace}{S:Nat->Prop}{B:Nat}(h:CT (dE S) (tQ p m j V) (RdF m j V) t N)(hB:∀op∈t,op.act.low B)(hsz:∀k,m<=k->k<m+j->(V k).heap.size=B)(hO:∀k,m<=k->k<m+j->dL (V k) (V' k)) :
  CT (dE S) (tQ p m j V') (RdF m j V') t N:=by
 refine CT.grow h (λk l _ _ ⟨a1,a2,hl⟩=>⟨a1,a2,?_⟩) (λk l _ _ ⟨a1,a2,a,c,ty,e,hw,hlt⟩=>⟨a1,a2,a,c,ty,e,?_,hlt⟩) (λk l _ _ ⟨a1,a2,hl⟩=>?_) (λk l _ _ ⟨a1,a2,a,c,ty,e,hw,hlt⟩=>?_)
 ·rcases hl with ⟨b,e,hu⟩|hl
  ·exact .inl ⟨b,e,((hO k a1 a2).unf b (let ⟨_,ho,_⟩:=hu;bF ho)).2 hu⟩
  ·exact .inr hl
 ·exact((hO k a1 a2).whole _ c ty (bF hw)).2 hw
 ·rcases hl with ⟨b,e,hu⟩|hl
  ·rcases A4 b B with hlt|hge
   ·exact .inl ⟨a1,a2,.inl ⟨b,e,((hO k a1 a2).unf b (by rw[hsz k a1 a2];exact hlt)).1 hu⟩⟩
   ·exact .inr (tV hB e hge)
  ·exact .inl ⟨a1,a2,.inr hl⟩
 ·rcases A4 a.block B with hlt'|hge
  ·exact .inl ⟨a1,a2,a,c,ty,e,((hO k a1 a2).whole _ c ty (by rw[hsz k a1 a2];exact hlt')).1 hw,hlt⟩
  ·exact .inr (tV hB (by rw[e];rfl) hge)
def bRa{p:Pl}{m j k:Nat}{V:Nat->World}{S:Nat->Prop}(hk:m<=k)(hkj:k<m+j){e:Event}(h:EvV (V k) e)(fn:FuncId)(pos:String):OkW (dE S) (tQ p m j V) (RdF m j V) k { g:=k,fn,pos,act:=.ofEvent e }:=by
 refine⟨rfl,λx hx=>?_⟩;obtain⟨loc,wr,sy⟩:=e;rcases h with ⟨a,c,t,f,h1,h2,h3,h4,h5⟩|⟨r,o,h1,h2,h3,h4,h5⟩|h
 ·simp only at h1 h2 h3 h5;subst h1;subst h2;simp[Be,BE]at hx;subst hx;by_cases hf:f=(0,c.size)
  ·subst hf;refine .inr (.inr ⟨⟨hk,hkj,a,c,t,rfl,h3,h4⟩,?_⟩);cases wr with
   |false=>rfl
   |true=>exact absurd rfl (h5 rfl)
  ·refine .inr (.inl ⟨hk,hkj,.inl ⟨a.block,rfl,_,h3,λc2 t2 e=>?_⟩⟩);injection e with e1 e2 e3;subst e1;exact hf e3
 ·simp only at h1 h2 h3;subst h1;subst h2;simp[Be,BE]at hx;subst hx;exact .inr (.inl ⟨hk,hkj,.inl ⟨r,rfl,o,h3,λc t=>h4 c t _⟩⟩)
 ·injection h with e1 e2 e3;subst e1;subst e2;subst e3
  simp[Be,BE]at hx
def bRb{p:Pl}{m j N:Nat}{V:Nat->World}{w:World}{S:Nat->Prop}(hv:Vws (gV m j) V w)(hm:1<=m)(hC:(V 0).heap[p.C]? = some hole)(hS:∀b,S b->(V 0).heap[b]? = some hole){e:Event}(h:EvV (V 0) e)(fn:FuncId)(pos:String) :
  Ok0 (dE S) (tQ p m j V) (RdF m j V) N { g:=0,fn,pos,act:=.ofEvent e }:=by
 refine⟨rfl,λx hx=>?_⟩
 obtain⟨loc,wr,sy⟩:=e
 have key:∀k b,m<=k->k<m+j->∀o,(V 0).heap[b]? = some o->o≠hole->¬Unf (V k) b:=λk b h1 h2 o ho hne hu=>by have:=hv.dis k 0 (.inr ⟨h1,h2⟩) (.inl rfl) (by omega) b hu;rw[ho]at this;exact hne (Bm this)
 rcases h with ⟨a,c,t,f,h1,h2,h3,h4,h5⟩|⟨r,o,h1,h2,h3,h4,h5⟩|h
 ·simp only at h1 h2 h3 h5;subst h1;subst h2
  simp[Be,BE]at hx;subst hx
  have hne:Obj.cells c t f≠hole:=by intro e;injection e with e1 _ _;subst e1;simp at h4
  refine .inr ⟨λhs=>?_,λk _ _ ⟨a1,a2,ho⟩=>?_,λhw k _ _ ⟨a1,a2,a',c',t',e,hw',hlt⟩=>?_⟩
  ·rw[hS a.block hs]at h3;exact hne (Bm h3).symm
  ·rcases ho with ⟨b,e,hu⟩|⟨r,hr,e⟩
   ·simp only[oD,Ax]at e;subst e
    exact key k _ a1 a2 _ h3 hne hu
   ·injection e with e;subst e
    rw[show(p.cell (k-m) r).block=p.C from rfl,hC]at h3;exact hne (Bm h3).symm
  ·injection e with e;subst e
   have hu:Unf (V 0) a.block:=⟨_,h3,λc2 t2 e=>by injection e with e1 e2 e3;subst e1;exact h5 hw e3⟩
   have:=hv.dis 0 k (.inl rfl) (.inr ⟨a1,a2⟩) (by omega) _ hu
   rw[hw']at this;injection this with this;injection this with e1 _ _;subst e1;simp at hlt
 ·simp only at h1 h2 h3;subst h1;subst h2
  simp[Be,BE]at hx;subst hx
  have hne:o≠hole:=λe=>h4 _ _ _ e
  refine .inr ⟨λhs=>hs.elim,λk _ _ ⟨a1,a2,ho⟩=>?_,λhw k _ _ ⟨a1,a2,a',c',t',e,_⟩=>by cases e⟩
  rcases ho with ⟨b,e,hu⟩|⟨r',hr,e⟩
  ·simp only[oD,Ax]at e;subst e
   exact key k _ a1 a2 _ h3 hne hu
  ·cases e
 ·injection h with e1 e2 e3;subst e1;subst e2;subst e3
  simp[Be,BE]at hx
def aVd{v:World}{B:Nat}(hB:v.heap.size<=B){e:Event}(h:EvV v e):(Be e).low B:=by exact(oK (S:=λ_=>False) (λ_ x=>x.elim) hB h).2.2.2
end Go.Am
end
section
open List renaming map_map->E,mapM_map->J
namespace Go.Am
open Go.Conc Go.Conc.Lib
open Go.ConcN (CT Apart Ok0 OkW PermW RelBy CTag phi Mode WD Vc Ssum sumTo upd upd_same upd_ne)
open Go.ConcR (KK wgBlock stA smA rd wr mk)
section
variable (P:Program) (L:WgLink) (Wg:Nat) (p:Pl)
def bBj(w:World):Prop:=∃(cs:Array Value) (f:Nat×Nat),w.heap[p.C]? = some (.cells cs p.ety f)/\cs.size=p.tot/\(cs.size≠0->f=(0,0))
structure cDv(i:Nat)(w w':World):Prop where
 tape:w'.tape=w.tape
 os:w'.os=w.os
 output:w'.output=w.output
 size:w'.heap.size=w.heap.size
 block:∀b,b≠p.C->w'.heap[b]? = w.heap[b]?
 pay:bBj p w'
 cells:∀o,(o<i*p.wd\/(i+1)*p.wd<=o)->w'.cell? ⟨p.C,o,none⟩=w.cell? ⟨p.C,o,none⟩
 new:∀r,r<p.wd->w'.cell? (p.cell i r)=some (p.val i r)
def bWo(i:Nat)(d:Nat)(g:Goroutine):Prop :=
 d=0/\g.status=.running/\∀w,bBj p w->∃g' w' es,stepG P false g w=.go g' w' es/\cDv p i w w'/\(∀e∈es,∃r,r<p.wd/\e=⟨.cell (p.cell i r),true,false⟩)/\Dl P false (cP L.tWg Wg) noE (xQ P L Wg) 0 g'
abbrev GTw(i:Nat):=GT P false (λ_=>True) noE (λd g _=>bWo P L Wg p i d g)
inductive WS(i:Nat):Nat->Tr->Nat->Goroutine->World->Prop
 |work {tr:Tr} {d:Nat} {g:Goroutine} {v:World}:GTw P L Wg p i tr d g v->WS i 7 tr d g v
 |rel {n d:Nat} {g:Goroutine} {v:World}:DlN P false (cP L.tWg Wg) noE (xQ P L Wg) n d g->WS i 6 (Tr.nat n) d g v
 |sub {n d:Nat} {g:Goroutine} {v:World}:DlN P false (cP L.tWg Wg) noE (λd g=>d=1/\bWm P L Wg d g) n d g->WS i 5 (Tr.nat n) d g v
 |look {n d:Nat} {g:Goroutine} {v:World}:DlN P false (cP L.tWg Wg) noE (bMu P L Wg) n d g->WS i 4 (Tr.nat n) d g v
 |zero {n d:Nat} {g:Goroutine} {v:World}:DlN P false (cP L.tWg Wg) noE (bMt P L Wg) n d g->WS i 3 (Tr.nat n) d g v
 |sem {n d:Nat} {g:Goroutine} {v:World}:DlN P false (cP L.tWg Wg) noE (bWn P L Wg) n d g->WS i 2 (Tr.nat n) d g v
 |quit {n d:Nat} {g:Goroutine} {v:World}:QuitsD P n d g->WS i 1 (Tr.nat n) d g v
abbrev GTm(Stop:Nat->Goroutine->World->Prop):=GT P true (cP L.tWg Wg) (dK Wg) Stop
def bBn(i:Nat)(Next:Goroutine->World->Prop)(d:Nat)(g:Goroutine)(v:World):Prop :=
 d=0/\g.status=.running/\∀v1,Env v v1->∃g' child,(∀w,Sim v1 w->cP L.tWg Wg w->stepG P true g w=.spawn g' child w #[])/\child.status=.running/\(∃tr,GTw P L Wg p i tr 0 child (jI v1))/\Next g' (jI v1)
def aWh(i:Nat)(Next:Goroutine->World->Prop)(d:Nat)(g:Goroutine)(v:World):Prop :=
 d=1/\aGv P L Wg (λd' g'=>∀v1,Env v v1->OkV v1->∃tr,GTm P L Wg (bBn P L Wg p i Next) tr d' g' v1) d g
variable (K An:Goroutine->Prop)
def aPa(d:Nat)(g:Goroutine)(_:World):Prop:=d=1/\yW P L Wg K An d g
def sO:Nat->Goroutine->World->Prop
 |0,g,v=>∃tr,GTm P L Wg (aPa P L Wg K An) tr 0 g v
 |r+1,g,v=>∃tr,GTm P L Wg (aWh P L Wg p (p.n-(r+1)) (sO r)) tr 0 g v
inductive CS:CTag->Nat->Tr->Nat->Goroutine->World->Prop
 |a1 {r:Nat} {tr:Tr} {d:Nat} {g:Goroutine} {v:World}:r<p.n->GTm P L Wg (aWh P L Wg p (p.n-(r+1)) (sO P L Wg p K An r)) tr d g v->CS (.sp r 4) (p.n-(r+1)) tr d g v
 |go {r:Nat} {tr:Tr} {d:Nat} {g:Goroutine} {v:World}:r<p.n->GTm P L Wg (bBn P L Wg p (p.n-(r+1)) (sO P L Wg p K An r)) tr d g v->CS (.sp r 3) (p.n-(r+1)) tr d g v
 |w1 {tr:Tr} {d:Nat} {g:Goroutine} {v:World}:GTm P L Wg (aPa P L Wg K An) tr d g v->CS .w1 p.n tr d g v
 |w2 {vs n d:Nat} {g:Goroutine} {v:World}:DlN P true (cP L.tWg Wg) (dK Wg) (λd g=>d=1/\aWo P L Wg K An vs d g) n d g->CS (.w2 vs) p.n (Tr.nat n) d g v
 |w3 {n d:Nat} {g:Goroutine} {v:World}:DlN P true (cP L.tWg Wg) (dK Wg) (aTm P L Wg K) n d g->CS .w3 p.n (Tr.nat (n+1)) d g v
 |blk {r:Tr} {d:Nat} {g:Goroutine} {v:World}:aTm P L Wg K d g->CS .blk p.n r d { g with status:=.blocked } v
 |w4 {n d:Nat} {g:Goroutine} {v:World}:DlN P true (cP L.tWg Wg) (dK Wg) (bWp P L Wg K) n d g->CS .w4 p.n (Tr.nat n) d g v
 |acq {n d:Nat} {g:Goroutine} {v:World}:DlN P true (cP L.tWg Wg) (dK Wg) (bMv P L Wg K) n d g->CS .acq p.n (Tr.nat n) d g v
 |ret {n d:Nat} {g:Goroutine} {v:World}:DlN P true (λ_=>True) noE (λd g=>d=0/\K g) n d g->CS .ret p.n (Tr.nat n) d g v
end
section
variable {P:Program} {L:WgLink} {Wg:Nat} {p:Pl} {K An:Goroutine->Prop}
def GTw.env'{i:Nat}{tr:Tr}{d:Nat}{g:Goroutine}{v v1:World}(h:GTw P L Wg p i tr d g v)(he:Env v v1):GTw P L Wg p i tr d g v1:=GT.env (λ_ _ _ _ h _=>h) h he
def WS.env{i s d:Nat}{r:Tr}{g:Goroutine}{v v1:World}(h:WS P L Wg p i s r d g v)(he:Env v v1):WS P L Wg p i s r d g v1:=by
 cases h with
 |work h=>exact .work (h.env' he)
 |rel h=>exact .rel h
 |sub h=>exact .sub h
 |look h=>exact .look h
 |zero h=>exact .zero h
 |sem h=>exact .sem h
 |quit h=>exact .quit h
def aOs{i:Nat}{N:Goroutine->World->Prop}:bBm (bBn P L Wg p i N):=λ_ _ _ _ h he=>⟨h.1,h.2.1,λv2 he2=>h.2.2 v2 (he.trans he2)⟩
def aDf{K K':Nat->Goroutine->Prop}(hK:∀d g,K d g->K' d g){d:Nat}{g:Goroutine}(h:aGv P L Wg K d g):aGv P L Wg K' d g :=
 ⟨h.1,λw v hv hw=>let ⟨g',h1,h2⟩:=h.2 w v hv hw;⟨g',h1,h2.mono hK⟩⟩
def aEt{i:Nat}{N:Goroutine->World->Prop}:bBm (aWh P L Wg p i N):=λ_ _ _ _ h he=>⟨h.1,aDf (λ_ _ hk v2 he2 ho=>hk v2 (he.trans he2) ho) h.2⟩
def wH:bBm (aPa P L Wg K An):=λ_ _ _ _ h _=>h
def CS.env{tag:CTag}{j d:Nat}{r:Tr}{g:Goroutine}{v v1:World}(h:CS P L Wg p K An tag j r d g v)(he:Env v v1):CS P L Wg p K An tag j r d g v1:=by
 cases h with
 |a1 hr h=>exact .a1 hr (h.env aEt he)
 |go hr h=>exact .go hr (h.env aOs he)
 |w1 h=>exact .w1 (h.env wH he)
 |w2 h=>exact .w2 h
 |w3 h=>exact .w3 h
 |blk h=>exact .blk h
 |w4 h=>exact .w4 h
 |acq h=>exact .acq h
 |ret h=>exact .ret h
def DlN.run{main:Bool}{I:World->Prop}{Rm:Event->Prop}{K:Nat->Goroutine->Prop}(hK:∀d g,K d g->g.status=.running){n d:Nat}{g:Goroutine}(h:DlN P main I Rm K n d g):g.status=.running:=by
 rcases h.cases with h|⟨_,_,h,_⟩
 ·exact hK _ _ h
 ·exact h
def GT.run{main:Bool}{I:World->Prop}{Rm:Event->Prop}{Stop:Nat->Goroutine->World->Prop}(hK:∀d g v,Stop d g v->g.status=.running){tr:Tr}{d:Nat}{g:Goroutine}{v:World}(h:GT P main I Rm Stop tr d g v):g.status=.running:=by
 cases tr with
 |leaf=>exact hK _ _ _ h
 |node f=>exact h.1
def WS.status{i s d:Nat}{r:Tr}{g:Goroutine}{v:World}(h:WS P L Wg p i s r d g v):(g.status=.running)\/(g.status=.finished/\s=1):=by
 cases h with
 |work h=>exact .inl (h.run λ_ _ _ h=>h.2.1)
 |rel h=>exact .inl (h.run λ_ _ h=>h.1)
 |sub h=>exact .inl (h.run λ_ _ h=>h.2.1)
 |look h=>exact .inl (h.run λ_ _ h=>h.2.1)
 |zero h=>exact .inl (h.run λ_ _ h=>h.2.1)
 |sem h=>exact .inl (h.run λ_ _ h=>h.2.1)
 |quit h=>exact h.status.elim .inl λx=>.inr ⟨x,rfl⟩
def WS.woken{i s d:Nat}{r:Tr}{g:Goroutine}{v:World}(h:WS P L Wg p i s r d g v)(a a':Goroutine)(w':World):woken P a a' w' g=g:=by
 unfold Go.Conc.woken;split
 ·exact again_running _ (h.status.elim .inl λx=>.inr x.1)
 ·rfl
def CS.status(hK:∀g,K g->g.status=.running){tag:CTag}{j d:Nat}{r:Tr}{g:Goroutine}{v:World}(h:CS P L Wg p K An tag j r d g v):(g.status=.running/\tag≠.blk)\/(g.status=.blocked/\tag=.blk):=by
 cases h with
 |a1 hr h=>exact .inl ⟨h.run λ_ _ _ h=>h.2.1,by simp⟩
 |go hr h=>exact .inl ⟨h.run λ_ _ _ h=>h.2.1,by simp⟩
 |w1 h=>exact .inl ⟨h.run λ_ _ _ h=>h.2.1,by simp⟩
 |w2 h=>exact .inl ⟨h.run λ_ _ h=>h.2.1,by simp⟩
 |w3 h=>exact .inl ⟨h.run λ_ _ h=>h.1,by simp⟩
 |blk h=>exact .inr ⟨rfl,rfl⟩
 |w4 h=>exact .inl ⟨h.run λ_ _ h=>h.1,by simp⟩
 |acq h=>exact .inl ⟨h.run λ_ _ h=>h.2.1,by simp⟩
 |ret h=>exact .inl ⟨h.run λ_ _ h=>hK _ h.2,by simp⟩
def CS.wokenBy(hK:∀g,K g->g.status=.running){tag:CTag}{j d:Nat}{r:Tr}{a:Goroutine}{v:World}(h:CS P L Wg p K An tag j r d a v)(g g':Goroutine)(w':World) :
  ∃tag' r',CS P L Wg p K An tag' j r' d (woken P g g' w' a) v/\(tag'=tag\/(tag=.blk/\tag'=.w3))/\(mayWake P g=true->g'.status=.running->tag'≠.blk):=by
 unfold Go.Conc.woken
 split
 ·rcases h.status hK with ⟨hs,hne⟩|⟨_,rfl⟩
  ·exact⟨tag,r,by rw[again_running _ (.inl hs)];exact h,.inl rfl,λ_ _=>hne⟩
  ·cases h with
   | blk hb =>
    exact⟨.w3,Tr.nat (0+1),by rw[Go.ConcR.again_blocked hb.1 hb.2.1];exact .w3 (n:=0) hb,.inr ⟨rfl,rfl⟩,λ_ _=>by simp⟩
 ·rename_i hc
  exact⟨tag,r,h,.inl rfl,λh1 h2=>absurd (by simp[h1,h2]) hc⟩
end
end Go.Am
end
section
open List renaming map_map->E,mapM_map->J
namespace Go.Am
open Go.Conc Go.Conc.Lib
open Go.ConcN (CT Apart Ok0 OkW PermW RelBy CTag phi Mode WD Vc Ssum sumTo)
open Go.ConcR (KK wgBlock stA smA rd wr mk)
def ShW(S:Nat->Prop)(Wg b:Nat):Prop:=S b\/b=Wg
structure Com(P:Program)(L:WgLink)(Wg:Nat)(p:Pl)(S:Nat->Prop)(w0:World)(m j:Nat)(gs:Array Goroutine)(w:World)(t:Trace)(D:Nat->WD)(R:Nat->Tr)(V:Nat->World)(d0:Nat):Prop where
 mpos:1<=m
 size:gs.size=m+j
 wk:∀i,i<j->∃g,gs[m+i]? = some g/\WS P L Wg p i (D i).stage (R (m+i)) (D i).deaf g (V (m+i))
 old:∀i,0<i->i<m->∃g q,gs[i]? = some g/\R i=Tr.nat q/\QuitsD P q (Deaf t i) g
 above:∀i,m+j<=i->Deaf t i=0
 ct:CT (dE (ShW S Wg)) (tQ p m j V) (RdF m j V) t (m+j-1)
 norel:NoRelease (stA Wg) t
 deaf0:Deaf t 0=d0
 deafW:∀i,i<j->Deaf t (m+i)=(D i).deaf
 rel:∀i,i<j->(D i).stage<=5->∃r,RelBy (stA Wg) t (m+i) r
 has:∀i,i<j->(D i).stage<=6->∀r,r<p.wd->w.cell? (p.cell i r)=some (p.val i r)
 pay:bBj p w
 vws:Vws (gV m j) V w
 low:∀k,gV m j k->∀b,b<=Wg->qW (V k) b
 hC:∀k,gV m j k->(V k).heap[p.C]? = some hole
 hS:∀k,gV m j k->∀b,ShW S Wg b->(V k).heap[b]? = some hole
 stay:∀b,b<Wg->(b≠p.C\/p.tot=0)->w.heap[b]? = w0.heap[b]?
 like:w.tape=w0.tape/\w.os=w0.os/\w.output=w0.output
 kn:∀i a,touchAt t i=some a->Knows t 0 i\/(dE (ShW S Wg) a.loc/\a.kind=.atomic)\/((∃g,t.g? i=some g/\m<=g)/\a.kind≠.atomic)
 mem:∀i a,touchAt t i=some a->a.loc.isMemory=true
 over:∀i g,t.g? i=some g->g≠0->g<m->t.counts i->∃q,t.g? q=some 0/\HappensBefore t i q
 seen:∀op∈t,op.act.low w.heap.size
structure Geo(Wg:Nat)(p:Pl)(S:Nat->Prop):Prop where
 C:p.C<Wg
 S:¬S p.C
section
variable {P:Program} {L:WgLink} {Wg:Nat} {p:Pl} {S:Nat->Prop} {w0:World} {m j:Nat} {gs:Array Goroutine} {w w':World} {t u:Trace} {D:Nat->WD} {R:Nat->Tr} {V V':Nat->World} {d0:Nat}
def Com.apart(h:Com P L Wg p S w0 m j gs w t D R V d0)(G:Geo Wg p S):Apart (dE (ShW S Wg)) (tQ p m j V) (RdF m j V) :=
 vU h.vws h.mpos h.hC h.hS λhs=>hs.elim G.S λe=>by have:=G.C;omega
def aIw(h:∀i a,touchAt t i=some a->Knows t 0 i\/(dE (ShW S Wg) a.loc/\a.kind=.atomic)\/((∃g,t.g? i=some g/\m<=g)/\a.kind≠.atomic))
  (hu:∀op∈u,∀a,op.act.touch? = some a->op.g=0\/(dE (ShW S Wg) a.loc/\a.kind=.atomic)\/(m<=op.g/\a.kind≠.atomic)) :
  ∀i a,touchAt (t++u) i=some a->Knows (t++u) 0 i\/(dE (ShW S Wg) a.loc/\a.kind=.atomic)\/((∃g,(t++u).g? i=some g/\m<=g)/\a.kind≠.atomic):=by
 intro i a ha
 obtain⟨x,hx,hxa⟩:=touch_of ha
 rcases getElem?_append_cases hx with ⟨hi,hx'⟩|⟨_,hxu⟩
 ·rcases h i a (by rw[touchAt_of hx'];exact hxa)with h1|h1|⟨⟨g,h1,h2⟩,h3⟩
  ·exact .inl (h1.app u)
  ·exact .inr (.inl h1)
  ·exact .inr (.inr ⟨⟨g,by simpa[Gh,getElem?_append_old hi]using h1,h2⟩,h3⟩)
 ·rcases hu x hxu a hxa with h1|h1|⟨h1,h2⟩
  ·have:=knows_own hx
   rw[h1]at this
   exact .inl this
  ·exact .inr (.inl h1)
  ·exact .inr (.inr ⟨⟨x.g,by simp[Gh,hx],h1⟩,h2⟩)
def zH(h:∀i a,touchAt t i=some a->a.loc.isMemory=true)(hu:∀op∈u,∀a,op.act.touch? = some a->a.loc.isMemory=true):∀i a,touchAt (t++u) i=some a->a.loc.isMemory=true:=by
 intro i a ha;obtain⟨x,hx,hxa⟩:=touch_of ha;rcases getElem?_append_cases hx with ⟨_,hx'⟩|⟨_,hxu⟩
 ·exact h i a (by rw[touchAt_of hx'];exact hxa)
 ·exact hu x hxu a hxa
def uG(h:∀i g,t.g? i=some g->g≠0->g<m->t.counts i->∃q,t.g? q=some 0/\HappensBefore t i q)(hu:∀op∈u,op.g=0\/m<=op.g\/op.act.touch? = none) :
  ∀i g,(t++u).g? i=some g->g≠0->g<m->(t++u).counts i->∃q,(t++u).g? q=some 0/\HappensBefore (t++u) i q:=by
 intro i g hg hne hlt hc
 obtain⟨x,hx,_⟩:=hc
 obtain⟨op,hop,hox⟩:=touch_of hx
 rcases getElem?_append_cases hop with ⟨hi,hop'⟩|⟨_,hopu⟩
 ·obtain⟨q,hq,hb⟩:=h i g (by simpa[Gh,getElem?_append_old hi]using hg) hne hlt ((counts_old hi).1 ⟨x,hx,‹_›⟩)
  have hql:q<t.size:=by unfold Gh at hq;obtain⟨z,hz,_⟩:=Af.1 hq;exact lt_size_of_getElem? hz
  exact⟨q,by simpa[Gh,getElem?_append_old hql]using hq,hb_app u hb⟩
 ·have hgg:op.g=g:=by simpa[Gh,hop]using hg
  rcases hu op hopu with h0|h0|h0
  ·exact absurd (hgg.symm.trans h0) hne
  ·omega
  ·rw[h0]at hox;cases hox
def zJ{B B':Nat}(h:∀op∈t,op.act.low B)(hB:B<=B')(hu:∀op∈u,op.act.low B'):∀op∈t++u,op.act.low B':=λop hop=>(Dy.1 hop).elim (λx=>MemAct.low_mono hB (h op x)) (hu op)
structure aGu(p:Pl)(Wg:Nat)(w w':World):Prop where
 size:w.heap.size<=w'.heap.size
 stay:∀b,b<Wg->(b≠p.C\/p.tot=0)->w'.heap[b]? = w.heap[b]?
 like:w'.tape=w.tape/\w'.os=w.os/\w'.output=w.output
 pay:bBj p w'
def Com.stepW(h:Com P L Wg p S w0 m j gs w t D R V d0)(G:Geo Wg p S){i:Nat}(hi:i<j){g g':Goroutine}{es:Array Event}{s' dd':Nat}{r':Tr}
  (hg:gs[m+i]? = some g) (hK:aGu p Wg w w') (hV:Vws (gV m j) V' w') (hE:∀x,x≠m+i->Env (V x) (V' x)) (hO:dL (V (m+i)) (V' (m+i)))
  (hs':WS P L Wg p i s' r' dd' g' (V' (m+i))) (hdd:deafBehind (D i).deaf es=dd')
  (hok:∀e∈es,∀fn pos,OkW (dE (ShW S Wg)) (tQ p m j V') (RdF m j V') (m+i) { g:=m+i,fn,pos,act:=.ofEvent e })
  (hat:∀e∈es,∀x,(Be e).touch? = some x->x.loc.isMemory=true/\((dE (ShW S Wg) x.loc/\x.kind=.atomic)\/x.kind≠.atomic))
  (hnr:∀e∈es,e.loc≠.mark (.release (stA Wg))) (hlow:∀e∈es,(Be e).low w'.heap.size)
  (hrel:s'<=5->∃r,RelBy (stA Wg) (t++BS (m+i) g.frame.fn g.frame.place es) (m+i) r)
  (hhas:s'<=6->∀r,r<p.wd->w'.cell? (p.cell i r)=some (p.val i r)) (hho:∀i',i'<j->i'≠i->∀r,r<p.wd->w'.cell? (p.cell i' r)=w.cell? (p.cell i' r)) :
  Com P L Wg p S w0 m j ((gs.map (woken P g g' w')).setIfInBounds (m+i) g') w' (t++BS (m+i) g.frame.fn g.frame.place es) (Bd D i ⟨s',0,dd'⟩) (Bd R (m+i) r') V' d0:=by
 have hm:=h.mpos
 have hact:gV m j (m+i):=.inr ⟨by omega,by omega⟩
 have hold:∀x,dL (V x) (V' x):=λx=>by
  by_cases e:x=m+i
  ·subst e;exact hO
  ·exact dL.of_env (hE x e)
 have hops:∀op∈BS (m+i) g.frame.fn g.frame.place es,op.g=m+i:=λop hop=>by obtain⟨e,_,rfl⟩:=BH hop;rfl
 have hA:Apart (dE (ShW S Wg)) (tQ p m j V') (RdF m j V'):=vU hV hm (λk hk=>(hold k).hole (h.hC k hk)) (λk hk b hb=>(hold k).hole (h.hS k hk b hb)) λhs=>hs.elim G.S λe=>by have:=G.C;omega
 refine⟨hm,by simp[h.size],λi' hi'=>?_,λi' h1 h2=>?_,λi' hi'=>?_,?_,?_,?_,λi' hi'=>?_,λi' hi' hs=>?_,λi' hi' hs r hr=>?_,hK.pay,hV,λk hk b hb=>(hold k).whole' (h.low k hk b hb),λk hk=>(hold k).hole (h.hC k hk),λk hk b hb=>(hold k).hole (h.hS k hk b hb),
  λb hb hne=>(hK.stay b hb hne).trans (h.stay b hb hne),⟨hK.like.1.trans h.like.1,hK.like.2.1.trans h.like.2.1,hK.like.2.2.trans h.like.2.2⟩,?_,?_,?_,zJ h.seen hK.size λop hop=>by obtain⟨e,he,rfl⟩:=BH hop;exact hlow e he⟩
 ·by_cases e:i'=i
  ·subst e
   refine⟨g',?_,by rw[Bb,Bb];exact hs'⟩
   have:m+i'<gs.size:=(AX.1 hg).1
   rw[BT (by simpa using this)]
  ·obtain⟨g1,hg1,hs1⟩:=h.wk i' hi'
   refine⟨g1,?_,by rw[Bh D _ e,Bh R _ (by omega)];exact hs1.env (hE _ (by omega))⟩
   rw[AF (by omega),BU,hg1]
   simp[hs1.woken]
 ·obtain⟨g1,q,hg1,hr,hq⟩:=h.old i' h1 h2
  refine⟨g1,q,?_,by rw[Bh R _ (by omega)];exact hr,by rw[Deaf_other t (by omega) _ hops];exact hq⟩
  rw[AF (by omega),BU,hg1]
  simp[woken_quitsD hq]
 ·rw[Deaf_other t (g':=m+i) (by omega) _ hops];exact h.above i' hi'
 ·refine ConcN.CT.appW hA (aCo h.ct h.seen (λk h1 h2=>(h.vws.sim k (.inr ⟨h1,h2⟩)).size) λk _ _=>hold k) (k:=m+i) (by omega) (by omega) λop hop=>?_
  obtain⟨e,he,rfl⟩:=BH hop
  exact hok e he _ _
 ·exact h.norel.app (ConcN.norel_of hnr)
 ·rw[Deaf_other t (g:=0) (g':=m+i) (by omega) _ hops];exact h.deaf0
 ·by_cases e:i'=i
  ·subst e;rw[Bb,Deaf_own,h.deafW i' hi',hdd]
  ·rw[Bh D _ e,Deaf_other t (g':=m+i) (by omega) _ hops,h.deafW i' hi']
 ·by_cases e:i'=i
  ·subst e;rw[Bb]at hs;exact hrel hs
  ·rw[Bh D _ e]at hs
   obtain⟨r,hr⟩:=h.rel i' hi' hs
   exact⟨r,hr.appOther hops (by omega)⟩
 ·by_cases e:i'=i
  ·subst e;rw[Bb]at hs;exact hhas hs r hr
  ·rw[Bh D _ e]at hs
   rw[hho i' hi' e r hr];exact h.has i' hi' hs r hr
 ·refine aIw h.kn λop hop a ha=>?_
  obtain⟨e,he,rfl⟩:=BH hop
  rcases(hat e he a ha).2 with h1|h1
  ·exact .inr (.inl h1)
  ·exact .inr (.inr ⟨by simp only;omega,h1⟩)
 ·refine zH h.mem λop hop a ha=>?_
  obtain⟨e,he,rfl⟩:=BH hop
  exact(hat e he a ha).1
 ·exact uG h.over λop hop=>.inr (.inl (by rw[hops op hop];omega))
def Com.step0(h:Com P L Wg p S w0 m j gs w t D R V d0)(G:Geo Wg p S){g g':Goroutine}{es:Array Event}
  (hg:gs[0]? = some g) (hK:aGu p Wg w w') (hV:Vws (gV m j) V' w') (hE:∀x,x≠0->Env (V x) (V' x)) (hO:dL (V 0) (V' 0))
  (hok:∀e∈es,∀fn pos,Ok0 (dE (ShW S Wg)) (tQ p m j V') (RdF m j V') (m+j-1) { g:=0,fn,pos,act:=.ofEvent e })
  (hat:∀e∈es,∀x,(Be e).touch? = some x->x.loc.isMemory=true)
  (hnr:∀e∈es,e.loc≠.mark (.release (stA Wg))) (hlow:∀e∈es,(Be e).low w'.heap.size)
  (hho:∀i,i<j->∀r,r<p.wd->w'.cell? (p.cell i r)=w.cell? (p.cell i r)) (r0:Tr) :
  Com P L Wg p S w0 m j ((gs.map (woken P g g' w')).setIfInBounds 0 g') w' (t++BS 0 g.frame.fn g.frame.place es) D (Bd R 0 r0) V' (deafBehind d0 es):=by
 have hm:=h.mpos
 have hold:∀x,dL (V x) (V' x):=λx=>by
  by_cases e:x=0
  ·subst e;exact hO
  ·exact dL.of_env (hE x e)
 have hops:∀op∈BS 0 g.frame.fn g.frame.place es,op.g=0:=λop hop=>by obtain⟨e,_,rfl⟩:=BH hop;rfl
 have hA:Apart (dE (ShW S Wg)) (tQ p m j V') (RdF m j V'):=vU hV hm (λk hk=>(hold k).hole (h.hC k hk)) (λk hk b hb=>(hold k).hole (h.hS k hk b hb)) λhs=>hs.elim G.S λe=>by have:=G.C;omega
 refine⟨hm,by simp[h.size],λi' hi'=>?_,λi' h1 h2=>?_,λi' hi'=>?_,?_,?_,?_,λi' hi'=>?_,λi' hi' hs=>?_,λi' hi' hs r hr=>?_,hK.pay,hV,λk hk b hb=>(hold k).whole' (h.low k hk b hb),λk hk=>(hold k).hole (h.hC k hk),λk hk b hb=>(hold k).hole (h.hS k hk b hb),
  λb hb hne=>(hK.stay b hb hne).trans (h.stay b hb hne),⟨hK.like.1.trans h.like.1,hK.like.2.1.trans h.like.2.1,hK.like.2.2.trans h.like.2.2⟩,?_,?_,?_,zJ h.seen hK.size λop hop=>by obtain⟨e,he,rfl⟩:=BH hop;exact hlow e he⟩
 ·obtain⟨g1,hg1,hs1⟩:=h.wk i' hi'
  refine⟨g1,?_,by rw[Bh R _ (by omega)];exact hs1.env (hE _ (by omega))⟩
  rw[AF (by omega),BU,hg1]
  simp[hs1.woken]
 ·obtain⟨g1,q,hg1,hr,hq⟩:=h.old i' h1 h2
  refine⟨g1,q,?_,by rw[Bh R _ (by omega)];exact hr,by rw[Deaf_other t (by omega) _ hops];exact hq⟩
  rw[AF (by omega),BU,hg1]
  simp[woken_quitsD hq]
 ·rw[Deaf_other t (g':=0) (by omega) _ hops];exact h.above i' hi'
 ·refine ConcN.CT.app0 hA (aCo h.ct h.seen (λk h1 h2=>(h.vws.sim k (.inr ⟨h1,h2⟩)).size) λk _ _=>hold k) λop hop=>?_
  obtain⟨e,he,rfl⟩:=BH hop
  exact hok e he _ _
 ·exact h.norel.app (ConcN.norel_of hnr)
 ·rw[Deaf_own,h.deaf0]
 ·rw[Deaf_other t (g':=0) (by omega) _ hops,h.deafW i' hi']
 ·obtain⟨r,hr⟩:=h.rel i' hi' hs
  exact⟨r,hr.appOther hops (by omega)⟩
 ·rw[hho i' hi' r hr];exact h.has i' hi' hs r hr
 ·exact aIw h.kn λop hop a ha=>.inl (hops op hop)
 ·refine zH h.mem λop hop a ha=>?_
  obtain⟨e,he,rfl⟩:=BH hop
  exact hat e he a ha
 ·exact uG h.over λop hop=>.inl (hops op hop)
def Com.stepO(h:Com P L Wg p S w0 m j gs w t D R V d0)(G:Geo Wg p S){i q:Nat}(h0:0<i)(him:i<m){g g':Goroutine}{es:Array Event}
  (hg:gs[i]? = some g) (hm':∀e∈es,Em e=true) (hq':QuitsD P q (deafBehind (Deaf t i) es) g') :
  Com P L Wg p S w0 m j ((gs.map (woken P g g' w)).setIfInBounds i g') w (t++BS i g.frame.fn g.frame.place es) D (Bd R i (Tr.nat q)) V d0:=by
 have hm:=h.mpos
 have hlt:i<gs.size:=(AX.1 hg).1
 have hops:∀op∈BS i g.frame.fn g.frame.place es,op.g=i:=λop hop=>by obtain⟨e,_,rfl⟩:=BH hop;rfl
 have hnt:∀op∈BS i g.frame.fn g.frame.place es,op.act.touch? = none:=λop hop=>by obtain⟨e,he,rfl⟩:=BH hop;exact touch_mute (hm' e he)
 refine⟨hm,by simp[h.size],λi' hi'=>?_,λi' h1 h2=>?_,λi' hi'=>?_,?_,?_,?_,λi' hi'=>?_,λi' hi' hs=>?_,h.has,h.pay,h.vws,h.low,h.hC,h.hS,h.stay,h.like,aIw h.kn λop hop a ha=>?_,zH h.mem λop hop a ha=>?_,uG h.over λop hop=>.inr (.inr (hnt op hop)),zJ h.seen (Ay _) λop hop=>?_⟩
 ·obtain⟨g1,hg1,hs1⟩:=h.wk i' hi'
  refine⟨g1,?_,by rw[Bh R _ (by omega)];exact hs1⟩
  rw[AF (by omega),BU,hg1]
  simp[hs1.woken]
 ·by_cases e:i'=i
  ·subst e
   refine⟨g',q,by rw[BT (by simpa using hlt)],by rw[Bb],by rw[Deaf_own];exact hq'⟩
  ·obtain⟨g1,q1,hg1,hr,hq⟩:=h.old i' h1 h2
   refine⟨g1,q1,?_,by rw[Bh R _ e];exact hr,by rw[Deaf_other t (by omega) _ hops];exact hq⟩
   rw[AF (by omega),BU,hg1]
   simp[woken_quitsD hq]
 ·rw[Deaf_other t (g':=i) (by omega) _ hops];exact h.above i' hi'
 ·refine ConcN.CT.appW (h.apart G) h.ct (k:=i) (by omega) (by omega) λop hop=>⟨hops op hop,λx hx=>by rw[hnt op hop]at hx;cases hx⟩
 ·refine h.norel.app λop hop e=>?_
  obtain⟨x,hx,rfl⟩:=BH hop
  have:=hm' x hx
  have e':=Go.ConcR.loc_of_ofEvent e
  obtain⟨loc,wr,sy⟩:=x
  simp only at e'
  subst e'
  simp[Em]at this
 ·rw[Deaf_other t (g:=0) (g':=i) (by omega) _ hops];exact h.deaf0
 ·rw[Deaf_other t (g':=i) (by omega) _ hops,h.deafW i' hi']
 ·obtain⟨r,hr⟩:=h.rel i' hi' hs
  exact⟨r,hr.appOther hops (by omega)⟩
 ·rw[hnt op hop]at ha;cases ha
 ·rw[hnt op hop]at ha;cases ha
 ·obtain⟨e,he,rfl⟩:=BH hop
  exact low_mute (hm' e he) _
def Com.at(h:Com P L Wg p S w0 m j gs w t D R V d0)(d:Nat):Com P L Wg p S w0 m j gs (w.at d) t D R (λx=>iO (V x) (w.at d)) d0 where
 mpos:=h.mpos
 size:=h.size
 wk i hi:=let ⟨g,h1,h2⟩:=h.wk i hi;⟨g,h1,h2.env (cG _ _)⟩
 old:=h.old
 above:=h.above
 ct:=aCo h.ct h.seen (λk h1 h2=>(h.vws.sim k (.inr ⟨h1,h2⟩)).size) λk _ _=>dL.of_env (cG _ _)
 norel:=h.norel
 deaf0:=h.deaf0
 deafW:=h.deafW
 rel:=h.rel
 has:=h.has
 pay:=h.pay
 vws:=h.vws.aside rfl rfl rfl rfl λ_ _ _ _ _ _=>rfl
 low k hk b hb:=(dL.of_env (cG _ _)).whole' (h.low k hk b hb)
 hC k hk:=lN (h.hC k hk)
 hS k hk b hb:=lN (h.hS k hk b hb)
 stay:=h.stay
 like:=h.like
 kn:=h.kn
 mem:=h.mem
 over:=h.over
 seen:=h.seen
end
end Go.Am
end
section
open List renaming map_map->E,mapM_map->J
namespace Go.Am
open Go.Conc Go.Conc.Lib
open Go.ConcN (CT Apart Ok0 OkW PermW RelBy CTag phi WD Vc Ssum sumTo sumTo_upd OpenSt AllQuit isOpen isW3 isFin pend phi_mono phi_retag le_sumTo Vc_le Vc_upd others_uncounted bk_cell)
open Go.ConcR (KK wgBlock stA smA rd wr mk Bk bk_of_mute ofEvent_loc_mark ofEvent_cell ofEvent_mk)
inductive LLt:List Tr->List Tr->Prop
 |head {x y:Tr} {l:List Tr}:tO x y->LLt (x::l) (y::l)
 |tail {x:Tr} {l l':List Tr}:LLt l l'->LLt (x::l) (x::l')
def bHe{x:Tr}(hx:Acc tO x):∀l,Acc LLt l->Acc LLt (x::l):=by
 induction hx with
 | intro x _ ihx =>
  intro l hl;induction hl with
  | intro l hl' ihl =>
   refine⟨_,λy hy=>?_⟩;cases hy with
   |head h=>exact ihx _ h l ⟨_,hl'⟩
   |tail h=>exact ihl _ h
def aVh:∀l:List Tr,Acc LLt l
 |[]=>⟨_,λy hy=>by cases hy⟩
 |x::l=>bHe (aKq x) l (aVh l)
def bSc{l:List Nat}{f f':Nat->Tr}{k:Nat}(hk:k∈l)(hn:l.Nodup)(h:tO (f' k) (f k))(he:∀x∈l,x≠k->f' x=f x):LLt (l.map f') (l.map f):=by
 induction l with
 |nil=>cases hk
 | cons x l ih =>
  have hn':=List.nodup_cons.1 hn;by_cases e:x=k
  ·subst e;have:l.map f'=l.map f:=CP λy hy=>he y (by simp[hy]) λe=>hn'.1 (e ▸ hy)
   rw[BO,BO,this];exact .head h
  ·rw[BO,BO,he x (by simp) e];exact .tail (ih (by simpa[Eo e]using hk) hn'.2 λy hy=>he y (by simp[hy]))
abbrev Mu:=Nat×(List Tr×Tr)
def MLt:Mu->Mu->Prop:=Prod.Lex (·<·) (Prod.Lex LLt tO)
def bZj:WellFounded MLt:=(Prod.lex ⟨(·<·),Nat.lt_wfRel.wf⟩ (Prod.lex ⟨LLt,⟨aVh⟩⟩ ⟨tO,⟨aKq⟩⟩)).wf
def jL(R:Nat->Tr)(N:Nat):List Tr:=(Du 1 (N-1)).map R
def aLk{R R':Nat->Tr}{N k:Nat}(h1:1<=k)(h2:k<N)(h:tO (R' k) (R k))(he:∀x,x≠0->x≠k->R' x=R x):LLt (jL R' N) (jL R N) :=
 bSc (k:=k) (by simp[Gw];omega) (List.nodup_range' (step:=1)) h λx hx hne=>he x (by simp[Gw]at hx;omega) hne
def bFk{R R':Nat->Tr}{N:Nat}(he:∀x,x≠0->R' x=R x):jL R' N=jL R N :=
 CP λx hx=>he x (by simp[Gw]at hx;omega)
def wB(Wg m j:Nat)(t:Trace):Prop :=
 ∃q,t.act? q=some (.mark (.acquire (stA Wg)))/\t.g? q=some 0/\t.heard q/\∀i,i<j->∃r,RelBy (stA Wg) t (m+i) r/\r<q
def wB.app{Wg m j:Nat}{t u:Trace}(h:wB Wg m j t)(hu:∀i r,i<j->RelBy (stA Wg) t (m+i) r->RelBy (stA Wg) (t++u) (m+i) r):wB Wg m j (t++u):=by obtain⟨q,h1,h2,h3,h4⟩:=h;have hq:=lt_of_act? h1;exact⟨q,by rw[act?_old hq];exact h1,by rw[g?_old hq];exact h2,(heard_old hq).2 h3,λi hi=>let ⟨r,hr,hrq⟩:=h4 i hi;⟨r,hu i r hi hr,hrq⟩⟩
section
variable (P:Program) (L:WgLink) (Wg:Nat) (p:Pl) (K An:Goroutine->Prop) (S:Nat->Prop) (w0:World) (m:Nat)
def Inv(μ:Mu)(M:Machine)(t:Trace):Prop :=
 ∃(gs:Array Goroutine) (w:World) (sl:Option (Nat×Nat)) (j:Nat) (D:Nat->WD) (R:Nat->Tr) (V:Nat->World) (tag:CTag) (d0:Nat) (a:Goroutine) (st sm:Int),
  M=crowd gs w sl/\gs[0]? = some a/\CS P L Wg p K An tag j (R 0) d0 a (V 0)/\Com P L Wg p S w0 m j gs w t D R V d0/\w.heap[Wg]? = some (wgBlock L.tWg st sm)/\En j D tag st sm /\
  (tag=.ret->wB Wg m j t)/\μ=(phi p.n (Vc j D) tag+Ssum j D,jL R (m+j),R 0)
end
section
variable {P:Program} {L:WgLink} {Wg:Nat} {p:Pl} {K An:Goroutine->Prop} {S:Nat->Prop} {w0:World} {m j:Nat} {gs:Array Goroutine} {w w':World} {sl:Option (Nat×Nat)} {t:Trace} {D:Nat->WD} {R:Nat->Tr} {V V':Nat->World} {tag:CTag} {d0:Nat} {a:Goroutine} {st sm:Int}
def nQ(hKr:∀g,K g->g.status=.running)(G:Geo Wg p S)
  (ha:gs[0]? = some a) (hcs:CS P L Wg p K An tag j (R 0) d0 a (V 0)) (hcom:Com P L Wg p S w0 m j gs w t D R V d0)
  {i:Nat} (hi:i<j) {g g':Goroutine} {es:Array Event} {s' dd':Nat} {r':Tr} {st' sm':Int} (hg:gs[m+i]? = some g) (hgo:stepG P false g w=.go g' w' es)
  (hK:aGu p Wg w w') (hV:Vws (gV m j) V' w') (hE:∀x,x≠m+i->Env (V x) (V' x)) (hO:dL (V (m+i)) (V' (m+i)))
  (hs':WS P L Wg p i s' r' dd' g' (V' (m+i))) (hdd:deafBehind (D i).deaf es=dd')
  (hok:∀e∈es,∀fn pos,OkW (dE (ShW S Wg)) (tQ p m j V') (RdF m j V') (m+i) { g:=m+i,fn,pos,act:=.ofEvent e })
  (hat:∀e∈es,∀x,(Be e).touch? = some x->x.loc.isMemory=true/\((dE (ShW S Wg) x.loc/\x.kind=.atomic)\/x.kind≠.atomic))
  (hnr:∀e∈es,e.loc≠.mark (.release (stA Wg))) (hlow:∀e∈es,(Be e).low w'.heap.size)
  (hrel:s'<=5->∃r,RelBy (stA Wg) (t++BS (m+i) g.frame.fn g.frame.place es) (m+i) r)
  (hhas:s'<=6->∀r,r<p.wd->w'.cell? (p.cell i r)=some (p.val i r)) (hho:∀i',i'<j->i'≠i->∀r,r<p.wd->w'.cell? (p.cell i' r)=w.cell? (p.cell i' r))
  (hwg:w'.heap[Wg]? = some (wgBlock L.tWg st' sm'))
  (hmode:∀tag',(tag'=tag\/(tag=.blk/\tag'=.w3))->(mayWake P g=true->g'.status=.running->tag'≠.blk)->En j (Bd D i ⟨s',0,dd'⟩) tag' st' sm')
  (hacq:tag=.ret->wB Wg m j (t++BS (m+i) g.frame.fn g.frame.place es))
  (hlt:(s'<(D i).stage/\Cb ⟨s',0,dd'⟩<=Cb (D i))\/(s'=(D i).stage/\tO r' (R (m+i)))) :
  ∃M ops μ',runT P (crowd gs w sl) (m+i)=(.next M,ops)/\MLt μ' (phi p.n (Vc j D) tag+Ssum j D,jL R (m+j),R 0)/\Inv P L Wg p K An S w0 m μ' M (t++ops):=by
 have hm:=hcom.mpos
 obtain⟨tag',r0,hcs',htag,hwk⟩:=(hcs.env (hE 0 (by omega))).wokenBy hKr g g' w'
 have hrun:=runT_crowd_go (P:=P) (sl:=sl) (i:=m+i) hg (by rw[show(m+i==0)=false by simp;omega];exact hgo)
 have e1:=sumTo_upd D (⟨s',0,dd'⟩:WD) Cb hi
 have e2:=sumTo_upd D (⟨s',0,dd'⟩:WD) WD.stage hi
 have hcom':=hcom.stepW G hi hg hK hV hE hO hs' hdd hok hat hnr hlow hrel hhas hho
 have hcom'':Com P L Wg p S w0 m j ((gs.map (woken P g g' w')).setIfInBounds (m+i) g') w' (t++BS (m+i) g.frame.fn g.frame.place es) (Bd D i ⟨s',0,dd'⟩) (Bd (Bd R (m+i) r') 0 r0) V' d0 :=
  { hcom' with wk:=λi' hi'=>by rw[Bh (Bd R (m+i) r') r0 (show m+i'≠0 by omega)];exact hcom'.wk i' hi',old:=λi' h1 h2=>by rw[Bh (Bd R (m+i) r') r0 (show i'≠0 by omega)];exact hcom'.old i' h1 h2 }
 refine⟨_,_,(phi p.n (Vc j (Bd D i ⟨s',0,dd'⟩)) tag'+Ssum j (Bd D i ⟨s',0,dd'⟩),jL (Bd (Bd R (m+i) r') 0 r0) (m+j),r0),hrun,?_,
  _,w',sl,j,Bd D i ⟨s',0,dd'⟩,Bd (Bd R (m+i) r') 0 r0,V',tag',d0,woken P g g' w' a,st',sm',rfl,?_,by rw[Bb];exact hcs',hcom'',hwg,hmode tag' htag hwk,?_,by rw[Bb]⟩
 ·rw[phi_retag p.n _ htag]
  simp only[Vc,Ssum]at *
  rcases hlt with ⟨h1,h2⟩|⟨h1,h2⟩
  ·refine Fh _ _ ?_
   have:=phi_mono p.n (v':=sumTo j λa=>Cb (Bd D i ⟨s',0,dd'⟩ a)) (v:=sumTo j λa=>Cb (D a)) (by omega) tag
   omega
  ·have ec:Cb (⟨s',0,dd'⟩:WD)=Cb (D i):=by simp only[Cb,h1]
   have ev:(sumTo j λa=>Cb (Bd D i ⟨s',0,dd'⟩ a))=sumTo j λa=>Cb (D a):=by omega
   have es':(sumTo j λa=>(Bd D i ⟨s',0,dd'⟩ a).stage)=sumTo j λa=>(D a).stage:=by omega
   rw[ev,es']
   refine Gi _ (Fh _ _ (aLk (k:=m+i) (by omega) (by omega) ?_ λx h0 hx=>by rw[Bh _ _ h0,Bh _ _ hx]))
   rw[Bh _ _ (by omega),Bb];exact h2
 ·rw[AF (by omega),BU,ha];rfl
 ·intro e
  rcases htag with rfl|⟨_,rfl⟩
  ·exact hacq e
  ·cases e
def bGe{k:Nat}{Own Rd:Nat->Loc->Prop}{e:Event}(h:Bk Wg e)(fn:FuncId)(pos:String):OkW (dE (ShW S Wg)) Own Rd k { g:=k,fn,pos,act:=.ofEvent e }:=by
 refine⟨rfl,λx hx=>?_⟩;rcases h with h1|h1|⟨a,wr,rfl,ha⟩
 ·simp only[ofEvent_loc_mark h1]at hx;cases hx
 ·simp only[ofEvent_loc_mark h1]at hx;cases hx
 ·simp only[ofEvent_cell,BE,Ax]at hx;subst hx;exact .inl ⟨.inr ha,by simp,by simp⟩
def aRf{N:Nat}{Own Rd:Nat->Loc->Prop}{e:Event}(h:Bk Wg e)(fn:FuncId)(pos:String):Ok0 (dE (ShW S Wg)) Own Rd N { g:=0,fn,pos,act:=.ofEvent e }:=by
 refine⟨rfl,λx hx=>?_⟩;rcases h with h1|h1|⟨a,wr,rfl,ha⟩
 ·simp only[ofEvent_loc_mark h1]at hx;cases hx
 ·simp only[ofEvent_loc_mark h1]at hx;cases hx
 ·simp only[ofEvent_cell,BE,Ax]at hx;subst hx;exact .inl ⟨.inr ha,by simp⟩
def bLx{e:Event}(h:Bk Wg e):∀x,(Be e).touch? = some x->x.loc.isMemory=true/\((dE (ShW S Wg) x.loc/\x.kind=.atomic)\/x.kind≠.atomic):=by
 intro x hx;rcases h with h1|h1|⟨a,wr,rfl,ha⟩
 ·simp only[ofEvent_loc_mark h1]at hx;cases hx
 ·simp only[ofEvent_loc_mark h1]at hx;cases hx
 ·simp only[ofEvent_cell,BE,Ax]at hx;subst hx;exact⟨rfl,.inl ⟨.inr ha,by simp⟩⟩
def aMr{e:Event}(h:Bk Wg e):e.loc≠.mark (.release (stA Wg)):=by
 intro hl;rcases h with h1|h1|⟨a,wr,rfl,_⟩
 ·rw[h1]at hl;cases hl
 ·rw[h1]at hl;cases hl
 ·cases hl
def aRo{e:Event}(h:Bk Wg e){B:Nat}(hB:Wg<B):(Be e).low B:=by
 rcases h with h1|h1|⟨a,wr,rfl,ha⟩
 ·rw[ofEvent_loc_mark h1];trivial
 ·rw[ofEvent_loc_mark h1];trivial
 ·rw[ofEvent_cell];simp only[MemAct.low,Loc.low];omega
structure iF(Wg:Nat)(w w':World):Prop where
 tape:w'.tape=w.tape
 os:w'.os=w.os
 output:w'.output=w.output
 size:w'.heap.size=w.heap.size
 block:∀b,b≠Wg->w'.heap[b]? = w.heap[b]?
def iF.refl(Wg:Nat)(w:World):iF Wg w w:=⟨rfl,rfl,rfl,rfl,λ_ _=>rfl⟩
def iF.set(Wg:Nat)(w:World)(o:Nat)(x:Value):iF Wg w (w.setCell ⟨Wg,o,none⟩ x):=⟨rfl,rfl,rfl,by simp[Fe],λb hb=>by rw[dD,Ai hb]⟩
def wI{Wg:Nat}{w:World}{ty:TypeId}{st sm:Int}(h:w.heap[Wg]? = some (wgBlock ty st sm))(x:Int):(w.setCell (stA Wg) (.int .u64 x)).heap[Wg]? = some (wgBlock ty x sm):=by rw[dD,if_pos (show Wg=(stA Wg).block from rfl),h];simp[bPa,wgBlock,stA]
def bEe{Wg:Nat}{w:World}{ty:TypeId}{st sm:Int}(h:w.heap[Wg]? = some (wgBlock ty st sm))(x:Int):(w.setCell (smA Wg) (.int .u32 x)).heap[Wg]? = some (wgBlock ty st x):=by rw[dD,if_pos (show Wg=(smA Wg).block from rfl),h];simp[bPa,wgBlock,smA]
def iF.kept(h:iF Wg w w')(G:Geo Wg p S)(hp:bBj p w):aGu p Wg w w' :=
 ⟨Nat.le_of_eq h.size.symm,λb hb _=>h.block b (by omega),⟨h.tape,h.os,h.output⟩,by obtain⟨cs,f,h1,h2⟩:=hp;exact⟨cs,f,(h.block p.C (by have:=G.C;omega)).trans h1,h2⟩⟩
def iF.cells(h:iF Wg w w')(G:Geo Wg p S)(i r:Nat):w'.cell? (p.cell i r)=w.cell? (p.cell i r):=by have:=h.block p.C (by have:=G.C;omega);simp[BA,Pl.cell,this]
def Com.turn(hcom:Com P L Wg p S w0 m j gs w t D R V d0)(h:iF Wg w w'):Vws (gV m j) (λx=>iO (V x) w') w' :=
 hcom.vws.aside h.size h.tape h.os h.output λk hk b o ho hne=>h.block b λe=>by subst e;rw[hcom.hS k hk b (.inr rfl)]at ho;exact hne (Bm ho).symm
def aCy(hKr:∀g,K g->g.status=.running)(G:Geo Wg p S)(ha:gs[0]? = some a)(hcs:CS P L Wg p K An tag j (R 0) d0 a (V 0))(hcom:Com P L Wg p S w0 m j gs w t D R V d0)
  {i:Nat} (hi:i<j) {g g':Goroutine} {es:Array Event} {s' dd':Nat} {r':Tr} {st' sm':Int} (hg:gs[m+i]? = some g) (hgo:stepG P false g w=.go g' w' es)
  (hT:iF Wg w w') (hwg:w'.heap[Wg]? = some (wgBlock L.tWg st' sm')) (hbk:∀e∈es,Bk Wg e)
  (hd:∀jx e,es[jx]? = some e->(Be e).touch? = none\/0<deafBehind (D i).deaf (es.extract 0 jx))
  (hs':∀v,WS P L Wg p i s' r' dd' g' v) (hdd:deafBehind (D i).deaf es=dd') (h6:(D i).stage<=6) (h5:s'<=5->(D i).stage<=5)
  (hmode:∀tag',(tag'=tag\/(tag=.blk/\tag'=.w3))->(mayWake P g=true->g'.status=.running->tag'≠.blk)->En j (Bd D i ⟨s',0,dd'⟩) tag' st' sm')
  (hacq:tag=.ret->wB Wg m j (t++BS (m+i) g.frame.fn g.frame.place es))
  (hlt:(s'<(D i).stage/\Cb ⟨s',0,dd'⟩<=Cb (D i))\/(s'=(D i).stage/\tO r' (R (m+i)))) :
  ∃M ops μ',runT P (crowd gs w sl) (m+i)=(.next M,ops)/\MLt μ' (phi p.n (Vc j D) tag+Ssum j D,jL R (m+j),R 0)/\Inv P L Wg p K An S w0 m μ' M (t++ops):=by
 have hdk:Deaf t (m+i)=(D i).deaf:=hcom.deafW i hi
 have hlt':Wg<w'.heap.size:=bF hwg
 exact nQ hKr G ha hcs hcom hi hg hgo (hT.kept G hcom.pay) (hcom.turn hT) (λx _=>cG _ _) (dL.of_env (cG _ _)) (hs' _) hdd
  (λe he fn pos=>bGe (hbk e he) fn pos) (λe he=>bLx (hbk e he)) (λe he=>aMr (hbk e he)) (λe he=>aRo (hbk e he) hlt')
  (λh=>let ⟨r,hr⟩:=hcom.rel i hi (h5 h);⟨r,hr.book hdk _ _ hbk hd⟩) (λ_ r hr=>(hT.cells G i r).trans (hcom.has i hi h6 r hr)) (λi' _ _ r _=>hT.cells G i' r) hwg hmode hacq hlt
end
end Go.Am
end
section
open List renaming map_map->E,mapM_map->J
namespace Go.Am
open Go.Conc Go.Conc.Lib
open Go.ConcN (CT Apart Ok0 OkW PermW RelBy CTag phi WD Vc Ssum sumTo sumTo_upd OpenSt AllQuit isOpen isW3 isFin pend phi_mono phi_retag le_sumTo Vc_le Vc_upd others_uncounted bk_cell)
open Go.ConcR (KK wgBlock stA smA rd wr mk Bk bk_of_mute ofEvent_loc_mark ofEvent_cell ofEvent_mk)
def bAb{v:World}{e:Event}(h:EvV v e){x:Touch}(hx:(Be e).touch? = some x):x.kind=.plain:=by
 obtain⟨loc,wr,sy⟩:=e;rcases h with ⟨a,c,t,f,h1,h2,_⟩|⟨r,o,h1,h2,_⟩|h
 ·simp only at h1 h2;subst h1;subst h2;simp[Be,BE]at hx;subst hx;rfl
 ·simp only at h1 h2;subst h1;subst h2;simp[Be,BE]at hx;subst hx;rfl
 ·injection h with e1 e2 e3;subst e1;subst e2;subst e3
  simp[Be,BE]at hx
def bJi{v:World}{e:Event}(h:EvV v e)(a:Addr):e.loc≠.mark (.release a):=by
 rcases h with ⟨a,c,t,f,h1,_⟩|⟨r,o,h1,_⟩|rfl
 ·rw[h1];simp
 ·rw[h1];simp
 ·simp
section
variable {P:Program} {L:WgLink} {Wg:Nat} {p:Pl} {K An:Goroutine->Prop} {S:Nat->Prop} {w0:World} {m j:Nat} {gs:Array Goroutine} {w w':World} {sl:Option (Nat×Nat)} {t:Trace} {D:Nat->WD} {R:Nat->Tr} {V V':Nat->World} {tag:CTag} {d0:Nat} {a:Goroutine} {st sm:Int}
def Com.keptQ(hcom:Com P L Wg p S w0 m j gs w t D R V d0)(G:Geo Wg p S){k:Nat}(hk:gV m j k){Rm:Event->Prop}{v':World}{es:Array Event}(hq:aDk Rm (V k) w v' w' es) :
  aGu p Wg w w'/\w'.heap[Wg]? = w.heap[Wg]? /\ w'.heap[p.C]? = w.heap[p.C]? := by
 have hs:=hcom.vws.sim k hk
 have hsz:(V k).heap.size=w.heap.size:=hs.size
 have hge:=hq.ext.size
 have hsz':=hq.sim.size
 have hC:w'.heap[p.C]? = w.heap[p.C]? := hq.rest _ #[] 0 (hcom.hC k hk)
 refine⟨⟨by omega,λb hb hne=>?_,⟨by rw[<-hq.sim.tape,hq.ext.tape,hs.tape],by rw[<-hq.sim.os,hq.ext.os,hs.os],by rw[<-hq.sim.output,hq.ext.output,hs.output]⟩,?_⟩,hq.rest _ #[] 0 (hcom.hS k hk _ (.inr rfl)),hC⟩
 ·obtain⟨c,ty,h⟩:=hcom.low k hk b (by omega)
  exact hq.rest b c ty h
 ·obtain⟨cs,f,h1,h2⟩:=hcom.pay
  exact⟨cs,f,hC.trans h1,h2⟩
def aQc(hKr:∀g,K g->g.status=.running)(G:Geo Wg p S)(hn:p.n<2147483648)(hjn:j+pend tag<=p.n)
  (ha:gs[0]? = some a) (hcs:CS P L Wg p K An tag j (R 0) d0 a (V 0)) (hcom:Com P L Wg p S w0 m j gs w t D R V d0) (hwg:w.heap[Wg]? = some (wgBlock L.tWg st sm)) (hmode:En j D tag st sm)
  (hacq:tag=.ret->wB Wg m j t) {i:Nat} (hi:i<j) {g:Goroutine} (hg:gs[m+i]? = some g) (hrun:g.status=.running) :
  ∃M ops μ',runT P (crowd gs w sl) (m+i)=(.next M,ops)/\MLt μ' (phi p.n (Vc j D) tag+Ssum j D,jL R (m+j),R 0)/\Inv P L Wg p K An S w0 m μ' M (t++ops):=by
 obtain⟨g₁,hg₁,hs⟩:=hcom.wk i hi
 obtain rfl:g=g₁:=by rw[hg]at hg₁;exact Bm hg₁
 have hm:=hcom.mpos
 have hact:gV m j (m+i):=.inr ⟨by omega,by omega⟩
 have hVj:=Vc_le j D
 have hdk:Deaf t (m+i)=(D i).deaf:=hcom.deafW i hi
 have hI:cP L.tWg Wg w:=⟨st,sm,hwg⟩
 generalize hst:(D i).stage=s at hs
 generalize hR:R (m+i)=r at hs
 generalize hde:(D i).deaf=dd at hs
 have nr:s≠1->tag≠.ret:=λh=>hmode.not_ret hi (by omega)
 -- idle steps behind the working stage
 have idle:∀{g':Goroutine} {es:Array Event} {k:Nat},stepG P false g w=.go g' w es->(∀e∈es,Em e=true\/noE e)->(∀v,WS P L Wg p i s (Tr.nat k) (deafBehind dd es) g' v)->r=Tr.nat (k+1)->s<=6 ->
   ∃M ops μ',runT P (crowd gs w sl) (m+i)=(.next M,ops)/\MLt μ' (phi p.n (Vc j D) tag+Ssum j D,jL R (m+j),R 0)/\Inv P L Wg p K An S w0 m μ' M (t++ops):=by
  intro g' es k hgo hmu hs' hr h6
  have hmu':∀e∈es,Em e=true:=λe he=>(hmu e he).resolve_right id
  have hbk:∀e∈es,Bk Wg e:=λe he=>bk_of_mute (hmu' e he)
  have hno:∀jx e,es[jx]? = some e->(Be e).touch? = none\/0<deafBehind (D i).deaf (es.extract 0 jx):=λjx e he=>.inl (touch_mute (hmu' e (BZ he)))
  refine aCy hKr G ha hcs hcom hi hg hgo (.refl Wg w) hwg hbk hno (s':=s) hs' (by rw[hde]) (by omega) (λh=>by omega) (λtag' ht _=>?_) (λe=>?_) (.inr ⟨hst.symm,by rw[hR,hr];exact iW k⟩)
  ·have:=hmode.same (i:=i) 0 (deafBehind dd es)
   rw[hst]at this
   exact this.retag ht
  ·refine(hacq e).app λi' r' hi' hr'=>?_
   by_cases e':i'=i
   ·subst e';exact hr'.book hdk _ _ hbk hno
   ·exact hr'.appOther EH (by omega)
 cases hs with
 | work h =>
  cases htr:r with
  | node f =>
   rw[htr]at h
   obtain⟨_,hv,hst'⟩:=h
   obtain⟨g',v',w',es,hgo,hq,hgt⟩:=hst' (V (m+i)) w (.refl _) (hcom.vws.sim _ hact) trivial
   obtain⟨hK,hW,hC⟩:=hcom.keptQ G hact hq
   have hput:aDz V (m+i) v' w' (m+i)=v':=kY _ _ _ _
   have hev:∀e∈es,EvV v' e\/Em e=true:=λe he=>(hq.evs e he).imp id λx=>x.resolve_right id
   have hcell:∀i' r,w'.cell? (p.cell i' r)=w.cell? (p.cell i' r):=λi' r=>by simp[BA,Pl.cell,hC]
   have hlt':Wg<w'.heap.size:=bF (hW.trans hwg)
   refine nQ hKr G ha hcs hcom hi hg hgo (V':=aDz V (m+i) v' w') hK (hcom.vws.step hact hq) (λx hx=>by rw[nU V _ _ hx];exact cG _ _) (by rw[hput];exact dL.of_ext hq.ext hv)
    (s':=7) (r':=f (V (m+i),w)) (dd':=deafBehind dd es) (.work (by rw[hput];exact hgt)) (by rw[hde])
    (λe he fn pos=>?_) (λe he x hx=>?_) (λe he=>?_) (λe he=>?_) (λh=>by omega) (λh=>by omega) (λi' _ _ r _=>hcell i' r) (hW.trans hwg) (λtag' ht _=>?_) (λe=>absurd e (nr (by omega))) (.inr ⟨hst.symm,?_⟩)
   ·rcases hev e he with h1|h1
    ·exact bRa (by omega) (by omega) (by rw[hput];exact h1) fn pos
    ·exact bGe (bk_of_mute h1) fn pos
   ·rcases hev e he with h1|h1
    ·exact⟨(aJh h1 hx).1,.inr (by rw[bAb h1 hx];simp)⟩
    ·rw[touch_mute h1]at hx;cases hx
   ·rcases hev e he with h1|h1
    ·exact bJi h1 _
    ·exact aMr (bk_of_mute h1)
   ·rcases hev e he with h1|h1
    ·exact aVd (Nat.le_of_eq hq.sim.size) h1
    ·exact low_mute h1 _
   ·have:=hmode.same (i:=i) 0 (deafBehind dd es)
    rw[hst]at this
    exact this.retag ht
   ·rw[hR,htr];exact rE f _
  | leaf =>
   rw[htr]at h
   obtain⟨hd,_,hput⟩:=h
   obtain⟨g',w',es,hgo,hp,hes,hdl⟩:=hput w hcom.pay
   obtain⟨n,hdn⟩:=hdl.count
   have hd0:deafBehind dd es=0:=by rw[deafBehind_still λe he=>by obtain⟨r,_,rfl⟩:=hes e he;exact⟨by simp,by simp⟩];exact hd
   have hCl:p.C<w'.heap.size:=by obtain⟨cs,f,h1,_⟩:=hp.pay;exact bF h1
   have hW:w'.heap[Wg]? = w.heap[Wg]? := hp.block Wg (by have:=G.C;omega)
   refine nQ hKr G ha hcs hcom hi hg hgo (V':=λx=>iO (V x) w') ⟨Nat.le_of_eq hp.size.symm,λb _ hne=>hne.elim (hp.block b) λe=>absurd e (by have:=Nat.mul_pos (show 0<p.n by omega) p.pos;have:=p.le;omega),⟨hp.tape,hp.os,hp.output⟩,hp.pay⟩
    (hcom.vws.aside hp.size hp.tape hp.os hp.output λk hk b o ho hne=>hp.block b λe=>by subst e;rw[hcom.hC k hk]at ho;exact hne (Bm ho).symm) (λx _=>cG _ _) (dL.of_env (cG _ _))
    (s':=6) (dd':=0) (.rel hdn) (by rw[hde];exact hd0) (λe he fn pos=>?_) (λe he x hx=>?_) (λe he=>?_) (λe he=>?_) (λh=>by omega) (λ_ r hr=>hp.new r hr) (λi' hi' hne r hr=>?_) (hW.trans hwg)
    (λtag' ht _=>(hmode.counted hi (by omega) (.inl rfl) _ _).retag ht) (λe=>absurd e (nr (by omega))) (.inl ⟨by omega,by simp[Cb,hst]⟩)
   ·obtain⟨r,hr,rfl⟩:=hes e he
    refine⟨rfl,λx hx=>?_⟩
    simp only[ofEvent_cell,BE,Ax]at hx
    subst hx
    exact .inr (.inl ⟨by omega,by omega,.inr ⟨r,hr,by simp⟩⟩)
   ·obtain⟨r,hr,rfl⟩:=hes e he
    simp only[ofEvent_cell,BE,Ax]at hx
    subst hx
    exact⟨rfl,.inr (by simp)⟩
   ·obtain⟨r,hr,rfl⟩:=hes e he
    simp
   ·obtain⟨r,hr,rfl⟩:=hes e he
    rw[ofEvent_cell];exact hCl
   ·refine hp.cells _ ?_
    rcases Nat.lt_or_gt_of_ne hne with h1|h1
    ·left
     have:(i'+1)*p.wd<=i*p.wd:=B9 _ h1
     rw[Nat.add_mul]at this;omega
    ·right
     have:(i+1)*p.wd<=i'*p.wd:=B9 _ h1
     omega
 | rel h =>
  rcases h.cases with ⟨_,hd,g',hgo,hdl⟩|⟨n',rfl,_,g',es,hmu,hgo,h'⟩
  ·obtain⟨n,hdn⟩:=hdl.count
   have hlt':Wg<w.heap.size:=bF hwg
   refine nQ hKr G ha hcs hcom hi hg (hgo w hI) (V':=V) ((iF.refl Wg w).kept G hcom.pay) hcom.vws (λx _=>.refl _) (dL.of_env (.refl _)) (s':=5) (dd':=0) (.sub hdn) (by rw[hde,hd];rfl)
    (λe he fn pos=>?_) (λe he x hx=>?_) (λe he=>?_) (λe he=>?_) (λ_=>⟨t.size,ConcN.RelBy.new (by rw[hdk,hde,hd]) _ _⟩) (λ_ r hr=>hcom.has i hi (by omega) r hr) (λ_ _ _ _ _=>rfl) hwg
    (λtag' ht _=>(hmode.counted hi (by omega) (.inr rfl) _ _).retag ht) (λe=>absurd e (nr (by omega))) (.inl ⟨by omega,by simp[Cb,hst]⟩)
   ·simp at he;subst he;exact⟨rfl,λx hx=>by simp[ofEvent_mk,BE]at hx⟩
   ·simp at he;subst he;simp[ofEvent_mk,BE]at hx
   ·simp at he;subst he;simp[mk]
   ·simp at he;subst he;rw[ofEvent_mk];exact hlt'
  ·exact idle (hgo w hI) hmu (λv=>.rel h') rfl (by omega)
 | sub h =>
  rcases h.cases with ⟨hd,_,hall⟩|⟨n',rfl,_,g',es,hmu,hgo,h'⟩
  ·have hc1:Cb (D i)=1:=by simp[Cb,hst]
   have hV1:1<=Vc j D:=by have:=le_sumTo (f:=λx=>Cb (D x)) hi;simp only[Vc];omega
   have bk2:∀e∈#[rd (stA Wg),wr (stA Wg)],Bk Wg e:=by intro e he;simp at he;rcases he with rfl|rfl<;>exact bk_cell _ _ rfl
   have df2:∀jx e,(#[rd (stA Wg),wr (stA Wg)]:Array Event)[jx]? = some e->(Be e).touch? = none\/0<deafBehind (D i).deaf ((#[rd (stA Wg),wr (stA Wg)]:Array Event).extract 0 jx):=by
    intro jx e he;rw[hde,hd];match jx,he with
    |0,_=>exact .inr (by simp[deafBehind])
    |1,_=>exact .inr (by simp[deafBehind,rd])
    |jx+2,he=>simp at he
   have hdd:deafBehind (D i).deaf #[rd (stA Wg),wr (stA Wg)]=dd:=by rw[hde];simp[deafBehind,rd,wr]
   have hq0:∀x,Cb (⟨1,0,x⟩:WD)=0:=λ_=>rfl
   have opq:OpenSt j D->OpenSt j (Bd D i ⟨1,0,dd⟩):=λh a ha=>by
    by_cases e:a=i
    ·subst e;rw[Bb];simp
    ·rw[Bh D _ e];exact h a ha
   cases hmode with
   | opn h1 h2 h3 =>
    obtain⟨v,hv⟩:∃v,Vc j D+pend tag=v+1:=⟨Vc j D+pend tag-1,by omega⟩
    rw[hv]at hwg
    have hw1:w.heap[Wg]? = some (wgBlock L.tWg (((v:Int)+1)*KK+((0:Nat):Int)) 0):=by simpa using hwg
    obtain⟨g',hgo,_,hq⟩:=hall w v 0 (by omega) (by omega) hw1
    obtain⟨q,hq⟩:=hq (by omega)
    have hv':Vc j (Bd D i ⟨1,0,dd⟩)+pend tag=v:=by have:=Vc_upd D (⟨1,0,dd⟩:WD) hi;have:=hq0 dd;omega
    refine aCy hKr G ha hcs hcom hi hg hgo (iF.set Wg w 0 _) (wI hw1 _) bk2 df2 (s':=1) (dd':=dd) (λv=>.quit hq) hdd (by omega) (λ_=>by omega) (λtag' ht _=>E8 ?_ ht) (λe=>absurd e (nr (by omega))) (.inl ⟨by omega,by simp[Cb]⟩)
    have e:((v:Nat):Int)*KK+((0:Nat):Int)=((Vc j (Bd D i ⟨1,0,dd⟩)+pend tag:Nat):Int)*KK:=by rw[hv'];simp
    rw[e]
    exact .opn h1 (opq h2) (λvs ev=>by have:=h3 vs ev;omega)
   | reg h1 h2 h3 =>
    obtain⟨v,hv⟩:∃v,Vc j D=v+1:=⟨Vc j D-1,by omega⟩
    rw[hv]at hwg
    have hp:pend tag=0:=by cases tag<;>first|rfl|exact h1.elim
    have hw1:w.heap[Wg]? = some (wgBlock L.tWg (((v:Int)+1)*KK+((1:Nat):Int)) 0):=by simpa using hwg
    obtain⟨g',hgo,hl,hq⟩:=hall w v 1 (by omega) (by omega) hw1
    by_cases hv0:v=0
    ·subst hv0
     obtain⟨n2,hk⟩:=(hl ⟨rfl,rfl⟩).count
     refine aCy hKr G ha hcs hcom hi hg hgo (iF.set Wg w 0 _) (wI hw1 _) bk2 df2 (s':=4) (dd':=dd) (λv=>.look hk) hdd (by omega) (λ_=>by omega) (λtag' ht _=>E8 ?_ ht) (λe=>absurd e (nr (by omega))) (.inl ⟨by omega,by simp[Cb]⟩)
     have hoth:∀a,a<j->a≠i->(D a).stage=1:=λa ha e=>by have c0:=others_uncounted hi hv hc1 a ha e;have:=h2 a ha;simp only[Cb]at c0;split at c0<;>omega
     have:=ConcN.Mode.last (j:=j) (D:=Bd D i ⟨4,0,dd⟩) (tag:=tag) i h1 hi (by rw[Bb];simp) (λa ha e=>by rw[Bh D _ e];exact hoth a ha e)
     rw[Bb]at this
     simpa using this
    ·obtain⟨q,hq⟩:=hq (by omega)
     have hv':Vc j (Bd D i ⟨1,0,dd⟩)=v:=by have:=Vc_upd D (⟨1,0,dd⟩:WD) hi;have:=hq0 dd;omega
     refine aCy hKr G ha hcs hcom hi hg hgo (iF.set Wg w 0 _) (wI hw1 _) bk2 df2 (s':=1) (dd':=dd) (λv=>.quit hq) hdd (by omega) (λ_=>by omega) (λtag' ht _=>E8 ?_ ht) (λe=>absurd e (nr (by omega))) (.inl ⟨by omega,by simp[Cb]⟩)
     have e:((v:Nat):Int)*KK+((1:Nat):Int)=((Vc j (Bd D i ⟨1,0,dd⟩):Nat):Int)*KK+1:=by rw[hv'];simp
     rw[e]
     exact .reg h1 (opq h2) (by omega)
   | last L' _ h2 h3 h4 =>
    by_cases e:i=L'
    ·subst e;omega
    ·have:=h4 i hi e;omega
   |sema h2=>have:=h2 i hi;omega
   |fin _ h2=>have:=h2 i hi;omega
  ·exact idle (hgo w hI) hmu (λv=>.sub h') rfl (by omega)
 | look h =>
  rcases h.cases with ⟨hd,_,hx⟩|⟨n',rfl,_,g',es,hmu,hgo,h'⟩
  ·obtain⟨hW3,hoth,rfl,rfl⟩:=hmode.isLast hi (by omega)
   simp only[hst]at hwg
   obtain⟨g',hgo,hk⟩:=hx w (by simpa using hwg)
   obtain⟨n2,hk⟩:=hk.count
   refine aCy hKr G ha hcs hcom hi hg hgo (.refl Wg w) hwg (by intro e he;simp at he;subst he;exact bk_cell _ _ rfl) (by rw[hde,hd];intro jx e he;match jx,he with|0,_=>exact .inr (by simp[deafBehind])|jx+1,he=>simp at he)
    (s':=3) (dd':=dd) (λv=>.zero hk) (by rw[hde];simp[deafBehind,rd]) (by omega) (λ_=>by omega) (λtag' ht _=>E8 ?_ ht) (λe=>absurd e (nr (by omega))) (.inl ⟨by omega,by simp[Cb]⟩)
   have:=ConcN.Mode.last (j:=j) (D:=Bd D i ⟨3,0,dd⟩) (tag:=tag) i hW3 hi (by rw[Bb];simp) (λa ha e=>by rw[Bh D _ e];exact hoth a ha e)
   rw[Bb]at this
   simpa using this
  ·exact idle (hgo w hI) hmu (λv=>.look h') rfl (by omega)
 | zero h =>
  rcases h.cases with ⟨hd,_,hx⟩|⟨n',rfl,_,g',es,hmu,hgo,h'⟩
  ·obtain⟨hW3,hoth,rfl,rfl⟩:=hmode.isLast hi (by omega)
   simp only[hst]at hwg
   have hwg':w.heap[Wg]? = some (wgBlock L.tWg 1 0):=by simpa using hwg
   obtain⟨g',hgo,hk⟩:=hx w hwg'
   obtain⟨n2,hk⟩:=hk.count
   refine aCy hKr G ha hcs hcom hi hg hgo (iF.set Wg w 0 _) (wI hwg' 0) (by intro e he;simp at he;subst he;exact bk_cell _ _ rfl) (by rw[hde,hd];intro jx e he;match jx,he with|0,_=>exact .inr (by simp[deafBehind])|jx+1,he=>simp at he)
    (s':=2) (dd':=dd) (λv=>.sem hk) (by rw[hde];simp[deafBehind,wr]) (by omega) (λ_=>by omega) (λtag' ht _=>E8 ?_ ht) (λe=>absurd e (nr (by omega))) (.inl ⟨by omega,by simp[Cb]⟩)
   have:=ConcN.Mode.last (j:=j) (D:=Bd D i ⟨2,0,dd⟩) (tag:=tag) i hW3 hi (by rw[Bb];simp) (λa ha e=>by rw[Bh D _ e];exact hoth a ha e)
   rw[Bb]at this
   simpa using this
  ·exact idle (hgo w hI) hmu (λv=>.zero h') rfl (by omega)
 | sem h =>
  rcases h.cases with ⟨hd,_,hmw,hx⟩|⟨n',rfl,_,g',es,hmu,hgo,h'⟩
  ·obtain⟨hW3,hoth,rfl,rfl⟩:=hmode.isLast hi (by omega)
   simp only[hst]at hwg
   have hwg':w.heap[Wg]? = some (wgBlock L.tWg 0 0):=by simpa using hwg
   obtain⟨g',hgo,q,hq⟩:=hx w hwg'
   have hrun':g'.status=.running:=by
    cases q with
    |zero=>exact absurd hq.2 (by omega)
    |succ q=>exact hq.elim (λx=>absurd x.2 (by omega)) (λx=>x.1)
   refine aCy hKr G ha hcs hcom hi hg hgo (iF.set Wg w 1 _) (bEe hwg' 1) (es:=semEvents (smA Wg)) ?_ ?_ (s':=1) (dd':=dd) (λv=>.quit hq) (by rw[hde,hd];simp[deafBehind,semEvents]) (by omega) (λ_=>by omega) ?_ (λe=>absurd e (nr (by omega))) (.inl ⟨by omega,by simp[Cb]⟩)
   ·exact ConcN.bk_sem
   ·intro jx e he
    rw[hde,hd]
    match jx,he with
    |0,he=>simp[semEvents]at he;subst he;exact .inl rfl
    |1,_=>exact .inr (by simp[deafBehind,semEvents])
    |2,_=>exact .inr (by simp[deafBehind,semEvents])
    |3,he=>simp[semEvents]at he;subst he;exact .inl rfl
    |jx+4,he=>simp[semEvents]at he
   ·intro tag' ht hw
    have hnb:=hw hmw hrun'
    have e3:tag'=.w3:=by
     rcases ht with rfl|⟨_,rfl⟩
     ·cases tag'<;>first|rfl|exact hW3.elim|exact absurd rfl hnb
     ·rfl
    subst e3
    exact .sema λa ha=>by
     by_cases e:a=i
     ·subst e;rw[Bb]
     ·rw[Bh D _ e];exact hoth a ha e
  ·exact idle (hgo w hI) hmu (λv=>.sem h') rfl (by omega)
 | quit h =>
  rename_i n
  cases n with
  |zero=>rw[h.1]at hrun;cases hrun
  | succ q =>
   rcases h with ⟨hf,_⟩|⟨_,g',es,hmute,hstep,hq⟩
   ·rw[hf]at hrun;cases hrun
   ·exact idle (hstep w) (λe he=>.inl (hmute e he)) (λv=>.quit hq) rfl (by omega)
end
end Go.Am
end
section
open List renaming map_map->E,mapM_map->J
namespace Go.Am
open Go.Conc Go.Conc.Lib
open Go.ConcN (CT Apart Ok0 OkW PermW RelBy CTag phi WD Vc Ssum sumTo sumTo_upd sumTo_upd_out OpenSt AllQuit isOpen isW3 isFin pend phi_mono phi_retag le_sumTo Vc_le Vc_upd others_uncounted bk_cell allQuit_of)
open Go.ConcR (KK wgBlock stA smA rd wr mk Bk bk_of_mute ofEvent_loc_mark ofEvent_cell ofEvent_mk)
section
variable {P:Program} {L:WgLink} {Wg:Nat} {p:Pl} {K An:Goroutine->Prop} {S:Nat->Prop} {w0:World} {m j:Nat} {gs:Array Goroutine} {w w':World} {sl:Option (Nat×Nat)} {t:Trace} {D:Nat->WD} {R:Nat->Tr} {V V':Nat->World} {tag tag':CTag} {d0:Nat} {a a':Goroutine} {st sm st' sm':Int} {es:Array Event} {r':Tr}
def CS.bound{d:Nat}{r:Tr}{v:World}(h:CS P L Wg p K An tag j r d a v):j+pend tag<=p.n:=by cases h<;>simp only[pend]<;>(try simp)<;>omega
def oQ(G:Geo Wg p S)(ha:gs[0]? = some a)(hcom:Com P L Wg p S w0 m j gs w t D R V d0)
  (hgo:stepG P true a w=.go a' w' es) (hK:aGu p Wg w w') (hV:Vws (gV m j) V' w') (hE:∀x,x≠0->Env (V x) (V' x)) (hO:dL (V 0) (V' 0))
  (hok:∀e∈es,∀fn pos,Ok0 (dE (ShW S Wg)) (tQ p m j V') (RdF m j V') (m+j-1) { g:=0,fn,pos,act:=.ofEvent e })
  (hat:∀e∈es,∀x,(Be e).touch? = some x->x.loc.isMemory=true) (hnr:∀e∈es,e.loc≠.mark (.release (stA Wg))) (hlow:∀e∈es,(Be e).low w'.heap.size)
  (hho:∀i,i<j->∀r,r<p.wd->w'.cell? (p.cell i r)=w.cell? (p.cell i r))
  (hcs':CS P L Wg p K An tag' j r' (deafBehind d0 es) a' (V' 0)) (hwg:w'.heap[Wg]? = some (wgBlock L.tWg st' sm')) (hmode:En j D tag' st' sm')
  (hacq:tag'=.ret->wB Wg m j (t++BS 0 a.frame.fn a.frame.place es))
  (hlt:phi p.n (Vc j D) tag'<phi p.n (Vc j D) tag\/(phi p.n (Vc j D) tag'=phi p.n (Vc j D) tag/\tO r' (R 0))) :
  ∃M ops μ',runT P (crowd gs w sl) 0=(.next M,ops)/\MLt μ' (phi p.n (Vc j D) tag+Ssum j D,jL R (m+j),R 0)/\Inv P L Wg p K An S w0 m μ' M (t++ops):=by
 have hrun:=runT_crowd_go (P:=P) (sl:=sl) (i:=0) ha (by simpa using hgo)
 have hlt0:0<gs.size:=(AX.1 ha).1
 refine⟨_,_,(phi p.n (Vc j D) tag'+Ssum j D,jL (Bd R 0 r') (m+j),r'),hrun,?_,
  _,w',sl,j,D,Bd R 0 r',V',tag',deafBehind d0 es,a',st',sm',rfl,by simp[hlt0],by rw[Bb];exact hcs',hcom.step0 G ha hK hV hE hO hok hat hnr hlow hho r',hwg,hmode,hacq,by rw[Bb]⟩
 rw[bFk (R':=Bd R 0 r') (R:=R) λx hx=>Bh R _ hx]
 rcases hlt with h|⟨h1,h2⟩
 ·exact Fh _ _ (by omega)
 ·rw[h1];exact Gi _ (Gi _ h2)
def mC{e:Event}(h:dK Wg e):(∀{Own Rd:Nat->Loc->Prop} {N:Nat} (fn:FuncId) (pos:String),Ok0 (dE (ShW S Wg)) Own Rd N { g:=0,fn,pos,act:=.ofEvent e })/\(∀x,(Be e).touch? = some x->x.loc.isMemory=true)/\e.loc≠.mark (.release (stA Wg))/\∀B,Wg<B->(Be e).low B:=by
 rcases h with rfl|rfl
 ·refine⟨λfn pos=>⟨rfl,λx hx=>?_⟩,λx hx=>?_,by simp,λB hB=>hB⟩<;>simp only[Be,BE,Ax]at hx<;>subst hx
  ·exact .inl ⟨.inr rfl,by simp⟩
  ·rfl
 ·refine⟨λfn pos=>⟨rfl,λx hx=>?_⟩,λx hx=>?_,by simp,λB hB=>hB⟩<;>simp only[Be,BE,Ax]at hx<;>subst hx
  ·exact .inl ⟨.inr rfl,by simp⟩
  ·rfl
def sV(G:Geo Wg p S)(ha:gs[0]? = some a)(hcom:Com P L Wg p S w0 m j gs w t D R V d0)
  (hgo:stepG P true a w=.go a' w' es) (hT:iF Wg w w') (hwg:w'.heap[Wg]? = some (wgBlock L.tWg st' sm')) (hbk:∀e∈es,Bk Wg e\/dK Wg e)
  (hcs':∀v,Env (V 0) v->CS P L Wg p K An tag' j r' (deafBehind d0 es) a' v) (hmode:En j D tag' st' sm')
  (hacq:tag'=.ret->wB Wg m j (t++BS 0 a.frame.fn a.frame.place es))
  (hlt:phi p.n (Vc j D) tag'<phi p.n (Vc j D) tag\/(phi p.n (Vc j D) tag'=phi p.n (Vc j D) tag/\tO r' (R 0))) :
  ∃M ops μ',runT P (crowd gs w sl) 0=(.next M,ops)/\MLt μ' (phi p.n (Vc j D) tag+Ssum j D,jL R (m+j),R 0)/\Inv P L Wg p K An S w0 m μ' M (t++ops):=by
 have hlt':Wg<w'.heap.size:=bF hwg
 refine oQ G ha hcom hgo (hT.kept G hcom.pay) (hcom.turn hT) (λx _=>cG _ _) (dL.of_env (cG _ _)) (λe he fn pos=>?_) (λe he=>?_) (λe he=>?_) (λe he=>?_) (λi _ r _=>hT.cells G i r) (hcs' _ (cG _ _)) hwg hmode hacq hlt
 ·rcases hbk e he with h|h
  ·exact aRf h fn pos
  ·exact(mC (S:=S) h).1 fn pos
 ·rcases hbk e he with h|h
  ·exact λx hx=>(bLx (S:=S) h x hx).1
  ·exact(mC (S:=S) h).2.1
 ·rcases hbk e he with h|h
  ·exact aMr h
  ·exact(mC (S:=S) h).2.2.1
 ·rcases hbk e he with h|h
  ·exact aRo h hlt'
  ·exact(mC (S:=S) h).2.2.2 _ hlt'
def bCr(G:Geo Wg p S)(ha:gs[0]? = some a)(hcom:Com P L Wg p S w0 m j gs w t D R V d0)(hwg:w.heap[Wg]? = some (wgBlock L.tWg st sm))(hmode:En j D tag st sm)(hacq:tag≠.ret)
  {v':World} (hgo:stepG P true a w=.go a' w' es) (hq:aDk (dK Wg) (V 0) w v' w' es) (hcs':CS P L Wg p K An tag j r' (deafBehind d0 es) a' v') (hlt:tO r' (R 0)) :
  ∃M ops μ',runT P (crowd gs w sl) 0=(.next M,ops)/\MLt μ' (phi p.n (Vc j D) tag+Ssum j D,jL R (m+j),R 0)/\Inv P L Wg p K An S w0 m μ' M (t++ops):=by
 obtain⟨hK,hW,hC⟩:=hcom.keptQ G (.inl rfl) hq
 have hput:aDz V 0 v' w' 0=v':=kY _ _ _ _
 have hcell:∀i' r,w'.cell? (p.cell i' r)=w.cell? (p.cell i' r):=λi' r=>by simp[BA,Pl.cell,hC]
 have hlt':Wg<w'.heap.size:=bF (hW.trans hwg)
 have hO:dL (V 0) v':=dL.of_ext hq.ext (hcom.vws.ok 0 (.inl rfl))
 have hVV:Vws (gV m j) (aDz V 0 v' w') w':=hcom.vws.step (.inl rfl) hq
 refine oQ G ha hcom hgo (V':=aDz V 0 v' w') hK hVV (λx hx=>by rw[nU V _ _ hx];exact cG _ _) (by rw[hput];exact hO) (λe he fn pos=>?_) (λe he=>?_) (λe he=>?_) (λe he=>?_) (λi _ r _=>hcell i r) (by rw[hput];exact hcs') (hW.trans hwg) hmode (λe=>absurd e hacq) (.inr ⟨rfl,hlt⟩)
 ·rcases hq.evs e he with h|h|h
  ·exact bRb hVV hcom.mpos (by rw[hput];exact hO.hole (hcom.hC 0 (.inl rfl))) (λb hb=>by rw[hput];exact hO.hole (hcom.hS 0 (.inl rfl) b hb)) (by rw[hput];exact h) fn pos
  ·exact aRf (bk_of_mute h) fn pos
  ·exact(mC (S:=S) h).1 fn pos
 ·rcases hq.evs e he with h|h|h
  ·exact λx hx=>(aJh h hx).1
  ·exact λx hx=>by rw[touch_mute h]at hx;cases hx
  ·exact(mC (S:=S) h).2.1
 ·rcases hq.evs e he with h|h|h
  ·exact bJi h _
  ·exact aMr (bk_of_mute h)
  ·exact(mC (S:=S) h).2.2.1
 ·rcases hq.evs e he with h|h|h
  ·exact aVd (Nat.le_of_eq hq.sim.size) h
  ·exact low_mute h _
  ·exact(mC (S:=S) h).2.2.2 _ hlt'
def Com.spawn(h:Com P L Wg p S w0 m j gs w t D R V 0)(G:Geo Wg p S){child:Goroutine}{x y:MemOp}{tr r0:Tr}(hx:x.g=0/\x.act=.go (m+j))(hy:y.g=m+j/\y.act=.start)(hWg:Wg<w.heap.size)
  (hc:GTw P L Wg p j tr 0 child (jI (V 0))) :
  Com P L Wg p S w0 m (j+1) ((gs.setIfInBounds 0 a').push child) w (t++#[x,y]) (Bd D j ⟨7,0,0⟩) (Bd (Bd R (m+j) tr) 0 r0) (Bd (Bd V (m+j) (jI (V 0))) 0 (jI (V 0))) 0:=by
 have hm:=h.mpos
 generalize hVd:Bd (Bd V (m+j) (jI (V 0))) 0 (jI (V 0))=V'
 have v0:V' 0=jI (V 0):=by rw[<-hVd,Bb]
 have vj:V' (m+j)=jI (V 0):=by rw[<-hVd,Bh _ _ (by omega),Bb]
 have vx:∀k,k≠0->k≠m+j->V' k=V k:=λk h0 h1=>by rw[<-hVd,Bh _ _ h0,Bh _ _ h1]
 have hact:∀k,gV m (j+1) k->(V' k=jI (V 0)/\(k=0\/k=m+j))\/(V' k=V k/\k≠0/\m<=k/\k<m+j):=λk hk=>by
  by_cases h0:k=0
  ·subst h0;exact .inl ⟨v0,.inl rfl⟩
  by_cases h1:k=m+j
  ·subst h1;exact .inl ⟨vj,.inr rfl⟩
  ·rcases hk with hk|⟨h2,h3⟩
   ·exact absurd hk h0
   ·exact .inr ⟨vx k h0 h1,h0,h2,by omega⟩
 have hmm:∀op∈#[x,y],op=x\/op=y:=by intro op hop;simpa using hop
 have hst:∀op∈#[x,y],op.act≠.mark .disable/\op.act≠.mark .enable:=by
  intro op hop;rcases hmm op hop with rfl|rfl
  ·rw[hx.2];exact⟨by simp,by simp⟩
  ·rw[hy.2];exact⟨by simp,by simp⟩
 have hnt:∀op∈#[x,y],op.act.touch? = none:=by
  intro op hop;rcases hmm op hop with rfl|rfl
  ·rw[hx.2];rfl
  ·rw[hy.2];rfl
 have hVw:Vws (gV m (j+1)) V' w:=by
  refine⟨λk hk=>?_,λk hk=>?_,λk k' hk hk' hne b hu=>?_⟩
  ·rcases hact k hk with ⟨e,_⟩|⟨e,_,h1,h2⟩
   ·rw[e];exact aNp (h.vws.sim 0 (.inl rfl))
   ·rw[e];exact h.vws.sim k (.inr ⟨h1,h2⟩)
  ·rcases hact k hk with ⟨e,_⟩|⟨e,_,h1,h2⟩
   ·rw[e];exact aJa _
   ·rw[e];exact h.vws.ok k (.inr ⟨h1,h2⟩)
  ·rcases hact k hk with ⟨e,_⟩|⟨e,h0,h1,h2⟩
   ·rw[e]at hu;exact absurd hu (aJb _ _)
   ·rw[e]at hu;rcases hact k' hk' with ⟨e',_⟩|⟨e',h0',h1',h2'⟩
    ·rw[e'];exact xA (h.vws.dis k 0 (.inr ⟨h1,h2⟩) (.inl rfl) h0 b hu)
    ·rw[e'];exact h.vws.dis k k' (.inr ⟨h1,h2⟩) (.inr ⟨h1',h2'⟩) hne b hu
 have hC':∀k,gV m (j+1) k->(V' k).heap[p.C]? = some hole:=λk hk=>by
  rcases hact k hk with ⟨e,_⟩|⟨e,_,h1,h2⟩
  ·rw[e];exact xA (h.hC 0 (.inl rfl))
  ·rw[e];exact h.hC k (.inr ⟨h1,h2⟩)
 have hS':∀k,gV m (j+1) k->∀b,ShW S Wg b->(V' k).heap[b]? = some hole:=λk hk b hb=>by
  rcases hact k hk with ⟨e,_⟩|⟨e,_,h1,h2⟩
  ·rw[e];exact xA (h.hS 0 (.inl rfl) b hb)
  ·rw[e];exact h.hS k (.inr ⟨h1,h2⟩) b hb
 have hA:Apart (dE (ShW S Wg)) (tQ p m (j+1) V') (RdF m (j+1) V'):=vU hVw hm hC' hS' λhs=>hs.elim G.S λe=>by have:=G.C;omega
 have hct:CT (dE (ShW S Wg)) (tQ p m (j+1) V') (RdF m (j+1) V') t (m+j-1):=by
  refine CT.grow h.ct (λk l k1 kj ⟨a1,a2,hl⟩=>⟨a1,by omega,?_⟩) (λk l k1 kj ⟨a1,a2,hl⟩=>⟨a1,by omega,?_⟩) (λk l k1 kj ⟨a1,a2,hl⟩=>.inl ⟨a1,by omega,?_⟩) (λk l k1 kj ⟨a1,a2,hl⟩=>.inl ⟨a1,by omega,?_⟩)
  ·rw[vx k (by omega) (by omega)];exact hl
  ·rw[vx k (by omega) (by omega)];exact hl
  ·rw[vx k (by omega) (by omega)]at hl;exact hl
  ·rw[vx k (by omega) (by omega)]at hl;exact hl
 have hsz:=h.size
 refine⟨hm,by simp[hsz];omega,λi hi=>?_,λi h1 h2=>?_,λi hi=>?_,?_,h.norel.app λop hop=>?_,by rw[FL t 0 _ hst,h.deaf0],λi hi=>?_,λi hi hs=>?_,λi hi hs r hr=>?_,h.pay,hVw,λk hk b hb=>?_,hC',hS',h.stay,h.like,aIw h.kn λop hop a ha=>?_,zH h.mem λop hop a ha=>?_,uG h.over λop hop=>.inr (.inr (hnt op hop)),zJ h.seen (Ay _) λop hop=>?_⟩
 ·rcases A4 i j with hlt|hge
  ·obtain⟨g,hg,hsg⟩:=h.wk i hlt
   refine⟨g,?_,by rw[Bh D _ (by omega),Bh (Bd R (m+j) tr) _ (by omega),Bh R _ (by omega),vx _ (by omega) (by omega)];exact hsg⟩
   rw[FA (by simp[hsz];omega),<-Al,AF (by omega)]
   exact hg
  ·obtain rfl:i=j:=by omega
   refine⟨child,?_,by rw[Bb,Bh (Bd R (m+i) tr) _ (by omega),Bb,vj];exact .work hc⟩
   rw[show m+i=(gs.setIfInBounds 0 a').size by simp[hsz],Array.getElem?_push_size]
 ·obtain⟨g,q,hg,hr,hq⟩:=h.old i h1 h2
  refine⟨g,q,?_,by rw[Bh (Bd R (m+j) tr) _ (by omega),Bh R _ (by omega)];exact hr,by rw[FL t _ _ hst];exact hq⟩
  rw[FA (by simp[hsz];omega),<-Al,AF (by omega)]
  exact hg
 ·rw[FL t _ _ hst];exact h.above i (by omega)
 ·have:=ConcN.CT.fork hA hct (x:=x) (y:=y) (by rw[show m+j-1+1=m+j by omega];exact hx) (by rw[show m+j-1+1=m+j by omega];exact hy) h.deaf0
  rw[show m+j-1+1=m+(j+1)-1 by omega]at this
  exact this
 ·rcases hmm op hop with rfl|rfl
  ·rw[hx.2];simp
  ·rw[hy.2];simp
 ·rw[FL t _ _ hst]
  rcases A4 i j with hlt|hge
  ·rw[h.deafW i hlt,Bh D _ (by omega)]
  ·obtain rfl:i=j:=by omega
   rw[Bb]
   exact h.above _ (Ay _)
 ·rcases A4 i j with hlt|hge
  ·rw[Bh D _ (by omega)]at hs
   obtain⟨r,hr⟩:=h.rel i hlt hs
   refine⟨r,hr.appNot λop hop=>?_⟩
   rcases hmm op hop with rfl|rfl
   ·rw[hx.1];omega
   ·rw[hy.1];omega
  ·obtain rfl:i=j:=by omega
   rw[Bb]at hs
   simp at hs
 ·rcases A4 i j with hlt|hge
  ·rw[Bh D _ (by omega)]at hs
   exact h.has i hlt hs r hr
  ·obtain rfl:i=j:=by omega
   rw[Bb]at hs
   simp at hs
 ·rcases hact k hk with ⟨e,_⟩|⟨e,_,h1,h2⟩
  ·rw[e];exact aCa (by have:=(h.vws.sim 0 (.inl rfl)).size;omega)
  ·rw[e];exact h.low k (.inr ⟨h1,h2⟩) b hb
 ·rw[hnt op hop]at ha;cases ha
 ·rw[hnt op hop]at ha;cases ha
 ·rcases hmm op hop with rfl|rfl
  ·rw[hx.2];trivial
  ·rw[hy.2];trivial
end
end Go.Am
end
section
open List renaming map_map->E,mapM_map->J
namespace Go.Am
open Go.Conc Go.Conc.Lib
open Go.ConcN (CT Apart Ok0 OkW PermW RelBy CTag phi WD Vc Ssum sumTo sumTo_upd sumTo_upd_out OpenSt AllQuit isOpen isW3 isFin pend phi_mono phi_retag le_sumTo Vc_le Vc_upd others_uncounted bk_cell allQuit_of)
open Go.ConcR (KK wgBlock stA smA rd wr mk Bk bk_of_mute ofEvent_loc_mark ofEvent_cell ofEvent_mk)
section
variable {P:Program} {L:WgLink} {Wg:Nat} {p:Pl} {K An:Goroutine->Prop} {S:Nat->Prop} {w0:World} {m j:Nat} {gs:Array Goroutine} {w w':World} {sl:Option (Nat×Nat)} {t:Trace} {D:Nat->WD} {R:Nat->Tr} {V V':Nat->World} {tag tag':CTag} {d0:Nat} {a a':Goroutine} {st sm st' sm':Int} {es:Array Event} {r':Tr}
def bkS{es:Array Event}(h:∀e∈es,Bk Wg e):∀e∈es,Bk Wg e\/dK Wg e:=λe he=>.inl (h e he)
def aQe(hKr:∀g,K g->g.status=.running)(hAn:∀g,An g->Dl P true (cP L.tWg Wg) (dK Wg) (λd g=>d=1/\yW P L Wg K An d g) 1 g)(G:Geo Wg p S)(hn:p.n<2147483648)
  (ha:gs[0]? = some a) (hcs:CS P L Wg p K An tag j (R 0) d0 a (V 0)) (hcom:Com P L Wg p S w0 m j gs w t D R V d0) (hwg:w.heap[Wg]? = some (wgBlock L.tWg st sm)) (hmode:En j D tag st sm)
  (hacq:tag=.ret->wB Wg m j t) (hrun:a.status=.running) (hstop:¬(tag=.ret/\d0=0/\K a)) :
  ∃M ops μ',runT P (crowd gs w sl) 0=(.next M,ops)/\MLt μ' (phi p.n (Vc j D) tag+Ssum j D,jL R (m+j),R 0)/\Inv P L Wg p K An S w0 m μ' M (t++ops):=by
 have hVj:=Vc_le j D
 have hb:=hcs.bound
 have hI:cP L.tWg Wg w:=⟨st,sm,hwg⟩
 have hsim0:=hcom.vws.sim 0 (.inl rfl)
 have hok0:=hcom.vws.ok 0 (.inl rfl)
 -- an idle step of a chain
 have idle:∀{g':Goroutine} {es:Array Event} {r':Tr},tag≠.ret->stepG P true a w=.go g' w es->(∀e∈es,Em e=true\/dK Wg e)->(∀v,CS P L Wg p K An tag j r' (deafBehind d0 es) g' v)->tO r' (R 0) ->
   ∃M ops μ',runT P (crowd gs w sl) 0=(.next M,ops)/\MLt μ' (phi p.n (Vc j D) tag+Ssum j D,jL R (m+j),R 0)/\Inv P L Wg p K An S w0 m μ' M (t++ops) :=
  λhne hgo hmu hcs' hlt=>sV G ha hcom hgo (.refl Wg w) hwg (λe he=>(hmu e he).imp bk_of_mute id) (λv _=>hcs' v) hmode (λe=>absurd e hne) (.inr ⟨rfl,hlt⟩)
 generalize hR:R 0=r at hcs
 cases hcs with
 | a1 hr h =>
  rename_i r1
  cases htr:r with
  | node f =>
   rw[htr]at h
   obtain⟨_,hv,hs⟩:=h
   obtain⟨g',v',w',es,hgo,hq,hgt⟩:=hs (V 0) w (.refl _) hsim0 hI
   have:=bCr (sl:=sl) G ha hcom hwg hmode (by simp) hgo hq (.a1 hr hgt) (by rw[hR,htr];exact rE f _)
   rwa [hR,htr]at this
  | leaf =>
   rw[htr]at h
   obtain⟨hd,_,hall⟩:=h
   obtain⟨ho,rfl,rfl,_⟩:=hmode.open_inv trivial
   have hwg0:w.heap[Wg]? = some (wgBlock L.tWg ((Vc (p.n-(r1+1)) D:Nat)*KK:Int) 0):=by simpa[pend]using hwg
   obtain⟨g',hgo,hdl⟩:=hall w (Vc (p.n-(r1+1)) D) (by omega) hwg0
   have hdd:deafBehind d0 #[rd (stA Wg),wr (stA Wg)]=d0:=by simp[deafBehind,rd,wr]
   have hT:=iF.set Wg w 0 (.int .u64 (((Vc (p.n-(r1+1)) D:Nat)+1)*KK))
   obtain⟨tr,hgt⟩:=hdl.gt ((cG (V 0) _).okV hok0) (v:=iO (V 0) (w.setCell (stA Wg) (.int .u64 (((Vc (p.n-(r1+1)) D:Nat)+1)*KK)))) λd g v1 he hk=>hk v1 ((cG _ _).trans he) (((cG _ _).trans he).okV hok0)
   rw[<-(hR.trans htr)]
   refine oQ G ha hcom hgo (hT.kept G hcom.pay) (hcom.turn hT) (λx _=>cG _ _) (dL.of_env (cG _ _)) (λe he fn pos=>aRf (Gy e he) fn pos) (λe he x hx=>(bLx (S:=S) (Gy e he) x hx).1) (λe he=>aMr (Gy e he)) (λe he=>aRo (Gy e he) (by simpa[Fe]using bF hwg0))
    (λi _ r _=>hT.cells G i r) (tag':=.sp r1 3) (r':=tr) (by rw[hdd];exact .go hr hgt) (wI hwg0 _) ?_ (by simp) (.inl (by simp only[phi];omega))
   have e:(((Vc (p.n-(r1+1)) D:Nat):Int)+1)*KK=((Vc (p.n-(r1+1)) D+pend (.sp r1 3):Nat):Int)*KK:=by simp[pend]
   rw[e]
   exact .opn trivial ho (by simp)
 | go hr h =>
  rename_i r1
  cases htr:r with
  | node f =>
   rw[htr]at h
   obtain⟨_,hv,hs⟩:=h
   obtain⟨g',v',w',es,hgo,hq,hgt⟩:=hs (V 0) w (.refl _) hsim0 hI
   have:=bCr (sl:=sl) G ha hcom hwg hmode (by simp) hgo hq (.go hr hgt) (by rw[hR,htr];exact rE f _)
   rwa [hR,htr]at this
  | leaf =>
   rw[htr]at h
   obtain⟨rfl,_,hgo'⟩:=h
   obtain⟨g',child,hsp,_,⟨tr,hgt⟩,hnext⟩:=hgo' (V 0) (.refl _)
   have hsp:=hsp w hsim0 hI
   obtain⟨ho,rfl,rfl,_⟩:=hmode.open_inv trivial
   have hrun':=runT_crowd_spawn (P:=P) (sl:=sl) (i:=0) ha (by simpa using hsp)
   rw[hcom.size]at hrun'
   have hlt0:0<gs.size:=(AX.1 ha).1
   have eV:Vc (p.n-(r1+1)+1) (Bd D (p.n-(r1+1)) ⟨7,0,0⟩)=Vc (p.n-(r1+1)) D+1:=by simp only[Vc,sumTo,Bb];rw[sumTo_upd_out D _ Cb (Ay _)];rfl
   have eS:Ssum (p.n-(r1+1)+1) (Bd D (p.n-(r1+1)) ⟨7,0,0⟩)=Ssum (p.n-(r1+1)) D+7:=by simp only[Ssum,sumTo,Bb];rw[sumTo_upd_out D _ WD.stage (Ay _)]
   have ho':OpenSt (p.n-(r1+1)+1) (Bd D (p.n-(r1+1)) ⟨7,0,0⟩):=λi hi=>by
    by_cases e:i=p.n-(r1+1)
    ·subst e;rw[Bb];simp
    ·rw[Bh D _ e];exact ho i (by omega)
   have ha':((gs.setIfInBounds 0 g').push child)[0]? = some g':=by rw[FA (by simp;omega),<-Al];simp[hlt0]
   have ej:p.n-(r1+1)+1=p.n-r1:=by omega
   have hsp':∀r0,Com P L Wg p S w0 m (p.n-(r1+1)+1) _ w _ _ (Bd (Bd R (m+(p.n-(r1+1))) tr) 0 r0) _ 0:=λr0=>hcom.spawn G (a':=g') (r0:=r0) (child:=child) (x:={ g:=0,fn:=a.frame.fn,pos:=a.frame.place,act:=.go (m+(p.n-(r1+1))) }) (y:={ g:=m+(p.n-(r1+1)),fn:=child.frame.fn,pos:=a.frame.place,act:=.start }) ⟨rfl,rfl⟩ ⟨rfl,rfl⟩ (bF hwg) hgt
   rw[ej]at eV eS ho' hsp'
   have est:∀tag',pend tag'=0->((Vc (p.n-(r1+1)) D+pend (.sp r1 3):Nat):Int)*KK=((Vc (p.n-r1) (Bd D (p.n-(r1+1)) ⟨7,0,0⟩)+pend tag':Nat):Int)*KK:=λtag' hp=>by rw[eV,hp];simp[pend]
   cases r1 with
   | zero =>
    obtain⟨tr0,hk⟩:=hnext
    simp only[Nat.sub_zero]at hrun' hsp' eV eS ho' est
    refine⟨_,_,(phi p.n (Vc p.n (Bd D (p.n-(0+1)) ⟨7,0,0⟩)) .w1+Ssum p.n (Bd D (p.n-(0+1)) ⟨7,0,0⟩),_,_),hrun',Fh _ _ (by simp only[phi];have:=Vc_le p.n (Bd D (p.n-(0+1)) ⟨7,0,0⟩);omega),
     _,w,sl,p.n,_,_,_,.w1,0,g',_,_,rfl,ha',?_,hsp' tr0,hwg,?_,by simp,rfl⟩
    ·rw[Bb,Bb];exact .w1 hk
    ·rw[est .w1 rfl]
     exact .opn trivial ho' (by simp)
   | succ r2 =>
    obtain⟨tr0,hk⟩:=hnext
    refine⟨_,_,(phi p.n (Vc (p.n-(r2+1)) (Bd D (p.n-(r2+1+1)) ⟨7,0,0⟩)) (.sp r2 4)+Ssum (p.n-(r2+1)) (Bd D (p.n-(r2+1+1)) ⟨7,0,0⟩),_,_),hrun',Fh _ _ (by simp only[phi];omega),
     _,w,sl,p.n-(r2+1),_,_,_,.sp r2 4,0,g',_,_,rfl,ha',?_,hsp' tr0,hwg,?_,by simp,rfl⟩
    ·rw[Bb,Bb];exact .a1 (by omega) hk
    ·rw[est (.sp r2 4) rfl]
     exact .opn trivial ho' (by simp)
 | w1 h =>
  cases htr:r with
  | node f =>
   rw[htr]at h
   obtain⟨_,hv,hs⟩:=h
   obtain⟨g',v',w',es,hgo,hq,hgt⟩:=hs (V 0) w (.refl _) hsim0 hI
   have:=bCr (sl:=sl) G ha hcom hwg hmode (by simp) hgo hq (.w1 hgt) (by rw[hR,htr];exact rE f _)
   rwa [hR,htr]at this
  | leaf =>
   rw[htr]at h
   obtain⟨hd,_,hall⟩:=h
   obtain⟨ho,rfl,rfl,_⟩:=hmode.open_inv trivial
   have hwg0:w.heap[Wg]? = some (wgBlock L.tWg ((Vc p.n D:Nat)*KK:Int) 0):=by simpa[pend]using hwg
   obtain⟨g',hgo,h0,hne⟩:=hall w (Vc p.n D) (by omega) hwg0
   have hdd:deafBehind d0 #[rd (stA Wg)]=d0:=by simp[deafBehind,rd]
   rw[<-(hR.trans htr)]
   by_cases hv:Vc p.n D=0
   ·obtain⟨n,hk⟩:=(h0 hv).count
    refine sV G ha hcom hgo (.refl Wg w) hwg (bkS ConcN.bk_rd) (tag':=.acq) (λv _=>by rw[hdd];exact .acq hk) ?_ (by simp) (.inl (by simp only[phi];omega))
    have e:((Vc p.n D+pend .w1:Nat):Int)*KK=0:=by rw[hv];simp[pend]
    rw[e]
    exact .fin trivial (allQuit_of ho hv)
   ·obtain⟨n,hk⟩:=(hne hv).count
    refine sV G ha hcom hgo (.refl Wg w) hwg (bkS ConcN.bk_rd) (tag':=.w2 (Vc p.n D)) (λv _=>by rw[hdd];subst hd;exact .w2 hk) (hmode.reopen trivial trivial rfl (λvs e=>by cases e;omega)) (by simp) (.inl (by simp only[phi];omega))
 | w2 h =>
  rename_i vs n
  rw[<-hR]
  rcases h.cases with ⟨hd,_,hall⟩|⟨n',rfl,_,g',es,hmu,hgo,h'⟩
  ·obtain⟨ho,rfl,rfl,hw2⟩:=hmode.open_inv trivial
   obtain⟨hle,h1⟩:=hw2 vs rfl
   have hwg0:w.heap[Wg]? = some (wgBlock L.tWg ((Vc p.n D:Nat)*KK:Int) 0):=by simpa[pend]using hwg
   obtain⟨hhit,hmiss⟩:=hall w (Vc p.n D) (by omega) hwg0
   by_cases e:Vc p.n D=vs
   ·obtain⟨g',hgo,hk⟩:=hhit e
    obtain⟨n2,hk⟩:=hk.count
    exact sV G ha hcom hgo (iF.set Wg w 0 _) (wI hwg0 _) (bkS Gy) (tag':=.w3) (λv _=>by rw[show deafBehind d0 #[rd (stA Wg),wr (stA Wg)]=d0 by simp[deafBehind,rd,wr]];exact .w3 hk) (.reg trivial ho (by omega)) (by simp) (.inl (by simp only[phi];omega))
   ·obtain⟨g',hgo,hk⟩:=hmiss e
    have hdd:deafBehind d0 #[rd (stA Wg)]=d0:=by simp[deafBehind,rd]
    have hk':Dl P true (cP L.tWg Wg) (dK Wg) (λd g=>d=1/\yW P L Wg K An d g) d0 g':=hk.bind λd g hk2=>by rw[hk2.1,hd];exact hAn g hk2.2
    obtain⟨tr,hgt⟩:=hk'.gt (v:=V 0) hok0 (Stop:=aPa P L Wg K An) λd g v1 _ hk=>⟨.leaf,hk⟩
    exact sV G ha hcom hgo (.refl Wg w) hwg (bkS ConcN.bk_rd) (tag':=.w1) (r':=tr) (λv he=>by rw[hdd];exact .w1 (hgt.env wH he)) (hmode.reopen trivial trivial rfl (by simp)) (by simp) (.inl (by simp only[phi];omega))
  ·exact idle (by simp) (hgo w hI) hmu (λv=>.w2 h') (by rw[hR];exact iW n')
 | w3 h =>
  rename_i n
  rw[<-hR]
  rcases h.cases with ⟨hs,hoff,hblk,htake⟩|⟨n',rfl,_,g',es,hmu,hgo,h'⟩
  ·cases hmode with
   |opn h1 _ _=>exact h1.elim
   |reg h1 h2 h3=>exact sV G ha hcom (hblk w _ hwg) (.refl Wg w) hwg (by simp) (tag':=.blk) (r':=Tr.nat n) (λv _=>.blk ⟨hs,hoff,hblk,htake⟩) (.reg trivial h2 h3) (by simp) (.inr ⟨rfl,by rw[hR];exact iW n⟩)
   |last L' h1 h2 h3 h4=>exact sV G ha hcom (hblk w _ hwg) (.refl Wg w) hwg (by simp) (tag':=.blk) (r':=Tr.nat n) (λv _=>.blk ⟨hs,hoff,hblk,htake⟩) (.last L' trivial h2 h3 h4) (by simp) (.inr ⟨rfl,by rw[hR];exact iW n⟩)
   | sema h2 =>
    obtain⟨g',hgo,hk⟩:=htake w hwg
    obtain⟨n2,hk⟩:=hk.count
    exact sV G ha hcom hgo (iF.set Wg w 1 _) (bEe hwg 0) (bkS ConcN.bk_sem) (tag':=.w4) (λv _=>by rw[show deafBehind d0 (semEvents (smA Wg))=d0 by simp[deafBehind,semEvents]];exact .w4 hk) (.fin trivial h2) (by simp) (.inl (by simp only[phi];omega))
   |fin h1 _=>exact h1.elim
  ·exact idle (by simp) (hgo w hI) hmu (λv=>.w3 h') (by rw[hR];exact iW (n'+1))
 |blk h=>simp at hrun
 | w4 h =>
  rename_i n
  rw[<-hR]
  rcases h.cases with ⟨_,hx⟩|⟨n',rfl,_,g',es,hmu,hgo,h'⟩
  ·obtain⟨hq,rfl,rfl⟩:=hmode.fin_inv trivial
   obtain⟨g',hgo,hk⟩:=hx w hwg
   obtain⟨n2,hk⟩:=hk.count
   exact sV G ha hcom hgo (.refl Wg w) hwg (bkS ConcN.bk_rd) (tag':=.acq) (λv _=>by rw[show deafBehind d0 #[rd (stA Wg)]=d0 by simp[deafBehind,rd]];exact .acq hk) (.fin trivial hq) (by simp) (.inl (by simp only[phi];omega))
  ·exact idle (by simp) (hgo w hI) hmu (λv=>.w4 h') (by rw[hR];exact iW n')
 | acq h =>
  rename_i n
  rw[<-hR]
  rcases h.cases with ⟨hd,_,g',hgo,hk⟩|⟨n',rfl,_,g',es,hmu,hgo,h'⟩
  ·obtain⟨hq,rfl,rfl⟩:=hmode.fin_inv trivial
   obtain⟨n2,hk⟩:=hk.count
   have hlt':Wg<w.heap.size:=bF hwg
   refine oQ G ha hcom (hgo w hI) ((iF.refl Wg w).kept G hcom.pay) (V':=V) hcom.vws (λx _=>.refl _) (dL.of_env (.refl _)) (λe he fn pos=>?_) (λe he x hx=>?_) (λe he=>?_) (λe he=>?_) (λ_ _ _ _=>rfl) (tag':=.ret) (r':=Tr.nat n2)
    (by rw[show deafBehind d0 #[mk (.acquire (stA Wg))]=0 by simp[deafBehind,mk,hd]];exact .ret hk) hwg (.fin trivial hq) (λ_=>?_) (.inl (by simp only[phi];omega))
   ·simp at he;subst he;exact⟨rfl,λx hx=>by simp[ofEvent_mk,BE]at hx⟩
   ·simp at he;subst he;simp[ofEvent_mk,BE]at hx
   ·simp at he;subst he;simp[mk]
   ·simp at he;subst he;rw[ofEvent_mk];exact hlt'
   ·have e1:BS 0 a.frame.fn a.frame.place #[mk (.acquire (stA Wg))]=#[{ g:=0,fn:=a.frame.fn,pos:=a.frame.place,act:=.mark (.acquire (stA Wg)) }]:=by rw[ofEvents_eq];simp[ofEvent_mk]
    have hy:(t++#[({ g:=0,fn:=a.frame.fn,pos:=a.frame.place,act:=.mark (.acquire (stA Wg)) }:MemOp)])[t.size]? = some { g:=0,fn:=a.frame.fn,pos:=a.frame.place,act:=.mark (.acquire (stA Wg)) }:=by simp
    have hm:=hcom.mpos
    refine⟨t.size,by rw[e1,act?_of hy],by rw[e1];simp[Gh],by rw[e1];exact⟨0,by simp[Gh],by rw[deaf_old (Ay _)];exact hcom.deaf0.trans hd⟩,λi hi=>?_⟩
    obtain⟨r,hr⟩:=hcom.rel i hi (by rw[hq i hi];omega)
    exact⟨r,hr.appOther EH (by omega),lt_of_act? hr.act⟩
  ·exact idle (by simp) (hgo w hI) hmu (λv=>.acq h') (by rw[hR];exact iW n')
 | ret h =>
  rename_i n
  rw[<-hR]
  rcases h.cases with ⟨hd,hk⟩|⟨n',rfl,_,g',es,hmu,hgo,h'⟩
  ·exact absurd ⟨rfl,hd,hk⟩ hstop
  ·have hm:=hcom.mpos
   exact sV G ha hcom (hgo w trivial) (.refl Wg w) hwg (λe he=>.inl (bk_of_mute ((hmu e he).resolve_right id))) (tag':=.ret) (λv _=>.ret h') hmode (λ_=>(hacq rfl).app λi r _ hr=>hr.appOther EH (by omega)) (.inr ⟨rfl,by rw[hR];exact iW n'⟩)
end
end Go.Am
end
section
open List renaming map_map->E,mapM_map->J
namespace Go.Am
open Go.Conc Go.Conc.Lib
open Go.ConcN (CT Apart Ok0 OkW PermW RelBy CTag phi WD Vc Ssum sumTo sumTo_upd OpenSt AllQuit isOpen isW3 isFin pend phi_mono phi_retag le_sumTo Vc_le Vc_upd)
open Go.ConcR (KK wgBlock stA smA rd wr mk)
section
variable {P:Program} {L:WgLink} {Wg:Nat} {p:Pl} {K An:Goroutine->Prop} {S:Nat->Prop} {w0:World} {m j:Nat} {gs:Array Goroutine} {w w':World} {sl:Option (Nat×Nat)} {t:Trace} {D:Nat->WD} {R:Nat->Tr} {V V':Nat->World} {tag tag':CTag} {d0:Nat} {a a':Goroutine} {st sm st' sm':Int} {es:Array Event} {r':Tr} {Post:Value->World->Prop}
def CS.ret_j{d:Nat}{r:Tr}{v:World}(h:CS P L Wg p K An tag j r d a v)(e:tag=.ret):j=p.n:=by cases h<;>first|rfl|cases e
def bOm(hKr:∀g,K g->g.status=.running)(G:Geo Wg p S)(ha:gs[0]? = some a)(hcs:CS P L Wg p K An tag j (R 0) d0 a (V 0))(hcom:Com P L Wg p S w0 m j gs w t D R V d0)(hwg:w.heap[Wg]? = some (wgBlock L.tWg st sm))(hmode:En j D tag st sm)
  (hacq:tag=.ret->wB Wg m j t) {i:Nat} (h0:0<i) (him:i<m) {g:Goroutine} (hg:gs[i]? = some g) (hrun:g.status=.running) :
  ∃M ops μ',runT P (crowd gs w sl) i=(.next M,ops)/\MLt μ' (phi p.n (Vc j D) tag+Ssum j D,jL R (m+j),R 0)/\Inv P L Wg p K An S w0 m μ' M (t++ops):=by
 obtain⟨g1,q,hg1,hR,hq⟩:=hcom.old i h0 him
 obtain rfl:g=g1:=by rw[hg]at hg1;exact Bm hg1
 cases q with
 |zero=>rw[hq.1]at hrun;cases hrun
 | succ q =>
  rcases hq with ⟨hf,_⟩|⟨_,g',es,hm',hstp,hq'⟩
  ·rw[hf]at hrun;cases hrun
  obtain⟨tag',r0,hcs',htag,hwk⟩:=hcs.wokenBy hKr g g' w
  have hrunT:=runT_crowd_go (P:=P) (sl:=sl) (i:=i) hg (by rw[show(i==0)=false by simp;omega];exact hstp w)
  have hcom':=hcom.stepO G h0 him hg hm' hq'
  have hcom'':Com P L Wg p S w0 m j ((gs.map (woken P g g' w)).setIfInBounds i g') w (t++BS i g.frame.fn g.frame.place es) D (Bd (Bd R i (Tr.nat q)) 0 r0) V d0 :=
   { hcom' with wk:=λi' hi'=>by rw[Bh (Bd R i (Tr.nat q)) r0 (show m+i'≠0 by omega)];exact hcom'.wk i' hi',old:=λi' h1 h2=>by rw[Bh (Bd R i (Tr.nat q)) r0 (show i'≠0 by omega)];exact hcom'.old i' h1 h2 }
  refine⟨_,_,(phi p.n (Vc j D) tag'+Ssum j D,jL (Bd (Bd R i (Tr.nat q)) 0 r0) (m+j),r0),hrunT,?_,_,w,sl,j,D,_,V,tag',d0,woken P g g' w a,st,sm,rfl,?_,by rw[Bb];exact hcs',hcom'',hwg,hmode.retag htag,?_,by rw[Bb]⟩
  ·rw[phi_retag p.n _ htag]
   refine Gi _ (Fh _ _ (aLk (k:=i) (by omega) (by omega) ?_ λx h0 hx=>by rw[Bh _ _ h0,Bh _ _ hx]))
   rw[Bh _ _ (by omega),Bb,hR];exact iW q
  ·rw[AF (by omega),BU,ha];rfl
  ·intro e
   rcases htag with rfl|⟨_,rfl⟩
   ·exact(hacq e).app λi' r _ hr=>hr.appOther EH (by omega)
   ·cases e
def bDv(hKr:∀g,K g->g.status=.running)(ha:gs[0]? = some a)(hcs:CS P L Wg p K An tag j (R 0) d0 a (V 0))(hcom:Com P L Wg p S w0 m j gs w t D R V d0)(hmode:En j D tag st sm) :
  ∃(i:Nat) (g:Goroutine),gs[i]? = some g/\g.status=.running:=by
 rcases hcs.status hKr with ⟨h,_⟩|⟨_,rfl⟩
 ·exact⟨0,a,ha,h⟩
 have wk:∀i,i<j->(D i).stage≠1->∃(i:Nat) (g:Goroutine),gs[i]? = some g/\g.status=.running:=λi hi hne=>by
  obtain⟨g,hg,hs⟩:=hcom.wk i hi;rcases hs.status with h|⟨_,h⟩
  ·exact⟨m+i,g,hg,h⟩
  ·exact absurd h hne
 cases hmode with
 |opn h1 _ _=>exact h1.elim
 | reg _ h2 h3 =>
  obtain⟨i,hi,h5⟩:∃i,i<j/\Cb (D i)≠0:=E9 λhno=>by
   have:Vc j D=0:=by
    have:∀i,i<j->Cb (D i)=0:=λi hi=>E9 λhne=>hno ⟨i,hi,hne⟩
    have e:=ConcN.sumTo_congr (f:=λi=>Cb (D i)) (g:=λ_=>0) (j:=j) this;have z:∀j,sumTo j (λ_=>0)=0:=λj=>by induction j with
     |zero=>rfl
     |succ j ih=>simp[sumTo,ih]
    simp only[Vc];rw[e,z]
   omega
  refine wk i hi λe=>h5 ?_
  simp[Cb,e]
 |last L' _ h2 h3 _=>exact wk L' h2 (by omega)
 |fin h1 _=>exact h1.elim
def bMc(hKr:∀g,K g->g.status=.running)(ha:gs[0]? = some a)(hcs:CS P L Wg p K An tag j (R 0) d0 a (V 0))(hcom:Com P L Wg p S w0 m j gs w t D R V d0):∀g∈gs,awake g:=by
 intro g hg tm;obtain⟨i,hi⟩:=Array.mem_iff_getElem?.1 hg;by_cases h0:i=0
 ·subst h0;rw[ha]at hi;cases hi;rcases hcs.status hKr with ⟨hs,_⟩|⟨hs,_⟩<;>rw[hs]<;>simp
 ·have hlt:i<m+j:=by have:=(AX.1 hi).1;rw[hcom.size]at this;omega
  by_cases him:i<m
  ·obtain⟨g',q,hg',_,hq⟩:=hcom.old i (by omega) him;rw[hi]at hg';cases hg';rcases hq.status with h|h<;>rw[h]<;>simp
  ·obtain⟨g',hg',hs⟩:=hcom.wk (i-m) (by omega);rw[show m+(i-m)=i by omega,hi]at hg';cases hg';rcases hs.status with h|⟨h,_⟩<;>rw[h]<;>simp
def bQr(hKr:∀g,K g->g.status=.running)(hAn:∀g,An g->Dl P true (cP L.tWg Wg) (dK Wg) (λd g=>d=1/\yW P L Wg K An d g) 1 g)(G:Geo Wg p S)(hn:p.n<2147483648)
  (hFin:∀(gs:Array Goroutine) (w:World) (sl:Option (Nat×Nat)) (R:Nat->Tr) (V:Nat->World) (D:Nat->WD) (a:Goroutine) (t:Trace),gs[0]? = some a->K a->Com P L Wg p S w0 m p.n gs w t D R V 0->w.heap[Wg]? = some (wgBlock L.tWg 0 0)->AllQuit p.n D->wB Wg m p.n t->dF P Post (crowd gs w sl) t) :
  ∀μ M t,Inv P L Wg p K An S w0 m μ M t->dF P Post M t:=by
 intro μ
 induction μ using bZj.induction with
 | _ μ ih =>
  rintro M t ⟨gs,w,sl,j,D,R,V,tag,d0,a,st,sm,rfl,ha,hcs,hcom,hwg,hmode,hacq,rfl⟩
  by_cases hstop:tag=.ret/\d0=0/\K a
  ·obtain⟨rfl,rfl,hk⟩:=hstop
   obtain⟨hq,rfl,rfl⟩:=hmode.fin_inv trivial
   obtain rfl:j=p.n:=hcs.ret_j rfl
   exact hFin gs w sl R V D a t ha hk hcom hwg hq (hacq rfl)
  obtain⟨i,g,d,sl',hg,hrun,hst⟩:=crowd_pick (P:=P) (w:=w) (sl:=sl) (bMc hKr ha hcs hcom) (bDv hKr ha hcs hcom hmode)
  have hcs':=hcs.env (cG (V 0) (w.at d))
  have hcom':=hcom.at d
  have hwg':(w.at d).heap[Wg]? = some (wgBlock L.tWg st sm):=hwg
  have hm:=hcom.mpos
  by_cases h0:i=0
  ·subst h0
   obtain rfl:g=a:=by rw[ha]at hg;exact(Bm hg).symm
   obtain⟨M,ops,μ',h1,h2,h3⟩:=aQe (sl:=sl') hKr hAn G hn ha hcs' hcom' hwg' hmode hacq hrun hstop
   exact dF.step (hst.trans h1) (ih μ' h2 M _ h3)
  have hlt:i<m+j:=by have:=(AX.1 hg).1;rw[hcom.size]at this;omega
  by_cases him:i<m
  ·obtain⟨M,ops,μ',h1,h2,h3⟩:=bOm (sl:=sl') hKr G ha hcs' hcom' hwg' hmode hacq (by omega) him hg hrun
   exact dF.step (hst.trans h1) (ih μ' h2 M _ h3)
  ·obtain⟨i',rfl⟩:∃i',i=m+i':=⟨i-m,by omega⟩
   obtain⟨M,ops,μ',h1,h2,h3⟩:=aQc (sl:=sl') hKr G hn hcs.bound ha hcs' hcom' hwg' hmode hacq (by omega) hg hrun
   exact dF.step (hst.trans h1) (ih μ' h2 M _ h3)
end
end Go.Am
end
section
open List renaming map_map->E,mapM_map->J
namespace Go.Am
open Go.Conc Go.Conc.Lib
open Go.ConcN (CT Apart Ok0 OkW PermW RelBy CTag phi WD Vc Ssum sumTo sumTo_upd OpenSt AllQuit isOpen isW3 isFin pend)
open Go.ConcR (KK wgBlock stA smA rd wr mk)
def inV(v:World)(C:Nat):World:={ v with heap:=((v.heap.map aCc).setIfInBounds C hole).push hole }
def uV(v:World)(C:Nat):(inV v C).heap.size=v.heap.size+1:=by simp[inV]
def aVl{v:World}{C:Nat}(h:C<v.heap.size):(inV v C).heap[C]? = some hole:=by simp[inV,Bx,h]
def aIy(v:World)(C:Nat):(inV v C).heap[v.heap.size]? = some hole:=by simp only[inV,Bx];simp
def zL{v:World}{C b:Nat}(h:b<v.heap.size)(hne:b≠C):(inV v C).heap[b]? = (v.heap[b]?).map aCc:=by simp only[inV,Bx,Array.size_setIfInBounds,Array.size_map,Ai (Nat.ne_of_lt h)];rw[AF (Eo hne),BU]
def bIj{v:World}{C b:Nat}(h:v.heap[b]? = some hole):(inV v C).heap[b]? = some hole:=by
 have hlt:=bF h;by_cases e:b=C
 ·subst e;exact aVl hlt
 ·rw[zL hlt e,h,AU,aCb]
def aFz{v:World}{C b:Nat}(h:b<=v.heap.size):qW (inV v C) b:=by
 rcases Nat.lt_or_eq_of_le h with hlt|rfl
 ·by_cases e:b=C
  ·subst e;exact tM (aVl hlt)
  ·obtain⟨c,t,e'⟩:=qL v.heap[b];exact⟨c,t,by rw[zL hlt e,Al hlt,AU,e']⟩
 ·exact tM (aIy v C)
def bIi(v:World)(C:Nat):OkV (inV v C):=λb o ho=>by have hlt:=bF ho;rw[uV]at hlt;obtain⟨c,t,e⟩:=aFz (v:=v) (C:=C) (b:=b) (by omega);rw[e]at ho;obtain rfl:=Bm ho;rfl
def bSv{v w:World}(h:Sim v w)(C:Nat)(o:Obj):Sim (inV v C) { w with heap:=w.heap.push o }:=by
 refine⟨h.tape,h.drawn,h.os,h.output,by rw[uV];simp[h.size],λb x hx=>?_⟩;have hlt:=bF hx;rw[uV]at hlt;by_cases e:b=v.heap.size
 ·subst e;rw[aIy]at hx;exact .inl (Bm hx).symm
 ·by_cases e':b=C
  ·subst e';rw[aVl (by omega)]at hx;exact .inl (Bm hx).symm
  ·rw[zL (by omega) e']at hx;have:=(aNp h).blk b x (by rw[nJ];exact hx);simp only[Bx];rw[Ai (by rw[<-h.size];exact e)];exact this
structure bVl(p:Pl)(v v':World):Prop where
 ok:OkV v'
 tape:v'.tape=v.tape
 os:v'.os=v.os
 output:v'.output=v.output
 size:v.heap.size<v'.heap.size
 old:∀b,b<v.heap.size->b≠p.C->v'.heap[b]? = v.heap[b]?
 val:∃cs:Array Value,v'.heap[p.C]? = some (.cells cs p.ety (0,0))/\cs.size=p.tot/\∀i,i<p.n->∀r,r<p.wd->cs[i*p.wd+r]? = some (p.val i r)
 new:∀b,v.heap.size<=b->b<v'.heap.size->v'.heap[b]? = some hole
def KF(P:Program)(W0:World)(Post:Value->World->Prop)(p:Pl)(v:World)(g:Goroutine):Prop:=g.status=.running/\∀v',bVl p v v'->dX P W0 Post g v'
section
variable {P:Program} {L:WgLink} {p:Pl} {W0:World} {Post:Value->World->Prop} {S:Nat->Prop}
def cAb{Wg m n:Nat}{gs:Array Goroutine}{w w0:World}{t:Trace}{D:Nat->WD}{R:Nat->Tr}{V:Nat->World}(hcom:Com P L Wg p S w0 m n gs w t D R V 0)(hacq:wB Wg m n t):t.HandedOver:=by
 intro i g hgi hne hc;have hm:=hcom.mpos;by_cases hlt:g<m
 ·exact hcom.over i g hgi hne hlt hc
 obtain⟨q,h1,h2,h3,h4⟩:=hacq;obtain⟨op,ho,rfl⟩:=Af.1 hgi;have:=hcom.ct.gs i op ho;obtain⟨r,hr,hrq⟩:=h4 (op.g-m) (by omega);rw[show m+(op.g-m)=op.g by omega]at hr;have edge:HappensBefore t r q:=.single (.inr ⟨.marked hrq (.inr hr.act) h1 (λk _ _=>hcom.norel k),hr.heard,h3⟩);have hle:i<=r:=Nat.le_of_not_lt λhlt=>hr.after i hlt hgi hc
 rcases A4 i r with hlt|hge
 ·exact⟨q,h2,.trans (.single (.inl ⟨hlt,op.g,hgi,hr.g⟩)) edge⟩
 ·obtain rfl:i=r:=by omega
  exact⟨q,h2,edge⟩
def WS.quits{Wg i s d:Nat}{r:Tr}{g:Goroutine}{v:World}(h:WS P L Wg p i s r d g v)(hs:s=1):∃q,QuitsD P q d g:=by cases h<;>first|exact absurd hs (by decide)|exact⟨_,‹_›⟩
def bYs{v1 ws:World}(hsim:Sim v1 ws)(hok:OkV v1)(hKp:Kp W0 v1 ws)(hS:∀b,S b->v1.heap[b]? = some hole){cs0:Array Value}(hC:v1.heap[p.C]? = some (.cells cs0 p.ety (0,0)))(hCs:cs0.size=p.tot)(hty:p.ety≠0)
  {m:Nat} {gs:Array Goroutine} {w:World} {sl:Option (Nat×Nat)} {R:Nat->Tr} {V:Nat->World} {D:Nat->WD} {a:Goroutine} {t:Trace} (ha:gs[0]? = some a) (hK:KF P W0 Post p v1 a)
  (hcom:Com P L ws.heap.size p S { ws with heap:=ws.heap.push (wgBlock L.tWg 0 0) } m p.n gs w t D R V 0) (hwg:w.heap[ws.heap.size]? = some (wgBlock L.tWg 0 0)) (hq:AllQuit p.n D) (hacq:wB ws.heap.size m p.n t):dF P Post (crowd gs w sl) t:=by
 have hm:=hcom.mpos
 have hsz:v1.heap.size=ws.heap.size:=hsim.size
 have hwlt:=bF hwg
 have hClt:=bF hC
 obtain⟨cs,fz,hcs,hcn,hfz⟩:=hcom.pay
 have hstay:∀b,b<ws.heap.size->(b≠p.C\/p.tot=0)->w.heap[b]? = ws.heap[b]? := λb hb hne=>by rw[hcom.stay b hb hne];simp only[Bx];rw[Ai (by omega)]
 generalize hv:({ v1 with heap:=v1.heap.setIfInBounds p.C (.cells cs p.ety (0,0))++AY (w.heap.size-v1.heap.size) hole,drawn:=w.drawn }:World)=v'
 have gC:v'.heap[p.C]? = some (.cells cs p.ety (0,0)):=by rw[<-hv];simp only;rw[B3 (by simpa using hClt),BT hClt]
 have gO:∀b,b<v1.heap.size->b≠p.C->v'.heap[b]? = v1.heap[b]? := λb hb hne=>by rw[<-hv];simp only;rw[B3 (by simpa using hb),AF (Eo hne)]
 have gS:v'.heap.size=w.heap.size:=by rw[<-hv];simp;omega
 have gN:∀b,v1.heap.size<=b->b<v'.heap.size->v'.heap[b]? = some hole:=λb h1 h2=>by rw[gS]at h2;rw[<-hv];simp only;rw[Array.getElem?_append_right (by simpa using h1),Array.getElem?_replicate];simp;omega
 have gok:OkV v':=λb o ho=>by
  have hlt:=bF ho;by_cases e:b=p.C
  ·subst e;rw[gC]at ho;obtain rfl:=Bm ho;rfl
  ·rcases A4 b v1.heap.size with h|h
   ·rw[gO b h e]at ho;exact hok b o ho
   ·rw[gN b h hlt]at ho;obtain rfl:=Bm ho;rfl
 have gsim:Sim v' w:=by
  refine⟨?_,?_,?_,?_,gS,λb o ho=>?_⟩
  ·rw[<-hv,hcom.like.1];exact hsim.tape
  ·rw[<-hv]
  ·rw[<-hv,hcom.like.2.1];exact hsim.os
  ·rw[<-hv,hcom.like.2.2];exact hsim.output
  ·have hlt:=bF ho;by_cases e:b=p.C
   ·subst e;rw[gC]at ho;rw[hcs];obtain rfl:=Bm ho;by_cases hz:cs.size=0
    ·exact .inr (.inr ⟨cs,p.ety,fz,by rw[hz],rfl⟩)
    ·rw[hfz hz];exact .inr (.inl rfl)
   ·rcases A4 b v1.heap.size with h|h
    ·rw[gO b h e]at ho;rw[hstay b (by omega) (.inl e)];exact hsim.blk b o ho
    ·rw[gN b h hlt]at ho;exact .inl (Bm ho).symm
 have hF:bVl p v1 v':=by refine⟨gok,by rw[<-hv],by rw[<-hv],by rw[<-hv],by omega,gO,⟨cs,gC,hcn,λi hi r hr=>?_⟩,gN⟩;have:=hcom.has i hi (by rw[hq i hi];omega) r hr;simpa[BA,Pl.cell,hcs]using this
 have hover:=cAb hcom hacq
 have hquit:∀i,0<i->∀g,gs[i]? = some g->∃q,QuitsD P q (Deaf t i) g:=λi h0 g hg=>by
  have hlt:i<m+p.n:=by have:=(AX.1 hg).1;rw[hcom.size]at this;exact this
  by_cases him:i<m
  ·obtain⟨g',q,hg',_,hqq⟩:=hcom.old i h0 him;rw[hg]at hg';cases hg';exact⟨q,hqq⟩
  ·obtain⟨g',hg',hs⟩:=hcom.wk (i-m) (by omega);rw[show m+(i-m)=i by omega,hg]at hg';cases hg';obtain⟨q,hqq⟩:=hs.quits (hq (i-m) (by omega));have:=hcom.deafW (i-m) (by omega);rw[show m+(i-m)=i by omega]at this;exact⟨q,by rw[this];exact hqq⟩
 have hqf:∃q:Nat->Nat,∀i g,0<i->gs[i]? = some g->QuitsD P (q i) (Deaf t i) g:=by
  classical
  refine Classical.axiomOfChoice (r:=λi q=>∀g,0<i->gs[i]? = some g->QuitsD P q (Deaf t i) g) (λi=>?_) |>.elim λq h=>⟨q,λi g h0 hg=>h i g h0 hg⟩
  by_cases h:∃g,0<i/\gs[i]? = some g
  ·obtain⟨g,h0,hg⟩:=h;obtain⟨q,hqq⟩:=hquit i h0 g hg;exact⟨q,λg' _ hg'=>by rw[hg]at hg';cases hg';exact hqq⟩
  ·exact⟨0,λg h0 hg=>(h ⟨g,h0,hg⟩).elim⟩
 obtain⟨q,hqf⟩:=hqf
 refine hK.2 v' hF v' (.refl _) gok (ShW S ws.heap.size) gs w sl t q (λb hb=>?_) gsim ha ⟨λi g h0 hg=>hqf i g h0 hg,λi hi=>hcom.above i (by rw[<-hcom.size];exact hi)⟩ ⟨hcom.ct.nr,λi x hx hmm=>?_,hover,hcom.deaf0,hcom.seen⟩
  ⟨hcom.ct.quiet,hcom.mem,λi op hop=>by have:=hcom.ct.gs i op hop;rw[hcom.size];omega⟩ (λb o hb ho=>?_)
 ·rcases hb with hb|rfl
  ·have h:=hS b hb
   have hlt:=bF h
   rw[gO b hlt (λe=>by subst e;rw[hC]at h;injection h with h;injection h with _ e2 _;exact hty e2)];exact h
  ·exact gN _ (by omega) (by omega)
 ·rcases hcom.kn i x hx with h|h|⟨⟨g,hg,hgm⟩,hk⟩
  ·exact .inl h
  ·exact .inr h
  ·obtain⟨q',hq1,hq2⟩:=hover i g hg (by omega) ⟨x,hx,hmm,.inl hk⟩
   obtain⟨z,hz,hzg⟩:=Af.1 hq1
   exact .inl ⟨q',z,hz,hzg,.inr hq2⟩
 ·obtain⟨h1,c,ty,h2⟩:=hKp b o hb ho
  have hlt:=bF h2
  by_cases e:b=p.C
  ·subst e
   rw[hC]at h2
   injection h2 with h2;injection h2 with e1 e2 e3
   subst e1;subst e2
   have hz:cs0.size=0:=by injection e3 with _ e4;exact e4.symm
   have hcz:cs.size=0:=by omega
   exact⟨(hstay _ (by omega) (.inr (by omega))).trans h1,cs,p.ety,by rw[gC,hcz]⟩
  ·exact⟨(hstay b (by omega) (.inl e)).trans h1,c,ty,(gO b hlt e).trans h2⟩
def aYr{g0:Goroutine}{g1:Nat->Goroutine}{v:World}(hrun:g0.status=.running)
  (halloc:∀v1 w,Env v v1->OkV v1->Sim v1 w->stepG P true g0 w=.go (g1 w.heap.size) { w with heap:=w.heap.push (wgBlock L.tWg 0 0) } #[])
  (hC:∃cs:Array Value,v.heap[p.C]? = some (.cells cs p.ety (0,0))/\cs.size=p.tot) (hty:p.ety≠0) (hn:p.n<2147483648)
  (hscr:∀v1,Env v v1->OkV v1->∃An:Goroutine->Prop,(∀g,An g->Dl P true (cP L.tWg v1.heap.size) (dK v1.heap.size) (λd g=>d=1/\yW P L v1.heap.size (KF P W0 Post p v1) An d g) 1 g) /\
   sO P L v1.heap.size p (KF P W0 Post p v1) An p.n (g1 v1.heap.size) (inV v1 p.C)):dX P W0 Post g0 v:=by
 refine aBj hrun λv1 w he hok hsim hKp=>.inl ⟨_,_,_,halloc v1 w he hok hsim,λS gs sl t q hS hg0 hL hP hTd=>?_⟩
 have et:t++BS 0 g0.frame.fn g0.frame.place #[]=t:=by rw[ofEvents_eq];simp
 rw[et]at hL ⊢
 obtain⟨cs0,hC,hCs⟩:=hC
 have hC1:v1.heap[p.C]? = some (.cells cs0 p.ety (0,0)):=by rw[he.get (bF hC)];exact hC
 have hClt:=bF hC1
 have hsz:v1.heap.size=w.heap.size:=hsim.size
 obtain⟨An,hAn,hscr⟩:=hscr v1 he hok
 rw[hsz]at hAn hscr
 have hlt0:0<gs.size:=(AX.1 hg0).1
 have hwC:∃f,w.heap[p.C]? = some (.cells cs0 p.ety f)/\(cs0.size≠0->f=(0,0)):=by
  rcases hsim.blk _ _ hC1 with e|e|⟨c,e',f',e,h⟩
  ·injection e with e1 e2 e3;exact absurd e2 hty
  ·exact⟨_,e,λ_=>rfl⟩
  ·injection e with e1 e2 e3;subst e1;subst e2
   refine⟨f',h,λhz=>?_⟩;injection e3 with _ e4;exact absurd e4.symm hz
 have G:Geo w.heap.size p S:=⟨by omega,λhs=>by
  have:=hS _ hs;rw[hC1]at this;injection this with this;injection this with _ e2 _;exact hty e2⟩
 have hfar:∀i x,touchAt t i=some x->∀a,x.loc=.cell a->a.block<w.heap.size:=λi x hx a e=>by obtain⟨op,hop,hox⟩:=touch_of hx;have:=aEr (hP.seen op (BZ hop)) hox;rw[e]at this;exact this
 have hpay0:bBj p { w with heap:=w.heap.push (wgBlock L.tWg 0 0) }:=by obtain⟨f,h1,h2⟩:=hwC;refine⟨cs0,f,?_,hCs,h2⟩;simp only[Bx];rw[Ai (by omega)];exact h1
 have hcom:∀R:Nat->Tr,(∀i,0<i->i<gs.size->R i=Tr.nat (q i))->Com P L w.heap.size p S { w with heap:=w.heap.push (wgBlock L.tWg 0 0) } gs.size 0 gs { w with heap:=w.heap.push (wgBlock L.tWg 0 0) } t (λ_=>⟨0,0,0⟩) R (λ_=>inV v1 p.C) 0:=λR hR=>by
  have a0:∀k,gV gs.size 0 k->k=0:=λk hk=>hk.elim id λx=>by omega
  have hfree:∀l,¬dE (ShW S w.heap.size) l->Perm t 0 l:=λl hl i x hx e=>by
   rcases hP.known i x hx (hTd.mem i x hx)with h|⟨h,_⟩
   ·exact h
   ·refine absurd ?_ hl;rw[<-e];cases hx':x.loc with
    |cell a=>rw[hx']at h;exact .inl h
    |_=>rw[hx']at h;exact h.elim
  refine⟨hlt0,rfl,λi hi=>by omega,λi h1 h2=>?_,λi hi=>hL.above i hi,⟨λi op x hop hx hs=>?_,λk h1 h2 l hl=>absurd hl.2.1 (by have:=hl.1;omega),λk h1 h2 l hl=>absurd hl.2.1 (by have:=hl.1;omega),λl hl _=>hfree l hl,λl hl _=>PermW.of (hfree l hl),hP.clean,λi op hop=>by have:=hTd.num i op hop;omega⟩,
   λi hi=>?_,hP.hears,λi hi=>by omega,λi hi=>by omega,λi hi=>by omega,hpay0,⟨λk hk=>bSv hsim _ _,λk hk=>bIi _ _,λk k' hk hk' hne=>absurd ((a0 k hk).trans (a0 k' hk').symm) hne⟩,λk hk b hb=>aFz (by omega),λk hk=>aVl hClt,λk hk b hb=>?_,λb hb hne=>rfl,⟨rfl,rfl,rfl⟩,λi x hx=>?_,hTd.mem,λi g hg hne _ hc=>hP.over i g hg hne hc,λop hop=>MemAct.low_mono (by simp) (hP.seen op hop)⟩
  ·obtain⟨g,hg⟩:∃g,gs[i]? = some g:=⟨_,Al h2⟩;exact⟨g,q i,hg,hR i h1 h2,hL.old i g h1 hg⟩
  ·have hxt:touchAt t i=some x:=by rw[touchAt_of hop];exact hx
   refine hTd.quiet i op x hop hx ?_;cases hx':x.loc with
   | cell a =>
    rw[hx']at hs;rcases hs with hs|hs
    ·exact hs
    ·have:=hfar i x hxt a hx';omega
   |_=>rw[hx']at hs;exact hs.elim
  ·obtain⟨op,hop,hoa⟩:=Af.1 hi;have:=hP.seen op (BZ hop);rw[hoa]at this;exact absurd this (Nat.lt_irrefl _)
  ·rcases hb with hb|rfl
   ·exact bIj (hS b hb)
   ·rw[<-hsz];exact aIy _ _
  ·rcases hP.known i x hx (hTd.mem i x hx)with h|⟨h,hk⟩
   ·exact .inl h
   ·refine .inr (.inl ⟨?_,hk⟩);cases hx':x.loc with
    |cell a=>rw[hx']at h;exact .inl h
    |_=>rw[hx']at h;exact h.elim
 have hwg:({ w with heap:=w.heap.push (wgBlock L.tWg 0 0) }:World).heap[w.heap.size]? = some (wgBlock L.tWg 0 0):=by simp
 have hmode:∀tag,isOpen tag->pend tag=0->(∀vs,tag≠.w2 vs)->En 0 (λ_=>(⟨0,0,0⟩:WD)) tag 0 0:=λtag h1 h2 h3=>by have:=ConcN.Mode.opn (j:=0) (D:=λ_=>(⟨0,0,0⟩:WD)) h1 (λi hi=>by omega) (λvs e=>absurd e (h3 vs));simpa[Vc,sumTo,h2]using this
 have hrest:∀μ M t,Inv P L w.heap.size p (KF P W0 Post p v1) An S { w with heap:=w.heap.push (wgBlock L.tWg 0 0) } gs.size μ M t->dF P Post M t :=
  bQr (λg h=>h.1) hAn G hn λgs' w' sl' R V D a t' ha hk hcom' hwg' hq hacq=>bYs hsim hok hKp hS hC1 hCs hty ha hk hcom' hwg' hq hacq
 cases hpn:p.n with
 | zero =>
  rw[hpn]at hscr
  obtain⟨tr,hk⟩:=hscr
  refine hrest _ _ _ ⟨gs,_,sl,0,_,λi=>if i=0 then tr else Tr.nat (q i),_,.w1,0,_,0,0,rfl,hg0,?_,hcom _ λi h0 _=>Ai (by omega),hwg,hmode .w1 trivial rfl (by simp),by simp,rfl⟩
  have:=CS.w1 (p:=p) hk
  rw[hpn]at this
  exact this
 | succ r =>
  rw[hpn]at hscr
  obtain⟨tr,hk⟩:=hscr
  refine hrest _ _ _ ⟨gs,_,sl,0,_,λi=>if i=0 then tr else Tr.nat (q i),_,.sp r 4,0,_,0,0,rfl,hg0,?_,hcom _ λi h0 _=>Ai (by omega),hwg,hmode (.sp r 4) trivial rfl (by simp),by simp,rfl⟩
  have:=CS.a1 (p:=p) (r:=r) (by omega) hk
  rw[show p.n-(r+1)=0 by omega]at this
  exact this
end
end Go.Am
end
section
open List renaming map_map->E,mapM_map->J
namespace Go.Am
open Go.Conc
section
variable {P:Program} [M:Mch P]
def aTt{Win:Goroutine->World->Prop}(hW:M.Fam Win){ops:Array Oper}{b:Frame}{k:List Item}{cs:List Frame}(hb:nA b){Q:Exit->Act->World->Prop}{r:Nat}:∀(l:List Oper) (n:Nat) (a:Act) (v:World),OkV v->(∀j o,l[j]? = some o->ops[n+j]? = some o)->gW P ops Q l a v ->
  (∀a' v',OkV v'->Q .normal a' v'->Win (G (b.at a' (.inRegion ops (Du (n+l.length) r)::k)) cs) v')->Win (G (b.at a (.inRegion ops (Du n (l.length+r))::k)) cs) v
 |[],n,a,v,hv,_,h,hk=>by simpa using hk a v hv h
 | o::l,n,a,v,hv,hl,h,hk=>by
  have ho:ops[n]? = some o:=by simpa using hl 0 o rfl
  have ih:=λa v hv h=>aTt hW hb (Q:=Q) (r:=r) l (n+1) a v hv (λj o hj=>by have:=hl (j+1) o (by simpa using hj);rw[<-this];congr 1;omega) h (λa' v' hv' hq=>by have:=hk a' v' hv' hq;rwa [show n+1+l.length=n+(o::l).length by simp;omega])
  rw[show(o::l).length+r=(l.length+r)+1 by simp;omega,List.range'_succ];unfold gW at h;split at h
  ·rename_i hw;exact aGz hW hb ho hw hv h λa' v' hv' h'=>ih a' v' hv' h'
  ·rename_i hw;exact tT hW ho hw hv (ih _ v hv h)
def aPp{Win:Goroutine->World->Prop}(hW:M.Fam Win){Gx:Ctx}{N:Nat}{ds:List Deferred}{σ:St}{a:Act}{v:World}{id:Nat}{ops:Array Oper}{l1 l2:List Oper}{b:Frame}{k:List Item}{cs:List Frame}{Q:St->Prop}
  (hb:nA b) (hops:ops.toList=l1++l2) (hdst:∀o∈l1,∀d,o.dst=some d->d<N/\Gx.Z d=none) (hsr:SR Gx N ds σ a v) (h:OWd P ops l1 σ [] (λσ' con=>aEk σ' con Q .mk) .mk)
  (hk:∀σ' a' v',OkV v'->Q σ'->SR Gx N ds σ' a' v'->Win (G (b.at a' (.inRegion ops (Du l1.length l2.length)::k)) cs) v'):Win (G (b.at a (.code (.region id ops false)::k)) cs) v:=by
 have hv:OkV v:=hsr.2.2.1
 refine aM hW rfl hv (λw=>stepG_region) ?_
 have hsz:ops.size=l1.length+l2.length:=by rw[<-Array.length_toList,hops,List.length_append]
 rw[List.range_eq_range',hsz]
 obtain⟨hn0,hwf,hag⟩:=qX hsr
 obtain⟨h1,h2⟩:=hag σ.H λ_ _ h=>h
 have:=aIf (k:=λσ' con=>Q (fin σ' con)) (Q':=λe a' v'=>e=.normal/\∃σ',Q σ'/\SR Gx N ds σ' a' v') (λσ' con' s a w hq hn' hwf' hag' hr=>⟨rfl,_,hq,aDl hn' hwf' hag' hr⟩) l1 σ [] _ a v hdst hn0 hwf h1 h2 h
 refine aTt hW hb l1 0 a v hv (λj o hj=>?_) this λa' v' hv' hq=>?_
 ·rw[AA,<-Array.getElem?_toList,hops,List.getElem?_append_left (Ao.1 hj).1];exact hj
 ·obtain⟨_,σ',hq1,hq2⟩:=hq
  rw[AA]
  exact hk σ' a' v' hv' hq1 hq2
end
def aKa{v:World}{N:Nat}{a:Act}{sl:List (Nat×AV)}{Z:Nat->Option Value}(hok:OkV v)(hN:a.tmps.size=N)(hZ:∀t x,Z t=some x->a.tmps.getD t undef=x)
  (hs:∀t,V (λb=>b<v.heap.size) v (λ_=>none) (gK sl t) (a.tmps.getD t undef)):SR ⟨v,λb=>b<v.heap.size,bD,λ_=>True,Z⟩ N a.defers (StL sl none []) a v:=by
 have hH:∀id,(StL sl none []).H id=none:=λid=>by cases id<;>simp[StL,bUv,yT]
 refine⟨λid _=>hH id,λh=>by simp[StL]at h,hok,λb=>b<v.heap.size,λ_=>none,⟨.refl _ _ _,λb h=>h,λb h=>.inl h,λ_ _ h=>by simp at h,λ_ _ _ h=>by simp at h,λ_ _ _ h=>by simp at h,λ_ _ _ _ _ h=>by simp at h⟩,λid=>by rw[hH];simp,hs,⟨hN,hZ⟩,rfl,λ_ h=>by simp at h⟩
def tY{F:Nat->Prop}{v:World}{ι:Nat->Option Nat}{T:Nat->Value}:∀(sl:List (Nat×AV)),(∀x∈sl,V F v ι x.2 (T x.1))->∀t,V F v ι (gK sl t) (T t)
 |[],_,t=>by exact .any _
 | (n,x)::sl,h,t=>by
  have ih:=tY sl (λy hy=>h y (List.mem_cons_of_mem _ hy)) t;have h0:=h (n,x) (List.mem_cons_self ..);by_cases e:t=n
  ·subst e;rw[gK,upd_same];exact h0
  ·rw[gK,upd_ne _ _ e];exact ih
end Go.Am
end
section
open List renaming map_map->E,mapM_map->J
namespace Go.Am
open Go Go.Conc.Lib Go.Proofs
def bO:WgLink:={ add:=71,done:=73,wait:=75,relMerge:=107,disable:=108,enable:=109,inBubble:=110,associate:=111,fatal:=112,uOr:=113,uAdd:=114,raceRead:=115,uLoad:=116,uStore:=117,disassociate:=118,semrelease:=119,acquire:=122,isAssociated:=123,uCas:=124,raceWrite:=125,semacquire:=126,orU64:=165,addU64:=166,loadU64:=167,storeU64:=168,casU64:=173,tWgP:=149,tUP:=151,tAssoc:=152,tWg:=119,tAU:=117,tU64:=51,tUint:=94,tU32:=89,tPU32:=155,tPAU:=199,tPU64:=201,tNoCopy:=113,tANoCopy:=114,tAlign64:=115 }
def aEn:WgLib Aa bO :=
  ⟨Tryz.func71,Tryz.func73,Tryz.func75,Tryz.func107,Tryz.func108,Tryz.func109,Tryz.func110,Tryz.func111,Tryz.func112,Tryz.func113,Tryz.func114,Tryz.func115,Tryz.func116,Tryz.func117,Tryz.func118,Tryz.func119,Tryz.func122,Tryz.func123,Tryz.func124,Tryz.func125,Tryz.func126,Tryz.func165,Tryz.func166,Tryz.func167,Tryz.func168,Tryz.func173,Tryz.underlying149,Tryz.runUnderlying149,Tryz.sizeOf149,Tryz.isAgg149,Tryz.zeroValue149,Tryz.underlying151,Tryz.runUnderlying151,Tryz.sizeOf151,Tryz.isAgg151,Tryz.zeroValue151,Tryz.underlying152,Tryz.runUnderlying152,Tryz.sizeOf152,Tryz.isAgg152,Tryz.zeroValue152,Tryz.underlying119,Tryz.runUnderlying119,Tryz.sizeOf119,Tryz.isAgg119,Gz,Tryz.underlying117,Tryz.runUnderlying117,Tryz.sizeOf117,Tryz.isAgg117,Tryz.zeroValue117,Tryz.underlying51,Tryz.runUnderlying51,Tryz.sizeOf51,Tryz.isAgg51,Tryz.zeroValue51,Tryz.underlying94,Tryz.runUnderlying94,Tryz.sizeOf94,Tryz.isAgg94,Tryz.zeroValue94,Tryz.underlying89,Tryz.runUnderlying89,Tryz.sizeOf89,Tryz.isAgg89,Tryz.zeroValue89,Tryz.underlying155,Tryz.runUnderlying155,Tryz.sizeOf155,Tryz.isAgg155,Tryz.zeroValue155,Tryz.underlying199,Tryz.runUnderlying199,Tryz.sizeOf199,Tryz.isAgg199,Tryz.zeroValue199,Tryz.underlying201,Tryz.runUnderlying201,Tryz.sizeOf201,Tryz.isAgg201,Tryz.zeroValue201,Tryz.underlying0,Tryz.runUnderlying0,Tryz.sizeOf0,Tryz.isAgg0,Tryz.zeroValue0,Tryz.underlying3,Tryz.runUnderlying3,Tryz.sizeOf3,Tryz.isAgg3,Tryz.zeroValue3,Tryz.underlying4,Tryz.runUnderlying4,Tryz.sizeOf4,Tryz.isAgg4,Tryz.zeroValue4,Tryz.underlying9,Tryz.runUnderlying9,Tryz.sizeOf9,Tryz.isAgg9,Tryz.zeroValue9,Tryz.underlying20,Tryz.runUnderlying20,Tryz.sizeOf20,Tryz.isAgg20,Tryz.zeroValue20,Tryz.underlying21,Tryz.runUnderlying21,Tryz.sizeOf21,Tryz.isAgg21,Tryz.zeroValue21,by kernel_rfl,by kernel_rfl⟩
end Go.Am
end
section
open List renaming map_map->E,mapM_map->J
open Go Go.Am Go.Proofs
namespace Go.Am
open Go.Conc Go.Conc.Lib Go.RowKit Go.ConcR.Gen
open Go.ConcR (KK wgBlock stA smA rd wr mk)
noncomputable def bot:Frame:={ (default:Frame)with fn:=Aa.funcs.size,defers:=[],mode:=.panicking [goexitEntry] }
def bX(b:Nat):Value:=.pointer (some ⟨b,0,none⟩)
def aEo(Wg Ba Bp Bi Br:Nat):Deferred:={ target:=.fn (.func 72) #[bX Wg,bX Ba,bX Bp,bX Bi,bX Br],args:=#[] }
noncomputable def bLb:Code:=Tryz.f72.body.getD .skip
def bAw(Wg Ba Bp Bi Br:Nat)(w:World):stepG Aa false (born Aa (aEo Wg Ba Bp Bi Br)) w =
    .go (G ((baseD 72).at ⟨#[bX Wg,bX Ba,bX Bp,bX Bi,bX Br]++AY 14 undef,[]⟩ [.code bLb]) [bot]) w #[]:=by
  simp[born,aEo,stepG,unwind,callDeferred,invoke,callFunc,Tryz.func72,Tryz.f72,seen,Cw,G,C5,Frame.at,baseD,bot,bLb]
def aYk(T:Array Value)(todo:List Item):QuitsD Aa 2 0 (G { (baseD 72).at ⟨T,[]⟩ todo with mode:=.returning } [bot]):=by
  refine QuitsD.ctl (g':=G bot []) rfl (λw=>?_) ?_
  · simp[G,stepG,unwind,doReturn,results,Frame.at,baseD,bot,Tryz.func72,Tryz.f72,seen,Cw,goexitEntry]
  refine QuitsD.ctl (g':={ G bot []with status:=.finished }) rfl (λw=>?_) ⟨rfl,rfl⟩;simp[G,stepG,unwind,bot,goexitEntry,Frame.catches];rfl
def aVo{F:Nat->Prop}{w:World}{ι:Nat->Option Nat}{cs:List D}{v:Value}(h:VD F w (.pt cs) v):V F w ι (.fp cs) v:=by
  cases h with
  |pt cs ad f hF hcell hel=>exact .fp cs ad f hF hcell hel
def v_i{F:Nat->Prop}{w:World}{ι:Nat->Option Nat}{k:IntKind}{n:Int}{v:Value}(h:V F w ι (.d (.i k n)) v):v=.int k n:=by cases h with|d _ _ h=>cases h;rfl
def oU{F:Nat->Prop}{w:World}{ι:Nat->Option Nat}{x v:Value}(h:V F w ι (.d (.lit x)) v):v=x:=by cases h with|d _ _ h=>cases h;rfl
abbrev bBh(Wg:Nat)(p:Pl)(i:Nat):=GoW Aa false (λ_=>True) noE (λd g _=>bWo Aa bO Wg p i d g)
def bBz{Wg Ba Bp Bi Br:Nat}{p:Pl}{i:Nat}{v:World}{c0 c1 c2:D}{pr rp rv er:Int}{sv:Value}(hok:OkV v)
    (hBa:VD (λb=>b<v.heap.size) v (.pt [c0,c1,c2]) (bX Ba)) (hBp:VD (λb=>b<v.heap.size) v (.pt [.i .u64 pr]) (bX Bp)) (hBi:VD (λb=>b<v.heap.size) v (.pt [.i .i64 i]) (bX Bi)) (hBr:VD (λb=>b<v.heap.size) v (.pt [.lit sv]) (bX Br))
    (hsp:letI:=kK Aa false;Spec Aa 74 [.ag [c0,c1,c2],.i .u64 pr] (.tp [.ag [.i .u64 rp,.i .u64 rv],.i .i64 er]))
    (hlast:∀(a:Act) (v':World) (ops:Array Oper) (o6 o7:Oper),OkV v'->ops[5]? = some o6->ops[6]? = some o7->o6.op=.indexAddr 27 (.tmp 13) (.tmp 14)->o6.dst=some 18->o6.guard=none->o7.op=.store 78 (.tmp 18) (.tmp 17)->o7.dst=none->o7.guard=none ->
      a.tmps.size=19->a.defers=[dcall 73 #[bX Wg]]->a.tmps.getD 13 undef=sv->a.tmps.getD 14 undef=.int .i64 i->a.tmps.getD 17 undef=.agg #[.int .i64 i,.int .u64 rp,.int .u64 rv] ->
      bBh Wg p i (G ((baseD 72).at a [.inRegion ops [5,6]]) [bot]) v') :
    bBh Wg p i (born Aa (aEo Wg Ba Bp Bi Br)) v:=by
  letI:=kK Aa false
  have hW:(kK Aa false).Fam (bBh Wg p i):=.inl ⟨_,_,_,λ_ _ _ _ h _=>h,rfl⟩
  have hb:nA (baseD 72):=.inr rfl
  refine aM hW rfl hok (λw=>bAw Wg Ba Bp Bi Br w) ?_
  simp only[bLb,Tryz.f72,AT]
  refine aM hW rfl hok (λw=>stepG_seq) ?_
  refine aM hW rfl hok (λw=>stepG_region) ?_
  refine aM hW rfl hok (λw=>stepG_defer rfl rfl (by k_ne) rfl) ?_
  walk_nrm
  refine aM hW rfl hok (λw=>stepG_region_end) ?_
  refine aM hW rfl hok (λw=>stepG_seq) ?_
  refine cJ (G:=⟨v,λb=>b<v.heap.size,bD,λ_=>True,λ_=>none⟩) (N:=19) (ds:=[dcall 73 #[bX Wg]]) aR (λ_=>rfl) _
    (λe σ=>e=.normal/\∃id,σ.Γ 5=.ptr id 0/\σ.H id=some (.cells 76 [.d (.i .u64 rp),.d (.i .u64 rv)])/\σ.Γ 3=.fp [.i .i64 i]/\σ.Γ 4=.fp [.lit sv])
    (StL [(1,.fp [c0,c1,c2]),(2,.fp [.i .u64 pr]),(3,.fp [.i .i64 i]),(4,.fp [.lit sv])] none []) _ v (by kernel_rfl) (by kernel_rfl) ?hawp
    ?hsr _ hW hok _ _ _ hb λe a' v' hv' hq=>?_
  case hsr =>
    refine aKa (Z:=λ_=>none) hok rfl (λ_ _ h=>by simp at h) (tY _ ?_)
    simp only[EY]
    exact⟨aVo hBa,aVo hBp,aVo hBi,aVo hBr,λ_ h=>by simp at h⟩
  case hawp =>
    simp[-E,-J,↓KW]
    refine aC hsp ?_
    simp[-E,-J,↓KW]
  obtain⟨σ,⟨rfl,id,h5,hH,h3,h4⟩,hsr⟩:=hq
  simp only[oT]
  refine aPp hW hb (l1:=List.take 5 _) (l2:=List.drop 5 _) (List.take_append_drop 5 _).symm ?hdst hsr (Q:=λσ'=>σ'.Γ 13=.d (.lit sv)/\σ'.Γ 14=.d (.i .i64 i)/\σ'.Γ 17=.ag [.d (.i .i64 i),.d (.i .u64 rp),.d (.i .u64 rv)]) ?how λσ' a'' v'' hv'' hq hsr'=>?_
  case hdst =>
    intro o ho d hd
    simp at ho
    rcases ho with rfl|rfl|rfl|rfl|rfl<;>simp at hd<;>subst hd<;>exact⟨by decide,rfl⟩
  case how =>
    simp only[List.take_succ_cons,List.take_zero]
    simp[-E,-J,↓KW,h5,hH,h3,h4]
  obtain⟨q13,q14,q17⟩:=hq
  obtain⟨_,_,_,F,ι,hR,_,hV,⟨hN,_⟩,hds,_⟩:=hsr'
  have e13:a''.tmps.getD 13 undef=sv:=by have h:=hV 13;rw[q13]at h;exact oU h
  have e14:a''.tmps.getD 14 undef=.int .i64 i:=by have h:=hV 14;rw[q14]at h;exact v_i h
  have e17:a''.tmps.getD 17 undef=.agg #[.int .i64 i,.int .u64 rp,.int .u64 rv]:=by
    have h:=hV 17;rw[q17]at h;generalize a''.tmps.getD 17 undef=x at h;cases h with
    | ag cs vs hl h =>
      have h0:vs[0]? = some (.int .i64 i):=by have hx:=Al (xs:=vs) (i:=0) (by simp at hl;omega);rw[hx,v_i (h 0 _ _ rfl hx)]
      have h1:vs[1]? = some (.int .u64 rp):=by have hx:=Al (xs:=vs) (i:=1) (by simp at hl;omega);rw[hx,v_i (h 1 _ _ rfl hx)]
      have h2:vs[2]? = some (.int .u64 rv):=by have hx:=Al (xs:=vs) (i:=2) (by simp at hl;omega);rw[hx,v_i (h 2 _ _ rfl hx)]
      congr 1;apply Gb;intro k;match k with
      |0=>exact h0
      |1=>exact h1
      |2=>exact h2
      |k+3=>rw[Dp (by simp at hl;omega)];simp
  show bBh Wg p i (G ((baseD 72).at a'' [.inRegion _ [5,6]]) [bot]) v''
  exact hlast a'' v'' _ _ _ hv'' (by rfl) (by rfl) rfl rfl rfl rfl rfl rfl hN hds e13 e14 e17
end Go.Am
end
section
open List renaming map_map->E,mapM_map->J
namespace Go.Am
open Go.Conc
structure aPg(C o:Nat)(vs:List Value)(t:TypeId)(cur:Array Value)(w w':World):Prop where
 tape:w'.tape=w.tape
 os:w'.os=w.os
 output:w'.output=w.output
 size:w'.heap.size=w.heap.size
 block:∀b,b≠C->w'.heap[b]? = w.heap[b]?
 new:∃cur':Array Value,w'.heap[C]? = some (.cells cur' t (0,0))/\cur'.size=cur.size/\(∀r v,vs[r]? = some v->cur'[o+r]? = some v)/\∀k,(k<o\/o+vs.length<=k)->cur'[k]? = cur[k]?
def pC{P:Program}{C o:Nat}{t:TypeId}:∀(vs:List Value) (i:Nat) (cur:Array Value) (w:World) (es:Array Event),w.heap[C]? = some (.cells cur t (0,0))->o+i+vs.length<=cur.size->(∀v∈vs,v.oneCell'=true) ->
  ∃w' es',(storeCells ⟨C,o,none⟩ vs i).runT P w es=(.ok () w',es++es')/\aPg C (o+i) vs t cur w w'/\∀e∈es',∃r,r<vs.length/\e=⟨.cell ⟨C,o+i+r,none⟩,true,false⟩
 |[],i,cur,w,es,hC,_,_=>⟨w,#[],by simp[storeCells,EJ],⟨rfl,rfl,rfl,rfl,λ_ _=>rfl,cur,hC,rfl,λr v h=>by simp at h,λ_ _=>rfl⟩,by simp⟩
 | v::vs,i,cur,w,es,hC,hl,h1=>by
  have hi:o+i<cur.size:=by simp at hl;omega
  have hadd:(⟨C,o,none⟩:Addr).add i=⟨C,o+i,none⟩:=gY _ _ _;have hcell:w.cell? ⟨C,o+i,none⟩=some cur[o+i]:=by simp[BA,hC,hi]
  have hfro:w.frozen? ⟨C,o+i,none⟩=false:=by simp[Dn,hC]
  have hC':(w.setCell ⟨C,o+i,none⟩ v).heap[C]? = some (.cells (cur.setIfInBounds (o+i) v) t (0,0)):=by rw[dD,if_pos rfl,hC];simp[bPa]
  obtain⟨w',es',hr,hp,he⟩:=pC (P:=P) (C:=C) (o:=o) (t:=t) vs (i+1) (cur.setIfInBounds (o+i) v) (w.setCell ⟨C,o+i,none⟩ v) (es.push ⟨.cell ⟨C,o+i,none⟩,true,false⟩) hC' (by simp at hl ⊢;omega) (λx hx=>h1 x (by simp[hx]));have hv:=h1 v (by simp);refine⟨w',#[⟨.cell ⟨C,o+i,none⟩,true,false⟩]++es',?_,⟨hp.tape,hp.os,hp.output,hp.size.trans (by simp[Fe]),λb hb=>(hp.block b hb).trans (by rw[dD,Ai hb]),?_⟩,?_⟩
  ·have hs:∀k:Sem Unit,(Sem.store .plain ⟨C,o+i,none⟩ v k).runT P w es=k.runT P (w.setCell ⟨C,o+i,none⟩ v) (es.push ⟨.cell ⟨C,o+i,none⟩,true,false⟩):=by intro k;cases v<;>first|(simp[CC]at hv;done)|(simp only[EJ,hcell,hfro];rfl)
   show(Er (store ((⟨C,o,none⟩:Addr).add i) v) λ_=>storeCells ⟨C,o,none⟩ vs (i+1)).runT P w es=_;rw[hadd];simp only[store,Er];rw[hs,hr];simp
  ·obtain⟨cur',g1,g2,g3,g4⟩:=hp.new;refine⟨cur',g1,by simpa using g2,λr x hx=>?_,λk hk=>?_⟩
   ·cases r with
    | zero =>
     simp at hx;subst hx;rw[Nat.add_zero,g4 _ (.inl (by omega))];simp[hi]
    |succ r=>rw[show o+i+(r+1)=o+(i+1)+r by omega];exact g3 r x (by simpa using hx)
   ·simp only[Ak]at hk;rw[g4 k (by omega),AF (by omega)]
  ·intro e hx;rcases Dy.1 hx with hx|hx
   ·simp at hx;subst hx;exact⟨0,by simp,by simp⟩
   ·obtain⟨r,hr',rfl⟩:=he e hx;exact⟨r+1,by simp;omega,by rw[show o+(i+1)+r=o+i+(r+1)by omega]⟩
def bYo{P:Program}{a:Act}{o:Oper}{x y:Operand}{t:TypeId}{C off n:Nat}{vs cur:Array Value}{e:TypeId}{w:World}(hop:o.op=.store t x y)(hx:a.eval x=.pointer (some ⟨C,off,none⟩))(hy:a.eval y=.agg vs)(hvs:vs.size=n)
  (h1:∀v∈vs.toList,v.oneCell'=true) (hsz:∀w es,(sizeOf t).runT P w es=(.ok n w,es)) (hC:w.heap[C]? = some (.cells cur e (0,0))) (hfit:off+n<=cur.size) :
  ∃w' es,(execOp a.eval o).run P w=.ok .skip w'/\(execOp a.eval o).events P w #[]=es/\aPg C off vs.toList e cur w w'/\∀ev∈es,∃r,r<n/\ev=⟨.cell ⟨C,off+r,none⟩,true,false⟩:=by
 obtain⟨w',es',hr,hp,he⟩:=pC (P:=P) (C:=C) (o:=off) (t:=e) vs.toList 0 cur w #[] hC (by simp;omega) h1
 have hT:(execOp a.eval o).runT P w #[]=(.ok .skip w',#[]++es'):=by unfold execOp;simp only[hop,hx,hy,Instr.storeAt,Instr.sureAddr,storeVar,Ed];show(Er _ _).runT P w #[]=_;simp only[Sem.runT_bind',Bind.bind,Er,Pure.pure,hsz,hvs,ne_eq,not_true_eq_false,Az,hr];simp[EJ]
 have hE:=Dh P (execOp a.eval o) w #[]
 rw[hT]at hE
 refine⟨w',es',(congrArg Prod.fst hE).symm,by have:=congrArg Prod.snd hE;simpa using this.symm,by simpa using hp,λev hev=>?_⟩
 obtain⟨r,h2,h3⟩:=he ev hev
 exact⟨r,by simpa[hvs]using h2,by simpa using h3⟩
end Go.Am
end
section
open List renaming map_map->E,mapM_map->J
namespace Go.Am
open Go.Conc Go.ConcR.Gen Go.Conc.Lib Go.RowKit Go.ConcR
open Go
end Go.Am
end
section
open List renaming map_map->E,mapM_map->J
open Go Go.Am Go.Proofs
namespace Go.Am
open Go.Conc Go.Conc.Lib Go.RowKit Go.ConcR.Gen
open Go.ConcR (KK wgBlock stA smA rd wr mk)
def cDw(Wg:Nat):Prop:=∀{c:Frame} {cs:List Frame} {q:Nat},c.mode=.returning->QuitsD Aa q 0 (G c cs) ->
    Dl Aa false (cP bO.tWg Wg) noE (xQ Aa bO Wg) 0 (G ((baseD bO.done).at ⟨#[.pointer (some ⟨Wg,0,none⟩),undef,undef,undef],[]⟩ [.code (body_done bO)]) (c::cs))
def bPj{α:Type}{P:Program}{s:Sem α}{r:α}(h1:∀w,s.run P w=.ok r w)(h2:∀w es,s.events P w es=es)(w:World)(es:Array Event):s.runT P w es=(.ok r w,es):=by rw[Dh,h1,h2]
def bXw(w:World)(es:Array Event):(sizeOf 78).runT Aa w es=(.ok 3 w,es):=by refine bPj Tryz.sizeOf78 (λw es=>?_) w es;simp[sizeOf,typeInfo,go_sem];split<;>simp[stuck]
def cDe{a:Act}{o:Oper}{C n cap i:Nat}(hop:o.op=.indexAddr 27 (.tmp 13) (.tmp 14))(hx:a.tmps.getD 13 undef=.slice (some ⟨C,0,none⟩) n cap)(hy:a.tmps.getD 14 undef=.int .i64 i)(hi:i<n)(w:World) :
    (execOp a.eval o).run Aa w=.ok (.value (.pointer (some ⟨C,i*3,none⟩))) w/\(execOp a.eval o).events Aa w #[]=#[]:=by
  have hx':a.eval (.tmp 13)=.slice (some ⟨C,0,none⟩) n cap:=hx
  have hy':a.eval (.tmp 14)=.int .i64 i:=hy
  have h0:(0:Int)<=i:=by omega
  have h1:(i:Int)<n:=by omega
  have ha:(⟨C,0,none⟩:Addr).add (i*3)=⟨C,i*3,none⟩:=by rw[gY,AA]
  unfold execOp
  simp only[hop,hx',hy']
  constructor
  · simp[go_sem,Ff,Tryz.runUnderlying27,Tryz.sizeOf78,h0,h1,ha]
    intro hh;omega
  · simp[go_sem,Ff,Tryz.runUnderlying27,Tryz.sizeOf78,h0,h1,ha]
    intro hh;omega
def aWq{Wg:Nat}{p:Pl}{i n cap:Nat}{rp rv:Int}(hdone:cDw Wg)(hwd:p.wd=3)(hi:i<p.n)(hn:p.n=n)(h0:p.val i 0=.int .i64 i)(h1:p.val i 1=.int .u64 rp)(h2:p.val i 2=.int .u64 rv)
    {a:Act} {v':World} {ops:Array Oper} {o6 o7:Oper} (hv:OkV v') (ho6:ops[5]? = some o6) (ho7:ops[6]? = some o7) (p6:o6.op=.indexAddr 27 (.tmp 13) (.tmp 14)) (d6:o6.dst=some 18) (g6:o6.guard=none) (p7:o7.op=.store 78 (.tmp 18) (.tmp 17)) (d7:o7.dst=none) (g7:o7.guard=none)
    (hN:a.tmps.size=19) (hds:a.defers=[dcall 73 #[bX Wg]]) (e13:a.tmps.getD 13 undef=.slice (some ⟨p.C,0,none⟩) n cap) (e14:a.tmps.getD 14 undef=.int .i64 i) (e17:a.tmps.getD 17 undef=.agg #[.int .i64 i,.int .u64 rp,.int .u64 rv]) :
    bBh Wg p i (G ((baseD 72).at a [.inRegion ops [5,6]]) [bot]) v':=by
  have hW:(kK Aa false).Fam (bBh Wg p i):=.inl ⟨_,_,_,λ_ _ _ _ h _=>h,rfl⟩
  letI:=kK Aa false
  have w6:Bu o6 (yielded ops a.tmps)=true:=by simp[Bu,g6]
  refine aM hW (g':=G ((baseD 72).at (a.put o6.dst (.pointer (some ⟨p.C,i*3,none⟩))) [.inRegion ops [6]]) [bot]) rfl hv (λw=>?_) ?_
  · have hx:=cDe p6 e13 e14 (by omega) w
    rw[stepG_value ho6 w6 (by k_ne) hx.1];unfold listed;rw[hx.2,seen_none]
  rw[d6]
  have hget:∀t,t≠18->(a.put (some 18) (.pointer (some ⟨p.C,i*3,none⟩))).eval (.tmp t)=a.tmps.getD t undef:=λt ht=>by simp[C6,Dk,Au,AF (Eo ht)]
  have h18:(a.put (some 18) (.pointer (some ⟨p.C,i*3,none⟩))).eval (.tmp 18)=.pointer (some ⟨p.C,i*3,none⟩):=by simp[C6,Dk,Au,hN]
  have hds':(a.put (some 18) (.pointer (some ⟨p.C,i*3,none⟩))).defers=a.defers:=rfl
  generalize a.put (some 18) (.pointer (some ⟨p.C,i*3,none⟩))=a2 at hget h18 hds'
  have w7:Bu o7 (yielded ops a2.tmps)=true:=by simp[Bu,g7]
  refine⟨.leaf,rfl,rfl,λw hp=>?_⟩
  obtain⟨cur,f,hC,hsz,hf⟩:=hp
  have hpos:0<p.n*3:=by omega
  have hle:=p.le;rw[hwd]at hle
  have hfz:f=(0,0):=hf (by rw[hsz];omega)
  subst hfz
  have hfit:i*3+3<=cur.size:=by rw[hsz];have:(i+1)*3<=p.n*3:=B9 _ hi;omega
  obtain⟨w',es,hr,he,hput,hes⟩:=bYo (P:=Aa) (n:=3) p7 h18 ((hget 17 (by decide)).trans e17) rfl (by simp[CC]) bXw hC hfit
  refine⟨_,w',_,stepG_none ho7 w7 (by k_ne) hr,?_,λev hev=>?_,?_⟩
  · obtain⟨cur',g1,g2,g3,g4⟩:=hput.new
    refine⟨hput.tape,hput.os,hput.output,hput.size,hput.block,⟨cur',(0,0),g1,by rw[g2,hsz],λ_=>rfl⟩,λo ho=>?_,λr hr=>?_⟩
    · rw[hwd]at ho
      have:=g4 o (by simp;omega)
      simp[BA,g1,hC,this]
    · rw[hwd]at hr
      match r,hr with
      |0,_=>rw[h0];simpa[BA,Pl.cell,g1,hwd]using g3 0 _ rfl
      |1,_=>rw[h1];simpa[BA,Pl.cell,g1,hwd]using g3 1 _ rfl
      |2,_=>rw[h2];simpa[BA,Pl.cell,g1,hwd]using g3 2 _ rfl
  · have:=mem_listed hev
    rw[he]at this
    obtain⟨r,hr,rfl⟩:=hes ev this
    exact⟨r,by omega,by simp[Pl.cell,hwd]⟩
  · rw[d7]
    refine Dl.regionEnd (Dl.done ?_)
    refine Dl.ctl rfl (λw _=>stepG_unwind_enter (hds'.trans hds) Tryz.func73 (nm_done bO) rfl) ?_
    have:=hdone (c:={ (baseD 72).at ⟨a2.tmps,[]⟩ []with mode:=.returning }) (cs:=[bot]) rfl (aYk a2.tmps [])
    simp only[body_done,doneFn,AT]at this
    exact this
end Go.Am
end
section
open List renaming map_map->E,mapM_map->J
namespace Go.Am
open Go.Conc Go.ConcR.Gen Go.Conc.Lib Go.RowKit Go.ConcR
open Go.ConcN (st_flag st_waiters)
open Go
def bOk{L:WgLink}{P:Program}(H:WgLib P L){Wg:Nat}{cs:List Frame}{b0:Frame}{a0:Act}{ops0:Array Oper}{i0:Nat}{rest0:List Nat}{k0:List Item}
    (hT:∃q,QuitsD P q 0 (G (b0.at (a0.put ((ops0[i0]?).bind (·.dst)) (.tuple #[])) (.inRegion ops0 rest0::k0)) cs)) :
    Dl P false (cP L.tWg Wg) noE (xQ P L Wg) 0 (G ((base L.add).at ⟨#[.pointer (some ⟨Wg,0,none⟩),.int .i64 (-1)]++AY 115 undef,[]⟩ [.code (body_add L)]) (b0.at a0 (.inRegion ops0 (i0::rest0)::k0)::cs)):=by
  have hT':Dl P false (λ_=>True) (λ_=>False) (λd g=>∃n,QuitsD P n d g) 0 (G (b0.at (a0.put ((ops0[i0]?).bind (·.dst)) (.tuple #[])) (.inRegion ops0 rest0::k0)) cs):=.here hT
  lib_facts
  simp only[body_add,addFn,AT]
  repeat (with_reducible (first|refine Dl.seq ?_|(refine Dl.region ?_;simp only[Ar,Ak,Aw,AP,AA,AN,AG])|refine Dl.regionEnd ?_|refine Dl.skip ?_|refine Dl.ret ?_|refine Dl.block ?_|refine Dl.inBlock ?_|refine Dl.loop ?_|refine Dl.inLoop ?_|refine Dl.exit (by with_unfolding_all rfl) ?_|(refine Dl.cond true (by with_unfolding_all rfl) ?_;simp only[AH,Az,Ae,↓reduceIte])|(refine Dl.cond false (by with_unfolding_all rfl) ?_;simp only[AH,Az,Ae,↓reduceIte])))
  (refine Dl.value _ rfl rfl (by k_ne) (λ_ _=>by(go_simp;try (first|rfl|w_num|decide))) (λ_ _=>by simp[go_sem, *]) ?_;walk_nrm)
  repeat (with_reducible (first|refine Dl.seq ?_|(refine Dl.region ?_;simp only[Ar,Ak,Aw,AP,AA,AN,AG])|refine Dl.regionEnd ?_|refine Dl.skip ?_|refine Dl.ret ?_|refine Dl.block ?_|refine Dl.inBlock ?_|refine Dl.loop ?_|refine Dl.inLoop ?_|refine Dl.exit (by with_unfolding_all rfl) ?_|(refine Dl.cond true (by with_unfolding_all rfl) ?_;simp only[AH,Az,Ae,↓reduceIte])|(refine Dl.cond false (by with_unfolding_all rfl) ?_;simp only[AH,Az,Ae,↓reduceIte])))
  (refine Dl.value _ rfl rfl (by k_ne) (λ_ _=>by(go_simp;try (first|rfl|w_num|decide))) (λ_ _=>by simp[go_sem, *]) ?_;walk_nrm)
  repeat (with_reducible (first|refine Dl.seq ?_|(refine Dl.region ?_;simp only[Ar,Ak,Aw,AP,AA,AN,AG])|refine Dl.regionEnd ?_|refine Dl.skip ?_|refine Dl.ret ?_|refine Dl.block ?_|refine Dl.inBlock ?_|refine Dl.loop ?_|refine Dl.inLoop ?_|refine Dl.exit (by with_unfolding_all rfl) ?_|(refine Dl.cond true (by with_unfolding_all rfl) ?_;simp only[AH,Az,Ae,↓reduceIte])|(refine Dl.cond false (by with_unfolding_all rfl) ?_;simp only[AH,Az,Ae,↓reduceIte])))
  (refine Dl.value _ rfl rfl (by k_ne) (λ_ _=>by(go_simp;try (first|rfl|w_num|decide))) (λ_ _=>by simp[go_sem, *]) ?_;walk_nrm)
  (refine Dl.value _ rfl rfl (by k_ne) (λw hI=>by(have hcv:=run_convert_to_unsafe (P:=P) H.underlying_tWgP H.underlying_tUP H.room_tWg (cP.cell0 hI).choose_spec);go_simp;rfl) (λw hI=>by(have hce:=λes=>events_convert_to_unsafe (P:=P) H.underlying_tWgP H.underlying_tUP H.room_tWg (cP.cell0 hI).choose_spec es);simp[go_sem,hce]) ?_;walk_nrm)
  refine .here ⟨rfl,rfl,_,λw hI=>stepG_markAt .releaseMerge (by simp) rfl rfl (by k_ne) rfl H.f_relMerge (x_relMerge_n L) (x_relMerge_b L) (x_relMerge_x L) (x_relMerge_f L) (by simp[Dk,stA]),?_⟩
  walk_nrm
  repeat (with_reducible (first|refine Dl.seq ?_|(refine Dl.region ?_;simp only[Ar,Ak,Aw,AP,AA,AN,AG])|refine Dl.regionEnd ?_|refine Dl.skip ?_|refine Dl.ret ?_|refine Dl.block ?_|refine Dl.inBlock ?_|refine Dl.loop ?_|refine Dl.inLoop ?_|refine Dl.exit (by with_unfolding_all rfl) ?_|(refine Dl.cond true (by with_unfolding_all rfl) ?_;simp only[AH,Az,Ae,↓reduceIte])|(refine Dl.cond false (by with_unfolding_all rfl) ?_;simp only[AH,Az,Ae,↓reduceIte])))
  (refine Dl.step rfl (by(intro e he;simp at he;subst he;exact .inl rfl)) (λw hI=>stepG_mark0 .disable (by simp) rfl rfl (by k_ne) rfl H.f_disable (x_disable_n L) (x_disable_b L) (x_disable_x L) (x_disable_f L)) ?_;walk_nrm)
  repeat (with_reducible (first|refine Dl.seq ?_|(refine Dl.region ?_;simp only[Ar,Ak,Aw,AP,AA,AN,AG])|refine Dl.regionEnd ?_|refine Dl.skip ?_|refine Dl.ret ?_|refine Dl.block ?_|refine Dl.inBlock ?_|refine Dl.loop ?_|refine Dl.inLoop ?_|refine Dl.exit (by with_unfolding_all rfl) ?_|(refine Dl.cond true (by with_unfolding_all rfl) ?_;simp only[AH,Az,Ae,↓reduceIte])|(refine Dl.cond false (by with_unfolding_all rfl) ?_;simp only[AH,Az,Ae,↓reduceIte])))
  (refine Dl.ctl rfl (λw hI=>stepG_defer rfl rfl (by k_ne) rfl) ?_;walk_nrm)
  repeat (with_reducible (first|refine Dl.seq ?_|(refine Dl.region ?_;simp only[Ar,Ak,Aw,AP,AA,AN,AG])|refine Dl.regionEnd ?_|refine Dl.skip ?_|refine Dl.ret ?_|refine Dl.block ?_|refine Dl.inBlock ?_|refine Dl.loop ?_|refine Dl.inLoop ?_|refine Dl.exit (by with_unfolding_all rfl) ?_|(refine Dl.cond true (by with_unfolding_all rfl) ?_;simp only[AH,Az,Ae,↓reduceIte])|(refine Dl.cond false (by with_unfolding_all rfl) ?_;simp only[AH,Az,Ae,↓reduceIte])))
  (refine Dl.value _ rfl rfl (by k_ne) (λ_ _=>by(go_simp;try (first|rfl|w_num|decide))) (λ_ _=>by simp[go_sem, *]) ?_;walk_nrm)
  repeat (with_reducible (first|refine Dl.seq ?_|(refine Dl.region ?_;simp only[Ar,Ak,Aw,AP,AA,AN,AG])|refine Dl.regionEnd ?_|refine Dl.skip ?_|refine Dl.ret ?_|refine Dl.block ?_|refine Dl.inBlock ?_|refine Dl.loop ?_|refine Dl.inLoop ?_|refine Dl.exit (by with_unfolding_all rfl) ?_|(refine Dl.cond true (by with_unfolding_all rfl) ?_;simp only[AH,Az,Ae,↓reduceIte])|(refine Dl.cond false (by with_unfolding_all rfl) ?_;simp only[AH,Az,Ae,↓reduceIte])))
  (refine Dl.ctl rfl (λw hI=>stepG_entry_pure (.bool false) rfl rfl (by k_ne) rfl H.f_inBubble (x_inBubble_n L) (x_inBubble_b L) (x_inBubble_x L) (x_inBubble_f L)) ?_;walk_nrm)
  repeat (with_reducible (first|refine Dl.seq ?_|(refine Dl.region ?_;simp only[Ar,Ak,Aw,AP,AA,AN,AG])|refine Dl.regionEnd ?_|refine Dl.skip ?_|refine Dl.ret ?_|refine Dl.block ?_|refine Dl.inBlock ?_|refine Dl.loop ?_|refine Dl.inLoop ?_|refine Dl.exit (by with_unfolding_all rfl) ?_|(refine Dl.cond true (by with_unfolding_all rfl) ?_;simp only[AH,Az,Ae,↓reduceIte])|(refine Dl.cond false (by with_unfolding_all rfl) ?_;simp only[AH,Az,Ae,↓reduceIte])))
  (refine Dl.value _ rfl rfl (by k_ne) (λ_ _=>by(go_simp;try (first|rfl|w_num|decide))) (λ_ _=>by simp[go_sem, *]) ?_;walk_nrm)
  (refine Dl.value _ rfl rfl (by k_ne) (λ_ _=>by(go_simp;try (first|rfl|w_num|decide))) (λ_ _=>by simp[go_sem, *]) ?_;walk_nrm)
  (refine Dl.value _ rfl rfl (by k_ne) (λ_ _=>by(go_simp;try (first|rfl|w_num|decide))) (λ_ _=>by simp[go_sem, *]) ?_;walk_nrm)
  (refine Dl.value _ rfl rfl (by k_ne) (λ_ _=>by(go_simp;try (first|rfl|w_num|decide))) (λ_ _=>by simp[go_sem, *]) ?_;walk_nrm)
  (refine Dl.value _ rfl rfl (by k_ne) (λ_ _=>by(go_simp;try (first|rfl|w_num|decide))) (λ_ _=>by simp[go_sem, *]) ?_;walk_nrm)
  (refine Dl.value _ rfl rfl (by k_ne) (λ_ _=>by(go_simp;try (first|rfl|w_num|decide))) (λ_ _=>by simp[go_sem, *]) ?_;walk_nrm)
  (refine Dl.call rfl rfl (by k_ne) rfl H.f_uAdd (nm_uAdd L) rfl ?_;walk_nrmf uAddFn)
  repeat (with_reducible (first|refine Dl.seq ?_|(refine Dl.region ?_;simp only[Ar,Ak,Aw,AP,AA,AN,AG])|refine Dl.regionEnd ?_|refine Dl.skip ?_|refine Dl.ret ?_|refine Dl.block ?_|refine Dl.inBlock ?_|refine Dl.loop ?_|refine Dl.inLoop ?_|refine Dl.exit (by with_unfolding_all rfl) ?_|(refine Dl.cond true (by with_unfolding_all rfl) ?_;simp only[AH,Az,Ae,↓reduceIte])|(refine Dl.cond false (by with_unfolding_all rfl) ?_;simp only[AH,Az,Ae,↓reduceIte])))
  (refine Dl.value _ rfl rfl (by k_ne) (λ_ _=>by(go_simp;try (first|rfl|w_num|decide))) (λ_ _=>by simp[go_sem, *]) ?_;walk_nrm)
  repeat (with_reducible (first|refine Dl.seq ?_|(refine Dl.region ?_;simp only[Ar,Ak,Aw,AP,AA,AN,AG])|refine Dl.regionEnd ?_|refine Dl.skip ?_|refine Dl.ret ?_|refine Dl.block ?_|refine Dl.inBlock ?_|refine Dl.loop ?_|refine Dl.inLoop ?_|refine Dl.exit (by with_unfolding_all rfl) ?_|(refine Dl.cond true (by with_unfolding_all rfl) ?_;simp only[AH,Az,Ae,↓reduceIte])|(refine Dl.cond false (by with_unfolding_all rfl) ?_;simp only[AH,Az,Ae,↓reduceIte])))
  (refine Dl.value _ rfl rfl (by k_ne) (λ_ _=>by(go_simp;try (first|rfl|w_num|decide))) (λ_ _=>by simp[go_sem, *]) ?_;walk_nrm)
  (refine Dl.value _ rfl rfl (by k_ne) (λ_ _=>by(go_simp;try (first|rfl|w_num|decide))) (λ_ _=>by simp[go_sem, *]) ?_;walk_nrm)
  (refine Dl.value _ rfl rfl (by k_ne) (λ_ _=>by(go_simp;try (first|rfl|w_num|decide))) (λ_ _=>by simp[go_sem, *]) ?_;walk_nrm)
  (refine Dl.value _ rfl rfl (by k_ne) (λ_ _=>by(go_simp;try (first|rfl|w_num|decide))) (λ_ _=>by simp[go_sem, *]) ?_;walk_nrm)
  refine .here ⟨rfl,rfl,λw v wt hwt hv hw=>?_⟩
  have hc:w.cell? ⟨Wg,0,none⟩=some (.int .u64 (((v:Int)+1)*KK+wt)):=by simp[BA,hw,wgBlock]
  have hz:w.frozen? ⟨Wg,0,none⟩=false:=by simp[Dn,hw,wgBlock]
  have eS:AB.wrap (((v:Int)+1)*KK+wt+AB.wrap (AB.wrap (-1)*4294967296))=(v:Int)*KK+wt:=by
    have:AB.wrap (AB.wrap (-1)*4294967296)=18446744069414584320:=by decide
    rw[this,EA];simp only[KK];omega
  refine⟨_,(stepG_add_atomic rfl rfl (by k_ne) rfl H.f_addU64 (x_addU64_n L) (x_addU64_b L) (x_addU64_x L) .u64 (x_addU64_f L) rfl rfl hc hz).trans (by rw[eS];rfl),?_⟩
  clear hw hc hz eS
  walk_nrm
  by_cases h0:v=0
  · subst h0
    obtain rfl|rfl:wt=0\/wt=1:=by omega
    · refine⟨λh=>absurd h.2 (by decide),λ_=>Dl.quits ?_⟩
      have e0:((0:Nat):Int)*KK+((0:Nat):Int)=0:=by simp
      rw[e0]
      have e2:BI.wrap (bits BinOp.and AB 0 2147483647)=0:=by decide
      (repeat (first|(with_reducible (first|refine Dl.seq ?_|(refine Dl.region ?_;simp only[Ar,Ak,Aw,AP,AA,AN,AG])|refine Dl.regionEnd ?_|refine Dl.skip ?_|refine Dl.ret ?_|refine Dl.block ?_|refine Dl.inBlock ?_|refine Dl.loop ?_|refine Dl.inLoop ?_|refine Dl.exit (by with_unfolding_all rfl) ?_|(refine Dl.cond true (by with_unfolding_all rfl) ?_;simp only[AH,Az,Ae,↓reduceIte])|(refine Dl.cond false (by with_unfolding_all rfl) ?_;simp only[AH,Az,Ae,↓reduceIte])))|(refine Dl.unwanted rfl rfl ?_;walk_nrm)|(refine Dl.value _ rfl rfl (by k_ne) (λ_ _=>by(go_simp;try (first|rfl|w_num|decide))) (λ_ _=>by simp[go_sem, *]) ?_;walk_nrm)))
      (refine Dl.leave1 rfl rfl H.f_uAdd rfl ?_;walk_nrm)
      (repeat (first|(with_reducible (first|refine Dl.seq ?_|(refine Dl.region ?_;simp only[Ar,Ak,Aw,AP,AA,AN,AG])|refine Dl.regionEnd ?_|refine Dl.skip ?_|refine Dl.ret ?_|refine Dl.block ?_|refine Dl.inBlock ?_|refine Dl.loop ?_|refine Dl.inLoop ?_|refine Dl.exit (by with_unfolding_all rfl) ?_|(refine Dl.cond true (by with_unfolding_all rfl) ?_;simp only[AH,Az,Ae,↓reduceIte])|(refine Dl.cond false (by with_unfolding_all rfl) ?_;simp only[AH,Az,Ae,↓reduceIte])))|(refine Dl.unwanted rfl rfl ?_;walk_nrm)|(refine Dl.value _ rfl rfl (by k_ne) (λ_ _=>by(go_simp;try (first|rfl|w_num|decide))) (λ_ _=>by simp[go_sem, *]) ?_;walk_nrm)))
      (refine Dl.unwind_mark .enable rfl (by simp) rfl H.f_enable (x_enable_n L) (x_enable_b L) (x_enable_x L) (x_enable_f L) ?_)
      exact Dl.leave0 rfl rfl H.f_add rfl hT'
    · refine⟨λ_=>?_,λh=>absurd ⟨rfl,rfl⟩ h⟩
      have e0:((0:Nat):Int)*KK+((1:Nat):Int)=1:=by simp
      rw[e0]
      have e2:BI.wrap (bits BinOp.and AB 1 2147483647)=1:=by decide
      (repeat (first|(with_reducible (first|refine Dl.seq ?_|(refine Dl.region ?_;simp only[Ar,Ak,Aw,AP,AA,AN,AG])|refine Dl.regionEnd ?_|refine Dl.skip ?_|refine Dl.ret ?_|refine Dl.block ?_|refine Dl.inBlock ?_|refine Dl.loop ?_|refine Dl.inLoop ?_|refine Dl.exit (by with_unfolding_all rfl) ?_|(refine Dl.cond true (by with_unfolding_all rfl) ?_;simp only[AH,Az,Ae,↓reduceIte])|(refine Dl.cond false (by with_unfolding_all rfl) ?_;simp only[AH,Az,Ae,↓reduceIte])))|(refine Dl.unwanted rfl rfl ?_;walk_nrm)|(refine Dl.value _ rfl rfl (by k_ne) (λ_ _=>by(go_simp;try (first|rfl|w_num|decide))) (λ_ _=>by simp[go_sem, *]) ?_;walk_nrm)))
      (refine Dl.leave1 rfl rfl H.f_uAdd rfl ?_;walk_nrm)
      (repeat (first|(with_reducible (first|refine Dl.seq ?_|(refine Dl.region ?_;simp only[Ar,Ak,Aw,AP,AA,AN,AG])|refine Dl.regionEnd ?_|refine Dl.skip ?_|refine Dl.ret ?_|refine Dl.block ?_|refine Dl.inBlock ?_|refine Dl.loop ?_|refine Dl.inLoop ?_|refine Dl.exit (by with_unfolding_all rfl) ?_|(refine Dl.cond true (by with_unfolding_all rfl) ?_;simp only[AH,Az,Ae,↓reduceIte])|(refine Dl.cond false (by with_unfolding_all rfl) ?_;simp only[AH,Az,Ae,↓reduceIte])))|(refine Dl.unwanted rfl rfl ?_;walk_nrm)|(refine Dl.value _ rfl rfl (by k_ne) (λ_ _=>by(go_simp;try (first|rfl|w_num|decide))) (λ_ _=>by simp[go_sem, *]) ?_;walk_nrm)))
      (refine Dl.call rfl rfl (by k_ne) rfl H.f_uLoad (nm_uLoad L) rfl ?_;walk_nrmf uLoadFn)
      (repeat (first|(with_reducible (first|refine Dl.seq ?_|(refine Dl.region ?_;simp only[Ar,Ak,Aw,AP,AA,AN,AG])|refine Dl.regionEnd ?_|refine Dl.skip ?_|refine Dl.ret ?_|refine Dl.block ?_|refine Dl.inBlock ?_|refine Dl.loop ?_|refine Dl.inLoop ?_|refine Dl.exit (by with_unfolding_all rfl) ?_|(refine Dl.cond true (by with_unfolding_all rfl) ?_;simp only[AH,Az,Ae,↓reduceIte])|(refine Dl.cond false (by with_unfolding_all rfl) ?_;simp only[AH,Az,Ae,↓reduceIte])))|(refine Dl.unwanted rfl rfl ?_;walk_nrm)|(refine Dl.value _ rfl rfl (by k_ne) (λ_ _=>by(go_simp;try (first|rfl|w_num|decide))) (λ_ _=>by simp[go_sem, *]) ?_;walk_nrm)))
      refine .here ⟨rfl,rfl,λw hw=>?_⟩
      have hc:w.cell? ⟨Wg,0,none⟩=some (.int .u64 1):=by simp[BA,hw,wgBlock]
      refine⟨_,stepG_load_atomic rfl rfl (by k_ne) rfl H.f_loadU64 (x_loadU64_n L) (x_loadU64_b L) (x_loadU64_x L) .u64 (x_loadU64_f L) rfl hc,?_⟩
      clear hc hw
      walk_nrm
      (repeat (first|(with_reducible (first|refine Dl.seq ?_|(refine Dl.region ?_;simp only[Ar,Ak,Aw,AP,AA,AN,AG])|refine Dl.regionEnd ?_|refine Dl.skip ?_|refine Dl.ret ?_|refine Dl.block ?_|refine Dl.inBlock ?_|refine Dl.loop ?_|refine Dl.inLoop ?_|refine Dl.exit (by with_unfolding_all rfl) ?_|(refine Dl.cond true (by with_unfolding_all rfl) ?_;simp only[AH,Az,Ae,↓reduceIte])|(refine Dl.cond false (by with_unfolding_all rfl) ?_;simp only[AH,Az,Ae,↓reduceIte])))|(refine Dl.unwanted rfl rfl ?_;walk_nrm)|(refine Dl.value _ rfl rfl (by k_ne) (λ_ _=>by(go_simp;try (first|rfl|w_num|decide))) (λ_ _=>by simp[go_sem, *]) ?_;walk_nrm)))
      (refine Dl.leave1 rfl rfl H.f_uLoad rfl ?_;walk_nrm)
      (repeat (first|(with_reducible (first|refine Dl.seq ?_|(refine Dl.region ?_;simp only[Ar,Ak,Aw,AP,AA,AN,AG])|refine Dl.regionEnd ?_|refine Dl.skip ?_|refine Dl.ret ?_|refine Dl.block ?_|refine Dl.inBlock ?_|refine Dl.loop ?_|refine Dl.inLoop ?_|refine Dl.exit (by with_unfolding_all rfl) ?_|(refine Dl.cond true (by with_unfolding_all rfl) ?_;simp only[AH,Az,Ae,↓reduceIte])|(refine Dl.cond false (by with_unfolding_all rfl) ?_;simp only[AH,Az,Ae,↓reduceIte])))|(refine Dl.unwanted rfl rfl ?_;walk_nrm)|(refine Dl.value _ rfl rfl (by k_ne) (λ_ _=>by(go_simp;try (first|rfl|w_num|decide))) (λ_ _=>by simp[go_sem, *]) ?_;walk_nrm)))
      (refine Dl.call rfl rfl (by k_ne) rfl H.f_uStore (nm_uStore L) rfl ?_;walk_nrmf uStoreFn)
      (repeat (first|(with_reducible (first|refine Dl.seq ?_|(refine Dl.region ?_;simp only[Ar,Ak,Aw,AP,AA,AN,AG])|refine Dl.regionEnd ?_|refine Dl.skip ?_|refine Dl.ret ?_|refine Dl.block ?_|refine Dl.inBlock ?_|refine Dl.loop ?_|refine Dl.inLoop ?_|refine Dl.exit (by with_unfolding_all rfl) ?_|(refine Dl.cond true (by with_unfolding_all rfl) ?_;simp only[AH,Az,Ae,↓reduceIte])|(refine Dl.cond false (by with_unfolding_all rfl) ?_;simp only[AH,Az,Ae,↓reduceIte])))|(refine Dl.unwanted rfl rfl ?_;walk_nrm)|(refine Dl.value _ rfl rfl (by k_ne) (λ_ _=>by(go_simp;try (first|rfl|w_num|decide))) (λ_ _=>by simp[go_sem, *]) ?_;walk_nrm)))
      refine .here ⟨rfl,rfl,λw hw=>?_⟩
      have hc:w.cell? ⟨Wg,0,none⟩=some (.int .u64 1):=by simp[BA,hw,wgBlock]
      have hz:w.frozen? ⟨Wg,0,none⟩=false:=by simp[Dn,hw,wgBlock]
      refine⟨_,stepG_store_atomic rfl rfl (by k_ne) rfl H.f_storeU64 (x_storeU64_n L) (x_storeU64_b L) (x_storeU64_x L) (x_storeU64_f L) rfl rfl hc hz,?_⟩
      clear hc hw hz
      walk_nrm
      (repeat (first|(with_reducible (first|refine Dl.seq ?_|(refine Dl.region ?_;simp only[Ar,Ak,Aw,AP,AA,AN,AG])|refine Dl.regionEnd ?_|refine Dl.skip ?_|refine Dl.ret ?_|refine Dl.block ?_|refine Dl.inBlock ?_|refine Dl.loop ?_|refine Dl.inLoop ?_|refine Dl.exit (by with_unfolding_all rfl) ?_|(refine Dl.cond true (by with_unfolding_all rfl) ?_;simp only[AH,Az,Ae,↓reduceIte])|(refine Dl.cond false (by with_unfolding_all rfl) ?_;simp only[AH,Az,Ae,↓reduceIte])))|(refine Dl.unwanted rfl rfl ?_;walk_nrm)|(refine Dl.value _ rfl rfl (by k_ne) (λ_ _=>by(go_simp;try (first|rfl|w_num|decide))) (λ_ _=>by simp[go_sem, *]) ?_;walk_nrm)))
      refine Dl.done ?_
      (refine Dl.leave0 rfl rfl H.f_uStore rfl ?_;walk_nrm)
      (repeat (first|(with_reducible (first|refine Dl.seq ?_|(refine Dl.region ?_;simp only[Ar,Ak,Aw,AP,AA,AN,AG])|refine Dl.regionEnd ?_|refine Dl.skip ?_|refine Dl.ret ?_|refine Dl.block ?_|refine Dl.inBlock ?_|refine Dl.loop ?_|refine Dl.inLoop ?_|refine Dl.exit (by with_unfolding_all rfl) ?_|(refine Dl.cond true (by with_unfolding_all rfl) ?_;simp only[AH,Az,Ae,↓reduceIte])|(refine Dl.cond false (by with_unfolding_all rfl) ?_;simp only[AH,Az,Ae,↓reduceIte])))|(refine Dl.unwanted rfl rfl ?_;walk_nrm)|(refine Dl.value _ rfl rfl (by k_ne) (λ_ _=>by(go_simp;try (first|rfl|w_num|decide))) (λ_ _=>by simp[go_sem, *]) ?_;walk_nrm)))
      refine .here ⟨rfl,rfl,mayWake_entry rfl rfl H.f_semrelease (x_semrelease_b L),λw hw=>?_⟩
      have hc:w.cell? ⟨Wg,1,none⟩=some (.int .u32 0):=by simp[BA,hw,wgBlock]
      have hz:w.frozen? ⟨Wg,1,none⟩=false:=by simp[Dn,hw,wgBlock]
      refine⟨_,(stepG_semrelease rfl rfl (by k_ne) rfl H.f_semrelease (x_semrelease_n L) (x_semrelease_b L) (x_semrelease_x L) (x_semrelease_f L) (by simp[Dk,smA]) hc hz).trans (by rfl),Dl.quits ?_⟩
      clear hc hw hz
      walk_nrm
      (repeat (first|(with_reducible (first|refine Dl.seq ?_|(refine Dl.region ?_;simp only[Ar,Ak,Aw,AP,AA,AN,AG])|refine Dl.regionEnd ?_|refine Dl.skip ?_|refine Dl.ret ?_|refine Dl.block ?_|refine Dl.inBlock ?_|refine Dl.loop ?_|refine Dl.inLoop ?_|refine Dl.exit (by with_unfolding_all rfl) ?_|(refine Dl.cond true (by with_unfolding_all rfl) ?_;simp only[AH,Az,Ae,↓reduceIte])|(refine Dl.cond false (by with_unfolding_all rfl) ?_;simp only[AH,Az,Ae,↓reduceIte])))|(refine Dl.unwanted rfl rfl ?_;walk_nrm)|(refine Dl.value _ rfl rfl (by k_ne) (λ_ _=>by(go_simp;try (first|rfl|w_num|decide))) (λ_ _=>by simp[go_sem, *]) ?_;walk_nrm)))
      refine Dl.done ?_
      (refine Dl.unwind_mark .enable rfl (by simp) rfl H.f_enable (x_enable_n L) (x_enable_b L) (x_enable_x L) (x_enable_f L) ?_)
      exact Dl.leave0 rfl rfl H.f_add rfl hT'
  · refine⟨λh=>absurd h.1 h0,λ_=>Dl.quits ?_⟩
    obtain⟨V,hV⟩:∃V:Int,V=(v:Int):=⟨_,rfl⟩
    obtain⟨S,hS⟩:∃S:Int,S=(v:Int)*KK+wt:=⟨_,rfl⟩
    have a1:S/4294967296=V:=by rw[hS,hV];simp only[KK];omega
    have b1:bits .and .u64 S 2147483648=0:=by rw[hS];have:=st_flag v wt (by omega) hwt;simpa[KK]using this
    have b2:bits .and .u64 S 2147483647=wt:=by rw[hS];have:=st_waiters v wt (by omega) hwt;simpa[KK]using this
    have c1:IntKind.i32.wrap V=V:=by rw[IntKind.wrap_i32];omega
    have hV1:0<V:=by omega
    have hV2:V<2147483648:=by omega
    have q3:decide (V<0)=false:=Bs (by omega)
    have q4:decide (0<V)=true:=B4 (by omega)
    have q5:(V==0)=false:=by simp;omega
    have q6:decide (V=0)=false:=Bs (by omega)
    rw[<-hS]
    obtain rfl|rfl:wt=0\/wt=1:=by omega
    · have d1:BI.wrap 0=0:=by decide
      replace b2:bits .and .u64 S 2147483647=0:=by simpa using b2
      clear hS hV
      (repeat (first|(with_reducible (first|refine Dl.seq ?_|(refine Dl.region ?_;simp only[Ar,Ak,Aw,AP,AA,AN,AG])|refine Dl.regionEnd ?_|refine Dl.skip ?_|refine Dl.ret ?_|refine Dl.block ?_|refine Dl.inBlock ?_|refine Dl.loop ?_|refine Dl.inLoop ?_|refine Dl.exit (by with_unfolding_all rfl) ?_|(refine Dl.cond true (by with_unfolding_all rfl) ?_;simp only[AH,Az,Ae,↓reduceIte])|(refine Dl.cond false (by with_unfolding_all rfl) ?_;simp only[AH,Az,Ae,↓reduceIte])))|(refine Dl.unwanted rfl rfl ?_;walk_nrm)|(refine Dl.value _ rfl rfl (by k_ne) (λ_ _=>by(go_simp;try (first|rfl|w_num|decide))) (λ_ _=>by simp[go_sem, *]) ?_;walk_nrm)))
      (refine Dl.leave1 rfl rfl H.f_uAdd rfl ?_;walk_nrm)
      (repeat (first|(with_reducible (first|refine Dl.seq ?_|(refine Dl.region ?_;simp only[Ar,Ak,Aw,AP,AA,AN,AG])|refine Dl.regionEnd ?_|refine Dl.skip ?_|refine Dl.ret ?_|refine Dl.block ?_|refine Dl.inBlock ?_|refine Dl.loop ?_|refine Dl.inLoop ?_|refine Dl.exit (by with_unfolding_all rfl) ?_|(refine Dl.cond true (by with_unfolding_all rfl) ?_;simp only[AH,Az,Ae,↓reduceIte])|(refine Dl.cond false (by with_unfolding_all rfl) ?_;simp only[AH,Az,Ae,↓reduceIte])))|(refine Dl.unwanted rfl rfl ?_;walk_nrm)|(refine Dl.value _ rfl rfl (by k_ne) (λ_ _=>by(go_simp;try (first|rfl|w_num|decide))) (λ_ _=>by simp[go_sem, *]) ?_;walk_nrm)))
      (refine Dl.unwind_mark .enable rfl (by simp) rfl H.f_enable (x_enable_n L) (x_enable_b L) (x_enable_x L) (x_enable_f L) ?_)
      exact Dl.leave0 rfl rfl H.f_add rfl hT'
    · have d1:BI.wrap 1=1:=by decide
      replace b2:bits .and .u64 S 2147483647=1:=by simpa using b2
      clear hS hV
      (repeat (first|(with_reducible (first|refine Dl.seq ?_|(refine Dl.region ?_;simp only[Ar,Ak,Aw,AP,AA,AN,AG])|refine Dl.regionEnd ?_|refine Dl.skip ?_|refine Dl.ret ?_|refine Dl.block ?_|refine Dl.inBlock ?_|refine Dl.loop ?_|refine Dl.inLoop ?_|refine Dl.exit (by with_unfolding_all rfl) ?_|(refine Dl.cond true (by with_unfolding_all rfl) ?_;simp only[AH,Az,Ae,↓reduceIte])|(refine Dl.cond false (by with_unfolding_all rfl) ?_;simp only[AH,Az,Ae,↓reduceIte])))|(refine Dl.unwanted rfl rfl ?_;walk_nrm)|(refine Dl.value _ rfl rfl (by k_ne) (λ_ _=>by(go_simp;try (first|rfl|w_num|decide))) (λ_ _=>by simp[go_sem, *]) ?_;walk_nrm)))
      (refine Dl.leave1 rfl rfl H.f_uAdd rfl ?_;walk_nrm)
      (repeat (first|(with_reducible (first|refine Dl.seq ?_|(refine Dl.region ?_;simp only[Ar,Ak,Aw,AP,AA,AN,AG])|refine Dl.regionEnd ?_|refine Dl.skip ?_|refine Dl.ret ?_|refine Dl.block ?_|refine Dl.inBlock ?_|refine Dl.loop ?_|refine Dl.inLoop ?_|refine Dl.exit (by with_unfolding_all rfl) ?_|(refine Dl.cond true (by with_unfolding_all rfl) ?_;simp only[AH,Az,Ae,↓reduceIte])|(refine Dl.cond false (by with_unfolding_all rfl) ?_;simp only[AH,Az,Ae,↓reduceIte])))|(refine Dl.unwanted rfl rfl ?_;walk_nrm)|(refine Dl.value _ rfl rfl (by k_ne) (λ_ _=>by(go_simp;try (first|rfl|w_num|decide))) (λ_ _=>by simp[go_sem, *]) ?_;walk_nrm)))
      (refine Dl.unwind_mark .enable rfl (by simp) rfl H.f_enable (x_enable_n L) (x_enable_b L) (x_enable_x L) (x_enable_f L) ?_)
      exact Dl.leave0 rfl rfl H.f_add rfl hT'
end Go.Am
end
section
open List renaming map_map->E,mapM_map->J
namespace Go.Am
open Go.Conc Go.ConcR.Gen Go.Conc.Lib Go.RowKit Go.ConcR
open Go
def bDd{L:WgLink}{P:Program}(H:WgLib P L){Wg:Nat}{cs:List Frame}{b0:Frame}{a0:Act}{ops0:Array Oper}{i0:Nat}{rest0:List Nat}{k0:List Item}{T:Array Value}(hT:T=#[.pointer (some ⟨Wg,0,none⟩),.int .i64 (-1)]++AY 115 undef)
    (hq:∃q,QuitsD P q 0 (G (b0.at (a0.put ((ops0[i0]?).bind (·.dst)) (.tuple #[])) (.inRegion ops0 rest0::k0)) cs)) :
    Dl P false (cP L.tWg Wg) noE (xQ P L Wg) 0 (G ((base L.add).at ⟨T,[]⟩ [.code (body_add L)]) (b0.at a0 (.inRegion ops0 (i0::rest0)::k0)::cs)):=by
  subst hT;exact bOk H hq
def bJy{L:WgLink}{P:Program}(H:WgLib P L){Wg:Nat}{c:Frame}{cs:List Frame}(hcm:c.mode=.returning){q:Nat}(hT:QuitsD P q 0 (G c cs)) :
    Dl P false (cP L.tWg Wg) noE (xQ P L Wg) 0 (G ((baseD L.done).at ⟨#[.pointer (some ⟨Wg,0,none⟩),undef,undef,undef],[]⟩ [.code (body_done L)]) (c::cs)):=by
  lib_facts
  simp only[body_done,doneFn,AT]
  (repeat (first|(with_reducible (first|refine Dl.seq ?_|(refine Dl.region ?_;simp only[Ar,Ak,Aw,AP,AA,AN,AG])|refine Dl.regionEnd ?_|refine Dl.skip ?_|refine Dl.ret ?_|refine Dl.block ?_|refine Dl.inBlock ?_|refine Dl.loop ?_|refine Dl.inLoop ?_|refine Dl.exit (by with_unfolding_all rfl) ?_|(refine Dl.cond true (by with_unfolding_all rfl) ?_;simp only[AH,Az,Ae,↓reduceIte])|(refine Dl.cond false (by with_unfolding_all rfl) ?_;simp only[AH,Az,Ae,↓reduceIte])))|(refine Dl.unwanted rfl rfl ?_;walk_nrm)|(refine Dl.value _ rfl rfl (by k_ne) (λ_ _=>by(go_simp;try (first|rfl|w_num|decide))) (λ_ _=>by simp[go_sem, *]) ?_;walk_nrm)))
  have hS:=λ{cs b0 a0 ops0 i0 rest0 k0 T}=>@bDd L P H Wg cs b0 a0 ops0 i0 rest0 k0 T
  simp only[body_add,addFn,AT]at hS
  refine Dl.call rfl rfl (by k_ne) rfl H.f_add (nm_add L) rfl ?_
  walk_nrmf addFn
  refine hS ?_ ⟨q+3,?_⟩
  · apply Array.ext'
    rw[Array.toList_append,Array.toList_replicate]
    simp only[List.replicate]
    rfl
  q_c stepG_region_end
  q_c stepG_end
  exact QuitsD.leaveD rfl rfl H.f_done rfl hcm hT
end Go.Am
end
section
open List renaming map_map->E,mapM_map->J
open Go Go.Am Go.Proofs
namespace Go.Am
open Go.Conc Go.Conc.Lib Go.RowKit Go.ConcR.Gen
open Go.ConcR (KK wgBlock stA smA rd wr mk)
def lT(F:Nat->Prop)(v v':World):Prop:=∀b,F b->∀c e f,v.heap[b]? = some (.cells c e f)->∃f',v'.heap[b]? = some (.cells c e f')
def lT.cell{F:Nat->Prop}{v v':World}(h:lT F v v'){a:Addr}(ha:F a.block){x:Value}(hx:v.cell? a=some x):v'.cell? a=some x:=by obtain⟨c,t,f,hb,hlt,hs⟩:=oP hx;obtain⟨f',hb'⟩:=h _ ha _ _ _ hb;simp only[BA,hb,hb']at hx ⊢;exact hx
def pN(d:D):Prop:=∀(F:Nat->Prop) (v v':World) (x:Value),lT F v v'->VD F v d x->VD F v' d x
def xC(k:IntKind)(n:Int):pN (.i k n):=λF v v' x _ hx=>by cases hx;exact .i k n
def bIx(b:Bool):pN (.b b):=λF v v' x _ hx=>by cases hx;exact .b b
def nK(y:Value):pN (.lit y):=λF v v' x _ hx=>by cases hx;exact .lit y
def oI{els:List (List D)}(h:∀cs∈els,∀c∈cs,pN c):pN (.sl els):=λF v v' x hs hx=>by
  cases hx with
  |sl0 ad c=>exact .sl0 ad c
  | sl els ad n c sz f hn hc hsz hF hcell hel =>
    exact .sl els ad n c sz f hn hc hsz hF (λj hj=>hs.cell (by rw[block_add];exact hF) (hcell j hj)) λj k cs c h1 h2=>h cs (Aj h1) c (Aj h2) F v v' _ hs (hel j k cs c h1 h2)
def kT{cs:List D}(h:∀c∈cs,pN c):pN (.pt cs):=λF v v' x hs hx=>by
  cases hx with
  |pt cs ad f hF hcell hel=>exact .pt cs ad f hF (λj hj=>hs.cell (by rw[block_add];exact hF) (hcell j hj)) λk c h1=>h c (Aj h1) F v v' _ hs (hel k c h1)
def aQp(F:Nat->Prop)(v:World):lT F v (jI v):=λb _ c e f hb=>⟨_,by rw[nJ,hb];rfl⟩
def aEw{F:Nat->Prop}{v v':World}(h:Env v v'):lT F v v':=λb _ c e f hb=>⟨f,by rw[h.get (bF hb)];exact hb⟩
def aXr{F:Nat->Prop}{v:World}{C:Nat}(hC:∀b,F b->b≠C):lT F v (inV v C):=λb hF c e f hb=>⟨_,by rw[zL (bF hb) (hC b hF),hb];rfl⟩
def lT.trans{F:Nat->Prop}{v v1 v2:World}(h:lT F v v1)(k:lT F v1 v2):lT F v v2:=λb hF c e f hb=>by obtain⟨f1,h1⟩:=h b hF c e f hb;exact k b hF c e f1 h1
def bNo{Wg Ba Bp Bi Br:Nat}{p:Pl}{i n cap:Nat}{v:World}{c0 c1 c2:D}{pr rp rv er:Int}(hwd:p.wd=3)(hi:i<p.n)(hn:p.n=n)(h0:p.val i 0=.int .i64 i)(h1:p.val i 1=.int .u64 rp)(h2:p.val i 2=.int .u64 rv)(hok:OkV v)
    (hBa:VD (λb=>b<v.heap.size) v (.pt [c0,c1,c2]) (bX Ba)) (hBp:VD (λb=>b<v.heap.size) v (.pt [.i .u64 pr]) (bX Bp)) (hBi:VD (λb=>b<v.heap.size) v (.pt [.i .i64 i]) (bX Bi)) (hBr:VD (λb=>b<v.heap.size) v (.pt [.lit (.slice (some ⟨p.C,0,none⟩) n cap)]) (bX Br))
    (hsp:letI:=kK Aa false;Spec Aa 74 [.ag [c0,c1,c2],.i .u64 pr] (.tp [.ag [.i .u64 rp,.i .u64 rv],.i .i64 er])) :
    ∃tr,GTw Aa bO Wg p i tr 0 (born Aa (aEo Wg Ba Bp Bi Br)) v :=
  bBz (p:=p) (Wg:=Wg) hok hBa hBp hBi hBr hsp λa v' ops o6 o7 hv ho6 ho7 p6 d6 g6 p7 d7 g7 hN hds e13 e14 e17 =>
    aWq (λhcm hq=>bJy aEn hcm hq) hwd hi hn h0 h1 h2 hv ho6 ho7 p6 d6 g6 p7 d7 g7 hN hds e13 e14 e17
end Go.Am
end
section
open List renaming map_map->E,mapM_map->J
namespace Go.Am
open Go.Conc Go.ConcR.Gen Go.Conc.Lib Go.RowKit Go.ConcR
open Go.ConcN (st_flag st_waiters)
open Go
def bVe{L:WgLink}{P:Program}(H:WgLib P L){Wg:Nat}{cs:List Frame}{b0:Frame}{a0:Act}{ops0:Array Oper}{i0:Nat}{rest0:List Nat}{k0:List Item}{K:Nat->Goroutine->Prop}
    (hK:K 0 (G (b0.at (a0.put ((ops0[i0]?).bind (·.dst)) (.tuple #[])) (.inRegion ops0 rest0::k0)) cs)) :
    Dl P true (cP L.tWg Wg) (dK Wg) (λd g=>d=1/\aGv P L Wg K d g) 0 (G ((base L.add).at ⟨#[.pointer (some ⟨Wg,0,none⟩),.int .i64 1]++AY 115 undef,[]⟩ [.code (body_add L)]) (b0.at a0 (.inRegion ops0 (i0::rest0)::k0)::cs)):=by
  have hT':Dl P true (cP L.tWg Wg) (dK Wg) K 0 (G (b0.at (a0.put ((ops0[i0]?).bind (·.dst)) (.tuple #[])) (.inRegion ops0 rest0::k0)) cs):=.here hK
  lib_facts
  simp only[body_add,addFn,AT]
  (repeat (first|(with_reducible (first|refine Dl.seq ?_|(refine Dl.region ?_;simp only[Ar,Ak,Aw,AP,AA,AN,AG])|refine Dl.regionEnd ?_|refine Dl.skip ?_|refine Dl.ret ?_|refine Dl.block ?_|refine Dl.inBlock ?_|refine Dl.loop ?_|refine Dl.inLoop ?_|refine Dl.exit (by with_unfolding_all rfl) ?_|(refine Dl.cond true (by with_unfolding_all rfl) ?_;simp only[AH,Az,Ae,↓reduceIte])|(refine Dl.cond false (by with_unfolding_all rfl) ?_;simp only[AH,Az,Ae,↓reduceIte])))|(refine Dl.unwanted rfl rfl ?_;walk_nrm)|(refine Dl.value _ rfl rfl (by k_ne) (λ_ _=>by(go_simp;try (first|rfl|w_num|decide))) (λ_ _=>by simp[go_sem, *]) ?_;walk_nrm)))
  (refine Dl.step rfl (by(intro e he;simp at he;subst he;exact .inl rfl)) (λw hI=>stepG_mark0 .disable (by simp) rfl rfl (by k_ne) rfl H.f_disable (x_disable_n L) (x_disable_b L) (x_disable_x L) (x_disable_f L)) ?_;walk_nrm)
  repeat (with_reducible (first|refine Dl.seq ?_|(refine Dl.region ?_;simp only[Ar,Ak,Aw,AP,AA,AN,AG])|refine Dl.regionEnd ?_|refine Dl.skip ?_|refine Dl.ret ?_|refine Dl.block ?_|refine Dl.inBlock ?_|refine Dl.loop ?_|refine Dl.inLoop ?_|refine Dl.exit (by with_unfolding_all rfl) ?_|(refine Dl.cond true (by with_unfolding_all rfl) ?_;simp only[AH,Az,Ae,↓reduceIte])|(refine Dl.cond false (by with_unfolding_all rfl) ?_;simp only[AH,Az,Ae,↓reduceIte])))
  (refine Dl.ctl rfl (λw hI=>stepG_defer rfl rfl (by k_ne) rfl) ?_;walk_nrm)
  repeat (with_reducible (first|refine Dl.seq ?_|(refine Dl.region ?_;simp only[Ar,Ak,Aw,AP,AA,AN,AG])|refine Dl.regionEnd ?_|refine Dl.skip ?_|refine Dl.ret ?_|refine Dl.block ?_|refine Dl.inBlock ?_|refine Dl.loop ?_|refine Dl.inLoop ?_|refine Dl.exit (by with_unfolding_all rfl) ?_|(refine Dl.cond true (by with_unfolding_all rfl) ?_;simp only[AH,Az,Ae,↓reduceIte])|(refine Dl.cond false (by with_unfolding_all rfl) ?_;simp only[AH,Az,Ae,↓reduceIte])))
  (refine Dl.value _ rfl rfl (by k_ne) (λ_ _=>by(go_simp;try (first|rfl|w_num|decide))) (λ_ _=>by simp[go_sem, *]) ?_;walk_nrm)
  repeat (with_reducible (first|refine Dl.seq ?_|(refine Dl.region ?_;simp only[Ar,Ak,Aw,AP,AA,AN,AG])|refine Dl.regionEnd ?_|refine Dl.skip ?_|refine Dl.ret ?_|refine Dl.block ?_|refine Dl.inBlock ?_|refine Dl.loop ?_|refine Dl.inLoop ?_|refine Dl.exit (by with_unfolding_all rfl) ?_|(refine Dl.cond true (by with_unfolding_all rfl) ?_;simp only[AH,Az,Ae,↓reduceIte])|(refine Dl.cond false (by with_unfolding_all rfl) ?_;simp only[AH,Az,Ae,↓reduceIte])))
  (refine Dl.ctl rfl (λw hI=>stepG_entry_pure (.bool false) rfl rfl (by k_ne) rfl H.f_inBubble (x_inBubble_n L) (x_inBubble_b L) (x_inBubble_x L) (x_inBubble_f L)) ?_;walk_nrm)
  (repeat (first|(with_reducible (first|refine Dl.seq ?_|(refine Dl.region ?_;simp only[Ar,Ak,Aw,AP,AA,AN,AG])|refine Dl.regionEnd ?_|refine Dl.skip ?_|refine Dl.ret ?_|refine Dl.block ?_|refine Dl.inBlock ?_|refine Dl.loop ?_|refine Dl.inLoop ?_|refine Dl.exit (by with_unfolding_all rfl) ?_|(refine Dl.cond true (by with_unfolding_all rfl) ?_;simp only[AH,Az,Ae,↓reduceIte])|(refine Dl.cond false (by with_unfolding_all rfl) ?_;simp only[AH,Az,Ae,↓reduceIte])))|(refine Dl.unwanted rfl rfl ?_;walk_nrm)|(refine Dl.value _ rfl rfl (by k_ne) (λ_ _=>by(go_simp;try (first|rfl|w_num|decide))) (λ_ _=>by simp[go_sem, *]) ?_;walk_nrm)))
  (refine Dl.call rfl rfl (by k_ne) rfl H.f_uAdd (nm_uAdd L) rfl ?_;walk_nrmf uAddFn)
  (repeat (first|(with_reducible (first|refine Dl.seq ?_|(refine Dl.region ?_;simp only[Ar,Ak,Aw,AP,AA,AN,AG])|refine Dl.regionEnd ?_|refine Dl.skip ?_|refine Dl.ret ?_|refine Dl.block ?_|refine Dl.inBlock ?_|refine Dl.loop ?_|refine Dl.inLoop ?_|refine Dl.exit (by with_unfolding_all rfl) ?_|(refine Dl.cond true (by with_unfolding_all rfl) ?_;simp only[AH,Az,Ae,↓reduceIte])|(refine Dl.cond false (by with_unfolding_all rfl) ?_;simp only[AH,Az,Ae,↓reduceIte])))|(refine Dl.unwanted rfl rfl ?_;walk_nrm)|(refine Dl.value _ rfl rfl (by k_ne) (λ_ _=>by(go_simp;try (first|rfl|w_num|decide))) (λ_ _=>by simp[go_sem, *]) ?_;walk_nrm)))
  refine .here ⟨rfl,rfl,λw v hv hw=>?_⟩
  have hc:w.cell? ⟨Wg,0,none⟩=some (.int .u64 ((v:Int)*KK)):=by simp[BA,hw,wgBlock]
  have hz:w.frozen? ⟨Wg,0,none⟩=false:=by simp[Dn,hw,wgBlock]
  have eS:AB.wrap ((v:Int)*KK+AB.wrap (AB.wrap 1*4294967296))=((v:Int)+1)*KK:=by
    have:AB.wrap (AB.wrap 1*4294967296)=4294967296:=by decide
    rw[this,EA];simp only[KK];omega
  refine⟨_,(stepG_add_atomic rfl rfl (by k_ne) rfl H.f_addU64 (x_addU64_n L) (x_addU64_b L) (x_addU64_x L) .u64 (x_addU64_f L) rfl rfl hc hz).trans (by rw[eS];rfl),?_⟩
  clear hw hc hz eS
  walk_nrm
  by_cases h0:v=0
  · subst h0
    have e0:(((0:Nat):Int)+1)*KK=4294967296:=by simp[KK]
    rw[e0]
    have e2:BI.wrap (bits BinOp.and AB 4294967296 2147483647)=0:=by decide
    (repeat (first|(with_reducible (first|refine Dl.seq ?_|(refine Dl.region ?_;simp only[Ar,Ak,Aw,AP,AA,AN,AG])|refine Dl.regionEnd ?_|refine Dl.skip ?_|refine Dl.ret ?_|refine Dl.block ?_|refine Dl.inBlock ?_|refine Dl.loop ?_|refine Dl.inLoop ?_|refine Dl.exit (by with_unfolding_all rfl) ?_|(refine Dl.cond true (by with_unfolding_all rfl) ?_;simp only[AH,Az,Ae,↓reduceIte])|(refine Dl.cond false (by with_unfolding_all rfl) ?_;simp only[AH,Az,Ae,↓reduceIte])))|(refine Dl.unwanted rfl rfl ?_;walk_nrm)|(refine Dl.value _ rfl rfl (by k_ne) (λ_ _=>by(go_simp;try (first|rfl|w_num|decide))) (λ_ _=>by simp[go_sem, *]) ?_;walk_nrm)))
    (refine Dl.leave1 rfl rfl H.f_uAdd rfl ?_;walk_nrm)
    (repeat (first|(with_reducible (first|refine Dl.seq ?_|(refine Dl.region ?_;simp only[Ar,Ak,Aw,AP,AA,AN,AG])|refine Dl.regionEnd ?_|refine Dl.skip ?_|refine Dl.ret ?_|refine Dl.block ?_|refine Dl.inBlock ?_|refine Dl.loop ?_|refine Dl.inLoop ?_|refine Dl.exit (by with_unfolding_all rfl) ?_|(refine Dl.cond true (by with_unfolding_all rfl) ?_;simp only[AH,Az,Ae,↓reduceIte])|(refine Dl.cond false (by with_unfolding_all rfl) ?_;simp only[AH,Az,Ae,↓reduceIte])))|(refine Dl.unwanted rfl rfl ?_;walk_nrm)|(refine Dl.value _ rfl rfl (by k_ne) (λ_ _=>by(go_simp;try (first|rfl|w_num|decide))) (λ_ _=>by simp[go_sem, *]) ?_;walk_nrm)))
    (refine Dl.value _ rfl rfl (by k_ne) (λw hI=>by(have hcv:=run_convert_to_unsafe (P:=P) H.underlying_tPU32 H.underlying_tUP H.room_tU32 (cP.cell1 hI).choose_spec);go_simp;rfl) (λw hI=>by(have hce:=λes=>events_convert_to_unsafe (P:=P) H.underlying_tPU32 H.underlying_tUP H.room_tU32 (cP.cell1 hI).choose_spec es);simp[go_sem,hce]) ?_;walk_nrm)
    (refine Dl.step rfl (by(intro e he;simp at he;subst he;first|exact .inr (.inl rfl)|exact .inr (.inr rfl))) (λw hI=>stepG_markAt .read (by simp) rfl rfl (by k_ne) rfl H.f_raceRead (x_raceRead_n L) (x_raceRead_b L) (x_raceRead_x L) (x_raceRead_f L) (ad:=smA Wg) (by simp[Dk,smA])) ?_;walk_nrm)
    (repeat (first|(with_reducible (first|refine Dl.seq ?_|(refine Dl.region ?_;simp only[Ar,Ak,Aw,AP,AA,AN,AG])|refine Dl.regionEnd ?_|refine Dl.skip ?_|refine Dl.ret ?_|refine Dl.block ?_|refine Dl.inBlock ?_|refine Dl.loop ?_|refine Dl.inLoop ?_|refine Dl.exit (by with_unfolding_all rfl) ?_|(refine Dl.cond true (by with_unfolding_all rfl) ?_;simp only[AH,Az,Ae,↓reduceIte])|(refine Dl.cond false (by with_unfolding_all rfl) ?_;simp only[AH,Az,Ae,↓reduceIte])))|(refine Dl.unwanted rfl rfl ?_;walk_nrm)|(refine Dl.value _ rfl rfl (by k_ne) (λ_ _=>by(go_simp;try (first|rfl|w_num|decide))) (λ_ _=>by simp[go_sem, *]) ?_;walk_nrm)))
    (refine Dl.unwind_mark .enable rfl (by simp) rfl H.f_enable (x_enable_n L) (x_enable_b L) (x_enable_x L) (x_enable_f L) ?_)
    exact Dl.leave0 rfl rfl H.f_add rfl hT'
  · obtain⟨V,hV⟩:∃V:Int,V=(v:Int)+1:=⟨_,rfl⟩
    obtain⟨S,hS⟩:∃S:Int,S=V*KK:=⟨_,rfl⟩
    have a1:S/4294967296=V:=by rw[hS];simp only[KK];omega
    have b1:bits .and .u64 S 2147483648=0:=by rw[hS,hV];have:=st_flag (v+1) 0 (by omega) (by omega);simpa[KK]using this
    have b2:bits .and .u64 S 2147483647=0:=by rw[hS,hV];have:=st_waiters (v+1) 0 (by omega) (by omega);simpa[KK]using this
    have c1:IntKind.i32.wrap V=V:=by rw[IntKind.wrap_i32];omega
    have d1:BI.wrap 0=0:=by decide
    have hV1:1<V:=by omega
    have hV2:V<2147483648:=by omega
    have r1:IntKind.i32.wrap 1=1:=by decide
    have q1:(V==1)=false:=by simp;omega
    have q2:decide (V=1)=false:=Bs (by omega)
    have q3:decide (V<0)=false:=Bs (by omega)
    have q4:decide (0<V)=true:=B4 (by omega)
    have q5:(V==0)=false:=by simp;omega
    have q6:decide (V=0)=false:=Bs (by omega)
    rw[<-hV,<-hS]
    clear hS hV
    (repeat (first|(with_reducible (first|refine Dl.seq ?_|(refine Dl.region ?_;simp only[Ar,Ak,Aw,AP,AA,AN,AG])|refine Dl.regionEnd ?_|refine Dl.skip ?_|refine Dl.ret ?_|refine Dl.block ?_|refine Dl.inBlock ?_|refine Dl.loop ?_|refine Dl.inLoop ?_|refine Dl.exit (by with_unfolding_all rfl) ?_|(refine Dl.cond true (by with_unfolding_all rfl) ?_;simp only[AH,Az,Ae,↓reduceIte])|(refine Dl.cond false (by with_unfolding_all rfl) ?_;simp only[AH,Az,Ae,↓reduceIte])))|(refine Dl.unwanted rfl rfl ?_;walk_nrm)|(refine Dl.value _ rfl rfl (by k_ne) (λ_ _=>by(go_simp;try (first|rfl|w_num|decide))) (λ_ _=>by simp[go_sem, *]) ?_;walk_nrm)))
    (refine Dl.leave1 rfl rfl H.f_uAdd rfl ?_;walk_nrm)
    (repeat (first|(with_reducible (first|refine Dl.seq ?_|(refine Dl.region ?_;simp only[Ar,Ak,Aw,AP,AA,AN,AG])|refine Dl.regionEnd ?_|refine Dl.skip ?_|refine Dl.ret ?_|refine Dl.block ?_|refine Dl.inBlock ?_|refine Dl.loop ?_|refine Dl.inLoop ?_|refine Dl.exit (by with_unfolding_all rfl) ?_|(refine Dl.cond true (by with_unfolding_all rfl) ?_;simp only[AH,Az,Ae,↓reduceIte])|(refine Dl.cond false (by with_unfolding_all rfl) ?_;simp only[AH,Az,Ae,↓reduceIte])))|(refine Dl.unwanted rfl rfl ?_;walk_nrm)|(refine Dl.value _ rfl rfl (by k_ne) (λ_ _=>by(go_simp;try (first|rfl|w_num|decide))) (λ_ _=>by simp[go_sem, *]) ?_;walk_nrm)))
    (refine Dl.unwind_mark .enable rfl (by simp) rfl H.f_enable (x_enable_n L) (x_enable_b L) (x_enable_x L) (x_enable_f L) ?_)
    exact Dl.leave0 rfl rfl H.f_add rfl hT'
end Go.Am
end
section
open List renaming map_map->E,mapM_map->J
namespace Go.Am
open Go.Conc Go.ConcR.Gen Go.Conc.Lib Go.RowKit Go.ConcR
open Go.ConcN (st_flag st_waiters)
open Go
section
variable {L:WgLink} {P:Program} {Wg:Nat} {cs:List Frame} {b0:Frame} {a0:Act} {ops0:Array Oper} {i0:Nat} {rest0:List Nat} {k0:List Item} {K:Goroutine->Prop}
def aWu(H:WgLib P L){c:Frame} :
    Dl P true (cP L.tWg Wg) (dK Wg) (λd g=>d=1/\aDp L Wg c cs g) 0 (G ((base L.wait).at ⟨#[.pointer (some ⟨Wg,0,none⟩)]++AY 83 undef,[]⟩ [.code (body_wait L)]) (c::cs)):=by
  lib_facts
  simp only[body_wait,waitFn,AT]
  (repeat (first|(with_reducible (first|refine Dl.seq ?_|(refine Dl.region ?_;simp only[Ar,Ak,Aw,AP,AA,AN,AG])|refine Dl.regionEnd ?_|refine Dl.skip ?_|refine Dl.ret ?_|refine Dl.block ?_|refine Dl.inBlock ?_|refine Dl.loop ?_|refine Dl.inLoop ?_|refine Dl.exit (by with_unfolding_all rfl) ?_|(refine Dl.cond true (by with_unfolding_all rfl) ?_;simp only[AH,Az,Ae,↓reduceIte])|(refine Dl.cond false (by with_unfolding_all rfl) ?_;simp only[AH,Az,Ae,↓reduceIte])))|(refine Dl.unwanted rfl rfl ?_;walk_nrm)|(refine Dl.value _ rfl rfl (by k_ne) (λ_ _=>by(go_simp;try (first|rfl|w_num|decide))) (λ_ _=>by simp[go_sem, *]) ?_;walk_nrm)))
  (refine Dl.step rfl (by(intro e he;simp at he;subst he;exact .inl rfl)) (λw hI=>stepG_mark0 .disable (by simp) rfl rfl (by k_ne) rfl H.f_disable (x_disable_n L) (x_disable_b L) (x_disable_x L) (x_disable_f L)) ?_;walk_nrm)
  repeat (first|with_reducible refine Dl.regionEnd ?_|with_reducible refine Dl.block ?_)
  refine Dl.loop (.here ⟨rfl,_,rfl,by simp,by simp⟩)
def aWv(H:WgLib P L)(hK:K (G (b0.at (a0.put ((ops0[i0]?).bind (·.dst)) (.tuple #[])) (.inRegion ops0 rest0::k0)) cs)){g:Goroutine}(h:aDp L Wg (b0.at a0 (.inRegion ops0 (i0::rest0)::k0)) cs g) :
    Dl P true (cP L.tWg Wg) (dK Wg) (λd g=>d=1/\yW P L Wg K (aDp L Wg (b0.at a0 (.inRegion ops0 (i0::rest0)::k0)) cs) d g) 1 g:=by
  lib_facts
  obtain⟨T,rfl,hT84,t0⟩:=h
  obtain⟨v0,v1,v2,v3,v4,v5,v6,v7,v8,v9,v10,v11,v12,v13,v14,v15,v16,v17,v18,v19,v20,v21,v22,v23,v24,v25,v26,v27,v28,v29,v30,v31,v32,v33,v34,v35,v36,v37,v38,v39,v40,v41,v42,v43,v44,v45,v46,v47,v48,v49,v50,v51,v52,v53,v54,v55,v56,v57,v58,v59,v60,v61,v62,v63,v64,v65,v66,v67,v68,v69,v70,v71,v72,v73,v74,v75,v76,v77,v78,v79,v80,v81,v82,v83,rfl⟩:=array84 T hT84
  simp only[List.getElem?_toArray,List.getElem?_cons_zero,Ax]at t0
  subst t0
  simp only[L7,body_wait,waitFn,AT]
  (repeat (first|(with_reducible (first|refine Dl.seq ?_|(refine Dl.region ?_;simp only[Ar,Ak,Aw,AP,AA,AN,AG])|refine Dl.regionEnd ?_|refine Dl.skip ?_|refine Dl.ret ?_|refine Dl.block ?_|refine Dl.inBlock ?_|refine Dl.loop ?_|refine Dl.inLoop ?_|refine Dl.exit (by with_unfolding_all rfl) ?_|(refine Dl.cond true (by with_unfolding_all rfl) ?_;simp only[AH,Az,Ae,↓reduceIte])|(refine Dl.cond false (by with_unfolding_all rfl) ?_;simp only[AH,Az,Ae,↓reduceIte])))|(refine Dl.unwanted rfl rfl ?_;walk_nrm)|(refine Dl.value _ rfl rfl (by k_ne) (λ_ _=>by(go_simp;try (first|rfl|w_num|decide))) (λ_ _=>by simp[go_sem, *]) ?_;walk_nrm)))
  (refine Dl.call rfl rfl (by k_ne) rfl H.f_uLoad (nm_uLoad L) rfl ?_;walk_nrmf uLoadFn)
  (repeat (first|(with_reducible (first|refine Dl.seq ?_|(refine Dl.region ?_;simp only[Ar,Ak,Aw,AP,AA,AN,AG])|refine Dl.regionEnd ?_|refine Dl.skip ?_|refine Dl.ret ?_|refine Dl.block ?_|refine Dl.inBlock ?_|refine Dl.loop ?_|refine Dl.inLoop ?_|refine Dl.exit (by with_unfolding_all rfl) ?_|(refine Dl.cond true (by with_unfolding_all rfl) ?_;simp only[AH,Az,Ae,↓reduceIte])|(refine Dl.cond false (by with_unfolding_all rfl) ?_;simp only[AH,Az,Ae,↓reduceIte])))|(refine Dl.unwanted rfl rfl ?_;walk_nrm)|(refine Dl.value _ rfl rfl (by k_ne) (λ_ _=>by(go_simp;try (first|rfl|w_num|decide))) (λ_ _=>by simp[go_sem, *]) ?_;walk_nrm)))
  refine .here ⟨rfl,rfl,λw v hv hw=>?_⟩
  by_cases h0:v=0
  · subst h0
    have hc:w.cell? ⟨Wg,0,none⟩=some (.int .u64 0):=by simp[BA,hw,wgBlock]
    refine⟨_,stepG_load_atomic (v:=0) rfl rfl (by k_ne) rfl H.f_loadU64 (x_loadU64_n L) (x_loadU64_b L) (x_loadU64_x L) .u64 (x_loadU64_f L) rfl hc,λ_=>?_,λh=>absurd rfl h⟩
    clear hc hw
    walk_nrm
    have e2:BI.wrap (bits BinOp.and AB 0 2147483647)=0:=by decide
    (repeat (first|(with_reducible (first|refine Dl.seq ?_|(refine Dl.region ?_;simp only[Ar,Ak,Aw,AP,AA,AN,AG])|refine Dl.regionEnd ?_|refine Dl.skip ?_|refine Dl.ret ?_|refine Dl.block ?_|refine Dl.inBlock ?_|refine Dl.loop ?_|refine Dl.inLoop ?_|refine Dl.exit (by with_unfolding_all rfl) ?_|(refine Dl.cond true (by with_unfolding_all rfl) ?_;simp only[AH,Az,Ae,↓reduceIte])|(refine Dl.cond false (by with_unfolding_all rfl) ?_;simp only[AH,Az,Ae,↓reduceIte])))|(refine Dl.unwanted rfl rfl ?_;walk_nrm)|(refine Dl.value _ rfl rfl (by k_ne) (λ_ _=>by(go_simp;try (first|rfl|w_num|decide))) (λ_ _=>by simp[go_sem, *]) ?_;walk_nrm)))
    (refine Dl.leave1 rfl rfl H.f_uLoad rfl ?_;walk_nrm)
    (repeat (first|(with_reducible (first|refine Dl.seq ?_|(refine Dl.region ?_;simp only[Ar,Ak,Aw,AP,AA,AN,AG])|refine Dl.regionEnd ?_|refine Dl.skip ?_|refine Dl.ret ?_|refine Dl.block ?_|refine Dl.inBlock ?_|refine Dl.loop ?_|refine Dl.inLoop ?_|refine Dl.exit (by with_unfolding_all rfl) ?_|(refine Dl.cond true (by with_unfolding_all rfl) ?_;simp only[AH,Az,Ae,↓reduceIte])|(refine Dl.cond false (by with_unfolding_all rfl) ?_;simp only[AH,Az,Ae,↓reduceIte])))|(refine Dl.unwanted rfl rfl ?_;walk_nrm)|(refine Dl.value _ rfl rfl (by k_ne) (λ_ _=>by(go_simp;try (first|rfl|w_num|decide))) (λ_ _=>by simp[go_sem, *]) ?_;walk_nrm)))
    (refine Dl.step rfl (by(intro e he;simp at he;subst he;exact .inl rfl)) (λw hI=>stepG_mark0 .enable (by simp) rfl rfl (by k_ne) rfl H.f_enable (x_enable_n L) (x_enable_b L) (x_enable_x L) (x_enable_f L)) ?_;walk_nrm)
    (repeat (first|(with_reducible (first|refine Dl.seq ?_|(refine Dl.region ?_;simp only[Ar,Ak,Aw,AP,AA,AN,AG])|refine Dl.regionEnd ?_|refine Dl.skip ?_|refine Dl.ret ?_|refine Dl.block ?_|refine Dl.inBlock ?_|refine Dl.loop ?_|refine Dl.inLoop ?_|refine Dl.exit (by with_unfolding_all rfl) ?_|(refine Dl.cond true (by with_unfolding_all rfl) ?_;simp only[AH,Az,Ae,↓reduceIte])|(refine Dl.cond false (by with_unfolding_all rfl) ?_;simp only[AH,Az,Ae,↓reduceIte])))|(refine Dl.unwanted rfl rfl ?_;walk_nrm)|(refine Dl.value _ rfl rfl (by k_ne) (λ_ _=>by(go_simp;try (first|rfl|w_num|decide))) (λ_ _=>by simp[go_sem, *]) ?_;walk_nrm)))
    (refine Dl.value _ rfl rfl (by k_ne) (λw hI=>by(have hcv:=run_convert_to_unsafe (P:=P) H.underlying_tWgP H.underlying_tUP H.room_tWg (cP.cell0 hI).choose_spec);go_simp;rfl) (λw hI=>by(have hce:=λes=>events_convert_to_unsafe (P:=P) H.underlying_tWgP H.underlying_tUP H.room_tWg (cP.cell0 hI).choose_spec es);simp[go_sem,hce]) ?_;walk_nrm)
    refine .here ⟨rfl,rfl,_,λw hI=>stepG_markAt .acquire (by simp) rfl rfl (by k_ne) rfl H.f_acquire (x_acquire_n L) (x_acquire_b L) (x_acquire_x L) (x_acquire_f L) (by simp[Dk,stA]),?_⟩
    walk_nrm
    (repeat (first|(with_reducible (first|refine Dl.seq ?_|(refine Dl.region ?_;simp only[Ar,Ak,Aw,AP,AA,AN,AG])|refine Dl.regionEnd ?_|refine Dl.skip ?_|refine Dl.ret ?_|refine Dl.block ?_|refine Dl.inBlock ?_|refine Dl.loop ?_|refine Dl.inLoop ?_|refine Dl.exit (by with_unfolding_all rfl) ?_|(refine Dl.cond true (by with_unfolding_all rfl) ?_;simp only[AH,Az,Ae,↓reduceIte])|(refine Dl.cond false (by with_unfolding_all rfl) ?_;simp only[AH,Az,Ae,↓reduceIte])))|(refine Dl.unwanted rfl rfl ?_;walk_nrm)|(refine Dl.value _ rfl rfl (by k_ne) (λ_ _=>by(go_simp;try (first|rfl|w_num|decide))) (λ_ _=>by simp[go_sem, *]) ?_;walk_nrm)))
    exact Dl.leave0 rfl rfl H.f_wait rfl (.here ⟨rfl,hK⟩)
  · obtain⟨S,hS⟩:∃S:Int,(v:Int)*KK=S:=⟨_,rfl⟩
    have a1:S/4294967296=(v:Int):=by rw[<-hS];simp only[KK];omega
    have b1:bits .and .u64 S 2147483648=0:=by rw[<-hS];have:=st_flag v 0 (by omega) (by omega);simpa[KK]using this
    have b2:bits .and .u64 S 2147483647=0:=by rw[<-hS];have:=st_waiters v 0 (by omega) (by omega);simpa[KK]using this
    have c1:IntKind.i32.wrap (v:Int)=(v:Int):=by rw[IntKind.wrap_i32];omega
    have d1:BI.wrap 0=0:=by decide
    have w1:AB.wrap (S+1)=S+1:=by rw[EA,<-hS];simp only[KK];omega
    have q3:decide ((v:Int)<0)=false:=Bs (by omega)
    have q4:decide (0<(v:Int))=true:=B4 (by omega)
    have q5:((v:Int)==0)=false:=by simp;omega
    have q6:decide ((v:Int)=0)=false:=Bs (by omega)
    rw[hS]at hw
    have hc:w.cell? ⟨Wg,0,none⟩=some (.int .u64 S):=by simp[BA,hw,wgBlock]
    refine⟨_,stepG_load_atomic (v:=S) rfl rfl (by k_ne) rfl H.f_loadU64 (x_loadU64_n L) (x_loadU64_b L) (x_loadU64_x L) .u64 (x_loadU64_f L) rfl hc,λh=>absurd h h0,λ_=>?_⟩
    clear hc hw
    walk_nrm
    (repeat (first|(with_reducible (first|refine Dl.seq ?_|(refine Dl.region ?_;simp only[Ar,Ak,Aw,AP,AA,AN,AG])|refine Dl.regionEnd ?_|refine Dl.skip ?_|refine Dl.ret ?_|refine Dl.block ?_|refine Dl.inBlock ?_|refine Dl.loop ?_|refine Dl.inLoop ?_|refine Dl.exit (by with_unfolding_all rfl) ?_|(refine Dl.cond true (by with_unfolding_all rfl) ?_;simp only[AH,Az,Ae,↓reduceIte])|(refine Dl.cond false (by with_unfolding_all rfl) ?_;simp only[AH,Az,Ae,↓reduceIte])))|(refine Dl.unwanted rfl rfl ?_;walk_nrm)|(refine Dl.value _ rfl rfl (by k_ne) (λ_ _=>by(go_simp;try (first|rfl|w_num|decide))) (λ_ _=>by simp[go_sem, *]) ?_;walk_nrm)))
    (refine Dl.leave1 rfl rfl H.f_uLoad rfl ?_;walk_nrm)
    (repeat (first|(with_reducible (first|refine Dl.seq ?_|(refine Dl.region ?_;simp only[Ar,Ak,Aw,AP,AA,AN,AG])|refine Dl.regionEnd ?_|refine Dl.skip ?_|refine Dl.ret ?_|refine Dl.block ?_|refine Dl.inBlock ?_|refine Dl.loop ?_|refine Dl.inLoop ?_|refine Dl.exit (by with_unfolding_all rfl) ?_|(refine Dl.cond true (by with_unfolding_all rfl) ?_;simp only[AH,Az,Ae,↓reduceIte])|(refine Dl.cond false (by with_unfolding_all rfl) ?_;simp only[AH,Az,Ae,↓reduceIte])))|(refine Dl.unwanted rfl rfl ?_;walk_nrm)|(refine Dl.value _ rfl rfl (by k_ne) (λ_ _=>by(go_simp;try (first|rfl|w_num|decide))) (λ_ _=>by simp[go_sem, *]) ?_;walk_nrm)))
    (refine Dl.call rfl rfl (by k_ne) rfl H.f_uCas (nm_uCas L) rfl ?_;walk_nrmf uCasFn)
    (repeat (first|(with_reducible (first|refine Dl.seq ?_|(refine Dl.region ?_;simp only[Ar,Ak,Aw,AP,AA,AN,AG])|refine Dl.regionEnd ?_|refine Dl.skip ?_|refine Dl.ret ?_|refine Dl.block ?_|refine Dl.inBlock ?_|refine Dl.loop ?_|refine Dl.inLoop ?_|refine Dl.exit (by with_unfolding_all rfl) ?_|(refine Dl.cond true (by with_unfolding_all rfl) ?_;simp only[AH,Az,Ae,↓reduceIte])|(refine Dl.cond false (by with_unfolding_all rfl) ?_;simp only[AH,Az,Ae,↓reduceIte])))|(refine Dl.unwanted rfl rfl ?_;walk_nrm)|(refine Dl.value _ rfl rfl (by k_ne) (λ_ _=>by(go_simp;try (first|rfl|w_num|decide))) (λ_ _=>by simp[go_sem, *]) ?_;walk_nrm)))
    refine .here ⟨rfl,rfl,λw2 v' hv' hw=>⟨λe=>?_,λe=>?_⟩⟩
    · subst e
      rw[hS]at hw ⊢
      have hc:w2.cell? ⟨Wg,0,none⟩=some (.int .u64 S):=by simp[BA,hw,wgBlock]
      have hz:w2.frozen? ⟨Wg,0,none⟩=false:=by simp[Dn,hw,wgBlock]
      refine⟨_,(stepG_cas_hit (v:=S) (n:=S+1) rfl rfl (by k_ne) rfl H.f_casU64 (x_casU64_n L) (x_casU64_b L) (x_casU64_x L) .u64 (x_casU64_f L) rfl rfl rfl hc hz).trans (by rfl),?_⟩
      clear hw hc hz
      walk_nrm
      (repeat (first|(with_reducible (first|refine Dl.seq ?_|(refine Dl.region ?_;simp only[Ar,Ak,Aw,AP,AA,AN,AG])|refine Dl.regionEnd ?_|refine Dl.skip ?_|refine Dl.ret ?_|refine Dl.block ?_|refine Dl.inBlock ?_|refine Dl.loop ?_|refine Dl.inLoop ?_|refine Dl.exit (by with_unfolding_all rfl) ?_|(refine Dl.cond true (by with_unfolding_all rfl) ?_;simp only[AH,Az,Ae,↓reduceIte])|(refine Dl.cond false (by with_unfolding_all rfl) ?_;simp only[AH,Az,Ae,↓reduceIte])))|(refine Dl.unwanted rfl rfl ?_;walk_nrm)|(refine Dl.value _ rfl rfl (by k_ne) (λ_ _=>by(go_simp;try (first|rfl|w_num|decide))) (λ_ _=>by simp[go_sem, *]) ?_;walk_nrm)))
      (refine Dl.leave1 rfl rfl H.f_uCas rfl ?_;walk_nrm)
      (repeat (first|(with_reducible (first|refine Dl.seq ?_|(refine Dl.region ?_;simp only[Ar,Ak,Aw,AP,AA,AN,AG])|refine Dl.regionEnd ?_|refine Dl.skip ?_|refine Dl.ret ?_|refine Dl.block ?_|refine Dl.inBlock ?_|refine Dl.loop ?_|refine Dl.inLoop ?_|refine Dl.exit (by with_unfolding_all rfl) ?_|(refine Dl.cond true (by with_unfolding_all rfl) ?_;simp only[AH,Az,Ae,↓reduceIte])|(refine Dl.cond false (by with_unfolding_all rfl) ?_;simp only[AH,Az,Ae,↓reduceIte])))|(refine Dl.unwanted rfl rfl ?_;walk_nrm)|(refine Dl.value _ rfl rfl (by k_ne) (λ_ _=>by(go_simp;try (first|rfl|w_num|decide))) (λ_ _=>by simp[go_sem, *]) ?_;walk_nrm)))
      (refine Dl.value _ rfl rfl (by k_ne) (λw hI=>by(have hcv:=run_convert_to_unsafe (P:=P) H.underlying_tPU32 H.underlying_tUP H.room_tU32 (cP.cell1 hI).choose_spec);go_simp;rfl) (λw hI=>by(have hce:=λes=>events_convert_to_unsafe (P:=P) H.underlying_tPU32 H.underlying_tUP H.room_tU32 (cP.cell1 hI).choose_spec es);simp[go_sem,hce]) ?_;walk_nrm)
      (refine Dl.step rfl (by(intro e he;simp at he;subst he;first|exact .inr (.inl rfl)|exact .inr (.inr rfl))) (λw hI=>stepG_markAt .write (by simp) rfl rfl (by k_ne) rfl H.f_raceWrite (x_raceWrite_n L) (x_raceWrite_b L) (x_raceWrite_x L) (x_raceWrite_f L) (ad:=smA Wg) (by simp[Dk,smA])) ?_;walk_nrm)
      (repeat (first|(with_reducible (first|refine Dl.seq ?_|(refine Dl.region ?_;simp only[Ar,Ak,Aw,AP,AA,AN,AG])|refine Dl.regionEnd ?_|refine Dl.skip ?_|refine Dl.ret ?_|refine Dl.block ?_|refine Dl.inBlock ?_|refine Dl.loop ?_|refine Dl.inLoop ?_|refine Dl.exit (by with_unfolding_all rfl) ?_|(refine Dl.cond true (by with_unfolding_all rfl) ?_;simp only[AH,Az,Ae,↓reduceIte])|(refine Dl.cond false (by with_unfolding_all rfl) ?_;simp only[AH,Az,Ae,↓reduceIte])))|(refine Dl.unwanted rfl rfl ?_;walk_nrm)|(refine Dl.value _ rfl rfl (by k_ne) (λ_ _=>by(go_simp;try (first|rfl|w_num|decide))) (λ_ _=>by simp[go_sem, *]) ?_;walk_nrm)))
      refine .here ⟨rfl,rfl,λw st hw=>stepG_semacquire_wait rfl rfl rfl H.f_semacquire (x_semacquire_n L) (x_semacquire_b L) (x_semacquire_x L) (x_semacquire_f L) (by simp[Dk,smA]) (show w.cell? ⟨Wg,1,none⟩=some (.int .u32 0)by simp[BA,hw,wgBlock]),λw hw=>?_⟩
      have hc:w.cell? ⟨Wg,1,none⟩=some (.int .u32 1):=by simp[BA,hw,wgBlock]
      have hz:w.frozen? ⟨Wg,1,none⟩=false:=by simp[Dn,hw,wgBlock]
      refine⟨_,(stepG_semacquire (n:=1) rfl rfl (by k_ne) rfl H.f_semacquire (x_semacquire_n L) (x_semacquire_b L) (x_semacquire_x L) (x_semacquire_f L) (by simp[Dk,smA]) hc (by k_ne) hz).trans (by rfl),?_⟩
      clear hw hc hz
      walk_nrm
      (repeat (first|(with_reducible (first|refine Dl.seq ?_|(refine Dl.region ?_;simp only[Ar,Ak,Aw,AP,AA,AN,AG])|refine Dl.regionEnd ?_|refine Dl.skip ?_|refine Dl.ret ?_|refine Dl.block ?_|refine Dl.inBlock ?_|refine Dl.loop ?_|refine Dl.inLoop ?_|refine Dl.exit (by with_unfolding_all rfl) ?_|(refine Dl.cond true (by with_unfolding_all rfl) ?_;simp only[AH,Az,Ae,↓reduceIte])|(refine Dl.cond false (by with_unfolding_all rfl) ?_;simp only[AH,Az,Ae,↓reduceIte])))|(refine Dl.unwanted rfl rfl ?_;walk_nrm)|(refine Dl.value _ rfl rfl (by k_ne) (λ_ _=>by(go_simp;try (first|rfl|w_num|decide))) (λ_ _=>by simp[go_sem, *]) ?_;walk_nrm)))
      (refine Dl.call rfl rfl (by k_ne) rfl H.f_uLoad (nm_uLoad L) rfl ?_;walk_nrmf uLoadFn)
      (repeat (first|(with_reducible (first|refine Dl.seq ?_|(refine Dl.region ?_;simp only[Ar,Ak,Aw,AP,AA,AN,AG])|refine Dl.regionEnd ?_|refine Dl.skip ?_|refine Dl.ret ?_|refine Dl.block ?_|refine Dl.inBlock ?_|refine Dl.loop ?_|refine Dl.inLoop ?_|refine Dl.exit (by with_unfolding_all rfl) ?_|(refine Dl.cond true (by with_unfolding_all rfl) ?_;simp only[AH,Az,Ae,↓reduceIte])|(refine Dl.cond false (by with_unfolding_all rfl) ?_;simp only[AH,Az,Ae,↓reduceIte])))|(refine Dl.unwanted rfl rfl ?_;walk_nrm)|(refine Dl.value _ rfl rfl (by k_ne) (λ_ _=>by(go_simp;try (first|rfl|w_num|decide))) (λ_ _=>by simp[go_sem, *]) ?_;walk_nrm)))
      refine .here ⟨rfl,λw hw=>?_⟩
      have hc:w.cell? ⟨Wg,0,none⟩=some (.int .u64 0):=by simp[BA,hw,wgBlock]
      refine⟨_,stepG_load_atomic (v:=0) rfl rfl (by k_ne) rfl H.f_loadU64 (x_loadU64_n L) (x_loadU64_b L) (x_loadU64_x L) .u64 (x_loadU64_f L) rfl hc,?_⟩
      clear hw hc
      walk_nrm
      (repeat (first|(with_reducible (first|refine Dl.seq ?_|(refine Dl.region ?_;simp only[Ar,Ak,Aw,AP,AA,AN,AG])|refine Dl.regionEnd ?_|refine Dl.skip ?_|refine Dl.ret ?_|refine Dl.block ?_|refine Dl.inBlock ?_|refine Dl.loop ?_|refine Dl.inLoop ?_|refine Dl.exit (by with_unfolding_all rfl) ?_|(refine Dl.cond true (by with_unfolding_all rfl) ?_;simp only[AH,Az,Ae,↓reduceIte])|(refine Dl.cond false (by with_unfolding_all rfl) ?_;simp only[AH,Az,Ae,↓reduceIte])))|(refine Dl.unwanted rfl rfl ?_;walk_nrm)|(refine Dl.value _ rfl rfl (by k_ne) (λ_ _=>by(go_simp;try (first|rfl|w_num|decide))) (λ_ _=>by simp[go_sem, *]) ?_;walk_nrm)))
      (refine Dl.leave1 rfl rfl H.f_uLoad rfl ?_;walk_nrm)
      (repeat (first|(with_reducible (first|refine Dl.seq ?_|(refine Dl.region ?_;simp only[Ar,Ak,Aw,AP,AA,AN,AG])|refine Dl.regionEnd ?_|refine Dl.skip ?_|refine Dl.ret ?_|refine Dl.block ?_|refine Dl.inBlock ?_|refine Dl.loop ?_|refine Dl.inLoop ?_|refine Dl.exit (by with_unfolding_all rfl) ?_|(refine Dl.cond true (by with_unfolding_all rfl) ?_;simp only[AH,Az,Ae,↓reduceIte])|(refine Dl.cond false (by with_unfolding_all rfl) ?_;simp only[AH,Az,Ae,↓reduceIte])))|(refine Dl.unwanted rfl rfl ?_;walk_nrm)|(refine Dl.value _ rfl rfl (by k_ne) (λ_ _=>by(go_simp;try (first|rfl|w_num|decide))) (λ_ _=>by simp[go_sem, *]) ?_;walk_nrm)))
      (refine Dl.step rfl (by(intro e he;simp at he;subst he;exact .inl rfl)) (λw hI=>stepG_mark0 .enable (by simp) rfl rfl (by k_ne) rfl H.f_enable (x_enable_n L) (x_enable_b L) (x_enable_x L) (x_enable_f L)) ?_;walk_nrm)
      (repeat (first|(with_reducible (first|refine Dl.seq ?_|(refine Dl.region ?_;simp only[Ar,Ak,Aw,AP,AA,AN,AG])|refine Dl.regionEnd ?_|refine Dl.skip ?_|refine Dl.ret ?_|refine Dl.block ?_|refine Dl.inBlock ?_|refine Dl.loop ?_|refine Dl.inLoop ?_|refine Dl.exit (by with_unfolding_all rfl) ?_|(refine Dl.cond true (by with_unfolding_all rfl) ?_;simp only[AH,Az,Ae,↓reduceIte])|(refine Dl.cond false (by with_unfolding_all rfl) ?_;simp only[AH,Az,Ae,↓reduceIte])))|(refine Dl.unwanted rfl rfl ?_;walk_nrm)|(refine Dl.value _ rfl rfl (by k_ne) (λ_ _=>by(go_simp;try (first|rfl|w_num|decide))) (λ_ _=>by simp[go_sem, *]) ?_;walk_nrm)))
      (refine Dl.value _ rfl rfl (by k_ne) (λw hI=>by(have hcv:=run_convert_to_unsafe (P:=P) H.underlying_tWgP H.underlying_tUP H.room_tWg (cP.cell0 hI).choose_spec);go_simp;rfl) (λw hI=>by(have hce:=λes=>events_convert_to_unsafe (P:=P) H.underlying_tWgP H.underlying_tUP H.room_tWg (cP.cell0 hI).choose_spec es);simp[go_sem,hce]) ?_;walk_nrm)
      refine .here ⟨rfl,rfl,_,λw hI=>stepG_markAt .acquire (by simp) rfl rfl (by k_ne) rfl H.f_acquire (x_acquire_n L) (x_acquire_b L) (x_acquire_x L) (x_acquire_f L) (by simp[Dk,stA]),?_⟩
      walk_nrm
      (repeat (first|(with_reducible (first|refine Dl.seq ?_|(refine Dl.region ?_;simp only[Ar,Ak,Aw,AP,AA,AN,AG])|refine Dl.regionEnd ?_|refine Dl.skip ?_|refine Dl.ret ?_|refine Dl.block ?_|refine Dl.inBlock ?_|refine Dl.loop ?_|refine Dl.inLoop ?_|refine Dl.exit (by with_unfolding_all rfl) ?_|(refine Dl.cond true (by with_unfolding_all rfl) ?_;simp only[AH,Az,Ae,↓reduceIte])|(refine Dl.cond false (by with_unfolding_all rfl) ?_;simp only[AH,Az,Ae,↓reduceIte])))|(refine Dl.unwanted rfl rfl ?_;walk_nrm)|(refine Dl.value _ rfl rfl (by k_ne) (λ_ _=>by(go_simp;try (first|rfl|w_num|decide))) (λ_ _=>by simp[go_sem, *]) ?_;walk_nrm)))
      exact Dl.leave0 rfl rfl H.f_wait rfl (.here ⟨rfl,hK⟩)
    · have hc:w2.cell? ⟨Wg,0,none⟩=some (.int .u64 ((v':Int)*KK)):=by simp[BA,hw,wgBlock]
      have hz:w2.frozen? ⟨Wg,0,none⟩=false:=by simp[Dn,hw,wgBlock]
      refine⟨_,stepG_cas_miss (v:=(v':Int)*KK) (old:=S) (n:=S+1) rfl rfl (by k_ne) rfl H.f_casU64 (x_casU64_n L) (x_casU64_b L) (x_casU64_x L) .u64 (x_casU64_f L) rfl rfl rfl hc hz (by rw[<-hS];simp only[KK];omega),?_⟩
      clear hw hc hz
      walk_nrm
      (refine Dl.value _ rfl rfl (by k_ne) (λ_ _=>by(go_simp;try (first|rfl|w_num|decide))) (λ_ _=>by simp[go_sem, *]) ?_;walk_nrm)
      repeat (with_reducible (first|refine Dl.seq ?_|(refine Dl.region ?_;simp only[Ar,Ak,Aw,AP,AA,AN,AG])|refine Dl.regionEnd ?_|refine Dl.skip ?_|refine Dl.ret ?_|refine Dl.block ?_|refine Dl.inBlock ?_|refine Dl.loop ?_|refine Dl.inLoop ?_|refine Dl.exit (by with_unfolding_all rfl) ?_|(refine Dl.cond true (by with_unfolding_all rfl) ?_;simp only[AH,Az,Ae,↓reduceIte])|(refine Dl.cond false (by with_unfolding_all rfl) ?_;simp only[AH,Az,Ae,↓reduceIte])))
      (refine Dl.leave1 rfl rfl H.f_uCas rfl ?_;walk_nrm)
      refine Dl.regionEnd ?_
      (refine Dl.cond false (by first|rfl|(simp[Dk];omega)) ?_;simp only[AH,Az,Ae,↓reduceIte])
      refine Dl.skip ?_
      refine Dl.inBlock ?_
      exact Dl.inLoop (.here ⟨rfl,_,rfl,by simp,by simp⟩)
end
end Go.Am
end
section
open List renaming map_map->E,mapM_map->J
open Go Go.Am Go.Proofs
namespace Go.Am
open Go.Conc Go.Conc.Lib Go.RowKit Go.ConcR.Gen
open Go.ConcR (KK wgBlock stA smA rd wr mk)
noncomputable def fS:Code:=Dr.body.getD .skip
noncomputable def cW:Code:=match fS with|.seq _ (.seq _ (.seq _ (.seq _ (.seq _ (.seq (.seq _ (.block _ (.loop c))) _)))))=>c|_=>.skip
noncomputable def tW:Code:=match fS with|.seq _ (.seq _ (.seq _ (.seq _ (.seq _ (.seq _ c)))))=>c|_=>.skip
noncomputable def tW2:Code:=match tW with|.seq _ c=>c|_=>.skip
noncomputable def aRc:Array Oper:=match tW with|.seq (.region _ ops _) _=>ops|_=>#[]
def bMf{L:WgLink}{P:Program}(H:WgLib P L){Wg:Nat}{cs:List Frame}{b0:Frame}{a0:Act}{ops0:Array Oper}{i0:Nat}{rest0:List Nat}{k0:List Item}{K:Nat->Goroutine->Prop}{T:Array Value}(hT:T=#[.pointer (some ⟨Wg,0,none⟩),.int .i64 1]++AY 115 undef)
    (hK:K 0 (G (b0.at (a0.put ((ops0[i0]?).bind (·.dst)) (.tuple #[])) (.inRegion ops0 rest0::k0)) cs)) :
    Dl P true (cP L.tWg Wg) (dK Wg) (λd g=>d=1/\aGv P L Wg K d g) 0 (G ((base L.add).at ⟨T,[]⟩ [.code (body_add L)]) (b0.at a0 (.inRegion ops0 (i0::rest0)::k0)::cs)):=by
  subst hT;exact bVe H hK
def aPq{L:WgLink}{P:Program}(H:WgLib P L){Wg:Nat}{c:Frame}{cs:List Frame}{T:Array Value}(hT:T=#[.pointer (some ⟨Wg,0,none⟩)]++AY 83 undef) :
    Dl P true (cP L.tWg Wg) (dK Wg) (λd g=>d=1/\aDp L Wg c cs g) 0 (G ((base L.wait).at ⟨T,[]⟩ [.code (body_wait L)]) (c::cs)):=by
  subst hT;exact aWu H
def aTf{P:Program}{L:WgLink}{Wg:Nat}{K An An':Goroutine->Prop}(h:∀g,An g->An' g){vs d:Nat}{g:Goroutine}(hc:aWo P L Wg K An vs d g):aWo P L Wg K An' vs d g :=
  ⟨hc.1,λw v hv hw=>⟨(hc.2 w v hv hw).1,λe=>let ⟨g',h1,h2⟩:=(hc.2 w v hv hw).2 e;⟨g',h1,h2.mono λd' g' hx=>⟨hx.1,h g' hx.2⟩⟩⟩⟩
def bBc{P:Program}{L:WgLink}{Wg:Nat}{K An An':Goroutine->Prop}(h:∀g,An g->An' g){d:Nat}{g:Goroutine}(hc:yW P L Wg K An d g):yW P L Wg K An' d g :=
  ⟨hc.1,λw v hv hw=>let ⟨g',h1,h2,h3⟩:=hc.2 w v hv hw;⟨g',h1,h2,λe=>(h3 e).mono λd' g' hx=>⟨hx.1,aTf h hx.2⟩⟩⟩
structure RI(Wg bA bR C n cap:Nat)(c0 c1 c2:D)(lD:List (List D))(k:Nat)(a:Act)(V:World):Prop where
  size:a.tmps.size=38
  ds:a.defers=[]
  s2:a.tmps.getD 2 undef=bX bA
  s6:a.tmps.getD 6 undef=bX bR
  s7:a.tmps.getD 7 undef=bX Wg
  s26:VD (λb=>b<V.heap.size) V (.sl lD) (a.tmps.getD 26 undef)
  s27:a.tmps.getD 27 undef=.int .i64 n
  s28:a.tmps.getD 28 undef=.int .i64 k
  ok:OkV V
  dA:VD (λb=>b<V.heap.size) V (.pt [c0,c1,c2]) (bX bA)
  dR:VD (λb=>b<V.heap.size) V (.pt [.lit (.slice (some ⟨C,0,none⟩) n cap)]) (bX bR)
def v_b{F:Nat->Prop}{w:World}{ι:Nat->Option Nat}{b:Bool}{v:Value}(h:V F w ι (.d (.b b)) v):v=.bool b:=by cases h with|d _ _ h=>cases h;rfl
def aTx{F:Nat->Prop}{w:World}{ι:Nat->Option Nat}{i o:Nat}{v:Value}(h:V F w ι (.ptr i o) v):∃b,ι i=some b/\v=.pointer (some ⟨b,o,none⟩):=by cases h with|ptr _ _ b hb=>exact⟨b,hb,rfl⟩
def aMh{G:Ctx}{F:Nat->Prop}{w:World}{ι:Nat->Option Nat}{C:Nat->Prop}{H:Hp}(hR:HR G F w ι C H){i b:Nat}{e:TypeId}{kk:IntKind}{n:Int}(hb:ι i=some b)(hH:H i=some (.cells e [.d (.i kk n)])):VD (λb=>b<w.heap.size) w (.pt [.i kk n]) (bX b):=by
  obtain⟨ob,h1,h2⟩:=hR.obj i b _ hb hH;cases h2 with
  | cells _ _ cur hl hc =>
    obtain⟨u,hu,hv⟩:=hc 0 _ rfl;have hu':=v_i hv;subst hu';refine .pt _ _ (λ_=>.int kk n) (bF h1) (λj hj=>?_) λk c hk=>?_
    · have:j=0:=by simp at hj;omega
      subst this
      simp[gY,BA,h1,hu]
    · cases k with
      |zero=>simp at hk;subst hk;exact .i _ _
      |succ k=>simp at hk
def bVz{a:Act}{o:Oper}{x7 x2 x9 x8 x6:Value}(hop:o.op=.makeFunc (.func 72) #[] #[.tmp 7,.tmp 2,.tmp 9,.tmp 8,.tmp 6])(h7:a.eval (.tmp 7)=x7)(h2:a.eval (.tmp 2)=x2)(h9:a.eval (.tmp 9)=x9)(h8:a.eval (.tmp 8)=x8)(h6:a.eval (.tmp 6)=x6)(w:World) :
    (execOp a.eval o).run Aa w=.ok (.value (.func (.func 72) #[] #[x7,x2,x9,x8,x6])) w/\(execOp a.eval o).events Aa w #[]=#[]:=by
  have ev:∀{t:Nat} {x:Value},a.eval (.tmp t)=x->a.tmps[t]?.getD undef=x:=λh=>by rw[<-h];simp[Dk]
  unfold execOp
  simp only[hop]
  constructor<;>simp[Instr.makeFunc,ev h7,ev h2,ev h9,ev h8,ev h6,go_sem]
def bWd{a:Act}{o:Oper}{cap:Array Value}(hop:o.op=.go { callee:=.value (.tmp 34),args:=#[],argTypes:=#[] })(h:a.eval (.tmp 34)=.func (.func 72) #[] cap)(w:World) :
    (execOp a.eval o).run Aa w=.ok (.spawn { target:=.fn (.func 72) cap,args:=#[] }) w/\(execOp a.eval o).events Aa w #[]=#[]:=by
  have h':a.tmps[34]?.getD undef=.func (.func 72) #[] cap:=by rw[<-h];simp[Dk]
  unfold execOp
  simp only[hop]
  constructor<;>simp[h',go_sem]
section
variable {Wg bA bR cap:Nat} {p:Pl} {c0 c1 c2:D} {lD:List (List D)} {a:Act} {V:World} {k:Nat} {K An:Goroutine->Prop} {cs:List Frame}
def aAj(bA bR Wg n k:Nat)(lD:List (List D)):List (Nat×AV):=[(2,.d (.lit (bX bA))),(6,.d (.lit (bX bR))),(7,.d (.lit (bX Wg))),(26,.d (.sl lD)),(27,.d (.i .i64 n)),(28,.d (.i .i64 k))]
def RI.sr(h:RI Wg bA bR p.C p.n cap c0 c1 c2 lD k a V):SR ⟨V,λb=>b<V.heap.size,bD,λ_=>True,λ_=>none⟩ 38 [] (StL (aAj bA bR Wg p.n k lD) none []) a V:=by
  rw[<-h.ds];refine aKa (Z:=λ_=>none) h.ok h.size (λ_ _ h=>by simp at h) (tY (T:=λt=>a.tmps.getD t undef) _ ?_);simp only[aAj,EY];refine⟨.d _ _ ?_,.d _ _ ?_,.d _ _ ?_,.d _ _ h.s26,.d _ _ ?_,.d _ _ ?_,λ_ h=>by simp at h⟩
  · rw[h.s2];exact .lit _
  · rw[h.s6];exact .lit _
  · rw[h.s7];exact .lit _
  · rw[h.s27];exact .i _ _
  · rw[h.s28];exact .i _ _
def uO(r:Nat):(kK Aa true).Fam (sO Aa bO Wg p K An r):=by
  cases r with
  |zero=>exact .inl ⟨_,_,_,wH,rfl⟩
  |succ r=>exact .inl ⟨_,_,_,aEt,rfl⟩
def aXy(h:RI Wg bA bR p.C p.n cap c0 c1 c2 lD p.n a V)(hl:lD.length=p.n)
    (hAn:∀a:Act,a.tmps.getD 6 undef=bX bR->a.tmps.size=38->a.defers=[]->∀g,aDp bO Wg (((base 27)).at a [.inRegion aRc [0],.code tW2]) cs g->An g)
    (hHd:∀g,An g->Dl Aa true (cP bO.tWg Wg) (dK Wg) (λd g=>d=1/\yW Aa bO Wg K An d g) 1 g) :
    sO Aa bO Wg p K An 0 (G (((base 27)).at a [.code cW,.inLoop cW,.inBlock 0,.code tW]) cs) V:=by
  letI:=kK Aa true
  have hW:=uO (Wg:=Wg) (p:=p) (K:=K) (An:=An) 0
  have hb:nA (base 27):=.inl rfl
  simp only[cW,tW,fS,Dr,AT]
  refine aM hW rfl h.ok (λw=>stepG_seq) ?_
  refine cJ aR (λ_=>rfl) _ (λe σ=>e=.normal/\σ.Γ 29=.d (.b false)/\σ.Γ 6=.d (.lit (bX bR))/\σ.Γ 7=.d (.lit (bX Wg))) _ _ _ (by kernel_rfl) (by kernel_rfl) ?hawp h.sr _ hW h.ok _ _ _ hb λe a' v' hv' hq=>?_
  case hawp =>
    simp only[aAj]
    simp[-E,-J,↓KW]
  obtain⟨σ,⟨rfl,q29,q6,q7⟩,hsr⟩:=hq
  obtain⟨_,_,_,F,ι,hR,_,hV,⟨hN,_⟩,hds,_⟩:=hsr
  have e29:a'.eval (.tmp 29)=.bool false:=by
    have h:=hV 29;rw[q29]at h;cases h with|d _ _ h =>
      show a'.tmps.getD 29 undef=_
      generalize a'.tmps.getD 29 undef=x at h
      cases h;rfl
  have e6:a'.tmps.getD 6 undef=bX bR:=by have h:=hV 6;rw[q6]at h;exact oU h
  have e7:a'.tmps.getD 7 undef=bX Wg:=by have h:=hV 7;rw[q7]at h;exact oU h
  simp only[oT]
  refine aM hW rfl hv' (λw=>stepG_seq) ?_
  refine aM hW rfl hv' (λw=>stepG_cond e29) ?_
  refine aM hW rfl hv' (λw=>stepG_exit rfl) ?_
  refine aM hW rfl hv' (λw=>stepG_seq) ?_
  refine aM hW rfl hv' (λw=>stepG_region) ?_
  have hd:Dl Aa true (cP bO.tWg Wg) (dK Wg) (λd g=>d=1/\yW Aa bO Wg K An d g) 0 (G (((base 27)).at a' [.inRegion aRc [0],.code tW2]) cs):=by refine Dl.call (f:=bO.wait) (fn:=waitFn bO) (c:=body_wait bO) rfl rfl (by k_ne) rfl aEn.f_wait (nm_wait bO) rfl ((aPq aEn ?_).bind λd g hh=>by rw[hh.1];exact hHd g (hAn a' e6 hN hds g hh.2));have:a'.eval (.tmp 7)=bX Wg:=e7;simp[this,waitFn,bX]
  simp only[aRc,tW2,tW,fS,Dr,AT]at hd
  obtain⟨tr,hg⟩:=hd.gt (Stop:=aPa Aa bO Wg K An) hv' λd g v1 _ hk=>⟨.leaf,hk⟩
  exact⟨tr,hg⟩
noncomputable def aUr:Array Oper:=match cW with|.seq _ (.seq _ (.seq (.block _ (.seq _ (.seq (.region _ o _) _))) _))=>o|_=>#[]
noncomputable def bUt:Code:=match cW with|.seq _ (.seq _ (.seq (.block _ (.seq _ (.seq _ c))) _))=>c|_=>.skip
noncomputable def bUs:Code:=match cW with|.seq _ (.seq _ (.seq _ c))=>c|_=>.skip
noncomputable def r9W:Code:=match cW with|.seq _ (.seq _ (.seq (.block _ (.seq c _)) _))=>c|_=>.skip
def aQv{r:Nat}{pk:Int}(h:RI Wg bA bR p.C p.n cap c0 c1 c2 lD k a V)(hk:k<p.n)(hl:lD.length=p.n)(hlk:lD[k]? = some [.i .u64 pk])(hr:p.n-(r+1)=k)(hn:p.n<2147483648)(hfA:pN (.pt [c0,c1,c2]))(hfL:pN (.sl lD))
    (hwork:∀(V':World) (Bp Bi:Nat),OkV V'->VD (λb=>b<V'.heap.size) V' (.pt [c0,c1,c2]) (bX bA)->VD (λb=>b<V'.heap.size) V' (.pt [.i .u64 pk]) (bX Bp)->VD (λb=>b<V'.heap.size) V' (.pt [.i .i64 k]) (bX Bi) ->
      VD (λb=>b<V'.heap.size) V' (.pt [.lit (.slice (some ⟨p.C,0,none⟩) p.n cap)]) (bX bR)->∃tr,GTw Aa bO Wg p k tr 0 (born Aa (aEo Wg bA Bp Bi bR)) V')
    (hnext:∀a' V',RI Wg bA bR p.C p.n cap c0 c1 c2 lD (k+1) a' V'->sO Aa bO Wg p K An r (G (((base 27)).at a' [.code cW,.inLoop cW,.inBlock 0,.code tW]) cs) V') :
    sO Aa bO Wg p K An (r+1) (G (((base 27)).at a [.code cW,.inLoop cW,.inBlock 0,.code tW]) cs) V:=by
  letI:=kK Aa true
  have hW:=uO (Wg:=Wg) (p:=p) (K:=K) (An:=An) (r+1)
  have hb:nA (base 27):=.inl rfl
  have hk0:(0:Int)<=k:=by omega
  have hk1:(k:Int)<p.n:=by omega
  have hk2:(k:Int)<(lD.length:Int):=by omega
  have hkl:k<lD.length:=by omega
  have hlk':lD[k]=[.i .u64 pk]:=(Ao.1 hlk).2
  rw[show([.code cW,.inLoop cW,.inBlock 0,.code tW]:List Item)=[.code cW]++[.inLoop cW,.inBlock 0,.code tW]from rfl]
  generalize hKT:([.inLoop cW,.inBlock 0,.code tW]:List Item)=KT
  simp only[cW,fS,Dr,AT,List.cons_append,List.nil_append]
  refine aM hW rfl h.ok (λw=>stepG_seq) ?_
  refine cJ aR (λ_=>rfl) _ (λe σ=>e=.normal/\σ.Γ 29=.d (.b true)/\AWP Aa r9W σ λe σ'=>e=.normal/\∃i8 i9,σ'.Γ 8=.ptr i8 0/\σ'.H i8=some (.cells 3 [.d (.i .i64 k)])/\σ'.Γ 9=.ptr i9 0/\σ'.H i9=some (.cells 51 [.d (.i .u64 pk)]) /\
      σ'.Γ 2=.d (.lit (bX bA))/\σ'.Γ 6=.d (.lit (bX bR))/\σ'.Γ 7=.d (.lit (bX Wg))/\σ'.Γ 26=.d (.sl lD)/\σ'.Γ 27=.d (.i .i64 p.n)/\σ'.Γ 28=.d (.i .i64 k)) _ _ _ (by kernel_rfl) (by kernel_rfl) ?hawp h.sr _ hW h.ok _ _ _ hb λe a1 V1 hv1 hq=>?_
  case hawp =>
    simp only[aAj,r9W,cW,fS,Dr,AT]
    simp[-E,-J,↓KW,hk0,hk1,hk2,hkl,hlk,hlk']
  obtain⟨σ,⟨rfl,q29,hA9⟩,hsr⟩:=hq
  have e29:a1.eval (.tmp 29)=.bool true:=by obtain⟨_,_,_,F,ι,_,_,hV,_⟩:=id hsr;have h:=hV 29;rw[q29]at h;exact v_b h
  simp only[oT]
  refine aM hW rfl hv1 (λw=>stepG_seq) ?_
  refine aM hW rfl hv1 (λw=>stepG_cond e29) ?_
  simp only[AH]
  refine aM hW rfl hv1 (λw=>stepG_skip) ?_
  refine aM hW rfl hv1 (λw=>stepG_seq) ?_
  refine aM hW rfl hv1 (λw=>stepG_block) ?_
  refine aM hW rfl hv1 (λw=>stepG_seq) ?_
  simp only[r9W,cW,fS,Dr,AT]at hA9
  refine cJ aR (λ_=>rfl) _ _ _ _ _ (by kernel_rfl) (by kernel_rfl) hA9 hsr _ hW hv1 _ _ _ hb λe a2 V2 hv2 hq=>?_
  obtain⟨σ',⟨rfl,i8,i9,q8,qH8,q9,qH9,q2,q6,q7,q26,q27,q28⟩,_,_,_,F,ι,hR,_,hV,⟨hN,_⟩,hds,_⟩:=hq
  obtain⟨b8,hb8,e8⟩:=aTx (q8 ▸ hV 8)
  obtain⟨b9,hb9,e9⟩:=aTx (q9 ▸ hV 9)
  have e2:=oU (q2 ▸ hV 2)
  have e6:=oU (q6 ▸ hV 6)
  have e7:=oU (q7 ▸ hV 7)
  have e27:=v_i (q27 ▸ hV 27)
  have e28:=v_i (q28 ▸ hV 28)
  have hd8:=aMh hR hb8 qH8
  have hd9:=aMh hR hb9 qH9
  have hsame:lT (λb=>b<V.heap.size) V V2:=λb hb c e f hc=>⟨f,by rw[hR.kept.block b hb (λh=>h)];exact hc⟩
  have hge:V.heap.size<=V2.heap.size:=hR.kept.size
  have hdA:VD (λb=>b<V2.heap.size) V2 (.pt [c0,c1,c2]) (bX bA):=(hfA _ V V2 _ hsame h.dA).mono λb hb=>A6 hb hge
  have hdR:VD (λb=>b<V2.heap.size) V2 (.pt [.lit (.slice (some ⟨p.C,0,none⟩) p.n cap)]) (bX bR):=(kT (by simp[nK]) _ V V2 _ hsame h.dR).mono λb hb=>A6 hb hge
  have hdL:VD (λb=>b<V2.heap.size) V2 (.sl lD) (a2.tmps.getD 26 undef):=by have h:=hV 26;rw[q26]at h;cases h with|d _ _ h=>exact h.mono hR.F_lt
  simp only[oT]
  refine aM hW rfl hv2 (λw=>stepG_seq) ?_
  refine aM hW rfl hv2 (λw=>stepG_region) ?_
  -- the call of Add
  have hKA:∀v1,Env V2 v1->OkV v1->∃tr,GTm Aa bO Wg (bBn Aa bO Wg p k (sO Aa bO Wg p K An r)) tr 0 (G (((base 27)).at (a2.put (some 33) (.tuple #[])) (.inRegion aUr []::.code bUt::.inBlock 1::.code bUs::KT)) cs) v1:=by
    intro v1 he1 ho1;have hW2:(kK Aa true).Fam (GoW Aa true (cP bO.tWg Wg) (dK Wg) (bBn Aa bO Wg p k (sO Aa bO Wg p K An r))):=.inl ⟨_,_,_,aOs,rfl⟩;have hg:∀t,t≠33->(a2.put (some 33) (.tuple #[])).eval (.tmp t)=a2.tmps.getD t undef:=λt ht=>by simp[C6,Dk,Au,AF (Eo ht)]
    have hsz3:(a2.put (some 33) (.tuple #[])).tmps.size=38:=by simp[C6,hN]
    have hds3:(a2.put (some 33) (.tuple #[])).defers=[]:=hds;generalize a2.put (some 33) (.tuple #[])=a3 at hg hsz3 hds3;simp only[aUr,bUt,bUs,cW,fS,Dr,AT];refine aM hW2 rfl ho1 (λw=>stepG_region_end) ?_;refine aM hW2 rfl ho1 (λw=>stepG_region) ?_;have g7:=(hg 7 (by decide)).trans e7;have g2:=(hg 2 (by decide)).trans e2;have g9:=(hg 9 (by decide)).trans e9;have g8:=(hg 8 (by decide)).trans e8;have g6:=(hg 6 (by decide)).trans e6;refine aM hW2 rfl ho1 (λw=>(stepG_value rfl rfl (by k_ne) (bVz rfl g7 g2 g9 g8 g6 w).1).trans (by unfold listed;rw[(bVz rfl g7 g2 g9 g8 g6 w).2,seen_none])) ?_;have h34:∀x,(a3.put (some 34) x).eval (.tmp 34)=x:=λx=>by simp[C6,Dk,Au,hsz3]
    have hg4:∀x t,t≠34->(a3.put (some 34) x).tmps.getD t undef=a3.eval (.tmp t):=λx t ht=>by simp[C6,Dk,Au,AF (Eo ht)]
    refine⟨.leaf,rfl,rfl,λv2 he2=>⟨_,_,λw hs hI=>(stepG_spawn rfl rfl (by k_ne) (bWd rfl (h34 _) w).1 rfl).trans (by unfold listed;rw[(bWd rfl (h34 _) w).2,seen_none]),rfl,?_,?_⟩⟩;all_goals
      have hse:lT (λb=>b<V2.heap.size) V2 (jI v2):=(aEw (he1.trans he2)).trans (aQp _ _)
      have hfs:∀b,b<V2.heap.size->b<(jI v2).heap.size:=λb hb=>by rw[wZ];exact A6 hb (he1.trans he2).size
    · exact hwork (jI v2) b9 b8 (aJa _) ((hfA _ _ _ _ hse hdA).mono hfs) ((kT (by simp[xC]) _ _ _ _ hse hd9).mono hfs) ((kT (by simp[xC]) _ _ _ _ hse hd8).mono hfs) ((kT (by simp[nK]) _ _ _ _ hse hdR).mono hfs)
    have hW3:=uO (Wg:=Wg) (p:=p) (K:=K) (An:=An) r;generalize hx:Value.func (.func 72) #[] #[bX Wg,bX bA,.pointer (some ⟨b9,0,none⟩),.pointer (some ⟨b8,0,none⟩),bX bR]=x;have hri:RI Wg bA bR p.C p.n cap c0 c1 c2 lD k ((a3.put (some 34) x).put none undef) (jI v2):=by
      have hg5:∀t,t≠34->t≠33->((a3.put (some 34) x).put none undef).tmps.getD t undef=a2.tmps.getD t undef:=λt h1 h2=>(hg4 x t h1).trans (hg t h2)
      refine⟨by simp[C6,hsz3],hds3,(hg5 2 (by decide) (by decide)).trans e2,(hg5 6 (by decide) (by decide)).trans e6,(hg5 7 (by decide) (by decide)).trans e7,?_,(hg5 27 (by decide) (by decide)).trans e27,(hg5 28 (by decide) (by decide)).trans e28,aJa _,(hfA _ _ _ _ hse hdA).mono hfs,(kT (by simp[nK]) _ _ _ _ hse hdR).mono hfs⟩;rw[hg5 26 (by decide) (by decide)];exact(hfL _ _ _ _ hse hdL).mono hfs
    show sO Aa bO Wg p K An r (G (((base 27)).at ((a3.put (some 34) x).put none undef) _) cs) (jI v2);generalize(a3.put (some 34) x).put none undef=a5 at hri;refine aM hW3 rfl hri.ok (λw=>stepG_region_end) ?_;refine aM hW3 rfl hri.ok (λw=>stepG_inBlock) ?_;refine cJ aR (λ_=>rfl) _ (λe σ=>e=.normal/\σ.Γ 28=.d (.i .i64 (k+1))/\σ.Γ 2=.d (.lit (bX bA))/\σ.Γ 6=.d (.lit (bX bR))/\σ.Γ 7=.d (.lit (bX Wg))/\σ.Γ 26=.d (.sl lD)/\σ.Γ 27=.d (.i .i64 p.n)) _ _ _ (by kernel_rfl) (by kernel_rfl) ?hawp3 hri.sr _ hW3 hri.ok _ _ _ hb λe a6 V6 hv6 hq=>?_
    case hawp3 =>
      have hw:Ah.wrap ((k:Int)+1)=k+1:=aP
      simp only[aAj]
      simp[-E,-J,↓KW,hw]
    obtain⟨σ6,⟨rfl,q28',q2',q6',q7',q26',q27'⟩,_,_,_,F6,ι6,hR6,_,hV6,⟨hN6,_⟩,hds6,_⟩:=hq;simp only[oT];subst hKT;refine aM hW3 rfl hv6 (λw=>stepG_inLoop) ?_;have hs6:lT (λb=>b<(jI v2).heap.size) (jI v2) V6:=λb hb c e f hc=>⟨f,by rw[hR6.kept.block b hb (λh=>h)];exact hc⟩
    have hf6:∀b,b<(jI v2).heap.size->b<V6.heap.size:=λb hb=>A6 hb hR6.kept.size
    refine hnext a6 V6 ⟨hN6,hds6,oU (q2' ▸ hV6 2),oU (q6' ▸ hV6 6),oU (q7' ▸ hV6 7),?_,v_i (q27' ▸ hV6 27),?_,hv6,(hfA _ _ _ _ hs6 hri.dA).mono hf6,(kT (by simp[nK]) _ _ _ _ hs6 hri.dR).mono hf6⟩
    · have h:=hV6 26;rw[q26']at h
      cases h with|d _ _ h=>exact h.mono hR6.F_lt
    · have:=v_i (q28' ▸ hV6 28)
      simpa using this
  have hd:Dl Aa true (cP bO.tWg Wg) (dK Wg) (λd g=>d=1/\aGv Aa bO Wg (λd' g'=>d'=0/\∀v1,Env V2 v1->OkV v1->∃tr,GTm Aa bO Wg (bBn Aa bO Wg p k (sO Aa bO Wg p K An r)) tr 0 g' v1) d g) 0
      (G (((base 27)).at a2 (.inRegion aUr [0]::.code bUt::.inBlock 1::.code bUs::KT)) cs):=by
    refine Dl.call (f:=bO.add) (fn:=addFn bO) (c:=body_add bO) rfl rfl (by k_ne) rfl aEn.f_add (nm_add bO) rfl (bMf aEn ?_ ⟨rfl,hKA⟩)
    have:a2.eval (.tmp 7)=bX Wg:=e7
    have hc:a2.eval (.const (.int .i64 1))=.int .i64 1:=rfl
    simp[this,hc,addFn,bX]
  simp only[aUr,bUt,bUs,cW,fS,Dr,AT]at hd
  obtain⟨tr,hg⟩:=hd.gt (Stop:=aWh Aa bO Wg p (p.n-(r+1)) (sO Aa bO Wg p K An r)) hv2 λd g v1 he hk=>⟨.leaf,hk.1,aDf (λd' g' hx v2 he2 ho2=>by rw[hr,hx.1];exact hx.2 v2 (he.trans he2) ho2) hk.2⟩
  exact⟨tr,hg⟩
end
end Go.Am
end
section
open List renaming map_map->E,mapM_map->J
open Go Go.Am Go.Proofs
namespace Go.Am
open Go.Conc Go.Conc.Lib Go.RowKit Go.ConcR.Gen
open Go.ConcR (KK wgBlock stA smA rd wr mk)
def bFd{Wg bA bR cap:Nat}{p:Pl}{c0 c1 c2:D}{lD:List (List D)}{K An:Goroutine->Prop}{cs:List Frame}(hl:lD.length=p.n)(hn:p.n<2147483648)(hfA:pN (.pt [c0,c1,c2]))(hfL:pN (.sl lD))
    (hw:∀k,k<p.n->∃pk,lD[k]? = some [.i .u64 pk]/\∀(V':World) (Bp Bi:Nat),OkV V'->VD (λb=>b<V'.heap.size) V' (.pt [c0,c1,c2]) (bX bA)->VD (λb=>b<V'.heap.size) V' (.pt [.i .u64 pk]) (bX Bp)->VD (λb=>b<V'.heap.size) V' (.pt [.i .i64 k]) (bX Bi) ->
      VD (λb=>b<V'.heap.size) V' (.pt [.lit (.slice (some ⟨p.C,0,none⟩) p.n cap)]) (bX bR)->∃tr,GTw Aa bO Wg p k tr 0 (born Aa (aEo Wg bA Bp Bi bR)) V')
    (hAn:∀a:Act,a.tmps.getD 6 undef=bX bR->a.tmps.size=38->a.defers=[]->∀g,aDp bO Wg (((base 27)).at a [.inRegion aRc [0],.code tW2]) cs g->An g)
    (hHd:∀g,An g->Dl Aa true (cP bO.tWg Wg) (dK Wg) (λd g=>d=1/\yW Aa bO Wg K An d g) 1 g) :
    ∀(r k:Nat) (a:Act) (V:World),k+r=p.n->RI Wg bA bR p.C p.n cap c0 c1 c2 lD k a V->sO Aa bO Wg p K An r (G (((base 27)).at a [.code cW,.inLoop cW,.inBlock 0,.code tW]) cs) V
  | 0,k,a,V,hk,h=>by
    obtain rfl:k=p.n:=by omega
    exact aXy h hl hAn hHd
  | r+1,k,a,V,hk,h=>by obtain⟨pk,h1,h2⟩:=hw k (by omega);exact aQv h (by omega) hl h1 (by omega) hn hfA hfL h2 λa' V' h'=>bFd hl hn hfA hfL hw hAn hHd r (k+1) a' V' (by omega) h'
structure aPe(p:Pl)(v v':World):Prop where
  ok:OkV v'
  tape:v'.tape=v.tape
  os:v'.os=v.os
  output:v'.output=v.output
  size:v.heap.size<v'.heap.size
  old:∀b,b<v.heap.size->b≠p.C->v'.heap[b]? = v.heap[b]?
  val:∃cs:Array Value,v'.heap[p.C]? = some (.cells cs p.ety (0,0))/\cs.size=p.tot/\∀i,i<p.n->∀r,r<p.wd->cs[i*p.wd+r]? = some (p.val i r)
def bVl.w{p:Pl}{v v':World}(h:bVl p v v'):aPe p v v':=⟨h.ok,h.tape,h.os,h.output,h.size,h.old,h.val⟩
def aPe.next{p:Pl}{v v' v2:World}(h:aPe p v v')(hok:OkV v2)(ht:v2.tape=v'.tape)(ho:v2.os=v'.os)(hp:v2.output=v'.output)(hsz:v'.heap.size<=v2.heap.size)(hb:∀b,b<v'.heap.size->v2.heap[b]? = v'.heap[b]?):aPe p v v2:=by
  have hC:p.C<v'.heap.size:=let ⟨cs,h1,_⟩:=h.val;bF h1
  refine⟨hok,ht.trans h.tape,ho.trans h.os,hp.trans h.output,A6 h.size hsz,λb hlt hne=>(hb b (F0 hlt h.size)).trans (h.old b hlt hne),?_⟩;obtain⟨cs,h1,h2⟩:=h.val;exact⟨cs,(hb _ hC).trans h1,h2⟩
def bCh{P:Program}[M:Mch P]{Win:Goroutine->World->Prop}(hW:M.Fam Win){f:FuncId}{fn:Func}{a':Act}{v':World}{todo:List Item}{c0:Frame}{cs:List Frame}{R:Value->World->Prop}(hf:P.funcs[f]? = some fn)(hv':OkV v')(hd:a'.defers=[])
    (hr:∀v1,Env v' v1->∃x,aK P (results fn a'.tmps) v1=.ok x v1/\R x v1) (hk:∀x v'',OkV v''->R x v''->Win (G (c0.finish x) cs) v''):Win (G { (base f).at a' todo with mode:=.returning } (c0::cs)) v':=by
  refine(M.closed hW).step rfl hv' λv1 w he hsim=>?_
  obtain⟨x,hx,hR⟩:=hr v1 he
  obtain⟨w',es',h1,h2,h3,h4,h5,h6⟩:=fG _ v1 w #[] x v1 (he.okV hv') hsim hx
  exact⟨_,v1,w',_,tA (b:=base f) rfl hd hf h1,⟨h2,h3,h4,h5,λe he'=>h6 e (by have:=mem_seen he';simpa using this)⟩,hk x v1 h3 hR⟩
def bCa{W0:World}{Post:Value->World->Prop}{p:Pl}{v1:World}{bR cap:Nat}{a:Act}{c0:Frame}{cs:List Frame}(h6:a.tmps.getD 6 undef=bX bR)(hN:a.tmps.size=38)(hds:a.defers=[])(hbR:bR<v1.heap.size)(hne:bR≠p.C)
    (hcell:v1.cell? ⟨bR,0,none⟩=some (.slice (some ⟨p.C,0,none⟩) p.n cap)) (hk:∀v',aPe p v1 v'->dX Aa W0 Post (G (c0.finish (.tuple #[.slice (some ⟨p.C,0,none⟩) p.n cap,.int .i64 0])) cs) v') :
    KF Aa W0 Post p v1 (G (((base 27)).at (a.put (some 36) (.tuple #[])) [.inRegion aRc [],.code tW2]) (c0::cs)):=by
  refine⟨rfl,λv' hF=>?_⟩
  letI:=cE Aa
  have hW:(cE Aa).Fam (dX Aa W0 Post):=.inl ⟨W0,Post,rfl⟩
  have hb:nA (base 27):=.inl rfl
  have g6:(a.put (some 36) (.tuple #[])).tmps.getD 6 undef=bX bR:=by rw[<-h6];simp[C6,Au,AF]
  have gN:(a.put (some 36) (.tuple #[])).tmps.size=38:=by simp[C6,hN]
  have gds:(a.put (some 36) (.tuple #[])).defers=[]:=hds
  generalize a.put (some 36) (.tuple #[])=a3 at g6 gN gds
  have hok:=hF.ok
  have hc':v'.cell? ⟨bR,0,none⟩=some (.slice (some ⟨p.C,0,none⟩) p.n cap):=by rw[<-hcell];exact fA (hF.old bR hbR hne)
  have hfp:V (λb=>b<v'.heap.size) v' (λ_=>none) (.fp [.lit (.slice (some ⟨p.C,0,none⟩) p.n cap)]) (bX bR) :=
    .fp _ _ (λ_=>.slice (some ⟨p.C,0,none⟩) p.n cap) (F0 hbR hF.size) (λj hj=>by
      have:j=0:=by simp at hj;omega
      subst this;rw[gY];exact hc') λk c hk=>by
      cases k with
      |zero=>simp at hk;subst hk;exact .lit _
      |succ k=>simp at hk
  simp only[aRc,tW2,tW,fS,Dr,AT]
  refine aM hW rfl hok (λw=>stepG_region_end) ?_
  refine aM hW rfl hok (λw=>stepG_seq) ?_
  have hsr:SR ⟨v',λb=>b<v'.heap.size,bD,λ_=>True,λ_=>none⟩ 38 [] (StL [(6,.fp [.lit (.slice (some ⟨p.C,0,none⟩) p.n cap)])] none []) a3 v':=by rw[<-gds];refine aKa (Z:=λ_=>none) hok gN (λ_ _ h=>by simp at h) (tY (T:=λt=>a3.tmps.getD t undef) _ ?_);simp only[EY];exact⟨by rw[g6];exact hfp,λ_ h=>by simp at h⟩
  refine cJ aR (λ_=>rfl) _ (λe σ=>e=.normal/\σ.Γ 4=.d (.lit (.slice (some ⟨p.C,0,none⟩) p.n cap))/\σ.Γ 5=.d (.i .i64 0)) _ _ _ (by kernel_rfl) (by kernel_rfl) ?hawp hsr _ hW hok _ _ _ hb λe a4 V4 hv4 hq=>?_
  case hawp =>
    simp[-E,-J,↓KW]
  obtain⟨σ,⟨rfl,q4,q5⟩,hsr4⟩:=hq
  obtain⟨_,_,_,F,ι,hR,_,hV,⟨hN4,_⟩,hds4,_⟩:=id hsr4
  have hF4:aPe p v1 V4:=hF.w.next hv4 hR.kept.tape hR.kept.os hR.kept.output hR.kept.size λb hb=>hR.kept.block b hb (λh=>h)
  simp only[oT]
  refine aM hW rfl hv4 (λw=>stepG_ret') ?_
  refine bCh hW (R:=λx v2=>x=.tuple #[.slice (some ⟨p.C,0,none⟩) p.n cap,.int .i64 0]/\aPe p v1 v2) Tryz.func27 hv4 hds4 (λv2 he=>?_) λx v'' _ hx=>by rw[hx.1];exact hk v'' hx.2
  have hsr5:=hsr4.env he
  obtain⟨x,hx,hvd⟩:=eB (P:=Aa) (fn:=Dr) (r:=.tp [.lit (.slice (some ⟨p.C,0,none⟩) p.n cap),.i .i64 0]) hsr5 (by
    simp[jA,Dr,kD,q4,q5,cI,frz])
  refine⟨x,hx,?_,hF4.next (he.okV hv4) he.tape he.os he.output he.size λb hb=>he.get hb⟩
  cases hvd with
  | tp cs vs hl h =>
    have h0:vs[0]? = some (.slice (some ⟨p.C,0,none⟩) p.n cap):=by obtain⟨y,hy⟩:∃y,vs[0]? = some y:=⟨_,Al (by simp at hl;omega)⟩;have:=h 0 _ _ rfl hy;cases this;exact hy
    have h1:vs[1]? = some (.int .i64 0):=by obtain⟨y,hy⟩:∃y,vs[1]? = some y:=⟨_,Al (by simp at hl;omega)⟩;have:=h 1 _ _ rfl hy;cases this;exact hy
    congr 1
    apply Gb
    intro k
    match k with
    |0=>exact h0
    |1=>exact h1
    |k+2=>rw[Dp (by simp at hl;omega)];simp
end Go.Am
end
section
open List renaming map_map->E,mapM_map->J
open Go Go.Am Go.Proofs
namespace Go.Am
open Go.Conc Go.Conc.Lib Go.RowKit Go.ConcR.Gen
open Go.ConcR (KK wgBlock stA smA rd wr mk)
def bUf{P:Program}{f:FuncId}{args:Array Value}{v:World}{R:Value->World->Prop}
    (h:∀(W0:World) (Post:Value->World->Prop) (c:Frame) (cs:List Frame),(∀x v',OkV v'->R x v'->dX P W0 Post (G (c.finish x) cs) v')->OkV v->dX P W0 Post (G (C5 P f args .normal) (c::cs)) v) :
    letI:=cE P;CX P f args v R:=by
  intro Win hW hv c cs hk
  rcases hW with ⟨W0,Post,rfl⟩|rfl
  · exact h W0 Post c cs hk hv
  · have hm:=h { v with heap:=#[] } (λ_ _=>False) c cs (λx v' ho hr=>(hk x v' ho hr).elim) hv
    have h0:dE (λ_=>False)=λ_=>False:=by funext l;cases l<;>rfl
    have he:=hm v (.refl _) hv (λ_=>False) #[G (C5 P f args .normal) (c::cs)] v none #[] (λ_=>0) (λb h=>h.elim) (Sim.refl v) rfl (leavers_one P _) (by rw[h0];exact past_nil.mono (Nat.zero_le _))
      ⟨λi op x hi=>by simp at hi,λi a ha=>by simp[touchAt,Trace.act?]at ha,λi op hi=>by simp at hi⟩ (λb o hb=>by simp at hb)
    obtain⟨N,last,o,w',t',_,_,_,x,_,hp,_⟩:=he
    exact hp.elim
noncomputable def x1W:Code:=match fS with|.seq _ (.seq c _)=>c|_=>.skip
noncomputable def x3W:Code:=match fS with|.seq _ (.seq _ (.seq c _))=>c|_=>.skip
noncomputable def r5W:Code:=match fS with|.seq _ (.seq _ (.seq _ (.seq c _)))=>c|_=>.skip
def aPl{rr:Int}{eA:List (List D)}{lD:List (List D)}{n:Nat}(hn:lD.length=n)(hn2:n<=1000000)
    (hvalid:letI:=cE Aa;Spec Aa 69 [.ag [.i .i64 rr,.i .i64 rr,.sl eA]] (.b true)) (hdiff:letI:=cE Aa;Spec Aa 70 [.sl lD] (.b true)) :
    letI:=cE Aa
    AWP Aa (match fS with|.seq c _=>c|_=>.skip) (St0 [.ag [.i .i64 rr,.i .i64 rr,.sl eA],.sl lD] 38) λe σ=>e=.normal/\AWP Aa x1W σ λe σ=>e=.normal/\AWP Aa x3W σ λe σ=>e=.normal/\AWP Aa r5W σ λe σ=>e=.normal /\
      σ.Γ 1=.d (.sl lD)/\∃iA iR iC,iA≠iC/\iR≠iC/\σ.Γ 2=.ptr iA 0/\σ.H iA=some (.cells 61 [.d (.i .i64 rr),.d (.i .i64 rr),.d (.sl eA)])/\σ.Γ 6=.ptr iR 0/\σ.H iR=some (.cells 27 [.own iC 0 n 3])/\∃cs,σ.H iC=some (.cells 78 cs)/\n*3<=cs.length:=by
  letI:=cE Aa
  simp only[x1W,x3W,r5W,fS,Dr,AT]
  have h0:(0:Int)<=(lD.length:Int):=by omega
  have h1:(lD.length:Int)<=9223372036854775807:=by omega
  have h2:((rr:Int) != rr)=false:=by simp
  have h3:24*(n:Int)<=281474976710656:=by omega
  have h4:(n:Int)<=9223372036854775807:=by omega
  simp[-E,-J,↓KW,h0,h1,h2,hn]
  refine aC hvalid ?_
  simp[-E,-J,↓KW,h0,h1,h2,hn]
  refine aC hdiff ?_
  simp[-E,-J,↓KW,h0,h1,h2,hn,h3,h4]
  refine⟨1,3,2,by decide,by decide,rfl,rfl,rfl,rfl,_,rfl,?_⟩
  simp[List.length_flatten]
end Go.Am
end
section
open List renaming map_map->E,mapM_map->J
open Go Go.Am Go.Proofs
namespace Go.Am
open Go.Conc Go.Conc.Lib Go.RowKit Go.ConcR.Gen
open Go.ConcR (KK wgBlock stA smA rd wr mk)
def bYu{G:Ctx}{F:Nat->Prop}{w:World}{ι:Nat->Option Nat}{C:Nat->Prop}{H:Hp}(hR:HR G F w ι C H){i b:Nat}{e:TypeId}{cs:List D}(hb:ι i=some b)(hH:H i=some (.cells e (cs.map .d))):VD (λb'=>b'=b\/F b') w (.pt cs) (bX b):=by
  obtain⟨ob,h1,h2⟩:=hR.obj i b _ hb hH;cases h2 with
  | cells _ _ cur hl hc =>
    refine .pt _ _ (λj=>cur.getD j undef) (.inl rfl) (λj hj=>?_) λk c hk=>?_
    · have:j<cur.size:=by simp at hl;omega
      simp[gY,BA,h1,this]
    · obtain⟨u,hu,hv⟩:=hc k (.d c) (by simp[hk])
      have:cur.getD k undef=u:=by simp[Au,hu]
      rw[this]
      cases hv with|d _ _ h=>exact h.mono λb hb=>.inr hb
def aOv{a:Act}{o:Oper}(hop:o.op=.alloc 119)(w:World) :
    (execOp a.eval o).run Aa w=.ok (.value (.pointer (some ⟨w.heap.size,0,none⟩))) { w with heap:=w.heap.push (wgBlock bO.tWg 0 0) }/\(execOp a.eval o).events Aa w #[]=#[]:=by
  unfold execOp
  simp only[hop]
  constructor
  · simp[go_sem,Gz,wgBlock,bO,Ed]
  · simp[go_sem,Gz,wgBlock,bO,Ed]
noncomputable def aYx:Array Oper:=match fS with|.seq _ (.seq _ (.seq _ (.seq _ (.seq (.region _ o _) _))))=>o|_=>#[]
noncomputable def aFa:Code:=match fS with|.seq _ (.seq _ (.seq _ (.seq _ (.seq _ c))))=>c|_=>.skip
def aPk{p:Pl}{bA bR cap Wg:Nat}{c0 c1 c2:D}{lD:List (List D)}{K An:Goroutine->Prop}{cs:List Frame}{a:Act}{V:World}(hok:OkV V)(hN:a.tmps.size=38)(hds:a.defers=[])(h2:a.tmps.getD 2 undef=bX bA)(h6:a.tmps.getD 6 undef=bX bR)
    (h1:VD (λb=>b<V.heap.size) V (.sl lD) (a.tmps.getD 1 undef)) (hl:lD.length=p.n) (hn:p.n<=1000000) (hfA:pN (.pt [c0,c1,c2])) (hfL:pN (.sl lD)) (hdA:VD (λb=>b<V.heap.size) V (.pt [c0,c1,c2]) (bX bA)) (hdR:VD (λb=>b<V.heap.size) V (.pt [.lit (.slice (some ⟨p.C,0,none⟩) p.n cap)]) (bX bR))
    (hgo:∀a' V',RI Wg bA bR p.C p.n cap c0 c1 c2 lD 0 a' V'->sO Aa bO Wg p K An p.n (G (((base 27)).at a' [.code cW,.inLoop cW,.inBlock 0,.code tW]) cs) V') :
    sO Aa bO Wg p K An p.n (G (((base 27)).at (a.put (some 7) (bX Wg)) [.inRegion aYx [],.code aFa]) cs) V:=by
  letI:=kK Aa true
  have hW:=uO (Wg:=Wg) (p:=p) (K:=K) (An:=An) p.n
  have hb:nA (base 27):=.inl rfl
  have hg:∀t,t≠7->(a.put (some 7) (bX Wg)).tmps.getD t undef=a.tmps.getD t undef:=λt ht=>by simp[C6,Au,AF (Eo ht)]
  have h7:(a.put (some 7) (bX Wg)).tmps.getD 7 undef=bX Wg:=by simp[C6,Au,hN]
  have hN':(a.put (some 7) (bX Wg)).tmps.size=38:=by simp[C6,hN]
  have hds':(a.put (some 7) (bX Wg)).defers=[]:=hds
  have g1:=hg 1 (by decide)
  have g2:=(hg 2 (by decide)).trans h2
  have g6:=(hg 6 (by decide)).trans h6
  rw[<-g1]at h1
  generalize a.put (some 7) (bX Wg)=a5 at h1 g2 g6 h7 hN' hds'
  have hL0:(lD.length:Int)=p.n:=by omega
  have hsr:SR ⟨V,λb=>b<V.heap.size,bD,λ_=>True,λ_=>none⟩ 38 [] (StL [(1,.d (.sl lD)),(2,.d (.lit (bX bA))),(6,.d (.lit (bX bR))),(7,.d (.lit (bX Wg)))] none []) a5 V:=by
    rw[<-hds'];refine aKa (Z:=λ_=>none) hok hN' (λ_ _ h=>by simp at h) (tY (T:=λt=>a5.tmps.getD t undef) _ ?_);simp only[EY];refine⟨.d _ _ h1,.d _ _ ?_,.d _ _ ?_,.d _ _ ?_,λ_ h=>by simp at h⟩
    · rw[g2];exact .lit _
    · rw[g6];exact .lit _
    · rw[h7];exact .lit _
  have hgo':=hgo
  simp only[cW,tW,fS,Dr,AT]at hgo'
  simp only[aYx,aFa,fS,Dr,AT]
  refine aM hW rfl hok (λw=>stepG_region_end) ?_
  refine aM hW rfl hok (λw=>stepG_seq) ?_
  refine aM hW rfl hok (λw=>stepG_seq) ?_
  refine cJ aR (λ_=>rfl) _ (λe σ=>e=.normal/\σ.Γ 2=.d (.lit (bX bA))/\σ.Γ 6=.d (.lit (bX bR))/\σ.Γ 7=.d (.lit (bX Wg))/\σ.Γ 26=.d (.sl lD)/\σ.Γ 27=.d (.i .i64 p.n)/\σ.Γ 28=.d (.i .i64 0)) _ _ _ (by kernel_rfl) (by kernel_rfl) ?hawp hsr _ hW hok _ _ _ hb λe a6 V6 hv6 hq=>?_
  case hawp =>
    simp[-E,-J,↓KW,hL0]
  obtain⟨σ,⟨rfl,q2,q6,q7,q26,q27,q28⟩,_,_,_,F,ι,hR,_,hV,⟨hN6,_⟩,hds6,_⟩:=hq
  simp only[oT]
  refine aM hW rfl hv6 (λw=>stepG_block) ?_
  refine aM hW rfl hv6 (λw=>stepG_loop) ?_
  have hs:lT (λb=>b<V.heap.size) V V6:=λb hb c e f hc=>⟨f,by rw[hR.kept.block b hb (λh=>h)];exact hc⟩
  have hf:∀b,b<V.heap.size->b<V6.heap.size:=λb hb=>A6 hb hR.kept.size
  refine hgo' a6 V6 ⟨hN6,hds6,oU (q2 ▸ hV 2),oU (q6 ▸ hV 6),oU (q7 ▸ hV 7),?_,v_i (q27 ▸ hV 27),v_i (q28 ▸ hV 28),hv6,(hfA _ _ _ _ hs hdA).mono hf,(kT (by simp[nK]) _ _ _ _ hs hdR).mono hf⟩
  have h:=hV 26;rw[q26]at h
  cases h with|d _ _ h=>exact h.mono hR.F_lt
end Go.Am
end
section
open List renaming map_map->E,mapM_map->J
open Go Go.Am Go.Proofs
namespace Go.Am
open Go.Conc Go.Conc.Lib Go.RowKit Go.ConcR.Gen
open Go.ConcR (KK wgBlock stA smA rd wr mk)
def bOa(Pv Vv:Nat->Int)(i r:Nat):Value:=match r with
  |0=>.int .i64 i
  |1=>.int .u64 (Pv i)
  |_=>.int .u64 (Vv i)
def aEy(Pv Vv:Nat->Int)(n:Nat):List (List D):=(AN n).map λ(i:Nat)=>[.i .i64 (i:Int),.i .u64 (Pv i),.i .u64 (Vv i)]
def bCb{W0:World}{Post:Value->World->Prop}{rr:Int}{eA lD:List (List D)}{n:Nat}{Pv Vv Ev:Nat->Int}(hn:lD.length=n)(hn2:n<=1000000)(hfE:pN (.sl eA))(hlD:∀k,k<n->lD[k]? = some [.i .u64 (Pv k)])
    (hres:∀k,k<n->letI:=kK Aa false;Spec Aa 74 [.ag [.i .i64 rr,.i .i64 rr,.sl eA],.i .u64 (Pv k)] (.tp [.ag [.i .u64 (Pv k),.i .u64 (Vv k)],.i .i64 (Ev k)]))
    {A:Nat->Prop} {W V:World} {σ:St} {a:Act} {c:Frame} {cs:List Frame} (hsr:SR ⟨W,A,bD,λ_=>True,λ_=>none⟩ 38 [] σ a V)
    (q1:σ.Γ 1=.d (.sl lD)) {iA iR iC:Nat} (hne1:iA≠iC) (hne2:iR≠iC) (q2:σ.Γ 2=.ptr iA 0) (qA:σ.H iA=some (.cells 61 [.d (.i .i64 rr),.d (.i .i64 rr),.d (.sl eA)])) (q6:σ.Γ 6=.ptr iR 0) (qR:σ.H iR=some (.cells 27 [.own iC 0 n 3])) {csC:List AV} (qC:σ.H iC=some (.cells 78 csC)) (hlC:n*3<=csC.length)
    (hk:∀x v',OkV v'->(Below W.heap.size W v'/\VD (λb=>A b\/(W.heap.size<=b/\b<v'.heap.size)) v' (.tp [.sl (aEy Pv Vv n),.i .i64 0]) x)->dX Aa W0 Post (G (c.finish x) cs) v') :
    dX Aa W0 Post (G (((base 27)).at a [.inRegion aYx [0],.code aFa]) (c::cs)) V:=by
  obtain⟨_,_,hok,F,ι,hR,_,hV,⟨hN,_⟩,hds,_⟩:=hsr
  obtain⟨bA,hbA,e2⟩:=aTx (q2 ▸ hV 2)
  obtain⟨bR,hbR,e6⟩:=aTx (q6 ▸ hV 6)
  -- the reports' cell
  obtain⟨obR,hoR,hcR⟩:=hR.obj iR bR _ hbR qR
  obtain⟨C,cap,cur,hiC,hCb,hcap,hcell⟩:∃C cap cur,ι iC=some C/\V.heap[C]? = some (.cells cur 78 (0,0))/\n<=cap/\V.cell? ⟨bR,0,none⟩=some (.slice (some ⟨C,0,none⟩) n cap):=by
    cases hcR with
    | cells _ _ curR hl hc =>
      obtain⟨u,hu,hv⟩:=hc 0 _ rfl;cases hv with
      | own _ _ _ _ b cap cur e hι hb hcap hl' hm =>
        obtain⟨obC,hoC,hcC⟩:=hR.obj iC b _ hι qC;cases hcC with
        | cells _ _ cur' hl2 hc2 =>
          exact⟨b,cap,cur',hι,hoC,hl',by simp[BA,hoR,hu]⟩
  obtain⟨obC,hoC,hcC⟩:=hR.obj iC C _ hiC qC
  have hfit:n*3<=cur.size:=by
    rw[hCb]at hoC;obtain rfl:=Bm hoC;cases hcC with
    |cells _ _ _ hl2 hc2=>omega
  have hnA:bA≠C:=λe=>hne1 (hR.inj iA iC bA hbA (e ▸ hiC) (λh=>h) (λh=>h))
  have hnR:bR≠C:=λe=>hne2 (hR.inj iR iC bR hbR (e ▸ hiC) (λh=>h) (λh=>h))
  have hCW:W.heap.size<=C:=(hR.place iC C hiC).1.elim (λh=>h.elim) id
  have hCF:¬F C:=(hR.place iC C hiC).2.2 (λh=>h)
  have hbRlt:bR<V.heap.size:=bF hoR
  let p:Pl:={ C:=C,wd:=3,n:=n,ety:=78,val:=bOa Pv Vv,pos:=by decide,tot:=cur.size,le:=hfit }
  have hfL:pN (.sl lD):=oI λr hr x hx=>by obtain⟨k,hk',rfl⟩:=List.mem_iff_getElem.1 hr;have:=hlD k (by omega);rw[Ab hk']at this;rw[Bm this]at hx;simp at hx;subst hx;exact xC _ _
  have hfA:pN (.pt [.i .i64 rr,.i .i64 rr,.sl eA]):=kT (by
    intro x hx;simp at hx;rcases hx with rfl|rfl
    · exact xC _ _
    · exact hfE)
  have hdA:=bYu (cs:=[.i .i64 rr,.i .i64 rr,.sl eA]) hR hbA qA
  have hdR:VD (λb=>b=bR) V (.pt [.lit (.slice (some ⟨C,0,none⟩) n cap)]) (bX bR) :=
    .pt _ _ (λ_=>.slice (some ⟨C,0,none⟩) n cap) rfl (λj hj=>by
      have:j=0:=by simp at hj;omega
      subst this;rw[gY];exact hcell) λk c hk=>by
      cases k with
      |zero=>simp at hk;subst hk;exact .lit _
      |succ k=>simp at hk
  have hd1:VD F V (.sl lD) (a.tmps.getD 1 undef):=by have h:=hV 1;rw[q1]at h;cases h with|d _ _ h=>exact h
  refine aYr (L:=bO) (p:=p) (g1:=λWg=>G (((base 27)).at (a.put (some 7) (bX Wg)) [.inRegion aYx [],.code aFa]) (c::cs)) rfl (λv1 w he ho hs=>?_) ⟨cur,hCb,rfl⟩ (show(78:Nat)≠0 by decide) (show n<2147483648 by omega) λv1 he ho=>?_
  · simp only[aYx,aFa,fS,Dr,AT]
    exact(stepG_value rfl rfl (by k_ne) (aOv rfl w).1).trans (by unfold listed;rw[(aOv rfl w).2,seen_none];rfl)
  have hsz1:=he.size
  have hret:∀v',aPe p v1 v'->dX Aa W0 Post (G (c.finish (.tuple #[.slice (some ⟨C,0,none⟩) n cap,.int .i64 0])) cs) v':=λv' hF=>by
    obtain⟨cs',g1,g2,g3⟩:=hF.val;have hlt:C<v'.heap.size:=bF g1;refine hk _ v' hF.ok ⟨⟨(hF.os.trans he.os).trans hR.kept.os,(hF.tape.trans he.tape).trans hR.kept.tape,(hF.output.trans he.output).trans hR.kept.output,AR hR.kept.size (AR hsz1 (Nat.le_of_lt hF.size)),λb hb=>?_⟩,?_⟩
    · have hb1:b<V.heap.size:=A6 hb hR.kept.size
      rw[hF.old b (A6 hb1 hsz1) (by show b≠C;omega),he.get hb1]
      exact hR.kept.block b hb (λh=>h)
    · refine .tp _ _ rfl λk d y hd hy=>?_
      match k with
      | 0 =>
        simp at hd hy;subst hd;subst hy
        refine .sl _ _ n cap 3 (λj=>cs'.getD j undef) (by simp[aEy]) hcap (λr hr=>?_) (.inr ⟨hCW,hlt⟩) (λj hj=>?_) λj k r d h1 h2=>?_
        · obtain⟨i,_,rfl⟩:=AM.1 hr;rfl
        · have:j<cs'.size:=by rw[g2];show j<cur.size;omega
          have g1':v'.heap[C]? = some (.cells cs' 78 (0,0)):=g1
          simp[gY,BA,g1',this]
        · simp only[aEy,Ag,Bq]at h1
          obtain⟨i,hi,rfl⟩:=Af.1 h1
          have hij:i=j/\j<n:=by
            rcases A4 j n with h|h
            · rw[Bq h]at hi;exact⟨(Bm hi).symm,h⟩
            · rw[List.getElem?_eq_none (by simpa using h)]at hi;cases hi
          obtain⟨rfl,hjn⟩:=hij
          have hv:=λr hr=>g3 i hjn r hr
          match k with
          | 0 =>
            simp at h2;subst h2
            have:=hv 0 (show 0<3 by decide)
            simp only[Au]
            rw[show cs'[i*3+0]? = some (bOa Pv Vv i 0)from this];exact .i _ _
          | 1 =>
            simp at h2;subst h2
            have:=hv 1 (show 1<3 by decide)
            simp only[Au]
            rw[show cs'[i*3+1]? = some (bOa Pv Vv i 1)from this];exact .i _ _
          | 2 =>
            simp at h2;subst h2
            have:=hv 2 (show 2<3 by decide)
            simp only[Au]
            rw[show cs'[i*3+2]? = some (bOa Pv Vv i 2)from this];exact .i _ _
          |k+3=>simp at h2
      |1=>simp at hd hy;subst hd;subst hy;exact .i _ _
      |k+2=>simp at hd
  have hcell1:v1.cell? ⟨bR,0,none⟩=some (.slice (some ⟨C,0,none⟩) n cap):=by rw[<-hcell];exact fA (he.get hbRlt)
  let An:Goroutine->Prop:=λg=>∃a:Act,a.tmps.getD 6 undef=bX bR/\a.tmps.size=38/\a.defers=[]/\aDp bO v1.heap.size (((base 27)).at a [.inRegion aRc [0],.code tW2]) (c::cs) g
  have hHd:∀g,An g->Dl Aa true (cP bO.tWg v1.heap.size) (dK v1.heap.size) (λd g=>d=1/\yW Aa bO v1.heap.size (KF Aa W0 Post p v1) An d g) 1 g:=by rintro g ⟨a',h6,hN',hds',hh⟩;exact(aWv aEn (bCa (p:=p) h6 hN' hds' (A6 hbRlt hsz1) hnR hcell1 hret) hh).mono λd g hx=>⟨hx.1,bBc (λg hg=>⟨a',h6,hN',hds',hg⟩) hx.2⟩
  refine⟨An,hHd,?_⟩
  have hin:∀F':Nat->Prop,(∀b,F' b->b≠C)->lT F' V (inV v1 C):=λF' hF'=>(aEw he).trans (aXr hF')
  have hlt':∀b,b<V.heap.size->b<(inV v1 C).heap.size:=λb hb=>by rw[uV];omega
  refine aPk (p:=p) (bIi v1 C) hN hds e2 e6 ((hfL _ _ _ _ (hin F λb hb e=>hCF (e ▸ hb)) hd1).mono λb hb=>hlt' b (hR.F_lt b hb)) hn hn2 hfA hfL
    ((hfA _ _ _ _ (hin _ λb hb e=>hb.elim (λh=>hnA (h ▸ e)) λh=>hCF (e ▸ h)) hdA).mono λb hb=>hlt' b (hb.elim (λh=>by rw[h];exact bF (hR.obj iA bA _ hbA qA).choose_spec.1) (hR.F_lt b)))
    ((kT (by simp[nK]) _ _ _ _ (hin (λb=>b=bR) λb hb e=>hnR (hb ▸ e)) hdR).mono λb hb=>hlt' b (hb ▸ hbRlt)) λa' V' hri=>?_
  refine bFd (p:=p) hn (show n<2147483648 by omega) hfA hfL (λk hkn=>⟨Pv k,hlD k hkn,λV' Bp Bi h1 h2 h3 h4 h5=>bNo (p:=p) rfl hkn rfl rfl rfl rfl h1 h2 h3 h4 h5 (hres k hkn)⟩) (λa h6 hN hds g hh=>⟨a,h6,hN,hds,hh⟩) hHd n 0 a' V' (by show 0+n=n;omega) hri
def aKg{rr:Int}{eA lD:List (List D)}{n:Nat}{Pv Vv Ev:Nat->Int}(hn:lD.length=n)(hn2:n<=1000000)(hfE:pN (.sl eA))(hlD:∀k,k<n->lD[k]? = some [.i .u64 (Pv k)])
    (hvalid:letI:=cE Aa;Spec Aa 69 [.ag [.i .i64 rr,.i .i64 rr,.sl eA]] (.b true)) (hdiff:letI:=cE Aa;Spec Aa 70 [.sl lD] (.b true))
    (hres:∀k,k<n->letI:=kK Aa false;Spec Aa 74 [.ag [.i .i64 rr,.i .i64 rr,.sl eA],.i .u64 (Pv k)] (.tp [.ag [.i .u64 (Pv k),.i .u64 (Vv k)],.i .i64 (Ev k)])) :
    letI:=cE Aa;Spec Aa 27 [.ag [.i .i64 rr,.i .i64 rr,.sl eA],.sl lD] (.tp [.sl (aEy Pv Vv n),.i .i64 0]):=by
  letI:=cE Aa
  intro A W vs hA hl hv
  refine⟨λw=>by simp[callFunc,Tryz.func27,Dr],bUf λW0 Post c cs hk hok=>?_⟩
  have hW:(cE Aa).Fam (dX Aa W0 Post):=.inl ⟨W0,Post,rfl⟩
  have hb:nA (base 27):=.inl rfl
  rw[enter_at vs Tryz.func27 (show Dr.body=some fS from rfl)]
  have hsr:=SR0 (N:=38) hok hA hl hv (by simp)
  have hfr:=aPl hn hn2 hvalid hdiff
  have hmid:∀{σ:St} {a:Act} {V:World},_:=λ{σ a V}=>@bCb W0 Post rr eA lD n Pv Vv Ev hn hn2 hfE hlD hres A W V σ a c cs
  simp only[aYx,aFa,fS,Dr,AT]at hmid
  simp only[x1W,x3W,r5W,fS,Dr,AT]at hfr
  simp only[fS,Dr,AT]
  refine aM hW rfl hok (λw=>stepG_seq) ?_
  refine cJ aR (λ_=>rfl) _ _ _ _ _ (by kernel_rfl) (by kernel_rfl) hfr hsr _ hW hok _ _ _ hb λe a1 V1 hv1 hq=>?_
  obtain⟨σ1,⟨rfl,hfr1⟩,hsr1⟩:=hq
  simp only[oT]
  refine aM hW rfl hv1 (λw=>stepG_seq) ?_
  refine cJ aR (λ_=>rfl) _ _ _ _ _ (by kernel_rfl) (by kernel_rfl) hfr1 hsr1 _ hW hv1 _ _ _ hb λe a2 V2 hv2 hq=>?_
  obtain⟨σ2,⟨rfl,hfr2⟩,hsr2⟩:=hq
  simp only[oT]
  refine aM hW rfl hv2 (λw=>stepG_seq) ?_
  refine cJ aR (λ_=>rfl) _ _ _ _ _ (by kernel_rfl) (by kernel_rfl) hfr2 hsr2 _ hW hv2 _ _ _ hb λe a3 V3 hv3 hq=>?_
  obtain⟨σ3,⟨rfl,hfr3⟩,hsr3⟩:=hq
  simp only[oT]
  refine aM hW rfl hv3 (λw=>stepG_seq) ?_
  refine cJ aR (λ_=>rfl) _ _ _ _ _ (by kernel_rfl) (by kernel_rfl) hfr3 hsr3 _ hW hv3 _ _ _ hb λe a4 V4 hv4 hq=>?_
  obtain⟨σ4,⟨rfl,q1,iA,iR,iC,hne1,hne2,q2,qA,q6,qR,csC,qC,hlC⟩,hsr4⟩:=hq
  simp only[oT]
  refine aM hW rfl hv4 (λw=>stepG_seq) ?_
  refine aM hW rfl hv4 (λw=>stepG_region) ?_
  exact hmid hsr4 q1 hne1 hne2 q2 qA q6 qR qC hlC hk
end Go.Am
end
section
open List renaming map_map->E,mapM_map->J
open Go Go.Am Go.Proofs
namespace Go.Am
def bZi[M0:Mch Aa](p:Nat)(hp:PrN p)(hP:Spec Aa 52 [.i .u64 p] (.b true)) :
  Spec Aa 120 [sU p 0 []] (.tp [.i .u64 1,.i .i64 0]):=by
 have hVl:=aVb (M0:=M0) p 0 [] (by omega) ⟨rfl,λi h=>absurd h (Nat.not_lt_zero _)⟩ hP
 have hCp:=aCp (M0:=M0) 0 1 [] (by omega) rfl (by simp) (by omega) (by omega)
 unfold sU sT at hVl ⊢
 unfold sT at hCp
 rw[List.map_nil]at *
 refine aX (N:=115) Tryz.func120 ?_
 simp[-E,-J,↓KW]
 refine aC hVl ?_
 simp[-E,-J,↓KW]
 refine lI [.sl []] (λm=>.own m 0 0 1) (mU 1 []) (by simp) (by simp) (by simp) (by rfl) (by rfl) hCp ?_
 simp[-E,-J,↓KW,aIu]
 refine eD 1 ?_
 simp[-E,-J,↓KW,↓aE,dV]
def cCr[M0:Mch Aa](p n:Nat)(A:List (List Int))(hn:n<=4)(hp:PrN p)(hp1:p<2147483648)(hA:A.length=n)(hr:∀v∈A,v.length=n)(hP:Spec Aa 52 [.i .u64 p] (.b true)) :
  Spec Aa 120 [sU p n (fC p A)] (.tp [.i .u64 (kG n A%(p:Int)),.i .i64 0]):=by
 rcases Nat.eq_zero_or_pos n with h|h
 ·subst h
  have e:A=[]:=List.length_eq_zero_iff.1 hA
  subst e
  have hp2:=hp.1
  have:kG 0 []%(p:Int)=1:=by
   have:kG 0 []=1:=by decide
   rw[this];exact Int.emod_eq_of_lt (by omega) (by omega)
  rw[this]
  exact bZi p hp hP
 ·exact bZh p n A hn h hp hp1 hA hr hP
def cAp[M0:Mch Aa](p n:Nat)(A:List (List Int))(hn:n<=4)(hp:PrN p)(hp1:p<2147483648)(hA:A.length=n)(hr:∀v∈A,v.length=n)(hB:∀v∈A,∀z∈v,Sz z)(hP:Spec Aa 52 [.i .u64 p] (.b true)) :
  Spec Aa 74 [jF n A,.i .u64 p] (.tp [.ag [.i .u64 p,.i .u64 (kG n A%(p:Int))],.i .i64 0]):=by
 have hp2:=hp.1
 have hRd:=bGw (M0:=M0) p n A (by omega) (by omega) (by omega) hA hr hB hP
 have hDt:=cCr (M0:=M0) p n A hn hp hp1 hA hr hP
 unfold jF at hRd ⊢
 unfold sU at hRd hDt
 generalize(A.map λv=>[dW v])=L at *
 generalize sT (fC p A)=U at *
 generalize kG n A%(p:Int)=d at *
 refine aX (N:=32) Tryz.func74 ?_
 simp[-E,-J,↓KW]
 refine aC hP ?_
 simp[-E,-J,↓KW]
 refine aC hRd ?_
 simp[-E,-J,↓KW]
 refine aC hDt ?_
 simp[-E,-J,↓KW,dV]
def aSa(A:List (List Int)):pN (.sl (A.map λv=>[dW v])):=oI λcs hcs c hc=>by
 obtain⟨v,_,rfl⟩:=AM.1 hcs;rw[BQ.1 hc];refine oI λcs hcs c hc=>?_
 obtain⟨z,_,rfl⟩:=AM.1 hcs;rcases Bn.1 hc with rfl|hc
 ·exact bIx _
 ·rw[BQ.1 hc];refine oI λcs hcs c hc=>?_
  obtain⟨x,_,rfl⟩:=AM.1 hcs;rw[BQ.1 hc];exact xC _ _
def bCc(n:Nat)(A:List (List Int))(ps:List Nat)(hn:n<=4)(hA:A.length=n)(hr:∀v∈A,v.length=n)(hB:∀v∈A,∀z∈v,Sz z)(hp:∀p∈ps,p∈P10)(hnd:ps.Nodup) :
  letI:=cE Aa;Spec Aa 27 [jF n A,bU ps] (.tp [eZ (uW (kG n A) ps),.i .i64 0]):=by
 letI:=cE Aa
 have hps:ps.length<=10:=hnd.length_le_of_subset λp h=>hp p h
 have hdf:=aCk (M:=cE Aa) ps (by omega) λp h=>wQ (hp p h)
 rw[B4 hnd]at hdf
 have h:=aKg (rr:=n) (eA:=A.map λv=>[dW v]) (lD:=ps.map λ(p:Nat)=>[.i .u64 (p:Int)]) (n:=ps.length) (Pv:=λk=>(ps.getD k 0:Nat)) (Vv:=λk=>((kG n A%((ps.getD k 0:Nat):Int)).toNat:Nat)) (Ev:=λ_=>0)
  (by simp) (by omega) (aSa A) (λk hk=>by rw[Ag,Ab hk,Ac,Ab hk];rfl)
  (bGy (M:=cE Aa) n A (by omega) hA hr hB) hdf
  (λk hk=>by
   have hm:ps.getD k 0∈P10:=hp _ (by rw[Ac,Ab hk];exact List.getElem_mem hk);have hb:=nV hm;have:=cAp (M0:=kK Aa false) (ps.getD k 0) n A hn (aUn hm) (by omega) hA hr hB (wQ (M:=kK Aa false) hm);have e:=Int.emod_nonneg (kG n A) (b:=((ps.getD k 0:Nat):Int)) (by omega);rw[<-Int.toNat_of_nonneg e]at this;exact this)
 have e:D.sl (aEy (λk=>(ps.getD k 0:Nat)) (λk=>((kG n A%((ps.getD k 0:Nat):Int)).toNat:Nat)) ps.length)=eZ (uW (kG n A) ps):=by unfold aEy eZ uW;rw[List.map_map];rfl
 rw[e]at h
 exact h
def bDh{l m:List Int}(h:l.Perm m):dC l=dC m:=bDi (tB m) ((kV m).trans h.symm)
def bLe{d:Int}{l m:List Rp3}(h:l.Perm m):(blL d l).Perm (blL d m):=(h.filter _).map _
def cDa(R C N tn:Nat)(V:List Int)(At By:List Nat)(hR:R<256)(hN:N<256)(hT:tn<256)(hb:∀x∈V,-128<=x/\x<=127)(hll:V.length<=9223372036854775807)
  (hA:∀x∈At,x<256) (hB:∀x∈By,x<18446744073709551616) (hAl:At.length<=9223372036854775807) (hBl:By.length<=9223372036854775807) (hS:letI:=cE Aa;Spec Aa 8 [] (.b true)) :
  letI:=cE Aa;cBd Aa Tryz.f5 95 [bFj R C V,vJ N At By tn] (.b true):=by
 letI M:=cE Aa
 have hSq:=aYf (M:=M) R C V hR hb hll
 obtain⟨n,hn⟩:∃n,R%5=n:=⟨_,rfl⟩
 have hn4:n<=4:=by omega
 rw[hn]at hSq
 obtain⟨a1,a2,a3⟩:=bXu V n
 generalize sqM V n=A at *
 obtain⟨b,hup,hb16,hHd⟩:=aLn (M:=M) n A hn4 a1 a2 a3
 have hdb:=cAc hn4 a1 a2 hup
 have hV:=bFn (M:=M) n A hn4 a1 a2 a3
 obtain⟨k,hk⟩:∃k,N%4=k:=⟨_,rfl⟩
 have hk3:k<=3:=by omega
 have hPr:=zA (M:=M) b k (Nat.lt_of_le_of_lt hb16 (by decide)) (by omega)
 have hpl:=bNn (b:=b) (k:=k) hb16 (by omega)
 have hpm:∀p∈wpL b k,p∈P10:=λp hp=>bNm hb16 (by omega) hp
 have hpn:=bXb (b:=b) (k:=k) hb16 (by omega)
 have hWk:=bCc n A (wpL b k) hn4 a1 a2 (λv hv z hz=>(szR (z:=z) (by have:=a3 v hv z hz;omega)).1) hpm hpn
 generalize kG n A=d at *
 have hG0:=cAa (d:=d) hpn λp hp=>aUn (hpm p hp)
 have hg0:=cAe (d:=d) hpm
 have hl0:=bIl d (wpL b k)
 rw[hpl]at hl0
 generalize wpL b k=ps at *
 generalize uW d ps=l at *
 have hPp:=aYd (M:=M) l true (by simp only[true_iff];exact⟨hG0.good.ok,hG0.good.nd⟩) (by rw[hl0];split<;>omega) λx hx=>bQt (hg0 x hx)
 have hCo:=aEf (M:=M) l N tn k At By d 0 (by rw[hl0];split<;>omega) (by omega) hA hB hAl hBl hG0 hg0
 have hGc:=aJs (ys:=(At.zip By).take k) hG0
 have hgc:=cAf (ys:=(At.zip By).take k) hg0
 have hlc:=vO l ((At.zip By).take k)
 rw[hl0]at hlc
 have hGk:Gd d k (jQ l ((At.zip By).take k)):=⟨hGc.good,AR hGc.lies (by rw[AZ];omega)⟩
 generalize jQ l ((At.zip By).take k)=c at *
 have hTu:=aPv (M:=M) c tn (by rw[hlc];split<;>omega) (by omega)
 have hpc:=aXc c tn
 have hGt:=bTd hGk hpc
 have hgt:aPd (rY c tn):=λx hx=>hgc x (hpc.mem_iff.1 hx)
 have hlt:=hpc.length_eq
 have hst:=bDh (bLe (d:=d) hpc)
 generalize rY c tn=t at *
 have hlz:¬(l.length=0/\0<k):=by rw[hl0];split<;>omega
 have hcl5:c.length<=7/\2*k<=c.length/\c.length-2*k<=7/\(b=0\/1<=c.length-2*k):=by rw[hlc];split<;>omega
 have hCl:=bAi (M:=M) b k d t hb16 hdb hGt hgt (by omega) (by omega) (by omega) (by omega)
 have hBz:=bFm (M:=M) d c (by omega) (λi=>by have:=bUx d (c.take i);rw[AZ]at this;omega) (by omega) λx hx=>by have:=nV (hgc x hx);omega
 rw[bUw]at hBz
 have hIz:=bQe (M:=M) (dC (blL d c)) (by rw[(kV _).length_eq];have:=aJv d c;omega)
 have hSm:=bFr (M:=M) d d (AR (szR (z:=d) (by omega)).2 (by decide)) (AR (szR (z:=d) (by omega)).2 (by decide))
 rw[B4 rfl]at hSm
 unfold bCs at hCl
 rw[hst]at hCl
 have hbk:((dC (blL d c)).length:Int)<=(k:Int):=by rw[(kV _).length_eq];have:=hGk.lies;omega
 obtain⟨SL,hSL,hSLl⟩:∃S,ezI (dC (blL d c))=.sl S/\S.length=(dC (blL d c)).length:=⟨_,rfl,by simp⟩
 rw[hSL]at hCl hBz hIz
 have hbk':(SL.length:Int)<=(k:Int):=by omega
 have h1:(N:Int).tmod 4=k:=by rw[Int.tmod_eq_emod_of_nonneg (by omega)];omega
 have h2:(N:Int)%4=k:=by omega
 have hw:IntKind.u8.wrap (k:Int)=k:=bBt (by omega)
 have hw2:Ah.wrap (k:Int)=k:=aP
 have hw3:Ah.wrap (tn:Int)=tn:=aP
 obtain⟨Lv,hLv,hLvl⟩:∃L,eZ l=.sl L/\L.length=l.length:=⟨_,rfl,by simp⟩
 obtain⟨Lc,hLc⟩:∃L,eZ c=.sl L:=⟨_,rfl⟩
 obtain⟨Lt,hLt⟩:∃L,eZ t=.sl L:=⟨_,rfl⟩
 obtain⟨U,hU⟩:∃L,bU ps=.sl L:=⟨_,rfl⟩
 obtain⟨VL,hVL⟩:∃L,aVv V=.sl L:=⟨_,rfl⟩
 obtain⟨AL,hAL⟩:∃L,bJm At=.sl L:=⟨_,rfl⟩
 obtain⟨BL,hBL⟩:∃L,bU By=.sl L:=⟨_,rfl⟩
 unfold jF at hSq hHd hV hWk
 unfold bFj at hSq ⊢
 unfold vJ at hCo ⊢
 generalize(A.map λv=>[dW v])=L at *
 rw[hVL]at hSq ⊢
 rw[hAL,hBL]at hCo ⊢
 rw[hU]at hPr hWk
 rw[hLv]at hWk hCo hPp
 rw[hLc]at hCo hTu hBz
 rw[hLt]at hTu hCl
 refine aNf rfl rfl (by kernel_rfl) (by simp) ?_
 refine lB (by kernel_rfl) ?_
 simp[-E,-J,↓KW]
 refine lB (by kernel_rfl) ?_
 simp[-E,-J,↓KW]
 refine aC hS ?_
 simp[-E,-J,↓KW]
 refine aHd (bNu (λLL σ=>SqT 17 18 19 20 21 22 R C N k n tn VL L AL BL LL σ.Γ σ.H σ.n) (by kernel_rfl) (by kernel_rfl) ?_ ?_ ?_)
 ·constructor<;>simp[upd]
  intro id h
  rw[Ai (by omega),Ai (by omega)]
 ·rintro LL i o ho hn hd ⟨Γ,H,nn⟩ hT
  replace hT:SqT 17 18 19 20 21 22 R C N k n tn VL L AL BL LL Γ H nn:=hT
  obtain⟨b2,b3,b5,s0,s1,s2,s3,s4,s5,s8,g1,g2,n0,n1,z3,m3,top,w7⟩:=hT
  rcases i with _|_|_|_|_|_|_|_|_|i
  ·cases ho
   simp[-E,-J,↓KW,b2,g1]
   constructor<;>(try simp[upd,b2,b3,b5,g1,g2])<;>(try assumption)
  ·cases ho
   have q:=s0 (hd 0 (by kernel_rfl))
   simp[-E,-J,↓KW,q]
   refine aC hSq ?_
   simp[-E,-J,↓KW,q]
   constructor<;>(try simp[upd,b2,b3,b5,g1,g2])<;>(try assumption)
  ·cases ho
   simp[-E,-J,↓KW,b3]
   constructor<;>(try simp[upd,b2,b3,b5,g1,g2])<;>(try assumption)
  ·cases ho
   have q:=s2 (hd 2 (by kernel_rfl))
   simp[-E,-J,↓KW,q,g2]
   constructor<;>(try simp[upd,b2,b3,b5,g1,g2])<;>(try assumption)
  ·cases ho
   have q:=s3 (hd 3 (by kernel_rfl))
   simp[-E,-J,↓KW,q,h1,h2,hw]
   constructor<;>(try simp[upd,b2,b3,b5,g1,g2])<;>(try assumption)
  ·cases ho
   have q:=s4 (hd 4 (by kernel_rfl))
   simp[-E,-J,↓KW,q,hw2]
   constructor<;>(try simp[upd,b2,b3,b5,g1,g2])<;>(try assumption)
  ·cases ho
   have q:=n0 hn
   have q7:¬LL 7:=λh=>hn (w7 h)
   subst q
   simp[-E,-J,↓KW]
   constructor<;>(try simp[upd,b2,q7,b3,b5,g1,g2])<;>(try assumption)
   all_goals first|exact hd 6 (by kernel_rfl)|exact λid h=>by rw[Ai (by omega)];exact top id (by omega)
  ·cases ho
   obtain⟨e,q6⟩:=n1 (hd 6 (by kernel_rfl))
   have e3:=z3 (hd 6 (by kernel_rfl)) hn
   have q:=s1 (hd 1 (by kernel_rfl))
   subst e
   simp[-E,-J,↓KW,q,q6,e3]
   constructor<;>(try simp[upd,b2,q6,b3,b5,g1,g2])<;>(try assumption)
   all_goals first|exact hd 6 (by kernel_rfl)|exact λid h=>by rw[Ai (by omega)];exact top id (by omega)
  ·cases ho
   have q:=s5 (hd 5 (by kernel_rfl))
   simp[-E,-J,↓KW,q]
   constructor<;>(try simp[upd,b2,b3,b5,g1,g2])<;>(try assumption)
  ·cases ho
 ·rintro LL ⟨Γ,H,nn⟩ hL hT
  replace hT:SqT 17 18 19 20 21 22 R C N k n tn VL L AL BL LL Γ H nn:=hT
  obtain⟨b2,b3,b5,s0,s1,s2,s3,s4,s5,s8,g1,g2,n0,n1,z3,m3,top,w7⟩:=hT
  have q8:=s8 (hL 8 (by decide))
  obtain⟨e,q6⟩:=n1 (hL 6 (by decide))
  have q3:=m3 (hL 7 (by decide))
  subst e
  refine bCl (σ2:=StL [(2,.ptr 1 0),(3,.ptr 2 0),(5,.d (.b true)),(6,.ptr 3 0),(7,.d (.i .i64 k))] none [.cells 55 [.d (.i .u8 R),.d (.i .u8 C),.d (.sl VL)],.cells 58 [.d (.i .u8 N),.d (.sl AL),.d (.sl BL),.d (.i .u8 tn)],.cells 61 [.d (.i .i64 n),.d (.i .i64 n),.d (.sl L)]]) ?_ ?_
  ·refine wkQ [1,2,3] ?_ ?_<;>simp[-E,upd,aL,Γ0,b2,b3,b5,q6,q8,g1,g2,q3]
  ·refine yZ (by kernel_rfl) ?_
   simp[-E,-J,↓KW]
   refine aC hHd ?_
   simp[-E,-J,↓KW,aN b,aH]
   refine aC hPr ?_
   simp[-E,-J,↓KW]
   refine aC hWk ?_
   simp[-E,-J,↓KW]
   refine aC hPp ?_
   have hlz1:¬(Lv.length=0/\0<k):=by rw[hLvl];exact hlz
   simp[-E,-J,↓KW]
   by_cases hz0:Lv.length=0
   case' pos =>
    have hk0:¬(0:Int)<(k:Int):=by omega
    have hq:((Lv.length:Int)==0)=true:=by rw[beq_iff_eq];omega
    rw[hq]
    have hk1:¬0<k:=by omega
    simp[-E,-J,↓KW,hk0,hk1]
   case' neg =>
    have hq:((Lv.length:Int)==0)=false:=by rw[beq_eq_false_iff_ne];omega
    rw[hq]
   all_goals
    try simp[-E,-J,↓KW]
    refine aC hCo ?_
    simp[-E,-J,↓KW,hw3]
    refine aC hTu ?_
    simp[-E,-J,↓KW,aH]
    refine aC hCl ?_
    simp[-E,-J,↓KW,aH]
    refine aC hV ?_
    simp[-E,-J,↓KW,bB d,aH]
    refine aC hBz ?_
    simp[-E,-J,↓KW,aH]
    refine aC hV ?_
    simp[-E,-J,↓KW,bB d,aH]
    refine aC hSm ?_
    simp[-E,-J,↓KW,aH]
    refine aC hIz ?_
    simp[-E,-J,↓KW,hbk']
def iv(n:Int):D:=.ag [.b false,.sl [[.i .u32 n]]]
def iv0:D:=.ag [.b false,.sl []]
def rp(w p v:Int):List D:=[.i .i64 w,.i .u64 p,.i .u64 v]
def rl4:List (List D):=[rp 0 7 5,rp 1 11 5,rp 2 13 5,rp 3 17 0]
def rl3:List (List D):=[rp 0 7 5,rp 1 11 5,rp 2 13 5]
def rl2:List (List D):=[rp 0 7 5,rp 1 11 5]
def m12:D:=.ag [.i .i64 1,.i .i64 2,.sl [[.sl [[.b false,.sl []],[.b false,.sl []]]]]]
def m00:D:=.ag [.i .i64 0,.i .i64 0,.sl []]
def vd(v:Int)(l:List Int):D:=.ag [.b false,.sl [[.i .u32 v]],.sl (l.map λx=>[.i .i64 x])]
def vd0:D:=.ag [.b false,.sl [],.sl []]
section
variable [M:Mch Aa]
def kC1:Spec Aa 10 [iv 10,.sl rl4,.i .i64 1] (.tp [vd 5 [3],.i .i64 0]):=fK (by kernel_rfl)
def kC2:Spec Aa 10 [iv 10,.sl rl3,.i .i64 1] (.tp [vd0,.i .i64 200]):=fK (by kernel_rfl)
def kC3:Spec Aa 10 [iv 10,.sl rl2,.i .i64 0] (.tp [vd 5 [],.i .i64 0]):=fK (by kernel_rfl)
def kC4:Spec Aa 10 [iv 3,.sl [rp 0 7 1,rp 1 11 2],.i .i64 0] (.tp [vd0,.i .i64 201]):=fK (by kernel_rfl)
def kC5:Spec Aa 10 [iv 10,.sl rl4,.i .i64 (-1)] (.tp [vd0,.i .i64 1]):=fK (by kernel_rfl)
def kC6:Spec Aa 10 [iv 10,.sl [rp 0 8 1],.i .i64 0] (.tp [vd0,.i .i64 40]):=fK (by kernel_rfl)
def kBl:Spec Aa 16 [iv 5,.sl rl4] (.sl [[.i .i64 3]]):=fK (by kernel_rfl)
def kRe(w p v:Int)(h:(kJ Aa EP 100 20).call 36 [.i .i64 w,.i .u64 p,.i .u64 v]=some (.ag (rp w p v)):=by kernel_rfl):Spec Aa 36 [.i .i64 w,.i .u64 p,.i .u64 v] (.ag (rp w p v)):=fK h
def kOf(n:Int)(h:(kJ Aa EP 100 20).call 11 [.i .i64 n]=some (iv n):=by kernel_rfl):Spec Aa 11 [.i .i64 n] (iv n):=fK h
def cDc:Spec Aa 11 [.i .i64 0] iv0:=fK (by kernel_rfl)
def kW2:Spec Aa 27 [m12,.sl []] (.tp [.sl [],.i .i64 50]):=fK (by kernel_rfl)
def kW3:Spec Aa 27 [m00,.sl [[.i .u64 5],[.i .u64 5]]] (.tp [.sl [],.i .i64 40]):=fK (by kernel_rfl)
def kNu(a b:List Nat)(h:(kJ Aa EP 100 20).call 20 [bU a,bU b]=some (.b true):=by kernel_rfl):Spec Aa 20 [bU a,bU b] (.b true):=fK h
def kSa(v:Int)(l:List Int)(h:(kJ Aa EP 100 20).call 13 [vd v l,vd v l]=some (.b true):=by kernel_rfl):Spec Aa 13 [vd v l,vd v l] (.b true):=fK h
def kSR:Spec Aa 39 [.sl [rp 0 5 4,rp 1 3 2],.sl [rp 0 5 4,rp 1 3 2]] (.b true):=fK (by kernel_rfl)
def kIn:Spec Aa 15 [.sl [[.i .i64 3]],.sl [[.i .i64 3]]] (.b true):=fK (by kernel_rfl)
def kVa:Spec Aa 69 [mA] (.b true):=fK (by kernel_rfl)
def kDi:Spec Aa 70 [.sl [[.i .u64 5],[.i .u64 3]]] (.b true):=fK (by kernel_rfl)
def kR5:Spec Aa 74 [mA,.i .u64 5] (.tp [.ag [.i .u64 5,.i .u64 4],.i .i64 0]):=fK (by kernel_rfl)
def kR3:Spec Aa 74 [mA,.i .u64 3] (.tp [.ag [.i .u64 3,.i .u64 2],.i .i64 0]):=fK (by kernel_rfl)
def bHv:bK 0=iv0:=by rw[<-cX];exact bAc
def bZr:bK 1=iv 1:=by rw[<-cX];exact aCh (by decide) (by decide)
def kP1:Spec Aa 19 [iv0,.i .i64 1] (bU [2147483647,2147483629]):=by have h:=zA 0 1 (by decide) (by decide);rwa [bHv,show wpL 0 1=[2147483647,2147483629]from by decide]at h
def kP2:Spec Aa 19 [iv 1,.i .i64 0] (bU [2147483647]):=by have h:=zA 1 0 (by decide) (by decide);rwa [bZr,show wpL 1 0=[2147483647]from by decide]at h
def kP3:Spec Aa 19 [iv0,.i .i64 0] (bU []):=by have h:=zA 0 0 (by decide) (by decide);rwa [bHv,show wpL 0 0=[]from by decide]at h
end
def kW1:letI:=cE Aa;Spec Aa 27 [mA,.sl [[.i .u64 5],[.i .u64 3]]] (.tp [.sl [rp 0 5 4,rp 1 3 2],.i .i64 0]):=by
 refine aKg (rr:=1) (eA:=[[.sl [[.b true,.sl [[.i .u32 1]]]]]]) (lD:=[[.i .u64 5],[.i .u64 3]]) (n:=2) (Pv:=λk=>if k=0 then 5 else 3) (Vv:=λk=>if k=0 then 4 else 2) (Ev:=λ_=>0) rfl (by decide) ?_ ?_ ?_ ?_ ?_
 ·refine oI λcs h c hc=>?_
  simp only[BQ]at h;subst h;simp only[BQ]at hc;subst hc;refine oI λcs h c hc=>?_
  simp only[BQ]at h;subst h;simp only[Bn,List.not_mem_nil,or_false]at hc;rcases hc with rfl|rfl
  ·exact bIx _
  ·refine oI λcs h c hc=>?_
   simp only[BQ]at h;subst h;simp only[BQ]at hc;subst hc;exact xC _ _
 ·intro k hk;have:k=0\/k=1:=by omega
  rcases this with rfl|rfl<;>rfl
 ·letI:=cE Aa
  exact kVa
 ·letI:=cE Aa
  exact kDi
 ·intro k hk
  letI:=kK Aa false
  have:k=0\/k=1:=by omega
  rcases this with rfl|rfl
  ·exact kR5
  ·exact kR3
def sA:St:=StL [(1,.d (.sl rl4)),(2,.ptr 1 0)] none [.cells 31 [.d (.b false),.d (.sl [[.i .u32 10]])]]
def vA:HO:=.cells 34 [.d (.b false),.d (.sl [[.i .u32 5]]),.d (.sl [[.i .i64 3]])]
def vB:HO:=.cells 34 [.d (.b false),.d (.sl [[.i .u32 5]]),.d (.sl [])]
def sB:St:=StL [(1,.d (.sl rl4)),(2,.ptr 1 0),(3,.ptr 2 0),(4,.d (.i .i64 0)),(6,.d (.i .i64 200)),(7,.ptr 3 0),(8,.d (.i .i64 0))] none [.cells 31 [.d (.b false),.d (.sl [[.i .u32 10]])],vA,vB]
def lC:List (Nat×AV):=[(1,.d (.sl rl4)),(3,.ptr 1 0),(4,.d (.i .i64 0)),(6,.d (.i .i64 200)),(7,.ptr 2 0),(8,.d (.i .i64 0)),(10,.d (.i .i64 201)),(12,.d (.i .i64 1)),(14,.d (.i .i64 40))]
def sC:St:=StL lC none [vA,vB]
def lD2:List (Nat×AV):=lC++[(15,.d (.sl [rp 0 5 4,rp 1 3 2])),(16,.d (.i .i64 0))]
def sD:St:=StL lD2 none [vA,vB]
def lE:List (Nat×AV):=lD2++[(18,.d (.i .i64 50)),(20,.d (.i .i64 40))]
def sE:St:=StL lE none [vA,vB]
def sF:St:=StL (lE++[(21,.d (.b true))]) none [vA,vB]
def sG:St:=StL [(1,.d (.sl rl4)),(15,.d (.sl [rp 0 5 4,rp 1 3 2])),(16,.d (.i .i64 0)),(18,.d (.i .i64 50)),(20,.d (.i .i64 40)),(21,.d (.b true)),(22,.d (.b true))] none []
def sH:St:=StL [(1,.d (.sl rl4)),(21,.d (.b true)),(22,.d (.b true)),(23,.d (.b true))] none []
def kX1[M:Mch Aa]:Spec Aa 36 [.i .i64 0,.i .u64 7,.i .u64 5] (.ag (rp 0 7 5)):=kRe 0 7 5
def kX2[M:Mch Aa]:Spec Aa 36 [.i .i64 1,.i .u64 11,.i .u64 5] (.ag (rp 1 11 5)):=kRe 1 11 5
def kX3[M:Mch Aa]:Spec Aa 36 [.i .i64 2,.i .u64 13,.i .u64 5] (.ag (rp 2 13 5)):=kRe 2 13 5
def kX4[M:Mch Aa]:Spec Aa 36 [.i .i64 3,.i .u64 17,.i .u64 0] (.ag (rp 3 17 0)):=kRe 3 17 0
def kX5[M:Mch Aa]:Spec Aa 11 [.i .i64 10] (iv 10):=kOf 10
def kX6[M:Mch Aa]:Spec Aa 11 [.i .i64 3] (iv 3):=kOf 3
def kX7[M:Mch Aa]:Spec Aa 36 [.i .i64 0,.i .u64 7,.i .u64 1] (.ag (rp 0 7 1)):=kRe 0 7 1
def kX8[M:Mch Aa]:Spec Aa 36 [.i .i64 1,.i .u64 11,.i .u64 2] (.ag (rp 1 11 2)):=kRe 1 11 2
def kX9[M:Mch Aa]:Spec Aa 36 [.i .i64 0,.i .u64 8,.i .u64 1] (.ag (rp 0 8 1)):=kRe 0 8 1
def cEz[M:Mch Aa]:Spec Aa 20 [bU [2147483647,2147483629],bU [2147483647,2147483629]] (.b true):=kNu [2147483647,2147483629] [2147483647,2147483629]
def cEy[M:Mch Aa]:Spec Aa 11 [.i .i64 1] (iv 1):=kOf 1
def cEx[M:Mch Aa]:Spec Aa 20 [bU [2147483647],bU [2147483647]] (.b true):=kNu [2147483647] [2147483647]
def bZq[M:Mch Aa]:Spec Aa 11 [.i .i64 5] (iv 5):=kOf 5
def cEw[M:Mch Aa]:Spec Aa 13 [vd 5 [3],vd 5 [3]] (.b true):=kSa 5 [3]
def cEv[M:Mch Aa]:Spec Aa 13 [vd 5 [],vd 5 []] (.b true):=kSa 5 []
def cDb[M:Mch Aa]:Spec Aa 13 [.ag [.b false,.sl [[.i .u32 5]],.sl []],.ag [.b false,.sl [[.i .u32 5]],.sl []]] (.b true):=cEv
def cEu[M:Mch Aa]:Spec Aa 36 [.i .i64 0,.i .u64 5,.i .u64 4] (.ag (rp 0 5 4)):=kRe 0 5 4
def cEt[M:Mch Aa]:Spec Aa 36 [.i .i64 1,.i .u64 3,.i .u64 2] (.ag (rp 1 3 2)):=kRe 1 3 2
def bQu{P:Program}[M:Mch P](ts:List Nat){ops:Array Oper}{l:List Oper}{σ:St}{con:List Nat}{kk:St->List Nat->Prop}{d:Dm (ops,l,kk)}
  (hc:con=[]) (h:∀Γ' H' n',(∀t∈ts,Γ' t=σ.Γ t)->OWd P ops l ⟨Γ',H',n'⟩ [] kk .mk):OWd P ops l σ con kk d:=by
 rw[hc];exact h σ.Γ σ.H σ.n λ_ _=>rfl
def bEp:letI:=cE Aa;Spec Aa 8 [] (.b true):=by
 letI:=cE Aa
 have w1:=kW1;have hN1:sW Aa 38 [.i .i64 1,.i .i64 2] (nwV 1 2) (mB 2 [[0,0]]):=aIb 1 2 (by decide) (by decide);have hmB1:∀n,mB 2 [[0,0]] n=[.cells 110 [.own (n+1) 0 2 2],.cells 31 [.d (.b (decide ((0:Int)<0))),.d (aB (aJ (0:Int).natAbs)),.d (.b (decide ((0:Int)<0))),.d (aB (aJ (0:Int).natAbs))]]:=λn=>by simp[mB,hdr,aLh,vcs,vI]
 have hN0:sW Aa 38 [.i .i64 0,.i .i64 0] (nwV 0 0) (mB 0 []):=aIb 0 0 (by decide) (by decide);have hmB0:∀n,mB 0 [] n=[.cells 110 []]:=λn=>rfl
 have hd0:aB (aJ 0)=.sl []:=by rw[bZ];rfl
 obtain⟨m12',hm12⟩:∃m,m=D.ag [.i .i64 1,.i .i64 2,.sl [[.sl [[.b false,aB (aJ 0)],[.b false,aB (aJ 0)]]]]]:=⟨_,rfl⟩;have hk2:Spec Aa 27 [m12',.sl []] (.tp [.sl [],.i .i64 50]):=by rw[hm12,hd0];exact kW2
 subst hm12;have fl2:∀l:List (List D),xY (.sl l)=false:=λ_=>rfl
 have fl:∀l m:List (List D),xY (.ag [.b false,.sl l,.sl m])=false:=λ_ _=>rfl
 refine bDt (N:=171) [true,true,true,false,true,true,true,false,true,true,true,false,true,false,true,true,false,true,false,true,false,true,false] aR Tryz.func8 rfl rfl rfl (by kernel_rfl) (by kernel_rfl) (by simp) ?_;simp[-E,-J,↓KW,↓bC,↓aW,↓bH];refine aC kX1 ?_;simp[-E,-J,↓KW,rp,↓bC,↓aW,↓bH];refine aC kX2 ?_;simp[-E,-J,↓KW,rp,↓bC,↓aW,↓bH];refine aC kX3 ?_;simp[-E,-J,↓KW,rp,↓bC,↓aW,↓bH];refine aC kX4 ?_;simp[-E,-J,↓KW,rp,↓bC,↓aW,↓bH];refine aC kX5 ?_;simp[-E,-J,↓KW,iv,↓bC,↓aW,↓bH];refine iL sA ?_ ?_
 ·unfold sA;refine wkQ [2] ?_ ?_
  ·simp[-E,upd,aL,Γ0,rl4,rp];refine aTz (by rfl) (λa ha id hid=>?_);have ha':a=1:=by simpa[-E,-J,upd]using ha
   rw[ha'];exact aUf hid (by simp) (by decide)
  ·simp[-E,upd,aL,Γ0]
 simp[-E,-J,↓KW,sA,rl4,rp,↓bC,↓aW,↓bH];refine aC kC1 ?_;simp[-E,-J,↓KW,iv,vd,fl,↓bC,↓aW,↓bH];refine aC kC2 ?_;simp[-E,-J,↓KW,iv,vd0,fl,↓bC,↓aW,↓bH];refine aC kC3 ?_;simp[-E,-J,↓KW,iv,vd,fl,↓bC,↓aW,↓bH];refine iL sB ?_ ?_
 ·unfold sB vA vB;refine wkQ [1,2,4] ?_ ?_<;>simp[-E,upd,aL,Γ0,rl4,rp]
 simp[-E,-J,↓KW,sB,vA,vB,rl4,rp,↓bC,↓aW,↓bH];refine aC kX6 ?_;simp[-E,-J,↓KW,iv,↓bC,↓aW,↓bH];refine aC kX7 ?_;simp[-E,-J,↓KW,rp,↓bC,↓aW,↓bH];refine aC kX8 ?_;simp[-E,-J,↓KW,rp,↓bC,↓aW,↓bH];refine aC kC4 ?_;simp[-E,-J,↓KW,iv,vd0,fl,↓bC,↓aW,↓bH];refine aC kC5 ?_;simp[-E,-J,↓KW,iv,vd0,fl,↓bC,↓aW,↓bH];refine aC kX9 ?_;simp[-E,-J,↓KW,rp,↓bC,↓aW,↓bH];refine aC kC6 ?_;simp[-E,-J,↓KW,iv,vd0,fl,↓bC,↓aW,↓bH];refine iL sC ?_ ?_
 ·unfold sC lC vA vB;refine wkQ [2,3] ?_ ?_<;>simp[-E,upd,aL,Γ0,rl4,rp]
 simp[-E,-J,↓KW,sC,lC,vA,vB,rl4,rp,↓bC,↓aW,↓bH];refine aC cDd ?_;simp[-E,-J,↓KW,mA,↓bC,↓aW,↓bH];refine aC w1 ?_;simp[-E,-J,↓KW,rp,fl2,↓bC,↓aW,↓bH];refine iL sD ?_ ?_
 ·unfold sD lD2 lC vA vB;refine wkQ [1,2] ?_ ?_<;>simp[-E,upd,aL,Γ0,rl4,rp]
 simp[-E,-J,↓KW,sD,lD2,lC,vA,vB,rl4,rp,↓bC,↓aW,↓bH];refine lI [.i .i64 1,.i .i64 2] (nwV 1 2) (mB 2 [[0,0]]) (by simp) (by simp) (by simp) (by rfl) (by rfl) hN1 ?_;simp[-E,-J,↓KW,nwV,hmB1,aJg,↓bC,↓aW,↓bH];refine aC hk2 ?_;simp[-E,-J,↓KW,fl2,nwV,hmB1,aJg,bNz,kill,↓bC,↓aW,↓bH];refine lI [.i .i64 0,.i .i64 0] (nwV 0 0) (mB 0 []) (by simp) (by simp) (by simp) (by rfl) (by rfl) hN0 ?_;simp[-E,-J,↓KW,nwV,hmB0,vE,↓bC,↓aW,↓bH];refine aC kW3 ?_;simp[-E,-J,↓KW,fl2,nwV,hmB0,vE,bNz,kill,↓bC,↓aW,↓bH];refine iL sE ?_ ?_
 ·unfold sE lE lD2 lC vA vB;refine wkQ [1,2] ?_ ?_<;>simp[-E,upd,aL,Γ0,rl4,rp]
 simp[-E,-J,↓KW,sE,lE,lD2,lC,vA,vB,rl4,rp,↓bC,↓aW,↓bH];refine aC cDc ?_;simp[-E,-J,↓KW,iv0,↓bC,↓aW,↓bH];refine aC kP1 ?_;simp[-E,-J,↓KW,bU,fl2,↓bC,↓aW,↓bH];refine aC cEz ?_;simp[-E,-J,↓KW,↓bC,↓aW,↓bH];refine aC cEy ?_;simp[-E,-J,↓KW,iv,↓bC,↓aW,↓bH];refine aC kP2 ?_;simp[-E,-J,↓KW,bU,fl2,↓bC,↓aW,↓bH];refine aC cEx ?_;simp[-E,-J,↓KW,↓bC,↓aW,↓bH];refine aC cDc ?_;simp[-E,-J,↓KW,iv0,↓bC,↓aW,↓bH];refine aC kP3 ?_;simp[-E,-J,↓KW,bU,fl2,↓bC,↓aW,↓bH];refine iL sF ?_ ?_
 ·unfold sF lE lD2 lC vA vB;refine wkQ [1,2] ?_ ?_<;>simp[-E,upd,aL,Γ0,rl4,rp]
 simp[-E,-J,↓KW,sF,lE,lD2,lC,vA,vB,rl4,rp,↓bC,↓aW,↓bH];refine aC bZq ?_;simp[-E,-J,↓KW,iv,↓bC,↓aW,↓bH];refine aC cEw ?_;simp[-E,-J,↓KW,↓bC,↓aW,↓bH];refine aC bZq ?_;simp[-E,-J,↓KW,iv,↓bC,↓aW,↓bH];refine aC cDb ?_;refine bQu [1,10,12,14,15,16,18,20,21,122,126] (by rfl) ?_;intro Γ' H' n' hΓ;have g1:Γ' 1=.d (.sl rl4):=(hΓ 1 (by decide)).trans (by rfl);have g2:Γ' 10=.d (.i .i64 201):=(hΓ 10 (by decide)).trans (by rfl);have g3:Γ' 12=.d (.i .i64 1):=(hΓ 12 (by decide)).trans (by rfl);have g4:Γ' 14=.d (.i .i64 40):=(hΓ 14 (by decide)).trans (by rfl);have g5:Γ' 15=.d (.sl [rp 0 5 4,rp 1 3 2]):=(hΓ 15 (by decide)).trans (by rfl);have g6:Γ' 16=.d (.i .i64 0):=(hΓ 16 (by decide)).trans (by rfl);have g7:Γ' 18=.d (.i .i64 50):=(hΓ 18 (by decide)).trans (by rfl);have g8:Γ' 20=.d (.i .i64 40):=(hΓ 20 (by decide)).trans (by rfl);have g9:Γ' 21=.d (.b true):=(hΓ 21 (by decide)).trans (by rfl);have g10:Γ' 122=.d (.b true):=(hΓ 122 (by decide)).trans (by rfl);have g11:Γ' 126=.d (.b true):=(hΓ 126 (by decide)).trans (by rfl);clear hΓ;simp[-E,-J,↓KW,g1,g2,g3,g4,g5,g6,g7,g8,g9,g10,g11,↓bC,↓aW,↓bH];refine iL sG ?_ ?_
 ·unfold sG;refine wkQ [] ?_ ?_<;>simp[-E,upd,aL,Γ0,g1,g5,g6,g7,g8,g9,rl4,rp]
 simp[-E,-J,↓KW,sG,rl4,rp,↓bC,↓aW,↓bH];refine aC cEu ?_;simp[-E,-J,↓KW,rp,↓bC,↓aW,↓bH];refine aC cEt ?_;simp[-E,-J,↓KW,rp,↓bC,↓aW,↓bH];refine aC kSR ?_;simp[-E,-J,↓KW,↓bC,↓aW,↓bH];refine iL sH ?_ ?_
 ·unfold sH;refine wkQ [] ?_ ?_<;>simp[-E,upd,aL,Γ0,rl4,rp]
 simp[-E,-J,↓KW,sH,rl4,rp,↓bC,↓aW,↓bH];refine aC bZq ?_;simp[-E,-J,↓KW,iv];refine aC kBl ?_;simp[-E,-J,↓KW];refine aC kIn ?_;simp[-E,-J,↓KW]
end Go.Am
end
