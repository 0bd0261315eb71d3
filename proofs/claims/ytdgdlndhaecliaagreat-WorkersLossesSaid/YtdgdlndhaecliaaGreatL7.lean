/- The law WorkersPrimes answers true, given its check's contract. No condition. -/
import Derived.Test.YtdgdlndhaecliaaGreatL6
import Derived.Test.YtdgdlndhaecliaaGreatL4
import Derived.Test.YtdgdlndhaecliaaGreatProg
import Derived.Conc.WgGenDone
import Derived.Test.YtdgdlndhaecliaaGreatL5
open Array renaming ext_getElem?→FU,getD_eq_getD_getElem?→Av,getElem?_append_left→B1,getElem?_eq_getElem→Ak,getElem?_eq_none→C7,getElem?_eq_some_iff→AQ,getElem?_map→BN,getElem?_push→Bu,getElem?_setIfInBounds_ne→AF,mem_of_getElem?→BQ,replicate→AX
open Bool renaming false_eq_true→Ad
open Classical renaming byContradiction→ES
open Go.Act renaming eval→C5,put→CQ
open Go.ConcN renaming Mode→D9,bk_rw→Gi,cnt→B9,upd→Bb,upd_ne→Bf,upd_same→A5
open Go.ConcR renaming g_of_ofEvents→Es
open Go.Frame renaming enter→CP
open Go.GStep renaming after→Cp
open Go.Instr renaming indexAt→EX
open Go.IntKind renaming u32→BC,u64→Az,wrap_u64→Ej
open Go.MemAct renaming touch?→Bx
open Go.MemOp renaming ofEvents→BK
open Go.Proofs.Tryz renaming f27→Da,prog→Aa,zeroValue119→Gj
open Go.Region renaming wanted→Bs
open Go.Sem renaming bind→Ec,runT→Eu,runT_eq→C3
open Go.Trace renaming g?→FY
open Go.Value renaming cells→DY,oneCell'→Cs
open Go.World renaming cell?→Bw,frozen?→C6,setCell→EW
open List renaming forall_mem_cons→EJ,getElem?_eq_some_iff→Aq,getElem?_range→BF,length_cons→Ah,length_nil→As,mem_of_getElem?→Ao,mem_singleton→Cb,range→AK,range'→De,size_toArray→Ap
open List.range renaming loop→AG
open Nat renaming le_refl→AE,le_trans→AO,lt_of_lt_of_le→A3,lt_or_ge→AY,lt_trans→FM,reduceAdd→AN,zero_add→AB
open Ne renaming symm→Ea
open Option renaming getD_some→AU,map_eq_some_iff→Ae,map_some→AW
open Option.some renaming inj→Bj,injEq→Au
open Prod.Lex renaming left→EY
open _root_ renaming decide_eq_false→Bn,decide_eq_true→BU,if_false→Ay,if_neg→Aj,if_true→AI
set_option linter.unusedSectionVars false
set_option linter.unusedVariables false
set_option linter.unusedSimpArgs false
section
open List renaming map_map→ζ,mapM_map→ξ
namespace Go.Am
open Go.Conc Go.Conc.Lib
open Go.ConcN (CT Apart Ok0 OkW PermW RelBy CTag phi WD Vc Ssum sumTo sumTo_upd sumTo_upd_out OpenSt AllQuit isOpen isW3 isFin pend phi_mono phi_retag le_sumTo Vc_le Vc_upd others_uncounted bk_cell allQuit_of)
open Go.ConcR (KK wgBlock stA smA rd wr mk Bk bk_of_mute ofEvent_loc_mark ofEvent_cell ofEvent_mk)
section
variable {P:Program} {L:WgLink} {Wg:Nat} {p:Pl} {K An:Goroutine→Prop} {S:Nat→Prop} {w0:World} {m j:Nat} {gs:Array Goroutine} {w w':World} {sl:Option (Nat×Nat)} {t:Trace} {D:Nat→WD} {R:Nat→Tr} {V V':Nat→World} {tag tag':CTag} {d0:Nat} {a a':Goroutine} {st sm st' sm':Int} {es:Array Event} {r':Tr}
theorem bkS{es:Array Event}(h:∀ e∈es,Bk Wg e):∀ e∈es,Bk Wg e∨dO Wg e:=fun e he=>.inl (h e he)
set_option maxHeartbeats 1600000 in
theorem aMz(hKr:∀ g,K g→g.status=.running)(hAn:∀ g,An g→Dl P true (cU L.tWg Wg) (dO Wg) (fun d g=>d=1∧xG P L Wg K An d g) 1 g)(G:Geo Wg p S)(hn:p.n<2147483648)
  (ha:gs[0]? = some a) (hcs:CS P L Wg p K An tag j (R 0) d0 a (V 0)) (hcom:Com P L Wg p S w0 m j gs w t D R V d0) (hwg:w.heap[Wg]? = some (wgBlock L.tWg st sm)) (hmode:D9 j D tag st sm)
  (hacq:tag=.ret→uN Wg m j t) (hrun:a.status=.running) (hstop:¬(tag=.ret∧d0=0∧K a)) :
  ∃ M ops μ',runT P (crowd gs w sl) 0=(.next M,ops)∧MLt μ' (phi p.n (Vc j D) tag+Ssum j D,jC R (m+j),R 0)∧Inv P L Wg p K An S w0 m μ' M (t++ops):=by
 have hVj:=Vc_le j D
 have hb:=hcs.bound
 have hI:cU L.tWg Wg w:=⟨st,sm,hwg⟩
 have hsim0:=hcom.vws.sim 0 (.inl rfl)
 have hok0:=hcom.vws.ok 0 (.inl rfl)
 -- an idle step of a chain
 have idle:∀{g':Goroutine} {es:Array Event} {r':Tr},tag≠.ret→stepG P true a w=.go g' w es→(∀ e∈es,Event.mute e=true∨dO Wg e)→(∀ v,CS P L Wg p K An tag j r' (deafBehind d0 es) g' v)→sL r' (R 0) →
   ∃ M ops μ',runT P (crowd gs w sl) 0=(.next M,ops)∧MLt μ' (phi p.n (Vc j D) tag+Ssum j D,jC R (m+j),R 0)∧Inv P L Wg p K An S w0 m μ' M (t++ops) :=
  fun hne hgo hmu hcs' hlt=>rK G ha hcom hgo (.refl Wg w) hwg (fun e he=>(hmu e he).imp bk_of_mute id) (fun v _=>hcs' v) hmode (fun e=>absurd e hne) (.inr ⟨rfl,hlt⟩)
 generalize hR:R 0=r at hcs
 cases hcs with
 | a1 hr h =>
  rename_i r1
  cases htr:r with
  | node f =>
   rw[htr]at h
   obtain⟨_,hv,hs⟩:=h
   obtain⟨g',v',w',es,hgo,hq,hgt⟩:=hs (V 0) w (.refl _) hsim0 hI
   have:=aYz (sl:=sl) G ha hcom hwg hmode (by simp) hgo hq (.a1 hr hgt) (by rw[hR,htr];exact qG f _)
   rwa [hR,htr]at this
  | leaf =>
   rw[htr]at h
   obtain⟨hd,_,hall⟩:=h
   obtain⟨ho,rfl,rfl,_⟩:=hmode.open_inv trivial
   have hwg0:w.heap[Wg]? = some (wgBlock L.tWg ((Vc (p.n-(r1+1)) D:Nat)*KK:Int) 0):=by simpa[pend]using hwg
   obtain⟨g',hgo,hdl⟩:=hall w (Vc (p.n-(r1+1)) D) (by omega) hwg0
   have hdd:deafBehind d0 #[rd (stA Wg),wr (stA Wg)]=d0:=by simp[deafBehind,rd,wr]
   have hT:=gY.set Wg w 0 (.int .u64 (((Vc (p.n-(r1+1)) D:Nat)+1)*KK))
   obtain⟨tr,hgt⟩:=hdl.gt ((cG (V 0) _).okV hok0) (v:=iI (V 0) (w.setCell (stA Wg) (.int .u64 (((Vc (p.n-(r1+1)) D:Nat)+1)*KK)))) fun d g v1 he hk=>hk v1 ((cG _ _).trans he) (((cG _ _).trans he).okV hok0)
   rw[←(hR.trans htr)]
   refine nV G ha hcom hgo (hT.kept G hcom.pay) (hcom.turn hT) (fun x _=>cG _ _) (dP.of_env (cG _ _)) (fun e he fn pos=>aNy (Gi e he) fn pos) (fun e he x hx=>(bHg (S:=S) (Gi e he) x hx).1) (fun e he=>aJy (Gi e he)) (fun e he=>aOh (Gi e he) (by simpa[EW]using bG hwg0))
    (fun i _ r _=>hT.cells G i r) (tag':=.sp r1 3) (r':=tr) (by rw[hdd];exact .go hr hgt) (uU hwg0 _) ?_ (by simp) (.inl (by simp only[phi];omega))
   have e:(((Vc (p.n-(r1+1)) D:Nat):Int)+1)*KK=((Vc (p.n-(r1+1)) D+pend (.sp r1 3):Nat):Int)*KK:=by simp[pend]
   rw[e]
   exact .opn trivial ho (by simp)
 | go hr h =>
  rename_i r1
  cases htr:r with
  | node f =>
   rw[htr]at h
   obtain⟨_,hv,hs⟩:=h
   obtain⟨g',v',w',es,hgo,hq,hgt⟩:=hs (V 0) w (.refl _) hsim0 hI
   have:=aYz (sl:=sl) G ha hcom hwg hmode (by simp) hgo hq (.go hr hgt) (by rw[hR,htr];exact qG f _)
   rwa [hR,htr]at this
  | leaf =>
   rw[htr]at h
   obtain⟨rfl,_,hgo'⟩:=h
   obtain⟨g',child,hsp,_,⟨tr,hgt⟩,hnext⟩:=hgo' (V 0) (.refl _)
   have hsp:=hsp w hsim0 hI
   obtain⟨ho,rfl,rfl,_⟩:=hmode.open_inv trivial
   have hrun':=runT_crowd_spawn (P:=P) (sl:=sl) (i:=0) ha (by simpa using hsp)
   rw[hcom.size]at hrun'
   have hlt0:0<gs.size:=(AQ.1 ha).1
   have eV:Vc (p.n-(r1+1)+1) (Bb D (p.n-(r1+1)) ⟨7,0,0⟩)=Vc (p.n-(r1+1)) D+1:=by
    simp only[Vc,sumTo,A5]
    rw[sumTo_upd_out D _ B9 (AE _)];rfl
   have eS:Ssum (p.n-(r1+1)+1) (Bb D (p.n-(r1+1)) ⟨7,0,0⟩)=Ssum (p.n-(r1+1)) D+7:=by
    simp only[Ssum,sumTo,A5]
    rw[sumTo_upd_out D _ WD.stage (AE _)]
   have ho':OpenSt (p.n-(r1+1)+1) (Bb D (p.n-(r1+1)) ⟨7,0,0⟩):=fun i hi=>by
    by_cases e:i=p.n-(r1+1)
    ·subst e;rw[A5];simp
    ·rw[Bf D _ e];exact ho i (by omega)
   have ha':((gs.setIfInBounds 0 g').push child)[0]? = some g':=by
    rw[Array.getElem?_push_lt (by simp;omega),←Ak]
    simp[hlt0]
   have ej:p.n-(r1+1)+1=p.n-r1:=by omega
   have hsp':∀ r0,Com P L Wg p S w0 m (p.n-(r1+1)+1) _ w _ _ (Bb (Bb R (m+(p.n-(r1+1))) tr) 0 r0) _ 0:=fun r0=>hcom.spawn G (a':=g') (r0:=r0) (child:=child) (x:={ g:=0,fn:=a.frame.fn,pos:=a.frame.place,act:=.go (m+(p.n-(r1+1))) }) (y:={ g:=m+(p.n-(r1+1)),fn:=child.frame.fn,pos:=a.frame.place,act:=.start }) ⟨rfl,rfl⟩ ⟨rfl,rfl⟩ (bG hwg) hgt
   rw[ej]at eV eS ho' hsp'
   have est:∀ tag',pend tag'=0→((Vc (p.n-(r1+1)) D+pend (.sp r1 3):Nat):Int)*KK=((Vc (p.n-r1) (Bb D (p.n-(r1+1)) ⟨7,0,0⟩)+pend tag':Nat):Int)*KK:=fun tag' hp=>by rw[eV,hp];simp[pend]
   cases r1 with
   | zero =>
    obtain⟨tr0,hk⟩:=hnext
    simp only[Nat.sub_zero]at hrun' hsp' eV eS ho' est
    refine⟨_,_,(phi p.n (Vc p.n (Bb D (p.n-(0+1)) ⟨7,0,0⟩)) .w1+Ssum p.n (Bb D (p.n-(0+1)) ⟨7,0,0⟩),_,_),hrun',EY _ _ (by simp only[phi];have:=Vc_le p.n (Bb D (p.n-(0+1)) ⟨7,0,0⟩);omega),
     _,w,sl,p.n,_,_,_,.w1,0,g',_,_,rfl,ha',?_,hsp' tr0,hwg,?_,by simp,rfl⟩
    ·rw[A5,A5];exact .w1 hk
    ·rw[est .w1 rfl]
     exact .opn trivial ho' (by simp)
   | succ r2 =>
    obtain⟨tr0,hk⟩:=hnext
    refine⟨_,_,(phi p.n (Vc (p.n-(r2+1)) (Bb D (p.n-(r2+1+1)) ⟨7,0,0⟩)) (.sp r2 4)+Ssum (p.n-(r2+1)) (Bb D (p.n-(r2+1+1)) ⟨7,0,0⟩),_,_),hrun',EY _ _ (by simp only[phi];omega),
     _,w,sl,p.n-(r2+1),_,_,_,.sp r2 4,0,g',_,_,rfl,ha',?_,hsp' tr0,hwg,?_,by simp,rfl⟩
    ·rw[A5,A5];exact .a1 (by omega) hk
    ·rw[est (.sp r2 4) rfl]
     exact .opn trivial ho' (by simp)
 | w1 h =>
  cases htr:r with
  | node f =>
   rw[htr]at h
   obtain⟨_,hv,hs⟩:=h
   obtain⟨g',v',w',es,hgo,hq,hgt⟩:=hs (V 0) w (.refl _) hsim0 hI
   have:=aYz (sl:=sl) G ha hcom hwg hmode (by simp) hgo hq (.w1 hgt) (by rw[hR,htr];exact qG f _)
   rwa [hR,htr]at this
  | leaf =>
   rw[htr]at h
   obtain⟨hd,_,hall⟩:=h
   obtain⟨ho,rfl,rfl,_⟩:=hmode.open_inv trivial
   have hwg0:w.heap[Wg]? = some (wgBlock L.tWg ((Vc p.n D:Nat)*KK:Int) 0):=by simpa[pend]using hwg
   obtain⟨g',hgo,h0,hne⟩:=hall w (Vc p.n D) (by omega) hwg0
   have hdd:deafBehind d0 #[rd (stA Wg)]=d0:=by simp[deafBehind,rd]
   rw[←(hR.trans htr)]
   by_cases hv:Vc p.n D=0
   ·obtain⟨n,hk⟩:=(h0 hv).count
    refine rK G ha hcom hgo (.refl Wg w) hwg (bkS ConcN.bk_rd) (tag':=.acq) (fun v _=>by rw[hdd];exact .acq hk) ?_ (by simp) (.inl (by simp only[phi];omega))
    have e:((Vc p.n D+pend .w1:Nat):Int)*KK=0:=by rw[hv];simp[pend]
    rw[e]
    exact .fin trivial (allQuit_of ho hv)
   ·obtain⟨n,hk⟩:=(hne hv).count
    refine rK G ha hcom hgo (.refl Wg w) hwg (bkS ConcN.bk_rd) (tag':=.w2 (Vc p.n D)) (fun v _=>by rw[hdd];subst hd;exact .w2 hk) (hmode.reopen trivial trivial rfl (fun vs e=>by cases e;omega)) (by simp) (.inl (by simp only[phi];omega))
 | w2 h =>
  rename_i vs n
  rw[←hR]
  rcases h.cases with ⟨hd,_,hall⟩|⟨n',rfl,_,g',es,hmu,hgo,h'⟩
  ·obtain⟨ho,rfl,rfl,hw2⟩:=hmode.open_inv trivial
   obtain⟨hle,h1⟩:=hw2 vs rfl
   have hwg0:w.heap[Wg]? = some (wgBlock L.tWg ((Vc p.n D:Nat)*KK:Int) 0):=by simpa[pend]using hwg
   obtain⟨hhit,hmiss⟩:=hall w (Vc p.n D) (by omega) hwg0
   by_cases e:Vc p.n D=vs
   ·obtain⟨g',hgo,hk⟩:=hhit e
    obtain⟨n2,hk⟩:=hk.count
    exact rK G ha hcom hgo (gY.set Wg w 0 _) (uU hwg0 _) (bkS Gi) (tag':=.w3) (fun v _=>by rw[show deafBehind d0 #[rd (stA Wg),wr (stA Wg)]=d0 by simp[deafBehind,rd,wr]];exact .w3 hk) (.reg trivial ho (by omega)) (by simp) (.inl (by simp only[phi];omega))
   ·obtain⟨g',hgo,hk⟩:=hmiss e
    have hdd:deafBehind d0 #[rd (stA Wg)]=d0:=by simp[deafBehind,rd]
    have hk':Dl P true (cU L.tWg Wg) (dO Wg) (fun d g=>d=1∧xG P L Wg K An d g) d0 g':=hk.bind fun d g hk2=>by
     rw[hk2.1,hd]
     exact hAn g hk2.2
    obtain⟨tr,hgt⟩:=hk'.gt (v:=V 0) hok0 (Stop:=aLz P L Wg K An) fun d g v1 _ hk=>⟨.leaf,hk⟩
    exact rK G ha hcom hgo (.refl Wg w) hwg (bkS ConcN.bk_rd) (tag':=.w1) (r':=tr) (fun v he=>by rw[hdd];exact .w1 (hgt.env uT he)) (hmode.reopen trivial trivial rfl (by simp)) (by simp) (.inl (by simp only[phi];omega))
  ·exact idle (by simp) (hgo w hI) hmu (fun v=>.w2 h') (by rw[hR];exact iP n')
 | w3 h =>
  rename_i n
  rw[←hR]
  rcases h.cases with ⟨hs,hoff,hblk,htake⟩|⟨n',rfl,_,g',es,hmu,hgo,h'⟩
  ·cases hmode with
   |opn h1 _ _=>exact h1.elim
   |reg h1 h2 h3=>exact rK G ha hcom (hblk w _ hwg) (.refl Wg w) hwg (by simp) (tag':=.blk) (r':=Tr.nat n) (fun v _=>.blk ⟨hs,hoff,hblk,htake⟩) (.reg trivial h2 h3) (by simp) (.inr ⟨rfl,by rw[hR];exact iP n⟩)
   |last L' h1 h2 h3 h4=>exact rK G ha hcom (hblk w _ hwg) (.refl Wg w) hwg (by simp) (tag':=.blk) (r':=Tr.nat n) (fun v _=>.blk ⟨hs,hoff,hblk,htake⟩) (.last L' trivial h2 h3 h4) (by simp) (.inr ⟨rfl,by rw[hR];exact iP n⟩)
   | sema h2 =>
    obtain⟨g',hgo,hk⟩:=htake w hwg
    obtain⟨n2,hk⟩:=hk.count
    exact rK G ha hcom hgo (gY.set Wg w 1 _) (bAg hwg 0) (bkS ConcN.bk_sem) (tag':=.w4) (fun v _=>by rw[show deafBehind d0 (semEvents (smA Wg))=d0 by simp[deafBehind,semEvents]];exact .w4 hk) (.fin trivial h2) (by simp) (.inl (by simp only[phi];omega))
   |fin h1 _=>exact h1.elim
  ·exact idle (by simp) (hgo w hI) hmu (fun v=>.w3 h') (by rw[hR];exact iP (n'+1))
 |blk h=>simp at hrun
 | w4 h =>
  rename_i n
  rw[←hR]
  rcases h.cases with ⟨_,hx⟩|⟨n',rfl,_,g',es,hmu,hgo,h'⟩
  ·obtain⟨hq,rfl,rfl⟩:=hmode.fin_inv trivial
   obtain⟨g',hgo,hk⟩:=hx w hwg
   obtain⟨n2,hk⟩:=hk.count
   exact rK G ha hcom hgo (.refl Wg w) hwg (bkS ConcN.bk_rd) (tag':=.acq) (fun v _=>by rw[show deafBehind d0 #[rd (stA Wg)]=d0 by simp[deafBehind,rd]];exact .acq hk) (.fin trivial hq) (by simp) (.inl (by simp only[phi];omega))
  ·exact idle (by simp) (hgo w hI) hmu (fun v=>.w4 h') (by rw[hR];exact iP n')
 | acq h =>
  rename_i n
  rw[←hR]
  rcases h.cases with ⟨hd,_,g',hgo,hk⟩|⟨n',rfl,_,g',es,hmu,hgo,h'⟩
  ·obtain⟨hq,rfl,rfl⟩:=hmode.fin_inv trivial
   obtain⟨n2,hk⟩:=hk.count
   have hlt':Wg<w.heap.size:=bG hwg
   refine nV G ha hcom (hgo w hI) ((gY.refl Wg w).kept G hcom.pay) (V':=V) hcom.vws (fun x _=>.refl _) (dP.of_env (.refl _)) (fun e he fn pos=>?_) (fun e he x hx=>?_) (fun e he=>?_) (fun e he=>?_) (fun _ _ _ _=>rfl) (tag':=.ret) (r':=Tr.nat n2)
    (by rw[show deafBehind d0 #[mk (.acquire (stA Wg))]=0 by simp[deafBehind,mk,hd]];exact .ret hk) hwg (.fin trivial hq) (fun _=>?_) (.inl (by simp only[phi];omega))
   ·simp at he;subst he;exact⟨rfl,fun x hx=>by simp[ofEvent_mk,Bx]at hx⟩
   ·simp at he;subst he;simp[ofEvent_mk,Bx]at hx
   ·simp at he;subst he;simp[mk]
   ·simp at he;subst he;rw[ofEvent_mk];exact hlt'
   ·have e1:BK 0 a.frame.fn a.frame.place #[mk (.acquire (stA Wg))]=#[{ g:=0,fn:=a.frame.fn,pos:=a.frame.place,act:=.mark (.acquire (stA Wg)) }]:=by rw[ofEvents_eq];simp[ofEvent_mk]
    have hy:(t++#[({ g:=0,fn:=a.frame.fn,pos:=a.frame.place,act:=.mark (.acquire (stA Wg)) }:MemOp)])[t.size]? = some { g:=0,fn:=a.frame.fn,pos:=a.frame.place,act:=.mark (.acquire (stA Wg)) }:=by simp
    have hm:=hcom.mpos
    refine⟨t.size,by rw[e1,act?_of hy],by rw[e1];simp[FY],by rw[e1];exact⟨0,by simp[FY],by rw[deaf_old (AE _)];exact hcom.deaf0.trans hd⟩,fun i hi=>?_⟩
    obtain⟨r,hr⟩:=hcom.rel i hi (by rw[hq i hi];omega)
    exact⟨r,hr.appOther Es (by omega),lt_of_act? hr.act⟩
  ·exact idle (by simp) (hgo w hI) hmu (fun v=>.acq h') (by rw[hR];exact iP n')
 | ret h =>
  rename_i n
  rw[←hR]
  rcases h.cases with ⟨hd,hk⟩|⟨n',rfl,_,g',es,hmu,hgo,h'⟩
  ·exact absurd ⟨rfl,hd,hk⟩ hstop
  ·have hm:=hcom.mpos
   exact rK G ha hcom (hgo w trivial) (.refl Wg w) hwg (fun e he=>.inl (bk_of_mute ((hmu e he).resolve_right id))) (tag':=.ret) (fun v _=>.ret h') hmode (fun _=>(hacq rfl).app fun i r _ hr=>hr.appOther Es (by omega)) (.inr ⟨rfl,by rw[hR];exact iP n'⟩)
end
end Go.Am
end
section
open List renaming map_map→ζ,mapM_map→ξ
namespace Go.Am
open Go.Conc Go.Conc.Lib
open Go.ConcN (CT Apart Ok0 OkW PermW RelBy CTag phi WD Vc Ssum sumTo sumTo_upd OpenSt AllQuit isOpen isW3 isFin pend phi_mono phi_retag le_sumTo Vc_le Vc_upd)
open Go.ConcR (KK wgBlock stA smA rd wr mk)
section
variable {P:Program} {L:WgLink} {Wg:Nat} {p:Pl} {K An:Goroutine→Prop} {S:Nat→Prop} {w0:World} {m j:Nat} {gs:Array Goroutine} {w w':World} {sl:Option (Nat×Nat)} {t:Trace} {D:Nat→WD} {R:Nat→Tr} {V V':Nat→World} {tag tag':CTag} {d0:Nat} {a a':Goroutine} {st sm st' sm':Int} {es:Array Event} {r':Tr} {Post:Value→World→Prop}
theorem CS.ret_j{d:Nat}{r:Tr}{v:World}(h:CS P L Wg p K An tag j r d a v)(e:tag=.ret):j=p.n:=by
 cases h<;>first|rfl|cases e
theorem bJu(hKr:∀ g,K g→g.status=.running)(G:Geo Wg p S)(ha:gs[0]? = some a)(hcs:CS P L Wg p K An tag j (R 0) d0 a (V 0))(hcom:Com P L Wg p S w0 m j gs w t D R V d0)(hwg:w.heap[Wg]? = some (wgBlock L.tWg st sm))(hmode:D9 j D tag st sm)
  (hacq:tag=.ret→uN Wg m j t) {i:Nat} (h0:0<i) (him:i<m) {g:Goroutine} (hg:gs[i]? = some g) (hrun:g.status=.running) :
  ∃ M ops μ',runT P (crowd gs w sl) i=(.next M,ops)∧MLt μ' (phi p.n (Vc j D) tag+Ssum j D,jC R (m+j),R 0)∧Inv P L Wg p K An S w0 m μ' M (t++ops):=by
 obtain⟨g1,q,hg1,hR,hq⟩:=hcom.old i h0 him
 obtain rfl:g=g1:=by rw[hg]at hg1;exact Bj hg1
 cases q with
 |zero=>rw[hq.1]at hrun;cases hrun
 | succ q =>
  rcases hq with ⟨hf,_⟩|⟨_,g',es,hm',hstp,hq'⟩
  ·rw[hf]at hrun;cases hrun
  obtain⟨tag',r0,hcs',htag,hwk⟩:=hcs.wokenBy hKr g g' w
  have hrunT:=runT_crowd_go (P:=P) (sl:=sl) (i:=i) hg (by rw[show(i==0)=false by simp;omega];exact hstp w)
  have hcom':=hcom.stepO G h0 him hg hm' hq'
  have hcom'':Com P L Wg p S w0 m j ((gs.map (woken P g g' w)).setIfInBounds i g') w (t++BK i g.frame.fn g.frame.place es) D (Bb (Bb R i (Tr.nat q)) 0 r0) V d0 :=
   { hcom' with wk:=fun i' hi'=>by rw[Bf (Bb R i (Tr.nat q)) r0 (show m+i'≠0 by omega)];exact hcom'.wk i' hi',old:=fun i' h1 h2=>by rw[Bf (Bb R i (Tr.nat q)) r0 (show i'≠0 by omega)];exact hcom'.old i' h1 h2 }
  refine⟨_,_,(phi p.n (Vc j D) tag'+Ssum j D,jC (Bb (Bb R i (Tr.nat q)) 0 r0) (m+j),r0),hrunT,?_,_,w,sl,j,D,_,V,tag',d0,woken P g g' w a,st,sm,rfl,?_,by rw[A5];exact hcs',hcom'',hwg,hmode.retag htag,?_,by rw[A5]⟩
  ·rw[phi_retag p.n _ htag]
   refine Prod.Lex.right _ (EY _ _ (aIs (k:=i) (by omega) (by omega) ?_ fun x h0 hx=>by rw[Bf _ _ h0,Bf _ _ hx]))
   rw[Bf _ _ (by omega),A5,hR];exact iP q
  ·rw[AF (by omega),BN,ha];rfl
  ·intro e
   rcases htag with rfl|⟨_,rfl⟩
   ·exact(hacq e).app fun i' r _ hr=>hr.appOther Es (by omega)
   ·cases e
theorem aZz(hKr:∀ g,K g→g.status=.running)(ha:gs[0]? = some a)(hcs:CS P L Wg p K An tag j (R 0) d0 a (V 0))(hcom:Com P L Wg p S w0 m j gs w t D R V d0)(hmode:D9 j D tag st sm) :
  ∃(i:Nat) (g:Goroutine),gs[i]? = some g∧g.status=.running:=by
 rcases hcs.status hKr with ⟨h,_⟩|⟨_,rfl⟩
 ·exact⟨0,a,ha,h⟩
 have wk:∀ i,i<j→(D i).stage≠1→∃(i:Nat) (g:Goroutine),gs[i]? = some g∧g.status=.running:=fun i hi hne=>by
  obtain⟨g,hg,hs⟩:=hcom.wk i hi
  rcases hs.status with h|⟨_,h⟩
  ·exact⟨m+i,g,hg,h⟩
  ·exact absurd h hne
 cases hmode with
 |opn h1 _ _=>exact h1.elim
 | reg _ h2 h3 =>
  obtain⟨i,hi,h5⟩:∃ i,i<j∧B9 (D i)≠0:=ES fun hno=>by
   have:Vc j D=0:=by
    have:∀ i,i<j→B9 (D i)=0:=fun i hi=>ES fun hne=>hno ⟨i,hi,hne⟩
    have e:=ConcN.sumTo_congr (f:=fun i=>B9 (D i)) (g:=fun _=>0) (j:=j) this
    have z:∀ j,sumTo j (fun _=>0)=0:=fun j=>by induction j with
     |zero=>rfl
     |succ j ih=>simp[sumTo,ih]
    simp only[Vc];rw[e,z]
   omega
  refine wk i hi fun e=>h5 ?_
  simp[B9,e]
 |last L' _ h2 h3 _=>exact wk L' h2 (by omega)
 |fin h1 _=>exact h1.elim
theorem bHl(hKr:∀ g,K g→g.status=.running)(ha:gs[0]? = some a)(hcs:CS P L Wg p K An tag j (R 0) d0 a (V 0))(hcom:Com P L Wg p S w0 m j gs w t D R V d0):∀ g∈gs,awake g:=by
 intro g hg tm
 obtain⟨i,hi⟩:=Array.mem_iff_getElem?.1 hg
 by_cases h0:i=0
 ·subst h0
  rw[ha]at hi;cases hi
  rcases hcs.status hKr with ⟨hs,_⟩|⟨hs,_⟩<;>rw[hs]<;>simp
 ·have hlt:i<m+j:=by have:=(AQ.1 hi).1;rw[hcom.size]at this;omega
  by_cases him:i<m
  ·obtain⟨g',q,hg',_,hq⟩:=hcom.old i (by omega) him
   rw[hi]at hg';cases hg'
   rcases hq.status with h|h<;>rw[h]<;>simp
  ·obtain⟨g',hg',hs⟩:=hcom.wk (i-m) (by omega)
   rw[show m+(i-m)=i by omega,hi]at hg';cases hg'
   rcases hs.status with h|⟨h,_⟩<;>rw[h]<;>simp
theorem bLl(hKr:∀ g,K g→g.status=.running)(hAn:∀ g,An g→Dl P true (cU L.tWg Wg) (dO Wg) (fun d g=>d=1∧xG P L Wg K An d g) 1 g)(G:Geo Wg p S)(hn:p.n<2147483648)
  (hFin:∀(gs:Array Goroutine) (w:World) (sl:Option (Nat×Nat)) (R:Nat→Tr) (V:Nat→World) (D:Nat→WD) (a:Goroutine) (t:Trace),gs[0]? = some a→K a→Com P L Wg p S w0 m p.n gs w t D R V 0→w.heap[Wg]? = some (wgBlock L.tWg 0 0)→AllQuit p.n D→uN Wg m p.n t→dI P Post (crowd gs w sl) t) :
  ∀ μ M t,Inv P L Wg p K An S w0 m μ M t→dI P Post M t:=by
 intro μ
 induction μ using bTr.induction with
 | _ μ ih =>
  rintro M t ⟨gs,w,sl,j,D,R,V,tag,d0,a,st,sm,rfl,ha,hcs,hcom,hwg,hmode,hacq,rfl⟩
  by_cases hstop:tag=.ret∧d0=0∧K a
  ·obtain⟨rfl,rfl,hk⟩:=hstop
   obtain⟨hq,rfl,rfl⟩:=hmode.fin_inv trivial
   obtain rfl:j=p.n:=hcs.ret_j rfl
   exact hFin gs w sl R V D a t ha hk hcom hwg hq (hacq rfl)
  obtain⟨i,g,d,sl',hg,hrun,hst⟩:=crowd_pick (P:=P) (w:=w) (sl:=sl) (bHl hKr ha hcs hcom) (aZz hKr ha hcs hcom hmode)
  have hcs':=hcs.env (cG (V 0) (w.at d))
  have hcom':=hcom.at d
  have hwg':(w.at d).heap[Wg]? = some (wgBlock L.tWg st sm):=hwg
  have hm:=hcom.mpos
  by_cases h0:i=0
  ·subst h0
   obtain rfl:g=a:=by rw[ha]at hg;exact(Bj hg).symm
   obtain⟨M,ops,μ',h1,h2,h3⟩:=aMz (sl:=sl') hKr hAn G hn ha hcs' hcom' hwg' hmode hacq hrun hstop
   exact dI.step (hst.trans h1) (ih μ' h2 M _ h3)
  have hlt:i<m+j:=by have:=(AQ.1 hg).1;rw[hcom.size]at this;omega
  by_cases him:i<m
  ·obtain⟨M,ops,μ',h1,h2,h3⟩:=bJu (sl:=sl') hKr G ha hcs' hcom' hwg' hmode hacq (by omega) him hg hrun
   exact dI.step (hst.trans h1) (ih μ' h2 M _ h3)
  ·obtain⟨i',rfl⟩:∃ i',i=m+i':=⟨i-m,by omega⟩
   obtain⟨M,ops,μ',h1,h2,h3⟩:=aMx (sl:=sl') hKr G hn hcs.bound ha hcs' hcom' hwg' hmode hacq (by omega) hg hrun
   exact dI.step (hst.trans h1) (ih μ' h2 M _ h3)
end
end Go.Am
end
section
open List renaming map_map→ζ,mapM_map→ξ
namespace Go.Am
open Go.Conc Go.Conc.Lib
open Go.ConcN (CT Apart Ok0 OkW PermW RelBy CTag phi WD Vc Ssum sumTo sumTo_upd OpenSt AllQuit isOpen isW3 isFin pend)
open Go.ConcR (KK wgBlock stA smA rd wr mk)
def inV(v:World)(C:Nat):World:={ v with heap:=((v.heap.map aAc).setIfInBounds C hole).push hole }
theorem tS(v:World)(C:Nat):(inV v C).heap.size=v.heap.size+1:=by simp[inV]
theorem aRx{v:World}{C:Nat}(h:C<v.heap.size):(inV v C).heap[C]? = some hole:=by simp[inV,Bu,h]
theorem aGk(v:World)(C:Nat):(inV v C).heap[v.heap.size]? = some hole:=by
 simp only[inV,Bu]
 simp
theorem xY{v:World}{C b:Nat}(h:b<v.heap.size)(hne:b≠C):(inV v C).heap[b]? = (v.heap[b]?).map aAc:=by
 simp only[inV,Bu,Array.size_setIfInBounds,Array.size_map,Aj (Nat.ne_of_lt h)]
 rw[AF (Ea hne),BN]
theorem bDz{v:World}{C b:Nat}(h:v.heap[b]? = some hole):(inV v C).heap[b]? = some hole:=by
 have hlt:=bG h
 by_cases e:b=C
 ·subst e;exact aRx hlt
 ·rw[xY hlt e,h,AW,aAb]
theorem aDu{v:World}{C b:Nat}(h:b≤v.heap.size):pT (inV v C) b:=by
 rcases Nat.lt_or_eq_of_le h with hlt|rfl
 ·by_cases e:b=C
  ·subst e;exact sJ (aRx hlt)
  ·obtain⟨c,t,e'⟩:=pL v.heap[b]
   exact⟨c,t,by rw[xY hlt e,Ak hlt,AW,e']⟩
 ·exact sJ (aGk v C)
theorem bDy(v:World)(C:Nat):OkV (inV v C):=fun b o ho=>by
 have hlt:=bG ho
 rw[tS]at hlt
 obtain⟨c,t,e⟩:=aDu (v:=v) (C:=C) (b:=b) (by omega)
 rw[e]at ho;obtain rfl:=Bj ho;rfl
theorem bNp{v w:World}(h:Sim v w)(C:Nat)(o:Obj):Sim (inV v C) { w with heap:=w.heap.push o }:=by
 refine⟨h.tape,h.drawn,h.os,h.output,by rw[tS];simp[h.size],fun b x hx=>?_⟩
 have hlt:=bG hx
 rw[tS]at hlt
 by_cases e:b=v.heap.size
 ·subst e;rw[aGk]at hx;exact .inl (Bj hx).symm
 ·by_cases e':b=C
  ·subst e';rw[aRx (by omega)]at hx;exact .inl (Bj hx).symm
  ·rw[xY (by omega) e']at hx
   have:=(aKs h).blk b x (by rw[mP];exact hx)
   simp only[Bu]
   rw[Aj (by rw[←h.size];exact e)]
   exact this
structure bPu(p:Pl)(v v':World):Prop where
 ok:OkV v'
 tape:v'.tape=v.tape
 os:v'.os=v.os
 output:v'.output=v.output
 size:v.heap.size<v'.heap.size
 old:∀ b,b<v.heap.size→b≠p.C→v'.heap[b]? = v.heap[b]?
 val:∃ cs:Array Value,v'.heap[p.C]? = some (.cells cs p.ety (0,0))∧cs.size=p.tot∧∀ i,i<p.n→∀ r,r<p.wd→cs[i*p.wd+r]? = some (p.val i r)
 new:∀ b,v.heap.size≤b→b<v'.heap.size→v'.heap[b]? = some hole
def KF(P:Program)(W0:World)(Post:Value→World→Prop)(p:Pl)(v:World)(g:Goroutine):Prop:=g.status=.running∧∀ v',bPu p v v'→dY P W0 Post g v'
section
variable {P:Program} {L:WgLink} {p:Pl} {W0:World} {Post:Value→World→Prop} {S:Nat→Prop}
theorem bUi{Wg m n:Nat}{gs:Array Goroutine}{w w0:World}{t:Trace}{D:Nat→WD}{R:Nat→Tr}{V:Nat→World}(hcom:Com P L Wg p S w0 m n gs w t D R V 0)(hacq:uN Wg m n t):t.HandedOver:=by
 intro i g hgi hne hc
 have hm:=hcom.mpos
 by_cases hlt:g<m
 ·exact hcom.over i g hgi hne hlt hc
 obtain⟨q,h1,h2,h3,h4⟩:=hacq
 obtain⟨op,ho,rfl⟩:=Ae.1 hgi
 have:=hcom.ct.gs i op ho
 obtain⟨r,hr,hrq⟩:=h4 (op.g-m) (by omega)
 rw[show m+(op.g-m)=op.g by omega]at hr
 have edge:HappensBefore t r q:=.single (.inr ⟨.marked hrq (.inr hr.act) h1 (fun k _ _=>hcom.norel k),hr.heard,h3⟩)
 have hle:i≤r:=Nat.le_of_not_lt fun hlt=>hr.after i hlt hgi hc
 rcases AY i r with hlt|hge
 ·exact⟨q,h2,.trans (.single (.inl ⟨hlt,op.g,hgi,hr.g⟩)) edge⟩
 ·obtain rfl:i=r:=by omega
  exact⟨q,h2,edge⟩
theorem WS.quits{Wg i s d:Nat}{r:Tr}{g:Goroutine}{v:World}(h:WS P L Wg p i s r d g v)(hs:s=1):∃ q,QuitsD P q d g:=by
 cases h<;>first|exact absurd hs (by decide)|exact⟨_,‹_›⟩
set_option maxHeartbeats 1600000 in
theorem bTc{v1 ws:World}(hsim:Sim v1 ws)(hok:OkV v1)(hKp:Kp W0 v1 ws)(hS:∀ b,S b→v1.heap[b]? = some hole){cs0:Array Value}(hC:v1.heap[p.C]? = some (.cells cs0 p.ety (0,0)))(hCs:cs0.size=p.tot)(hty:p.ety≠0)
  {m:Nat} {gs:Array Goroutine} {w:World} {sl:Option (Nat×Nat)} {R:Nat→Tr} {V:Nat→World} {D:Nat→WD} {a:Goroutine} {t:Trace} (ha:gs[0]? = some a) (hK:KF P W0 Post p v1 a)
  (hcom:Com P L ws.heap.size p S { ws with heap:=ws.heap.push (wgBlock L.tWg 0 0) } m p.n gs w t D R V 0) (hwg:w.heap[ws.heap.size]? = some (wgBlock L.tWg 0 0)) (hq:AllQuit p.n D) (hacq:uN ws.heap.size m p.n t):dI P Post (crowd gs w sl) t:=by
 have hm:=hcom.mpos
 have hsz:v1.heap.size=ws.heap.size:=hsim.size
 have hwlt:=bG hwg
 have hClt:=bG hC
 obtain⟨cs,fz,hcs,hcn,hfz⟩:=hcom.pay
 have hstay:∀ b,b<ws.heap.size→(b≠p.C∨p.tot=0)→w.heap[b]? = ws.heap[b]? := fun b hb hne=>by
  rw[hcom.stay b hb hne];simp only[Bu];rw[Aj (by omega)]
 generalize hv:({ v1 with heap:=v1.heap.setIfInBounds p.C (.cells cs p.ety (0,0))++AX (w.heap.size-v1.heap.size) hole,drawn:=w.drawn }:World)=v'
 have gC:v'.heap[p.C]? = some (.cells cs p.ety (0,0)):=by
  rw[←hv];simp only
  rw[B1 (by simpa using hClt),Array.getElem?_setIfInBounds_self_of_lt hClt]
 have gO:∀ b,b<v1.heap.size→b≠p.C→v'.heap[b]? = v1.heap[b]? := fun b hb hne=>by
  rw[←hv];simp only
  rw[B1 (by simpa using hb),AF (Ea hne)]
 have gS:v'.heap.size=w.heap.size:=by rw[←hv];simp;omega
 have gN:∀ b,v1.heap.size≤b→b<v'.heap.size→v'.heap[b]? = some hole:=fun b h1 h2=>by
  rw[gS]at h2
  rw[←hv];simp only
  rw[Array.getElem?_append_right (by simpa using h1),Array.getElem?_replicate]
  simp;omega
 have gok:OkV v':=fun b o ho=>by
  have hlt:=bG ho
  by_cases e:b=p.C
  ·subst e;rw[gC]at ho;obtain rfl:=Bj ho;rfl
  ·rcases AY b v1.heap.size with h|h
   ·rw[gO b h e]at ho;exact hok b o ho
   ·rw[gN b h hlt]at ho;obtain rfl:=Bj ho;rfl
 have gsim:Sim v' w:=by
  refine⟨?_,?_,?_,?_,gS,fun b o ho=>?_⟩
  ·rw[←hv,hcom.like.1];exact hsim.tape
  ·rw[←hv]
  ·rw[←hv,hcom.like.2.1];exact hsim.os
  ·rw[←hv,hcom.like.2.2];exact hsim.output
  ·have hlt:=bG ho
   by_cases e:b=p.C
   ·subst e;rw[gC]at ho;rw[hcs];obtain rfl:=Bj ho
    by_cases hz:cs.size=0
    ·exact .inr (.inr ⟨cs,p.ety,fz,by rw[hz],rfl⟩)
    ·rw[hfz hz];exact .inr (.inl rfl)
   ·rcases AY b v1.heap.size with h|h
    ·rw[gO b h e]at ho
     rw[hstay b (by omega) (.inl e)];exact hsim.blk b o ho
    ·rw[gN b h hlt]at ho;exact .inl (Bj ho).symm
 have hF:bPu p v1 v':=by
  refine⟨gok,by rw[←hv],by rw[←hv],by rw[←hv],by omega,gO,⟨cs,gC,hcn,fun i hi r hr=>?_⟩,gN⟩
  have:=hcom.has i hi (by rw[hq i hi];omega) r hr
  simpa[Bw,Pl.cell,hcs]using this
 have hover:=bUi hcom hacq
 have hquit:∀ i,0<i→∀ g,gs[i]? = some g→∃ q,QuitsD P q (Deaf t i) g:=fun i h0 g hg=>by
  have hlt:i<m+p.n:=by have:=(AQ.1 hg).1;rw[hcom.size]at this;exact this
  by_cases him:i<m
  ·obtain⟨g',q,hg',_,hqq⟩:=hcom.old i h0 him
   rw[hg]at hg';cases hg';exact⟨q,hqq⟩
  ·obtain⟨g',hg',hs⟩:=hcom.wk (i-m) (by omega)
   rw[show m+(i-m)=i by omega,hg]at hg';cases hg'
   obtain⟨q,hqq⟩:=hs.quits (hq (i-m) (by omega))
   have:=hcom.deafW (i-m) (by omega)
   rw[show m+(i-m)=i by omega]at this
   exact⟨q,by rw[this];exact hqq⟩
 have hqf:∃ q:Nat→Nat,∀ i g,0<i→gs[i]? = some g→QuitsD P (q i) (Deaf t i) g:=by
  classical
  refine Classical.axiomOfChoice (r:=fun i q=>∀ g,0<i→gs[i]? = some g→QuitsD P q (Deaf t i) g) (fun i=>?_) |>.elim fun q h=>⟨q,fun i g h0 hg=>h i g h0 hg⟩
  by_cases h:∃ g,0<i∧gs[i]? = some g
  ·obtain⟨g,h0,hg⟩:=h
   obtain⟨q,hqq⟩:=hquit i h0 g hg
   exact⟨q,fun g' _ hg'=>by rw[hg]at hg';cases hg';exact hqq⟩
  ·exact⟨0,fun g h0 hg=>(h ⟨g,h0,hg⟩).elim⟩
 obtain⟨q,hqf⟩:=hqf
 refine hK.2 v' hF v' (.refl _) gok (ShW S ws.heap.size) gs w sl t q (fun b hb=>?_) gsim ha ⟨fun i g h0 hg=>hqf i g h0 hg,fun i hi=>hcom.above i (by rw[←hcom.size];exact hi)⟩ ⟨hcom.ct.nr,fun i x hx hmm=>?_,hover,hcom.deaf0,hcom.seen⟩
  ⟨hcom.ct.quiet,hcom.mem,fun i op hop=>by have:=hcom.ct.gs i op hop;rw[hcom.size];omega⟩ (fun b o hb ho=>?_)
 ·rcases hb with hb|rfl
  ·have h:=hS b hb
   have hlt:=bG h
   rw[gO b hlt (fun e=>by subst e;rw[hC]at h;injection h with h;injection h with _ e2 _;exact hty e2)];exact h
  ·exact gN _ (by omega) (by omega)
 ·rcases hcom.kn i x hx with h|h|⟨⟨g,hg,hgm⟩,hk⟩
  ·exact .inl h
  ·exact .inr h
  ·obtain⟨q',hq1,hq2⟩:=hover i g hg (by omega) ⟨x,hx,hmm,.inl hk⟩
   obtain⟨z,hz,hzg⟩:=Ae.1 hq1
   exact .inl ⟨q',z,hz,hzg,.inr hq2⟩
 ·obtain⟨h1,c,ty,h2⟩:=hKp b o hb ho
  have hlt:=bG h2
  by_cases e:b=p.C
  ·subst e
   rw[hC]at h2
   injection h2 with h2;injection h2 with e1 e2 e3
   subst e1;subst e2
   have hz:cs0.size=0:=by injection e3 with _ e4;exact e4.symm
   have hcz:cs.size=0:=by omega
   exact⟨(hstay _ (by omega) (.inr (by omega))).trans h1,cs,p.ety,by rw[gC,hcz]⟩
  ·exact⟨(hstay b (by omega) (.inl e)).trans h1,c,ty,(gO b hlt e).trans h2⟩
theorem aUy{g0:Goroutine}{g1:Nat→Goroutine}{v:World}(hrun:g0.status=.running)
  (halloc:∀ v1 w,Env v v1→OkV v1→Sim v1 w→stepG P true g0 w=.go (g1 w.heap.size) { w with heap:=w.heap.push (wgBlock L.tWg 0 0) } #[])
  (hC:∃ cs:Array Value,v.heap[p.C]? = some (.cells cs p.ety (0,0))∧cs.size=p.tot) (hty:p.ety≠0) (hn:p.n<2147483648)
  (hscr:∀ v1,Env v v1→OkV v1→∃ An:Goroutine→Prop,(∀ g,An g→Dl P true (cU L.tWg v1.heap.size) (dO v1.heap.size) (fun d g=>d=1∧xG P L v1.heap.size (KF P W0 Post p v1) An d g) 1 g) ∧
   rF P L v1.heap.size p (KF P W0 Post p v1) An p.n (g1 v1.heap.size) (inV v1 p.C)):dY P W0 Post g0 v:=by
 refine zL hrun fun v1 w he hok hsim hKp=>.inl ⟨_,_,_,halloc v1 w he hok hsim,fun S gs sl t q hS hg0 hL hP hTd=>?_⟩
 have et:t++BK 0 g0.frame.fn g0.frame.place #[]=t:=by rw[ofEvents_eq];simp
 rw[et]at hL ⊢
 obtain⟨cs0,hC,hCs⟩:=hC
 have hC1:v1.heap[p.C]? = some (.cells cs0 p.ety (0,0)):=by rw[he.get (bG hC)];exact hC
 have hClt:=bG hC1
 have hsz:v1.heap.size=w.heap.size:=hsim.size
 obtain⟨An,hAn,hscr⟩:=hscr v1 he hok
 rw[hsz]at hAn hscr
 have hlt0:0<gs.size:=(AQ.1 hg0).1
 have hwC:∃ f,w.heap[p.C]? = some (.cells cs0 p.ety f)∧(cs0.size≠0→f=(0,0)):=by
  rcases hsim.blk _ _ hC1 with e|e|⟨c,e',f',e,h⟩
  ·injection e with e1 e2 e3;exact absurd e2 hty
  ·exact⟨_,e,fun _=>rfl⟩
  ·injection e with e1 e2 e3;subst e1;subst e2
   refine⟨f',h,fun hz=>?_⟩
   injection e3 with _ e4;exact absurd e4.symm hz
 have G:Geo w.heap.size p S:=⟨by omega,fun hs=>by
  have:=hS _ hs
  rw[hC1]at this;injection this with this;injection this with _ e2 _;exact hty e2⟩
 have hfar:∀ i x,touchAt t i=some x→∀ a,x.loc=.cell a→a.block<w.heap.size:=fun i x hx a e=>by
  obtain⟨op,hop,hox⟩:=touch_of hx
  have:=aCp (hP.seen op (BQ hop)) hox
  rw[e]at this;exact this
 have hpay0:aXr p { w with heap:=w.heap.push (wgBlock L.tWg 0 0) }:=by
  obtain⟨f,h1,h2⟩:=hwC
  refine⟨cs0,f,?_,hCs,h2⟩
  simp only[Bu]
  rw[Aj (by omega)];exact h1
 have hcom:∀ R:Nat→Tr,(∀ i,0<i→i<gs.size→R i=Tr.nat (q i))→Com P L w.heap.size p S { w with heap:=w.heap.push (wgBlock L.tWg 0 0) } gs.size 0 gs { w with heap:=w.heap.push (wgBlock L.tWg 0 0) } t (fun _=>⟨0,0,0⟩) R (fun _=>inV v1 p.C) 0:=fun R hR=>by
  have a0:∀ k,gQ gs.size 0 k→k=0:=fun k hk=>hk.elim id fun x=>by omega
  have hfree:∀ l,¬dH (ShW S w.heap.size) l→Perm t 0 l:=fun l hl i x hx e=>by
   rcases hP.known i x hx (hTd.mem i x hx)with h|⟨h,_⟩
   ·exact h
   ·refine absurd ?_ hl
    rw[←e]
    cases hx':x.loc with
    |cell a=>rw[hx']at h;exact .inl h
    |_=>rw[hx']at h;exact h.elim
  refine⟨hlt0,rfl,fun i hi=>by omega,fun i h1 h2=>?_,fun i hi=>hL.above i hi,⟨fun i op x hop hx hs=>?_,fun k h1 h2 l hl=>absurd hl.2.1 (by have:=hl.1;omega),fun k h1 h2 l hl=>absurd hl.2.1 (by have:=hl.1;omega),fun l hl _=>hfree l hl,fun l hl _=>PermW.of (hfree l hl),hP.clean,fun i op hop=>by have:=hTd.num i op hop;omega⟩,
   fun i hi=>?_,hP.hears,fun i hi=>by omega,fun i hi=>by omega,fun i hi=>by omega,hpay0,⟨fun k hk=>bNp hsim _ _,fun k hk=>bDy _ _,fun k k' hk hk' hne=>absurd ((a0 k hk).trans (a0 k' hk').symm) hne⟩,fun k hk b hb=>aDu (by omega),fun k hk=>aRx hClt,fun k hk b hb=>?_,fun b hb hne=>rfl,⟨rfl,rfl,rfl⟩,fun i x hx=>?_,hTd.mem,fun i g hg hne _ hc=>hP.over i g hg hne hc,fun op hop=>MemAct.low_mono (by simp) (hP.seen op hop)⟩
  ·obtain⟨g,hg⟩:∃ g,gs[i]? = some g:=⟨_,Ak h2⟩
   exact⟨g,q i,hg,hR i h1 h2,hL.old i g h1 hg⟩
  ·have hxt:touchAt t i=some x:=by rw[touchAt_of hop];exact hx
   refine hTd.quiet i op x hop hx ?_
   cases hx':x.loc with
   | cell a =>
    rw[hx']at hs
    rcases hs with hs|hs
    ·exact hs
    ·have:=hfar i x hxt a hx';omega
   |_=>rw[hx']at hs;exact hs.elim
  ·obtain⟨op,hop,hoa⟩:=Ae.1 hi
   have:=hP.seen op (BQ hop)
   rw[hoa]at this
   exact absurd this (Nat.lt_irrefl _)
  ·rcases hb with hb|rfl
   ·exact bDz (hS b hb)
   ·rw[←hsz];exact aGk _ _
  ·rcases hP.known i x hx (hTd.mem i x hx)with h|⟨h,hk⟩
   ·exact .inl h
   ·refine .inr (.inl ⟨?_,hk⟩)
    cases hx':x.loc with
    |cell a=>rw[hx']at h;exact .inl h
    |_=>rw[hx']at h;exact h.elim
 have hwg:({ w with heap:=w.heap.push (wgBlock L.tWg 0 0) }:World).heap[w.heap.size]? = some (wgBlock L.tWg 0 0):=by simp
 have hmode:∀ tag,isOpen tag→pend tag=0→(∀ vs,tag≠.w2 vs)→D9 0 (fun _=>(⟨0,0,0⟩:WD)) tag 0 0:=fun tag h1 h2 h3=>by
  have:=ConcN.Mode.opn (j:=0) (D:=fun _=>(⟨0,0,0⟩:WD)) h1 (fun i hi=>by omega) (fun vs e=>absurd e (h3 vs))
  simpa[Vc,sumTo,h2]using this
 have hrest:∀ μ M t,Inv P L w.heap.size p (KF P W0 Post p v1) An S { w with heap:=w.heap.push (wgBlock L.tWg 0 0) } gs.size μ M t→dI P Post M t :=
  bLl (fun g h=>h.1) hAn G hn fun gs' w' sl' R V D a t' ha hk hcom' hwg' hq hacq=>bTc hsim hok hKp hS hC1 hCs hty ha hk hcom' hwg' hq hacq
 cases hpn:p.n with
 | zero =>
  rw[hpn]at hscr
  obtain⟨tr,hk⟩:=hscr
  refine hrest _ _ _ ⟨gs,_,sl,0,_,fun i=>if i=0 then tr else Tr.nat (q i),_,.w1,0,_,0,0,rfl,hg0,?_,hcom _ fun i h0 _=>Aj (by omega),hwg,hmode .w1 trivial rfl (by simp),by simp,rfl⟩
  have:=CS.w1 (p:=p) hk
  rw[hpn]at this
  exact this
 | succ r =>
  rw[hpn]at hscr
  obtain⟨tr,hk⟩:=hscr
  refine hrest _ _ _ ⟨gs,_,sl,0,_,fun i=>if i=0 then tr else Tr.nat (q i),_,.sp r 4,0,_,0,0,rfl,hg0,?_,hcom _ fun i h0 _=>Aj (by omega),hwg,hmode (.sp r 4) trivial rfl (by simp),by simp,rfl⟩
  have:=CS.a1 (p:=p) (r:=r) (by omega) hk
  rw[show p.n-(r+1)=0 by omega]at this
  exact this
end
end Go.Am
end
section
open List renaming map_map→ζ,mapM_map→ξ
namespace Go.Am
open Go.Conc
section
variable {P:Program} [M:Mch P]
theorem aQj{Win:Goroutine→World→Prop}(hW:M.Fam Win){ops:Array Oper}{b:Frame}{k:List Item}{cs:List Frame}(hb:mG b){Q:Exit→Act→World→Prop}{r:Nat}:∀(l:List Oper) (n:Nat) (a:Act) (v:World),OkV v→(∀ j o,l[j]? = some o→ops[n+j]? = some o)→gR P ops Q l a v →
  (∀ a' v',OkV v'→Q .normal a' v'→Win (G (b.at a' (.inRegion ops (De (n+l.length) r)::k)) cs) v')→Win (G (b.at a (.inRegion ops (De n (l.length+r))::k)) cs) v
 |[],n,a,v,hv,_,h,hk=>by simpa using hk a v hv h
 | o::l,n,a,v,hv,hl,h,hk=>by
  have ho:ops[n]? = some o:=by simpa using hl 0 o rfl
  have ih:=fun a v hv h=>aQj hW hb (Q:=Q) (r:=r) l (n+1) a v hv (fun j o hj=>by have:=hl (j+1) o (by simpa using hj);rw[←this];congr 1;omega) h (fun a' v' hv' hq=>by have:=hk a' v' hv' hq;rwa [show n+1+l.length=n+(o::l).length by simp;omega])
  rw[show(o::l).length+r=(l.length+r)+1 by simp;omega,List.range'_succ]
  unfold gR at h
  split at h
  ·rename_i hw
   exact aEr hW hb ho hw hv h fun a' v' hv' h'=>ih a' v' hv' h'
  ·rename_i hw
   exact sQ hW ho hw hv (ih _ v hv h)
theorem aMl{Win:Goroutine→World→Prop}(hW:M.Fam Win){Gx:Ctx}{N:Nat}{ds:List Deferred}{σ:St}{a:Act}{v:World}{id:Nat}{ops:Array Oper}{l1 l2:List Oper}{b:Frame}{k:List Item}{cs:List Frame}{Q:St→Prop}
  (hb:mG b) (hops:ops.toList=l1++l2) (hdst:∀ o∈l1,∀ d,o.dst=some d→d<N∧Gx.Z d=none) (hsr:SR Gx N ds σ a v) (h:OWd P ops l1 σ [] (fun σ' con=>aCh σ' con Q .mk) .mk)
  (hk:∀ σ' a' v',OkV v'→Q σ'→SR Gx N ds σ' a' v'→Win (G (b.at a' (.inRegion ops (De l1.length l2.length)::k)) cs) v'):Win (G (b.at a (.code (.region id ops false)::k)) cs) v:=by
 have hv:OkV v:=hsr.2.2.1
 refine aQ hW rfl hv (fun w=>stepG_region) ?_
 have hsz:ops.size=l1.length+l2.length:=by rw[←Array.length_toList,hops,List.length_append]
 rw[List.range_eq_range',hsz]
 obtain⟨hn0,hwf,hag⟩:=pW hsr
 obtain⟨h1,h2⟩:=hag σ.H fun _ _ h=>h
 have:=aFq (k:=fun σ' con=>Q (fin σ' con)) (Q':=fun e a' v'=>e=.normal∧∃ σ',Q σ'∧SR Gx N ds σ' a' v') (fun σ' con' s a w hq hn' hwf' hag' hr=>⟨rfl,_,hq,aBi hn' hwf' hag' hr⟩) l1 σ [] _ a v hdst hn0 hwf h1 h2 h
 refine aQj hW hb l1 0 a v hv (fun j o hj=>?_) this fun a' v' hv' hq=>?_
 ·rw[AB,←Array.getElem?_toList,hops,List.getElem?_append_left (Aq.1 hj).1];exact hj
 ·obtain⟨_,σ',hq1,hq2⟩:=hq
  rw[AB]
  exact hk σ' a' v' hv' hq1 hq2
end
theorem aHj{v:World}{N:Nat}{a:Act}{sl:List (Nat×AV)}{Z:Nat→Option Value}(hok:OkV v)(hN:a.tmps.size=N)(hZ:∀ t x,Z t=some x→a.tmps.getD t undef=x)
  (hs:∀ t,V (fun b=>b<v.heap.size) v (fun _=>none) (kB sl t) (a.tmps.getD t undef)):SR ⟨v,fun b=>b<v.heap.size,bD,fun _=>True,Z⟩ N a.defers (StL sl none []) a v:=by
 have hH:∀ id,(StL sl none []).H id=none:=fun id=>by
  cases id<;>simp[StL,bPi,xD]
 refine⟨fun id _=>hH id,fun h=>by simp[StL]at h,hok,fun b=>b<v.heap.size,fun _=>none,⟨.refl _ _ _,fun b h=>h,fun b h=>.inl h,fun _ _ h=>by simp at h,fun _ _ _ h=>by simp at h,fun _ _ _ h=>by simp at h,fun _ _ _ _ _ h=>by simp at h⟩,fun id=>by rw[hH];simp,hs,⟨hN,hZ⟩,rfl,fun _ h=>by simp at h⟩
theorem sV{F:Nat→Prop}{v:World}{ι:Nat→Option Nat}{T:Nat→Value}:∀(sl:List (Nat×AV)),(∀ x∈sl,V F v ι x.2 (T x.1))→∀ t,V F v ι (kB sl t) (T t)
 |[],_,t=>by exact .any _
 | (n,x)::sl,h,t=>by
  have ih:=sV sl (fun y hy=>h y (List.mem_cons_of_mem _ hy)) t
  have h0:=h (n,x) (List.mem_cons_self ..)
  by_cases e:t=n
  ·subst e;rw[kB,upd_same];exact h0
  ·rw[kB,upd_ne _ _ e];exact ih
end Go.Am
end
section
open List renaming map_map→ζ,mapM_map→ξ
namespace Go.Am
open Go Go.Conc.Lib Go.Proofs
def bP:WgLink:={ add:=71,done:=73,wait:=75,relMerge:=107,disable:=108,enable:=109,inBubble:=110,associate:=111,fatal:=112,uOr:=113,uAdd:=114,raceRead:=115,uLoad:=116,uStore:=117,disassociate:=118,semrelease:=119,acquire:=122,isAssociated:=123,uCas:=124,raceWrite:=125,semacquire:=126,orU64:=165,addU64:=166,loadU64:=167,storeU64:=168,casU64:=173,tWgP:=149,tUP:=151,tAssoc:=152,tWg:=119,tAU:=117,tU64:=51,tUint:=94,tU32:=89,tPU32:=155,tPAU:=199,tPU64:=201,tNoCopy:=113,tANoCopy:=114,tAlign64:=115 }
theorem aCl:WgLib Aa bP :=
  ⟨Tryz.func71,Tryz.func73,Tryz.func75,Tryz.func107,Tryz.func108,Tryz.func109,Tryz.func110,Tryz.func111,Tryz.func112,Tryz.func113,Tryz.func114,Tryz.func115,Tryz.func116,Tryz.func117,Tryz.func118,Tryz.func119,Tryz.func122,Tryz.func123,Tryz.func124,Tryz.func125,Tryz.func126,Tryz.func165,Tryz.func166,Tryz.func167,Tryz.func168,Tryz.func173,Tryz.underlying149,Tryz.runUnderlying149,Tryz.sizeOf149,Tryz.isAgg149,Tryz.zeroValue149,Tryz.underlying151,Tryz.runUnderlying151,Tryz.sizeOf151,Tryz.isAgg151,Tryz.zeroValue151,Tryz.underlying152,Tryz.runUnderlying152,Tryz.sizeOf152,Tryz.isAgg152,Tryz.zeroValue152,Tryz.underlying119,Tryz.runUnderlying119,Tryz.sizeOf119,Tryz.isAgg119,Gj,Tryz.underlying117,Tryz.runUnderlying117,Tryz.sizeOf117,Tryz.isAgg117,Tryz.zeroValue117,Tryz.underlying51,Tryz.runUnderlying51,Tryz.sizeOf51,Tryz.isAgg51,Tryz.zeroValue51,Tryz.underlying94,Tryz.runUnderlying94,Tryz.sizeOf94,Tryz.isAgg94,Tryz.zeroValue94,Tryz.underlying89,Tryz.runUnderlying89,Tryz.sizeOf89,Tryz.isAgg89,Tryz.zeroValue89,Tryz.underlying155,Tryz.runUnderlying155,Tryz.sizeOf155,Tryz.isAgg155,Tryz.zeroValue155,Tryz.underlying199,Tryz.runUnderlying199,Tryz.sizeOf199,Tryz.isAgg199,Tryz.zeroValue199,Tryz.underlying201,Tryz.runUnderlying201,Tryz.sizeOf201,Tryz.isAgg201,Tryz.zeroValue201,Tryz.underlying0,Tryz.runUnderlying0,Tryz.sizeOf0,Tryz.isAgg0,Tryz.zeroValue0,Tryz.underlying3,Tryz.runUnderlying3,Tryz.sizeOf3,Tryz.isAgg3,Tryz.zeroValue3,Tryz.underlying4,Tryz.runUnderlying4,Tryz.sizeOf4,Tryz.isAgg4,Tryz.zeroValue4,Tryz.underlying9,Tryz.runUnderlying9,Tryz.sizeOf9,Tryz.isAgg9,Tryz.zeroValue9,Tryz.underlying20,Tryz.runUnderlying20,Tryz.sizeOf20,Tryz.isAgg20,Tryz.zeroValue20,Tryz.underlying21,Tryz.runUnderlying21,Tryz.sizeOf21,Tryz.isAgg21,Tryz.zeroValue21,by kernel_rfl,by kernel_rfl⟩
end Go.Am
end
section
open List renaming map_map→ζ,mapM_map→ξ
open Go Go.Am Go.Proofs
namespace Go.Am
open Go.Conc Go.Conc.Lib Go.RowKit Go.ConcR.Gen
open Go.ConcR (KK wgBlock stA smA rd wr mk)
noncomputable def bot:Frame:={ (default:Frame)with fn:=Aa.funcs.size,defers:=[],mode:=.panicking [goexitEntry] }
def bY(b:Nat):Value:=.pointer (some ⟨b,0,none⟩)
def aCm(Wg Ba Bp Bi Br:Nat):Deferred:={ target:=.fn (.func 72) #[bY Wg,bY Ba,bY Bp,bY Bi,bY Br],args:=#[] }
noncomputable def bGj:Code:=Tryz.f72.body.getD .skip
theorem aXf(Wg Ba Bp Bi Br:Nat)(w:World):stepG Aa false (born Aa (aCm Wg Ba Bp Bi Br)) w =
    .go (G ((baseD 72).at ⟨#[bY Wg,bY Ba,bY Bp,bY Bi,bY Br]++AX 14 undef,[]⟩ [.code bGj]) [bot]) w #[]:=by
  simp[born,aCm,stepG,unwind,callDeferred,invoke,callFunc,Tryz.func72,Tryz.f72,seen,Cp,G,CP,Frame.at,baseD,bot,bGj]
theorem aUr(T:Array Value)(todo:List Item):QuitsD Aa 2 0 (G { (baseD 72).at ⟨T,[]⟩ todo with mode:=.returning } [bot]):=by
  refine QuitsD.ctl (g':=G bot []) rfl (fun w=>?_) ?_
  · simp[G,stepG,unwind,doReturn,results,Frame.at,baseD,bot,Tryz.func72,Tryz.f72,seen,Cp,goexitEntry]
  refine QuitsD.ctl (g':={ G bot []with status:=.finished }) rfl (fun w=>?_) ⟨rfl,rfl⟩
  simp[G,stepG,unwind,bot,goexitEntry,Frame.catches]
  rfl
theorem aSa{F:Nat→Prop}{w:World}{ι:Nat→Option Nat}{cs:List D}{v:Value}(h:VD F w (.pt cs) v):V F w ι (.fp cs) v:=by
  cases h with
  |pt cs ad f hF hcell hel=>exact .fp cs ad f hF hcell hel
theorem v_i{F:Nat→Prop}{w:World}{ι:Nat→Option Nat}{k:IntKind}{n:Int}{v:Value}(h:V F w ι (.d (.i k n)) v):v=.int k n:=by
  cases h with|d _ _ h=>cases h;rfl
theorem nZ{F:Nat→Prop}{w:World}{ι:Nat→Option Nat}{x v:Value}(h:V F w ι (.d (.lit x)) v):v=x:=by
  cases h with|d _ _ h=>cases h;rfl
abbrev aXp(Wg:Nat)(p:Pl)(i:Nat):=GoW Aa false (fun _=>True) noE (fun d g _=>bRa Aa bP Wg p i d g)
set_option maxRecDepth 100000 in
set_option maxHeartbeats 4000000 in
theorem aYh{Wg Ba Bp Bi Br:Nat}{p:Pl}{i:Nat}{v:World}{c0 c1 c2:D}{pr rp rv er:Int}{sv:Value}(hok:OkV v)
    (hBa:VD (fun b=>b<v.heap.size) v (.pt [c0,c1,c2]) (bY Ba)) (hBp:VD (fun b=>b<v.heap.size) v (.pt [.i .u64 pr]) (bY Bp)) (hBi:VD (fun b=>b<v.heap.size) v (.pt [.i .i64 i]) (bY Bi)) (hBr:VD (fun b=>b<v.heap.size) v (.pt [.lit sv]) (bY Br))
    (hsp:letI:=lN Aa false;Spec Aa 74 [.ag [c0,c1,c2],.i .u64 pr] (.tp [.ag [.i .u64 rp,.i .u64 rv],.i .i64 er]))
    (hlast:∀(a:Act) (v':World) (ops:Array Oper) (o6 o7:Oper),OkV v'→ops[5]? = some o6→ops[6]? = some o7→o6.op=.indexAddr 27 (.tmp 13) (.tmp 14)→o6.dst=some 18→o6.guard=none→o7.op=.store 78 (.tmp 18) (.tmp 17)→o7.dst=none→o7.guard=none →
      a.tmps.size=19→a.defers=[dcall 73 #[bY Wg]]→a.tmps.getD 13 undef=sv→a.tmps.getD 14 undef=.int .i64 i→a.tmps.getD 17 undef=.agg #[.int .i64 i,.int .u64 rp,.int .u64 rv] →
      aXp Wg p i (G ((baseD 72).at a [.inRegion ops [5,6]]) [bot]) v') :
    aXp Wg p i (born Aa (aCm Wg Ba Bp Bi Br)) v:=by
  letI:=lN Aa false
  have hW:(lN Aa false).Fam (aXp Wg p i):=.inl ⟨_,_,_,fun _ _ _ _ h _=>h,rfl⟩
  have hb:mG (baseD 72):=.inr rfl
  refine aQ hW rfl hok (fun w=>aXf Wg Ba Bp Bi Br w) ?_
  simp only[bGj,Tryz.f72,AU]
  refine aQ hW rfl hok (fun w=>stepG_seq) ?_
  refine aQ hW rfl hok (fun w=>stepG_region) ?_
  refine aQ hW rfl hok (fun w=>stepG_defer rfl rfl (by k_ne) rfl) ?_
  walk_nrm
  refine aQ hW rfl hok (fun w=>stepG_region_end) ?_
  refine aQ hW rfl hok (fun w=>stepG_seq) ?_
  refine cJ (G:=⟨v,fun b=>b<v.heap.size,bD,fun _=>True,fun _=>none⟩) (N:=19) (ds:=[dcall 73 #[bY Wg]]) aW (fun _=>rfl) _
    (fun e σ=>e=.normal∧∃ id,σ.Γ 5=.ptr id 0∧σ.H id=some (.cells 76 [.d (.i .u64 rp),.d (.i .u64 rv)])∧σ.Γ 3=.fp [.i .i64 i]∧σ.Γ 4=.fp [.lit sv])
    (StL [(1,.fp [c0,c1,c2]),(2,.fp [.i .u64 pr]),(3,.fp [.i .i64 i]),(4,.fp [.lit sv])] none []) _ v (by kernel_rfl) (by kernel_rfl) ?hawp
    ?hsr _ hW hok _ _ _ hb fun e a' v' hv' hq=>?_
  case hsr =>
    refine aHj (Z:=fun _=>none) hok rfl (fun _ _ h=>by simp at h) (sV _ ?_)
    simp only[EJ]
    exact⟨aSa hBa,aSa hBp,aSa hBi,aSa hBr,fun _ h=>by simp at h⟩
  case hawp =>
    simp[-ζ,-ξ,↓KW]
    refine aH hsp ?_
    simp[-ζ,-ξ,↓KW]
  obtain⟨σ,⟨rfl,id,h5,hH,h3,h4⟩,hsr⟩:=hq
  simp only[nY]
  refine aMl hW hb (l1:=List.take 5 _) (l2:=List.drop 5 _) (List.take_append_drop 5 _).symm ?hdst hsr (Q:=fun σ'=>σ'.Γ 13=.d (.lit sv)∧σ'.Γ 14=.d (.i .i64 i)∧σ'.Γ 17=.ag [.d (.i .i64 i),.d (.i .u64 rp),.d (.i .u64 rv)]) ?how fun σ' a'' v'' hv'' hq hsr'=>?_
  case hdst =>
    intro o ho d hd
    simp at ho
    rcases ho with rfl|rfl|rfl|rfl|rfl<;>simp at hd<;>subst hd<;>exact⟨by decide,rfl⟩
  case how =>
    simp only[List.take_succ_cons,List.take_zero]
    simp[-ζ,-ξ,↓KW,h5,hH,h3,h4]
  obtain⟨q13,q14,q17⟩:=hq
  obtain⟨_,_,_,F,ι,hR,_,hV,⟨hN,_⟩,hds,_⟩:=hsr'
  have e13:a''.tmps.getD 13 undef=sv:=by
    have h:=hV 13;rw[q13]at h
    exact nZ h
  have e14:a''.tmps.getD 14 undef=.int .i64 i:=by
    have h:=hV 14;rw[q14]at h
    exact v_i h
  have e17:a''.tmps.getD 17 undef=.agg #[.int .i64 i,.int .u64 rp,.int .u64 rv]:=by
    have h:=hV 17;rw[q17]at h
    generalize a''.tmps.getD 17 undef=x at h
    cases h with
    | ag cs vs hl h =>
      have h0:vs[0]? = some (.int .i64 i):=by
        have hx:=Ak (xs:=vs) (i:=0) (by simp at hl;omega)
        rw[hx,v_i (h 0 _ _ rfl hx)]
      have h1:vs[1]? = some (.int .u64 rp):=by
        have hx:=Ak (xs:=vs) (i:=1) (by simp at hl;omega)
        rw[hx,v_i (h 1 _ _ rfl hx)]
      have h2:vs[2]? = some (.int .u64 rv):=by
        have hx:=Ak (xs:=vs) (i:=2) (by simp at hl;omega)
        rw[hx,v_i (h 2 _ _ rfl hx)]
      congr 1
      apply FU
      intro k
      match k with
      |0=>exact h0
      |1=>exact h1
      |2=>exact h2
      |k+3=>rw[C7 (by simp at hl;omega)];simp
  show aXp Wg p i (G ((baseD 72).at a'' [.inRegion _ [5,6]]) [bot]) v''
  exact hlast a'' v'' _ _ _ hv'' (by rfl) (by rfl) rfl rfl rfl rfl rfl rfl hN hds e13 e14 e17
end Go.Am
end
section
open List renaming map_map→ζ,mapM_map→ξ
namespace Go.Am
open Go.Conc
structure aMc(C o:Nat)(vs:List Value)(t:TypeId)(cur:Array Value)(w w':World):Prop where
 tape:w'.tape=w.tape
 os:w'.os=w.os
 output:w'.output=w.output
 size:w'.heap.size=w.heap.size
 block:∀ b,b≠C→w'.heap[b]? = w.heap[b]?
 new:∃ cur':Array Value,w'.heap[C]? = some (.cells cur' t (0,0))∧cur'.size=cur.size∧(∀ r v,vs[r]? = some v→cur'[o+r]? = some v)∧∀ k,(k<o∨o+vs.length≤k)→cur'[k]? = cur[k]?
theorem oH{P:Program}{C o:Nat}{t:TypeId}:∀(vs:List Value) (i:Nat) (cur:Array Value) (w:World) (es:Array Event),w.heap[C]? = some (.cells cur t (0,0))→o+i+vs.length≤cur.size→(∀ v∈vs,v.oneCell'=true) →
  ∃ w' es',(storeCells ⟨C,o,none⟩ vs i).runT P w es=(.ok () w',es++es')∧aMc C (o+i) vs t cur w w'∧∀ e∈es',∃ r,r<vs.length∧e=⟨.cell ⟨C,o+i+r,none⟩,true,false⟩
 |[],i,cur,w,es,hC,_,_=>⟨w,#[],by simp[storeCells,Eu],⟨rfl,rfl,rfl,rfl,fun _ _=>rfl,cur,hC,rfl,fun r v h=>by simp at h,fun _ _=>rfl⟩,by simp⟩
 | v::vs,i,cur,w,es,hC,hl,h1=>by
  have hi:o+i<cur.size:=by simp at hl;omega
  have hadd:(⟨C,o,none⟩:Addr).add i=⟨C,o+i,none⟩:=gU _ _ _
  have hcell:w.cell? ⟨C,o+i,none⟩=some cur[o+i]:=by simp[Bw,hC,hi]
  have hfro:w.frozen? ⟨C,o+i,none⟩=false:=by simp[C6,hC]
  have hC':(w.setCell ⟨C,o+i,none⟩ v).heap[C]? = some (.cells (cur.setIfInBounds (o+i) v) t (0,0)):=by
   rw[dF,if_pos rfl,hC];simp[bKg]
  obtain⟨w',es',hr,hp,he⟩:=oH (P:=P) (C:=C) (o:=o) (t:=t) vs (i+1) (cur.setIfInBounds (o+i) v) (w.setCell ⟨C,o+i,none⟩ v) (es.push ⟨.cell ⟨C,o+i,none⟩,true,false⟩) hC' (by simp at hl ⊢;omega) (fun x hx=>h1 x (by simp[hx]))
  have hv:=h1 v (by simp)
  refine⟨w',#[⟨.cell ⟨C,o+i,none⟩,true,false⟩]++es',?_,⟨hp.tape,hp.os,hp.output,hp.size.trans (by simp[EW]),fun b hb=>(hp.block b hb).trans (by rw[dF,Aj hb]),?_⟩,?_⟩
  ·have hs:∀ k:Sem Unit,(Sem.store .plain ⟨C,o+i,none⟩ v k).runT P w es=k.runT P (w.setCell ⟨C,o+i,none⟩ v) (es.push ⟨.cell ⟨C,o+i,none⟩,true,false⟩):=by
    intro k
    cases v<;>first|(simp[Cs]at hv;done)|(simp only[Eu,hcell,hfro];rfl)
   show(Ec (store ((⟨C,o,none⟩:Addr).add i) v) fun _=>storeCells ⟨C,o,none⟩ vs (i+1)).runT P w es=_
   rw[hadd]
   simp only[store,Ec]
   rw[hs,hr];simp
  ·obtain⟨cur',g1,g2,g3,g4⟩:=hp.new
   refine⟨cur',g1,by simpa using g2,fun r x hx=>?_,fun k hk=>?_⟩
   ·cases r with
    | zero =>
     simp at hx;subst hx
     rw[Nat.add_zero,g4 _ (.inl (by omega))]
     simp[hi]
    |succ r=>rw[show o+i+(r+1)=o+(i+1)+r by omega];exact g3 r x (by simpa using hx)
   ·simp only[Ah]at hk
    rw[g4 k (by omega),AF (by omega)]
  ·intro e hx
   rcases Array.mem_append.1 hx with hx|hx
   ·simp at hx;subst hx;exact⟨0,by simp,by simp⟩
   ·obtain⟨r,hr',rfl⟩:=he e hx
    exact⟨r+1,by simp;omega,by rw[show o+(i+1)+r=o+i+(r+1)by omega]⟩
theorem bSy{P:Program}{a:Act}{o:Oper}{x y:Operand}{t:TypeId}{C off n:Nat}{vs cur:Array Value}{e:TypeId}{w:World}(hop:o.op=.store t x y)(hx:a.eval x=.pointer (some ⟨C,off,none⟩))(hy:a.eval y=.agg vs)(hvs:vs.size=n)
  (h1:∀ v∈vs.toList,v.oneCell'=true) (hsz:∀ w es,(sizeOf t).runT P w es=(.ok n w,es)) (hC:w.heap[C]? = some (.cells cur e (0,0))) (hfit:off+n≤cur.size) :
  ∃ w' es,(execOp a.eval o).run P w=.ok .skip w'∧(execOp a.eval o).events P w #[]=es∧aMc C off vs.toList e cur w w'∧∀ ev∈es,∃ r,r<n∧ev=⟨.cell ⟨C,off+r,none⟩,true,false⟩:=by
 obtain⟨w',es',hr,hp,he⟩:=oH (P:=P) (C:=C) (o:=off) (t:=e) vs.toList 0 cur w #[] hC (by simp;omega) h1
 have hT:(execOp a.eval o).runT P w #[]=(.ok .skip w',#[]++es'):=by
  unfold execOp
  simp only[hop,hx,hy,Instr.storeAt,Instr.sureAddr,storeVar,DY]
  show(Ec _ _).runT P w #[]=_
  simp only[Sem.runT_bind',Bind.bind,Ec,Pure.pure,hsz,hvs,ne_eq,not_true_eq_false,Ay,hr]
  simp[Eu]
 have hE:=C3 P (execOp a.eval o) w #[]
 rw[hT]at hE
 refine⟨w',es',(congrArg Prod.fst hE).symm,by have:=congrArg Prod.snd hE;simpa using this.symm,by simpa using hp,fun ev hev=>?_⟩
 obtain⟨r,h2,h3⟩:=he ev hev
 exact⟨r,by simpa[hvs]using h2,by simpa using h3⟩
end Go.Am
end
section
open List renaming map_map→ζ,mapM_map→ξ
namespace Go.Am
open Go.Conc Go.ConcR.Gen Go.Conc.Lib Go.RowKit Go.ConcR
open Go
end Go.Am
end
section
open List renaming map_map→ζ,mapM_map→ξ
open Go Go.Am Go.Proofs
namespace Go.Am
open Go.Conc Go.Conc.Lib Go.RowKit Go.ConcR.Gen
open Go.ConcR (KK wgBlock stA smA rd wr mk)
def bYc(Wg:Nat):Prop:=∀{c:Frame} {cs:List Frame} {q:Nat},c.mode=.returning→QuitsD Aa q 0 (G c cs) →
    Dl Aa false (cU bP.tWg Wg) noE (vY Aa bP Wg) 0 (G ((baseD bP.done).at ⟨#[.pointer (some ⟨Wg,0,none⟩),undef,undef,undef],[]⟩ [.code (body_done bP)]) (c::cs))
theorem bKp{α:Type}{P:Program}{s:Sem α}{r:α}(h1:∀ w,s.run P w=.ok r w)(h2:∀ w es,s.events P w es=es)(w:World)(es:Array Event):s.runT P w es=(.ok r w,es):=by
  rw[C3,h1,h2]
theorem bSh(w:World)(es:Array Event):(sizeOf 78).runT Aa w es=(.ok 3 w,es):=by
  refine bKp Tryz.sizeOf78 (fun w es=>?_) w es
  simp[sizeOf,typeInfo,go_sem]
  split<;>simp[stuck]
theorem bXk{a:Act}{o:Oper}{C n cap i:Nat}(hop:o.op=.indexAddr 27 (.tmp 13) (.tmp 14))(hx:a.tmps.getD 13 undef=.slice (some ⟨C,0,none⟩) n cap)(hy:a.tmps.getD 14 undef=.int .i64 i)(hi:i<n)(w:World) :
    (execOp a.eval o).run Aa w=.ok (.value (.pointer (some ⟨C,i*3,none⟩))) w∧(execOp a.eval o).events Aa w #[]=#[]:=by
  have hx':a.eval (.tmp 13)=.slice (some ⟨C,0,none⟩) n cap:=hx
  have hy':a.eval (.tmp 14)=.int .i64 i:=hy
  have h0:(0:Int)≤i:=by omega
  have h1:(i:Int)<n:=by omega
  have ha:(⟨C,0,none⟩:Addr).add (i*3)=⟨C,i*3,none⟩:=by rw[gU,AB]
  unfold execOp
  simp only[hop,hx',hy']
  constructor
  · simp[go_sem,EX,Tryz.runUnderlying27,Tryz.sizeOf78,h0,h1,ha]
    intro hh;omega
  · simp[go_sem,EX,Tryz.runUnderlying27,Tryz.sizeOf78,h0,h1,ha]
    intro hh;omega
set_option maxRecDepth 100000 in
theorem aTb{Wg:Nat}{p:Pl}{i n cap:Nat}{rp rv:Int}(hdone:bYc Wg)(hwd:p.wd=3)(hi:i<p.n)(hn:p.n=n)(h0:p.val i 0=.int .i64 i)(h1:p.val i 1=.int .u64 rp)(h2:p.val i 2=.int .u64 rv)
    {a:Act} {v':World} {ops:Array Oper} {o6 o7:Oper} (hv:OkV v') (ho6:ops[5]? = some o6) (ho7:ops[6]? = some o7) (p6:o6.op=.indexAddr 27 (.tmp 13) (.tmp 14)) (d6:o6.dst=some 18) (g6:o6.guard=none) (p7:o7.op=.store 78 (.tmp 18) (.tmp 17)) (d7:o7.dst=none) (g7:o7.guard=none)
    (hN:a.tmps.size=19) (hds:a.defers=[dcall 73 #[bY Wg]]) (e13:a.tmps.getD 13 undef=.slice (some ⟨p.C,0,none⟩) n cap) (e14:a.tmps.getD 14 undef=.int .i64 i) (e17:a.tmps.getD 17 undef=.agg #[.int .i64 i,.int .u64 rp,.int .u64 rv]) :
    aXp Wg p i (G ((baseD 72).at a [.inRegion ops [5,6]]) [bot]) v':=by
  have hW:(lN Aa false).Fam (aXp Wg p i):=.inl ⟨_,_,_,fun _ _ _ _ h _=>h,rfl⟩
  letI:=lN Aa false
  have w6:Bs o6 (yielded ops a.tmps)=true:=by simp[Bs,g6]
  refine aQ hW (g':=G ((baseD 72).at (a.put o6.dst (.pointer (some ⟨p.C,i*3,none⟩))) [.inRegion ops [6]]) [bot]) rfl hv (fun w=>?_) ?_
  · have hx:=bXk p6 e13 e14 (by omega) w
    rw[stepG_value ho6 w6 (by k_ne) hx.1];unfold listed;rw[hx.2,seen_none]
  rw[d6]
  have hget:∀ t,t≠18→(a.put (some 18) (.pointer (some ⟨p.C,i*3,none⟩))).eval (.tmp t)=a.tmps.getD t undef:=fun t ht=>by
    simp[CQ,C5,Av,AF (Ea ht)]
  have h18:(a.put (some 18) (.pointer (some ⟨p.C,i*3,none⟩))).eval (.tmp 18)=.pointer (some ⟨p.C,i*3,none⟩):=by
    simp[CQ,C5,Av,hN]
  have hds':(a.put (some 18) (.pointer (some ⟨p.C,i*3,none⟩))).defers=a.defers:=rfl
  generalize a.put (some 18) (.pointer (some ⟨p.C,i*3,none⟩))=a2 at hget h18 hds'
  have w7:Bs o7 (yielded ops a2.tmps)=true:=by simp[Bs,g7]
  refine⟨.leaf,rfl,rfl,fun w hp=>?_⟩
  obtain⟨cur,f,hC,hsz,hf⟩:=hp
  have hpos:0<p.n*3:=by omega
  have hle:=p.le;rw[hwd]at hle
  have hfz:f=(0,0):=hf (by rw[hsz];omega)
  subst hfz
  have hfit:i*3+3≤cur.size:=by
    rw[hsz]
    have:(i+1)*3≤p.n*3:=Nat.mul_le_mul_right _ hi
    omega
  obtain⟨w',es,hr,he,hput,hes⟩:=bSy (P:=Aa) (n:=3) p7 h18 ((hget 17 (by decide)).trans e17) rfl (by simp[Cs]) bSh hC hfit
  refine⟨_,w',_,stepG_none ho7 w7 (by k_ne) hr,?_,fun ev hev=>?_,?_⟩
  · obtain⟨cur',g1,g2,g3,g4⟩:=hput.new
    refine⟨hput.tape,hput.os,hput.output,hput.size,hput.block,⟨cur',(0,0),g1,by rw[g2,hsz],fun _=>rfl⟩,fun o ho=>?_,fun r hr=>?_⟩
    · rw[hwd]at ho
      have:=g4 o (by simp;omega)
      simp[Bw,g1,hC,this]
    · rw[hwd]at hr
      match r,hr with
      |0,_=>rw[h0];simpa[Bw,Pl.cell,g1,hwd]using g3 0 _ rfl
      |1,_=>rw[h1];simpa[Bw,Pl.cell,g1,hwd]using g3 1 _ rfl
      |2,_=>rw[h2];simpa[Bw,Pl.cell,g1,hwd]using g3 2 _ rfl
  · have:=mem_listed hev
    rw[he]at this
    obtain⟨r,hr,rfl⟩:=hes ev this
    exact⟨r,by omega,by simp[Pl.cell,hwd]⟩
  · rw[d7]
    refine Dl.regionEnd (Dl.done ?_)
    refine Dl.ctl rfl (fun w _=>stepG_unwind_enter (hds'.trans hds) Tryz.func73 (nm_done bP) rfl) ?_
    have:=hdone (c:={ (baseD 72).at ⟨a2.tmps,[]⟩ []with mode:=.returning }) (cs:=[bot]) rfl (aUr a2.tmps [])
    simp only[body_done,doneFn,AU]at this
    exact this
end Go.Am
end
section
open List renaming map_map→ζ,mapM_map→ξ
namespace Go.Am
open Go.Conc Go.ConcR.Gen Go.Conc.Lib Go.RowKit Go.ConcR
open Go.ConcN (st_flag st_waiters)
open Go
set_option maxRecDepth 100000 in
set_option maxHeartbeats 8000000 in
theorem bJr{L:WgLink}{P:Program}(H:WgLib P L){Wg:Nat}{cs:List Frame}{b0:Frame}{a0:Act}{ops0:Array Oper}{i0:Nat}{rest0:List Nat}{k0:List Item}
    (hT:∃ q,QuitsD P q 0 (G (b0.at (a0.put ((ops0[i0]?).bind (·.dst)) (.tuple #[])) (.inRegion ops0 rest0::k0)) cs)) :
    Dl P false (cU L.tWg Wg) noE (vY P L Wg) 0 (G ((base L.add).at ⟨#[.pointer (some ⟨Wg,0,none⟩),.int .i64 (-1)]++AX 115 undef,[]⟩ [.code (body_add L)]) (b0.at a0 (.inRegion ops0 (i0::rest0)::k0)::cs)):=by
  have hT':Dl P false (fun _=>True) (fun _=>False) (fun d g=>∃ n,QuitsD P n d g) 0 (G (b0.at (a0.put ((ops0[i0]?).bind (·.dst)) (.tuple #[])) (.inRegion ops0 rest0::k0)) cs):=.here hT
  lib_facts
  simp only[body_add,addFn,AU]
  repeat (first|with_reducible refine Dl.seq ?_|((with_reducible refine Dl.region ?_);simp only[Ap,Ah,As,AN,AB,AK,AG])|with_reducible refine Dl.regionEnd ?_|with_reducible refine Dl.skip ?_|with_reducible refine Dl.ret ?_|with_reducible refine Dl.block ?_|with_reducible refine Dl.inBlock ?_|with_reducible refine Dl.loop ?_|with_reducible refine Dl.inLoop ?_|with_reducible (refine Dl.exit (by with_unfolding_all rfl) ?_)|((with_reducible (refine Dl.cond true (by with_unfolding_all rfl) ?_));simp only[AI,Ay,Ad,↓reduceIte])|((with_reducible (refine Dl.cond false (by with_unfolding_all rfl) ?_));simp only[AI,Ay,Ad,↓reduceIte]))
  (refine Dl.value _ rfl rfl (by k_ne) (fun _ _=>by(go_simp;try (first|rfl|w_num|decide))) (fun _ _=>by simp[go_sem, *]) ?_;walk_nrm)
  repeat (first|with_reducible refine Dl.seq ?_|((with_reducible refine Dl.region ?_);simp only[Ap,Ah,As,AN,AB,AK,AG])|with_reducible refine Dl.regionEnd ?_|with_reducible refine Dl.skip ?_|with_reducible refine Dl.ret ?_|with_reducible refine Dl.block ?_|with_reducible refine Dl.inBlock ?_|with_reducible refine Dl.loop ?_|with_reducible refine Dl.inLoop ?_|with_reducible (refine Dl.exit (by with_unfolding_all rfl) ?_)|((with_reducible (refine Dl.cond true (by with_unfolding_all rfl) ?_));simp only[AI,Ay,Ad,↓reduceIte])|((with_reducible (refine Dl.cond false (by with_unfolding_all rfl) ?_));simp only[AI,Ay,Ad,↓reduceIte]))
  (refine Dl.value _ rfl rfl (by k_ne) (fun _ _=>by(go_simp;try (first|rfl|w_num|decide))) (fun _ _=>by simp[go_sem, *]) ?_;walk_nrm)
  repeat (first|with_reducible refine Dl.seq ?_|((with_reducible refine Dl.region ?_);simp only[Ap,Ah,As,AN,AB,AK,AG])|with_reducible refine Dl.regionEnd ?_|with_reducible refine Dl.skip ?_|with_reducible refine Dl.ret ?_|with_reducible refine Dl.block ?_|with_reducible refine Dl.inBlock ?_|with_reducible refine Dl.loop ?_|with_reducible refine Dl.inLoop ?_|with_reducible (refine Dl.exit (by with_unfolding_all rfl) ?_)|((with_reducible (refine Dl.cond true (by with_unfolding_all rfl) ?_));simp only[AI,Ay,Ad,↓reduceIte])|((with_reducible (refine Dl.cond false (by with_unfolding_all rfl) ?_));simp only[AI,Ay,Ad,↓reduceIte]))
  (refine Dl.value _ rfl rfl (by k_ne) (fun _ _=>by(go_simp;try (first|rfl|w_num|decide))) (fun _ _=>by simp[go_sem, *]) ?_;walk_nrm)
  (refine Dl.value _ rfl rfl (by k_ne) (fun w hI=>by(have hcv:=run_convert_to_unsafe (P:=P) H.underlying_tWgP H.underlying_tUP H.room_tWg (cU.cell0 hI).choose_spec);go_simp;rfl) (fun w hI=>by(have hce:=fun es=>events_convert_to_unsafe (P:=P) H.underlying_tWgP H.underlying_tUP H.room_tWg (cU.cell0 hI).choose_spec es);simp[go_sem,hce]) ?_;walk_nrm)
  refine .here ⟨rfl,rfl,_,fun w hI=>stepG_markAt .releaseMerge (by simp) rfl rfl (by k_ne) rfl H.f_relMerge (x_relMerge_n L) (x_relMerge_b L) (x_relMerge_x L) (x_relMerge_f L) (by simp[C5,stA]),?_⟩
  walk_nrm
  repeat (first|with_reducible refine Dl.seq ?_|((with_reducible refine Dl.region ?_);simp only[Ap,Ah,As,AN,AB,AK,AG])|with_reducible refine Dl.regionEnd ?_|with_reducible refine Dl.skip ?_|with_reducible refine Dl.ret ?_|with_reducible refine Dl.block ?_|with_reducible refine Dl.inBlock ?_|with_reducible refine Dl.loop ?_|with_reducible refine Dl.inLoop ?_|with_reducible (refine Dl.exit (by with_unfolding_all rfl) ?_)|((with_reducible (refine Dl.cond true (by with_unfolding_all rfl) ?_));simp only[AI,Ay,Ad,↓reduceIte])|((with_reducible (refine Dl.cond false (by with_unfolding_all rfl) ?_));simp only[AI,Ay,Ad,↓reduceIte]))
  (refine Dl.step rfl (by(intro e he;simp at he;subst he;exact .inl rfl)) (fun w hI=>stepG_mark0 .disable (by simp) rfl rfl (by k_ne) rfl H.f_disable (x_disable_n L) (x_disable_b L) (x_disable_x L) (x_disable_f L)) ?_;walk_nrm)
  repeat (first|with_reducible refine Dl.seq ?_|((with_reducible refine Dl.region ?_);simp only[Ap,Ah,As,AN,AB,AK,AG])|with_reducible refine Dl.regionEnd ?_|with_reducible refine Dl.skip ?_|with_reducible refine Dl.ret ?_|with_reducible refine Dl.block ?_|with_reducible refine Dl.inBlock ?_|with_reducible refine Dl.loop ?_|with_reducible refine Dl.inLoop ?_|with_reducible (refine Dl.exit (by with_unfolding_all rfl) ?_)|((with_reducible (refine Dl.cond true (by with_unfolding_all rfl) ?_));simp only[AI,Ay,Ad,↓reduceIte])|((with_reducible (refine Dl.cond false (by with_unfolding_all rfl) ?_));simp only[AI,Ay,Ad,↓reduceIte]))
  (refine Dl.ctl rfl (fun w hI=>stepG_defer rfl rfl (by k_ne) rfl) ?_;walk_nrm)
  repeat (first|with_reducible refine Dl.seq ?_|((with_reducible refine Dl.region ?_);simp only[Ap,Ah,As,AN,AB,AK,AG])|with_reducible refine Dl.regionEnd ?_|with_reducible refine Dl.skip ?_|with_reducible refine Dl.ret ?_|with_reducible refine Dl.block ?_|with_reducible refine Dl.inBlock ?_|with_reducible refine Dl.loop ?_|with_reducible refine Dl.inLoop ?_|with_reducible (refine Dl.exit (by with_unfolding_all rfl) ?_)|((with_reducible (refine Dl.cond true (by with_unfolding_all rfl) ?_));simp only[AI,Ay,Ad,↓reduceIte])|((with_reducible (refine Dl.cond false (by with_unfolding_all rfl) ?_));simp only[AI,Ay,Ad,↓reduceIte]))
  (refine Dl.value _ rfl rfl (by k_ne) (fun _ _=>by(go_simp;try (first|rfl|w_num|decide))) (fun _ _=>by simp[go_sem, *]) ?_;walk_nrm)
  repeat (first|with_reducible refine Dl.seq ?_|((with_reducible refine Dl.region ?_);simp only[Ap,Ah,As,AN,AB,AK,AG])|with_reducible refine Dl.regionEnd ?_|with_reducible refine Dl.skip ?_|with_reducible refine Dl.ret ?_|with_reducible refine Dl.block ?_|with_reducible refine Dl.inBlock ?_|with_reducible refine Dl.loop ?_|with_reducible refine Dl.inLoop ?_|with_reducible (refine Dl.exit (by with_unfolding_all rfl) ?_)|((with_reducible (refine Dl.cond true (by with_unfolding_all rfl) ?_));simp only[AI,Ay,Ad,↓reduceIte])|((with_reducible (refine Dl.cond false (by with_unfolding_all rfl) ?_));simp only[AI,Ay,Ad,↓reduceIte]))
  (refine Dl.ctl rfl (fun w hI=>stepG_entry_pure (.bool false) rfl rfl (by k_ne) rfl H.f_inBubble (x_inBubble_n L) (x_inBubble_b L) (x_inBubble_x L) (x_inBubble_f L)) ?_;walk_nrm)
  repeat (first|with_reducible refine Dl.seq ?_|((with_reducible refine Dl.region ?_);simp only[Ap,Ah,As,AN,AB,AK,AG])|with_reducible refine Dl.regionEnd ?_|with_reducible refine Dl.skip ?_|with_reducible refine Dl.ret ?_|with_reducible refine Dl.block ?_|with_reducible refine Dl.inBlock ?_|with_reducible refine Dl.loop ?_|with_reducible refine Dl.inLoop ?_|with_reducible (refine Dl.exit (by with_unfolding_all rfl) ?_)|((with_reducible (refine Dl.cond true (by with_unfolding_all rfl) ?_));simp only[AI,Ay,Ad,↓reduceIte])|((with_reducible (refine Dl.cond false (by with_unfolding_all rfl) ?_));simp only[AI,Ay,Ad,↓reduceIte]))
  (refine Dl.value _ rfl rfl (by k_ne) (fun _ _=>by(go_simp;try (first|rfl|w_num|decide))) (fun _ _=>by simp[go_sem, *]) ?_;walk_nrm)
  (refine Dl.value _ rfl rfl (by k_ne) (fun _ _=>by(go_simp;try (first|rfl|w_num|decide))) (fun _ _=>by simp[go_sem, *]) ?_;walk_nrm)
  (refine Dl.value _ rfl rfl (by k_ne) (fun _ _=>by(go_simp;try (first|rfl|w_num|decide))) (fun _ _=>by simp[go_sem, *]) ?_;walk_nrm)
  (refine Dl.value _ rfl rfl (by k_ne) (fun _ _=>by(go_simp;try (first|rfl|w_num|decide))) (fun _ _=>by simp[go_sem, *]) ?_;walk_nrm)
  (refine Dl.value _ rfl rfl (by k_ne) (fun _ _=>by(go_simp;try (first|rfl|w_num|decide))) (fun _ _=>by simp[go_sem, *]) ?_;walk_nrm)
  (refine Dl.value _ rfl rfl (by k_ne) (fun _ _=>by(go_simp;try (first|rfl|w_num|decide))) (fun _ _=>by simp[go_sem, *]) ?_;walk_nrm)
  (refine Dl.call rfl rfl (by k_ne) rfl H.f_uAdd (nm_uAdd L) rfl ?_;walk_nrmf uAddFn)
  repeat (first|with_reducible refine Dl.seq ?_|((with_reducible refine Dl.region ?_);simp only[Ap,Ah,As,AN,AB,AK,AG])|with_reducible refine Dl.regionEnd ?_|with_reducible refine Dl.skip ?_|with_reducible refine Dl.ret ?_|with_reducible refine Dl.block ?_|with_reducible refine Dl.inBlock ?_|with_reducible refine Dl.loop ?_|with_reducible refine Dl.inLoop ?_|with_reducible (refine Dl.exit (by with_unfolding_all rfl) ?_)|((with_reducible (refine Dl.cond true (by with_unfolding_all rfl) ?_));simp only[AI,Ay,Ad,↓reduceIte])|((with_reducible (refine Dl.cond false (by with_unfolding_all rfl) ?_));simp only[AI,Ay,Ad,↓reduceIte]))
  (refine Dl.value _ rfl rfl (by k_ne) (fun _ _=>by(go_simp;try (first|rfl|w_num|decide))) (fun _ _=>by simp[go_sem, *]) ?_;walk_nrm)
  repeat (first|with_reducible refine Dl.seq ?_|((with_reducible refine Dl.region ?_);simp only[Ap,Ah,As,AN,AB,AK,AG])|with_reducible refine Dl.regionEnd ?_|with_reducible refine Dl.skip ?_|with_reducible refine Dl.ret ?_|with_reducible refine Dl.block ?_|with_reducible refine Dl.inBlock ?_|with_reducible refine Dl.loop ?_|with_reducible refine Dl.inLoop ?_|with_reducible (refine Dl.exit (by with_unfolding_all rfl) ?_)|((with_reducible (refine Dl.cond true (by with_unfolding_all rfl) ?_));simp only[AI,Ay,Ad,↓reduceIte])|((with_reducible (refine Dl.cond false (by with_unfolding_all rfl) ?_));simp only[AI,Ay,Ad,↓reduceIte]))
  (refine Dl.value _ rfl rfl (by k_ne) (fun _ _=>by(go_simp;try (first|rfl|w_num|decide))) (fun _ _=>by simp[go_sem, *]) ?_;walk_nrm)
  (refine Dl.value _ rfl rfl (by k_ne) (fun _ _=>by(go_simp;try (first|rfl|w_num|decide))) (fun _ _=>by simp[go_sem, *]) ?_;walk_nrm)
  (refine Dl.value _ rfl rfl (by k_ne) (fun _ _=>by(go_simp;try (first|rfl|w_num|decide))) (fun _ _=>by simp[go_sem, *]) ?_;walk_nrm)
  (refine Dl.value _ rfl rfl (by k_ne) (fun _ _=>by(go_simp;try (first|rfl|w_num|decide))) (fun _ _=>by simp[go_sem, *]) ?_;walk_nrm)
  refine .here ⟨rfl,rfl,fun w v wt hwt hv hw=>?_⟩
  have hc:w.cell? ⟨Wg,0,none⟩=some (.int .u64 (((v:Int)+1)*KK+wt)):=by simp[Bw,hw,wgBlock]
  have hz:w.frozen? ⟨Wg,0,none⟩=false:=by simp[C6,hw,wgBlock]
  have eS:Az.wrap (((v:Int)+1)*KK+wt+Az.wrap (Az.wrap (-1)*4294967296))=(v:Int)*KK+wt:=by
    have:Az.wrap (Az.wrap (-1)*4294967296)=18446744069414584320:=by decide
    rw[this,Ej];simp only[KK];omega
  refine⟨_,(stepG_add_atomic rfl rfl (by k_ne) rfl H.f_addU64 (x_addU64_n L) (x_addU64_b L) (x_addU64_x L) .u64 (x_addU64_f L) rfl rfl hc hz).trans (by rw[eS];rfl),?_⟩
  clear hw hc hz eS
  walk_nrm
  by_cases h0:v=0
  · subst h0
    obtain rfl|rfl:wt=0∨wt=1:=by omega
    · refine⟨fun h=>absurd h.2 (by decide),fun _=>Dl.quits ?_⟩
      have e0:((0:Nat):Int)*KK+((0:Nat):Int)=0:=by simp
      rw[e0]
      have e2:BC.wrap (bits BinOp.and Az 0 2147483647)=0:=by decide
      (repeat (first|(first|with_reducible refine Dl.seq ?_|((with_reducible refine Dl.region ?_);simp only[Ap,Ah,As,AN,AB,AK,AG])|with_reducible refine Dl.regionEnd ?_|with_reducible refine Dl.skip ?_|with_reducible refine Dl.ret ?_|with_reducible refine Dl.block ?_|with_reducible refine Dl.inBlock ?_|with_reducible refine Dl.loop ?_|with_reducible refine Dl.inLoop ?_|with_reducible (refine Dl.exit (by with_unfolding_all rfl) ?_)|((with_reducible (refine Dl.cond true (by with_unfolding_all rfl) ?_));simp only[AI,Ay,Ad,↓reduceIte])|((with_reducible (refine Dl.cond false (by with_unfolding_all rfl) ?_));simp only[AI,Ay,Ad,↓reduceIte]))|(refine Dl.unwanted rfl rfl ?_;walk_nrm)|(refine Dl.value _ rfl rfl (by k_ne) (fun _ _=>by(go_simp;try (first|rfl|w_num|decide))) (fun _ _=>by simp[go_sem, *]) ?_;walk_nrm)))
      (refine Dl.leave1 rfl rfl H.f_uAdd rfl ?_;walk_nrm)
      (repeat (first|(first|with_reducible refine Dl.seq ?_|((with_reducible refine Dl.region ?_);simp only[Ap,Ah,As,AN,AB,AK,AG])|with_reducible refine Dl.regionEnd ?_|with_reducible refine Dl.skip ?_|with_reducible refine Dl.ret ?_|with_reducible refine Dl.block ?_|with_reducible refine Dl.inBlock ?_|with_reducible refine Dl.loop ?_|with_reducible refine Dl.inLoop ?_|with_reducible (refine Dl.exit (by with_unfolding_all rfl) ?_)|((with_reducible (refine Dl.cond true (by with_unfolding_all rfl) ?_));simp only[AI,Ay,Ad,↓reduceIte])|((with_reducible (refine Dl.cond false (by with_unfolding_all rfl) ?_));simp only[AI,Ay,Ad,↓reduceIte]))|(refine Dl.unwanted rfl rfl ?_;walk_nrm)|(refine Dl.value _ rfl rfl (by k_ne) (fun _ _=>by(go_simp;try (first|rfl|w_num|decide))) (fun _ _=>by simp[go_sem, *]) ?_;walk_nrm)))
      (refine Dl.unwind_mark .enable rfl (by simp) rfl H.f_enable (x_enable_n L) (x_enable_b L) (x_enable_x L) (x_enable_f L) ?_)
      exact Dl.leave0 rfl rfl H.f_add rfl hT'
    · refine⟨fun _=>?_,fun h=>absurd ⟨rfl,rfl⟩ h⟩
      have e0:((0:Nat):Int)*KK+((1:Nat):Int)=1:=by simp
      rw[e0]
      have e2:BC.wrap (bits BinOp.and Az 1 2147483647)=1:=by decide
      (repeat (first|(first|with_reducible refine Dl.seq ?_|((with_reducible refine Dl.region ?_);simp only[Ap,Ah,As,AN,AB,AK,AG])|with_reducible refine Dl.regionEnd ?_|with_reducible refine Dl.skip ?_|with_reducible refine Dl.ret ?_|with_reducible refine Dl.block ?_|with_reducible refine Dl.inBlock ?_|with_reducible refine Dl.loop ?_|with_reducible refine Dl.inLoop ?_|with_reducible (refine Dl.exit (by with_unfolding_all rfl) ?_)|((with_reducible (refine Dl.cond true (by with_unfolding_all rfl) ?_));simp only[AI,Ay,Ad,↓reduceIte])|((with_reducible (refine Dl.cond false (by with_unfolding_all rfl) ?_));simp only[AI,Ay,Ad,↓reduceIte]))|(refine Dl.unwanted rfl rfl ?_;walk_nrm)|(refine Dl.value _ rfl rfl (by k_ne) (fun _ _=>by(go_simp;try (first|rfl|w_num|decide))) (fun _ _=>by simp[go_sem, *]) ?_;walk_nrm)))
      (refine Dl.leave1 rfl rfl H.f_uAdd rfl ?_;walk_nrm)
      (repeat (first|(first|with_reducible refine Dl.seq ?_|((with_reducible refine Dl.region ?_);simp only[Ap,Ah,As,AN,AB,AK,AG])|with_reducible refine Dl.regionEnd ?_|with_reducible refine Dl.skip ?_|with_reducible refine Dl.ret ?_|with_reducible refine Dl.block ?_|with_reducible refine Dl.inBlock ?_|with_reducible refine Dl.loop ?_|with_reducible refine Dl.inLoop ?_|with_reducible (refine Dl.exit (by with_unfolding_all rfl) ?_)|((with_reducible (refine Dl.cond true (by with_unfolding_all rfl) ?_));simp only[AI,Ay,Ad,↓reduceIte])|((with_reducible (refine Dl.cond false (by with_unfolding_all rfl) ?_));simp only[AI,Ay,Ad,↓reduceIte]))|(refine Dl.unwanted rfl rfl ?_;walk_nrm)|(refine Dl.value _ rfl rfl (by k_ne) (fun _ _=>by(go_simp;try (first|rfl|w_num|decide))) (fun _ _=>by simp[go_sem, *]) ?_;walk_nrm)))
      (refine Dl.call rfl rfl (by k_ne) rfl H.f_uLoad (nm_uLoad L) rfl ?_;walk_nrmf uLoadFn)
      (repeat (first|(first|with_reducible refine Dl.seq ?_|((with_reducible refine Dl.region ?_);simp only[Ap,Ah,As,AN,AB,AK,AG])|with_reducible refine Dl.regionEnd ?_|with_reducible refine Dl.skip ?_|with_reducible refine Dl.ret ?_|with_reducible refine Dl.block ?_|with_reducible refine Dl.inBlock ?_|with_reducible refine Dl.loop ?_|with_reducible refine Dl.inLoop ?_|with_reducible (refine Dl.exit (by with_unfolding_all rfl) ?_)|((with_reducible (refine Dl.cond true (by with_unfolding_all rfl) ?_));simp only[AI,Ay,Ad,↓reduceIte])|((with_reducible (refine Dl.cond false (by with_unfolding_all rfl) ?_));simp only[AI,Ay,Ad,↓reduceIte]))|(refine Dl.unwanted rfl rfl ?_;walk_nrm)|(refine Dl.value _ rfl rfl (by k_ne) (fun _ _=>by(go_simp;try (first|rfl|w_num|decide))) (fun _ _=>by simp[go_sem, *]) ?_;walk_nrm)))
      refine .here ⟨rfl,rfl,fun w hw=>?_⟩
      have hc:w.cell? ⟨Wg,0,none⟩=some (.int .u64 1):=by simp[Bw,hw,wgBlock]
      refine⟨_,stepG_load_atomic rfl rfl (by k_ne) rfl H.f_loadU64 (x_loadU64_n L) (x_loadU64_b L) (x_loadU64_x L) .u64 (x_loadU64_f L) rfl hc,?_⟩
      clear hc hw
      walk_nrm
      (repeat (first|(first|with_reducible refine Dl.seq ?_|((with_reducible refine Dl.region ?_);simp only[Ap,Ah,As,AN,AB,AK,AG])|with_reducible refine Dl.regionEnd ?_|with_reducible refine Dl.skip ?_|with_reducible refine Dl.ret ?_|with_reducible refine Dl.block ?_|with_reducible refine Dl.inBlock ?_|with_reducible refine Dl.loop ?_|with_reducible refine Dl.inLoop ?_|with_reducible (refine Dl.exit (by with_unfolding_all rfl) ?_)|((with_reducible (refine Dl.cond true (by with_unfolding_all rfl) ?_));simp only[AI,Ay,Ad,↓reduceIte])|((with_reducible (refine Dl.cond false (by with_unfolding_all rfl) ?_));simp only[AI,Ay,Ad,↓reduceIte]))|(refine Dl.unwanted rfl rfl ?_;walk_nrm)|(refine Dl.value _ rfl rfl (by k_ne) (fun _ _=>by(go_simp;try (first|rfl|w_num|decide))) (fun _ _=>by simp[go_sem, *]) ?_;walk_nrm)))
      (refine Dl.leave1 rfl rfl H.f_uLoad rfl ?_;walk_nrm)
      (repeat (first|(first|with_reducible refine Dl.seq ?_|((with_reducible refine Dl.region ?_);simp only[Ap,Ah,As,AN,AB,AK,AG])|with_reducible refine Dl.regionEnd ?_|with_reducible refine Dl.skip ?_|with_reducible refine Dl.ret ?_|with_reducible refine Dl.block ?_|with_reducible refine Dl.inBlock ?_|with_reducible refine Dl.loop ?_|with_reducible refine Dl.inLoop ?_|with_reducible (refine Dl.exit (by with_unfolding_all rfl) ?_)|((with_reducible (refine Dl.cond true (by with_unfolding_all rfl) ?_));simp only[AI,Ay,Ad,↓reduceIte])|((with_reducible (refine Dl.cond false (by with_unfolding_all rfl) ?_));simp only[AI,Ay,Ad,↓reduceIte]))|(refine Dl.unwanted rfl rfl ?_;walk_nrm)|(refine Dl.value _ rfl rfl (by k_ne) (fun _ _=>by(go_simp;try (first|rfl|w_num|decide))) (fun _ _=>by simp[go_sem, *]) ?_;walk_nrm)))
      (refine Dl.call rfl rfl (by k_ne) rfl H.f_uStore (nm_uStore L) rfl ?_;walk_nrmf uStoreFn)
      (repeat (first|(first|with_reducible refine Dl.seq ?_|((with_reducible refine Dl.region ?_);simp only[Ap,Ah,As,AN,AB,AK,AG])|with_reducible refine Dl.regionEnd ?_|with_reducible refine Dl.skip ?_|with_reducible refine Dl.ret ?_|with_reducible refine Dl.block ?_|with_reducible refine Dl.inBlock ?_|with_reducible refine Dl.loop ?_|with_reducible refine Dl.inLoop ?_|with_reducible (refine Dl.exit (by with_unfolding_all rfl) ?_)|((with_reducible (refine Dl.cond true (by with_unfolding_all rfl) ?_));simp only[AI,Ay,Ad,↓reduceIte])|((with_reducible (refine Dl.cond false (by with_unfolding_all rfl) ?_));simp only[AI,Ay,Ad,↓reduceIte]))|(refine Dl.unwanted rfl rfl ?_;walk_nrm)|(refine Dl.value _ rfl rfl (by k_ne) (fun _ _=>by(go_simp;try (first|rfl|w_num|decide))) (fun _ _=>by simp[go_sem, *]) ?_;walk_nrm)))
      refine .here ⟨rfl,rfl,fun w hw=>?_⟩
      have hc:w.cell? ⟨Wg,0,none⟩=some (.int .u64 1):=by simp[Bw,hw,wgBlock]
      have hz:w.frozen? ⟨Wg,0,none⟩=false:=by simp[C6,hw,wgBlock]
      refine⟨_,stepG_store_atomic rfl rfl (by k_ne) rfl H.f_storeU64 (x_storeU64_n L) (x_storeU64_b L) (x_storeU64_x L) (x_storeU64_f L) rfl rfl hc hz,?_⟩
      clear hc hw hz
      walk_nrm
      (repeat (first|(first|with_reducible refine Dl.seq ?_|((with_reducible refine Dl.region ?_);simp only[Ap,Ah,As,AN,AB,AK,AG])|with_reducible refine Dl.regionEnd ?_|with_reducible refine Dl.skip ?_|with_reducible refine Dl.ret ?_|with_reducible refine Dl.block ?_|with_reducible refine Dl.inBlock ?_|with_reducible refine Dl.loop ?_|with_reducible refine Dl.inLoop ?_|with_reducible (refine Dl.exit (by with_unfolding_all rfl) ?_)|((with_reducible (refine Dl.cond true (by with_unfolding_all rfl) ?_));simp only[AI,Ay,Ad,↓reduceIte])|((with_reducible (refine Dl.cond false (by with_unfolding_all rfl) ?_));simp only[AI,Ay,Ad,↓reduceIte]))|(refine Dl.unwanted rfl rfl ?_;walk_nrm)|(refine Dl.value _ rfl rfl (by k_ne) (fun _ _=>by(go_simp;try (first|rfl|w_num|decide))) (fun _ _=>by simp[go_sem, *]) ?_;walk_nrm)))
      refine Dl.done ?_
      (refine Dl.leave0 rfl rfl H.f_uStore rfl ?_;walk_nrm)
      (repeat (first|(first|with_reducible refine Dl.seq ?_|((with_reducible refine Dl.region ?_);simp only[Ap,Ah,As,AN,AB,AK,AG])|with_reducible refine Dl.regionEnd ?_|with_reducible refine Dl.skip ?_|with_reducible refine Dl.ret ?_|with_reducible refine Dl.block ?_|with_reducible refine Dl.inBlock ?_|with_reducible refine Dl.loop ?_|with_reducible refine Dl.inLoop ?_|with_reducible (refine Dl.exit (by with_unfolding_all rfl) ?_)|((with_reducible (refine Dl.cond true (by with_unfolding_all rfl) ?_));simp only[AI,Ay,Ad,↓reduceIte])|((with_reducible (refine Dl.cond false (by with_unfolding_all rfl) ?_));simp only[AI,Ay,Ad,↓reduceIte]))|(refine Dl.unwanted rfl rfl ?_;walk_nrm)|(refine Dl.value _ rfl rfl (by k_ne) (fun _ _=>by(go_simp;try (first|rfl|w_num|decide))) (fun _ _=>by simp[go_sem, *]) ?_;walk_nrm)))
      refine .here ⟨rfl,rfl,mayWake_entry rfl rfl H.f_semrelease (x_semrelease_b L),fun w hw=>?_⟩
      have hc:w.cell? ⟨Wg,1,none⟩=some (.int .u32 0):=by simp[Bw,hw,wgBlock]
      have hz:w.frozen? ⟨Wg,1,none⟩=false:=by simp[C6,hw,wgBlock]
      refine⟨_,(stepG_semrelease rfl rfl (by k_ne) rfl H.f_semrelease (x_semrelease_n L) (x_semrelease_b L) (x_semrelease_x L) (x_semrelease_f L) (by simp[C5,smA]) hc hz).trans (by rfl),Dl.quits ?_⟩
      clear hc hw hz
      walk_nrm
      (repeat (first|(first|with_reducible refine Dl.seq ?_|((with_reducible refine Dl.region ?_);simp only[Ap,Ah,As,AN,AB,AK,AG])|with_reducible refine Dl.regionEnd ?_|with_reducible refine Dl.skip ?_|with_reducible refine Dl.ret ?_|with_reducible refine Dl.block ?_|with_reducible refine Dl.inBlock ?_|with_reducible refine Dl.loop ?_|with_reducible refine Dl.inLoop ?_|with_reducible (refine Dl.exit (by with_unfolding_all rfl) ?_)|((with_reducible (refine Dl.cond true (by with_unfolding_all rfl) ?_));simp only[AI,Ay,Ad,↓reduceIte])|((with_reducible (refine Dl.cond false (by with_unfolding_all rfl) ?_));simp only[AI,Ay,Ad,↓reduceIte]))|(refine Dl.unwanted rfl rfl ?_;walk_nrm)|(refine Dl.value _ rfl rfl (by k_ne) (fun _ _=>by(go_simp;try (first|rfl|w_num|decide))) (fun _ _=>by simp[go_sem, *]) ?_;walk_nrm)))
      refine Dl.done ?_
      (refine Dl.unwind_mark .enable rfl (by simp) rfl H.f_enable (x_enable_n L) (x_enable_b L) (x_enable_x L) (x_enable_f L) ?_)
      exact Dl.leave0 rfl rfl H.f_add rfl hT'
  · refine⟨fun h=>absurd h.1 h0,fun _=>Dl.quits ?_⟩
    obtain⟨V,hV⟩:∃ V:Int,V=(v:Int):=⟨_,rfl⟩
    obtain⟨S,hS⟩:∃ S:Int,S=(v:Int)*KK+wt:=⟨_,rfl⟩
    have a1:S/4294967296=V:=by rw[hS,hV];simp only[KK];omega
    have b1:bits .and .u64 S 2147483648=0:=by rw[hS];have:=st_flag v wt (by omega) hwt;simpa[KK]using this
    have b2:bits .and .u64 S 2147483647=wt:=by rw[hS];have:=st_waiters v wt (by omega) hwt;simpa[KK]using this
    have c1:IntKind.i32.wrap V=V:=by rw[IntKind.wrap_i32];omega
    have hV1:0<V:=by omega
    have hV2:V<2147483648:=by omega
    have q3:decide (V<0)=false:=Bn (by omega)
    have q4:decide (0<V)=true:=BU (by omega)
    have q5:(V==0)=false:=by simp;omega
    have q6:decide (V=0)=false:=Bn (by omega)
    rw[←hS]
    obtain rfl|rfl:wt=0∨wt=1:=by omega
    · have d1:BC.wrap 0=0:=by decide
      replace b2:bits .and .u64 S 2147483647=0:=by simpa using b2
      clear hS hV
      (repeat (first|(first|with_reducible refine Dl.seq ?_|((with_reducible refine Dl.region ?_);simp only[Ap,Ah,As,AN,AB,AK,AG])|with_reducible refine Dl.regionEnd ?_|with_reducible refine Dl.skip ?_|with_reducible refine Dl.ret ?_|with_reducible refine Dl.block ?_|with_reducible refine Dl.inBlock ?_|with_reducible refine Dl.loop ?_|with_reducible refine Dl.inLoop ?_|with_reducible (refine Dl.exit (by with_unfolding_all rfl) ?_)|((with_reducible (refine Dl.cond true (by with_unfolding_all rfl) ?_));simp only[AI,Ay,Ad,↓reduceIte])|((with_reducible (refine Dl.cond false (by with_unfolding_all rfl) ?_));simp only[AI,Ay,Ad,↓reduceIte]))|(refine Dl.unwanted rfl rfl ?_;walk_nrm)|(refine Dl.value _ rfl rfl (by k_ne) (fun _ _=>by(go_simp;try (first|rfl|w_num|decide))) (fun _ _=>by simp[go_sem, *]) ?_;walk_nrm)))
      (refine Dl.leave1 rfl rfl H.f_uAdd rfl ?_;walk_nrm)
      (repeat (first|(first|with_reducible refine Dl.seq ?_|((with_reducible refine Dl.region ?_);simp only[Ap,Ah,As,AN,AB,AK,AG])|with_reducible refine Dl.regionEnd ?_|with_reducible refine Dl.skip ?_|with_reducible refine Dl.ret ?_|with_reducible refine Dl.block ?_|with_reducible refine Dl.inBlock ?_|with_reducible refine Dl.loop ?_|with_reducible refine Dl.inLoop ?_|with_reducible (refine Dl.exit (by with_unfolding_all rfl) ?_)|((with_reducible (refine Dl.cond true (by with_unfolding_all rfl) ?_));simp only[AI,Ay,Ad,↓reduceIte])|((with_reducible (refine Dl.cond false (by with_unfolding_all rfl) ?_));simp only[AI,Ay,Ad,↓reduceIte]))|(refine Dl.unwanted rfl rfl ?_;walk_nrm)|(refine Dl.value _ rfl rfl (by k_ne) (fun _ _=>by(go_simp;try (first|rfl|w_num|decide))) (fun _ _=>by simp[go_sem, *]) ?_;walk_nrm)))
      (refine Dl.unwind_mark .enable rfl (by simp) rfl H.f_enable (x_enable_n L) (x_enable_b L) (x_enable_x L) (x_enable_f L) ?_)
      exact Dl.leave0 rfl rfl H.f_add rfl hT'
    · have d1:BC.wrap 1=1:=by decide
      replace b2:bits .and .u64 S 2147483647=1:=by simpa using b2
      clear hS hV
      (repeat (first|(first|with_reducible refine Dl.seq ?_|((with_reducible refine Dl.region ?_);simp only[Ap,Ah,As,AN,AB,AK,AG])|with_reducible refine Dl.regionEnd ?_|with_reducible refine Dl.skip ?_|with_reducible refine Dl.ret ?_|with_reducible refine Dl.block ?_|with_reducible refine Dl.inBlock ?_|with_reducible refine Dl.loop ?_|with_reducible refine Dl.inLoop ?_|with_reducible (refine Dl.exit (by with_unfolding_all rfl) ?_)|((with_reducible (refine Dl.cond true (by with_unfolding_all rfl) ?_));simp only[AI,Ay,Ad,↓reduceIte])|((with_reducible (refine Dl.cond false (by with_unfolding_all rfl) ?_));simp only[AI,Ay,Ad,↓reduceIte]))|(refine Dl.unwanted rfl rfl ?_;walk_nrm)|(refine Dl.value _ rfl rfl (by k_ne) (fun _ _=>by(go_simp;try (first|rfl|w_num|decide))) (fun _ _=>by simp[go_sem, *]) ?_;walk_nrm)))
      (refine Dl.leave1 rfl rfl H.f_uAdd rfl ?_;walk_nrm)
      (repeat (first|(first|with_reducible refine Dl.seq ?_|((with_reducible refine Dl.region ?_);simp only[Ap,Ah,As,AN,AB,AK,AG])|with_reducible refine Dl.regionEnd ?_|with_reducible refine Dl.skip ?_|with_reducible refine Dl.ret ?_|with_reducible refine Dl.block ?_|with_reducible refine Dl.inBlock ?_|with_reducible refine Dl.loop ?_|with_reducible refine Dl.inLoop ?_|with_reducible (refine Dl.exit (by with_unfolding_all rfl) ?_)|((with_reducible (refine Dl.cond true (by with_unfolding_all rfl) ?_));simp only[AI,Ay,Ad,↓reduceIte])|((with_reducible (refine Dl.cond false (by with_unfolding_all rfl) ?_));simp only[AI,Ay,Ad,↓reduceIte]))|(refine Dl.unwanted rfl rfl ?_;walk_nrm)|(refine Dl.value _ rfl rfl (by k_ne) (fun _ _=>by(go_simp;try (first|rfl|w_num|decide))) (fun _ _=>by simp[go_sem, *]) ?_;walk_nrm)))
      (refine Dl.unwind_mark .enable rfl (by simp) rfl H.f_enable (x_enable_n L) (x_enable_b L) (x_enable_x L) (x_enable_f L) ?_)
      exact Dl.leave0 rfl rfl H.f_add rfl hT'
end Go.Am
end
section
open List renaming map_map→ζ,mapM_map→ξ
namespace Go.Am
open Go.Conc Go.ConcR.Gen Go.Conc.Lib Go.RowKit Go.ConcR
open Go
theorem aZk{L:WgLink}{P:Program}(H:WgLib P L){Wg:Nat}{cs:List Frame}{b0:Frame}{a0:Act}{ops0:Array Oper}{i0:Nat}{rest0:List Nat}{k0:List Item}{T:Array Value}(hT:T=#[.pointer (some ⟨Wg,0,none⟩),.int .i64 (-1)]++AX 115 undef)
    (hq:∃ q,QuitsD P q 0 (G (b0.at (a0.put ((ops0[i0]?).bind (·.dst)) (.tuple #[])) (.inRegion ops0 rest0::k0)) cs)) :
    Dl P false (cU L.tWg Wg) noE (vY P L Wg) 0 (G ((base L.add).at ⟨T,[]⟩ [.code (body_add L)]) (b0.at a0 (.inRegion ops0 (i0::rest0)::k0)::cs)):=by
  subst hT;exact bJr H hq
set_option maxRecDepth 100000 in
set_option maxHeartbeats 400000 in
theorem bFm{L:WgLink}{P:Program}(H:WgLib P L){Wg:Nat}{c:Frame}{cs:List Frame}(hcm:c.mode=.returning){q:Nat}(hT:QuitsD P q 0 (G c cs)) :
    Dl P false (cU L.tWg Wg) noE (vY P L Wg) 0 (G ((baseD L.done).at ⟨#[.pointer (some ⟨Wg,0,none⟩),undef,undef,undef],[]⟩ [.code (body_done L)]) (c::cs)):=by
  lib_facts
  simp only[body_done,doneFn,AU]
  (repeat (first|(first|with_reducible refine Dl.seq ?_|((with_reducible refine Dl.region ?_);simp only[Ap,Ah,As,AN,AB,AK,AG])|with_reducible refine Dl.regionEnd ?_|with_reducible refine Dl.skip ?_|with_reducible refine Dl.ret ?_|with_reducible refine Dl.block ?_|with_reducible refine Dl.inBlock ?_|with_reducible refine Dl.loop ?_|with_reducible refine Dl.inLoop ?_|with_reducible (refine Dl.exit (by with_unfolding_all rfl) ?_)|((with_reducible (refine Dl.cond true (by with_unfolding_all rfl) ?_));simp only[AI,Ay,Ad,↓reduceIte])|((with_reducible (refine Dl.cond false (by with_unfolding_all rfl) ?_));simp only[AI,Ay,Ad,↓reduceIte]))|(refine Dl.unwanted rfl rfl ?_;walk_nrm)|(refine Dl.value _ rfl rfl (by k_ne) (fun _ _=>by(go_simp;try (first|rfl|w_num|decide))) (fun _ _=>by simp[go_sem, *]) ?_;walk_nrm)))
  have hS:=fun{cs b0 a0 ops0 i0 rest0 k0 T}=>@aZk L P H Wg cs b0 a0 ops0 i0 rest0 k0 T
  simp only[body_add,addFn,AU]at hS
  refine Dl.call rfl rfl (by k_ne) rfl H.f_add (nm_add L) rfl ?_
  walk_nrmf addFn
  refine hS ?_ ⟨q+3,?_⟩
  · apply Array.ext'
    rw[Array.toList_append,Array.toList_replicate]
    simp only[List.replicate]
    rfl
  q_c stepG_region_end
  q_c stepG_end
  exact QuitsD.leaveD rfl rfl H.f_done rfl hcm hT
end Go.Am
end
section
open List renaming map_map→ζ,mapM_map→ξ
open Go Go.Am Go.Proofs
namespace Go.Am
open Go.Conc Go.Conc.Lib Go.RowKit Go.ConcR.Gen
open Go.ConcR (KK wgBlock stA smA rd wr mk)
def kY(F:Nat→Prop)(v v':World):Prop:=∀ b,F b→∀ c e f,v.heap[b]? = some (.cells c e f)→∃ f',v'.heap[b]? = some (.cells c e f')
theorem kY.cell{F:Nat→Prop}{v v':World}(h:kY F v v'){a:Addr}(ha:F a.block){x:Value}(hx:v.cell? a=some x):v'.cell? a=some x:=by
  obtain⟨c,t,f,hb,hlt,hs⟩:=nT hx
  obtain⟨f',hb'⟩:=h _ ha _ _ _ hb
  simp only[Bw,hb,hb']at hx ⊢
  exact hx
def pY(d:D):Prop:=∀(F:Nat→Prop) (v v':World) (x:Value),kY F v v'→VD F v d x→VD F v' d x
theorem aAd(k:IntKind)(n:Int):pY (.i k n):=fun F v v' x _ hx=>by cases hx;exact .i k n
theorem bUt(b:Bool):pY (.b b):=fun F v v' x _ hx=>by cases hx;exact .b b
theorem mQ(y:Value):pY (.lit y):=fun F v v' x _ hx=>by cases hx;exact .lit y
theorem yB{els:List (List D)}(h:∀ cs∈els,∀ c∈cs,pY c):pY (.sl els):=fun F v v' x hs hx=>by
  cases hx with
  |sl0 ad c=>exact .sl0 ad c
  | sl els ad n c sz f hn hc hsz hF hcell hel =>
    exact .sl els ad n c sz f hn hc hsz hF (fun j hj=>hs.cell (by rw[block_add];exact hF) (hcell j hj)) fun j k cs c h1 h2=>h cs (Ao h1) c (Ao h2) F v v' _ hs (hel j k cs c h1 h2)
theorem kH{cs:List D}(h:∀ c∈cs,pY c):pY (.pt cs):=fun F v v' x hs hx=>by
  cases hx with
  |pt cs ad f hF hcell hel=>exact .pt cs ad f hF (fun j hj=>hs.cell (by rw[block_add];exact hF) (hcell j hj)) fun k c h1=>h c (Ao h1) F v v' _ hs (hel k c h1)
theorem aNk(F:Nat→Prop)(v:World):kY F v (iY v):=fun b _ c e f hb=>⟨_,by rw[mP,hb];rfl⟩
theorem aCw{F:Nat→Prop}{v v':World}(h:Env v v'):kY F v v':=fun b _ c e f hb=>⟨f,by rw[h.get (bG hb)];exact hb⟩
theorem aUb{F:Nat→Prop}{v:World}{C:Nat}(hC:∀ b,F b→b≠C):kY F v (inV v C):=fun b hF c e f hb=>⟨_,by rw[xY (bG hb) (hC b hF),hb];rfl⟩
theorem kY.trans{F:Nat→Prop}{v v1 v2:World}(h:kY F v v1)(k:kY F v1 v2):kY F v v2:=fun b hF c e f hb=>by
  obtain⟨f1,h1⟩:=h b hF c e f hb
  exact k b hF c e f1 h1
theorem bIv{Wg Ba Bp Bi Br:Nat}{p:Pl}{i n cap:Nat}{v:World}{c0 c1 c2:D}{pr rp rv er:Int}(hwd:p.wd=3)(hi:i<p.n)(hn:p.n=n)(h0:p.val i 0=.int .i64 i)(h1:p.val i 1=.int .u64 rp)(h2:p.val i 2=.int .u64 rv)(hok:OkV v)
    (hBa:VD (fun b=>b<v.heap.size) v (.pt [c0,c1,c2]) (bY Ba)) (hBp:VD (fun b=>b<v.heap.size) v (.pt [.i .u64 pr]) (bY Bp)) (hBi:VD (fun b=>b<v.heap.size) v (.pt [.i .i64 i]) (bY Bi)) (hBr:VD (fun b=>b<v.heap.size) v (.pt [.lit (.slice (some ⟨p.C,0,none⟩) n cap)]) (bY Br))
    (hsp:letI:=lN Aa false;Spec Aa 74 [.ag [c0,c1,c2],.i .u64 pr] (.tp [.ag [.i .u64 rp,.i .u64 rv],.i .i64 er])) :
    ∃ tr,GTw Aa bP Wg p i tr 0 (born Aa (aCm Wg Ba Bp Bi Br)) v :=
  aYh (p:=p) (Wg:=Wg) hok hBa hBp hBi hBr hsp fun a v' ops o6 o7 hv ho6 ho7 p6 d6 g6 p7 d7 g7 hN hds e13 e14 e17 =>
    aTb (fun hcm hq=>bFm aCl hcm hq) hwd hi hn h0 h1 h2 hv ho6 ho7 p6 d6 g6 p7 d7 g7 hN hds e13 e14 e17
end Go.Am
end
section
open List renaming map_map→ζ,mapM_map→ξ
namespace Go.Am
open Go.Conc Go.ConcR.Gen Go.Conc.Lib Go.RowKit Go.ConcR
open Go.ConcN (st_flag st_waiters)
open Go
set_option maxRecDepth 100000 in
set_option maxHeartbeats 8000000 in
theorem bPo{L:WgLink}{P:Program}(H:WgLib P L){Wg:Nat}{cs:List Frame}{b0:Frame}{a0:Act}{ops0:Array Oper}{i0:Nat}{rest0:List Nat}{k0:List Item}{K:Nat→Goroutine→Prop}
    (hK:K 0 (G (b0.at (a0.put ((ops0[i0]?).bind (·.dst)) (.tuple #[])) (.inRegion ops0 rest0::k0)) cs)) :
    Dl P true (cU L.tWg Wg) (dO Wg) (fun d g=>d=1∧aEn P L Wg K d g) 0 (G ((base L.add).at ⟨#[.pointer (some ⟨Wg,0,none⟩),.int .i64 1]++AX 115 undef,[]⟩ [.code (body_add L)]) (b0.at a0 (.inRegion ops0 (i0::rest0)::k0)::cs)):=by
  have hT':Dl P true (cU L.tWg Wg) (dO Wg) K 0 (G (b0.at (a0.put ((ops0[i0]?).bind (·.dst)) (.tuple #[])) (.inRegion ops0 rest0::k0)) cs):=.here hK
  lib_facts
  simp only[body_add,addFn,AU]
  (repeat (first|(first|with_reducible refine Dl.seq ?_|((with_reducible refine Dl.region ?_);simp only[Ap,Ah,As,AN,AB,AK,AG])|with_reducible refine Dl.regionEnd ?_|with_reducible refine Dl.skip ?_|with_reducible refine Dl.ret ?_|with_reducible refine Dl.block ?_|with_reducible refine Dl.inBlock ?_|with_reducible refine Dl.loop ?_|with_reducible refine Dl.inLoop ?_|with_reducible (refine Dl.exit (by with_unfolding_all rfl) ?_)|((with_reducible (refine Dl.cond true (by with_unfolding_all rfl) ?_));simp only[AI,Ay,Ad,↓reduceIte])|((with_reducible (refine Dl.cond false (by with_unfolding_all rfl) ?_));simp only[AI,Ay,Ad,↓reduceIte]))|(refine Dl.unwanted rfl rfl ?_;walk_nrm)|(refine Dl.value _ rfl rfl (by k_ne) (fun _ _=>by(go_simp;try (first|rfl|w_num|decide))) (fun _ _=>by simp[go_sem, *]) ?_;walk_nrm)))
  (refine Dl.step rfl (by(intro e he;simp at he;subst he;exact .inl rfl)) (fun w hI=>stepG_mark0 .disable (by simp) rfl rfl (by k_ne) rfl H.f_disable (x_disable_n L) (x_disable_b L) (x_disable_x L) (x_disable_f L)) ?_;walk_nrm)
  repeat (first|with_reducible refine Dl.seq ?_|((with_reducible refine Dl.region ?_);simp only[Ap,Ah,As,AN,AB,AK,AG])|with_reducible refine Dl.regionEnd ?_|with_reducible refine Dl.skip ?_|with_reducible refine Dl.ret ?_|with_reducible refine Dl.block ?_|with_reducible refine Dl.inBlock ?_|with_reducible refine Dl.loop ?_|with_reducible refine Dl.inLoop ?_|with_reducible (refine Dl.exit (by with_unfolding_all rfl) ?_)|((with_reducible (refine Dl.cond true (by with_unfolding_all rfl) ?_));simp only[AI,Ay,Ad,↓reduceIte])|((with_reducible (refine Dl.cond false (by with_unfolding_all rfl) ?_));simp only[AI,Ay,Ad,↓reduceIte]))
  (refine Dl.ctl rfl (fun w hI=>stepG_defer rfl rfl (by k_ne) rfl) ?_;walk_nrm)
  repeat (first|with_reducible refine Dl.seq ?_|((with_reducible refine Dl.region ?_);simp only[Ap,Ah,As,AN,AB,AK,AG])|with_reducible refine Dl.regionEnd ?_|with_reducible refine Dl.skip ?_|with_reducible refine Dl.ret ?_|with_reducible refine Dl.block ?_|with_reducible refine Dl.inBlock ?_|with_reducible refine Dl.loop ?_|with_reducible refine Dl.inLoop ?_|with_reducible (refine Dl.exit (by with_unfolding_all rfl) ?_)|((with_reducible (refine Dl.cond true (by with_unfolding_all rfl) ?_));simp only[AI,Ay,Ad,↓reduceIte])|((with_reducible (refine Dl.cond false (by with_unfolding_all rfl) ?_));simp only[AI,Ay,Ad,↓reduceIte]))
  (refine Dl.value _ rfl rfl (by k_ne) (fun _ _=>by(go_simp;try (first|rfl|w_num|decide))) (fun _ _=>by simp[go_sem, *]) ?_;walk_nrm)
  repeat (first|with_reducible refine Dl.seq ?_|((with_reducible refine Dl.region ?_);simp only[Ap,Ah,As,AN,AB,AK,AG])|with_reducible refine Dl.regionEnd ?_|with_reducible refine Dl.skip ?_|with_reducible refine Dl.ret ?_|with_reducible refine Dl.block ?_|with_reducible refine Dl.inBlock ?_|with_reducible refine Dl.loop ?_|with_reducible refine Dl.inLoop ?_|with_reducible (refine Dl.exit (by with_unfolding_all rfl) ?_)|((with_reducible (refine Dl.cond true (by with_unfolding_all rfl) ?_));simp only[AI,Ay,Ad,↓reduceIte])|((with_reducible (refine Dl.cond false (by with_unfolding_all rfl) ?_));simp only[AI,Ay,Ad,↓reduceIte]))
  (refine Dl.ctl rfl (fun w hI=>stepG_entry_pure (.bool false) rfl rfl (by k_ne) rfl H.f_inBubble (x_inBubble_n L) (x_inBubble_b L) (x_inBubble_x L) (x_inBubble_f L)) ?_;walk_nrm)
  (repeat (first|(first|with_reducible refine Dl.seq ?_|((with_reducible refine Dl.region ?_);simp only[Ap,Ah,As,AN,AB,AK,AG])|with_reducible refine Dl.regionEnd ?_|with_reducible refine Dl.skip ?_|with_reducible refine Dl.ret ?_|with_reducible refine Dl.block ?_|with_reducible refine Dl.inBlock ?_|with_reducible refine Dl.loop ?_|with_reducible refine Dl.inLoop ?_|with_reducible (refine Dl.exit (by with_unfolding_all rfl) ?_)|((with_reducible (refine Dl.cond true (by with_unfolding_all rfl) ?_));simp only[AI,Ay,Ad,↓reduceIte])|((with_reducible (refine Dl.cond false (by with_unfolding_all rfl) ?_));simp only[AI,Ay,Ad,↓reduceIte]))|(refine Dl.unwanted rfl rfl ?_;walk_nrm)|(refine Dl.value _ rfl rfl (by k_ne) (fun _ _=>by(go_simp;try (first|rfl|w_num|decide))) (fun _ _=>by simp[go_sem, *]) ?_;walk_nrm)))
  (refine Dl.call rfl rfl (by k_ne) rfl H.f_uAdd (nm_uAdd L) rfl ?_;walk_nrmf uAddFn)
  (repeat (first|(first|with_reducible refine Dl.seq ?_|((with_reducible refine Dl.region ?_);simp only[Ap,Ah,As,AN,AB,AK,AG])|with_reducible refine Dl.regionEnd ?_|with_reducible refine Dl.skip ?_|with_reducible refine Dl.ret ?_|with_reducible refine Dl.block ?_|with_reducible refine Dl.inBlock ?_|with_reducible refine Dl.loop ?_|with_reducible refine Dl.inLoop ?_|with_reducible (refine Dl.exit (by with_unfolding_all rfl) ?_)|((with_reducible (refine Dl.cond true (by with_unfolding_all rfl) ?_));simp only[AI,Ay,Ad,↓reduceIte])|((with_reducible (refine Dl.cond false (by with_unfolding_all rfl) ?_));simp only[AI,Ay,Ad,↓reduceIte]))|(refine Dl.unwanted rfl rfl ?_;walk_nrm)|(refine Dl.value _ rfl rfl (by k_ne) (fun _ _=>by(go_simp;try (first|rfl|w_num|decide))) (fun _ _=>by simp[go_sem, *]) ?_;walk_nrm)))
  refine .here ⟨rfl,rfl,fun w v hv hw=>?_⟩
  have hc:w.cell? ⟨Wg,0,none⟩=some (.int .u64 ((v:Int)*KK)):=by simp[Bw,hw,wgBlock]
  have hz:w.frozen? ⟨Wg,0,none⟩=false:=by simp[C6,hw,wgBlock]
  have eS:Az.wrap ((v:Int)*KK+Az.wrap (Az.wrap 1*4294967296))=((v:Int)+1)*KK:=by
    have:Az.wrap (Az.wrap 1*4294967296)=4294967296:=by decide
    rw[this,Ej];simp only[KK];omega
  refine⟨_,(stepG_add_atomic rfl rfl (by k_ne) rfl H.f_addU64 (x_addU64_n L) (x_addU64_b L) (x_addU64_x L) .u64 (x_addU64_f L) rfl rfl hc hz).trans (by rw[eS];rfl),?_⟩
  clear hw hc hz eS
  walk_nrm
  by_cases h0:v=0
  · subst h0
    have e0:(((0:Nat):Int)+1)*KK=4294967296:=by simp[KK]
    rw[e0]
    have e2:BC.wrap (bits BinOp.and Az 4294967296 2147483647)=0:=by decide
    (repeat (first|(first|with_reducible refine Dl.seq ?_|((with_reducible refine Dl.region ?_);simp only[Ap,Ah,As,AN,AB,AK,AG])|with_reducible refine Dl.regionEnd ?_|with_reducible refine Dl.skip ?_|with_reducible refine Dl.ret ?_|with_reducible refine Dl.block ?_|with_reducible refine Dl.inBlock ?_|with_reducible refine Dl.loop ?_|with_reducible refine Dl.inLoop ?_|with_reducible (refine Dl.exit (by with_unfolding_all rfl) ?_)|((with_reducible (refine Dl.cond true (by with_unfolding_all rfl) ?_));simp only[AI,Ay,Ad,↓reduceIte])|((with_reducible (refine Dl.cond false (by with_unfolding_all rfl) ?_));simp only[AI,Ay,Ad,↓reduceIte]))|(refine Dl.unwanted rfl rfl ?_;walk_nrm)|(refine Dl.value _ rfl rfl (by k_ne) (fun _ _=>by(go_simp;try (first|rfl|w_num|decide))) (fun _ _=>by simp[go_sem, *]) ?_;walk_nrm)))
    (refine Dl.leave1 rfl rfl H.f_uAdd rfl ?_;walk_nrm)
    (repeat (first|(first|with_reducible refine Dl.seq ?_|((with_reducible refine Dl.region ?_);simp only[Ap,Ah,As,AN,AB,AK,AG])|with_reducible refine Dl.regionEnd ?_|with_reducible refine Dl.skip ?_|with_reducible refine Dl.ret ?_|with_reducible refine Dl.block ?_|with_reducible refine Dl.inBlock ?_|with_reducible refine Dl.loop ?_|with_reducible refine Dl.inLoop ?_|with_reducible (refine Dl.exit (by with_unfolding_all rfl) ?_)|((with_reducible (refine Dl.cond true (by with_unfolding_all rfl) ?_));simp only[AI,Ay,Ad,↓reduceIte])|((with_reducible (refine Dl.cond false (by with_unfolding_all rfl) ?_));simp only[AI,Ay,Ad,↓reduceIte]))|(refine Dl.unwanted rfl rfl ?_;walk_nrm)|(refine Dl.value _ rfl rfl (by k_ne) (fun _ _=>by(go_simp;try (first|rfl|w_num|decide))) (fun _ _=>by simp[go_sem, *]) ?_;walk_nrm)))
    (refine Dl.value _ rfl rfl (by k_ne) (fun w hI=>by(have hcv:=run_convert_to_unsafe (P:=P) H.underlying_tPU32 H.underlying_tUP H.room_tU32 (cU.cell1 hI).choose_spec);go_simp;rfl) (fun w hI=>by(have hce:=fun es=>events_convert_to_unsafe (P:=P) H.underlying_tPU32 H.underlying_tUP H.room_tU32 (cU.cell1 hI).choose_spec es);simp[go_sem,hce]) ?_;walk_nrm)
    (refine Dl.step rfl (by(intro e he;simp at he;subst he;first|exact .inr (.inl rfl)|exact .inr (.inr rfl))) (fun w hI=>stepG_markAt .read (by simp) rfl rfl (by k_ne) rfl H.f_raceRead (x_raceRead_n L) (x_raceRead_b L) (x_raceRead_x L) (x_raceRead_f L) (ad:=smA Wg) (by simp[C5,smA])) ?_;walk_nrm)
    (repeat (first|(first|with_reducible refine Dl.seq ?_|((with_reducible refine Dl.region ?_);simp only[Ap,Ah,As,AN,AB,AK,AG])|with_reducible refine Dl.regionEnd ?_|with_reducible refine Dl.skip ?_|with_reducible refine Dl.ret ?_|with_reducible refine Dl.block ?_|with_reducible refine Dl.inBlock ?_|with_reducible refine Dl.loop ?_|with_reducible refine Dl.inLoop ?_|with_reducible (refine Dl.exit (by with_unfolding_all rfl) ?_)|((with_reducible (refine Dl.cond true (by with_unfolding_all rfl) ?_));simp only[AI,Ay,Ad,↓reduceIte])|((with_reducible (refine Dl.cond false (by with_unfolding_all rfl) ?_));simp only[AI,Ay,Ad,↓reduceIte]))|(refine Dl.unwanted rfl rfl ?_;walk_nrm)|(refine Dl.value _ rfl rfl (by k_ne) (fun _ _=>by(go_simp;try (first|rfl|w_num|decide))) (fun _ _=>by simp[go_sem, *]) ?_;walk_nrm)))
    (refine Dl.unwind_mark .enable rfl (by simp) rfl H.f_enable (x_enable_n L) (x_enable_b L) (x_enable_x L) (x_enable_f L) ?_)
    exact Dl.leave0 rfl rfl H.f_add rfl hT'
  · obtain⟨V,hV⟩:∃ V:Int,V=(v:Int)+1:=⟨_,rfl⟩
    obtain⟨S,hS⟩:∃ S:Int,S=V*KK:=⟨_,rfl⟩
    have a1:S/4294967296=V:=by rw[hS];simp only[KK];omega
    have b1:bits .and .u64 S 2147483648=0:=by rw[hS,hV];have:=st_flag (v+1) 0 (by omega) (by omega);simpa[KK]using this
    have b2:bits .and .u64 S 2147483647=0:=by rw[hS,hV];have:=st_waiters (v+1) 0 (by omega) (by omega);simpa[KK]using this
    have c1:IntKind.i32.wrap V=V:=by rw[IntKind.wrap_i32];omega
    have d1:BC.wrap 0=0:=by decide
    have hV1:1<V:=by omega
    have hV2:V<2147483648:=by omega
    have r1:IntKind.i32.wrap 1=1:=by decide
    have q1:(V==1)=false:=by simp;omega
    have q2:decide (V=1)=false:=Bn (by omega)
    have q3:decide (V<0)=false:=Bn (by omega)
    have q4:decide (0<V)=true:=BU (by omega)
    have q5:(V==0)=false:=by simp;omega
    have q6:decide (V=0)=false:=Bn (by omega)
    rw[←hV,←hS]
    clear hS hV
    (repeat (first|(first|with_reducible refine Dl.seq ?_|((with_reducible refine Dl.region ?_);simp only[Ap,Ah,As,AN,AB,AK,AG])|with_reducible refine Dl.regionEnd ?_|with_reducible refine Dl.skip ?_|with_reducible refine Dl.ret ?_|with_reducible refine Dl.block ?_|with_reducible refine Dl.inBlock ?_|with_reducible refine Dl.loop ?_|with_reducible refine Dl.inLoop ?_|with_reducible (refine Dl.exit (by with_unfolding_all rfl) ?_)|((with_reducible (refine Dl.cond true (by with_unfolding_all rfl) ?_));simp only[AI,Ay,Ad,↓reduceIte])|((with_reducible (refine Dl.cond false (by with_unfolding_all rfl) ?_));simp only[AI,Ay,Ad,↓reduceIte]))|(refine Dl.unwanted rfl rfl ?_;walk_nrm)|(refine Dl.value _ rfl rfl (by k_ne) (fun _ _=>by(go_simp;try (first|rfl|w_num|decide))) (fun _ _=>by simp[go_sem, *]) ?_;walk_nrm)))
    (refine Dl.leave1 rfl rfl H.f_uAdd rfl ?_;walk_nrm)
    (repeat (first|(first|with_reducible refine Dl.seq ?_|((with_reducible refine Dl.region ?_);simp only[Ap,Ah,As,AN,AB,AK,AG])|with_reducible refine Dl.regionEnd ?_|with_reducible refine Dl.skip ?_|with_reducible refine Dl.ret ?_|with_reducible refine Dl.block ?_|with_reducible refine Dl.inBlock ?_|with_reducible refine Dl.loop ?_|with_reducible refine Dl.inLoop ?_|with_reducible (refine Dl.exit (by with_unfolding_all rfl) ?_)|((with_reducible (refine Dl.cond true (by with_unfolding_all rfl) ?_));simp only[AI,Ay,Ad,↓reduceIte])|((with_reducible (refine Dl.cond false (by with_unfolding_all rfl) ?_));simp only[AI,Ay,Ad,↓reduceIte]))|(refine Dl.unwanted rfl rfl ?_;walk_nrm)|(refine Dl.value _ rfl rfl (by k_ne) (fun _ _=>by(go_simp;try (first|rfl|w_num|decide))) (fun _ _=>by simp[go_sem, *]) ?_;walk_nrm)))
    (refine Dl.unwind_mark .enable rfl (by simp) rfl H.f_enable (x_enable_n L) (x_enable_b L) (x_enable_x L) (x_enable_f L) ?_)
    exact Dl.leave0 rfl rfl H.f_add rfl hT'
end Go.Am
end
section
open List renaming map_map→ζ,mapM_map→ξ
namespace Go.Am
open Go.Conc Go.ConcR.Gen Go.Conc.Lib Go.RowKit Go.ConcR
open Go.ConcN (st_flag st_waiters)
open Go
section
variable {L:WgLink} {P:Program} {Wg:Nat} {cs:List Frame} {b0:Frame} {a0:Act} {ops0:Array Oper} {i0:Nat} {rest0:List Nat} {k0:List Item} {K:Goroutine→Prop}
set_option maxRecDepth 100000 in
theorem aTf(H:WgLib P L){c:Frame} :
    Dl P true (cU L.tWg Wg) (dO Wg) (fun d g=>d=1∧aBm L Wg c cs g) 0 (G ((base L.wait).at ⟨#[.pointer (some ⟨Wg,0,none⟩)]++AX 83 undef,[]⟩ [.code (body_wait L)]) (c::cs)):=by
  lib_facts
  simp only[body_wait,waitFn,AU]
  (repeat (first|(first|with_reducible refine Dl.seq ?_|((with_reducible refine Dl.region ?_);simp only[Ap,Ah,As,AN,AB,AK,AG])|with_reducible refine Dl.regionEnd ?_|with_reducible refine Dl.skip ?_|with_reducible refine Dl.ret ?_|with_reducible refine Dl.block ?_|with_reducible refine Dl.inBlock ?_|with_reducible refine Dl.loop ?_|with_reducible refine Dl.inLoop ?_|with_reducible (refine Dl.exit (by with_unfolding_all rfl) ?_)|((with_reducible (refine Dl.cond true (by with_unfolding_all rfl) ?_));simp only[AI,Ay,Ad,↓reduceIte])|((with_reducible (refine Dl.cond false (by with_unfolding_all rfl) ?_));simp only[AI,Ay,Ad,↓reduceIte]))|(refine Dl.unwanted rfl rfl ?_;walk_nrm)|(refine Dl.value _ rfl rfl (by k_ne) (fun _ _=>by(go_simp;try (first|rfl|w_num|decide))) (fun _ _=>by simp[go_sem, *]) ?_;walk_nrm)))
  (refine Dl.step rfl (by(intro e he;simp at he;subst he;exact .inl rfl)) (fun w hI=>stepG_mark0 .disable (by simp) rfl rfl (by k_ne) rfl H.f_disable (x_disable_n L) (x_disable_b L) (x_disable_x L) (x_disable_f L)) ?_;walk_nrm)
  repeat (first|with_reducible refine Dl.regionEnd ?_|with_reducible refine Dl.block ?_)
  refine Dl.loop (.here ⟨rfl,_,rfl,by simp,by simp⟩)
set_option maxRecDepth 100000 in
set_option maxHeartbeats 8000000 in
theorem aTg(H:WgLib P L)(hK:K (G (b0.at (a0.put ((ops0[i0]?).bind (·.dst)) (.tuple #[])) (.inRegion ops0 rest0::k0)) cs)){g:Goroutine}(h:aBm L Wg (b0.at a0 (.inRegion ops0 (i0::rest0)::k0)) cs g) :
    Dl P true (cU L.tWg Wg) (dO Wg) (fun d g=>d=1∧xG P L Wg K (aBm L Wg (b0.at a0 (.inRegion ops0 (i0::rest0)::k0)) cs) d g) 1 g:=by
  lib_facts
  obtain⟨T,rfl,hT84,t0⟩:=h
  obtain⟨v0,v1,v2,v3,v4,v5,v6,v7,v8,v9,v10,v11,v12,v13,v14,v15,v16,v17,v18,v19,v20,v21,v22,v23,v24,v25,v26,v27,v28,v29,v30,v31,v32,v33,v34,v35,v36,v37,v38,v39,v40,v41,v42,v43,v44,v45,v46,v47,v48,v49,v50,v51,v52,v53,v54,v55,v56,v57,v58,v59,v60,v61,v62,v63,v64,v65,v66,v67,v68,v69,v70,v71,v72,v73,v74,v75,v76,v77,v78,v79,v80,v81,v82,v83,rfl⟩:=array84 T hT84
  simp only[List.getElem?_toArray,List.getElem?_cons_zero,Au]at t0
  subst t0
  simp only[L7,body_wait,waitFn,AU]
  (repeat (first|(first|with_reducible refine Dl.seq ?_|((with_reducible refine Dl.region ?_);simp only[Ap,Ah,As,AN,AB,AK,AG])|with_reducible refine Dl.regionEnd ?_|with_reducible refine Dl.skip ?_|with_reducible refine Dl.ret ?_|with_reducible refine Dl.block ?_|with_reducible refine Dl.inBlock ?_|with_reducible refine Dl.loop ?_|with_reducible refine Dl.inLoop ?_|with_reducible (refine Dl.exit (by with_unfolding_all rfl) ?_)|((with_reducible (refine Dl.cond true (by with_unfolding_all rfl) ?_));simp only[AI,Ay,Ad,↓reduceIte])|((with_reducible (refine Dl.cond false (by with_unfolding_all rfl) ?_));simp only[AI,Ay,Ad,↓reduceIte]))|(refine Dl.unwanted rfl rfl ?_;walk_nrm)|(refine Dl.value _ rfl rfl (by k_ne) (fun _ _=>by(go_simp;try (first|rfl|w_num|decide))) (fun _ _=>by simp[go_sem, *]) ?_;walk_nrm)))
  (refine Dl.call rfl rfl (by k_ne) rfl H.f_uLoad (nm_uLoad L) rfl ?_;walk_nrmf uLoadFn)
  (repeat (first|(first|with_reducible refine Dl.seq ?_|((with_reducible refine Dl.region ?_);simp only[Ap,Ah,As,AN,AB,AK,AG])|with_reducible refine Dl.regionEnd ?_|with_reducible refine Dl.skip ?_|with_reducible refine Dl.ret ?_|with_reducible refine Dl.block ?_|with_reducible refine Dl.inBlock ?_|with_reducible refine Dl.loop ?_|with_reducible refine Dl.inLoop ?_|with_reducible (refine Dl.exit (by with_unfolding_all rfl) ?_)|((with_reducible (refine Dl.cond true (by with_unfolding_all rfl) ?_));simp only[AI,Ay,Ad,↓reduceIte])|((with_reducible (refine Dl.cond false (by with_unfolding_all rfl) ?_));simp only[AI,Ay,Ad,↓reduceIte]))|(refine Dl.unwanted rfl rfl ?_;walk_nrm)|(refine Dl.value _ rfl rfl (by k_ne) (fun _ _=>by(go_simp;try (first|rfl|w_num|decide))) (fun _ _=>by simp[go_sem, *]) ?_;walk_nrm)))
  refine .here ⟨rfl,rfl,fun w v hv hw=>?_⟩
  by_cases h0:v=0
  · subst h0
    have hc:w.cell? ⟨Wg,0,none⟩=some (.int .u64 0):=by simp[Bw,hw,wgBlock]
    refine⟨_,stepG_load_atomic (v:=0) rfl rfl (by k_ne) rfl H.f_loadU64 (x_loadU64_n L) (x_loadU64_b L) (x_loadU64_x L) .u64 (x_loadU64_f L) rfl hc,fun _=>?_,fun h=>absurd rfl h⟩
    clear hc hw
    walk_nrm
    have e2:BC.wrap (bits BinOp.and Az 0 2147483647)=0:=by decide
    (repeat (first|(first|with_reducible refine Dl.seq ?_|((with_reducible refine Dl.region ?_);simp only[Ap,Ah,As,AN,AB,AK,AG])|with_reducible refine Dl.regionEnd ?_|with_reducible refine Dl.skip ?_|with_reducible refine Dl.ret ?_|with_reducible refine Dl.block ?_|with_reducible refine Dl.inBlock ?_|with_reducible refine Dl.loop ?_|with_reducible refine Dl.inLoop ?_|with_reducible (refine Dl.exit (by with_unfolding_all rfl) ?_)|((with_reducible (refine Dl.cond true (by with_unfolding_all rfl) ?_));simp only[AI,Ay,Ad,↓reduceIte])|((with_reducible (refine Dl.cond false (by with_unfolding_all rfl) ?_));simp only[AI,Ay,Ad,↓reduceIte]))|(refine Dl.unwanted rfl rfl ?_;walk_nrm)|(refine Dl.value _ rfl rfl (by k_ne) (fun _ _=>by(go_simp;try (first|rfl|w_num|decide))) (fun _ _=>by simp[go_sem, *]) ?_;walk_nrm)))
    (refine Dl.leave1 rfl rfl H.f_uLoad rfl ?_;walk_nrm)
    (repeat (first|(first|with_reducible refine Dl.seq ?_|((with_reducible refine Dl.region ?_);simp only[Ap,Ah,As,AN,AB,AK,AG])|with_reducible refine Dl.regionEnd ?_|with_reducible refine Dl.skip ?_|with_reducible refine Dl.ret ?_|with_reducible refine Dl.block ?_|with_reducible refine Dl.inBlock ?_|with_reducible refine Dl.loop ?_|with_reducible refine Dl.inLoop ?_|with_reducible (refine Dl.exit (by with_unfolding_all rfl) ?_)|((with_reducible (refine Dl.cond true (by with_unfolding_all rfl) ?_));simp only[AI,Ay,Ad,↓reduceIte])|((with_reducible (refine Dl.cond false (by with_unfolding_all rfl) ?_));simp only[AI,Ay,Ad,↓reduceIte]))|(refine Dl.unwanted rfl rfl ?_;walk_nrm)|(refine Dl.value _ rfl rfl (by k_ne) (fun _ _=>by(go_simp;try (first|rfl|w_num|decide))) (fun _ _=>by simp[go_sem, *]) ?_;walk_nrm)))
    (refine Dl.step rfl (by(intro e he;simp at he;subst he;exact .inl rfl)) (fun w hI=>stepG_mark0 .enable (by simp) rfl rfl (by k_ne) rfl H.f_enable (x_enable_n L) (x_enable_b L) (x_enable_x L) (x_enable_f L)) ?_;walk_nrm)
    (repeat (first|(first|with_reducible refine Dl.seq ?_|((with_reducible refine Dl.region ?_);simp only[Ap,Ah,As,AN,AB,AK,AG])|with_reducible refine Dl.regionEnd ?_|with_reducible refine Dl.skip ?_|with_reducible refine Dl.ret ?_|with_reducible refine Dl.block ?_|with_reducible refine Dl.inBlock ?_|with_reducible refine Dl.loop ?_|with_reducible refine Dl.inLoop ?_|with_reducible (refine Dl.exit (by with_unfolding_all rfl) ?_)|((with_reducible (refine Dl.cond true (by with_unfolding_all rfl) ?_));simp only[AI,Ay,Ad,↓reduceIte])|((with_reducible (refine Dl.cond false (by with_unfolding_all rfl) ?_));simp only[AI,Ay,Ad,↓reduceIte]))|(refine Dl.unwanted rfl rfl ?_;walk_nrm)|(refine Dl.value _ rfl rfl (by k_ne) (fun _ _=>by(go_simp;try (first|rfl|w_num|decide))) (fun _ _=>by simp[go_sem, *]) ?_;walk_nrm)))
    (refine Dl.value _ rfl rfl (by k_ne) (fun w hI=>by(have hcv:=run_convert_to_unsafe (P:=P) H.underlying_tWgP H.underlying_tUP H.room_tWg (cU.cell0 hI).choose_spec);go_simp;rfl) (fun w hI=>by(have hce:=fun es=>events_convert_to_unsafe (P:=P) H.underlying_tWgP H.underlying_tUP H.room_tWg (cU.cell0 hI).choose_spec es);simp[go_sem,hce]) ?_;walk_nrm)
    refine .here ⟨rfl,rfl,_,fun w hI=>stepG_markAt .acquire (by simp) rfl rfl (by k_ne) rfl H.f_acquire (x_acquire_n L) (x_acquire_b L) (x_acquire_x L) (x_acquire_f L) (by simp[C5,stA]),?_⟩
    walk_nrm
    (repeat (first|(first|with_reducible refine Dl.seq ?_|((with_reducible refine Dl.region ?_);simp only[Ap,Ah,As,AN,AB,AK,AG])|with_reducible refine Dl.regionEnd ?_|with_reducible refine Dl.skip ?_|with_reducible refine Dl.ret ?_|with_reducible refine Dl.block ?_|with_reducible refine Dl.inBlock ?_|with_reducible refine Dl.loop ?_|with_reducible refine Dl.inLoop ?_|with_reducible (refine Dl.exit (by with_unfolding_all rfl) ?_)|((with_reducible (refine Dl.cond true (by with_unfolding_all rfl) ?_));simp only[AI,Ay,Ad,↓reduceIte])|((with_reducible (refine Dl.cond false (by with_unfolding_all rfl) ?_));simp only[AI,Ay,Ad,↓reduceIte]))|(refine Dl.unwanted rfl rfl ?_;walk_nrm)|(refine Dl.value _ rfl rfl (by k_ne) (fun _ _=>by(go_simp;try (first|rfl|w_num|decide))) (fun _ _=>by simp[go_sem, *]) ?_;walk_nrm)))
    exact Dl.leave0 rfl rfl H.f_wait rfl (.here ⟨rfl,hK⟩)
  · obtain⟨S,hS⟩:∃ S:Int,(v:Int)*KK=S:=⟨_,rfl⟩
    have a1:S/4294967296=(v:Int):=by rw[←hS];simp only[KK];omega
    have b1:bits .and .u64 S 2147483648=0:=by rw[←hS];have:=st_flag v 0 (by omega) (by omega);simpa[KK]using this
    have b2:bits .and .u64 S 2147483647=0:=by rw[←hS];have:=st_waiters v 0 (by omega) (by omega);simpa[KK]using this
    have c1:IntKind.i32.wrap (v:Int)=(v:Int):=by rw[IntKind.wrap_i32];omega
    have d1:BC.wrap 0=0:=by decide
    have w1:Az.wrap (S+1)=S+1:=by rw[Ej,←hS];simp only[KK];omega
    have q3:decide ((v:Int)<0)=false:=Bn (by omega)
    have q4:decide (0<(v:Int))=true:=BU (by omega)
    have q5:((v:Int)==0)=false:=by simp;omega
    have q6:decide ((v:Int)=0)=false:=Bn (by omega)
    rw[hS]at hw
    have hc:w.cell? ⟨Wg,0,none⟩=some (.int .u64 S):=by simp[Bw,hw,wgBlock]
    refine⟨_,stepG_load_atomic (v:=S) rfl rfl (by k_ne) rfl H.f_loadU64 (x_loadU64_n L) (x_loadU64_b L) (x_loadU64_x L) .u64 (x_loadU64_f L) rfl hc,fun h=>absurd h h0,fun _=>?_⟩
    clear hc hw
    walk_nrm
    (repeat (first|(first|with_reducible refine Dl.seq ?_|((with_reducible refine Dl.region ?_);simp only[Ap,Ah,As,AN,AB,AK,AG])|with_reducible refine Dl.regionEnd ?_|with_reducible refine Dl.skip ?_|with_reducible refine Dl.ret ?_|with_reducible refine Dl.block ?_|with_reducible refine Dl.inBlock ?_|with_reducible refine Dl.loop ?_|with_reducible refine Dl.inLoop ?_|with_reducible (refine Dl.exit (by with_unfolding_all rfl) ?_)|((with_reducible (refine Dl.cond true (by with_unfolding_all rfl) ?_));simp only[AI,Ay,Ad,↓reduceIte])|((with_reducible (refine Dl.cond false (by with_unfolding_all rfl) ?_));simp only[AI,Ay,Ad,↓reduceIte]))|(refine Dl.unwanted rfl rfl ?_;walk_nrm)|(refine Dl.value _ rfl rfl (by k_ne) (fun _ _=>by(go_simp;try (first|rfl|w_num|decide))) (fun _ _=>by simp[go_sem, *]) ?_;walk_nrm)))
    (refine Dl.leave1 rfl rfl H.f_uLoad rfl ?_;walk_nrm)
    (repeat (first|(first|with_reducible refine Dl.seq ?_|((with_reducible refine Dl.region ?_);simp only[Ap,Ah,As,AN,AB,AK,AG])|with_reducible refine Dl.regionEnd ?_|with_reducible refine Dl.skip ?_|with_reducible refine Dl.ret ?_|with_reducible refine Dl.block ?_|with_reducible refine Dl.inBlock ?_|with_reducible refine Dl.loop ?_|with_reducible refine Dl.inLoop ?_|with_reducible (refine Dl.exit (by with_unfolding_all rfl) ?_)|((with_reducible (refine Dl.cond true (by with_unfolding_all rfl) ?_));simp only[AI,Ay,Ad,↓reduceIte])|((with_reducible (refine Dl.cond false (by with_unfolding_all rfl) ?_));simp only[AI,Ay,Ad,↓reduceIte]))|(refine Dl.unwanted rfl rfl ?_;walk_nrm)|(refine Dl.value _ rfl rfl (by k_ne) (fun _ _=>by(go_simp;try (first|rfl|w_num|decide))) (fun _ _=>by simp[go_sem, *]) ?_;walk_nrm)))
    (refine Dl.call rfl rfl (by k_ne) rfl H.f_uCas (nm_uCas L) rfl ?_;walk_nrmf uCasFn)
    (repeat (first|(first|with_reducible refine Dl.seq ?_|((with_reducible refine Dl.region ?_);simp only[Ap,Ah,As,AN,AB,AK,AG])|with_reducible refine Dl.regionEnd ?_|with_reducible refine Dl.skip ?_|with_reducible refine Dl.ret ?_|with_reducible refine Dl.block ?_|with_reducible refine Dl.inBlock ?_|with_reducible refine Dl.loop ?_|with_reducible refine Dl.inLoop ?_|with_reducible (refine Dl.exit (by with_unfolding_all rfl) ?_)|((with_reducible (refine Dl.cond true (by with_unfolding_all rfl) ?_));simp only[AI,Ay,Ad,↓reduceIte])|((with_reducible (refine Dl.cond false (by with_unfolding_all rfl) ?_));simp only[AI,Ay,Ad,↓reduceIte]))|(refine Dl.unwanted rfl rfl ?_;walk_nrm)|(refine Dl.value _ rfl rfl (by k_ne) (fun _ _=>by(go_simp;try (first|rfl|w_num|decide))) (fun _ _=>by simp[go_sem, *]) ?_;walk_nrm)))
    refine .here ⟨rfl,rfl,fun w2 v' hv' hw=>⟨fun e=>?_,fun e=>?_⟩⟩
    · subst e
      rw[hS]at hw ⊢
      have hc:w2.cell? ⟨Wg,0,none⟩=some (.int .u64 S):=by simp[Bw,hw,wgBlock]
      have hz:w2.frozen? ⟨Wg,0,none⟩=false:=by simp[C6,hw,wgBlock]
      refine⟨_,(stepG_cas_hit (v:=S) (n:=S+1) rfl rfl (by k_ne) rfl H.f_casU64 (x_casU64_n L) (x_casU64_b L) (x_casU64_x L) .u64 (x_casU64_f L) rfl rfl rfl hc hz).trans (by rfl),?_⟩
      clear hw hc hz
      walk_nrm
      (repeat (first|(first|with_reducible refine Dl.seq ?_|((with_reducible refine Dl.region ?_);simp only[Ap,Ah,As,AN,AB,AK,AG])|with_reducible refine Dl.regionEnd ?_|with_reducible refine Dl.skip ?_|with_reducible refine Dl.ret ?_|with_reducible refine Dl.block ?_|with_reducible refine Dl.inBlock ?_|with_reducible refine Dl.loop ?_|with_reducible refine Dl.inLoop ?_|with_reducible (refine Dl.exit (by with_unfolding_all rfl) ?_)|((with_reducible (refine Dl.cond true (by with_unfolding_all rfl) ?_));simp only[AI,Ay,Ad,↓reduceIte])|((with_reducible (refine Dl.cond false (by with_unfolding_all rfl) ?_));simp only[AI,Ay,Ad,↓reduceIte]))|(refine Dl.unwanted rfl rfl ?_;walk_nrm)|(refine Dl.value _ rfl rfl (by k_ne) (fun _ _=>by(go_simp;try (first|rfl|w_num|decide))) (fun _ _=>by simp[go_sem, *]) ?_;walk_nrm)))
      (refine Dl.leave1 rfl rfl H.f_uCas rfl ?_;walk_nrm)
      (repeat (first|(first|with_reducible refine Dl.seq ?_|((with_reducible refine Dl.region ?_);simp only[Ap,Ah,As,AN,AB,AK,AG])|with_reducible refine Dl.regionEnd ?_|with_reducible refine Dl.skip ?_|with_reducible refine Dl.ret ?_|with_reducible refine Dl.block ?_|with_reducible refine Dl.inBlock ?_|with_reducible refine Dl.loop ?_|with_reducible refine Dl.inLoop ?_|with_reducible (refine Dl.exit (by with_unfolding_all rfl) ?_)|((with_reducible (refine Dl.cond true (by with_unfolding_all rfl) ?_));simp only[AI,Ay,Ad,↓reduceIte])|((with_reducible (refine Dl.cond false (by with_unfolding_all rfl) ?_));simp only[AI,Ay,Ad,↓reduceIte]))|(refine Dl.unwanted rfl rfl ?_;walk_nrm)|(refine Dl.value _ rfl rfl (by k_ne) (fun _ _=>by(go_simp;try (first|rfl|w_num|decide))) (fun _ _=>by simp[go_sem, *]) ?_;walk_nrm)))
      (refine Dl.value _ rfl rfl (by k_ne) (fun w hI=>by(have hcv:=run_convert_to_unsafe (P:=P) H.underlying_tPU32 H.underlying_tUP H.room_tU32 (cU.cell1 hI).choose_spec);go_simp;rfl) (fun w hI=>by(have hce:=fun es=>events_convert_to_unsafe (P:=P) H.underlying_tPU32 H.underlying_tUP H.room_tU32 (cU.cell1 hI).choose_spec es);simp[go_sem,hce]) ?_;walk_nrm)
      (refine Dl.step rfl (by(intro e he;simp at he;subst he;first|exact .inr (.inl rfl)|exact .inr (.inr rfl))) (fun w hI=>stepG_markAt .write (by simp) rfl rfl (by k_ne) rfl H.f_raceWrite (x_raceWrite_n L) (x_raceWrite_b L) (x_raceWrite_x L) (x_raceWrite_f L) (ad:=smA Wg) (by simp[C5,smA])) ?_;walk_nrm)
      (repeat (first|(first|with_reducible refine Dl.seq ?_|((with_reducible refine Dl.region ?_);simp only[Ap,Ah,As,AN,AB,AK,AG])|with_reducible refine Dl.regionEnd ?_|with_reducible refine Dl.skip ?_|with_reducible refine Dl.ret ?_|with_reducible refine Dl.block ?_|with_reducible refine Dl.inBlock ?_|with_reducible refine Dl.loop ?_|with_reducible refine Dl.inLoop ?_|with_reducible (refine Dl.exit (by with_unfolding_all rfl) ?_)|((with_reducible (refine Dl.cond true (by with_unfolding_all rfl) ?_));simp only[AI,Ay,Ad,↓reduceIte])|((with_reducible (refine Dl.cond false (by with_unfolding_all rfl) ?_));simp only[AI,Ay,Ad,↓reduceIte]))|(refine Dl.unwanted rfl rfl ?_;walk_nrm)|(refine Dl.value _ rfl rfl (by k_ne) (fun _ _=>by(go_simp;try (first|rfl|w_num|decide))) (fun _ _=>by simp[go_sem, *]) ?_;walk_nrm)))
      refine .here ⟨rfl,rfl,fun w st hw=>stepG_semacquire_wait rfl rfl rfl H.f_semacquire (x_semacquire_n L) (x_semacquire_b L) (x_semacquire_x L) (x_semacquire_f L) (by simp[C5,smA]) (show w.cell? ⟨Wg,1,none⟩=some (.int .u32 0)by simp[Bw,hw,wgBlock]),fun w hw=>?_⟩
      have hc:w.cell? ⟨Wg,1,none⟩=some (.int .u32 1):=by simp[Bw,hw,wgBlock]
      have hz:w.frozen? ⟨Wg,1,none⟩=false:=by simp[C6,hw,wgBlock]
      refine⟨_,(stepG_semacquire (n:=1) rfl rfl (by k_ne) rfl H.f_semacquire (x_semacquire_n L) (x_semacquire_b L) (x_semacquire_x L) (x_semacquire_f L) (by simp[C5,smA]) hc (by k_ne) hz).trans (by rfl),?_⟩
      clear hw hc hz
      walk_nrm
      (repeat (first|(first|with_reducible refine Dl.seq ?_|((with_reducible refine Dl.region ?_);simp only[Ap,Ah,As,AN,AB,AK,AG])|with_reducible refine Dl.regionEnd ?_|with_reducible refine Dl.skip ?_|with_reducible refine Dl.ret ?_|with_reducible refine Dl.block ?_|with_reducible refine Dl.inBlock ?_|with_reducible refine Dl.loop ?_|with_reducible refine Dl.inLoop ?_|with_reducible (refine Dl.exit (by with_unfolding_all rfl) ?_)|((with_reducible (refine Dl.cond true (by with_unfolding_all rfl) ?_));simp only[AI,Ay,Ad,↓reduceIte])|((with_reducible (refine Dl.cond false (by with_unfolding_all rfl) ?_));simp only[AI,Ay,Ad,↓reduceIte]))|(refine Dl.unwanted rfl rfl ?_;walk_nrm)|(refine Dl.value _ rfl rfl (by k_ne) (fun _ _=>by(go_simp;try (first|rfl|w_num|decide))) (fun _ _=>by simp[go_sem, *]) ?_;walk_nrm)))
      (refine Dl.call rfl rfl (by k_ne) rfl H.f_uLoad (nm_uLoad L) rfl ?_;walk_nrmf uLoadFn)
      (repeat (first|(first|with_reducible refine Dl.seq ?_|((with_reducible refine Dl.region ?_);simp only[Ap,Ah,As,AN,AB,AK,AG])|with_reducible refine Dl.regionEnd ?_|with_reducible refine Dl.skip ?_|with_reducible refine Dl.ret ?_|with_reducible refine Dl.block ?_|with_reducible refine Dl.inBlock ?_|with_reducible refine Dl.loop ?_|with_reducible refine Dl.inLoop ?_|with_reducible (refine Dl.exit (by with_unfolding_all rfl) ?_)|((with_reducible (refine Dl.cond true (by with_unfolding_all rfl) ?_));simp only[AI,Ay,Ad,↓reduceIte])|((with_reducible (refine Dl.cond false (by with_unfolding_all rfl) ?_));simp only[AI,Ay,Ad,↓reduceIte]))|(refine Dl.unwanted rfl rfl ?_;walk_nrm)|(refine Dl.value _ rfl rfl (by k_ne) (fun _ _=>by(go_simp;try (first|rfl|w_num|decide))) (fun _ _=>by simp[go_sem, *]) ?_;walk_nrm)))
      refine .here ⟨rfl,fun w hw=>?_⟩
      have hc:w.cell? ⟨Wg,0,none⟩=some (.int .u64 0):=by simp[Bw,hw,wgBlock]
      refine⟨_,stepG_load_atomic (v:=0) rfl rfl (by k_ne) rfl H.f_loadU64 (x_loadU64_n L) (x_loadU64_b L) (x_loadU64_x L) .u64 (x_loadU64_f L) rfl hc,?_⟩
      clear hw hc
      walk_nrm
      (repeat (first|(first|with_reducible refine Dl.seq ?_|((with_reducible refine Dl.region ?_);simp only[Ap,Ah,As,AN,AB,AK,AG])|with_reducible refine Dl.regionEnd ?_|with_reducible refine Dl.skip ?_|with_reducible refine Dl.ret ?_|with_reducible refine Dl.block ?_|with_reducible refine Dl.inBlock ?_|with_reducible refine Dl.loop ?_|with_reducible refine Dl.inLoop ?_|with_reducible (refine Dl.exit (by with_unfolding_all rfl) ?_)|((with_reducible (refine Dl.cond true (by with_unfolding_all rfl) ?_));simp only[AI,Ay,Ad,↓reduceIte])|((with_reducible (refine Dl.cond false (by with_unfolding_all rfl) ?_));simp only[AI,Ay,Ad,↓reduceIte]))|(refine Dl.unwanted rfl rfl ?_;walk_nrm)|(refine Dl.value _ rfl rfl (by k_ne) (fun _ _=>by(go_simp;try (first|rfl|w_num|decide))) (fun _ _=>by simp[go_sem, *]) ?_;walk_nrm)))
      (refine Dl.leave1 rfl rfl H.f_uLoad rfl ?_;walk_nrm)
      (repeat (first|(first|with_reducible refine Dl.seq ?_|((with_reducible refine Dl.region ?_);simp only[Ap,Ah,As,AN,AB,AK,AG])|with_reducible refine Dl.regionEnd ?_|with_reducible refine Dl.skip ?_|with_reducible refine Dl.ret ?_|with_reducible refine Dl.block ?_|with_reducible refine Dl.inBlock ?_|with_reducible refine Dl.loop ?_|with_reducible refine Dl.inLoop ?_|with_reducible (refine Dl.exit (by with_unfolding_all rfl) ?_)|((with_reducible (refine Dl.cond true (by with_unfolding_all rfl) ?_));simp only[AI,Ay,Ad,↓reduceIte])|((with_reducible (refine Dl.cond false (by with_unfolding_all rfl) ?_));simp only[AI,Ay,Ad,↓reduceIte]))|(refine Dl.unwanted rfl rfl ?_;walk_nrm)|(refine Dl.value _ rfl rfl (by k_ne) (fun _ _=>by(go_simp;try (first|rfl|w_num|decide))) (fun _ _=>by simp[go_sem, *]) ?_;walk_nrm)))
      (refine Dl.step rfl (by(intro e he;simp at he;subst he;exact .inl rfl)) (fun w hI=>stepG_mark0 .enable (by simp) rfl rfl (by k_ne) rfl H.f_enable (x_enable_n L) (x_enable_b L) (x_enable_x L) (x_enable_f L)) ?_;walk_nrm)
      (repeat (first|(first|with_reducible refine Dl.seq ?_|((with_reducible refine Dl.region ?_);simp only[Ap,Ah,As,AN,AB,AK,AG])|with_reducible refine Dl.regionEnd ?_|with_reducible refine Dl.skip ?_|with_reducible refine Dl.ret ?_|with_reducible refine Dl.block ?_|with_reducible refine Dl.inBlock ?_|with_reducible refine Dl.loop ?_|with_reducible refine Dl.inLoop ?_|with_reducible (refine Dl.exit (by with_unfolding_all rfl) ?_)|((with_reducible (refine Dl.cond true (by with_unfolding_all rfl) ?_));simp only[AI,Ay,Ad,↓reduceIte])|((with_reducible (refine Dl.cond false (by with_unfolding_all rfl) ?_));simp only[AI,Ay,Ad,↓reduceIte]))|(refine Dl.unwanted rfl rfl ?_;walk_nrm)|(refine Dl.value _ rfl rfl (by k_ne) (fun _ _=>by(go_simp;try (first|rfl|w_num|decide))) (fun _ _=>by simp[go_sem, *]) ?_;walk_nrm)))
      (refine Dl.value _ rfl rfl (by k_ne) (fun w hI=>by(have hcv:=run_convert_to_unsafe (P:=P) H.underlying_tWgP H.underlying_tUP H.room_tWg (cU.cell0 hI).choose_spec);go_simp;rfl) (fun w hI=>by(have hce:=fun es=>events_convert_to_unsafe (P:=P) H.underlying_tWgP H.underlying_tUP H.room_tWg (cU.cell0 hI).choose_spec es);simp[go_sem,hce]) ?_;walk_nrm)
      refine .here ⟨rfl,rfl,_,fun w hI=>stepG_markAt .acquire (by simp) rfl rfl (by k_ne) rfl H.f_acquire (x_acquire_n L) (x_acquire_b L) (x_acquire_x L) (x_acquire_f L) (by simp[C5,stA]),?_⟩
      walk_nrm
      (repeat (first|(first|with_reducible refine Dl.seq ?_|((with_reducible refine Dl.region ?_);simp only[Ap,Ah,As,AN,AB,AK,AG])|with_reducible refine Dl.regionEnd ?_|with_reducible refine Dl.skip ?_|with_reducible refine Dl.ret ?_|with_reducible refine Dl.block ?_|with_reducible refine Dl.inBlock ?_|with_reducible refine Dl.loop ?_|with_reducible refine Dl.inLoop ?_|with_reducible (refine Dl.exit (by with_unfolding_all rfl) ?_)|((with_reducible (refine Dl.cond true (by with_unfolding_all rfl) ?_));simp only[AI,Ay,Ad,↓reduceIte])|((with_reducible (refine Dl.cond false (by with_unfolding_all rfl) ?_));simp only[AI,Ay,Ad,↓reduceIte]))|(refine Dl.unwanted rfl rfl ?_;walk_nrm)|(refine Dl.value _ rfl rfl (by k_ne) (fun _ _=>by(go_simp;try (first|rfl|w_num|decide))) (fun _ _=>by simp[go_sem, *]) ?_;walk_nrm)))
      exact Dl.leave0 rfl rfl H.f_wait rfl (.here ⟨rfl,hK⟩)
    · have hc:w2.cell? ⟨Wg,0,none⟩=some (.int .u64 ((v':Int)*KK)):=by simp[Bw,hw,wgBlock]
      have hz:w2.frozen? ⟨Wg,0,none⟩=false:=by simp[C6,hw,wgBlock]
      refine⟨_,stepG_cas_miss (v:=(v':Int)*KK) (old:=S) (n:=S+1) rfl rfl (by k_ne) rfl H.f_casU64 (x_casU64_n L) (x_casU64_b L) (x_casU64_x L) .u64 (x_casU64_f L) rfl rfl rfl hc hz (by rw[←hS];simp only[KK];omega),?_⟩
      clear hw hc hz
      walk_nrm
      (refine Dl.value _ rfl rfl (by k_ne) (fun _ _=>by(go_simp;try (first|rfl|w_num|decide))) (fun _ _=>by simp[go_sem, *]) ?_;walk_nrm)
      repeat (first|with_reducible refine Dl.seq ?_|((with_reducible refine Dl.region ?_);simp only[Ap,Ah,As,AN,AB,AK,AG])|with_reducible refine Dl.regionEnd ?_|with_reducible refine Dl.skip ?_|with_reducible refine Dl.ret ?_|with_reducible refine Dl.block ?_|with_reducible refine Dl.inBlock ?_|with_reducible refine Dl.loop ?_|with_reducible refine Dl.inLoop ?_|with_reducible (refine Dl.exit (by with_unfolding_all rfl) ?_)|((with_reducible (refine Dl.cond true (by with_unfolding_all rfl) ?_));simp only[AI,Ay,Ad,↓reduceIte])|((with_reducible (refine Dl.cond false (by with_unfolding_all rfl) ?_));simp only[AI,Ay,Ad,↓reduceIte]))
      (refine Dl.leave1 rfl rfl H.f_uCas rfl ?_;walk_nrm)
      refine Dl.regionEnd ?_
      (refine Dl.cond false (by first|rfl|(simp[C5];omega)) ?_;simp only[AI,Ay,Ad,↓reduceIte])
      refine Dl.skip ?_
      refine Dl.inBlock ?_
      exact Dl.inLoop (.here ⟨rfl,_,rfl,by simp,by simp⟩)
end
end Go.Am
end
section
open List renaming map_map→ζ,mapM_map→ξ
open Go Go.Am Go.Proofs
namespace Go.Am
open Go.Conc Go.Conc.Lib Go.RowKit Go.ConcR.Gen
open Go.ConcR (KK wgBlock stA smA rd wr mk)
noncomputable def fT:Code:=Da.body.getD .skip
noncomputable def cW:Code:=match fT with|.seq _ (.seq _ (.seq _ (.seq _ (.seq _ (.seq (.seq _ (.block _ (.loop c))) _)))))=>c|_=>.skip
noncomputable def tW:Code:=match fT with|.seq _ (.seq _ (.seq _ (.seq _ (.seq _ (.seq _ c)))))=>c|_=>.skip
noncomputable def tW2:Code:=match tW with|.seq _ c=>c|_=>.skip
noncomputable def aNv:Array Oper:=match tW with|.seq (.region _ ops _) _=>ops|_=>#[]
theorem bHo{L:WgLink}{P:Program}(H:WgLib P L){Wg:Nat}{cs:List Frame}{b0:Frame}{a0:Act}{ops0:Array Oper}{i0:Nat}{rest0:List Nat}{k0:List Item}{K:Nat→Goroutine→Prop}{T:Array Value}(hT:T=#[.pointer (some ⟨Wg,0,none⟩),.int .i64 1]++AX 115 undef)
    (hK:K 0 (G (b0.at (a0.put ((ops0[i0]?).bind (·.dst)) (.tuple #[])) (.inRegion ops0 rest0::k0)) cs)) :
    Dl P true (cU L.tWg Wg) (dO Wg) (fun d g=>d=1∧aEn P L Wg K d g) 0 (G ((base L.add).at ⟨T,[]⟩ [.code (body_add L)]) (b0.at a0 (.inRegion ops0 (i0::rest0)::k0)::cs)):=by
  subst hT;exact bPo H hK
theorem aMm{L:WgLink}{P:Program}(H:WgLib P L){Wg:Nat}{c:Frame}{cs:List Frame}{T:Array Value}(hT:T=#[.pointer (some ⟨Wg,0,none⟩)]++AX 83 undef) :
    Dl P true (cU L.tWg Wg) (dO Wg) (fun d g=>d=1∧aBm L Wg c cs g) 0 (G ((base L.wait).at ⟨T,[]⟩ [.code (body_wait L)]) (c::cs)):=by
  subst hT;exact aTf H
theorem aPw{P:Program}{L:WgLink}{Wg:Nat}{K An An':Goroutine→Prop}(h:∀ g,An g→An' g){vs d:Nat}{g:Goroutine}(hc:aSz P L Wg K An vs d g):aSz P L Wg K An' vs d g :=
  ⟨hc.1,fun w v hv hw=>⟨(hc.2 w v hv hw).1,fun e=>let ⟨g',h1,h2⟩:=(hc.2 w v hv hw).2 e;⟨g',h1,h2.mono fun d' g' hx=>⟨hx.1,h g' hx.2⟩⟩⟩⟩
theorem aXl{P:Program}{L:WgLink}{Wg:Nat}{K An An':Goroutine→Prop}(h:∀ g,An g→An' g){d:Nat}{g:Goroutine}(hc:xG P L Wg K An d g):xG P L Wg K An' d g :=
  ⟨hc.1,fun w v hv hw=>let ⟨g',h1,h2,h3⟩:=hc.2 w v hv hw;⟨g',h1,h2,fun e=>(h3 e).mono fun d' g' hx=>⟨hx.1,aPw h hx.2⟩⟩⟩
structure RI(Wg bA bR C n cap:Nat)(c0 c1 c2:D)(lD:List (List D))(k:Nat)(a:Act)(V:World):Prop where
  size:a.tmps.size=38
  ds:a.defers=[]
  s2:a.tmps.getD 2 undef=bY bA
  s6:a.tmps.getD 6 undef=bY bR
  s7:a.tmps.getD 7 undef=bY Wg
  s26:VD (fun b=>b<V.heap.size) V (.sl lD) (a.tmps.getD 26 undef)
  s27:a.tmps.getD 27 undef=.int .i64 n
  s28:a.tmps.getD 28 undef=.int .i64 k
  ok:OkV V
  dA:VD (fun b=>b<V.heap.size) V (.pt [c0,c1,c2]) (bY bA)
  dR:VD (fun b=>b<V.heap.size) V (.pt [.lit (.slice (some ⟨C,0,none⟩) n cap)]) (bY bR)
theorem v_b{F:Nat→Prop}{w:World}{ι:Nat→Option Nat}{b:Bool}{v:Value}(h:V F w ι (.d (.b b)) v):v=.bool b:=by
  cases h with|d _ _ h=>cases h;rfl
theorem aQn{F:Nat→Prop}{w:World}{ι:Nat→Option Nat}{i o:Nat}{v:Value}(h:V F w ι (.ptr i o) v):∃ b,ι i=some b∧v=.pointer (some ⟨b,o,none⟩):=by
  cases h with|ptr _ _ b hb=>exact⟨b,hb,rfl⟩
theorem aJn{G:Ctx}{F:Nat→Prop}{w:World}{ι:Nat→Option Nat}{C:Nat→Prop}{H:Hp}(hR:HR G F w ι C H){i b:Nat}{e:TypeId}{kk:IntKind}{n:Int}(hb:ι i=some b)(hH:H i=some (.cells e [.d (.i kk n)])):VD (fun b=>b<w.heap.size) w (.pt [.i kk n]) (bY b):=by
  obtain⟨ob,h1,h2⟩:=hR.obj i b _ hb hH
  cases h2 with
  | cells _ _ cur hl hc =>
    obtain⟨u,hu,hv⟩:=hc 0 _ rfl
    have hu':=v_i hv;subst hu'
    refine .pt _ _ (fun _=>.int kk n) (bG h1) (fun j hj=>?_) fun k c hk=>?_
    · have:j=0:=by simp at hj;omega
      subst this
      simp[gU,Bw,h1,hu]
    · cases k with
      |zero=>simp at hk;subst hk;exact .i _ _
      |succ k=>simp at hk
theorem bQj{a:Act}{o:Oper}{x7 x2 x9 x8 x6:Value}(hop:o.op=.makeFunc (.func 72) #[] #[.tmp 7,.tmp 2,.tmp 9,.tmp 8,.tmp 6])(h7:a.eval (.tmp 7)=x7)(h2:a.eval (.tmp 2)=x2)(h9:a.eval (.tmp 9)=x9)(h8:a.eval (.tmp 8)=x8)(h6:a.eval (.tmp 6)=x6)(w:World) :
    (execOp a.eval o).run Aa w=.ok (.value (.func (.func 72) #[] #[x7,x2,x9,x8,x6])) w∧(execOp a.eval o).events Aa w #[]=#[]:=by
  have ev:∀{t:Nat} {x:Value},a.eval (.tmp t)=x→a.tmps[t]?.getD undef=x:=fun h=>by rw[←h];simp[C5]
  unfold execOp
  simp only[hop]
  constructor<;>simp[Instr.makeFunc,ev h7,ev h2,ev h9,ev h8,ev h6,go_sem]
theorem bQn{a:Act}{o:Oper}{cap:Array Value}(hop:o.op=.go { callee:=.value (.tmp 34),args:=#[],argTypes:=#[] })(h:a.eval (.tmp 34)=.func (.func 72) #[] cap)(w:World) :
    (execOp a.eval o).run Aa w=.ok (.spawn { target:=.fn (.func 72) cap,args:=#[] }) w∧(execOp a.eval o).events Aa w #[]=#[]:=by
  have h':a.tmps[34]?.getD undef=.func (.func 72) #[] cap:=by rw[←h];simp[C5]
  unfold execOp
  simp only[hop]
  constructor<;>simp[h',go_sem]
section
variable {Wg bA bR cap:Nat} {p:Pl} {c0 c1 c2:D} {lD:List (List D)} {a:Act} {V:World} {k:Nat} {K An:Goroutine→Prop} {cs:List Frame}
def yS(bA bR Wg n k:Nat)(lD:List (List D)):List (Nat×AV):=[(2,.d (.lit (bY bA))),(6,.d (.lit (bY bR))),(7,.d (.lit (bY Wg))),(26,.d (.sl lD)),(27,.d (.i .i64 n)),(28,.d (.i .i64 k))]
theorem RI.sr(h:RI Wg bA bR p.C p.n cap c0 c1 c2 lD k a V):SR ⟨V,fun b=>b<V.heap.size,bD,fun _=>True,fun _=>none⟩ 38 [] (StL (yS bA bR Wg p.n k lD) none []) a V:=by
  rw[←h.ds]
  refine aHj (Z:=fun _=>none) h.ok h.size (fun _ _ h=>by simp at h) (sV (T:=fun t=>a.tmps.getD t undef) _ ?_)
  simp only[yS,EJ]
  refine⟨.d _ _ ?_,.d _ _ ?_,.d _ _ ?_,.d _ _ h.s26,.d _ _ ?_,.d _ _ ?_,fun _ h=>by simp at h⟩
  · rw[h.s2];exact .lit _
  · rw[h.s6];exact .lit _
  · rw[h.s7];exact .lit _
  · rw[h.s27];exact .i _ _
  · rw[h.s28];exact .i _ _
theorem tL(r:Nat):(lN Aa true).Fam (rF Aa bP Wg p K An r):=by
  cases r with
  |zero=>exact .inl ⟨_,_,_,uT,rfl⟩
  |succ r=>exact .inl ⟨_,_,_,aCs,rfl⟩
set_option maxRecDepth 100000 in
set_option maxHeartbeats 2000000 in
theorem aUh(h:RI Wg bA bR p.C p.n cap c0 c1 c2 lD p.n a V)(hl:lD.length=p.n)
    (hAn:∀ a:Act,a.tmps.getD 6 undef=bY bR→a.tmps.size=38→a.defers=[]→∀ g,aBm bP Wg (((base 27)).at a [.inRegion aNv [0],.code tW2]) cs g→An g)
    (hHd:∀ g,An g→Dl Aa true (cU bP.tWg Wg) (dO Wg) (fun d g=>d=1∧xG Aa bP Wg K An d g) 1 g) :
    rF Aa bP Wg p K An 0 (G (((base 27)).at a [.code cW,.inLoop cW,.inBlock 0,.code tW]) cs) V:=by
  letI:=lN Aa true
  have hW:=tL (Wg:=Wg) (p:=p) (K:=K) (An:=An) 0
  have hb:mG (base 27):=.inl rfl
  simp only[cW,tW,fT,Da,AU]
  refine aQ hW rfl h.ok (fun w=>stepG_seq) ?_
  refine cJ aW (fun _=>rfl) _ (fun e σ=>e=.normal∧σ.Γ 29=.d (.b false)∧σ.Γ 6=.d (.lit (bY bR))∧σ.Γ 7=.d (.lit (bY Wg))) _ _ _ (by kernel_rfl) (by kernel_rfl) ?hawp h.sr _ hW h.ok _ _ _ hb fun e a' v' hv' hq=>?_
  case hawp =>
    simp only[yS]
    simp[-ζ,-ξ,↓KW]
  obtain⟨σ,⟨rfl,q29,q6,q7⟩,hsr⟩:=hq
  obtain⟨_,_,_,F,ι,hR,_,hV,⟨hN,_⟩,hds,_⟩:=hsr
  have e29:a'.eval (.tmp 29)=.bool false:=by
    have h:=hV 29;rw[q29]at h
    cases h with|d _ _ h =>
      show a'.tmps.getD 29 undef=_
      generalize a'.tmps.getD 29 undef=x at h
      cases h;rfl
  have e6:a'.tmps.getD 6 undef=bY bR:=by have h:=hV 6;rw[q6]at h;exact nZ h
  have e7:a'.tmps.getD 7 undef=bY Wg:=by have h:=hV 7;rw[q7]at h;exact nZ h
  simp only[nY]
  refine aQ hW rfl hv' (fun w=>stepG_seq) ?_
  refine aQ hW rfl hv' (fun w=>stepG_cond e29) ?_
  refine aQ hW rfl hv' (fun w=>stepG_exit rfl) ?_
  refine aQ hW rfl hv' (fun w=>stepG_seq) ?_
  refine aQ hW rfl hv' (fun w=>stepG_region) ?_
  have hd:Dl Aa true (cU bP.tWg Wg) (dO Wg) (fun d g=>d=1∧xG Aa bP Wg K An d g) 0 (G (((base 27)).at a' [.inRegion aNv [0],.code tW2]) cs):=by
    refine Dl.call (f:=bP.wait) (fn:=waitFn bP) (c:=body_wait bP) rfl rfl (by k_ne) rfl aCl.f_wait (nm_wait bP) rfl ((aMm aCl ?_).bind fun d g hh=>by rw[hh.1];exact hHd g (hAn a' e6 hN hds g hh.2))
    have:a'.eval (.tmp 7)=bY Wg:=e7
    simp[this,waitFn,bY]
  simp only[aNv,tW2,tW,fT,Da,AU]at hd
  obtain⟨tr,hg⟩:=hd.gt (Stop:=aLz Aa bP Wg K An) hv' fun d g v1 _ hk=>⟨.leaf,hk⟩
  exact⟨tr,hg⟩
noncomputable def aRh:Array Oper:=match cW with|.seq _ (.seq _ (.seq (.block _ (.seq _ (.seq (.region _ o _) _))) _))=>o|_=>#[]
noncomputable def bPg:Code:=match cW with|.seq _ (.seq _ (.seq (.block _ (.seq _ (.seq _ c))) _))=>c|_=>.skip
noncomputable def bPf:Code:=match cW with|.seq _ (.seq _ (.seq _ c))=>c|_=>.skip
noncomputable def r9W:Code:=match cW with|.seq _ (.seq _ (.seq (.block _ (.seq c _)) _))=>c|_=>.skip
set_option maxRecDepth 100000 in
set_option maxHeartbeats 4000000 in
theorem aNp{r:Nat}{pk:Int}(h:RI Wg bA bR p.C p.n cap c0 c1 c2 lD k a V)(hk:k<p.n)(hl:lD.length=p.n)(hlk:lD[k]? = some [.i .u64 pk])(hr:p.n-(r+1)=k)(hn:p.n<2147483648)(hfA:pY (.pt [c0,c1,c2]))(hfL:pY (.sl lD))
    (hwork:∀(V':World) (Bp Bi:Nat),OkV V'→VD (fun b=>b<V'.heap.size) V' (.pt [c0,c1,c2]) (bY bA)→VD (fun b=>b<V'.heap.size) V' (.pt [.i .u64 pk]) (bY Bp)→VD (fun b=>b<V'.heap.size) V' (.pt [.i .i64 k]) (bY Bi) →
      VD (fun b=>b<V'.heap.size) V' (.pt [.lit (.slice (some ⟨p.C,0,none⟩) p.n cap)]) (bY bR)→∃ tr,GTw Aa bP Wg p k tr 0 (born Aa (aCm Wg bA Bp Bi bR)) V')
    (hnext:∀ a' V',RI Wg bA bR p.C p.n cap c0 c1 c2 lD (k+1) a' V'→rF Aa bP Wg p K An r (G (((base 27)).at a' [.code cW,.inLoop cW,.inBlock 0,.code tW]) cs) V') :
    rF Aa bP Wg p K An (r+1) (G (((base 27)).at a [.code cW,.inLoop cW,.inBlock 0,.code tW]) cs) V:=by
  letI:=lN Aa true
  have hW:=tL (Wg:=Wg) (p:=p) (K:=K) (An:=An) (r+1)
  have hb:mG (base 27):=.inl rfl
  have hk0:(0:Int)≤k:=by omega
  have hk1:(k:Int)<p.n:=by omega
  have hk2:(k:Int)<(lD.length:Int):=by omega
  have hkl:k<lD.length:=by omega
  have hlk':lD[k]=[.i .u64 pk]:=(Aq.1 hlk).2
  rw[show([.code cW,.inLoop cW,.inBlock 0,.code tW]:List Item)=[.code cW]++[.inLoop cW,.inBlock 0,.code tW]from rfl]
  generalize hKT:([.inLoop cW,.inBlock 0,.code tW]:List Item)=KT
  simp only[cW,fT,Da,AU,List.cons_append,List.nil_append]
  refine aQ hW rfl h.ok (fun w=>stepG_seq) ?_
  refine cJ aW (fun _=>rfl) _ (fun e σ=>e=.normal∧σ.Γ 29=.d (.b true)∧AWP Aa r9W σ fun e σ'=>e=.normal∧∃ i8 i9,σ'.Γ 8=.ptr i8 0∧σ'.H i8=some (.cells 3 [.d (.i .i64 k)])∧σ'.Γ 9=.ptr i9 0∧σ'.H i9=some (.cells 51 [.d (.i .u64 pk)]) ∧
      σ'.Γ 2=.d (.lit (bY bA))∧σ'.Γ 6=.d (.lit (bY bR))∧σ'.Γ 7=.d (.lit (bY Wg))∧σ'.Γ 26=.d (.sl lD)∧σ'.Γ 27=.d (.i .i64 p.n)∧σ'.Γ 28=.d (.i .i64 k)) _ _ _ (by kernel_rfl) (by kernel_rfl) ?hawp h.sr _ hW h.ok _ _ _ hb fun e a1 V1 hv1 hq=>?_
  case hawp =>
    simp only[yS,r9W,cW,fT,Da,AU]
    simp[-ζ,-ξ,↓KW,hk0,hk1,hk2,hkl,hlk,hlk']
  obtain⟨σ,⟨rfl,q29,hA9⟩,hsr⟩:=hq
  have e29:a1.eval (.tmp 29)=.bool true:=by
    obtain⟨_,_,_,F,ι,_,_,hV,_⟩:=id hsr
    have h:=hV 29;rw[q29]at h;exact v_b h
  simp only[nY]
  refine aQ hW rfl hv1 (fun w=>stepG_seq) ?_
  refine aQ hW rfl hv1 (fun w=>stepG_cond e29) ?_
  simp only[AI]
  refine aQ hW rfl hv1 (fun w=>stepG_skip) ?_
  refine aQ hW rfl hv1 (fun w=>stepG_seq) ?_
  refine aQ hW rfl hv1 (fun w=>stepG_block) ?_
  refine aQ hW rfl hv1 (fun w=>stepG_seq) ?_
  simp only[r9W,cW,fT,Da,AU]at hA9
  refine cJ aW (fun _=>rfl) _ _ _ _ _ (by kernel_rfl) (by kernel_rfl) hA9 hsr _ hW hv1 _ _ _ hb fun e a2 V2 hv2 hq=>?_
  obtain⟨σ',⟨rfl,i8,i9,q8,qH8,q9,qH9,q2,q6,q7,q26,q27,q28⟩,_,_,_,F,ι,hR,_,hV,⟨hN,_⟩,hds,_⟩:=hq
  obtain⟨b8,hb8,e8⟩:=aQn (q8 ▸ hV 8)
  obtain⟨b9,hb9,e9⟩:=aQn (q9 ▸ hV 9)
  have e2:=nZ (q2 ▸ hV 2)
  have e6:=nZ (q6 ▸ hV 6)
  have e7:=nZ (q7 ▸ hV 7)
  have e27:=v_i (q27 ▸ hV 27)
  have e28:=v_i (q28 ▸ hV 28)
  have hd8:=aJn hR hb8 qH8
  have hd9:=aJn hR hb9 qH9
  have hsame:kY (fun b=>b<V.heap.size) V V2:=fun b hb c e f hc=>⟨f,by rw[hR.kept.block b hb (fun h=>h)];exact hc⟩
  have hge:V.heap.size≤V2.heap.size:=hR.kept.size
  have hdA:VD (fun b=>b<V2.heap.size) V2 (.pt [c0,c1,c2]) (bY bA):=(hfA _ V V2 _ hsame h.dA).mono fun b hb=>A3 hb hge
  have hdR:VD (fun b=>b<V2.heap.size) V2 (.pt [.lit (.slice (some ⟨p.C,0,none⟩) p.n cap)]) (bY bR):=(kH (by simp[mQ]) _ V V2 _ hsame h.dR).mono fun b hb=>A3 hb hge
  have hdL:VD (fun b=>b<V2.heap.size) V2 (.sl lD) (a2.tmps.getD 26 undef):=by
    have h:=hV 26;rw[q26]at h
    cases h with|d _ _ h=>exact h.mono hR.F_lt
  simp only[nY]
  refine aQ hW rfl hv2 (fun w=>stepG_seq) ?_
  refine aQ hW rfl hv2 (fun w=>stepG_region) ?_
  -- the call of Add
  have hKA:∀ v1,Env V2 v1→OkV v1→∃ tr,GTm Aa bP Wg (aXv Aa bP Wg p k (rF Aa bP Wg p K An r)) tr 0 (G (((base 27)).at (a2.put (some 33) (.tuple #[])) (.inRegion aRh []::.code bPg::.inBlock 1::.code bPf::KT)) cs) v1:=by
    intro v1 he1 ho1
    have hW2:(lN Aa true).Fam (GoW Aa true (cU bP.tWg Wg) (dO Wg) (aXv Aa bP Wg p k (rF Aa bP Wg p K An r))):=.inl ⟨_,_,_,aLr,rfl⟩
    have hg:∀ t,t≠33→(a2.put (some 33) (.tuple #[])).eval (.tmp t)=a2.tmps.getD t undef:=fun t ht=>by
      simp[CQ,C5,Av,AF (Ea ht)]
    have hsz3:(a2.put (some 33) (.tuple #[])).tmps.size=38:=by simp[CQ,hN]
    have hds3:(a2.put (some 33) (.tuple #[])).defers=[]:=hds
    generalize a2.put (some 33) (.tuple #[])=a3 at hg hsz3 hds3
    simp only[aRh,bPg,bPf,cW,fT,Da,AU]
    refine aQ hW2 rfl ho1 (fun w=>stepG_region_end) ?_
    refine aQ hW2 rfl ho1 (fun w=>stepG_region) ?_
    have g7:=(hg 7 (by decide)).trans e7
    have g2:=(hg 2 (by decide)).trans e2
    have g9:=(hg 9 (by decide)).trans e9
    have g8:=(hg 8 (by decide)).trans e8
    have g6:=(hg 6 (by decide)).trans e6
    refine aQ hW2 rfl ho1 (fun w=>(stepG_value rfl rfl (by k_ne) (bQj rfl g7 g2 g9 g8 g6 w).1).trans (by unfold listed;rw[(bQj rfl g7 g2 g9 g8 g6 w).2,seen_none])) ?_
    have h34:∀ x,(a3.put (some 34) x).eval (.tmp 34)=x:=fun x=>by simp[CQ,C5,Av,hsz3]
    have hg4:∀ x t,t≠34→(a3.put (some 34) x).tmps.getD t undef=a3.eval (.tmp t):=fun x t ht=>by
      simp[CQ,C5,Av,AF (Ea ht)]
    refine⟨.leaf,rfl,rfl,fun v2 he2=>⟨_,_,fun w hs hI=>(stepG_spawn rfl rfl (by k_ne) (bQn rfl (h34 _) w).1 rfl).trans (by unfold listed;rw[(bQn rfl (h34 _) w).2,seen_none]),rfl,?_,?_⟩⟩
    all_goals
      have hse:kY (fun b=>b<V2.heap.size) V2 (iY v2):=(aCw (he1.trans he2)).trans (aNk _ _)
      have hfs:∀ b,b<V2.heap.size→b<(iY v2).heap.size:=fun b hb=>by
        rw[vK];exact A3 hb (he1.trans he2).size
    · exact hwork (iY v2) b9 b8 (aGm _) ((hfA _ _ _ _ hse hdA).mono hfs) ((kH (by simp[aAd]) _ _ _ _ hse hd9).mono hfs) ((kH (by simp[aAd]) _ _ _ _ hse hd8).mono hfs) ((kH (by simp[mQ]) _ _ _ _ hse hdR).mono hfs)
    have hW3:=tL (Wg:=Wg) (p:=p) (K:=K) (An:=An) r
    generalize hx:Value.func (.func 72) #[] #[bY Wg,bY bA,.pointer (some ⟨b9,0,none⟩),.pointer (some ⟨b8,0,none⟩),bY bR]=x
    have hri:RI Wg bA bR p.C p.n cap c0 c1 c2 lD k ((a3.put (some 34) x).put none undef) (iY v2):=by
      have hg5:∀ t,t≠34→t≠33→((a3.put (some 34) x).put none undef).tmps.getD t undef=a2.tmps.getD t undef:=fun t h1 h2=>(hg4 x t h1).trans (hg t h2)
      refine⟨by simp[CQ,hsz3],hds3,(hg5 2 (by decide) (by decide)).trans e2,(hg5 6 (by decide) (by decide)).trans e6,(hg5 7 (by decide) (by decide)).trans e7,?_,(hg5 27 (by decide) (by decide)).trans e27,(hg5 28 (by decide) (by decide)).trans e28,aGm _,(hfA _ _ _ _ hse hdA).mono hfs,(kH (by simp[mQ]) _ _ _ _ hse hdR).mono hfs⟩
      rw[hg5 26 (by decide) (by decide)]
      exact(hfL _ _ _ _ hse hdL).mono hfs
    show rF Aa bP Wg p K An r (G (((base 27)).at ((a3.put (some 34) x).put none undef) _) cs) (iY v2)
    generalize(a3.put (some 34) x).put none undef=a5 at hri
    refine aQ hW3 rfl hri.ok (fun w=>stepG_region_end) ?_
    refine aQ hW3 rfl hri.ok (fun w=>stepG_inBlock) ?_
    refine cJ aW (fun _=>rfl) _ (fun e σ=>e=.normal∧σ.Γ 28=.d (.i .i64 (k+1))∧σ.Γ 2=.d (.lit (bY bA))∧σ.Γ 6=.d (.lit (bY bR))∧σ.Γ 7=.d (.lit (bY Wg))∧σ.Γ 26=.d (.sl lD)∧σ.Γ 27=.d (.i .i64 p.n)) _ _ _ (by kernel_rfl) (by kernel_rfl) ?hawp3 hri.sr _ hW3 hri.ok _ _ _ hb fun e a6 V6 hv6 hq=>?_
    case hawp3 =>
      have hw:IntKind.i64.wrap ((k:Int)+1)=k+1:=aV
      simp only[yS]
      simp[-ζ,-ξ,↓KW,hw]
    obtain⟨σ6,⟨rfl,q28',q2',q6',q7',q26',q27'⟩,_,_,_,F6,ι6,hR6,_,hV6,⟨hN6,_⟩,hds6,_⟩:=hq
    simp only[nY]
    subst hKT
    refine aQ hW3 rfl hv6 (fun w=>stepG_inLoop) ?_
    have hs6:kY (fun b=>b<(iY v2).heap.size) (iY v2) V6:=fun b hb c e f hc=>⟨f,by rw[hR6.kept.block b hb (fun h=>h)];exact hc⟩
    have hf6:∀ b,b<(iY v2).heap.size→b<V6.heap.size:=fun b hb=>A3 hb hR6.kept.size
    refine hnext a6 V6 ⟨hN6,hds6,nZ (q2' ▸ hV6 2),nZ (q6' ▸ hV6 6),nZ (q7' ▸ hV6 7),?_,v_i (q27' ▸ hV6 27),?_,hv6,(hfA _ _ _ _ hs6 hri.dA).mono hf6,(kH (by simp[mQ]) _ _ _ _ hs6 hri.dR).mono hf6⟩
    · have h:=hV6 26;rw[q26']at h
      cases h with|d _ _ h=>exact h.mono hR6.F_lt
    · have:=v_i (q28' ▸ hV6 28)
      simpa using this
  have hd:Dl Aa true (cU bP.tWg Wg) (dO Wg) (fun d g=>d=1∧aEn Aa bP Wg (fun d' g'=>d'=0∧∀ v1,Env V2 v1→OkV v1→∃ tr,GTm Aa bP Wg (aXv Aa bP Wg p k (rF Aa bP Wg p K An r)) tr 0 g' v1) d g) 0
      (G (((base 27)).at a2 (.inRegion aRh [0]::.code bPg::.inBlock 1::.code bPf::KT)) cs):=by
    refine Dl.call (f:=bP.add) (fn:=addFn bP) (c:=body_add bP) rfl rfl (by k_ne) rfl aCl.f_add (nm_add bP) rfl (bHo aCl ?_ ⟨rfl,hKA⟩)
    have:a2.eval (.tmp 7)=bY Wg:=e7
    have hc:a2.eval (.const (.int .i64 1))=.int .i64 1:=rfl
    simp[this,hc,addFn,bY]
  simp only[aRh,bPg,bPf,cW,fT,Da,AU]at hd
  obtain⟨tr,hg⟩:=hd.gt (Stop:=aSs Aa bP Wg p (p.n-(r+1)) (rF Aa bP Wg p K An r)) hv2 fun d g v1 he hk=>⟨.leaf,hk.1,aBc (fun d' g' hx v2 he2 ho2=>by rw[hr,hx.1];exact hx.2 v2 (he.trans he2) ho2) hk.2⟩
  exact⟨tr,hg⟩
end
end Go.Am
end
section
open List renaming map_map→ζ,mapM_map→ξ
open Go Go.Am Go.Proofs
namespace Go.Am
open Go.Conc Go.Conc.Lib Go.RowKit Go.ConcR.Gen
open Go.ConcR (KK wgBlock stA smA rd wr mk)
theorem bBd{Wg bA bR cap:Nat}{p:Pl}{c0 c1 c2:D}{lD:List (List D)}{K An:Goroutine→Prop}{cs:List Frame}(hl:lD.length=p.n)(hn:p.n<2147483648)(hfA:pY (.pt [c0,c1,c2]))(hfL:pY (.sl lD))
    (hw:∀ k,k<p.n→∃ pk,lD[k]? = some [.i .u64 pk]∧∀(V':World) (Bp Bi:Nat),OkV V'→VD (fun b=>b<V'.heap.size) V' (.pt [c0,c1,c2]) (bY bA)→VD (fun b=>b<V'.heap.size) V' (.pt [.i .u64 pk]) (bY Bp)→VD (fun b=>b<V'.heap.size) V' (.pt [.i .i64 k]) (bY Bi) →
      VD (fun b=>b<V'.heap.size) V' (.pt [.lit (.slice (some ⟨p.C,0,none⟩) p.n cap)]) (bY bR)→∃ tr,GTw Aa bP Wg p k tr 0 (born Aa (aCm Wg bA Bp Bi bR)) V')
    (hAn:∀ a:Act,a.tmps.getD 6 undef=bY bR→a.tmps.size=38→a.defers=[]→∀ g,aBm bP Wg (((base 27)).at a [.inRegion aNv [0],.code tW2]) cs g→An g)
    (hHd:∀ g,An g→Dl Aa true (cU bP.tWg Wg) (dO Wg) (fun d g=>d=1∧xG Aa bP Wg K An d g) 1 g) :
    ∀(r k:Nat) (a:Act) (V:World),k+r=p.n→RI Wg bA bR p.C p.n cap c0 c1 c2 lD k a V→rF Aa bP Wg p K An r (G (((base 27)).at a [.code cW,.inLoop cW,.inBlock 0,.code tW]) cs) V
  | 0,k,a,V,hk,h=>by
    obtain rfl:k=p.n:=by omega
    exact aUh h hl hAn hHd
  | r+1,k,a,V,hk,h=>by
    obtain⟨pk,h1,h2⟩:=hw k (by omega)
    exact aNp h (by omega) hl h1 (by omega) hn hfA hfL h2 fun a' V' h'=>bBd hl hn hfA hfL hw hAn hHd r (k+1) a' V' (by omega) h'
structure aMb(p:Pl)(v v':World):Prop where
  ok:OkV v'
  tape:v'.tape=v.tape
  os:v'.os=v.os
  output:v'.output=v.output
  size:v.heap.size<v'.heap.size
  old:∀ b,b<v.heap.size→b≠p.C→v'.heap[b]? = v.heap[b]?
  val:∃ cs:Array Value,v'.heap[p.C]? = some (.cells cs p.ety (0,0))∧cs.size=p.tot∧∀ i,i<p.n→∀ r,r<p.wd→cs[i*p.wd+r]? = some (p.val i r)
theorem bPu.w{p:Pl}{v v':World}(h:bPu p v v'):aMb p v v':=⟨h.ok,h.tape,h.os,h.output,h.size,h.old,h.val⟩
theorem aMb.next{p:Pl}{v v' v2:World}(h:aMb p v v')(hok:OkV v2)(ht:v2.tape=v'.tape)(ho:v2.os=v'.os)(hp:v2.output=v'.output)(hsz:v'.heap.size≤v2.heap.size)(hb:∀ b,b<v'.heap.size→v2.heap[b]? = v'.heap[b]?):aMb p v v2:=by
  have hC:p.C<v'.heap.size:=let ⟨cs,h1,_⟩:=h.val;bG h1
  refine⟨hok,ht.trans h.tape,ho.trans h.os,hp.trans h.output,A3 h.size hsz,fun b hlt hne=>(hb b (FM hlt h.size)).trans (h.old b hlt hne),?_⟩
  obtain⟨cs,h1,h2⟩:=h.val
  exact⟨cs,(hb _ hC).trans h1,h2⟩
theorem aYq{P:Program}[M:Mch P]{Win:Goroutine→World→Prop}(hW:M.Fam Win){f:FuncId}{fn:Func}{a':Act}{v':World}{todo:List Item}{c0:Frame}{cs:List Frame}{R:Value→World→Prop}(hf:P.funcs[f]? = some fn)(hv':OkV v')(hd:a'.defers=[])
    (hr:∀ v1,Env v' v1→∃ x,aO P (results fn a'.tmps) v1=.ok x v1∧R x v1) (hk:∀ x v'',OkV v''→R x v''→Win (G (c0.finish x) cs) v''):Win (G { (base f).at a' todo with mode:=.returning } (c0::cs)) v':=by
  refine(M.closed hW).step rfl hv' fun v1 w he hsim=>?_
  obtain⟨x,hx,hR⟩:=hr v1 he
  obtain⟨w',es',h1,h2,h3,h4,h5,h6⟩:=fE _ v1 w #[] x v1 (he.okV hv') hsim hx
  exact⟨_,v1,w',_,rO (b:=base f) rfl hd hf h1,⟨h2,h3,h4,h5,fun e he'=>h6 e (by have:=mem_seen he';simpa using this)⟩,hk x v1 h3 hR⟩
set_option maxRecDepth 100000 in
theorem aYi{W0:World}{Post:Value→World→Prop}{p:Pl}{v1:World}{bR cap:Nat}{a:Act}{c0:Frame}{cs:List Frame}(h6:a.tmps.getD 6 undef=bY bR)(hN:a.tmps.size=38)(hds:a.defers=[])(hbR:bR<v1.heap.size)(hne:bR≠p.C)
    (hcell:v1.cell? ⟨bR,0,none⟩=some (.slice (some ⟨p.C,0,none⟩) p.n cap)) (hk:∀ v',aMb p v1 v'→dY Aa W0 Post (G (c0.finish (.tuple #[.slice (some ⟨p.C,0,none⟩) p.n cap,.int .i64 0])) cs) v') :
    KF Aa W0 Post p v1 (G (((base 27)).at (a.put (some 36) (.tuple #[])) [.inRegion aNv [],.code tW2]) (c0::cs)):=by
  refine⟨rfl,fun v' hF=>?_⟩
  letI:=cT Aa
  have hW:(cT Aa).Fam (dY Aa W0 Post):=.inl ⟨W0,Post,rfl⟩
  have hb:mG (base 27):=.inl rfl
  have g6:(a.put (some 36) (.tuple #[])).tmps.getD 6 undef=bY bR:=by
    rw[←h6];simp[CQ,Av,AF]
  have gN:(a.put (some 36) (.tuple #[])).tmps.size=38:=by simp[CQ,hN]
  have gds:(a.put (some 36) (.tuple #[])).defers=[]:=hds
  generalize a.put (some 36) (.tuple #[])=a3 at g6 gN gds
  have hok:=hF.ok
  have hc':v'.cell? ⟨bR,0,none⟩=some (.slice (some ⟨p.C,0,none⟩) p.n cap):=by
    rw[←hcell];exact eZ (hF.old bR hbR hne)
  have hfp:V (fun b=>b<v'.heap.size) v' (fun _=>none) (.fp [.lit (.slice (some ⟨p.C,0,none⟩) p.n cap)]) (bY bR) :=
    .fp _ _ (fun _=>.slice (some ⟨p.C,0,none⟩) p.n cap) (FM hbR hF.size) (fun j hj=>by
      have:j=0:=by simp at hj;omega
      subst this;rw[gU];exact hc') fun k c hk=>by
      cases k with
      |zero=>simp at hk;subst hk;exact .lit _
      |succ k=>simp at hk
  simp only[aNv,tW2,tW,fT,Da,AU]
  refine aQ hW rfl hok (fun w=>stepG_region_end) ?_
  refine aQ hW rfl hok (fun w=>stepG_seq) ?_
  have hsr:SR ⟨v',fun b=>b<v'.heap.size,bD,fun _=>True,fun _=>none⟩ 38 [] (StL [(6,.fp [.lit (.slice (some ⟨p.C,0,none⟩) p.n cap)])] none []) a3 v':=by
    rw[←gds]
    refine aHj (Z:=fun _=>none) hok gN (fun _ _ h=>by simp at h) (sV (T:=fun t=>a3.tmps.getD t undef) _ ?_)
    simp only[EJ]
    exact⟨by rw[g6];exact hfp,fun _ h=>by simp at h⟩
  refine cJ aW (fun _=>rfl) _ (fun e σ=>e=.normal∧σ.Γ 4=.d (.lit (.slice (some ⟨p.C,0,none⟩) p.n cap))∧σ.Γ 5=.d (.i .i64 0)) _ _ _ (by kernel_rfl) (by kernel_rfl) ?hawp hsr _ hW hok _ _ _ hb fun e a4 V4 hv4 hq=>?_
  case hawp =>
    simp[-ζ,-ξ,↓KW]
  obtain⟨σ,⟨rfl,q4,q5⟩,hsr4⟩:=hq
  obtain⟨_,_,_,F,ι,hR,_,hV,⟨hN4,_⟩,hds4,_⟩:=id hsr4
  have hF4:aMb p v1 V4:=hF.w.next hv4 hR.kept.tape hR.kept.os hR.kept.output hR.kept.size fun b hb=>hR.kept.block b hb (fun h=>h)
  simp only[nY]
  refine aQ hW rfl hv4 (fun w=>stepG_ret') ?_
  refine aYq hW (R:=fun x v2=>x=.tuple #[.slice (some ⟨p.C,0,none⟩) p.n cap,.int .i64 0]∧aMb p v1 v2) Tryz.func27 hv4 hds4 (fun v2 he=>?_) fun x v'' _ hx=>by rw[hx.1];exact hk v'' hx.2
  have hsr5:=hsr4.env he
  obtain⟨x,hx,hvd⟩:=dZ (P:=Aa) (fn:=Da) (r:=.tp [.lit (.slice (some ⟨p.C,0,none⟩) p.n cap),.i .i64 0]) hsr5 (by
    simp[iX,Da,jT,q4,q5,cO,frz])
  refine⟨x,hx,?_,hF4.next (he.okV hv4) he.tape he.os he.output he.size fun b hb=>he.get hb⟩
  cases hvd with
  | tp cs vs hl h =>
    have h0:vs[0]? = some (.slice (some ⟨p.C,0,none⟩) p.n cap):=by
      obtain⟨y,hy⟩:∃ y,vs[0]? = some y:=⟨_,Ak (by simp at hl;omega)⟩
      have:=h 0 _ _ rfl hy
      cases this;exact hy
    have h1:vs[1]? = some (.int .i64 0):=by
      obtain⟨y,hy⟩:∃ y,vs[1]? = some y:=⟨_,Ak (by simp at hl;omega)⟩
      have:=h 1 _ _ rfl hy
      cases this;exact hy
    congr 1
    apply FU
    intro k
    match k with
    |0=>exact h0
    |1=>exact h1
    |k+2=>rw[C7 (by simp at hl;omega)];simp
end Go.Am
end
section
open List renaming map_map→ζ,mapM_map→ξ
open Go Go.Am Go.Proofs
namespace Go.Am
open Go.Conc Go.Conc.Lib Go.RowKit Go.ConcR.Gen
open Go.ConcR (KK wgBlock stA smA rd wr mk)
theorem bOs{P:Program}{f:FuncId}{args:Array Value}{v:World}{R:Value→World→Prop}
    (h:∀(W0:World) (Post:Value→World→Prop) (c:Frame) (cs:List Frame),(∀ x v',OkV v'→R x v'→dY P W0 Post (G (c.finish x) cs) v')→OkV v→dY P W0 Post (G (CP P f args .normal) (c::cs)) v) :
    letI:=cT P;CX P f args v R:=by
  intro Win hW hv c cs hk
  rcases hW with ⟨W0,Post,rfl⟩|rfl
  · exact h W0 Post c cs hk hv
  · have hm:=h { v with heap:=#[] } (fun _ _=>False) c cs (fun x v' ho hr=>(hk x v' ho hr).elim) hv
    have h0:dH (fun _=>False)=fun _=>False:=by funext l;cases l<;>rfl
    have he:=hm v (.refl _) hv (fun _=>False) #[G (CP P f args .normal) (c::cs)] v none #[] (fun _=>0) (fun b h=>h.elim) (Sim.refl v) rfl (leavers_one P _) (by rw[h0];exact past_nil.mono (Nat.zero_le _))
      ⟨fun i op x hi=>by simp at hi,fun i a ha=>by simp[touchAt,Trace.act?]at ha,fun i op hi=>by simp at hi⟩ (fun b o hb=>by simp at hb)
    obtain⟨N,last,o,w',t',_,_,_,x,_,hp,_⟩:=he
    exact hp.elim
noncomputable def x1W:Code:=match fT with|.seq _ (.seq c _)=>c|_=>.skip
noncomputable def x3W:Code:=match fT with|.seq _ (.seq _ (.seq c _))=>c|_=>.skip
noncomputable def r5W:Code:=match fT with|.seq _ (.seq _ (.seq _ (.seq c _)))=>c|_=>.skip
set_option maxRecDepth 100000 in
set_option maxHeartbeats 4000000 in
theorem aMh{rr:Int}{eA:List (List D)}{lD:List (List D)}{n:Nat}(hn:lD.length=n)(hn2:n≤1000000)
    (hvalid:letI:=cT Aa;Spec Aa 69 [.ag [.i .i64 rr,.i .i64 rr,.sl eA]] (.b true)) (hdiff:letI:=cT Aa;Spec Aa 70 [.sl lD] (.b true)) :
    letI:=cT Aa
    AWP Aa (match fT with|.seq c _=>c|_=>.skip) (St0 [.ag [.i .i64 rr,.i .i64 rr,.sl eA],.sl lD] 38) fun e σ=>e=.normal∧AWP Aa x1W σ fun e σ=>e=.normal∧AWP Aa x3W σ fun e σ=>e=.normal∧AWP Aa r5W σ fun e σ=>e=.normal ∧
      σ.Γ 1=.d (.sl lD)∧∃ iA iR iC,iA≠iC∧iR≠iC∧σ.Γ 2=.ptr iA 0∧σ.H iA=some (.cells 61 [.d (.i .i64 rr),.d (.i .i64 rr),.d (.sl eA)])∧σ.Γ 6=.ptr iR 0∧σ.H iR=some (.cells 27 [.own iC 0 n 3])∧∃ cs,σ.H iC=some (.cells 78 cs)∧n*3≤cs.length:=by
  letI:=cT Aa
  simp only[x1W,x3W,r5W,fT,Da,AU]
  have h0:(0:Int)≤(lD.length:Int):=by omega
  have h1:(lD.length:Int)≤9223372036854775807:=by omega
  have h2:((rr:Int) != rr)=false:=by simp
  have h3:24*(n:Int)≤281474976710656:=by omega
  have h4:(n:Int)≤9223372036854775807:=by omega
  simp[-ζ,-ξ,↓KW,h0,h1,h2,hn]
  refine aH hvalid ?_
  simp[-ζ,-ξ,↓KW,h0,h1,h2,hn]
  refine aH hdiff ?_
  simp[-ζ,-ξ,↓KW,h0,h1,h2,hn,h3,h4]
  refine⟨1,3,2,by decide,by decide,rfl,rfl,rfl,rfl,_,rfl,?_⟩
  simp[List.length_flatten]
end Go.Am
end
section
open List renaming map_map→ζ,mapM_map→ξ
open Go Go.Am Go.Proofs
namespace Go.Am
open Go.Conc Go.Conc.Lib Go.RowKit Go.ConcR.Gen
open Go.ConcR (KK wgBlock stA smA rd wr mk)
theorem bTe{G:Ctx}{F:Nat→Prop}{w:World}{ι:Nat→Option Nat}{C:Nat→Prop}{H:Hp}(hR:HR G F w ι C H){i b:Nat}{e:TypeId}{cs:List D}(hb:ι i=some b)(hH:H i=some (.cells e (cs.map .d))):VD (fun b'=>b'=b∨F b') w (.pt cs) (bY b):=by
  obtain⟨ob,h1,h2⟩:=hR.obj i b _ hb hH
  cases h2 with
  | cells _ _ cur hl hc =>
    refine .pt _ _ (fun j=>cur.getD j undef) (.inl rfl) (fun j hj=>?_) fun k c hk=>?_
    · have:j<cur.size:=by simp at hl;omega
      simp[gU,Bw,h1,this]
    · obtain⟨u,hu,hv⟩:=hc k (.d c) (by simp[hk])
      have:cur.getD k undef=u:=by simp[Av,hu]
      rw[this]
      cases hv with|d _ _ h=>exact h.mono fun b hb=>.inr hb
theorem aLu{a:Act}{o:Oper}(hop:o.op=.alloc 119)(w:World) :
    (execOp a.eval o).run Aa w=.ok (.value (.pointer (some ⟨w.heap.size,0,none⟩))) { w with heap:=w.heap.push (wgBlock bP.tWg 0 0) }∧(execOp a.eval o).events Aa w #[]=#[]:=by
  unfold execOp
  simp only[hop]
  constructor
  · simp[go_sem,Gj,wgBlock,bP,DY]
  · simp[go_sem,Gj,wgBlock,bP,DY]
noncomputable def aVg:Array Oper:=match fT with|.seq _ (.seq _ (.seq _ (.seq _ (.seq (.region _ o _) _))))=>o|_=>#[]
noncomputable def aCy:Code:=match fT with|.seq _ (.seq _ (.seq _ (.seq _ (.seq _ c))))=>c|_=>.skip
set_option maxRecDepth 100000 in
set_option maxHeartbeats 4000000 in
theorem aMg{p:Pl}{bA bR cap Wg:Nat}{c0 c1 c2:D}{lD:List (List D)}{K An:Goroutine→Prop}{cs:List Frame}{a:Act}{V:World}(hok:OkV V)(hN:a.tmps.size=38)(hds:a.defers=[])(h2:a.tmps.getD 2 undef=bY bA)(h6:a.tmps.getD 6 undef=bY bR)
    (h1:VD (fun b=>b<V.heap.size) V (.sl lD) (a.tmps.getD 1 undef)) (hl:lD.length=p.n) (hn:p.n≤1000000) (hfA:pY (.pt [c0,c1,c2])) (hfL:pY (.sl lD)) (hdA:VD (fun b=>b<V.heap.size) V (.pt [c0,c1,c2]) (bY bA)) (hdR:VD (fun b=>b<V.heap.size) V (.pt [.lit (.slice (some ⟨p.C,0,none⟩) p.n cap)]) (bY bR))
    (hgo:∀ a' V',RI Wg bA bR p.C p.n cap c0 c1 c2 lD 0 a' V'→rF Aa bP Wg p K An p.n (G (((base 27)).at a' [.code cW,.inLoop cW,.inBlock 0,.code tW]) cs) V') :
    rF Aa bP Wg p K An p.n (G (((base 27)).at (a.put (some 7) (bY Wg)) [.inRegion aVg [],.code aCy]) cs) V:=by
  letI:=lN Aa true
  have hW:=tL (Wg:=Wg) (p:=p) (K:=K) (An:=An) p.n
  have hb:mG (base 27):=.inl rfl
  have hg:∀ t,t≠7→(a.put (some 7) (bY Wg)).tmps.getD t undef=a.tmps.getD t undef:=fun t ht=>by
    simp[CQ,Av,AF (Ea ht)]
  have h7:(a.put (some 7) (bY Wg)).tmps.getD 7 undef=bY Wg:=by simp[CQ,Av,hN]
  have hN':(a.put (some 7) (bY Wg)).tmps.size=38:=by simp[CQ,hN]
  have hds':(a.put (some 7) (bY Wg)).defers=[]:=hds
  have g1:=hg 1 (by decide)
  have g2:=(hg 2 (by decide)).trans h2
  have g6:=(hg 6 (by decide)).trans h6
  rw[←g1]at h1
  generalize a.put (some 7) (bY Wg)=a5 at h1 g2 g6 h7 hN' hds'
  have hL0:(lD.length:Int)=p.n:=by omega
  have hsr:SR ⟨V,fun b=>b<V.heap.size,bD,fun _=>True,fun _=>none⟩ 38 [] (StL [(1,.d (.sl lD)),(2,.d (.lit (bY bA))),(6,.d (.lit (bY bR))),(7,.d (.lit (bY Wg)))] none []) a5 V:=by
    rw[←hds']
    refine aHj (Z:=fun _=>none) hok hN' (fun _ _ h=>by simp at h) (sV (T:=fun t=>a5.tmps.getD t undef) _ ?_)
    simp only[EJ]
    refine⟨.d _ _ h1,.d _ _ ?_,.d _ _ ?_,.d _ _ ?_,fun _ h=>by simp at h⟩
    · rw[g2];exact .lit _
    · rw[g6];exact .lit _
    · rw[h7];exact .lit _
  have hgo':=hgo
  simp only[cW,tW,fT,Da,AU]at hgo'
  simp only[aVg,aCy,fT,Da,AU]
  refine aQ hW rfl hok (fun w=>stepG_region_end) ?_
  refine aQ hW rfl hok (fun w=>stepG_seq) ?_
  refine aQ hW rfl hok (fun w=>stepG_seq) ?_
  refine cJ aW (fun _=>rfl) _ (fun e σ=>e=.normal∧σ.Γ 2=.d (.lit (bY bA))∧σ.Γ 6=.d (.lit (bY bR))∧σ.Γ 7=.d (.lit (bY Wg))∧σ.Γ 26=.d (.sl lD)∧σ.Γ 27=.d (.i .i64 p.n)∧σ.Γ 28=.d (.i .i64 0)) _ _ _ (by kernel_rfl) (by kernel_rfl) ?hawp hsr _ hW hok _ _ _ hb fun e a6 V6 hv6 hq=>?_
  case hawp =>
    simp[-ζ,-ξ,↓KW,hL0]
  obtain⟨σ,⟨rfl,q2,q6,q7,q26,q27,q28⟩,_,_,_,F,ι,hR,_,hV,⟨hN6,_⟩,hds6,_⟩:=hq
  simp only[nY]
  refine aQ hW rfl hv6 (fun w=>stepG_block) ?_
  refine aQ hW rfl hv6 (fun w=>stepG_loop) ?_
  have hs:kY (fun b=>b<V.heap.size) V V6:=fun b hb c e f hc=>⟨f,by rw[hR.kept.block b hb (fun h=>h)];exact hc⟩
  have hf:∀ b,b<V.heap.size→b<V6.heap.size:=fun b hb=>A3 hb hR.kept.size
  refine hgo' a6 V6 ⟨hN6,hds6,nZ (q2 ▸ hV 2),nZ (q6 ▸ hV 6),nZ (q7 ▸ hV 7),?_,v_i (q27 ▸ hV 27),v_i (q28 ▸ hV 28),hv6,(hfA _ _ _ _ hs hdA).mono hf,(kH (by simp[mQ]) _ _ _ _ hs hdR).mono hf⟩
  have h:=hV 26;rw[q26]at h
  cases h with|d _ _ h=>exact h.mono hR.F_lt
end Go.Am
end
section
open List renaming map_map→ζ,mapM_map→ξ
open Go Go.Am Go.Proofs
namespace Go.Am
open Go.Conc Go.Conc.Lib Go.RowKit Go.ConcR.Gen
open Go.ConcR (KK wgBlock stA smA rd wr mk)
def bJg(Pv Vv:Nat→Int)(i r:Nat):Value:=match r with
  |0=>.int .i64 i
  |1=>.int .u64 (Pv i)
  |_=>.int .u64 (Vv i)
def aQu(Pv Vv:Nat→Int)(n:Nat):List (List D):=(AK n).map fun(i:Nat)=>[.i .i64 (i:Int),.i .u64 (Pv i),.i .u64 (Vv i)]
set_option maxRecDepth 100000 in
set_option maxHeartbeats 4000000 in
theorem aYj{W0:World}{Post:Value→World→Prop}{rr:Int}{eA lD:List (List D)}{n:Nat}{Pv Vv Ev:Nat→Int}(hn:lD.length=n)(hn2:n≤1000000)(hfE:pY (.sl eA))(hlD:∀ k,k<n→lD[k]? = some [.i .u64 (Pv k)])
    (hres:∀ k,k<n→letI:=lN Aa false;Spec Aa 74 [.ag [.i .i64 rr,.i .i64 rr,.sl eA],.i .u64 (Pv k)] (.tp [.ag [.i .u64 (Pv k),.i .u64 (Vv k)],.i .i64 (Ev k)]))
    {A:Nat→Prop} {W V:World} {σ:St} {a:Act} {c:Frame} {cs:List Frame} (hsr:SR ⟨W,A,bD,fun _=>True,fun _=>none⟩ 38 [] σ a V)
    (q1:σ.Γ 1=.d (.sl lD)) {iA iR iC:Nat} (hne1:iA≠iC) (hne2:iR≠iC) (q2:σ.Γ 2=.ptr iA 0) (qA:σ.H iA=some (.cells 61 [.d (.i .i64 rr),.d (.i .i64 rr),.d (.sl eA)])) (q6:σ.Γ 6=.ptr iR 0) (qR:σ.H iR=some (.cells 27 [.own iC 0 n 3])) {csC:List AV} (qC:σ.H iC=some (.cells 78 csC)) (hlC:n*3≤csC.length)
    (hk:∀ x v',OkV v'→(Below W.heap.size W v'∧VD (fun b=>A b∨(W.heap.size≤b∧b<v'.heap.size)) v' (.tp [.sl (aQu Pv Vv n),.i .i64 0]) x)→dY Aa W0 Post (G (c.finish x) cs) v') :
    dY Aa W0 Post (G (((base 27)).at a [.inRegion aVg [0],.code aCy]) (c::cs)) V:=by
  obtain⟨_,_,hok,F,ι,hR,_,hV,⟨hN,_⟩,hds,_⟩:=hsr
  obtain⟨bA,hbA,e2⟩:=aQn (q2 ▸ hV 2)
  obtain⟨bR,hbR,e6⟩:=aQn (q6 ▸ hV 6)
  -- the reports' cell
  obtain⟨obR,hoR,hcR⟩:=hR.obj iR bR _ hbR qR
  obtain⟨C,cap,cur,hiC,hCb,hcap,hcell⟩:∃ C cap cur,ι iC=some C∧V.heap[C]? = some (.cells cur 78 (0,0))∧n≤cap∧V.cell? ⟨bR,0,none⟩=some (.slice (some ⟨C,0,none⟩) n cap):=by
    cases hcR with
    | cells _ _ curR hl hc =>
      obtain⟨u,hu,hv⟩:=hc 0 _ rfl
      cases hv with
      | own _ _ _ _ b cap cur e hι hb hcap hl' hm =>
        obtain⟨obC,hoC,hcC⟩:=hR.obj iC b _ hι qC
        cases hcC with
        | cells _ _ cur' hl2 hc2 =>
          exact⟨b,cap,cur',hι,hoC,hl',by simp[Bw,hoR,hu]⟩
  obtain⟨obC,hoC,hcC⟩:=hR.obj iC C _ hiC qC
  have hfit:n*3≤cur.size:=by
    rw[hCb]at hoC;obtain rfl:=Bj hoC
    cases hcC with
    |cells _ _ _ hl2 hc2=>omega
  have hnA:bA≠C:=fun e=>hne1 (hR.inj iA iC bA hbA (e ▸ hiC) (fun h=>h) (fun h=>h))
  have hnR:bR≠C:=fun e=>hne2 (hR.inj iR iC bR hbR (e ▸ hiC) (fun h=>h) (fun h=>h))
  have hCW:W.heap.size≤C:=(hR.place iC C hiC).1.elim (fun h=>h.elim) id
  have hCF:¬F C:=(hR.place iC C hiC).2.2 (fun h=>h)
  have hbRlt:bR<V.heap.size:=bG hoR
  let p:Pl:={ C:=C,wd:=3,n:=n,ety:=78,val:=bJg Pv Vv,pos:=by decide,tot:=cur.size,le:=hfit }
  have hfL:pY (.sl lD):=yB fun r hr x hx=>by
    obtain⟨k,hk',rfl⟩:=List.mem_iff_getElem.1 hr
    have:=hlD k (by omega)
    rw[List.getElem?_eq_getElem hk']at this
    rw[Bj this]at hx
    simp at hx;subst hx;exact aAd _ _
  have hfA:pY (.pt [.i .i64 rr,.i .i64 rr,.sl eA]):=kH (by
    intro x hx
    simp at hx
    rcases hx with rfl|rfl
    · exact aAd _ _
    · exact hfE)
  have hdA:=bTe (cs:=[.i .i64 rr,.i .i64 rr,.sl eA]) hR hbA qA
  have hdR:VD (fun b=>b=bR) V (.pt [.lit (.slice (some ⟨C,0,none⟩) n cap)]) (bY bR) :=
    .pt _ _ (fun _=>.slice (some ⟨C,0,none⟩) n cap) rfl (fun j hj=>by
      have:j=0:=by simp at hj;omega
      subst this;rw[gU];exact hcell) fun k c hk=>by
      cases k with
      |zero=>simp at hk;subst hk;exact .lit _
      |succ k=>simp at hk
  have hd1:VD F V (.sl lD) (a.tmps.getD 1 undef):=by
    have h:=hV 1;rw[q1]at h
    cases h with|d _ _ h=>exact h
  refine aUy (L:=bP) (p:=p) (g1:=fun Wg=>G (((base 27)).at (a.put (some 7) (bY Wg)) [.inRegion aVg [],.code aCy]) (c::cs)) rfl (fun v1 w he ho hs=>?_) ⟨cur,hCb,rfl⟩ (show(78:Nat)≠0 by decide) (show n<2147483648 by omega) fun v1 he ho=>?_
  · simp only[aVg,aCy,fT,Da,AU]
    exact(stepG_value rfl rfl (by k_ne) (aLu rfl w).1).trans (by unfold listed;rw[(aLu rfl w).2,seen_none];rfl)
  have hsz1:=he.size
  have hret:∀ v',aMb p v1 v'→dY Aa W0 Post (G (c.finish (.tuple #[.slice (some ⟨C,0,none⟩) n cap,.int .i64 0])) cs) v':=fun v' hF=>by
    obtain⟨cs',g1,g2,g3⟩:=hF.val
    have hlt:C<v'.heap.size:=bG g1
    refine hk _ v' hF.ok ⟨⟨(hF.os.trans he.os).trans hR.kept.os,(hF.tape.trans he.tape).trans hR.kept.tape,(hF.output.trans he.output).trans hR.kept.output,AO hR.kept.size (AO hsz1 (Nat.le_of_lt hF.size)),fun b hb=>?_⟩,?_⟩
    · have hb1:b<V.heap.size:=A3 hb hR.kept.size
      rw[hF.old b (A3 hb1 hsz1) (by show b≠C;omega),he.get hb1]
      exact hR.kept.block b hb (fun h=>h)
    · refine .tp _ _ rfl fun k d y hd hy=>?_
      match k with
      | 0 =>
        simp at hd hy;subst hd;subst hy
        refine .sl _ _ n cap 3 (fun j=>cs'.getD j undef) (by simp[aQu]) hcap (fun r hr=>?_) (.inr ⟨hCW,hlt⟩) (fun j hj=>?_) fun j k r d h1 h2=>?_
        · obtain⟨i,_,rfl⟩:=List.mem_map.1 hr;rfl
        · have:j<cs'.size:=by rw[g2];show j<cur.size;omega
          have g1':v'.heap[C]? = some (.cells cs' 78 (0,0)):=g1
          simp[gU,Bw,g1',this]
        · simp only[aQu,List.getElem?_map,BF]at h1
          obtain⟨i,hi,rfl⟩:=Ae.1 h1
          have hij:i=j∧j<n:=by
            rcases AY j n with h|h
            · rw[BF h]at hi;exact⟨(Bj hi).symm,h⟩
            · rw[List.getElem?_eq_none (by simpa using h)]at hi;cases hi
          obtain⟨rfl,hjn⟩:=hij
          have hv:=fun r hr=>g3 i hjn r hr
          match k with
          | 0 =>
            simp at h2;subst h2
            have:=hv 0 (show 0<3 by decide)
            simp only[Av]
            rw[show cs'[i*3+0]? = some (bJg Pv Vv i 0)from this];exact .i _ _
          | 1 =>
            simp at h2;subst h2
            have:=hv 1 (show 1<3 by decide)
            simp only[Av]
            rw[show cs'[i*3+1]? = some (bJg Pv Vv i 1)from this];exact .i _ _
          | 2 =>
            simp at h2;subst h2
            have:=hv 2 (show 2<3 by decide)
            simp only[Av]
            rw[show cs'[i*3+2]? = some (bJg Pv Vv i 2)from this];exact .i _ _
          |k+3=>simp at h2
      |1=>simp at hd hy;subst hd;subst hy;exact .i _ _
      |k+2=>simp at hd
  have hcell1:v1.cell? ⟨bR,0,none⟩=some (.slice (some ⟨C,0,none⟩) n cap):=by
    rw[←hcell];exact eZ (he.get hbRlt)
  let An:Goroutine→Prop:=fun g=>∃ a:Act,a.tmps.getD 6 undef=bY bR∧a.tmps.size=38∧a.defers=[]∧aBm bP v1.heap.size (((base 27)).at a [.inRegion aNv [0],.code tW2]) (c::cs) g
  have hHd:∀ g,An g→Dl Aa true (cU bP.tWg v1.heap.size) (dO v1.heap.size) (fun d g=>d=1∧xG Aa bP v1.heap.size (KF Aa W0 Post p v1) An d g) 1 g:=by
    rintro g ⟨a',h6,hN',hds',hh⟩
    exact(aTg aCl (aYi (p:=p) h6 hN' hds' (A3 hbRlt hsz1) hnR hcell1 hret) hh).mono fun d g hx=>⟨hx.1,aXl (fun g hg=>⟨a',h6,hN',hds',hg⟩) hx.2⟩
  refine⟨An,hHd,?_⟩
  have hin:∀ F':Nat→Prop,(∀ b,F' b→b≠C)→kY F' V (inV v1 C):=fun F' hF'=>(aCw he).trans (aUb hF')
  have hlt':∀ b,b<V.heap.size→b<(inV v1 C).heap.size:=fun b hb=>by rw[tS];omega
  refine aMg (p:=p) (bDy v1 C) hN hds e2 e6 ((hfL _ _ _ _ (hin F fun b hb e=>hCF (e ▸ hb)) hd1).mono fun b hb=>hlt' b (hR.F_lt b hb)) hn hn2 hfA hfL
    ((hfA _ _ _ _ (hin _ fun b hb e=>hb.elim (fun h=>hnA (h ▸ e)) fun h=>hCF (e ▸ h)) hdA).mono fun b hb=>hlt' b (hb.elim (fun h=>by rw[h];exact bG (hR.obj iA bA _ hbA qA).choose_spec.1) (hR.F_lt b)))
    ((kH (by simp[mQ]) _ _ _ _ (hin (fun b=>b=bR) fun b hb e=>hnR (hb ▸ e)) hdR).mono fun b hb=>hlt' b (hb ▸ hbRlt)) fun a' V' hri=>?_
  refine bBd (p:=p) hn (show n<2147483648 by omega) hfA hfL (fun k hkn=>⟨Pv k,hlD k hkn,fun V' Bp Bi h1 h2 h3 h4 h5=>bIv (p:=p) rfl hkn rfl rfl rfl rfl h1 h2 h3 h4 h5 (hres k hkn)⟩) (fun a h6 hN hds g hh=>⟨a,h6,hN,hds,hh⟩) hHd n 0 a' V' (by show 0+n=n;omega) hri
set_option maxRecDepth 100000 in
set_option maxHeartbeats 4000000 in
theorem aYk{rr:Int}{eA lD:List (List D)}{n:Nat}{Pv Vv Ev:Nat→Int}(hn:lD.length=n)(hn2:n≤1000000)(hfE:pY (.sl eA))(hlD:∀ k,k<n→lD[k]? = some [.i .u64 (Pv k)])
    (hvalid:letI:=cT Aa;Spec Aa 69 [.ag [.i .i64 rr,.i .i64 rr,.sl eA]] (.b true)) (hdiff:letI:=cT Aa;Spec Aa 70 [.sl lD] (.b true))
    (hres:∀ k,k<n→letI:=lN Aa false;Spec Aa 74 [.ag [.i .i64 rr,.i .i64 rr,.sl eA],.i .u64 (Pv k)] (.tp [.ag [.i .u64 (Pv k),.i .u64 (Vv k)],.i .i64 (Ev k)])) :
    letI:=cT Aa;Spec Aa 27 [.ag [.i .i64 rr,.i .i64 rr,.sl eA],.sl lD] (.tp [.sl (aQu Pv Vv n),.i .i64 0]):=by
  letI:=cT Aa
  intro A W vs hA hl hv
  refine⟨fun w=>by simp[callFunc,Tryz.func27,Da],bOs fun W0 Post c cs hk hok=>?_⟩
  have hW:(cT Aa).Fam (dY Aa W0 Post):=.inl ⟨W0,Post,rfl⟩
  have hb:mG (base 27):=.inl rfl
  rw[enter_at vs Tryz.func27 (show Da.body=some fT from rfl)]
  have hsr:=SR0 (N:=38) hok hA hl hv (by simp)
  have hfr:=aMh hn hn2 hvalid hdiff
  have hmid:∀{σ:St} {a:Act} {V:World},_:=fun{σ a V}=>@aYj W0 Post rr eA lD n Pv Vv Ev hn hn2 hfE hlD hres A W V σ a c cs
  simp only[aVg,aCy,fT,Da,AU]at hmid
  simp only[x1W,x3W,r5W,fT,Da,AU]at hfr
  simp only[fT,Da,AU]
  refine aQ hW rfl hok (fun w=>stepG_seq) ?_
  refine cJ aW (fun _=>rfl) _ _ _ _ _ (by kernel_rfl) (by kernel_rfl) hfr hsr _ hW hok _ _ _ hb fun e a1 V1 hv1 hq=>?_
  obtain⟨σ1,⟨rfl,hfr1⟩,hsr1⟩:=hq
  simp only[nY]
  refine aQ hW rfl hv1 (fun w=>stepG_seq) ?_
  refine cJ aW (fun _=>rfl) _ _ _ _ _ (by kernel_rfl) (by kernel_rfl) hfr1 hsr1 _ hW hv1 _ _ _ hb fun e a2 V2 hv2 hq=>?_
  obtain⟨σ2,⟨rfl,hfr2⟩,hsr2⟩:=hq
  simp only[nY]
  refine aQ hW rfl hv2 (fun w=>stepG_seq) ?_
  refine cJ aW (fun _=>rfl) _ _ _ _ _ (by kernel_rfl) (by kernel_rfl) hfr2 hsr2 _ hW hv2 _ _ _ hb fun e a3 V3 hv3 hq=>?_
  obtain⟨σ3,⟨rfl,hfr3⟩,hsr3⟩:=hq
  simp only[nY]
  refine aQ hW rfl hv3 (fun w=>stepG_seq) ?_
  refine cJ aW (fun _=>rfl) _ _ _ _ _ (by kernel_rfl) (by kernel_rfl) hfr3 hsr3 _ hW hv3 _ _ _ hb fun e a4 V4 hv4 hq=>?_
  obtain⟨σ4,⟨rfl,q1,iA,iR,iC,hne1,hne2,q2,qA,q6,qR,csC,qC,hlC⟩,hsr4⟩:=hq
  simp only[nY]
  refine aQ hW rfl hv4 (fun w=>stepG_seq) ?_
  refine aQ hW rfl hv4 (fun w=>stepG_region) ?_
  exact hmid hsr4 q1 hne1 hne2 q2 qA q6 qR qC hlC hk
end Go.Am
end
section
open List renaming map_map→ζ,mapM_map→ξ
open Go Go.Am Go.Proofs
namespace Go.Am
theorem kW1:letI:=cT Aa;Spec Aa 27 [mA,.sl [[.i .u64 5],[.i .u64 3]]] (.tp [.sl [rp 0 5 4,rp 1 3 2],.i .i64 0]):=by
 refine aYk (rr:=1) (eA:=[[.sl [[.b true,.sl [[.i .u32 1]]]]]]) (lD:=[[.i .u64 5],[.i .u64 3]]) (n:=2) (Pv:=fun k=>if k=0 then 5 else 3) (Vv:=fun k=>if k=0 then 4 else 2) (Ev:=fun _=>0) rfl (by decide) ?_ ?_ ?_ ?_ ?_
 ·refine yB fun cs h c hc=>?_
  simp only[Cb]at h;subst h
  simp only[Cb]at hc;subst hc
  refine yB fun cs h c hc=>?_
  simp only[Cb]at h;subst h
  simp only[List.mem_cons,List.not_mem_nil,or_false]at hc
  rcases hc with rfl|rfl
  ·exact bUt _
  ·refine yB fun cs h c hc=>?_
   simp only[Cb]at h;subst h
   simp only[Cb]at hc;subst hc
   exact aAd _ _
 ·intro k hk
  have:k=0∨k=1:=by omega
  rcases this with rfl|rfl<;>rfl
 ·letI:=cT Aa
  exact kVa
 ·letI:=cT Aa
  exact kDi
 ·intro k hk
  letI:=lN Aa false
  have:k=0∨k=1:=by omega
  rcases this with rfl|rfl
  ·exact kR5
  ·exact kR3
def sA:St:=StL [(1,.d (.sl rl4)),(2,.ptr 1 0)] none [.cells 31 [.d (.b false),.d (.sl [[.i .u32 10]])]]
def vA:HO:=.cells 34 [.d (.b false),.d (.sl [[.i .u32 5]]),.d (.sl [[.i .i64 3]])]
def vB:HO:=.cells 34 [.d (.b false),.d (.sl [[.i .u32 5]]),.d (.sl [])]
def sB:St:=StL [(1,.d (.sl rl4)),(2,.ptr 1 0),(3,.ptr 2 0),(4,.d (.i .i64 0)),(6,.d (.i .i64 200)),(7,.ptr 3 0),(8,.d (.i .i64 0))] none [.cells 31 [.d (.b false),.d (.sl [[.i .u32 10]])],vA,vB]
def lC:List (Nat×AV):=[(1,.d (.sl rl4)),(3,.ptr 1 0),(4,.d (.i .i64 0)),(6,.d (.i .i64 200)),(7,.ptr 2 0),(8,.d (.i .i64 0)),(10,.d (.i .i64 201)),(12,.d (.i .i64 1)),(14,.d (.i .i64 40))]
def sC:St:=StL lC none [vA,vB]
def lD2:List (Nat×AV):=lC++[(15,.d (.sl [rp 0 5 4,rp 1 3 2])),(16,.d (.i .i64 0))]
def sD:St:=StL lD2 none [vA,vB]
def lE:List (Nat×AV):=lD2++[(18,.d (.i .i64 50)),(20,.d (.i .i64 40))]
def sE:St:=StL lE none [vA,vB]
def sF:St:=StL (lE++[(21,.d (.b true))]) none [vA,vB]
def sG:St:=StL [(1,.d (.sl rl4)),(15,.d (.sl [rp 0 5 4,rp 1 3 2])),(16,.d (.i .i64 0)),(18,.d (.i .i64 50)),(20,.d (.i .i64 40)),(21,.d (.b true)),(22,.d (.b true))] none []
def sH:St:=StL [(1,.d (.sl rl4)),(21,.d (.b true)),(22,.d (.b true)),(23,.d (.b true))] none []
theorem kX1[M:Mch Aa]:Spec Aa 36 [.i .i64 0,.i .u64 7,.i .u64 5] (.ag (rp 0 7 5)):=kRe 0 7 5
theorem kX2[M:Mch Aa]:Spec Aa 36 [.i .i64 1,.i .u64 11,.i .u64 5] (.ag (rp 1 11 5)):=kRe 1 11 5
theorem kX3[M:Mch Aa]:Spec Aa 36 [.i .i64 2,.i .u64 13,.i .u64 5] (.ag (rp 2 13 5)):=kRe 2 13 5
theorem kX4[M:Mch Aa]:Spec Aa 36 [.i .i64 3,.i .u64 17,.i .u64 0] (.ag (rp 3 17 0)):=kRe 3 17 0
theorem kX5[M:Mch Aa]:Spec Aa 11 [.i .i64 10] (iv 10):=kOf 10
theorem kX6[M:Mch Aa]:Spec Aa 11 [.i .i64 3] (iv 3):=kOf 3
theorem kX7[M:Mch Aa]:Spec Aa 36 [.i .i64 0,.i .u64 7,.i .u64 1] (.ag (rp 0 7 1)):=kRe 0 7 1
theorem kX8[M:Mch Aa]:Spec Aa 36 [.i .i64 1,.i .u64 11,.i .u64 2] (.ag (rp 1 11 2)):=kRe 1 11 2
theorem kX9[M:Mch Aa]:Spec Aa 36 [.i .i64 0,.i .u64 8,.i .u64 1] (.ag (rp 0 8 1)):=kRe 0 8 1
theorem bZp[M:Mch Aa]:Spec Aa 20 [cM [2147483647,2147483629],cM [2147483647,2147483629]] (.b true):=kNu [2147483647,2147483629] [2147483647,2147483629]
theorem bZo[M:Mch Aa]:Spec Aa 11 [.i .i64 1] (iv 1):=kOf 1
theorem bZn[M:Mch Aa]:Spec Aa 20 [cM [2147483647],cM [2147483647]] (.b true):=kNu [2147483647] [2147483647]
theorem bTy[M:Mch Aa]:Spec Aa 11 [.i .i64 5] (iv 5):=kOf 5
theorem bZm[M:Mch Aa]:Spec Aa 13 [vd 5 [3],vd 5 [3]] (.b true):=kSa 5 [3]
theorem bZl[M:Mch Aa]:Spec Aa 13 [vd 5 [],vd 5 []] (.b true):=kSa 5 []
theorem bXh[M:Mch Aa]:Spec Aa 13 [.ag [.b false,.sl [[.i .u32 5]],.sl []],.ag [.b false,.sl [[.i .u32 5]],.sl []]] (.b true):=bZl
theorem bZk[M:Mch Aa]:Spec Aa 36 [.i .i64 0,.i .u64 5,.i .u64 4] (.ag (rp 0 5 4)):=kRe 0 5 4
theorem bZj[M:Mch Aa]:Spec Aa 36 [.i .i64 1,.i .u64 3,.i .u64 2] (.ag (rp 1 3 2)):=kRe 1 3 2
theorem bLp{P:Program}[M:Mch P](ts:List Nat){ops:Array Oper}{l:List Oper}{σ:St}{con:List Nat}{kk:St→List Nat→Prop}{d:Dm (ops,l,kk)}
  (hc:con=[]) (h:∀ Γ' H' n',(∀ t∈ts,Γ' t=σ.Γ t)→OWd P ops l ⟨Γ',H',n'⟩ [] kk .mk):OWd P ops l σ con kk d:=by
 rw[hc];exact h σ.Γ σ.H σ.n fun _ _=>rfl
set_option maxHeartbeats 8000000 in
set_option maxRecDepth 10000 in
theorem bAr:letI:=cT Aa;Spec Aa 8 [] (.b true):=by
 letI:=cT Aa
 have w1:=kW1
 have hN1:wQ Aa 38 [.i .i64 1,.i .i64 2] (nwV 1 2) (mB 2 [[0,0]]):=aFo 1 2 (by decide) (by decide)
 have hmB1:∀ n,mB 2 [[0,0]] n=[.cells 110 [.own (n+1) 0 2 2],.cells 31 [.d (.b (decide ((0:Int)<0))),.d (aG (aM (0:Int).natAbs)),.d (.b (decide ((0:Int)<0))),.d (aG (aM (0:Int).natAbs))]]:=fun n=>by simp[mB,hdr,aIp,vcs,xB]
 have hN0:wQ Aa 38 [.i .i64 0,.i .i64 0] (nwV 0 0) (mB 0 []):=aFo 0 0 (by decide) (by decide)
 have hmB0:∀ n,mB 0 [] n=[.cells 110 []]:=fun n=>rfl
 have hd0:aG (aM 0)=.sl []:=by rw[cA];rfl
 obtain⟨m12',hm12⟩:∃ m,m=D.ag [.i .i64 1,.i .i64 2,.sl [[.sl [[.b false,aG (aM 0)],[.b false,aG (aM 0)]]]]]:=⟨_,rfl⟩
 have hk2:Spec Aa 27 [m12',.sl []] (.tp [.sl [],.i .i64 50]):=by
  rw[hm12,hd0];exact kW2
 subst hm12
 have fl2:∀ l:List (List D),wH (.sl l)=false:=fun _=>rfl
 have fl:∀ l m:List (List D),wH (.ag [.b false,.sl l,.sl m])=false:=fun _ _=>rfl
 refine aZx (N:=171) [true,true,true,false,true,true,true,false,true,true,true,false,true,false,true,true,false,true,false,true,false,true,false] aW Tryz.func8 rfl rfl rfl (by kernel_rfl) (by kernel_rfl) (by simp) ?_
 simp[-ζ,-ξ,↓KW,↓bB,↓aZ,↓bK]
 refine aH kX1 ?_
 simp[-ζ,-ξ,↓KW,rp,↓bB,↓aZ,↓bK]
 refine aH kX2 ?_
 simp[-ζ,-ξ,↓KW,rp,↓bB,↓aZ,↓bK]
 refine aH kX3 ?_
 simp[-ζ,-ξ,↓KW,rp,↓bB,↓aZ,↓bK]
 refine aH kX4 ?_
 simp[-ζ,-ξ,↓KW,rp,↓bB,↓aZ,↓bK]
 refine aH kX5 ?_
 simp[-ζ,-ξ,↓KW,iv,↓bB,↓aZ,↓bK]
 refine iF sA ?_ ?_
 ·unfold sA
  refine wkQ [2] ?_ ?_
  ·simp[-ζ,upd,aT,Γ0,rl4,rp]
   refine bJq (by rfl) (fun a ha id hid=>?_)
   have ha':a=1:=by simpa[-ζ,-ξ,upd]using ha
   rw[ha']
   exact aQv hid (by simp) (by decide)
  ·simp[-ζ,upd,aT,Γ0]
 simp[-ζ,-ξ,↓KW,sA,rl4,rp,↓bB,↓aZ,↓bK]
 refine aH kC1 ?_
 simp[-ζ,-ξ,↓KW,iv,vd,fl,↓bB,↓aZ,↓bK]
 refine aH kC2 ?_
 simp[-ζ,-ξ,↓KW,iv,vd0,fl,↓bB,↓aZ,↓bK]
 refine aH kC3 ?_
 simp[-ζ,-ξ,↓KW,iv,vd,fl,↓bB,↓aZ,↓bK]
 refine iF sB ?_ ?_
 ·unfold sB vA vB
  refine wkQ [1,2,4] ?_ ?_<;>simp[-ζ,upd,aT,Γ0,rl4,rp]
 simp[-ζ,-ξ,↓KW,sB,vA,vB,rl4,rp,↓bB,↓aZ,↓bK]
 refine aH kX6 ?_
 simp[-ζ,-ξ,↓KW,iv,↓bB,↓aZ,↓bK]
 refine aH kX7 ?_
 simp[-ζ,-ξ,↓KW,rp,↓bB,↓aZ,↓bK]
 refine aH kX8 ?_
 simp[-ζ,-ξ,↓KW,rp,↓bB,↓aZ,↓bK]
 refine aH kC4 ?_
 simp[-ζ,-ξ,↓KW,iv,vd0,fl,↓bB,↓aZ,↓bK]
 refine aH kC5 ?_
 simp[-ζ,-ξ,↓KW,iv,vd0,fl,↓bB,↓aZ,↓bK]
 refine aH kX9 ?_
 simp[-ζ,-ξ,↓KW,rp,↓bB,↓aZ,↓bK]
 refine aH kC6 ?_
 simp[-ζ,-ξ,↓KW,iv,vd0,fl,↓bB,↓aZ,↓bK]
 refine iF sC ?_ ?_
 ·unfold sC lC vA vB
  refine wkQ [2,3] ?_ ?_<;>simp[-ζ,upd,aT,Γ0,rl4,rp]
 simp[-ζ,-ξ,↓KW,sC,lC,vA,vB,rl4,rp,↓bB,↓aZ,↓bK]
 refine aH bXj ?_
 simp[-ζ,-ξ,↓KW,mA,↓bB,↓aZ,↓bK]
 refine aH w1 ?_
 simp[-ζ,-ξ,↓KW,rp,fl2,↓bB,↓aZ,↓bK]
 refine iF sD ?_ ?_
 ·unfold sD lD2 lC vA vB
  refine wkQ [1,2] ?_ ?_<;>simp[-ζ,upd,aT,Γ0,rl4,rp]
 simp[-ζ,-ξ,↓KW,sD,lD2,lC,vA,vB,rl4,rp,↓bB,↓aZ,↓bK]
 refine tE [.i .i64 1,.i .i64 2] (nwV 1 2) (mB 2 [[0,0]]) (by simp) (by simp) (by simp) (by rfl) (by rfl) hN1 ?_
 simp[-ζ,-ξ,↓KW,nwV,hmB1,aGs,↓bB,↓aZ,↓bK]
 refine aH hk2 ?_
 simp[-ζ,-ξ,↓KW,fl2,nwV,hmB1,aGs,bJf,kill,↓bB,↓aZ,↓bK]
 refine tE [.i .i64 0,.i .i64 0] (nwV 0 0) (mB 0 []) (by simp) (by simp) (by simp) (by rfl) (by rfl) hN0 ?_
 simp[-ζ,-ξ,↓KW,nwV,hmB0,aAf,↓bB,↓aZ,↓bK]
 refine aH kW3 ?_
 simp[-ζ,-ξ,↓KW,fl2,nwV,hmB0,aAf,bJf,kill,↓bB,↓aZ,↓bK]
 refine iF sE ?_ ?_
 ·unfold sE lE lD2 lC vA vB
  refine wkQ [1,2] ?_ ?_<;>simp[-ζ,upd,aT,Γ0,rl4,rp]
 simp[-ζ,-ξ,↓KW,sE,lE,lD2,lC,vA,vB,rl4,rp,↓bB,↓aZ,↓bK]
 refine aH bXi ?_
 simp[-ζ,-ξ,↓KW,iv0,↓bB,↓aZ,↓bK]
 refine aH kP1 ?_
 simp[-ζ,-ξ,↓KW,cM,fl2,↓bB,↓aZ,↓bK]
 refine aH bZp ?_
 simp[-ζ,-ξ,↓KW,↓bB,↓aZ,↓bK]
 refine aH bZo ?_
 simp[-ζ,-ξ,↓KW,iv,↓bB,↓aZ,↓bK]
 refine aH kP2 ?_
 simp[-ζ,-ξ,↓KW,cM,fl2,↓bB,↓aZ,↓bK]
 refine aH bZn ?_
 simp[-ζ,-ξ,↓KW,↓bB,↓aZ,↓bK]
 refine aH bXi ?_
 simp[-ζ,-ξ,↓KW,iv0,↓bB,↓aZ,↓bK]
 refine aH kP3 ?_
 simp[-ζ,-ξ,↓KW,cM,fl2,↓bB,↓aZ,↓bK]
 refine iF sF ?_ ?_
 ·unfold sF lE lD2 lC vA vB
  refine wkQ [1,2] ?_ ?_<;>simp[-ζ,upd,aT,Γ0,rl4,rp]
 simp[-ζ,-ξ,↓KW,sF,lE,lD2,lC,vA,vB,rl4,rp,↓bB,↓aZ,↓bK]
 refine aH bTy ?_
 simp[-ζ,-ξ,↓KW,iv,↓bB,↓aZ,↓bK]
 refine aH bZm ?_
 simp[-ζ,-ξ,↓KW,↓bB,↓aZ,↓bK]
 refine aH bTy ?_
 simp[-ζ,-ξ,↓KW,iv,↓bB,↓aZ,↓bK]
 refine aH bXh ?_
 refine bLp [1,10,12,14,15,16,18,20,21,122,126] (by rfl) ?_
 intro Γ' H' n' hΓ
 have g1:Γ' 1=.d (.sl rl4):=(hΓ 1 (by decide)).trans (by rfl)
 have g2:Γ' 10=.d (.i .i64 201):=(hΓ 10 (by decide)).trans (by rfl)
 have g3:Γ' 12=.d (.i .i64 1):=(hΓ 12 (by decide)).trans (by rfl)
 have g4:Γ' 14=.d (.i .i64 40):=(hΓ 14 (by decide)).trans (by rfl)
 have g5:Γ' 15=.d (.sl [rp 0 5 4,rp 1 3 2]):=(hΓ 15 (by decide)).trans (by rfl)
 have g6:Γ' 16=.d (.i .i64 0):=(hΓ 16 (by decide)).trans (by rfl)
 have g7:Γ' 18=.d (.i .i64 50):=(hΓ 18 (by decide)).trans (by rfl)
 have g8:Γ' 20=.d (.i .i64 40):=(hΓ 20 (by decide)).trans (by rfl)
 have g9:Γ' 21=.d (.b true):=(hΓ 21 (by decide)).trans (by rfl)
 have g10:Γ' 122=.d (.b true):=(hΓ 122 (by decide)).trans (by rfl)
 have g11:Γ' 126=.d (.b true):=(hΓ 126 (by decide)).trans (by rfl)
 clear hΓ
 simp[-ζ,-ξ,↓KW,g1,g2,g3,g4,g5,g6,g7,g8,g9,g10,g11,↓bB,↓aZ,↓bK]
 refine iF sG ?_ ?_
 ·unfold sG
  refine wkQ [] ?_ ?_<;>simp[-ζ,upd,aT,Γ0,g1,g5,g6,g7,g8,g9,rl4,rp]
 simp[-ζ,-ξ,↓KW,sG,rl4,rp,↓bB,↓aZ,↓bK]
 refine aH bZk ?_
 simp[-ζ,-ξ,↓KW,rp,↓bB,↓aZ,↓bK]
 refine aH bZj ?_
 simp[-ζ,-ξ,↓KW,rp,↓bB,↓aZ,↓bK]
 refine aH kSR ?_
 simp[-ζ,-ξ,↓KW,↓bB,↓aZ,↓bK]
 refine iF sH ?_ ?_
 ·unfold sH
  refine wkQ [] ?_ ?_<;>simp[-ζ,upd,aT,Γ0,rl4,rp]
 simp[-ζ,-ξ,↓KW,sH,rl4,rp,↓bB,↓aZ,↓bK]
 refine aH bTy ?_
 simp[-ζ,-ξ,↓KW,iv]
 refine aH kBl ?_
 simp[-ζ,-ξ,↓KW]
 refine aH kIn ?_
 simp[-ζ,-ξ,↓KW]
end Go.Am
end
