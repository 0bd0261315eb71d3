/- The law WorkersPrimes answers true, given its check's contract. No condition. -/
import Derived.Test.YtdgdlndhaecliaaGreatP5
import Derived.Test.YtdgdlndhaecliaaGreatP4
import Derived.Test.YtdgdlndhaecliaaGreatProg
import Derived.Conc.WgGenDone
set_option linter.unusedSectionVars false
set_option linter.unusedVariables false
set_option linter.unusedSimpArgs false
section
open List renaming map_map→ζ,mapM_map→ξ
namespace Go.Am
open Go.Conc Go.Conc.Lib
open Go.ConcN (CT Apart Ok0 OkW PermW RelBy CTag phi WD Vc Ssum sumTo sumTo_upd OpenSt AllQuit isOpen isW3 isFin pend)
open Go.ConcR (KK wgBlock stA smA rd wr mk)
def inV (v:World) (C:Nat):World:={ v with heap:=((v.heap.map frzOb).setIfInBounds C hole).push hole }
theorem inV_size (v:World) (C:Nat):(inV v C).heap.size=v.heap.size+1:=by simp [inV]
theorem inV_C {v:World} {C:Nat} (h:C<v.heap.size):(inV v C).heap[C]? = some hole:=by simp [inV,Array.getElem?_push,h]
theorem inV_new (v:World) (C:Nat):(inV v C).heap[v.heap.size]? = some hole:=by
  simp only [inV,Array.getElem?_push]
  simp
theorem inV_old {v:World} {C b:Nat} (h:b<v.heap.size) (hne:b≠C):(inV v C).heap[b]? = (v.heap[b]?).map frzOb:=by
  simp only [inV,Array.getElem?_push,Array.size_setIfInBounds,Array.size_map,if_neg (Nat.ne_of_lt h)]
  rw [Array.getElem?_setIfInBounds_ne (Ne.symm hne),Array.getElem?_map]
theorem inV_hole {v:World} {C b:Nat} (h:v.heap[b]? = some hole):(inV v C).heap[b]? = some hole:=by
  have hlt:=lt_of_get h
  by_cases e:b=C
  · subst e; exact inV_C hlt
  · rw [inV_old hlt e,h,Option.map_some,frzOb_hole]
theorem inV_whole {v:World} {C b:Nat} (h:b≤v.heap.size):Whole (inV v C) b:=by
  rcases Nat.lt_or_eq_of_le h with hlt | rfl
  · by_cases e:b=C
    · subst e; exact hole_whole (inV_C hlt)
    · obtain ⟨c,t,e'⟩:=frzOb_whole v.heap[b]
      exact ⟨c,t,by rw [inV_old hlt e,Array.getElem?_eq_getElem hlt,Option.map_some,e']⟩
  · exact hole_whole (inV_new v C)
theorem inV_ok (v:World) (C:Nat):OkV (inV v C):=fun b o ho=>by
  have hlt:=lt_of_get ho
  rw [inV_size] at hlt
  obtain ⟨c,t,e⟩:=inV_whole (v:=v) (C:=C) (b:=b) (by omega)
  rw [e] at ho; obtain rfl:=Option.some.inj ho; rfl
theorem inV_sim {v w:World} (h:Sim v w) (C:Nat) (o:Obj):Sim (inV v C) { w with heap:=w.heap.push o }:=by
  refine ⟨h.tape,h.drawn,h.os,h.output,by rw [inV_size]; simp [h.size],fun b x hx=>?_⟩
  have hlt:=lt_of_get hx
  rw [inV_size] at hlt
  by_cases e:b=v.heap.size
  · subst e; rw [inV_new] at hx; exact .inl (Option.some.inj hx).symm
  · by_cases e':b=C
    · subst e'; rw [inV_C (by omega)] at hx; exact .inl (Option.some.inj hx).symm
    · rw [inV_old (by omega) e'] at hx
      have:=(frzV_sim h).blk b x (by rw [frzV_get]; exact hx)
      simp only [Array.getElem?_push]
      rw [if_neg (by rw [← h.size]; exact e)]
      exact this
structure FinV (p:Pl) (v v':World):Prop where
  ok:OkV v'
  tape:v'.tape=v.tape
  os:v'.os=v.os
  output:v'.output=v.output
  size:v.heap.size<v'.heap.size
  old:∀ b,b<v.heap.size→b≠p.C→v'.heap[b]? = v.heap[b]?
  val:∃ cs:Array Value,v'.heap[p.C]? = some (.cells cs p.ety (0,0))∧cs.size=p.tot∧∀ i,i<p.n→∀ r,r<p.wd→cs[i * p.wd+r]? = some (p.val i r)
  new:∀ b,v.heap.size≤b→b<v'.heap.size→v'.heap[b]? = some hole
def KF (P:Program) (W0:World) (Post:Value→World→Prop) (p:Pl) (v:World) (g:Goroutine):Prop:=g.status=.running∧∀ v',FinV p v v'→MainWin P W0 Post g v'
section
variable {P:Program} {L:WgLink} {p:Pl} {W0:World} {Post:Value→World→Prop} {S:Nat→Prop}
theorem handed {Wg m n:Nat} {gs:Array Goroutine} {w w0:World} {t:Trace} {D:Nat→WD} {R:Nat→Tr} {V:Nat→World} (hcom:Com P L Wg p S w0 m n gs w t D R V 0) (hacq:AcqA Wg m n t):t.HandedOver:=by
  intro i g hgi hne hc
  have hm:=hcom.mpos
  by_cases hlt:g<m
  · exact hcom.over i g hgi hne hlt hc
  obtain ⟨q,h1,h2,h3,h4⟩:=hacq
  obtain ⟨op,ho,rfl⟩:=Option.map_eq_some_iff.1 hgi
  have:=hcom.ct.gs i op ho
  obtain ⟨r,hr,hrq⟩:=h4 (op.g - m) (by omega)
  rw [show m+(op.g - m)=op.g by omega] at hr
  have edge:HappensBefore t r q:=.single (.inr ⟨.marked hrq (.inr hr.act) h1 (fun k _ _=>hcom.norel k),hr.heard,h3⟩)
  have hle:i≤r:=Nat.le_of_not_lt fun hlt=>hr.after i hlt hgi hc
  rcases Nat.lt_or_ge i r with hlt | hge
  · exact ⟨q,h2,.trans (.single (.inl ⟨hlt,op.g,hgi,hr.g⟩)) edge⟩
  · obtain rfl:i=r:=by omega
    exact ⟨q,h2,edge⟩
theorem WS.quits {Wg i s d:Nat} {r:Tr} {g:Goroutine} {v:World} (h:WS P L Wg p i s r d g v) (hs:s=1):∃ q,QuitsD P q d g:=by
  cases h <;> first | exact absurd hs (by decide) | exact ⟨_,‹_›⟩
set_option maxHeartbeats 1600000 in
theorem ph_fin {v1 ws:World} (hsim:Sim v1 ws) (hok:OkV v1) (hKp:Kp W0 v1 ws) (hS:∀ b,S b→v1.heap[b]? = some hole) {cs0:Array Value} (hC:v1.heap[p.C]? = some (.cells cs0 p.ety (0,0))) (hCs:cs0.size=p.tot) (hty:p.ety≠0)
    {m:Nat} {gs:Array Goroutine} {w:World} {sl:Option (Nat × Nat)} {R:Nat→Tr} {V:Nat→World} {D:Nat→WD} {a:Goroutine} {t:Trace} (ha:gs[0]? = some a) (hK:KF P W0 Post p v1 a)
    (hcom:Com P L ws.heap.size p S { ws with heap:=ws.heap.push (wgBlock L.tWg 0 0) } m p.n gs w t D R V 0) (hwg:w.heap[ws.heap.size]? = some (wgBlock L.tWg 0 0)) (hq:AllQuit p.n D) (hacq:AcqA ws.heap.size m p.n t):EndsGood P Post (crowd gs w sl) t:=by
  have hm:=hcom.mpos
  have hsz:v1.heap.size=ws.heap.size:=hsim.size
  have hwlt:=lt_of_get hwg
  have hClt:=lt_of_get hC
  obtain ⟨cs,fz,hcs,hcn,hfz⟩:=hcom.pay
  have hstay:∀ b,b<ws.heap.size→(b≠p.C∨p.tot=0)→w.heap[b]? = ws.heap[b]? := fun b hb hne=>by
    rw [hcom.stay b hb hne]; simp only [Array.getElem?_push]; rw [if_neg (by omega)]
  generalize hv:({ v1 with heap:=v1.heap.setIfInBounds p.C (.cells cs p.ety (0,0))++Array.replicate (w.heap.size - v1.heap.size) hole,drawn:=w.drawn }:World)=v'
  have gC:v'.heap[p.C]? = some (.cells cs p.ety (0,0)):=by
    rw [← hv]; simp only
    rw [Array.getElem?_append_left (by simpa using hClt),Array.getElem?_setIfInBounds_self_of_lt hClt]
  have gO:∀ b,b<v1.heap.size→b≠p.C→v'.heap[b]? = v1.heap[b]? := fun b hb hne=>by
    rw [← hv]; simp only
    rw [Array.getElem?_append_left (by simpa using hb),Array.getElem?_setIfInBounds_ne (Ne.symm hne)]
  have gS:v'.heap.size=w.heap.size:=by rw [← hv]; simp; omega
  have gN:∀ b,v1.heap.size≤b→b<v'.heap.size→v'.heap[b]? = some hole:=fun b h1 h2=>by
    rw [gS] at h2
    rw [← hv]; simp only
    rw [Array.getElem?_append_right (by simpa using h1),Array.getElem?_replicate]
    simp; omega
  have gok:OkV v':=fun b o ho=>by
    have hlt:=lt_of_get ho
    by_cases e:b=p.C
    · subst e; rw [gC] at ho; obtain rfl:=Option.some.inj ho; rfl
    · rcases Nat.lt_or_ge b v1.heap.size with h | h
      · rw [gO b h e] at ho; exact hok b o ho
      · rw [gN b h hlt] at ho; obtain rfl:=Option.some.inj ho; rfl
  have gsim:Sim v' w:=by
    refine ⟨?_,?_,?_,?_,gS,fun b o ho=>?_⟩
    · rw [← hv,hcom.like.1]; exact hsim.tape
    · rw [← hv]
    · rw [← hv,hcom.like.2.1]; exact hsim.os
    · rw [← hv,hcom.like.2.2]; exact hsim.output
    · have hlt:=lt_of_get ho
      by_cases e:b=p.C
      · subst e; rw [gC] at ho; rw [hcs]; obtain rfl:=Option.some.inj ho
        by_cases hz:cs.size=0
        · exact .inr (.inr ⟨cs,p.ety,fz,by rw [hz],rfl⟩)
        · rw [hfz hz]; exact .inr (.inl rfl)
      · rcases Nat.lt_or_ge b v1.heap.size with h | h
        · rw [gO b h e] at ho
          rw [hstay b (by omega) (.inl e)]; exact hsim.blk b o ho
        · rw [gN b h hlt] at ho; exact .inl (Option.some.inj ho).symm
  have hF:FinV p v1 v':=by
    refine ⟨gok,by rw [← hv],by rw [← hv],by rw [← hv],by omega,gO,⟨cs,gC,hcn,fun i hi r hr=>?_⟩,gN⟩
    have:=hcom.has i hi (by rw [hq i hi]; omega) r hr
    simpa [World.cell?,Pl.cell,hcs] using this
  have hover:=handed hcom hacq
  have hquit:∀ i,0<i→∀ g,gs[i]? = some g→∃ q,QuitsD P q (Deaf t i) g:=fun i h0 g hg=>by
    have hlt:i<m+p.n:=by have:=(Array.getElem?_eq_some_iff.1 hg).1; rw [hcom.size] at this; exact this
    by_cases him:i<m
    · obtain ⟨g',q,hg',_,hqq⟩:=hcom.old i h0 him
      rw [hg] at hg'; cases hg'; exact ⟨q,hqq⟩
    · obtain ⟨g',hg',hs⟩:=hcom.wk (i - m) (by omega)
      rw [show m+(i - m)=i by omega,hg] at hg'; cases hg'
      obtain ⟨q,hqq⟩:=hs.quits (hq (i - m) (by omega))
      have:=hcom.deafW (i - m) (by omega)
      rw [show m+(i - m)=i by omega] at this
      exact ⟨q,by rw [this]; exact hqq⟩
  have hqf:∃ q:Nat→Nat,∀ i g,0<i→gs[i]? = some g→QuitsD P (q i) (Deaf t i) g:=by
    classical
    refine Classical.axiomOfChoice (r:=fun i q=>∀ g,0<i→gs[i]? = some g→QuitsD P q (Deaf t i) g) (fun i=>?_) |>.elim fun q h=>⟨q,fun i g h0 hg=>h i g h0 hg⟩
    by_cases h:∃ g,0<i∧gs[i]? = some g
    · obtain ⟨g,h0,hg⟩:=h
      obtain ⟨q,hqq⟩:=hquit i h0 g hg
      exact ⟨q,fun g' _ hg'=>by rw [hg] at hg'; cases hg'; exact hqq⟩
    · exact ⟨0,fun g h0 hg=>(h ⟨g,h0,hg⟩).elim⟩
  obtain ⟨q,hqf⟩:=hqf
  refine hK.2 v' hF v' (.refl _) gok (ShW S ws.heap.size) gs w sl t q (fun b hb=>?_) gsim ha ⟨fun i g h0 hg=>hqf i g h0 hg,fun i hi=>hcom.above i (by rw [← hcom.size]; exact hi)⟩ ⟨hcom.ct.nr,fun i x hx hmm=>?_,hover,hcom.deaf0,hcom.seen⟩
    ⟨hcom.ct.quiet,hcom.mem,fun i op hop=>by have:=hcom.ct.gs i op hop; rw [hcom.size]; omega⟩ (fun b o hb ho=>?_)
  · rcases hb with hb | rfl
    · have h:=hS b hb
      have hlt:=lt_of_get h
      rw [gO b hlt (fun e=>by subst e; rw [hC] at h; injection h with h; injection h with _ e2 _; exact hty e2)]; exact h
    · exact gN _ (by omega) (by omega)
  · rcases hcom.kn i x hx with h | h | ⟨⟨g,hg,hgm⟩,hk⟩
    · exact .inl h
    · exact .inr h
    · obtain ⟨q',hq1,hq2⟩:=hover i g hg (by omega) ⟨x,hx,hmm,.inl hk⟩
      obtain ⟨z,hz,hzg⟩:=Option.map_eq_some_iff.1 hq1
      exact .inl ⟨q',z,hz,hzg,.inr hq2⟩
  · obtain ⟨h1,c,ty,h2⟩:=hKp b o hb ho
    have hlt:=lt_of_get h2
    by_cases e:b=p.C
    · subst e
      rw [hC] at h2
      injection h2 with h2; injection h2 with e1 e2 e3
      subst e1; subst e2
      have hz:cs0.size=0:=by injection e3 with _ e4; exact e4.symm
      have hcz:cs.size=0:=by omega
      exact ⟨(hstay _ (by omega) (.inr (by omega))).trans h1,cs,p.ety,by rw [gC,hcz]⟩
    · exact ⟨(hstay b (by omega) (.inl e)).trans h1,c,ty,(gO b hlt e).trans h2⟩
theorem phase_win {g0:Goroutine} {g1:Nat→Goroutine} {v:World} (hrun:g0.status=.running)
    (halloc:∀ v1 w,Env v v1→OkV v1→Sim v1 w→stepG P true g0 w=.go (g1 w.heap.size) { w with heap:=w.heap.push (wgBlock L.tWg 0 0) } #[])
    (hC:∃ cs:Array Value,v.heap[p.C]? = some (.cells cs p.ety (0,0))∧cs.size=p.tot) (hty:p.ety≠0) (hn:p.n<2147483648)
    (hscr:∀ v1,Env v v1→OkV v1→∃ An:Goroutine→Prop,(∀ g,An g→Dl P true (WgLv L.tWg v1.heap.size) (saidE v1.heap.size) (fun d g=>d=1∧AtLd P L v1.heap.size (KF P W0 Post p v1) An d g) 1 g) ∧
      MScr P L v1.heap.size p (KF P W0 Post p v1) An p.n (g1 v1.heap.size) (inV v1 p.C)):MainWin P W0 Post g0 v:=by
  refine main_stepE hrun fun v1 w he hok hsim hKp=>.inl ⟨_,_,_,halloc v1 w he hok hsim,fun S gs sl t q hS hg0 hL hP hTd=>?_⟩
  have et:t++MemOp.ofEvents 0 g0.frame.fn g0.frame.place #[]=t:=by rw [ofEvents_eq]; simp
  rw [et] at hL ⊢
  obtain ⟨cs0,hC,hCs⟩:=hC
  have hC1:v1.heap[p.C]? = some (.cells cs0 p.ety (0,0)):=by rw [he.get (lt_of_get hC)]; exact hC
  have hClt:=lt_of_get hC1
  have hsz:v1.heap.size=w.heap.size:=hsim.size
  obtain ⟨An,hAn,hscr⟩:=hscr v1 he hok
  rw [hsz] at hAn hscr
  have hlt0:0<gs.size:=(Array.getElem?_eq_some_iff.1 hg0).1
  have hwC:∃ f,w.heap[p.C]? = some (.cells cs0 p.ety f)∧(cs0.size≠0→f=(0,0)):=by
    rcases hsim.blk _ _ hC1 with e | e | ⟨c,e',f',e,h⟩
    · injection e with e1 e2 e3; exact absurd e2 hty
    · exact ⟨_,e,fun _=>rfl⟩
    · injection e with e1 e2 e3; subst e1; subst e2
      refine ⟨f',h,fun hz=>?_⟩
      injection e3 with _ e4; exact absurd e4.symm hz
  have G:Geo w.heap.size p S:=⟨by omega,fun hs=>by
    have:=hS _ hs
    rw [hC1] at this; injection this with this; injection this with _ e2 _; exact hty e2⟩
  have hfar:∀ i x,touchAt t i=some x→∀ a,x.loc=.cell a→a.block<w.heap.size:=fun i x hx a e=>by
    obtain ⟨op,hop,hox⟩:=touch_of hx
    have:=touch_low (hP.seen op (Array.mem_of_getElem? hop)) hox
    rw [e] at this; exact this
  have hpay0:PayA p { w with heap:=w.heap.push (wgBlock L.tWg 0 0) }:=by
    obtain ⟨f,h1,h2⟩:=hwC
    refine ⟨cs0,f,?_,hCs,h2⟩
    simp only [Array.getElem?_push]
    rw [if_neg (by omega)]; exact h1
  have hcom:∀ R:Nat→Tr,(∀ i,0<i→i<gs.size→R i=Tr.nat (q i))→Com P L w.heap.size p S { w with heap:=w.heap.push (wgBlock L.tWg 0 0) } gs.size 0 gs { w with heap:=w.heap.push (wgBlock L.tWg 0 0) } t (fun _=>⟨0,0,0⟩) R (fun _=>inV v1 p.C) 0:=fun R hR=>by
    have a0:∀ k,Act01 gs.size 0 k→k=0:=fun k hk=>hk.elim id fun x=>by omega
    have hfree:∀ l,¬ ShunS (ShW S w.heap.size) l→Perm t 0 l:=fun l hl i x hx e=>by
      rcases hP.known i x hx (hTd.mem i x hx) with h | ⟨h,_⟩
      · exact h
      · refine absurd ?_ hl
        rw [← e]
        cases hx':x.loc with
        | cell a=>rw [hx'] at h; exact .inl h
        | _=>rw [hx'] at h; exact h.elim
    refine ⟨hlt0,rfl,fun i hi=>by omega,fun i h1 h2=>?_,fun i hi=>hL.above i hi,⟨fun i op x hop hx hs=>?_,fun k h1 h2 l hl=>absurd hl.2.1 (by have:=hl.1; omega),fun k h1 h2 l hl=>absurd hl.2.1 (by have:=hl.1; omega),fun l hl _=>hfree l hl,fun l hl _=>PermW.of (hfree l hl),hP.clean,fun i op hop=>by have:=hTd.num i op hop; omega⟩,
      fun i hi=>?_,hP.hears,fun i hi=>by omega,fun i hi=>by omega,fun i hi=>by omega,hpay0,⟨fun k hk=>inV_sim hsim _ _,fun k hk=>inV_ok _ _,fun k k' hk hk' hne=>absurd ((a0 k hk).trans (a0 k' hk').symm) hne⟩,fun k hk b hb=>inV_whole (by omega),fun k hk=>inV_C hClt,fun k hk b hb=>?_,fun b hb hne=>rfl,⟨rfl,rfl,rfl⟩,fun i x hx=>?_,hTd.mem,fun i g hg hne _ hc=>hP.over i g hg hne hc,fun op hop=>MemAct.low_mono (by simp) (hP.seen op hop)⟩
    · obtain ⟨g,hg⟩:∃ g,gs[i]? = some g:=⟨_,Array.getElem?_eq_getElem h2⟩
      exact ⟨g,q i,hg,hR i h1 h2,hL.old i g h1 hg⟩
    · have hxt:touchAt t i=some x:=by rw [touchAt_of hop]; exact hx
      refine hTd.quiet i op x hop hx ?_
      cases hx':x.loc with
      | cell a =>
        rw [hx'] at hs
        rcases hs with hs | hs
        · exact hs
        · have:=hfar i x hxt a hx'; omega
      | _=>rw [hx'] at hs; exact hs.elim
    · obtain ⟨op,hop,hoa⟩:=Option.map_eq_some_iff.1 hi
      have:=hP.seen op (Array.mem_of_getElem? hop)
      rw [hoa] at this
      exact absurd this (Nat.lt_irrefl _)
    · rcases hb with hb | rfl
      · exact inV_hole (hS b hb)
      · rw [← hsz]; exact inV_new _ _
    · rcases hP.known i x hx (hTd.mem i x hx) with h | ⟨h,hk⟩
      · exact .inl h
      · refine .inr (.inl ⟨?_,hk⟩)
        cases hx':x.loc with
        | cell a=>rw [hx'] at h; exact .inl h
        | _=>rw [hx'] at h; exact h.elim
  have hwg:({ w with heap:=w.heap.push (wgBlock L.tWg 0 0) }:World).heap[w.heap.size]? = some (wgBlock L.tWg 0 0):=by simp
  have hmode:∀ tag,isOpen tag→pend tag=0→(∀ vs,tag≠.w2 vs)→ConcN.Mode 0 (fun _=>(⟨0,0,0⟩:WD)) tag 0 0:=fun tag h1 h2 h3=>by
    have:=ConcN.Mode.opn (j:=0) (D:=fun _=>(⟨0,0,0⟩:WD)) h1 (fun i hi=>by omega) (fun vs e=>absurd e (h3 vs))
    simpa [Vc,sumTo,h2] using this
  have hrest:∀ μ M t,Inv P L w.heap.size p (KF P W0 Post p v1) An S { w with heap:=w.heap.push (wgBlock L.tWg 0 0) } gs.size μ M t→EndsGood P Post M t :=
    ph_runs (fun g h=>h.1) hAn G hn fun gs' w' sl' R V D a t' ha hk hcom' hwg' hq hacq=>ph_fin hsim hok hKp hS hC1 hCs hty ha hk hcom' hwg' hq hacq
  cases hpn:p.n with
  | zero =>
    rw [hpn] at hscr
    obtain ⟨tr,hk⟩:=hscr
    refine hrest _ _ _ ⟨gs,_,sl,0,_,fun i=>if i=0 then tr else Tr.nat (q i),_,.w1,0,_,0,0,rfl,hg0,?_,hcom _ fun i h0 _=>if_neg (by omega),hwg,hmode .w1 trivial rfl (by simp),by simp,rfl⟩
    have:=CS.w1 (p:=p) hk
    rw [hpn] at this
    exact this
  | succ r =>
    rw [hpn] at hscr
    obtain ⟨tr,hk⟩:=hscr
    refine hrest _ _ _ ⟨gs,_,sl,0,_,fun i=>if i=0 then tr else Tr.nat (q i),_,.sp r 4,0,_,0,0,rfl,hg0,?_,hcom _ fun i h0 _=>if_neg (by omega),hwg,hmode (.sp r 4) trivial rfl (by simp),by simp,rfl⟩
    have:=CS.a1 (p:=p) (r:=r) (by omega) hk
    rw [show p.n - (r+1)=0 by omega] at this
    exact this
end
end Go.Am
end
section
open List renaming map_map→ζ,mapM_map→ξ
namespace Go.Am
open Go.Conc
section
variable {P:Program} [M:Mch P]
theorem win_pre {Win:Goroutine→World→Prop} (hW:M.Fam Win) {ops:Array Oper} {b:Frame} {k:List Item} {cs:List Frame} (hb:Calm b) {Q:Exit→Act→World→Prop} {r:Nat}:∀ (l:List Oper) (n:Nat) (a:Act) (v:World),OkV v→(∀ j o,l[j]? = some o→ops[n+j]? = some o)→wpLX P ops Q l a v →
    (∀ a' v',OkV v'→Q .normal a' v'→Win (G (b.at a' (.inRegion ops (List.range' (n+l.length) r)::k)) cs) v')→Win (G (b.at a (.inRegion ops (List.range' n (l.length+r))::k)) cs) v
  | [],n,a,v,hv,_,h,hk=>by simpa using hk a v hv h
  | o::l,n,a,v,hv,hl,h,hk=>by
    have ho:ops[n]? = some o:=by simpa using hl 0 o rfl
    have ih:=fun a v hv h=>win_pre hW hb (Q:=Q) (r:=r) l (n+1) a v hv (fun j o hj=>by have:=hl (j+1) o (by simpa using hj); rw [← this]; congr 1; omega) h (fun a' v' hv' hq=>by have:=hk a' v' hv' hq; rwa [show n+1+l.length=n+(o::l).length by simp; omega])
    rw [show (o::l).length+r=(l.length+r)+1 by simp; omega,List.range'_succ]
    unfold wpLX at h
    split at h
    · rename_i hw
      exact win_op hW hb ho hw hv h fun a' v' hv' h'=>ih a' v' hv' h'
    · rename_i hw
      exact win_skip hW ho hw hv (ih _ v hv h)
theorem win_prefix {Win:Goroutine→World→Prop} (hW:M.Fam Win) {Gx:Ctx} {N:Nat} {ds:List Deferred} {σ:St} {a:Act} {v:World} {id:Nat} {ops:Array Oper} {l1 l2:List Oper} {b:Frame} {k:List Item} {cs:List Frame} {Q:St→Prop}
    (hb:Calm b) (hops:ops.toList=l1++l2) (hdst:∀ o∈l1,∀ d,o.dst=some d→d<N∧Gx.Z d=none) (hsr:SR Gx N ds σ a v) (h:OWd P ops l1 σ [] (fun σ' con=>FinP σ' con Q .mk) .mk)
    (hk:∀ σ' a' v',OkV v'→Q σ'→SR Gx N ds σ' a' v'→Win (G (b.at a' (.inRegion ops (List.range' l1.length l2.length)::k)) cs) v'):Win (G (b.at a (.code (.region id ops false)::k)) cs) v:=by
  have hv:OkV v:=hsr.2.2.1
  refine win_move hW rfl hv (fun w=>stepG_region) ?_
  have hsz:ops.size=l1.length+l2.length:=by rw [← Array.length_toList,hops,List.length_append]
  rw [List.range_eq_range',hsz]
  obtain ⟨hn0,hwf,hag⟩:=SR_agree hsr
  obtain ⟨h1,h2⟩:=hag σ.H fun _ _ h=>h
  have:=ow_list (k:=fun σ' con=>Q (fin σ' con)) (Q':=fun e a' v'=>e=.normal∧∃ σ',Q σ'∧SR Gx N ds σ' a' v') (fun σ' con' s a w hq hn' hwf' hag' hr=>⟨rfl,_,hq,SR_fin hn' hwf' hag' hr⟩) l1 σ [] _ a v hdst hn0 hwf h1 h2 h
  refine win_pre hW hb l1 0 a v hv (fun j o hj=>?_) this fun a' v' hv' hq=>?_
  · rw [Nat.zero_add,← Array.getElem?_toList,hops,List.getElem?_append_left (List.getElem?_eq_some_iff.1 hj).1]; exact hj
  · obtain ⟨_,σ',hq1,hq2⟩:=hq
    rw [Nat.zero_add]
    exact hk σ' a' v' hv' hq1 hq2
end
theorem SR_stl {v:World} {N:Nat} {a:Act} {sl:List (Nat × AV)} {Z:Nat→Option Value} (hok:OkV v) (hN:a.tmps.size=N) (hZ:∀ t x,Z t=some x→a.tmps.getD t undef=x)
    (hs:∀ t,V (fun b=>b<v.heap.size) v (fun _=>none) (sltF sl t) (a.tmps.getD t undef)):SR ⟨v,fun b=>b<v.heap.size,none',fun _=>True,Z⟩ N a.defers (StL sl none []) a v:=by
  have hH:∀ id,(StL sl none []).H id=none:=fun id=>by
    cases id <;> simp [StL,blk0,blkF]
  refine ⟨fun id _=>hH id,fun h=>by simp [StL] at h,hok,fun b=>b<v.heap.size,fun _=>none,⟨.refl _ _ _,fun b h=>h,fun b h=>.inl h,fun _ _ h=>by simp at h,fun _ _ _ h=>by simp at h,fun _ _ _ h=>by simp at h,fun _ _ _ _ _ h=>by simp at h⟩,fun id=>by rw [hH]; simp,hs,⟨hN,hZ⟩,rfl,fun _ h=>by simp at h⟩
theorem slots_V {F:Nat→Prop} {v:World} {ι:Nat→Option Nat} {T:Nat→Value}:∀ (sl:List (Nat × AV)),(∀ x∈sl,V F v ι x.2 (T x.1))→∀ t,V F v ι (sltF sl t) (T t)
  | [],_,t=>by exact .any _
  | (n,x)::sl,h,t=>by
    have ih:=slots_V sl (fun y hy=>h y (List.mem_cons_of_mem _ hy)) t
    have h0:=h (n,x) (List.mem_cons_self ..)
    by_cases e:t=n
    · subst e; rw [sltF,upd_same]; exact h0
    · rw [sltF,upd_ne _ _ e]; exact ih
end Go.Am
end
section
open List renaming map_map→ζ,mapM_map→ξ
namespace Go.Am
open Go Go.Conc.Lib Go.Proofs
def wgLink:WgLink:={ add:=71,done:=73,wait:=75,relMerge:=107,disable:=108,enable:=109,inBubble:=110,associate:=111,fatal:=112,uOr:=113,uAdd:=114,raceRead:=115,uLoad:=116,uStore:=117,disassociate:=118,semrelease:=119,acquire:=122,isAssociated:=123,uCas:=124,raceWrite:=125,semacquire:=126,orU64:=165,addU64:=166,loadU64:=167,storeU64:=168,casU64:=173,tWgP:=149,tUP:=151,tAssoc:=152,tWg:=119,tAU:=117,tU64:=51,tUint:=94,tU32:=89,tPU32:=155,tPAU:=199,tPU64:=201,tNoCopy:=113,tANoCopy:=114,tAlign64:=115 }
theorem wgLib:WgLib Tryz.prog wgLink :=
  ⟨Tryz.func71,Tryz.func73,Tryz.func75,Tryz.func107,Tryz.func108,Tryz.func109,Tryz.func110,Tryz.func111,Tryz.func112,Tryz.func113,Tryz.func114,Tryz.func115,Tryz.func116,Tryz.func117,Tryz.func118,Tryz.func119,Tryz.func122,Tryz.func123,Tryz.func124,Tryz.func125,Tryz.func126,Tryz.func165,Tryz.func166,Tryz.func167,Tryz.func168,Tryz.func173,Tryz.underlying149,Tryz.runUnderlying149,Tryz.sizeOf149,Tryz.isAgg149,Tryz.zeroValue149,Tryz.underlying151,Tryz.runUnderlying151,Tryz.sizeOf151,Tryz.isAgg151,Tryz.zeroValue151,Tryz.underlying152,Tryz.runUnderlying152,Tryz.sizeOf152,Tryz.isAgg152,Tryz.zeroValue152,Tryz.underlying119,Tryz.runUnderlying119,Tryz.sizeOf119,Tryz.isAgg119,Tryz.zeroValue119,Tryz.underlying117,Tryz.runUnderlying117,Tryz.sizeOf117,Tryz.isAgg117,Tryz.zeroValue117,Tryz.underlying51,Tryz.runUnderlying51,Tryz.sizeOf51,Tryz.isAgg51,Tryz.zeroValue51,Tryz.underlying94,Tryz.runUnderlying94,Tryz.sizeOf94,Tryz.isAgg94,Tryz.zeroValue94,Tryz.underlying89,Tryz.runUnderlying89,Tryz.sizeOf89,Tryz.isAgg89,Tryz.zeroValue89,Tryz.underlying155,Tryz.runUnderlying155,Tryz.sizeOf155,Tryz.isAgg155,Tryz.zeroValue155,Tryz.underlying199,Tryz.runUnderlying199,Tryz.sizeOf199,Tryz.isAgg199,Tryz.zeroValue199,Tryz.underlying201,Tryz.runUnderlying201,Tryz.sizeOf201,Tryz.isAgg201,Tryz.zeroValue201,Tryz.underlying0,Tryz.runUnderlying0,Tryz.sizeOf0,Tryz.isAgg0,Tryz.zeroValue0,Tryz.underlying3,Tryz.runUnderlying3,Tryz.sizeOf3,Tryz.isAgg3,Tryz.zeroValue3,Tryz.underlying4,Tryz.runUnderlying4,Tryz.sizeOf4,Tryz.isAgg4,Tryz.zeroValue4,Tryz.underlying9,Tryz.runUnderlying9,Tryz.sizeOf9,Tryz.isAgg9,Tryz.zeroValue9,Tryz.underlying20,Tryz.runUnderlying20,Tryz.sizeOf20,Tryz.isAgg20,Tryz.zeroValue20,Tryz.underlying21,Tryz.runUnderlying21,Tryz.sizeOf21,Tryz.isAgg21,Tryz.zeroValue21,by kernel_rfl,by kernel_rfl⟩
end Go.Am
end
section
open List renaming map_map→ζ,mapM_map→ξ
open Go Go.Am Go.Proofs
namespace Go.Am
open Go.Conc Go.Conc.Lib Go.RowKit Go.ConcR.Gen
open Go.ConcR (KK wgBlock stA smA rd wr mk)
noncomputable def bot:Frame:={ (default:Frame) with fn:=Tryz.prog.funcs.size,defers:=[],mode:=.panicking [goexitEntry] }
def ptr0 (b:Nat):Value:=.pointer (some ⟨b,0,none⟩)
def wcall (Wg Ba Bp Bi Br:Nat):Deferred:={ target:=.fn (.func 72) #[ptr0 Wg,ptr0 Ba,ptr0 Bp,ptr0 Bi,ptr0 Br],args:=#[] }
noncomputable def bodyW:Code:=Tryz.f72.body.getD .skip
theorem born_step (Wg Ba Bp Bi Br:Nat) (w:World):stepG Tryz.prog false (born Tryz.prog (wcall Wg Ba Bp Bi Br)) w =
    .go (G ((baseD 72).at ⟨#[ptr0 Wg,ptr0 Ba,ptr0 Bp,ptr0 Bi,ptr0 Br]++Array.replicate 14 undef,[]⟩ [.code bodyW]) [bot]) w #[]:=by
  simp [born,wcall,stepG,unwind,callDeferred,invoke,callFunc,Tryz.func72,Tryz.f72,seen,GStep.after,G,Frame.enter,Frame.at,baseD,bot,bodyW]
theorem quitsTail (T:Array Value) (todo:List Item):QuitsD Tryz.prog 2 0 (G { (baseD 72).at ⟨T,[]⟩ todo with mode:=.returning } [bot]):=by
  refine QuitsD.ctl (g':=G bot []) rfl (fun w=>?_) ?_
  · simp [G,stepG,unwind,doReturn,results,Frame.at,baseD,bot,Tryz.func72,Tryz.f72,seen,GStep.after,goexitEntry]
  refine QuitsD.ctl (g':={ G bot [] with status:=.finished }) rfl (fun w=>?_) ⟨rfl,rfl⟩
  simp [G,stepG,unwind,bot,goexitEntry,Frame.catches]
  rfl
theorem fp_of {F:Nat→Prop} {w:World} {ι:Nat→Option Nat} {cs:List D} {v:Value} (h:VD F w (.pt cs) v):V F w ι (.fp cs) v:=by
  cases h with
  | pt cs ad f hF hcell hel=>exact .fp cs ad f hF hcell hel
theorem v_i {F:Nat→Prop} {w:World} {ι:Nat→Option Nat} {k:IntKind} {n:Int} {v:Value} (h:V F w ι (.d (.i k n)) v):v=.int k n:=by
  cases h with | d _ _ h=>cases h; rfl
theorem v_lit {F:Nat→Prop} {w:World} {ι:Nat→Option Nat} {x v:Value} (h:V F w ι (.d (.lit x)) v):v=x:=by
  cases h with | d _ _ h=>cases h; rfl
abbrev WinW (Wg:Nat) (p:Pl) (i:Nat):=GoW Tryz.prog false (fun _=>True) noE (fun d g _=>AtPut Tryz.prog wgLink Wg p i d g)
set_option maxRecDepth 100000 in
set_option maxHeartbeats 4000000 in
theorem work_run {Wg Ba Bp Bi Br:Nat} {p:Pl} {i:Nat} {v:World} {c0 c1 c2:D} {pr rp rv er:Int} {sv:Value} (hok:OkV v)
    (hBa:VD (fun b=>b<v.heap.size) v (.pt [c0,c1,c2]) (ptr0 Ba)) (hBp:VD (fun b=>b<v.heap.size) v (.pt [.i .u64 pr]) (ptr0 Bp)) (hBi:VD (fun b=>b<v.heap.size) v (.pt [.i .i64 i]) (ptr0 Bi)) (hBr:VD (fun b=>b<v.heap.size) v (.pt [.lit sv]) (ptr0 Br))
    (hsp:letI:=goMch Tryz.prog false; Spec Tryz.prog 74 [.ag [c0,c1,c2],.i .u64 pr] (.tp [.ag [.i .u64 rp,.i .u64 rv],.i .i64 er]))
    (hlast:∀ (a:Act) (v':World) (ops:Array Oper) (o6 o7:Oper),OkV v'→ops[5]? = some o6→ops[6]? = some o7→o6.op=.indexAddr 27 (.tmp 13) (.tmp 14)→o6.dst=some 18→o6.guard=none→o7.op=.store 78 (.tmp 18) (.tmp 17)→o7.dst=none→o7.guard=none →
      a.tmps.size=19→a.defers=[dcall 73 #[ptr0 Wg]]→a.tmps.getD 13 undef=sv→a.tmps.getD 14 undef=.int .i64 i→a.tmps.getD 17 undef=.agg #[.int .i64 i,.int .u64 rp,.int .u64 rv] →
      WinW Wg p i (G ((baseD 72).at a [.inRegion ops [5,6]]) [bot]) v') :
    WinW Wg p i (born Tryz.prog (wcall Wg Ba Bp Bi Br)) v:=by
  letI:=goMch Tryz.prog false
  have hW:(goMch Tryz.prog false).Fam (WinW Wg p i):=.inl ⟨_,_,_,fun _ _ _ _ h _=>h,rfl⟩
  have hb:Calm (baseD 72):=.inr rfl
  refine win_move hW rfl hok (fun w=>born_step Wg Ba Bp Bi Br w) ?_
  simp only [bodyW,Tryz.f72,Option.getD_some]
  refine win_move hW rfl hok (fun w=>stepG_seq) ?_
  refine win_move hW rfl hok (fun w=>stepG_region) ?_
  refine win_move hW rfl hok (fun w=>stepG_defer rfl rfl (by k_ne) rfl) ?_
  walk_nrm
  refine win_move hW rfl hok (fun w=>stepG_region_end) ?_
  refine win_move hW rfl hok (fun w=>stepG_seq) ?_
  refine AWP_sound (G:=⟨v,fun b=>b<v.heap.size,none',fun _=>True,fun _=>none⟩) (N:=19) (ds:=[dcall 73 #[ptr0 Wg]]) follows_mixed (fun _=>rfl) _
    (fun e σ=>e=.normal∧∃ id,σ.Γ 5=.ptr id 0∧σ.H id=some (.cells 76 [.d (.i .u64 rp),.d (.i .u64 rv)])∧σ.Γ 3=.fp [.i .i64 i]∧σ.Γ 4=.fp [.lit sv])
    (StL [(1,.fp [c0,c1,c2]),(2,.fp [.i .u64 pr]),(3,.fp [.i .i64 i]),(4,.fp [.lit sv])] none []) _ v (by kernel_rfl) (by kernel_rfl) ?hawp
    ?hsr _ hW hok _ _ _ hb fun e a' v' hv' hq=>?_
  case hsr =>
    refine SR_stl (Z:=fun _=>none) hok rfl (fun _ _ h=>by simp at h) (slots_V _ ?_)
    simp only [List.forall_mem_cons]
    exact ⟨fp_of hBa,fp_of hBp,fp_of hBi,fp_of hBr,fun _ h=>by simp at h⟩
  case hawp =>
    simp [-ζ,-ξ,↓KW]
    refine callQ hsp ?_
    simp [-ζ,-ξ,↓KW]
  obtain ⟨σ,⟨rfl,id,h5,hH,h3,h4⟩,hsr⟩:=hq
  simp only [Owes]
  refine win_prefix hW hb (l1:=List.take 5 _) (l2:=List.drop 5 _) (List.take_append_drop 5 _).symm ?hdst hsr (Q:=fun σ'=>σ'.Γ 13=.d (.lit sv)∧σ'.Γ 14=.d (.i .i64 i)∧σ'.Γ 17=.ag [.d (.i .i64 i),.d (.i .u64 rp),.d (.i .u64 rv)]) ?how fun σ' a'' v'' hv'' hq hsr'=>?_
  case hdst =>
    intro o ho d hd
    simp at ho
    rcases ho with rfl | rfl | rfl | rfl | rfl <;> simp at hd <;> subst hd <;> exact ⟨by decide,rfl⟩
  case how =>
    simp only [List.take_succ_cons,List.take_zero]
    simp [-ζ,-ξ,↓KW,h5,hH,h3,h4]
  obtain ⟨q13,q14,q17⟩:=hq
  obtain ⟨_,_,_,F,ι,hR,_,hV,⟨hN,_⟩,hds,_⟩:=hsr'
  have e13:a''.tmps.getD 13 undef=sv:=by
    have h:=hV 13; rw [q13] at h
    exact v_lit h
  have e14:a''.tmps.getD 14 undef=.int .i64 i:=by
    have h:=hV 14; rw [q14] at h
    exact v_i h
  have e17:a''.tmps.getD 17 undef=.agg #[.int .i64 i,.int .u64 rp,.int .u64 rv]:=by
    have h:=hV 17; rw [q17] at h
    generalize a''.tmps.getD 17 undef=x at h
    cases h with
    | ag cs vs hl h =>
      have h0:vs[0]? = some (.int .i64 i):=by
        have hx:=Array.getElem?_eq_getElem (xs:=vs) (i:=0) (by simp at hl; omega)
        rw [hx,v_i (h 0 _ _ rfl hx)]
      have h1:vs[1]? = some (.int .u64 rp):=by
        have hx:=Array.getElem?_eq_getElem (xs:=vs) (i:=1) (by simp at hl; omega)
        rw [hx,v_i (h 1 _ _ rfl hx)]
      have h2:vs[2]? = some (.int .u64 rv):=by
        have hx:=Array.getElem?_eq_getElem (xs:=vs) (i:=2) (by simp at hl; omega)
        rw [hx,v_i (h 2 _ _ rfl hx)]
      congr 1
      apply Array.ext_getElem?
      intro k
      match k with
      | 0=>exact h0
      | 1=>exact h1
      | 2=>exact h2
      | k+3=>rw [Array.getElem?_eq_none (by simp at hl; omega)]; simp
  show WinW Wg p i (G ((baseD 72).at a'' [.inRegion _ [5,6]]) [bot]) v''
  exact hlast a'' v'' _ _ _ hv'' (by rfl) (by rfl) rfl rfl rfl rfl rfl rfl hN hds e13 e14 e17
end Go.Am
end
section
open List renaming map_map→ζ,mapM_map→ξ
namespace Go.Am
open Go.Conc
structure CellsPut (C o:Nat) (vs:List Value) (t:TypeId) (cur:Array Value) (w w':World):Prop where
  tape:w'.tape=w.tape
  os:w'.os=w.os
  output:w'.output=w.output
  size:w'.heap.size=w.heap.size
  block:∀ b,b≠C→w'.heap[b]? = w.heap[b]?
  new:∃ cur':Array Value,w'.heap[C]? = some (.cells cur' t (0,0))∧cur'.size=cur.size∧(∀ r v,vs[r]? = some v→cur'[o+r]? = some v)∧∀ k,(k<o∨o+vs.length≤k)→cur'[k]? = cur[k]?
theorem runT_storeCells {P:Program} {C o:Nat} {t:TypeId}:∀ (vs:List Value) (i:Nat) (cur:Array Value) (w:World) (es:Array Event),w.heap[C]? = some (.cells cur t (0,0))→o+i+vs.length≤cur.size→(∀ v∈vs,v.oneCell'=true) →
    ∃ w' es',(storeCells ⟨C,o,none⟩ vs i).runT P w es=(.ok () w',es++es')∧CellsPut C (o+i) vs t cur w w'∧∀ e∈es',∃ r,r<vs.length∧e=⟨.cell ⟨C,o+i+r,none⟩,true,false⟩
  | [],i,cur,w,es,hC,_,_=>⟨w,#[],by simp [storeCells,Sem.runT],⟨rfl,rfl,rfl,rfl,fun _ _=>rfl,cur,hC,rfl,fun r v h=>by simp at h,fun _ _=>rfl⟩,by simp⟩
  | v::vs,i,cur,w,es,hC,hl,h1=>by
    have hi:o+i<cur.size:=by simp at hl; omega
    have hadd:(⟨C,o,none⟩:Addr).add i=⟨C,o+i,none⟩:=add_mk _ _ _
    have hcell:w.cell? ⟨C,o+i,none⟩=some cur[o+i]:=by simp [World.cell?,hC,hi]
    have hfro:w.frozen? ⟨C,o+i,none⟩=false:=by simp [World.frozen?,hC]
    have hC':(w.setCell ⟨C,o+i,none⟩ v).heap[C]? = some (.cells (cur.setIfInBounds (o+i) v) t (0,0)):=by
      rw [setCell_get,if_pos rfl,hC]; simp [setO]
    obtain ⟨w',es',hr,hp,he⟩:=runT_storeCells (P:=P) (C:=C) (o:=o) (t:=t) vs (i+1) (cur.setIfInBounds (o+i) v) (w.setCell ⟨C,o+i,none⟩ v) (es.push ⟨.cell ⟨C,o+i,none⟩,true,false⟩) hC' (by simp at hl ⊢; omega) (fun x hx=>h1 x (by simp [hx]))
    have hv:=h1 v (by simp)
    refine ⟨w',#[⟨.cell ⟨C,o+i,none⟩,true,false⟩]++es',?_,⟨hp.tape,hp.os,hp.output,hp.size.trans (by simp [World.setCell]),fun b hb=>(hp.block b hb).trans (by rw [setCell_get,if_neg hb]),?_⟩,?_⟩
    · have hs:∀ k:Sem Unit,(Sem.store .plain ⟨C,o+i,none⟩ v k).runT P w es=k.runT P (w.setCell ⟨C,o+i,none⟩ v) (es.push ⟨.cell ⟨C,o+i,none⟩,true,false⟩):=by
        intro k
        cases v <;> first | (simp [Value.oneCell'] at hv; done) | (simp only [Sem.runT,hcell,hfro]; rfl)
      show (Sem.bind (store ((⟨C,o,none⟩:Addr).add i) v) fun _=>storeCells ⟨C,o,none⟩ vs (i+1)).runT P w es=_
      rw [hadd]
      simp only [store,Sem.bind]
      rw [hs,hr]; simp
    · obtain ⟨cur',g1,g2,g3,g4⟩:=hp.new
      refine ⟨cur',g1,by simpa using g2,fun r x hx=>?_,fun k hk=>?_⟩
      · cases r with
        | zero =>
          simp at hx; subst hx
          rw [Nat.add_zero,g4 _ (.inl (by omega))]
          simp [hi]
        | succ r=>rw [show o+i+(r+1)=o+(i+1)+r by omega]; exact g3 r x (by simpa using hx)
      · simp only [List.length_cons] at hk
        rw [g4 k (by omega),Array.getElem?_setIfInBounds_ne (by omega)]
    · intro e hx
      rcases Array.mem_append.1 hx with hx | hx
      · simp at hx; subst hx; exact ⟨0,by simp,by simp⟩
      · obtain ⟨r,hr',rfl⟩:=he e hx
        exact ⟨r+1,by simp; omega,by rw [show o+(i+1)+r=o+i+(r+1) by omega]⟩
theorem put_op {P:Program} {a:Act} {o:Oper} {x y:Operand} {t:TypeId} {C off n:Nat} {vs cur:Array Value} {e:TypeId} {w:World} (hop:o.op=.store t x y) (hx:a.eval x=.pointer (some ⟨C,off,none⟩)) (hy:a.eval y=.agg vs) (hvs:vs.size=n)
    (h1:∀ v∈vs.toList,v.oneCell'=true) (hsz:∀ w es,(sizeOf t).runT P w es=(.ok n w,es)) (hC:w.heap[C]? = some (.cells cur e (0,0))) (hfit:off+n≤cur.size) :
    ∃ w' es,(execOp a.eval o).run P w=.ok .skip w'∧(execOp a.eval o).events P w #[]=es∧CellsPut C off vs.toList e cur w w'∧∀ ev∈es,∃ r,r<n∧ev=⟨.cell ⟨C,off+r,none⟩,true,false⟩:=by
  obtain ⟨w',es',hr,hp,he⟩:=runT_storeCells (P:=P) (C:=C) (o:=off) (t:=e) vs.toList 0 cur w #[] hC (by simp; omega) h1
  have hT:(execOp a.eval o).runT P w #[]=(.ok .skip w',#[]++es'):=by
    unfold execOp
    simp only [hop,hx,hy,Instr.storeAt,Instr.sureAddr,storeVar,Value.cells]
    show (Sem.bind _ _).runT P w #[]=_
    simp only [Sem.runT_bind',Bind.bind,Sem.bind,Pure.pure,hsz,hvs,ne_eq,not_true_eq_false,if_false,hr]
    simp [Sem.runT]
  have hE:=Sem.runT_eq P (execOp a.eval o) w #[]
  rw [hT] at hE
  refine ⟨w',es',(congrArg Prod.fst hE).symm,by have:=congrArg Prod.snd hE; simpa using this.symm,by simpa using hp,fun ev hev=>?_⟩
  obtain ⟨r,h2,h3⟩:=he ev hev
  exact ⟨r,by simpa [hvs] using h2,by simpa using h3⟩
end Go.Am
end
section
open List renaming map_map→ζ,mapM_map→ξ
namespace Go.Am
open Go.Conc Go.ConcR.Gen Go.Conc.Lib Go.RowKit Go.ConcR
open Go
end Go.Am
end
section
open List renaming map_map→ζ,mapM_map→ξ
open Go Go.Am Go.Proofs
namespace Go.Am
open Go.Conc Go.Conc.Lib Go.RowKit Go.ConcR.Gen
open Go.ConcR (KK wgBlock stA smA rd wr mk)
def DoneW (Wg:Nat):Prop:=∀ {c:Frame} {cs:List Frame} {q:Nat},c.mode=.returning→QuitsD Tryz.prog q 0 (G c cs) →
    Dl Tryz.prog false (WgLv wgLink.tWg Wg) noE (AtRelM Tryz.prog wgLink Wg) 0 (G ((baseD wgLink.done).at ⟨#[.pointer (some ⟨Wg,0,none⟩),undef,undef,undef],[]⟩ [.code (body_done wgLink)]) (c::cs))
theorem runT_of {α:Type} {P:Program} {s:Sem α} {r:α} (h1:∀ w,s.run P w=.ok r w) (h2:∀ w es,s.events P w es=es) (w:World) (es:Array Event):s.runT P w es=(.ok r w,es):=by
  rw [Sem.runT_eq,h1,h2]
theorem size78 (w:World) (es:Array Event):(sizeOf 78).runT Tryz.prog w es=(.ok 3 w,es):=by
  refine runT_of Tryz.sizeOf78 (fun w es=>?_) w es
  simp [sizeOf,typeInfo,go_sem]
  split <;> simp [stuck]
theorem ix_op {a:Act} {o:Oper} {C n cap i:Nat} (hop:o.op=.indexAddr 27 (.tmp 13) (.tmp 14)) (hx:a.tmps.getD 13 undef=.slice (some ⟨C,0,none⟩) n cap) (hy:a.tmps.getD 14 undef=.int .i64 i) (hi:i<n) (w:World) :
    (execOp a.eval o).run Tryz.prog w=.ok (.value (.pointer (some ⟨C,i * 3,none⟩))) w∧(execOp a.eval o).events Tryz.prog w #[]=#[]:=by
  have hx':a.eval (.tmp 13)=.slice (some ⟨C,0,none⟩) n cap:=hx
  have hy':a.eval (.tmp 14)=.int .i64 i:=hy
  have h0:(0:Int)≤i:=by omega
  have h1:(i:Int)<n:=by omega
  have ha:(⟨C,0,none⟩:Addr).add (i * 3)=⟨C,i * 3,none⟩:=by rw [add_mk,Nat.zero_add]
  unfold execOp
  simp only [hop,hx',hy']
  constructor
  · simp [go_sem,Instr.indexAt,Tryz.runUnderlying27,Tryz.sizeOf78,h0,h1,ha]
    intro hh; omega
  · simp [go_sem,Instr.indexAt,Tryz.runUnderlying27,Tryz.sizeOf78,h0,h1,ha]
    intro hh; omega
set_option maxRecDepth 100000 in
theorem work_last {Wg:Nat} {p:Pl} {i n cap:Nat} {rp rv:Int} (hdone:DoneW Wg) (hwd:p.wd=3) (hi:i<p.n) (hn:p.n=n) (h0:p.val i 0=.int .i64 i) (h1:p.val i 1=.int .u64 rp) (h2:p.val i 2=.int .u64 rv)
    {a:Act} {v':World} {ops:Array Oper} {o6 o7:Oper} (hv:OkV v') (ho6:ops[5]? = some o6) (ho7:ops[6]? = some o7) (p6:o6.op=.indexAddr 27 (.tmp 13) (.tmp 14)) (d6:o6.dst=some 18) (g6:o6.guard=none) (p7:o7.op=.store 78 (.tmp 18) (.tmp 17)) (d7:o7.dst=none) (g7:o7.guard=none)
    (hN:a.tmps.size=19) (hds:a.defers=[dcall 73 #[ptr0 Wg]]) (e13:a.tmps.getD 13 undef=.slice (some ⟨p.C,0,none⟩) n cap) (e14:a.tmps.getD 14 undef=.int .i64 i) (e17:a.tmps.getD 17 undef=.agg #[.int .i64 i,.int .u64 rp,.int .u64 rv]) :
    WinW Wg p i (G ((baseD 72).at a [.inRegion ops [5,6]]) [bot]) v':=by
  have hW:(goMch Tryz.prog false).Fam (WinW Wg p i):=.inl ⟨_,_,_,fun _ _ _ _ h _=>h,rfl⟩
  letI:=goMch Tryz.prog false
  have w6:Region.wanted o6 (yielded ops a.tmps)=true:=by simp [Region.wanted,g6]
  refine win_move hW (g':=G ((baseD 72).at (a.put o6.dst (.pointer (some ⟨p.C,i * 3,none⟩))) [.inRegion ops [6]]) [bot]) rfl hv (fun w=>?_) ?_
  · have hx:=ix_op p6 e13 e14 (by omega) w
    rw [stepG_value ho6 w6 (by k_ne) hx.1]; unfold listed; rw [hx.2,seen_none]
  rw [d6]
  have hget:∀ t,t≠18→(a.put (some 18) (.pointer (some ⟨p.C,i * 3,none⟩))).eval (.tmp t)=a.tmps.getD t undef:=fun t ht=>by
    simp [Act.put,Act.eval,Array.getD_eq_getD_getElem?,Array.getElem?_setIfInBounds_ne (Ne.symm ht)]
  have h18:(a.put (some 18) (.pointer (some ⟨p.C,i * 3,none⟩))).eval (.tmp 18)=.pointer (some ⟨p.C,i * 3,none⟩):=by
    simp [Act.put,Act.eval,Array.getD_eq_getD_getElem?,hN]
  have hds':(a.put (some 18) (.pointer (some ⟨p.C,i * 3,none⟩))).defers=a.defers:=rfl
  generalize a.put (some 18) (.pointer (some ⟨p.C,i * 3,none⟩))=a2 at hget h18 hds'
  have w7:Region.wanted o7 (yielded ops a2.tmps)=true:=by simp [Region.wanted,g7]
  refine ⟨.leaf,rfl,rfl,fun w hp=>?_⟩
  obtain ⟨cur,f,hC,hsz,hf⟩:=hp
  have hpos:0<p.n * 3:=by omega
  have hle:=p.le; rw [hwd] at hle
  have hfz:f=(0,0):=hf (by rw [hsz]; omega)
  subst hfz
  have hfit:i * 3+3≤cur.size:=by
    rw [hsz]
    have:(i+1) * 3≤p.n * 3:=Nat.mul_le_mul_right _ hi
    omega
  obtain ⟨w',es,hr,he,hput,hes⟩:=put_op (P:=Tryz.prog) (n:=3) p7 h18 ((hget 17 (by decide)).trans e17) rfl (by simp [Value.oneCell']) size78 hC hfit
  refine ⟨_,w',_,stepG_none ho7 w7 (by k_ne) hr,?_,fun ev hev=>?_,?_⟩
  · obtain ⟨cur',g1,g2,g3,g4⟩:=hput.new
    refine ⟨hput.tape,hput.os,hput.output,hput.size,hput.block,⟨cur',(0,0),g1,by rw [g2,hsz],fun _=>rfl⟩,fun o ho=>?_,fun r hr=>?_⟩
    · rw [hwd] at ho
      have:=g4 o (by simp; omega)
      simp [World.cell?,g1,hC,this]
    · rw [hwd] at hr
      match r,hr with
      | 0,_=>rw [h0]; simpa [World.cell?,Pl.cell,g1,hwd] using g3 0 _ rfl
      | 1,_=>rw [h1]; simpa [World.cell?,Pl.cell,g1,hwd] using g3 1 _ rfl
      | 2,_=>rw [h2]; simpa [World.cell?,Pl.cell,g1,hwd] using g3 2 _ rfl
  · have:=mem_listed hev
    rw [he] at this
    obtain ⟨r,hr,rfl⟩:=hes ev this
    exact ⟨r,by omega,by simp [Pl.cell,hwd]⟩
  · rw [d7]
    refine Dl.regionEnd (Dl.done ?_)
    refine Dl.ctl rfl (fun w _=>stepG_unwind_enter (hds'.trans hds) Tryz.func73 (nm_done wgLink) rfl) ?_
    have:=hdone (c:={ (baseD 72).at ⟨a2.tmps,[]⟩ [] with mode:=.returning }) (cs:=[bot]) rfl (quitsTail a2.tmps [])
    simp only [body_done,doneFn,Option.getD_some] at this
    exact this
end Go.Am
end
section
open List renaming map_map→ζ,mapM_map→ξ
namespace Go.Am
open Go.Conc Go.ConcR.Gen Go.Conc.Lib Go.RowKit Go.ConcR
open Go.ConcN (st_flag st_waiters)
open Go
set_option maxRecDepth 100000 in
set_option maxHeartbeats 8000000 in
theorem subWalk {L:WgLink} {P:Program} (H:WgLib P L) {Wg:Nat} {cs:List Frame} {b0:Frame} {a0:Act} {ops0:Array Oper} {i0:Nat} {rest0:List Nat} {k0:List Item}
    (hT:∃ q,QuitsD P q 0 (G (b0.at (a0.put ((ops0[i0]?).bind (·.dst)) (.tuple #[])) (.inRegion ops0 rest0::k0)) cs)) :
    Dl P false (WgLv L.tWg Wg) noE (AtRelM P L Wg) 0 (G ((base L.add).at ⟨#[.pointer (some ⟨Wg,0,none⟩),.int .i64 (-1)]++Array.replicate 115 undef,[]⟩ [.code (body_add L)]) (b0.at a0 (.inRegion ops0 (i0::rest0)::k0)::cs)):=by
  have hT':Dl P false (fun _=>True) (fun _=>False) (fun d g=>∃ n,QuitsD P n d g) 0 (G (b0.at (a0.put ((ops0[i0]?).bind (·.dst)) (.tuple #[])) (.inRegion ops0 rest0::k0)) cs):=.here hT
  lib_facts
  simp only [body_add,addFn,Option.getD_some]
  repeat (first | with_reducible refine Dl.seq ?_ | ((with_reducible refine Dl.region ?_); simp only [List.size_toArray,List.length_cons,List.length_nil,Nat.reduceAdd,Nat.zero_add,List.range,List.range.loop]) | with_reducible refine Dl.regionEnd ?_ | with_reducible refine Dl.skip ?_ | with_reducible refine Dl.ret ?_ | with_reducible refine Dl.block ?_ | with_reducible refine Dl.inBlock ?_ | with_reducible refine Dl.loop ?_ | with_reducible refine Dl.inLoop ?_ | with_reducible (refine Dl.exit (by with_unfolding_all rfl) ?_) | ((with_reducible (refine Dl.cond true (by with_unfolding_all rfl) ?_)); simp only [if_true,if_false,Bool.false_eq_true,↓reduceIte]) | ((with_reducible (refine Dl.cond false (by with_unfolding_all rfl) ?_)); simp only [if_true,if_false,Bool.false_eq_true,↓reduceIte]))
  (refine Dl.value _ rfl rfl (by k_ne) (fun _ _=>by (go_simp; try (first | rfl | w_num | decide))) (fun _ _=>by simp [go_sem, *]) ?_; walk_nrm)
  repeat (first | with_reducible refine Dl.seq ?_ | ((with_reducible refine Dl.region ?_); simp only [List.size_toArray,List.length_cons,List.length_nil,Nat.reduceAdd,Nat.zero_add,List.range,List.range.loop]) | with_reducible refine Dl.regionEnd ?_ | with_reducible refine Dl.skip ?_ | with_reducible refine Dl.ret ?_ | with_reducible refine Dl.block ?_ | with_reducible refine Dl.inBlock ?_ | with_reducible refine Dl.loop ?_ | with_reducible refine Dl.inLoop ?_ | with_reducible (refine Dl.exit (by with_unfolding_all rfl) ?_) | ((with_reducible (refine Dl.cond true (by with_unfolding_all rfl) ?_)); simp only [if_true,if_false,Bool.false_eq_true,↓reduceIte]) | ((with_reducible (refine Dl.cond false (by with_unfolding_all rfl) ?_)); simp only [if_true,if_false,Bool.false_eq_true,↓reduceIte]))
  (refine Dl.value _ rfl rfl (by k_ne) (fun _ _=>by (go_simp; try (first | rfl | w_num | decide))) (fun _ _=>by simp [go_sem, *]) ?_; walk_nrm)
  repeat (first | with_reducible refine Dl.seq ?_ | ((with_reducible refine Dl.region ?_); simp only [List.size_toArray,List.length_cons,List.length_nil,Nat.reduceAdd,Nat.zero_add,List.range,List.range.loop]) | with_reducible refine Dl.regionEnd ?_ | with_reducible refine Dl.skip ?_ | with_reducible refine Dl.ret ?_ | with_reducible refine Dl.block ?_ | with_reducible refine Dl.inBlock ?_ | with_reducible refine Dl.loop ?_ | with_reducible refine Dl.inLoop ?_ | with_reducible (refine Dl.exit (by with_unfolding_all rfl) ?_) | ((with_reducible (refine Dl.cond true (by with_unfolding_all rfl) ?_)); simp only [if_true,if_false,Bool.false_eq_true,↓reduceIte]) | ((with_reducible (refine Dl.cond false (by with_unfolding_all rfl) ?_)); simp only [if_true,if_false,Bool.false_eq_true,↓reduceIte]))
  (refine Dl.value _ rfl rfl (by k_ne) (fun _ _=>by (go_simp; try (first | rfl | w_num | decide))) (fun _ _=>by simp [go_sem, *]) ?_; walk_nrm)
  (refine Dl.value _ rfl rfl (by k_ne) (fun w hI=>by (have hcv:=run_convert_to_unsafe (P:=P) H.underlying_tWgP H.underlying_tUP H.room_tWg (WgLv.cell0 hI).choose_spec); go_simp; rfl) (fun w hI=>by (have hce:=fun es=>events_convert_to_unsafe (P:=P) H.underlying_tWgP H.underlying_tUP H.room_tWg (WgLv.cell0 hI).choose_spec es); simp [go_sem,hce]) ?_; walk_nrm)
  refine .here ⟨rfl,rfl,_,fun w hI=>stepG_markAt .releaseMerge (by simp) rfl rfl (by k_ne) rfl H.f_relMerge (x_relMerge_n L) (x_relMerge_b L) (x_relMerge_x L) (x_relMerge_f L) (by simp [Act.eval,stA]),?_⟩
  walk_nrm
  repeat (first | with_reducible refine Dl.seq ?_ | ((with_reducible refine Dl.region ?_); simp only [List.size_toArray,List.length_cons,List.length_nil,Nat.reduceAdd,Nat.zero_add,List.range,List.range.loop]) | with_reducible refine Dl.regionEnd ?_ | with_reducible refine Dl.skip ?_ | with_reducible refine Dl.ret ?_ | with_reducible refine Dl.block ?_ | with_reducible refine Dl.inBlock ?_ | with_reducible refine Dl.loop ?_ | with_reducible refine Dl.inLoop ?_ | with_reducible (refine Dl.exit (by with_unfolding_all rfl) ?_) | ((with_reducible (refine Dl.cond true (by with_unfolding_all rfl) ?_)); simp only [if_true,if_false,Bool.false_eq_true,↓reduceIte]) | ((with_reducible (refine Dl.cond false (by with_unfolding_all rfl) ?_)); simp only [if_true,if_false,Bool.false_eq_true,↓reduceIte]))
  (refine Dl.step rfl (by (intro e he; simp at he; subst he; exact .inl rfl)) (fun w hI=>stepG_mark0 .disable (by simp) rfl rfl (by k_ne) rfl H.f_disable (x_disable_n L) (x_disable_b L) (x_disable_x L) (x_disable_f L)) ?_; walk_nrm)
  repeat (first | with_reducible refine Dl.seq ?_ | ((with_reducible refine Dl.region ?_); simp only [List.size_toArray,List.length_cons,List.length_nil,Nat.reduceAdd,Nat.zero_add,List.range,List.range.loop]) | with_reducible refine Dl.regionEnd ?_ | with_reducible refine Dl.skip ?_ | with_reducible refine Dl.ret ?_ | with_reducible refine Dl.block ?_ | with_reducible refine Dl.inBlock ?_ | with_reducible refine Dl.loop ?_ | with_reducible refine Dl.inLoop ?_ | with_reducible (refine Dl.exit (by with_unfolding_all rfl) ?_) | ((with_reducible (refine Dl.cond true (by with_unfolding_all rfl) ?_)); simp only [if_true,if_false,Bool.false_eq_true,↓reduceIte]) | ((with_reducible (refine Dl.cond false (by with_unfolding_all rfl) ?_)); simp only [if_true,if_false,Bool.false_eq_true,↓reduceIte]))
  (refine Dl.ctl rfl (fun w hI=>stepG_defer rfl rfl (by k_ne) rfl) ?_; walk_nrm)
  repeat (first | with_reducible refine Dl.seq ?_ | ((with_reducible refine Dl.region ?_); simp only [List.size_toArray,List.length_cons,List.length_nil,Nat.reduceAdd,Nat.zero_add,List.range,List.range.loop]) | with_reducible refine Dl.regionEnd ?_ | with_reducible refine Dl.skip ?_ | with_reducible refine Dl.ret ?_ | with_reducible refine Dl.block ?_ | with_reducible refine Dl.inBlock ?_ | with_reducible refine Dl.loop ?_ | with_reducible refine Dl.inLoop ?_ | with_reducible (refine Dl.exit (by with_unfolding_all rfl) ?_) | ((with_reducible (refine Dl.cond true (by with_unfolding_all rfl) ?_)); simp only [if_true,if_false,Bool.false_eq_true,↓reduceIte]) | ((with_reducible (refine Dl.cond false (by with_unfolding_all rfl) ?_)); simp only [if_true,if_false,Bool.false_eq_true,↓reduceIte]))
  (refine Dl.value _ rfl rfl (by k_ne) (fun _ _=>by (go_simp; try (first | rfl | w_num | decide))) (fun _ _=>by simp [go_sem, *]) ?_; walk_nrm)
  repeat (first | with_reducible refine Dl.seq ?_ | ((with_reducible refine Dl.region ?_); simp only [List.size_toArray,List.length_cons,List.length_nil,Nat.reduceAdd,Nat.zero_add,List.range,List.range.loop]) | with_reducible refine Dl.regionEnd ?_ | with_reducible refine Dl.skip ?_ | with_reducible refine Dl.ret ?_ | with_reducible refine Dl.block ?_ | with_reducible refine Dl.inBlock ?_ | with_reducible refine Dl.loop ?_ | with_reducible refine Dl.inLoop ?_ | with_reducible (refine Dl.exit (by with_unfolding_all rfl) ?_) | ((with_reducible (refine Dl.cond true (by with_unfolding_all rfl) ?_)); simp only [if_true,if_false,Bool.false_eq_true,↓reduceIte]) | ((with_reducible (refine Dl.cond false (by with_unfolding_all rfl) ?_)); simp only [if_true,if_false,Bool.false_eq_true,↓reduceIte]))
  (refine Dl.ctl rfl (fun w hI=>stepG_entry_pure (.bool false) rfl rfl (by k_ne) rfl H.f_inBubble (x_inBubble_n L) (x_inBubble_b L) (x_inBubble_x L) (x_inBubble_f L)) ?_; walk_nrm)
  repeat (first | with_reducible refine Dl.seq ?_ | ((with_reducible refine Dl.region ?_); simp only [List.size_toArray,List.length_cons,List.length_nil,Nat.reduceAdd,Nat.zero_add,List.range,List.range.loop]) | with_reducible refine Dl.regionEnd ?_ | with_reducible refine Dl.skip ?_ | with_reducible refine Dl.ret ?_ | with_reducible refine Dl.block ?_ | with_reducible refine Dl.inBlock ?_ | with_reducible refine Dl.loop ?_ | with_reducible refine Dl.inLoop ?_ | with_reducible (refine Dl.exit (by with_unfolding_all rfl) ?_) | ((with_reducible (refine Dl.cond true (by with_unfolding_all rfl) ?_)); simp only [if_true,if_false,Bool.false_eq_true,↓reduceIte]) | ((with_reducible (refine Dl.cond false (by with_unfolding_all rfl) ?_)); simp only [if_true,if_false,Bool.false_eq_true,↓reduceIte]))
  (refine Dl.value _ rfl rfl (by k_ne) (fun _ _=>by (go_simp; try (first | rfl | w_num | decide))) (fun _ _=>by simp [go_sem, *]) ?_; walk_nrm)
  (refine Dl.value _ rfl rfl (by k_ne) (fun _ _=>by (go_simp; try (first | rfl | w_num | decide))) (fun _ _=>by simp [go_sem, *]) ?_; walk_nrm)
  (refine Dl.value _ rfl rfl (by k_ne) (fun _ _=>by (go_simp; try (first | rfl | w_num | decide))) (fun _ _=>by simp [go_sem, *]) ?_; walk_nrm)
  (refine Dl.value _ rfl rfl (by k_ne) (fun _ _=>by (go_simp; try (first | rfl | w_num | decide))) (fun _ _=>by simp [go_sem, *]) ?_; walk_nrm)
  (refine Dl.value _ rfl rfl (by k_ne) (fun _ _=>by (go_simp; try (first | rfl | w_num | decide))) (fun _ _=>by simp [go_sem, *]) ?_; walk_nrm)
  (refine Dl.value _ rfl rfl (by k_ne) (fun _ _=>by (go_simp; try (first | rfl | w_num | decide))) (fun _ _=>by simp [go_sem, *]) ?_; walk_nrm)
  (refine Dl.call rfl rfl (by k_ne) rfl H.f_uAdd (nm_uAdd L) rfl ?_; walk_nrmf uAddFn)
  repeat (first | with_reducible refine Dl.seq ?_ | ((with_reducible refine Dl.region ?_); simp only [List.size_toArray,List.length_cons,List.length_nil,Nat.reduceAdd,Nat.zero_add,List.range,List.range.loop]) | with_reducible refine Dl.regionEnd ?_ | with_reducible refine Dl.skip ?_ | with_reducible refine Dl.ret ?_ | with_reducible refine Dl.block ?_ | with_reducible refine Dl.inBlock ?_ | with_reducible refine Dl.loop ?_ | with_reducible refine Dl.inLoop ?_ | with_reducible (refine Dl.exit (by with_unfolding_all rfl) ?_) | ((with_reducible (refine Dl.cond true (by with_unfolding_all rfl) ?_)); simp only [if_true,if_false,Bool.false_eq_true,↓reduceIte]) | ((with_reducible (refine Dl.cond false (by with_unfolding_all rfl) ?_)); simp only [if_true,if_false,Bool.false_eq_true,↓reduceIte]))
  (refine Dl.value _ rfl rfl (by k_ne) (fun _ _=>by (go_simp; try (first | rfl | w_num | decide))) (fun _ _=>by simp [go_sem, *]) ?_; walk_nrm)
  repeat (first | with_reducible refine Dl.seq ?_ | ((with_reducible refine Dl.region ?_); simp only [List.size_toArray,List.length_cons,List.length_nil,Nat.reduceAdd,Nat.zero_add,List.range,List.range.loop]) | with_reducible refine Dl.regionEnd ?_ | with_reducible refine Dl.skip ?_ | with_reducible refine Dl.ret ?_ | with_reducible refine Dl.block ?_ | with_reducible refine Dl.inBlock ?_ | with_reducible refine Dl.loop ?_ | with_reducible refine Dl.inLoop ?_ | with_reducible (refine Dl.exit (by with_unfolding_all rfl) ?_) | ((with_reducible (refine Dl.cond true (by with_unfolding_all rfl) ?_)); simp only [if_true,if_false,Bool.false_eq_true,↓reduceIte]) | ((with_reducible (refine Dl.cond false (by with_unfolding_all rfl) ?_)); simp only [if_true,if_false,Bool.false_eq_true,↓reduceIte]))
  (refine Dl.value _ rfl rfl (by k_ne) (fun _ _=>by (go_simp; try (first | rfl | w_num | decide))) (fun _ _=>by simp [go_sem, *]) ?_; walk_nrm)
  (refine Dl.value _ rfl rfl (by k_ne) (fun _ _=>by (go_simp; try (first | rfl | w_num | decide))) (fun _ _=>by simp [go_sem, *]) ?_; walk_nrm)
  (refine Dl.value _ rfl rfl (by k_ne) (fun _ _=>by (go_simp; try (first | rfl | w_num | decide))) (fun _ _=>by simp [go_sem, *]) ?_; walk_nrm)
  (refine Dl.value _ rfl rfl (by k_ne) (fun _ _=>by (go_simp; try (first | rfl | w_num | decide))) (fun _ _=>by simp [go_sem, *]) ?_; walk_nrm)
  refine .here ⟨rfl,rfl,fun w v wt hwt hv hw=>?_⟩
  have hc:w.cell? ⟨Wg,0,none⟩=some (.int .u64 (((v:Int)+1) * KK+wt)):=by simp [World.cell?,hw,wgBlock]
  have hz:w.frozen? ⟨Wg,0,none⟩=false:=by simp [World.frozen?,hw,wgBlock]
  have eS:IntKind.u64.wrap (((v:Int)+1) * KK+wt+IntKind.u64.wrap (IntKind.u64.wrap (-1) * 4294967296))=(v:Int) * KK+wt:=by
    have:IntKind.u64.wrap (IntKind.u64.wrap (-1) * 4294967296)=18446744069414584320:=by decide
    rw [this,IntKind.wrap_u64]; simp only [KK]; omega
  refine ⟨_,(stepG_add_atomic rfl rfl (by k_ne) rfl H.f_addU64 (x_addU64_n L) (x_addU64_b L) (x_addU64_x L) .u64 (x_addU64_f L) rfl rfl hc hz).trans (by rw [eS]; rfl),?_⟩
  clear hw hc hz eS
  walk_nrm
  by_cases h0:v=0
  · subst h0
    obtain rfl | rfl:wt=0∨wt=1:=by omega
    · refine ⟨fun h=>absurd h.2 (by decide),fun _=>Dl.quits ?_⟩
      have e0:((0:Nat):Int) * KK+((0:Nat):Int)=0:=by simp
      rw [e0]
      have e2:IntKind.u32.wrap (bits BinOp.and IntKind.u64 0 2147483647)=0:=by decide
      (repeat (first | (first | with_reducible refine Dl.seq ?_ | ((with_reducible refine Dl.region ?_); simp only [List.size_toArray,List.length_cons,List.length_nil,Nat.reduceAdd,Nat.zero_add,List.range,List.range.loop]) | with_reducible refine Dl.regionEnd ?_ | with_reducible refine Dl.skip ?_ | with_reducible refine Dl.ret ?_ | with_reducible refine Dl.block ?_ | with_reducible refine Dl.inBlock ?_ | with_reducible refine Dl.loop ?_ | with_reducible refine Dl.inLoop ?_ | with_reducible (refine Dl.exit (by with_unfolding_all rfl) ?_) | ((with_reducible (refine Dl.cond true (by with_unfolding_all rfl) ?_)); simp only [if_true,if_false,Bool.false_eq_true,↓reduceIte]) | ((with_reducible (refine Dl.cond false (by with_unfolding_all rfl) ?_)); simp only [if_true,if_false,Bool.false_eq_true,↓reduceIte])) | (refine Dl.unwanted rfl rfl ?_; walk_nrm) | (refine Dl.value _ rfl rfl (by k_ne) (fun _ _=>by (go_simp; try (first | rfl | w_num | decide))) (fun _ _=>by simp [go_sem, *]) ?_; walk_nrm)))
      (refine Dl.leave1 rfl rfl H.f_uAdd rfl ?_; walk_nrm)
      (repeat (first | (first | with_reducible refine Dl.seq ?_ | ((with_reducible refine Dl.region ?_); simp only [List.size_toArray,List.length_cons,List.length_nil,Nat.reduceAdd,Nat.zero_add,List.range,List.range.loop]) | with_reducible refine Dl.regionEnd ?_ | with_reducible refine Dl.skip ?_ | with_reducible refine Dl.ret ?_ | with_reducible refine Dl.block ?_ | with_reducible refine Dl.inBlock ?_ | with_reducible refine Dl.loop ?_ | with_reducible refine Dl.inLoop ?_ | with_reducible (refine Dl.exit (by with_unfolding_all rfl) ?_) | ((with_reducible (refine Dl.cond true (by with_unfolding_all rfl) ?_)); simp only [if_true,if_false,Bool.false_eq_true,↓reduceIte]) | ((with_reducible (refine Dl.cond false (by with_unfolding_all rfl) ?_)); simp only [if_true,if_false,Bool.false_eq_true,↓reduceIte])) | (refine Dl.unwanted rfl rfl ?_; walk_nrm) | (refine Dl.value _ rfl rfl (by k_ne) (fun _ _=>by (go_simp; try (first | rfl | w_num | decide))) (fun _ _=>by simp [go_sem, *]) ?_; walk_nrm)))
      (refine Dl.unwind_mark .enable rfl (by simp) rfl H.f_enable (x_enable_n L) (x_enable_b L) (x_enable_x L) (x_enable_f L) ?_)
      exact Dl.leave0 rfl rfl H.f_add rfl hT'
    · refine ⟨fun _=>?_,fun h=>absurd ⟨rfl,rfl⟩ h⟩
      have e0:((0:Nat):Int) * KK+((1:Nat):Int)=1:=by simp
      rw [e0]
      have e2:IntKind.u32.wrap (bits BinOp.and IntKind.u64 1 2147483647)=1:=by decide
      (repeat (first | (first | with_reducible refine Dl.seq ?_ | ((with_reducible refine Dl.region ?_); simp only [List.size_toArray,List.length_cons,List.length_nil,Nat.reduceAdd,Nat.zero_add,List.range,List.range.loop]) | with_reducible refine Dl.regionEnd ?_ | with_reducible refine Dl.skip ?_ | with_reducible refine Dl.ret ?_ | with_reducible refine Dl.block ?_ | with_reducible refine Dl.inBlock ?_ | with_reducible refine Dl.loop ?_ | with_reducible refine Dl.inLoop ?_ | with_reducible (refine Dl.exit (by with_unfolding_all rfl) ?_) | ((with_reducible (refine Dl.cond true (by with_unfolding_all rfl) ?_)); simp only [if_true,if_false,Bool.false_eq_true,↓reduceIte]) | ((with_reducible (refine Dl.cond false (by with_unfolding_all rfl) ?_)); simp only [if_true,if_false,Bool.false_eq_true,↓reduceIte])) | (refine Dl.unwanted rfl rfl ?_; walk_nrm) | (refine Dl.value _ rfl rfl (by k_ne) (fun _ _=>by (go_simp; try (first | rfl | w_num | decide))) (fun _ _=>by simp [go_sem, *]) ?_; walk_nrm)))
      (refine Dl.leave1 rfl rfl H.f_uAdd rfl ?_; walk_nrm)
      (repeat (first | (first | with_reducible refine Dl.seq ?_ | ((with_reducible refine Dl.region ?_); simp only [List.size_toArray,List.length_cons,List.length_nil,Nat.reduceAdd,Nat.zero_add,List.range,List.range.loop]) | with_reducible refine Dl.regionEnd ?_ | with_reducible refine Dl.skip ?_ | with_reducible refine Dl.ret ?_ | with_reducible refine Dl.block ?_ | with_reducible refine Dl.inBlock ?_ | with_reducible refine Dl.loop ?_ | with_reducible refine Dl.inLoop ?_ | with_reducible (refine Dl.exit (by with_unfolding_all rfl) ?_) | ((with_reducible (refine Dl.cond true (by with_unfolding_all rfl) ?_)); simp only [if_true,if_false,Bool.false_eq_true,↓reduceIte]) | ((with_reducible (refine Dl.cond false (by with_unfolding_all rfl) ?_)); simp only [if_true,if_false,Bool.false_eq_true,↓reduceIte])) | (refine Dl.unwanted rfl rfl ?_; walk_nrm) | (refine Dl.value _ rfl rfl (by k_ne) (fun _ _=>by (go_simp; try (first | rfl | w_num | decide))) (fun _ _=>by simp [go_sem, *]) ?_; walk_nrm)))
      (refine Dl.call rfl rfl (by k_ne) rfl H.f_uLoad (nm_uLoad L) rfl ?_; walk_nrmf uLoadFn)
      (repeat (first | (first | with_reducible refine Dl.seq ?_ | ((with_reducible refine Dl.region ?_); simp only [List.size_toArray,List.length_cons,List.length_nil,Nat.reduceAdd,Nat.zero_add,List.range,List.range.loop]) | with_reducible refine Dl.regionEnd ?_ | with_reducible refine Dl.skip ?_ | with_reducible refine Dl.ret ?_ | with_reducible refine Dl.block ?_ | with_reducible refine Dl.inBlock ?_ | with_reducible refine Dl.loop ?_ | with_reducible refine Dl.inLoop ?_ | with_reducible (refine Dl.exit (by with_unfolding_all rfl) ?_) | ((with_reducible (refine Dl.cond true (by with_unfolding_all rfl) ?_)); simp only [if_true,if_false,Bool.false_eq_true,↓reduceIte]) | ((with_reducible (refine Dl.cond false (by with_unfolding_all rfl) ?_)); simp only [if_true,if_false,Bool.false_eq_true,↓reduceIte])) | (refine Dl.unwanted rfl rfl ?_; walk_nrm) | (refine Dl.value _ rfl rfl (by k_ne) (fun _ _=>by (go_simp; try (first | rfl | w_num | decide))) (fun _ _=>by simp [go_sem, *]) ?_; walk_nrm)))
      refine .here ⟨rfl,rfl,fun w hw=>?_⟩
      have hc:w.cell? ⟨Wg,0,none⟩=some (.int .u64 1):=by simp [World.cell?,hw,wgBlock]
      refine ⟨_,stepG_load_atomic rfl rfl (by k_ne) rfl H.f_loadU64 (x_loadU64_n L) (x_loadU64_b L) (x_loadU64_x L) .u64 (x_loadU64_f L) rfl hc,?_⟩
      clear hc hw
      walk_nrm
      (repeat (first | (first | with_reducible refine Dl.seq ?_ | ((with_reducible refine Dl.region ?_); simp only [List.size_toArray,List.length_cons,List.length_nil,Nat.reduceAdd,Nat.zero_add,List.range,List.range.loop]) | with_reducible refine Dl.regionEnd ?_ | with_reducible refine Dl.skip ?_ | with_reducible refine Dl.ret ?_ | with_reducible refine Dl.block ?_ | with_reducible refine Dl.inBlock ?_ | with_reducible refine Dl.loop ?_ | with_reducible refine Dl.inLoop ?_ | with_reducible (refine Dl.exit (by with_unfolding_all rfl) ?_) | ((with_reducible (refine Dl.cond true (by with_unfolding_all rfl) ?_)); simp only [if_true,if_false,Bool.false_eq_true,↓reduceIte]) | ((with_reducible (refine Dl.cond false (by with_unfolding_all rfl) ?_)); simp only [if_true,if_false,Bool.false_eq_true,↓reduceIte])) | (refine Dl.unwanted rfl rfl ?_; walk_nrm) | (refine Dl.value _ rfl rfl (by k_ne) (fun _ _=>by (go_simp; try (first | rfl | w_num | decide))) (fun _ _=>by simp [go_sem, *]) ?_; walk_nrm)))
      (refine Dl.leave1 rfl rfl H.f_uLoad rfl ?_; walk_nrm)
      (repeat (first | (first | with_reducible refine Dl.seq ?_ | ((with_reducible refine Dl.region ?_); simp only [List.size_toArray,List.length_cons,List.length_nil,Nat.reduceAdd,Nat.zero_add,List.range,List.range.loop]) | with_reducible refine Dl.regionEnd ?_ | with_reducible refine Dl.skip ?_ | with_reducible refine Dl.ret ?_ | with_reducible refine Dl.block ?_ | with_reducible refine Dl.inBlock ?_ | with_reducible refine Dl.loop ?_ | with_reducible refine Dl.inLoop ?_ | with_reducible (refine Dl.exit (by with_unfolding_all rfl) ?_) | ((with_reducible (refine Dl.cond true (by with_unfolding_all rfl) ?_)); simp only [if_true,if_false,Bool.false_eq_true,↓reduceIte]) | ((with_reducible (refine Dl.cond false (by with_unfolding_all rfl) ?_)); simp only [if_true,if_false,Bool.false_eq_true,↓reduceIte])) | (refine Dl.unwanted rfl rfl ?_; walk_nrm) | (refine Dl.value _ rfl rfl (by k_ne) (fun _ _=>by (go_simp; try (first | rfl | w_num | decide))) (fun _ _=>by simp [go_sem, *]) ?_; walk_nrm)))
      (refine Dl.call rfl rfl (by k_ne) rfl H.f_uStore (nm_uStore L) rfl ?_; walk_nrmf uStoreFn)
      (repeat (first | (first | with_reducible refine Dl.seq ?_ | ((with_reducible refine Dl.region ?_); simp only [List.size_toArray,List.length_cons,List.length_nil,Nat.reduceAdd,Nat.zero_add,List.range,List.range.loop]) | with_reducible refine Dl.regionEnd ?_ | with_reducible refine Dl.skip ?_ | with_reducible refine Dl.ret ?_ | with_reducible refine Dl.block ?_ | with_reducible refine Dl.inBlock ?_ | with_reducible refine Dl.loop ?_ | with_reducible refine Dl.inLoop ?_ | with_reducible (refine Dl.exit (by with_unfolding_all rfl) ?_) | ((with_reducible (refine Dl.cond true (by with_unfolding_all rfl) ?_)); simp only [if_true,if_false,Bool.false_eq_true,↓reduceIte]) | ((with_reducible (refine Dl.cond false (by with_unfolding_all rfl) ?_)); simp only [if_true,if_false,Bool.false_eq_true,↓reduceIte])) | (refine Dl.unwanted rfl rfl ?_; walk_nrm) | (refine Dl.value _ rfl rfl (by k_ne) (fun _ _=>by (go_simp; try (first | rfl | w_num | decide))) (fun _ _=>by simp [go_sem, *]) ?_; walk_nrm)))
      refine .here ⟨rfl,rfl,fun w hw=>?_⟩
      have hc:w.cell? ⟨Wg,0,none⟩=some (.int .u64 1):=by simp [World.cell?,hw,wgBlock]
      have hz:w.frozen? ⟨Wg,0,none⟩=false:=by simp [World.frozen?,hw,wgBlock]
      refine ⟨_,stepG_store_atomic rfl rfl (by k_ne) rfl H.f_storeU64 (x_storeU64_n L) (x_storeU64_b L) (x_storeU64_x L) (x_storeU64_f L) rfl rfl hc hz,?_⟩
      clear hc hw hz
      walk_nrm
      (repeat (first | (first | with_reducible refine Dl.seq ?_ | ((with_reducible refine Dl.region ?_); simp only [List.size_toArray,List.length_cons,List.length_nil,Nat.reduceAdd,Nat.zero_add,List.range,List.range.loop]) | with_reducible refine Dl.regionEnd ?_ | with_reducible refine Dl.skip ?_ | with_reducible refine Dl.ret ?_ | with_reducible refine Dl.block ?_ | with_reducible refine Dl.inBlock ?_ | with_reducible refine Dl.loop ?_ | with_reducible refine Dl.inLoop ?_ | with_reducible (refine Dl.exit (by with_unfolding_all rfl) ?_) | ((with_reducible (refine Dl.cond true (by with_unfolding_all rfl) ?_)); simp only [if_true,if_false,Bool.false_eq_true,↓reduceIte]) | ((with_reducible (refine Dl.cond false (by with_unfolding_all rfl) ?_)); simp only [if_true,if_false,Bool.false_eq_true,↓reduceIte])) | (refine Dl.unwanted rfl rfl ?_; walk_nrm) | (refine Dl.value _ rfl rfl (by k_ne) (fun _ _=>by (go_simp; try (first | rfl | w_num | decide))) (fun _ _=>by simp [go_sem, *]) ?_; walk_nrm)))
      refine Dl.done ?_
      (refine Dl.leave0 rfl rfl H.f_uStore rfl ?_; walk_nrm)
      (repeat (first | (first | with_reducible refine Dl.seq ?_ | ((with_reducible refine Dl.region ?_); simp only [List.size_toArray,List.length_cons,List.length_nil,Nat.reduceAdd,Nat.zero_add,List.range,List.range.loop]) | with_reducible refine Dl.regionEnd ?_ | with_reducible refine Dl.skip ?_ | with_reducible refine Dl.ret ?_ | with_reducible refine Dl.block ?_ | with_reducible refine Dl.inBlock ?_ | with_reducible refine Dl.loop ?_ | with_reducible refine Dl.inLoop ?_ | with_reducible (refine Dl.exit (by with_unfolding_all rfl) ?_) | ((with_reducible (refine Dl.cond true (by with_unfolding_all rfl) ?_)); simp only [if_true,if_false,Bool.false_eq_true,↓reduceIte]) | ((with_reducible (refine Dl.cond false (by with_unfolding_all rfl) ?_)); simp only [if_true,if_false,Bool.false_eq_true,↓reduceIte])) | (refine Dl.unwanted rfl rfl ?_; walk_nrm) | (refine Dl.value _ rfl rfl (by k_ne) (fun _ _=>by (go_simp; try (first | rfl | w_num | decide))) (fun _ _=>by simp [go_sem, *]) ?_; walk_nrm)))
      refine .here ⟨rfl,rfl,mayWake_entry rfl rfl H.f_semrelease (x_semrelease_b L),fun w hw=>?_⟩
      have hc:w.cell? ⟨Wg,1,none⟩=some (.int .u32 0):=by simp [World.cell?,hw,wgBlock]
      have hz:w.frozen? ⟨Wg,1,none⟩=false:=by simp [World.frozen?,hw,wgBlock]
      refine ⟨_,(stepG_semrelease rfl rfl (by k_ne) rfl H.f_semrelease (x_semrelease_n L) (x_semrelease_b L) (x_semrelease_x L) (x_semrelease_f L) (by simp [Act.eval,smA]) hc hz).trans (by rfl),Dl.quits ?_⟩
      clear hc hw hz
      walk_nrm
      (repeat (first | (first | with_reducible refine Dl.seq ?_ | ((with_reducible refine Dl.region ?_); simp only [List.size_toArray,List.length_cons,List.length_nil,Nat.reduceAdd,Nat.zero_add,List.range,List.range.loop]) | with_reducible refine Dl.regionEnd ?_ | with_reducible refine Dl.skip ?_ | with_reducible refine Dl.ret ?_ | with_reducible refine Dl.block ?_ | with_reducible refine Dl.inBlock ?_ | with_reducible refine Dl.loop ?_ | with_reducible refine Dl.inLoop ?_ | with_reducible (refine Dl.exit (by with_unfolding_all rfl) ?_) | ((with_reducible (refine Dl.cond true (by with_unfolding_all rfl) ?_)); simp only [if_true,if_false,Bool.false_eq_true,↓reduceIte]) | ((with_reducible (refine Dl.cond false (by with_unfolding_all rfl) ?_)); simp only [if_true,if_false,Bool.false_eq_true,↓reduceIte])) | (refine Dl.unwanted rfl rfl ?_; walk_nrm) | (refine Dl.value _ rfl rfl (by k_ne) (fun _ _=>by (go_simp; try (first | rfl | w_num | decide))) (fun _ _=>by simp [go_sem, *]) ?_; walk_nrm)))
      refine Dl.done ?_
      (refine Dl.unwind_mark .enable rfl (by simp) rfl H.f_enable (x_enable_n L) (x_enable_b L) (x_enable_x L) (x_enable_f L) ?_)
      exact Dl.leave0 rfl rfl H.f_add rfl hT'
  · refine ⟨fun h=>absurd h.1 h0,fun _=>Dl.quits ?_⟩
    obtain ⟨V,hV⟩:∃ V:Int,V=(v:Int):=⟨_,rfl⟩
    obtain ⟨S,hS⟩:∃ S:Int,S=(v:Int) * KK+wt:=⟨_,rfl⟩
    have a1:S / 4294967296=V:=by rw [hS,hV]; simp only [KK]; omega
    have b1:bits .and .u64 S 2147483648=0:=by rw [hS]; have:=st_flag v wt (by omega) hwt; simpa [KK] using this
    have b2:bits .and .u64 S 2147483647=wt:=by rw [hS]; have:=st_waiters v wt (by omega) hwt; simpa [KK] using this
    have c1:IntKind.i32.wrap V=V:=by rw [IntKind.wrap_i32]; omega
    have hV1:0<V:=by omega
    have hV2:V<2147483648:=by omega
    have q3:decide (V<0)=false:=decide_eq_false (by omega)
    have q4:decide (0<V)=true:=decide_eq_true (by omega)
    have q5:(V == 0)=false:=by simp; omega
    have q6:decide (V=0)=false:=decide_eq_false (by omega)
    rw [← hS]
    obtain rfl | rfl:wt=0∨wt=1:=by omega
    · have d1:IntKind.u32.wrap 0=0:=by decide
      replace b2:bits .and .u64 S 2147483647=0:=by simpa using b2
      clear hS hV
      (repeat (first | (first | with_reducible refine Dl.seq ?_ | ((with_reducible refine Dl.region ?_); simp only [List.size_toArray,List.length_cons,List.length_nil,Nat.reduceAdd,Nat.zero_add,List.range,List.range.loop]) | with_reducible refine Dl.regionEnd ?_ | with_reducible refine Dl.skip ?_ | with_reducible refine Dl.ret ?_ | with_reducible refine Dl.block ?_ | with_reducible refine Dl.inBlock ?_ | with_reducible refine Dl.loop ?_ | with_reducible refine Dl.inLoop ?_ | with_reducible (refine Dl.exit (by with_unfolding_all rfl) ?_) | ((with_reducible (refine Dl.cond true (by with_unfolding_all rfl) ?_)); simp only [if_true,if_false,Bool.false_eq_true,↓reduceIte]) | ((with_reducible (refine Dl.cond false (by with_unfolding_all rfl) ?_)); simp only [if_true,if_false,Bool.false_eq_true,↓reduceIte])) | (refine Dl.unwanted rfl rfl ?_; walk_nrm) | (refine Dl.value _ rfl rfl (by k_ne) (fun _ _=>by (go_simp; try (first | rfl | w_num | decide))) (fun _ _=>by simp [go_sem, *]) ?_; walk_nrm)))
      (refine Dl.leave1 rfl rfl H.f_uAdd rfl ?_; walk_nrm)
      (repeat (first | (first | with_reducible refine Dl.seq ?_ | ((with_reducible refine Dl.region ?_); simp only [List.size_toArray,List.length_cons,List.length_nil,Nat.reduceAdd,Nat.zero_add,List.range,List.range.loop]) | with_reducible refine Dl.regionEnd ?_ | with_reducible refine Dl.skip ?_ | with_reducible refine Dl.ret ?_ | with_reducible refine Dl.block ?_ | with_reducible refine Dl.inBlock ?_ | with_reducible refine Dl.loop ?_ | with_reducible refine Dl.inLoop ?_ | with_reducible (refine Dl.exit (by with_unfolding_all rfl) ?_) | ((with_reducible (refine Dl.cond true (by with_unfolding_all rfl) ?_)); simp only [if_true,if_false,Bool.false_eq_true,↓reduceIte]) | ((with_reducible (refine Dl.cond false (by with_unfolding_all rfl) ?_)); simp only [if_true,if_false,Bool.false_eq_true,↓reduceIte])) | (refine Dl.unwanted rfl rfl ?_; walk_nrm) | (refine Dl.value _ rfl rfl (by k_ne) (fun _ _=>by (go_simp; try (first | rfl | w_num | decide))) (fun _ _=>by simp [go_sem, *]) ?_; walk_nrm)))
      (refine Dl.unwind_mark .enable rfl (by simp) rfl H.f_enable (x_enable_n L) (x_enable_b L) (x_enable_x L) (x_enable_f L) ?_)
      exact Dl.leave0 rfl rfl H.f_add rfl hT'
    · have d1:IntKind.u32.wrap 1=1:=by decide
      replace b2:bits .and .u64 S 2147483647=1:=by simpa using b2
      clear hS hV
      (repeat (first | (first | with_reducible refine Dl.seq ?_ | ((with_reducible refine Dl.region ?_); simp only [List.size_toArray,List.length_cons,List.length_nil,Nat.reduceAdd,Nat.zero_add,List.range,List.range.loop]) | with_reducible refine Dl.regionEnd ?_ | with_reducible refine Dl.skip ?_ | with_reducible refine Dl.ret ?_ | with_reducible refine Dl.block ?_ | with_reducible refine Dl.inBlock ?_ | with_reducible refine Dl.loop ?_ | with_reducible refine Dl.inLoop ?_ | with_reducible (refine Dl.exit (by with_unfolding_all rfl) ?_) | ((with_reducible (refine Dl.cond true (by with_unfolding_all rfl) ?_)); simp only [if_true,if_false,Bool.false_eq_true,↓reduceIte]) | ((with_reducible (refine Dl.cond false (by with_unfolding_all rfl) ?_)); simp only [if_true,if_false,Bool.false_eq_true,↓reduceIte])) | (refine Dl.unwanted rfl rfl ?_; walk_nrm) | (refine Dl.value _ rfl rfl (by k_ne) (fun _ _=>by (go_simp; try (first | rfl | w_num | decide))) (fun _ _=>by simp [go_sem, *]) ?_; walk_nrm)))
      (refine Dl.leave1 rfl rfl H.f_uAdd rfl ?_; walk_nrm)
      (repeat (first | (first | with_reducible refine Dl.seq ?_ | ((with_reducible refine Dl.region ?_); simp only [List.size_toArray,List.length_cons,List.length_nil,Nat.reduceAdd,Nat.zero_add,List.range,List.range.loop]) | with_reducible refine Dl.regionEnd ?_ | with_reducible refine Dl.skip ?_ | with_reducible refine Dl.ret ?_ | with_reducible refine Dl.block ?_ | with_reducible refine Dl.inBlock ?_ | with_reducible refine Dl.loop ?_ | with_reducible refine Dl.inLoop ?_ | with_reducible (refine Dl.exit (by with_unfolding_all rfl) ?_) | ((with_reducible (refine Dl.cond true (by with_unfolding_all rfl) ?_)); simp only [if_true,if_false,Bool.false_eq_true,↓reduceIte]) | ((with_reducible (refine Dl.cond false (by with_unfolding_all rfl) ?_)); simp only [if_true,if_false,Bool.false_eq_true,↓reduceIte])) | (refine Dl.unwanted rfl rfl ?_; walk_nrm) | (refine Dl.value _ rfl rfl (by k_ne) (fun _ _=>by (go_simp; try (first | rfl | w_num | decide))) (fun _ _=>by simp [go_sem, *]) ?_; walk_nrm)))
      (refine Dl.unwind_mark .enable rfl (by simp) rfl H.f_enable (x_enable_n L) (x_enable_b L) (x_enable_x L) (x_enable_f L) ?_)
      exact Dl.leave0 rfl rfl H.f_add rfl hT'
end Go.Am
end
section
open List renaming map_map→ζ,mapM_map→ξ
namespace Go.Am
open Go.Conc Go.ConcR.Gen Go.Conc.Lib Go.RowKit Go.ConcR
open Go
theorem subWalkT {L:WgLink} {P:Program} (H:WgLib P L) {Wg:Nat} {cs:List Frame} {b0:Frame} {a0:Act} {ops0:Array Oper} {i0:Nat} {rest0:List Nat} {k0:List Item} {T:Array Value} (hT:T=#[.pointer (some ⟨Wg,0,none⟩),.int .i64 (-1)]++Array.replicate 115 undef)
    (hq:∃ q,QuitsD P q 0 (G (b0.at (a0.put ((ops0[i0]?).bind (·.dst)) (.tuple #[])) (.inRegion ops0 rest0::k0)) cs)) :
    Dl P false (WgLv L.tWg Wg) noE (AtRelM P L Wg) 0 (G ((base L.add).at ⟨T,[]⟩ [.code (body_add L)]) (b0.at a0 (.inRegion ops0 (i0::rest0)::k0)::cs)):=by
  subst hT; exact subWalk H hq
set_option maxRecDepth 100000 in
set_option maxHeartbeats 400000 in
theorem doneWalk {L:WgLink} {P:Program} (H:WgLib P L) {Wg:Nat} {c:Frame} {cs:List Frame} (hcm:c.mode=.returning) {q:Nat} (hT:QuitsD P q 0 (G c cs)) :
    Dl P false (WgLv L.tWg Wg) noE (AtRelM P L Wg) 0 (G ((baseD L.done).at ⟨#[.pointer (some ⟨Wg,0,none⟩),undef,undef,undef],[]⟩ [.code (body_done L)]) (c::cs)):=by
  lib_facts
  simp only [body_done,doneFn,Option.getD_some]
  (repeat (first | (first | with_reducible refine Dl.seq ?_ | ((with_reducible refine Dl.region ?_); simp only [List.size_toArray,List.length_cons,List.length_nil,Nat.reduceAdd,Nat.zero_add,List.range,List.range.loop]) | with_reducible refine Dl.regionEnd ?_ | with_reducible refine Dl.skip ?_ | with_reducible refine Dl.ret ?_ | with_reducible refine Dl.block ?_ | with_reducible refine Dl.inBlock ?_ | with_reducible refine Dl.loop ?_ | with_reducible refine Dl.inLoop ?_ | with_reducible (refine Dl.exit (by with_unfolding_all rfl) ?_) | ((with_reducible (refine Dl.cond true (by with_unfolding_all rfl) ?_)); simp only [if_true,if_false,Bool.false_eq_true,↓reduceIte]) | ((with_reducible (refine Dl.cond false (by with_unfolding_all rfl) ?_)); simp only [if_true,if_false,Bool.false_eq_true,↓reduceIte])) | (refine Dl.unwanted rfl rfl ?_; walk_nrm) | (refine Dl.value _ rfl rfl (by k_ne) (fun _ _=>by (go_simp; try (first | rfl | w_num | decide))) (fun _ _=>by simp [go_sem, *]) ?_; walk_nrm)))
  have hS:=fun {cs b0 a0 ops0 i0 rest0 k0 T}=>@subWalkT L P H Wg cs b0 a0 ops0 i0 rest0 k0 T
  simp only [body_add,addFn,Option.getD_some] at hS
  refine Dl.call rfl rfl (by k_ne) rfl H.f_add (nm_add L) rfl ?_
  walk_nrmf addFn
  refine hS ?_ ⟨q+3,?_⟩
  · apply Array.ext'
    rw [Array.toList_append,Array.toList_replicate]
    simp only [List.replicate]
    rfl
  q_c stepG_region_end
  q_c stepG_end
  exact QuitsD.leaveD rfl rfl H.f_done rfl hcm hT
end Go.Am
end
section
open List renaming map_map→ζ,mapM_map→ξ
open Go Go.Am Go.Proofs
namespace Go.Am
open Go.Conc Go.Conc.Lib Go.RowKit Go.ConcR.Gen
open Go.ConcR (KK wgBlock stA smA rd wr mk)
def SameC (F:Nat→Prop) (v v':World):Prop:=∀ b,F b→∀ c e f,v.heap[b]? = some (.cells c e f)→∃ f',v'.heap[b]? = some (.cells c e f')
theorem SameC.cell {F:Nat→Prop} {v v':World} (h:SameC F v v') {a:Addr} (ha:F a.block) {x:Value} (hx:v.cell? a=some x):v'.cell? a=some x:=by
  obtain ⟨c,t,f,hb,hlt,hs⟩:=cell_shape hx
  obtain ⟨f',hb'⟩:=h _ ha _ _ _ hb
  simp only [World.cell?,hb,hb'] at hx ⊢
  exact hx
def FrzD (d:D):Prop:=∀ (F:Nat→Prop) (v v':World) (x:Value),SameC F v v'→VD F v d x→VD F v' d x
theorem frzD_i (k:IntKind) (n:Int):FrzD (.i k n):=fun F v v' x _ hx=>by cases hx; exact .i k n
theorem frzD_b (b:Bool):FrzD (.b b):=fun F v v' x _ hx=>by cases hx; exact .b b
theorem frzD_lit (y:Value):FrzD (.lit y):=fun F v v' x _ hx=>by cases hx; exact .lit y
theorem frzD_sl {els:List (List D)} (h:∀ cs∈els,∀ c∈cs,FrzD c):FrzD (.sl els):=fun F v v' x hs hx=>by
  cases hx with
  | sl0 ad c=>exact .sl0 ad c
  | sl els ad n c sz f hn hc hsz hF hcell hel =>
    exact .sl els ad n c sz f hn hc hsz hF (fun j hj=>hs.cell (by rw [block_add]; exact hF) (hcell j hj)) fun j k cs c h1 h2=>h cs (List.mem_of_getElem? h1) c (List.mem_of_getElem? h2) F v v' _ hs (hel j k cs c h1 h2)
theorem frzD_pt {cs:List D} (h:∀ c∈cs,FrzD c):FrzD (.pt cs):=fun F v v' x hs hx=>by
  cases hx with
  | pt cs ad f hF hcell hel=>exact .pt cs ad f hF (fun j hj=>hs.cell (by rw [block_add]; exact hF) (hcell j hj)) fun k c h1=>h c (List.mem_of_getElem? h1) F v v' _ hs (hel k c h1)
theorem sameC_frzV (F:Nat→Prop) (v:World):SameC F v (frzV v):=fun b _ c e f hb=>⟨_,by rw [frzV_get,hb]; rfl⟩
theorem sameC_env {F:Nat→Prop} {v v':World} (h:Env v v'):SameC F v v':=fun b _ c e f hb=>⟨f,by rw [h.get (lt_of_get hb)]; exact hb⟩
theorem sameC_inV {F:Nat→Prop} {v:World} {C:Nat} (hC:∀ b,F b→b≠C):SameC F v (inV v C):=fun b hF c e f hb=>⟨_,by rw [inV_old (lt_of_get hb) (hC b hF),hb]; rfl⟩
theorem SameC.trans {F:Nat→Prop} {v v1 v2:World} (h:SameC F v v1) (k:SameC F v1 v2):SameC F v v2:=fun b hF c e f hb=>by
  obtain ⟨f1,h1⟩:=h b hF c e f hb
  exact k b hF c e f1 h1
theorem work_gt {Wg Ba Bp Bi Br:Nat} {p:Pl} {i n cap:Nat} {v:World} {c0 c1 c2:D} {pr rp rv er:Int} (hwd:p.wd=3) (hi:i<p.n) (hn:p.n=n) (h0:p.val i 0=.int .i64 i) (h1:p.val i 1=.int .u64 rp) (h2:p.val i 2=.int .u64 rv) (hok:OkV v)
    (hBa:VD (fun b=>b<v.heap.size) v (.pt [c0,c1,c2]) (ptr0 Ba)) (hBp:VD (fun b=>b<v.heap.size) v (.pt [.i .u64 pr]) (ptr0 Bp)) (hBi:VD (fun b=>b<v.heap.size) v (.pt [.i .i64 i]) (ptr0 Bi)) (hBr:VD (fun b=>b<v.heap.size) v (.pt [.lit (.slice (some ⟨p.C,0,none⟩) n cap)]) (ptr0 Br))
    (hsp:letI:=goMch Tryz.prog false; Spec Tryz.prog 74 [.ag [c0,c1,c2],.i .u64 pr] (.tp [.ag [.i .u64 rp,.i .u64 rv],.i .i64 er])) :
    ∃ tr,GTw Tryz.prog wgLink Wg p i tr 0 (born Tryz.prog (wcall Wg Ba Bp Bi Br)) v :=
  work_run (p:=p) (Wg:=Wg) hok hBa hBp hBi hBr hsp fun a v' ops o6 o7 hv ho6 ho7 p6 d6 g6 p7 d7 g7 hN hds e13 e14 e17 =>
    work_last (fun hcm hq=>doneWalk wgLib hcm hq) hwd hi hn h0 h1 h2 hv ho6 ho7 p6 d6 g6 p7 d7 g7 hN hds e13 e14 e17
end Go.Am
end
section
open List renaming map_map→ζ,mapM_map→ξ
namespace Go.Am
open Go.Conc Go.ConcR.Gen Go.Conc.Lib Go.RowKit Go.ConcR
open Go.ConcN (st_flag st_waiters)
open Go
set_option maxRecDepth 100000 in
set_option maxHeartbeats 8000000 in
theorem addWalk {L:WgLink} {P:Program} (H:WgLib P L) {Wg:Nat} {cs:List Frame} {b0:Frame} {a0:Act} {ops0:Array Oper} {i0:Nat} {rest0:List Nat} {k0:List Item} {K:Nat→Goroutine→Prop}
    (hK:K 0 (G (b0.at (a0.put ((ops0[i0]?).bind (·.dst)) (.tuple #[])) (.inRegion ops0 rest0::k0)) cs)) :
    Dl P true (WgLv L.tWg Wg) (saidE Wg) (fun d g=>d=1∧AtAdd P L Wg K d g) 0 (G ((base L.add).at ⟨#[.pointer (some ⟨Wg,0,none⟩),.int .i64 1]++Array.replicate 115 undef,[]⟩ [.code (body_add L)]) (b0.at a0 (.inRegion ops0 (i0::rest0)::k0)::cs)):=by
  have hT':Dl P true (WgLv L.tWg Wg) (saidE Wg) K 0 (G (b0.at (a0.put ((ops0[i0]?).bind (·.dst)) (.tuple #[])) (.inRegion ops0 rest0::k0)) cs):=.here hK
  lib_facts
  simp only [body_add,addFn,Option.getD_some]
  (repeat (first | (first | with_reducible refine Dl.seq ?_ | ((with_reducible refine Dl.region ?_); simp only [List.size_toArray,List.length_cons,List.length_nil,Nat.reduceAdd,Nat.zero_add,List.range,List.range.loop]) | with_reducible refine Dl.regionEnd ?_ | with_reducible refine Dl.skip ?_ | with_reducible refine Dl.ret ?_ | with_reducible refine Dl.block ?_ | with_reducible refine Dl.inBlock ?_ | with_reducible refine Dl.loop ?_ | with_reducible refine Dl.inLoop ?_ | with_reducible (refine Dl.exit (by with_unfolding_all rfl) ?_) | ((with_reducible (refine Dl.cond true (by with_unfolding_all rfl) ?_)); simp only [if_true,if_false,Bool.false_eq_true,↓reduceIte]) | ((with_reducible (refine Dl.cond false (by with_unfolding_all rfl) ?_)); simp only [if_true,if_false,Bool.false_eq_true,↓reduceIte])) | (refine Dl.unwanted rfl rfl ?_; walk_nrm) | (refine Dl.value _ rfl rfl (by k_ne) (fun _ _=>by (go_simp; try (first | rfl | w_num | decide))) (fun _ _=>by simp [go_sem, *]) ?_; walk_nrm)))
  (refine Dl.step rfl (by (intro e he; simp at he; subst he; exact .inl rfl)) (fun w hI=>stepG_mark0 .disable (by simp) rfl rfl (by k_ne) rfl H.f_disable (x_disable_n L) (x_disable_b L) (x_disable_x L) (x_disable_f L)) ?_; walk_nrm)
  repeat (first | with_reducible refine Dl.seq ?_ | ((with_reducible refine Dl.region ?_); simp only [List.size_toArray,List.length_cons,List.length_nil,Nat.reduceAdd,Nat.zero_add,List.range,List.range.loop]) | with_reducible refine Dl.regionEnd ?_ | with_reducible refine Dl.skip ?_ | with_reducible refine Dl.ret ?_ | with_reducible refine Dl.block ?_ | with_reducible refine Dl.inBlock ?_ | with_reducible refine Dl.loop ?_ | with_reducible refine Dl.inLoop ?_ | with_reducible (refine Dl.exit (by with_unfolding_all rfl) ?_) | ((with_reducible (refine Dl.cond true (by with_unfolding_all rfl) ?_)); simp only [if_true,if_false,Bool.false_eq_true,↓reduceIte]) | ((with_reducible (refine Dl.cond false (by with_unfolding_all rfl) ?_)); simp only [if_true,if_false,Bool.false_eq_true,↓reduceIte]))
  (refine Dl.ctl rfl (fun w hI=>stepG_defer rfl rfl (by k_ne) rfl) ?_; walk_nrm)
  repeat (first | with_reducible refine Dl.seq ?_ | ((with_reducible refine Dl.region ?_); simp only [List.size_toArray,List.length_cons,List.length_nil,Nat.reduceAdd,Nat.zero_add,List.range,List.range.loop]) | with_reducible refine Dl.regionEnd ?_ | with_reducible refine Dl.skip ?_ | with_reducible refine Dl.ret ?_ | with_reducible refine Dl.block ?_ | with_reducible refine Dl.inBlock ?_ | with_reducible refine Dl.loop ?_ | with_reducible refine Dl.inLoop ?_ | with_reducible (refine Dl.exit (by with_unfolding_all rfl) ?_) | ((with_reducible (refine Dl.cond true (by with_unfolding_all rfl) ?_)); simp only [if_true,if_false,Bool.false_eq_true,↓reduceIte]) | ((with_reducible (refine Dl.cond false (by with_unfolding_all rfl) ?_)); simp only [if_true,if_false,Bool.false_eq_true,↓reduceIte]))
  (refine Dl.value _ rfl rfl (by k_ne) (fun _ _=>by (go_simp; try (first | rfl | w_num | decide))) (fun _ _=>by simp [go_sem, *]) ?_; walk_nrm)
  repeat (first | with_reducible refine Dl.seq ?_ | ((with_reducible refine Dl.region ?_); simp only [List.size_toArray,List.length_cons,List.length_nil,Nat.reduceAdd,Nat.zero_add,List.range,List.range.loop]) | with_reducible refine Dl.regionEnd ?_ | with_reducible refine Dl.skip ?_ | with_reducible refine Dl.ret ?_ | with_reducible refine Dl.block ?_ | with_reducible refine Dl.inBlock ?_ | with_reducible refine Dl.loop ?_ | with_reducible refine Dl.inLoop ?_ | with_reducible (refine Dl.exit (by with_unfolding_all rfl) ?_) | ((with_reducible (refine Dl.cond true (by with_unfolding_all rfl) ?_)); simp only [if_true,if_false,Bool.false_eq_true,↓reduceIte]) | ((with_reducible (refine Dl.cond false (by with_unfolding_all rfl) ?_)); simp only [if_true,if_false,Bool.false_eq_true,↓reduceIte]))
  (refine Dl.ctl rfl (fun w hI=>stepG_entry_pure (.bool false) rfl rfl (by k_ne) rfl H.f_inBubble (x_inBubble_n L) (x_inBubble_b L) (x_inBubble_x L) (x_inBubble_f L)) ?_; walk_nrm)
  (repeat (first | (first | with_reducible refine Dl.seq ?_ | ((with_reducible refine Dl.region ?_); simp only [List.size_toArray,List.length_cons,List.length_nil,Nat.reduceAdd,Nat.zero_add,List.range,List.range.loop]) | with_reducible refine Dl.regionEnd ?_ | with_reducible refine Dl.skip ?_ | with_reducible refine Dl.ret ?_ | with_reducible refine Dl.block ?_ | with_reducible refine Dl.inBlock ?_ | with_reducible refine Dl.loop ?_ | with_reducible refine Dl.inLoop ?_ | with_reducible (refine Dl.exit (by with_unfolding_all rfl) ?_) | ((with_reducible (refine Dl.cond true (by with_unfolding_all rfl) ?_)); simp only [if_true,if_false,Bool.false_eq_true,↓reduceIte]) | ((with_reducible (refine Dl.cond false (by with_unfolding_all rfl) ?_)); simp only [if_true,if_false,Bool.false_eq_true,↓reduceIte])) | (refine Dl.unwanted rfl rfl ?_; walk_nrm) | (refine Dl.value _ rfl rfl (by k_ne) (fun _ _=>by (go_simp; try (first | rfl | w_num | decide))) (fun _ _=>by simp [go_sem, *]) ?_; walk_nrm)))
  (refine Dl.call rfl rfl (by k_ne) rfl H.f_uAdd (nm_uAdd L) rfl ?_; walk_nrmf uAddFn)
  (repeat (first | (first | with_reducible refine Dl.seq ?_ | ((with_reducible refine Dl.region ?_); simp only [List.size_toArray,List.length_cons,List.length_nil,Nat.reduceAdd,Nat.zero_add,List.range,List.range.loop]) | with_reducible refine Dl.regionEnd ?_ | with_reducible refine Dl.skip ?_ | with_reducible refine Dl.ret ?_ | with_reducible refine Dl.block ?_ | with_reducible refine Dl.inBlock ?_ | with_reducible refine Dl.loop ?_ | with_reducible refine Dl.inLoop ?_ | with_reducible (refine Dl.exit (by with_unfolding_all rfl) ?_) | ((with_reducible (refine Dl.cond true (by with_unfolding_all rfl) ?_)); simp only [if_true,if_false,Bool.false_eq_true,↓reduceIte]) | ((with_reducible (refine Dl.cond false (by with_unfolding_all rfl) ?_)); simp only [if_true,if_false,Bool.false_eq_true,↓reduceIte])) | (refine Dl.unwanted rfl rfl ?_; walk_nrm) | (refine Dl.value _ rfl rfl (by k_ne) (fun _ _=>by (go_simp; try (first | rfl | w_num | decide))) (fun _ _=>by simp [go_sem, *]) ?_; walk_nrm)))
  refine .here ⟨rfl,rfl,fun w v hv hw=>?_⟩
  have hc:w.cell? ⟨Wg,0,none⟩=some (.int .u64 ((v:Int) * KK)):=by simp [World.cell?,hw,wgBlock]
  have hz:w.frozen? ⟨Wg,0,none⟩=false:=by simp [World.frozen?,hw,wgBlock]
  have eS:IntKind.u64.wrap ((v:Int) * KK+IntKind.u64.wrap (IntKind.u64.wrap 1 * 4294967296))=((v:Int)+1) * KK:=by
    have:IntKind.u64.wrap (IntKind.u64.wrap 1 * 4294967296)=4294967296:=by decide
    rw [this,IntKind.wrap_u64]; simp only [KK]; omega
  refine ⟨_,(stepG_add_atomic rfl rfl (by k_ne) rfl H.f_addU64 (x_addU64_n L) (x_addU64_b L) (x_addU64_x L) .u64 (x_addU64_f L) rfl rfl hc hz).trans (by rw [eS]; rfl),?_⟩
  clear hw hc hz eS
  walk_nrm
  by_cases h0:v=0
  · subst h0
    have e0:(((0:Nat):Int)+1) * KK=4294967296:=by simp [KK]
    rw [e0]
    have e2:IntKind.u32.wrap (bits BinOp.and IntKind.u64 4294967296 2147483647)=0:=by decide
    (repeat (first | (first | with_reducible refine Dl.seq ?_ | ((with_reducible refine Dl.region ?_); simp only [List.size_toArray,List.length_cons,List.length_nil,Nat.reduceAdd,Nat.zero_add,List.range,List.range.loop]) | with_reducible refine Dl.regionEnd ?_ | with_reducible refine Dl.skip ?_ | with_reducible refine Dl.ret ?_ | with_reducible refine Dl.block ?_ | with_reducible refine Dl.inBlock ?_ | with_reducible refine Dl.loop ?_ | with_reducible refine Dl.inLoop ?_ | with_reducible (refine Dl.exit (by with_unfolding_all rfl) ?_) | ((with_reducible (refine Dl.cond true (by with_unfolding_all rfl) ?_)); simp only [if_true,if_false,Bool.false_eq_true,↓reduceIte]) | ((with_reducible (refine Dl.cond false (by with_unfolding_all rfl) ?_)); simp only [if_true,if_false,Bool.false_eq_true,↓reduceIte])) | (refine Dl.unwanted rfl rfl ?_; walk_nrm) | (refine Dl.value _ rfl rfl (by k_ne) (fun _ _=>by (go_simp; try (first | rfl | w_num | decide))) (fun _ _=>by simp [go_sem, *]) ?_; walk_nrm)))
    (refine Dl.leave1 rfl rfl H.f_uAdd rfl ?_; walk_nrm)
    (repeat (first | (first | with_reducible refine Dl.seq ?_ | ((with_reducible refine Dl.region ?_); simp only [List.size_toArray,List.length_cons,List.length_nil,Nat.reduceAdd,Nat.zero_add,List.range,List.range.loop]) | with_reducible refine Dl.regionEnd ?_ | with_reducible refine Dl.skip ?_ | with_reducible refine Dl.ret ?_ | with_reducible refine Dl.block ?_ | with_reducible refine Dl.inBlock ?_ | with_reducible refine Dl.loop ?_ | with_reducible refine Dl.inLoop ?_ | with_reducible (refine Dl.exit (by with_unfolding_all rfl) ?_) | ((with_reducible (refine Dl.cond true (by with_unfolding_all rfl) ?_)); simp only [if_true,if_false,Bool.false_eq_true,↓reduceIte]) | ((with_reducible (refine Dl.cond false (by with_unfolding_all rfl) ?_)); simp only [if_true,if_false,Bool.false_eq_true,↓reduceIte])) | (refine Dl.unwanted rfl rfl ?_; walk_nrm) | (refine Dl.value _ rfl rfl (by k_ne) (fun _ _=>by (go_simp; try (first | rfl | w_num | decide))) (fun _ _=>by simp [go_sem, *]) ?_; walk_nrm)))
    (refine Dl.value _ rfl rfl (by k_ne) (fun w hI=>by (have hcv:=run_convert_to_unsafe (P:=P) H.underlying_tPU32 H.underlying_tUP H.room_tU32 (WgLv.cell1 hI).choose_spec); go_simp; rfl) (fun w hI=>by (have hce:=fun es=>events_convert_to_unsafe (P:=P) H.underlying_tPU32 H.underlying_tUP H.room_tU32 (WgLv.cell1 hI).choose_spec es); simp [go_sem,hce]) ?_; walk_nrm)
    (refine Dl.step rfl (by (intro e he; simp at he; subst he; first | exact .inr (.inl rfl) | exact .inr (.inr rfl))) (fun w hI=>stepG_markAt .read (by simp) rfl rfl (by k_ne) rfl H.f_raceRead (x_raceRead_n L) (x_raceRead_b L) (x_raceRead_x L) (x_raceRead_f L) (ad:=smA Wg) (by simp [Act.eval,smA])) ?_; walk_nrm)
    (repeat (first | (first | with_reducible refine Dl.seq ?_ | ((with_reducible refine Dl.region ?_); simp only [List.size_toArray,List.length_cons,List.length_nil,Nat.reduceAdd,Nat.zero_add,List.range,List.range.loop]) | with_reducible refine Dl.regionEnd ?_ | with_reducible refine Dl.skip ?_ | with_reducible refine Dl.ret ?_ | with_reducible refine Dl.block ?_ | with_reducible refine Dl.inBlock ?_ | with_reducible refine Dl.loop ?_ | with_reducible refine Dl.inLoop ?_ | with_reducible (refine Dl.exit (by with_unfolding_all rfl) ?_) | ((with_reducible (refine Dl.cond true (by with_unfolding_all rfl) ?_)); simp only [if_true,if_false,Bool.false_eq_true,↓reduceIte]) | ((with_reducible (refine Dl.cond false (by with_unfolding_all rfl) ?_)); simp only [if_true,if_false,Bool.false_eq_true,↓reduceIte])) | (refine Dl.unwanted rfl rfl ?_; walk_nrm) | (refine Dl.value _ rfl rfl (by k_ne) (fun _ _=>by (go_simp; try (first | rfl | w_num | decide))) (fun _ _=>by simp [go_sem, *]) ?_; walk_nrm)))
    (refine Dl.unwind_mark .enable rfl (by simp) rfl H.f_enable (x_enable_n L) (x_enable_b L) (x_enable_x L) (x_enable_f L) ?_)
    exact Dl.leave0 rfl rfl H.f_add rfl hT'
  · obtain ⟨V,hV⟩:∃ V:Int,V=(v:Int)+1:=⟨_,rfl⟩
    obtain ⟨S,hS⟩:∃ S:Int,S=V * KK:=⟨_,rfl⟩
    have a1:S / 4294967296=V:=by rw [hS]; simp only [KK]; omega
    have b1:bits .and .u64 S 2147483648=0:=by rw [hS,hV]; have:=st_flag (v+1) 0 (by omega) (by omega); simpa [KK] using this
    have b2:bits .and .u64 S 2147483647=0:=by rw [hS,hV]; have:=st_waiters (v+1) 0 (by omega) (by omega); simpa [KK] using this
    have c1:IntKind.i32.wrap V=V:=by rw [IntKind.wrap_i32]; omega
    have d1:IntKind.u32.wrap 0=0:=by decide
    have hV1:1<V:=by omega
    have hV2:V<2147483648:=by omega
    have r1:IntKind.i32.wrap 1=1:=by decide
    have q1:(V == 1)=false:=by simp; omega
    have q2:decide (V=1)=false:=decide_eq_false (by omega)
    have q3:decide (V<0)=false:=decide_eq_false (by omega)
    have q4:decide (0<V)=true:=decide_eq_true (by omega)
    have q5:(V == 0)=false:=by simp; omega
    have q6:decide (V=0)=false:=decide_eq_false (by omega)
    rw [← hV,← hS]
    clear hS hV
    (repeat (first | (first | with_reducible refine Dl.seq ?_ | ((with_reducible refine Dl.region ?_); simp only [List.size_toArray,List.length_cons,List.length_nil,Nat.reduceAdd,Nat.zero_add,List.range,List.range.loop]) | with_reducible refine Dl.regionEnd ?_ | with_reducible refine Dl.skip ?_ | with_reducible refine Dl.ret ?_ | with_reducible refine Dl.block ?_ | with_reducible refine Dl.inBlock ?_ | with_reducible refine Dl.loop ?_ | with_reducible refine Dl.inLoop ?_ | with_reducible (refine Dl.exit (by with_unfolding_all rfl) ?_) | ((with_reducible (refine Dl.cond true (by with_unfolding_all rfl) ?_)); simp only [if_true,if_false,Bool.false_eq_true,↓reduceIte]) | ((with_reducible (refine Dl.cond false (by with_unfolding_all rfl) ?_)); simp only [if_true,if_false,Bool.false_eq_true,↓reduceIte])) | (refine Dl.unwanted rfl rfl ?_; walk_nrm) | (refine Dl.value _ rfl rfl (by k_ne) (fun _ _=>by (go_simp; try (first | rfl | w_num | decide))) (fun _ _=>by simp [go_sem, *]) ?_; walk_nrm)))
    (refine Dl.leave1 rfl rfl H.f_uAdd rfl ?_; walk_nrm)
    (repeat (first | (first | with_reducible refine Dl.seq ?_ | ((with_reducible refine Dl.region ?_); simp only [List.size_toArray,List.length_cons,List.length_nil,Nat.reduceAdd,Nat.zero_add,List.range,List.range.loop]) | with_reducible refine Dl.regionEnd ?_ | with_reducible refine Dl.skip ?_ | with_reducible refine Dl.ret ?_ | with_reducible refine Dl.block ?_ | with_reducible refine Dl.inBlock ?_ | with_reducible refine Dl.loop ?_ | with_reducible refine Dl.inLoop ?_ | with_reducible (refine Dl.exit (by with_unfolding_all rfl) ?_) | ((with_reducible (refine Dl.cond true (by with_unfolding_all rfl) ?_)); simp only [if_true,if_false,Bool.false_eq_true,↓reduceIte]) | ((with_reducible (refine Dl.cond false (by with_unfolding_all rfl) ?_)); simp only [if_true,if_false,Bool.false_eq_true,↓reduceIte])) | (refine Dl.unwanted rfl rfl ?_; walk_nrm) | (refine Dl.value _ rfl rfl (by k_ne) (fun _ _=>by (go_simp; try (first | rfl | w_num | decide))) (fun _ _=>by simp [go_sem, *]) ?_; walk_nrm)))
    (refine Dl.unwind_mark .enable rfl (by simp) rfl H.f_enable (x_enable_n L) (x_enable_b L) (x_enable_x L) (x_enable_f L) ?_)
    exact Dl.leave0 rfl rfl H.f_add rfl hT'
end Go.Am
end
section
open List renaming map_map→ζ,mapM_map→ξ
namespace Go.Am
open Go.Conc Go.ConcR.Gen Go.Conc.Lib Go.RowKit Go.ConcR
open Go.ConcN (st_flag st_waiters)
open Go
section
variable {L:WgLink} {P:Program} {Wg:Nat} {cs:List Frame} {b0:Frame} {a0:Act} {ops0:Array Oper} {i0:Nat} {rest0:List Nat} {k0:List Item} {K:Goroutine→Prop}
set_option maxRecDepth 100000 in
theorem waitStart (H:WgLib P L) {c:Frame} :
    Dl P true (WgLv L.tWg Wg) (saidE Wg) (fun d g=>d=1∧HeadW L Wg c cs g) 0 (G ((base L.wait).at ⟨#[.pointer (some ⟨Wg,0,none⟩)]++Array.replicate 83 undef,[]⟩ [.code (body_wait L)]) (c::cs)):=by
  lib_facts
  simp only [body_wait,waitFn,Option.getD_some]
  (repeat (first | (first | with_reducible refine Dl.seq ?_ | ((with_reducible refine Dl.region ?_); simp only [List.size_toArray,List.length_cons,List.length_nil,Nat.reduceAdd,Nat.zero_add,List.range,List.range.loop]) | with_reducible refine Dl.regionEnd ?_ | with_reducible refine Dl.skip ?_ | with_reducible refine Dl.ret ?_ | with_reducible refine Dl.block ?_ | with_reducible refine Dl.inBlock ?_ | with_reducible refine Dl.loop ?_ | with_reducible refine Dl.inLoop ?_ | with_reducible (refine Dl.exit (by with_unfolding_all rfl) ?_) | ((with_reducible (refine Dl.cond true (by with_unfolding_all rfl) ?_)); simp only [if_true,if_false,Bool.false_eq_true,↓reduceIte]) | ((with_reducible (refine Dl.cond false (by with_unfolding_all rfl) ?_)); simp only [if_true,if_false,Bool.false_eq_true,↓reduceIte])) | (refine Dl.unwanted rfl rfl ?_; walk_nrm) | (refine Dl.value _ rfl rfl (by k_ne) (fun _ _=>by (go_simp; try (first | rfl | w_num | decide))) (fun _ _=>by simp [go_sem, *]) ?_; walk_nrm)))
  (refine Dl.step rfl (by (intro e he; simp at he; subst he; exact .inl rfl)) (fun w hI=>stepG_mark0 .disable (by simp) rfl rfl (by k_ne) rfl H.f_disable (x_disable_n L) (x_disable_b L) (x_disable_x L) (x_disable_f L)) ?_; walk_nrm)
  repeat (first | with_reducible refine Dl.regionEnd ?_ | with_reducible refine Dl.block ?_)
  refine Dl.loop (.here ⟨rfl,_,rfl,by simp,by simp⟩)
set_option maxRecDepth 100000 in
set_option maxHeartbeats 8000000 in
theorem waitRound (H:WgLib P L) (hK:K (G (b0.at (a0.put ((ops0[i0]?).bind (·.dst)) (.tuple #[])) (.inRegion ops0 rest0::k0)) cs)) {g:Goroutine} (h:HeadW L Wg (b0.at a0 (.inRegion ops0 (i0::rest0)::k0)) cs g) :
    Dl P true (WgLv L.tWg Wg) (saidE Wg) (fun d g=>d=1∧AtLd P L Wg K (HeadW L Wg (b0.at a0 (.inRegion ops0 (i0::rest0)::k0)) cs) d g) 1 g:=by
  lib_facts
  obtain ⟨T,rfl,hT84,t0⟩:=h
  obtain ⟨v0,v1,v2,v3,v4,v5,v6,v7,v8,v9,v10,v11,v12,v13,v14,v15,v16,v17,v18,v19,v20,v21,v22,v23,v24,v25,v26,v27,v28,v29,v30,v31,v32,v33,v34,v35,v36,v37,v38,v39,v40,v41,v42,v43,v44,v45,v46,v47,v48,v49,v50,v51,v52,v53,v54,v55,v56,v57,v58,v59,v60,v61,v62,v63,v64,v65,v66,v67,v68,v69,v70,v71,v72,v73,v74,v75,v76,v77,v78,v79,v80,v81,v82,v83,rfl⟩:=array84 T hT84
  simp only [List.getElem?_toArray,List.getElem?_cons_zero,Option.some.injEq] at t0
  subst t0
  simp only [L7,body_wait,waitFn,Option.getD_some]
  (repeat (first | (first | with_reducible refine Dl.seq ?_ | ((with_reducible refine Dl.region ?_); simp only [List.size_toArray,List.length_cons,List.length_nil,Nat.reduceAdd,Nat.zero_add,List.range,List.range.loop]) | with_reducible refine Dl.regionEnd ?_ | with_reducible refine Dl.skip ?_ | with_reducible refine Dl.ret ?_ | with_reducible refine Dl.block ?_ | with_reducible refine Dl.inBlock ?_ | with_reducible refine Dl.loop ?_ | with_reducible refine Dl.inLoop ?_ | with_reducible (refine Dl.exit (by with_unfolding_all rfl) ?_) | ((with_reducible (refine Dl.cond true (by with_unfolding_all rfl) ?_)); simp only [if_true,if_false,Bool.false_eq_true,↓reduceIte]) | ((with_reducible (refine Dl.cond false (by with_unfolding_all rfl) ?_)); simp only [if_true,if_false,Bool.false_eq_true,↓reduceIte])) | (refine Dl.unwanted rfl rfl ?_; walk_nrm) | (refine Dl.value _ rfl rfl (by k_ne) (fun _ _=>by (go_simp; try (first | rfl | w_num | decide))) (fun _ _=>by simp [go_sem, *]) ?_; walk_nrm)))
  (refine Dl.call rfl rfl (by k_ne) rfl H.f_uLoad (nm_uLoad L) rfl ?_; walk_nrmf uLoadFn)
  (repeat (first | (first | with_reducible refine Dl.seq ?_ | ((with_reducible refine Dl.region ?_); simp only [List.size_toArray,List.length_cons,List.length_nil,Nat.reduceAdd,Nat.zero_add,List.range,List.range.loop]) | with_reducible refine Dl.regionEnd ?_ | with_reducible refine Dl.skip ?_ | with_reducible refine Dl.ret ?_ | with_reducible refine Dl.block ?_ | with_reducible refine Dl.inBlock ?_ | with_reducible refine Dl.loop ?_ | with_reducible refine Dl.inLoop ?_ | with_reducible (refine Dl.exit (by with_unfolding_all rfl) ?_) | ((with_reducible (refine Dl.cond true (by with_unfolding_all rfl) ?_)); simp only [if_true,if_false,Bool.false_eq_true,↓reduceIte]) | ((with_reducible (refine Dl.cond false (by with_unfolding_all rfl) ?_)); simp only [if_true,if_false,Bool.false_eq_true,↓reduceIte])) | (refine Dl.unwanted rfl rfl ?_; walk_nrm) | (refine Dl.value _ rfl rfl (by k_ne) (fun _ _=>by (go_simp; try (first | rfl | w_num | decide))) (fun _ _=>by simp [go_sem, *]) ?_; walk_nrm)))
  refine .here ⟨rfl,rfl,fun w v hv hw=>?_⟩
  by_cases h0:v=0
  · subst h0
    have hc:w.cell? ⟨Wg,0,none⟩=some (.int .u64 0):=by simp [World.cell?,hw,wgBlock]
    refine ⟨_,stepG_load_atomic (v:=0) rfl rfl (by k_ne) rfl H.f_loadU64 (x_loadU64_n L) (x_loadU64_b L) (x_loadU64_x L) .u64 (x_loadU64_f L) rfl hc,fun _=>?_,fun h=>absurd rfl h⟩
    clear hc hw
    walk_nrm
    have e2:IntKind.u32.wrap (bits BinOp.and IntKind.u64 0 2147483647)=0:=by decide
    (repeat (first | (first | with_reducible refine Dl.seq ?_ | ((with_reducible refine Dl.region ?_); simp only [List.size_toArray,List.length_cons,List.length_nil,Nat.reduceAdd,Nat.zero_add,List.range,List.range.loop]) | with_reducible refine Dl.regionEnd ?_ | with_reducible refine Dl.skip ?_ | with_reducible refine Dl.ret ?_ | with_reducible refine Dl.block ?_ | with_reducible refine Dl.inBlock ?_ | with_reducible refine Dl.loop ?_ | with_reducible refine Dl.inLoop ?_ | with_reducible (refine Dl.exit (by with_unfolding_all rfl) ?_) | ((with_reducible (refine Dl.cond true (by with_unfolding_all rfl) ?_)); simp only [if_true,if_false,Bool.false_eq_true,↓reduceIte]) | ((with_reducible (refine Dl.cond false (by with_unfolding_all rfl) ?_)); simp only [if_true,if_false,Bool.false_eq_true,↓reduceIte])) | (refine Dl.unwanted rfl rfl ?_; walk_nrm) | (refine Dl.value _ rfl rfl (by k_ne) (fun _ _=>by (go_simp; try (first | rfl | w_num | decide))) (fun _ _=>by simp [go_sem, *]) ?_; walk_nrm)))
    (refine Dl.leave1 rfl rfl H.f_uLoad rfl ?_; walk_nrm)
    (repeat (first | (first | with_reducible refine Dl.seq ?_ | ((with_reducible refine Dl.region ?_); simp only [List.size_toArray,List.length_cons,List.length_nil,Nat.reduceAdd,Nat.zero_add,List.range,List.range.loop]) | with_reducible refine Dl.regionEnd ?_ | with_reducible refine Dl.skip ?_ | with_reducible refine Dl.ret ?_ | with_reducible refine Dl.block ?_ | with_reducible refine Dl.inBlock ?_ | with_reducible refine Dl.loop ?_ | with_reducible refine Dl.inLoop ?_ | with_reducible (refine Dl.exit (by with_unfolding_all rfl) ?_) | ((with_reducible (refine Dl.cond true (by with_unfolding_all rfl) ?_)); simp only [if_true,if_false,Bool.false_eq_true,↓reduceIte]) | ((with_reducible (refine Dl.cond false (by with_unfolding_all rfl) ?_)); simp only [if_true,if_false,Bool.false_eq_true,↓reduceIte])) | (refine Dl.unwanted rfl rfl ?_; walk_nrm) | (refine Dl.value _ rfl rfl (by k_ne) (fun _ _=>by (go_simp; try (first | rfl | w_num | decide))) (fun _ _=>by simp [go_sem, *]) ?_; walk_nrm)))
    (refine Dl.step rfl (by (intro e he; simp at he; subst he; exact .inl rfl)) (fun w hI=>stepG_mark0 .enable (by simp) rfl rfl (by k_ne) rfl H.f_enable (x_enable_n L) (x_enable_b L) (x_enable_x L) (x_enable_f L)) ?_; walk_nrm)
    (repeat (first | (first | with_reducible refine Dl.seq ?_ | ((with_reducible refine Dl.region ?_); simp only [List.size_toArray,List.length_cons,List.length_nil,Nat.reduceAdd,Nat.zero_add,List.range,List.range.loop]) | with_reducible refine Dl.regionEnd ?_ | with_reducible refine Dl.skip ?_ | with_reducible refine Dl.ret ?_ | with_reducible refine Dl.block ?_ | with_reducible refine Dl.inBlock ?_ | with_reducible refine Dl.loop ?_ | with_reducible refine Dl.inLoop ?_ | with_reducible (refine Dl.exit (by with_unfolding_all rfl) ?_) | ((with_reducible (refine Dl.cond true (by with_unfolding_all rfl) ?_)); simp only [if_true,if_false,Bool.false_eq_true,↓reduceIte]) | ((with_reducible (refine Dl.cond false (by with_unfolding_all rfl) ?_)); simp only [if_true,if_false,Bool.false_eq_true,↓reduceIte])) | (refine Dl.unwanted rfl rfl ?_; walk_nrm) | (refine Dl.value _ rfl rfl (by k_ne) (fun _ _=>by (go_simp; try (first | rfl | w_num | decide))) (fun _ _=>by simp [go_sem, *]) ?_; walk_nrm)))
    (refine Dl.value _ rfl rfl (by k_ne) (fun w hI=>by (have hcv:=run_convert_to_unsafe (P:=P) H.underlying_tWgP H.underlying_tUP H.room_tWg (WgLv.cell0 hI).choose_spec); go_simp; rfl) (fun w hI=>by (have hce:=fun es=>events_convert_to_unsafe (P:=P) H.underlying_tWgP H.underlying_tUP H.room_tWg (WgLv.cell0 hI).choose_spec es); simp [go_sem,hce]) ?_; walk_nrm)
    refine .here ⟨rfl,rfl,_,fun w hI=>stepG_markAt .acquire (by simp) rfl rfl (by k_ne) rfl H.f_acquire (x_acquire_n L) (x_acquire_b L) (x_acquire_x L) (x_acquire_f L) (by simp [Act.eval,stA]),?_⟩
    walk_nrm
    (repeat (first | (first | with_reducible refine Dl.seq ?_ | ((with_reducible refine Dl.region ?_); simp only [List.size_toArray,List.length_cons,List.length_nil,Nat.reduceAdd,Nat.zero_add,List.range,List.range.loop]) | with_reducible refine Dl.regionEnd ?_ | with_reducible refine Dl.skip ?_ | with_reducible refine Dl.ret ?_ | with_reducible refine Dl.block ?_ | with_reducible refine Dl.inBlock ?_ | with_reducible refine Dl.loop ?_ | with_reducible refine Dl.inLoop ?_ | with_reducible (refine Dl.exit (by with_unfolding_all rfl) ?_) | ((with_reducible (refine Dl.cond true (by with_unfolding_all rfl) ?_)); simp only [if_true,if_false,Bool.false_eq_true,↓reduceIte]) | ((with_reducible (refine Dl.cond false (by with_unfolding_all rfl) ?_)); simp only [if_true,if_false,Bool.false_eq_true,↓reduceIte])) | (refine Dl.unwanted rfl rfl ?_; walk_nrm) | (refine Dl.value _ rfl rfl (by k_ne) (fun _ _=>by (go_simp; try (first | rfl | w_num | decide))) (fun _ _=>by simp [go_sem, *]) ?_; walk_nrm)))
    exact Dl.leave0 rfl rfl H.f_wait rfl (.here ⟨rfl,hK⟩)
  · obtain ⟨S,hS⟩:∃ S:Int,(v:Int) * KK=S:=⟨_,rfl⟩
    have a1:S / 4294967296=(v:Int):=by rw [← hS]; simp only [KK]; omega
    have b1:bits .and .u64 S 2147483648=0:=by rw [← hS]; have:=st_flag v 0 (by omega) (by omega); simpa [KK] using this
    have b2:bits .and .u64 S 2147483647=0:=by rw [← hS]; have:=st_waiters v 0 (by omega) (by omega); simpa [KK] using this
    have c1:IntKind.i32.wrap (v:Int)=(v:Int):=by rw [IntKind.wrap_i32]; omega
    have d1:IntKind.u32.wrap 0=0:=by decide
    have w1:IntKind.u64.wrap (S+1)=S+1:=by rw [IntKind.wrap_u64,← hS]; simp only [KK]; omega
    have q3:decide ((v:Int)<0)=false:=decide_eq_false (by omega)
    have q4:decide (0<(v:Int))=true:=decide_eq_true (by omega)
    have q5:((v:Int) == 0)=false:=by simp; omega
    have q6:decide ((v:Int)=0)=false:=decide_eq_false (by omega)
    rw [hS] at hw
    have hc:w.cell? ⟨Wg,0,none⟩=some (.int .u64 S):=by simp [World.cell?,hw,wgBlock]
    refine ⟨_,stepG_load_atomic (v:=S) rfl rfl (by k_ne) rfl H.f_loadU64 (x_loadU64_n L) (x_loadU64_b L) (x_loadU64_x L) .u64 (x_loadU64_f L) rfl hc,fun h=>absurd h h0,fun _=>?_⟩
    clear hc hw
    walk_nrm
    (repeat (first | (first | with_reducible refine Dl.seq ?_ | ((with_reducible refine Dl.region ?_); simp only [List.size_toArray,List.length_cons,List.length_nil,Nat.reduceAdd,Nat.zero_add,List.range,List.range.loop]) | with_reducible refine Dl.regionEnd ?_ | with_reducible refine Dl.skip ?_ | with_reducible refine Dl.ret ?_ | with_reducible refine Dl.block ?_ | with_reducible refine Dl.inBlock ?_ | with_reducible refine Dl.loop ?_ | with_reducible refine Dl.inLoop ?_ | with_reducible (refine Dl.exit (by with_unfolding_all rfl) ?_) | ((with_reducible (refine Dl.cond true (by with_unfolding_all rfl) ?_)); simp only [if_true,if_false,Bool.false_eq_true,↓reduceIte]) | ((with_reducible (refine Dl.cond false (by with_unfolding_all rfl) ?_)); simp only [if_true,if_false,Bool.false_eq_true,↓reduceIte])) | (refine Dl.unwanted rfl rfl ?_; walk_nrm) | (refine Dl.value _ rfl rfl (by k_ne) (fun _ _=>by (go_simp; try (first | rfl | w_num | decide))) (fun _ _=>by simp [go_sem, *]) ?_; walk_nrm)))
    (refine Dl.leave1 rfl rfl H.f_uLoad rfl ?_; walk_nrm)
    (repeat (first | (first | with_reducible refine Dl.seq ?_ | ((with_reducible refine Dl.region ?_); simp only [List.size_toArray,List.length_cons,List.length_nil,Nat.reduceAdd,Nat.zero_add,List.range,List.range.loop]) | with_reducible refine Dl.regionEnd ?_ | with_reducible refine Dl.skip ?_ | with_reducible refine Dl.ret ?_ | with_reducible refine Dl.block ?_ | with_reducible refine Dl.inBlock ?_ | with_reducible refine Dl.loop ?_ | with_reducible refine Dl.inLoop ?_ | with_reducible (refine Dl.exit (by with_unfolding_all rfl) ?_) | ((with_reducible (refine Dl.cond true (by with_unfolding_all rfl) ?_)); simp only [if_true,if_false,Bool.false_eq_true,↓reduceIte]) | ((with_reducible (refine Dl.cond false (by with_unfolding_all rfl) ?_)); simp only [if_true,if_false,Bool.false_eq_true,↓reduceIte])) | (refine Dl.unwanted rfl rfl ?_; walk_nrm) | (refine Dl.value _ rfl rfl (by k_ne) (fun _ _=>by (go_simp; try (first | rfl | w_num | decide))) (fun _ _=>by simp [go_sem, *]) ?_; walk_nrm)))
    (refine Dl.call rfl rfl (by k_ne) rfl H.f_uCas (nm_uCas L) rfl ?_; walk_nrmf uCasFn)
    (repeat (first | (first | with_reducible refine Dl.seq ?_ | ((with_reducible refine Dl.region ?_); simp only [List.size_toArray,List.length_cons,List.length_nil,Nat.reduceAdd,Nat.zero_add,List.range,List.range.loop]) | with_reducible refine Dl.regionEnd ?_ | with_reducible refine Dl.skip ?_ | with_reducible refine Dl.ret ?_ | with_reducible refine Dl.block ?_ | with_reducible refine Dl.inBlock ?_ | with_reducible refine Dl.loop ?_ | with_reducible refine Dl.inLoop ?_ | with_reducible (refine Dl.exit (by with_unfolding_all rfl) ?_) | ((with_reducible (refine Dl.cond true (by with_unfolding_all rfl) ?_)); simp only [if_true,if_false,Bool.false_eq_true,↓reduceIte]) | ((with_reducible (refine Dl.cond false (by with_unfolding_all rfl) ?_)); simp only [if_true,if_false,Bool.false_eq_true,↓reduceIte])) | (refine Dl.unwanted rfl rfl ?_; walk_nrm) | (refine Dl.value _ rfl rfl (by k_ne) (fun _ _=>by (go_simp; try (first | rfl | w_num | decide))) (fun _ _=>by simp [go_sem, *]) ?_; walk_nrm)))
    refine .here ⟨rfl,rfl,fun w2 v' hv' hw=>⟨fun e=>?_,fun e=>?_⟩⟩
    · subst e
      rw [hS] at hw ⊢
      have hc:w2.cell? ⟨Wg,0,none⟩=some (.int .u64 S):=by simp [World.cell?,hw,wgBlock]
      have hz:w2.frozen? ⟨Wg,0,none⟩=false:=by simp [World.frozen?,hw,wgBlock]
      refine ⟨_,(stepG_cas_hit (v:=S) (n:=S+1) rfl rfl (by k_ne) rfl H.f_casU64 (x_casU64_n L) (x_casU64_b L) (x_casU64_x L) .u64 (x_casU64_f L) rfl rfl rfl hc hz).trans (by rfl),?_⟩
      clear hw hc hz
      walk_nrm
      (repeat (first | (first | with_reducible refine Dl.seq ?_ | ((with_reducible refine Dl.region ?_); simp only [List.size_toArray,List.length_cons,List.length_nil,Nat.reduceAdd,Nat.zero_add,List.range,List.range.loop]) | with_reducible refine Dl.regionEnd ?_ | with_reducible refine Dl.skip ?_ | with_reducible refine Dl.ret ?_ | with_reducible refine Dl.block ?_ | with_reducible refine Dl.inBlock ?_ | with_reducible refine Dl.loop ?_ | with_reducible refine Dl.inLoop ?_ | with_reducible (refine Dl.exit (by with_unfolding_all rfl) ?_) | ((with_reducible (refine Dl.cond true (by with_unfolding_all rfl) ?_)); simp only [if_true,if_false,Bool.false_eq_true,↓reduceIte]) | ((with_reducible (refine Dl.cond false (by with_unfolding_all rfl) ?_)); simp only [if_true,if_false,Bool.false_eq_true,↓reduceIte])) | (refine Dl.unwanted rfl rfl ?_; walk_nrm) | (refine Dl.value _ rfl rfl (by k_ne) (fun _ _=>by (go_simp; try (first | rfl | w_num | decide))) (fun _ _=>by simp [go_sem, *]) ?_; walk_nrm)))
      (refine Dl.leave1 rfl rfl H.f_uCas rfl ?_; walk_nrm)
      (repeat (first | (first | with_reducible refine Dl.seq ?_ | ((with_reducible refine Dl.region ?_); simp only [List.size_toArray,List.length_cons,List.length_nil,Nat.reduceAdd,Nat.zero_add,List.range,List.range.loop]) | with_reducible refine Dl.regionEnd ?_ | with_reducible refine Dl.skip ?_ | with_reducible refine Dl.ret ?_ | with_reducible refine Dl.block ?_ | with_reducible refine Dl.inBlock ?_ | with_reducible refine Dl.loop ?_ | with_reducible refine Dl.inLoop ?_ | with_reducible (refine Dl.exit (by with_unfolding_all rfl) ?_) | ((with_reducible (refine Dl.cond true (by with_unfolding_all rfl) ?_)); simp only [if_true,if_false,Bool.false_eq_true,↓reduceIte]) | ((with_reducible (refine Dl.cond false (by with_unfolding_all rfl) ?_)); simp only [if_true,if_false,Bool.false_eq_true,↓reduceIte])) | (refine Dl.unwanted rfl rfl ?_; walk_nrm) | (refine Dl.value _ rfl rfl (by k_ne) (fun _ _=>by (go_simp; try (first | rfl | w_num | decide))) (fun _ _=>by simp [go_sem, *]) ?_; walk_nrm)))
      (refine Dl.value _ rfl rfl (by k_ne) (fun w hI=>by (have hcv:=run_convert_to_unsafe (P:=P) H.underlying_tPU32 H.underlying_tUP H.room_tU32 (WgLv.cell1 hI).choose_spec); go_simp; rfl) (fun w hI=>by (have hce:=fun es=>events_convert_to_unsafe (P:=P) H.underlying_tPU32 H.underlying_tUP H.room_tU32 (WgLv.cell1 hI).choose_spec es); simp [go_sem,hce]) ?_; walk_nrm)
      (refine Dl.step rfl (by (intro e he; simp at he; subst he; first | exact .inr (.inl rfl) | exact .inr (.inr rfl))) (fun w hI=>stepG_markAt .write (by simp) rfl rfl (by k_ne) rfl H.f_raceWrite (x_raceWrite_n L) (x_raceWrite_b L) (x_raceWrite_x L) (x_raceWrite_f L) (ad:=smA Wg) (by simp [Act.eval,smA])) ?_; walk_nrm)
      (repeat (first | (first | with_reducible refine Dl.seq ?_ | ((with_reducible refine Dl.region ?_); simp only [List.size_toArray,List.length_cons,List.length_nil,Nat.reduceAdd,Nat.zero_add,List.range,List.range.loop]) | with_reducible refine Dl.regionEnd ?_ | with_reducible refine Dl.skip ?_ | with_reducible refine Dl.ret ?_ | with_reducible refine Dl.block ?_ | with_reducible refine Dl.inBlock ?_ | with_reducible refine Dl.loop ?_ | with_reducible refine Dl.inLoop ?_ | with_reducible (refine Dl.exit (by with_unfolding_all rfl) ?_) | ((with_reducible (refine Dl.cond true (by with_unfolding_all rfl) ?_)); simp only [if_true,if_false,Bool.false_eq_true,↓reduceIte]) | ((with_reducible (refine Dl.cond false (by with_unfolding_all rfl) ?_)); simp only [if_true,if_false,Bool.false_eq_true,↓reduceIte])) | (refine Dl.unwanted rfl rfl ?_; walk_nrm) | (refine Dl.value _ rfl rfl (by k_ne) (fun _ _=>by (go_simp; try (first | rfl | w_num | decide))) (fun _ _=>by simp [go_sem, *]) ?_; walk_nrm)))
      refine .here ⟨rfl,rfl,fun w st hw=>stepG_semacquire_wait rfl rfl rfl H.f_semacquire (x_semacquire_n L) (x_semacquire_b L) (x_semacquire_x L) (x_semacquire_f L) (by simp [Act.eval,smA]) (show w.cell? ⟨Wg,1,none⟩=some (.int .u32 0) by simp [World.cell?,hw,wgBlock]),fun w hw=>?_⟩
      have hc:w.cell? ⟨Wg,1,none⟩=some (.int .u32 1):=by simp [World.cell?,hw,wgBlock]
      have hz:w.frozen? ⟨Wg,1,none⟩=false:=by simp [World.frozen?,hw,wgBlock]
      refine ⟨_,(stepG_semacquire (n:=1) rfl rfl (by k_ne) rfl H.f_semacquire (x_semacquire_n L) (x_semacquire_b L) (x_semacquire_x L) (x_semacquire_f L) (by simp [Act.eval,smA]) hc (by k_ne) hz).trans (by rfl),?_⟩
      clear hw hc hz
      walk_nrm
      (repeat (first | (first | with_reducible refine Dl.seq ?_ | ((with_reducible refine Dl.region ?_); simp only [List.size_toArray,List.length_cons,List.length_nil,Nat.reduceAdd,Nat.zero_add,List.range,List.range.loop]) | with_reducible refine Dl.regionEnd ?_ | with_reducible refine Dl.skip ?_ | with_reducible refine Dl.ret ?_ | with_reducible refine Dl.block ?_ | with_reducible refine Dl.inBlock ?_ | with_reducible refine Dl.loop ?_ | with_reducible refine Dl.inLoop ?_ | with_reducible (refine Dl.exit (by with_unfolding_all rfl) ?_) | ((with_reducible (refine Dl.cond true (by with_unfolding_all rfl) ?_)); simp only [if_true,if_false,Bool.false_eq_true,↓reduceIte]) | ((with_reducible (refine Dl.cond false (by with_unfolding_all rfl) ?_)); simp only [if_true,if_false,Bool.false_eq_true,↓reduceIte])) | (refine Dl.unwanted rfl rfl ?_; walk_nrm) | (refine Dl.value _ rfl rfl (by k_ne) (fun _ _=>by (go_simp; try (first | rfl | w_num | decide))) (fun _ _=>by simp [go_sem, *]) ?_; walk_nrm)))
      (refine Dl.call rfl rfl (by k_ne) rfl H.f_uLoad (nm_uLoad L) rfl ?_; walk_nrmf uLoadFn)
      (repeat (first | (first | with_reducible refine Dl.seq ?_ | ((with_reducible refine Dl.region ?_); simp only [List.size_toArray,List.length_cons,List.length_nil,Nat.reduceAdd,Nat.zero_add,List.range,List.range.loop]) | with_reducible refine Dl.regionEnd ?_ | with_reducible refine Dl.skip ?_ | with_reducible refine Dl.ret ?_ | with_reducible refine Dl.block ?_ | with_reducible refine Dl.inBlock ?_ | with_reducible refine Dl.loop ?_ | with_reducible refine Dl.inLoop ?_ | with_reducible (refine Dl.exit (by with_unfolding_all rfl) ?_) | ((with_reducible (refine Dl.cond true (by with_unfolding_all rfl) ?_)); simp only [if_true,if_false,Bool.false_eq_true,↓reduceIte]) | ((with_reducible (refine Dl.cond false (by with_unfolding_all rfl) ?_)); simp only [if_true,if_false,Bool.false_eq_true,↓reduceIte])) | (refine Dl.unwanted rfl rfl ?_; walk_nrm) | (refine Dl.value _ rfl rfl (by k_ne) (fun _ _=>by (go_simp; try (first | rfl | w_num | decide))) (fun _ _=>by simp [go_sem, *]) ?_; walk_nrm)))
      refine .here ⟨rfl,fun w hw=>?_⟩
      have hc:w.cell? ⟨Wg,0,none⟩=some (.int .u64 0):=by simp [World.cell?,hw,wgBlock]
      refine ⟨_,stepG_load_atomic (v:=0) rfl rfl (by k_ne) rfl H.f_loadU64 (x_loadU64_n L) (x_loadU64_b L) (x_loadU64_x L) .u64 (x_loadU64_f L) rfl hc,?_⟩
      clear hw hc
      walk_nrm
      (repeat (first | (first | with_reducible refine Dl.seq ?_ | ((with_reducible refine Dl.region ?_); simp only [List.size_toArray,List.length_cons,List.length_nil,Nat.reduceAdd,Nat.zero_add,List.range,List.range.loop]) | with_reducible refine Dl.regionEnd ?_ | with_reducible refine Dl.skip ?_ | with_reducible refine Dl.ret ?_ | with_reducible refine Dl.block ?_ | with_reducible refine Dl.inBlock ?_ | with_reducible refine Dl.loop ?_ | with_reducible refine Dl.inLoop ?_ | with_reducible (refine Dl.exit (by with_unfolding_all rfl) ?_) | ((with_reducible (refine Dl.cond true (by with_unfolding_all rfl) ?_)); simp only [if_true,if_false,Bool.false_eq_true,↓reduceIte]) | ((with_reducible (refine Dl.cond false (by with_unfolding_all rfl) ?_)); simp only [if_true,if_false,Bool.false_eq_true,↓reduceIte])) | (refine Dl.unwanted rfl rfl ?_; walk_nrm) | (refine Dl.value _ rfl rfl (by k_ne) (fun _ _=>by (go_simp; try (first | rfl | w_num | decide))) (fun _ _=>by simp [go_sem, *]) ?_; walk_nrm)))
      (refine Dl.leave1 rfl rfl H.f_uLoad rfl ?_; walk_nrm)
      (repeat (first | (first | with_reducible refine Dl.seq ?_ | ((with_reducible refine Dl.region ?_); simp only [List.size_toArray,List.length_cons,List.length_nil,Nat.reduceAdd,Nat.zero_add,List.range,List.range.loop]) | with_reducible refine Dl.regionEnd ?_ | with_reducible refine Dl.skip ?_ | with_reducible refine Dl.ret ?_ | with_reducible refine Dl.block ?_ | with_reducible refine Dl.inBlock ?_ | with_reducible refine Dl.loop ?_ | with_reducible refine Dl.inLoop ?_ | with_reducible (refine Dl.exit (by with_unfolding_all rfl) ?_) | ((with_reducible (refine Dl.cond true (by with_unfolding_all rfl) ?_)); simp only [if_true,if_false,Bool.false_eq_true,↓reduceIte]) | ((with_reducible (refine Dl.cond false (by with_unfolding_all rfl) ?_)); simp only [if_true,if_false,Bool.false_eq_true,↓reduceIte])) | (refine Dl.unwanted rfl rfl ?_; walk_nrm) | (refine Dl.value _ rfl rfl (by k_ne) (fun _ _=>by (go_simp; try (first | rfl | w_num | decide))) (fun _ _=>by simp [go_sem, *]) ?_; walk_nrm)))
      (refine Dl.step rfl (by (intro e he; simp at he; subst he; exact .inl rfl)) (fun w hI=>stepG_mark0 .enable (by simp) rfl rfl (by k_ne) rfl H.f_enable (x_enable_n L) (x_enable_b L) (x_enable_x L) (x_enable_f L)) ?_; walk_nrm)
      (repeat (first | (first | with_reducible refine Dl.seq ?_ | ((with_reducible refine Dl.region ?_); simp only [List.size_toArray,List.length_cons,List.length_nil,Nat.reduceAdd,Nat.zero_add,List.range,List.range.loop]) | with_reducible refine Dl.regionEnd ?_ | with_reducible refine Dl.skip ?_ | with_reducible refine Dl.ret ?_ | with_reducible refine Dl.block ?_ | with_reducible refine Dl.inBlock ?_ | with_reducible refine Dl.loop ?_ | with_reducible refine Dl.inLoop ?_ | with_reducible (refine Dl.exit (by with_unfolding_all rfl) ?_) | ((with_reducible (refine Dl.cond true (by with_unfolding_all rfl) ?_)); simp only [if_true,if_false,Bool.false_eq_true,↓reduceIte]) | ((with_reducible (refine Dl.cond false (by with_unfolding_all rfl) ?_)); simp only [if_true,if_false,Bool.false_eq_true,↓reduceIte])) | (refine Dl.unwanted rfl rfl ?_; walk_nrm) | (refine Dl.value _ rfl rfl (by k_ne) (fun _ _=>by (go_simp; try (first | rfl | w_num | decide))) (fun _ _=>by simp [go_sem, *]) ?_; walk_nrm)))
      (refine Dl.value _ rfl rfl (by k_ne) (fun w hI=>by (have hcv:=run_convert_to_unsafe (P:=P) H.underlying_tWgP H.underlying_tUP H.room_tWg (WgLv.cell0 hI).choose_spec); go_simp; rfl) (fun w hI=>by (have hce:=fun es=>events_convert_to_unsafe (P:=P) H.underlying_tWgP H.underlying_tUP H.room_tWg (WgLv.cell0 hI).choose_spec es); simp [go_sem,hce]) ?_; walk_nrm)
      refine .here ⟨rfl,rfl,_,fun w hI=>stepG_markAt .acquire (by simp) rfl rfl (by k_ne) rfl H.f_acquire (x_acquire_n L) (x_acquire_b L) (x_acquire_x L) (x_acquire_f L) (by simp [Act.eval,stA]),?_⟩
      walk_nrm
      (repeat (first | (first | with_reducible refine Dl.seq ?_ | ((with_reducible refine Dl.region ?_); simp only [List.size_toArray,List.length_cons,List.length_nil,Nat.reduceAdd,Nat.zero_add,List.range,List.range.loop]) | with_reducible refine Dl.regionEnd ?_ | with_reducible refine Dl.skip ?_ | with_reducible refine Dl.ret ?_ | with_reducible refine Dl.block ?_ | with_reducible refine Dl.inBlock ?_ | with_reducible refine Dl.loop ?_ | with_reducible refine Dl.inLoop ?_ | with_reducible (refine Dl.exit (by with_unfolding_all rfl) ?_) | ((with_reducible (refine Dl.cond true (by with_unfolding_all rfl) ?_)); simp only [if_true,if_false,Bool.false_eq_true,↓reduceIte]) | ((with_reducible (refine Dl.cond false (by with_unfolding_all rfl) ?_)); simp only [if_true,if_false,Bool.false_eq_true,↓reduceIte])) | (refine Dl.unwanted rfl rfl ?_; walk_nrm) | (refine Dl.value _ rfl rfl (by k_ne) (fun _ _=>by (go_simp; try (first | rfl | w_num | decide))) (fun _ _=>by simp [go_sem, *]) ?_; walk_nrm)))
      exact Dl.leave0 rfl rfl H.f_wait rfl (.here ⟨rfl,hK⟩)
    · have hc:w2.cell? ⟨Wg,0,none⟩=some (.int .u64 ((v':Int) * KK)):=by simp [World.cell?,hw,wgBlock]
      have hz:w2.frozen? ⟨Wg,0,none⟩=false:=by simp [World.frozen?,hw,wgBlock]
      refine ⟨_,stepG_cas_miss (v:=(v':Int) * KK) (old:=S) (n:=S+1) rfl rfl (by k_ne) rfl H.f_casU64 (x_casU64_n L) (x_casU64_b L) (x_casU64_x L) .u64 (x_casU64_f L) rfl rfl rfl hc hz (by rw [← hS]; simp only [KK]; omega),?_⟩
      clear hw hc hz
      walk_nrm
      (refine Dl.value _ rfl rfl (by k_ne) (fun _ _=>by (go_simp; try (first | rfl | w_num | decide))) (fun _ _=>by simp [go_sem, *]) ?_; walk_nrm)
      repeat (first | with_reducible refine Dl.seq ?_ | ((with_reducible refine Dl.region ?_); simp only [List.size_toArray,List.length_cons,List.length_nil,Nat.reduceAdd,Nat.zero_add,List.range,List.range.loop]) | with_reducible refine Dl.regionEnd ?_ | with_reducible refine Dl.skip ?_ | with_reducible refine Dl.ret ?_ | with_reducible refine Dl.block ?_ | with_reducible refine Dl.inBlock ?_ | with_reducible refine Dl.loop ?_ | with_reducible refine Dl.inLoop ?_ | with_reducible (refine Dl.exit (by with_unfolding_all rfl) ?_) | ((with_reducible (refine Dl.cond true (by with_unfolding_all rfl) ?_)); simp only [if_true,if_false,Bool.false_eq_true,↓reduceIte]) | ((with_reducible (refine Dl.cond false (by with_unfolding_all rfl) ?_)); simp only [if_true,if_false,Bool.false_eq_true,↓reduceIte]))
      (refine Dl.leave1 rfl rfl H.f_uCas rfl ?_; walk_nrm)
      refine Dl.regionEnd ?_
      (refine Dl.cond false (by first | rfl | (simp [Act.eval]; omega)) ?_; simp only [if_true,if_false,Bool.false_eq_true,↓reduceIte])
      refine Dl.skip ?_
      refine Dl.inBlock ?_
      exact Dl.inLoop (.here ⟨rfl,_,rfl,by simp,by simp⟩)
end
end Go.Am
end
section
open List renaming map_map→ζ,mapM_map→ξ
open Go Go.Am Go.Proofs
namespace Go.Am
open Go.Conc Go.Conc.Lib Go.RowKit Go.ConcR.Gen
open Go.ConcR (KK wgBlock stA smA rd wr mk)
noncomputable def bodyM:Code:=Tryz.f27.body.getD .skip
noncomputable def cW:Code:=match bodyM with | .seq _ (.seq _ (.seq _ (.seq _ (.seq _ (.seq (.seq _ (.block _ (.loop c))) _)))))=>c | _=>.skip
noncomputable def tW:Code:=match bodyM with | .seq _ (.seq _ (.seq _ (.seq _ (.seq _ (.seq _ c)))))=>c | _=>.skip
noncomputable def tW2:Code:=match tW with | .seq _ c=>c | _=>.skip
noncomputable def opsW:Array Oper:=match tW with | .seq (.region _ ops _) _=>ops | _=>#[]
theorem addWalkT {L:WgLink} {P:Program} (H:WgLib P L) {Wg:Nat} {cs:List Frame} {b0:Frame} {a0:Act} {ops0:Array Oper} {i0:Nat} {rest0:List Nat} {k0:List Item} {K:Nat→Goroutine→Prop} {T:Array Value} (hT:T=#[.pointer (some ⟨Wg,0,none⟩),.int .i64 1]++Array.replicate 115 undef)
    (hK:K 0 (G (b0.at (a0.put ((ops0[i0]?).bind (·.dst)) (.tuple #[])) (.inRegion ops0 rest0::k0)) cs)) :
    Dl P true (WgLv L.tWg Wg) (saidE Wg) (fun d g=>d=1∧AtAdd P L Wg K d g) 0 (G ((base L.add).at ⟨T,[]⟩ [.code (body_add L)]) (b0.at a0 (.inRegion ops0 (i0::rest0)::k0)::cs)):=by
  subst hT; exact addWalk H hK
theorem waitStartT {L:WgLink} {P:Program} (H:WgLib P L) {Wg:Nat} {c:Frame} {cs:List Frame} {T:Array Value} (hT:T=#[.pointer (some ⟨Wg,0,none⟩)]++Array.replicate 83 undef) :
    Dl P true (WgLv L.tWg Wg) (saidE Wg) (fun d g=>d=1∧HeadW L Wg c cs g) 0 (G ((base L.wait).at ⟨T,[]⟩ [.code (body_wait L)]) (c::cs)):=by
  subst hT; exact waitStart H
theorem atCas_mono {P:Program} {L:WgLink} {Wg:Nat} {K An An':Goroutine→Prop} (h:∀ g,An g→An' g) {vs d:Nat} {g:Goroutine} (hc:AtCas P L Wg K An vs d g):AtCas P L Wg K An' vs d g :=
  ⟨hc.1,fun w v hv hw=>⟨(hc.2 w v hv hw).1,fun e=>let ⟨g',h1,h2⟩:=(hc.2 w v hv hw).2 e; ⟨g',h1,h2.mono fun d' g' hx=>⟨hx.1,h g' hx.2⟩⟩⟩⟩
theorem atLd_mono {P:Program} {L:WgLink} {Wg:Nat} {K An An':Goroutine→Prop} (h:∀ g,An g→An' g) {d:Nat} {g:Goroutine} (hc:AtLd P L Wg K An d g):AtLd P L Wg K An' d g :=
  ⟨hc.1,fun w v hv hw=>let ⟨g',h1,h2,h3⟩:=hc.2 w v hv hw; ⟨g',h1,h2,fun e=>(h3 e).mono fun d' g' hx=>⟨hx.1,atCas_mono h hx.2⟩⟩⟩
structure RI (Wg bA bR C n cap:Nat) (c0 c1 c2:D) (lD:List (List D)) (k:Nat) (a:Act) (V:World):Prop where
  size:a.tmps.size=38
  ds:a.defers=[]
  s2:a.tmps.getD 2 undef=ptr0 bA
  s6:a.tmps.getD 6 undef=ptr0 bR
  s7:a.tmps.getD 7 undef=ptr0 Wg
  s26:VD (fun b=>b<V.heap.size) V (.sl lD) (a.tmps.getD 26 undef)
  s27:a.tmps.getD 27 undef=.int .i64 n
  s28:a.tmps.getD 28 undef=.int .i64 k
  ok:OkV V
  dA:VD (fun b=>b<V.heap.size) V (.pt [c0,c1,c2]) (ptr0 bA)
  dR:VD (fun b=>b<V.heap.size) V (.pt [.lit (.slice (some ⟨C,0,none⟩) n cap)]) (ptr0 bR)
theorem v_b {F:Nat→Prop} {w:World} {ι:Nat→Option Nat} {b:Bool} {v:Value} (h:V F w ι (.d (.b b)) v):v=.bool b:=by
  cases h with | d _ _ h=>cases h; rfl
theorem v_ptr {F:Nat→Prop} {w:World} {ι:Nat→Option Nat} {i o:Nat} {v:Value} (h:V F w ι (.ptr i o) v):∃ b,ι i=some b∧v=.pointer (some ⟨b,o,none⟩):=by
  cases h with | ptr _ _ b hb=>exact ⟨b,hb,rfl⟩
theorem one_cell {G:Ctx} {F:Nat→Prop} {w:World} {ι:Nat→Option Nat} {C:Nat→Prop} {H:Hp} (hR:HR G F w ι C H) {i b:Nat} {e:TypeId} {kk:IntKind} {n:Int} (hb:ι i=some b) (hH:H i=some (.cells e [.d (.i kk n)])):VD (fun b=>b<w.heap.size) w (.pt [.i kk n]) (ptr0 b):=by
  obtain ⟨ob,h1,h2⟩:=hR.obj i b _ hb hH
  cases h2 with
  | cells _ _ cur hl hc =>
    obtain ⟨u,hu,hv⟩:=hc 0 _ rfl
    have hu':=v_i hv; subst hu'
    refine .pt _ _ (fun _=>.int kk n) (lt_of_get h1) (fun j hj=>?_) fun k c hk=>?_
    · have:j=0:=by simp at hj; omega
      subst this
      simp [add_mk,World.cell?,h1,hu]
    · cases k with
      | zero=>simp at hk; subst hk; exact .i _ _
      | succ k=>simp at hk
theorem mk_op {a:Act} {o:Oper} {x7 x2 x9 x8 x6:Value} (hop:o.op=.makeFunc (.func 72) #[] #[.tmp 7,.tmp 2,.tmp 9,.tmp 8,.tmp 6]) (h7:a.eval (.tmp 7)=x7) (h2:a.eval (.tmp 2)=x2) (h9:a.eval (.tmp 9)=x9) (h8:a.eval (.tmp 8)=x8) (h6:a.eval (.tmp 6)=x6) (w:World) :
    (execOp a.eval o).run Tryz.prog w=.ok (.value (.func (.func 72) #[] #[x7,x2,x9,x8,x6])) w∧(execOp a.eval o).events Tryz.prog w #[]=#[]:=by
  have ev:∀ {t:Nat} {x:Value},a.eval (.tmp t)=x→a.tmps[t]?.getD undef=x:=fun h=>by rw [← h]; simp [Act.eval]
  unfold execOp
  simp only [hop]
  constructor <;> simp [Instr.makeFunc,ev h7,ev h2,ev h9,ev h8,ev h6,go_sem]
theorem go_op {a:Act} {o:Oper} {cap:Array Value} (hop:o.op=.go { callee:=.value (.tmp 34),args:=#[],argTypes:=#[] }) (h:a.eval (.tmp 34)=.func (.func 72) #[] cap) (w:World) :
    (execOp a.eval o).run Tryz.prog w=.ok (.spawn { target:=.fn (.func 72) cap,args:=#[] }) w∧(execOp a.eval o).events Tryz.prog w #[]=#[]:=by
  have h':a.tmps[34]?.getD undef=.func (.func 72) #[] cap:=by rw [← h]; simp [Act.eval]
  unfold execOp
  simp only [hop]
  constructor <;> simp [h',go_sem]
section
variable {Wg bA bR cap:Nat} {p:Pl} {c0 c1 c2:D} {lD:List (List D)} {a:Act} {V:World} {k:Nat} {K An:Goroutine→Prop} {cs:List Frame}
def slotsR (bA bR Wg n k:Nat) (lD:List (List D)):List (Nat × AV):=[(2,.d (.lit (ptr0 bA))),(6,.d (.lit (ptr0 bR))),(7,.d (.lit (ptr0 Wg))),(26,.d (.sl lD)),(27,.d (.i .i64 n)),(28,.d (.i .i64 k))]
theorem RI.sr (h:RI Wg bA bR p.C p.n cap c0 c1 c2 lD k a V):SR ⟨V,fun b=>b<V.heap.size,none',fun _=>True,fun _=>none⟩ 38 [] (StL (slotsR bA bR Wg p.n k lD) none []) a V:=by
  rw [← h.ds]
  refine SR_stl (Z:=fun _=>none) h.ok h.size (fun _ _ h=>by simp at h) (slots_V (T:=fun t=>a.tmps.getD t undef) _ ?_)
  simp only [slotsR,List.forall_mem_cons]
  refine ⟨.d _ _ ?_,.d _ _ ?_,.d _ _ ?_,.d _ _ h.s26,.d _ _ ?_,.d _ _ ?_,fun _ h=>by simp at h⟩
  · rw [h.s2]; exact .lit _
  · rw [h.s6]; exact .lit _
  · rw [h.s7]; exact .lit _
  · rw [h.s27]; exact .i _ _
  · rw [h.s28]; exact .i _ _
theorem mscr_fam (r:Nat):(goMch Tryz.prog true).Fam (MScr Tryz.prog wgLink Wg p K An r):=by
  cases r with
  | zero=>exact .inl ⟨_,_,_,stopL_env,rfl⟩
  | succ r=>exact .inl ⟨_,_,_,stopA_env,rfl⟩
set_option maxRecDepth 100000 in
set_option maxHeartbeats 2000000 in
theorem round_end (h:RI Wg bA bR p.C p.n cap c0 c1 c2 lD p.n a V) (hl:lD.length=p.n)
    (hAn:∀ a:Act,a.tmps.getD 6 undef=ptr0 bR→a.tmps.size=38→a.defers=[]→∀ g,HeadW wgLink Wg (((base 27)).at a [.inRegion opsW [0],.code tW2]) cs g→An g)
    (hHd:∀ g,An g→Dl Tryz.prog true (WgLv wgLink.tWg Wg) (saidE Wg) (fun d g=>d=1∧AtLd Tryz.prog wgLink Wg K An d g) 1 g) :
    MScr Tryz.prog wgLink Wg p K An 0 (G (((base 27)).at a [.code cW,.inLoop cW,.inBlock 0,.code tW]) cs) V:=by
  letI:=goMch Tryz.prog true
  have hW:=mscr_fam (Wg:=Wg) (p:=p) (K:=K) (An:=An) 0
  have hb:Calm (base 27):=.inl rfl
  simp only [cW,tW,bodyM,Tryz.f27,Option.getD_some]
  refine win_move hW rfl h.ok (fun w=>stepG_seq) ?_
  refine AWP_sound follows_mixed (fun _=>rfl) _ (fun e σ=>e=.normal∧σ.Γ 29=.d (.b false)∧σ.Γ 6=.d (.lit (ptr0 bR))∧σ.Γ 7=.d (.lit (ptr0 Wg))) _ _ _ (by kernel_rfl) (by kernel_rfl) ?hawp h.sr _ hW h.ok _ _ _ hb fun e a' v' hv' hq=>?_
  case hawp =>
    simp only [slotsR]
    simp [-ζ,-ξ,↓KW]
  obtain ⟨σ,⟨rfl,q29,q6,q7⟩,hsr⟩:=hq
  obtain ⟨_,_,_,F,ι,hR,_,hV,⟨hN,_⟩,hds,_⟩:=hsr
  have e29:a'.eval (.tmp 29)=.bool false:=by
    have h:=hV 29; rw [q29] at h
    cases h with | d _ _ h =>
      show a'.tmps.getD 29 undef=_
      generalize a'.tmps.getD 29 undef=x at h
      cases h; rfl
  have e6:a'.tmps.getD 6 undef=ptr0 bR:=by have h:=hV 6; rw [q6] at h; exact v_lit h
  have e7:a'.tmps.getD 7 undef=ptr0 Wg:=by have h:=hV 7; rw [q7] at h; exact v_lit h
  simp only [Owes]
  refine win_move hW rfl hv' (fun w=>stepG_seq) ?_
  refine win_move hW rfl hv' (fun w=>stepG_cond e29) ?_
  refine win_move hW rfl hv' (fun w=>stepG_exit rfl) ?_
  refine win_move hW rfl hv' (fun w=>stepG_seq) ?_
  refine win_move hW rfl hv' (fun w=>stepG_region) ?_
  have hd:Dl Tryz.prog true (WgLv wgLink.tWg Wg) (saidE Wg) (fun d g=>d=1∧AtLd Tryz.prog wgLink Wg K An d g) 0 (G (((base 27)).at a' [.inRegion opsW [0],.code tW2]) cs):=by
    refine Dl.call (f:=wgLink.wait) (fn:=waitFn wgLink) (c:=body_wait wgLink) rfl rfl (by k_ne) rfl wgLib.f_wait (nm_wait wgLink) rfl ((waitStartT wgLib ?_).bind fun d g hh=>by rw [hh.1]; exact hHd g (hAn a' e6 hN hds g hh.2))
    have:a'.eval (.tmp 7)=ptr0 Wg:=e7
    simp [this,waitFn,ptr0]
  simp only [opsW,tW2,tW,bodyM,Tryz.f27,Option.getD_some] at hd
  obtain ⟨tr,hg⟩:=hd.gt (Stop:=StopL Tryz.prog wgLink Wg K An) hv' fun d g v1 _ hk=>⟨.leaf,hk⟩
  exact ⟨tr,hg⟩
noncomputable def op10W:Array Oper:=match cW with | .seq _ (.seq _ (.seq (.block _ (.seq _ (.seq (.region _ o _) _))) _))=>o | _=>#[]
noncomputable def c11W:Code:=match cW with | .seq _ (.seq _ (.seq (.block _ (.seq _ (.seq _ c))) _))=>c | _=>.skip
noncomputable def c12W:Code:=match cW with | .seq _ (.seq _ (.seq _ c))=>c | _=>.skip
noncomputable def r9W:Code:=match cW with | .seq _ (.seq _ (.seq (.block _ (.seq c _)) _))=>c | _=>.skip
set_option maxRecDepth 100000 in
set_option maxHeartbeats 4000000 in
theorem round_step {r:Nat} {pk:Int} (h:RI Wg bA bR p.C p.n cap c0 c1 c2 lD k a V) (hk:k<p.n) (hl:lD.length=p.n) (hlk:lD[k]? = some [.i .u64 pk]) (hr:p.n - (r+1)=k) (hn:p.n<2147483648) (hfA:FrzD (.pt [c0,c1,c2])) (hfL:FrzD (.sl lD))
    (hwork:∀ (V':World) (Bp Bi:Nat),OkV V'→VD (fun b=>b<V'.heap.size) V' (.pt [c0,c1,c2]) (ptr0 bA)→VD (fun b=>b<V'.heap.size) V' (.pt [.i .u64 pk]) (ptr0 Bp)→VD (fun b=>b<V'.heap.size) V' (.pt [.i .i64 k]) (ptr0 Bi) →
      VD (fun b=>b<V'.heap.size) V' (.pt [.lit (.slice (some ⟨p.C,0,none⟩) p.n cap)]) (ptr0 bR)→∃ tr,GTw Tryz.prog wgLink Wg p k tr 0 (born Tryz.prog (wcall Wg bA Bp Bi bR)) V')
    (hnext:∀ a' V',RI Wg bA bR p.C p.n cap c0 c1 c2 lD (k+1) a' V'→MScr Tryz.prog wgLink Wg p K An r (G (((base 27)).at a' [.code cW,.inLoop cW,.inBlock 0,.code tW]) cs) V') :
    MScr Tryz.prog wgLink Wg p K An (r+1) (G (((base 27)).at a [.code cW,.inLoop cW,.inBlock 0,.code tW]) cs) V:=by
  letI:=goMch Tryz.prog true
  have hW:=mscr_fam (Wg:=Wg) (p:=p) (K:=K) (An:=An) (r+1)
  have hb:Calm (base 27):=.inl rfl
  have hk0:(0:Int)≤k:=by omega
  have hk1:(k:Int)<p.n:=by omega
  have hk2:(k:Int)<(lD.length:Int):=by omega
  have hkl:k<lD.length:=by omega
  have hlk':lD[k]=[.i .u64 pk]:=(List.getElem?_eq_some_iff.1 hlk).2
  rw [show ([.code cW,.inLoop cW,.inBlock 0,.code tW]:List Item)=[.code cW]++[.inLoop cW,.inBlock 0,.code tW] from rfl]
  generalize hKT:([.inLoop cW,.inBlock 0,.code tW]:List Item)=KT
  simp only [cW,bodyM,Tryz.f27,Option.getD_some,List.cons_append,List.nil_append]
  refine win_move hW rfl h.ok (fun w=>stepG_seq) ?_
  refine AWP_sound follows_mixed (fun _=>rfl) _ (fun e σ=>e=.normal∧σ.Γ 29=.d (.b true)∧AWP Tryz.prog r9W σ fun e σ'=>e=.normal∧∃ i8 i9,σ'.Γ 8=.ptr i8 0∧σ'.H i8=some (.cells 3 [.d (.i .i64 k)])∧σ'.Γ 9=.ptr i9 0∧σ'.H i9=some (.cells 51 [.d (.i .u64 pk)]) ∧
      σ'.Γ 2=.d (.lit (ptr0 bA))∧σ'.Γ 6=.d (.lit (ptr0 bR))∧σ'.Γ 7=.d (.lit (ptr0 Wg))∧σ'.Γ 26=.d (.sl lD)∧σ'.Γ 27=.d (.i .i64 p.n)∧σ'.Γ 28=.d (.i .i64 k)) _ _ _ (by kernel_rfl) (by kernel_rfl) ?hawp h.sr _ hW h.ok _ _ _ hb fun e a1 V1 hv1 hq=>?_
  case hawp =>
    simp only [slotsR,r9W,cW,bodyM,Tryz.f27,Option.getD_some]
    simp [-ζ,-ξ,↓KW,hk0,hk1,hk2,hkl,hlk,hlk']
  obtain ⟨σ,⟨rfl,q29,hA9⟩,hsr⟩:=hq
  have e29:a1.eval (.tmp 29)=.bool true:=by
    obtain ⟨_,_,_,F,ι,_,_,hV,_⟩:=id hsr
    have h:=hV 29; rw [q29] at h; exact v_b h
  simp only [Owes]
  refine win_move hW rfl hv1 (fun w=>stepG_seq) ?_
  refine win_move hW rfl hv1 (fun w=>stepG_cond e29) ?_
  simp only [if_true]
  refine win_move hW rfl hv1 (fun w=>stepG_skip) ?_
  refine win_move hW rfl hv1 (fun w=>stepG_seq) ?_
  refine win_move hW rfl hv1 (fun w=>stepG_block) ?_
  refine win_move hW rfl hv1 (fun w=>stepG_seq) ?_
  simp only [r9W,cW,bodyM,Tryz.f27,Option.getD_some] at hA9
  refine AWP_sound follows_mixed (fun _=>rfl) _ _ _ _ _ (by kernel_rfl) (by kernel_rfl) hA9 hsr _ hW hv1 _ _ _ hb fun e a2 V2 hv2 hq=>?_
  obtain ⟨σ',⟨rfl,i8,i9,q8,qH8,q9,qH9,q2,q6,q7,q26,q27,q28⟩,_,_,_,F,ι,hR,_,hV,⟨hN,_⟩,hds,_⟩:=hq
  obtain ⟨b8,hb8,e8⟩:=v_ptr (q8 ▸ hV 8)
  obtain ⟨b9,hb9,e9⟩:=v_ptr (q9 ▸ hV 9)
  have e2:=v_lit (q2 ▸ hV 2)
  have e6:=v_lit (q6 ▸ hV 6)
  have e7:=v_lit (q7 ▸ hV 7)
  have e27:=v_i (q27 ▸ hV 27)
  have e28:=v_i (q28 ▸ hV 28)
  have hd8:=one_cell hR hb8 qH8
  have hd9:=one_cell hR hb9 qH9
  have hsame:SameC (fun b=>b<V.heap.size) V V2:=fun b hb c e f hc=>⟨f,by rw [hR.kept.block b hb (fun h=>h)]; exact hc⟩
  have hge:V.heap.size≤V2.heap.size:=hR.kept.size
  have hdA:VD (fun b=>b<V2.heap.size) V2 (.pt [c0,c1,c2]) (ptr0 bA):=(hfA _ V V2 _ hsame h.dA).mono fun b hb=>Nat.lt_of_lt_of_le hb hge
  have hdR:VD (fun b=>b<V2.heap.size) V2 (.pt [.lit (.slice (some ⟨p.C,0,none⟩) p.n cap)]) (ptr0 bR):=(frzD_pt (by simp [frzD_lit]) _ V V2 _ hsame h.dR).mono fun b hb=>Nat.lt_of_lt_of_le hb hge
  have hdL:VD (fun b=>b<V2.heap.size) V2 (.sl lD) (a2.tmps.getD 26 undef):=by
    have h:=hV 26; rw [q26] at h
    cases h with | d _ _ h=>exact h.mono hR.F_lt
  simp only [Owes]
  refine win_move hW rfl hv2 (fun w=>stepG_seq) ?_
  refine win_move hW rfl hv2 (fun w=>stepG_region) ?_
  -- the call of Add
  have hKA:∀ v1,Env V2 v1→OkV v1→∃ tr,GTm Tryz.prog wgLink Wg (AtGo Tryz.prog wgLink Wg p k (MScr Tryz.prog wgLink Wg p K An r)) tr 0 (G (((base 27)).at (a2.put (some 33) (.tuple #[])) (.inRegion op10W []::.code c11W::.inBlock 1::.code c12W::KT)) cs) v1:=by
    intro v1 he1 ho1
    have hW2:(goMch Tryz.prog true).Fam (GoW Tryz.prog true (WgLv wgLink.tWg Wg) (saidE Wg) (AtGo Tryz.prog wgLink Wg p k (MScr Tryz.prog wgLink Wg p K An r))):=.inl ⟨_,_,_,atGo_env,rfl⟩
    have hg:∀ t,t≠33→(a2.put (some 33) (.tuple #[])).eval (.tmp t)=a2.tmps.getD t undef:=fun t ht=>by
      simp [Act.put,Act.eval,Array.getD_eq_getD_getElem?,Array.getElem?_setIfInBounds_ne (Ne.symm ht)]
    have hsz3:(a2.put (some 33) (.tuple #[])).tmps.size=38:=by simp [Act.put,hN]
    have hds3:(a2.put (some 33) (.tuple #[])).defers=[]:=hds
    generalize a2.put (some 33) (.tuple #[])=a3 at hg hsz3 hds3
    simp only [op10W,c11W,c12W,cW,bodyM,Tryz.f27,Option.getD_some]
    refine win_move hW2 rfl ho1 (fun w=>stepG_region_end) ?_
    refine win_move hW2 rfl ho1 (fun w=>stepG_region) ?_
    have g7:=(hg 7 (by decide)).trans e7
    have g2:=(hg 2 (by decide)).trans e2
    have g9:=(hg 9 (by decide)).trans e9
    have g8:=(hg 8 (by decide)).trans e8
    have g6:=(hg 6 (by decide)).trans e6
    refine win_move hW2 rfl ho1 (fun w=>(stepG_value rfl rfl (by k_ne) (mk_op rfl g7 g2 g9 g8 g6 w).1).trans (by unfold listed; rw [(mk_op rfl g7 g2 g9 g8 g6 w).2,seen_none])) ?_
    have h34:∀ x,(a3.put (some 34) x).eval (.tmp 34)=x:=fun x=>by simp [Act.put,Act.eval,Array.getD_eq_getD_getElem?,hsz3]
    have hg4:∀ x t,t≠34→(a3.put (some 34) x).tmps.getD t undef=a3.eval (.tmp t):=fun x t ht=>by
      simp [Act.put,Act.eval,Array.getD_eq_getD_getElem?,Array.getElem?_setIfInBounds_ne (Ne.symm ht)]
    refine ⟨.leaf,rfl,rfl,fun v2 he2=>⟨_,_,fun w hs hI=>(stepG_spawn rfl rfl (by k_ne) (go_op rfl (h34 _) w).1 rfl).trans (by unfold listed; rw [(go_op rfl (h34 _) w).2,seen_none]),rfl,?_,?_⟩⟩
    all_goals
      have hse:SameC (fun b=>b<V2.heap.size) V2 (frzV v2):=(sameC_env (he1.trans he2)).trans (sameC_frzV _ _)
      have hfs:∀ b,b<V2.heap.size→b<(frzV v2).heap.size:=fun b hb=>by
        rw [frzV_size]; exact Nat.lt_of_lt_of_le hb (he1.trans he2).size
    · exact hwork (frzV v2) b9 b8 (frzV_ok _) ((hfA _ _ _ _ hse hdA).mono hfs) ((frzD_pt (by simp [frzD_i]) _ _ _ _ hse hd9).mono hfs) ((frzD_pt (by simp [frzD_i]) _ _ _ _ hse hd8).mono hfs) ((frzD_pt (by simp [frzD_lit]) _ _ _ _ hse hdR).mono hfs)
    have hW3:=mscr_fam (Wg:=Wg) (p:=p) (K:=K) (An:=An) r
    generalize hx:Value.func (.func 72) #[] #[ptr0 Wg,ptr0 bA,.pointer (some ⟨b9,0,none⟩),.pointer (some ⟨b8,0,none⟩),ptr0 bR]=x
    have hri:RI Wg bA bR p.C p.n cap c0 c1 c2 lD k ((a3.put (some 34) x).put none undef) (frzV v2):=by
      have hg5:∀ t,t≠34→t≠33→((a3.put (some 34) x).put none undef).tmps.getD t undef=a2.tmps.getD t undef:=fun t h1 h2=>(hg4 x t h1).trans (hg t h2)
      refine ⟨by simp [Act.put,hsz3],hds3,(hg5 2 (by decide) (by decide)).trans e2,(hg5 6 (by decide) (by decide)).trans e6,(hg5 7 (by decide) (by decide)).trans e7,?_,(hg5 27 (by decide) (by decide)).trans e27,(hg5 28 (by decide) (by decide)).trans e28,frzV_ok _,(hfA _ _ _ _ hse hdA).mono hfs,(frzD_pt (by simp [frzD_lit]) _ _ _ _ hse hdR).mono hfs⟩
      rw [hg5 26 (by decide) (by decide)]
      exact (hfL _ _ _ _ hse hdL).mono hfs
    show MScr Tryz.prog wgLink Wg p K An r (G (((base 27)).at ((a3.put (some 34) x).put none undef) _) cs) (frzV v2)
    generalize (a3.put (some 34) x).put none undef=a5 at hri
    refine win_move hW3 rfl hri.ok (fun w=>stepG_region_end) ?_
    refine win_move hW3 rfl hri.ok (fun w=>stepG_inBlock) ?_
    refine AWP_sound follows_mixed (fun _=>rfl) _ (fun e σ=>e=.normal∧σ.Γ 28=.d (.i .i64 (k+1))∧σ.Γ 2=.d (.lit (ptr0 bA))∧σ.Γ 6=.d (.lit (ptr0 bR))∧σ.Γ 7=.d (.lit (ptr0 Wg))∧σ.Γ 26=.d (.sl lD)∧σ.Γ 27=.d (.i .i64 p.n)) _ _ _ (by kernel_rfl) (by kernel_rfl) ?hawp3 hri.sr _ hW3 hri.ok _ _ _ hb fun e a6 V6 hv6 hq=>?_
    case hawp3 =>
      have hw:IntKind.i64.wrap ((k:Int)+1)=k+1:=wrapQ
      simp only [slotsR]
      simp [-ζ,-ξ,↓KW,hw]
    obtain ⟨σ6,⟨rfl,q28',q2',q6',q7',q26',q27'⟩,_,_,_,F6,ι6,hR6,_,hV6,⟨hN6,_⟩,hds6,_⟩:=hq
    simp only [Owes]
    subst hKT
    refine win_move hW3 rfl hv6 (fun w=>stepG_inLoop) ?_
    have hs6:SameC (fun b=>b<(frzV v2).heap.size) (frzV v2) V6:=fun b hb c e f hc=>⟨f,by rw [hR6.kept.block b hb (fun h=>h)]; exact hc⟩
    have hf6:∀ b,b<(frzV v2).heap.size→b<V6.heap.size:=fun b hb=>Nat.lt_of_lt_of_le hb hR6.kept.size
    refine hnext a6 V6 ⟨hN6,hds6,v_lit (q2' ▸ hV6 2),v_lit (q6' ▸ hV6 6),v_lit (q7' ▸ hV6 7),?_,v_i (q27' ▸ hV6 27),?_,hv6,(hfA _ _ _ _ hs6 hri.dA).mono hf6,(frzD_pt (by simp [frzD_lit]) _ _ _ _ hs6 hri.dR).mono hf6⟩
    · have h:=hV6 26; rw [q26'] at h
      cases h with | d _ _ h=>exact h.mono hR6.F_lt
    · have:=v_i (q28' ▸ hV6 28)
      simpa using this
  have hd:Dl Tryz.prog true (WgLv wgLink.tWg Wg) (saidE Wg) (fun d g=>d=1∧AtAdd Tryz.prog wgLink Wg (fun d' g'=>d'=0∧∀ v1,Env V2 v1→OkV v1→∃ tr,GTm Tryz.prog wgLink Wg (AtGo Tryz.prog wgLink Wg p k (MScr Tryz.prog wgLink Wg p K An r)) tr 0 g' v1) d g) 0
      (G (((base 27)).at a2 (.inRegion op10W [0]::.code c11W::.inBlock 1::.code c12W::KT)) cs):=by
    refine Dl.call (f:=wgLink.add) (fn:=addFn wgLink) (c:=body_add wgLink) rfl rfl (by k_ne) rfl wgLib.f_add (nm_add wgLink) rfl (addWalkT wgLib ?_ ⟨rfl,hKA⟩)
    have:a2.eval (.tmp 7)=ptr0 Wg:=e7
    have hc:a2.eval (.const (.int .i64 1))=.int .i64 1:=rfl
    simp [this,hc,addFn,ptr0]
  simp only [op10W,c11W,c12W,cW,bodyM,Tryz.f27,Option.getD_some] at hd
  obtain ⟨tr,hg⟩:=hd.gt (Stop:=StopA Tryz.prog wgLink Wg p (p.n - (r+1)) (MScr Tryz.prog wgLink Wg p K An r)) hv2 fun d g v1 he hk=>⟨.leaf,hk.1,atAdd_mono (fun d' g' hx v2 he2 ho2=>by rw [hr,hx.1]; exact hx.2 v2 (he.trans he2) ho2) hk.2⟩
  exact ⟨tr,hg⟩
end
end Go.Am
end
section
open List renaming map_map→ζ,mapM_map→ξ
open Go Go.Am Go.Proofs
namespace Go.Am
open Go.Conc Go.Conc.Lib Go.RowKit Go.ConcR.Gen
open Go.ConcR (KK wgBlock stA smA rd wr mk)
theorem rounds {Wg bA bR cap:Nat} {p:Pl} {c0 c1 c2:D} {lD:List (List D)} {K An:Goroutine→Prop} {cs:List Frame} (hl:lD.length=p.n) (hn:p.n<2147483648) (hfA:FrzD (.pt [c0,c1,c2])) (hfL:FrzD (.sl lD))
    (hw:∀ k,k<p.n→∃ pk,lD[k]? = some [.i .u64 pk]∧∀ (V':World) (Bp Bi:Nat),OkV V'→VD (fun b=>b<V'.heap.size) V' (.pt [c0,c1,c2]) (ptr0 bA)→VD (fun b=>b<V'.heap.size) V' (.pt [.i .u64 pk]) (ptr0 Bp)→VD (fun b=>b<V'.heap.size) V' (.pt [.i .i64 k]) (ptr0 Bi) →
      VD (fun b=>b<V'.heap.size) V' (.pt [.lit (.slice (some ⟨p.C,0,none⟩) p.n cap)]) (ptr0 bR)→∃ tr,GTw Tryz.prog wgLink Wg p k tr 0 (born Tryz.prog (wcall Wg bA Bp Bi bR)) V')
    (hAn:∀ a:Act,a.tmps.getD 6 undef=ptr0 bR→a.tmps.size=38→a.defers=[]→∀ g,HeadW wgLink Wg (((base 27)).at a [.inRegion opsW [0],.code tW2]) cs g→An g)
    (hHd:∀ g,An g→Dl Tryz.prog true (WgLv wgLink.tWg Wg) (saidE Wg) (fun d g=>d=1∧AtLd Tryz.prog wgLink Wg K An d g) 1 g) :
    ∀ (r k:Nat) (a:Act) (V:World),k+r=p.n→RI Wg bA bR p.C p.n cap c0 c1 c2 lD k a V→MScr Tryz.prog wgLink Wg p K An r (G (((base 27)).at a [.code cW,.inLoop cW,.inBlock 0,.code tW]) cs) V
  | 0,k,a,V,hk,h=>by
    obtain rfl:k=p.n:=by omega
    exact round_end h hl hAn hHd
  | r+1,k,a,V,hk,h=>by
    obtain ⟨pk,h1,h2⟩:=hw k (by omega)
    exact round_step h (by omega) hl h1 (by omega) hn hfA hfL h2 fun a' V' h'=>rounds hl hn hfA hfL hw hAn hHd r (k+1) a' V' (by omega) h'
structure FinW (p:Pl) (v v':World):Prop where
  ok:OkV v'
  tape:v'.tape=v.tape
  os:v'.os=v.os
  output:v'.output=v.output
  size:v.heap.size<v'.heap.size
  old:∀ b,b<v.heap.size→b≠p.C→v'.heap[b]? = v.heap[b]?
  val:∃ cs:Array Value,v'.heap[p.C]? = some (.cells cs p.ety (0,0))∧cs.size=p.tot∧∀ i,i<p.n→∀ r,r<p.wd→cs[i * p.wd+r]? = some (p.val i r)
theorem FinV.w {p:Pl} {v v':World} (h:FinV p v v'):FinW p v v':=⟨h.ok,h.tape,h.os,h.output,h.size,h.old,h.val⟩
theorem FinW.next {p:Pl} {v v' v2:World} (h:FinW p v v') (hok:OkV v2) (ht:v2.tape=v'.tape) (ho:v2.os=v'.os) (hp:v2.output=v'.output) (hsz:v'.heap.size≤v2.heap.size) (hb:∀ b,b<v'.heap.size→v2.heap[b]? = v'.heap[b]?):FinW p v v2:=by
  have hC:p.C<v'.heap.size:=let ⟨cs,h1,_⟩:=h.val; lt_of_get h1
  refine ⟨hok,ht.trans h.tape,ho.trans h.os,hp.trans h.output,Nat.lt_of_lt_of_le h.size hsz,fun b hlt hne=>(hb b (Nat.lt_trans hlt h.size)).trans (h.old b hlt hne),?_⟩
  obtain ⟨cs,h1,h2⟩:=h.val
  exact ⟨cs,(hb _ hC).trans h1,h2⟩
theorem win_back {P:Program} [M:Mch P] {Win:Goroutine→World→Prop} (hW:M.Fam Win) {f:FuncId} {fn:Func} {a':Act} {v':World} {todo:List Item} {c0:Frame} {cs:List Frame} {R:Value→World→Prop} (hf:P.funcs[f]? = some fn) (hv':OkV v') (hd:a'.defers=[])
    (hr:∀ v1,Env v' v1→∃ x,runC P (results fn a'.tmps) v1=.ok x v1∧R x v1) (hk:∀ x v'',OkV v''→R x v''→Win (G (c0.finish x) cs) v''):Win (G { (base f).at a' todo with mode:=.returning } (c0::cs)) v':=by
  refine (M.closed hW).step rfl hv' fun v1 w he hsim=>?_
  obtain ⟨x,hx,hR⟩:=hr v1 he
  obtain ⟨w',es',h1,h2,h3,h4,h5,h6⟩:=sim_run _ v1 w #[] x v1 (he.okV hv') hsim hx
  exact ⟨_,v1,w',_,stepG_back (b:=base f) rfl hd hf h1,⟨h2,h3,h4,h5,fun e he'=>h6 e (by have:=mem_seen he'; simpa using this)⟩,hk x v1 h3 hR⟩
set_option maxRecDepth 100000 in
theorem work_ret {W0:World} {Post:Value→World→Prop} {p:Pl} {v1:World} {bR cap:Nat} {a:Act} {c0:Frame} {cs:List Frame} (h6:a.tmps.getD 6 undef=ptr0 bR) (hN:a.tmps.size=38) (hds:a.defers=[]) (hbR:bR<v1.heap.size) (hne:bR≠p.C)
    (hcell:v1.cell? ⟨bR,0,none⟩=some (.slice (some ⟨p.C,0,none⟩) p.n cap)) (hk:∀ v',FinW p v1 v'→MainWin Tryz.prog W0 Post (G (c0.finish (.tuple #[.slice (some ⟨p.C,0,none⟩) p.n cap,.int .i64 0])) cs) v') :
    KF Tryz.prog W0 Post p v1 (G (((base 27)).at (a.put (some 36) (.tuple #[])) [.inRegion opsW [],.code tW2]) (c0::cs)):=by
  refine ⟨rfl,fun v' hF=>?_⟩
  letI:=mainMch Tryz.prog
  have hW:(mainMch Tryz.prog).Fam (MainWin Tryz.prog W0 Post):=.inl ⟨W0,Post,rfl⟩
  have hb:Calm (base 27):=.inl rfl
  have g6:(a.put (some 36) (.tuple #[])).tmps.getD 6 undef=ptr0 bR:=by
    rw [← h6]; simp [Act.put,Array.getD_eq_getD_getElem?,Array.getElem?_setIfInBounds_ne]
  have gN:(a.put (some 36) (.tuple #[])).tmps.size=38:=by simp [Act.put,hN]
  have gds:(a.put (some 36) (.tuple #[])).defers=[]:=hds
  generalize a.put (some 36) (.tuple #[])=a3 at g6 gN gds
  have hok:=hF.ok
  have hc':v'.cell? ⟨bR,0,none⟩=some (.slice (some ⟨p.C,0,none⟩) p.n cap):=by
    rw [← hcell]; exact cell_eq_of_block (hF.old bR hbR hne)
  have hfp:V (fun b=>b<v'.heap.size) v' (fun _=>none) (.fp [.lit (.slice (some ⟨p.C,0,none⟩) p.n cap)]) (ptr0 bR) :=
    .fp _ _ (fun _=>.slice (some ⟨p.C,0,none⟩) p.n cap) (Nat.lt_trans hbR hF.size) (fun j hj=>by
      have:j=0:=by simp at hj; omega
      subst this; rw [add_mk]; exact hc') fun k c hk=>by
      cases k with
      | zero=>simp at hk; subst hk; exact .lit _
      | succ k=>simp at hk
  simp only [opsW,tW2,tW,bodyM,Tryz.f27,Option.getD_some]
  refine win_move hW rfl hok (fun w=>stepG_region_end) ?_
  refine win_move hW rfl hok (fun w=>stepG_seq) ?_
  have hsr:SR ⟨v',fun b=>b<v'.heap.size,none',fun _=>True,fun _=>none⟩ 38 [] (StL [(6,.fp [.lit (.slice (some ⟨p.C,0,none⟩) p.n cap)])] none []) a3 v':=by
    rw [← gds]
    refine SR_stl (Z:=fun _=>none) hok gN (fun _ _ h=>by simp at h) (slots_V (T:=fun t=>a3.tmps.getD t undef) _ ?_)
    simp only [List.forall_mem_cons]
    exact ⟨by rw [g6]; exact hfp,fun _ h=>by simp at h⟩
  refine AWP_sound follows_mixed (fun _=>rfl) _ (fun e σ=>e=.normal∧σ.Γ 4=.d (.lit (.slice (some ⟨p.C,0,none⟩) p.n cap))∧σ.Γ 5=.d (.i .i64 0)) _ _ _ (by kernel_rfl) (by kernel_rfl) ?hawp hsr _ hW hok _ _ _ hb fun e a4 V4 hv4 hq=>?_
  case hawp =>
    simp [-ζ,-ξ,↓KW]
  obtain ⟨σ,⟨rfl,q4,q5⟩,hsr4⟩:=hq
  obtain ⟨_,_,_,F,ι,hR,_,hV,⟨hN4,_⟩,hds4,_⟩:=id hsr4
  have hF4:FinW p v1 V4:=hF.w.next hv4 hR.kept.tape hR.kept.os hR.kept.output hR.kept.size fun b hb=>hR.kept.block b hb (fun h=>h)
  simp only [Owes]
  refine win_move hW rfl hv4 (fun w=>stepG_ret') ?_
  refine win_back hW (R:=fun x v2=>x=.tuple #[.slice (some ⟨p.C,0,none⟩) p.n cap,.int .i64 0]∧FinW p v1 v2) Tryz.func27 hv4 hds4 (fun v2 he=>?_) fun x v'' _ hx=>by rw [hx.1]; exact hk v'' hx.2
  have hsr5:=hsr4.env he
  obtain ⟨x,hx,hvd⟩:=run_results (P:=Tryz.prog) (fn:=Tryz.f27) (r:=.tp [.lit (.slice (some ⟨p.C,0,none⟩) p.n cap),.i .i64 0]) hsr5 (by
    simp [resD,Tryz.f27,res1,q4,q5,frzs,frz])
  refine ⟨x,hx,?_,hF4.next (he.okV hv4) he.tape he.os he.output he.size fun b hb=>he.get hb⟩
  cases hvd with
  | tp cs vs hl h =>
    have h0:vs[0]? = some (.slice (some ⟨p.C,0,none⟩) p.n cap):=by
      obtain ⟨y,hy⟩:∃ y,vs[0]? = some y:=⟨_,Array.getElem?_eq_getElem (by simp at hl; omega)⟩
      have:=h 0 _ _ rfl hy
      cases this; exact hy
    have h1:vs[1]? = some (.int .i64 0):=by
      obtain ⟨y,hy⟩:∃ y,vs[1]? = some y:=⟨_,Array.getElem?_eq_getElem (by simp at hl; omega)⟩
      have:=h 1 _ _ rfl hy
      cases this; exact hy
    congr 1
    apply Array.ext_getElem?
    intro k
    match k with
    | 0=>exact h0
    | 1=>exact h1
    | k+2=>rw [Array.getElem?_eq_none (by simp at hl; omega)]; simp
end Go.Am
end
section
open List renaming map_map→ζ,mapM_map→ξ
open Go Go.Am Go.Proofs
namespace Go.Am
open Go.Conc Go.Conc.Lib Go.RowKit Go.ConcR.Gen
open Go.ConcR (KK wgBlock stA smA rd wr mk)
theorem cx_main {P:Program} {f:FuncId} {args:Array Value} {v:World} {R:Value→World→Prop}
    (h:∀ (W0:World) (Post:Value→World→Prop) (c:Frame) (cs:List Frame),(∀ x v',OkV v'→R x v'→MainWin P W0 Post (G (c.finish x) cs) v')→OkV v→MainWin P W0 Post (G (Frame.enter P f args .normal) (c::cs)) v) :
    letI:=mainMch P; CX P f args v R:=by
  intro Win hW hv c cs hk
  rcases hW with ⟨W0,Post,rfl⟩ | rfl
  · exact h W0 Post c cs hk hv
  · have hm:=h { v with heap:=#[] } (fun _ _=>False) c cs (fun x v' ho hr=>(hk x v' ho hr).elim) hv
    have h0:ShunS (fun _=>False)=fun _=>False:=by funext l; cases l <;> rfl
    have he:=hm v (.refl _) hv (fun _=>False) #[G (Frame.enter P f args .normal) (c::cs)] v none #[] (fun _=>0) (fun b h=>h.elim) (Sim.refl v) rfl (leavers_one P _) (by rw [h0]; exact past_nil.mono (Nat.zero_le _))
      ⟨fun i op x hi=>by simp at hi,fun i a ha=>by simp [touchAt,Trace.act?] at ha,fun i op hi=>by simp at hi⟩ (fun b o hb=>by simp at hb)
    obtain ⟨N,last,o,w',t',_,_,_,x,_,hp,_⟩:=he
    exact hp.elim
noncomputable def x1W:Code:=match bodyM with | .seq _ (.seq c _)=>c | _=>.skip
noncomputable def x3W:Code:=match bodyM with | .seq _ (.seq _ (.seq c _))=>c | _=>.skip
noncomputable def r5W:Code:=match bodyM with | .seq _ (.seq _ (.seq _ (.seq c _)))=>c | _=>.skip
set_option maxRecDepth 100000 in
set_option maxHeartbeats 4000000 in
theorem work_front {rr:Int} {eA:List (List D)} {lD:List (List D)} {n:Nat} (hn:lD.length=n) (hn2:n≤1000000)
    (hvalid:letI:=mainMch Tryz.prog; Spec Tryz.prog 69 [.ag [.i .i64 rr,.i .i64 rr,.sl eA]] (.b true)) (hdiff:letI:=mainMch Tryz.prog; Spec Tryz.prog 70 [.sl lD] (.b true)) :
    letI:=mainMch Tryz.prog
    AWP Tryz.prog (match bodyM with | .seq c _=>c | _=>.skip) (St0 [.ag [.i .i64 rr,.i .i64 rr,.sl eA],.sl lD] 38) fun e σ=>e=.normal∧AWP Tryz.prog x1W σ fun e σ=>e=.normal∧AWP Tryz.prog x3W σ fun e σ=>e=.normal∧AWP Tryz.prog r5W σ fun e σ=>e=.normal ∧
      σ.Γ 1=.d (.sl lD)∧∃ iA iR iC,iA≠iC∧iR≠iC∧σ.Γ 2=.ptr iA 0∧σ.H iA=some (.cells 61 [.d (.i .i64 rr),.d (.i .i64 rr),.d (.sl eA)])∧σ.Γ 6=.ptr iR 0∧σ.H iR=some (.cells 27 [.own iC 0 n 3])∧∃ cs,σ.H iC=some (.cells 78 cs)∧n * 3≤cs.length:=by
  letI:=mainMch Tryz.prog
  simp only [x1W,x3W,r5W,bodyM,Tryz.f27,Option.getD_some]
  have h0:(0:Int)≤(lD.length:Int):=by omega
  have h1:(lD.length:Int)≤9223372036854775807:=by omega
  have h2:((rr:Int) != rr)=false:=by simp
  have h3:24 * (n:Int)≤281474976710656:=by omega
  have h4:(n:Int)≤9223372036854775807:=by omega
  simp [-ζ,-ξ,↓KW,h0,h1,h2,hn]
  refine callQ hvalid ?_
  simp [-ζ,-ξ,↓KW,h0,h1,h2,hn]
  refine callQ hdiff ?_
  simp [-ζ,-ξ,↓KW,h0,h1,h2,hn,h3,h4]
  refine ⟨1,3,2,by decide,by decide,rfl,rfl,rfl,rfl,_,rfl,?_⟩
  simp [List.length_flatten]
end Go.Am
end
section
open List renaming map_map→ζ,mapM_map→ξ
open Go Go.Am Go.Proofs
namespace Go.Am
open Go.Conc Go.Conc.Lib Go.RowKit Go.ConcR.Gen
open Go.ConcR (KK wgBlock stA smA rd wr mk)
theorem own_pt {G:Ctx} {F:Nat→Prop} {w:World} {ι:Nat→Option Nat} {C:Nat→Prop} {H:Hp} (hR:HR G F w ι C H) {i b:Nat} {e:TypeId} {cs:List D} (hb:ι i=some b) (hH:H i=some (.cells e (cs.map .d))):VD (fun b'=>b'=b∨F b') w (.pt cs) (ptr0 b):=by
  obtain ⟨ob,h1,h2⟩:=hR.obj i b _ hb hH
  cases h2 with
  | cells _ _ cur hl hc =>
    refine .pt _ _ (fun j=>cur.getD j undef) (.inl rfl) (fun j hj=>?_) fun k c hk=>?_
    · have:j<cur.size:=by simp at hl; omega
      simp [add_mk,World.cell?,h1,this]
    · obtain ⟨u,hu,hv⟩:=hc k (.d c) (by simp [hk])
      have:cur.getD k undef=u:=by simp [Array.getD_eq_getD_getElem?,hu]
      rw [this]
      cases hv with | d _ _ h=>exact h.mono fun b hb=>.inr hb
theorem alloc_op {a:Act} {o:Oper} (hop:o.op=.alloc 119) (w:World) :
    (execOp a.eval o).run Tryz.prog w=.ok (.value (.pointer (some ⟨w.heap.size,0,none⟩))) { w with heap:=w.heap.push (wgBlock wgLink.tWg 0 0) }∧(execOp a.eval o).events Tryz.prog w #[]=#[]:=by
  unfold execOp
  simp only [hop]
  constructor
  · simp [go_sem,Tryz.zeroValue119,wgBlock,wgLink,Value.cells]
  · simp [go_sem,Tryz.zeroValue119,wgBlock,wgLink,Value.cells]
noncomputable def op6W:Array Oper:=match bodyM with | .seq _ (.seq _ (.seq _ (.seq _ (.seq (.region _ o _) _))))=>o | _=>#[]
noncomputable def restW:Code:=match bodyM with | .seq _ (.seq _ (.seq _ (.seq _ (.seq _ c))))=>c | _=>.skip
set_option maxRecDepth 100000 in
set_option maxHeartbeats 4000000 in
theorem work_start {p:Pl} {bA bR cap Wg:Nat} {c0 c1 c2:D} {lD:List (List D)} {K An:Goroutine→Prop} {cs:List Frame} {a:Act} {V:World} (hok:OkV V) (hN:a.tmps.size=38) (hds:a.defers=[]) (h2:a.tmps.getD 2 undef=ptr0 bA) (h6:a.tmps.getD 6 undef=ptr0 bR)
    (h1:VD (fun b=>b<V.heap.size) V (.sl lD) (a.tmps.getD 1 undef)) (hl:lD.length=p.n) (hn:p.n≤1000000) (hfA:FrzD (.pt [c0,c1,c2])) (hfL:FrzD (.sl lD)) (hdA:VD (fun b=>b<V.heap.size) V (.pt [c0,c1,c2]) (ptr0 bA)) (hdR:VD (fun b=>b<V.heap.size) V (.pt [.lit (.slice (some ⟨p.C,0,none⟩) p.n cap)]) (ptr0 bR))
    (hgo:∀ a' V',RI Wg bA bR p.C p.n cap c0 c1 c2 lD 0 a' V'→MScr Tryz.prog wgLink Wg p K An p.n (G (((base 27)).at a' [.code cW,.inLoop cW,.inBlock 0,.code tW]) cs) V') :
    MScr Tryz.prog wgLink Wg p K An p.n (G (((base 27)).at (a.put (some 7) (ptr0 Wg)) [.inRegion op6W [],.code restW]) cs) V:=by
  letI:=goMch Tryz.prog true
  have hW:=mscr_fam (Wg:=Wg) (p:=p) (K:=K) (An:=An) p.n
  have hb:Calm (base 27):=.inl rfl
  have hg:∀ t,t≠7→(a.put (some 7) (ptr0 Wg)).tmps.getD t undef=a.tmps.getD t undef:=fun t ht=>by
    simp [Act.put,Array.getD_eq_getD_getElem?,Array.getElem?_setIfInBounds_ne (Ne.symm ht)]
  have h7:(a.put (some 7) (ptr0 Wg)).tmps.getD 7 undef=ptr0 Wg:=by simp [Act.put,Array.getD_eq_getD_getElem?,hN]
  have hN':(a.put (some 7) (ptr0 Wg)).tmps.size=38:=by simp [Act.put,hN]
  have hds':(a.put (some 7) (ptr0 Wg)).defers=[]:=hds
  have g1:=hg 1 (by decide)
  have g2:=(hg 2 (by decide)).trans h2
  have g6:=(hg 6 (by decide)).trans h6
  rw [← g1] at h1
  generalize a.put (some 7) (ptr0 Wg)=a5 at h1 g2 g6 h7 hN' hds'
  have hL0:(lD.length:Int)=p.n:=by omega
  have hsr:SR ⟨V,fun b=>b<V.heap.size,none',fun _=>True,fun _=>none⟩ 38 [] (StL [(1,.d (.sl lD)),(2,.d (.lit (ptr0 bA))),(6,.d (.lit (ptr0 bR))),(7,.d (.lit (ptr0 Wg)))] none []) a5 V:=by
    rw [← hds']
    refine SR_stl (Z:=fun _=>none) hok hN' (fun _ _ h=>by simp at h) (slots_V (T:=fun t=>a5.tmps.getD t undef) _ ?_)
    simp only [List.forall_mem_cons]
    refine ⟨.d _ _ h1,.d _ _ ?_,.d _ _ ?_,.d _ _ ?_,fun _ h=>by simp at h⟩
    · rw [g2]; exact .lit _
    · rw [g6]; exact .lit _
    · rw [h7]; exact .lit _
  have hgo':=hgo
  simp only [cW,tW,bodyM,Tryz.f27,Option.getD_some] at hgo'
  simp only [op6W,restW,bodyM,Tryz.f27,Option.getD_some]
  refine win_move hW rfl hok (fun w=>stepG_region_end) ?_
  refine win_move hW rfl hok (fun w=>stepG_seq) ?_
  refine win_move hW rfl hok (fun w=>stepG_seq) ?_
  refine AWP_sound follows_mixed (fun _=>rfl) _ (fun e σ=>e=.normal∧σ.Γ 2=.d (.lit (ptr0 bA))∧σ.Γ 6=.d (.lit (ptr0 bR))∧σ.Γ 7=.d (.lit (ptr0 Wg))∧σ.Γ 26=.d (.sl lD)∧σ.Γ 27=.d (.i .i64 p.n)∧σ.Γ 28=.d (.i .i64 0)) _ _ _ (by kernel_rfl) (by kernel_rfl) ?hawp hsr _ hW hok _ _ _ hb fun e a6 V6 hv6 hq=>?_
  case hawp =>
    simp [-ζ,-ξ,↓KW,hL0]
  obtain ⟨σ,⟨rfl,q2,q6,q7,q26,q27,q28⟩,_,_,_,F,ι,hR,_,hV,⟨hN6,_⟩,hds6,_⟩:=hq
  simp only [Owes]
  refine win_move hW rfl hv6 (fun w=>stepG_block) ?_
  refine win_move hW rfl hv6 (fun w=>stepG_loop) ?_
  have hs:SameC (fun b=>b<V.heap.size) V V6:=fun b hb c e f hc=>⟨f,by rw [hR.kept.block b hb (fun h=>h)]; exact hc⟩
  have hf:∀ b,b<V.heap.size→b<V6.heap.size:=fun b hb=>Nat.lt_of_lt_of_le hb hR.kept.size
  refine hgo' a6 V6 ⟨hN6,hds6,v_lit (q2 ▸ hV 2),v_lit (q6 ▸ hV 6),v_lit (q7 ▸ hV 7),?_,v_i (q27 ▸ hV 27),v_i (q28 ▸ hV 28),hv6,(hfA _ _ _ _ hs hdA).mono hf,(frzD_pt (by simp [frzD_lit]) _ _ _ _ hs hdR).mono hf⟩
  have h:=hV 26; rw [q26] at h
  cases h with | d _ _ h=>exact h.mono hR.F_lt
end Go.Am
end
section
open List renaming map_map→ζ,mapM_map→ξ
open Go Go.Am Go.Proofs
namespace Go.Am
open Go.Conc Go.Conc.Lib Go.RowKit Go.ConcR.Gen
open Go.ConcR (KK wgBlock stA smA rd wr mk)
def valW (Pv Vv:Nat→Int) (i r:Nat):Value:=match r with
  | 0=>.int .i64 i
  | 1=>.int .u64 (Pv i)
  | _=>.int .u64 (Vv i)
def rowsW (Pv Vv:Nat→Int) (n:Nat):List (List D):=(List.range n).map fun (i:Nat)=>[.i .i64 (i:Int),.i .u64 (Pv i),.i .u64 (Vv i)]
set_option maxRecDepth 100000 in
set_option maxHeartbeats 4000000 in
theorem work_mid {W0:World} {Post:Value→World→Prop} {rr:Int} {eA lD:List (List D)} {n:Nat} {Pv Vv Ev:Nat→Int} (hn:lD.length=n) (hn2:n≤1000000) (hfE:FrzD (.sl eA)) (hlD:∀ k,k<n→lD[k]? = some [.i .u64 (Pv k)])
    (hres:∀ k,k<n→letI:=goMch Tryz.prog false; Spec Tryz.prog 74 [.ag [.i .i64 rr,.i .i64 rr,.sl eA],.i .u64 (Pv k)] (.tp [.ag [.i .u64 (Pv k),.i .u64 (Vv k)],.i .i64 (Ev k)]))
    {A:Nat→Prop} {W V:World} {σ:St} {a:Act} {c:Frame} {cs:List Frame} (hsr:SR ⟨W,A,none',fun _=>True,fun _=>none⟩ 38 [] σ a V)
    (q1:σ.Γ 1=.d (.sl lD)) {iA iR iC:Nat} (hne1:iA≠iC) (hne2:iR≠iC) (q2:σ.Γ 2=.ptr iA 0) (qA:σ.H iA=some (.cells 61 [.d (.i .i64 rr),.d (.i .i64 rr),.d (.sl eA)])) (q6:σ.Γ 6=.ptr iR 0) (qR:σ.H iR=some (.cells 27 [.own iC 0 n 3])) {csC:List AV} (qC:σ.H iC=some (.cells 78 csC)) (hlC:n * 3≤csC.length)
    (hk:∀ x v',OkV v'→(Below W.heap.size W v'∧VD (fun b=>A b∨(W.heap.size≤b∧b<v'.heap.size)) v' (.tp [.sl (rowsW Pv Vv n),.i .i64 0]) x)→MainWin Tryz.prog W0 Post (G (c.finish x) cs) v') :
    MainWin Tryz.prog W0 Post (G (((base 27)).at a [.inRegion op6W [0],.code restW]) (c::cs)) V:=by
  obtain ⟨_,_,hok,F,ι,hR,_,hV,⟨hN,_⟩,hds,_⟩:=hsr
  obtain ⟨bA,hbA,e2⟩:=v_ptr (q2 ▸ hV 2)
  obtain ⟨bR,hbR,e6⟩:=v_ptr (q6 ▸ hV 6)
  -- the reports' cell
  obtain ⟨obR,hoR,hcR⟩:=hR.obj iR bR _ hbR qR
  obtain ⟨C,cap,cur,hiC,hCb,hcap,hcell⟩:∃ C cap cur,ι iC=some C∧V.heap[C]? = some (.cells cur 78 (0,0))∧n≤cap∧V.cell? ⟨bR,0,none⟩=some (.slice (some ⟨C,0,none⟩) n cap):=by
    cases hcR with
    | cells _ _ curR hl hc =>
      obtain ⟨u,hu,hv⟩:=hc 0 _ rfl
      cases hv with
      | own _ _ _ _ b cap cur e hι hb hcap hl' hm =>
        obtain ⟨obC,hoC,hcC⟩:=hR.obj iC b _ hι qC
        cases hcC with
        | cells _ _ cur' hl2 hc2 =>
          exact ⟨b,cap,cur',hι,hoC,hl',by simp [World.cell?,hoR,hu]⟩
  obtain ⟨obC,hoC,hcC⟩:=hR.obj iC C _ hiC qC
  have hfit:n * 3≤cur.size:=by
    rw [hCb] at hoC; obtain rfl:=Option.some.inj hoC
    cases hcC with
    | cells _ _ _ hl2 hc2=>omega
  have hnA:bA≠C:=fun e=>hne1 (hR.inj iA iC bA hbA (e ▸ hiC) (fun h=>h) (fun h=>h))
  have hnR:bR≠C:=fun e=>hne2 (hR.inj iR iC bR hbR (e ▸ hiC) (fun h=>h) (fun h=>h))
  have hCW:W.heap.size≤C:=(hR.place iC C hiC).1.elim (fun h=>h.elim) id
  have hCF:¬ F C:=(hR.place iC C hiC).2.2 (fun h=>h)
  have hbRlt:bR<V.heap.size:=lt_of_get hoR
  let p:Pl:={ C:=C,wd:=3,n:=n,ety:=78,val:=valW Pv Vv,pos:=by decide,tot:=cur.size,le:=hfit }
  have hfL:FrzD (.sl lD):=frzD_sl fun r hr x hx=>by
    obtain ⟨k,hk',rfl⟩:=List.mem_iff_getElem.1 hr
    have:=hlD k (by omega)
    rw [List.getElem?_eq_getElem hk'] at this
    rw [Option.some.inj this] at hx
    simp at hx; subst hx; exact frzD_i _ _
  have hfA:FrzD (.pt [.i .i64 rr,.i .i64 rr,.sl eA]):=frzD_pt (by
    intro x hx
    simp at hx
    rcases hx with rfl | rfl
    · exact frzD_i _ _
    · exact hfE)
  have hdA:=own_pt (cs:=[.i .i64 rr,.i .i64 rr,.sl eA]) hR hbA qA
  have hdR:VD (fun b=>b=bR) V (.pt [.lit (.slice (some ⟨C,0,none⟩) n cap)]) (ptr0 bR) :=
    .pt _ _ (fun _=>.slice (some ⟨C,0,none⟩) n cap) rfl (fun j hj=>by
      have:j=0:=by simp at hj; omega
      subst this; rw [add_mk]; exact hcell) fun k c hk=>by
      cases k with
      | zero=>simp at hk; subst hk; exact .lit _
      | succ k=>simp at hk
  have hd1:VD F V (.sl lD) (a.tmps.getD 1 undef):=by
    have h:=hV 1; rw [q1] at h
    cases h with | d _ _ h=>exact h
  refine phase_win (L:=wgLink) (p:=p) (g1:=fun Wg=>G (((base 27)).at (a.put (some 7) (ptr0 Wg)) [.inRegion op6W [],.code restW]) (c::cs)) rfl (fun v1 w he ho hs=>?_) ⟨cur,hCb,rfl⟩ (show (78:Nat)≠0 by decide) (show n<2147483648 by omega) fun v1 he ho=>?_
  · simp only [op6W,restW,bodyM,Tryz.f27,Option.getD_some]
    exact (stepG_value rfl rfl (by k_ne) (alloc_op rfl w).1).trans (by unfold listed; rw [(alloc_op rfl w).2,seen_none]; rfl)
  have hsz1:=he.size
  have hret:∀ v',FinW p v1 v'→MainWin Tryz.prog W0 Post (G (c.finish (.tuple #[.slice (some ⟨C,0,none⟩) n cap,.int .i64 0])) cs) v':=fun v' hF=>by
    obtain ⟨cs',g1,g2,g3⟩:=hF.val
    have hlt:C<v'.heap.size:=lt_of_get g1
    refine hk _ v' hF.ok ⟨⟨(hF.os.trans he.os).trans hR.kept.os,(hF.tape.trans he.tape).trans hR.kept.tape,(hF.output.trans he.output).trans hR.kept.output,Nat.le_trans hR.kept.size (Nat.le_trans hsz1 (Nat.le_of_lt hF.size)),fun b hb=>?_⟩,?_⟩
    · have hb1:b<V.heap.size:=Nat.lt_of_lt_of_le hb hR.kept.size
      rw [hF.old b (Nat.lt_of_lt_of_le hb1 hsz1) (by show b≠C; omega),he.get hb1]
      exact hR.kept.block b hb (fun h=>h)
    · refine .tp _ _ rfl fun k d y hd hy=>?_
      match k with
      | 0 =>
        simp at hd hy; subst hd; subst hy
        refine .sl _ _ n cap 3 (fun j=>cs'.getD j undef) (by simp [rowsW]) hcap (fun r hr=>?_) (.inr ⟨hCW,hlt⟩) (fun j hj=>?_) fun j k r d h1 h2=>?_
        · obtain ⟨i,_,rfl⟩:=List.mem_map.1 hr; rfl
        · have:j<cs'.size:=by rw [g2]; show j<cur.size; omega
          have g1':v'.heap[C]? = some (.cells cs' 78 (0,0)):=g1
          simp [add_mk,World.cell?,g1',this]
        · simp only [rowsW,List.getElem?_map,List.getElem?_range] at h1
          obtain ⟨i,hi,rfl⟩:=Option.map_eq_some_iff.1 h1
          have hij:i=j∧j<n:=by
            rcases Nat.lt_or_ge j n with h | h
            · rw [List.getElem?_range h] at hi; exact ⟨(Option.some.inj hi).symm,h⟩
            · rw [List.getElem?_eq_none (by simpa using h)] at hi; cases hi
          obtain ⟨rfl,hjn⟩:=hij
          have hv:=fun r hr=>g3 i hjn r hr
          match k with
          | 0 =>
            simp at h2; subst h2
            have:=hv 0 (show 0<3 by decide)
            simp only [Array.getD_eq_getD_getElem?]
            rw [show cs'[i * 3+0]? = some (valW Pv Vv i 0) from this]; exact .i _ _
          | 1 =>
            simp at h2; subst h2
            have:=hv 1 (show 1<3 by decide)
            simp only [Array.getD_eq_getD_getElem?]
            rw [show cs'[i * 3+1]? = some (valW Pv Vv i 1) from this]; exact .i _ _
          | 2 =>
            simp at h2; subst h2
            have:=hv 2 (show 2<3 by decide)
            simp only [Array.getD_eq_getD_getElem?]
            rw [show cs'[i * 3+2]? = some (valW Pv Vv i 2) from this]; exact .i _ _
          | k+3=>simp at h2
      | 1=>simp at hd hy; subst hd; subst hy; exact .i _ _
      | k+2=>simp at hd
  have hcell1:v1.cell? ⟨bR,0,none⟩=some (.slice (some ⟨C,0,none⟩) n cap):=by
    rw [← hcell]; exact cell_eq_of_block (he.get hbRlt)
  let An:Goroutine→Prop:=fun g=>∃ a:Act,a.tmps.getD 6 undef=ptr0 bR∧a.tmps.size=38∧a.defers=[]∧HeadW wgLink v1.heap.size (((base 27)).at a [.inRegion opsW [0],.code tW2]) (c::cs) g
  have hHd:∀ g,An g→Dl Tryz.prog true (WgLv wgLink.tWg v1.heap.size) (saidE v1.heap.size) (fun d g=>d=1∧AtLd Tryz.prog wgLink v1.heap.size (KF Tryz.prog W0 Post p v1) An d g) 1 g:=by
    rintro g ⟨a',h6,hN',hds',hh⟩
    exact (waitRound wgLib (work_ret (p:=p) h6 hN' hds' (Nat.lt_of_lt_of_le hbRlt hsz1) hnR hcell1 hret) hh).mono fun d g hx=>⟨hx.1,atLd_mono (fun g hg=>⟨a',h6,hN',hds',hg⟩) hx.2⟩
  refine ⟨An,hHd,?_⟩
  have hin:∀ F':Nat→Prop,(∀ b,F' b→b≠C)→SameC F' V (inV v1 C):=fun F' hF'=>(sameC_env he).trans (sameC_inV hF')
  have hlt':∀ b,b<V.heap.size→b<(inV v1 C).heap.size:=fun b hb=>by rw [inV_size]; omega
  refine work_start (p:=p) (inV_ok v1 C) hN hds e2 e6 ((hfL _ _ _ _ (hin F fun b hb e=>hCF (e ▸ hb)) hd1).mono fun b hb=>hlt' b (hR.F_lt b hb)) hn hn2 hfA hfL
    ((hfA _ _ _ _ (hin _ fun b hb e=>hb.elim (fun h=>hnA (h ▸ e)) fun h=>hCF (e ▸ h)) hdA).mono fun b hb=>hlt' b (hb.elim (fun h=>by rw [h]; exact lt_of_get (hR.obj iA bA _ hbA qA).choose_spec.1) (hR.F_lt b)))
    ((frzD_pt (by simp [frzD_lit]) _ _ _ _ (hin (fun b=>b=bR) fun b hb e=>hnR (hb ▸ e)) hdR).mono fun b hb=>hlt' b (hb ▸ hbRlt)) fun a' V' hri=>?_
  refine rounds (p:=p) hn (show n<2147483648 by omega) hfA hfL (fun k hkn=>⟨Pv k,hlD k hkn,fun V' Bp Bi h1 h2 h3 h4 h5=>work_gt (p:=p) rfl hkn rfl rfl rfl rfl h1 h2 h3 h4 h5 (hres k hkn)⟩) (fun a h6 hN hds g hh=>⟨a,h6,hN,hds,hh⟩) hHd n 0 a' V' (by show 0+n=n; omega) hri
set_option maxRecDepth 100000 in
set_option maxHeartbeats 4000000 in
theorem workSpec {rr:Int} {eA lD:List (List D)} {n:Nat} {Pv Vv Ev:Nat→Int} (hn:lD.length=n) (hn2:n≤1000000) (hfE:FrzD (.sl eA)) (hlD:∀ k,k<n→lD[k]? = some [.i .u64 (Pv k)])
    (hvalid:letI:=mainMch Tryz.prog; Spec Tryz.prog 69 [.ag [.i .i64 rr,.i .i64 rr,.sl eA]] (.b true)) (hdiff:letI:=mainMch Tryz.prog; Spec Tryz.prog 70 [.sl lD] (.b true))
    (hres:∀ k,k<n→letI:=goMch Tryz.prog false; Spec Tryz.prog 74 [.ag [.i .i64 rr,.i .i64 rr,.sl eA],.i .u64 (Pv k)] (.tp [.ag [.i .u64 (Pv k),.i .u64 (Vv k)],.i .i64 (Ev k)])) :
    letI:=mainMch Tryz.prog; Spec Tryz.prog 27 [.ag [.i .i64 rr,.i .i64 rr,.sl eA],.sl lD] (.tp [.sl (rowsW Pv Vv n),.i .i64 0]):=by
  letI:=mainMch Tryz.prog
  intro A W vs hA hl hv
  refine ⟨fun w=>by simp [callFunc,Tryz.func27,Tryz.f27],cx_main fun W0 Post c cs hk hok=>?_⟩
  have hW:(mainMch Tryz.prog).Fam (MainWin Tryz.prog W0 Post):=.inl ⟨W0,Post,rfl⟩
  have hb:Calm (base 27):=.inl rfl
  rw [enter_at vs Tryz.func27 (show Tryz.f27.body=some bodyM from rfl)]
  have hsr:=SR0 (N:=38) hok hA hl hv (by simp)
  have hfr:=work_front hn hn2 hvalid hdiff
  have hmid:∀ {σ:St} {a:Act} {V:World},_:=fun {σ a V}=>@work_mid W0 Post rr eA lD n Pv Vv Ev hn hn2 hfE hlD hres A W V σ a c cs
  simp only [op6W,restW,bodyM,Tryz.f27,Option.getD_some] at hmid
  simp only [x1W,x3W,r5W,bodyM,Tryz.f27,Option.getD_some] at hfr
  simp only [bodyM,Tryz.f27,Option.getD_some]
  refine win_move hW rfl hok (fun w=>stepG_seq) ?_
  refine AWP_sound follows_mixed (fun _=>rfl) _ _ _ _ _ (by kernel_rfl) (by kernel_rfl) hfr hsr _ hW hok _ _ _ hb fun e a1 V1 hv1 hq=>?_
  obtain ⟨σ1,⟨rfl,hfr1⟩,hsr1⟩:=hq
  simp only [Owes]
  refine win_move hW rfl hv1 (fun w=>stepG_seq) ?_
  refine AWP_sound follows_mixed (fun _=>rfl) _ _ _ _ _ (by kernel_rfl) (by kernel_rfl) hfr1 hsr1 _ hW hv1 _ _ _ hb fun e a2 V2 hv2 hq=>?_
  obtain ⟨σ2,⟨rfl,hfr2⟩,hsr2⟩:=hq
  simp only [Owes]
  refine win_move hW rfl hv2 (fun w=>stepG_seq) ?_
  refine AWP_sound follows_mixed (fun _=>rfl) _ _ _ _ _ (by kernel_rfl) (by kernel_rfl) hfr2 hsr2 _ hW hv2 _ _ _ hb fun e a3 V3 hv3 hq=>?_
  obtain ⟨σ3,⟨rfl,hfr3⟩,hsr3⟩:=hq
  simp only [Owes]
  refine win_move hW rfl hv3 (fun w=>stepG_seq) ?_
  refine AWP_sound follows_mixed (fun _=>rfl) _ _ _ _ _ (by kernel_rfl) (by kernel_rfl) hfr3 hsr3 _ hW hv3 _ _ _ hb fun e a4 V4 hv4 hq=>?_
  obtain ⟨σ4,⟨rfl,q1,iA,iR,iC,hne1,hne2,q2,qA,q6,qR,csC,qC,hlC⟩,hsr4⟩:=hq
  simp only [Owes]
  refine win_move hW rfl hv4 (fun w=>stepG_seq) ?_
  refine win_move hW rfl hv4 (fun w=>stepG_region) ?_
  exact hmid hsr4 q1 hne1 hne2 q2 qA q6 qR qC hlC hk
end Go.Am
end
section
open List renaming map_map→ζ,mapM_map→ξ
open Go Go.Am Go.Proofs
namespace Go.Am
theorem kW1:letI:=mainMch Tryz.prog; Spec Tryz.prog 27 [mA,.sl [[.i .u64 5],[.i .u64 3]]] (.tp [.sl [rp 0 5 4,rp 1 3 2],.i .i64 0]):=by
  refine workSpec (rr:=1) (eA:=[[.sl [[.b true,.sl [[.i .u32 1]]]]]]) (lD:=[[.i .u64 5],[.i .u64 3]]) (n:=2) (Pv:=fun k=>if k=0 then 5 else 3) (Vv:=fun k=>if k=0 then 4 else 2) (Ev:=fun _=>0) rfl (by decide) ?_ ?_ ?_ ?_ ?_
  · refine frzD_sl fun cs h c hc=>?_
    simp only [List.mem_singleton] at h; subst h
    simp only [List.mem_singleton] at hc; subst hc
    refine frzD_sl fun cs h c hc=>?_
    simp only [List.mem_singleton] at h; subst h
    simp only [List.mem_cons,List.not_mem_nil,or_false] at hc
    rcases hc with rfl | rfl
    · exact frzD_b _
    · refine frzD_sl fun cs h c hc=>?_
      simp only [List.mem_singleton] at h; subst h
      simp only [List.mem_singleton] at hc; subst hc
      exact frzD_i _ _
  · intro k hk
    have:k=0∨k=1:=by omega
    rcases this with rfl | rfl <;> rfl
  · letI:=mainMch Tryz.prog
    exact kVa
  · letI:=mainMch Tryz.prog
    exact kDi
  · intro k hk
    letI:=goMch Tryz.prog false
    have:k=0∨k=1:=by omega
    rcases this with rfl | rfl
    · exact kR5
    · exact kR3
def sA:St:=StL [(1,.d (.sl rl4)),(2,.ptr 1 0)] none [.cells 31 [.d (.b false),.d (.sl [[.i .u32 10]])]]
def vA:HO:=.cells 34 [.d (.b false),.d (.sl [[.i .u32 5]]),.d (.sl [[.i .i64 3]])]
def vB:HO:=.cells 34 [.d (.b false),.d (.sl [[.i .u32 5]]),.d (.sl [])]
def sB:St:=StL [(1,.d (.sl rl4)),(2,.ptr 1 0),(3,.ptr 2 0),(4,.d (.i .i64 0)),(6,.d (.i .i64 200)),(7,.ptr 3 0),(8,.d (.i .i64 0))] none [.cells 31 [.d (.b false),.d (.sl [[.i .u32 10]])],vA,vB]
def lC:List (Nat × AV):=[(1,.d (.sl rl4)),(3,.ptr 1 0),(4,.d (.i .i64 0)),(6,.d (.i .i64 200)),(7,.ptr 2 0),(8,.d (.i .i64 0)),(10,.d (.i .i64 201)),(12,.d (.i .i64 1)),(14,.d (.i .i64 40))]
def sC:St:=StL lC none [vA,vB]
def lD2:List (Nat × AV):=lC++[(15,.d (.sl [rp 0 5 4,rp 1 3 2])),(16,.d (.i .i64 0))]
def sD:St:=StL lD2 none [vA,vB]
def lE:List (Nat × AV):=lD2++[(18,.d (.i .i64 50)),(20,.d (.i .i64 40))]
def sE:St:=StL lE none [vA,vB]
def sF:St:=StL (lE++[(21,.d (.b true))]) none [vA,vB]
def sG:St:=StL [(1,.d (.sl rl4)),(15,.d (.sl [rp 0 5 4,rp 1 3 2])),(16,.d (.i .i64 0)),(18,.d (.i .i64 50)),(20,.d (.i .i64 40)),(21,.d (.b true)),(22,.d (.b true))] none []
def sH:St:=StL [(1,.d (.sl rl4)),(21,.d (.b true)),(22,.d (.b true)),(23,.d (.b true))] none []
theorem kX1 [M:Mch Tryz.prog]:Spec Tryz.prog 36 [.i .i64 0,.i .u64 7,.i .u64 5] (.ag (rp 0 7 5)):=kRe 0 7 5
theorem kX2 [M:Mch Tryz.prog]:Spec Tryz.prog 36 [.i .i64 1,.i .u64 11,.i .u64 5] (.ag (rp 1 11 5)):=kRe 1 11 5
theorem kX3 [M:Mch Tryz.prog]:Spec Tryz.prog 36 [.i .i64 2,.i .u64 13,.i .u64 5] (.ag (rp 2 13 5)):=kRe 2 13 5
theorem kX4 [M:Mch Tryz.prog]:Spec Tryz.prog 36 [.i .i64 3,.i .u64 17,.i .u64 0] (.ag (rp 3 17 0)):=kRe 3 17 0
theorem kX5 [M:Mch Tryz.prog]:Spec Tryz.prog 11 [.i .i64 10] (iv 10):=kOf 10
theorem kX6 [M:Mch Tryz.prog]:Spec Tryz.prog 11 [.i .i64 3] (iv 3):=kOf 3
theorem kX7 [M:Mch Tryz.prog]:Spec Tryz.prog 36 [.i .i64 0,.i .u64 7,.i .u64 1] (.ag (rp 0 7 1)):=kRe 0 7 1
theorem kX8 [M:Mch Tryz.prog]:Spec Tryz.prog 36 [.i .i64 1,.i .u64 11,.i .u64 2] (.ag (rp 1 11 2)):=kRe 1 11 2
theorem kX9 [M:Mch Tryz.prog]:Spec Tryz.prog 36 [.i .i64 0,.i .u64 8,.i .u64 1] (.ag (rp 0 8 1)):=kRe 0 8 1
theorem kX10 [M:Mch Tryz.prog]:Spec Tryz.prog 20 [encU [2147483647,2147483629],encU [2147483647,2147483629]] (.b true):=kNu [2147483647,2147483629] [2147483647,2147483629]
theorem kX11 [M:Mch Tryz.prog]:Spec Tryz.prog 11 [.i .i64 1] (iv 1):=kOf 1
theorem kX12 [M:Mch Tryz.prog]:Spec Tryz.prog 20 [encU [2147483647],encU [2147483647]] (.b true):=kNu [2147483647] [2147483647]
theorem kX13 [M:Mch Tryz.prog]:Spec Tryz.prog 11 [.i .i64 5] (iv 5):=kOf 5
theorem kX14 [M:Mch Tryz.prog]:Spec Tryz.prog 13 [vd 5 [3],vd 5 [3]] (.b true):=kSa 5 [3]
theorem kX15 [M:Mch Tryz.prog]:Spec Tryz.prog 13 [vd 5 [],vd 5 []] (.b true):=kSa 5 []
theorem kX15' [M:Mch Tryz.prog]:Spec Tryz.prog 13 [.ag [.b false,.sl [[.i .u32 5]],.sl []],.ag [.b false,.sl [[.i .u32 5]],.sl []]] (.b true):=kX15
theorem kX16 [M:Mch Tryz.prog]:Spec Tryz.prog 36 [.i .i64 0,.i .u64 5,.i .u64 4] (.ag (rp 0 5 4)):=kRe 0 5 4
theorem kX17 [M:Mch Tryz.prog]:Spec Tryz.prog 36 [.i .i64 1,.i .u64 3,.i .u64 2] (.ag (rp 1 3 2)):=kRe 1 3 2
theorem owd_gen {P:Program} [M:Mch P] (ts:List Nat) {ops:Array Oper} {l:List Oper} {σ:St} {con:List Nat} {kk:St→List Nat→Prop} {d:Dm (ops,l,kk)}
    (hc:con=[]) (h:∀ Γ' H' n',(∀ t∈ts,Γ' t=σ.Γ t)→OWd P ops l ⟨Γ',H',n'⟩ [] kk .mk):OWd P ops l σ con kk d:=by
  rw [hc]; exact h σ.Γ σ.H σ.n fun _ _=>rfl
set_option maxHeartbeats 8000000 in
set_option maxRecDepth 10000 in
theorem sanity20:letI:=mainMch Tryz.prog; Spec Tryz.prog 8 [] (.b true):=by
  letI:=mainMch Tryz.prog
  have w1:=kW1
  have hN1:NSpec Tryz.prog 38 [.i .i64 1,.i .i64 2] (nwV 1 2) (mB 2 [[0,0]]):=r05New 1 2 (by decide) (by decide)
  have hmB1:∀ n,mB 2 [[0,0]] n=[.cells 110 [.own (n+1) 0 2 2],.cells 31 [.d (.b (decide ((0:Int)<0))),.d (encM (digs (0:Int).natAbs)),.d (.b (decide ((0:Int)<0))),.d (encM (digs (0:Int).natAbs))]]:=fun n=>by simp [mB,hdr,rowO,vcs,encN]
  have hN0:NSpec Tryz.prog 38 [.i .i64 0,.i .i64 0] (nwV 0 0) (mB 0 []):=r05New 0 0 (by decide) (by decide)
  have hmB0:∀ n,mB 0 [] n=[.cells 110 []]:=fun n=>rfl
  have hd0:encM (digs 0)=.sl []:=by rw [digs_zero]; rfl
  obtain ⟨m12',hm12⟩:∃ m,m=D.ag [.i .i64 1,.i .i64 2,.sl [[.sl [[.b false,encM (digs 0)],[.b false,encM (digs 0)]]]]]:=⟨_,rfl⟩
  have hk2:Spec Tryz.prog 27 [m12',.sl []] (.tp [.sl [],.i .i64 50]):=by
    rw [hm12,hd0]; exact kW2
  subst hm12
  have fl2:∀ l:List (List D),flat1 (.sl l)=false:=fun _=>rfl
  have fl:∀ l m:List (List D),flat1 (.ag [.b false,.sl l,.sl m])=false:=fun _ _=>rfl
  refine spec_ofN (N:=171) [true,true,true,false,true,true,true,false,true,true,true,false,true,false,true,true,false,true,false,true,false,true,false] follows_mixed Tryz.func8 rfl rfl rfl (by kernel_rfl) (by kernel_rfl) (by simp) ?_
  simp [-ζ,-ξ,↓KW,↓awpn_true,↓awpn_false,↓awpn_nil]
  refine callQ kX1 ?_
  simp [-ζ,-ξ,↓KW,rp,↓awpn_true,↓awpn_false,↓awpn_nil]
  refine callQ kX2 ?_
  simp [-ζ,-ξ,↓KW,rp,↓awpn_true,↓awpn_false,↓awpn_nil]
  refine callQ kX3 ?_
  simp [-ζ,-ξ,↓KW,rp,↓awpn_true,↓awpn_false,↓awpn_nil]
  refine callQ kX4 ?_
  simp [-ζ,-ξ,↓KW,rp,↓awpn_true,↓awpn_false,↓awpn_nil]
  refine callQ kX5 ?_
  simp [-ζ,-ξ,↓KW,iv,↓awpn_true,↓awpn_false,↓awpn_nil]
  refine wkP_intro sA ?_ ?_
  · unfold sA
    refine wkQ [2] ?_ ?_
    · simp [-ζ,upd,inj1,Γ0,rl4,rp]
      refine sub_frz (by rfl) (fun a ha id hid=>?_)
      have ha':a=1:=by simpa [-ζ,-ξ,upd] using ha
      rw [ha']
      exact rhoL_ne hid (by simp) (by decide)
    · simp [-ζ,upd,inj1,Γ0]
  simp [-ζ,-ξ,↓KW,sA,rl4,rp,↓awpn_true,↓awpn_false,↓awpn_nil]
  refine callQ kC1 ?_
  simp [-ζ,-ξ,↓KW,iv,vd,fl,↓awpn_true,↓awpn_false,↓awpn_nil]
  refine callQ kC2 ?_
  simp [-ζ,-ξ,↓KW,iv,vd0,fl,↓awpn_true,↓awpn_false,↓awpn_nil]
  refine callQ kC3 ?_
  simp [-ζ,-ξ,↓KW,iv,vd,fl,↓awpn_true,↓awpn_false,↓awpn_nil]
  refine wkP_intro sB ?_ ?_
  · unfold sB vA vB
    refine wkQ [1,2,4] ?_ ?_ <;> simp [-ζ,upd,inj1,Γ0,rl4,rp]
  simp [-ζ,-ξ,↓KW,sB,vA,vB,rl4,rp,↓awpn_true,↓awpn_false,↓awpn_nil]
  refine callQ kX6 ?_
  simp [-ζ,-ξ,↓KW,iv,↓awpn_true,↓awpn_false,↓awpn_nil]
  refine callQ kX7 ?_
  simp [-ζ,-ξ,↓KW,rp,↓awpn_true,↓awpn_false,↓awpn_nil]
  refine callQ kX8 ?_
  simp [-ζ,-ξ,↓KW,rp,↓awpn_true,↓awpn_false,↓awpn_nil]
  refine callQ kC4 ?_
  simp [-ζ,-ξ,↓KW,iv,vd0,fl,↓awpn_true,↓awpn_false,↓awpn_nil]
  refine callQ kC5 ?_
  simp [-ζ,-ξ,↓KW,iv,vd0,fl,↓awpn_true,↓awpn_false,↓awpn_nil]
  refine callQ kX9 ?_
  simp [-ζ,-ξ,↓KW,rp,↓awpn_true,↓awpn_false,↓awpn_nil]
  refine callQ kC6 ?_
  simp [-ζ,-ξ,↓KW,iv,vd0,fl,↓awpn_true,↓awpn_false,↓awpn_nil]
  refine wkP_intro sC ?_ ?_
  · unfold sC lC vA vB
    refine wkQ [2,3] ?_ ?_ <;> simp [-ζ,upd,inj1,Γ0,rl4,rp]
  simp [-ζ,-ξ,↓KW,sC,lC,vA,vB,rl4,rp,↓awpn_true,↓awpn_false,↓awpn_nil]
  refine callQ kInts ?_
  simp [-ζ,-ξ,↓KW,mA,↓awpn_true,↓awpn_false,↓awpn_nil]
  refine callQ w1 ?_
  simp [-ζ,-ξ,↓KW,rp,fl2,↓awpn_true,↓awpn_false,↓awpn_nil]
  refine wkP_intro sD ?_ ?_
  · unfold sD lD2 lC vA vB
    refine wkQ [1,2] ?_ ?_ <;> simp [-ζ,upd,inj1,Γ0,rl4,rp]
  simp [-ζ,-ξ,↓KW,sD,lD2,lC,vA,vB,rl4,rp,↓awpn_true,↓awpn_false,↓awpn_nil]
  refine o1_ncall [.i .i64 1,.i .i64 2] (nwV 1 2) (mB 2 [[0,0]]) (by simp) (by simp) (by simp) (by rfl) (by rfl) hN1 ?_
  simp [-ζ,-ξ,↓KW,nwV,hmB1,ext_two,↓awpn_true,↓awpn_false,↓awpn_nil]
  refine callQ hk2 ?_
  simp [-ζ,-ξ,↓KW,fl2,nwV,hmB1,ext_two,visC,kill,↓awpn_true,↓awpn_false,↓awpn_nil]
  refine o1_ncall [.i .i64 0,.i .i64 0] (nwV 0 0) (mB 0 []) (by simp) (by simp) (by simp) (by rfl) (by rfl) hN0 ?_
  simp [-ζ,-ξ,↓KW,nwV,hmB0,extB_one,↓awpn_true,↓awpn_false,↓awpn_nil]
  refine callQ kW3 ?_
  simp [-ζ,-ξ,↓KW,fl2,nwV,hmB0,extB_one,visC,kill,↓awpn_true,↓awpn_false,↓awpn_nil]
  refine wkP_intro sE ?_ ?_
  · unfold sE lE lD2 lC vA vB
    refine wkQ [1,2] ?_ ?_ <;> simp [-ζ,upd,inj1,Γ0,rl4,rp]
  simp [-ζ,-ξ,↓KW,sE,lE,lD2,lC,vA,vB,rl4,rp,↓awpn_true,↓awpn_false,↓awpn_nil]
  refine callQ kOf0 ?_
  simp [-ζ,-ξ,↓KW,iv0,↓awpn_true,↓awpn_false,↓awpn_nil]
  refine callQ kP1 ?_
  simp [-ζ,-ξ,↓KW,encU,fl2,↓awpn_true,↓awpn_false,↓awpn_nil]
  refine callQ kX10 ?_
  simp [-ζ,-ξ,↓KW,↓awpn_true,↓awpn_false,↓awpn_nil]
  refine callQ kX11 ?_
  simp [-ζ,-ξ,↓KW,iv,↓awpn_true,↓awpn_false,↓awpn_nil]
  refine callQ kP2 ?_
  simp [-ζ,-ξ,↓KW,encU,fl2,↓awpn_true,↓awpn_false,↓awpn_nil]
  refine callQ kX12 ?_
  simp [-ζ,-ξ,↓KW,↓awpn_true,↓awpn_false,↓awpn_nil]
  refine callQ kOf0 ?_
  simp [-ζ,-ξ,↓KW,iv0,↓awpn_true,↓awpn_false,↓awpn_nil]
  refine callQ kP3 ?_
  simp [-ζ,-ξ,↓KW,encU,fl2,↓awpn_true,↓awpn_false,↓awpn_nil]
  refine wkP_intro sF ?_ ?_
  · unfold sF lE lD2 lC vA vB
    refine wkQ [1,2] ?_ ?_ <;> simp [-ζ,upd,inj1,Γ0,rl4,rp]
  simp [-ζ,-ξ,↓KW,sF,lE,lD2,lC,vA,vB,rl4,rp,↓awpn_true,↓awpn_false,↓awpn_nil]
  refine callQ kX13 ?_
  simp [-ζ,-ξ,↓KW,iv,↓awpn_true,↓awpn_false,↓awpn_nil]
  refine callQ kX14 ?_
  simp [-ζ,-ξ,↓KW,↓awpn_true,↓awpn_false,↓awpn_nil]
  refine callQ kX13 ?_
  simp [-ζ,-ξ,↓KW,iv,↓awpn_true,↓awpn_false,↓awpn_nil]
  refine callQ kX15' ?_
  refine owd_gen [1,10,12,14,15,16,18,20,21,122,126] (by rfl) ?_
  intro Γ' H' n' hΓ
  have g1:Γ' 1=.d (.sl rl4):=(hΓ 1 (by decide)).trans (by rfl)
  have g2:Γ' 10=.d (.i .i64 201):=(hΓ 10 (by decide)).trans (by rfl)
  have g3:Γ' 12=.d (.i .i64 1):=(hΓ 12 (by decide)).trans (by rfl)
  have g4:Γ' 14=.d (.i .i64 40):=(hΓ 14 (by decide)).trans (by rfl)
  have g5:Γ' 15=.d (.sl [rp 0 5 4,rp 1 3 2]):=(hΓ 15 (by decide)).trans (by rfl)
  have g6:Γ' 16=.d (.i .i64 0):=(hΓ 16 (by decide)).trans (by rfl)
  have g7:Γ' 18=.d (.i .i64 50):=(hΓ 18 (by decide)).trans (by rfl)
  have g8:Γ' 20=.d (.i .i64 40):=(hΓ 20 (by decide)).trans (by rfl)
  have g9:Γ' 21=.d (.b true):=(hΓ 21 (by decide)).trans (by rfl)
  have g10:Γ' 122=.d (.b true):=(hΓ 122 (by decide)).trans (by rfl)
  have g11:Γ' 126=.d (.b true):=(hΓ 126 (by decide)).trans (by rfl)
  clear hΓ
  simp [-ζ,-ξ,↓KW,g1,g2,g3,g4,g5,g6,g7,g8,g9,g10,g11,↓awpn_true,↓awpn_false,↓awpn_nil]
  refine wkP_intro sG ?_ ?_
  · unfold sG
    refine wkQ [] ?_ ?_ <;> simp [-ζ,upd,inj1,Γ0,g1,g5,g6,g7,g8,g9,rl4,rp]
  simp [-ζ,-ξ,↓KW,sG,rl4,rp,↓awpn_true,↓awpn_false,↓awpn_nil]
  refine callQ kX16 ?_
  simp [-ζ,-ξ,↓KW,rp,↓awpn_true,↓awpn_false,↓awpn_nil]
  refine callQ kX17 ?_
  simp [-ζ,-ξ,↓KW,rp,↓awpn_true,↓awpn_false,↓awpn_nil]
  refine callQ kSR ?_
  simp [-ζ,-ξ,↓KW,↓awpn_true,↓awpn_false,↓awpn_nil]
  refine wkP_intro sH ?_ ?_
  · unfold sH
    refine wkQ [] ?_ ?_ <;> simp [-ζ,upd,inj1,Γ0,rl4,rp]
  simp [-ζ,-ξ,↓KW,sH,rl4,rp,↓awpn_true,↓awpn_false,↓awpn_nil]
  refine callQ kX13 ?_
  simp [-ζ,-ξ,↓KW,iv]
  refine callQ kBl ?_
  simp [-ζ,-ξ,↓KW]
  refine callQ kIn ?_
  simp [-ζ,-ξ,↓KW]
set_option maxHeartbeats 4000000 in
set_option maxRecDepth 10000 in
theorem r20Numbers [M:Mch Tryz.prog] (l:List Nat) (hl:l.length≤1000000):Spec Tryz.prog 20 [encU l,encU l] (.b true):=by
  obtain ⟨L,hL⟩:∃ L,encU l=.sl L:=⟨_,rfl⟩
  have hn:L.length=l.length:=by injection hL with hL; rw [← hL]; simp
  have hg:∀ i,i<l.length→∃ p:Nat,L[i]? = some [.i .u64 (p:Int)]:=fun i hi=>by
    injection hL with hL; rw [← hL]
    exact ⟨l[i],by simp [List.getElem?_eq_getElem hi]⟩
  rw [hL]
  refine specQ (N:=26) Tryz.func20 ?_
  simp [-ζ,-ξ,↓KW]
  refine loopP_inv (τ:=Nat) (fun i=>i≤L.length) (fun i=>StL [(0,.d (.sl L)),(1,.d (.sl L)),(5,.d (.i .i64 (i:Int)))] none []) (fun i=>L.length - i) 0 (Nat.zero_le _) ?_ ?_
  · refine wkQ [] ?_ ?_ <;> simp [-ζ,upd,inj1,Γ0]
  · intro i hi
    have hw1:IntKind.i64.wrap ((i:Int)+1)=((i+1:Nat):Int):=wrapQ
    have hw0:IntKind.i64.wrap (i:Int)=i:=wrapQ
    by_cases hlt:i<L.length
    · obtain ⟨p,hp⟩:=hg i (by omega)
      have hp':∀ h,L[i]'h=[.i .u64 (p:Int)]:=fun h=>by rw [List.getElem?_eq_getElem h] at hp; injection hp
      simp [-ζ,-ξ,↓KW,hlt,hp,hp',hw0,hw1]
      refine nxt_intro (i+1) (by omega) (by show L.length - (i+1)<L.length - i; omega) (wkQ [] ?_ ?_) <;> simp [-ζ,upd,inj1,Γ0]
    · simp [-ζ,-ξ,↓KW,hlt]
theorem val_lt3 {l:List Nat} (h:Lim l) (hl:l.length≤3):val l<2 ^ 96:=by
  refine Nat.lt_of_lt_of_le (val_lt h) ?_
  exact Nat.le_trans (Nat.pow_le_pow_right (by decide) hl) (by decide)
theorem encU_sl (l:List Nat):∃ L,encU l=.sl L∧L.length=l.length∧∀ i,i<l.length→L[i]? = some [.i .u64 ((l[i]! : Nat):Int)]:=⟨_,rfl,by simp,fun i hi=>by rw [List.getElem?_map,List.getElem?_eq_getElem hi,getElem!_pos l i hi]; rfl⟩
def ixN (n j:Nat):Nat:=2 * n+j
set_option maxHeartbeats 8000000 in
set_option maxRecDepth 10000 in
theorem lawPrimes [M:Mch Tryz.prog] (raw:List Nat) (u:Nat) (hraw:Lim raw) (hrl:raw.length≤9223372036854775807) (hu:u<256) (hS:Spec Tryz.prog 8 [] (.b true)) :
    LawS Tryz.prog Tryz.f4 69 [encM raw,.i .u8 u] (.b true):=by
  have hMd:=r01Made (raw.take 3) false (by rw [List.length_take]; omega)
  have hlim:Lim (raw.take 3):=fun x hx=>hraw x (List.mem_of_mem_take hx)
  have hb:val (raw.take 3)<2 ^ 96:=by
    exact val_lt3 hlim (by rw [List.length_take]; omega)
  rw [strip_digs hlim] at hMd
  simp only [Bool.false_and] at hMd
  have hMd':Spec Tryz.prog 18 [encM (raw.take 3),.b false] (encZN (val (raw.take 3))):=hMd
  obtain ⟨R,hR,hRl,hRt,hRo⟩:∃ R,encM raw=.sl R∧R.length=raw.length∧encM (raw.take 3)=.sl (R.take 3)∧okHead 1 R=true:=⟨_,rfl,by simp,by simp [encM],by cases raw <;> simp [okHead]⟩
  obtain ⟨m,hm⟩:∃ m:Nat,m=if 3<R.length then 3 else R.length:=⟨_,rfl⟩
  have hmi:(if (3:Int)<(R.length:Int) then (3:Int) else (R.length:Int))=(m:Int):=by rw [hm]; split <;> split <;> omega
  have hm1:m≤R.length:=by rw [hm]; split <;> omega
  have hm2:R.take 3=R.take m:=by
    rw [hm]; split
    · rfl
    · rw [List.take_of_length_le (by omega),List.take_of_length_le (Nat.le_refl _)]
  rw [hm2] at hRt
  rw [hRt] at hMd'
  rw [hR]
  clear hMd hlim
  generalize val (raw.take 3)=b at *
  obtain ⟨n,hn⟩:∃ n,u % 4=n:=⟨_,rfl⟩
  have hn3:n≤3:=by omega
  have hP:=wPrimes b n hb hn3
  have hP2:=r20Primes b n hb hn3
  have hT:(P10.take (2 * n)).length=2 * n:=by rw [List.length_take,p10_len]; omega
  have hbig:=needL_big (2 * b) (P10.drop (2 * n)) 1 (by rw [Nat.one_mul]; exact Nat.lt_of_le_of_lt (by omega) (big_ok n hn3))
  have hlow:=needL_low (2 * b) (P10.drop (2 * n)) 1
  have hmN:∀ p∈needL (2 * b) 1 (P10.drop (2 * n)),p<2147483648:=fun p hp=>by
    have h1:=List.mem_of_mem_drop (mem_needL hp)
    have:∀ p∈P10,p<2147483648:=by decide
    exact this p h1
  have hNl:(needL (2 * b) 1 (P10.drop (2 * n))).length≤10:=by
    obtain ⟨j,hj⟩:=needL_prefix (2 * b) (P10.drop (2 * n)) 1
    rw [hj,List.length_take,List.length_drop,p10_len]; omega
  have hw:wpL b n=P10.take (2 * n)++needL (2 * b) 1 (P10.drop (2 * n)):=rfl
  generalize needL (2 * b) 1 (P10.drop (2 * n))=N at *
  generalize P10.take (2 * n)=T at *
  rw [hw] at hP hP2
  have hTN:(T++N).length≤1000000:=by rw [List.length_append]; omega
  have hNu:=r20Numbers (T++N) hTN
  have hat:∀ j,j<N.length→(T++N)[2 * n+j]! = N[j]! := fun j hj=>by
    rw [getElem!_pos (T++N) (2 * n+j) (by rw [List.length_append]; omega),getElem!_pos N j hj,List.getElem_append_right (show T.length≤2 * n+j by omega)]
    congr 1; omega
  have hll:(T++N).length=2 * n+N.length:=by rw [List.length_append,hT]
  generalize T++N=LL at *
  obtain ⟨L,hL,hLl,hLg⟩:=encU_sl LL
  rw [hL] at hP hP2 hNu
  rw [hll] at hLl
  have hO:=r01OfN (x:=1) (by omega)
  have hA:=r01AddN (x:=b) (y:=b) (by omega) (by omega)
  rw [← Nat.two_mul] at hA
  simp only [Nat.one_mul] at hbig hlow
  obtain ⟨c,hc⟩:∃ c,2 * b=c:=⟨_,rfl⟩
  rw [hc] at hA hbig hlow
  have hc255:c<2 ^ 255:=by omega
  refine lawS_intro rfl rfl (by kernel_rfl) (by kernel_rfl) (by simp) ?_
  simp [-ζ,-ξ,↓KW]
  refine callQ hS ?_
  simp [-ζ,-ξ,↓KW]
  rw [hmi]
  simp [-ζ,-ξ,↓KW,hm1,hRo]
  refine callQ hMd' ?_
  have hur:((u:Int).tmod 4)=(n:Int):=by rw [Int.tmod_eq_emod_of_nonneg (by omega)]; omega
  have hwu:IntKind.i64.wrap (n:Int)=n:=wrapQ
  have hw2:IntKind.i64.wrap (2 * (n:Int))=((2 * n:Nat):Int):=by rw [show 2 * (n:Int)=((2 * n:Nat):Int) from by omega]; exact wrapQ
  simp [-ζ,-ξ,↓KW,encZN_eq b,hur,hwu,cellsA_encM,one_encM,inj1_encM,inj_encM,kills_encM]
  refine callQ hP ?_
  simp [-ζ,-ξ,↓KW,cellsA_encM,one_encM,inj1_encM,inj_encM,kills_encM]
  refine callQ hP2 ?_
  simp [-ζ,-ξ,↓KW,cellsA_encM,one_encM,inj1_encM,inj_encM,kills_encM]
  refine callQ hNu ?_
  have hnl:¬ (L.length:Int)<2 * (n:Int):=by omega
  simp [-ζ,-ξ,↓KW,hw2,hnl,cellsA_encM,one_encM,inj1_encM,inj_encM,kills_encM]
  refine callQ hO ?_
  simp [-ζ,-ξ,↓KW,encZN_eq 1,encZN_eq b,cellsA_encM,one_encM,inj1_encM,inj_encM,kills_encM]
  refine callQ hA ?_
  simp [-ζ,-ξ,↓KW,encZN_eq c,hw2,cellsA_encM,one_encM,inj1_encM,inj_encM,kills_encM]
  have hNc:∀ j,j≤N.length→prodL (N.take j)<2 ^ 255:=fun j hj=>by
    rcases Nat.eq_zero_or_pos j with h0 | h0
    · subst h0; rw [List.take_zero]; decide
    · obtain ⟨i,rfl⟩:∃ i,j=i+1:=⟨j - 1,by omega⟩
      have hge:N[i]? = some N[i]! := by rw [getElem!_pos N i (by omega)]; exact List.getElem?_eq_getElem (by omega)
      rw [List.take_add_one,hge,Option.toList_some,prodL_snoc]
      have h1:=hlow i (by omega)
      have h2:=hmN N[i]! (List.mem_of_getElem? hge)
      refine Nat.lt_of_le_of_lt (Nat.mul_le_mul (Nat.le_trans h1 (show c≤2 ^ 97 by omega)) (Nat.le_of_lt h2)) (by decide)
  refine loopP_invW (τ:=Nat) (fun j=>j≤N.length) (fun j=>StL [(5,.d (.b true)),(8,.d (.sl L)),(9,.ptr 1 0),(10,.ptr 2 0),(11,.d (.i .i64 ((ixN n j:Nat):Int)))] none [.cells 31 [.d (.b false),.d (encM (digs (prodL (N.take j))))],.cells 31 [.d (.b false),.d (encM (digs c))]]) (fun j=>N.length - j) 0 (Nat.zero_le _) ?_ ?_
  · rw [List.take_zero]
    refine wkQ [2,3] ?_ ?_ <;> simp [-ζ,upd,inj1,Γ0,prodL,ixN]
  · intro j hj
    have hqj:=hNc j hj
    obtain ⟨r,hC,hr,hr2⟩:=r01CmpN (x:=prodL (N.take j)) (y:=c) hqj hc255
    by_cases hlt:j<N.length
    · have hge:N[j]? = some N[j]! := by rw [getElem!_pos N j hlt]; exact List.getElem?_eq_getElem hlt
      have hq:prodL (N.take (j+1))=prodL (N.take j) * N[j]! := by rw [List.take_add_one,hge,Option.toList_some,prodL_snoc]
      have hpm:=hmN N[j]! (List.mem_of_getElem? hge)
      have hMl:=r01MulN (x:=prodL (N.take j)) (y:=N[j]!) hqj (by omega)
      have hOp:=r01OfN (x:=N[j]!) (by omega)
      have hLj:=hLg (2 * n+j) (by omega)
      rw [hat j hlt] at hLj
      have hlow':=hlow j hlt
      rw [← hq] at hMl
      obtain ⟨q',hq'⟩:∃ q',prodL (N.take (j+1))=q':=⟨_,rfl⟩
      rw [hq'] at hMl
      have hLj':∀ h,L[2 * n+j]'h=[.i .u64 ((N[j]! : Nat):Int)]:=fun h=>by rw [List.getElem?_eq_getElem h] at hLj; injection hLj
      generalize N[j]! = p at *
      have hwp:IntKind.i64.wrap (p:Int)=p:=wrapQ
      generalize prodL (N.take j)=q at *
      have hrr:¬ 0<r:=fun h=>by have:=hr2.1 h; omega
      have hwi:IntKind.i64.wrap (((2 * n+j:Nat):Int)+1)=((2 * n+(j+1):Nat):Int):=by
        rw [show ((2 * n+j:Nat):Int)+1=((2 * n+(j+1):Nat):Int) from by omega]; exact wrapQ
      have hwj:IntKind.i64.wrap ((2 * n+j:Nat):Int)=((2 * n+j:Nat):Int):=wrapQ
      obtain ⟨i,hi⟩:∃ i,2 * n+j=i:=⟨_,rfl⟩
      have hsi:2 * n+(j+1)=i+1:=by omega
      rw [hi] at hwi hwj hLj
      simp only [hi] at hLj'
      rw [hsi] at hwi
      have hil:i<L.length:=by omega
      rw [show ixN n j=i from hi]
      simp [-ζ,-ξ,↓KW,hil,hwj,hrr,cellsA_encM,one_encM,inj1_encM,inj_encM,kills_encM]
      refine callQ hC ?_
      simp [-ζ,-ξ,↓KW,hrr,hil,hwj,hLj,hLj',hwp,cellsA_encM,one_encM,inj1_encM,inj_encM,kills_encM]
      refine callQ hOp ?_
      simp [-ζ,-ξ,↓KW,encZN_eq p,cellsA_encM,one_encM,inj1_encM,inj_encM,kills_encM]
      refine callQ hMl ?_
      simp [-ζ,-ξ,↓KW,encZN_eq q',hwi,cellsA_encM,one_encM,inj1_encM,inj_encM,kills_encM]
      refine nxt_intro (j+1) (by omega) (by show N.length - (j+1)<N.length - j; omega) ?_
      show ∃ ρ,Wk _ (StL _ _ _) ρ
      rw [show ixN n (j+1)=i+1 from hsi,hq']
      refine wkQ [1,2] ?_ ?_ <;> simp [-ζ,upd,inj1,Γ0]
    · have hjN:j=N.length:=by omega
      have hil:¬ 2 * n+j<L.length:=by omega
      have e1:N.take j=N:=by rw [hjN,List.take_length]
      rw [e1] at hC hr2 ⊢
      have hrr:0<r:=hr2.2 hbig
      generalize prodL N=q at *
      have hwj:IntKind.i64.wrap ((2 * n+j:Nat):Int)=((2 * n+j:Nat):Int):=wrapQ
      rw [show ixN n j=2 * n+j from rfl]
      generalize 2 * n+j=i at *
      simp [-ζ,-ξ,↓KW,hil,hwj,cellsA_encM,one_encM,inj1_encM,inj_encM,kills_encM]
      refine exP_same ?_
      simp [-ζ,-ξ,↓KW,cellsA_encM,one_encM,inj1_encM,inj_encM,kills_encM]
      refine callQ hC ?_
      simp [-ζ,-ξ,↓KW,hrr]
end Go.Am
end
