/- The law WorkersMatchesReference answers true, given its check's contract. No condition. -/
import Derived.Test.YtdgdlndhaecliaaGreatW6
import Derived.Test.YtdgdlndhaecliaaGreatW5
import Derived.Test.YtdgdlndhaecliaaGreatW4
set_option linter.unusedSectionVars false
set_option linter.unusedVariables false
set_option linter.unusedSimpArgs false
section
open List renaming map_map→ζ,mapM_map→ξ
namespace Go.Am
open Go.Conc Go.ConcR.Gen Go.Conc.Lib Go.RowKit Go.ConcR
open Go.ConcN (st_flag st_waiters)
open Go
section
variable {L:WgLink} {P:Program} {Wg:Nat} {cs:List Frame} {b0:Frame} {a0:Act} {ops0:Array Oper} {i0:Nat} {rest0:List Nat} {k0:List Item} {K:Goroutine→Prop}
set_option maxRecDepth 100000 in
theorem aPv (H:WgLib P L) {c:Frame} :
    Dl P true (cR L.tWg Wg) (dI Wg) (fun d g=>d=1∧zP L Wg c cs g) 0 (G ((base L.wait).at ⟨#[.pointer (some ⟨Wg,0,none⟩)]++Array.replicate 83 undef,[]⟩ [.code (body_wait L)]) (c::cs)):=by
  lib_facts
  simp only [body_wait,waitFn,Option.getD_some]
  (repeat (first | (first | with_reducible refine Dl.seq ?_ | ((with_reducible refine Dl.region ?_); simp only [List.size_toArray,List.length_cons,List.length_nil,Nat.reduceAdd,Nat.zero_add,List.range,List.range.loop]) | with_reducible refine Dl.regionEnd ?_ | with_reducible refine Dl.skip ?_ | with_reducible refine Dl.ret ?_ | with_reducible refine Dl.block ?_ | with_reducible refine Dl.inBlock ?_ | with_reducible refine Dl.loop ?_ | with_reducible refine Dl.inLoop ?_ | with_reducible (refine Dl.exit (by with_unfolding_all rfl) ?_) | ((with_reducible (refine Dl.cond true (by with_unfolding_all rfl) ?_)); simp only [if_true,if_false,Bool.false_eq_true,↓reduceIte]) | ((with_reducible (refine Dl.cond false (by with_unfolding_all rfl) ?_)); simp only [if_true,if_false,Bool.false_eq_true,↓reduceIte])) | (refine Dl.unwanted rfl rfl ?_; walk_nrm) | (refine Dl.value _ rfl rfl (by k_ne) (fun _ _=>by (go_simp; try (first | rfl | w_num | decide))) (fun _ _=>by simp [go_sem, *]) ?_; walk_nrm)))
  (refine Dl.step rfl (by (intro e he; simp at he; subst he; exact .inl rfl)) (fun w hI=>stepG_mark0 .disable (by simp) rfl rfl (by k_ne) rfl H.f_disable (x_disable_n L) (x_disable_b L) (x_disable_x L) (x_disable_f L)) ?_; walk_nrm)
  repeat (first | with_reducible refine Dl.regionEnd ?_ | with_reducible refine Dl.block ?_)
  refine Dl.loop (.here ⟨rfl,_,rfl,by simp,by simp⟩)
set_option maxRecDepth 100000 in
set_option maxHeartbeats 8000000 in
theorem aPw (H:WgLib P L) (hK:K (G (b0.at (a0.put ((ops0[i0]?).bind (·.dst)) (.tuple #[])) (.inRegion ops0 rest0::k0)) cs)) {g:Goroutine} (h:zP L Wg (b0.at a0 (.inRegion ops0 (i0::rest0)::k0)) cs g) :
    Dl P true (cR L.tWg Wg) (dI Wg) (fun d g=>d=1∧vK P L Wg K (zP L Wg (b0.at a0 (.inRegion ops0 (i0::rest0)::k0)) cs) d g) 1 g:=by
  lib_facts
  obtain ⟨T,rfl,hT84,t0⟩:=h
  obtain ⟨v0,v1,v2,v3,v4,v5,v6,v7,v8,v9,v10,v11,v12,v13,v14,v15,v16,v17,v18,v19,v20,v21,v22,v23,v24,v25,v26,v27,v28,v29,v30,v31,v32,v33,v34,v35,v36,v37,v38,v39,v40,v41,v42,v43,v44,v45,v46,v47,v48,v49,v50,v51,v52,v53,v54,v55,v56,v57,v58,v59,v60,v61,v62,v63,v64,v65,v66,v67,v68,v69,v70,v71,v72,v73,v74,v75,v76,v77,v78,v79,v80,v81,v82,v83,rfl⟩:=array84 T hT84
  simp only [List.getElem?_toArray,List.getElem?_cons_zero,Option.some.injEq] at t0
  subst t0
  simp only [L7,body_wait,waitFn,Option.getD_some]
  (repeat (first | (first | with_reducible refine Dl.seq ?_ | ((with_reducible refine Dl.region ?_); simp only [List.size_toArray,List.length_cons,List.length_nil,Nat.reduceAdd,Nat.zero_add,List.range,List.range.loop]) | with_reducible refine Dl.regionEnd ?_ | with_reducible refine Dl.skip ?_ | with_reducible refine Dl.ret ?_ | with_reducible refine Dl.block ?_ | with_reducible refine Dl.inBlock ?_ | with_reducible refine Dl.loop ?_ | with_reducible refine Dl.inLoop ?_ | with_reducible (refine Dl.exit (by with_unfolding_all rfl) ?_) | ((with_reducible (refine Dl.cond true (by with_unfolding_all rfl) ?_)); simp only [if_true,if_false,Bool.false_eq_true,↓reduceIte]) | ((with_reducible (refine Dl.cond false (by with_unfolding_all rfl) ?_)); simp only [if_true,if_false,Bool.false_eq_true,↓reduceIte])) | (refine Dl.unwanted rfl rfl ?_; walk_nrm) | (refine Dl.value _ rfl rfl (by k_ne) (fun _ _=>by (go_simp; try (first | rfl | w_num | decide))) (fun _ _=>by simp [go_sem, *]) ?_; walk_nrm)))
  (refine Dl.call rfl rfl (by k_ne) rfl H.f_uLoad (nm_uLoad L) rfl ?_; walk_nrmf uLoadFn)
  (repeat (first | (first | with_reducible refine Dl.seq ?_ | ((with_reducible refine Dl.region ?_); simp only [List.size_toArray,List.length_cons,List.length_nil,Nat.reduceAdd,Nat.zero_add,List.range,List.range.loop]) | with_reducible refine Dl.regionEnd ?_ | with_reducible refine Dl.skip ?_ | with_reducible refine Dl.ret ?_ | with_reducible refine Dl.block ?_ | with_reducible refine Dl.inBlock ?_ | with_reducible refine Dl.loop ?_ | with_reducible refine Dl.inLoop ?_ | with_reducible (refine Dl.exit (by with_unfolding_all rfl) ?_) | ((with_reducible (refine Dl.cond true (by with_unfolding_all rfl) ?_)); simp only [if_true,if_false,Bool.false_eq_true,↓reduceIte]) | ((with_reducible (refine Dl.cond false (by with_unfolding_all rfl) ?_)); simp only [if_true,if_false,Bool.false_eq_true,↓reduceIte])) | (refine Dl.unwanted rfl rfl ?_; walk_nrm) | (refine Dl.value _ rfl rfl (by k_ne) (fun _ _=>by (go_simp; try (first | rfl | w_num | decide))) (fun _ _=>by simp [go_sem, *]) ?_; walk_nrm)))
  refine .here ⟨rfl,rfl,fun w v hv hw=>?_⟩
  by_cases h0:v=0
  · subst h0
    have hc:w.cell? ⟨Wg,0,none⟩=some (.int .u64 0):=by simp [World.cell?,hw,wgBlock]
    refine ⟨_,stepG_load_atomic (v:=0) rfl rfl (by k_ne) rfl H.f_loadU64 (x_loadU64_n L) (x_loadU64_b L) (x_loadU64_x L) .u64 (x_loadU64_f L) rfl hc,fun _=>?_,fun h=>absurd rfl h⟩
    clear hc hw
    walk_nrm
    have e2:IntKind.u32.wrap (bits BinOp.and IntKind.u64 0 2147483647)=0:=by decide
    (repeat (first | (first | with_reducible refine Dl.seq ?_ | ((with_reducible refine Dl.region ?_); simp only [List.size_toArray,List.length_cons,List.length_nil,Nat.reduceAdd,Nat.zero_add,List.range,List.range.loop]) | with_reducible refine Dl.regionEnd ?_ | with_reducible refine Dl.skip ?_ | with_reducible refine Dl.ret ?_ | with_reducible refine Dl.block ?_ | with_reducible refine Dl.inBlock ?_ | with_reducible refine Dl.loop ?_ | with_reducible refine Dl.inLoop ?_ | with_reducible (refine Dl.exit (by with_unfolding_all rfl) ?_) | ((with_reducible (refine Dl.cond true (by with_unfolding_all rfl) ?_)); simp only [if_true,if_false,Bool.false_eq_true,↓reduceIte]) | ((with_reducible (refine Dl.cond false (by with_unfolding_all rfl) ?_)); simp only [if_true,if_false,Bool.false_eq_true,↓reduceIte])) | (refine Dl.unwanted rfl rfl ?_; walk_nrm) | (refine Dl.value _ rfl rfl (by k_ne) (fun _ _=>by (go_simp; try (first | rfl | w_num | decide))) (fun _ _=>by simp [go_sem, *]) ?_; walk_nrm)))
    (refine Dl.leave1 rfl rfl H.f_uLoad rfl ?_; walk_nrm)
    (repeat (first | (first | with_reducible refine Dl.seq ?_ | ((with_reducible refine Dl.region ?_); simp only [List.size_toArray,List.length_cons,List.length_nil,Nat.reduceAdd,Nat.zero_add,List.range,List.range.loop]) | with_reducible refine Dl.regionEnd ?_ | with_reducible refine Dl.skip ?_ | with_reducible refine Dl.ret ?_ | with_reducible refine Dl.block ?_ | with_reducible refine Dl.inBlock ?_ | with_reducible refine Dl.loop ?_ | with_reducible refine Dl.inLoop ?_ | with_reducible (refine Dl.exit (by with_unfolding_all rfl) ?_) | ((with_reducible (refine Dl.cond true (by with_unfolding_all rfl) ?_)); simp only [if_true,if_false,Bool.false_eq_true,↓reduceIte]) | ((with_reducible (refine Dl.cond false (by with_unfolding_all rfl) ?_)); simp only [if_true,if_false,Bool.false_eq_true,↓reduceIte])) | (refine Dl.unwanted rfl rfl ?_; walk_nrm) | (refine Dl.value _ rfl rfl (by k_ne) (fun _ _=>by (go_simp; try (first | rfl | w_num | decide))) (fun _ _=>by simp [go_sem, *]) ?_; walk_nrm)))
    (refine Dl.step rfl (by (intro e he; simp at he; subst he; exact .inl rfl)) (fun w hI=>stepG_mark0 .enable (by simp) rfl rfl (by k_ne) rfl H.f_enable (x_enable_n L) (x_enable_b L) (x_enable_x L) (x_enable_f L)) ?_; walk_nrm)
    (repeat (first | (first | with_reducible refine Dl.seq ?_ | ((with_reducible refine Dl.region ?_); simp only [List.size_toArray,List.length_cons,List.length_nil,Nat.reduceAdd,Nat.zero_add,List.range,List.range.loop]) | with_reducible refine Dl.regionEnd ?_ | with_reducible refine Dl.skip ?_ | with_reducible refine Dl.ret ?_ | with_reducible refine Dl.block ?_ | with_reducible refine Dl.inBlock ?_ | with_reducible refine Dl.loop ?_ | with_reducible refine Dl.inLoop ?_ | with_reducible (refine Dl.exit (by with_unfolding_all rfl) ?_) | ((with_reducible (refine Dl.cond true (by with_unfolding_all rfl) ?_)); simp only [if_true,if_false,Bool.false_eq_true,↓reduceIte]) | ((with_reducible (refine Dl.cond false (by with_unfolding_all rfl) ?_)); simp only [if_true,if_false,Bool.false_eq_true,↓reduceIte])) | (refine Dl.unwanted rfl rfl ?_; walk_nrm) | (refine Dl.value _ rfl rfl (by k_ne) (fun _ _=>by (go_simp; try (first | rfl | w_num | decide))) (fun _ _=>by simp [go_sem, *]) ?_; walk_nrm)))
    (refine Dl.value _ rfl rfl (by k_ne) (fun w hI=>by (have hcv:=run_convert_to_unsafe (P:=P) H.underlying_tWgP H.underlying_tUP H.room_tWg (cR.cell0 hI).choose_spec); go_simp; rfl) (fun w hI=>by (have hce:=fun es=>events_convert_to_unsafe (P:=P) H.underlying_tWgP H.underlying_tUP H.room_tWg (cR.cell0 hI).choose_spec es); simp [go_sem,hce]) ?_; walk_nrm)
    refine .here ⟨rfl,rfl,_,fun w hI=>stepG_markAt .acquire (by simp) rfl rfl (by k_ne) rfl H.f_acquire (x_acquire_n L) (x_acquire_b L) (x_acquire_x L) (x_acquire_f L) (by simp [Act.eval,stA]),?_⟩
    walk_nrm
    (repeat (first | (first | with_reducible refine Dl.seq ?_ | ((with_reducible refine Dl.region ?_); simp only [List.size_toArray,List.length_cons,List.length_nil,Nat.reduceAdd,Nat.zero_add,List.range,List.range.loop]) | with_reducible refine Dl.regionEnd ?_ | with_reducible refine Dl.skip ?_ | with_reducible refine Dl.ret ?_ | with_reducible refine Dl.block ?_ | with_reducible refine Dl.inBlock ?_ | with_reducible refine Dl.loop ?_ | with_reducible refine Dl.inLoop ?_ | with_reducible (refine Dl.exit (by with_unfolding_all rfl) ?_) | ((with_reducible (refine Dl.cond true (by with_unfolding_all rfl) ?_)); simp only [if_true,if_false,Bool.false_eq_true,↓reduceIte]) | ((with_reducible (refine Dl.cond false (by with_unfolding_all rfl) ?_)); simp only [if_true,if_false,Bool.false_eq_true,↓reduceIte])) | (refine Dl.unwanted rfl rfl ?_; walk_nrm) | (refine Dl.value _ rfl rfl (by k_ne) (fun _ _=>by (go_simp; try (first | rfl | w_num | decide))) (fun _ _=>by simp [go_sem, *]) ?_; walk_nrm)))
    exact Dl.leave0 rfl rfl H.f_wait rfl (.here ⟨rfl,hK⟩)
  · obtain ⟨S,hS⟩:∃ S:Int,(v:Int) * KK=S:=⟨_,rfl⟩
    have a1:S / 4294967296=(v:Int):=by rw [← hS]; simp only [KK]; omega
    have b1:bits .and .u64 S 2147483648=0:=by rw [← hS]; have:=st_flag v 0 (by omega) (by omega); simpa [KK] using this
    have b2:bits .and .u64 S 2147483647=0:=by rw [← hS]; have:=st_waiters v 0 (by omega) (by omega); simpa [KK] using this
    have c1:IntKind.i32.wrap (v:Int)=(v:Int):=by rw [IntKind.wrap_i32]; omega
    have d1:IntKind.u32.wrap 0=0:=by decide
    have w1:IntKind.u64.wrap (S+1)=S+1:=by rw [IntKind.wrap_u64,← hS]; simp only [KK]; omega
    have q3:decide ((v:Int)<0)=false:=decide_eq_false (by omega)
    have q4:decide (0<(v:Int))=true:=decide_eq_true (by omega)
    have q5:((v:Int) == 0)=false:=by simp; omega
    have q6:decide ((v:Int)=0)=false:=decide_eq_false (by omega)
    rw [hS] at hw
    have hc:w.cell? ⟨Wg,0,none⟩=some (.int .u64 S):=by simp [World.cell?,hw,wgBlock]
    refine ⟨_,stepG_load_atomic (v:=S) rfl rfl (by k_ne) rfl H.f_loadU64 (x_loadU64_n L) (x_loadU64_b L) (x_loadU64_x L) .u64 (x_loadU64_f L) rfl hc,fun h=>absurd h h0,fun _=>?_⟩
    clear hc hw
    walk_nrm
    (repeat (first | (first | with_reducible refine Dl.seq ?_ | ((with_reducible refine Dl.region ?_); simp only [List.size_toArray,List.length_cons,List.length_nil,Nat.reduceAdd,Nat.zero_add,List.range,List.range.loop]) | with_reducible refine Dl.regionEnd ?_ | with_reducible refine Dl.skip ?_ | with_reducible refine Dl.ret ?_ | with_reducible refine Dl.block ?_ | with_reducible refine Dl.inBlock ?_ | with_reducible refine Dl.loop ?_ | with_reducible refine Dl.inLoop ?_ | with_reducible (refine Dl.exit (by with_unfolding_all rfl) ?_) | ((with_reducible (refine Dl.cond true (by with_unfolding_all rfl) ?_)); simp only [if_true,if_false,Bool.false_eq_true,↓reduceIte]) | ((with_reducible (refine Dl.cond false (by with_unfolding_all rfl) ?_)); simp only [if_true,if_false,Bool.false_eq_true,↓reduceIte])) | (refine Dl.unwanted rfl rfl ?_; walk_nrm) | (refine Dl.value _ rfl rfl (by k_ne) (fun _ _=>by (go_simp; try (first | rfl | w_num | decide))) (fun _ _=>by simp [go_sem, *]) ?_; walk_nrm)))
    (refine Dl.leave1 rfl rfl H.f_uLoad rfl ?_; walk_nrm)
    (repeat (first | (first | with_reducible refine Dl.seq ?_ | ((with_reducible refine Dl.region ?_); simp only [List.size_toArray,List.length_cons,List.length_nil,Nat.reduceAdd,Nat.zero_add,List.range,List.range.loop]) | with_reducible refine Dl.regionEnd ?_ | with_reducible refine Dl.skip ?_ | with_reducible refine Dl.ret ?_ | with_reducible refine Dl.block ?_ | with_reducible refine Dl.inBlock ?_ | with_reducible refine Dl.loop ?_ | with_reducible refine Dl.inLoop ?_ | with_reducible (refine Dl.exit (by with_unfolding_all rfl) ?_) | ((with_reducible (refine Dl.cond true (by with_unfolding_all rfl) ?_)); simp only [if_true,if_false,Bool.false_eq_true,↓reduceIte]) | ((with_reducible (refine Dl.cond false (by with_unfolding_all rfl) ?_)); simp only [if_true,if_false,Bool.false_eq_true,↓reduceIte])) | (refine Dl.unwanted rfl rfl ?_; walk_nrm) | (refine Dl.value _ rfl rfl (by k_ne) (fun _ _=>by (go_simp; try (first | rfl | w_num | decide))) (fun _ _=>by simp [go_sem, *]) ?_; walk_nrm)))
    (refine Dl.call rfl rfl (by k_ne) rfl H.f_uCas (nm_uCas L) rfl ?_; walk_nrmf uCasFn)
    (repeat (first | (first | with_reducible refine Dl.seq ?_ | ((with_reducible refine Dl.region ?_); simp only [List.size_toArray,List.length_cons,List.length_nil,Nat.reduceAdd,Nat.zero_add,List.range,List.range.loop]) | with_reducible refine Dl.regionEnd ?_ | with_reducible refine Dl.skip ?_ | with_reducible refine Dl.ret ?_ | with_reducible refine Dl.block ?_ | with_reducible refine Dl.inBlock ?_ | with_reducible refine Dl.loop ?_ | with_reducible refine Dl.inLoop ?_ | with_reducible (refine Dl.exit (by with_unfolding_all rfl) ?_) | ((with_reducible (refine Dl.cond true (by with_unfolding_all rfl) ?_)); simp only [if_true,if_false,Bool.false_eq_true,↓reduceIte]) | ((with_reducible (refine Dl.cond false (by with_unfolding_all rfl) ?_)); simp only [if_true,if_false,Bool.false_eq_true,↓reduceIte])) | (refine Dl.unwanted rfl rfl ?_; walk_nrm) | (refine Dl.value _ rfl rfl (by k_ne) (fun _ _=>by (go_simp; try (first | rfl | w_num | decide))) (fun _ _=>by simp [go_sem, *]) ?_; walk_nrm)))
    refine .here ⟨rfl,rfl,fun w2 v' hv' hw=>⟨fun e=>?_,fun e=>?_⟩⟩
    · subst e
      rw [hS] at hw ⊢
      have hc:w2.cell? ⟨Wg,0,none⟩=some (.int .u64 S):=by simp [World.cell?,hw,wgBlock]
      have hz:w2.frozen? ⟨Wg,0,none⟩=false:=by simp [World.frozen?,hw,wgBlock]
      refine ⟨_,(stepG_cas_hit (v:=S) (n:=S+1) rfl rfl (by k_ne) rfl H.f_casU64 (x_casU64_n L) (x_casU64_b L) (x_casU64_x L) .u64 (x_casU64_f L) rfl rfl rfl hc hz).trans (by rfl),?_⟩
      clear hw hc hz
      walk_nrm
      (repeat (first | (first | with_reducible refine Dl.seq ?_ | ((with_reducible refine Dl.region ?_); simp only [List.size_toArray,List.length_cons,List.length_nil,Nat.reduceAdd,Nat.zero_add,List.range,List.range.loop]) | with_reducible refine Dl.regionEnd ?_ | with_reducible refine Dl.skip ?_ | with_reducible refine Dl.ret ?_ | with_reducible refine Dl.block ?_ | with_reducible refine Dl.inBlock ?_ | with_reducible refine Dl.loop ?_ | with_reducible refine Dl.inLoop ?_ | with_reducible (refine Dl.exit (by with_unfolding_all rfl) ?_) | ((with_reducible (refine Dl.cond true (by with_unfolding_all rfl) ?_)); simp only [if_true,if_false,Bool.false_eq_true,↓reduceIte]) | ((with_reducible (refine Dl.cond false (by with_unfolding_all rfl) ?_)); simp only [if_true,if_false,Bool.false_eq_true,↓reduceIte])) | (refine Dl.unwanted rfl rfl ?_; walk_nrm) | (refine Dl.value _ rfl rfl (by k_ne) (fun _ _=>by (go_simp; try (first | rfl | w_num | decide))) (fun _ _=>by simp [go_sem, *]) ?_; walk_nrm)))
      (refine Dl.leave1 rfl rfl H.f_uCas rfl ?_; walk_nrm)
      (repeat (first | (first | with_reducible refine Dl.seq ?_ | ((with_reducible refine Dl.region ?_); simp only [List.size_toArray,List.length_cons,List.length_nil,Nat.reduceAdd,Nat.zero_add,List.range,List.range.loop]) | with_reducible refine Dl.regionEnd ?_ | with_reducible refine Dl.skip ?_ | with_reducible refine Dl.ret ?_ | with_reducible refine Dl.block ?_ | with_reducible refine Dl.inBlock ?_ | with_reducible refine Dl.loop ?_ | with_reducible refine Dl.inLoop ?_ | with_reducible (refine Dl.exit (by with_unfolding_all rfl) ?_) | ((with_reducible (refine Dl.cond true (by with_unfolding_all rfl) ?_)); simp only [if_true,if_false,Bool.false_eq_true,↓reduceIte]) | ((with_reducible (refine Dl.cond false (by with_unfolding_all rfl) ?_)); simp only [if_true,if_false,Bool.false_eq_true,↓reduceIte])) | (refine Dl.unwanted rfl rfl ?_; walk_nrm) | (refine Dl.value _ rfl rfl (by k_ne) (fun _ _=>by (go_simp; try (first | rfl | w_num | decide))) (fun _ _=>by simp [go_sem, *]) ?_; walk_nrm)))
      (refine Dl.value _ rfl rfl (by k_ne) (fun w hI=>by (have hcv:=run_convert_to_unsafe (P:=P) H.underlying_tPU32 H.underlying_tUP H.room_tU32 (cR.cell1 hI).choose_spec); go_simp; rfl) (fun w hI=>by (have hce:=fun es=>events_convert_to_unsafe (P:=P) H.underlying_tPU32 H.underlying_tUP H.room_tU32 (cR.cell1 hI).choose_spec es); simp [go_sem,hce]) ?_; walk_nrm)
      (refine Dl.step rfl (by (intro e he; simp at he; subst he; first | exact .inr (.inl rfl) | exact .inr (.inr rfl))) (fun w hI=>stepG_markAt .write (by simp) rfl rfl (by k_ne) rfl H.f_raceWrite (x_raceWrite_n L) (x_raceWrite_b L) (x_raceWrite_x L) (x_raceWrite_f L) (ad:=smA Wg) (by simp [Act.eval,smA])) ?_; walk_nrm)
      (repeat (first | (first | with_reducible refine Dl.seq ?_ | ((with_reducible refine Dl.region ?_); simp only [List.size_toArray,List.length_cons,List.length_nil,Nat.reduceAdd,Nat.zero_add,List.range,List.range.loop]) | with_reducible refine Dl.regionEnd ?_ | with_reducible refine Dl.skip ?_ | with_reducible refine Dl.ret ?_ | with_reducible refine Dl.block ?_ | with_reducible refine Dl.inBlock ?_ | with_reducible refine Dl.loop ?_ | with_reducible refine Dl.inLoop ?_ | with_reducible (refine Dl.exit (by with_unfolding_all rfl) ?_) | ((with_reducible (refine Dl.cond true (by with_unfolding_all rfl) ?_)); simp only [if_true,if_false,Bool.false_eq_true,↓reduceIte]) | ((with_reducible (refine Dl.cond false (by with_unfolding_all rfl) ?_)); simp only [if_true,if_false,Bool.false_eq_true,↓reduceIte])) | (refine Dl.unwanted rfl rfl ?_; walk_nrm) | (refine Dl.value _ rfl rfl (by k_ne) (fun _ _=>by (go_simp; try (first | rfl | w_num | decide))) (fun _ _=>by simp [go_sem, *]) ?_; walk_nrm)))
      refine .here ⟨rfl,rfl,fun w st hw=>stepG_semacquire_wait rfl rfl rfl H.f_semacquire (x_semacquire_n L) (x_semacquire_b L) (x_semacquire_x L) (x_semacquire_f L) (by simp [Act.eval,smA]) (show w.cell? ⟨Wg,1,none⟩=some (.int .u32 0) by simp [World.cell?,hw,wgBlock]),fun w hw=>?_⟩
      have hc:w.cell? ⟨Wg,1,none⟩=some (.int .u32 1):=by simp [World.cell?,hw,wgBlock]
      have hz:w.frozen? ⟨Wg,1,none⟩=false:=by simp [World.frozen?,hw,wgBlock]
      refine ⟨_,(stepG_semacquire (n:=1) rfl rfl (by k_ne) rfl H.f_semacquire (x_semacquire_n L) (x_semacquire_b L) (x_semacquire_x L) (x_semacquire_f L) (by simp [Act.eval,smA]) hc (by k_ne) hz).trans (by rfl),?_⟩
      clear hw hc hz
      walk_nrm
      (repeat (first | (first | with_reducible refine Dl.seq ?_ | ((with_reducible refine Dl.region ?_); simp only [List.size_toArray,List.length_cons,List.length_nil,Nat.reduceAdd,Nat.zero_add,List.range,List.range.loop]) | with_reducible refine Dl.regionEnd ?_ | with_reducible refine Dl.skip ?_ | with_reducible refine Dl.ret ?_ | with_reducible refine Dl.block ?_ | with_reducible refine Dl.inBlock ?_ | with_reducible refine Dl.loop ?_ | with_reducible refine Dl.inLoop ?_ | with_reducible (refine Dl.exit (by with_unfolding_all rfl) ?_) | ((with_reducible (refine Dl.cond true (by with_unfolding_all rfl) ?_)); simp only [if_true,if_false,Bool.false_eq_true,↓reduceIte]) | ((with_reducible (refine Dl.cond false (by with_unfolding_all rfl) ?_)); simp only [if_true,if_false,Bool.false_eq_true,↓reduceIte])) | (refine Dl.unwanted rfl rfl ?_; walk_nrm) | (refine Dl.value _ rfl rfl (by k_ne) (fun _ _=>by (go_simp; try (first | rfl | w_num | decide))) (fun _ _=>by simp [go_sem, *]) ?_; walk_nrm)))
      (refine Dl.call rfl rfl (by k_ne) rfl H.f_uLoad (nm_uLoad L) rfl ?_; walk_nrmf uLoadFn)
      (repeat (first | (first | with_reducible refine Dl.seq ?_ | ((with_reducible refine Dl.region ?_); simp only [List.size_toArray,List.length_cons,List.length_nil,Nat.reduceAdd,Nat.zero_add,List.range,List.range.loop]) | with_reducible refine Dl.regionEnd ?_ | with_reducible refine Dl.skip ?_ | with_reducible refine Dl.ret ?_ | with_reducible refine Dl.block ?_ | with_reducible refine Dl.inBlock ?_ | with_reducible refine Dl.loop ?_ | with_reducible refine Dl.inLoop ?_ | with_reducible (refine Dl.exit (by with_unfolding_all rfl) ?_) | ((with_reducible (refine Dl.cond true (by with_unfolding_all rfl) ?_)); simp only [if_true,if_false,Bool.false_eq_true,↓reduceIte]) | ((with_reducible (refine Dl.cond false (by with_unfolding_all rfl) ?_)); simp only [if_true,if_false,Bool.false_eq_true,↓reduceIte])) | (refine Dl.unwanted rfl rfl ?_; walk_nrm) | (refine Dl.value _ rfl rfl (by k_ne) (fun _ _=>by (go_simp; try (first | rfl | w_num | decide))) (fun _ _=>by simp [go_sem, *]) ?_; walk_nrm)))
      refine .here ⟨rfl,fun w hw=>?_⟩
      have hc:w.cell? ⟨Wg,0,none⟩=some (.int .u64 0):=by simp [World.cell?,hw,wgBlock]
      refine ⟨_,stepG_load_atomic (v:=0) rfl rfl (by k_ne) rfl H.f_loadU64 (x_loadU64_n L) (x_loadU64_b L) (x_loadU64_x L) .u64 (x_loadU64_f L) rfl hc,?_⟩
      clear hw hc
      walk_nrm
      (repeat (first | (first | with_reducible refine Dl.seq ?_ | ((with_reducible refine Dl.region ?_); simp only [List.size_toArray,List.length_cons,List.length_nil,Nat.reduceAdd,Nat.zero_add,List.range,List.range.loop]) | with_reducible refine Dl.regionEnd ?_ | with_reducible refine Dl.skip ?_ | with_reducible refine Dl.ret ?_ | with_reducible refine Dl.block ?_ | with_reducible refine Dl.inBlock ?_ | with_reducible refine Dl.loop ?_ | with_reducible refine Dl.inLoop ?_ | with_reducible (refine Dl.exit (by with_unfolding_all rfl) ?_) | ((with_reducible (refine Dl.cond true (by with_unfolding_all rfl) ?_)); simp only [if_true,if_false,Bool.false_eq_true,↓reduceIte]) | ((with_reducible (refine Dl.cond false (by with_unfolding_all rfl) ?_)); simp only [if_true,if_false,Bool.false_eq_true,↓reduceIte])) | (refine Dl.unwanted rfl rfl ?_; walk_nrm) | (refine Dl.value _ rfl rfl (by k_ne) (fun _ _=>by (go_simp; try (first | rfl | w_num | decide))) (fun _ _=>by simp [go_sem, *]) ?_; walk_nrm)))
      (refine Dl.leave1 rfl rfl H.f_uLoad rfl ?_; walk_nrm)
      (repeat (first | (first | with_reducible refine Dl.seq ?_ | ((with_reducible refine Dl.region ?_); simp only [List.size_toArray,List.length_cons,List.length_nil,Nat.reduceAdd,Nat.zero_add,List.range,List.range.loop]) | with_reducible refine Dl.regionEnd ?_ | with_reducible refine Dl.skip ?_ | with_reducible refine Dl.ret ?_ | with_reducible refine Dl.block ?_ | with_reducible refine Dl.inBlock ?_ | with_reducible refine Dl.loop ?_ | with_reducible refine Dl.inLoop ?_ | with_reducible (refine Dl.exit (by with_unfolding_all rfl) ?_) | ((with_reducible (refine Dl.cond true (by with_unfolding_all rfl) ?_)); simp only [if_true,if_false,Bool.false_eq_true,↓reduceIte]) | ((with_reducible (refine Dl.cond false (by with_unfolding_all rfl) ?_)); simp only [if_true,if_false,Bool.false_eq_true,↓reduceIte])) | (refine Dl.unwanted rfl rfl ?_; walk_nrm) | (refine Dl.value _ rfl rfl (by k_ne) (fun _ _=>by (go_simp; try (first | rfl | w_num | decide))) (fun _ _=>by simp [go_sem, *]) ?_; walk_nrm)))
      (refine Dl.step rfl (by (intro e he; simp at he; subst he; exact .inl rfl)) (fun w hI=>stepG_mark0 .enable (by simp) rfl rfl (by k_ne) rfl H.f_enable (x_enable_n L) (x_enable_b L) (x_enable_x L) (x_enable_f L)) ?_; walk_nrm)
      (repeat (first | (first | with_reducible refine Dl.seq ?_ | ((with_reducible refine Dl.region ?_); simp only [List.size_toArray,List.length_cons,List.length_nil,Nat.reduceAdd,Nat.zero_add,List.range,List.range.loop]) | with_reducible refine Dl.regionEnd ?_ | with_reducible refine Dl.skip ?_ | with_reducible refine Dl.ret ?_ | with_reducible refine Dl.block ?_ | with_reducible refine Dl.inBlock ?_ | with_reducible refine Dl.loop ?_ | with_reducible refine Dl.inLoop ?_ | with_reducible (refine Dl.exit (by with_unfolding_all rfl) ?_) | ((with_reducible (refine Dl.cond true (by with_unfolding_all rfl) ?_)); simp only [if_true,if_false,Bool.false_eq_true,↓reduceIte]) | ((with_reducible (refine Dl.cond false (by with_unfolding_all rfl) ?_)); simp only [if_true,if_false,Bool.false_eq_true,↓reduceIte])) | (refine Dl.unwanted rfl rfl ?_; walk_nrm) | (refine Dl.value _ rfl rfl (by k_ne) (fun _ _=>by (go_simp; try (first | rfl | w_num | decide))) (fun _ _=>by simp [go_sem, *]) ?_; walk_nrm)))
      (refine Dl.value _ rfl rfl (by k_ne) (fun w hI=>by (have hcv:=run_convert_to_unsafe (P:=P) H.underlying_tWgP H.underlying_tUP H.room_tWg (cR.cell0 hI).choose_spec); go_simp; rfl) (fun w hI=>by (have hce:=fun es=>events_convert_to_unsafe (P:=P) H.underlying_tWgP H.underlying_tUP H.room_tWg (cR.cell0 hI).choose_spec es); simp [go_sem,hce]) ?_; walk_nrm)
      refine .here ⟨rfl,rfl,_,fun w hI=>stepG_markAt .acquire (by simp) rfl rfl (by k_ne) rfl H.f_acquire (x_acquire_n L) (x_acquire_b L) (x_acquire_x L) (x_acquire_f L) (by simp [Act.eval,stA]),?_⟩
      walk_nrm
      (repeat (first | (first | with_reducible refine Dl.seq ?_ | ((with_reducible refine Dl.region ?_); simp only [List.size_toArray,List.length_cons,List.length_nil,Nat.reduceAdd,Nat.zero_add,List.range,List.range.loop]) | with_reducible refine Dl.regionEnd ?_ | with_reducible refine Dl.skip ?_ | with_reducible refine Dl.ret ?_ | with_reducible refine Dl.block ?_ | with_reducible refine Dl.inBlock ?_ | with_reducible refine Dl.loop ?_ | with_reducible refine Dl.inLoop ?_ | with_reducible (refine Dl.exit (by with_unfolding_all rfl) ?_) | ((with_reducible (refine Dl.cond true (by with_unfolding_all rfl) ?_)); simp only [if_true,if_false,Bool.false_eq_true,↓reduceIte]) | ((with_reducible (refine Dl.cond false (by with_unfolding_all rfl) ?_)); simp only [if_true,if_false,Bool.false_eq_true,↓reduceIte])) | (refine Dl.unwanted rfl rfl ?_; walk_nrm) | (refine Dl.value _ rfl rfl (by k_ne) (fun _ _=>by (go_simp; try (first | rfl | w_num | decide))) (fun _ _=>by simp [go_sem, *]) ?_; walk_nrm)))
      exact Dl.leave0 rfl rfl H.f_wait rfl (.here ⟨rfl,hK⟩)
    · have hc:w2.cell? ⟨Wg,0,none⟩=some (.int .u64 ((v':Int) * KK)):=by simp [World.cell?,hw,wgBlock]
      have hz:w2.frozen? ⟨Wg,0,none⟩=false:=by simp [World.frozen?,hw,wgBlock]
      refine ⟨_,stepG_cas_miss (v:=(v':Int) * KK) (old:=S) (n:=S+1) rfl rfl (by k_ne) rfl H.f_casU64 (x_casU64_n L) (x_casU64_b L) (x_casU64_x L) .u64 (x_casU64_f L) rfl rfl rfl hc hz (by rw [← hS]; simp only [KK]; omega),?_⟩
      clear hw hc hz
      walk_nrm
      (refine Dl.value _ rfl rfl (by k_ne) (fun _ _=>by (go_simp; try (first | rfl | w_num | decide))) (fun _ _=>by simp [go_sem, *]) ?_; walk_nrm)
      repeat (first | with_reducible refine Dl.seq ?_ | ((with_reducible refine Dl.region ?_); simp only [List.size_toArray,List.length_cons,List.length_nil,Nat.reduceAdd,Nat.zero_add,List.range,List.range.loop]) | with_reducible refine Dl.regionEnd ?_ | with_reducible refine Dl.skip ?_ | with_reducible refine Dl.ret ?_ | with_reducible refine Dl.block ?_ | with_reducible refine Dl.inBlock ?_ | with_reducible refine Dl.loop ?_ | with_reducible refine Dl.inLoop ?_ | with_reducible (refine Dl.exit (by with_unfolding_all rfl) ?_) | ((with_reducible (refine Dl.cond true (by with_unfolding_all rfl) ?_)); simp only [if_true,if_false,Bool.false_eq_true,↓reduceIte]) | ((with_reducible (refine Dl.cond false (by with_unfolding_all rfl) ?_)); simp only [if_true,if_false,Bool.false_eq_true,↓reduceIte]))
      (refine Dl.leave1 rfl rfl H.f_uCas rfl ?_; walk_nrm)
      refine Dl.regionEnd ?_
      (refine Dl.cond false (by first | rfl | (simp [Act.eval]; omega)) ?_; simp only [if_true,if_false,Bool.false_eq_true,↓reduceIte])
      refine Dl.skip ?_
      refine Dl.inBlock ?_
      exact Dl.inLoop (.here ⟨rfl,_,rfl,by simp,by simp⟩)
end
end Go.Am
end
section
open List renaming map_map→ζ,mapM_map→ξ
open Go Go.Am Go.Proofs
namespace Go.Am
open Go.Conc Go.Conc.Lib Go.RowKit Go.ConcR.Gen
open Go.ConcR (KK wgBlock stA smA rd wr mk)
noncomputable def fJ:Code:=Tryz.f27.body.getD .skip
noncomputable def cW:Code:=match fJ with | .seq _ (.seq _ (.seq _ (.seq _ (.seq _ (.seq (.seq _ (.block _ (.loop c))) _)))))=>c | _=>.skip
noncomputable def tW:Code:=match fJ with | .seq _ (.seq _ (.seq _ (.seq _ (.seq _ (.seq _ c)))))=>c | _=>.skip
noncomputable def tW2:Code:=match tW with | .seq _ c=>c | _=>.skip
noncomputable def aKu:Array Oper:=match tW with | .seq (.region _ ops _) _=>ops | _=>#[]
theorem bCj {L:WgLink} {P:Program} (H:WgLib P L) {Wg:Nat} {cs:List Frame} {b0:Frame} {a0:Act} {ops0:Array Oper} {i0:Nat} {rest0:List Nat} {k0:List Item} {K:Nat→Goroutine→Prop} {T:Array Value} (hT:T=#[.pointer (some ⟨Wg,0,none⟩),.int .i64 1]++Array.replicate 115 undef)
    (hK:K 0 (G (b0.at (a0.put ((ops0[i0]?).bind (·.dst)) (.tuple #[])) (.inRegion ops0 rest0::k0)) cs)) :
    Dl P true (cR L.tWg Wg) (dI Wg) (fun d g=>d=1∧aCm P L Wg K d g) 0 (G ((base L.add).at ⟨T,[]⟩ [.code (body_add L)]) (b0.at a0 (.inRegion ops0 (i0::rest0)::k0)::cs)):=by
  subst hT; exact bJf H hK
theorem aJh {L:WgLink} {P:Program} (H:WgLib P L) {Wg:Nat} {c:Frame} {cs:List Frame} {T:Array Value} (hT:T=#[.pointer (some ⟨Wg,0,none⟩)]++Array.replicate 83 undef) :
    Dl P true (cR L.tWg Wg) (dI Wg) (fun d g=>d=1∧zP L Wg c cs g) 0 (G ((base L.wait).at ⟨T,[]⟩ [.code (body_wait L)]) (c::cs)):=by
  subst hT; exact aPv H
theorem aMq {P:Program} {L:WgLink} {Wg:Nat} {K An An':Goroutine→Prop} (h:∀ g,An g→An' g) {vs d:Nat} {g:Goroutine} (hc:aPo P L Wg K An vs d g):aPo P L Wg K An' vs d g :=
  ⟨hc.1,fun w v hv hw=>⟨(hc.2 w v hv hw).1,fun e=>let ⟨g',h1,h2⟩:=(hc.2 w v hv hw).2 e; ⟨g',h1,h2.mono fun d' g' hx=>⟨hx.1,h g' hx.2⟩⟩⟩⟩
theorem aTm {P:Program} {L:WgLink} {Wg:Nat} {K An An':Goroutine→Prop} (h:∀ g,An g→An' g) {d:Nat} {g:Goroutine} (hc:vK P L Wg K An d g):vK P L Wg K An' d g :=
  ⟨hc.1,fun w v hv hw=>let ⟨g',h1,h2,h3⟩:=hc.2 w v hv hw; ⟨g',h1,h2,fun e=>(h3 e).mono fun d' g' hx=>⟨hx.1,aMq h hx.2⟩⟩⟩
structure RI (Wg bA bR C n cap:Nat) (c0 c1 c2:D) (lD:List (List D)) (k:Nat) (a:Act) (V:World):Prop where
  size:a.tmps.size=38
  ds:a.defers=[]
  s2:a.tmps.getD 2 undef=bY bA
  s6:a.tmps.getD 6 undef=bY bR
  s7:a.tmps.getD 7 undef=bY Wg
  s26:VD (fun b=>b<V.heap.size) V (.sl lD) (a.tmps.getD 26 undef)
  s27:a.tmps.getD 27 undef=.int .i64 n
  s28:a.tmps.getD 28 undef=.int .i64 k
  ok:OkV V
  dA:VD (fun b=>b<V.heap.size) V (.pt [c0,c1,c2]) (bY bA)
  dR:VD (fun b=>b<V.heap.size) V (.pt [.lit (.slice (some ⟨C,0,none⟩) n cap)]) (bY bR)
theorem v_b {F:Nat→Prop} {w:World} {ι:Nat→Option Nat} {b:Bool} {v:Value} (h:V F w ι (.d (.b b)) v):v=.bool b:=by
  cases h with | d _ _ h=>cases h; rfl
theorem aNh {F:Nat→Prop} {w:World} {ι:Nat→Option Nat} {i o:Nat} {v:Value} (h:V F w ι (.ptr i o) v):∃ b,ι i=some b∧v=.pointer (some ⟨b,o,none⟩):=by
  cases h with | ptr _ _ b hb=>exact ⟨b,hb,rfl⟩
theorem aGp {G:Ctx} {F:Nat→Prop} {w:World} {ι:Nat→Option Nat} {C:Nat→Prop} {H:Hp} (hR:HR G F w ι C H) {i b:Nat} {e:TypeId} {kk:IntKind} {n:Int} (hb:ι i=some b) (hH:H i=some (.cells e [.d (.i kk n)])):VD (fun b=>b<w.heap.size) w (.pt [.i kk n]) (bY b):=by
  obtain ⟨ob,h1,h2⟩:=hR.obj i b _ hb hH
  cases h2 with
  | cells _ _ cur hl hc =>
    obtain ⟨u,hu,hv⟩:=hc 0 _ rfl
    have hu':=v_i hv; subst hu'
    refine .pt _ _ (fun _=>.int kk n) (bD h1) (fun j hj=>?_) fun k c hk=>?_
    · have:j=0:=by simp at hj; omega
      subst this
      simp [gB,World.cell?,h1,hu]
    · cases k with
      | zero=>simp at hk; subst hk; exact .i _ _
      | succ k=>simp at hk
theorem bJu {a:Act} {o:Oper} {x7 x2 x9 x8 x6:Value} (hop:o.op=.makeFunc (.func 72) #[] #[.tmp 7,.tmp 2,.tmp 9,.tmp 8,.tmp 6]) (h7:a.eval (.tmp 7)=x7) (h2:a.eval (.tmp 2)=x2) (h9:a.eval (.tmp 9)=x9) (h8:a.eval (.tmp 8)=x8) (h6:a.eval (.tmp 6)=x6) (w:World) :
    (execOp a.eval o).run Tryz.prog w=.ok (.value (.func (.func 72) #[] #[x7,x2,x9,x8,x6])) w∧(execOp a.eval o).events Tryz.prog w #[]=#[]:=by
  have ev:∀ {t:Nat} {x:Value},a.eval (.tmp t)=x→a.tmps[t]?.getD undef=x:=fun h=>by rw [← h]; simp [Act.eval]
  unfold execOp
  simp only [hop]
  constructor <;> simp [Instr.makeFunc,ev h7,ev h2,ev h9,ev h8,ev h6,go_sem]
theorem bJx {a:Act} {o:Oper} {cap:Array Value} (hop:o.op=.go { callee:=.value (.tmp 34),args:=#[],argTypes:=#[] }) (h:a.eval (.tmp 34)=.func (.func 72) #[] cap) (w:World) :
    (execOp a.eval o).run Tryz.prog w=.ok (.spawn { target:=.fn (.func 72) cap,args:=#[] }) w∧(execOp a.eval o).events Tryz.prog w #[]=#[]:=by
  have h':a.tmps[34]?.getD undef=.func (.func 72) #[] cap:=by rw [← h]; simp [Act.eval]
  unfold execOp
  simp only [hop]
  constructor <;> simp [h',go_sem]
section
variable {Wg bA bR cap:Nat} {p:Pl} {c0 c1 c2:D} {lD:List (List D)} {a:Act} {V:World} {k:Nat} {K An:Goroutine→Prop} {cs:List Frame}
def wV (bA bR Wg n k:Nat) (lD:List (List D)):List (Nat × AV):=[(2,.d (.lit (bY bA))),(6,.d (.lit (bY bR))),(7,.d (.lit (bY Wg))),(26,.d (.sl lD)),(27,.d (.i .i64 n)),(28,.d (.i .i64 k))]
theorem RI.sr (h:RI Wg bA bR p.C p.n cap c0 c1 c2 lD k a V):SR ⟨V,fun b=>b<V.heap.size,bF,fun _=>True,fun _=>none⟩ 38 [] (StL (wV bA bR Wg p.n k lD) none []) a V:=by
  rw [← h.ds]
  refine aEt (Z:=fun _=>none) h.ok h.size (fun _ _ h=>by simp at h) (qY (T:=fun t=>a.tmps.getD t undef) _ ?_)
  simp only [wV,List.forall_mem_cons]
  refine ⟨.d _ _ ?_,.d _ _ ?_,.d _ _ ?_,.d _ _ h.s26,.d _ _ ?_,.d _ _ ?_,fun _ h=>by simp at h⟩
  · rw [h.s2]; exact .lit _
  · rw [h.s6]; exact .lit _
  · rw [h.s7]; exact .lit _
  · rw [h.s27]; exact .i _ _
  · rw [h.s28]; exact .i _ _
theorem rL (r:Nat):(kT Tryz.prog true).Fam (pT Tryz.prog bM Wg p K An r):=by
  cases r with
  | zero=>exact .inl ⟨_,_,_,sW,rfl⟩
  | succ r=>exact .inl ⟨_,_,_,aAr,rfl⟩
set_option maxRecDepth 100000 in
set_option maxHeartbeats 2000000 in
theorem aQv (h:RI Wg bA bR p.C p.n cap c0 c1 c2 lD p.n a V) (hl:lD.length=p.n)
    (hAn:∀ a:Act,a.tmps.getD 6 undef=bY bR→a.tmps.size=38→a.defers=[]→∀ g,zP bM Wg (((base 27)).at a [.inRegion aKu [0],.code tW2]) cs g→An g)
    (hHd:∀ g,An g→Dl Tryz.prog true (cR bM.tWg Wg) (dI Wg) (fun d g=>d=1∧vK Tryz.prog bM Wg K An d g) 1 g) :
    pT Tryz.prog bM Wg p K An 0 (G (((base 27)).at a [.code cW,.inLoop cW,.inBlock 0,.code tW]) cs) V:=by
  letI:=kT Tryz.prog true
  have hW:=rL (Wg:=Wg) (p:=p) (K:=K) (An:=An) 0
  have hb:lM (base 27):=.inl rfl
  simp only [cW,tW,fJ,Tryz.f27,Option.getD_some]
  refine aO hW rfl h.ok (fun w=>stepG_seq) ?_
  refine cF aW (fun _=>rfl) _ (fun e σ=>e=.normal∧σ.Γ 29=.d (.b false)∧σ.Γ 6=.d (.lit (bY bR))∧σ.Γ 7=.d (.lit (bY Wg))) _ _ _ (by kernel_rfl) (by kernel_rfl) ?hawp h.sr _ hW h.ok _ _ _ hb fun e a' v' hv' hq=>?_
  case hawp =>
    simp only [wV]
    simp [-ζ,-ξ,↓KW]
  obtain ⟨σ,⟨rfl,q29,q6,q7⟩,hsr⟩:=hq
  obtain ⟨_,_,_,F,ι,hR,_,hV,⟨hN,_⟩,hds,_⟩:=hsr
  have e29:a'.eval (.tmp 29)=.bool false:=by
    have h:=hV 29; rw [q29] at h
    cases h with | d _ _ h =>
      show a'.tmps.getD 29 undef=_
      generalize a'.tmps.getD 29 undef=x at h
      cases h; rfl
  have e6:a'.tmps.getD 6 undef=bY bR:=by have h:=hV 6; rw [q6] at h; exact nF h
  have e7:a'.tmps.getD 7 undef=bY Wg:=by have h:=hV 7; rw [q7] at h; exact nF h
  simp only [nE]
  refine aO hW rfl hv' (fun w=>stepG_seq) ?_
  refine aO hW rfl hv' (fun w=>stepG_cond e29) ?_
  refine aO hW rfl hv' (fun w=>stepG_exit rfl) ?_
  refine aO hW rfl hv' (fun w=>stepG_seq) ?_
  refine aO hW rfl hv' (fun w=>stepG_region) ?_
  have hd:Dl Tryz.prog true (cR bM.tWg Wg) (dI Wg) (fun d g=>d=1∧vK Tryz.prog bM Wg K An d g) 0 (G (((base 27)).at a' [.inRegion aKu [0],.code tW2]) cs):=by
    refine Dl.call (f:=bM.wait) (fn:=waitFn bM) (c:=body_wait bM) rfl rfl (by k_ne) rfl aAl.f_wait (nm_wait bM) rfl ((aJh aAl ?_).bind fun d g hh=>by rw [hh.1]; exact hHd g (hAn a' e6 hN hds g hh.2))
    have:a'.eval (.tmp 7)=bY Wg:=e7
    simp [this,waitFn,bY]
  simp only [aKu,tW2,tW,fJ,Tryz.f27,Option.getD_some] at hd
  obtain ⟨tr,hg⟩:=hd.gt (Stop:=aIr Tryz.prog bM Wg K An) hv' fun d g v1 _ hk=>⟨.leaf,hk⟩
  exact ⟨tr,hg⟩
noncomputable def aOb:Array Oper:=match cW with | .seq _ (.seq _ (.seq (.block _ (.seq _ (.seq (.region _ o _) _))) _))=>o | _=>#[]
noncomputable def bIy:Code:=match cW with | .seq _ (.seq _ (.seq (.block _ (.seq _ (.seq _ c))) _))=>c | _=>.skip
noncomputable def bIx:Code:=match cW with | .seq _ (.seq _ (.seq _ c))=>c | _=>.skip
noncomputable def r9W:Code:=match cW with | .seq _ (.seq _ (.seq (.block _ (.seq c _)) _))=>c | _=>.skip
set_option maxRecDepth 100000 in
set_option maxHeartbeats 4000000 in
theorem aKj {r:Nat} {pk:Int} (h:RI Wg bA bR p.C p.n cap c0 c1 c2 lD k a V) (hk:k<p.n) (hl:lD.length=p.n) (hlk:lD[k]? = some [.i .u64 pk]) (hr:p.n - (r+1)=k) (hn:p.n<2147483648) (hfA:oY (.pt [c0,c1,c2])) (hfL:oY (.sl lD))
    (hwork:∀ (V':World) (Bp Bi:Nat),OkV V'→VD (fun b=>b<V'.heap.size) V' (.pt [c0,c1,c2]) (bY bA)→VD (fun b=>b<V'.heap.size) V' (.pt [.i .u64 pk]) (bY Bp)→VD (fun b=>b<V'.heap.size) V' (.pt [.i .i64 k]) (bY Bi) →
      VD (fun b=>b<V'.heap.size) V' (.pt [.lit (.slice (some ⟨p.C,0,none⟩) p.n cap)]) (bY bR)→∃ tr,GTw Tryz.prog bM Wg p k tr 0 (born Tryz.prog (aAm Wg bA Bp Bi bR)) V')
    (hnext:∀ a' V',RI Wg bA bR p.C p.n cap c0 c1 c2 lD (k+1) a' V'→pT Tryz.prog bM Wg p K An r (G (((base 27)).at a' [.code cW,.inLoop cW,.inBlock 0,.code tW]) cs) V') :
    pT Tryz.prog bM Wg p K An (r+1) (G (((base 27)).at a [.code cW,.inLoop cW,.inBlock 0,.code tW]) cs) V:=by
  letI:=kT Tryz.prog true
  have hW:=rL (Wg:=Wg) (p:=p) (K:=K) (An:=An) (r+1)
  have hb:lM (base 27):=.inl rfl
  have hk0:(0:Int)≤k:=by omega
  have hk1:(k:Int)<p.n:=by omega
  have hk2:(k:Int)<(lD.length:Int):=by omega
  have hkl:k<lD.length:=by omega
  have hlk':lD[k]=[.i .u64 pk]:=(List.getElem?_eq_some_iff.1 hlk).2
  rw [show ([.code cW,.inLoop cW,.inBlock 0,.code tW]:List Item)=[.code cW]++[.inLoop cW,.inBlock 0,.code tW] from rfl]
  generalize hKT:([.inLoop cW,.inBlock 0,.code tW]:List Item)=KT
  simp only [cW,fJ,Tryz.f27,Option.getD_some,List.cons_append,List.nil_append]
  refine aO hW rfl h.ok (fun w=>stepG_seq) ?_
  refine cF aW (fun _=>rfl) _ (fun e σ=>e=.normal∧σ.Γ 29=.d (.b true)∧AWP Tryz.prog r9W σ fun e σ'=>e=.normal∧∃ i8 i9,σ'.Γ 8=.ptr i8 0∧σ'.H i8=some (.cells 3 [.d (.i .i64 k)])∧σ'.Γ 9=.ptr i9 0∧σ'.H i9=some (.cells 51 [.d (.i .u64 pk)]) ∧
      σ'.Γ 2=.d (.lit (bY bA))∧σ'.Γ 6=.d (.lit (bY bR))∧σ'.Γ 7=.d (.lit (bY Wg))∧σ'.Γ 26=.d (.sl lD)∧σ'.Γ 27=.d (.i .i64 p.n)∧σ'.Γ 28=.d (.i .i64 k)) _ _ _ (by kernel_rfl) (by kernel_rfl) ?hawp h.sr _ hW h.ok _ _ _ hb fun e a1 V1 hv1 hq=>?_
  case hawp =>
    simp only [wV,r9W,cW,fJ,Tryz.f27,Option.getD_some]
    simp [-ζ,-ξ,↓KW,hk0,hk1,hk2,hkl,hlk,hlk']
  obtain ⟨σ,⟨rfl,q29,hA9⟩,hsr⟩:=hq
  have e29:a1.eval (.tmp 29)=.bool true:=by
    obtain ⟨_,_,_,F,ι,_,_,hV,_⟩:=id hsr
    have h:=hV 29; rw [q29] at h; exact v_b h
  simp only [nE]
  refine aO hW rfl hv1 (fun w=>stepG_seq) ?_
  refine aO hW rfl hv1 (fun w=>stepG_cond e29) ?_
  simp only [if_true]
  refine aO hW rfl hv1 (fun w=>stepG_skip) ?_
  refine aO hW rfl hv1 (fun w=>stepG_seq) ?_
  refine aO hW rfl hv1 (fun w=>stepG_block) ?_
  refine aO hW rfl hv1 (fun w=>stepG_seq) ?_
  simp only [r9W,cW,fJ,Tryz.f27,Option.getD_some] at hA9
  refine cF aW (fun _=>rfl) _ _ _ _ _ (by kernel_rfl) (by kernel_rfl) hA9 hsr _ hW hv1 _ _ _ hb fun e a2 V2 hv2 hq=>?_
  obtain ⟨σ',⟨rfl,i8,i9,q8,qH8,q9,qH9,q2,q6,q7,q26,q27,q28⟩,_,_,_,F,ι,hR,_,hV,⟨hN,_⟩,hds,_⟩:=hq
  obtain ⟨b8,hb8,e8⟩:=aNh (q8 ▸ hV 8)
  obtain ⟨b9,hb9,e9⟩:=aNh (q9 ▸ hV 9)
  have e2:=nF (q2 ▸ hV 2)
  have e6:=nF (q6 ▸ hV 6)
  have e7:=nF (q7 ▸ hV 7)
  have e27:=v_i (q27 ▸ hV 27)
  have e28:=v_i (q28 ▸ hV 28)
  have hd8:=aGp hR hb8 qH8
  have hd9:=aGp hR hb9 qH9
  have hsame:kG (fun b=>b<V.heap.size) V V2:=fun b hb c e f hc=>⟨f,by rw [hR.kept.block b hb (fun h=>h)]; exact hc⟩
  have hge:V.heap.size≤V2.heap.size:=hR.kept.size
  have hdA:VD (fun b=>b<V2.heap.size) V2 (.pt [c0,c1,c2]) (bY bA):=(hfA _ V V2 _ hsame h.dA).mono fun b hb=>Nat.lt_of_lt_of_le hb hge
  have hdR:VD (fun b=>b<V2.heap.size) V2 (.pt [.lit (.slice (some ⟨p.C,0,none⟩) p.n cap)]) (bY bR):=(jQ (by simp [lX]) _ V V2 _ hsame h.dR).mono fun b hb=>Nat.lt_of_lt_of_le hb hge
  have hdL:VD (fun b=>b<V2.heap.size) V2 (.sl lD) (a2.tmps.getD 26 undef):=by
    have h:=hV 26; rw [q26] at h
    cases h with | d _ _ h=>exact h.mono hR.F_lt
  simp only [nE]
  refine aO hW rfl hv2 (fun w=>stepG_seq) ?_
  refine aO hW rfl hv2 (fun w=>stepG_region) ?_
  -- the call of Add
  have hKA:∀ v1,Env V2 v1→OkV v1→∃ tr,GTm Tryz.prog bM Wg (aTw Tryz.prog bM Wg p k (pT Tryz.prog bM Wg p K An r)) tr 0 (G (((base 27)).at (a2.put (some 33) (.tuple #[])) (.inRegion aOb []::.code bIy::.inBlock 1::.code bIx::KT)) cs) v1:=by
    intro v1 he1 ho1
    have hW2:(kT Tryz.prog true).Fam (GoW Tryz.prog true (cR bM.tWg Wg) (dI Wg) (aTw Tryz.prog bM Wg p k (pT Tryz.prog bM Wg p K An r))):=.inl ⟨_,_,_,aIk,rfl⟩
    have hg:∀ t,t≠33→(a2.put (some 33) (.tuple #[])).eval (.tmp t)=a2.tmps.getD t undef:=fun t ht=>by
      simp [Act.put,Act.eval,Array.getD_eq_getD_getElem?,Array.getElem?_setIfInBounds_ne (Ne.symm ht)]
    have hsz3:(a2.put (some 33) (.tuple #[])).tmps.size=38:=by simp [Act.put,hN]
    have hds3:(a2.put (some 33) (.tuple #[])).defers=[]:=hds
    generalize a2.put (some 33) (.tuple #[])=a3 at hg hsz3 hds3
    simp only [aOb,bIy,bIx,cW,fJ,Tryz.f27,Option.getD_some]
    refine aO hW2 rfl ho1 (fun w=>stepG_region_end) ?_
    refine aO hW2 rfl ho1 (fun w=>stepG_region) ?_
    have g7:=(hg 7 (by decide)).trans e7
    have g2:=(hg 2 (by decide)).trans e2
    have g9:=(hg 9 (by decide)).trans e9
    have g8:=(hg 8 (by decide)).trans e8
    have g6:=(hg 6 (by decide)).trans e6
    refine aO hW2 rfl ho1 (fun w=>(stepG_value rfl rfl (by k_ne) (bJu rfl g7 g2 g9 g8 g6 w).1).trans (by unfold listed; rw [(bJu rfl g7 g2 g9 g8 g6 w).2,seen_none])) ?_
    have h34:∀ x,(a3.put (some 34) x).eval (.tmp 34)=x:=fun x=>by simp [Act.put,Act.eval,Array.getD_eq_getD_getElem?,hsz3]
    have hg4:∀ x t,t≠34→(a3.put (some 34) x).tmps.getD t undef=a3.eval (.tmp t):=fun x t ht=>by
      simp [Act.put,Act.eval,Array.getD_eq_getD_getElem?,Array.getElem?_setIfInBounds_ne (Ne.symm ht)]
    refine ⟨.leaf,rfl,rfl,fun v2 he2=>⟨_,_,fun w hs hI=>(stepG_spawn rfl rfl (by k_ne) (bJx rfl (h34 _) w).1 rfl).trans (by unfold listed; rw [(bJx rfl (h34 _) w).2,seen_none]),rfl,?_,?_⟩⟩
    all_goals
      have hse:kG (fun b=>b<V2.heap.size) V2 (iL v2):=(aAu (he1.trans he2)).trans (aKf _ _)
      have hfs:∀ b,b<V2.heap.size→b<(iL v2).heap.size:=fun b hb=>by
        rw [tJ]; exact Nat.lt_of_lt_of_le hb (he1.trans he2).size
    · exact hwork (iL v2) b9 b8 (aEb _) ((hfA _ _ _ _ hse hdA).mono hfs) ((jQ (by simp [yG]) _ _ _ _ hse hd9).mono hfs) ((jQ (by simp [yG]) _ _ _ _ hse hd8).mono hfs) ((jQ (by simp [lX]) _ _ _ _ hse hdR).mono hfs)
    have hW3:=rL (Wg:=Wg) (p:=p) (K:=K) (An:=An) r
    generalize hx:Value.func (.func 72) #[] #[bY Wg,bY bA,.pointer (some ⟨b9,0,none⟩),.pointer (some ⟨b8,0,none⟩),bY bR]=x
    have hri:RI Wg bA bR p.C p.n cap c0 c1 c2 lD k ((a3.put (some 34) x).put none undef) (iL v2):=by
      have hg5:∀ t,t≠34→t≠33→((a3.put (some 34) x).put none undef).tmps.getD t undef=a2.tmps.getD t undef:=fun t h1 h2=>(hg4 x t h1).trans (hg t h2)
      refine ⟨by simp [Act.put,hsz3],hds3,(hg5 2 (by decide) (by decide)).trans e2,(hg5 6 (by decide) (by decide)).trans e6,(hg5 7 (by decide) (by decide)).trans e7,?_,(hg5 27 (by decide) (by decide)).trans e27,(hg5 28 (by decide) (by decide)).trans e28,aEb _,(hfA _ _ _ _ hse hdA).mono hfs,(jQ (by simp [lX]) _ _ _ _ hse hdR).mono hfs⟩
      rw [hg5 26 (by decide) (by decide)]
      exact (hfL _ _ _ _ hse hdL).mono hfs
    show pT Tryz.prog bM Wg p K An r (G (((base 27)).at ((a3.put (some 34) x).put none undef) _) cs) (iL v2)
    generalize (a3.put (some 34) x).put none undef=a5 at hri
    refine aO hW3 rfl hri.ok (fun w=>stepG_region_end) ?_
    refine aO hW3 rfl hri.ok (fun w=>stepG_inBlock) ?_
    refine cF aW (fun _=>rfl) _ (fun e σ=>e=.normal∧σ.Γ 28=.d (.i .i64 (k+1))∧σ.Γ 2=.d (.lit (bY bA))∧σ.Γ 6=.d (.lit (bY bR))∧σ.Γ 7=.d (.lit (bY Wg))∧σ.Γ 26=.d (.sl lD)∧σ.Γ 27=.d (.i .i64 p.n)) _ _ _ (by kernel_rfl) (by kernel_rfl) ?hawp3 hri.sr _ hW3 hri.ok _ _ _ hb fun e a6 V6 hv6 hq=>?_
    case hawp3 =>
      have hw:IntKind.i64.wrap ((k:Int)+1)=k+1:=bB
      simp only [wV]
      simp [-ζ,-ξ,↓KW,hw]
    obtain ⟨σ6,⟨rfl,q28',q2',q6',q7',q26',q27'⟩,_,_,_,F6,ι6,hR6,_,hV6,⟨hN6,_⟩,hds6,_⟩:=hq
    simp only [nE]
    subst hKT
    refine aO hW3 rfl hv6 (fun w=>stepG_inLoop) ?_
    have hs6:kG (fun b=>b<(iL v2).heap.size) (iL v2) V6:=fun b hb c e f hc=>⟨f,by rw [hR6.kept.block b hb (fun h=>h)]; exact hc⟩
    have hf6:∀ b,b<(iL v2).heap.size→b<V6.heap.size:=fun b hb=>Nat.lt_of_lt_of_le hb hR6.kept.size
    refine hnext a6 V6 ⟨hN6,hds6,nF (q2' ▸ hV6 2),nF (q6' ▸ hV6 6),nF (q7' ▸ hV6 7),?_,v_i (q27' ▸ hV6 27),?_,hv6,(hfA _ _ _ _ hs6 hri.dA).mono hf6,(jQ (by simp [lX]) _ _ _ _ hs6 hri.dR).mono hf6⟩
    · have h:=hV6 26; rw [q26'] at h
      cases h with | d _ _ h=>exact h.mono hR6.F_lt
    · have:=v_i (q28' ▸ hV6 28)
      simpa using this
  have hd:Dl Tryz.prog true (cR bM.tWg Wg) (dI Wg) (fun d g=>d=1∧aCm Tryz.prog bM Wg (fun d' g'=>d'=0∧∀ v1,Env V2 v1→OkV v1→∃ tr,GTm Tryz.prog bM Wg (aTw Tryz.prog bM Wg p k (pT Tryz.prog bM Wg p K An r)) tr 0 g' v1) d g) 0
      (G (((base 27)).at a2 (.inRegion aOb [0]::.code bIy::.inBlock 1::.code bIx::KT)) cs):=by
    refine Dl.call (f:=bM.add) (fn:=addFn bM) (c:=body_add bM) rfl rfl (by k_ne) rfl aAl.f_add (nm_add bM) rfl (bCj aAl ?_ ⟨rfl,hKA⟩)
    have:a2.eval (.tmp 7)=bY Wg:=e7
    have hc:a2.eval (.const (.int .i64 1))=.int .i64 1:=rfl
    simp [this,hc,addFn,bY]
  simp only [aOb,bIy,bIx,cW,fJ,Tryz.f27,Option.getD_some] at hd
  obtain ⟨tr,hg⟩:=hd.gt (Stop:=aPi Tryz.prog bM Wg p (p.n - (r+1)) (pT Tryz.prog bM Wg p K An r)) hv2 fun d g v1 he hk=>⟨.leaf,hk.1,zD (fun d' g' hx v2 he2 ho2=>by rw [hr,hx.1]; exact hx.2 v2 (he.trans he2) ho2) hk.2⟩
  exact ⟨tr,hg⟩
end
end Go.Am
end
section
open List renaming map_map→ζ,mapM_map→ξ
open Go Go.Am Go.Proofs
namespace Go.Am
open Go.Conc Go.Conc.Lib Go.RowKit Go.ConcR.Gen
open Go.ConcR (KK wgBlock stA smA rd wr mk)
theorem aWw {Wg bA bR cap:Nat} {p:Pl} {c0 c1 c2:D} {lD:List (List D)} {K An:Goroutine→Prop} {cs:List Frame} (hl:lD.length=p.n) (hn:p.n<2147483648) (hfA:oY (.pt [c0,c1,c2])) (hfL:oY (.sl lD))
    (hw:∀ k,k<p.n→∃ pk,lD[k]? = some [.i .u64 pk]∧∀ (V':World) (Bp Bi:Nat),OkV V'→VD (fun b=>b<V'.heap.size) V' (.pt [c0,c1,c2]) (bY bA)→VD (fun b=>b<V'.heap.size) V' (.pt [.i .u64 pk]) (bY Bp)→VD (fun b=>b<V'.heap.size) V' (.pt [.i .i64 k]) (bY Bi) →
      VD (fun b=>b<V'.heap.size) V' (.pt [.lit (.slice (some ⟨p.C,0,none⟩) p.n cap)]) (bY bR)→∃ tr,GTw Tryz.prog bM Wg p k tr 0 (born Tryz.prog (aAm Wg bA Bp Bi bR)) V')
    (hAn:∀ a:Act,a.tmps.getD 6 undef=bY bR→a.tmps.size=38→a.defers=[]→∀ g,zP bM Wg (((base 27)).at a [.inRegion aKu [0],.code tW2]) cs g→An g)
    (hHd:∀ g,An g→Dl Tryz.prog true (cR bM.tWg Wg) (dI Wg) (fun d g=>d=1∧vK Tryz.prog bM Wg K An d g) 1 g) :
    ∀ (r k:Nat) (a:Act) (V:World),k+r=p.n→RI Wg bA bR p.C p.n cap c0 c1 c2 lD k a V→pT Tryz.prog bM Wg p K An r (G (((base 27)).at a [.code cW,.inLoop cW,.inBlock 0,.code tW]) cs) V
  | 0,k,a,V,hk,h=>by
    obtain rfl:k=p.n:=by omega
    exact aQv h hl hAn hHd
  | r+1,k,a,V,hk,h=>by
    obtain ⟨pk,h1,h2⟩:=hw k (by omega)
    exact aKj h (by omega) hl h1 (by omega) hn hfA hfL h2 fun a' V' h'=>aWw hl hn hfA hfL hw hAn hHd r (k+1) a' V' (by omega) h'
structure aIt (p:Pl) (v v':World):Prop where
  ok:OkV v'
  tape:v'.tape=v.tape
  os:v'.os=v.os
  output:v'.output=v.output
  size:v.heap.size<v'.heap.size
  old:∀ b,b<v.heap.size→b≠p.C→v'.heap[b]? = v.heap[b]?
  val:∃ cs:Array Value,v'.heap[p.C]? = some (.cells cs p.ety (0,0))∧cs.size=p.tot∧∀ i,i<p.n→∀ r,r<p.wd→cs[i * p.wd+r]? = some (p.val i r)
theorem bJk.w {p:Pl} {v v':World} (h:bJk p v v'):aIt p v v':=⟨h.ok,h.tape,h.os,h.output,h.size,h.old,h.val⟩
theorem aIt.next {p:Pl} {v v' v2:World} (h:aIt p v v') (hok:OkV v2) (ht:v2.tape=v'.tape) (ho:v2.os=v'.os) (hp:v2.output=v'.output) (hsz:v'.heap.size≤v2.heap.size) (hb:∀ b,b<v'.heap.size→v2.heap[b]? = v'.heap[b]?):aIt p v v2:=by
  have hC:p.C<v'.heap.size:=let ⟨cs,h1,_⟩:=h.val; bD h1
  refine ⟨hok,ht.trans h.tape,ho.trans h.os,hp.trans h.output,Nat.lt_of_lt_of_le h.size hsz,fun b hlt hne=>(hb b (Nat.lt_trans hlt h.size)).trans (h.old b hlt hne),?_⟩
  obtain ⟨cs,h1,h2⟩:=h.val
  exact ⟨cs,(hb _ hC).trans h1,h2⟩
theorem aUo {P:Program} [M:Mch P] {Win:Goroutine→World→Prop} (hW:M.Fam Win) {f:FuncId} {fn:Func} {a':Act} {v':World} {todo:List Item} {c0:Frame} {cs:List Frame} {R:Value→World→Prop} (hf:P.funcs[f]? = some fn) (hv':OkV v') (hd:a'.defers=[])
    (hr:∀ v1,Env v' v1→∃ x,aM P (results fn a'.tmps) v1=.ok x v1∧R x v1) (hk:∀ x v'',OkV v''→R x v''→Win (G (c0.finish x) cs) v''):Win (G { (base f).at a' todo with mode:=.returning } (c0::cs)) v':=by
  refine (M.closed hW).step rfl hv' fun v1 w he hsim=>?_
  obtain ⟨x,hx,hR⟩:=hr v1 he
  obtain ⟨w',es',h1,h2,h3,h4,h5,h6⟩:=eW _ v1 w #[] x v1 (he.okV hv') hsim hx
  exact ⟨_,v1,w',_,qE (b:=base f) rfl hd hf h1,⟨h2,h3,h4,h5,fun e he'=>h6 e (by have:=mem_seen he'; simpa using this)⟩,hk x v1 h3 hR⟩
set_option maxRecDepth 100000 in
theorem aUh {W0:World} {Post:Value→World→Prop} {p:Pl} {v1:World} {bR cap:Nat} {a:Act} {c0:Frame} {cs:List Frame} (h6:a.tmps.getD 6 undef=bY bR) (hN:a.tmps.size=38) (hds:a.defers=[]) (hbR:bR<v1.heap.size) (hne:bR≠p.C)
    (hcell:v1.cell? ⟨bR,0,none⟩=some (.slice (some ⟨p.C,0,none⟩) p.n cap)) (hk:∀ v',aIt p v1 v'→dO Tryz.prog W0 Post (G (c0.finish (.tuple #[.slice (some ⟨p.C,0,none⟩) p.n cap,.int .i64 0])) cs) v') :
    KF Tryz.prog W0 Post p v1 (G (((base 27)).at (a.put (some 36) (.tuple #[])) [.inRegion aKu [],.code tW2]) (c0::cs)):=by
  refine ⟨rfl,fun v' hF=>?_⟩
  letI:=cQ Tryz.prog
  have hW:(cQ Tryz.prog).Fam (dO Tryz.prog W0 Post):=.inl ⟨W0,Post,rfl⟩
  have hb:lM (base 27):=.inl rfl
  have g6:(a.put (some 36) (.tuple #[])).tmps.getD 6 undef=bY bR:=by
    rw [← h6]; simp [Act.put,Array.getD_eq_getD_getElem?,Array.getElem?_setIfInBounds_ne]
  have gN:(a.put (some 36) (.tuple #[])).tmps.size=38:=by simp [Act.put,hN]
  have gds:(a.put (some 36) (.tuple #[])).defers=[]:=hds
  generalize a.put (some 36) (.tuple #[])=a3 at g6 gN gds
  have hok:=hF.ok
  have hc':v'.cell? ⟨bR,0,none⟩=some (.slice (some ⟨p.C,0,none⟩) p.n cap):=by
    rw [← hcell]; exact eM (hF.old bR hbR hne)
  have hfp:V (fun b=>b<v'.heap.size) v' (fun _=>none) (.fp [.lit (.slice (some ⟨p.C,0,none⟩) p.n cap)]) (bY bR) :=
    .fp _ _ (fun _=>.slice (some ⟨p.C,0,none⟩) p.n cap) (Nat.lt_trans hbR hF.size) (fun j hj=>by
      have:j=0:=by simp at hj; omega
      subst this; rw [gB]; exact hc') fun k c hk=>by
      cases k with
      | zero=>simp at hk; subst hk; exact .lit _
      | succ k=>simp at hk
  simp only [aKu,tW2,tW,fJ,Tryz.f27,Option.getD_some]
  refine aO hW rfl hok (fun w=>stepG_region_end) ?_
  refine aO hW rfl hok (fun w=>stepG_seq) ?_
  have hsr:SR ⟨v',fun b=>b<v'.heap.size,bF,fun _=>True,fun _=>none⟩ 38 [] (StL [(6,.fp [.lit (.slice (some ⟨p.C,0,none⟩) p.n cap)])] none []) a3 v':=by
    rw [← gds]
    refine aEt (Z:=fun _=>none) hok gN (fun _ _ h=>by simp at h) (qY (T:=fun t=>a3.tmps.getD t undef) _ ?_)
    simp only [List.forall_mem_cons]
    exact ⟨by rw [g6]; exact hfp,fun _ h=>by simp at h⟩
  refine cF aW (fun _=>rfl) _ (fun e σ=>e=.normal∧σ.Γ 4=.d (.lit (.slice (some ⟨p.C,0,none⟩) p.n cap))∧σ.Γ 5=.d (.i .i64 0)) _ _ _ (by kernel_rfl) (by kernel_rfl) ?hawp hsr _ hW hok _ _ _ hb fun e a4 V4 hv4 hq=>?_
  case hawp =>
    simp [-ζ,-ξ,↓KW]
  obtain ⟨σ,⟨rfl,q4,q5⟩,hsr4⟩:=hq
  obtain ⟨_,_,_,F,ι,hR,_,hV,⟨hN4,_⟩,hds4,_⟩:=id hsr4
  have hF4:aIt p v1 V4:=hF.w.next hv4 hR.kept.tape hR.kept.os hR.kept.output hR.kept.size fun b hb=>hR.kept.block b hb (fun h=>h)
  simp only [nE]
  refine aO hW rfl hv4 (fun w=>stepG_ret') ?_
  refine aUo hW (R:=fun x v2=>x=.tuple #[.slice (some ⟨p.C,0,none⟩) p.n cap,.int .i64 0]∧aIt p v1 v2) Tryz.func27 hv4 hds4 (fun v2 he=>?_) fun x v'' _ hx=>by rw [hx.1]; exact hk v'' hx.2
  have hsr5:=hsr4.env he
  obtain ⟨x,hx,hvd⟩:=eO (P:=Tryz.prog) (fn:=Tryz.f27) (r:=.tp [.lit (.slice (some ⟨p.C,0,none⟩) p.n cap),.i .i64 0]) hsr5 (by
    simp [iS,Tryz.f27,jE,q4,q5,cL,frz])
  refine ⟨x,hx,?_,hF4.next (he.okV hv4) he.tape he.os he.output he.size fun b hb=>he.get hb⟩
  cases hvd with
  | tp cs vs hl h =>
    have h0:vs[0]? = some (.slice (some ⟨p.C,0,none⟩) p.n cap):=by
      obtain ⟨y,hy⟩:∃ y,vs[0]? = some y:=⟨_,Array.getElem?_eq_getElem (by simp at hl; omega)⟩
      have:=h 0 _ _ rfl hy
      cases this; exact hy
    have h1:vs[1]? = some (.int .i64 0):=by
      obtain ⟨y,hy⟩:∃ y,vs[1]? = some y:=⟨_,Array.getElem?_eq_getElem (by simp at hl; omega)⟩
      have:=h 1 _ _ rfl hy
      cases this; exact hy
    congr 1
    apply Array.ext_getElem?
    intro k
    match k with
    | 0=>exact h0
    | 1=>exact h1
    | k+2=>rw [Array.getElem?_eq_none (by simp at hl; omega)]; simp
end Go.Am
end
section
open List renaming map_map→ζ,mapM_map→ξ
open Go Go.Am Go.Proofs
namespace Go.Am
open Go.Conc Go.Conc.Lib Go.RowKit Go.ConcR.Gen
open Go.ConcR (KK wgBlock stA smA rd wr mk)
theorem bIl {P:Program} {f:FuncId} {args:Array Value} {v:World} {R:Value→World→Prop}
    (h:∀ (W0:World) (Post:Value→World→Prop) (c:Frame) (cs:List Frame),(∀ x v',OkV v'→R x v'→dO P W0 Post (G (c.finish x) cs) v')→OkV v→dO P W0 Post (G (Frame.enter P f args .normal) (c::cs)) v) :
    letI:=cQ P; CX P f args v R:=by
  intro Win hW hv c cs hk
  rcases hW with ⟨W0,Post,rfl⟩ | rfl
  · exact h W0 Post c cs hk hv
  · have hm:=h { v with heap:=#[] } (fun _ _=>False) c cs (fun x v' ho hr=>(hk x v' ho hr).elim) hv
    have h0:dC (fun _=>False)=fun _=>False:=by funext l; cases l <;> rfl
    have he:=hm v (.refl _) hv (fun _=>False) #[G (Frame.enter P f args .normal) (c::cs)] v none #[] (fun _=>0) (fun b h=>h.elim) (Sim.refl v) rfl (leavers_one P _) (by rw [h0]; exact past_nil.mono (Nat.zero_le _))
      ⟨fun i op x hi=>by simp at hi,fun i a ha=>by simp [touchAt,Trace.act?] at ha,fun i op hi=>by simp at hi⟩ (fun b o hb=>by simp at hb)
    obtain ⟨N,last,o,w',t',_,_,_,x,_,hp,_⟩:=he
    exact hp.elim
noncomputable def x1W:Code:=match fJ with | .seq _ (.seq c _)=>c | _=>.skip
noncomputable def x3W:Code:=match fJ with | .seq _ (.seq _ (.seq c _))=>c | _=>.skip
noncomputable def r5W:Code:=match fJ with | .seq _ (.seq _ (.seq _ (.seq c _)))=>c | _=>.skip
set_option maxRecDepth 100000 in
set_option maxHeartbeats 4000000 in
theorem aJb {rr:Int} {eA:List (List D)} {lD:List (List D)} {n:Nat} (hn:lD.length=n) (hn2:n≤1000000)
    (hvalid:letI:=cQ Tryz.prog; Spec Tryz.prog 69 [.ag [.i .i64 rr,.i .i64 rr,.sl eA]] (.b true)) (hdiff:letI:=cQ Tryz.prog; Spec Tryz.prog 70 [.sl lD] (.b true)) :
    letI:=cQ Tryz.prog
    AWP Tryz.prog (match fJ with | .seq c _=>c | _=>.skip) (St0 [.ag [.i .i64 rr,.i .i64 rr,.sl eA],.sl lD] 38) fun e σ=>e=.normal∧AWP Tryz.prog x1W σ fun e σ=>e=.normal∧AWP Tryz.prog x3W σ fun e σ=>e=.normal∧AWP Tryz.prog r5W σ fun e σ=>e=.normal ∧
      σ.Γ 1=.d (.sl lD)∧∃ iA iR iC,iA≠iC∧iR≠iC∧σ.Γ 2=.ptr iA 0∧σ.H iA=some (.cells 61 [.d (.i .i64 rr),.d (.i .i64 rr),.d (.sl eA)])∧σ.Γ 6=.ptr iR 0∧σ.H iR=some (.cells 27 [.own iC 0 n 3])∧∃ cs,σ.H iC=some (.cells 78 cs)∧n * 3≤cs.length:=by
  letI:=cQ Tryz.prog
  simp only [x1W,x3W,r5W,fJ,Tryz.f27,Option.getD_some]
  have h0:(0:Int)≤(lD.length:Int):=by omega
  have h1:(lD.length:Int)≤9223372036854775807:=by omega
  have h2:((rr:Int) != rr)=false:=by simp
  have h3:24 * (n:Int)≤281474976710656:=by omega
  have h4:(n:Int)≤9223372036854775807:=by omega
  simp [-ζ,-ξ,↓KW,h0,h1,h2,hn]
  refine aH hvalid ?_
  simp [-ζ,-ξ,↓KW,h0,h1,h2,hn]
  refine aH hdiff ?_
  simp [-ζ,-ξ,↓KW,h0,h1,h2,hn,h3,h4]
  refine ⟨1,3,2,by decide,by decide,rfl,rfl,rfl,rfl,_,rfl,?_⟩
  simp [List.length_flatten]
end Go.Am
end
section
open List renaming map_map→ζ,mapM_map→ξ
open Go Go.Am Go.Proofs
namespace Go.Am
open Go.Conc Go.Conc.Lib Go.RowKit Go.ConcR.Gen
open Go.ConcR (KK wgBlock stA smA rd wr mk)
theorem bLw {G:Ctx} {F:Nat→Prop} {w:World} {ι:Nat→Option Nat} {C:Nat→Prop} {H:Hp} (hR:HR G F w ι C H) {i b:Nat} {e:TypeId} {cs:List D} (hb:ι i=some b) (hH:H i=some (.cells e (cs.map .d))):VD (fun b'=>b'=b∨F b') w (.pt cs) (bY b):=by
  obtain ⟨ob,h1,h2⟩:=hR.obj i b _ hb hH
  cases h2 with
  | cells _ _ cur hl hc =>
    refine .pt _ _ (fun j=>cur.getD j undef) (.inl rfl) (fun j hj=>?_) fun k c hk=>?_
    · have:j<cur.size:=by simp at hl; omega
      simp [gB,World.cell?,h1,this]
    · obtain ⟨u,hu,hv⟩:=hc k (.d c) (by simp [hk])
      have:cur.getD k undef=u:=by simp [Array.getD_eq_getD_getElem?,hu]
      rw [this]
      cases hv with | d _ _ h=>exact h.mono fun b hb=>.inr hb
theorem aIm {a:Act} {o:Oper} (hop:o.op=.alloc 119) (w:World) :
    (execOp a.eval o).run Tryz.prog w=.ok (.value (.pointer (some ⟨w.heap.size,0,none⟩))) { w with heap:=w.heap.push (wgBlock bM.tWg 0 0) }∧(execOp a.eval o).events Tryz.prog w #[]=#[]:=by
  unfold execOp
  simp only [hop]
  constructor
  · simp [go_sem,Tryz.zeroValue119,wgBlock,bM,Value.cells]
  · simp [go_sem,Tryz.zeroValue119,wgBlock,bM,Value.cells]
noncomputable def aRp:Array Oper:=match fJ with | .seq _ (.seq _ (.seq _ (.seq _ (.seq (.region _ o _) _))))=>o | _=>#[]
noncomputable def aAw:Code:=match fJ with | .seq _ (.seq _ (.seq _ (.seq _ (.seq _ c))))=>c | _=>.skip
set_option maxRecDepth 100000 in
set_option maxHeartbeats 4000000 in
theorem aJa {p:Pl} {bA bR cap Wg:Nat} {c0 c1 c2:D} {lD:List (List D)} {K An:Goroutine→Prop} {cs:List Frame} {a:Act} {V:World} (hok:OkV V) (hN:a.tmps.size=38) (hds:a.defers=[]) (h2:a.tmps.getD 2 undef=bY bA) (h6:a.tmps.getD 6 undef=bY bR)
    (h1:VD (fun b=>b<V.heap.size) V (.sl lD) (a.tmps.getD 1 undef)) (hl:lD.length=p.n) (hn:p.n≤1000000) (hfA:oY (.pt [c0,c1,c2])) (hfL:oY (.sl lD)) (hdA:VD (fun b=>b<V.heap.size) V (.pt [c0,c1,c2]) (bY bA)) (hdR:VD (fun b=>b<V.heap.size) V (.pt [.lit (.slice (some ⟨p.C,0,none⟩) p.n cap)]) (bY bR))
    (hgo:∀ a' V',RI Wg bA bR p.C p.n cap c0 c1 c2 lD 0 a' V'→pT Tryz.prog bM Wg p K An p.n (G (((base 27)).at a' [.code cW,.inLoop cW,.inBlock 0,.code tW]) cs) V') :
    pT Tryz.prog bM Wg p K An p.n (G (((base 27)).at (a.put (some 7) (bY Wg)) [.inRegion aRp [],.code aAw]) cs) V:=by
  letI:=kT Tryz.prog true
  have hW:=rL (Wg:=Wg) (p:=p) (K:=K) (An:=An) p.n
  have hb:lM (base 27):=.inl rfl
  have hg:∀ t,t≠7→(a.put (some 7) (bY Wg)).tmps.getD t undef=a.tmps.getD t undef:=fun t ht=>by
    simp [Act.put,Array.getD_eq_getD_getElem?,Array.getElem?_setIfInBounds_ne (Ne.symm ht)]
  have h7:(a.put (some 7) (bY Wg)).tmps.getD 7 undef=bY Wg:=by simp [Act.put,Array.getD_eq_getD_getElem?,hN]
  have hN':(a.put (some 7) (bY Wg)).tmps.size=38:=by simp [Act.put,hN]
  have hds':(a.put (some 7) (bY Wg)).defers=[]:=hds
  have g1:=hg 1 (by decide)
  have g2:=(hg 2 (by decide)).trans h2
  have g6:=(hg 6 (by decide)).trans h6
  rw [← g1] at h1
  generalize a.put (some 7) (bY Wg)=a5 at h1 g2 g6 h7 hN' hds'
  have hL0:(lD.length:Int)=p.n:=by omega
  have hsr:SR ⟨V,fun b=>b<V.heap.size,bF,fun _=>True,fun _=>none⟩ 38 [] (StL [(1,.d (.sl lD)),(2,.d (.lit (bY bA))),(6,.d (.lit (bY bR))),(7,.d (.lit (bY Wg)))] none []) a5 V:=by
    rw [← hds']
    refine aEt (Z:=fun _=>none) hok hN' (fun _ _ h=>by simp at h) (qY (T:=fun t=>a5.tmps.getD t undef) _ ?_)
    simp only [List.forall_mem_cons]
    refine ⟨.d _ _ h1,.d _ _ ?_,.d _ _ ?_,.d _ _ ?_,fun _ h=>by simp at h⟩
    · rw [g2]; exact .lit _
    · rw [g6]; exact .lit _
    · rw [h7]; exact .lit _
  have hgo':=hgo
  simp only [cW,tW,fJ,Tryz.f27,Option.getD_some] at hgo'
  simp only [aRp,aAw,fJ,Tryz.f27,Option.getD_some]
  refine aO hW rfl hok (fun w=>stepG_region_end) ?_
  refine aO hW rfl hok (fun w=>stepG_seq) ?_
  refine aO hW rfl hok (fun w=>stepG_seq) ?_
  refine cF aW (fun _=>rfl) _ (fun e σ=>e=.normal∧σ.Γ 2=.d (.lit (bY bA))∧σ.Γ 6=.d (.lit (bY bR))∧σ.Γ 7=.d (.lit (bY Wg))∧σ.Γ 26=.d (.sl lD)∧σ.Γ 27=.d (.i .i64 p.n)∧σ.Γ 28=.d (.i .i64 0)) _ _ _ (by kernel_rfl) (by kernel_rfl) ?hawp hsr _ hW hok _ _ _ hb fun e a6 V6 hv6 hq=>?_
  case hawp =>
    simp [-ζ,-ξ,↓KW,hL0]
  obtain ⟨σ,⟨rfl,q2,q6,q7,q26,q27,q28⟩,_,_,_,F,ι,hR,_,hV,⟨hN6,_⟩,hds6,_⟩:=hq
  simp only [nE]
  refine aO hW rfl hv6 (fun w=>stepG_block) ?_
  refine aO hW rfl hv6 (fun w=>stepG_loop) ?_
  have hs:kG (fun b=>b<V.heap.size) V V6:=fun b hb c e f hc=>⟨f,by rw [hR.kept.block b hb (fun h=>h)]; exact hc⟩
  have hf:∀ b,b<V.heap.size→b<V6.heap.size:=fun b hb=>Nat.lt_of_lt_of_le hb hR.kept.size
  refine hgo' a6 V6 ⟨hN6,hds6,nF (q2 ▸ hV 2),nF (q6 ▸ hV 6),nF (q7 ▸ hV 7),?_,v_i (q27 ▸ hV 27),v_i (q28 ▸ hV 28),hv6,(hfA _ _ _ _ hs hdA).mono hf,(jQ (by simp [lX]) _ _ _ _ hs hdR).mono hf⟩
  have h:=hV 26; rw [q26] at h
  cases h with | d _ _ h=>exact h.mono hR.F_lt
end Go.Am
end
section
open List renaming map_map→ζ,mapM_map→ξ
open Go Go.Am Go.Proofs
namespace Go.Am
open Go.Conc Go.Conc.Lib Go.RowKit Go.ConcR.Gen
open Go.ConcR (KK wgBlock stA smA rd wr mk)
def bDv (Pv Vv:Nat→Int) (i r:Nat):Value:=match r with
  | 0=>.int .i64 i
  | 1=>.int .u64 (Pv i)
  | _=>.int .u64 (Vv i)
def aNn (Pv Vv:Nat→Int) (n:Nat):List (List D):=(List.range n).map fun (i:Nat)=>[.i .i64 (i:Int),.i .u64 (Pv i),.i .u64 (Vv i)]
set_option maxRecDepth 100000 in
set_option maxHeartbeats 4000000 in
theorem aUi {W0:World} {Post:Value→World→Prop} {rr:Int} {eA lD:List (List D)} {n:Nat} {Pv Vv Ev:Nat→Int} (hn:lD.length=n) (hn2:n≤1000000) (hfE:oY (.sl eA)) (hlD:∀ k,k<n→lD[k]? = some [.i .u64 (Pv k)])
    (hres:∀ k,k<n→letI:=kT Tryz.prog false; Spec Tryz.prog 74 [.ag [.i .i64 rr,.i .i64 rr,.sl eA],.i .u64 (Pv k)] (.tp [.ag [.i .u64 (Pv k),.i .u64 (Vv k)],.i .i64 (Ev k)]))
    {A:Nat→Prop} {W V:World} {σ:St} {a:Act} {c:Frame} {cs:List Frame} (hsr:SR ⟨W,A,bF,fun _=>True,fun _=>none⟩ 38 [] σ a V)
    (q1:σ.Γ 1=.d (.sl lD)) {iA iR iC:Nat} (hne1:iA≠iC) (hne2:iR≠iC) (q2:σ.Γ 2=.ptr iA 0) (qA:σ.H iA=some (.cells 61 [.d (.i .i64 rr),.d (.i .i64 rr),.d (.sl eA)])) (q6:σ.Γ 6=.ptr iR 0) (qR:σ.H iR=some (.cells 27 [.own iC 0 n 3])) {csC:List AV} (qC:σ.H iC=some (.cells 78 csC)) (hlC:n * 3≤csC.length)
    (hk:∀ x v',OkV v'→(Below W.heap.size W v'∧VD (fun b=>A b∨(W.heap.size≤b∧b<v'.heap.size)) v' (.tp [.sl (aNn Pv Vv n),.i .i64 0]) x)→dO Tryz.prog W0 Post (G (c.finish x) cs) v') :
    dO Tryz.prog W0 Post (G (((base 27)).at a [.inRegion aRp [0],.code aAw]) (c::cs)) V:=by
  obtain ⟨_,_,hok,F,ι,hR,_,hV,⟨hN,_⟩,hds,_⟩:=hsr
  obtain ⟨bA,hbA,e2⟩:=aNh (q2 ▸ hV 2)
  obtain ⟨bR,hbR,e6⟩:=aNh (q6 ▸ hV 6)
  -- the reports' cell
  obtain ⟨obR,hoR,hcR⟩:=hR.obj iR bR _ hbR qR
  obtain ⟨C,cap,cur,hiC,hCb,hcap,hcell⟩:∃ C cap cur,ι iC=some C∧V.heap[C]? = some (.cells cur 78 (0,0))∧n≤cap∧V.cell? ⟨bR,0,none⟩=some (.slice (some ⟨C,0,none⟩) n cap):=by
    cases hcR with
    | cells _ _ curR hl hc =>
      obtain ⟨u,hu,hv⟩:=hc 0 _ rfl
      cases hv with
      | own _ _ _ _ b cap cur e hι hb hcap hl' hm =>
        obtain ⟨obC,hoC,hcC⟩:=hR.obj iC b _ hι qC
        cases hcC with
        | cells _ _ cur' hl2 hc2 =>
          exact ⟨b,cap,cur',hι,hoC,hl',by simp [World.cell?,hoR,hu]⟩
  obtain ⟨obC,hoC,hcC⟩:=hR.obj iC C _ hiC qC
  have hfit:n * 3≤cur.size:=by
    rw [hCb] at hoC; obtain rfl:=Option.some.inj hoC
    cases hcC with
    | cells _ _ _ hl2 hc2=>omega
  have hnA:bA≠C:=fun e=>hne1 (hR.inj iA iC bA hbA (e ▸ hiC) (fun h=>h) (fun h=>h))
  have hnR:bR≠C:=fun e=>hne2 (hR.inj iR iC bR hbR (e ▸ hiC) (fun h=>h) (fun h=>h))
  have hCW:W.heap.size≤C:=(hR.place iC C hiC).1.elim (fun h=>h.elim) id
  have hCF:¬ F C:=(hR.place iC C hiC).2.2 (fun h=>h)
  have hbRlt:bR<V.heap.size:=bD hoR
  let p:Pl:={ C:=C,wd:=3,n:=n,ety:=78,val:=bDv Pv Vv,pos:=by decide,tot:=cur.size,le:=hfit }
  have hfL:oY (.sl lD):=wC fun r hr x hx=>by
    obtain ⟨k,hk',rfl⟩:=List.mem_iff_getElem.1 hr
    have:=hlD k (by omega)
    rw [List.getElem?_eq_getElem hk'] at this
    rw [Option.some.inj this] at hx
    simp at hx; subst hx; exact yG _ _
  have hfA:oY (.pt [.i .i64 rr,.i .i64 rr,.sl eA]):=jQ (by
    intro x hx
    simp at hx
    rcases hx with rfl | rfl
    · exact yG _ _
    · exact hfE)
  have hdA:=bLw (cs:=[.i .i64 rr,.i .i64 rr,.sl eA]) hR hbA qA
  have hdR:VD (fun b=>b=bR) V (.pt [.lit (.slice (some ⟨C,0,none⟩) n cap)]) (bY bR) :=
    .pt _ _ (fun _=>.slice (some ⟨C,0,none⟩) n cap) rfl (fun j hj=>by
      have:j=0:=by simp at hj; omega
      subst this; rw [gB]; exact hcell) fun k c hk=>by
      cases k with
      | zero=>simp at hk; subst hk; exact .lit _
      | succ k=>simp at hk
  have hd1:VD F V (.sl lD) (a.tmps.getD 1 undef):=by
    have h:=hV 1; rw [q1] at h
    cases h with | d _ _ h=>exact h
  refine aRj (L:=bM) (p:=p) (g1:=fun Wg=>G (((base 27)).at (a.put (some 7) (bY Wg)) [.inRegion aRp [],.code aAw]) (c::cs)) rfl (fun v1 w he ho hs=>?_) ⟨cur,hCb,rfl⟩ (show (78:Nat)≠0 by decide) (show n<2147483648 by omega) fun v1 he ho=>?_
  · simp only [aRp,aAw,fJ,Tryz.f27,Option.getD_some]
    exact (stepG_value rfl rfl (by k_ne) (aIm rfl w).1).trans (by unfold listed; rw [(aIm rfl w).2,seen_none]; rfl)
  have hsz1:=he.size
  have hret:∀ v',aIt p v1 v'→dO Tryz.prog W0 Post (G (c.finish (.tuple #[.slice (some ⟨C,0,none⟩) n cap,.int .i64 0])) cs) v':=fun v' hF=>by
    obtain ⟨cs',g1,g2,g3⟩:=hF.val
    have hlt:C<v'.heap.size:=bD g1
    refine hk _ v' hF.ok ⟨⟨(hF.os.trans he.os).trans hR.kept.os,(hF.tape.trans he.tape).trans hR.kept.tape,(hF.output.trans he.output).trans hR.kept.output,Nat.le_trans hR.kept.size (Nat.le_trans hsz1 (Nat.le_of_lt hF.size)),fun b hb=>?_⟩,?_⟩
    · have hb1:b<V.heap.size:=Nat.lt_of_lt_of_le hb hR.kept.size
      rw [hF.old b (Nat.lt_of_lt_of_le hb1 hsz1) (by show b≠C; omega),he.get hb1]
      exact hR.kept.block b hb (fun h=>h)
    · refine .tp _ _ rfl fun k d y hd hy=>?_
      match k with
      | 0 =>
        simp at hd hy; subst hd; subst hy
        refine .sl _ _ n cap 3 (fun j=>cs'.getD j undef) (by simp [aNn]) hcap (fun r hr=>?_) (.inr ⟨hCW,hlt⟩) (fun j hj=>?_) fun j k r d h1 h2=>?_
        · obtain ⟨i,_,rfl⟩:=List.mem_map.1 hr; rfl
        · have:j<cs'.size:=by rw [g2]; show j<cur.size; omega
          have g1':v'.heap[C]? = some (.cells cs' 78 (0,0)):=g1
          simp [gB,World.cell?,g1',this]
        · simp only [aNn,List.getElem?_map,List.getElem?_range] at h1
          obtain ⟨i,hi,rfl⟩:=Option.map_eq_some_iff.1 h1
          have hij:i=j∧j<n:=by
            rcases Nat.lt_or_ge j n with h | h
            · rw [List.getElem?_range h] at hi; exact ⟨(Option.some.inj hi).symm,h⟩
            · rw [List.getElem?_eq_none (by simpa using h)] at hi; cases hi
          obtain ⟨rfl,hjn⟩:=hij
          have hv:=fun r hr=>g3 i hjn r hr
          match k with
          | 0 =>
            simp at h2; subst h2
            have:=hv 0 (show 0<3 by decide)
            simp only [Array.getD_eq_getD_getElem?]
            rw [show cs'[i * 3+0]? = some (bDv Pv Vv i 0) from this]; exact .i _ _
          | 1 =>
            simp at h2; subst h2
            have:=hv 1 (show 1<3 by decide)
            simp only [Array.getD_eq_getD_getElem?]
            rw [show cs'[i * 3+1]? = some (bDv Pv Vv i 1) from this]; exact .i _ _
          | 2 =>
            simp at h2; subst h2
            have:=hv 2 (show 2<3 by decide)
            simp only [Array.getD_eq_getD_getElem?]
            rw [show cs'[i * 3+2]? = some (bDv Pv Vv i 2) from this]; exact .i _ _
          | k+3=>simp at h2
      | 1=>simp at hd hy; subst hd; subst hy; exact .i _ _
      | k+2=>simp at hd
  have hcell1:v1.cell? ⟨bR,0,none⟩=some (.slice (some ⟨C,0,none⟩) n cap):=by
    rw [← hcell]; exact eM (he.get hbRlt)
  let An:Goroutine→Prop:=fun g=>∃ a:Act,a.tmps.getD 6 undef=bY bR∧a.tmps.size=38∧a.defers=[]∧zP bM v1.heap.size (((base 27)).at a [.inRegion aKu [0],.code tW2]) (c::cs) g
  have hHd:∀ g,An g→Dl Tryz.prog true (cR bM.tWg v1.heap.size) (dI v1.heap.size) (fun d g=>d=1∧vK Tryz.prog bM v1.heap.size (KF Tryz.prog W0 Post p v1) An d g) 1 g:=by
    rintro g ⟨a',h6,hN',hds',hh⟩
    exact (aPw aAl (aUh (p:=p) h6 hN' hds' (Nat.lt_of_lt_of_le hbRlt hsz1) hnR hcell1 hret) hh).mono fun d g hx=>⟨hx.1,aTm (fun g hg=>⟨a',h6,hN',hds',hg⟩) hx.2⟩
  refine ⟨An,hHd,?_⟩
  have hin:∀ F':Nat→Prop,(∀ b,F' b→b≠C)→kG F' V (inV v1 C):=fun F' hF'=>(aAu he).trans (aQr hF')
  have hlt':∀ b,b<V.heap.size→b<(inV v1 C).heap.size:=fun b hb=>by rw [rU]; omega
  refine aJa (p:=p) (aZp v1 C) hN hds e2 e6 ((hfL _ _ _ _ (hin F fun b hb e=>hCF (e ▸ hb)) hd1).mono fun b hb=>hlt' b (hR.F_lt b hb)) hn hn2 hfA hfL
    ((hfA _ _ _ _ (hin _ fun b hb e=>hb.elim (fun h=>hnA (h ▸ e)) fun h=>hCF (e ▸ h)) hdA).mono fun b hb=>hlt' b (hb.elim (fun h=>by rw [h]; exact bD (hR.obj iA bA _ hbA qA).choose_spec.1) (hR.F_lt b)))
    ((jQ (by simp [lX]) _ _ _ _ (hin (fun b=>b=bR) fun b hb e=>hnR (hb ▸ e)) hdR).mono fun b hb=>hlt' b (hb ▸ hbRlt)) fun a' V' hri=>?_
  refine aWw (p:=p) hn (show n<2147483648 by omega) hfA hfL (fun k hkn=>⟨Pv k,hlD k hkn,fun V' Bp Bi h1 h2 h3 h4 h5=>bDn (p:=p) rfl hkn rfl rfl rfl rfl h1 h2 h3 h4 h5 (hres k hkn)⟩) (fun a h6 hN hds g hh=>⟨a,h6,hN,hds,hh⟩) hHd n 0 a' V' (by show 0+n=n; omega) hri
set_option maxRecDepth 100000 in
set_option maxHeartbeats 4000000 in
theorem aUj {rr:Int} {eA lD:List (List D)} {n:Nat} {Pv Vv Ev:Nat→Int} (hn:lD.length=n) (hn2:n≤1000000) (hfE:oY (.sl eA)) (hlD:∀ k,k<n→lD[k]? = some [.i .u64 (Pv k)])
    (hvalid:letI:=cQ Tryz.prog; Spec Tryz.prog 69 [.ag [.i .i64 rr,.i .i64 rr,.sl eA]] (.b true)) (hdiff:letI:=cQ Tryz.prog; Spec Tryz.prog 70 [.sl lD] (.b true))
    (hres:∀ k,k<n→letI:=kT Tryz.prog false; Spec Tryz.prog 74 [.ag [.i .i64 rr,.i .i64 rr,.sl eA],.i .u64 (Pv k)] (.tp [.ag [.i .u64 (Pv k),.i .u64 (Vv k)],.i .i64 (Ev k)])) :
    letI:=cQ Tryz.prog; Spec Tryz.prog 27 [.ag [.i .i64 rr,.i .i64 rr,.sl eA],.sl lD] (.tp [.sl (aNn Pv Vv n),.i .i64 0]):=by
  letI:=cQ Tryz.prog
  intro A W vs hA hl hv
  refine ⟨fun w=>by simp [callFunc,Tryz.func27,Tryz.f27],bIl fun W0 Post c cs hk hok=>?_⟩
  have hW:(cQ Tryz.prog).Fam (dO Tryz.prog W0 Post):=.inl ⟨W0,Post,rfl⟩
  have hb:lM (base 27):=.inl rfl
  rw [enter_at vs Tryz.func27 (show Tryz.f27.body=some fJ from rfl)]
  have hsr:=SR0 (N:=38) hok hA hl hv (by simp)
  have hfr:=aJb hn hn2 hvalid hdiff
  have hmid:∀ {σ:St} {a:Act} {V:World},_:=fun {σ a V}=>@aUi W0 Post rr eA lD n Pv Vv Ev hn hn2 hfE hlD hres A W V σ a c cs
  simp only [aRp,aAw,fJ,Tryz.f27,Option.getD_some] at hmid
  simp only [x1W,x3W,r5W,fJ,Tryz.f27,Option.getD_some] at hfr
  simp only [fJ,Tryz.f27,Option.getD_some]
  refine aO hW rfl hok (fun w=>stepG_seq) ?_
  refine cF aW (fun _=>rfl) _ _ _ _ _ (by kernel_rfl) (by kernel_rfl) hfr hsr _ hW hok _ _ _ hb fun e a1 V1 hv1 hq=>?_
  obtain ⟨σ1,⟨rfl,hfr1⟩,hsr1⟩:=hq
  simp only [nE]
  refine aO hW rfl hv1 (fun w=>stepG_seq) ?_
  refine cF aW (fun _=>rfl) _ _ _ _ _ (by kernel_rfl) (by kernel_rfl) hfr1 hsr1 _ hW hv1 _ _ _ hb fun e a2 V2 hv2 hq=>?_
  obtain ⟨σ2,⟨rfl,hfr2⟩,hsr2⟩:=hq
  simp only [nE]
  refine aO hW rfl hv2 (fun w=>stepG_seq) ?_
  refine cF aW (fun _=>rfl) _ _ _ _ _ (by kernel_rfl) (by kernel_rfl) hfr2 hsr2 _ hW hv2 _ _ _ hb fun e a3 V3 hv3 hq=>?_
  obtain ⟨σ3,⟨rfl,hfr3⟩,hsr3⟩:=hq
  simp only [nE]
  refine aO hW rfl hv3 (fun w=>stepG_seq) ?_
  refine cF aW (fun _=>rfl) _ _ _ _ _ (by kernel_rfl) (by kernel_rfl) hfr3 hsr3 _ hW hv3 _ _ _ hb fun e a4 V4 hv4 hq=>?_
  obtain ⟨σ4,⟨rfl,q1,iA,iR,iC,hne1,hne2,q2,qA,q6,qR,csC,qC,hlC⟩,hsr4⟩:=hq
  simp only [nE]
  refine aO hW rfl hv4 (fun w=>stepG_seq) ?_
  refine aO hW rfl hv4 (fun w=>stepG_region) ?_
  exact hmid hsr4 q1 hne1 hne2 q2 qA q6 qR qC hlC hk
end Go.Am
end
section
open List renaming map_map→ζ,mapM_map→ξ
open Go Go.Am Go.Proofs
namespace Go.Am
theorem kW1:letI:=cQ Tryz.prog; Spec Tryz.prog 27 [mA,.sl [[.i .u64 5],[.i .u64 3]]] (.tp [.sl [rp 0 5 4,rp 1 3 2],.i .i64 0]):=by
 refine aUj (rr:=1) (eA:=[[.sl [[.b true,.sl [[.i .u32 1]]]]]]) (lD:=[[.i .u64 5],[.i .u64 3]]) (n:=2) (Pv:=fun k=>if k=0 then 5 else 3) (Vv:=fun k=>if k=0 then 4 else 2) (Ev:=fun _=>0) rfl (by decide) ?_ ?_ ?_ ?_ ?_
 ·refine wC fun cs h c hc=>?_
  simp only [List.mem_singleton] at h; subst h
  simp only [List.mem_singleton] at hc; subst hc
  refine wC fun cs h c hc=>?_
  simp only [List.mem_singleton] at h; subst h
  simp only [List.mem_cons,List.not_mem_nil,or_false] at hc
  rcases hc with rfl | rfl
  ·exact bNd _
  ·refine wC fun cs h c hc=>?_
   simp only [List.mem_singleton] at h; subst h
   simp only [List.mem_singleton] at hc; subst hc
   exact yG _ _
 ·intro k hk
  have:k=0∨k=1:=by omega
  rcases this with rfl | rfl <;> rfl
 ·letI:=cQ Tryz.prog
  exact kVa
 ·letI:=cQ Tryz.prog
  exact kDi
 ·intro k hk
  letI:=kT Tryz.prog false
  have:k=0∨k=1:=by omega
  rcases this with rfl | rfl
  ·exact kR5
  ·exact kR3
def sA:St:=StL [(1,.d (.sl rl4)),(2,.ptr 1 0)] none [.cells 31 [.d (.b false),.d (.sl [[.i .u32 10]])]]
def vA:HO:=.cells 34 [.d (.b false),.d (.sl [[.i .u32 5]]),.d (.sl [[.i .i64 3]])]
def vB:HO:=.cells 34 [.d (.b false),.d (.sl [[.i .u32 5]]),.d (.sl [])]
def sB:St:=StL [(1,.d (.sl rl4)),(2,.ptr 1 0),(3,.ptr 2 0),(4,.d (.i .i64 0)),(6,.d (.i .i64 200)),(7,.ptr 3 0),(8,.d (.i .i64 0))] none [.cells 31 [.d (.b false),.d (.sl [[.i .u32 10]])],vA,vB]
def lC:List (Nat × AV):=[(1,.d (.sl rl4)),(3,.ptr 1 0),(4,.d (.i .i64 0)),(6,.d (.i .i64 200)),(7,.ptr 2 0),(8,.d (.i .i64 0)),(10,.d (.i .i64 201)),(12,.d (.i .i64 1)),(14,.d (.i .i64 40))]
def sC:St:=StL lC none [vA,vB]
def lD2:List (Nat × AV):=lC++[(15,.d (.sl [rp 0 5 4,rp 1 3 2])),(16,.d (.i .i64 0))]
def sD:St:=StL lD2 none [vA,vB]
def lE:List (Nat × AV):=lD2++[(18,.d (.i .i64 50)),(20,.d (.i .i64 40))]
def sE:St:=StL lE none [vA,vB]
def sF:St:=StL (lE++[(21,.d (.b true))]) none [vA,vB]
def sG:St:=StL [(1,.d (.sl rl4)),(15,.d (.sl [rp 0 5 4,rp 1 3 2])),(16,.d (.i .i64 0)),(18,.d (.i .i64 50)),(20,.d (.i .i64 40)),(21,.d (.b true)),(22,.d (.b true))] none []
def sH:St:=StL [(1,.d (.sl rl4)),(21,.d (.b true)),(22,.d (.b true)),(23,.d (.b true))] none []
theorem kX1 [M:Mch Tryz.prog]:Spec Tryz.prog 36 [.i .i64 0,.i .u64 7,.i .u64 5] (.ag (rp 0 7 5)):=kRe 0 7 5
theorem kX2 [M:Mch Tryz.prog]:Spec Tryz.prog 36 [.i .i64 1,.i .u64 11,.i .u64 5] (.ag (rp 1 11 5)):=kRe 1 11 5
theorem kX3 [M:Mch Tryz.prog]:Spec Tryz.prog 36 [.i .i64 2,.i .u64 13,.i .u64 5] (.ag (rp 2 13 5)):=kRe 2 13 5
theorem kX4 [M:Mch Tryz.prog]:Spec Tryz.prog 36 [.i .i64 3,.i .u64 17,.i .u64 0] (.ag (rp 3 17 0)):=kRe 3 17 0
theorem kX5 [M:Mch Tryz.prog]:Spec Tryz.prog 11 [.i .i64 10] (iv 10):=kOf 10
theorem kX6 [M:Mch Tryz.prog]:Spec Tryz.prog 11 [.i .i64 3] (iv 3):=kOf 3
theorem kX7 [M:Mch Tryz.prog]:Spec Tryz.prog 36 [.i .i64 0,.i .u64 7,.i .u64 1] (.ag (rp 0 7 1)):=kRe 0 7 1
theorem kX8 [M:Mch Tryz.prog]:Spec Tryz.prog 36 [.i .i64 1,.i .u64 11,.i .u64 2] (.ag (rp 1 11 2)):=kRe 1 11 2
theorem kX9 [M:Mch Tryz.prog]:Spec Tryz.prog 36 [.i .i64 0,.i .u64 8,.i .u64 1] (.ag (rp 0 8 1)):=kRe 0 8 1
theorem bRg [M:Mch Tryz.prog]:Spec Tryz.prog 20 [cP [2147483647,2147483629],cP [2147483647,2147483629]] (.b true):=kNu [2147483647,2147483629] [2147483647,2147483629]
theorem bRf [M:Mch Tryz.prog]:Spec Tryz.prog 11 [.i .i64 1] (iv 1):=kOf 1
theorem bRe [M:Mch Tryz.prog]:Spec Tryz.prog 20 [cP [2147483647],cP [2147483647]] (.b true):=kNu [2147483647] [2147483647]
theorem bMp [M:Mch Tryz.prog]:Spec Tryz.prog 11 [.i .i64 5] (iv 5):=kOf 5
theorem bRd [M:Mch Tryz.prog]:Spec Tryz.prog 13 [vd 5 [3],vd 5 [3]] (.b true):=kSa 5 [3]
theorem bRc [M:Mch Tryz.prog]:Spec Tryz.prog 13 [vd 5 [],vd 5 []] (.b true):=kSa 5 []
theorem bPj [M:Mch Tryz.prog]:Spec Tryz.prog 13 [.ag [.b false,.sl [[.i .u32 5]],.sl []],.ag [.b false,.sl [[.i .u32 5]],.sl []]] (.b true):=bRc
theorem bRb [M:Mch Tryz.prog]:Spec Tryz.prog 36 [.i .i64 0,.i .u64 5,.i .u64 4] (.ag (rp 0 5 4)):=kRe 0 5 4
theorem bRa [M:Mch Tryz.prog]:Spec Tryz.prog 36 [.i .i64 1,.i .u64 3,.i .u64 2] (.ag (rp 1 3 2)):=kRe 1 3 2
theorem bFt {P:Program} [M:Mch P] (ts:List Nat) {ops:Array Oper} {l:List Oper} {σ:St} {con:List Nat} {kk:St→List Nat→Prop} {d:Dm (ops,l,kk)}
  (hc:con=[]) (h:∀ Γ' H' n',(∀ t∈ts,Γ' t=σ.Γ t)→OWd P ops l ⟨Γ',H',n'⟩ [] kk .mk):OWd P ops l σ con kk d:=by
 rw [hc]; exact h σ.Γ σ.H σ.n fun _ _=>rfl
set_option maxHeartbeats 8000000 in
set_option maxRecDepth 10000 in
theorem aWk:letI:=cQ Tryz.prog; Spec Tryz.prog 8 [] (.b true):=by
 letI:=cQ Tryz.prog
 have w1:=kW1
 have hN1:uX Tryz.prog 38 [.i .i64 1,.i .i64 2] (nwV 1 2) (mB 2 [[0,0]]):=aKo 1 2 (by decide) (by decide)
 have hmB1:∀ n,mB 2 [[0,0]] n=[.cells 110 [.own (n+1) 0 2 2],.cells 31 [.d (.b (decide ((0:Int)<0))),.d (aG (aR (0:Int).natAbs)),.d (.b (decide ((0:Int)<0))),.d (aG (aR (0:Int).natAbs))]]:=fun n=>by simp [mB,hdr,bLq,vcs,bPt]
 have hN0:uX Tryz.prog 38 [.i .i64 0,.i .i64 0] (nwV 0 0) (mB 0 []):=aKo 0 0 (by decide) (by decide)
 have hmB0:∀ n,mB 0 [] n=[.cells 110 []]:=fun n=>rfl
 have hd0:aG (aR 0)=.sl []:=by rw [cB]; rfl
 obtain ⟨m12',hm12⟩:∃ m,m=D.ag [.i .i64 1,.i .i64 2,.sl [[.sl [[.b false,aG (aR 0)],[.b false,aG (aR 0)]]]]]:=⟨_,rfl⟩
 have hk2:Spec Tryz.prog 27 [m12',.sl []] (.tp [.sl [],.i .i64 50]):=by
  rw [hm12,hd0]; exact kW2
 subst hm12
 have fl2:∀ l:List (List D),uP (.sl l)=false:=fun _=>rfl
 have fl:∀ l m:List (List D),uP (.ag [.b false,.sl l,.sl m])=false:=fun _ _=>rfl
 refine aVr (N:=171) [true,true,true,false,true,true,true,false,true,true,true,false,true,false,true,true,false,true,false,true,false,true,false] aW Tryz.func8 rfl rfl rfl (by kernel_rfl) (by kernel_rfl) (by simp) ?_
 simp [-ζ,-ξ,↓KW,↓aZ,↓aX,↓bJ]
 refine aH kX1 ?_
 simp [-ζ,-ξ,↓KW,rp,↓aZ,↓aX,↓bJ]
 refine aH kX2 ?_
 simp [-ζ,-ξ,↓KW,rp,↓aZ,↓aX,↓bJ]
 refine aH kX3 ?_
 simp [-ζ,-ξ,↓KW,rp,↓aZ,↓aX,↓bJ]
 refine aH kX4 ?_
 simp [-ζ,-ξ,↓KW,rp,↓aZ,↓aX,↓bJ]
 refine aH kX5 ?_
 simp [-ζ,-ξ,↓KW,iv,↓aZ,↓aX,↓bJ]
 refine gQ sA ?_ ?_
 ·unfold sA
  refine wkQ [2] ?_ ?_
  ·simp [-ζ,upd,aS,Γ0,rl4,rp]
   refine aNj (by rfl) (fun a ha id hid=>?_)
   have ha':a=1:=by simpa [-ζ,-ξ,upd] using ha
   rw [ha']
   exact aNo hid (by simp) (by decide)
  ·simp [-ζ,upd,aS,Γ0]
 simp [-ζ,-ξ,↓KW,sA,rl4,rp,↓aZ,↓aX,↓bJ]
 refine aH kC1 ?_
 simp [-ζ,-ξ,↓KW,iv,vd,fl,↓aZ,↓aX,↓bJ]
 refine aH kC2 ?_
 simp [-ζ,-ξ,↓KW,iv,vd0,fl,↓aZ,↓aX,↓bJ]
 refine aH kC3 ?_
 simp [-ζ,-ξ,↓KW,iv,vd,fl,↓aZ,↓aX,↓bJ]
 refine gQ sB ?_ ?_
 ·unfold sB vA vB
  refine wkQ [1,2,4] ?_ ?_ <;> simp [-ζ,upd,aS,Γ0,rl4,rp]
 simp [-ζ,-ξ,↓KW,sB,vA,vB,rl4,rp,↓aZ,↓aX,↓bJ]
 refine aH kX6 ?_
 simp [-ζ,-ξ,↓KW,iv,↓aZ,↓aX,↓bJ]
 refine aH kX7 ?_
 simp [-ζ,-ξ,↓KW,rp,↓aZ,↓aX,↓bJ]
 refine aH kX8 ?_
 simp [-ζ,-ξ,↓KW,rp,↓aZ,↓aX,↓bJ]
 refine aH kC4 ?_
 simp [-ζ,-ξ,↓KW,iv,vd0,fl,↓aZ,↓aX,↓bJ]
 refine aH kC5 ?_
 simp [-ζ,-ξ,↓KW,iv,vd0,fl,↓aZ,↓aX,↓bJ]
 refine aH kX9 ?_
 simp [-ζ,-ξ,↓KW,rp,↓aZ,↓aX,↓bJ]
 refine aH kC6 ?_
 simp [-ζ,-ξ,↓KW,iv,vd0,fl,↓aZ,↓aX,↓bJ]
 refine gQ sC ?_ ?_
 ·unfold sC lC vA vB
  refine wkQ [2,3] ?_ ?_ <;> simp [-ζ,upd,aS,Γ0,rl4,rp]
 simp [-ζ,-ξ,↓KW,sC,lC,vA,vB,rl4,rp,↓aZ,↓aX,↓bJ]
 refine aH bPl ?_
 simp [-ζ,-ξ,↓KW,mA,↓aZ,↓aX,↓bJ]
 refine aH w1 ?_
 simp [-ζ,-ξ,↓KW,rp,fl2,↓aZ,↓aX,↓bJ]
 refine gQ sD ?_ ?_
 ·unfold sD lD2 lC vA vB
  refine wkQ [1,2] ?_ ?_ <;> simp [-ζ,upd,aS,Γ0,rl4,rp]
 simp [-ζ,-ξ,↓KW,sD,lD2,lC,vA,vB,rl4,rp,↓aZ,↓aX,↓bJ]
 refine xL [.i .i64 1,.i .i64 2] (nwV 1 2) (mB 2 [[0,0]]) (by simp) (by simp) (by simp) (by rfl) (by rfl) hN1 ?_
 simp [-ζ,-ξ,↓KW,nwV,hmB1,aEf,↓aZ,↓aX,↓bJ]
 refine aH hk2 ?_
 simp [-ζ,-ξ,↓KW,fl2,nwV,hmB1,aEf,bDu,kill,↓aZ,↓aX,↓bJ]
 refine xL [.i .i64 0,.i .i64 0] (nwV 0 0) (mB 0 []) (by simp) (by simp) (by simp) (by rfl) (by rfl) hN0 ?_
 simp [-ζ,-ξ,↓KW,nwV,hmB0,yH,↓aZ,↓aX,↓bJ]
 refine aH kW3 ?_
 simp [-ζ,-ξ,↓KW,fl2,nwV,hmB0,yH,bDu,kill,↓aZ,↓aX,↓bJ]
 refine gQ sE ?_ ?_
 ·unfold sE lE lD2 lC vA vB
  refine wkQ [1,2] ?_ ?_ <;> simp [-ζ,upd,aS,Γ0,rl4,rp]
 simp [-ζ,-ξ,↓KW,sE,lE,lD2,lC,vA,vB,rl4,rp,↓aZ,↓aX,↓bJ]
 refine aH bPk ?_
 simp [-ζ,-ξ,↓KW,iv0,↓aZ,↓aX,↓bJ]
 refine aH kP1 ?_
 simp [-ζ,-ξ,↓KW,cP,fl2,↓aZ,↓aX,↓bJ]
 refine aH bRg ?_
 simp [-ζ,-ξ,↓KW,↓aZ,↓aX,↓bJ]
 refine aH bRf ?_
 simp [-ζ,-ξ,↓KW,iv,↓aZ,↓aX,↓bJ]
 refine aH kP2 ?_
 simp [-ζ,-ξ,↓KW,cP,fl2,↓aZ,↓aX,↓bJ]
 refine aH bRe ?_
 simp [-ζ,-ξ,↓KW,↓aZ,↓aX,↓bJ]
 refine aH bPk ?_
 simp [-ζ,-ξ,↓KW,iv0,↓aZ,↓aX,↓bJ]
 refine aH kP3 ?_
 simp [-ζ,-ξ,↓KW,cP,fl2,↓aZ,↓aX,↓bJ]
 refine gQ sF ?_ ?_
 ·unfold sF lE lD2 lC vA vB
  refine wkQ [1,2] ?_ ?_ <;> simp [-ζ,upd,aS,Γ0,rl4,rp]
 simp [-ζ,-ξ,↓KW,sF,lE,lD2,lC,vA,vB,rl4,rp,↓aZ,↓aX,↓bJ]
 refine aH bMp ?_
 simp [-ζ,-ξ,↓KW,iv,↓aZ,↓aX,↓bJ]
 refine aH bRd ?_
 simp [-ζ,-ξ,↓KW,↓aZ,↓aX,↓bJ]
 refine aH bMp ?_
 simp [-ζ,-ξ,↓KW,iv,↓aZ,↓aX,↓bJ]
 refine aH bPj ?_
 refine bFt [1,10,12,14,15,16,18,20,21,122,126] (by rfl) ?_
 intro Γ' H' n' hΓ
 have g1:Γ' 1=.d (.sl rl4):=(hΓ 1 (by decide)).trans (by rfl)
 have g2:Γ' 10=.d (.i .i64 201):=(hΓ 10 (by decide)).trans (by rfl)
 have g3:Γ' 12=.d (.i .i64 1):=(hΓ 12 (by decide)).trans (by rfl)
 have g4:Γ' 14=.d (.i .i64 40):=(hΓ 14 (by decide)).trans (by rfl)
 have g5:Γ' 15=.d (.sl [rp 0 5 4,rp 1 3 2]):=(hΓ 15 (by decide)).trans (by rfl)
 have g6:Γ' 16=.d (.i .i64 0):=(hΓ 16 (by decide)).trans (by rfl)
 have g7:Γ' 18=.d (.i .i64 50):=(hΓ 18 (by decide)).trans (by rfl)
 have g8:Γ' 20=.d (.i .i64 40):=(hΓ 20 (by decide)).trans (by rfl)
 have g9:Γ' 21=.d (.b true):=(hΓ 21 (by decide)).trans (by rfl)
 have g10:Γ' 122=.d (.b true):=(hΓ 122 (by decide)).trans (by rfl)
 have g11:Γ' 126=.d (.b true):=(hΓ 126 (by decide)).trans (by rfl)
 clear hΓ
 simp [-ζ,-ξ,↓KW,g1,g2,g3,g4,g5,g6,g7,g8,g9,g10,g11,↓aZ,↓aX,↓bJ]
 refine gQ sG ?_ ?_
 ·unfold sG
  refine wkQ [] ?_ ?_ <;> simp [-ζ,upd,aS,Γ0,g1,g5,g6,g7,g8,g9,rl4,rp]
 simp [-ζ,-ξ,↓KW,sG,rl4,rp,↓aZ,↓aX,↓bJ]
 refine aH bRb ?_
 simp [-ζ,-ξ,↓KW,rp,↓aZ,↓aX,↓bJ]
 refine aH bRa ?_
 simp [-ζ,-ξ,↓KW,rp,↓aZ,↓aX,↓bJ]
 refine aH kSR ?_
 simp [-ζ,-ξ,↓KW,↓aZ,↓aX,↓bJ]
 refine gQ sH ?_ ?_
 ·unfold sH
  refine wkQ [] ?_ ?_ <;> simp [-ζ,upd,aS,Γ0,rl4,rp]
 simp [-ζ,-ξ,↓KW,sH,rl4,rp,↓aZ,↓aX,↓bJ]
 refine aH bMp ?_
 simp [-ζ,-ξ,↓KW,iv]
 refine aH kBl ?_
 simp [-ζ,-ξ,↓KW]
 refine aH kIn ?_
 simp [-ζ,-ξ,↓KW]
theorem aNc {n:Int} (h1:-128≤n) (h2:n≤127):IntKind.i8.wrap n=n:=by
 show IntKind.i8.wrap n=n
 unfold IntKind.wrap
 simp [IntKind.bits,IntKind.signed]
 omega
set_option maxHeartbeats 8000000 in
set_option maxRecDepth 10000 in
theorem bPh [M:Mch Tryz.prog] (X:List (Nat × Nat × Nat)) (u v:Int) (hX:∀ x∈X,x.1<256∧x.2.1<256∧x.2.2<256) (hXl:X.length≤9223372036854775807) (hu:-128≤u∧u≤127) (hv:-128≤v∧v≤127) (hS:Spec Tryz.prog 8 [] (.b true)) :
  bNt Tryz.prog Tryz.f3 64 [bAi X,.i .i8 u,.i .i8 v] (.b true):=by
 have hMd:=aYj X hX hXl
 obtain ⟨l,hl⟩:∃ l,mdL (X.take 9)=l:=⟨_,rfl⟩
 have hl9:l.length≤9:=by rw [← hl]; simp only [mdL,List.length_map,List.length_take]; omega
 have hmem:∀ x∈l,∃ k,x.2.1=smF k:=fun x hx=>by
  rw [← hl] at hx
  obtain ⟨y,_,rfl⟩:=List.mem_map.1 hx
  exact ⟨_,rfl⟩
 have hP:∀ x∈l,Spec Tryz.prog 52 [.i .u64 (x.2.1:Nat)] (.b true):=fun x hx=>by
  obtain ⟨k,hk⟩:=hmem x hx; rw [hk]; exact aVu k
 have hP3:∀ x∈l,Spec Tryz.prog 98 [.i .u64 (x.2.1:Nat)] (.b true):=fun x hx=>by
  obtain ⟨k,hk⟩:=hmem x hx; rw [hk]; exact bLg k
 have hp:∀ x∈l,PrN x.2.1∧x.2.1≤49:=fun x hx=>by
  obtain ⟨k,hk⟩:=hmem x hx; rw [hk]; exact ⟨aJy k,(wU k).2⟩
 have hp2:∀ x∈l,0<x.2.1∧x.2.1≤2147483648:=fun x hx=>by have:=hp x hx; have:=this.1.1; omega
 rw [hl] at hMd
 obtain ⟨m,hm⟩:∃ m,u.tmod 41=m:=⟨_,rfl⟩
 obtain ⟨n,hn⟩:∃ n,v.tmod 4=n:=⟨_,rfl⟩
 have hm40:m.natAbs≤40:=by
  rw [← hm,Int.natAbs_tmod]; exact Nat.le_of_lt_succ (Nat.mod_lt _ (by decide))
 have hn3:n.natAbs≤3:=by
  rw [← hn,Int.natAbs_tmod]; exact Nat.le_of_lt_succ (Nat.mod_lt _ (by decide))
 obtain ⟨z,T,e,hz,hT,hC,hR⟩:=aHx m l n hm40 hn3 hl9 hp hP hP3
 have hSm:=bFj z T (by omega) (by omega)
 have hOf:=xE m (by omega) (by omega)
 obtain ⟨pr,hpr⟩:∃ pr:Bool,pr=true↔nS l∧(pmL l).Nodup:=by
  by_cases h:nS l∧(pmL l).Nodup
  ·exact ⟨true,fun _=>h,fun _=>rfl⟩
  ·exact ⟨false,fun h'=>(by cases h'),fun h'=>(h h').elim⟩
 have hPr:=aAx l pr hpr (by omega) hP3
 have hBl:=aCc m l (by omega) (mG (by omega)) hp2 hP
 have hBr:=aGa m l (by omega) (fun i=>by have:=aPe m (l.take i); rw [List.length_take] at this; omega) (by omega) hp2
 rw [aPd] at hBr
 have hIn:=aNs (dF (blL m l)) (by rw [(lN _).length_eq]; have:=tT m l; omega)
 have hw1:IntKind.i8.wrap m=m:=aNc (by omega) (by omega)
 have hw2:IntKind.i8.wrap n=n:=aNc (by omega) (by omega)
 have hw3:IntKind.i64.wrap m=m:=bB
 have hw4:IntKind.i64.wrap n=n:=bB
 obtain ⟨L,hL,hLl,hLg⟩:=dN l
 rw [hL] at hMd hC hR hPr hBl hBr
 obtain ⟨A,hA⟩:∃ A,ezI (dF (blL m l))=.sl A:=⟨_,rfl⟩
 rw [hA] at hBl hBr hIn
 obtain ⟨Y,hY⟩:∃ Y,aXb X=Y:=⟨_,rfl⟩
 unfold bAi at hMd ⊢
 rw [hY] at hMd ⊢
 refine aLl rfl rfl (by kernel_rfl) (by kernel_rfl) (by simp) ?_
 simp [-ζ,-ξ,↓KW]
 refine aH hS ?_
 simp [-ζ,-ξ,↓KW]
 refine aH hMd ?_
 simp [-ζ,-ξ,↓KW,hm,hn,hw1,hw2,hw3,hw4]
 refine aH hOf ?_
 simp [-ζ,-ξ,↓KW,bT m,aA,aE,aC,aF,aB]
 refine aH hC ?_
 simp [-ζ,-ξ,↓KW,vZ,aA,aE,aC,aF,aB,fA,jM,iH,jO,fT]
 refine aH hR ?_
 simp [-ζ,-ξ,↓KW,vZ,aA,aE,aC,aF,aB,fA,jM,iH,jO,fT]
 refine aH hSm ?_
 simp [-ζ,-ξ,↓KW,aA,aE,aC,aF,aB,fA,jM,iH,jO,fT]
 refine aH hPr ?_
 cases pr
 ·simp [-ζ,-ξ,↓KW]
 ·simp [-ζ,-ξ,↓KW]
  refine aH hOf ?_
  simp [-ζ,-ξ,↓KW,bT m,aA,aE,aC,aF,aB]
  refine aH hBl ?_
  simp [-ζ,-ξ,↓KW]
  refine aH hOf ?_
  simp [-ζ,-ξ,↓KW,bT m,aA,aE,aC,aF,aB]
  refine aH hBr ?_
  simp [-ζ,-ξ,↓KW]
  refine aH hIn ?_
  simp [-ζ,-ξ,↓KW]
end Go.Am
end
