/- Chapter 20's check answers true, in goroutine 0. No condition. -/
import Derived.Test.YtmmghmkgjihohaaGreatK6
import Derived.Test.YtmmghmkgjihohaaGreatK5
import Derived.KernelRfl
import Derived.Test.YtmmghmkgjihohaaGreatK4
import Derived.Conc.LeavingOf
import Derived.Conc.Holds
import Derived.ProofKit
import Derived.OpenShut
import Derived.Test.YtmmghmkgjihohaaGreatK3
open Array renaming getD_eq_getD_getElem?→Ay,getElem?_eq_getElem→Ak,getElem?_setIfInBounds_ne→AD,replicate→AU
open Bool renaming and_eq_true→AR,eq_iff_iff→EF,false_eq_true→Ae,or_eq_true_iff→FX,rec→E8
open Classical renaming byContradiction→Bf,propDecidable→GH
open Go.Act renaming eval→Dk,put→C0
open Go.Frame renaming enter→CZ
open Go.IntKind renaming i64→Al,u32→BR,u64→AB
open Go.Proofs.Tryz renaming f6→DV,prog→Aa
open Go.Value renaming cells→Er
open Go.World renaming cell?→Bs,frozen?→Dp
open Int renaming emod_nonneg→De,tmod_eq_emod_of_nonneg→CK,toNat_of_nonneg→BN
open List renaming all_eq_true→AW,forall_mem_cons→EU,getD_eq_getElem?_getD→Ac,getElem?_eq_getElem→Ab,getElem?_eq_none→AX,getElem?_eq_some_iff→Ao,getElem?_map→Ag,getElem?_range→Bn,getElem_mem→Bj,length_cons→Aj,length_nil→Au,map_map→DH,mem_cons→Bq,mem_cons_of_mem→AJ,mem_cons_self→AI,mem_iff_getElem→BC,mem_map→A1,mem_of_getElem?→Ai,mem_range→CI,mem_singleton→BY,range→AK,size_toArray→Ar,take_zero→Cx
open List.range renaming loop→AE
open Nat renaming add_mul→BV,add_sub_cancel→Dh,beq→Cz,ble→EN,div→Eh,div_add_mod→DQ,dvd_gcd→Gv,dvd_mul_left→Ct,dvd_mul_right→Dv,dvd_of_mod_eq_zero→B1,dvd_refl→E2,dvd_trans→BW,eq_of_beq_eq_true→DC,eq_zero_or_pos→Bb,gcd→CB,gcd_dvd_left→FC,gcd_dvd_right→Fp,le_mul_of_pos_left→Fo,le_of_ble_eq_true→EK,le_of_dvd→CM,le_of_lt→Dd,le_refl→AA,le_trans→AY,lt_of_le_of_lt→BG,lt_of_lt_of_le→A9,lt_or_ge→Az,mod→C6,mod_eq_of_lt→BQ,mod_lt→BL,mod_mod→FM,mul→CP,mul_add→Cd,mul_assoc→B0,mul_comm→BJ,mul_div_cancel_left→Ff,mul_le_mul→A3,mul_le_mul_left→Cn,mul_mod→Dn,mul_mod_right→Gn,mul_one→CJ,one_mul→CE,pos_of_ne_zero→D3,pow→Dg,pow_add→Es,pow_le_pow_right→Dj,pow_mod→Ea,pow_mul→DK,pow_succ→BH,pow_zero→Db,reduceAdd→AO,strongRecOn→EE,sub→C7,zero_add→Ax,zero_le→A5,zero_mul→DT
open Ne renaming symm→Ew
open Option renaming getD_some→AT,map_eq_some_iff→Af
open Option.some renaming inj→Bg,injEq→At
open _root_ renaming beq_iff_eq→CW,decide_eq_false→By,decide_eq_true→B2,decide_eq_true_eq→Bw,if_false→Av,if_pos→Ap,if_true→AF,of_decide_eq_true→C5
set_option linter.unusedSectionVars false
set_option linter.unusedVariables false
set_option linter.unusedSimpArgs false
section
open List renaming map_map→ζ,mapM_map→ξ
namespace Go.Am
open Go.Conc Go.ConcR.Gen Go.Conc.Lib Go.RowKit Go.ConcR
open Go.ConcN (st_flag st_waiters)
open Go
section
variable {L:WgLink} {P:Program} {Wg:Nat} {cs:List Frame} {b0:Frame} {a0:Act} {ops0:Array Oper} {i0:Nat} {rest0:List Nat} {k0:List Item} {K:Goroutine→Prop}
set_option maxRecDepth 100000 in
theorem aSx(H:WgLib P L){c:Frame} :
    Dl P true (cN L.tWg Wg) (dG Wg) (fun d g=>d=1∧aBg L Wg c cs g) 0 (G ((base L.wait).at ⟨#[.pointer (some ⟨Wg,0,none⟩)]++AU 83 undef,[]⟩ [.code (body_wait L)]) (c::cs)):=by
  lib_facts
  simp only[body_wait,waitFn,AT]
  (repeat (first|(with_reducible (first|refine Dl.seq ?_|(refine Dl.region ?_;simp only[Ar,Aj,Au,AO,Ax,AK,AE])|refine Dl.regionEnd ?_|refine Dl.skip ?_|refine Dl.ret ?_|refine Dl.block ?_|refine Dl.inBlock ?_|refine Dl.loop ?_|refine Dl.inLoop ?_|refine Dl.exit (by with_unfolding_all rfl) ?_|(refine Dl.cond true (by with_unfolding_all rfl) ?_;simp only[AF,Av,Ae,↓reduceIte])|(refine Dl.cond false (by with_unfolding_all rfl) ?_;simp only[AF,Av,Ae,↓reduceIte])))|(refine Dl.unwanted rfl rfl ?_;walk_nrm)|(refine Dl.value _ rfl rfl (by k_ne) (fun _ _=>by(go_simp;try (first|rfl|w_num|decide))) (fun _ _=>by simp[go_sem, *]) ?_;walk_nrm)))
  (refine Dl.step rfl (by(intro e he;simp at he;subst he;exact .inl rfl)) (fun w hI=>stepG_mark0 .disable (by simp) rfl rfl (by k_ne) rfl H.f_disable (x_disable_n L) (x_disable_b L) (x_disable_x L) (x_disable_f L)) ?_;walk_nrm)
  repeat (first|with_reducible refine Dl.regionEnd ?_|with_reducible refine Dl.block ?_)
  refine Dl.loop (.here ⟨rfl,_,rfl,by simp,by simp⟩)
set_option maxRecDepth 100000 in
set_option maxHeartbeats 8000000 in
theorem aSy(H:WgLib P L)(hK:K (G (b0.at (a0.put ((ops0[i0]?).bind (·.dst)) (.tuple #[])) (.inRegion ops0 rest0::k0)) cs)){g:Goroutine}(h:aBg L Wg (b0.at a0 (.inRegion ops0 (i0::rest0)::k0)) cs g) :
    Dl P true (cN L.tWg Wg) (dG Wg) (fun d g=>d=1∧xD P L Wg K (aBg L Wg (b0.at a0 (.inRegion ops0 (i0::rest0)::k0)) cs) d g) 1 g:=by
  lib_facts
  obtain⟨T,rfl,hT84,t0⟩:=h
  obtain⟨v0,v1,v2,v3,v4,v5,v6,v7,v8,v9,v10,v11,v12,v13,v14,v15,v16,v17,v18,v19,v20,v21,v22,v23,v24,v25,v26,v27,v28,v29,v30,v31,v32,v33,v34,v35,v36,v37,v38,v39,v40,v41,v42,v43,v44,v45,v46,v47,v48,v49,v50,v51,v52,v53,v54,v55,v56,v57,v58,v59,v60,v61,v62,v63,v64,v65,v66,v67,v68,v69,v70,v71,v72,v73,v74,v75,v76,v77,v78,v79,v80,v81,v82,v83,rfl⟩:=array84 T hT84
  simp only[List.getElem?_toArray,List.getElem?_cons_zero,At]at t0
  subst t0
  simp only[L7,body_wait,waitFn,AT]
  (repeat (first|(with_reducible (first|refine Dl.seq ?_|(refine Dl.region ?_;simp only[Ar,Aj,Au,AO,Ax,AK,AE])|refine Dl.regionEnd ?_|refine Dl.skip ?_|refine Dl.ret ?_|refine Dl.block ?_|refine Dl.inBlock ?_|refine Dl.loop ?_|refine Dl.inLoop ?_|refine Dl.exit (by with_unfolding_all rfl) ?_|(refine Dl.cond true (by with_unfolding_all rfl) ?_;simp only[AF,Av,Ae,↓reduceIte])|(refine Dl.cond false (by with_unfolding_all rfl) ?_;simp only[AF,Av,Ae,↓reduceIte])))|(refine Dl.unwanted rfl rfl ?_;walk_nrm)|(refine Dl.value _ rfl rfl (by k_ne) (fun _ _=>by(go_simp;try (first|rfl|w_num|decide))) (fun _ _=>by simp[go_sem, *]) ?_;walk_nrm)))
  (refine Dl.call rfl rfl (by k_ne) rfl H.f_uLoad (nm_uLoad L) rfl ?_;walk_nrmf uLoadFn)
  (repeat (first|(with_reducible (first|refine Dl.seq ?_|(refine Dl.region ?_;simp only[Ar,Aj,Au,AO,Ax,AK,AE])|refine Dl.regionEnd ?_|refine Dl.skip ?_|refine Dl.ret ?_|refine Dl.block ?_|refine Dl.inBlock ?_|refine Dl.loop ?_|refine Dl.inLoop ?_|refine Dl.exit (by with_unfolding_all rfl) ?_|(refine Dl.cond true (by with_unfolding_all rfl) ?_;simp only[AF,Av,Ae,↓reduceIte])|(refine Dl.cond false (by with_unfolding_all rfl) ?_;simp only[AF,Av,Ae,↓reduceIte])))|(refine Dl.unwanted rfl rfl ?_;walk_nrm)|(refine Dl.value _ rfl rfl (by k_ne) (fun _ _=>by(go_simp;try (first|rfl|w_num|decide))) (fun _ _=>by simp[go_sem, *]) ?_;walk_nrm)))
  refine .here ⟨rfl,rfl,fun w v hv hw=>?_⟩
  by_cases h0:v=0
  · subst h0
    have hc:w.cell? ⟨Wg,0,none⟩=some (.int .u64 0):=by simp[Bs,hw,wgBlock]
    refine⟨_,stepG_load_atomic (v:=0) rfl rfl (by k_ne) rfl H.f_loadU64 (x_loadU64_n L) (x_loadU64_b L) (x_loadU64_x L) .u64 (x_loadU64_f L) rfl hc,fun _=>?_,fun h=>absurd rfl h⟩
    clear hc hw
    walk_nrm
    have e2:BR.wrap (bits BinOp.and AB 0 2147483647)=0:=by decide
    (repeat (first|(with_reducible (first|refine Dl.seq ?_|(refine Dl.region ?_;simp only[Ar,Aj,Au,AO,Ax,AK,AE])|refine Dl.regionEnd ?_|refine Dl.skip ?_|refine Dl.ret ?_|refine Dl.block ?_|refine Dl.inBlock ?_|refine Dl.loop ?_|refine Dl.inLoop ?_|refine Dl.exit (by with_unfolding_all rfl) ?_|(refine Dl.cond true (by with_unfolding_all rfl) ?_;simp only[AF,Av,Ae,↓reduceIte])|(refine Dl.cond false (by with_unfolding_all rfl) ?_;simp only[AF,Av,Ae,↓reduceIte])))|(refine Dl.unwanted rfl rfl ?_;walk_nrm)|(refine Dl.value _ rfl rfl (by k_ne) (fun _ _=>by(go_simp;try (first|rfl|w_num|decide))) (fun _ _=>by simp[go_sem, *]) ?_;walk_nrm)))
    (refine Dl.leave1 rfl rfl H.f_uLoad rfl ?_;walk_nrm)
    (repeat (first|(with_reducible (first|refine Dl.seq ?_|(refine Dl.region ?_;simp only[Ar,Aj,Au,AO,Ax,AK,AE])|refine Dl.regionEnd ?_|refine Dl.skip ?_|refine Dl.ret ?_|refine Dl.block ?_|refine Dl.inBlock ?_|refine Dl.loop ?_|refine Dl.inLoop ?_|refine Dl.exit (by with_unfolding_all rfl) ?_|(refine Dl.cond true (by with_unfolding_all rfl) ?_;simp only[AF,Av,Ae,↓reduceIte])|(refine Dl.cond false (by with_unfolding_all rfl) ?_;simp only[AF,Av,Ae,↓reduceIte])))|(refine Dl.unwanted rfl rfl ?_;walk_nrm)|(refine Dl.value _ rfl rfl (by k_ne) (fun _ _=>by(go_simp;try (first|rfl|w_num|decide))) (fun _ _=>by simp[go_sem, *]) ?_;walk_nrm)))
    (refine Dl.step rfl (by(intro e he;simp at he;subst he;exact .inl rfl)) (fun w hI=>stepG_mark0 .enable (by simp) rfl rfl (by k_ne) rfl H.f_enable (x_enable_n L) (x_enable_b L) (x_enable_x L) (x_enable_f L)) ?_;walk_nrm)
    (repeat (first|(with_reducible (first|refine Dl.seq ?_|(refine Dl.region ?_;simp only[Ar,Aj,Au,AO,Ax,AK,AE])|refine Dl.regionEnd ?_|refine Dl.skip ?_|refine Dl.ret ?_|refine Dl.block ?_|refine Dl.inBlock ?_|refine Dl.loop ?_|refine Dl.inLoop ?_|refine Dl.exit (by with_unfolding_all rfl) ?_|(refine Dl.cond true (by with_unfolding_all rfl) ?_;simp only[AF,Av,Ae,↓reduceIte])|(refine Dl.cond false (by with_unfolding_all rfl) ?_;simp only[AF,Av,Ae,↓reduceIte])))|(refine Dl.unwanted rfl rfl ?_;walk_nrm)|(refine Dl.value _ rfl rfl (by k_ne) (fun _ _=>by(go_simp;try (first|rfl|w_num|decide))) (fun _ _=>by simp[go_sem, *]) ?_;walk_nrm)))
    (refine Dl.value _ rfl rfl (by k_ne) (fun w hI=>by(have hcv:=run_convert_to_unsafe (P:=P) H.underlying_tWgP H.underlying_tUP H.room_tWg (cN.cell0 hI).choose_spec);go_simp;rfl) (fun w hI=>by(have hce:=fun es=>events_convert_to_unsafe (P:=P) H.underlying_tWgP H.underlying_tUP H.room_tWg (cN.cell0 hI).choose_spec es);simp[go_sem,hce]) ?_;walk_nrm)
    refine .here ⟨rfl,rfl,_,fun w hI=>stepG_markAt .acquire (by simp) rfl rfl (by k_ne) rfl H.f_acquire (x_acquire_n L) (x_acquire_b L) (x_acquire_x L) (x_acquire_f L) (by simp[Dk,stA]),?_⟩
    walk_nrm
    (repeat (first|(with_reducible (first|refine Dl.seq ?_|(refine Dl.region ?_;simp only[Ar,Aj,Au,AO,Ax,AK,AE])|refine Dl.regionEnd ?_|refine Dl.skip ?_|refine Dl.ret ?_|refine Dl.block ?_|refine Dl.inBlock ?_|refine Dl.loop ?_|refine Dl.inLoop ?_|refine Dl.exit (by with_unfolding_all rfl) ?_|(refine Dl.cond true (by with_unfolding_all rfl) ?_;simp only[AF,Av,Ae,↓reduceIte])|(refine Dl.cond false (by with_unfolding_all rfl) ?_;simp only[AF,Av,Ae,↓reduceIte])))|(refine Dl.unwanted rfl rfl ?_;walk_nrm)|(refine Dl.value _ rfl rfl (by k_ne) (fun _ _=>by(go_simp;try (first|rfl|w_num|decide))) (fun _ _=>by simp[go_sem, *]) ?_;walk_nrm)))
    exact Dl.leave0 rfl rfl H.f_wait rfl (.here ⟨rfl,hK⟩)
  · obtain⟨S,hS⟩:∃ S:Int,(v:Int)*KK=S:=⟨_,rfl⟩
    have a1:S/4294967296=(v:Int):=by rw[←hS];simp only[KK];omega
    have b1:bits .and .u64 S 2147483648=0:=by rw[←hS];have:=st_flag v 0 (by omega) (by omega);simpa[KK]using this
    have b2:bits .and .u64 S 2147483647=0:=by rw[←hS];have:=st_waiters v 0 (by omega) (by omega);simpa[KK]using this
    have c1:IntKind.i32.wrap (v:Int)=(v:Int):=by rw[IntKind.wrap_i32];omega
    have d1:BR.wrap 0=0:=by decide
    have w1:AB.wrap (S+1)=S+1:=by rw[IntKind.wrap_u64,←hS];simp only[KK];omega
    have q3:decide ((v:Int)<0)=false:=By (by omega)
    have q4:decide (0<(v:Int))=true:=B2 (by omega)
    have q5:((v:Int)==0)=false:=by simp;omega
    have q6:decide ((v:Int)=0)=false:=By (by omega)
    rw[hS]at hw
    have hc:w.cell? ⟨Wg,0,none⟩=some (.int .u64 S):=by simp[Bs,hw,wgBlock]
    refine⟨_,stepG_load_atomic (v:=S) rfl rfl (by k_ne) rfl H.f_loadU64 (x_loadU64_n L) (x_loadU64_b L) (x_loadU64_x L) .u64 (x_loadU64_f L) rfl hc,fun h=>absurd h h0,fun _=>?_⟩
    clear hc hw
    walk_nrm
    (repeat (first|(with_reducible (first|refine Dl.seq ?_|(refine Dl.region ?_;simp only[Ar,Aj,Au,AO,Ax,AK,AE])|refine Dl.regionEnd ?_|refine Dl.skip ?_|refine Dl.ret ?_|refine Dl.block ?_|refine Dl.inBlock ?_|refine Dl.loop ?_|refine Dl.inLoop ?_|refine Dl.exit (by with_unfolding_all rfl) ?_|(refine Dl.cond true (by with_unfolding_all rfl) ?_;simp only[AF,Av,Ae,↓reduceIte])|(refine Dl.cond false (by with_unfolding_all rfl) ?_;simp only[AF,Av,Ae,↓reduceIte])))|(refine Dl.unwanted rfl rfl ?_;walk_nrm)|(refine Dl.value _ rfl rfl (by k_ne) (fun _ _=>by(go_simp;try (first|rfl|w_num|decide))) (fun _ _=>by simp[go_sem, *]) ?_;walk_nrm)))
    (refine Dl.leave1 rfl rfl H.f_uLoad rfl ?_;walk_nrm)
    (repeat (first|(with_reducible (first|refine Dl.seq ?_|(refine Dl.region ?_;simp only[Ar,Aj,Au,AO,Ax,AK,AE])|refine Dl.regionEnd ?_|refine Dl.skip ?_|refine Dl.ret ?_|refine Dl.block ?_|refine Dl.inBlock ?_|refine Dl.loop ?_|refine Dl.inLoop ?_|refine Dl.exit (by with_unfolding_all rfl) ?_|(refine Dl.cond true (by with_unfolding_all rfl) ?_;simp only[AF,Av,Ae,↓reduceIte])|(refine Dl.cond false (by with_unfolding_all rfl) ?_;simp only[AF,Av,Ae,↓reduceIte])))|(refine Dl.unwanted rfl rfl ?_;walk_nrm)|(refine Dl.value _ rfl rfl (by k_ne) (fun _ _=>by(go_simp;try (first|rfl|w_num|decide))) (fun _ _=>by simp[go_sem, *]) ?_;walk_nrm)))
    (refine Dl.call rfl rfl (by k_ne) rfl H.f_uCas (nm_uCas L) rfl ?_;walk_nrmf uCasFn)
    (repeat (first|(with_reducible (first|refine Dl.seq ?_|(refine Dl.region ?_;simp only[Ar,Aj,Au,AO,Ax,AK,AE])|refine Dl.regionEnd ?_|refine Dl.skip ?_|refine Dl.ret ?_|refine Dl.block ?_|refine Dl.inBlock ?_|refine Dl.loop ?_|refine Dl.inLoop ?_|refine Dl.exit (by with_unfolding_all rfl) ?_|(refine Dl.cond true (by with_unfolding_all rfl) ?_;simp only[AF,Av,Ae,↓reduceIte])|(refine Dl.cond false (by with_unfolding_all rfl) ?_;simp only[AF,Av,Ae,↓reduceIte])))|(refine Dl.unwanted rfl rfl ?_;walk_nrm)|(refine Dl.value _ rfl rfl (by k_ne) (fun _ _=>by(go_simp;try (first|rfl|w_num|decide))) (fun _ _=>by simp[go_sem, *]) ?_;walk_nrm)))
    refine .here ⟨rfl,rfl,fun w2 v' hv' hw=>⟨fun e=>?_,fun e=>?_⟩⟩
    · subst e
      rw[hS]at hw ⊢
      have hc:w2.cell? ⟨Wg,0,none⟩=some (.int .u64 S):=by simp[Bs,hw,wgBlock]
      have hz:w2.frozen? ⟨Wg,0,none⟩=false:=by simp[Dp,hw,wgBlock]
      refine⟨_,(stepG_cas_hit (v:=S) (n:=S+1) rfl rfl (by k_ne) rfl H.f_casU64 (x_casU64_n L) (x_casU64_b L) (x_casU64_x L) .u64 (x_casU64_f L) rfl rfl rfl hc hz).trans (by rfl),?_⟩
      clear hw hc hz
      walk_nrm
      (repeat (first|(with_reducible (first|refine Dl.seq ?_|(refine Dl.region ?_;simp only[Ar,Aj,Au,AO,Ax,AK,AE])|refine Dl.regionEnd ?_|refine Dl.skip ?_|refine Dl.ret ?_|refine Dl.block ?_|refine Dl.inBlock ?_|refine Dl.loop ?_|refine Dl.inLoop ?_|refine Dl.exit (by with_unfolding_all rfl) ?_|(refine Dl.cond true (by with_unfolding_all rfl) ?_;simp only[AF,Av,Ae,↓reduceIte])|(refine Dl.cond false (by with_unfolding_all rfl) ?_;simp only[AF,Av,Ae,↓reduceIte])))|(refine Dl.unwanted rfl rfl ?_;walk_nrm)|(refine Dl.value _ rfl rfl (by k_ne) (fun _ _=>by(go_simp;try (first|rfl|w_num|decide))) (fun _ _=>by simp[go_sem, *]) ?_;walk_nrm)))
      (refine Dl.leave1 rfl rfl H.f_uCas rfl ?_;walk_nrm)
      (repeat (first|(with_reducible (first|refine Dl.seq ?_|(refine Dl.region ?_;simp only[Ar,Aj,Au,AO,Ax,AK,AE])|refine Dl.regionEnd ?_|refine Dl.skip ?_|refine Dl.ret ?_|refine Dl.block ?_|refine Dl.inBlock ?_|refine Dl.loop ?_|refine Dl.inLoop ?_|refine Dl.exit (by with_unfolding_all rfl) ?_|(refine Dl.cond true (by with_unfolding_all rfl) ?_;simp only[AF,Av,Ae,↓reduceIte])|(refine Dl.cond false (by with_unfolding_all rfl) ?_;simp only[AF,Av,Ae,↓reduceIte])))|(refine Dl.unwanted rfl rfl ?_;walk_nrm)|(refine Dl.value _ rfl rfl (by k_ne) (fun _ _=>by(go_simp;try (first|rfl|w_num|decide))) (fun _ _=>by simp[go_sem, *]) ?_;walk_nrm)))
      (refine Dl.value _ rfl rfl (by k_ne) (fun w hI=>by(have hcv:=run_convert_to_unsafe (P:=P) H.underlying_tPU32 H.underlying_tUP H.room_tU32 (cN.cell1 hI).choose_spec);go_simp;rfl) (fun w hI=>by(have hce:=fun es=>events_convert_to_unsafe (P:=P) H.underlying_tPU32 H.underlying_tUP H.room_tU32 (cN.cell1 hI).choose_spec es);simp[go_sem,hce]) ?_;walk_nrm)
      (refine Dl.step rfl (by(intro e he;simp at he;subst he;first|exact .inr (.inl rfl)|exact .inr (.inr rfl))) (fun w hI=>stepG_markAt .write (by simp) rfl rfl (by k_ne) rfl H.f_raceWrite (x_raceWrite_n L) (x_raceWrite_b L) (x_raceWrite_x L) (x_raceWrite_f L) (ad:=smA Wg) (by simp[Dk,smA])) ?_;walk_nrm)
      (repeat (first|(with_reducible (first|refine Dl.seq ?_|(refine Dl.region ?_;simp only[Ar,Aj,Au,AO,Ax,AK,AE])|refine Dl.regionEnd ?_|refine Dl.skip ?_|refine Dl.ret ?_|refine Dl.block ?_|refine Dl.inBlock ?_|refine Dl.loop ?_|refine Dl.inLoop ?_|refine Dl.exit (by with_unfolding_all rfl) ?_|(refine Dl.cond true (by with_unfolding_all rfl) ?_;simp only[AF,Av,Ae,↓reduceIte])|(refine Dl.cond false (by with_unfolding_all rfl) ?_;simp only[AF,Av,Ae,↓reduceIte])))|(refine Dl.unwanted rfl rfl ?_;walk_nrm)|(refine Dl.value _ rfl rfl (by k_ne) (fun _ _=>by(go_simp;try (first|rfl|w_num|decide))) (fun _ _=>by simp[go_sem, *]) ?_;walk_nrm)))
      refine .here ⟨rfl,rfl,fun w st hw=>stepG_semacquire_wait rfl rfl rfl H.f_semacquire (x_semacquire_n L) (x_semacquire_b L) (x_semacquire_x L) (x_semacquire_f L) (by simp[Dk,smA]) (show w.cell? ⟨Wg,1,none⟩=some (.int .u32 0)by simp[Bs,hw,wgBlock]),fun w hw=>?_⟩
      have hc:w.cell? ⟨Wg,1,none⟩=some (.int .u32 1):=by simp[Bs,hw,wgBlock]
      have hz:w.frozen? ⟨Wg,1,none⟩=false:=by simp[Dp,hw,wgBlock]
      refine⟨_,(stepG_semacquire (n:=1) rfl rfl (by k_ne) rfl H.f_semacquire (x_semacquire_n L) (x_semacquire_b L) (x_semacquire_x L) (x_semacquire_f L) (by simp[Dk,smA]) hc (by k_ne) hz).trans (by rfl),?_⟩
      clear hw hc hz
      walk_nrm
      (repeat (first|(with_reducible (first|refine Dl.seq ?_|(refine Dl.region ?_;simp only[Ar,Aj,Au,AO,Ax,AK,AE])|refine Dl.regionEnd ?_|refine Dl.skip ?_|refine Dl.ret ?_|refine Dl.block ?_|refine Dl.inBlock ?_|refine Dl.loop ?_|refine Dl.inLoop ?_|refine Dl.exit (by with_unfolding_all rfl) ?_|(refine Dl.cond true (by with_unfolding_all rfl) ?_;simp only[AF,Av,Ae,↓reduceIte])|(refine Dl.cond false (by with_unfolding_all rfl) ?_;simp only[AF,Av,Ae,↓reduceIte])))|(refine Dl.unwanted rfl rfl ?_;walk_nrm)|(refine Dl.value _ rfl rfl (by k_ne) (fun _ _=>by(go_simp;try (first|rfl|w_num|decide))) (fun _ _=>by simp[go_sem, *]) ?_;walk_nrm)))
      (refine Dl.call rfl rfl (by k_ne) rfl H.f_uLoad (nm_uLoad L) rfl ?_;walk_nrmf uLoadFn)
      (repeat (first|(with_reducible (first|refine Dl.seq ?_|(refine Dl.region ?_;simp only[Ar,Aj,Au,AO,Ax,AK,AE])|refine Dl.regionEnd ?_|refine Dl.skip ?_|refine Dl.ret ?_|refine Dl.block ?_|refine Dl.inBlock ?_|refine Dl.loop ?_|refine Dl.inLoop ?_|refine Dl.exit (by with_unfolding_all rfl) ?_|(refine Dl.cond true (by with_unfolding_all rfl) ?_;simp only[AF,Av,Ae,↓reduceIte])|(refine Dl.cond false (by with_unfolding_all rfl) ?_;simp only[AF,Av,Ae,↓reduceIte])))|(refine Dl.unwanted rfl rfl ?_;walk_nrm)|(refine Dl.value _ rfl rfl (by k_ne) (fun _ _=>by(go_simp;try (first|rfl|w_num|decide))) (fun _ _=>by simp[go_sem, *]) ?_;walk_nrm)))
      refine .here ⟨rfl,fun w hw=>?_⟩
      have hc:w.cell? ⟨Wg,0,none⟩=some (.int .u64 0):=by simp[Bs,hw,wgBlock]
      refine⟨_,stepG_load_atomic (v:=0) rfl rfl (by k_ne) rfl H.f_loadU64 (x_loadU64_n L) (x_loadU64_b L) (x_loadU64_x L) .u64 (x_loadU64_f L) rfl hc,?_⟩
      clear hw hc
      walk_nrm
      (repeat (first|(with_reducible (first|refine Dl.seq ?_|(refine Dl.region ?_;simp only[Ar,Aj,Au,AO,Ax,AK,AE])|refine Dl.regionEnd ?_|refine Dl.skip ?_|refine Dl.ret ?_|refine Dl.block ?_|refine Dl.inBlock ?_|refine Dl.loop ?_|refine Dl.inLoop ?_|refine Dl.exit (by with_unfolding_all rfl) ?_|(refine Dl.cond true (by with_unfolding_all rfl) ?_;simp only[AF,Av,Ae,↓reduceIte])|(refine Dl.cond false (by with_unfolding_all rfl) ?_;simp only[AF,Av,Ae,↓reduceIte])))|(refine Dl.unwanted rfl rfl ?_;walk_nrm)|(refine Dl.value _ rfl rfl (by k_ne) (fun _ _=>by(go_simp;try (first|rfl|w_num|decide))) (fun _ _=>by simp[go_sem, *]) ?_;walk_nrm)))
      (refine Dl.leave1 rfl rfl H.f_uLoad rfl ?_;walk_nrm)
      (repeat (first|(with_reducible (first|refine Dl.seq ?_|(refine Dl.region ?_;simp only[Ar,Aj,Au,AO,Ax,AK,AE])|refine Dl.regionEnd ?_|refine Dl.skip ?_|refine Dl.ret ?_|refine Dl.block ?_|refine Dl.inBlock ?_|refine Dl.loop ?_|refine Dl.inLoop ?_|refine Dl.exit (by with_unfolding_all rfl) ?_|(refine Dl.cond true (by with_unfolding_all rfl) ?_;simp only[AF,Av,Ae,↓reduceIte])|(refine Dl.cond false (by with_unfolding_all rfl) ?_;simp only[AF,Av,Ae,↓reduceIte])))|(refine Dl.unwanted rfl rfl ?_;walk_nrm)|(refine Dl.value _ rfl rfl (by k_ne) (fun _ _=>by(go_simp;try (first|rfl|w_num|decide))) (fun _ _=>by simp[go_sem, *]) ?_;walk_nrm)))
      (refine Dl.step rfl (by(intro e he;simp at he;subst he;exact .inl rfl)) (fun w hI=>stepG_mark0 .enable (by simp) rfl rfl (by k_ne) rfl H.f_enable (x_enable_n L) (x_enable_b L) (x_enable_x L) (x_enable_f L)) ?_;walk_nrm)
      (repeat (first|(with_reducible (first|refine Dl.seq ?_|(refine Dl.region ?_;simp only[Ar,Aj,Au,AO,Ax,AK,AE])|refine Dl.regionEnd ?_|refine Dl.skip ?_|refine Dl.ret ?_|refine Dl.block ?_|refine Dl.inBlock ?_|refine Dl.loop ?_|refine Dl.inLoop ?_|refine Dl.exit (by with_unfolding_all rfl) ?_|(refine Dl.cond true (by with_unfolding_all rfl) ?_;simp only[AF,Av,Ae,↓reduceIte])|(refine Dl.cond false (by with_unfolding_all rfl) ?_;simp only[AF,Av,Ae,↓reduceIte])))|(refine Dl.unwanted rfl rfl ?_;walk_nrm)|(refine Dl.value _ rfl rfl (by k_ne) (fun _ _=>by(go_simp;try (first|rfl|w_num|decide))) (fun _ _=>by simp[go_sem, *]) ?_;walk_nrm)))
      (refine Dl.value _ rfl rfl (by k_ne) (fun w hI=>by(have hcv:=run_convert_to_unsafe (P:=P) H.underlying_tWgP H.underlying_tUP H.room_tWg (cN.cell0 hI).choose_spec);go_simp;rfl) (fun w hI=>by(have hce:=fun es=>events_convert_to_unsafe (P:=P) H.underlying_tWgP H.underlying_tUP H.room_tWg (cN.cell0 hI).choose_spec es);simp[go_sem,hce]) ?_;walk_nrm)
      refine .here ⟨rfl,rfl,_,fun w hI=>stepG_markAt .acquire (by simp) rfl rfl (by k_ne) rfl H.f_acquire (x_acquire_n L) (x_acquire_b L) (x_acquire_x L) (x_acquire_f L) (by simp[Dk,stA]),?_⟩
      walk_nrm
      (repeat (first|(with_reducible (first|refine Dl.seq ?_|(refine Dl.region ?_;simp only[Ar,Aj,Au,AO,Ax,AK,AE])|refine Dl.regionEnd ?_|refine Dl.skip ?_|refine Dl.ret ?_|refine Dl.block ?_|refine Dl.inBlock ?_|refine Dl.loop ?_|refine Dl.inLoop ?_|refine Dl.exit (by with_unfolding_all rfl) ?_|(refine Dl.cond true (by with_unfolding_all rfl) ?_;simp only[AF,Av,Ae,↓reduceIte])|(refine Dl.cond false (by with_unfolding_all rfl) ?_;simp only[AF,Av,Ae,↓reduceIte])))|(refine Dl.unwanted rfl rfl ?_;walk_nrm)|(refine Dl.value _ rfl rfl (by k_ne) (fun _ _=>by(go_simp;try (first|rfl|w_num|decide))) (fun _ _=>by simp[go_sem, *]) ?_;walk_nrm)))
      exact Dl.leave0 rfl rfl H.f_wait rfl (.here ⟨rfl,hK⟩)
    · have hc:w2.cell? ⟨Wg,0,none⟩=some (.int .u64 ((v':Int)*KK)):=by simp[Bs,hw,wgBlock]
      have hz:w2.frozen? ⟨Wg,0,none⟩=false:=by simp[Dp,hw,wgBlock]
      refine⟨_,stepG_cas_miss (v:=(v':Int)*KK) (old:=S) (n:=S+1) rfl rfl (by k_ne) rfl H.f_casU64 (x_casU64_n L) (x_casU64_b L) (x_casU64_x L) .u64 (x_casU64_f L) rfl rfl rfl hc hz (by rw[←hS];simp only[KK];omega),?_⟩
      clear hw hc hz
      walk_nrm
      (refine Dl.value _ rfl rfl (by k_ne) (fun _ _=>by(go_simp;try (first|rfl|w_num|decide))) (fun _ _=>by simp[go_sem, *]) ?_;walk_nrm)
      repeat (with_reducible (first|refine Dl.seq ?_|(refine Dl.region ?_;simp only[Ar,Aj,Au,AO,Ax,AK,AE])|refine Dl.regionEnd ?_|refine Dl.skip ?_|refine Dl.ret ?_|refine Dl.block ?_|refine Dl.inBlock ?_|refine Dl.loop ?_|refine Dl.inLoop ?_|refine Dl.exit (by with_unfolding_all rfl) ?_|(refine Dl.cond true (by with_unfolding_all rfl) ?_;simp only[AF,Av,Ae,↓reduceIte])|(refine Dl.cond false (by with_unfolding_all rfl) ?_;simp only[AF,Av,Ae,↓reduceIte])))
      (refine Dl.leave1 rfl rfl H.f_uCas rfl ?_;walk_nrm)
      refine Dl.regionEnd ?_
      (refine Dl.cond false (by first|rfl|(simp[Dk];omega)) ?_;simp only[AF,Av,Ae,↓reduceIte])
      refine Dl.skip ?_
      refine Dl.inBlock ?_
      exact Dl.inLoop (.here ⟨rfl,_,rfl,by simp,by simp⟩)
end
end Go.Am
end
section
open List renaming map_map→ζ,mapM_map→ξ
open Go Go.Am Go.Proofs
namespace Go.Am
open Go.Conc Go.Conc.Lib Go.RowKit Go.ConcR.Gen
open Go.ConcR (KK wgBlock stA smA rd wr mk)
noncomputable def fG:Code:=DV.body.getD .skip
noncomputable def cW:Code:=match fG with|.seq _ (.seq _ (.seq _ (.seq _ (.seq _ (.seq (.seq _ (.block _ (.loop c))) _)))))=>c|_=>.skip
noncomputable def tW:Code:=match fG with|.seq _ (.seq _ (.seq _ (.seq _ (.seq _ (.seq _ c)))))=>c|_=>.skip
noncomputable def tW2:Code:=match tW with|.seq _ c=>c|_=>.skip
noncomputable def aNn:Array Oper:=match tW with|.seq (.region _ ops _) _=>ops|_=>#[]
theorem bHs{L:WgLink}{P:Program}(H:WgLib P L){Wg:Nat}{cs:List Frame}{b0:Frame}{a0:Act}{ops0:Array Oper}{i0:Nat}{rest0:List Nat}{k0:List Item}{K:Nat→Goroutine→Prop}{T:Array Value}(hT:T=#[.pointer (some ⟨Wg,0,none⟩),.int .i64 1]++AU 115 undef)
    (hK:K 0 (G (b0.at (a0.put ((ops0[i0]?).bind (·.dst)) (.tuple #[])) (.inRegion ops0 rest0::k0)) cs)) :
    Dl P true (cN L.tWg Wg) (dG Wg) (fun d g=>d=1∧aDz P L Wg K d g) 0 (G ((base L.add).at ⟨T,[]⟩ [.code (body_add L)]) (b0.at a0 (.inRegion ops0 (i0::rest0)::k0)::cs)):=by
  subst hT;exact bQi H hK
theorem aLx{L:WgLink}{P:Program}(H:WgLib P L){Wg:Nat}{c:Frame}{cs:List Frame}{T:Array Value}(hT:T=#[.pointer (some ⟨Wg,0,none⟩)]++AU 83 undef) :
    Dl P true (cN L.tWg Wg) (dG Wg) (fun d g=>d=1∧aBg L Wg c cs g) 0 (G ((base L.wait).at ⟨T,[]⟩ [.code (body_wait L)]) (c::cs)):=by
  subst hT;exact aSx H
theorem aPr{P:Program}{L:WgLink}{Wg:Nat}{K An An':Goroutine→Prop}(h:∀ g,An g→An' g){vs d:Nat}{g:Goroutine}(hc:aSq P L Wg K An vs d g):aSq P L Wg K An' vs d g :=
  ⟨hc.1,fun w v hv hw=>⟨(hc.2 w v hv hw).1,fun e=>let ⟨g',h1,h2⟩:=(hc.2 w v hv hw).2 e;⟨g',h1,h2.mono fun d' g' hx=>⟨hx.1,h g' hx.2⟩⟩⟩⟩
theorem aXd{P:Program}{L:WgLink}{Wg:Nat}{K An An':Goroutine→Prop}(h:∀ g,An g→An' g){d:Nat}{g:Goroutine}(hc:xD P L Wg K An d g):xD P L Wg K An' d g :=
  ⟨hc.1,fun w v hv hw=>let ⟨g',h1,h2,h3⟩:=hc.2 w v hv hw;⟨g',h1,h2,fun e=>(h3 e).mono fun d' g' hx=>⟨hx.1,aPr h hx.2⟩⟩⟩
structure RI(Wg bA bR C n cap:Nat)(c0 c1 c2:D)(lD:List (List D))(k:Nat)(a:Act)(V:World):Prop where
  size:a.tmps.size=38
  ds:a.defers=[]
  s2:a.tmps.getD 2 undef=bN bA
  s6:a.tmps.getD 6 undef=bN bR
  s7:a.tmps.getD 7 undef=bN Wg
  s26:VD (fun b=>b<V.heap.size) V (.sl lD) (a.tmps.getD 26 undef)
  s27:a.tmps.getD 27 undef=.int .i64 n
  s28:a.tmps.getD 28 undef=.int .i64 k
  ok:OkV V
  dA:VD (fun b=>b<V.heap.size) V (.pt [c0,c1,c2]) (bN bA)
  dR:VD (fun b=>b<V.heap.size) V (.pt [.lit (.slice (some ⟨C,0,none⟩) n cap)]) (bN bR)
theorem v_b{F:Nat→Prop}{w:World}{ι:Nat→Option Nat}{b:Bool}{v:Value}(h:V F w ι (.d (.b b)) v):v=.bool b:=by
  cases h with|d _ _ h=>cases h;rfl
theorem aQk{F:Nat→Prop}{w:World}{ι:Nat→Option Nat}{i o:Nat}{v:Value}(h:V F w ι (.ptr i o) v):∃ b,ι i=some b∧v=.pointer (some ⟨b,o,none⟩):=by
  cases h with|ptr _ _ b hb=>exact⟨b,hb,rfl⟩
theorem aIy{G:Ctx}{F:Nat→Prop}{w:World}{ι:Nat→Option Nat}{C:Nat→Prop}{H:Hp}(hR:HR G F w ι C H){i b:Nat}{e:TypeId}{kk:IntKind}{n:Int}(hb:ι i=some b)(hH:H i=some (.cells e [.d (.i kk n)])):VD (fun b=>b<w.heap.size) w (.pt [.i kk n]) (bN b):=by
  obtain⟨ob,h1,h2⟩:=hR.obj i b _ hb hH
  cases h2 with
  | cells _ _ cur hl hc =>
    obtain⟨u,hu,hv⟩:=hc 0 _ rfl
    have hu':=v_i hv;subst hu'
    refine .pt _ _ (fun _=>.int kk n) (aY h1) (fun j hj=>?_) fun k c hk=>?_
    · have:j=0:=by simp at hj;omega
      subst this
      simp[gH,Bs,h1,hu]
    · cases k with
      |zero=>simp at hk;subst hk;exact .i _ _
      |succ k=>simp at hk
theorem bRd{a:Act}{o:Oper}{x7 x2 x9 x8 x6:Value}(hop:o.op=.makeFunc (.func 26) #[] #[.tmp 7,.tmp 2,.tmp 9,.tmp 8,.tmp 6])(h7:a.eval (.tmp 7)=x7)(h2:a.eval (.tmp 2)=x2)(h9:a.eval (.tmp 9)=x9)(h8:a.eval (.tmp 8)=x8)(h6:a.eval (.tmp 6)=x6)(w:World) :
    (execOp a.eval o).run Aa w=.ok (.value (.func (.func 26) #[] #[x7,x2,x9,x8,x6])) w∧(execOp a.eval o).events Aa w #[]=#[]:=by
  have ev:∀{t:Nat} {x:Value},a.eval (.tmp t)=x→a.tmps[t]?.getD undef=x:=fun h=>by rw[←h];simp[Dk]
  unfold execOp
  simp only[hop]
  constructor<;>simp[Instr.makeFunc,ev h7,ev h2,ev h9,ev h8,ev h6,go_sem]
theorem bRh{a:Act}{o:Oper}{cap:Array Value}(hop:o.op=.go { callee:=.value (.tmp 34),args:=#[],argTypes:=#[] })(h:a.eval (.tmp 34)=.func (.func 26) #[] cap)(w:World) :
    (execOp a.eval o).run Aa w=.ok (.spawn { target:=.fn (.func 26) cap,args:=#[] }) w∧(execOp a.eval o).events Aa w #[]=#[]:=by
  have h':a.tmps[34]?.getD undef=.func (.func 26) #[] cap:=by rw[←h];simp[Dk]
  unfold execOp
  simp only[hop]
  constructor<;>simp[h',go_sem]
section
variable {Wg bA bR cap:Nat} {p:Pl} {c0 c1 c2:D} {lD:List (List D)} {a:Act} {V:World} {k:Nat} {K An:Goroutine→Prop} {cs:List Frame}
def yQ(bA bR Wg n k:Nat)(lD:List (List D)):List (Nat×AV):=[(2,.d (.lit (bN bA))),(6,.d (.lit (bN bR))),(7,.d (.lit (bN Wg))),(26,.d (.sl lD)),(27,.d (.i .i64 n)),(28,.d (.i .i64 k))]
theorem RI.sr(h:RI Wg bA bR p.C p.n cap c0 c1 c2 lD k a V):SR ⟨V,fun b=>b<V.heap.size,aW,fun _=>True,fun _=>none⟩ 38 [] (StL (yQ bA bR Wg p.n k lD) none []) a V:=by
  rw[←h.ds]
  refine aGu (Z:=fun _=>none) h.ok h.size (fun _ _ h=>by simp at h) (sU (T:=fun t=>a.tmps.getD t undef) _ ?_)
  simp only[yQ,EU]
  refine⟨.d _ _ ?_,.d _ _ ?_,.d _ _ ?_,.d _ _ h.s26,.d _ _ ?_,.d _ _ ?_,fun _ h=>by simp at h⟩
  · rw[h.s2];exact .lit _
  · rw[h.s6];exact .lit _
  · rw[h.s7];exact .lit _
  · rw[h.s27];exact .i _ _
  · rw[h.s28];exact .i _ _
theorem tL(r:Nat):(jX Aa true).Fam (rA Aa bG Wg p K An r):=by
  cases r with
  |zero=>exact .inl ⟨_,_,_,uV,rfl⟩
  |succ r=>exact .inl ⟨_,_,_,aCh,rfl⟩
set_option maxRecDepth 100000 in
set_option maxHeartbeats 2000000 in
theorem aUc(h:RI Wg bA bR p.C p.n cap c0 c1 c2 lD p.n a V)(hl:lD.length=p.n)
    (hAn:∀ a:Act,a.tmps.getD 6 undef=bN bR→a.tmps.size=38→a.defers=[]→∀ g,aBg bG Wg (((base 6)).at a [.inRegion aNn [0],.code tW2]) cs g→An g)
    (hHd:∀ g,An g→Dl Aa true (cN bG.tWg Wg) (dG Wg) (fun d g=>d=1∧xD Aa bG Wg K An d g) 1 g) :
    rA Aa bG Wg p K An 0 (G (((base 6)).at a [.code cW,.inLoop cW,.inBlock 0,.code tW]) cs) V:=by
  letI:=jX Aa true
  have hW:=tL (Wg:=Wg) (p:=p) (K:=K) (An:=An) 0
  have hb:mI (base 6):=.inl rfl
  simp only[cW,tW,fG,DV,AT]
  refine aI hW rfl h.ok (fun w=>stepG_seq) ?_
  refine cG aT (fun _=>rfl) _ (fun e σ=>e=.normal∧σ.Γ 29=.d (.b false)∧σ.Γ 6=.d (.lit (bN bR))∧σ.Γ 7=.d (.lit (bN Wg))) _ _ _ (by kernel_rfl) (by kernel_rfl) ?hawp h.sr _ hW h.ok _ _ _ hb fun e a' v' hv' hq=>?_
  case hawp =>
    simp only[yQ]
    simp[-ζ,-ξ,↓KW]
  obtain⟨σ,⟨rfl,q29,q6,q7⟩,hsr⟩:=hq
  obtain⟨_,_,_,F,ι,hR,_,hV,⟨hN,_⟩,hds,_⟩:=hsr
  have e29:a'.eval (.tmp 29)=.bool false:=by
    have h:=hV 29;rw[q29]at h
    cases h with|d _ _ h =>
      show a'.tmps.getD 29 undef=_
      generalize a'.tmps.getD 29 undef=x at h
      cases h;rfl
  have e6:a'.tmps.getD 6 undef=bN bR:=by have h:=hV 6;rw[q6]at h;exact nX h
  have e7:a'.tmps.getD 7 undef=bN Wg:=by have h:=hV 7;rw[q7]at h;exact nX h
  simp only[nW]
  refine aI hW rfl hv' (fun w=>stepG_seq) ?_
  refine aI hW rfl hv' (fun w=>stepG_cond e29) ?_
  refine aI hW rfl hv' (fun w=>stepG_exit rfl) ?_
  refine aI hW rfl hv' (fun w=>stepG_seq) ?_
  refine aI hW rfl hv' (fun w=>stepG_region) ?_
  have hd:Dl Aa true (cN bG.tWg Wg) (dG Wg) (fun d g=>d=1∧xD Aa bG Wg K An d g) 0 (G (((base 6)).at a' [.inRegion aNn [0],.code tW2]) cs):=by
    refine Dl.call (f:=bG.wait) (fn:=waitFn bG) (c:=body_wait bG) rfl rfl (by k_ne) rfl aCb.f_wait (nm_wait bG) rfl ((aLx aCb ?_).bind fun d g hh=>by rw[hh.1];exact hHd g (hAn a' e6 hN hds g hh.2))
    have:a'.eval (.tmp 7)=bN Wg:=e7
    simp[this,waitFn,bN]
  simp only[aNn,tW2,tW,fG,DV,AT]at hd
  obtain⟨tr,hg⟩:=hd.gt (Stop:=aLh Aa bG Wg K An) hv' fun d g v1 _ hk=>⟨.leaf,hk⟩
  exact⟨tr,hg⟩
noncomputable def aQz:Array Oper:=match cW with|.seq _ (.seq _ (.seq (.block _ (.seq _ (.seq (.region _ o _) _))) _))=>o|_=>#[]
noncomputable def bQa:Code:=match cW with|.seq _ (.seq _ (.seq (.block _ (.seq _ (.seq _ c))) _))=>c|_=>.skip
noncomputable def bPz:Code:=match cW with|.seq _ (.seq _ (.seq _ c))=>c|_=>.skip
noncomputable def r9W:Code:=match cW with|.seq _ (.seq _ (.seq (.block _ (.seq c _)) _))=>c|_=>.skip
set_option maxRecDepth 100000 in
set_option maxHeartbeats 4000000 in
theorem aNb{r:Nat}{pk:Int}(h:RI Wg bA bR p.C p.n cap c0 c1 c2 lD k a V)(hk:k<p.n)(hl:lD.length=p.n)(hlk:lD[k]? = some [.i .u64 pk])(hr:p.n-(r+1)=k)(hn:p.n<2147483648)(hfA:oL (.pt [c0,c1,c2]))(hfL:oL (.sl lD))
    (hwork:∀(V':World) (Bp Bi:Nat),OkV V'→VD (fun b=>b<V'.heap.size) V' (.pt [c0,c1,c2]) (bN bA)→VD (fun b=>b<V'.heap.size) V' (.pt [.i .u64 pk]) (bN Bp)→VD (fun b=>b<V'.heap.size) V' (.pt [.i .i64 k]) (bN Bi) →
      VD (fun b=>b<V'.heap.size) V' (.pt [.lit (.slice (some ⟨p.C,0,none⟩) p.n cap)]) (bN bR)→∃ tr,GTw Aa bG Wg p k tr 0 (born Aa (aCc Wg bA Bp Bi bR)) V')
    (hnext:∀ a' V',RI Wg bA bR p.C p.n cap c0 c1 c2 lD (k+1) a' V'→rA Aa bG Wg p K An r (G (((base 6)).at a' [.code cW,.inLoop cW,.inBlock 0,.code tW]) cs) V') :
    rA Aa bG Wg p K An (r+1) (G (((base 6)).at a [.code cW,.inLoop cW,.inBlock 0,.code tW]) cs) V:=by
  letI:=jX Aa true
  have hW:=tL (Wg:=Wg) (p:=p) (K:=K) (An:=An) (r+1)
  have hb:mI (base 6):=.inl rfl
  have hk0:(0:Int)≤k:=by omega
  have hk1:(k:Int)<p.n:=by omega
  have hk2:(k:Int)<(lD.length:Int):=by omega
  have hkl:k<lD.length:=by omega
  have hlk':lD[k]=[.i .u64 pk]:=(Ao.1 hlk).2
  rw[show([.code cW,.inLoop cW,.inBlock 0,.code tW]:List Item)=[.code cW]++[.inLoop cW,.inBlock 0,.code tW]from rfl]
  generalize hKT:([.inLoop cW,.inBlock 0,.code tW]:List Item)=KT
  simp only[cW,fG,DV,AT,List.cons_append,List.nil_append]
  refine aI hW rfl h.ok (fun w=>stepG_seq) ?_
  refine cG aT (fun _=>rfl) _ (fun e σ=>e=.normal∧σ.Γ 29=.d (.b true)∧AWP Aa r9W σ fun e σ'=>e=.normal∧∃ i8 i9,σ'.Γ 8=.ptr i8 0∧σ'.H i8=some (.cells 3 [.d (.i .i64 k)])∧σ'.Γ 9=.ptr i9 0∧σ'.H i9=some (.cells 43 [.d (.i .u64 pk)]) ∧
      σ'.Γ 2=.d (.lit (bN bA))∧σ'.Γ 6=.d (.lit (bN bR))∧σ'.Γ 7=.d (.lit (bN Wg))∧σ'.Γ 26=.d (.sl lD)∧σ'.Γ 27=.d (.i .i64 p.n)∧σ'.Γ 28=.d (.i .i64 k)) _ _ _ (by kernel_rfl) (by kernel_rfl) ?hawp h.sr _ hW h.ok _ _ _ hb fun e a1 V1 hv1 hq=>?_
  case hawp =>
    simp only[yQ,r9W,cW,fG,DV,AT]
    simp[-ζ,-ξ,↓KW,hk0,hk1,hk2,hkl,hlk,hlk']
  obtain⟨σ,⟨rfl,q29,hA9⟩,hsr⟩:=hq
  have e29:a1.eval (.tmp 29)=.bool true:=by
    obtain⟨_,_,_,F,ι,_,_,hV,_⟩:=id hsr
    have h:=hV 29;rw[q29]at h;exact v_b h
  simp only[nW]
  refine aI hW rfl hv1 (fun w=>stepG_seq) ?_
  refine aI hW rfl hv1 (fun w=>stepG_cond e29) ?_
  simp only[AF]
  refine aI hW rfl hv1 (fun w=>stepG_skip) ?_
  refine aI hW rfl hv1 (fun w=>stepG_seq) ?_
  refine aI hW rfl hv1 (fun w=>stepG_block) ?_
  refine aI hW rfl hv1 (fun w=>stepG_seq) ?_
  simp only[r9W,cW,fG,DV,AT]at hA9
  refine cG aT (fun _=>rfl) _ _ _ _ _ (by kernel_rfl) (by kernel_rfl) hA9 hsr _ hW hv1 _ _ _ hb fun e a2 V2 hv2 hq=>?_
  obtain⟨σ',⟨rfl,i8,i9,q8,qH8,q9,qH9,q2,q6,q7,q26,q27,q28⟩,_,_,_,F,ι,hR,_,hV,⟨hN,_⟩,hds,_⟩:=hq
  obtain⟨b8,hb8,e8⟩:=aQk (q8 ▸ hV 8)
  obtain⟨b9,hb9,e9⟩:=aQk (q9 ▸ hV 9)
  have e2:=nX (q2 ▸ hV 2)
  have e6:=nX (q6 ▸ hV 6)
  have e7:=nX (q7 ▸ hV 7)
  have e27:=v_i (q27 ▸ hV 27)
  have e28:=v_i (q28 ▸ hV 28)
  have hd8:=aIy hR hb8 qH8
  have hd9:=aIy hR hb9 qH9
  have hsame:lB (fun b=>b<V.heap.size) V V2:=fun b hb c e f hc=>⟨f,by rw[hR.kept.block b hb (fun h=>h)];exact hc⟩
  have hge:V.heap.size≤V2.heap.size:=hR.kept.size
  have hdA:VD (fun b=>b<V2.heap.size) V2 (.pt [c0,c1,c2]) (bN bA):=(hfA _ V V2 _ hsame h.dA).mono fun b hb=>A9 hb hge
  have hdR:VD (fun b=>b<V2.heap.size) V2 (.pt [.lit (.slice (some ⟨p.C,0,none⟩) p.n cap)]) (bN bR):=(kE (by simp[mR]) _ V V2 _ hsame h.dR).mono fun b hb=>A9 hb hge
  have hdL:VD (fun b=>b<V2.heap.size) V2 (.sl lD) (a2.tmps.getD 26 undef):=by
    have h:=hV 26;rw[q26]at h
    cases h with|d _ _ h=>exact h.mono hR.F_lt
  simp only[nW]
  refine aI hW rfl hv2 (fun w=>stepG_seq) ?_
  refine aI hW rfl hv2 (fun w=>stepG_region) ?_
  -- the call of Add
  have hKA:∀ v1,Env V2 v1→OkV v1→∃ tr,GTm Aa bG Wg (aXn Aa bG Wg p k (rA Aa bG Wg p K An r)) tr 0 (G (((base 6)).at (a2.put (some 33) (.tuple #[])) (.inRegion aQz []::.code bQa::.inBlock 1::.code bPz::KT)) cs) v1:=by
    intro v1 he1 ho1
    have hW2:(jX Aa true).Fam (GoW Aa true (cN bG.tWg Wg) (dG Wg) (aXn Aa bG Wg p k (rA Aa bG Wg p K An r))):=.inl ⟨_,_,_,aKz,rfl⟩
    have hg:∀ t,t≠33→(a2.put (some 33) (.tuple #[])).eval (.tmp t)=a2.tmps.getD t undef:=fun t ht=>by
      simp[C0,Dk,Ay,AD (Ew ht)]
    have hsz3:(a2.put (some 33) (.tuple #[])).tmps.size=38:=by simp[C0,hN]
    have hds3:(a2.put (some 33) (.tuple #[])).defers=[]:=hds
    generalize a2.put (some 33) (.tuple #[])=a3 at hg hsz3 hds3
    simp only[aQz,bQa,bPz,cW,fG,DV,AT]
    refine aI hW2 rfl ho1 (fun w=>stepG_region_end) ?_
    refine aI hW2 rfl ho1 (fun w=>stepG_region) ?_
    have g7:=(hg 7 (by decide)).trans e7
    have g2:=(hg 2 (by decide)).trans e2
    have g9:=(hg 9 (by decide)).trans e9
    have g8:=(hg 8 (by decide)).trans e8
    have g6:=(hg 6 (by decide)).trans e6
    refine aI hW2 rfl ho1 (fun w=>(stepG_value rfl rfl (by k_ne) (bRd rfl g7 g2 g9 g8 g6 w).1).trans (by unfold listed;rw[(bRd rfl g7 g2 g9 g8 g6 w).2,seen_none])) ?_
    have h34:∀ x,(a3.put (some 34) x).eval (.tmp 34)=x:=fun x=>by simp[C0,Dk,Ay,hsz3]
    have hg4:∀ x t,t≠34→(a3.put (some 34) x).tmps.getD t undef=a3.eval (.tmp t):=fun x t ht=>by
      simp[C0,Dk,Ay,AD (Ew ht)]
    refine⟨.leaf,rfl,rfl,fun v2 he2=>⟨_,_,fun w hs hI=>(stepG_spawn rfl rfl (by k_ne) (bRh rfl (h34 _) w).1 rfl).trans (by unfold listed;rw[(bRh rfl (h34 _) w).2,seen_none]),rfl,?_,?_⟩⟩
    all_goals
      have hse:lB (fun b=>b<V2.heap.size) V2 (jA v2):=(aCj (he1.trans he2)).trans (aMw _ _)
      have hfs:∀ b,b<V2.heap.size→b<(jA v2).heap.size:=fun b hb=>by
        rw[vM];exact A9 hb (he1.trans he2).size
    · exact hwork (jA v2) b9 b8 (aGa _) ((hfA _ _ _ _ hse hdA).mono hfs) ((kE (by simp[vP]) _ _ _ _ hse hd9).mono hfs) ((kE (by simp[vP]) _ _ _ _ hse hd8).mono hfs) ((kE (by simp[mR]) _ _ _ _ hse hdR).mono hfs)
    have hW3:=tL (Wg:=Wg) (p:=p) (K:=K) (An:=An) r
    generalize hx:Value.func (.func 26) #[] #[bN Wg,bN bA,.pointer (some ⟨b9,0,none⟩),.pointer (some ⟨b8,0,none⟩),bN bR]=x
    have hri:RI Wg bA bR p.C p.n cap c0 c1 c2 lD k ((a3.put (some 34) x).put none undef) (jA v2):=by
      have hg5:∀ t,t≠34→t≠33→((a3.put (some 34) x).put none undef).tmps.getD t undef=a2.tmps.getD t undef:=fun t h1 h2=>(hg4 x t h1).trans (hg t h2)
      refine⟨by simp[C0,hsz3],hds3,(hg5 2 (by decide) (by decide)).trans e2,(hg5 6 (by decide) (by decide)).trans e6,(hg5 7 (by decide) (by decide)).trans e7,?_,(hg5 27 (by decide) (by decide)).trans e27,(hg5 28 (by decide) (by decide)).trans e28,aGa _,(hfA _ _ _ _ hse hdA).mono hfs,(kE (by simp[mR]) _ _ _ _ hse hdR).mono hfs⟩
      rw[hg5 26 (by decide) (by decide)]
      exact(hfL _ _ _ _ hse hdL).mono hfs
    show rA Aa bG Wg p K An r (G (((base 6)).at ((a3.put (some 34) x).put none undef) _) cs) (jA v2)
    generalize(a3.put (some 34) x).put none undef=a5 at hri
    refine aI hW3 rfl hri.ok (fun w=>stepG_region_end) ?_
    refine aI hW3 rfl hri.ok (fun w=>stepG_inBlock) ?_
    refine cG aT (fun _=>rfl) _ (fun e σ=>e=.normal∧σ.Γ 28=.d (.i .i64 (k+1))∧σ.Γ 2=.d (.lit (bN bA))∧σ.Γ 6=.d (.lit (bN bR))∧σ.Γ 7=.d (.lit (bN Wg))∧σ.Γ 26=.d (.sl lD)∧σ.Γ 27=.d (.i .i64 p.n)) _ _ _ (by kernel_rfl) (by kernel_rfl) ?hawp3 hri.sr _ hW3 hri.ok _ _ _ hb fun e a6 V6 hv6 hq=>?_
    case hawp3 =>
      have hw:Al.wrap ((k:Int)+1)=k+1:=aU
      simp only[yQ]
      simp[-ζ,-ξ,↓KW,hw]
    obtain⟨σ6,⟨rfl,q28',q2',q6',q7',q26',q27'⟩,_,_,_,F6,ι6,hR6,_,hV6,⟨hN6,_⟩,hds6,_⟩:=hq
    simp only[nW]
    subst hKT
    refine aI hW3 rfl hv6 (fun w=>stepG_inLoop) ?_
    have hs6:lB (fun b=>b<(jA v2).heap.size) (jA v2) V6:=fun b hb c e f hc=>⟨f,by rw[hR6.kept.block b hb (fun h=>h)];exact hc⟩
    have hf6:∀ b,b<(jA v2).heap.size→b<V6.heap.size:=fun b hb=>A9 hb hR6.kept.size
    refine hnext a6 V6 ⟨hN6,hds6,nX (q2' ▸ hV6 2),nX (q6' ▸ hV6 6),nX (q7' ▸ hV6 7),?_,v_i (q27' ▸ hV6 27),?_,hv6,(hfA _ _ _ _ hs6 hri.dA).mono hf6,(kE (by simp[mR]) _ _ _ _ hs6 hri.dR).mono hf6⟩
    · have h:=hV6 26;rw[q26']at h
      cases h with|d _ _ h=>exact h.mono hR6.F_lt
    · have:=v_i (q28' ▸ hV6 28)
      simpa using this
  have hd:Dl Aa true (cN bG.tWg Wg) (dG Wg) (fun d g=>d=1∧aDz Aa bG Wg (fun d' g'=>d'=0∧∀ v1,Env V2 v1→OkV v1→∃ tr,GTm Aa bG Wg (aXn Aa bG Wg p k (rA Aa bG Wg p K An r)) tr 0 g' v1) d g) 0
      (G (((base 6)).at a2 (.inRegion aQz [0]::.code bQa::.inBlock 1::.code bPz::KT)) cs):=by
    refine Dl.call (f:=bG.add) (fn:=addFn bG) (c:=body_add bG) rfl rfl (by k_ne) rfl aCb.f_add (nm_add bG) rfl (bHs aCb ?_ ⟨rfl,hKA⟩)
    have:a2.eval (.tmp 7)=bN Wg:=e7
    have hc:a2.eval (.const (.int .i64 1))=.int .i64 1:=rfl
    simp[this,hc,addFn,bN]
  simp only[aQz,bQa,bPz,cW,fG,DV,AT]at hd
  obtain⟨tr,hg⟩:=hd.gt (Stop:=aSl Aa bG Wg p (p.n-(r+1)) (rA Aa bG Wg p K An r)) hv2 fun d g v1 he hk=>⟨.leaf,hk.1,aAv (fun d' g' hx v2 he2 ho2=>by rw[hr,hx.1];exact hx.2 v2 (he.trans he2) ho2) hk.2⟩
  exact⟨tr,hg⟩
end
end Go.Am
end
section
open List renaming map_map→ζ,mapM_map→ξ
open Go Go.Am Go.Proofs
namespace Go.Am
open Go.Conc Go.Conc.Lib Go.RowKit Go.ConcR.Gen
open Go.ConcR (KK wgBlock stA smA rd wr mk)
theorem bAw{Wg bA bR cap:Nat}{p:Pl}{c0 c1 c2:D}{lD:List (List D)}{K An:Goroutine→Prop}{cs:List Frame}(hl:lD.length=p.n)(hn:p.n<2147483648)(hfA:oL (.pt [c0,c1,c2]))(hfL:oL (.sl lD))
    (hw:∀ k,k<p.n→∃ pk,lD[k]? = some [.i .u64 pk]∧∀(V':World) (Bp Bi:Nat),OkV V'→VD (fun b=>b<V'.heap.size) V' (.pt [c0,c1,c2]) (bN bA)→VD (fun b=>b<V'.heap.size) V' (.pt [.i .u64 pk]) (bN Bp)→VD (fun b=>b<V'.heap.size) V' (.pt [.i .i64 k]) (bN Bi) →
      VD (fun b=>b<V'.heap.size) V' (.pt [.lit (.slice (some ⟨p.C,0,none⟩) p.n cap)]) (bN bR)→∃ tr,GTw Aa bG Wg p k tr 0 (born Aa (aCc Wg bA Bp Bi bR)) V')
    (hAn:∀ a:Act,a.tmps.getD 6 undef=bN bR→a.tmps.size=38→a.defers=[]→∀ g,aBg bG Wg (((base 6)).at a [.inRegion aNn [0],.code tW2]) cs g→An g)
    (hHd:∀ g,An g→Dl Aa true (cN bG.tWg Wg) (dG Wg) (fun d g=>d=1∧xD Aa bG Wg K An d g) 1 g) :
    ∀(r k:Nat) (a:Act) (V:World),k+r=p.n→RI Wg bA bR p.C p.n cap c0 c1 c2 lD k a V→rA Aa bG Wg p K An r (G (((base 6)).at a [.code cW,.inLoop cW,.inBlock 0,.code tW]) cs) V
  | 0,k,a,V,hk,h=>by
    obtain rfl:k=p.n:=by omega
    exact aUc h hl hAn hHd
  | r+1,k,a,V,hk,h=>by
    obtain⟨pk,h1,h2⟩:=hw k (by omega)
    exact aNb h (by omega) hl h1 (by omega) hn hfA hfL h2 fun a' V' h'=>bAw hl hn hfA hfL hw hAn hHd r (k+1) a' V' (by omega) h'
structure aLk(p:Pl)(v v':World):Prop where
  ok:OkV v'
  tape:v'.tape=v.tape
  os:v'.os=v.os
  output:v'.output=v.output
  size:v.heap.size<v'.heap.size
  old:∀ b,b<v.heap.size→b≠p.C→v'.heap[b]? = v.heap[b]?
  val:∃ cs:Array Value,v'.heap[p.C]? = some (.cells cs p.ety (0,0))∧cs.size=p.tot∧∀ i,i<p.n→∀ r,r<p.wd→cs[i*p.wd+r]? = some (p.val i r)
theorem bQo.w{p:Pl}{v v':World}(h:bQo p v v'):aLk p v v':=⟨h.ok,h.tape,h.os,h.output,h.size,h.old,h.val⟩
theorem aLk.next{p:Pl}{v v' v2:World}(h:aLk p v v')(hok:OkV v2)(ht:v2.tape=v'.tape)(ho:v2.os=v'.os)(hp:v2.output=v'.output)(hsz:v'.heap.size≤v2.heap.size)(hb:∀ b,b<v'.heap.size→v2.heap[b]? = v'.heap[b]?):aLk p v v2:=by
  have hC:p.C<v'.heap.size:=let ⟨cs,h1,_⟩:=h.val;aY h1
  refine⟨hok,ht.trans h.tape,ho.trans h.os,hp.trans h.output,A9 h.size hsz,fun b hlt hne=>(hb b (Nat.lt_trans hlt h.size)).trans (h.old b hlt hne),?_⟩
  obtain⟨cs,h1,h2⟩:=h.val
  exact⟨cs,(hb _ hC).trans h1,h2⟩
theorem aYg{P:Program}[M:Mch P]{Win:Goroutine→World→Prop}(hW:M.Fam Win){f:FuncId}{fn:Func}{a':Act}{v':World}{todo:List Item}{c0:Frame}{cs:List Frame}{R:Value→World→Prop}(hf:P.funcs[f]? = some fn)(hv':OkV v')(hd:a'.defers=[])
    (hr:∀ v1,Env v' v1→∃ x,aH P (results fn a'.tmps) v1=.ok x v1∧R x v1) (hk:∀ x v'',OkV v''→R x v''→Win (G (c0.finish x) cs) v''):Win (G { (base f).at a' todo with mode:=.returning } (c0::cs)) v':=by
  refine(M.closed hW).step rfl hv' fun v1 w he hsim=>?_
  obtain⟨x,hx,hR⟩:=hr v1 he
  obtain⟨w',es',h1,h2,h3,h4,h5,h6⟩:=eW _ v1 w #[] x v1 (he.okV hv') hsim hx
  exact⟨_,v1,w',_,rO (b:=base f) rfl hd hf h1,⟨h2,h3,h4,h5,fun e he'=>h6 e (by have:=mem_seen he';simpa using this)⟩,hk x v1 h3 hR⟩
set_option maxRecDepth 100000 in
theorem aXz{W0:World}{Post:Value→World→Prop}{p:Pl}{v1:World}{bR cap:Nat}{a:Act}{c0:Frame}{cs:List Frame}(h6:a.tmps.getD 6 undef=bN bR)(hN:a.tmps.size=38)(hds:a.defers=[])(hbR:bR<v1.heap.size)(hne:bR≠p.C)
    (hcell:v1.cell? ⟨bR,0,none⟩=some (.slice (some ⟨p.C,0,none⟩) p.n cap)) (hk:∀ v',aLk p v1 v'→dO Aa W0 Post (G (c0.finish (.tuple #[.slice (some ⟨p.C,0,none⟩) p.n cap,.int .i64 0])) cs) v') :
    KF Aa W0 Post p v1 (G (((base 6)).at (a.put (some 36) (.tuple #[])) [.inRegion aNn [],.code tW2]) (c0::cs)):=by
  refine⟨rfl,fun v' hF=>?_⟩
  letI:=bP Aa
  have hW:(bP Aa).Fam (dO Aa W0 Post):=.inl ⟨W0,Post,rfl⟩
  have hb:mI (base 6):=.inl rfl
  have g6:(a.put (some 36) (.tuple #[])).tmps.getD 6 undef=bN bR:=by
    rw[←h6];simp[C0,Ay,AD]
  have gN:(a.put (some 36) (.tuple #[])).tmps.size=38:=by simp[C0,hN]
  have gds:(a.put (some 36) (.tuple #[])).defers=[]:=hds
  generalize a.put (some 36) (.tuple #[])=a3 at g6 gN gds
  have hok:=hF.ok
  have hc':v'.cell? ⟨bR,0,none⟩=some (.slice (some ⟨p.C,0,none⟩) p.n cap):=by
    rw[←hcell];exact eO (hF.old bR hbR hne)
  have hfp:V (fun b=>b<v'.heap.size) v' (fun _=>none) (.fp [.lit (.slice (some ⟨p.C,0,none⟩) p.n cap)]) (bN bR) :=
    .fp _ _ (fun _=>.slice (some ⟨p.C,0,none⟩) p.n cap) (Nat.lt_trans hbR hF.size) (fun j hj=>by
      have:j=0:=by simp at hj;omega
      subst this;rw[gH];exact hc') fun k c hk=>by
      cases k with
      |zero=>simp at hk;subst hk;exact .lit _
      |succ k=>simp at hk
  simp only[aNn,tW2,tW,fG,DV,AT]
  refine aI hW rfl hok (fun w=>stepG_region_end) ?_
  refine aI hW rfl hok (fun w=>stepG_seq) ?_
  have hsr:SR ⟨v',fun b=>b<v'.heap.size,aW,fun _=>True,fun _=>none⟩ 38 [] (StL [(6,.fp [.lit (.slice (some ⟨p.C,0,none⟩) p.n cap)])] none []) a3 v':=by
    rw[←gds]
    refine aGu (Z:=fun _=>none) hok gN (fun _ _ h=>by simp at h) (sU (T:=fun t=>a3.tmps.getD t undef) _ ?_)
    simp only[EU]
    exact⟨by rw[g6];exact hfp,fun _ h=>by simp at h⟩
  refine cG aT (fun _=>rfl) _ (fun e σ=>e=.normal∧σ.Γ 4=.d (.lit (.slice (some ⟨p.C,0,none⟩) p.n cap))∧σ.Γ 5=.d (.i .i64 0)) _ _ _ (by kernel_rfl) (by kernel_rfl) ?hawp hsr _ hW hok _ _ _ hb fun e a4 V4 hv4 hq=>?_
  case hawp =>
    simp[-ζ,-ξ,↓KW]
  obtain⟨σ,⟨rfl,q4,q5⟩,hsr4⟩:=hq
  obtain⟨_,_,_,F,ι,hR,_,hV,⟨hN4,_⟩,hds4,_⟩:=id hsr4
  have hF4:aLk p v1 V4:=hF.w.next hv4 hR.kept.tape hR.kept.os hR.kept.output hR.kept.size fun b hb=>hR.kept.block b hb (fun h=>h)
  simp only[nW]
  refine aI hW rfl hv4 (fun w=>stepG_ret') ?_
  refine aYg hW (R:=fun x v2=>x=.tuple #[.slice (some ⟨p.C,0,none⟩) p.n cap,.int .i64 0]∧aLk p v1 v2) Tryz.func6 hv4 hds4 (fun v2 he=>?_) fun x v'' _ hx=>by rw[hx.1];exact hk v'' hx.2
  have hsr5:=hsr4.env he
  obtain⟨x,hx,hvd⟩:=dV (P:=Aa) (fn:=DV) (r:=.tp [.lit (.slice (some ⟨p.C,0,none⟩) p.n cap),.i .i64 0]) hsr5 (by
    simp[iY,DV,jV,q4,q5,cI,frz])
  refine⟨x,hx,?_,hF4.next (he.okV hv4) he.tape he.os he.output he.size fun b hb=>he.get hb⟩
  cases hvd with
  | tp cs vs hl h =>
    have h0:vs[0]? = some (.slice (some ⟨p.C,0,none⟩) p.n cap):=by
      obtain⟨y,hy⟩:∃ y,vs[0]? = some y:=⟨_,Ak (by simp at hl;omega)⟩
      have:=h 0 _ _ rfl hy
      cases this;exact hy
    have h1:vs[1]? = some (.int .i64 0):=by
      obtain⟨y,hy⟩:∃ y,vs[1]? = some y:=⟨_,Ak (by simp at hl;omega)⟩
      have:=h 1 _ _ rfl hy
      cases this;exact hy
    congr 1
    apply Array.ext_getElem?
    intro k
    match k with
    |0=>exact h0
    |1=>exact h1
    |k+2=>rw[Array.getElem?_eq_none (by simp at hl;omega)];simp
end Go.Am
end
section
open List renaming map_map→ζ,mapM_map→ξ
open Go Go.Am Go.Proofs
namespace Go.Am
open Go.Conc Go.Conc.Lib Go.RowKit Go.ConcR.Gen
open Go.ConcR (KK wgBlock stA smA rd wr mk)
theorem bPo{P:Program}{f:FuncId}{args:Array Value}{v:World}{R:Value→World→Prop}
    (h:∀(W0:World) (Post:Value→World→Prop) (c:Frame) (cs:List Frame),(∀ x v',OkV v'→R x v'→dO P W0 Post (G (c.finish x) cs) v')→OkV v→dO P W0 Post (G (CZ P f args .normal) (c::cs)) v) :
    letI:=bP P;CX P f args v R:=by
  intro Win hW hv c cs hk
  rcases hW with ⟨W0,Post,rfl⟩|rfl
  · exact h W0 Post c cs hk hv
  · have hm:=h { v with heap:=#[] } (fun _ _=>False) c cs (fun x v' ho hr=>(hk x v' ho hr).elim) hv
    have h0:cY (fun _=>False)=fun _=>False:=by funext l;cases l<;>rfl
    have he:=hm v (.refl _) hv (fun _=>False) #[G (CZ P f args .normal) (c::cs)] v none #[] (fun _=>0) (fun b h=>h.elim) (Sim.refl v) rfl (leavers_one P _) (by rw[h0];exact past_nil.mono (A5 _))
      ⟨fun i op x hi=>by simp at hi,fun i a ha=>by simp[touchAt,Trace.act?]at ha,fun i op hi=>by simp at hi⟩ (fun b o hb=>by simp at hb)
    obtain⟨N,last,o,w',t',_,_,_,x,_,hp,_⟩:=he
    exact hp.elim
noncomputable def x1W:Code:=match fG with|.seq _ (.seq c _)=>c|_=>.skip
noncomputable def x3W:Code:=match fG with|.seq _ (.seq _ (.seq c _))=>c|_=>.skip
noncomputable def r5W:Code:=match fG with|.seq _ (.seq _ (.seq _ (.seq c _)))=>c|_=>.skip
set_option maxRecDepth 100000 in
set_option maxHeartbeats 4000000 in
theorem aLr{rr:Int}{eA:List (List D)}{lD:List (List D)}{n:Nat}(hn:lD.length=n)(hn2:n≤1000000)
    (hvalid:letI:=bP Aa;Spec Aa 23 [.ag [.i .i64 rr,.i .i64 rr,.sl eA]] (.b true)) (hdiff:letI:=bP Aa;Spec Aa 24 [.sl lD] (.b true)) :
    letI:=bP Aa
    AWP Aa (match fG with|.seq c _=>c|_=>.skip) (St0 [.ag [.i .i64 rr,.i .i64 rr,.sl eA],.sl lD] 38) fun e σ=>e=.normal∧AWP Aa x1W σ fun e σ=>e=.normal∧AWP Aa x3W σ fun e σ=>e=.normal∧AWP Aa r5W σ fun e σ=>e=.normal ∧
      σ.Γ 1=.d (.sl lD)∧∃ iA iR iC,iA≠iC∧iR≠iC∧σ.Γ 2=.ptr iA 0∧σ.H iA=some (.cells 29 [.d (.i .i64 rr),.d (.i .i64 rr),.d (.sl eA)])∧σ.Γ 6=.ptr iR 0∧σ.H iR=some (.cells 31 [.own iC 0 n 3])∧∃ cs,σ.H iC=some (.cells 47 cs)∧n*3≤cs.length:=by
  letI:=bP Aa
  simp only[x1W,x3W,r5W,fG,DV,AT]
  have h0:(0:Int)≤(lD.length:Int):=by omega
  have h1:(lD.length:Int)≤9223372036854775807:=by omega
  have h2:((rr:Int) != rr)=false:=by simp
  have h3:24*(n:Int)≤281474976710656:=by omega
  have h4:(n:Int)≤9223372036854775807:=by omega
  simp[-ζ,-ξ,↓KW,h0,h1,h2,hn]
  refine aD hvalid ?_
  simp[-ζ,-ξ,↓KW,h0,h1,h2,hn]
  refine aD hdiff ?_
  simp[-ζ,-ξ,↓KW,h0,h1,h2,hn,h3,h4]
  refine⟨1,3,2,by decide,by decide,rfl,rfl,rfl,rfl,_,rfl,?_⟩
  simp[List.length_flatten]
end Go.Am
end
section
open List renaming map_map→ζ,mapM_map→ξ
open Go Go.Am Go.Proofs
namespace Go.Am
open Go.Conc Go.Conc.Lib Go.RowKit Go.ConcR.Gen
open Go.ConcR (KK wgBlock stA smA rd wr mk)
theorem bTw{G:Ctx}{F:Nat→Prop}{w:World}{ι:Nat→Option Nat}{C:Nat→Prop}{H:Hp}(hR:HR G F w ι C H){i b:Nat}{e:TypeId}{cs:List D}(hb:ι i=some b)(hH:H i=some (.cells e (cs.map .d))):VD (fun b'=>b'=b∨F b') w (.pt cs) (bN b):=by
  obtain⟨ob,h1,h2⟩:=hR.obj i b _ hb hH
  cases h2 with
  | cells _ _ cur hl hc =>
    refine .pt _ _ (fun j=>cur.getD j undef) (.inl rfl) (fun j hj=>?_) fun k c hk=>?_
    · have:j<cur.size:=by simp at hl;omega
      simp[gH,Bs,h1,this]
    · obtain⟨u,hu,hv⟩:=hc k (.d c) (by simp[hk])
      have:cur.getD k undef=u:=by simp[Ay,hu]
      rw[this]
      cases hv with|d _ _ h=>exact h.mono fun b hb=>.inr hb
theorem aLb{a:Act}{o:Oper}(hop:o.op=.alloc 74)(w:World) :
    (execOp a.eval o).run Aa w=.ok (.value (.pointer (some ⟨w.heap.size,0,none⟩))) { w with heap:=w.heap.push (wgBlock bG.tWg 0 0) }∧(execOp a.eval o).events Aa w #[]=#[]:=by
  unfold execOp
  simp only[hop]
  constructor
  · simp[go_sem,Tryz.zeroValue74,wgBlock,bG,Er]
  · simp[go_sem,Tryz.zeroValue74,wgBlock,bG,Er]
noncomputable def aUy:Array Oper:=match fG with|.seq _ (.seq _ (.seq _ (.seq _ (.seq (.region _ o _) _))))=>o|_=>#[]
noncomputable def aCn:Code:=match fG with|.seq _ (.seq _ (.seq _ (.seq _ (.seq _ c))))=>c|_=>.skip
set_option maxRecDepth 100000 in
set_option maxHeartbeats 4000000 in
theorem aLq{p:Pl}{bA bR cap Wg:Nat}{c0 c1 c2:D}{lD:List (List D)}{K An:Goroutine→Prop}{cs:List Frame}{a:Act}{V:World}(hok:OkV V)(hN:a.tmps.size=38)(hds:a.defers=[])(h2:a.tmps.getD 2 undef=bN bA)(h6:a.tmps.getD 6 undef=bN bR)
    (h1:VD (fun b=>b<V.heap.size) V (.sl lD) (a.tmps.getD 1 undef)) (hl:lD.length=p.n) (hn:p.n≤1000000) (hfA:oL (.pt [c0,c1,c2])) (hfL:oL (.sl lD)) (hdA:VD (fun b=>b<V.heap.size) V (.pt [c0,c1,c2]) (bN bA)) (hdR:VD (fun b=>b<V.heap.size) V (.pt [.lit (.slice (some ⟨p.C,0,none⟩) p.n cap)]) (bN bR))
    (hgo:∀ a' V',RI Wg bA bR p.C p.n cap c0 c1 c2 lD 0 a' V'→rA Aa bG Wg p K An p.n (G (((base 6)).at a' [.code cW,.inLoop cW,.inBlock 0,.code tW]) cs) V') :
    rA Aa bG Wg p K An p.n (G (((base 6)).at (a.put (some 7) (bN Wg)) [.inRegion aUy [],.code aCn]) cs) V:=by
  letI:=jX Aa true
  have hW:=tL (Wg:=Wg) (p:=p) (K:=K) (An:=An) p.n
  have hb:mI (base 6):=.inl rfl
  have hg:∀ t,t≠7→(a.put (some 7) (bN Wg)).tmps.getD t undef=a.tmps.getD t undef:=fun t ht=>by
    simp[C0,Ay,AD (Ew ht)]
  have h7:(a.put (some 7) (bN Wg)).tmps.getD 7 undef=bN Wg:=by simp[C0,Ay,hN]
  have hN':(a.put (some 7) (bN Wg)).tmps.size=38:=by simp[C0,hN]
  have hds':(a.put (some 7) (bN Wg)).defers=[]:=hds
  have g1:=hg 1 (by decide)
  have g2:=(hg 2 (by decide)).trans h2
  have g6:=(hg 6 (by decide)).trans h6
  rw[←g1]at h1
  generalize a.put (some 7) (bN Wg)=a5 at h1 g2 g6 h7 hN' hds'
  have hL0:(lD.length:Int)=p.n:=by omega
  have hsr:SR ⟨V,fun b=>b<V.heap.size,aW,fun _=>True,fun _=>none⟩ 38 [] (StL [(1,.d (.sl lD)),(2,.d (.lit (bN bA))),(6,.d (.lit (bN bR))),(7,.d (.lit (bN Wg)))] none []) a5 V:=by
    rw[←hds']
    refine aGu (Z:=fun _=>none) hok hN' (fun _ _ h=>by simp at h) (sU (T:=fun t=>a5.tmps.getD t undef) _ ?_)
    simp only[EU]
    refine⟨.d _ _ h1,.d _ _ ?_,.d _ _ ?_,.d _ _ ?_,fun _ h=>by simp at h⟩
    · rw[g2];exact .lit _
    · rw[g6];exact .lit _
    · rw[h7];exact .lit _
  have hgo':=hgo
  simp only[cW,tW,fG,DV,AT]at hgo'
  simp only[aUy,aCn,fG,DV,AT]
  refine aI hW rfl hok (fun w=>stepG_region_end) ?_
  refine aI hW rfl hok (fun w=>stepG_seq) ?_
  refine aI hW rfl hok (fun w=>stepG_seq) ?_
  refine cG aT (fun _=>rfl) _ (fun e σ=>e=.normal∧σ.Γ 2=.d (.lit (bN bA))∧σ.Γ 6=.d (.lit (bN bR))∧σ.Γ 7=.d (.lit (bN Wg))∧σ.Γ 26=.d (.sl lD)∧σ.Γ 27=.d (.i .i64 p.n)∧σ.Γ 28=.d (.i .i64 0)) _ _ _ (by kernel_rfl) (by kernel_rfl) ?hawp hsr _ hW hok _ _ _ hb fun e a6 V6 hv6 hq=>?_
  case hawp =>
    simp[-ζ,-ξ,↓KW,hL0]
  obtain⟨σ,⟨rfl,q2,q6,q7,q26,q27,q28⟩,_,_,_,F,ι,hR,_,hV,⟨hN6,_⟩,hds6,_⟩:=hq
  simp only[nW]
  refine aI hW rfl hv6 (fun w=>stepG_block) ?_
  refine aI hW rfl hv6 (fun w=>stepG_loop) ?_
  have hs:lB (fun b=>b<V.heap.size) V V6:=fun b hb c e f hc=>⟨f,by rw[hR.kept.block b hb (fun h=>h)];exact hc⟩
  have hf:∀ b,b<V.heap.size→b<V6.heap.size:=fun b hb=>A9 hb hR.kept.size
  refine hgo' a6 V6 ⟨hN6,hds6,nX (q2 ▸ hV 2),nX (q6 ▸ hV 6),nX (q7 ▸ hV 7),?_,v_i (q27 ▸ hV 27),v_i (q28 ▸ hV 28),hv6,(hfA _ _ _ _ hs hdA).mono hf,(kE (by simp[mR]) _ _ _ _ hs hdR).mono hf⟩
  have h:=hV 26;rw[q26]at h
  cases h with|d _ _ h=>exact h.mono hR.F_lt
end Go.Am
end
section
open List renaming map_map→ζ,mapM_map→ξ
open Go Go.Am Go.Proofs
namespace Go.Am
open Go.Conc Go.Conc.Lib Go.RowKit Go.ConcR.Gen
open Go.ConcR (KK wgBlock stA smA rd wr mk)
def bJl(Pv Vv:Nat→Int)(i r:Nat):Value:=match r with
  |0=>.int .i64 i
  |1=>.int .u64 (Pv i)
  |_=>.int .u64 (Vv i)
def aCl(Pv Vv:Nat→Int)(n:Nat):List (List D):=(AK n).map fun(i:Nat)=>[.i .i64 (i:Int),.i .u64 (Pv i),.i .u64 (Vv i)]
set_option maxRecDepth 100000 in
set_option maxHeartbeats 4000000 in
theorem aYa{W0:World}{Post:Value→World→Prop}{rr:Int}{eA lD:List (List D)}{n:Nat}{Pv Vv Ev:Nat→Int}(hn:lD.length=n)(hn2:n≤1000000)(hfE:oL (.sl eA))(hlD:∀ k,k<n→lD[k]? = some [.i .u64 (Pv k)])
    (hres:∀ k,k<n→letI:=jX Aa false;Spec Aa 28 [.ag [.i .i64 rr,.i .i64 rr,.sl eA],.i .u64 (Pv k)] (.tp [.ag [.i .u64 (Pv k),.i .u64 (Vv k)],.i .i64 (Ev k)]))
    {A:Nat→Prop} {W V:World} {σ:St} {a:Act} {c:Frame} {cs:List Frame} (hsr:SR ⟨W,A,aW,fun _=>True,fun _=>none⟩ 38 [] σ a V)
    (q1:σ.Γ 1=.d (.sl lD)) {iA iR iC:Nat} (hne1:iA≠iC) (hne2:iR≠iC) (q2:σ.Γ 2=.ptr iA 0) (qA:σ.H iA=some (.cells 29 [.d (.i .i64 rr),.d (.i .i64 rr),.d (.sl eA)])) (q6:σ.Γ 6=.ptr iR 0) (qR:σ.H iR=some (.cells 31 [.own iC 0 n 3])) {csC:List AV} (qC:σ.H iC=some (.cells 47 csC)) (hlC:n*3≤csC.length)
    (hk:∀ x v',OkV v'→(Below W.heap.size W v'∧VD (fun b=>A b∨(W.heap.size≤b∧b<v'.heap.size)) v' (.tp [.sl (aCl Pv Vv n),.i .i64 0]) x)→dO Aa W0 Post (G (c.finish x) cs) v') :
    dO Aa W0 Post (G (((base 6)).at a [.inRegion aUy [0],.code aCn]) (c::cs)) V:=by
  obtain⟨_,_,hok,F,ι,hR,_,hV,⟨hN,_⟩,hds,_⟩:=hsr
  obtain⟨bA,hbA,e2⟩:=aQk (q2 ▸ hV 2)
  obtain⟨bR,hbR,e6⟩:=aQk (q6 ▸ hV 6)
  -- the reports' cell
  obtain⟨obR,hoR,hcR⟩:=hR.obj iR bR _ hbR qR
  obtain⟨C,cap,cur,hiC,hCb,hcap,hcell⟩:∃ C cap cur,ι iC=some C∧V.heap[C]? = some (.cells cur 47 (0,0))∧n≤cap∧V.cell? ⟨bR,0,none⟩=some (.slice (some ⟨C,0,none⟩) n cap):=by
    cases hcR with
    | cells _ _ curR hl hc =>
      obtain⟨u,hu,hv⟩:=hc 0 _ rfl
      cases hv with
      | own _ _ _ _ b cap cur e hι hb hcap hl' hm =>
        obtain⟨obC,hoC,hcC⟩:=hR.obj iC b _ hι qC
        cases hcC with
        | cells _ _ cur' hl2 hc2 =>
          exact⟨b,cap,cur',hι,hoC,hl',by simp[Bs,hoR,hu]⟩
  obtain⟨obC,hoC,hcC⟩:=hR.obj iC C _ hiC qC
  have hfit:n*3≤cur.size:=by
    rw[hCb]at hoC;obtain rfl:=Bg hoC
    cases hcC with
    |cells _ _ _ hl2 hc2=>omega
  have hnA:bA≠C:=fun e=>hne1 (hR.inj iA iC bA hbA (e ▸ hiC) (fun h=>h) (fun h=>h))
  have hnR:bR≠C:=fun e=>hne2 (hR.inj iR iC bR hbR (e ▸ hiC) (fun h=>h) (fun h=>h))
  have hCW:W.heap.size≤C:=(hR.place iC C hiC).1.elim (fun h=>h.elim) id
  have hCF:¬F C:=(hR.place iC C hiC).2.2 (fun h=>h)
  have hbRlt:bR<V.heap.size:=aY hoR
  let p:Pl:={ C:=C,wd:=3,n:=n,ety:=47,val:=bJl Pv Vv,pos:=by decide,tot:=cur.size,le:=hfit }
  have hfL:oL (.sl lD):=nN fun r hr x hx=>by
    obtain⟨k,hk',rfl⟩:=BC.1 hr
    have:=hlD k (by omega)
    rw[Ab hk']at this
    rw[Bg this]at hx
    simp at hx;subst hx;exact vP _ _
  have hfA:oL (.pt [.i .i64 rr,.i .i64 rr,.sl eA]):=kE (by
    intro x hx
    simp at hx
    rcases hx with rfl|rfl
    · exact vP _ _
    · exact hfE)
  have hdA:=bTw (cs:=[.i .i64 rr,.i .i64 rr,.sl eA]) hR hbA qA
  have hdR:VD (fun b=>b=bR) V (.pt [.lit (.slice (some ⟨C,0,none⟩) n cap)]) (bN bR) :=
    .pt _ _ (fun _=>.slice (some ⟨C,0,none⟩) n cap) rfl (fun j hj=>by
      have:j=0:=by simp at hj;omega
      subst this;rw[gH];exact hcell) fun k c hk=>by
      cases k with
      |zero=>simp at hk;subst hk;exact .lit _
      |succ k=>simp at hk
  have hd1:VD F V (.sl lD) (a.tmps.getD 1 undef):=by
    have h:=hV 1;rw[q1]at h
    cases h with|d _ _ h=>exact h
  refine aUs (L:=bG) (p:=p) (g1:=fun Wg=>G (((base 6)).at (a.put (some 7) (bN Wg)) [.inRegion aUy [],.code aCn]) (c::cs)) rfl (fun v1 w he ho hs=>?_) ⟨cur,hCb,rfl⟩ (show(47:Nat)≠0 by decide) (show n<2147483648 by omega) fun v1 he ho=>?_
  · simp only[aUy,aCn,fG,DV,AT]
    exact(stepG_value rfl rfl (by k_ne) (aLb rfl w).1).trans (by unfold listed;rw[(aLb rfl w).2,seen_none];rfl)
  have hsz1:=he.size
  have hret:∀ v',aLk p v1 v'→dO Aa W0 Post (G (c.finish (.tuple #[.slice (some ⟨C,0,none⟩) n cap,.int .i64 0])) cs) v':=fun v' hF=>by
    obtain⟨cs',g1,g2,g3⟩:=hF.val
    have hlt:C<v'.heap.size:=aY g1
    refine hk _ v' hF.ok ⟨⟨(hF.os.trans he.os).trans hR.kept.os,(hF.tape.trans he.tape).trans hR.kept.tape,(hF.output.trans he.output).trans hR.kept.output,AY hR.kept.size (AY hsz1 (Dd hF.size)),fun b hb=>?_⟩,?_⟩
    · have hb1:b<V.heap.size:=A9 hb hR.kept.size
      rw[hF.old b (A9 hb1 hsz1) (by show b≠C;omega),he.get hb1]
      exact hR.kept.block b hb (fun h=>h)
    · refine .tp _ _ rfl fun k d y hd hy=>?_
      match k with
      | 0 =>
        simp at hd hy;subst hd;subst hy
        refine .sl _ _ n cap 3 (fun j=>cs'.getD j undef) (by simp[aCl]) hcap (fun r hr=>?_) (.inr ⟨hCW,hlt⟩) (fun j hj=>?_) fun j k r d h1 h2=>?_
        · obtain⟨i,_,rfl⟩:=A1.1 hr;rfl
        · have:j<cs'.size:=by rw[g2];show j<cur.size;omega
          have g1':v'.heap[C]? = some (.cells cs' 47 (0,0)):=g1
          simp[gH,Bs,g1',this]
        · simp only[aCl,Ag,Bn]at h1
          obtain⟨i,hi,rfl⟩:=Af.1 h1
          have hij:i=j∧j<n:=by
            rcases Az j n with h|h
            · rw[Bn h]at hi;exact⟨(Bg hi).symm,h⟩
            · rw[AX (by simpa using h)]at hi;cases hi
          obtain⟨rfl,hjn⟩:=hij
          have hv:=fun r hr=>g3 i hjn r hr
          match k with
          | 0 =>
            simp at h2;subst h2
            have:=hv 0 (show 0<3 by decide)
            simp only[Ay]
            rw[show cs'[i*3+0]? = some (bJl Pv Vv i 0)from this];exact .i _ _
          | 1 =>
            simp at h2;subst h2
            have:=hv 1 (show 1<3 by decide)
            simp only[Ay]
            rw[show cs'[i*3+1]? = some (bJl Pv Vv i 1)from this];exact .i _ _
          | 2 =>
            simp at h2;subst h2
            have:=hv 2 (show 2<3 by decide)
            simp only[Ay]
            rw[show cs'[i*3+2]? = some (bJl Pv Vv i 2)from this];exact .i _ _
          |k+3=>simp at h2
      |1=>simp at hd hy;subst hd;subst hy;exact .i _ _
      |k+2=>simp at hd
  have hcell1:v1.cell? ⟨bR,0,none⟩=some (.slice (some ⟨C,0,none⟩) n cap):=by
    rw[←hcell];exact eO (he.get hbRlt)
  let An:Goroutine→Prop:=fun g=>∃ a:Act,a.tmps.getD 6 undef=bN bR∧a.tmps.size=38∧a.defers=[]∧aBg bG v1.heap.size (((base 6)).at a [.inRegion aNn [0],.code tW2]) (c::cs) g
  have hHd:∀ g,An g→Dl Aa true (cN bG.tWg v1.heap.size) (dG v1.heap.size) (fun d g=>d=1∧xD Aa bG v1.heap.size (KF Aa W0 Post p v1) An d g) 1 g:=by
    rintro g ⟨a',h6,hN',hds',hh⟩
    exact(aSy aCb (aXz (p:=p) h6 hN' hds' (A9 hbRlt hsz1) hnR hcell1 hret) hh).mono fun d g hx=>⟨hx.1,aXd (fun g hg=>⟨a',h6,hN',hds',hg⟩) hx.2⟩
  refine⟨An,hHd,?_⟩
  have hin:∀ F':Nat→Prop,(∀ b,F' b→b≠C)→lB F' V (inV v1 C):=fun F' hF'=>(aCj he).trans (aTv hF')
  have hlt':∀ b,b<V.heap.size→b<(inV v1 C).heap.size:=fun b hb=>by rw[tR];omega
  refine aLq (p:=p) (bEe v1 C) hN hds e2 e6 ((hfL _ _ _ _ (hin F fun b hb e=>hCF (e ▸ hb)) hd1).mono fun b hb=>hlt' b (hR.F_lt b hb)) hn hn2 hfA hfL
    ((hfA _ _ _ _ (hin _ fun b hb e=>hb.elim (fun h=>hnA (h ▸ e)) fun h=>hCF (e ▸ h)) hdA).mono fun b hb=>hlt' b (hb.elim (fun h=>by rw[h];exact aY (hR.obj iA bA _ hbA qA).choose_spec.1) (hR.F_lt b)))
    ((kE (by simp[mR]) _ _ _ _ (hin (fun b=>b=bR) fun b hb e=>hnR (hb ▸ e)) hdR).mono fun b hb=>hlt' b (hb ▸ hbRlt)) fun a' V' hri=>?_
  refine bAw (p:=p) hn (show n<2147483648 by omega) hfA hfL (fun k hkn=>⟨Pv k,hlD k hkn,fun V' Bp Bi h1 h2 h3 h4 h5=>bJa (p:=p) rfl hkn rfl rfl rfl rfl h1 h2 h3 h4 h5 (hres k hkn)⟩) (fun a h6 hN hds g hh=>⟨a,h6,hN,hds,hh⟩) hHd n 0 a' V' (by show 0+n=n;omega) hri
set_option maxRecDepth 100000 in
set_option maxHeartbeats 4000000 in
theorem aHc{rr:Int}{eA lD:List (List D)}{n:Nat}{Pv Vv Ev:Nat→Int}(hn:lD.length=n)(hn2:n≤1000000)(hfE:oL (.sl eA))(hlD:∀ k,k<n→lD[k]? = some [.i .u64 (Pv k)])
    (hvalid:letI:=bP Aa;Spec Aa 23 [.ag [.i .i64 rr,.i .i64 rr,.sl eA]] (.b true)) (hdiff:letI:=bP Aa;Spec Aa 24 [.sl lD] (.b true))
    (hres:∀ k,k<n→letI:=jX Aa false;Spec Aa 28 [.ag [.i .i64 rr,.i .i64 rr,.sl eA],.i .u64 (Pv k)] (.tp [.ag [.i .u64 (Pv k),.i .u64 (Vv k)],.i .i64 (Ev k)])) :
    letI:=bP Aa;Spec Aa 6 [.ag [.i .i64 rr,.i .i64 rr,.sl eA],.sl lD] (.tp [.sl (aCl Pv Vv n),.i .i64 0]):=by
  letI:=bP Aa
  intro A W vs hA hl hv
  refine⟨fun w=>by simp[callFunc,Tryz.func6,DV],bPo fun W0 Post c cs hk hok=>?_⟩
  have hW:(bP Aa).Fam (dO Aa W0 Post):=.inl ⟨W0,Post,rfl⟩
  have hb:mI (base 6):=.inl rfl
  rw[enter_at vs Tryz.func6 (show DV.body=some fG from rfl)]
  have hsr:=SR0 (N:=38) hok hA hl hv (by simp)
  have hfr:=aLr hn hn2 hvalid hdiff
  have hmid:∀{σ:St} {a:Act} {V:World},_:=fun{σ a V}=>@aYa W0 Post rr eA lD n Pv Vv Ev hn hn2 hfE hlD hres A W V σ a c cs
  simp only[aUy,aCn,fG,DV,AT]at hmid
  simp only[x1W,x3W,r5W,fG,DV,AT]at hfr
  simp only[fG,DV,AT]
  refine aI hW rfl hok (fun w=>stepG_seq) ?_
  refine cG aT (fun _=>rfl) _ _ _ _ _ (by kernel_rfl) (by kernel_rfl) hfr hsr _ hW hok _ _ _ hb fun e a1 V1 hv1 hq=>?_
  obtain⟨σ1,⟨rfl,hfr1⟩,hsr1⟩:=hq
  simp only[nW]
  refine aI hW rfl hv1 (fun w=>stepG_seq) ?_
  refine cG aT (fun _=>rfl) _ _ _ _ _ (by kernel_rfl) (by kernel_rfl) hfr1 hsr1 _ hW hv1 _ _ _ hb fun e a2 V2 hv2 hq=>?_
  obtain⟨σ2,⟨rfl,hfr2⟩,hsr2⟩:=hq
  simp only[nW]
  refine aI hW rfl hv2 (fun w=>stepG_seq) ?_
  refine cG aT (fun _=>rfl) _ _ _ _ _ (by kernel_rfl) (by kernel_rfl) hfr2 hsr2 _ hW hv2 _ _ _ hb fun e a3 V3 hv3 hq=>?_
  obtain⟨σ3,⟨rfl,hfr3⟩,hsr3⟩:=hq
  simp only[nW]
  refine aI hW rfl hv3 (fun w=>stepG_seq) ?_
  refine cG aT (fun _=>rfl) _ _ _ _ _ (by kernel_rfl) (by kernel_rfl) hfr3 hsr3 _ hW hv3 _ _ _ hb fun e a4 V4 hv4 hq=>?_
  obtain⟨σ4,⟨rfl,q1,iA,iR,iC,hne1,hne2,q2,qA,q6,qR,csC,qC,hlC⟩,hsr4⟩:=hq
  simp only[nW]
  refine aI hW rfl hv4 (fun w=>stepG_seq) ?_
  refine aI hW rfl hv4 (fun w=>stepG_region) ?_
  exact hmid hsr4 q1 hne1 hne2 q2 qA q6 qR qC hlC hk
end Go.Am
end
section
open List renaming map_map→ζ,mapM_map→ξ
open Go Go.Am Go.Proofs
namespace Go.Am
set_option maxHeartbeats 8000000 in
set_option maxRecDepth 10000 in
theorem bUk[M0:Mch Aa](p:Nat)(hp:PrN p)(hP:Spec Aa 48 [.i .u64 p] (.b true)) :
  Spec Aa 65 [rH p 0 []] (.tp [.i .u64 1,.i .i64 0]):=by
 have hVl:=aRj (M0:=M0) p 0 [] (by omega) ⟨rfl,fun i h=>absurd h (Nat.not_lt_zero _)⟩ hP
 have hCp:=aAl (M0:=M0) 0 1 [] (by omega) rfl (by simp) (by omega) (by omega)
 unfold rH rG at hVl ⊢
 unfold rG at hCp
 rw[List.map_nil]at *
 refine bD (N:=115) Tryz.func65 ?_
 simp[-ζ,-ξ,↓KW]
 refine aD hVl ?_
 simp[-ζ,-ξ,↓KW]
 refine kO [.sl []] (fun m=>.own m 0 0 1) (mU 1 []) (by simp) (by simp) (by simp) (by rfl) (by rfl) hCp ?_
 simp[-ζ,-ξ,↓KW,aFv]
 refine gL 1 ?_
 simp[-ζ,-ξ,↓KW,↓aE,eJ]
theorem bXn[M0:Mch Aa](p n:Nat)(A:List (List Int))(hn:n≤4)(hp:PrN p)(hp1:p<2147483648)(hA:A.length=n)(hr:∀ v∈A,v.length=n)(hP:Spec Aa 48 [.i .u64 p] (.b true)) :
  Spec Aa 65 [rH p n (eP p A)] (.tp [.i .u64 (iL n A%(p:Int)),.i .i64 0]):=by
 rcases Bb n with h|h
 ·subst h
  have e:A=[]:=List.length_eq_zero_iff.1 hA
  subst e
  have hp2:=hp.1
  have:iL 0 []%(p:Int)=1:=by
   have:iL 0 []=1:=by decide
   rw[this];exact Int.emod_eq_of_lt (by omega) (by omega)
  rw[this]
  exact bUk p hp hP
 ·exact bUj p n A hn h hp hp1 hA hr hP
set_option maxHeartbeats 8000000 in
set_option maxRecDepth 10000 in
theorem bVm[M0:Mch Aa](p n:Nat)(A:List (List Int))(hn:n≤4)(hp:PrN p)(hp1:p<2147483648)(hA:A.length=n)(hr:∀ v∈A,v.length=n)(hB:∀ v∈A,∀ z∈v,Sz z)(hP:Spec Aa 48 [.i .u64 p] (.b true)) :
  Spec Aa 28 [jR n A,.i .u64 p] (.tp [.ag [.i .u64 p,.i .u64 (iL n A%(p:Int))],.i .i64 0]):=by
 have hp2:=hp.1
 have hRd:=bCp (M0:=M0) p n A (by omega) (by omega) (by omega) hA hr hB hP
 have hDt:=bXn (M0:=M0) p n A hn hp hp1 hA hr hP
 unfold jR at hRd ⊢
 unfold rH at hRd hDt
 generalize(A.map fun v=>[dB v])=L at *
 generalize rG (eP p A)=U at *
 generalize iL n A%(p:Int)=d at *
 refine bD (N:=32) Tryz.func28 ?_
 simp[-ζ,-ξ,↓KW]
 refine aD hP ?_
 simp[-ζ,-ξ,↓KW]
 refine aD hRd ?_
 simp[-ζ,-ξ,↓KW]
 refine aD hDt ?_
 simp[-ζ,-ξ,↓KW,eJ]
theorem aOl(A:List (List Int)):oL (.sl (A.map fun v=>[dB v])):=nN fun cs hcs c hc=>by
 obtain⟨v,_,rfl⟩:=A1.1 hcs
 rw[BY.1 hc]
 refine nN fun cs hcs c hc=>?_
 obtain⟨z,_,rfl⟩:=A1.1 hcs
 rcases Bq.1 hc with rfl|hc
 ·exact bEs _
 ·rw[BY.1 hc]
  refine nN fun cs hcs c hc=>?_
  obtain⟨x,_,rfl⟩:=A1.1 hcs
  rw[BY.1 hc];exact vP _ _
end Go.Am
end
section
open List renaming map_map→ζ,mapM_map→ξ
namespace Go.Am
def pwF(b e n:Nat):Nat :=
 C6 (CP (C6 (Dg (C6 (CP (C6 (Dg (C6 (Dg b (Eh e 65536)) n) 256) n) (Dg b (C6 (Eh e 256) 256))) n) 256) n) (Dg b (C6 e 256))) n
theorem bBl(b e n:Nat):pwF b e n=b^e%n:=by
 have h:e=(e/65536*256+e/256%256)*256+e%256:=by omega
 show((b^(e/65536)%n)^256%n*b^(e/256%256)%n)^256%n*b^(e%256)%n=_
 conv=>rhs;rw[h,Es,DK,Es,DK]
 simp only[←Ea,Nat.mod_mul_mod]
def fm(b n:Nat):Bool:=Cz (pwF b (C7 n 1) n) 1
theorem aGc{b n:Nat}:fm b n=true↔b^(n-1)%n=1:=by
 unfold fm;rw[Nat.beq_eq,bBl];exact Iff.rfl
def sq2(n:Nat):Nat→Nat→Bool
 |0,_=>false
 |t+1,x=>(x*x%n==n-1)||sq2 n t (x*x%n)
def aMh(n t x:Nat):Bool:=(x==1)||((x==n-1)||sq2 n (t-1) x)
def spl:Nat→Nat→Nat×Nat
 |0,o=>(o,0)
 |f+1,o=>if o%2=0 then((spl f (o/2)).1,(spl f (o/2)).2+1)else(o,0)
def eC(b n:Nat):Bool:=aMh n (spl 31 (n-1)).2 (b^(spl 31 (n-1)).1%n)
def aTi(b n:Nat):Bool:=aMh n (spl 31 (n-1)).2 (pwF b (spl 31 (n-1)).1 n)
theorem xJ(b n:Nat):aTi b n=eC b n:=by unfold aTi eC;rw[bBl]
theorem aEq:∀(f o:Nat),0<o→o<2^f→(spl f o).1*2^(spl f o).2=o∧(spl f o).1%2=1
 |0,o,h0,h1=>by rw[Db]at h1;omega
 | f+1,o,h0,h1=>by
  unfold spl
  by_cases h:o%2=0
  ·have:=aEq f (o/2) (by omega) (by rw[BH]at h1;omega)
   rw[Ap h]
   refine⟨?_,this.2⟩
   show(spl f (o/2)).1*2^((spl f (o/2)).2+1)=o
   rw[BH,←B0,this.1];omega
  ·rw[if_neg h];exact⟨by simp,by show o%2=1;omega⟩
theorem dX{x n:Nat}(hn:1<n)(h:x%n=1)(e:Nat):x^e%n=1:=by
 rw[Ea,h,Nat.one_pow,BQ hn]
theorem bCm{x n:Nat}(hn:1<n)(h:x%n=n-1):(x*x)%n=1:=by
 rw[Dn,h]
 have:(n-1)*(n-1)=1+n*(n-2):=by
  obtain⟨k,rfl⟩:∃ k,n=k+2:=⟨n-2,by omega⟩
  show(k+1)*(k+1)=1+(k+2)*k
  rw[BV,BV,Cd];omega
 rw[this,Nat.add_mul_mod_self_left,BQ hn]
theorem yN(x k:Nat):x^2^(k+1)=(x*x)^2^k:=by
 rw[BH,BJ (2^k) 2,DK,Nat.pow_two]
theorem aQn{n:Nat}(hn:1<n):∀(t x:Nat),sq2 n t x=true→x^2^(t+1)%n=1
 |0,x,h=>by unfold sq2 at h;cases h
 | t+1,x,h=>by
  unfold sq2 at h
  rw[yN]
  rcases FX.1 h with h|h
  ·rw[yN]
   exact dX hn (bCm hn (CW.1 h)) _
  ·have:=aQn hn t _ h
   rwa [←Ea]at this
theorem qH{b n:Nat}(hn:2<n)(hn1:n<2147483648)(ho:n%2=1)(h:eC b n=true):b^(n-1)%n=1:=by
 obtain⟨h1,h2⟩:=aEq 31 (n-1) (by omega) (by omega)
 unfold eC at h
 generalize(spl 31 (n-1)).1=o at *
 generalize(spl 31 (n-1)).2=t at *
 rcases t with _|t
 ·rw[Db]at h1;omega
 rw[←h1,DK]
 unfold aMh at h
 rw[Dh]at h
 rcases FX.1 h with h|h
 ·exact dX (by omega) (CW.1 h) _
 ·rcases FX.1 h with h|h
  ·rw[yN];exact dX (by omega) (bCm (by omega) (CW.1 h)) _
  ·have:=aQn (n:=n) (by omega) t _ h
   rwa [←Ea]at this
noncomputable def tC(n:Nat):Bool:=E8 (motive:=fun _=>Bool) false (and (fm 3 n) (and (fm 5 n) (and (fm 7 n) (and (aTi 2 n) (and (aTi 3 n) (and (aTi 5 n) (aTi 7 n))))))) (fm 2 n)
structure Psp(n:Nat):Prop where
 gt:7<n
 lt:n<2147483648
 odd:n%2=1
 f2:2^(n-1)%n=1
 f3:3^(n-1)%n=1
 f5:5^(n-1)%n=1
 f7:7^(n-1)%n=1
 ps:tC n=true
theorem bTs{n:Nat}(h7:7<n)(h31:n<2147483648)(ho:n%2=1)(h2:eC 2 n=true)(h3:eC 3 n=true)(h5:eC 5 n=true)(h7':eC 7 n=true):Psp n:=by
 have e2:=qH (by omega) h31 ho h2
 have e3:=qH (by omega) h31 ho h3
 have e5:=qH (by omega) h31 ho h5
 have e7:=qH (by omega) h31 ho h7'
 refine⟨h7,h31,ho,e2,e3,e5,e7,?_⟩
 unfold tC
 rw[aGc.2 e2,aGc.2 e3,aGc.2 e5,aGc.2 e7,xJ,xJ,xJ,xJ,h2,h3,h5,h7'];rfl
/-! ### prime factors -/
theorem zC:∀{n:Nat},2≤n→∃ p,PrN p∧p ∣ n:=by
 intro n
 induction n using EE with
 | _ n ih =>
  intro h
  by_cases hp:PrN n
  ·exact⟨n,hp,E2 n⟩
  ·have:∃ d,2≤d∧d*d≤n∧n%d=0:=Bf fun hc=>hp ⟨h,fun d h1 h2 h3=>hc ⟨d,h1,h2,h3⟩⟩
   obtain⟨d,h1,h2,h3⟩:=this
   have hlt:d<n:=by have:=A3 h1 (AA d);omega
   obtain⟨p,hp,hd⟩:=ih d hlt h1
   exact⟨p,hp,BW hd (B1 h3)⟩
theorem PrN.mul{p a b:Nat}(hp:PrN p)(h:p ∣ a*b):p ∣ a∨p ∣ b:=by
 by_cases ha:a%p=0
 ·exact .inl (B1 ha)
 ·exact .inr ((hp.cop ha).dvd_of_dvd_mul_left h)
theorem PrN.pow{p a:Nat}(hp:PrN p):∀{k:Nat},p ∣ a^k→p ∣ a
 |0,h=>by have:=hp.1;rw[Db,Nat.dvd_one]at h;omega
 | k+1,h=>by
  rw[BH]at h
  rcases hp.mul h with h|h
  ·exact PrN.pow hp h
  ·exact h
theorem bTv:∀{n:Nat},2≤n→∃ q,PrN q∧q ∣ n∧∀ p,PrN p→p ∣ n→p≤q:=by
 intro n
 induction n using EE with
 | _ n ih =>
  intro h
  obtain⟨p,hp,m,rfl⟩:=zC h
  have hp2:=hp.1
  rcases Az m 2 with hm|hm
  ·have:m=1:=by
    rcases m with _|_|m
    ·omega
    ·rfl
    ·omega
   subst this
   rw[CJ]at *
   exact⟨p,hp,E2 p,fun r hr hd=>by rcases hp.dvd hd with h|h<;>have:=hr.1<;>omega⟩
  ·have hlt:m<p*m:=by have:=A3 hp2 (AA m);omega
   obtain⟨q,hq,hd,hx⟩:=ih m hlt hm
   rcases Nat.le_total p q with hle|hle
   ·exact⟨q,hq,BW hd (Ct m p),fun r hr hrd=>by
     rcases hr.mul hrd with h|h
     ·rcases hp.dvd h with h|h<;>have:=hr.1<;>omega
     ·exact hx r hr h⟩
   ·exact⟨p,hp,Dv p m,fun r hr hrd=>by
     rcases hr.mul hrd with h|h
     ·rcases hp.dvd h with h|h<;>have:=hr.1<;>omega
     ·have:=hx r hr h;omega⟩
theorem jJ{x q n:Nat}(hq:1<q)(hd:q ∣ n)(h:x%n=1):x%q=1:=by
 rw[←Nat.mod_mod_of_dvd x hd,h,BQ hq]
theorem aFg{b q m:Nat}(hq:PrN q)(hm:0<m)(h:b^(q*m-1)%q=1):b^(m-1)%q=1:=by
 have hq2:=hq.1
 have hqm:q≤q*m:=Nat.le_mul_of_pos_right q hm
 have hb:b%q≠0:=fun h0=>by
  rw[Ea,h0,Nat.zero_pow (by omega),Nat.zero_mod]at h;omega
 have e:q*m-1=(q-1)*m+(m-1):=by
  rw[Nat.sub_mul,CE]
  have:m≤q*m:=Fo m (by omega)
  omega
 rw[e,Es,DK,Dn,dX (by omega) (aAa hq hb),CE,FM]at h
 exact h
def inE(q e:Nat):Bool:=and (Cz (C6 (Dg 2 e) q) 1) (and (Cz (C6 (Dg 3 e) q) 1) (and (Cz (C6 (Dg 5 e) q) 1) (Cz (C6 (Dg 7 e) q) 1)))
theorem tS{q e:Nat}:inE q e=true↔2^e%q=1∧3^e%q=1∧5^e%q=1∧7^e%q=1:=by
 unfold inE
 simp only[AR,Nat.beq_eq]
 exact Iff.rfl
theorem aQt{q m:Nat}(h:Psp (q*m))(hq:PrN q)(hm:0<m):inE q (m-1)=true:=by
 have hq2:=hq.1
 have hd:q ∣ q*m:=Dv q m
 exact tS.2 ⟨aFg hq hm (jJ (by omega) hd h.f2),aFg hq hm (jJ (by omega) hd h.f3),aFg hq hm (jJ (by omega) hd h.f5),aFg hq hm (jJ (by omega) hd h.f7)⟩
theorem xO{n p:Nat}(h:Psp n)(hp:PrN p)(hd:p ∣ n):11≤p:=by
 have hp2:=hp.1
 refine Bf fun hc=>?_
 have key:∀ b,b^(n-1)%n=1→b≠0→¬p ∣ b:=fun b hb h0 hpb=>by
  have h1:=jJ (by omega) hd hb
  obtain⟨k,rfl⟩:=hpb
  have:=h.gt
  rw[Ea,Gn,Nat.zero_pow (by omega),Nat.zero_mod]at h1
  omega
 have h2:=fun e:p=2=>key 2 h.f2 (by omega) (by rw[e];exact E2 _)
 have h3:=fun e:p=3=>key 3 h.f3 (by omega) (by rw[e];exact E2 _)
 have h5:=fun e:p=5=>key 5 h.f5 (by omega) (by rw[e];exact E2 _)
 have h7:=fun e:p=7=>key 7 h.f7 (by omega) (by rw[e];exact E2 _)
 have h4:p≠4:=fun e=>by subst e;exact hp.2 2 (by omega) (by omega) rfl
 have h6:p≠6:=fun e=>by subst e;exact hp.2 2 (by omega) (by omega) rfl
 have h8:p≠8:=fun e=>by subst e;exact hp.2 2 (by omega) (by omega) rfl
 have h9:p≠9:=fun e=>by subst e;exact hp.2 3 (by omega) (by omega) rfl
 have h10:p≠10:=fun e=>by subst e;exact hp.2 2 (by omega) (by omega) rfl
 have:p=2∨p=3∨p=5∨p=7:=by omega
 rcases this with e|e|e|e
 ·exact h2 e
 ·exact h3 e
 ·exact h5 e
 ·exact h7 e
def SP:List Nat:=[2,3,5,7,11,13,17,19,23,29,31,37,41,43,47,53,59,61,67,71,73,79,83,89,97,101,103,107,109,113,127,131,137,139,149,151,157,163,167,173,179,181,191,193,197,199,211]
def PP:Nat:=1645783550795210387735581011435590727981167322669649249414629852197255934130751870910
theorem bMb:eK SP=PP:=by decide
set_option maxRecDepth 100000 in
theorem bSw:∀ p,p<216→p∈SP∨p<2∨∃ d,d<16∧2≤d∧d*d≤p∧p%d=0:=by decide
theorem aEs{p:Nat}(hp:PrN p)(h:p<216):p∈SP:=by
 rcases bSw p h with h|h|⟨d,_,h1,h2,h3⟩
 ·exact h
 ·have:=hp.1;omega
 ·exact absurd h3 (hp.2 d h1 h2)
theorem bQs:∀ p∈SP,2≤p∧p<212:=by decide
theorem aQu{p:Nat}:∀{l:List Nat},p∈l→p ∣ eK l
 | x::l,h=>by
  rcases Bq.1 h with rfl|h
  ·exact Dv ..
  ·exact BW (aQu h) (Ct ..)
theorem bBn{p:Nat}(hp:PrN p):∀{l:List Nat},p ∣ eK l→∃ x∈l,p ∣ x
 |[],h=>by have:=hp.1;rw[eK,Nat.dvd_one]at h;omega
 | x::l,h=>by
  rcases hp.mul h with h|h
  ·exact⟨x,AI ..,h⟩
  ·obtain⟨y,hy,hd⟩:=bBn hp h
   exact⟨y,AJ _ hy,hd⟩
theorem aNl{p:Nat}(hp:PrN p):p ∣ PP↔p<216:=by
 rw[←bMb]
 constructor
 ·intro h
  obtain⟨x,hx,hd⟩:=bBn hp h
  have:=bQs x hx
  have:=CM (by omega) hd
  omega
 ·exact fun h=>aQu (aEs hp h)
theorem aUp{r:Nat}(h2:2≤r)(h:r<46656)(hg:CB r PP=1):PrN r:=by
 refine⟨h2,fun d h1 hd hz=>?_⟩
 obtain⟨p,hp,hpd⟩:=zC h1
 have hd216:d<216:=Bf fun hc=>by
  have:=A3 (show 216≤d by omega) (show 216≤d by omega);omega
 have hle:=CM (by omega) hpd
 have:=Gv (BW hpd (B1 hz)) ((aNl hp).2 (by omega))
 rw[hg,Nat.dvd_one]at this
 have:=hp.1;omega
/-! ### the least exponent -/
theorem bUn{P:Nat→Prop}:∀{n:Nat},P n→∃ m,P m∧∀ k,P k→m≤k:=by
 intro n
 induction n using EE with
 | _ n ih =>
  intro h
  by_cases hc:∃ k,k<n∧P k
  ·obtain⟨k,hk,hp⟩:=hc
   exact ih k hk hp
  ·exact⟨n,h,fun k hk=>Bf fun hlt=>hc ⟨k,by omega,hk⟩⟩
theorem yZ{b q L e:Nat}(hq:1<q)(h:b^L%q=1)(he:b^e%q=1):b^(e%L)%q=1:=by
 have e1:e=L*(e/L)+e%L:=(DQ e L).symm
 rw[e1,Es,DK,Dn,dX hq h,CE,FM]at he
 exact he
theorem bOg{q L e:Nat}(hq:1<q)(h:inE q L=true)(he:inE q e=true):inE q (e%L)=true:=by
 rw[tS]at *
 exact⟨yZ hq h.1 he.1,yZ hq h.2.1 he.2.1,yZ hq h.2.2.1 he.2.2.1,yZ hq h.2.2.2 he.2.2.2⟩
theorem bOf{q L:Nat}(hq:1<q)(h:inE q L=true)(c:Nat):inE q (L*c)=true:=by
 rw[tS]at *
 rw[DK,DK,DK,DK]
 exact⟨dX hq h.1 _,dX hq h.2.1 _,dX hq h.2.2.1 _,dX hq h.2.2.2 _⟩
noncomputable def bQg(f:Nat→Bool)(l:List Nat):Bool:=List.rec true (fun p _ ih=>cond (f p) ih false) l
theorem aLe{f:Nat→Bool}:∀{l:List Nat},bQg f l=true→∀ p∈l,f p=true
 | x::l,h,p,hp=>by
  have e:bQg f (x::l)=cond (f x) (bQg f l) false:=rfl
  rw[e]at h
  cases hx:f x with
  |false=>rw[hx]at h;cases h
  | true =>
   rw[hx]at h
   rcases Bq.1 hp with rfl|hp
   ·exact hx
   ·exact aLe h p hp
noncomputable def bGj(q L:Nat):Bool :=
 and (bQg (fun p=>cond (Cz (C6 L p) 0) (not (inE q (Eh L p))) true) SP)
  (and (Cz (CB (Eh L (CB L (Dg PP 15))) PP) 1) (cond (Cz (Eh L (CB L (Dg PP 15))) 1) true (not (inE q (CB L (Dg PP 15))))))
theorem bGk{q L e:Nat}(hq:1<q)(hL:0<L)(hL2:L<46656)(hE:inE q L=true)(hc:bGj q L=true)(he:inE q e=true):L ∣ e:=by
 obtain⟨M,⟨hM0,hM⟩,hmin⟩:=bUn (P:=fun k=>0<k∧inE q k=true) ⟨hL,hE⟩
 have hdv:∀ x,inE q x=true→M ∣ x:=fun x hx=>by
  have h1:=bOg hq hM hx
  have h2:=BL x hM0
  refine B1 (Bf fun hz=>?_)
  have:=hmin (x%M) ⟨by omega,h1⟩
  omega
 obtain⟨c,hcL⟩:=hdv L hE
 suffices c=1 by
  subst this;rw[CJ]at hcL;rw[hcL];exact hdv e he
 refine Bf fun hc1=>?_
 have hc0:c≠0:=fun h=>by subst h;omega
 obtain⟨p,hp,d,hd⟩:=zC (n:=c) (by omega)
 have hp2:=hp.1
 have hLp:L=p*(M*d):=by rw[hcL,hd];ac_rfl
 have hEp:inE q (M*d)=true:=bOf hq hM d
 unfold bGj at hc
 rw[AR,AR]at hc
 obtain⟨h1,h2,h3⟩:=hc
 by_cases hsm:p<216
 ·have:=aLe h1 p (aEs hp hsm)
  have e1:C6 L p=0:=by show L%p=0;rw[hLp];exact Gn ..
  have e2:Eh L p=M*d:=by show L/p=M*d;rw[hLp];exact Ff _ (by omega)
  simp only[e1,e2,hEp]at this
  cases this
 ·have hG:CB L (Dg PP 15) ∣ L:=FC ..
  have hG2:CB L (Dg PP 15) ∣ PP^15:=Fp ..
  generalize CB L (Dg PP 15)=g at *
  obtain⟨r,hr⟩:=hG
  have hg0:0<g:=D3 fun h=>by subst h;omega
  have e1:Eh L g=r:=by show L/g=r;rw[hr];exact Ff _ hg0
  rw[e1]at h2 h3
  have hpr:p ∣ r:=by
   have:p ∣ g*r:=hr ▸ ⟨M*d,hLp⟩
   rcases hp.mul this with h|h
   ·exact absurd ((aNl hp).1 (hp.pow (BW h hG2))) hsm
   ·exact h
  have hr0:r≠0:=fun h=>by subst h;omega
  have hpl:=CM (by omega) hpr
  have hrL:r≤L:=by rw[hr];exact Fo r hg0
  have hrp:=aUp (r:=r) (by omega) (by omega) (DC h2)
  have hpe:p=r:=by
   rcases hrp.dvd hpr with h|h
   ·omega
   ·exact h
  subst hpe
  have hge:g=M*d:=by
   have:g*p=(M*d)*p:=by rw[←hr,hLp];ac_rfl
   exact Nat.eq_of_mul_eq_mul_right (by omega) this
  have hr1:Cz p 1=false:=by
   cases hb:Cz p 1 with
   |false=>rfl
   |true=>have:=DC hb;omega
  rw[hge,hEp,hr1]at h3
  cases h3
/-! ### the check of a prime -/
theorem brc(c a b:Bool):E8 (motive:=fun _=>Bool) b a c=cond c a b:=by cases c<;>rfl
noncomputable def lpq(q L K:Nat):Bool:=Nat.rec true (fun k ih=>E8 (motive:=fun _=>Bool) ih (E8 (motive:=fun _=>Bool) ih false (tC (CP q (Nat.add 1 (CP (Nat.succ k) L))))) (Cz (CB (Nat.add 1 (CP (Nat.succ k) L)) 105) 1)) K
theorem bCt{q L:Nat}:∀{K:Nat},lpq q L K=true→∀ k,k<K→CB (1+(k+1)*L) 105=1→tC (q*(1+(k+1)*L))=false
 | K+1,h,k,hk,hg=>by
  have e:lpq q L (K+1)=cond (Cz (CB (1+(K+1)*L) 105) 1) (cond (tC (q*(1+(K+1)*L))) false (lpq q L K)) (lpq q L K):=by
   rw[←brc,←brc];rfl
  rw[e]at h
  have hrest:lpq q L K=true:=by
   revert h
   cases Cz (CB (1+(K+1)*L) 105) 1<;>cases tC (q*(1+(K+1)*L))<;>intro h<;>first|exact h|cases h
  rcases Az k K with h1|h1
  ·exact bCt hrest k h1 hg
  ·have:k=K:=by omega
   subst this
   have hb:Cz (CB (1+(k+1)*L) 105) 1=true:=by rw[hg];rfl
   rw[hb]at h
   cases hp:tC (q*(1+(k+1)*L))with
   |false=>rfl
   |true=>rw[hp]at h;cases h
noncomputable def aSe(q L:Nat):Bool:=and (bGj q L) (lpq q L (Eh (Eh 2147483647 q) L))
noncomputable def trq(q i:Nat)(x:Bool):Bool:=cond (Cz (C6 (C7 q 1) i) 0) (cond (inE q (Eh (C7 q 1) i)) (aSe q (Eh (C7 q 1) i)) x) x
noncomputable def aWn(q:Nat):Bool:=cond (Cz (CB q PP) 1) (trq q 4 (trq q 3 (trq q 2 (aSe q (C7 q 1))))) true
theorem bFz{m n:Nat}(h:Psp n)(hm:m ∣ n):CB m 105=1:=by
 refine Bf fun hc=>?_
 have h0:CB m 105≠0:=fun e=>by have:=Nat.eq_zero_of_gcd_eq_zero_right e;omega
 obtain⟨p,hp,hd⟩:=zC (n:=CB m 105) (by omega)
 have h11:=xO h hp (BW hd (BW (FC ..) hm))
 have hd5:p ∣ 3*(5*7):=BW hd (Fp ..)
 rcases hp.mul hd5 with h|h
 ·have:=CM (by omega) h;omega
 ·rcases hp.mul h with h|h<;>have:=CM (by omega) h<;>omega
theorem aSf{q L m:Nat}(hq:PrN q)(hL:0<L)(hL2:L<46656)(hE:inE q L=true)(hb:aSe q L=true)(h:Psp (q*m))(hm:2≤m):False:=by
 have hq2:=hq.1
 unfold aSe at hb
 rw[AR]at hb
 have hd:=bGk (by omega) hL hL2 hE hb.1 (aQt h hq (by omega))
 obtain⟨k,hk⟩:=hd
 have hk0:k≠0:=fun e=>by subst e;omega
 obtain⟨j,rfl⟩:∃ j,k=j+1:=⟨k-1,by omega⟩
 have hmE:m=1+(j+1)*L:=by rw[BJ];omega
 have hlt:=h.lt
 have h1:m≤2147483647/q:=(Nat.le_div_iff_mul_le (by omega)).2 (by rw[BJ];omega)
 have h2:j+1≤2147483647/q/L:=(Nat.le_div_iff_mul_le hL).2 (by omega)
 have:=bCt hb.2 j (by exact h2) (by rw[←hmE];exact bFz h (Ct ..))
 rw[←hmE,h.ps]at this
 cases this
theorem bPu{q m:Nat}(hq:PrN q)(hq1:211<q)(hq2:q<46656)(hc:aWn q=true)(h:Psp (q*m))(hm:2≤m):False:=by
 have h216:¬q<216:=fun hlt=>by
  have:=bQs q (aEs hq hlt);omega
 have hg:CB q PP=1:=hq.cop fun hz=>h216 ((aNl hq).1 (B1 hz))
 unfold aWn at hc
 have e1:Cz (CB q PP) 1=true:=by rw[hg];rfl
 rw[e1]at hc
 have step:∀ i x,0<i→i≤4→trq q i x=true→x=true:=fun i x h0 h4 ht=>by
  unfold trq at ht
  cases h1:Cz (C6 (C7 q 1) i) 0 with
  |false=>rw[h1]at ht;exact ht
  | true =>
   rw[h1]at ht
   cases h2:inE q (Eh (C7 q 1) i)with
   |false=>rw[h2]at ht;exact ht
   | true =>
    rw[h2]at ht
    have hle:(q-1)/i≤q-1:=Nat.div_le_self ..
    have hpos:0<(q-1)/i:=Nat.div_pos (by omega) h0
    exact(aSf hq hpos (by omega) h2 ht h hm).elim
 have hb:=step 2 _ (by omega) (by omega) (step 3 _ (by omega) (by omega) (step 4 _ (by omega) (by omega) hc))
 refine aSf hq (L:=q-1) (by omega) (by omega) (tS.2 ⟨?_,?_,?_,?_⟩) hb h hm<;>exact aAa hq (by rw[BQ (by omega)];omega)
noncomputable def rng(lo K:Nat):Bool:=Nat.rec true (fun k ih=>cond (aWn (Nat.add lo (CP 2 k))) ih false) K
theorem bAx{lo:Nat}:∀{K:Nat},rng lo K=true→∀ k,k<K→aWn (lo+2*k)=true
 | K+1,h,k,hk=>by
  have e:rng lo (K+1)=cond (aWn (lo+2*K)) (rng lo K) false:=rfl
  rw[e]at h
  cases hx:aWn (lo+2*K)with
  |false=>rw[hx]at h;cases h
  | true =>
   rw[hx]at h
   rcases Az k K with h1|h1
   ·exact bAx h k h1
   ·have:k=K:=by omega
    subst this;exact hx
theorem jH{lo K q m:Nat}(hr:rng lo K=true)(h1:lo≤q)(h2:q<lo+2*K)(ho:(q-lo)%2=0)(hq:PrN q)(hq1:211<q)(hq2:q<46656)(h:Psp (q*m))(hm:2≤m):False:=by
 have:=bAx hr ((q-lo)/2) (by omega)
 rw[show lo+2*((q-lo)/2)=q by omega]at this
 exact bPu hq hq1 hq2 this h hm
end Go.Am
end
section
open List renaming map_map→ζ,mapM_map→ξ
namespace Go.Am
set_option maxRecDepth 1000000
theorem bZt:rng 213 11=true:=by kernel_rfl
theorem bZs:rng 235 14=true:=by kernel_rfl
theorem bZr:rng 263 19=true:=by kernel_rfl
theorem bZq:rng 301 25=true:=by kernel_rfl
theorem bZp:rng 351 35=true:=by kernel_rfl
theorem bZo:rng 421 50=true:=by kernel_rfl
theorem bZn:rng 521 90=true:=by kernel_rfl
theorem bZm:rng 701 200=true:=by kernel_rfl
theorem bZl:rng 1101 600=true:=by kernel_rfl
theorem bZk:rng 2301 3350=true:=by kernel_rfl
theorem bWz:rng 9001 5500=true:=by kernel_rfl
theorem bWy:rng 20001 6500=true:=by kernel_rfl
theorem bWx:rng 33001 6668=true:=by kernel_rfl
theorem bLb{q m:Nat}(hq:PrN q)(h1:213≤q)(h2:q<46337)(ho:q%2=1)(h:Psp (q*m))(hm:2≤m):False:=by
 rcases Az q 235 with h3|h3
 ·exact jH bZt (by omega) (by omega) (by omega) hq (by omega) (by omega) h hm
 rcases Az q 263 with h3|h3
 ·exact jH bZs (by omega) (by omega) (by omega) hq (by omega) (by omega) h hm
 rcases Az q 301 with h3|h3
 ·exact jH bZr (by omega) (by omega) (by omega) hq (by omega) (by omega) h hm
 rcases Az q 351 with h3|h3
 ·exact jH bZq (by omega) (by omega) (by omega) hq (by omega) (by omega) h hm
 rcases Az q 421 with h3|h3
 ·exact jH bZp (by omega) (by omega) (by omega) hq (by omega) (by omega) h hm
 rcases Az q 521 with h3|h3
 ·exact jH bZo (by omega) (by omega) (by omega) hq (by omega) (by omega) h hm
 rcases Az q 701 with h3|h3
 ·exact jH bZn (by omega) (by omega) (by omega) hq (by omega) (by omega) h hm
 rcases Az q 1101 with h3|h3
 ·exact jH bZm (by omega) (by omega) (by omega) hq (by omega) (by omega) h hm
 rcases Az q 2301 with h3|h3
 ·exact jH bZl (by omega) (by omega) (by omega) hq (by omega) (by omega) h hm
 rcases Az q 9001 with h3|h3
 ·exact jH bZk (by omega) (by omega) (by omega) hq (by omega) (by omega) h hm
 rcases Az q 20001 with h3|h3
 ·exact jH bWz (by omega) (by omega) (by omega) hq (by omega) (by omega) h hm
 rcases Az q 33001 with h3|h3
 ·exact jH bWy (by omega) (by omega) (by omega) hq (by omega) (by omega) h hm
 exact jH bWx (by omega) (by omega) (by omega) hq (by omega) (by omega) h hm
end Go.Am
end
section
open List renaming map_map→ζ,mapM_map→ξ
namespace Go.Am
noncomputable def prd(k a:Nat):Nat:=Nat.rec (motive:=fun _=>Nat→Nat) (fun a=>a) (fun k ih a=>CP (ih a) (ih (Nat.add a (Dg 2 k)))) k a
theorem aIn(k a:Nat):prd (k+1) a=prd k a*prd k (a+2^k):=rfl
theorem nF:∀{k a x:Nat},a≤x→x<a+2^k→x ∣ prd k a
 | 0,a,x,h1,h2=>by
  rw[Db]at h2
  have:x=a:=by omega
  subst this;exact E2 _
 | k+1,a,x,h1,h2=>by
  rw[aIn]
  rw[BH]at h2
  rcases Az x (a+2^k)with h|h
  ·exact BW (nF h1 h) (Dv ..)
  ·exact BW (nF h (by omega)) (Ct ..)
theorem rT{q:Nat}(hq:PrN q):∀{k a:Nat},0<a→a+2^k≤q→¬q ∣ prd k a
 | 0,a,h0,h1,h=>by
  rw[Db]at h1
  have:=CM h0 h
  omega
 | k+1,a,h0,h1,h=>by
  rw[aIn]at h
  rw[BH]at h1
  rcases hq.mul h with h|h
  ·exact rT hq h0 (by omega) h
  ·exact rT hq (by omega) (by omega) h
noncomputable def S46:Nat:=CP (prd 15 1) (CP (prd 13 32769) (CP (prd 12 40961) (CP (prd 10 45057) (prd 8 46081))))
theorem bKo{x:Nat}(h1:1≤x)(h2:x≤46336):x ∣ S46:=by
 show x ∣ prd 15 1*(prd 13 32769*(prd 12 40961*(prd 10 45057*prd 8 46081)))
 rcases Az x 32769 with h|h
 ·exact BW (nF h1 (by omega)) (Dv ..)
 refine BW ?_ (Ct ..)
 rcases Az x 40961 with h|h
 ·exact BW (nF (by omega) (by omega)) (Dv ..)
 refine BW ?_ (Ct ..)
 rcases Az x 45057 with h|h
 ·exact BW (nF (by omega) (by omega)) (Dv ..)
 refine BW ?_ (Ct ..)
 rcases Az x 46081 with h|h
 ·exact BW (nF (by omega) (by omega)) (Dv ..)
 exact BW (nF (k:=8) (a:=46081) (by omega) (by omega)) (Ct ..)
theorem bTd{q:Nat}(hq:PrN q)(h:46337≤q):¬q ∣ S46:=fun hd=>by
 have hd:q ∣ prd 15 1*(prd 13 32769*(prd 12 40961*(prd 10 45057*prd 8 46081))):=hd
 rcases hq.mul hd with hd|hd
 ·exact rT hq (by omega) (by omega) hd
 rcases hq.mul hd with hd|hd
 ·exact rT hq (by omega) (by omega) hd
 rcases hq.mul hd with hd|hd
 ·exact rT hq (by omega) (by omega) hd
 rcases hq.mul hd with hd|hd
 ·exact rT hq (by omega) (by omega) hd
 ·exact rT (k:=8) (a:=46081) hq (by omega) (by omega) hd
def gE(e:Nat):Nat:=CB (CB (CB (C7 (Dg 2 e) 1) (C7 (Dg 3 e) 1)) (C7 (Dg 5 e) 1)) (C7 (Dg 7 e) 1)
theorem uD{x q:Nat}(hq:1<q)(h:x%q=1):q ∣ x-1:=by
 have:=DQ x q
 exact⟨x/q,by omega⟩
theorem bVd{q e:Nat}(hq:1<q)(h:inE q e=true):q ∣ gE e:=by
 obtain⟨h2,h3,h5,h7⟩:=tS.1 h
 exact Gv (Gv (Gv (uD hq h2) (uD hq h3)) (uD hq h5)) (uD hq h7)
noncomputable def stp(r:Nat):Nat:=Eh r (CB r S46)
theorem sS{q r:Nat}(hq:PrN q)(h:46337≤q)(hd:q ∣ r):q ∣ stp r:=by
 have hg:CB r S46 ∣ r:=FC ..
 have hg2:CB r S46 ∣ S46:=Fp ..
 show q ∣ r/CB r S46
 generalize CB r S46=g at *
 obtain⟨t,rfl⟩:=hg
 rcases Bb g with h0|h0
 ·subst h0;rw[Nat.div_zero];exact Nat.dvd_zero _
 rw[Ff _ h0]
 rcases hq.mul hd with h1|h1
 ·exact absurd (BW h1 hg2) (bTd hq h)
 ·exact h1
noncomputable def bMl(m u:Nat):Bool:=and (EN u 2147117568) (cond (Cz u 1) true (cond (EN 2147483648 (CP u m)) true (not (tC (CP u m)))))
noncomputable def aEr(r:Nat):Nat:=cond (EN r 2147117568) r 54121
noncomputable def bVi(m r:Nat):Bool:=and (EN 1 r) (and (Cz (CP (aEr r) (Eh r (aEr r))) r) (and (Cz (CB r S46) 1) (and (bMl m (aEr r)) (bMl m (Eh r (aEr r))))))
noncomputable def aWo(m:Nat):Bool:=cond (Cz (CB m 105) 1) (bVi m (stp (stp (stp (stp (stp (gE (C7 m 1)))))))) true
theorem aRa{q m u r:Nat}(hq:PrN q)(h:46337≤q)(hu:q ∣ u)(hur:u ∣ r)(hr:1≤r)(hg:CB r S46=1)(hc:bMl m u=true)(hp:Psp (q*m)):False:=by
 unfold bMl at hc
 rw[AR]at hc
 obtain⟨h1,h2⟩:=hc
 have h1:=EK h1
 have hu0:u≠0:=fun e=>by subst e;rw[Nat.zero_dvd]at hur;omega
 have huq:u=q:=by
  obtain⟨s,rfl⟩:=hu
  have hs0:s≠0:=fun e=>by subst e;omega
  have:s=1:=Bf fun hs=>by
   rcases Az s 46337 with hl|hl
   ·have:=Gv (BW (Ct s q) hur) (bKo (x:=s) (by omega) (by omega))
    rw[hg,Nat.dvd_one]at this;exact hs this
   ·have:=A3 h hl;omega
  rw[this,CJ]
 subst huq
 have hb:Cz u 1=false:=by
  cases hb:Cz u 1 with
  |false=>rfl
  |true=>have:=DC hb;omega
 rw[hb]at h2
 have hlt:=hp.lt
 cases hb2:EN 2147483648 (CP u m)with
 | true =>
  have:2147483648≤u*m:=EK hb2
  omega
 | false =>
  have e:tC (CP u m)=true:=hp.ps
  rw[hb2,e]at h2;cases h2
theorem bPv{q m:Nat}(hq:PrN q)(h:46337≤q)(hc:aWo m=true)(hp:Psp (q*m))(hm:2≤m):False:=by
 have hg:Cz (CB m 105) 1=true:=by rw[bFz hp (Ct ..)];rfl
 unfold aWo at hc
 rw[hg]at hc
 have hd:=bVd (by omega) (aQt hp hq (by omega))
 have hd:q ∣ stp (stp (stp (stp (stp (gE (C7 m 1)))))):=sS hq h (sS hq h (sS hq h (sS hq h (sS hq h hd))))
 have hc:bVi m (stp (stp (stp (stp (stp (gE (C7 m 1)))))))=true:=hc
 generalize stp (stp (stp (stp (stp (gE (C7 m 1))))))=r at *
 unfold bVi at hc
 simp only[AR]at hc
 obtain⟨c1,c2,c3,c4,c5⟩:=hc
 have c1:=EK c1
 have c2:aEr r*(Eh r (aEr r))=r:=DC c2
 have c3:=DC c3
 have hd2:q ∣ aEr r*(Eh r (aEr r)):=by rw[c2];exact hd
 rcases hq.mul hd2 with hu|hu
 ·exact aRa hq h hu ⟨_,c2.symm⟩ c1 c3 c4 hp
 ·exact aRa hq h hu ⟨aEr r,by rw[BJ];exact c2.symm⟩ c1 c3 c5 hp
noncomputable def aFb(lo K:Nat):Bool:=Nat.rec true (fun k ih=>cond (aWo (Nat.add lo (CP 2 k))) ih false) K
theorem aQp{lo:Nat}:∀{K:Nat},aFb lo K=true→∀ k,k<K→aWo (lo+2*k)=true
 | K+1,h,k,hk=>by
  have e:aFb lo (K+1)=cond (aWo (lo+2*K)) (aFb lo K) false:=rfl
  rw[e]at h
  cases hx:aWo (lo+2*K)with
  |false=>rw[hx]at h;cases h
  | true =>
   rw[hx]at h
   rcases Az k K with h1|h1
   ·exact aQp h k h1
   ·have:k=K:=by omega
    subst this;exact hx
theorem sX{lo K q m:Nat}(hr:aFb lo K=true)(h1:lo≤m)(h2:m<lo+2*K)(ho:(m-lo)%2=0)(hq:PrN q)(h:46337≤q)(hp:Psp (q*m))(hm:2≤m):False:=by
 have:=aQp hr ((m-lo)/2) (by omega)
 rw[show lo+2*((m-lo)/2)=m by omega]at this
 exact bPv hq h this hp hm
/-! ### all products of small primes -/
noncomputable def dfs(f:Nat):List Nat→Nat→Bool:=Nat.rec (motive:=fun _=>List Nat→Nat→Bool) (fun _ _=>true)
 (fun _ rec l d=>List.rec (motive:=fun _=>Bool) true (fun p ps ih =>
  E8 (motive:=fun _=>Bool)
   (E8 (motive:=fun _=>Bool)
    (E8 (motive:=fun _=>Bool) (E8 (motive:=fun _=>Bool) false ih (rec (p::ps) (CP d p))) (E8 (motive:=fun _=>Bool) false (E8 (motive:=fun _=>Bool) false ih (rec (p::ps) (CP d p))) (Cz d 1)) (tC (CP d p)))
    (E8 (motive:=fun _=>Bool) false ih (rec (p::ps) (CP d p)))
    (EN 2 (C6 (Dg 2 (C6 (C7 (CP d p) 1) (C7 p 1))) p)))
   true (EN 2147483648 (CP d p))) l) f
theorem aKk(f p:Nat)(ps:List Nat)(d:Nat):dfs (f+1) (p::ps) d=cond (EN 2147483648 (d*p)) true (cond (EN 2 (C6 (Dg 2 (C6 (C7 (CP d p) 1) (C7 p 1))) p)) (cond (dfs f (p::ps) (d*p)) (dfs (f+1) ps d) false)
  (cond (tC (d*p)) (cond (Cz d 1) (cond (dfs f (p::ps) (d*p)) (dfs (f+1) ps d) false) false) (cond (dfs f (p::ps) (d*p)) (dfs (f+1) ps d) false))):=by
 rw[←brc,←brc,←brc,←brc,←brc];rfl
theorem aPb{n:Nat}(hn:Psp n)(hnp:¬PrN n):∀(f:Nat) (l:List Nat) (d r:Nat),dfs f l d=true→l.Pairwise (·≤·)→(∀ p∈l,PrN p)→r<2^f→2≤r→(∀ p,PrN p→p ∣ r→p∈l)→n=d*r→False
 |0,l,d,r,h,hs,hl,hr,h2,hp,e=>by rw[Db]at hr;omega
 | f+1,[],d,r,h,hs,hl,hr,h2,hp,e=>by
  obtain⟨p,h1,h3⟩:=zC h2
  cases hp p h1 h3
 | f+1,p::ps,d,r,h,hs,hl,hr,h2,hp,e=>by
  have hpp:=hl p (AI ..)
  have hp2:=hpp.1
  rw[List.pairwise_cons]at hs
  have hlt:=hn.lt
  have hgt:=hn.gt
  have hd0:0<d:=D3 fun h0=>by subst h0;omega
  have hpr:p≤r:=by
   obtain⟨x,h1,h3⟩:=zC h2
   have hx:=CM (by omega) h3
   rcases Bq.1 (hp x h1 h3)with rfl|hm
   ·exact hx
   ·exact AY (hs.1 x hm) hx
  rw[aKk]at h
  have hb:EN 2147483648 (d*p)=false:=by
   cases hb:EN 2147483648 (d*p)with
   |false=>rfl
   | true =>
    have h1:=EK hb
    have:=Cn d hpr
    omega
  rw[hb]at h
  have hcont:dfs f (p::ps) (d*p)=true∧dfs (f+1) ps d=true:=by
   revert h
   cases EN 2 (C6 (Dg 2 (C6 (C7 (CP d p) 1) (C7 p 1))) p)<;>cases tC (d*p)<;>cases Cz d 1<;>cases dfs f (p::ps) (d*p)<;>intro h<;>first|exact⟨rfl,h⟩|cases h
  obtain⟨hrc,h9⟩:=hcont
  by_cases hdv:p ∣ r
  ·obtain⟨s,rfl⟩:=hdv
   have hs0:s≠0:=fun e=>by subst e;omega
   have en:n=d*p*s:=by rw[e,B0]
   rcases Az s 2 with h1|h1
   ·have:s=1:=by omega
    subst this
    rw[CJ]at en
    have hd1:Cz d 1=false:=by
     cases hb:Cz d 1 with
     |false=>rfl
     | true =>
      have:=DC hb
      subst this
      rw[CE]at en
      exact absurd (en ▸ hpp) hnp
    have hpn:p ∣ n:=⟨d,by rw[en,BJ]⟩
    have h11:=xO hn hpp hpn
    have hf:=aAa hpp (a:=2) (by rw[BQ (by omega)];omega)
    have hw:=yZ (by omega) hf (jJ (by omega) hpn hn.f2)
    rw[en]at hw
    have hw2:EN 2 (C6 (Dg 2 (C6 (C7 (CP d p) 1) (C7 p 1))) p)=false:=by
     have hw':C6 (Dg 2 (C6 (C7 (CP d p) 1) (C7 p 1))) p=1:=hw
     rw[hw'];rfl
    have e2:tC (d*p)=true:=by
     have:=hn.ps;rwa [en]at this
    rw[hd1,hw2,e2]at h
    cases h
   ·refine aPb hn hnp f (p::ps) (d*p) s hrc (List.pairwise_cons.2 hs) hl ?_ h1 (fun x hx hxs=>hp x hx (BW hxs (Ct ..))) en
    have:=Nat.mul_le_mul_right s hp2
    rw[BH]at hr
    omega
  ·exact aPb hn hnp (f+1) ps d r h9 hs.2 (fun x hx=>hl x (AJ _ hx)) hr h2 (fun x hx hxr=>by
    rcases Bq.1 (hp x hx hxr)with rfl|hm
    ·exact absurd hxr hdv
    ·exact hm) e
termination_by f l=>(f,l.length)
theorem gU{f p:Nat}{ps:List Nat}(h:dfs f (p::ps) p=true)(h2:dfs (f+1) ps 1=true):dfs (f+1) (p::ps) 1=true:=by
 rw[aKk,CE,h,h2]
 have:Cz 1 1=true:=rfl
 rw[this]
 cases EN 2147483648 p<;>cases EN 2 (C6 (Dg 2 (C6 (C7 (CP 1 p) 1) (C7 p 1))) p)<;>cases tC p<;>rfl
end Go.Am
end
section
open List renaming map_map→ζ,mapM_map→ξ
namespace Go.Am
set_option maxRecDepth 1000000
theorem bWw:aFb 11 5995=true:=by kernel_rfl
theorem bWv:aFb 12001 5000=true:=by kernel_rfl
theorem bWu:aFb 22001 4000=true:=by kernel_rfl
theorem bWt:aFb 30001 4000=true:=by kernel_rfl
theorem bWs:aFb 38001 4173=true:=by kernel_rfl
theorem bAy{q m:Nat}(hq:PrN q)(h:46337≤q)(h1:11≤m)(h2:m<46347)(ho:m%2=1)(hp:Psp (q*m)):False:=by
 rcases Az m 12001 with h3|h3
 ·exact sX bWw (by omega) (by omega) (by omega) hq h hp (by omega)
 rcases Az m 22001 with h3|h3
 ·exact sX bWv (by omega) (by omega) (by omega) hq h hp (by omega)
 rcases Az m 30001 with h3|h3
 ·exact sX bWu (by omega) (by omega) (by omega) hq h hp (by omega)
 rcases Az m 38001 with h3|h3
 ·exact sX bWt (by omega) (by omega) (by omega) hq h hp (by omega)
 exact sX bWs (by omega) (by omega) (by omega) hq h hp (by omega)
end Go.Am
end
section
open List renaming map_map→ζ,mapM_map→ξ
namespace Go.Am
set_option maxRecDepth 1000000
theorem cAw:dfs 30 (SP.drop 4) 11=true:=by kernel_rfl
theorem cAv:dfs 30 (SP.drop 5) 13=true:=by kernel_rfl
theorem cAu:dfs 30 (SP.drop 6) 17=true:=by kernel_rfl
theorem cAt:dfs 30 (SP.drop 7) 19=true:=by kernel_rfl
theorem cAs:dfs 30 (SP.drop 8) 23=true:=by kernel_rfl
theorem cAr:dfs 30 (SP.drop 9) 29=true:=by kernel_rfl
theorem bYi:dfs 30 (SP.drop 10) 31=true:=by kernel_rfl
theorem bYh:dfs 30 (SP.drop 11) 37=true:=by kernel_rfl
theorem bYg:dfs 30 (SP.drop 12) 41=true:=by kernel_rfl
theorem bYf:dfs 30 (SP.drop 13) 43=true:=by kernel_rfl
theorem bYe:dfs 31 (SP.drop 14) 1=true:=by kernel_rfl
theorem bPi:dfs 31 (SP.drop 4) 1=true :=
 gU cAw (gU cAv (gU cAu (gU cAt (gU cAs (gU cAr (gU bYi (gU bYh (gU bYg (gU bYf bYe)))))))))
end Go.Am
end
section
open List renaming map_map→ζ,mapM_map→ξ
namespace Go.Am
set_option maxRecDepth 100000 in
theorem bSv:∀ p∈SP,2≤p∧p<212∧∀ d,d<16→2≤d→d*d≤p→p%d≠0:=by decide
theorem bWp{p:Nat}(h:p∈SP):PrN p:=by
 obtain⟨h1,h2,h3⟩:=bSv p h
 refine⟨h1,fun d hd hdd=>h3 d ?_ hd hdd⟩
 refine Bf fun hc=>?_
 have:=A3 (show 16≤d by omega) (show 16≤d by omega)
 omega
set_option maxRecDepth 100000 in
theorem bKf:∀ p∈SP,11≤p→p∈SP.drop 4:=by decide
set_option maxRecDepth 100000 in
theorem aTn:(SP.drop 4).Pairwise (·≤·):=by decide
theorem aUo{n:Nat}(hp:Psp n):PrN n:=by
 refine Bf fun hn=>?_
 have hgt:=hp.gt
 have hlt:=hp.lt
 have hod:=hp.odd
 obtain⟨q,hq,hqn,hmax⟩:=bTv (n:=n) (by omega)
 rcases Az q 213 with h1|h1
 ·exact aPb hp hn 31 (SP.drop 4) 1 n bPi aTn (fun p h=>bWp (List.mem_of_mem_drop h)) (by omega) (by omega) (fun p h hd=>bKf p (aEs h (by have:=hmax p h hd;omega)) (xO hp h hd)) (by omega)
 obtain⟨m,rfl⟩:=hqn
 have hm2:2≤m:=Bf fun hc=>by
  have:m=0∨m=1:=by omega
  rcases this with rfl|rfl
  ·omega
  ·rw[CJ]at hn;exact hn hq
 have ho:q%2=1∧m%2=1:=by
  rw[Dn]at hod
  have h2:=BL q (show 0<2 by omega)
  have h3:=BL m (show 0<2 by omega)
  have:q%2=0∨q%2=1:=by omega
  rcases this with e|e
  ·rw[e,DT]at hod;omega
  ·rw[e,CE]at hod;omega
 rcases Az q 46337 with h2|h2
 ·exact bLb hq h1 h2 ho.1 hp hm2
 ·obtain⟨p,h3,h4⟩:=zC hm2
  have h5:=xO hp h3 (BW h4 (Ct ..))
  have h6:=CM (by omega) h4
  have h7:m<46347:=Bf fun hc=>by
   have:=A3 h2 (show 46347≤m by omega)
   omega
  exact bAy hq h2 (by omega) h7 ho.2 hp
theorem aEn{n:Nat}(h7:7<n)(h31:n<2147483648)(ho:n%2=1)(h2:eC 2 n=true)(h3:eC 3 n=true)(h5:eC 5 n=true)(h7':eC 7 n=true):PrN n :=
 aUo (bTs h7 h31 ho h2 h3 h5 h7')
theorem aHz{n y:Nat}(hp:PrN n)(hy:y<n)(h:y*y%n=1):y=1∨y=n-1:=by
 have h2:=hp.1
 have hy0:0<y:=D3 fun e=>by subst e;rw[DT,Nat.zero_mod]at h;omega
 obtain⟨z,rfl⟩:∃ z,y=z+1:=⟨y-1,by omega⟩
 have hd:=(show n ∣ (z+1)*(z+1)-1 from⟨(z+1)*(z+1)/n,by have:=DQ ((z+1)*(z+1)) n;omega⟩)
 have e:(z+1)*(z+1)-1=z*(z+2):=by
  rw[BV,Cd,Cd,Cd];omega
 rw[e]at hd
 rcases hp.mul hd with h1|h1
 ·rcases Bb z with h0|h0
  ·left;omega
  ·have:=CM h0 h1;omega
 ·right
  have:=CM (by omega) h1
  obtain⟨c,hc⟩:=h1
  have:c=1:=by
   rcases c with _|_|c
   ·omega
   ·rfl
   ·exfalso
    have:n*2≤n*(c+1+1):=Cn n (by omega)
    omega
  subst this;omega
theorem aZk{n:Nat}(hp:PrN n):∀(s y:Nat),y<n→y^2^(s+1)%n=1→y=1∨y=n-1∨sq2 n s y=true
 | 0,y,hy,h=>by
  have:y*y%n=1:=by rw[yN,Db,Nat.pow_one]at h;exact h
  rcases aHz hp hy this with h|h
  ·exact .inl h
  ·exact .inr (.inl h)
 | s+1,y,hy,h=>by
  rw[yN,Ea]at h
  have hz:y*y%n<n:=BL _ (by have:=hp.1;omega)
  rcases aZk hp s _ hz h with h1|h1|h1
  ·rcases aHz hp hy h1 with h|h
   ·exact .inl h
   ·exact .inr (.inl h)
  ·exact .inr (.inr (by unfold sq2;rw[h1];simp))
  ·exact .inr (.inr (by unfold sq2;rw[h1];simp))
theorem aEo{b n:Nat}(hp:PrN n)(h2:2<n)(h31:n<2147483648)(ho:n%2=1)(hb:b%n≠0):eC b n=true:=by
 obtain⟨h3,h4⟩:=aEq 31 (n-1) (by omega) (by omega)
 unfold eC
 generalize(spl 31 (n-1)).1=o at *
 generalize(spl 31 (n-1)).2=t at *
 rcases t with _|t
 ·rw[Db]at h3;omega
 have hf:=aAa hp hb
 rw[←h3,DK,Ea]at hf
 unfold aMh
 rw[Dh]
 rcases aZk hp t _ (BL _ (by omega)) hf with h|h|h
 ·rw[h];rfl
 ·rw[h];simp
 ·rw[h];simp
end Go.Am
end
section
open List renaming map_map→ζ,mapM_map→ξ
open Go Go.Am Go.Proofs
namespace Go.Am
def pmS(n o t:Nat):St:=StL [(0,.d (.i .u64 n)),(3,.d (.i .u64 o)),(4,.d (.i .i64 t))] none []
def B4:List Nat:=[2,3,5,7]
theorem uT{H H':Hp}{ρ:Nat→Nat}:Sub H H' ρ (.ag [.d (.i .u64 2),.d (.i .u64 3),.d (.i .u64 5),.d (.i .u64 7)]) (.ag [.d (.i .u64 2),.d (.i .u64 3),.d (.i .u64 5),.d (.i .u64 7)])↔True:=⟨fun _=>trivial,fun _=>⟨rfl,fun k c d h1 h2=>by
 rw[h1]at h2
 injection h2 with h2
 subst h2
 have:∃ x,c=.d x:=by
  have:=Ai h1
  simp only[Bq,List.not_mem_nil,or_false]at this
  rcases this with h|h|h|h<;>exact⟨_,h⟩
 obtain⟨x,rfl⟩:=this
 exact(bQr x:Sub H H' ρ (.d x) (.d x))⟩⟩
def aNm(n o t i j y:Nat):St:=StL [(0,.d (.i .u64 n)),(3,.d (.i .u64 o)),(4,.d (.i .i64 t)),(7,.d (.i .u64 y)),(28,.ag [.d (.i .u64 2),.d (.i .u64 3),.d (.i .u64 5),.d (.i .u64 7)]),(29,.d (.i .i64 i)),(48,.d (.i .i64 ((t:Int)-1))),(49,.d (.i .i64 j))] none []
def wY(n o t i:Nat):St:=StL [(0,.d (.i .u64 n)),(3,.d (.i .u64 o)),(4,.d (.i .i64 t)),(28,.ag [.d (.i .u64 2),.d (.i .u64 3),.d (.i .u64 5),.d (.i .u64 7)]),(29,.d (.i .i64 i))] none []
set_option maxHeartbeats 8000000 in
set_option maxRecDepth 10000 in
theorem bBp[M:Mch Aa](n:Nat)(b:Bool)(hb:b=true↔Pr3 n)(hn:n<18446744073709551616):Spec Aa 48 [.i .u64 n] (.b b):=by
 refine bD (N:=61) Tryz.func48 ?_
 have hfa:¬Pr3 n→b=false:=fun h=>by
  cases b with
  |false=>rfl
  |true=>exact absurd (hb.1 rfl) h
 have htr:Pr3 n→b=true:=hb.2
 clear hb
 simp[-ζ,-ξ,↓KW]
 by_cases h1:n<2
 ·have hbf:=hfa fun h=>by unfold Pr3 at h;omega
  have hi:decide ((n:Int)<2)=true:=by simp;omega
  subst hbf
  simp[-ζ,-ξ,↓KW,hi,h1]
 by_cases h2:2147483648≤n
 ·have hbf:=hfa fun h=>by unfold Pr3 at h;omega
  subst hbf
  have hi:¬((n:Int)<2):=by omega
  have hj:(2147483648:Int)≤(n:Int):=by omega
  simp[-ζ,-ξ,↓KW,hi,hj,h1,h2]
 have hi:¬((n:Int)<2):=by omega
 have hj:¬(2147483648:Int)≤(n:Int):=by omega
 have htm:((n:Int).tmod 2)=((n%2:Nat):Int):=by rw[CK (by omega)];rfl
 by_cases hev:n%2=0
 ·have hev':(n:Int)%2=0:=by omega
  have hbe:b=decide (n=2):=by
   by_cases h:n=2
   ·rw[htr ⟨by omega,by omega,fun d g1 g2=>by subst h;have:=A3 g1 g1;omega⟩,B2 h]
   ·rw[hfa fun hp=>hp.2.2 2 (by omega) (by omega) hev,By h]
  subst hbe
  simp[-ζ,-ξ,↓KW,hi,hj,h1,h2,htm,hev,hev']
  rw[EF]
  simp
  omega
 ·have hev':¬(n:Int)%2=0:=by omega
  have hod:n%2=1:=by omega
  have hod':(n:Int)%2=1:=by omega
  have hwn:AB.wrap ((n:Int)-1)=((n-1:Nat):Int):=by
   have e:(n:Int)-1=((n-1:Nat):Int):=by omega
   rw[e];exact wrap_u64 (by omega) (by omega)
  obtain⟨n1,hn1⟩:∃ n1,n-1=n1:=⟨_,rfl⟩
  rw[hn1]at hwn
  have hSp:=aEq 31 (n-1) (by omega) (by omega)
  rw[hn1]at hSp
  obtain⟨O,hO⟩:∃ o,(spl 31 n1).1=o:=⟨_,rfl⟩
  obtain⟨T,hT⟩:∃ t,(spl 31 n1).2=t:=⟨_,rfl⟩
  rw[hO,hT]at hSp
  simp[-ζ,-ξ,↓KW,hi,hj,h1,h2,htm,hev,hev',hod,hod',hwn]
  refine bJ (τ:=Nat×Nat) (fun x=>x.2≤31∧spl 31 n1=((spl (31-x.2) x.1).1,(spl (31-x.2) x.1).2+x.2)∧0<x.1∧x.1<2^(31-x.2)) (fun x=>pmS n x.1 x.2) (fun x=>x.1) (n1,0) ⟨by omega,rfl,by omega,by show n1<2147483648;omega⟩ ?_ ?_
  ·show ∃ ρ,Wk _ (pmS n n1 0) ρ
   unfold pmS
   refine wkQ [] ?_ ?_<;>simp[-ζ,upd,aL,Γ0]
  ·rintro⟨o,t⟩ ⟨ht,hs,ho0,ho1⟩
   simp only at ht hs ho0 ho1
   have hto:((o:Int).tmod 2)=((o%2:Nat):Int):=by rw[CK (by omega)];rfl
   have htd:((o:Int).tdiv 2)=((o/2:Nat):Int):=by rw[Int.tdiv_eq_ediv_of_nonneg (by omega)];rfl
   have hwt:Al.wrap ((t:Int)+1)=((t+1:Nat):Int):=aU
   obtain⟨f,hf⟩:∃ f,31-t=f+1:=by
    rcases h:31-t with _|f
    ·rw[h,Db]at ho1;omega
    ·exact⟨f,rfl⟩
   rw[hf]at hs ho1
   by_cases hoe:o%2=0
   ·have hoe':(o:Int)%2=0:=by omega
    have hwd:AB.wrap ((o:Int)/2)=(o:Int)/2:=by
     have e:(o:Int)/2=((o/2:Nat):Int):=by omega
     have:o<2147483648:=A9 ho1 (show 2^(f+1)≤2^31 from Dj (by omega) (by omega))
     rw[e];exact wrap_u64 (by omega) (by omega)
    simp[-ζ,-ξ,↓KW,pmS,hto,hoe,hoe',htd,hwt,hwd]
    refine aK (o/2,t+1) ⟨by omega,?_,by omega,by rw[show 31-(t+1)=f by omega];rw[BH]at ho1;omega⟩ (by show o/2<o;omega) ?_
    ·show spl 31 n1=((spl (31-(t+1)) (o/2)).1,(spl (31-(t+1)) (o/2)).2+(t+1))
     rw[hs,show 31-(t+1)=f by omega]
     have:spl (f+1) o=((spl f (o/2)).1,(spl f (o/2)).2+1):=by
      show(if o%2=0 then _ else _)=_
      rw[Ap hoe]
     rw[this]
     show((spl f (o/2)).1,(spl f (o/2)).2+1+t)=_
     rw[Nat.add_assoc,Nat.add_comm 1 t]
    ·show ∃ ρ,Wk _ (pmS n (o/2) (t+1)) ρ
     unfold pmS
     refine wkQ [] ?_ ?_<;>simp[-ζ,upd,aL,Γ0]
   ·have hoe':¬(o:Int)%2=0:=by omega
    have hoo:o%2=1:=by omega
    have hoo':(o:Int)%2=1:=by omega
    have hs2:O=o∧T=t:=by
     unfold spl at hs
     rw[if_neg hoe]at hs
     rw[←hO,←hT]
     have e1:(spl 31 n1).1=o:=by rw[show spl 31 n1=(o,0+t)from hs]
     have e2:(spl 31 n1).2=t:=by rw[show spl 31 n1=(o,0+t)from hs];omega
     exact⟨e1,e2⟩
    obtain⟨rfl,rfl⟩:=hs2
    simp[-ζ,-ξ,↓KW,pmS,hto,hoe,hoe',hoo,hoo']
    refine bF ?_
    simp[-ζ,-ξ,↓KW]
    have hO31:O<2147483648:=A9 ho1 (show 2^(f+1)≤2^31 from Dj (by omega) (by omega))
    have hT0:1≤T:=D3 fun e=>by
     have h:=hSp.1
     rw[e,Db]at h;omega
    have hst:∀ c,eC c n=aMh n T (c^O%n):=fun c=>by unfold eC;rw[hn1,hO,hT]
    refine bJ (τ:=Nat) (fun i=>i≤4∧∀ j,j<i→n≠B4.getD j 0∧eC (B4.getD j 0) n=true) (fun i=>wY n O T i) (fun i=>4-i) 0 ⟨by omega,fun j h=>by omega⟩ ?_ ?_
    ·show ∃ ρ,Wk _ (wY n O T 0) ρ
     unfold wY
     refine wkQ [] ?_ ?_<;>simp[-ζ,upd,aL,Γ0,uT]
    ·clear hto htd hs ho1
     rintro i ⟨hi4,hall⟩
     by_cases hi3:i<4
     ·obtain⟨c,hc,hcg,hc2,hc7,hcn,hcp⟩:∃ c,B4.getD i 0=c∧([AV.d (.i .u64 2),.d (.i .u64 3),.d (.i .u64 5),.d (.i .u64 7)]:List AV)[i]? = some (.d (.i .u64 (c:Int)))∧2≤c∧c≤7∧c≤n∧Pr3 c:=by
       have e0:=fun h:0<i=>(hall 0 h).1
       have e1:=fun h:1<i=>(hall 1 h).1
       have e2:=fun h:2<i=>(hall 2 h).1
       have f1:B4.getD 0 0=2:=rfl
       have f2:B4.getD 1 0=3:=rfl
       have f3:B4.getD 2 0=5:=rfl
       rw[f1]at e0
       rw[f2]at e1
       rw[f3]at e2
       have pr:∀ c:Nat,c=2∨c=3∨c=5∨c=7→Pr3 c:=fun c h=>⟨by omega,by omega,fun d g1 g2=>by
        have:d<3:=Bf fun hx=>by
         have:=A3 (show 3≤d by omega) (show 3≤d by omega);omega
        have:d=2:=by omega
        subst this;omega⟩
       have:i=0∨i=1∨i=2∨i=3:=by omega
       rcases this with rfl|rfl|rfl|rfl
       ·exact⟨2,rfl,rfl,by omega,by omega,by omega,pr 2 (by omega)⟩
       ·exact⟨3,rfl,rfl,by omega,by omega,by omega,pr 3 (by omega)⟩
       ·have:=e1 (by omega)
        exact⟨5,rfl,rfl,by omega,by omega,by omega,pr 5 (by omega)⟩
       ·have:=e1 (by omega)
        have:=e2 (by omega)
        exact⟨7,rfl,rfl,by omega,by omega,by omega,pr 7 (by omega)⟩
      have hiI:(i:Int)<4:=by omega
      have hcg':∀ h,([AV.d (.i .u64 2),.d (.i .u64 3),.d (.i .u64 5),.d (.i .u64 7)]:List AV)[i]'h=.d (.i .u64 (c:Int)):=fun h=>by rw[Ab h]at hcg;injection hcg
      have hwi:Al.wrap ((i:Int)+1)=((i+1:Nat):Int):=aU
      by_cases hnc:n=c
      ·have hbt:b=true:=htr (hnc ▸ hcp)
       subst hbt
       have hbe:((n:Int)==(c:Int))=true:=by simp;omega
       have hnc':(n:Int)=(c:Int):=by omega
       simp[-ζ,-ξ,↓KW,↓aE,↓aB,↓aF,↓aG,wY,hiI,hi3,hcg,hcg',hbe,hnc,hnc']
       exact bF (by simp[-ζ,-ξ,↓KW])
      have hbe:((n:Int)==(c:Int))=false:=by simp;omega
      have hlt:c<n:=by omega
      have hPw:=aFh (M:=M) n c O (by omega) (by omega) (by omega) (by omega)
      rw[aIp (by omega) (by omega)]at hPw
      have hstc:=hst c
      obtain⟨x,hx⟩:∃ x,c^O%n=x:=⟨_,rfl⟩
      have hxn:x<n:=hx ▸ BL _ (by omega)
      rw[hx]at hPw hstc
      have hnext:eC c n=true→(∀ j,j<i+1→n≠B4.getD j 0∧eC (B4.getD j 0) n=true):=fun h j hj=>by
       rcases Az j i with h1|h1
       ·exact hall j h1
       ·have:j=i:=by omega
        subst this;rw[hc];exact⟨hnc,h⟩
      have hfail:eC c n=false→b=false:=fun h=>hfa fun hp=>by
       have:=aEo (b:=c) ⟨hp.1,hp.2.2⟩ (by omega) (by omega) hod (by rw[BQ hlt];omega)
       rw[h]at this;cases this
      simp[-ζ,-ξ,↓KW,↓aE,↓aB,↓aF,↓aG,wY,hiI,hi3,hcg,hcg',hbe,hnc]
      refine aD hPw ?_
      have hx1:((x:Int)==1)=decide (x=1):=by rw[EF];simp;omega
      have hx2:((x:Int)==(n1:Int))=decide (x=n1):=by rw[EF];simp;omega
      by_cases hx1':x=1
      ·rw[B2 hx1']at hx1
       simp[-ζ,-ξ,↓KW,hwn,hx1,hwi]
       refine aK (i+1) ⟨by omega,hnext (by rw[hstc,hx1'];rfl)⟩ (by show 4-(i+1)<4-i;omega) ?_
       show ∃ ρ,Wk _ (wY n O T (i+1)) ρ
       unfold wY
       refine wkQ [] ?_ ?_<;>simp[-ζ,upd,aL,Γ0,uT]
      rw[By hx1']at hx1
      by_cases hx2':x=n1
      ·rw[B2 hx2']at hx2
       simp[-ζ,-ξ,↓KW,hwn,hx1,hx2,hwi]
       refine aK (i+1) ⟨by omega,hnext (by rw[hstc];unfold aMh;rw[hn1,hx2'];simp)⟩ (by show 4-(i+1)<4-i;omega) ?_
       show ∃ ρ,Wk _ (wY n O T (i+1)) ρ
       unfold wY
       refine wkQ [] ?_ ?_<;>simp[-ζ,upd,aL,Γ0,uT]
      have hstq:eC c n=sq2 n (T-1) x:=by
       rw[hstc];unfold aMh
       rw[hn1,show(x==1)=false from by simpa using hx1',show(x==n1)=false from by simpa using hx2'];rfl
      have hwT:Al.wrap ((T:Int)-1)=(T:Int)-1:=aU
      rw[By hx2']at hx2
      simp[-ζ,-ξ,↓KW,hwn,hx1,hx2,hwT]
      refine bJ (τ:=Nat×Nat) (fun z=>z.1≤T-1∧z.2<n∧sq2 n (T-1) x=sq2 n (T-1-z.1) z.2) (fun z=>aNm n O T i z.1 z.2) (fun z=>T-1-z.1) (0,x) ⟨A5 _,hxn,rfl⟩ ?_ ?_
      ·show ∃ ρ,Wk _ (aNm n O T i 0 x) ρ
       unfold aNm
       refine wkQ [] ?_ ?_<;>simp[-ζ,upd,aL,Γ0,uT]
      ·rintro⟨j,y⟩ ⟨hj,hyn,hsq⟩
       simp only at hj hyn hsq
       by_cases hjl:j<T-1
       ·have hjI:(j:Int)<(T:Int)-1:=by omega
        have hM:=nG (M:=M) n y y (by omega) (BG (A3 (Dd hyn) (Dd hyn)) (BG (A3 (show n≤2147483648 by omega) (show n≤2147483648 by omega)) (by decide)))
        obtain⟨w,hw⟩:∃ w,y*y%n=w:=⟨_,rfl⟩
        rw[hw]at hM
        have hwn':w<n:=hw ▸ BL _ (by omega)
        have hsw:sq2 n (T-1) x=((w==n1)||sq2 n (T-1-(j+1)) w):=by
         rw[hsq,show T-1-j=(T-1-(j+1))+1 by omega]
         show((y*y%n==n-1)||sq2 n (T-1-(j+1)) (y*y%n))=_
         rw[hw,hn1]
        have hwj:Al.wrap ((j:Int)+1)=((j+1:Nat):Int):=aU
        have hw2:((w:Int)==(n1:Int))=decide (w=n1):=by rw[EF];simp;omega
        simp[-ζ,-ξ,↓KW,aNm,hjI]
        refine aD hM ?_
        by_cases hw1:w=n1
        ·rw[B2 hw1]at hw2
         simp[-ζ,-ξ,↓KW,hwn,hw2]
         refine bF ?_
         simp[-ζ,-ξ,↓KW,hwi]
         refine aK (i+1) ⟨by omega,hnext (by rw[hstq,hsw,hw1];simp)⟩ (by show 4-(i+1)<4-i;omega) ?_
         show ∃ ρ,Wk _ (wY n O T (i+1)) ρ
         unfold wY
         refine wkQ [] ?_ ?_<;>simp[-ζ,upd,aL,Γ0,uT]
        ·rw[By hw1]at hw2
         simp[-ζ,-ξ,↓KW,hwn,hw2,hwj]
         refine aK (j+1,w) ⟨by omega,hwn',?_⟩ (by show T-1-(j+1)<T-1-j;omega) ?_
         ·show sq2 n (T-1) x=sq2 n (T-1-(j+1)) w
          rw[hsw,show(w==n1)=false from by simpa using hw1,Bool.false_or]
         ·show ∃ ρ,Wk _ (aNm n O T i (j+1) w) ρ
          unfold aNm
          refine wkQ [] ?_ ?_<;>simp[-ζ,upd,aL,Γ0,uT]
       ·have hjI:¬(j:Int)<(T:Int)-1:=by omega
        have hbf:=hfail (by
         rw[hstq,hsq,show T-1-j=0 by omega];rfl)
        subst hbf
        simp[-ζ,-ξ,↓KW,aNm,hjI]
        refine bF ?_
        simp[-ζ,-ξ,↓KW]
        exact bF (by simp[-ζ,-ξ,↓KW])
     ·have hie:i=4:=by omega
      subst hie
      have a0:=hall 0 (by omega)
      have a1:=hall 1 (by omega)
      have a2:=hall 2 (by omega)
      have a3:=hall 3 (by omega)
      have f0:B4.getD 0 0=2:=rfl
      have f1:B4.getD 1 0=3:=rfl
      have f2:B4.getD 2 0=5:=rfl
      have f3:B4.getD 3 0=7:=rfl
      rw[f0]at a0
      rw[f1]at a1
      rw[f2]at a2
      rw[f3]at a3
      have hp:=aEn (n:=n) (by omega) (by omega) hod a0.2 a1.2 a2.2 a3.2
      have hbt:b=true:=htr ⟨hp.1,by omega,hp.2⟩
      subst hbt
      simp[-ζ,-ξ,↓KW,wY]
      exact bF (by simp[-ζ,-ξ,↓KW])
theorem xE{l:List (Nat×Nat×Nat)}{i:Nat}{x:Nat×Nat×Nat}(h:l[i]? = some x):(wkL l)[i]? = some x.1:=by unfold wkL;rw[Ag,h];rfl
def aIo(L:List (List D))(i:Nat)(P:List Nat):St:=StL [(0,.d (.sl L)),(3,.own 1 0 P.length 1),(4,.d (.i .i64 i))] none [.cells 43 ((dU P).map .d)]
def bBo(L:List (List D))(i k:Nat)(P:List Nat):St:=StL [(0,.d (.sl L)),(3,.own 1 0 P.length 1),(4,.d (.i .i64 i)),(5,.d (.i .i64 k))] none [.cells 43 ((dU P).map .d)]
set_option maxHeartbeats 4000000 in
set_option maxRecDepth 10000 in
theorem aUg[M:Mch Aa](l:List (Nat×Nat×Nat))(b:Bool)(hb:b=true↔bBy l∧(pmL l).Nodup)(hl:l.length≤1000000)(hP:∀ x∈l,Spec Aa 72 [.i .u64 (x.2.1:Nat)] (.b true)):Spec Aa 9 [kX l] (.b b):=by
 obtain⟨L,hL,hLl,hLg⟩:=aAf l
 have hD:=tB (pmL l) (by simp[pmL];omega) (fun p hp=>by
  obtain⟨x,hx,rfl⟩:=A1.1 hp
  exact hP x hx)
 rw[hL]
 refine bD (N:=53) Tryz.func9 ?_
 simp[-ζ,-ξ,↓KW]
 refine bJ (τ:=Nat) (fun i=>i≤l.length∧bBy (l.take i)) (fun i=>aIo L i (pmL (l.take i))) (fun i=>l.length-i) 0 ⟨A5 _,by simp[bBy,wkL]⟩ ?_ ?_
 ·rw[Cx]
  show ∃ ρ,Wk _ (aIo _ _ []) ρ
  unfold aIo
  refine wkQ [1] ?_ ?_<;>simp[-ζ,upd,aL,Γ0,dU]
 ·rintro i ⟨hi,hn⟩
  by_cases hlt:i<l.length
  ·obtain⟨⟨w,p,v⟩,hge⟩:∃ x,l[i]? = some x:=⟨_,Ab hlt⟩
   have hmem:=Ai hge
   have hLi:=hLg i _ hge
   simp only at hLi
   have hLi':=cD hLi
   have hiL:i<L.length:=by omega
   have hT1:l.take (i+1)=l.take i++[(w,p,v)]:=by rw[List.take_add_one,hge];rfl
   have hw0:Al.wrap (i:Int)=i:=aU
   have hw1:Al.wrap ((i:Int)+1)=((i+1:Nat):Int):=aU
   have hpT:pmL (l.take (i+1))=pmL (l.take i)++[p]:=by rw[hT1];simp[pmL]
   have hPl:(pmL (l.take i)).length=i:=by simp[pmL];omega
   have hbb:=lA (n:=(pmL (l.take i)).length) (by omega)
   have hP1:(pmL (l.take (i+1))).length=(pmL (l.take i)).length+1:=by rw[hpT];simp
   have hdU1:(dU (pmL (l.take i))).map AV.d++[AV.d (.i .u64 (p:Int))]=(dU (pmL (l.take (i+1)))).map AV.d:=by rw[hpT];simp[dU]
   by_cases hv:v<p
   ·have hpv:¬(p:Int)≤(v:Int):=by omega
    have hpv':¬p≤v:=by omega
    obtain⟨PT1,hPT1⟩:∃ PT1,pmL (l.take (i+1))=PT1:=⟨_,rfl⟩
    rw[hPT1]at hP1 hdU1
    generalize pmL (l.take i)=PT at *
    simp[-ζ,-ξ,↓KW,aIo,hiL,hLi,hLi',hw0,hpv,hpv',eN,hbb,bY]
    refine bJ (τ:=Nat) (fun k=>k≤i∧∀ j,j<k→(wkL l)[j]? ≠ some w) (fun k=>bBo L i k PT1) (fun k=>i-k) 0 ⟨A5 _,fun j h=>by omega⟩ ?_ ?_
    ·unfold bBo
     rw[hP1]
     refine wkQ [3] ?_ ?_<;>simp[-ζ,upd,aL,Γ0,List.contains_cons,cF,hdU1]
    ·rintro k ⟨hk,hne⟩
     by_cases hki:k<i
     ·obtain⟨⟨w',p',v'⟩,hgk⟩:∃ x,l[k]? = some x:=⟨_,Ab (by omega)⟩
      have hLk:=hLg k _ hgk
      simp only at hLk
      have hLk':=cD hLk
      have hkL:k<L.length:=by omega
      have hwk0:Al.wrap (k:Int)=k:=aU
      have hwk1:Al.wrap ((k:Int)+1)=((k+1:Nat):Int):=aU
      by_cases hww:w'=w
      ·subst hww
       have hbf:b=false:=by
        cases b with
        |false=>rfl
        |true=>exact absurd (hb.1 rfl).1.1 (aCz hki (show(wkL l)[k]? = some w' from xE hgk) (show(wkL l)[i]? = some w' from xE hge))
       subst hbf
       simp[-ζ,-ξ,↓KW,bBo,hki,hkL,hiL,hLk,hLk',hLi,hLi',hw0,hwk0]
       refine bF ?_
       simp[-ζ,-ξ,↓KW]
       exact bF (by simp[-ζ,-ξ,↓KW])
      ·have hwwi:((w':Int)==(w:Int))=false:=by simp;omega
       simp[-ζ,-ξ,↓KW,bBo,hki,hkL,hiL,hLk,hLk',hLi,hLi',hw0,hwk0,hwk1,hww,hwwi]
       refine aK (k+1) ⟨by omega,fun j h=>?_⟩ (by show i-(k+1)<i-k;omega) (wkQ [1] ?_ ?_)
       ·by_cases hj:j=k
        ·subst hj;rw[xE hgk];intro h';injection h' with h';exact hww h'
        ·exact hne j (by omega)
       ·simp[-ζ,upd,aL,Γ0]
       ·simp[-ζ,upd,aL,Γ0]
     ·have hke:k=i:=by omega
      subst hke
      have hokn:bBy (l.take (k+1)):=⟨by rw[aHd];exact oH (xE hge) (by rw[←aHd];exact hn.1) hne,fun x hx=>by
       rw[hT1]at hx
       rcases List.mem_append.1 hx with h|h
       ·exact hn.2 x h
       ·simp only[BY]at h;subst h;exact hv⟩
      simp[-ζ,-ξ,↓KW,bBo,hki]
      refine bF ?_
      simp[-ζ,-ξ,↓KW,hw1]
      refine aK (k+1) ⟨by omega,hokn⟩ (by show l.length-(k+1)<l.length-k;omega) ?_
      show ∃ ρ,Wk _ (aIo _ _ _) ρ
      rw[hPT1]
      unfold aIo
      refine wkQ [1] ?_ ?_<;>simp[-ζ,upd,aL,Γ0]
   ·have hpv:(p:Int)≤(v:Int):=by omega
    have hpv':p≤v:=by omega
    have hbf:b=false:=by
     cases b with
     |false=>rfl
     |true=>exact absurd ((hb.1 rfl).1.2 _ hmem) (by simpa using hpv')
    subst hbf
    generalize pmL (l.take i)=PT at *
    simp[-ζ,-ξ,↓KW,aIo,hiL,hLi,hLi',hw0,hpv,hpv']
    exact bF (by simp[-ζ,-ξ,↓KW])
  ·have hiL:¬i<L.length:=by omega
   rw[List.take_of_length_le (show l.length≤i by omega)]at hn ⊢
   have hbe:b=decide (pmL l).Nodup:=by
    cases b with
    |false=>symm;rw[decide_eq_false_iff_not];exact fun h=>by have:=hb.2 ⟨hn,h⟩;cases this
    |true=>symm;rw[Bw];exact(hb.1 rfl).2
   rw[hbe]
   generalize decide (pmL l).Nodup=bb at *
   generalize hPT:pmL l=PT at *
   simp[-ζ,-ξ,↓KW,aIo,hiL]
   refine bF ?_
   simp[-ζ,-ξ,↓KW]
   refine aZ (ds:=[bL PT]) (bEn (bVg rfl rfl)) hD ?_
   simp[-ζ,-ξ,↓KW]
theorem bXb[M:Mch Aa]{p:Nat}(h:Pr3 p):Spec Aa 48 [.i .u64 (p:Nat)] (.b true):=bBp p true ⟨fun _=>h,fun _=>rfl⟩ (by have:=h.2.1;omega)
theorem bXa[M:Mch Aa]{p:Nat}(h:Pr3 p):Spec Aa 72 [.i .u64 (p:Nat)] (.b true):=aIf p true ⟨fun _=>h,fun _=>rfl⟩ (by have:=h.2.1;omega)
noncomputable def dP(p:Nat):Bool:=@decide (Pr3 p) (GH _)
theorem aGm{p:Nat}:dP p=true↔Pr3 p:=by unfold dP;exact @decide_eq_true_iff _ (GH _)
theorem aSt(n:Nat)(A:List (List Int))(ps:List Nat)(hn:n≤4)(hA:A.length=n)(hr:∀ v∈A,v.length=n)(hB:∀ v∈A,∀ z∈v,Sz z)(hp:∀ p∈ps,Pr3 p)(hnd:ps.Nodup)(hps:ps.length≤1000000) :
  letI:=bP Aa;Spec Aa 6 [jR n A,bL ps] (.tp [kX (kT (iL n A) ps),.i .i64 0]):=by
 letI:=bP Aa
 have hdf:=aPa (M:=bP Aa) ps hps fun p h=>bXb (hp p h)
 rw[B2 hnd]at hdf
 have h:=aHc (rr:=n) (eA:=A.map fun v=>[dB v]) (lD:=ps.map fun(p:Nat)=>[.i .u64 (p:Int)]) (n:=ps.length) (Pv:=fun k=>(ps.getD k 0:Nat)) (Vv:=fun k=>((iL n A%((ps.getD k 0:Nat):Int)).toNat:Nat)) (Ev:=fun _=>0)
  (by simp) hps (aOl A) (fun k hk=>by rw[Ag,Ab hk,Ac,Ab hk];rfl)
  (aJp (M:=bP Aa) n A (by omega) hA hr hB) hdf
  (fun k hk=>by
   have hm:Pr3 (ps.getD k 0):=hp _ (by rw[Ac,Ab hk];exact Bj hk)
   have:=bVm (M0:=jX Aa false) (ps.getD k 0) n A hn ⟨hm.1,hm.2.2⟩ hm.2.1 hA hr hB (bXb (M:=jX Aa false) hm)
   have h2:=hm.1
   have e:=De (iL n A) (b:=((ps.getD k 0:Nat):Int)) (by omega)
   rw[←BN e]at this
   exact this)
 have e:D.sl (aCl (fun k=>(ps.getD k 0:Nat)) (fun k=>((iL n A%((ps.getD k 0:Nat):Int)).toNat:Nat)) ps.length)=kX (kT (iL n A) ps):=by
  unfold aCl kX kT
  rw[DH];rfl
 rw[e]at h
 exact h
set_option maxHeartbeats 8000000 in
set_option maxRecDepth 10000 in
theorem aSs[M:Mch Aa](n c:Nat)(A:List (List Int))(l:List Nat)(hnc:n≠c)(hn:n≤1000)(hc:c≤1000)(hA:A.length=n)(hr:∀ v∈A,v.length=c)(hB:∀ v∈A,∀ z∈v,Sz z) :
  Spec Aa 6 [lT n c A,bL l] (.tp [.sl [],.i .i64 50]):=by
 have hV:=aDe (M:=M) n c A hn hc hA hr hB
 unfold lT at hV ⊢
 generalize(A.map fun v=>[dB v])=L at *
 have hne:((n:Int) != (c:Int))=true:=by simp;omega
 have hne':¬(n:Int)=(c:Int):=by omega
 refine bD (N:=38) Tryz.func6 ?_
 simp[-ζ,-ξ,↓KW]
 refine aD hV ?_
 simp[-ζ,-ξ,↓KW,hne,hne',eJ]
set_option maxHeartbeats 8000000 in
set_option maxRecDepth 10000 in
theorem aLs[M:Mch Aa](n:Nat)(A:List (List Int))(l:List Nat)(hl:l.length≤1000000)(hl2:∀ p∈l,p<18446744073709551616)(hbad:¬((∀ p∈l,Pr3 p)∧l.Nodup))(hn:n≤1000)(hA:A.length=n)(hr:∀ v∈A,v.length=n)(hB:∀ v∈A,∀ z∈v,Sz z) :
  Spec Aa 6 [jR n A,bL l] (.tp [.sl [],.i .i64 40]):=by
 have hV:=aJp (M:=M) n A hn hA hr hB
 have hD:=wN (M:=M) dP l hl fun p h=>bBp p (dP p) aGm (hl2 p h)
 have hf:(l.all dP&&decide l.Nodup)=false:=by
  rw[Bool.eq_false_iff]
  intro h
  rw[AR]at h
  exact hbad ⟨fun p hp=>aGm.1 (AW.1 h.1 p hp),C5 h.2⟩
 rw[hf]at hD
 unfold jR at hV ⊢
 generalize(A.map fun v=>[dB v])=L at *
 obtain⟨U,hU⟩:∃ L,bL l=.sl L:=⟨_,rfl⟩
 rw[hU]at hD ⊢
 have hne:((n:Int) != (n:Int))=false:=by simp
 refine bD (N:=38) Tryz.func6 ?_
 simp[-ζ,-ξ,↓KW]
 refine aD hV ?_
 simp[-ζ,-ξ,↓KW,hne]
 refine aD hD ?_
 simp[-ζ,-ξ,↓KW,eJ]
/-! ### the reference's -/
set_option maxHeartbeats 8000000 in
set_option maxRecDepth 10000 in
theorem aFd[M:Mch Aa](n c:Nat)(A:List (List Int))(l:List Nat)(hnc:n≠c):Spec Aa 7 [lT n c A,bL l] (.tp [.sl [],.i .i64 50]):=by
 unfold lT
 generalize(A.map fun v=>[dB v])=L at *
 obtain⟨U,hU⟩:∃ L,bL l=.sl L:=⟨_,rfl⟩
 rw[hU]
 have hne:((n:Int) != (c:Int))=true:=by simp;omega
 have hne':¬(n:Int)=(c:Int):=by omega
 refine bD (N:=43) Tryz.func7 ?_
 simp[-ζ,-ξ,↓KW,hne,hne',hnc,eJ]
set_option maxHeartbeats 8000000 in
set_option maxRecDepth 10000 in
theorem aBp[M:Mch Aa](n:Nat)(A:List (List Int))(l:List Nat)(hl:l.length≤1000000)(hl2:∀ p∈l,p<18446744073709551616)(hbad:¬((∀ p∈l,Pr3 p)∧l.Nodup)):Spec Aa 7 [jR n A,bL l] (.tp [.sl [],.i .i64 40]):=by
 have hD:=rC (M:=M) dP l hl fun p h=>aIf p (dP p) aGm (hl2 p h)
 have hf:(l.all dP&&decide l.Nodup)=false:=by
  rw[Bool.eq_false_iff]
  intro h
  rw[AR]at h
  exact hbad ⟨fun p hp=>aGm.1 (AW.1 h.1 p hp),C5 h.2⟩
 rw[hf]at hD
 unfold jR
 generalize(A.map fun v=>[dB v])=L at *
 obtain⟨U,hU⟩:∃ L,bL l=.sl L:=⟨_,rfl⟩
 rw[hU]at hD ⊢
 have hne:((n:Int) != (n:Int))=false:=by simp
 refine bD (N:=43) Tryz.func7 ?_
 simp[-ζ,-ξ,↓KW,hne]
 refine aD hD ?_
 simp[-ζ,-ξ,↓KW,eJ]
set_option maxHeartbeats 8000000 in
set_option maxRecDepth 10000 in
theorem aNe[M:Mch Aa](l:List Rp3)(hl:l.length≤1000000):Spec Aa 8 [kX l,kX l] (.b true):=by
 obtain⟨L,hL,hLl,hLg⟩:=aAf l
 rw[hL]
 refine bD (N:=26) Tryz.func8 ?_
 simp[-ζ,-ξ,↓KW]
 refine bJ (τ:=Nat) (fun i=>i≤l.length) (fun i=>StL [(0,.d (.sl L)),(1,.d (.sl L)),(5,.d (.i .i64 (i:Int)))] none []) (fun i=>l.length-i) 0 (A5 _) ?_ ?_
 ·refine wkQ [] ?_ ?_<;>simp[-ζ,upd,aL,Γ0]
 ·intro i hi
  by_cases hlt:i<l.length
  ·obtain⟨x,hx⟩:∃ x,l[i]? = some x:=⟨_,Ab hlt⟩
   have hLi:=hLg i x hx
   have hLi':=cD hLi
   have hiL:i<L.length:=by omega
   have hw0:Al.wrap (i:Int)=i:=aU
   have hw1:Al.wrap ((i:Int)+1)=((i+1:Nat):Int):=aU
   have hT:tst Aa 47=true:=by kernel_rfl
   have e1:∀ a b c:D,dK .neq false (.ag [.d a,.d b,.d c]) (.ag [.d a,.d b,.d c])=none:=fun _ _ _=>rfl
   have e2:∀(k:Option IntKind) (y z:AV),bHj .neq k y z=none:=fun k _ _=>by cases k<;>rfl
   have e3:aXe .neq true (.ag [.d (.i .i64 x.1),.d (.i .u64 x.2.1),.d (.i .u64 x.2.2)]) (.ag [.d (.i .i64 x.1),.d (.i .u64 x.2.1),.d (.i .u64 x.2.2)])=some (.b false):=by simp[aXe,vX]
   simp[-ζ,-ξ,↓KW,hiL,hLi,hLi',hw0,hw1,hT,e1,e2,e3]
   refine aK (i+1) hlt (by show l.length-(i+1)<l.length-i;omega) ?_
   show ∃ ρ,Wk _ (StL _ _ _) ρ
   refine wkQ [] ?_ ?_<;>simp[-ζ,upd,aL,Γ0]
  ·have hiL:¬i<L.length:=by omega
   simp[-ζ,-ξ,↓KW,hiL]
   exact bF (by simp[-ζ,-ξ,↓KW])
end Go.Am
end
section
open List renaming map_map→ζ,mapM_map→ξ
namespace Go.Am
open Go.Conc
open RowKit (Below)
def bVy(P:Program)[M:Mch P](fn:Func)(N:Nat)(args:List D)(r:D):Prop :=
  ∃ c,fn.body=some c∧fn.ntmps=N∧bH N c=true∧args.length≤N∧Wal P c (St0 args N) fun e σ=>(e=.normal∨e=.ret)∧iY P fn.results.toList σ=some r
theorem aOb{P:Program}[M:Mch P]{fn:Func}{N:Nat}{c:Code}{args:List D}{r:D}(hb:fn.body=some c)(hN:fn.ntmps=N)(hd:bH N c=true)(hl:bK P c=true)(ha:args.length≤N)
    (h:AWP P c (St0 args N) fun e σ=>(e=.normal∨e=.ret)∧iY P fn.results.toList σ=some r):bVy P fn N args r:=⟨c,hb,hN,hd,ha,xG hl h⟩
theorem wD{W:World}{a:Addr}{x:Value}(h:W.cell? a=some x):(strike W).cell? a=some x:=by
  obtain⟨c,t,f,hb,hlt,hs⟩:=nS h
  have:(strike W).heap[a.block]? = some (.cells c t f):=by rw[jF,hb];rfl
  simp only[Bs,hb,this]at h ⊢
  exact h
theorem VD.strike{F:Nat→Prop}{W:World}{d:D}{x:Value}(h:VD F W d x):VD F (strike W) d x:=by
  induction h with
  |b x=>exact .b x
  |i k n=>exact .i k n
  |sl0 ad c=>exact .sl0 ad c
  |sl els ad n c sz f hn hc hsz hFb hcell hel ih=>exact .sl els ad n c sz f hn hc hsz hFb (fun j hj=>wD (hcell j hj)) ih
  |ag cs vs hl h ih=>exact .ag cs vs hl ih
  |tp cs vs hl h ih=>exact .tp cs vs hl ih
  |lit v=>exact .lit v
  |pt cs ad f hFb hcell hel ih=>exact .pt cs ad f hFb (fun j hj=>wD (hcell j hj)) ih
  |fn g cs vs hl h ih=>exact .fn g cs vs hl ih
  |mp k ks ds b ents clock hFb hb' hst hl hl' hk hv ih=>exact .mp k ks ds b ents clock hFb (by rw[jF,hb'];rfl) hst hl hl' hk ih
  |iff t x v h ih=>exact .iff t x v ih
  |fm g x u h ih=>exact .fm g x u ih
theorem bKu{P:Program}{f N:Nat}{fn:Func}{args:List D}{r:D}(hm:P.follows .mixedOrders=true)(hf:P.funcs[f]? = some fn)(hi:P.inits.idxOf? f=none)(h:letI:=bP P;bVy P fn N args r)
    {W:World} {vs:Array Value} {Q:Value→World→Prop} (hl:args.length=vs.size) (hv:∀(k:Nat) d v,args[k]? = some d→vs[k]? = some v→VD (fun b=>b<W.heap.size) W d v)
    (hQ:∀ x W',Below W.heap.size W W'→(∃(F:Nat→Prop) (v':World),VD F v' r x)→Q x W') :
    ∃ M last o w' t',runNT P (M+1) (solo (G (CZ P f vs .normal) []) W) #[]=(.ended o w',t')∧runN P M (solo (G (CZ P f vs .normal) []) W)=.next last∧step P last=.ended o w'∧Conc.Good P Q last o w' t':=by
  obtain⟨c,hb,hN,hd,ha,hw⟩:=h
  obtain⟨M,last,o,w',t',h1,h2,h3,h4⟩:=bKr hm hf hb hi hN hd ha hw (W:=W) (vs:=vs) hl fun k d v hk hv'=>by
    have:=(hv k d v hk hv').strike
    simpa[lI]using this
  refine⟨M,last,o,w',t',h1,h2,h3,h4.mono fun x hx=>?_⟩
  obtain⟨q1,q2,q3,q4,q5,v',q6⟩:=hx
  exact hQ x w' ⟨q2,q3,q4,q5,fun k hk=>q1 k hk⟩ ⟨_,v',q6⟩
end Go.Am
end
section
open List renaming map_map→ζ,mapM_map→ξ
open Go Go.Am Go.Proofs
namespace Go.Am
open Go.ChangeShapes Go.WideShapes Go.ChangeAt Go.RowKit
theorem bGm{w:World}{a:Addr}{v:Value}(h:w.cell? a=some v):a.block<w.heap.size:=by
 unfold Bs at h
 cases hb:w.heap[a.block]? with
 |none=>rw[hb]at h;cases h
 |some o=>exact(Array.getElem?_eq_some_iff.1 hb).1
theorem bCz{α:Type}{Q:Nat→α→Prop}:∀{n:Nat},(∀ i,i<n→∃ y,Q i y)→∃ l:List α,l.length=n∧∀(i:Nat) (y:α),l[i]? = some y→Q i y
 |0,_=>⟨[],rfl,fun i y h=>by simp at h⟩
 | n+1,h=>by
  obtain⟨l,hl,hq⟩:=bCz (n:=n) fun i hi=>h i (Nat.lt_succ_of_lt hi)
  obtain⟨y,hy⟩:=h n (Nat.lt_succ_self n)
  refine⟨l++[y],by simp[hl],fun i z hz=>?_⟩
  rcases Az i l.length with h1|h1
  ·rw[List.getElem?_append_left h1]at hz;exact hq i z hz
  ·rw[List.getElem?_append_right h1]at hz
   have h2:i-l.length=0:=by
    rcases Bb (i-l.length)with h3|h3
    ·exact h3
    ·rw[AX (by simp;omega)]at hz;cases hz
   rw[h2]at hz
   simp at hz
   subst hz
   rwa [show i=n by omega]
theorem aWp{w:World}{n:Nat}{a:Addr}{cs:List Value}(h:w.cells? 0 a n=some cs):∀ k,k<n→w.cell? (a.add k)=cs[k]? := by
 intro k hk
 unfold World.cells? at h
 rw[Ap (A5 _)]at h
 have:=mapM_some_get h k k (by simp[hk])
 exact this
theorem aUx{α:Type}{P:Program}{H:Type}{enc:TypeId×Value→H}{w:World}{sp:Nat→Bool}{held:Bool}{t e:TypeId}{cs:List Value}{x:DataW H×List MemPlace}{fuel:Nat}(ht:P.underlying t=some (.slice e))(hc:0<P.cellsOf e)(E:α→List D)(good:α→Prop)
  (hE:∀(fuel:Nat) (cs:List Value) (x:DataW H×List MemPlace),DataW.trod enc P w 0 sp held fuel e cs=some x→∃ y:α,good y∧(E y).length=P.cellsOf e∧∀(k:Nat) (c:D) (v:Value),(E y)[k]? = some c→cs[k]? = some v→VD (fun b=>b<w.heap.size) w c v)
  (hf:DataW.trod enc P w 0 sp held fuel t cs=some x):∃(v:Value) (l:List α),cs=[v]∧VD (fun b=>b<w.heap.size) w (.sl (l.map E)) v∧(∀ y∈l,good y)∧l.length≤9223372036854775807:=by
 rcases DataW.trod_slice ht hf with ⟨hcs,_⟩|⟨a,len,cap,elems,rest,n,_,hcs,_,_,hlc,hcm,hel,hEl,_⟩
 ·exact⟨_,[],hcs,.sl0 _ _,(fun p hp=>by cases hp),A5 _⟩
 ·have each:∀ i,i<len→∃ y:α,good y∧(E y).length=P.cellsOf e∧∀(k:Nat),k<P.cellsOf e→∃ v,w.cell? (a.add (i*P.cellsOf e+k))=some v∧∀ c:D,(E y)[k]? = some c→VD (fun b=>b<w.heap.size) w c v:=by
   intro i hi
   have h1:=hEl i hi
   rw[Ab (by omega)]at h1
   obtain⟨vs,h2,h3⟩:=Option.bind_eq_some_iff.1 h1
   obtain⟨y,g,hy,hv⟩:=hE _ _ _ h3
   refine⟨y,g,hy,fun k hk=>?_⟩
   have h4:=aWp h2 k hk
   rw[add_add]at h4
   have h5:k<vs.length:=by
    unfold World.cells? at h2
    rw[Ap (A5 _)]at h2
    have:=mapM_some_length h2
    simp at this;omega
   rw[Ab h5]at h4
   exact⟨_,h4,fun c hc=>hv k c _ hc (Ab h5)⟩
  obtain⟨l,hl,hq⟩:=bCz each
  have hgood:∀ y∈l,good y:=fun y hy=>by
   obtain⟨i,hi,rfl⟩:=BC.1 hy
   exact(hq i _ (Ab hi)).1
  refine⟨_,l,hcs,?_,hgood,by rw[hl];exact AY hlc hcm⟩
  rcases Bb len with h0|hpos
  ·have:l=[]:=List.eq_nil_of_length_eq_zero (by omega)
   subst this;subst h0;exact .sl0 _ _
  ·have hab:a.block<w.heap.size:=by
    obtain⟨y,_,_,hy⟩:=each 0 hpos
    obtain⟨v,hv,_⟩:=hy 0 hc
    have:=bGm hv
    rwa [block_add]at this
   refine .sl _ a len cap (P.cellsOf e) (fun j=>(w.cell? (a.add j)).getD undef) (by simp[hl]) hlc (fun cs hcs=>?_) hab (fun j hj=>?_) (fun j k cs c hj hk=>?_)
   ·obtain⟨y,hy,rfl⟩:=A1.1 hcs
    obtain⟨i,hi,rfl⟩:=BC.1 hy
    exact(hq i _ (Ab hi)).2.1
   ·have hd:j/P.cellsOf e<len:=Nat.div_lt_of_lt_mul (by rwa [BJ]at hj)
    obtain⟨y,_,_,hy⟩:=each _ hd
    obtain⟨v,hv,_⟩:=hy (j%P.cellsOf e) (BL _ hc)
    rw[BJ,DQ]at hv
    simp[hv]
   ·rw[Ag,Af]at hj
    obtain⟨y,hy,rfl⟩:=hj
    obtain⟨_,h6,h7⟩:=hq j y hy
    obtain⟨v,hv,hvc⟩:=h7 k (by rw[←h6];exact(Ao.1 hk).1)
    simp only[hv,AT]
    exact hvc c hk
end Go.Am
end
section
open List renaming map_map→ζ,mapM_map→ξ
open Go Go.Am Go.Proofs
namespace Go.Am
theorem bSd{n:Int}(h:(Lit.int .u8 n).wf=true):0≤n∧n≤255:=by
 have h1:IntKind.u8.min=0:=rfl
 have h2:IntKind.u8.max=255:=rfl
 simp only[Lit.wf,AR,Bw]at h
 omega
theorem bZu:ownKnob Aa.godebug=none:=by kernel_rfl
theorem bRf:laidOutB Aa=true:=by kernel_rfl
end Go.Am
end
section
open List renaming map_map→ζ,mapM_map→ξ
open Go Go.Am Go.Proofs
namespace Go.Am
open Go.ChangeShapes Go.WideShapes Go.ChangeAt Go.RowKit
theorem aHb{n:Nat}(h:n<256):IntKind.u8.wrap (n:Int)=n:=by
 unfold IntKind.wrap
 simp[IntKind.bits,IntKind.signed]
 omega
def bBe(R C:Nat)(V:List Int):D:=.ag [.i .u8 R,.i .u8 C,aSa V]
theorem bWg:Aa.cellsOf 24=3:=by kernel_rfl
theorem bZb:Aa.cellsOf 5=1:=by kernel_rfl
theorem bZc:Aa.cellsOf 100=1:=by kernel_rfl
theorem bWf:Aa.cellsOf 43=1:=by kernel_rfl
theorem bWh:Aa.cellsOf 22=1:=by kernel_rfl
theorem bXs{α:Type}{l:List α}(h:l.length=3):∃ a b c,l=[a,b,c]:=by
 match l,h with
 |[a,b,c],_=>exact⟨a,b,c,rfl⟩
section
variable {H:Type} {enc:TypeId×Value→H} {w:World} {sp:Nat→Bool} {held:Bool}
theorem bBt{cs:List Value}{x:DataW H×List MemPlace}{fuel:Nat}(h:DataW.trod enc Aa w 0 sp held fuel 5 cs=some x):∃ n:Nat,cs=[.int .u8 n]∧n<256:=by
 obtain⟨a,q1,_,w1⟩:=DataW.trod_int Tryz.underlying5 h
 have:=bSd w1
 exact⟨a.toNat,by rw[q1];congr 2;omega,by omega⟩
theorem bBw{t e:TypeId}{cs:List Value}{x:DataW H×List MemPlace}{fuel:Nat}(k:IntKind)(lo hi:Int)(ht:Aa.underlying t=some (.slice e))(he:Aa.underlying e=some (.int k))(ce:Aa.cellsOf e=1)
  (hw:∀ n:Int,(Lit.int k n).wf=true→lo≤n∧n≤hi) (hf:DataW.trod enc Aa w 0 sp held fuel t cs=some x):∃(v:Value) (m:List Int),cs=[v]∧VD (fun b=>b<w.heap.size) w (.sl (m.map fun n=>[D.i k n])) v∧(∀ n∈m,lo≤n∧n≤hi)∧m.length≤9223372036854775807:=by
 obtain⟨v,m,h1,h2,h3,h4⟩:=aUx ht (by omega) (fun n:Int=>[D.i k n]) (fun n=>lo≤n∧n≤hi) (fun fuel cs x h=>by
  obtain⟨a,q1,_,w1⟩:=DataW.trod_int he h
  subst q1
  refine⟨a,hw a w1,by simp[ce],fun k c v hk hv=>?_⟩
  rcases k with _|k
  ·simp at hk hv
   subst hk;subst hv
   exact .i _ _
  ·simp at hk) hf
 exact⟨v,m,h1,h2,h3,h4⟩
theorem bZx{k:IntKind}{m:List Int}(h:∀ n∈m,(0:Int)≤n):(m.map fun n=>[D.i k n])=(m.map Int.toNat).map fun n:Nat=>[D.i k (n:Int)]:=by
 rw[DH]
 refine List.map_congr_left fun n hn=>?_
 have:=h n hn
 show[D.i k n]=[D.i k ((n.toNat:Nat):Int)]
 rw[BN this]
theorem bSe{n:Int}(h:(Lit.int .i8 n).wf=true):-128≤n∧n≤127:=by
 have hmin:IntKind.i8.min=-128:=rfl
 have hmax:IntKind.i8.max=127:=rfl
 simp only[Lit.wf,AR,Bw]at h
 omega
theorem bJe{n:Int}(h:(Lit.int .u64 n).wf=true):0≤n∧n≤18446744073709551615:=by
 have hmin:AB.min=0:=rfl
 have hmax:AB.max=18446744073709551615:=rfl
 simp only[Lit.wf,AR,Bw]at h
 omega
theorem bBv{v:Value}{d:DataW H}{ps:List MemPlace}{cs:Array Value}(hv:v=.agg cs)(h:DataW.Trod enc Aa w 0 sp held 24 v d ps) :
  ∃(R C:Nat) (V:List Int),VD (fun b=>b<w.heap.size) w (bBe R C V) v∧R<256∧(∀ x∈V,-128≤x∧x≤127)∧V.length≤9223372036854775807∧C<256:=by
 subst hv
 obtain⟨fuel,hf⟩:=h
 obtain⟨xs,n,_,_,hl,hlen,hfs⟩:=DataW.trod_struct Tryz.underlying24 hf
 rw[bWg]at hl
 have h0:=hfs 0 { name := "R",type:=5,offset:=0,embedded:=false,tag := "",pkgPath := "",byteOffset:=0 } rfl
 have h1:=hfs 1 { name := "C",type:=5,offset:=1,embedded:=false,tag := "",pkgPath := "",byteOffset:=1 } rfl
 have h2:=hfs 2 { name := "V",type:=22,offset:=2,embedded:=false,tag := "",pkgPath := "",byteOffset:=8 } rfl
 obtain⟨x0,hx0⟩:∃ x,xs[0]? = some x:=⟨_,Ab (by rw[hlen];decide)⟩
 obtain⟨x1,hx1⟩:∃ x,xs[1]? = some x:=⟨_,Ab (by rw[hlen];decide)⟩
 obtain⟨x2,hx2⟩:∃ x,xs[2]? = some x:=⟨_,Ab (by rw[hlen];decide)⟩
 rw[hx0]at h0;rw[hx1]at h1;rw[hx2]at h2
 simp only[Er]at h0 h1 h2 hl
 obtain⟨cs⟩:=cs
 simp only at h0 h1 h2 hl
 obtain⟨a,b,c,rfl⟩:=bXs hl
 simp only[bZb,bWh,List.drop_zero,List.drop_succ_cons,List.take_succ_cons,Cx]at h0 h1 h2
 obtain⟨R,e0,hR⟩:=bBt h0
 obtain⟨C,e1,hC⟩:=bBt h1
 obtain⟨u,V,e2,hu,hg,hL⟩:=bBw .i8 (-128) 127 Tryz.underlying22 Tryz.underlying100 bZc (fun n h=>bSe h) h2
 injection e0 with e0;injection e1 with e1;injection e2 with e2
 subst e0;subst e1;subst e2
 refine⟨R,C,V,.ag _ _ rfl fun k d v hk hv=>?_,hR,hg,hL,hC⟩
 rcases k with _|_|_|k
 ·simp at hk hv;subst hk;subst hv;exact .i _ _
 ·simp at hk hv;subst hk;subst hv;exact .i _ _
 ·simp at hk hv;subst hk;subst hv;exact hu
 ·simp at hk
theorem bBu{cs:List Value}{x:DataW H×List MemPlace}{fuel:Nat}(h:DataW.trod enc Aa w 0 sp held fuel 25 cs=some x) :
  ∃(v:Value) (l:List Nat),cs=[v]∧VD (fun b=>b<w.heap.size) w (bL l) v∧(∀ x∈l,x<18446744073709551616)∧l.length≤9223372036854775807:=by
 obtain⟨u,l,e,hu,hg,hL⟩:=bBw .u64 0 18446744073709551615 Tryz.underlying25 Tryz.underlying43 bWf (fun n h=>bJe h) h
 rw[bZx fun n hn=>(hg n hn).1]at hu
 refine⟨u,l.map Int.toNat,e,hu,fun x hx=>?_,by rw[List.length_map];exact hL⟩
 obtain⟨y,hy,rfl⟩:=A1.1 hx
 have:=hg y hy;omega
end
end Go.Am
end
section
open List renaming map_map→ζ,mapM_map→ξ
open Go Go.Am Go.Proofs
namespace Go.Am
set_option maxHeartbeats 4000000 in
set_option maxRecDepth 10000 in
theorem bLt[M:Mch Aa](R C:Nat)(V:List Int)(hR:R<256)(hC:C<256)(hb:∀ x∈V,-128≤x∧x≤127)(hll:V.length≤9223372036854775807) :
  Spec Aa 5 [bBe R C V] (lT (R%5) (C%5) (rcM V (R%5) (C%5))):=by
 have hF:=aNg (M:=M) V (R%5) (C%5) (by omega) (by omega) hb hll
 obtain⟨L,hL,_,_⟩:=aKj V
 unfold bBe
 rw[hL]at hF ⊢
 obtain⟨n,hn⟩:∃ n,R%5=n:=⟨_,rfl⟩
 obtain⟨c,hc⟩:∃ c,C%5=c:=⟨_,rfl⟩
 rw[hn,hc]at hF ⊢
 have h1:(R:Int).tmod 5=n:=by rw[CK (by omega)];omega
 have h2:(R:Int)%5=n:=by omega
 have hw:IntKind.u8.wrap (n:Int)=n:=aHb (by omega)
 have hw2:Al.wrap (n:Int)=n:=aU
 have k1:(C:Int).tmod 5=c:=by rw[CK (by omega)];omega
 have k2:(C:Int)%5=c:=by omega
 have kw:IntKind.u8.wrap (c:Int)=c:=aHb (by omega)
 have kw2:Al.wrap (c:Int)=c:=aU
 generalize rcM V n c=A at *
 refine bD (N:=14) Tryz.func5 ?_
 simp[-ζ,-ξ,↓KW,h1,h2,hw,hw2,k1,k2,kw,kw2]
 refine aD hF ?_
 simp[-ζ,-ξ,↓KW,lT]
theorem bTj(V:List Int)(n c:Nat):(rcM V n c).length=n∧(∀ v∈rcM V n c,v.length=c)∧∀ v∈rcM V n c,∀ z∈v,z.natAbs≤10:=by
 have h:=bRc n c fun r s=>vf V (r*c+s)
 refine⟨h.len,h.row,fun v hv z hz=>?_⟩
 obtain⟨r,_,rfl⟩:=A1.1 hv
 obtain⟨s,_,rfl⟩:=A1.1 hz
 exact bQq V _
theorem bEh{d:Int}{ps:List Nat}(hp:∀ p∈ps,0<p):blL d (kT d ps)=[]:=by
 refine bQd fun x hx=>?_
 obtain⟨i,hi,rfl⟩:=A1.1 hx
 have hi:=CI.1 hi
 have hm:0<ps.getD i 0:=hp _ (by rw[Ac,Ab hi];exact Bj hi)
 show d%((ps.getD i 0:Nat):Int)=((d%((ps.getD i 0:Nat):Int)).toNat:Int)
 have:=De d (b:=((ps.getD i 0:Nat):Int)) (by omega)
 omega
theorem bOj{d:Int}{ps:List Nat}(hp:∀ p∈ps,0<p):bBy (kT d ps):=by
 refine⟨by rw[bOi];exact List.nodup_range,fun x hx=>?_⟩
 obtain⟨i,hi,rfl⟩:=A1.1 hx
 have hi:=CI.1 hi
 have hm:0<ps.getD i 0:=hp _ (by rw[Ac,Ab hi];exact Bj hi)
 exact bFi hm
theorem aOj{d:Int}{ps:List Nat}{x:Rp3}(h:x∈kT d ps):x.2.1∈ps:=by
 have:=List.mem_map_of_mem (f:=fun x:Rp3=>x.2.1) h
 have e:=aRt d ps
 unfold pmL at e
 rwa [e]at this
theorem aYb(n c:Nat)(A:List (List Int))(l:List Nat)(hn:n≤4)(hc:c≤4)(hA:A.length=n)(hr:∀ v∈A,v.length=c)(hB:∀ v∈A,∀ z∈v,z.natAbs≤10)(hl:l.length≤6)(hl2:∀ x∈l,x<18446744073709551616) :
  letI:=bP Aa;∃(W:List Rp3) (e:Int),W.length≤6∧Spec Aa 6 [lT n c A,bL l] (.tp [kX W,.i .i64 e])∧Spec Aa 7 [lT n c A,bL l] (.tp [kX W,.i .i64 e]) ∧
   (e≠0∨(e=0∧Spec Aa 9 [kX W] (.b true)∧∃ d:Int,Spec Aa 11 [lT n c A] (encZ d)∧Spec Aa 10 [encZ d,kX W] (.i .i64 0))):=by
 letI M:=bP Aa
 have hBz:∀ v∈A,∀ z∈v,Sz z:=fun v hv z hz=>(szR (z:=z) (by have:=hB v hv z hz;omega)).1
 by_cases hnc:n=c
 ·subst hnc
  by_cases hg:(∀ p∈l,Pr3 p)∧l.Nodup
  ·have hV:=bBg (M:=M) n A hn hA hr hB
   have hd:(iL n A).natAbs<2^256:=by
    have h1:(iL n A).natAbs≤160000:=bDg (AY (bEk hn hA hr) (bBm (by omega) (fun v hv=>by rw[hr v hv];exact hn) hB))
    omega
   have hp0:∀ p∈l,0<p:=fun p h=>by have:=(hg.1 p h).1;omega
   refine⟨kT (iL n A) l,0,by rw[pK];exact hl,aSt n A l hn hA hr hBz hg.1 hg.2 (by omega),?_,.inr ⟨rfl,?_,iL n A,hV,?_⟩⟩
   ·exact bLr (M:=M) n A (iL n A) l (by omega) hg.2 (fun p h=>by have:=hg.1 p h;exact⟨hp0 p h,by have:=this.2.1;omega⟩) hd (fun p h=>bXa (hg.1 p h)) hV
   ·exact aUg (M:=M) _ true (by simp only[true_iff];exact⟨bOj hp0,by rw[aRt];exact hg.2⟩) (by rw[pK];omega) fun x hx=>bXa (hg.1 _ (aOj hx))
   ·have:=aNf (M:=M) (iL n A) (kT (iL n A) l) (by rw[pK];omega) hd fun x hx=>by have:=hg.1 _ (aOj hx);exact⟨hp0 _ (aOj hx),by have:=this.2.1;omega⟩
    rwa [bEh hp0]at this
  ·exact⟨[],40,by simp,aLs (M:=M) n A l (by omega) hl2 hg (by omega) hA hr hBz,aBp (M:=M) n A l (by omega) hl2 hg,.inl (by decide)⟩
 ·exact⟨[],50,by simp,aSs (M:=M) n c A l hnc (by omega) (by omega) hA hr hBz,aFd (M:=M) n c A l hnc,.inl (by decide)⟩
set_option maxHeartbeats 8000000 in
set_option maxRecDepth 10000 in
theorem bXt(R C:Nat)(V:List Int)(l:List Nat)(hR:R<256)(hC:C<256)(hb:∀ x∈V,-128≤x∧x≤127)(hll:V.length≤9223372036854775807)
  (hl:∀ x∈l,x<18446744073709551616) (hlen:l.length≤9223372036854775807) (hS:letI:=bP Aa;Spec Aa 4 [] (.b true)) :
  letI:=bP Aa;bVy Aa Tryz.f3 54 [bBe R C V,bL l] (.b true):=by
 letI M:=bP Aa
 have hMd:=bLt (M:=M) R C V hR hC hb hll
 obtain⟨n,hn⟩:∃ n,R%5=n:=⟨_,rfl⟩
 obtain⟨c,hc⟩:∃ c,C%5=c:=⟨_,rfl⟩
 have hn4:n≤4:=by omega
 have hc4:c≤4:=by omega
 rw[hn,hc]at hMd
 obtain⟨a1,a2,a3⟩:=bTj V n c
 generalize rcM V n c=A at *
 have hBo:=fun h6=>aYb n c A l hn4 hc4 a1 a2 a3 h6 hl
 obtain⟨U,hU,hUl⟩:∃ L,bL l=.sl L∧L.length=l.length:=⟨_,rfl,by simp⟩
 obtain⟨VL,hVL⟩:∃ L,aSa V=.sl L:=⟨_,rfl⟩
 unfold lT at hMd hBo
 unfold bBe at hMd ⊢
 generalize(A.map fun v=>[dB v])=L at *
 rw[hU]at hBo ⊢
 rw[hVL]at hMd ⊢
 refine aOb rfl rfl (by kernel_rfl) (by kernel_rfl) (by simp) ?_
 simp[-ζ,-ξ,↓KW]
 refine aD hS ?_
 by_cases h6:6<l.length
 ·have q:(6:Int)<(U.length:Int):=by omega
  have q':6<U.length:=by omega
  simp[-ζ,-ξ,↓KW,q,q']
 ·have q:¬(6:Int)<(U.length:Int):=by omega
  have q':¬6<U.length:=by omega
  obtain⟨W,e,hWl,h1,h2,h3⟩:=hBo (by omega)
  have hSm:=aNe (M:=M) W (by omega)
  obtain⟨LW,hLW⟩:∃ L,kX W=.sl L:=⟨_,rfl⟩
  rw[hLW]at h1 h2 h3 hSm
  have he:((e:Int) != e)=false:=by simp
  simp[-ζ,-ξ,↓KW,q,q']
  refine aD hMd ?_
  simp[-ζ,-ξ,↓KW]
  refine aD h1 ?_
  simp[-ζ,-ξ,↓KW]
  refine aD h2 ?_
  simp[-ζ,-ξ,↓KW]
  refine aD hSm ?_
  rcases h3 with h3|⟨rfl,hP,d,hV,hG⟩
  ·have hne:((e:Int) != 0)=true:=by simpa using h3
   simp[-ζ,-ξ,↓KW,he,hne,h3]
  ·simp[-ζ,-ξ,↓KW,he]
   refine aD hP ?_
   simp[-ζ,-ξ,↓KW]
   refine aD hV ?_
   simp[-ζ,-ξ,↓KW,bB d,aR]
   refine aD hG ?_
   simp[-ζ,-ξ,↓KW]
def iv(n:Int):D:=.ag [.b false,.sl [[.i .u32 n]]]
def iv0:D:=.ag [.b false,.sl []]
def rp(w p v:Int):List D:=[.i .i64 w,.i .u64 p,.i .u64 v]
def rl4:List (List D):=[rp 0 7 5,rp 1 11 5,rp 2 13 5,rp 3 17 0]
def rl3:List (List D):=[rp 0 7 5,rp 1 11 5,rp 2 13 5]
def rl2:List (List D):=[rp 0 7 5,rp 1 11 5]
def m12:D:=.ag [.i .i64 1,.i .i64 2,.sl [[.sl [[.b false,.sl []],[.b false,.sl []]]]]]
def m00:D:=.ag [.i .i64 0,.i .i64 0,.sl []]
def vd(v:Int)(l:List Int):D:=.ag [.b false,.sl [[.i .u32 v]],.sl (l.map fun x=>[.i .i64 x])]
def vd0:D:=.ag [.b false,.sl [],.sl []]
section
variable [M:Mch Aa]
theorem kC1:Spec Aa 14 [iv 10,.sl rl4,.i .i64 1] (.tp [vd 5 [3],.i .i64 0]):=gP (by kernel_rfl)
theorem kC2:Spec Aa 14 [iv 10,.sl rl3,.i .i64 1] (.tp [vd0,.i .i64 200]):=gP (by kernel_rfl)
theorem kC3:Spec Aa 14 [iv 10,.sl rl2,.i .i64 0] (.tp [vd 5 [],.i .i64 0]):=gP (by kernel_rfl)
theorem kC4:Spec Aa 14 [iv 3,.sl [rp 0 7 1,rp 1 11 2],.i .i64 0] (.tp [vd0,.i .i64 201]):=gP (by kernel_rfl)
theorem kC5:Spec Aa 14 [iv 10,.sl rl4,.i .i64 (-1)] (.tp [vd0,.i .i64 1]):=gP (by kernel_rfl)
theorem kC6:Spec Aa 14 [iv 10,.sl [rp 0 8 1],.i .i64 0] (.tp [vd0,.i .i64 40]):=gP (by kernel_rfl)
theorem kBl:Spec Aa 21 [iv 5,.sl rl4] (.sl [[.i .i64 3]]):=gP (by kernel_rfl)
theorem kRe(w p v:Int)(h:(mL Aa EP 100 20).call 12 [.i .i64 w,.i .u64 p,.i .u64 v]=some (.ag (rp w p v)):=by kernel_rfl):Spec Aa 12 [.i .i64 w,.i .u64 p,.i .u64 v] (.ag (rp w p v)):=gP h
theorem kOf(n:Int)(h:(mL Aa EP 100 20).call 13 [.i .i64 n]=some (iv n):=by kernel_rfl):Spec Aa 13 [.i .i64 n] (iv n):=gP h
theorem bXv:Spec Aa 13 [.i .i64 0] iv0:=gP (by kernel_rfl)
theorem kW2:Spec Aa 6 [m12,.sl []] (.tp [.sl [],.i .i64 50]):=gP (by kernel_rfl)
theorem kW3:Spec Aa 6 [m00,.sl [[.i .u64 5],[.i .u64 5]]] (.tp [.sl [],.i .i64 40]):=gP (by kernel_rfl)
theorem kNu(a b:List Nat)(h:(mL Aa EP 100 20).call 17 [bL a,bL b]=some (.b true):=by kernel_rfl):Spec Aa 17 [bL a,bL b] (.b true):=gP h
theorem kSa(v:Int)(l:List Int)(h:(mL Aa EP 100 20).call 19 [vd v l,vd v l]=some (.b true):=by kernel_rfl):Spec Aa 19 [vd v l,vd v l] (.b true):=gP h
theorem kSR:Spec Aa 8 [.sl [rp 0 5 4,rp 1 3 2],.sl [rp 0 5 4,rp 1 3 2]] (.b true):=gP (by kernel_rfl)
theorem kIn:Spec Aa 20 [.sl [[.i .i64 3]],.sl [[.i .i64 3]]] (.b true):=gP (by kernel_rfl)
theorem kVa:Spec Aa 23 [mA] (.b true):=gP (by kernel_rfl)
theorem kDi:Spec Aa 24 [.sl [[.i .u64 5],[.i .u64 3]]] (.b true):=gP (by kernel_rfl)
theorem kR5:Spec Aa 28 [mA,.i .u64 5] (.tp [.ag [.i .u64 5,.i .u64 4],.i .i64 0]):=gP (by kernel_rfl)
theorem kR3:Spec Aa 28 [mA,.i .u64 3] (.tp [.ag [.i .u64 3,.i .u64 2],.i .i64 0]):=gP (by kernel_rfl)
theorem bDq:cX 0=iv0:=by
 rw[←iW];exact aWe
theorem bUs:cX 1=iv 1:=by
 rw[←iW];exact aAe (by decide) (by decide)
theorem kP1:Spec Aa 18 [iv0,.i .i64 1] (bL [2147483647,2147483629]):=by
 have h:=aEh 0 1 (by decide) (by decide)
 rwa [bDq,show wpL 0 1=[2147483647,2147483629]from by decide]at h
theorem kP2:Spec Aa 18 [iv 1,.i .i64 0] (bL [2147483647]):=by
 have h:=aEh 1 0 (by decide) (by decide)
 rwa [bUs,show wpL 1 0=[2147483647]from by decide]at h
theorem kP3:Spec Aa 18 [iv0,.i .i64 0] (bL []):=by
 have h:=aEh 0 0 (by decide) (by decide)
 rwa [bDq,show wpL 0 0=[]from by decide]at h
end
theorem kW1:letI:=bP Aa;Spec Aa 6 [mA,.sl [[.i .u64 5],[.i .u64 3]]] (.tp [.sl [rp 0 5 4,rp 1 3 2],.i .i64 0]):=by
 refine aHc (rr:=1) (eA:=[[.sl [[.b true,.sl [[.i .u32 1]]]]]]) (lD:=[[.i .u64 5],[.i .u64 3]]) (n:=2) (Pv:=fun k=>if k=0 then 5 else 3) (Vv:=fun k=>if k=0 then 4 else 2) (Ev:=fun _=>0) rfl (by decide) ?_ ?_ ?_ ?_ ?_
 ·refine nN fun cs h c hc=>?_
  simp only[BY]at h;subst h
  simp only[BY]at hc;subst hc
  refine nN fun cs h c hc=>?_
  simp only[BY]at h;subst h
  simp only[Bq,List.not_mem_nil,or_false]at hc
  rcases hc with rfl|rfl
  ·exact bEs _
  ·refine nN fun cs h c hc=>?_
   simp only[BY]at h;subst h
   simp only[BY]at hc;subst hc
   exact vP _ _
 ·intro k hk
  have:k=0∨k=1:=by omega
  rcases this with rfl|rfl<;>rfl
 ·letI:=bP Aa
  exact kVa
 ·letI:=bP Aa
  exact kDi
 ·intro k hk
  letI:=jX Aa false
  have:k=0∨k=1:=by omega
  rcases this with rfl|rfl
  ·exact kR5
  ·exact kR3
def sA:St:=StL [(1,.d (.sl rl4)),(2,.ptr 1 0)] none [.cells 40 [.d (.b false),.d (.sl [[.i .u32 10]])]]
def vA:HO:=.cells 52 [.d (.b false),.d (.sl [[.i .u32 5]]),.d (.sl [[.i .i64 3]])]
def vB:HO:=.cells 52 [.d (.b false),.d (.sl [[.i .u32 5]]),.d (.sl [])]
def sB:St:=StL [(1,.d (.sl rl4)),(2,.ptr 1 0),(3,.ptr 2 0),(4,.d (.i .i64 0)),(6,.d (.i .i64 200)),(7,.ptr 3 0),(8,.d (.i .i64 0))] none [.cells 40 [.d (.b false),.d (.sl [[.i .u32 10]])],vA,vB]
def lC:List (Nat×AV):=[(1,.d (.sl rl4)),(3,.ptr 1 0),(4,.d (.i .i64 0)),(6,.d (.i .i64 200)),(7,.ptr 2 0),(8,.d (.i .i64 0)),(10,.d (.i .i64 201)),(12,.d (.i .i64 1)),(14,.d (.i .i64 40))]
def sC:St:=StL lC none [vA,vB]
def lD2:List (Nat×AV):=lC++[(15,.d (.sl [rp 0 5 4,rp 1 3 2])),(16,.d (.i .i64 0))]
def sD:St:=StL lD2 none [vA,vB]
def lE:List (Nat×AV):=lD2++[(18,.d (.i .i64 50)),(20,.d (.i .i64 40))]
def sE:St:=StL lE none [vA,vB]
def sF:St:=StL (lE++[(21,.d (.b true))]) none [vA,vB]
def sG:St:=StL [(1,.d (.sl rl4)),(15,.d (.sl [rp 0 5 4,rp 1 3 2])),(16,.d (.i .i64 0)),(18,.d (.i .i64 50)),(20,.d (.i .i64 40)),(21,.d (.b true)),(22,.d (.b true))] none []
def sH:St:=StL [(1,.d (.sl rl4)),(21,.d (.b true)),(22,.d (.b true)),(23,.d (.b true))] none []
theorem kX1[M:Mch Aa]:Spec Aa 12 [.i .i64 0,.i .u64 7,.i .u64 5] (.ag (rp 0 7 5)):=kRe 0 7 5
theorem kX2[M:Mch Aa]:Spec Aa 12 [.i .i64 1,.i .u64 11,.i .u64 5] (.ag (rp 1 11 5)):=kRe 1 11 5
theorem kX3[M:Mch Aa]:Spec Aa 12 [.i .i64 2,.i .u64 13,.i .u64 5] (.ag (rp 2 13 5)):=kRe 2 13 5
theorem kX4[M:Mch Aa]:Spec Aa 12 [.i .i64 3,.i .u64 17,.i .u64 0] (.ag (rp 3 17 0)):=kRe 3 17 0
theorem kX5[M:Mch Aa]:Spec Aa 13 [.i .i64 10] (iv 10):=kOf 10
theorem kX6[M:Mch Aa]:Spec Aa 13 [.i .i64 3] (iv 3):=kOf 3
theorem kX7[M:Mch Aa]:Spec Aa 12 [.i .i64 0,.i .u64 7,.i .u64 1] (.ag (rp 0 7 1)):=kRe 0 7 1
theorem kX8[M:Mch Aa]:Spec Aa 12 [.i .i64 1,.i .u64 11,.i .u64 2] (.ag (rp 1 11 2)):=kRe 1 11 2
theorem kX9[M:Mch Aa]:Spec Aa 12 [.i .i64 0,.i .u64 8,.i .u64 1] (.ag (rp 0 8 1)):=kRe 0 8 1
theorem cAf[M:Mch Aa]:Spec Aa 17 [bL [2147483647,2147483629],bL [2147483647,2147483629]] (.b true):=kNu [2147483647,2147483629] [2147483647,2147483629]
theorem cAe[M:Mch Aa]:Spec Aa 13 [.i .i64 1] (iv 1):=kOf 1
theorem cAd[M:Mch Aa]:Spec Aa 17 [bL [2147483647],bL [2147483647]] (.b true):=kNu [2147483647] [2147483647]
theorem bUr[M:Mch Aa]:Spec Aa 13 [.i .i64 5] (iv 5):=kOf 5
theorem cAc[M:Mch Aa]:Spec Aa 19 [vd 5 [3],vd 5 [3]] (.b true):=kSa 5 [3]
theorem cAb[M:Mch Aa]:Spec Aa 19 [vd 5 [],vd 5 []] (.b true):=kSa 5 []
theorem bXu[M:Mch Aa]:Spec Aa 19 [.ag [.b false,.sl [[.i .u32 5]],.sl []],.ag [.b false,.sl [[.i .u32 5]],.sl []]] (.b true):=cAb
theorem cAa[M:Mch Aa]:Spec Aa 12 [.i .i64 0,.i .u64 5,.i .u64 4] (.ag (rp 0 5 4)):=kRe 0 5 4
theorem bZz[M:Mch Aa]:Spec Aa 12 [.i .i64 1,.i .u64 3,.i .u64 2] (.ag (rp 1 3 2)):=kRe 1 3 2
theorem bMf{P:Program}[M:Mch P](ts:List Nat){ops:Array Oper}{l:List Oper}{σ:St}{con:List Nat}{kk:St→List Nat→Prop}{d:Dm (ops,l,kk)}
  (hc:con=[]) (h:∀ Γ' H' n',(∀ t∈ts,Γ' t=σ.Γ t)→OWd P ops l ⟨Γ',H',n'⟩ [] kk .mk):OWd P ops l σ con kk d:=by
 rw[hc];exact h σ.Γ σ.H σ.n fun _ _=>rfl
set_option maxHeartbeats 8000000 in
set_option maxRecDepth 10000 in
theorem bAi:letI:=bP Aa;Spec Aa 4 [] (.b true):=by
 letI:=bP Aa
 have w1:=kW1
 have hN1:rJ Aa 16 [.i .i64 1,.i .i64 2] (nwV 1 2) (mB 2 [[0,0]]):=aFf 1 2 (by decide) (by decide)
 have hmB1:∀ n,mB 2 [[0,0]] n=[.cells 93 [.own (n+1) 0 2 2],.cells 40 [.d (.b (decide ((0:Int)<0))),.d (aA (aJ (0:Int).natAbs)),.d (.b (decide ((0:Int)<0))),.d (aA (aJ (0:Int).natAbs))]]:=fun n=>by simp[mB,hdr,aHy,vcs,uC]
 have hN0:rJ Aa 16 [.i .i64 0,.i .i64 0] (nwV 0 0) (mB 0 []):=aFf 0 0 (by decide) (by decide)
 have hmB0:∀ n,mB 0 [] n=[.cells 93 []]:=fun n=>rfl
 have hd0:aA (aJ 0)=.sl []:=by rw[cA];rfl
 obtain⟨m12',hm12⟩:∃ m,m=D.ag [.i .i64 1,.i .i64 2,.sl [[.sl [[.b false,aA (aJ 0)],[.b false,aA (aJ 0)]]]]]:=⟨_,rfl⟩
 have hk2:Spec Aa 6 [m12',.sl []] (.tp [.sl [],.i .i64 50]):=by
  rw[hm12,hd0];exact kW2
 subst hm12
 have fl2:∀ l:List (List D),wL (.sl l)=false:=fun _=>rfl
 have fl:∀ l m:List (List D),wL (.ag [.b false,.sl l,.sl m])=false:=fun _ _=>rfl
 refine aZm (N:=171) [true,true,true,false,true,true,true,false,true,true,true,false,true,false,true,true,false,true,false,true,false,true,false] aT Tryz.func4 rfl rfl rfl (by kernel_rfl) (by kernel_rfl) (by simp) ?_
 simp[-ζ,-ξ,↓KW,↓aV,↓aS,↓bC]
 refine aD kX1 ?_
 simp[-ζ,-ξ,↓KW,rp,↓aV,↓aS,↓bC]
 refine aD kX2 ?_
 simp[-ζ,-ξ,↓KW,rp,↓aV,↓aS,↓bC]
 refine aD kX3 ?_
 simp[-ζ,-ξ,↓KW,rp,↓aV,↓aS,↓bC]
 refine aD kX4 ?_
 simp[-ζ,-ξ,↓KW,rp,↓aV,↓aS,↓bC]
 refine aD kX5 ?_
 simp[-ζ,-ξ,↓KW,iv,↓aV,↓aS,↓bC]
 refine iD sA ?_ ?_
 ·unfold sA
  refine wkQ [2] ?_ ?_
  ·simp[-ζ,upd,aL,Γ0,rl4,rp]
   refine bJt (by rfl) (fun a ha id hid=>?_)
   have ha':a=1:=by simpa[-ζ,-ξ,upd]using ha
   rw[ha']
   exact bLd hid (by simp) (by decide)
  ·simp[-ζ,upd,aL,Γ0]
 simp[-ζ,-ξ,↓KW,sA,rl4,rp,↓aV,↓aS,↓bC]
 refine aD kC1 ?_
 simp[-ζ,-ξ,↓KW,iv,vd,fl,↓aV,↓aS,↓bC]
 refine aD kC2 ?_
 simp[-ζ,-ξ,↓KW,iv,vd0,fl,↓aV,↓aS,↓bC]
 refine aD kC3 ?_
 simp[-ζ,-ξ,↓KW,iv,vd,fl,↓aV,↓aS,↓bC]
 refine iD sB ?_ ?_
 ·unfold sB vA vB
  refine wkQ [1,2,4] ?_ ?_<;>simp[-ζ,upd,aL,Γ0,rl4,rp]
 simp[-ζ,-ξ,↓KW,sB,vA,vB,rl4,rp,↓aV,↓aS,↓bC]
 refine aD kX6 ?_
 simp[-ζ,-ξ,↓KW,iv,↓aV,↓aS,↓bC]
 refine aD kX7 ?_
 simp[-ζ,-ξ,↓KW,rp,↓aV,↓aS,↓bC]
 refine aD kX8 ?_
 simp[-ζ,-ξ,↓KW,rp,↓aV,↓aS,↓bC]
 refine aD kC4 ?_
 simp[-ζ,-ξ,↓KW,iv,vd0,fl,↓aV,↓aS,↓bC]
 refine aD kC5 ?_
 simp[-ζ,-ξ,↓KW,iv,vd0,fl,↓aV,↓aS,↓bC]
 refine aD kX9 ?_
 simp[-ζ,-ξ,↓KW,rp,↓aV,↓aS,↓bC]
 refine aD kC6 ?_
 simp[-ζ,-ξ,↓KW,iv,vd0,fl,↓aV,↓aS,↓bC]
 refine iD sC ?_ ?_
 ·unfold sC lC vA vB
  refine wkQ [2,3] ?_ ?_<;>simp[-ζ,upd,aL,Γ0,rl4,rp]
 simp[-ζ,-ξ,↓KW,sC,lC,vA,vB,rl4,rp,↓aV,↓aS,↓bC]
 refine aD bXw ?_
 simp[-ζ,-ξ,↓KW,mA,↓aV,↓aS,↓bC]
 refine aD w1 ?_
 simp[-ζ,-ξ,↓KW,rp,fl2,↓aV,↓aS,↓bC]
 refine iD sD ?_ ?_
 ·unfold sD lD2 lC vA vB
  refine wkQ [1,2] ?_ ?_<;>simp[-ζ,upd,aL,Γ0,rl4,rp]
 simp[-ζ,-ξ,↓KW,sD,lD2,lC,vA,vB,rl4,rp,↓aV,↓aS,↓bC]
 refine kO [.i .i64 1,.i .i64 2] (nwV 1 2) (mB 2 [[0,0]]) (by simp) (by simp) (by simp) (by rfl) (by rfl) hN1 ?_
 simp[-ζ,-ξ,↓KW,nwV,hmB1,aGh,↓aV,↓aS,↓bC]
 refine aD hk2 ?_
 simp[-ζ,-ξ,↓KW,fl2,nwV,hmB1,aGh,bJk,kill,↓aV,↓aS,↓bC]
 refine kO [.i .i64 0,.i .i64 0] (nwV 0 0) (mB 0 []) (by simp) (by simp) (by simp) (by rfl) (by rfl) hN0 ?_
 simp[-ζ,-ξ,↓KW,nwV,hmB0,tY,↓aV,↓aS,↓bC]
 refine aD kW3 ?_
 simp[-ζ,-ξ,↓KW,fl2,nwV,hmB0,tY,bJk,kill,↓aV,↓aS,↓bC]
 refine iD sE ?_ ?_
 ·unfold sE lE lD2 lC vA vB
  refine wkQ [1,2] ?_ ?_<;>simp[-ζ,upd,aL,Γ0,rl4,rp]
 simp[-ζ,-ξ,↓KW,sE,lE,lD2,lC,vA,vB,rl4,rp,↓aV,↓aS,↓bC]
 refine aD bXv ?_
 simp[-ζ,-ξ,↓KW,iv0,↓aV,↓aS,↓bC]
 refine aD kP1 ?_
 simp[-ζ,-ξ,↓KW,bL,fl2,↓aV,↓aS,↓bC]
 refine aD cAf ?_
 simp[-ζ,-ξ,↓KW,↓aV,↓aS,↓bC]
 refine aD cAe ?_
 simp[-ζ,-ξ,↓KW,iv,↓aV,↓aS,↓bC]
 refine aD kP2 ?_
 simp[-ζ,-ξ,↓KW,bL,fl2,↓aV,↓aS,↓bC]
 refine aD cAd ?_
 simp[-ζ,-ξ,↓KW,↓aV,↓aS,↓bC]
 refine aD bXv ?_
 simp[-ζ,-ξ,↓KW,iv0,↓aV,↓aS,↓bC]
 refine aD kP3 ?_
 simp[-ζ,-ξ,↓KW,bL,fl2,↓aV,↓aS,↓bC]
 refine iD sF ?_ ?_
 ·unfold sF lE lD2 lC vA vB
  refine wkQ [1,2] ?_ ?_<;>simp[-ζ,upd,aL,Γ0,rl4,rp]
 simp[-ζ,-ξ,↓KW,sF,lE,lD2,lC,vA,vB,rl4,rp,↓aV,↓aS,↓bC]
 refine aD bUr ?_
 simp[-ζ,-ξ,↓KW,iv,↓aV,↓aS,↓bC]
 refine aD cAc ?_
 simp[-ζ,-ξ,↓KW,↓aV,↓aS,↓bC]
 refine aD bUr ?_
 simp[-ζ,-ξ,↓KW,iv,↓aV,↓aS,↓bC]
 refine aD bXu ?_
 refine bMf [1,10,12,14,15,16,18,20,21,122,126] (by rfl) ?_
 intro Γ' H' n' hΓ
 have g1:Γ' 1=.d (.sl rl4):=(hΓ 1 (by decide)).trans (by rfl)
 have g2:Γ' 10=.d (.i .i64 201):=(hΓ 10 (by decide)).trans (by rfl)
 have g3:Γ' 12=.d (.i .i64 1):=(hΓ 12 (by decide)).trans (by rfl)
 have g4:Γ' 14=.d (.i .i64 40):=(hΓ 14 (by decide)).trans (by rfl)
 have g5:Γ' 15=.d (.sl [rp 0 5 4,rp 1 3 2]):=(hΓ 15 (by decide)).trans (by rfl)
 have g6:Γ' 16=.d (.i .i64 0):=(hΓ 16 (by decide)).trans (by rfl)
 have g7:Γ' 18=.d (.i .i64 50):=(hΓ 18 (by decide)).trans (by rfl)
 have g8:Γ' 20=.d (.i .i64 40):=(hΓ 20 (by decide)).trans (by rfl)
 have g9:Γ' 21=.d (.b true):=(hΓ 21 (by decide)).trans (by rfl)
 have g10:Γ' 122=.d (.b true):=(hΓ 122 (by decide)).trans (by rfl)
 have g11:Γ' 126=.d (.b true):=(hΓ 126 (by decide)).trans (by rfl)
 clear hΓ
 simp[-ζ,-ξ,↓KW,g1,g2,g3,g4,g5,g6,g7,g8,g9,g10,g11,↓aV,↓aS,↓bC]
 refine iD sG ?_ ?_
 ·unfold sG
  refine wkQ [] ?_ ?_<;>simp[-ζ,upd,aL,Γ0,g1,g5,g6,g7,g8,g9,rl4,rp]
 simp[-ζ,-ξ,↓KW,sG,rl4,rp,↓aV,↓aS,↓bC]
 refine aD cAa ?_
 simp[-ζ,-ξ,↓KW,rp,↓aV,↓aS,↓bC]
 refine aD bZz ?_
 simp[-ζ,-ξ,↓KW,rp,↓aV,↓aS,↓bC]
 refine aD kSR ?_
 simp[-ζ,-ξ,↓KW,↓aV,↓aS,↓bC]
 refine iD sH ?_ ?_
 ·unfold sH
  refine wkQ [] ?_ ?_<;>simp[-ζ,upd,aL,Γ0,rl4,rp]
 simp[-ζ,-ξ,↓KW,sH,rl4,rp,↓aV,↓aS,↓bC]
 refine aD bUr ?_
 simp[-ζ,-ξ,↓KW,iv]
 refine aD kBl ?_
 simp[-ζ,-ξ,↓KW]
 refine aD kIn ?_
 simp[-ζ,-ξ,↓KW]
end Go.Am
end
