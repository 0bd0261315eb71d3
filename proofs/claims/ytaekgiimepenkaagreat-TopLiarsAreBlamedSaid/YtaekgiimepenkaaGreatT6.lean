/- The facts of TopLiarsAreBlamed's row. -/
import Derived.Test.YtaekgiimepenkaaGreatT5
import Derived.Conc.WgGenDone
import Derived.Test.YtaekgiimepenkaaGreatT4
import Derived.JoinedOf
set_option linter.all false
set_option maxHeartbeats 8000000
set_option maxRecDepth 100000
open Array renaming ext_getElem?->FU,getD_eq_getD_getElem?->Au,getElem?_eq_getElem->Ar,getElem?_eq_none->C3,getElem?_setIfInBounds_ne->AI,replicate->Bd
open Bool renaming and_eq_true->A5,false->Az,true->Ak
open Go renaming Frame->BU,FuncId->AU,Goroutine->Ay,Oper->Bf,Program->As,Value->AE,World->Ag
open Go.Act renaming eval->Dh,put->Cv
open Go.Frame renaming enter->Dt
open Go.GStep renaming after->CJ
open Go.Instr renaming indexAt->EN,makeFunc->F8
open Go.IntKind renaming i64->Ax,u32->Cs,u64->Bh
open Go.Proofs.Tryz renaming f10->D5,f3->Eg,f8->EB,prog->Ab,zeroValue116->G1
open Go.Region renaming ready->Bo,wanted->Bu
open Go.Value renaming cells->EG
open Go.World renaming cell?->BN,frozen?->DY
open Int renaming emod_eq_of_lt->GY,emod_nonneg->En,mul_assoc->Gr,natAbs->Eo,natCast_add->Em,natCast_mul->Di,tmod_eq_emod_of_nonneg->Cq,toNat_of_nonneg->Cj,zero_emod->Gs
open List renaming all_eq_true->A1,append_nil->El,cons_append->Cz,drop_zero->Ew,eq_nil_of_length_eq_zero->BI,eq_of_mem_replicate->EO,ext_getElem?->Dr,filter_cons->Gn,flatMap_eq_nil_iff->FW,forall_mem_cons->Du,getD_eq_getElem?_getD->Ah,getElem?_append_left->Bb,getElem?_append_right->AZ,getElem?_cons_succ->BT,getElem?_cons_zero->Ca,getElem?_eq_getElem->Ac,getElem?_eq_none->Bn,getElem?_eq_some_iff->AA,getElem?_map->Ao,getElem?_range->BZ,getElem?_set->DI,getElem?_set_ne->Fv,getElem_mem->B3,length_cons->Av,length_map->BV,length_nil->AK,length_set->CO,length_singleton->B8,length_take->Bt,map->DX,map_cons->BX,map_map->Dp,mem_append->BR,mem_cons->BQ,mem_cons_of_mem->AT,mem_cons_self->AX,mem_filter->ED,mem_iff_getElem->BE,mem_map->AY,mem_map_of_mem->Dn,mem_of_getElem?->At,mem_of_mem_take->BS,mem_range->Cc,mem_singleton->CB,nil_append->Ea,nodup_cons->DQ,not_mem_nil->Gp,pairwise_map->Ga,range->AW,replicate->AO,replicate_succ->C9,set_append_right->DN,set_cons_succ->E9,set_cons_zero->Dg,size_toArray->AG,take_add_one->BG,take_of_length_le->A4,take_sublist->DK
open List.Sublist renaming nodup->Ex
open List.range renaming loop->A3
open Nat renaming add_sub_cancel->Eu,eq_zero_or_pos->BB,le_of_lt->Dz,le_refl->AM,le_trans->Bg,lt_of_le_of_lt->Bv,lt_of_lt_of_le->Be,lt_or_ge->Bc,lt_trans->FD,mod_eq_of_lt->Cr,mod_lt->B9,mul_le_mul->BO,mul_one->Eb,pow_le_pow_right->CL,pow_succ->CI,reduceAdd->A9,sub_self->Dw,zero_add->AP,zero_le->BH,zero_mul->Ef
open Ne renaming symm->DZ
open Option renaming getD_some->AQ,map_eq_some_iff->Ai,map_some->Bj,none->Aj,some->Aa
open Option.some renaming inj->BC,injEq->AH
open _root_ renaming Array->Aw,Bool->Bw,Int->Al,List->Ad,Nat->Ae,Option->Aq,beq_eq_false_iff_ne->D6,decide_eq_false->Cn,decide_eq_true->CQ,decide_eq_true_eq->Bz,if_false->DV,if_neg->Ap,if_pos->AB,if_true->CN,or_false->Fh
open List renaming map_map->E,mapM_map->I
namespace Go.Am
open Go.Conc Go.ConcR.Gen Go.Conc.Lib Go.RowKit Go.ConcR
open Go.ConcN (st_flag st_waiters)
open Go
def bOq{L:WgLink}{P:As}(H:WgLib P L){Wg:Ae}{cs:Ad BU}{b0:BU}{a0:Act}{ops0:Aw Bf}{i0:Ae}{rest0:Ad Ae}{k0:Ad Item}
 (hT:∃q,QuitsD P q 0 (G (b0.at (a0.put ((ops0[i0]?).bind (·.dst)) (.tuple #[])) (.inRegion ops0 rest0::k0)) cs)) :
 Dl P Az (cQ L.tWg Wg) noE (uT P L Wg) 0 (G ((base L.add).at ⟨#[.pointer (Aa ⟨Wg,0,Aj⟩),.int .i64 (-1)]++Bd 115 undef,[]⟩ [.code (body_add L)]) (b0.at a0 (.inRegion ops0 (i0::rest0)::k0)::cs)):=by
 have hT':Dl P Az (λ_=>True) (λ_=>False) (λd g=>∃n,QuitsD P n d g) 0 (G (b0.at (a0.put ((ops0[i0]?).bind (·.dst)) (.tuple #[])) (.inRegion ops0 rest0::k0)) cs):=.here hT
 lib_facts
 simp only[body_add,addFn,AQ]
 repeat (with_reducible (first|refine bB ?_|(refine aN ?_;simp only[AG,Av,AK,A9,AP,AW,A3])|refine aC ?_|refine aV ?_|refine bC ?_|refine aO ?_|refine aI ?_|refine aW ?_|refine aK ?_|refine aP ?_|refine aQ ?_|refine aR ?_))
 (refine aJ _ rfl rfl (by k_ne) (λ_ _=>by(go_simp;try (first|rfl|w_num|decide))) (λ_ _=>by simp[go_sem, *]) ?_;walk_nrm)
 repeat (with_reducible (first|refine bB ?_|(refine aN ?_;simp only[AG,Av,AK,A9,AP,AW,A3])|refine aC ?_|refine aV ?_|refine bC ?_|refine aO ?_|refine aI ?_|refine aW ?_|refine aK ?_|refine aP ?_|refine aQ ?_|refine aR ?_))
 (refine aJ _ rfl rfl (by k_ne) (λ_ _=>by(go_simp;try (first|rfl|w_num|decide))) (λ_ _=>by simp[go_sem, *]) ?_;walk_nrm)
 repeat (with_reducible (first|refine bB ?_|(refine aN ?_;simp only[AG,Av,AK,A9,AP,AW,A3])|refine aC ?_|refine aV ?_|refine bC ?_|refine aO ?_|refine aI ?_|refine aW ?_|refine aK ?_|refine aP ?_|refine aQ ?_|refine aR ?_))
 (refine aJ _ rfl rfl (by k_ne) (λ_ _=>by(go_simp;try (first|rfl|w_num|decide))) (λ_ _=>by simp[go_sem, *]) ?_;walk_nrm)
 (refine aJ _ rfl rfl (by k_ne) (λw hI=>by(have hcv:=run_convert_to_unsafe (P:=P) H.underlying_tWgP H.underlying_tUP H.room_tWg (cQ.cell0 hI).choose_spec);go_simp;rfl) (λw hI=>by(have hce:=λes=>events_convert_to_unsafe (P:=P) H.underlying_tWgP H.underlying_tUP H.room_tWg (cQ.cell0 hI).choose_spec es);simp[go_sem,hce]) ?_;walk_nrm)
 refine .here ⟨rfl,rfl,_,λw hI=>stepG_markAt .releaseMerge (by simp) rfl rfl (by k_ne) rfl H.f_relMerge (x_relMerge_n L) (x_relMerge_b L) (x_relMerge_x L) (x_relMerge_f L) (by simp[Dh,stA]),?_⟩
 walk_nrm
 repeat (with_reducible (first|refine bB ?_|(refine aN ?_;simp only[AG,Av,AK,A9,AP,AW,A3])|refine aC ?_|refine aV ?_|refine bC ?_|refine aO ?_|refine aI ?_|refine aW ?_|refine aK ?_|refine aP ?_|refine aQ ?_|refine aR ?_))
 (refine Dl.step rfl (by(intro e he;simp at he;subst he;exact .inl rfl)) (λw hI=>stepG_mark0 .disable (by simp) rfl rfl (by k_ne) rfl H.f_disable (x_disable_n L) (x_disable_b L) (x_disable_x L) (x_disable_f L)) ?_;walk_nrm)
 repeat (with_reducible (first|refine bB ?_|(refine aN ?_;simp only[AG,Av,AK,A9,AP,AW,A3])|refine aC ?_|refine aV ?_|refine bC ?_|refine aO ?_|refine aI ?_|refine aW ?_|refine aK ?_|refine aP ?_|refine aQ ?_|refine aR ?_))
 (refine Dl.ctl rfl (λw hI=>stepG_defer rfl rfl (by k_ne) rfl) ?_;walk_nrm)
 repeat (with_reducible (first|refine bB ?_|(refine aN ?_;simp only[AG,Av,AK,A9,AP,AW,A3])|refine aC ?_|refine aV ?_|refine bC ?_|refine aO ?_|refine aI ?_|refine aW ?_|refine aK ?_|refine aP ?_|refine aQ ?_|refine aR ?_))
 (refine aJ _ rfl rfl (by k_ne) (λ_ _=>by(go_simp;try (first|rfl|w_num|decide))) (λ_ _=>by simp[go_sem, *]) ?_;walk_nrm)
 repeat (with_reducible (first|refine bB ?_|(refine aN ?_;simp only[AG,Av,AK,A9,AP,AW,A3])|refine aC ?_|refine aV ?_|refine bC ?_|refine aO ?_|refine aI ?_|refine aW ?_|refine aK ?_|refine aP ?_|refine aQ ?_|refine aR ?_))
 (refine Dl.ctl rfl (λw hI=>stepG_entry_pure (.bool Az) rfl rfl (by k_ne) rfl H.f_inBubble (x_inBubble_n L) (x_inBubble_b L) (x_inBubble_x L) (x_inBubble_f L)) ?_;walk_nrm)
 repeat (with_reducible (first|refine bB ?_|(refine aN ?_;simp only[AG,Av,AK,A9,AP,AW,A3])|refine aC ?_|refine aV ?_|refine bC ?_|refine aO ?_|refine aI ?_|refine aW ?_|refine aK ?_|refine aP ?_|refine aQ ?_|refine aR ?_))
 (refine aJ _ rfl rfl (by k_ne) (λ_ _=>by(go_simp;try (first|rfl|w_num|decide))) (λ_ _=>by simp[go_sem, *]) ?_;walk_nrm)
 (refine aJ _ rfl rfl (by k_ne) (λ_ _=>by(go_simp;try (first|rfl|w_num|decide))) (λ_ _=>by simp[go_sem, *]) ?_;walk_nrm)
 (refine aJ _ rfl rfl (by k_ne) (λ_ _=>by(go_simp;try (first|rfl|w_num|decide))) (λ_ _=>by simp[go_sem, *]) ?_;walk_nrm)
 (refine aJ _ rfl rfl (by k_ne) (λ_ _=>by(go_simp;try (first|rfl|w_num|decide))) (λ_ _=>by simp[go_sem, *]) ?_;walk_nrm)
 (refine aJ _ rfl rfl (by k_ne) (λ_ _=>by(go_simp;try (first|rfl|w_num|decide))) (λ_ _=>by simp[go_sem, *]) ?_;walk_nrm)
 (refine aJ _ rfl rfl (by k_ne) (λ_ _=>by(go_simp;try (first|rfl|w_num|decide))) (λ_ _=>by simp[go_sem, *]) ?_;walk_nrm)
 (refine dE rfl rfl (by k_ne) rfl H.f_uAdd (nm_uAdd L) rfl ?_;walk_nrmf uAddFn)
 repeat (with_reducible (first|refine bB ?_|(refine aN ?_;simp only[AG,Av,AK,A9,AP,AW,A3])|refine aC ?_|refine aV ?_|refine bC ?_|refine aO ?_|refine aI ?_|refine aW ?_|refine aK ?_|refine aP ?_|refine aQ ?_|refine aR ?_))
 (refine aJ _ rfl rfl (by k_ne) (λ_ _=>by(go_simp;try (first|rfl|w_num|decide))) (λ_ _=>by simp[go_sem, *]) ?_;walk_nrm)
 repeat (with_reducible (first|refine bB ?_|(refine aN ?_;simp only[AG,Av,AK,A9,AP,AW,A3])|refine aC ?_|refine aV ?_|refine bC ?_|refine aO ?_|refine aI ?_|refine aW ?_|refine aK ?_|refine aP ?_|refine aQ ?_|refine aR ?_))
 (refine aJ _ rfl rfl (by k_ne) (λ_ _=>by(go_simp;try (first|rfl|w_num|decide))) (λ_ _=>by simp[go_sem, *]) ?_;walk_nrm)
 (refine aJ _ rfl rfl (by k_ne) (λ_ _=>by(go_simp;try (first|rfl|w_num|decide))) (λ_ _=>by simp[go_sem, *]) ?_;walk_nrm)
 (refine aJ _ rfl rfl (by k_ne) (λ_ _=>by(go_simp;try (first|rfl|w_num|decide))) (λ_ _=>by simp[go_sem, *]) ?_;walk_nrm)
 (refine aJ _ rfl rfl (by k_ne) (λ_ _=>by(go_simp;try (first|rfl|w_num|decide))) (λ_ _=>by simp[go_sem, *]) ?_;walk_nrm)
 refine .here ⟨rfl,rfl,λw v wt hwt hv hw=>?_⟩
 have hc:w.cell? ⟨Wg,0,Aj⟩=Aa (.int .u64 (((v:Al)+1)*KK+wt)):=by simp[BN,hw,wgBlock]
 have hz:w.frozen? ⟨Wg,0,Aj⟩=false:=by simp[DY,hw,wgBlock]
 have eS:Bh.wrap (((v:Al)+1)*KK+wt+Bh.wrap (Bh.wrap (-1)*4294967296))=(v:Al)*KK+wt:=by
  have:Bh.wrap (Bh.wrap (-1)*4294967296)=18446744069414584320:=by decide
  rw[this,IntKind.wrap_u64];simp only[KK];omega
 refine⟨_,(stepG_add_atomic rfl rfl (by k_ne) rfl H.f_addU64 (x_addU64_n L) (x_addU64_b L) (x_addU64_x L) .u64 (x_addU64_f L) rfl rfl hc hz).trans (by rw[eS];rfl),?_⟩
 clear hw hc hz eS
 walk_nrm
 by_cases h0:v=0
 . subst h0
   obtain rfl|rfl:wt=0\/wt=1:=by omega
   . refine⟨λh=>absurd h.2 (by decide),λ_=>Dl.quits ?_⟩
     have e0:((0:Ae):Al)*KK+((0:Ae):Al)=0:=by simp
     rw[e0]
     have e2:Cs.wrap (bits BinOp.and Bh 0 2147483647)=0:=by decide
     (repeat (first|(with_reducible (first|refine bB ?_|(refine aN ?_;simp only[AG,Av,AK,A9,AP,AW,A3])|refine aC ?_|refine aV ?_|refine bC ?_|refine aO ?_|refine aI ?_|refine aW ?_|refine aK ?_|refine aP ?_|refine aQ ?_|refine aR ?_))|(refine aS rfl rfl ?_;walk_nrm)|(refine aJ _ rfl rfl (by k_ne) (λ_ _=>by(go_simp;try (first|rfl|w_num|decide))) (λ_ _=>by simp[go_sem, *]) ?_;walk_nrm)))
     (refine cP rfl rfl H.f_uAdd rfl ?_;walk_nrm)
     (repeat (first|(with_reducible (first|refine bB ?_|(refine aN ?_;simp only[AG,Av,AK,A9,AP,AW,A3])|refine aC ?_|refine aV ?_|refine bC ?_|refine aO ?_|refine aI ?_|refine aW ?_|refine aK ?_|refine aP ?_|refine aQ ?_|refine aR ?_))|(refine aS rfl rfl ?_;walk_nrm)|(refine aJ _ rfl rfl (by k_ne) (λ_ _=>by(go_simp;try (first|rfl|w_num|decide))) (λ_ _=>by simp[go_sem, *]) ?_;walk_nrm)))
     (refine dI .enable rfl (by simp) rfl H.f_enable (x_enable_n L) (x_enable_b L) (x_enable_x L) (x_enable_f L) ?_)
     exact dM rfl rfl H.f_add rfl hT'
   . refine⟨λ_=>?_,λh=>absurd ⟨rfl,rfl⟩ h⟩
     have e0:((0:Ae):Al)*KK+((1:Ae):Al)=1:=by simp
     rw[e0]
     have e2:Cs.wrap (bits BinOp.and Bh 1 2147483647)=1:=by decide
     (repeat (first|(with_reducible (first|refine bB ?_|(refine aN ?_;simp only[AG,Av,AK,A9,AP,AW,A3])|refine aC ?_|refine aV ?_|refine bC ?_|refine aO ?_|refine aI ?_|refine aW ?_|refine aK ?_|refine aP ?_|refine aQ ?_|refine aR ?_))|(refine aS rfl rfl ?_;walk_nrm)|(refine aJ _ rfl rfl (by k_ne) (λ_ _=>by(go_simp;try (first|rfl|w_num|decide))) (λ_ _=>by simp[go_sem, *]) ?_;walk_nrm)))
     (refine cP rfl rfl H.f_uAdd rfl ?_;walk_nrm)
     (repeat (first|(with_reducible (first|refine bB ?_|(refine aN ?_;simp only[AG,Av,AK,A9,AP,AW,A3])|refine aC ?_|refine aV ?_|refine bC ?_|refine aO ?_|refine aI ?_|refine aW ?_|refine aK ?_|refine aP ?_|refine aQ ?_|refine aR ?_))|(refine aS rfl rfl ?_;walk_nrm)|(refine aJ _ rfl rfl (by k_ne) (λ_ _=>by(go_simp;try (first|rfl|w_num|decide))) (λ_ _=>by simp[go_sem, *]) ?_;walk_nrm)))
     (refine dE rfl rfl (by k_ne) rfl H.f_uLoad (nm_uLoad L) rfl ?_;walk_nrmf uLoadFn)
     (repeat (first|(with_reducible (first|refine bB ?_|(refine aN ?_;simp only[AG,Av,AK,A9,AP,AW,A3])|refine aC ?_|refine aV ?_|refine bC ?_|refine aO ?_|refine aI ?_|refine aW ?_|refine aK ?_|refine aP ?_|refine aQ ?_|refine aR ?_))|(refine aS rfl rfl ?_;walk_nrm)|(refine aJ _ rfl rfl (by k_ne) (λ_ _=>by(go_simp;try (first|rfl|w_num|decide))) (λ_ _=>by simp[go_sem, *]) ?_;walk_nrm)))
     refine .here ⟨rfl,rfl,λw hw=>?_⟩
     have hc:w.cell? ⟨Wg,0,Aj⟩=Aa (.int .u64 1):=by simp[BN,hw,wgBlock]
     refine⟨_,stepG_load_atomic rfl rfl (by k_ne) rfl H.f_loadU64 (x_loadU64_n L) (x_loadU64_b L) (x_loadU64_x L) .u64 (x_loadU64_f L) rfl hc,?_⟩
     clear hc hw
     walk_nrm
     (repeat (first|(with_reducible (first|refine bB ?_|(refine aN ?_;simp only[AG,Av,AK,A9,AP,AW,A3])|refine aC ?_|refine aV ?_|refine bC ?_|refine aO ?_|refine aI ?_|refine aW ?_|refine aK ?_|refine aP ?_|refine aQ ?_|refine aR ?_))|(refine aS rfl rfl ?_;walk_nrm)|(refine aJ _ rfl rfl (by k_ne) (λ_ _=>by(go_simp;try (first|rfl|w_num|decide))) (λ_ _=>by simp[go_sem, *]) ?_;walk_nrm)))
     (refine cP rfl rfl H.f_uLoad rfl ?_;walk_nrm)
     (repeat (first|(with_reducible (first|refine bB ?_|(refine aN ?_;simp only[AG,Av,AK,A9,AP,AW,A3])|refine aC ?_|refine aV ?_|refine bC ?_|refine aO ?_|refine aI ?_|refine aW ?_|refine aK ?_|refine aP ?_|refine aQ ?_|refine aR ?_))|(refine aS rfl rfl ?_;walk_nrm)|(refine aJ _ rfl rfl (by k_ne) (λ_ _=>by(go_simp;try (first|rfl|w_num|decide))) (λ_ _=>by simp[go_sem, *]) ?_;walk_nrm)))
     (refine dE rfl rfl (by k_ne) rfl H.f_uStore (nm_uStore L) rfl ?_;walk_nrmf uStoreFn)
     (repeat (first|(with_reducible (first|refine bB ?_|(refine aN ?_;simp only[AG,Av,AK,A9,AP,AW,A3])|refine aC ?_|refine aV ?_|refine bC ?_|refine aO ?_|refine aI ?_|refine aW ?_|refine aK ?_|refine aP ?_|refine aQ ?_|refine aR ?_))|(refine aS rfl rfl ?_;walk_nrm)|(refine aJ _ rfl rfl (by k_ne) (λ_ _=>by(go_simp;try (first|rfl|w_num|decide))) (λ_ _=>by simp[go_sem, *]) ?_;walk_nrm)))
     refine .here ⟨rfl,rfl,λw hw=>?_⟩
     have hc:w.cell? ⟨Wg,0,Aj⟩=Aa (.int .u64 1):=by simp[BN,hw,wgBlock]
     have hz:w.frozen? ⟨Wg,0,Aj⟩=false:=by simp[DY,hw,wgBlock]
     refine⟨_,stepG_store_atomic rfl rfl (by k_ne) rfl H.f_storeU64 (x_storeU64_n L) (x_storeU64_b L) (x_storeU64_x L) (x_storeU64_f L) rfl rfl hc hz,?_⟩
     clear hc hw hz
     walk_nrm
     (repeat (first|(with_reducible (first|refine bB ?_|(refine aN ?_;simp only[AG,Av,AK,A9,AP,AW,A3])|refine aC ?_|refine aV ?_|refine bC ?_|refine aO ?_|refine aI ?_|refine aW ?_|refine aK ?_|refine aP ?_|refine aQ ?_|refine aR ?_))|(refine aS rfl rfl ?_;walk_nrm)|(refine aJ _ rfl rfl (by k_ne) (λ_ _=>by(go_simp;try (first|rfl|w_num|decide))) (λ_ _=>by simp[go_sem, *]) ?_;walk_nrm)))
     refine Dl.done ?_
     (refine dM rfl rfl H.f_uStore rfl ?_;walk_nrm)
     (repeat (first|(with_reducible (first|refine bB ?_|(refine aN ?_;simp only[AG,Av,AK,A9,AP,AW,A3])|refine aC ?_|refine aV ?_|refine bC ?_|refine aO ?_|refine aI ?_|refine aW ?_|refine aK ?_|refine aP ?_|refine aQ ?_|refine aR ?_))|(refine aS rfl rfl ?_;walk_nrm)|(refine aJ _ rfl rfl (by k_ne) (λ_ _=>by(go_simp;try (first|rfl|w_num|decide))) (λ_ _=>by simp[go_sem, *]) ?_;walk_nrm)))
     refine .here ⟨rfl,rfl,mayWake_entry rfl rfl H.f_semrelease (x_semrelease_b L),λw hw=>?_⟩
     have hc:w.cell? ⟨Wg,1,Aj⟩=Aa (.int .u32 0):=by simp[BN,hw,wgBlock]
     have hz:w.frozen? ⟨Wg,1,Aj⟩=false:=by simp[DY,hw,wgBlock]
     refine⟨_,(stepG_semrelease rfl rfl (by k_ne) rfl H.f_semrelease (x_semrelease_n L) (x_semrelease_b L) (x_semrelease_x L) (x_semrelease_f L) (by simp[Dh,smA]) hc hz).trans (by rfl),Dl.quits ?_⟩
     clear hc hw hz
     walk_nrm
     (repeat (first|(with_reducible (first|refine bB ?_|(refine aN ?_;simp only[AG,Av,AK,A9,AP,AW,A3])|refine aC ?_|refine aV ?_|refine bC ?_|refine aO ?_|refine aI ?_|refine aW ?_|refine aK ?_|refine aP ?_|refine aQ ?_|refine aR ?_))|(refine aS rfl rfl ?_;walk_nrm)|(refine aJ _ rfl rfl (by k_ne) (λ_ _=>by(go_simp;try (first|rfl|w_num|decide))) (λ_ _=>by simp[go_sem, *]) ?_;walk_nrm)))
     refine Dl.done ?_
     (refine dI .enable rfl (by simp) rfl H.f_enable (x_enable_n L) (x_enable_b L) (x_enable_x L) (x_enable_f L) ?_)
     exact dM rfl rfl H.f_add rfl hT'
 . refine⟨λh=>absurd h.1 h0,λ_=>Dl.quits ?_⟩
   obtain⟨V,hV⟩:∃V:Al,V=(v:Al):=⟨_,rfl⟩
   obtain⟨S,hS⟩:∃S:Al,S=(v:Al)*KK+wt:=⟨_,rfl⟩
   have a1:S/4294967296=V:=by rw[hS,hV];simp only[KK];omega
   have b1:bits .and .u64 S 2147483648=0:=by rw[hS];have:=st_flag v wt (by omega) hwt;simpa[KK]using this
   have b2:bits .and .u64 S 2147483647=wt:=by rw[hS];have:=st_waiters v wt (by omega) hwt;simpa[KK]using this
   have c1:IntKind.i32.wrap V=V:=by rw[IntKind.wrap_i32];omega
   have hV1:0<V:=by omega
   have hV2:V<2147483648:=by omega
   have q3:decide (V<0)=false:=Cn (by omega)
   have q4:decide (0<V)=true:=CQ (by omega)
   have q5:(V==0)=false:=by simp;omega
   have q6:decide (V=0)=false:=Cn (by omega)
   rw[<-hS]
   obtain rfl|rfl:wt=0\/wt=1:=by omega
   . have d1:Cs.wrap 0=0:=by decide
     replace b2:bits .and .u64 S 2147483647=0:=by simpa using b2
     clear hS hV
     (repeat (first|(with_reducible (first|refine bB ?_|(refine aN ?_;simp only[AG,Av,AK,A9,AP,AW,A3])|refine aC ?_|refine aV ?_|refine bC ?_|refine aO ?_|refine aI ?_|refine aW ?_|refine aK ?_|refine aP ?_|refine aQ ?_|refine aR ?_))|(refine aS rfl rfl ?_;walk_nrm)|(refine aJ _ rfl rfl (by k_ne) (λ_ _=>by(go_simp;try (first|rfl|w_num|decide))) (λ_ _=>by simp[go_sem, *]) ?_;walk_nrm)))
     (refine cP rfl rfl H.f_uAdd rfl ?_;walk_nrm)
     (repeat (first|(with_reducible (first|refine bB ?_|(refine aN ?_;simp only[AG,Av,AK,A9,AP,AW,A3])|refine aC ?_|refine aV ?_|refine bC ?_|refine aO ?_|refine aI ?_|refine aW ?_|refine aK ?_|refine aP ?_|refine aQ ?_|refine aR ?_))|(refine aS rfl rfl ?_;walk_nrm)|(refine aJ _ rfl rfl (by k_ne) (λ_ _=>by(go_simp;try (first|rfl|w_num|decide))) (λ_ _=>by simp[go_sem, *]) ?_;walk_nrm)))
     (refine dI .enable rfl (by simp) rfl H.f_enable (x_enable_n L) (x_enable_b L) (x_enable_x L) (x_enable_f L) ?_)
     exact dM rfl rfl H.f_add rfl hT'
   . have d1:Cs.wrap 1=1:=by decide
     replace b2:bits .and .u64 S 2147483647=1:=by simpa using b2
     clear hS hV
     (repeat (first|(with_reducible (first|refine bB ?_|(refine aN ?_;simp only[AG,Av,AK,A9,AP,AW,A3])|refine aC ?_|refine aV ?_|refine bC ?_|refine aO ?_|refine aI ?_|refine aW ?_|refine aK ?_|refine aP ?_|refine aQ ?_|refine aR ?_))|(refine aS rfl rfl ?_;walk_nrm)|(refine aJ _ rfl rfl (by k_ne) (λ_ _=>by(go_simp;try (first|rfl|w_num|decide))) (λ_ _=>by simp[go_sem, *]) ?_;walk_nrm)))
     (refine cP rfl rfl H.f_uAdd rfl ?_;walk_nrm)
     (repeat (first|(with_reducible (first|refine bB ?_|(refine aN ?_;simp only[AG,Av,AK,A9,AP,AW,A3])|refine aC ?_|refine aV ?_|refine bC ?_|refine aO ?_|refine aI ?_|refine aW ?_|refine aK ?_|refine aP ?_|refine aQ ?_|refine aR ?_))|(refine aS rfl rfl ?_;walk_nrm)|(refine aJ _ rfl rfl (by k_ne) (λ_ _=>by(go_simp;try (first|rfl|w_num|decide))) (λ_ _=>by simp[go_sem, *]) ?_;walk_nrm)))
     (refine dI .enable rfl (by simp) rfl H.f_enable (x_enable_n L) (x_enable_b L) (x_enable_x L) (x_enable_f L) ?_)
     exact dM rfl rfl H.f_add rfl hT'
end Go.Am
namespace Go.Am
open Go.Conc Go.ConcR.Gen Go.Conc.Lib Go.RowKit Go.ConcR
open Go
def bDv{L:WgLink}{P:As}(H:WgLib P L){Wg:Ae}{cs:Ad BU}{b0:BU}{a0:Act}{ops0:Aw Bf}{i0:Ae}{rest0:Ad Ae}{k0:Ad Item}{T:Aw AE}(hT:T=#[.pointer (Aa ⟨Wg,0,Aj⟩),.int .i64 (-1)]++Bd 115 undef)
 (hq:∃q,QuitsD P q 0 (G (b0.at (a0.put ((ops0[i0]?).bind (·.dst)) (.tuple #[])) (.inRegion ops0 rest0::k0)) cs)) :
 Dl P Az (cQ L.tWg Wg) noE (uT P L Wg) 0 (G ((base L.add).at ⟨T,[]⟩ [.code (body_add L)]) (b0.at a0 (.inRegion ops0 (i0::rest0)::k0)::cs)):=by
 subst hT;exact bOq H hq
def aOk{L:WgLink}{P:As}(H:WgLib P L){Wg:Ae}{c:BU}{cs:Ad BU}(hcm:c.mode=.returning){q:Ae}(hT:QuitsD P q 0 (G c cs)) :
 Dl P Az (cQ L.tWg Wg) noE (uT P L Wg) 0 (G ((baseD L.done).at ⟨#[.pointer (Aa ⟨Wg,0,Aj⟩),undef,undef,undef],[]⟩ [.code (body_done L)]) (c::cs)):=by
 lib_facts
 simp only[body_done,doneFn,AQ]
 (repeat (first|(with_reducible (first|refine bB ?_|(refine aN ?_;simp only[AG,Av,AK,A9,AP,AW,A3])|refine aC ?_|refine aV ?_|refine bC ?_|refine aO ?_|refine aI ?_|refine aW ?_|refine aK ?_|refine aP ?_|refine aQ ?_|refine aR ?_))|(refine aS rfl rfl ?_;walk_nrm)|(refine aJ _ rfl rfl (by k_ne) (λ_ _=>by(go_simp;try (first|rfl|w_num|decide))) (λ_ _=>by simp[go_sem, *]) ?_;walk_nrm)))
 have hS:=λ{cs b0 a0 ops0 i0 rest0 k0 T}=>@bDv L P H Wg cs b0 a0 ops0 i0 rest0 k0 T
 simp only[body_add,addFn,AQ]at hS
 refine dE rfl rfl (by k_ne) rfl H.f_add (nm_add L) rfl ?_
 walk_nrmf addFn
 refine hS ?_ ⟨q+3,?_⟩
 . apply Array.ext'
   rw[Array.toList_append,Array.toList_replicate]
   simp only[AO]
   rfl
 q_c stepG_region_end
 q_c stepG_end
 exact QuitsD.leaveD rfl rfl H.f_done rfl hcm hT
end Go.Am
section
open Go Go.Am Go.Proofs
namespace Go.Am
open Go.Conc Go.Conc.Lib Go.RowKit Go.ConcR.Gen
open Go.ConcR (KK wgBlock stA smA rd wr mk)
def jF(F:Ae->Prop)(v v':Ag):Prop:=∀b,F b->∀c e f,v.heap[b]? = Aa (.cells c e f)->∃f',v'.heap[b]? = Aa (.cells c e f')
def jF.cell{F:Ae->Prop}{v v':Ag}(h:jF F v v'){a:Addr}(ha:F a.block){x:AE}(hx:v.cell? a=Aa x):v'.cell? a=Aa x:=by obtain⟨c,t,f,hb,hlt,hs⟩:=pW hx;obtain⟨f',hb'⟩:=h _ ha _ _ _ hb;simp only[BN,hb,hb']at hx ⊢;exact hx
def jY(d:D):Prop:=∀(F:Ae->Prop) (v v':Ag) (x:AE),jF F v v'->VD F v d x->VD F v' d x
def pR(k:IntKind)(n:Al):jY (.i k n):=λF v v' x _ hx=>by cases hx;exact .i k n
def bZx(b:Bw):jY (.b b):=λF v v' x _ hx=>by cases hx;exact .b b
def gA(y:AE):jY (.lit y):=λF v v' x _ hx=>by cases hx;exact .lit y
def wE{els:Ad (Ad D)}(h:∀cs∈els,∀c∈cs,jY c):jY (.sl els):=λF v v' x hs hx=>by
 cases hx with
 |sl0 ad c=>exact .sl0 ad c
 | sl els ad n c sz f hn hc hsz hF hcell hel =>
   exact .sl els ad n c sz f hn hc hsz hF (λj hj=>hs.cell (by rw[block_add];exact hF) (hcell j hj)) λj k cs c h1 h2=>h cs (At h1) c (At h2) F v v' _ hs (hel j k cs c h1 h2)
def eN{cs:Ad D}(h:∀c∈cs,jY c):jY (.pt cs):=λF v v' x hs hx=>by
 cases hx with
 |pt cs ad f hF hcell hel=>exact .pt cs ad f hF (λj hj=>hs.cell (by rw[block_add];exact hF) (hcell j hj)) λk c h1=>h c (At h1) F v v' _ hs (hel k c h1)
def aBt(F:Ae->Prop)(v:Ag):jF F v (gL v):=λb _ c e f hb=>⟨_,by rw[oN,hb];rfl⟩
def sL{F:Ae->Prop}{v v':Ag}(h:Env v v'):jF F v v':=λb _ c e f hb=>⟨f,by rw[h.get (bL hb)];exact hb⟩
def aFw{F:Ae->Prop}{v:Ag}{C:Ae}(hC:∀b,F b->b≠C):jF F v (inV v C):=λb hF c e f hb=>⟨_,by rw[aAm (bL hb) (hC b hF),hb];rfl⟩
def jF.trans{F:Ae->Prop}{v v1 v2:Ag}(h:jF F v v1)(k:jF F v1 v2):jF F v v2:=λb hF c e f hb=>by obtain⟨f1,h1⟩:=h b hF c e f hb;exact k b hF c e f1 h1
def bNo{Wg Ba Bp Bi Br:Ae}{p:Pl}{i n cap:Ae}{v:Ag}{c0 c1 c2:D}{pr rp rv er:Al}(hwd:p.wd=3)(hi:i<p.n)(hn:p.n=n)(h0:p.val i 0=.int .i64 i)(h1:p.val i 1=.int .u64 rp)(h2:p.val i 2=.int .u64 rv)(hok:OkV v)
 (hBa:VD (λb=>b<v.heap.size) v (.pt [c0,c1,c2]) (bI Ba)) (hBp:VD (λb=>b<v.heap.size) v (.pt [.i .u64 pr]) (bI Bp)) (hBi:VD (λb=>b<v.heap.size) v (.pt [.i .i64 i]) (bI Bi)) (hBr:VD (λb=>b<v.heap.size) v (.pt [.lit (.slice (Aa ⟨p.C,0,Aj⟩) n cap)]) (bI Br))
 (hsp:letI:=eX Ab Az;Spec Ab 48 [.ag [c0,c1,c2],.i .u64 pr] (.tp [.ag [.i .u64 rp,.i .u64 rv],.i .i64 er])) :
 ∃tr,GTw Ab bF Wg p i tr 0 (born Ab (aFm Wg Ba Bp Bi Br)) v :=
 bCr (p:=p) (Wg:=Wg) hok hBa hBp hBi hBr hsp λa v' ops o6 o7 hv ho6 ho7 p6 d6 g6 p7 d7 g7 hN hds e13 e14 e17 =>
  aXu (λhcm hq=>aOk qB hcm hq) hwd hi hn h0 h1 h2 hv ho6 ho7 p6 d6 g6 p7 d7 g7 hN hds e13 e14 e17
end Go.Am
end
namespace Go.Am
open Go.Conc Go.ConcR.Gen Go.Conc.Lib Go.RowKit Go.ConcR
open Go.ConcN (st_flag st_waiters)
open Go
def bUz{L:WgLink}{P:As}(H:WgLib P L){Wg:Ae}{cs:Ad BU}{b0:BU}{a0:Act}{ops0:Aw Bf}{i0:Ae}{rest0:Ad Ae}{k0:Ad Item}{K:Ae->Ay->Prop}
 (hK:K 0 (G (b0.at (a0.put ((ops0[i0]?).bind (·.dst)) (.tuple #[])) (.inRegion ops0 rest0::k0)) cs)) :
 Dl P Ak (cQ L.tWg Wg) (cZ Wg) (λd g=>d=1/\aEr P L Wg K d g) 0 (G ((base L.add).at ⟨#[.pointer (Aa ⟨Wg,0,Aj⟩),.int .i64 1]++Bd 115 undef,[]⟩ [.code (body_add L)]) (b0.at a0 (.inRegion ops0 (i0::rest0)::k0)::cs)):=by
 have hT':Dl P Ak (cQ L.tWg Wg) (cZ Wg) K 0 (G (b0.at (a0.put ((ops0[i0]?).bind (·.dst)) (.tuple #[])) (.inRegion ops0 rest0::k0)) cs):=.here hK
 lib_facts
 simp only[body_add,addFn,AQ]
 (repeat (first|(with_reducible (first|refine bB ?_|(refine aN ?_;simp only[AG,Av,AK,A9,AP,AW,A3])|refine aC ?_|refine aV ?_|refine bC ?_|refine aO ?_|refine aI ?_|refine aW ?_|refine aK ?_|refine aP ?_|refine aQ ?_|refine aR ?_))|(refine aS rfl rfl ?_;walk_nrm)|(refine aJ _ rfl rfl (by k_ne) (λ_ _=>by(go_simp;try (first|rfl|w_num|decide))) (λ_ _=>by simp[go_sem, *]) ?_;walk_nrm)))
 (refine Dl.step rfl (by(intro e he;simp at he;subst he;exact .inl rfl)) (λw hI=>stepG_mark0 .disable (by simp) rfl rfl (by k_ne) rfl H.f_disable (x_disable_n L) (x_disable_b L) (x_disable_x L) (x_disable_f L)) ?_;walk_nrm)
 repeat (with_reducible (first|refine bB ?_|(refine aN ?_;simp only[AG,Av,AK,A9,AP,AW,A3])|refine aC ?_|refine aV ?_|refine bC ?_|refine aO ?_|refine aI ?_|refine aW ?_|refine aK ?_|refine aP ?_|refine aQ ?_|refine aR ?_))
 (refine Dl.ctl rfl (λw hI=>stepG_defer rfl rfl (by k_ne) rfl) ?_;walk_nrm)
 repeat (with_reducible (first|refine bB ?_|(refine aN ?_;simp only[AG,Av,AK,A9,AP,AW,A3])|refine aC ?_|refine aV ?_|refine bC ?_|refine aO ?_|refine aI ?_|refine aW ?_|refine aK ?_|refine aP ?_|refine aQ ?_|refine aR ?_))
 (refine aJ _ rfl rfl (by k_ne) (λ_ _=>by(go_simp;try (first|rfl|w_num|decide))) (λ_ _=>by simp[go_sem, *]) ?_;walk_nrm)
 repeat (with_reducible (first|refine bB ?_|(refine aN ?_;simp only[AG,Av,AK,A9,AP,AW,A3])|refine aC ?_|refine aV ?_|refine bC ?_|refine aO ?_|refine aI ?_|refine aW ?_|refine aK ?_|refine aP ?_|refine aQ ?_|refine aR ?_))
 (refine Dl.ctl rfl (λw hI=>stepG_entry_pure (.bool Az) rfl rfl (by k_ne) rfl H.f_inBubble (x_inBubble_n L) (x_inBubble_b L) (x_inBubble_x L) (x_inBubble_f L)) ?_;walk_nrm)
 (repeat (first|(with_reducible (first|refine bB ?_|(refine aN ?_;simp only[AG,Av,AK,A9,AP,AW,A3])|refine aC ?_|refine aV ?_|refine bC ?_|refine aO ?_|refine aI ?_|refine aW ?_|refine aK ?_|refine aP ?_|refine aQ ?_|refine aR ?_))|(refine aS rfl rfl ?_;walk_nrm)|(refine aJ _ rfl rfl (by k_ne) (λ_ _=>by(go_simp;try (first|rfl|w_num|decide))) (λ_ _=>by simp[go_sem, *]) ?_;walk_nrm)))
 (refine dE rfl rfl (by k_ne) rfl H.f_uAdd (nm_uAdd L) rfl ?_;walk_nrmf uAddFn)
 (repeat (first|(with_reducible (first|refine bB ?_|(refine aN ?_;simp only[AG,Av,AK,A9,AP,AW,A3])|refine aC ?_|refine aV ?_|refine bC ?_|refine aO ?_|refine aI ?_|refine aW ?_|refine aK ?_|refine aP ?_|refine aQ ?_|refine aR ?_))|(refine aS rfl rfl ?_;walk_nrm)|(refine aJ _ rfl rfl (by k_ne) (λ_ _=>by(go_simp;try (first|rfl|w_num|decide))) (λ_ _=>by simp[go_sem, *]) ?_;walk_nrm)))
 refine .here ⟨rfl,rfl,λw v hv hw=>?_⟩
 have hc:w.cell? ⟨Wg,0,Aj⟩=Aa (.int .u64 ((v:Al)*KK)):=by simp[BN,hw,wgBlock]
 have hz:w.frozen? ⟨Wg,0,Aj⟩=false:=by simp[DY,hw,wgBlock]
 have eS:Bh.wrap ((v:Al)*KK+Bh.wrap (Bh.wrap 1*4294967296))=((v:Al)+1)*KK:=by
  have:Bh.wrap (Bh.wrap 1*4294967296)=4294967296:=by decide
  rw[this,IntKind.wrap_u64];simp only[KK];omega
 refine⟨_,(stepG_add_atomic rfl rfl (by k_ne) rfl H.f_addU64 (x_addU64_n L) (x_addU64_b L) (x_addU64_x L) .u64 (x_addU64_f L) rfl rfl hc hz).trans (by rw[eS];rfl),?_⟩
 clear hw hc hz eS
 walk_nrm
 by_cases h0:v=0
 . subst h0
   have e0:(((0:Ae):Al)+1)*KK=4294967296:=by simp[KK]
   rw[e0]
   have e2:Cs.wrap (bits BinOp.and Bh 4294967296 2147483647)=0:=by decide
   (repeat (first|(with_reducible (first|refine bB ?_|(refine aN ?_;simp only[AG,Av,AK,A9,AP,AW,A3])|refine aC ?_|refine aV ?_|refine bC ?_|refine aO ?_|refine aI ?_|refine aW ?_|refine aK ?_|refine aP ?_|refine aQ ?_|refine aR ?_))|(refine aS rfl rfl ?_;walk_nrm)|(refine aJ _ rfl rfl (by k_ne) (λ_ _=>by(go_simp;try (first|rfl|w_num|decide))) (λ_ _=>by simp[go_sem, *]) ?_;walk_nrm)))
   (refine cP rfl rfl H.f_uAdd rfl ?_;walk_nrm)
   (repeat (first|(with_reducible (first|refine bB ?_|(refine aN ?_;simp only[AG,Av,AK,A9,AP,AW,A3])|refine aC ?_|refine aV ?_|refine bC ?_|refine aO ?_|refine aI ?_|refine aW ?_|refine aK ?_|refine aP ?_|refine aQ ?_|refine aR ?_))|(refine aS rfl rfl ?_;walk_nrm)|(refine aJ _ rfl rfl (by k_ne) (λ_ _=>by(go_simp;try (first|rfl|w_num|decide))) (λ_ _=>by simp[go_sem, *]) ?_;walk_nrm)))
   (refine aJ _ rfl rfl (by k_ne) (λw hI=>by(have hcv:=run_convert_to_unsafe (P:=P) H.underlying_tPU32 H.underlying_tUP H.room_tU32 (cQ.cell1 hI).choose_spec);go_simp;rfl) (λw hI=>by(have hce:=λes=>events_convert_to_unsafe (P:=P) H.underlying_tPU32 H.underlying_tUP H.room_tU32 (cQ.cell1 hI).choose_spec es);simp[go_sem,hce]) ?_;walk_nrm)
   (refine Dl.step rfl (by(intro e he;simp at he;subst he;first|exact .inr (.inl rfl)|exact .inr (.inr rfl))) (λw hI=>stepG_markAt .read (by simp) rfl rfl (by k_ne) rfl H.f_raceRead (x_raceRead_n L) (x_raceRead_b L) (x_raceRead_x L) (x_raceRead_f L) (ad:=smA Wg) (by simp[Dh,smA])) ?_;walk_nrm)
   (repeat (first|(with_reducible (first|refine bB ?_|(refine aN ?_;simp only[AG,Av,AK,A9,AP,AW,A3])|refine aC ?_|refine aV ?_|refine bC ?_|refine aO ?_|refine aI ?_|refine aW ?_|refine aK ?_|refine aP ?_|refine aQ ?_|refine aR ?_))|(refine aS rfl rfl ?_;walk_nrm)|(refine aJ _ rfl rfl (by k_ne) (λ_ _=>by(go_simp;try (first|rfl|w_num|decide))) (λ_ _=>by simp[go_sem, *]) ?_;walk_nrm)))
   (refine dI .enable rfl (by simp) rfl H.f_enable (x_enable_n L) (x_enable_b L) (x_enable_x L) (x_enable_f L) ?_)
   exact dM rfl rfl H.f_add rfl hT'
 . obtain⟨V,hV⟩:∃V:Al,V=(v:Al)+1:=⟨_,rfl⟩
   obtain⟨S,hS⟩:∃S:Al,S=V*KK:=⟨_,rfl⟩
   have a1:S/4294967296=V:=by rw[hS];simp only[KK];omega
   have b1:bits .and .u64 S 2147483648=0:=by rw[hS,hV];have:=st_flag (v+1) 0 (by omega) (by omega);simpa[KK]using this
   have b2:bits .and .u64 S 2147483647=0:=by rw[hS,hV];have:=st_waiters (v+1) 0 (by omega) (by omega);simpa[KK]using this
   have c1:IntKind.i32.wrap V=V:=by rw[IntKind.wrap_i32];omega
   have d1:Cs.wrap 0=0:=by decide
   have hV1:1<V:=by omega
   have hV2:V<2147483648:=by omega
   have r1:IntKind.i32.wrap 1=1:=by decide
   have q1:(V==1)=false:=by simp;omega
   have q2:decide (V=1)=false:=Cn (by omega)
   have q3:decide (V<0)=false:=Cn (by omega)
   have q4:decide (0<V)=true:=CQ (by omega)
   have q5:(V==0)=false:=by simp;omega
   have q6:decide (V=0)=false:=Cn (by omega)
   rw[<-hV,<-hS]
   clear hS hV
   (repeat (first|(with_reducible (first|refine bB ?_|(refine aN ?_;simp only[AG,Av,AK,A9,AP,AW,A3])|refine aC ?_|refine aV ?_|refine bC ?_|refine aO ?_|refine aI ?_|refine aW ?_|refine aK ?_|refine aP ?_|refine aQ ?_|refine aR ?_))|(refine aS rfl rfl ?_;walk_nrm)|(refine aJ _ rfl rfl (by k_ne) (λ_ _=>by(go_simp;try (first|rfl|w_num|decide))) (λ_ _=>by simp[go_sem, *]) ?_;walk_nrm)))
   (refine cP rfl rfl H.f_uAdd rfl ?_;walk_nrm)
   (repeat (first|(with_reducible (first|refine bB ?_|(refine aN ?_;simp only[AG,Av,AK,A9,AP,AW,A3])|refine aC ?_|refine aV ?_|refine bC ?_|refine aO ?_|refine aI ?_|refine aW ?_|refine aK ?_|refine aP ?_|refine aQ ?_|refine aR ?_))|(refine aS rfl rfl ?_;walk_nrm)|(refine aJ _ rfl rfl (by k_ne) (λ_ _=>by(go_simp;try (first|rfl|w_num|decide))) (λ_ _=>by simp[go_sem, *]) ?_;walk_nrm)))
   (refine dI .enable rfl (by simp) rfl H.f_enable (x_enable_n L) (x_enable_b L) (x_enable_x L) (x_enable_f L) ?_)
   exact dM rfl rfl H.f_add rfl hT'
section
variable {L:WgLink} {P:As} {Wg:Ae} {cs:Ad BU} {b0:BU} {a0:Act} {ops0:Aw Bf} {i0:Ae} {rest0:Ad Ae} {k0:Ad Item} {K:Ay->Prop}
def aXy(H:WgLib P L){c:BU} :
 Dl P Ak (cQ L.tWg Wg) (cZ Wg) (λd g=>d=1/\tV L Wg c cs g) 0 (G ((base L.wait).at ⟨#[.pointer (Aa ⟨Wg,0,Aj⟩)]++Bd 83 undef,[]⟩ [.code (body_wait L)]) (c::cs)):=by
 lib_facts
 simp only[body_wait,waitFn,AQ]
 (repeat (first|(with_reducible (first|refine bB ?_|(refine aN ?_;simp only[AG,Av,AK,A9,AP,AW,A3])|refine aC ?_|refine aV ?_|refine bC ?_|refine aO ?_|refine aI ?_|refine aW ?_|refine aK ?_|refine aP ?_|refine aQ ?_|refine aR ?_))|(refine aS rfl rfl ?_;walk_nrm)|(refine aJ _ rfl rfl (by k_ne) (λ_ _=>by(go_simp;try (first|rfl|w_num|decide))) (λ_ _=>by simp[go_sem, *]) ?_;walk_nrm)))
 (refine Dl.step rfl (by(intro e he;simp at he;subst he;exact .inl rfl)) (λw hI=>stepG_mark0 .disable (by simp) rfl rfl (by k_ne) rfl H.f_disable (x_disable_n L) (x_disable_b L) (x_disable_x L) (x_disable_f L)) ?_;walk_nrm)
 repeat (first|with_reducible refine aC ?_|with_reducible refine aO ?_)
 refine aW (.here ⟨rfl,_,rfl,by simp,by simp⟩)
def aFn(H:WgLib P L)(hK:K (G (b0.at (a0.put ((ops0[i0]?).bind (·.dst)) (.tuple #[])) (.inRegion ops0 rest0::k0)) cs)){g:Ay}(h:tV L Wg (b0.at a0 (.inRegion ops0 (i0::rest0)::k0)) cs g) :
 Dl P Ak (cQ L.tWg Wg) (cZ Wg) (λd g=>d=1/\tN P L Wg K (tV L Wg (b0.at a0 (.inRegion ops0 (i0::rest0)::k0)) cs) d g) 1 g:=by
 lib_facts
 obtain⟨T,rfl,hT84,t0⟩:=h
 obtain⟨v0,v1,v2,v3,v4,v5,v6,v7,v8,v9,v10,v11,v12,v13,v14,v15,v16,v17,v18,v19,v20,v21,v22,v23,v24,v25,v26,v27,v28,v29,v30,v31,v32,v33,v34,v35,v36,v37,v38,v39,v40,v41,v42,v43,v44,v45,v46,v47,v48,v49,v50,v51,v52,v53,v54,v55,v56,v57,v58,v59,v60,v61,v62,v63,v64,v65,v66,v67,v68,v69,v70,v71,v72,v73,v74,v75,v76,v77,v78,v79,v80,v81,v82,v83,rfl⟩:=array84 T hT84
 simp only[List.getElem?_toArray,Ca,AH]at t0
 subst t0
 simp only[L7,body_wait,waitFn,AQ]
 (repeat (first|(with_reducible (first|refine bB ?_|(refine aN ?_;simp only[AG,Av,AK,A9,AP,AW,A3])|refine aC ?_|refine aV ?_|refine bC ?_|refine aO ?_|refine aI ?_|refine aW ?_|refine aK ?_|refine aP ?_|refine aQ ?_|refine aR ?_))|(refine aS rfl rfl ?_;walk_nrm)|(refine aJ _ rfl rfl (by k_ne) (λ_ _=>by(go_simp;try (first|rfl|w_num|decide))) (λ_ _=>by simp[go_sem, *]) ?_;walk_nrm)))
 (refine dE rfl rfl (by k_ne) rfl H.f_uLoad (nm_uLoad L) rfl ?_;walk_nrmf uLoadFn)
 (repeat (first|(with_reducible (first|refine bB ?_|(refine aN ?_;simp only[AG,Av,AK,A9,AP,AW,A3])|refine aC ?_|refine aV ?_|refine bC ?_|refine aO ?_|refine aI ?_|refine aW ?_|refine aK ?_|refine aP ?_|refine aQ ?_|refine aR ?_))|(refine aS rfl rfl ?_;walk_nrm)|(refine aJ _ rfl rfl (by k_ne) (λ_ _=>by(go_simp;try (first|rfl|w_num|decide))) (λ_ _=>by simp[go_sem, *]) ?_;walk_nrm)))
 refine .here ⟨rfl,rfl,λw v hv hw=>?_⟩
 by_cases h0:v=0
 . subst h0
   have hc:w.cell? ⟨Wg,0,Aj⟩=Aa (.int .u64 0):=by simp[BN,hw,wgBlock]
   refine⟨_,stepG_load_atomic (v:=0) rfl rfl (by k_ne) rfl H.f_loadU64 (x_loadU64_n L) (x_loadU64_b L) (x_loadU64_x L) .u64 (x_loadU64_f L) rfl hc,λ_=>?_,λh=>absurd rfl h⟩
   clear hc hw
   walk_nrm
   have e2:Cs.wrap (bits BinOp.and Bh 0 2147483647)=0:=by decide
   (repeat (first|(with_reducible (first|refine bB ?_|(refine aN ?_;simp only[AG,Av,AK,A9,AP,AW,A3])|refine aC ?_|refine aV ?_|refine bC ?_|refine aO ?_|refine aI ?_|refine aW ?_|refine aK ?_|refine aP ?_|refine aQ ?_|refine aR ?_))|(refine aS rfl rfl ?_;walk_nrm)|(refine aJ _ rfl rfl (by k_ne) (λ_ _=>by(go_simp;try (first|rfl|w_num|decide))) (λ_ _=>by simp[go_sem, *]) ?_;walk_nrm)))
   (refine cP rfl rfl H.f_uLoad rfl ?_;walk_nrm)
   (repeat (first|(with_reducible (first|refine bB ?_|(refine aN ?_;simp only[AG,Av,AK,A9,AP,AW,A3])|refine aC ?_|refine aV ?_|refine bC ?_|refine aO ?_|refine aI ?_|refine aW ?_|refine aK ?_|refine aP ?_|refine aQ ?_|refine aR ?_))|(refine aS rfl rfl ?_;walk_nrm)|(refine aJ _ rfl rfl (by k_ne) (λ_ _=>by(go_simp;try (first|rfl|w_num|decide))) (λ_ _=>by simp[go_sem, *]) ?_;walk_nrm)))
   (refine Dl.step rfl (by(intro e he;simp at he;subst he;exact .inl rfl)) (λw hI=>stepG_mark0 .enable (by simp) rfl rfl (by k_ne) rfl H.f_enable (x_enable_n L) (x_enable_b L) (x_enable_x L) (x_enable_f L)) ?_;walk_nrm)
   (repeat (first|(with_reducible (first|refine bB ?_|(refine aN ?_;simp only[AG,Av,AK,A9,AP,AW,A3])|refine aC ?_|refine aV ?_|refine bC ?_|refine aO ?_|refine aI ?_|refine aW ?_|refine aK ?_|refine aP ?_|refine aQ ?_|refine aR ?_))|(refine aS rfl rfl ?_;walk_nrm)|(refine aJ _ rfl rfl (by k_ne) (λ_ _=>by(go_simp;try (first|rfl|w_num|decide))) (λ_ _=>by simp[go_sem, *]) ?_;walk_nrm)))
   (refine aJ _ rfl rfl (by k_ne) (λw hI=>by(have hcv:=run_convert_to_unsafe (P:=P) H.underlying_tWgP H.underlying_tUP H.room_tWg (cQ.cell0 hI).choose_spec);go_simp;rfl) (λw hI=>by(have hce:=λes=>events_convert_to_unsafe (P:=P) H.underlying_tWgP H.underlying_tUP H.room_tWg (cQ.cell0 hI).choose_spec es);simp[go_sem,hce]) ?_;walk_nrm)
   refine .here ⟨rfl,rfl,_,λw hI=>stepG_markAt .acquire (by simp) rfl rfl (by k_ne) rfl H.f_acquire (x_acquire_n L) (x_acquire_b L) (x_acquire_x L) (x_acquire_f L) (by simp[Dh,stA]),?_⟩
   walk_nrm
   (repeat (first|(with_reducible (first|refine bB ?_|(refine aN ?_;simp only[AG,Av,AK,A9,AP,AW,A3])|refine aC ?_|refine aV ?_|refine bC ?_|refine aO ?_|refine aI ?_|refine aW ?_|refine aK ?_|refine aP ?_|refine aQ ?_|refine aR ?_))|(refine aS rfl rfl ?_;walk_nrm)|(refine aJ _ rfl rfl (by k_ne) (λ_ _=>by(go_simp;try (first|rfl|w_num|decide))) (λ_ _=>by simp[go_sem, *]) ?_;walk_nrm)))
   exact dM rfl rfl H.f_wait rfl (.here ⟨rfl,hK⟩)
 . obtain⟨S,hS⟩:∃S:Al,(v:Al)*KK=S:=⟨_,rfl⟩
   have a1:S/4294967296=(v:Al):=by rw[<-hS];simp only[KK];omega
   have b1:bits .and .u64 S 2147483648=0:=by rw[<-hS];have:=st_flag v 0 (by omega) (by omega);simpa[KK]using this
   have b2:bits .and .u64 S 2147483647=0:=by rw[<-hS];have:=st_waiters v 0 (by omega) (by omega);simpa[KK]using this
   have c1:IntKind.i32.wrap (v:Al)=(v:Al):=by rw[IntKind.wrap_i32];omega
   have d1:Cs.wrap 0=0:=by decide
   have w1:Bh.wrap (S+1)=S+1:=by rw[IntKind.wrap_u64,<-hS];simp only[KK];omega
   have q3:decide ((v:Al)<0)=false:=Cn (by omega)
   have q4:decide (0<(v:Al))=true:=CQ (by omega)
   have q5:((v:Al)==0)=false:=by simp;omega
   have q6:decide ((v:Al)=0)=false:=Cn (by omega)
   rw[hS]at hw
   have hc:w.cell? ⟨Wg,0,Aj⟩=Aa (.int .u64 S):=by simp[BN,hw,wgBlock]
   refine⟨_,stepG_load_atomic (v:=S) rfl rfl (by k_ne) rfl H.f_loadU64 (x_loadU64_n L) (x_loadU64_b L) (x_loadU64_x L) .u64 (x_loadU64_f L) rfl hc,λh=>absurd h h0,λ_=>?_⟩
   clear hc hw
   walk_nrm
   (repeat (first|(with_reducible (first|refine bB ?_|(refine aN ?_;simp only[AG,Av,AK,A9,AP,AW,A3])|refine aC ?_|refine aV ?_|refine bC ?_|refine aO ?_|refine aI ?_|refine aW ?_|refine aK ?_|refine aP ?_|refine aQ ?_|refine aR ?_))|(refine aS rfl rfl ?_;walk_nrm)|(refine aJ _ rfl rfl (by k_ne) (λ_ _=>by(go_simp;try (first|rfl|w_num|decide))) (λ_ _=>by simp[go_sem, *]) ?_;walk_nrm)))
   (refine cP rfl rfl H.f_uLoad rfl ?_;walk_nrm)
   (repeat (first|(with_reducible (first|refine bB ?_|(refine aN ?_;simp only[AG,Av,AK,A9,AP,AW,A3])|refine aC ?_|refine aV ?_|refine bC ?_|refine aO ?_|refine aI ?_|refine aW ?_|refine aK ?_|refine aP ?_|refine aQ ?_|refine aR ?_))|(refine aS rfl rfl ?_;walk_nrm)|(refine aJ _ rfl rfl (by k_ne) (λ_ _=>by(go_simp;try (first|rfl|w_num|decide))) (λ_ _=>by simp[go_sem, *]) ?_;walk_nrm)))
   (refine dE rfl rfl (by k_ne) rfl H.f_uCas (nm_uCas L) rfl ?_;walk_nrmf uCasFn)
   (repeat (first|(with_reducible (first|refine bB ?_|(refine aN ?_;simp only[AG,Av,AK,A9,AP,AW,A3])|refine aC ?_|refine aV ?_|refine bC ?_|refine aO ?_|refine aI ?_|refine aW ?_|refine aK ?_|refine aP ?_|refine aQ ?_|refine aR ?_))|(refine aS rfl rfl ?_;walk_nrm)|(refine aJ _ rfl rfl (by k_ne) (λ_ _=>by(go_simp;try (first|rfl|w_num|decide))) (λ_ _=>by simp[go_sem, *]) ?_;walk_nrm)))
   refine .here ⟨rfl,rfl,λw2 v' hv' hw=>⟨λe=>?_,λe=>?_⟩⟩
   . subst e
     rw[hS]at hw ⊢
     have hc:w2.cell? ⟨Wg,0,Aj⟩=Aa (.int .u64 S):=by simp[BN,hw,wgBlock]
     have hz:w2.frozen? ⟨Wg,0,Aj⟩=false:=by simp[DY,hw,wgBlock]
     refine⟨_,(stepG_cas_hit (v:=S) (n:=S+1) rfl rfl (by k_ne) rfl H.f_casU64 (x_casU64_n L) (x_casU64_b L) (x_casU64_x L) .u64 (x_casU64_f L) rfl rfl rfl hc hz).trans (by rfl),?_⟩
     clear hw hc hz
     walk_nrm
     (repeat (first|(with_reducible (first|refine bB ?_|(refine aN ?_;simp only[AG,Av,AK,A9,AP,AW,A3])|refine aC ?_|refine aV ?_|refine bC ?_|refine aO ?_|refine aI ?_|refine aW ?_|refine aK ?_|refine aP ?_|refine aQ ?_|refine aR ?_))|(refine aS rfl rfl ?_;walk_nrm)|(refine aJ _ rfl rfl (by k_ne) (λ_ _=>by(go_simp;try (first|rfl|w_num|decide))) (λ_ _=>by simp[go_sem, *]) ?_;walk_nrm)))
     (refine cP rfl rfl H.f_uCas rfl ?_;walk_nrm)
     (repeat (first|(with_reducible (first|refine bB ?_|(refine aN ?_;simp only[AG,Av,AK,A9,AP,AW,A3])|refine aC ?_|refine aV ?_|refine bC ?_|refine aO ?_|refine aI ?_|refine aW ?_|refine aK ?_|refine aP ?_|refine aQ ?_|refine aR ?_))|(refine aS rfl rfl ?_;walk_nrm)|(refine aJ _ rfl rfl (by k_ne) (λ_ _=>by(go_simp;try (first|rfl|w_num|decide))) (λ_ _=>by simp[go_sem, *]) ?_;walk_nrm)))
     (refine aJ _ rfl rfl (by k_ne) (λw hI=>by(have hcv:=run_convert_to_unsafe (P:=P) H.underlying_tPU32 H.underlying_tUP H.room_tU32 (cQ.cell1 hI).choose_spec);go_simp;rfl) (λw hI=>by(have hce:=λes=>events_convert_to_unsafe (P:=P) H.underlying_tPU32 H.underlying_tUP H.room_tU32 (cQ.cell1 hI).choose_spec es);simp[go_sem,hce]) ?_;walk_nrm)
     (refine Dl.step rfl (by(intro e he;simp at he;subst he;first|exact .inr (.inl rfl)|exact .inr (.inr rfl))) (λw hI=>stepG_markAt .write (by simp) rfl rfl (by k_ne) rfl H.f_raceWrite (x_raceWrite_n L) (x_raceWrite_b L) (x_raceWrite_x L) (x_raceWrite_f L) (ad:=smA Wg) (by simp[Dh,smA])) ?_;walk_nrm)
     (repeat (first|(with_reducible (first|refine bB ?_|(refine aN ?_;simp only[AG,Av,AK,A9,AP,AW,A3])|refine aC ?_|refine aV ?_|refine bC ?_|refine aO ?_|refine aI ?_|refine aW ?_|refine aK ?_|refine aP ?_|refine aQ ?_|refine aR ?_))|(refine aS rfl rfl ?_;walk_nrm)|(refine aJ _ rfl rfl (by k_ne) (λ_ _=>by(go_simp;try (first|rfl|w_num|decide))) (λ_ _=>by simp[go_sem, *]) ?_;walk_nrm)))
     refine .here ⟨rfl,rfl,λw st hw=>stepG_semacquire_wait rfl rfl rfl H.f_semacquire (x_semacquire_n L) (x_semacquire_b L) (x_semacquire_x L) (x_semacquire_f L) (by simp[Dh,smA]) (show w.cell? ⟨Wg,1,Aj⟩=Aa (.int .u32 0)by simp[BN,hw,wgBlock]),λw hw=>?_⟩
     have hc:w.cell? ⟨Wg,1,Aj⟩=Aa (.int .u32 1):=by simp[BN,hw,wgBlock]
     have hz:w.frozen? ⟨Wg,1,Aj⟩=false:=by simp[DY,hw,wgBlock]
     refine⟨_,(stepG_semacquire (n:=1) rfl rfl (by k_ne) rfl H.f_semacquire (x_semacquire_n L) (x_semacquire_b L) (x_semacquire_x L) (x_semacquire_f L) (by simp[Dh,smA]) hc (by k_ne) hz).trans (by rfl),?_⟩
     clear hw hc hz
     walk_nrm
     (repeat (first|(with_reducible (first|refine bB ?_|(refine aN ?_;simp only[AG,Av,AK,A9,AP,AW,A3])|refine aC ?_|refine aV ?_|refine bC ?_|refine aO ?_|refine aI ?_|refine aW ?_|refine aK ?_|refine aP ?_|refine aQ ?_|refine aR ?_))|(refine aS rfl rfl ?_;walk_nrm)|(refine aJ _ rfl rfl (by k_ne) (λ_ _=>by(go_simp;try (first|rfl|w_num|decide))) (λ_ _=>by simp[go_sem, *]) ?_;walk_nrm)))
     (refine dE rfl rfl (by k_ne) rfl H.f_uLoad (nm_uLoad L) rfl ?_;walk_nrmf uLoadFn)
     (repeat (first|(with_reducible (first|refine bB ?_|(refine aN ?_;simp only[AG,Av,AK,A9,AP,AW,A3])|refine aC ?_|refine aV ?_|refine bC ?_|refine aO ?_|refine aI ?_|refine aW ?_|refine aK ?_|refine aP ?_|refine aQ ?_|refine aR ?_))|(refine aS rfl rfl ?_;walk_nrm)|(refine aJ _ rfl rfl (by k_ne) (λ_ _=>by(go_simp;try (first|rfl|w_num|decide))) (λ_ _=>by simp[go_sem, *]) ?_;walk_nrm)))
     refine .here ⟨rfl,λw hw=>?_⟩
     have hc:w.cell? ⟨Wg,0,Aj⟩=Aa (.int .u64 0):=by simp[BN,hw,wgBlock]
     refine⟨_,stepG_load_atomic (v:=0) rfl rfl (by k_ne) rfl H.f_loadU64 (x_loadU64_n L) (x_loadU64_b L) (x_loadU64_x L) .u64 (x_loadU64_f L) rfl hc,?_⟩
     clear hw hc
     walk_nrm
     (repeat (first|(with_reducible (first|refine bB ?_|(refine aN ?_;simp only[AG,Av,AK,A9,AP,AW,A3])|refine aC ?_|refine aV ?_|refine bC ?_|refine aO ?_|refine aI ?_|refine aW ?_|refine aK ?_|refine aP ?_|refine aQ ?_|refine aR ?_))|(refine aS rfl rfl ?_;walk_nrm)|(refine aJ _ rfl rfl (by k_ne) (λ_ _=>by(go_simp;try (first|rfl|w_num|decide))) (λ_ _=>by simp[go_sem, *]) ?_;walk_nrm)))
     (refine cP rfl rfl H.f_uLoad rfl ?_;walk_nrm)
     (repeat (first|(with_reducible (first|refine bB ?_|(refine aN ?_;simp only[AG,Av,AK,A9,AP,AW,A3])|refine aC ?_|refine aV ?_|refine bC ?_|refine aO ?_|refine aI ?_|refine aW ?_|refine aK ?_|refine aP ?_|refine aQ ?_|refine aR ?_))|(refine aS rfl rfl ?_;walk_nrm)|(refine aJ _ rfl rfl (by k_ne) (λ_ _=>by(go_simp;try (first|rfl|w_num|decide))) (λ_ _=>by simp[go_sem, *]) ?_;walk_nrm)))
     (refine Dl.step rfl (by(intro e he;simp at he;subst he;exact .inl rfl)) (λw hI=>stepG_mark0 .enable (by simp) rfl rfl (by k_ne) rfl H.f_enable (x_enable_n L) (x_enable_b L) (x_enable_x L) (x_enable_f L)) ?_;walk_nrm)
     (repeat (first|(with_reducible (first|refine bB ?_|(refine aN ?_;simp only[AG,Av,AK,A9,AP,AW,A3])|refine aC ?_|refine aV ?_|refine bC ?_|refine aO ?_|refine aI ?_|refine aW ?_|refine aK ?_|refine aP ?_|refine aQ ?_|refine aR ?_))|(refine aS rfl rfl ?_;walk_nrm)|(refine aJ _ rfl rfl (by k_ne) (λ_ _=>by(go_simp;try (first|rfl|w_num|decide))) (λ_ _=>by simp[go_sem, *]) ?_;walk_nrm)))
     (refine aJ _ rfl rfl (by k_ne) (λw hI=>by(have hcv:=run_convert_to_unsafe (P:=P) H.underlying_tWgP H.underlying_tUP H.room_tWg (cQ.cell0 hI).choose_spec);go_simp;rfl) (λw hI=>by(have hce:=λes=>events_convert_to_unsafe (P:=P) H.underlying_tWgP H.underlying_tUP H.room_tWg (cQ.cell0 hI).choose_spec es);simp[go_sem,hce]) ?_;walk_nrm)
     refine .here ⟨rfl,rfl,_,λw hI=>stepG_markAt .acquire (by simp) rfl rfl (by k_ne) rfl H.f_acquire (x_acquire_n L) (x_acquire_b L) (x_acquire_x L) (x_acquire_f L) (by simp[Dh,stA]),?_⟩
     walk_nrm
     (repeat (first|(with_reducible (first|refine bB ?_|(refine aN ?_;simp only[AG,Av,AK,A9,AP,AW,A3])|refine aC ?_|refine aV ?_|refine bC ?_|refine aO ?_|refine aI ?_|refine aW ?_|refine aK ?_|refine aP ?_|refine aQ ?_|refine aR ?_))|(refine aS rfl rfl ?_;walk_nrm)|(refine aJ _ rfl rfl (by k_ne) (λ_ _=>by(go_simp;try (first|rfl|w_num|decide))) (λ_ _=>by simp[go_sem, *]) ?_;walk_nrm)))
     exact dM rfl rfl H.f_wait rfl (.here ⟨rfl,hK⟩)
   . have hc:w2.cell? ⟨Wg,0,Aj⟩=Aa (.int .u64 ((v':Al)*KK)):=by simp[BN,hw,wgBlock]
     have hz:w2.frozen? ⟨Wg,0,Aj⟩=false:=by simp[DY,hw,wgBlock]
     refine⟨_,stepG_cas_miss (v:=(v':Al)*KK) (old:=S) (n:=S+1) rfl rfl (by k_ne) rfl H.f_casU64 (x_casU64_n L) (x_casU64_b L) (x_casU64_x L) .u64 (x_casU64_f L) rfl rfl rfl hc hz (by rw[<-hS];simp only[KK];omega),?_⟩
     clear hw hc hz
     walk_nrm
     (refine aJ _ rfl rfl (by k_ne) (λ_ _=>by(go_simp;try (first|rfl|w_num|decide))) (λ_ _=>by simp[go_sem, *]) ?_;walk_nrm)
     repeat (with_reducible (first|refine bB ?_|(refine aN ?_;simp only[AG,Av,AK,A9,AP,AW,A3])|refine aC ?_|refine aV ?_|refine bC ?_|refine aO ?_|refine aI ?_|refine aW ?_|refine aK ?_|refine aP ?_|refine aQ ?_|refine aR ?_))
     (refine cP rfl rfl H.f_uCas rfl ?_;walk_nrm)
     refine aC ?_
     (refine aOr Az (by first|rfl|(simp[Dh];omega)) ?_;simp only[CN,DV,Bool.false_eq_true,↓reduceIte])
     refine aV ?_
     refine aI ?_
     exact aK (.here ⟨rfl,_,rfl,by simp,by simp⟩)
end
end Go.Am
section
open Go Go.Am Go.Proofs
namespace Go.Am
open Go.Conc Go.Conc.Lib Go.RowKit Go.ConcR.Gen
open Go.ConcR (KK wgBlock stA smA rd wr mk)
noncomputable def gJ:Code:=D5.body.getD .skip
noncomputable def cW:Code:=match gJ with|.seq _ (.seq _ (.seq _ (.seq _ (.seq _ (.seq (.seq _ (.block _ (.loop c))) _)))))=>c|_=>.skip
noncomputable def tW:Code:=match gJ with|.seq _ (.seq _ (.seq _ (.seq _ (.seq _ (.seq _ c)))))=>c|_=>.skip
noncomputable def tW2:Code:=match tW with|.seq _ c=>c|_=>.skip
noncomputable def aRq:Aw Oper:=match tW with|.seq (.region _ ops _) _=>ops|_=>#[]
def aPh{L:WgLink}{P:As}(H:WgLib P L){Wg:Ae}{cs:Ad BU}{b0:BU}{a0:Act}{ops0:Aw Bf}{i0:Ae}{rest0:Ad Ae}{k0:Ad Item}{K:Ae->Ay->Prop}{T:Aw AE}(hT:T=#[.pointer (Aa ⟨Wg,0,Aj⟩),.int .i64 1]++Bd 115 undef)
 (hK:K 0 (G (b0.at (a0.put ((ops0[i0]?).bind (·.dst)) (.tuple #[])) (.inRegion ops0 rest0::k0)) cs)) :
 Dl P Ak (cQ L.tWg Wg) (cZ Wg) (λd g=>d=1/\aEr P L Wg K d g) 0 (G ((base L.add).at ⟨T,[]⟩ [.code (body_add L)]) (b0.at a0 (.inRegion ops0 (i0::rest0)::k0)::cs)):=by
 subst hT;exact bUz H hK
def aBa{L:WgLink}{P:As}(H:WgLib P L){Wg:Ae}{c:BU}{cs:Ad BU}{T:Aw AE}(hT:T=#[.pointer (Aa ⟨Wg,0,Aj⟩)]++Bd 83 undef) :
 Dl P Ak (cQ L.tWg Wg) (cZ Wg) (λd g=>d=1/\tV L Wg c cs g) 0 (G ((base L.wait).at ⟨T,[]⟩ [.code (body_wait L)]) (c::cs)):=by
 subst hT;exact aXy H
def aTw{P:As}{L:WgLink}{Wg:Ae}{K An An':Ay->Prop}(h:∀g,An g->An' g){vs d:Ae}{g:Ay}(hc:aXs P L Wg K An vs d g):aXs P L Wg K An' vs d g :=
 ⟨hc.1,λw v hv hw=>⟨(hc.2 w v hv hw).1,λe=>let ⟨g',h1,h2⟩:=(hc.2 w v hv hw).2 e;⟨g',h1,h2.mono λd' g' hx=>⟨hx.1,h g' hx.2⟩⟩⟩⟩
def aHm{P:As}{L:WgLink}{Wg:Ae}{K An An':Ay->Prop}(h:∀g,An g->An' g){d:Ae}{g:Ay}(hc:tN P L Wg K An d g):tN P L Wg K An' d g :=
 ⟨hc.1,λw v hv hw=>let ⟨g',h1,h2,h3⟩:=hc.2 w v hv hw;⟨g',h1,h2,λe=>(h3 e).mono λd' g' hx=>⟨hx.1,aTw h hx.2⟩⟩⟩
structure RI(Wg bA bR C n cap:Ae)(c0 c1 c2:D)(lD:Ad (Ad D))(k:Ae)(a:Act)(V:Ag):Prop where
 size:a.tmps.size=38
 ds:a.defers=[]
 s2:a.tmps.getD 2 undef=bI bA
 s6:a.tmps.getD 6 undef=bI bR
 s7:a.tmps.getD 7 undef=bI Wg
 s26:VD (λb=>b<V.heap.size) V (.sl lD) (a.tmps.getD 26 undef)
 s27:a.tmps.getD 27 undef=.int .i64 n
 s28:a.tmps.getD 28 undef=.int .i64 k
 ok:OkV V
 dA:VD (λb=>b<V.heap.size) V (.pt [c0,c1,c2]) (bI bA)
 dR:VD (λb=>b<V.heap.size) V (.pt [.lit (.slice (Aa ⟨C,0,Aj⟩) n cap)]) (bI bR)
def v_b{F:Ae->Prop}{w:Ag}{ι:Ae->Aq Ae}{b:Bw}{v:AE}(h:V F w ι (.d (.b b)) v):v=.bool b:=by cases h with|d _ _ h=>cases h;rfl
def uV{F:Ae->Prop}{w:Ag}{ι:Ae->Aq Ae}{i o:Ae}{v:AE}(h:V F w ι (.ptr i o) v):∃b,ι i=Aa b/\v=.pointer (Aa ⟨b,o,Aj⟩):=by cases h with|ptr _ _ b hb=>exact⟨b,hb,rfl⟩
def vH{G:Ctx}{F:Ae->Prop}{w:Ag}{ι:Ae->Aq Ae}{C:Ae->Prop}{H:Hp}(hR:HR G F w ι C H){i b:Ae}{e:TypeId}{kk:IntKind}{n:Al}(hb:ι i=Aa b)(hH:H i=Aa (.cells e [.d (.i kk n)])):VD (λb=>b<w.heap.size) w (.pt [.i kk n]) (bI b):=by
 obtain⟨ob,h1,h2⟩:=hR.obj i b _ hb hH;cases h2 with
 | cells _ _ cur hl hc =>
   obtain⟨u,hu,hv⟩:=hc 0 _ rfl;have hu':=v_i hv;subst hu';refine .pt _ _ (λ_=>.int kk n) (bL h1) (λj hj=>?_) λk c hk=>?_
   . have:j=0:=by simp at hj;omega
     subst this
     simp[fN,BN,h1,hu]
   . cases k with
     |zero=>simp at hk;subst hk;exact .i _ _
     |succ k=>simp at hk
def bVo{a:Act}{o:Bf}{x7 x2 x9 x8 x6:AE}(hop:o.op=.makeFunc (.func 54) #[] #[.tmp 7,.tmp 2,.tmp 9,.tmp 8,.tmp 6])(h7:a.eval (.tmp 7)=x7)(h2:a.eval (.tmp 2)=x2)(h9:a.eval (.tmp 9)=x9)(h8:a.eval (.tmp 8)=x8)(h6:a.eval (.tmp 6)=x6)(w:Ag) :
 (execOp a.eval o).run Ab w=.ok (.value (.func (.func 54) #[] #[x7,x2,x9,x8,x6])) w/\(execOp a.eval o).events Ab w #[]=#[]:=by
 have ev:∀{t:Ae} {x:AE},a.eval (.tmp t)=x->a.tmps[t]?.getD undef=x:=λh=>by rw[<-h];simp[Dh]
 unfold execOp
 simp only[hop]
 constructor<;>simp[F8,ev h7,ev h2,ev h9,ev h8,ev h6,go_sem]
def bVs{a:Act}{o:Bf}{cap:Aw AE}(hop:o.op=.go { callee:=.value (.tmp 34),args:=#[],argTypes:=#[] })(h:a.eval (.tmp 34)=.func (.func 54) #[] cap)(w:Ag) :
 (execOp a.eval o).run Ab w=.ok (.spawn { target:=.fn (.func 54) cap,args:=#[] }) w/\(execOp a.eval o).events Ab w #[]=#[]:=by
 have h':a.tmps[34]?.getD undef=.func (.func 54) #[] cap:=by rw[<-h];simp[Dh]
 unfold execOp
 simp only[hop]
 constructor<;>simp[h',go_sem]
section
variable {Wg bA bR cap:Ae} {p:Pl} {c0 c1 c2:D} {lD:Ad (Ad D)} {a:Act} {V:Ag} {k:Ae} {K An:Ay->Prop} {cs:Ad BU}
def aBp(bA bR Wg n k:Ae)(lD:Ad (Ad D)):Ad (Ae×AV):=[(2,.d (.lit (bI bA))),(6,.d (.lit (bI bR))),(7,.d (.lit (bI Wg))),(26,.d (.sl lD)),(27,.d (.i .i64 n)),(28,.d (.i .i64 k))]
def RI.sr(h:RI Wg bA bR p.C p.n cap c0 c1 c2 lD k a V):SR ⟨V,λb=>b<V.heap.size,bG,λ_ _=>True,λ_=>Aj⟩ 38 [] (StL (aBp bA bR Wg p.n k lD) Aj []) a V:=by
 rw[<-h.ds];refine uR (Z:=λ_=>Aj) h.ok h.size (λ_ _ h=>by simp at h) (lL (T:=λt=>a.tmps.getD t undef) _ ?_);simp only[aBp,Du];refine⟨.d _ _ ?_,.d _ _ ?_,.d _ _ ?_,.d _ _ h.s26,.d _ _ ?_,.d _ _ ?_,λ_ h=>by simp at h⟩
 . rw[h.s2];exact .lit _
 . rw[h.s6];exact .lit _
 . rw[h.s7];exact .lit _
 . rw[h.s27];exact .i _ _
 . rw[h.s28];exact .i _ _
def kW(r:Ae):(eX Ab Ak).Fam (kQ Ab bF Wg p K An r):=by
 cases r with
 |zero=>exact .inl ⟨_,_,_,xJ,rfl⟩
 |succ r=>exact .inl ⟨_,_,_,aFs,rfl⟩
def aYv(h:RI Wg bA bR p.C p.n cap c0 c1 c2 lD p.n a V)(hl:lD.length=p.n)
 (hAn:∀a:Act,a.tmps.getD 6 undef=bI bR->a.tmps.size=38->a.defers=[]->∀g,tV bF Wg (((base 10)).at a [.inRegion aRq [0],.code tW2]) cs g->An g)
 (hHd:∀g,An g->Dl Ab Ak (cQ bF.tWg Wg) (cZ Wg) (λd g=>d=1/\tN Ab bF Wg K An d g) 1 g) :
 kQ Ab bF Wg p K An 0 (G (((base 10)).at a [.code cW,.inLoop cW,.inBlock 0,.code tW]) cs) V:=by
 letI:=eX Ab Ak
 have hW:=kW (Wg:=Wg) (p:=p) (K:=K) (An:=An) 0
 have hb:kA (base 10):=.inl rfl
 simp only[cW,tW,gJ,D5,AQ]
 refine aD hW rfl h.ok (λw=>stepG_seq) ?_
 refine bZ aT (λ_=>rfl) _ (λe σ=>e=.normal/\σ.Γ 29=.d (.b Az)/\σ.Γ 6=.d (.lit (bI bR))/\σ.Γ 7=.d (.lit (bI Wg))) _ _ _ (by kernel_rfl) (by kernel_rfl) ?hawp h.sr _ hW h.ok _ _ _ hb λe a' v' hv' hq=>?_
 case hawp =>
  simp only[aBp]
  simp[-E,-I,↓KW]
 obtain⟨σ,⟨rfl,q29,q6,q7⟩,hsr⟩:=hq
 obtain⟨_,_,_,F,ι,hR,_,hV,⟨hN,_⟩,hds,_⟩:=hsr
 have e29:a'.eval (.tmp 29)=.bool false:=by
  have h:=hV 29;rw[q29]at h;cases h with|d _ _ h =>
   show a'.tmps.getD 29 undef=_
   generalize a'.tmps.getD 29 undef=x at h
   cases h;rfl
 have e6:a'.tmps.getD 6 undef=bI bR:=by have h:=hV 6;rw[q6]at h;exact fF h
 have e7:a'.tmps.getD 7 undef=bI Wg:=by have h:=hV 7;rw[q7]at h;exact fF h
 simp only[fW]
 refine aD hW rfl hv' (λw=>stepG_seq) ?_
 refine aD hW rfl hv' (λw=>stepG_cond e29) ?_
 refine aD hW rfl hv' (λw=>stepG_exit rfl) ?_
 refine aD hW rfl hv' (λw=>stepG_seq) ?_
 refine aD hW rfl hv' (λw=>stepG_region) ?_
 have hd:Dl Ab Ak (cQ bF.tWg Wg) (cZ Wg) (λd g=>d=1/\tN Ab bF Wg K An d g) 0 (G (((base 10)).at a' [.inRegion aRq [0],.code tW2]) cs):=by refine dE (f:=bF.wait) (fn:=waitFn bF) (c:=body_wait bF) rfl rfl (by k_ne) rfl qB.f_wait (nm_wait bF) rfl ((aBa qB ?_).bind λd g hh=>by rw[hh.1];exact hHd g (hAn a' e6 hN hds g hh.2));have:a'.eval (.tmp 7)=bI Wg:=e7;simp[this,waitFn,bI]
 simp only[aRq,tW2,tW,gJ,D5,AQ]at hd
 obtain⟨tr,hg⟩:=hd.gt (Stop:=aHp Ab bF Wg K An) hv' λd g v1 _ hk=>⟨.leaf,hk⟩
 exact⟨tr,hg⟩
noncomputable def aVj:Aw Oper:=match cW with|.seq _ (.seq _ (.seq (.block _ (.seq _ (.seq (.region _ o _) _))) _))=>o|_=>#[]
noncomputable def bUp:Code:=match cW with|.seq _ (.seq _ (.seq (.block _ (.seq _ (.seq _ c))) _))=>c|_=>.skip
noncomputable def bUn:Code:=match cW with|.seq _ (.seq _ (.seq _ c))=>c|_=>.skip
noncomputable def r9W:Code:=match cW with|.seq _ (.seq _ (.seq (.block _ (.seq c _)) _))=>c|_=>.skip
def aRf{r:Ae}{pk:Al}(h:RI Wg bA bR p.C p.n cap c0 c1 c2 lD k a V)(hk:k<p.n)(hl:lD.length=p.n)(hlk:lD[k]? = Aa [.i .u64 pk])(hr:p.n-(r+1)=k)(hn:p.n<2147483648)(hfA:jY (.pt [c0,c1,c2]))(hfL:jY (.sl lD))
 (hwork:∀(V':Ag) (Bp Bi:Ae),OkV V'->VD (λb=>b<V'.heap.size) V' (.pt [c0,c1,c2]) (bI bA)->VD (λb=>b<V'.heap.size) V' (.pt [.i .u64 pk]) (bI Bp)->VD (λb=>b<V'.heap.size) V' (.pt [.i .i64 k]) (bI Bi) ->
   VD (λb=>b<V'.heap.size) V' (.pt [.lit (.slice (Aa ⟨p.C,0,Aj⟩) p.n cap)]) (bI bR)->∃tr,GTw Ab bF Wg p k tr 0 (born Ab (aFm Wg bA Bp Bi bR)) V')
 (hnext:∀a' V',RI Wg bA bR p.C p.n cap c0 c1 c2 lD (k+1) a' V'->kQ Ab bF Wg p K An r (G (((base 10)).at a' [.code cW,.inLoop cW,.inBlock 0,.code tW]) cs) V') :
 kQ Ab bF Wg p K An (r+1) (G (((base 10)).at a [.code cW,.inLoop cW,.inBlock 0,.code tW]) cs) V:=by
 letI:=eX Ab Ak
 have hW:=kW (Wg:=Wg) (p:=p) (K:=K) (An:=An) (r+1)
 have hb:kA (base 10):=.inl rfl
 have hk0:(0:Al)<=k:=by omega
 have hk1:(k:Al)<p.n:=by omega
 have hk2:(k:Al)<(lD.length:Al):=by omega
 have hkl:k<lD.length:=by omega
 have hlk':lD[k]=[.i .u64 pk]:=(AA.1 hlk).2
 rw[show([.code cW,.inLoop cW,.inBlock 0,.code tW]:Ad Item)=[.code cW]++[.inLoop cW,.inBlock 0,.code tW]from rfl]
 generalize hKT:([.inLoop cW,.inBlock 0,.code tW]:Ad Item)=KT
 simp only[cW,gJ,D5,AQ,Cz,Ea]
 refine aD hW rfl h.ok (λw=>stepG_seq) ?_
 refine bZ aT (λ_=>rfl) _ (λe σ=>e=.normal/\σ.Γ 29=.d (.b Ak)/\AWP Ab r9W σ λe σ'=>e=.normal/\∃i8 i9,σ'.Γ 8=.ptr i8 0/\σ'.H i8=Aa (.cells 3 [.d (.i .i64 k)])/\σ'.Γ 9=.ptr i9 0/\σ'.H i9=Aa (.cells 46 [.d (.i .u64 pk)]) /\
  σ'.Γ 2=.d (.lit (bI bA))/\σ'.Γ 6=.d (.lit (bI bR))/\σ'.Γ 7=.d (.lit (bI Wg))/\σ'.Γ 26=.d (.sl lD)/\σ'.Γ 27=.d (.i .i64 p.n)/\σ'.Γ 28=.d (.i .i64 k)) _ _ _ (by kernel_rfl) (by kernel_rfl) ?hawp h.sr _ hW h.ok _ _ _ hb λe a1 V1 hv1 hq=>?_
 case hawp =>
  simp only[aBp,r9W,cW,gJ,D5,AQ]
  simp[-E,-I,↓KW,hk0,hk1,hk2,hkl,hlk,hlk']
 obtain⟨σ,⟨rfl,q29,hA9⟩,hsr⟩:=hq
 have e29:a1.eval (.tmp 29)=.bool true:=by obtain⟨_,_,_,F,ι,_,_,hV,_⟩:=id hsr;have h:=hV 29;rw[q29]at h;exact v_b h
 simp only[fW]
 refine aD hW rfl hv1 (λw=>stepG_seq) ?_
 refine aD hW rfl hv1 (λw=>stepG_cond e29) ?_
 simp only[CN]
 refine aD hW rfl hv1 (λw=>stepG_skip) ?_
 refine aD hW rfl hv1 (λw=>stepG_seq) ?_
 refine aD hW rfl hv1 (λw=>stepG_block) ?_
 refine aD hW rfl hv1 (λw=>stepG_seq) ?_
 simp only[r9W,cW,gJ,D5,AQ]at hA9
 refine bZ aT (λ_=>rfl) _ _ _ _ _ (by kernel_rfl) (by kernel_rfl) hA9 hsr _ hW hv1 _ _ _ hb λe a2 V2 hv2 hq=>?_
 obtain⟨σ',⟨rfl,i8,i9,q8,qH8,q9,qH9,q2,q6,q7,q26,q27,q28⟩,_,_,_,F,ι,hR,_,hV,⟨hN,_⟩,hds,_⟩:=hq
 obtain⟨b8,hb8,e8⟩:=uV (q8 ▸ hV 8)
 obtain⟨b9,hb9,e9⟩:=uV (q9 ▸ hV 9)
 have e2:=fF (q2 ▸ hV 2)
 have e6:=fF (q6 ▸ hV 6)
 have e7:=fF (q7 ▸ hV 7)
 have e27:=v_i (q27 ▸ hV 27)
 have e28:=v_i (q28 ▸ hV 28)
 have hd8:=vH hR hb8 qH8
 have hd9:=vH hR hb9 qH9
 have hsame:jF (λb=>b<V.heap.size) V V2:=λb hb c e f hc=>⟨f,by rw[hR.kept.block b hb (λh=>h)];exact hc⟩
 have hge:V.heap.size<=V2.heap.size:=hR.kept.size
 have hdA:VD (λb=>b<V2.heap.size) V2 (.pt [c0,c1,c2]) (bI bA):=(hfA _ V V2 _ hsame h.dA).mono λb hb=>Be hb hge
 have hdR:VD (λb=>b<V2.heap.size) V2 (.pt [.lit (.slice (Aa ⟨p.C,0,Aj⟩) p.n cap)]) (bI bR):=(eN (by simp[gA]) _ V V2 _ hsame h.dR).mono λb hb=>Be hb hge
 have hdL:VD (λb=>b<V2.heap.size) V2 (.sl lD) (a2.tmps.getD 26 undef):=by have h:=hV 26;rw[q26]at h;cases h with|d _ _ h=>exact h.mono hR.F_lt
 simp only[fW]
 refine aD hW rfl hv2 (λw=>stepG_seq) ?_
 refine aD hW rfl hv2 (λw=>stepG_region) ?_
 -- the call of Add
 have hKA:∀v1,Env V2 v1->OkV v1->∃tr,GTm Ab bF Wg (aKs Ab bF Wg p k (kQ Ab bF Wg p K An r)) tr 0 (G (((base 10)).at (a2.put (Aa 33) (.tuple #[])) (.inRegion aVj []::.code bUp::.inBlock 1::.code bUn::KT)) cs) v1:=by
  intro v1 he1 ho1;have hW2:(eX Ab Ak).Fam (GoW Ab Ak (cQ bF.tWg Wg) (cZ Wg) (aKs Ab bF Wg p k (kQ Ab bF Wg p K An r))):=.inl ⟨_,_,_,aEd,rfl⟩;have hg:∀t,t≠33->(a2.put (Aa 33) (.tuple #[])).eval (.tmp t)=a2.tmps.getD t undef:=λt ht=>by simp[Cv,Dh,Au,AI (DZ ht)]
  have hsz3:(a2.put (Aa 33) (.tuple #[])).tmps.size=38:=by simp[Cv,hN]
  have hds3:(a2.put (Aa 33) (.tuple #[])).defers=[]:=hds;generalize a2.put (Aa 33) (.tuple #[])=a3 at hg hsz3 hds3;simp only[aVj,bUp,bUn,cW,gJ,D5,AQ];refine aD hW2 rfl ho1 (λw=>stepG_region_end) ?_;refine aD hW2 rfl ho1 (λw=>stepG_region) ?_;have g7:=(hg 7 (by decide)).trans e7;have g2:=(hg 2 (by decide)).trans e2;have g9:=(hg 9 (by decide)).trans e9;have g8:=(hg 8 (by decide)).trans e8;have g6:=(hg 6 (by decide)).trans e6;refine aD hW2 rfl ho1 (λw=>(stepG_value rfl rfl (by k_ne) (bVo rfl g7 g2 g9 g8 g6 w).1).trans (by unfold listed;rw[(bVo rfl g7 g2 g9 g8 g6 w).2,seen_none])) ?_;have h34:∀x,(a3.put (Aa 34) x).eval (.tmp 34)=x:=λx=>by simp[Cv,Dh,Au,hsz3]
  have hg4:∀x t,t≠34->(a3.put (Aa 34) x).tmps.getD t undef=a3.eval (.tmp t):=λx t ht=>by simp[Cv,Dh,Au,AI (DZ ht)]
  refine⟨.leaf,rfl,rfl,λv2 he2=>⟨_,_,λw hs hI=>(stepG_spawn rfl rfl (by k_ne) (bVs rfl (h34 _) w).1 rfl).trans (by unfold listed;rw[(bVs rfl (h34 _) w).2,seen_none]),rfl,?_,?_⟩⟩;all_goals
   have hse:jF (λb=>b<V2.heap.size) V2 (gL v2):=(sL (he1.trans he2)).trans (aBt _ _)
   have hfs:∀b,b<V2.heap.size->b<(gL v2).heap.size:=λb hb=>by rw[tA];exact Be hb (he1.trans he2).size
  . exact hwork (gL v2) b9 b8 (wD _) ((hfA _ _ _ _ hse hdA).mono hfs) ((eN (by simp[pR]) _ _ _ _ hse hd9).mono hfs) ((eN (by simp[pR]) _ _ _ _ hse hd8).mono hfs) ((eN (by simp[gA]) _ _ _ _ hse hdR).mono hfs)
  have hW3:=kW (Wg:=Wg) (p:=p) (K:=K) (An:=An) r;generalize hx:Value.func (.func 54) #[] #[bI Wg,bI bA,.pointer (Aa ⟨b9,0,Aj⟩),.pointer (Aa ⟨b8,0,Aj⟩),bI bR]=x;have hri:RI Wg bA bR p.C p.n cap c0 c1 c2 lD k ((a3.put (Aa 34) x).put Aj undef) (gL v2):=by
   have hg5:∀t,t≠34->t≠33->((a3.put (Aa 34) x).put Aj undef).tmps.getD t undef=a2.tmps.getD t undef:=λt h1 h2=>(hg4 x t h1).trans (hg t h2)
   refine⟨by simp[Cv,hsz3],hds3,(hg5 2 (by decide) (by decide)).trans e2,(hg5 6 (by decide) (by decide)).trans e6,(hg5 7 (by decide) (by decide)).trans e7,?_,(hg5 27 (by decide) (by decide)).trans e27,(hg5 28 (by decide) (by decide)).trans e28,wD _,(hfA _ _ _ _ hse hdA).mono hfs,(eN (by simp[gA]) _ _ _ _ hse hdR).mono hfs⟩;rw[hg5 26 (by decide) (by decide)];exact(hfL _ _ _ _ hse hdL).mono hfs
  show kQ Ab bF Wg p K An r (G (((base 10)).at ((a3.put (Aa 34) x).put Aj undef) _) cs) (gL v2);generalize(a3.put (Aa 34) x).put Aj undef=a5 at hri;refine aD hW3 rfl hri.ok (λw=>stepG_region_end) ?_;refine aD hW3 rfl hri.ok (λw=>stepG_inBlock) ?_;refine bZ aT (λ_=>rfl) _ (λe σ=>e=.normal/\σ.Γ 28=.d (.i .i64 (k+1))/\σ.Γ 2=.d (.lit (bI bA))/\σ.Γ 6=.d (.lit (bI bR))/\σ.Γ 7=.d (.lit (bI Wg))/\σ.Γ 26=.d (.sl lD)/\σ.Γ 27=.d (.i .i64 p.n)) _ _ _ (by kernel_rfl) (by kernel_rfl) ?hawp3 hri.sr _ hW3 hri.ok _ _ _ hb λe a6 V6 hv6 hq=>?_
  case hawp3 =>
   have hw:Ax.wrap ((k:Al)+1)=k+1:=bP
   simp only[aBp]
   simp[-E,-I,↓KW,hw]
  obtain⟨σ6,⟨rfl,q28',q2',q6',q7',q26',q27'⟩,_,_,_,F6,ι6,hR6,_,hV6,⟨hN6,_⟩,hds6,_⟩:=hq;simp only[fW];subst hKT;refine aD hW3 rfl hv6 (λw=>stepG_inLoop) ?_;have hs6:jF (λb=>b<(gL v2).heap.size) (gL v2) V6:=λb hb c e f hc=>⟨f,by rw[hR6.kept.block b hb (λh=>h)];exact hc⟩
  have hf6:∀b,b<(gL v2).heap.size->b<V6.heap.size:=λb hb=>Be hb hR6.kept.size
  refine hnext a6 V6 ⟨hN6,hds6,fF (q2' ▸ hV6 2),fF (q6' ▸ hV6 6),fF (q7' ▸ hV6 7),?_,v_i (q27' ▸ hV6 27),?_,hv6,(hfA _ _ _ _ hs6 hri.dA).mono hf6,(eN (by simp[gA]) _ _ _ _ hs6 hri.dR).mono hf6⟩
  . have h:=hV6 26;rw[q26']at h
    cases h with|d _ _ h=>exact h.mono hR6.F_lt
  . have:=v_i (q28' ▸ hV6 28)
    simpa using this
 have hd:Dl Ab Ak (cQ bF.tWg Wg) (cZ Wg) (λd g=>d=1/\aEr Ab bF Wg (λd' g'=>d'=0/\∀v1,Env V2 v1->OkV v1->∃tr,GTm Ab bF Wg (aKs Ab bF Wg p k (kQ Ab bF Wg p K An r)) tr 0 g' v1) d g) 0
  (G (((base 10)).at a2 (.inRegion aVj [0]::.code bUp::.inBlock 1::.code bUn::KT)) cs):=by
  refine dE (f:=bF.add) (fn:=addFn bF) (c:=body_add bF) rfl rfl (by k_ne) rfl qB.f_add (nm_add bF) rfl (aPh qB ?_ ⟨rfl,hKA⟩)
  have:a2.eval (.tmp 7)=bI Wg:=e7
  have hc:a2.eval (.const (.int .i64 1))=.int .i64 1:=rfl
  simp[this,hc,addFn,bI]
 simp only[aVj,bUp,bUn,cW,gJ,D5,AQ]at hd
 obtain⟨tr,hg⟩:=hd.gt (Stop:=aPm Ab bF Wg p (p.n-(r+1)) (kQ Ab bF Wg p K An r)) hv2 λd g v1 he hk=>⟨.leaf,hk.1,uO (λd' g' hx v2 he2 ho2=>by rw[hr,hx.1];exact hx.2 v2 (he.trans he2) ho2) hk.2⟩
 exact⟨tr,hg⟩
end
def bFq{Wg bA bR cap:Ae}{p:Pl}{c0 c1 c2:D}{lD:Ad (Ad D)}{K An:Ay->Prop}{cs:Ad BU}(hl:lD.length=p.n)(hn:p.n<2147483648)(hfA:jY (.pt [c0,c1,c2]))(hfL:jY (.sl lD))
 (hw:∀k,k<p.n->∃pk,lD[k]? = Aa [.i .u64 pk]/\∀(V':Ag) (Bp Bi:Ae),OkV V'->VD (λb=>b<V'.heap.size) V' (.pt [c0,c1,c2]) (bI bA)->VD (λb=>b<V'.heap.size) V' (.pt [.i .u64 pk]) (bI Bp)->VD (λb=>b<V'.heap.size) V' (.pt [.i .i64 k]) (bI Bi) ->
   VD (λb=>b<V'.heap.size) V' (.pt [.lit (.slice (Aa ⟨p.C,0,Aj⟩) p.n cap)]) (bI bR)->∃tr,GTw Ab bF Wg p k tr 0 (born Ab (aFm Wg bA Bp Bi bR)) V')
 (hAn:∀a:Act,a.tmps.getD 6 undef=bI bR->a.tmps.size=38->a.defers=[]->∀g,tV bF Wg (((base 10)).at a [.inRegion aRq [0],.code tW2]) cs g->An g)
 (hHd:∀g,An g->Dl Ab Ak (cQ bF.tWg Wg) (cZ Wg) (λd g=>d=1/\tN Ab bF Wg K An d g) 1 g) :
 ∀(r k:Ae) (a:Act) (V:Ag),k+r=p.n->RI Wg bA bR p.C p.n cap c0 c1 c2 lD k a V->kQ Ab bF Wg p K An r (G (((base 10)).at a [.code cW,.inLoop cW,.inBlock 0,.code tW]) cs) V
 | 0,k,a,V,hk,h=>by
   obtain rfl:k=p.n:=by omega
   exact aYv h hl hAn hHd
 | r+1,k,a,V,hk,h=>by obtain⟨pk,h1,h2⟩:=hw k (by omega);exact aRf h (by omega) hl h1 (by omega) hn hfA hfL h2 λa' V' h'=>bFq hl hn hfA hfL hw hAn hHd r (k+1) a' V' (by omega) h'
structure aFk(p:Pl)(v v':Ag):Prop where
 ok:OkV v'
 tape:v'.tape=v.tape
 os:v'.os=v.os
 output:v'.output=v.output
 size:v.heap.size<v'.heap.size
 old:∀b,b<v.heap.size->b≠p.C->v'.heap[b]? = v.heap[b]?
 val:∃cs:Aw AE,v'.heap[p.C]? = Aa (.cells cs p.ety (0,0))/\cs.size=p.tot/\∀i,i<p.n->∀r,r<p.wd->cs[i*p.wd+r]? = Aa (p.val i r)
def bVf.w{p:Pl}{v v':Ag}(h:bVf p v v'):aFk p v v':=⟨h.ok,h.tape,h.os,h.output,h.size,h.old,h.val⟩
def aFk.next{p:Pl}{v v' v2:Ag}(h:aFk p v v')(hok:OkV v2)(ht:v2.tape=v'.tape)(ho:v2.os=v'.os)(hp:v2.output=v'.output)(hsz:v'.heap.size<=v2.heap.size)(hb:∀b,b<v'.heap.size->v2.heap[b]? = v'.heap[b]?):aFk p v v2:=by
 have hC:p.C<v'.heap.size:=let ⟨cs,h1,_⟩:=h.val;bL h1
 refine⟨hok,ht.trans h.tape,ho.trans h.os,hp.trans h.output,Be h.size hsz,λb hlt hne=>(hb b (FD hlt h.size)).trans (h.old b hlt hne),?_⟩;obtain⟨cs,h1,h2⟩:=h.val;exact⟨cs,(hb _ hC).trans h1,h2⟩
def aKy{P:As}[M:Mch P]{Win:Ay->Ag->Prop}(hW:M.Fam Win){f:AU}{fn:Func}{a':Act}{v':Ag}{todo:Ad Item}{c0:BU}{cs:Ad BU}{R:AE->Ag->Prop}(hf:P.funcs[f]? = Aa fn)(hv':OkV v')(hd:a'.defers=[])
 (hr:∀v1,Env v' v1->∃x,aU P (results fn a'.tmps) v1=.ok x v1/\R x v1) (hk:∀x v'',OkV v''->R x v''->Win (G (c0.finish x) cs) v''):Win (G { (base f).at a' todo with mode:=.returning } (c0::cs)) v':=by
 refine(M.closed hW).step rfl hv' λv1 w he hsim=>?_
 obtain⟨x,hx,hR⟩:=hr v1 he
 obtain⟨w',es',h1,h2,h3,h4,h5,h6⟩:=fH _ v1 w #[] x v1 (he.okV hv') hsim hx
 exact⟨_,v1,w',_,oZ (b:=base f) rfl hd hf h1,⟨h2,h3,h4,h5,λe he'=>h6 e (by have:=mem_seen he';simpa using this)⟩,hk x v1 h3 hR⟩
def bCs{W0:Ag}{Post:AE->Ag->Prop}{p:Pl}{v1:Ag}{bR cap:Ae}{a:Act}{c0:BU}{cs:Ad BU}(h6:a.tmps.getD 6 undef=bI bR)(hN:a.tmps.size=38)(hds:a.defers=[])(hbR:bR<v1.heap.size)(hne:bR≠p.C)
 (hcell:v1.cell? ⟨bR,0,Aj⟩=Aa (.slice (Aa ⟨p.C,0,Aj⟩) p.n cap)) (hk:∀v',aFk p v1 v'->dC Ab W0 Post (G (c0.finish (.tuple #[.slice (Aa ⟨p.C,0,Aj⟩) p.n cap,.int .i64 0])) cs) v') :
 KF Ab W0 Post p v1 (G (((base 10)).at (a.put (Aa 36) (.tuple #[])) [.inRegion aRq [],.code tW2]) (c0::cs)):=by
 refine⟨rfl,λv' hF=>?_⟩
 letI:=bV Ab
 have hW:(bV Ab).Fam (dC Ab W0 Post):=.inl ⟨W0,Post,rfl⟩
 have hb:kA (base 10):=.inl rfl
 have g6:(a.put (Aa 36) (.tuple #[])).tmps.getD 6 undef=bI bR:=by rw[<-h6];simp[Cv,Au,AI]
 have gN:(a.put (Aa 36) (.tuple #[])).tmps.size=38:=by simp[Cv,hN]
 have gds:(a.put (Aa 36) (.tuple #[])).defers=[]:=hds
 generalize a.put (Aa 36) (.tuple #[])=a3 at g6 gN gds
 have hok:=hF.ok
 have hc':v'.cell? ⟨bR,0,Aj⟩=Aa (.slice (Aa ⟨p.C,0,Aj⟩) p.n cap):=by rw[<-hcell];exact eJ (hF.old bR hbR hne)
 have hfp:V (λb=>b<v'.heap.size) v' (λ_=>Aj) (.fp [.lit (.slice (Aa ⟨p.C,0,Aj⟩) p.n cap)]) (bI bR) :=
  .fp _ _ (λ_=>.slice (Aa ⟨p.C,0,Aj⟩) p.n cap) (FD hbR hF.size) (λj hj=>by
   have:j=0:=by simp at hj;omega
   subst this;rw[fN];exact hc') λk c hk=>by
   cases k with
   |zero=>simp at hk;subst hk;exact .lit _
   |succ k=>simp at hk
 simp only[aRq,tW2,tW,gJ,D5,AQ]
 refine aD hW rfl hok (λw=>stepG_region_end) ?_
 refine aD hW rfl hok (λw=>stepG_seq) ?_
 have hsr:SR ⟨v',λb=>b<v'.heap.size,bG,λ_ _=>True,λ_=>Aj⟩ 38 [] (StL [(6,.fp [.lit (.slice (Aa ⟨p.C,0,Aj⟩) p.n cap)])] Aj []) a3 v':=by rw[<-gds];refine uR (Z:=λ_=>Aj) hok gN (λ_ _ h=>by simp at h) (lL (T:=λt=>a3.tmps.getD t undef) _ ?_);simp only[Du];exact⟨by rw[g6];exact hfp,λ_ h=>by simp at h⟩
 refine bZ aT (λ_=>rfl) _ (λe σ=>e=.normal/\σ.Γ 4=.d (.lit (.slice (Aa ⟨p.C,0,Aj⟩) p.n cap))/\σ.Γ 5=.d (.i .i64 0)) _ _ _ (by kernel_rfl) (by kernel_rfl) ?hawp hsr _ hW hok _ _ _ hb λe a4 V4 hv4 hq=>?_
 case hawp =>
  simp[-E,-I,↓KW]
 obtain⟨σ,⟨rfl,q4,q5⟩,hsr4⟩:=hq
 obtain⟨_,_,_,F,ι,hR,_,hV,⟨hN4,_⟩,hds4,_⟩:=id hsr4
 have hF4:aFk p v1 V4:=hF.w.next hv4 hR.kept.tape hR.kept.os hR.kept.output hR.kept.size λb hb=>hR.kept.block b hb (λh=>h)
 simp only[fW]
 refine aD hW rfl hv4 (λw=>stepG_ret') ?_
 refine aKy hW (R:=λx v2=>x=.tuple #[.slice (Aa ⟨p.C,0,Aj⟩) p.n cap,.int .i64 0]/\aFk p v1 v2) Tryz.func10 hv4 hds4 (λv2 he=>?_) λx v'' _ hx=>by rw[hx.1];exact hk v'' hx.2
 have hsr5:=hsr4.env he
 obtain⟨x,hx,hvd⟩:=fP (P:=Ab) (fn:=D5) (r:=.tp [.lit (.slice (Aa ⟨p.C,0,Aj⟩) p.n cap),.i .i64 0]) hsr5 (by
  simp[jM,D5,jN,q4,q5,cK,frz])
 refine⟨x,hx,?_,hF4.next (he.okV hv4) he.tape he.os he.output he.size λb hb=>he.get hb⟩
 cases hvd with
 | tp cs vs hl h =>
   have h0:vs[0]? = Aa (.slice (Aa ⟨p.C,0,Aj⟩) p.n cap):=by obtain⟨y,hy⟩:∃y,vs[0]? = Aa y:=⟨_,Ar (by simp at hl;omega)⟩;have:=h 0 _ _ rfl hy;cases this;exact hy
   have h1:vs[1]? = Aa (.int .i64 0):=by obtain⟨y,hy⟩:∃y,vs[1]? = Aa y:=⟨_,Ar (by simp at hl;omega)⟩;have:=h 1 _ _ rfl hy;cases this;exact hy
   congr 1
   apply FU
   intro k
   match k with
   |0=>exact h0
   |1=>exact h1
   |k+2=>rw[C3 (by simp at hl;omega)];simp
end Go.Am
end
section
open Go Go.Am Go.Proofs
namespace Go.Am
open Go.Conc Go.Conc.Lib Go.RowKit Go.ConcR.Gen
open Go.ConcR (KK wgBlock stA smA rd wr mk)
def aXb{P:As}{f:AU}{args:Aw AE}{v:Ag}{R:AE->Ag->Prop}
 (h:∀(W0:Ag) (Post:AE->Ag->Prop) (c:BU) (cs:Ad BU),(∀x v',OkV v'->R x v'->dC P W0 Post (G (c.finish x) cs) v')->OkV v->dC P W0 Post (G (Dt P f args .normal) (c::cs)) v) :
 letI:=bV P;CX P f args v R:=by
 intro Win hW hv c cs hk
 rcases hW with ⟨W0,Post,rfl⟩|rfl
 . exact h W0 Post c cs hk hv
 . have hm:=h { v with heap:=#[] } (λ_ _=>False) c cs (λx v' ho hr=>(hk x v' ho hr).elim) hv
   have h0:dP (λ_=>False)=λ_=>False:=by funext l;cases l<;>rfl
   have he:=hm v (.refl _) hv (λ_=>False) #[G (Dt P f args .normal) (c::cs)] v Aj #[] (λ_=>0) (λb h=>h.elim) (Sim.refl v) rfl (leavers_one P _) (by rw[h0];exact past_nil.mono (BH _))
    ⟨λi op x hi=>by simp at hi,λi a ha=>by simp[touchAt,Trace.act?]at ha,λi op hi=>by simp at hi⟩ (λb o hb=>by simp at hb)
   obtain⟨N,last,o,w',t',_,_,_,x,_,hp,_⟩:=he
   exact hp.elim
noncomputable def x1W:Code:=match gJ with|.seq _ (.seq c _)=>c|_=>.skip
noncomputable def x3W:Code:=match gJ with|.seq _ (.seq _ (.seq c _))=>c|_=>.skip
noncomputable def r5W:Code:=match gJ with|.seq _ (.seq _ (.seq _ (.seq c _)))=>c|_=>.skip
def aPy{rr:Al}{eA:Ad (Ad D)}{lD:Ad (Ad D)}{n:Ae}(hn:lD.length=n)(hn2:n<=1000000)
 (hvalid:letI:=bV Ab;Spec Ab 52 [.ag [.i .i64 rr,.i .i64 rr,.sl eA]] (.b Ak)) (hdiff:letI:=bV Ab;Spec Ab 53 [.sl lD] (.b Ak)) :
 letI:=bV Ab
 AWP Ab (match gJ with|.seq c _=>c|_=>.skip) (St0 [.ag [.i .i64 rr,.i .i64 rr,.sl eA],.sl lD] 38) λe σ=>e=.normal/\AWP Ab x1W σ λe σ=>e=.normal/\AWP Ab x3W σ λe σ=>e=.normal/\AWP Ab r5W σ λe σ=>e=.normal /\
  σ.Γ 1=.d (.sl lD)/\∃iA iR iC,iA≠iC/\iR≠iC/\σ.Γ 2=.ptr iA 0/\σ.H iA=Aa (.cells 31 [.d (.i .i64 rr),.d (.i .i64 rr),.d (.sl eA)])/\σ.Γ 6=.ptr iR 0/\σ.H iR=Aa (.cells 40 [.own iC 0 n 3])/\∃cs,σ.H iC=Aa (.cells 50 cs)/\n*3<=cs.length:=by
 letI:=bV Ab
 simp only[x1W,x3W,r5W,gJ,D5,AQ]
 have h0:(0:Al)<=(lD.length:Al):=by omega
 have h1:(lD.length:Al)<=9223372036854775807:=by omega
 have h2:((rr:Al) != rr)=false:=by simp
 have h3:24*(n:Al)<=281474976710656:=by omega
 have h4:(n:Al)<=9223372036854775807:=by omega
 simp[-E,-I,↓KW,h0,h1,h2,hn]
 refine aL hvalid ?_
 simp[-E,-I,↓KW,h0,h1,h2,hn]
 refine aL hdiff ?_
 simp[-E,-I,↓KW,h0,h1,h2,hn,h3,h4]
 refine⟨1,3,2,by decide,by decide,rfl,rfl,rfl,rfl,_,rfl,?_⟩
 simp[List.length_flatten]
def bGf{G:Ctx}{F:Ae->Prop}{w:Ag}{ι:Ae->Aq Ae}{C:Ae->Prop}{H:Hp}(hR:HR G F w ι C H){i b:Ae}{e:TypeId}{cs:Ad D}(hb:ι i=Aa b)(hH:H i=Aa (.cells e (cs.map .d))):VD (λb'=>b'=b\/F b') w (.pt cs) (bI b):=by
 obtain⟨ob,h1,h2⟩:=hR.obj i b _ hb hH;cases h2 with
 | cells _ _ cur hl hc =>
   refine .pt _ _ (λj=>cur.getD j undef) (.inl rfl) (λj hj=>?_) λk c hk=>?_
   . have:j<cur.size:=by simp at hl;omega
     simp[fN,BN,h1,this]
   . obtain⟨u,hu,hv⟩:=hc k (.d c) (by simp[hk])
     have:cur.getD k undef=u:=by simp[Au,hu]
     rw[this]
     cases hv with|d _ _ h=>exact h.mono λb hb=>.inr hb
def wV{a:Act}{o:Bf}(hop:o.op=.alloc 116)(w:Ag) :
 (execOp a.eval o).run Ab w=.ok (.value (.pointer (Aa ⟨w.heap.size,0,Aj⟩))) { w with heap:=w.heap.push (wgBlock bF.tWg 0 0) }/\(execOp a.eval o).events Ab w #[]=#[]:=by
 unfold execOp
 simp only[hop]
 constructor
 . simp[go_sem,G1,wgBlock,bF,EG]
 . simp[go_sem,G1,wgBlock,bF,EG]
noncomputable def aZl:Aw Oper:=match gJ with|.seq _ (.seq _ (.seq _ (.seq _ (.seq (.region _ o _) _))))=>o|_=>#[]
noncomputable def aGa:Code:=match gJ with|.seq _ (.seq _ (.seq _ (.seq _ (.seq _ c))))=>c|_=>.skip
def aPx{p:Pl}{bA bR cap Wg:Ae}{c0 c1 c2:D}{lD:Ad (Ad D)}{K An:Ay->Prop}{cs:Ad BU}{a:Act}{V:Ag}(hok:OkV V)(hN:a.tmps.size=38)(hds:a.defers=[])(h2:a.tmps.getD 2 undef=bI bA)(h6:a.tmps.getD 6 undef=bI bR)
 (h1:VD (λb=>b<V.heap.size) V (.sl lD) (a.tmps.getD 1 undef)) (hl:lD.length=p.n) (hn:p.n<=1000000) (hfA:jY (.pt [c0,c1,c2])) (hfL:jY (.sl lD)) (hdA:VD (λb=>b<V.heap.size) V (.pt [c0,c1,c2]) (bI bA)) (hdR:VD (λb=>b<V.heap.size) V (.pt [.lit (.slice (Aa ⟨p.C,0,Aj⟩) p.n cap)]) (bI bR))
 (hgo:∀a' V',RI Wg bA bR p.C p.n cap c0 c1 c2 lD 0 a' V'->kQ Ab bF Wg p K An p.n (G (((base 10)).at a' [.code cW,.inLoop cW,.inBlock 0,.code tW]) cs) V') :
 kQ Ab bF Wg p K An p.n (G (((base 10)).at (a.put (Aa 7) (bI Wg)) [.inRegion aZl [],.code aGa]) cs) V:=by
 letI:=eX Ab Ak
 have hW:=kW (Wg:=Wg) (p:=p) (K:=K) (An:=An) p.n
 have hb:kA (base 10):=.inl rfl
 have hg:∀t,t≠7->(a.put (Aa 7) (bI Wg)).tmps.getD t undef=a.tmps.getD t undef:=λt ht=>by simp[Cv,Au,AI (DZ ht)]
 have h7:(a.put (Aa 7) (bI Wg)).tmps.getD 7 undef=bI Wg:=by simp[Cv,Au,hN]
 have hN':(a.put (Aa 7) (bI Wg)).tmps.size=38:=by simp[Cv,hN]
 have hds':(a.put (Aa 7) (bI Wg)).defers=[]:=hds
 have g1:=hg 1 (by decide)
 have g2:=(hg 2 (by decide)).trans h2
 have g6:=(hg 6 (by decide)).trans h6
 rw[<-g1]at h1
 generalize a.put (Aa 7) (bI Wg)=a5 at h1 g2 g6 h7 hN' hds'
 have hL0:(lD.length:Al)=p.n:=by omega
 have hsr:SR ⟨V,λb=>b<V.heap.size,bG,λ_ _=>True,λ_=>Aj⟩ 38 [] (StL [(1,.d (.sl lD)),(2,.d (.lit (bI bA))),(6,.d (.lit (bI bR))),(7,.d (.lit (bI Wg)))] Aj []) a5 V:=by
  rw[<-hds'];refine uR (Z:=λ_=>Aj) hok hN' (λ_ _ h=>by simp at h) (lL (T:=λt=>a5.tmps.getD t undef) _ ?_);simp only[Du];refine⟨.d _ _ h1,.d _ _ ?_,.d _ _ ?_,.d _ _ ?_,λ_ h=>by simp at h⟩
  . rw[g2];exact .lit _
  . rw[g6];exact .lit _
  . rw[h7];exact .lit _
 have hgo':=hgo
 simp only[cW,tW,gJ,D5,AQ]at hgo'
 simp only[aZl,aGa,gJ,D5,AQ]
 refine aD hW rfl hok (λw=>stepG_region_end) ?_
 refine aD hW rfl hok (λw=>stepG_seq) ?_
 refine aD hW rfl hok (λw=>stepG_seq) ?_
 refine bZ aT (λ_=>rfl) _ (λe σ=>e=.normal/\σ.Γ 2=.d (.lit (bI bA))/\σ.Γ 6=.d (.lit (bI bR))/\σ.Γ 7=.d (.lit (bI Wg))/\σ.Γ 26=.d (.sl lD)/\σ.Γ 27=.d (.i .i64 p.n)/\σ.Γ 28=.d (.i .i64 0)) _ _ _ (by kernel_rfl) (by kernel_rfl) ?hawp hsr _ hW hok _ _ _ hb λe a6 V6 hv6 hq=>?_
 case hawp =>
  simp[-E,-I,↓KW,hL0]
 obtain⟨σ,⟨rfl,q2,q6,q7,q26,q27,q28⟩,_,_,_,F,ι,hR,_,hV,⟨hN6,_⟩,hds6,_⟩:=hq
 simp only[fW]
 refine aD hW rfl hv6 (λw=>stepG_block) ?_
 refine aD hW rfl hv6 (λw=>stepG_loop) ?_
 have hs:jF (λb=>b<V.heap.size) V V6:=λb hb c e f hc=>⟨f,by rw[hR.kept.block b hb (λh=>h)];exact hc⟩
 have hf:∀b,b<V.heap.size->b<V6.heap.size:=λb hb=>Be hb hR.kept.size
 refine hgo' a6 V6 ⟨hN6,hds6,fF (q2 ▸ hV 2),fF (q6 ▸ hV 6),fF (q7 ▸ hV 7),?_,v_i (q27 ▸ hV 27),v_i (q28 ▸ hV 28),hv6,(hfA _ _ _ _ hs hdA).mono hf,(eN (by simp[gA]) _ _ _ _ hs hdR).mono hf⟩
 have h:=hV 26;rw[q26]at h
 cases h with|d _ _ h=>exact h.mono hR.F_lt
def bOe(Pv Vv:Ae->Al)(i r:Ae):Value:=match r with
 |0=>.int .i64 i
 |1=>.int .u64 (Pv i)
 |_=>.int .u64 (Vv i)
def aFy(Pv Vv:Ae->Al)(n:Ae):Ad (Ad D):=(AW n).map λ(i:Ae)=>[.i .i64 (i:Al),.i .u64 (Pv i),.i .u64 (Vv i)]
def bCt{W0:Ag}{Post:AE->Ag->Prop}{rr:Al}{eA lD:Ad (Ad D)}{n:Ae}{Pv Vv Ev:Ae->Al}(hn:lD.length=n)(hn2:n<=1000000)(hfE:jY (.sl eA))(hlD:∀k,k<n->lD[k]? = Aa [.i .u64 (Pv k)])
 (hres:∀k,k<n->letI:=eX Ab Az;Spec Ab 48 [.ag [.i .i64 rr,.i .i64 rr,.sl eA],.i .u64 (Pv k)] (.tp [.ag [.i .u64 (Pv k),.i .u64 (Vv k)],.i .i64 (Ev k)]))
 {A:Ae->Prop} {W V:Ag} {σ:St} {a:Act} {c:BU} {cs:Ad BU} (hsr:SR ⟨W,A,bG,λ_ _=>True,λ_=>Aj⟩ 38 [] σ a V)
 (q1:σ.Γ 1=.d (.sl lD)) {iA iR iC:Ae} (hne1:iA≠iC) (hne2:iR≠iC) (q2:σ.Γ 2=.ptr iA 0) (qA:σ.H iA=Aa (.cells 31 [.d (.i .i64 rr),.d (.i .i64 rr),.d (.sl eA)])) (q6:σ.Γ 6=.ptr iR 0) (qR:σ.H iR=Aa (.cells 40 [.own iC 0 n 3])) {csC:Ad AV} (qC:σ.H iC=Aa (.cells 50 csC)) (hlC:n*3<=csC.length)
 (hk:∀x v',OkV v'->(Below W.heap.size W v'/\VD (λb=>A b\/(W.heap.size<=b/\b<v'.heap.size)) v' (.tp [.sl (aFy Pv Vv n),.i .i64 0]) x)->dC Ab W0 Post (G (c.finish x) cs) v') :
 dC Ab W0 Post (G (((base 10)).at a [.inRegion aZl [0],.code aGa]) (c::cs)) V:=by
 obtain⟨_,_,hok,F,ι,hR,_,hV,⟨hN,_⟩,hds,_⟩:=hsr
 obtain⟨bA,hbA,e2⟩:=uV (q2 ▸ hV 2)
 obtain⟨bR,hbR,e6⟩:=uV (q6 ▸ hV 6)
 -- the reports' cell
 obtain⟨obR,hoR,hcR⟩:=hR.obj iR bR _ hbR qR
 obtain⟨C,cap,cur,hiC,hCb,hcap,hcell⟩:∃C cap cur,ι iC=Aa C/\V.heap[C]? = Aa (.cells cur 50 (0,0))/\n<=cap/\V.cell? ⟨bR,0,Aj⟩=Aa (.slice (Aa ⟨C,0,Aj⟩) n cap):=by
  cases hcR with
  | cells _ _ curR hl hc =>
    obtain⟨u,hu,hv⟩:=hc 0 _ rfl;cases hv with
    | own _ _ _ _ b cap cur e hι hb hcap hl' hm =>
      obtain⟨obC,hoC,hcC⟩:=hR.obj iC b _ hι qC;cases hcC with
      | cells _ _ cur' hl2 hc2 =>
        exact⟨b,cap,cur',hι,hoC,hl',by simp[BN,hoR,hu]⟩
 obtain⟨obC,hoC,hcC⟩:=hR.obj iC C _ hiC qC
 have hfit:n*3<=cur.size:=by
  rw[hCb]at hoC;obtain rfl:=BC hoC;cases hcC with
  |cells _ _ _ hl2 hc2=>omega
 have hnA:bA≠C:=λe=>hne1 (hR.inj iA iC bA hbA (e ▸ hiC) (λh=>h) (λh=>h))
 have hnR:bR≠C:=λe=>hne2 (hR.inj iR iC bR hbR (e ▸ hiC) (λh=>h) (λh=>h))
 have hCW:W.heap.size<=C:=(hR.place iC C hiC).1.elim (λh=>h.elim) id
 have hCF:¬F C:=(hR.place iC C hiC).2.2 (λh=>h)
 have hbRlt:bR<V.heap.size:=bL hoR
 let p:Pl:={ C:=C,wd:=3,n:=n,ety:=50,val:=bOe Pv Vv,pos:=by decide,tot:=cur.size,le:=hfit }
 have hfL:jY (.sl lD):=wE λr hr x hx=>by obtain⟨k,hk',rfl⟩:=BE.1 hr;have:=hlD k (by omega);rw[Ac hk']at this;rw[BC this]at hx;simp at hx;subst hx;exact pR _ _
 have hfA:jY (.pt [.i .i64 rr,.i .i64 rr,.sl eA]):=eN (by
  intro x hx;simp at hx;rcases hx with rfl|rfl
  . exact pR _ _
  . exact hfE)
 have hdA:=bGf (cs:=[.i .i64 rr,.i .i64 rr,.sl eA]) hR hbA qA
 have hdR:VD (λb=>b=bR) V (.pt [.lit (.slice (Aa ⟨C,0,Aj⟩) n cap)]) (bI bR) :=
  .pt _ _ (λ_=>.slice (Aa ⟨C,0,Aj⟩) n cap) rfl (λj hj=>by
   have:j=0:=by simp at hj;omega
   subst this;rw[fN];exact hcell) λk c hk=>by
   cases k with
   |zero=>simp at hk;subst hk;exact .lit _
   |succ k=>simp at hk
 have hd1:VD F V (.sl lD) (a.tmps.getD 1 undef):=by have h:=hV 1;rw[q1]at h;cases h with|d _ _ h=>exact h
 refine aGd (L:=bF) (p:=p) (g1:=λWg=>G (((base 10)).at (a.put (Aa 7) (bI Wg)) [.inRegion aZl [],.code aGa]) (c::cs)) rfl (λv1 w he ho hs=>?_) ⟨cur,hCb,rfl⟩ (show(50:Ae)≠0 by decide) (show n<2147483648 by omega) λv1 he ho=>?_
 . simp only[aZl,aGa,gJ,D5,AQ]
   exact(stepG_value rfl rfl (by k_ne) (wV rfl w).1).trans (by unfold listed;rw[(wV rfl w).2,seen_none];rfl)
 have hsz1:=he.size
 have hret:∀v',aFk p v1 v'->dC Ab W0 Post (G (c.finish (.tuple #[.slice (Aa ⟨C,0,Aj⟩) n cap,.int .i64 0])) cs) v':=λv' hF=>by
  obtain⟨cs',g1,g2,g3⟩:=hF.val;have hlt:C<v'.heap.size:=bL g1;refine hk _ v' hF.ok ⟨⟨(hF.os.trans he.os).trans hR.kept.os,(hF.tape.trans he.tape).trans hR.kept.tape,(hF.output.trans he.output).trans hR.kept.output,Bg hR.kept.size (Bg hsz1 (Dz hF.size)),λb hb=>?_⟩,?_⟩
  . have hb1:b<V.heap.size:=Be hb hR.kept.size
    rw[hF.old b (Be hb1 hsz1) (by show b≠C;omega),he.get hb1]
    exact hR.kept.block b hb (λh=>h)
  . refine .tp _ _ rfl λk d y hd hy=>?_
    match k with
    | 0 =>
      simp at hd hy;subst hd;subst hy
      refine .sl _ _ n cap 3 (λj=>cs'.getD j undef) (by simp[aFy]) hcap (λr hr=>?_) (.inr ⟨hCW,hlt⟩) (λj hj=>?_) λj k r d h1 h2=>?_
      . obtain⟨i,_,rfl⟩:=AY.1 hr;rfl
      . have:j<cs'.size:=by rw[g2];show j<cur.size;omega
        have g1':v'.heap[C]? = Aa (.cells cs' 50 (0,0)):=g1
        simp[fN,BN,g1',this]
      . simp only[aFy,Ao,BZ]at h1
        obtain⟨i,hi,rfl⟩:=Ai.1 h1
        have hij:i=j/\j<n:=by
         rcases Bc j n with h|h
         . rw[BZ h]at hi;exact⟨(BC hi).symm,h⟩
         . rw[Bn (by simpa using h)]at hi;cases hi
        obtain⟨rfl,hjn⟩:=hij
        have hv:=λr hr=>g3 i hjn r hr
        match k with
        | 0 =>
          simp at h2;subst h2
          have:=hv 0 (show 0<3 by decide)
          simp only[Au]
          rw[show cs'[i*3+0]? = Aa (bOe Pv Vv i 0)from this];exact .i _ _
        | 1 =>
          simp at h2;subst h2
          have:=hv 1 (show 1<3 by decide)
          simp only[Au]
          rw[show cs'[i*3+1]? = Aa (bOe Pv Vv i 1)from this];exact .i _ _
        | 2 =>
          simp at h2;subst h2
          have:=hv 2 (show 2<3 by decide)
          simp only[Au]
          rw[show cs'[i*3+2]? = Aa (bOe Pv Vv i 2)from this];exact .i _ _
        |k+3=>simp at h2
    |1=>simp at hd hy;subst hd;subst hy;exact .i _ _
    |k+2=>simp at hd
 have hcell1:v1.cell? ⟨bR,0,Aj⟩=Aa (.slice (Aa ⟨C,0,Aj⟩) n cap):=by rw[<-hcell];exact eJ (he.get hbRlt)
 let An:Ay->Prop:=λg=>∃a:Act,a.tmps.getD 6 undef=bI bR/\a.tmps.size=38/\a.defers=[]/\tV bF v1.heap.size (((base 10)).at a [.inRegion aRq [0],.code tW2]) (c::cs) g
 have hHd:∀g,An g->Dl Ab Ak (cQ bF.tWg v1.heap.size) (cZ v1.heap.size) (λd g=>d=1/\tN Ab bF v1.heap.size (KF Ab W0 Post p v1) An d g) 1 g:=by rintro g ⟨a',h6,hN',hds',hh⟩;exact(aFn qB (bCs (p:=p) h6 hN' hds' (Be hbRlt hsz1) hnR hcell1 hret) hh).mono λd g hx=>⟨hx.1,aHm (λg hg=>⟨a',h6,hN',hds',hg⟩) hx.2⟩
 refine⟨An,hHd,?_⟩
 have hin:∀F':Ae->Prop,(∀b,F' b->b≠C)->jF F' V (inV v1 C):=λF' hF'=>(sL he).trans (aFw hF')
 have hlt':∀b,b<V.heap.size->b<(inV v1 C).heap.size:=λb hb=>by rw[rK];omega
 refine aPx (p:=p) (aSn v1 C) hN hds e2 e6 ((hfL _ _ _ _ (hin F λb hb e=>hCF (e ▸ hb)) hd1).mono λb hb=>hlt' b (hR.F_lt b hb)) hn hn2 hfA hfL
  ((hfA _ _ _ _ (hin _ λb hb e=>hb.elim (λh=>hnA (h ▸ e)) λh=>hCF (e ▸ h)) hdA).mono λb hb=>hlt' b (hb.elim (λh=>by rw[h];exact bL (hR.obj iA bA _ hbA qA).choose_spec.1) (hR.F_lt b)))
  ((eN (by simp[gA]) _ _ _ _ (hin (λb=>b=bR) λb hb e=>hnR (hb ▸ e)) hdR).mono λb hb=>hlt' b (hb ▸ hbRlt)) λa' V' hri=>?_
 refine bFq (p:=p) hn (show n<2147483648 by omega) hfA hfL (λk hkn=>⟨Pv k,hlD k hkn,λV' Bp Bi h1 h2 h3 h4 h5=>bNo (p:=p) rfl hkn rfl rfl rfl rfl h1 h2 h3 h4 h5 (hres k hkn)⟩) (λa h6 hN hds g hh=>⟨a,h6,hN,hds,hh⟩) hHd n 0 a' V' (by show 0+n=n;omega) hri
def bCu{rr:Al}{eA lD:Ad (Ad D)}{n:Ae}{Pv Vv Ev:Ae->Al}(hn:lD.length=n)(hn2:n<=1000000)(hfE:jY (.sl eA))(hlD:∀k,k<n->lD[k]? = Aa [.i .u64 (Pv k)])
 (hvalid:letI:=bV Ab;Spec Ab 52 [.ag [.i .i64 rr,.i .i64 rr,.sl eA]] (.b Ak)) (hdiff:letI:=bV Ab;Spec Ab 53 [.sl lD] (.b Ak))
 (hres:∀k,k<n->letI:=eX Ab Az;Spec Ab 48 [.ag [.i .i64 rr,.i .i64 rr,.sl eA],.i .u64 (Pv k)] (.tp [.ag [.i .u64 (Pv k),.i .u64 (Vv k)],.i .i64 (Ev k)])) :
 letI:=bV Ab;Spec Ab 10 [.ag [.i .i64 rr,.i .i64 rr,.sl eA],.sl lD] (.tp [.sl (aFy Pv Vv n),.i .i64 0]):=by
 letI:=bV Ab
 intro A W vs hA hl hv
 refine⟨λw=>by simp[callFunc,Tryz.func10,D5],aXb λW0 Post c cs hk hok=>?_⟩
 have hW:(bV Ab).Fam (dC Ab W0 Post):=.inl ⟨W0,Post,rfl⟩
 have hb:kA (base 10):=.inl rfl
 rw[enter_at vs Tryz.func10 (show D5.body=Aa gJ from rfl)]
 have hsr:=SR0 (N:=38) hok hA hl hv (by simp)
 have hfr:=aPy hn hn2 hvalid hdiff
 have hmid:∀{σ:St} {a:Act} {V:Ag},_:=λ{σ a V}=>@bCt W0 Post rr eA lD n Pv Vv Ev hn hn2 hfE hlD hres A W V σ a c cs
 simp only[aZl,aGa,gJ,D5,AQ]at hmid
 simp only[x1W,x3W,r5W,gJ,D5,AQ]at hfr
 simp only[gJ,D5,AQ]
 refine aD hW rfl hok (λw=>stepG_seq) ?_
 refine bZ aT (λ_=>rfl) _ _ _ _ _ (by kernel_rfl) (by kernel_rfl) hfr hsr _ hW hok _ _ _ hb λe a1 V1 hv1 hq=>?_
 obtain⟨σ1,⟨rfl,hfr1⟩,hsr1⟩:=hq
 simp only[fW]
 refine aD hW rfl hv1 (λw=>stepG_seq) ?_
 refine bZ aT (λ_=>rfl) _ _ _ _ _ (by kernel_rfl) (by kernel_rfl) hfr1 hsr1 _ hW hv1 _ _ _ hb λe a2 V2 hv2 hq=>?_
 obtain⟨σ2,⟨rfl,hfr2⟩,hsr2⟩:=hq
 simp only[fW]
 refine aD hW rfl hv2 (λw=>stepG_seq) ?_
 refine bZ aT (λ_=>rfl) _ _ _ _ _ (by kernel_rfl) (by kernel_rfl) hfr2 hsr2 _ hW hv2 _ _ _ hb λe a3 V3 hv3 hq=>?_
 obtain⟨σ3,⟨rfl,hfr3⟩,hsr3⟩:=hq
 simp only[fW]
 refine aD hW rfl hv3 (λw=>stepG_seq) ?_
 refine bZ aT (λ_=>rfl) _ _ _ _ _ (by kernel_rfl) (by kernel_rfl) hfr3 hsr3 _ hW hv3 _ _ _ hb λe a4 V4 hv4 hq=>?_
 obtain⟨σ4,⟨rfl,q1,iA,iR,iC,hne1,hne2,q2,qA,q6,qR,csC,qC,hlC⟩,hsr4⟩:=hq
 simp only[fW]
 refine aD hW rfl hv4 (λw=>stepG_seq) ?_
 refine aD hW rfl hv4 (λw=>stepG_region) ?_
 exact hmid hsr4 q1 hne1 hne2 q2 qA q6 qR qC hlC hk
def xF(Wg Ba Bp Bl Bi:Ae):Deferred:={ target:=.fn (.func 46) #[bI Wg,bI Ba,bI Bp,bI Bl,bI Bi],args:=#[] }
noncomputable def aXg:Code:=Tryz.f46.body.getD .skip
noncomputable def oJ:Aw Oper:=match aXg with|.seq _ (.region _ o _)=>o|_=>#[]
def aTr(Wg Ba Bp Bl Bi:Ae)(w:Ag):stepG Ab Az (born Ab (xF Wg Ba Bp Bl Bi)) w =
 .go (G ((baseD 46).at ⟨#[bI Wg,bI Ba,bI Bp,bI Bl,bI Bi]++Bd 9 undef,[]⟩ [.code aXg]) [bot]) w #[]:=by
 simp[born,xF,stepG,unwind,callDeferred,invoke,callFunc,Tryz.func46,Tryz.f46,seen,CJ,G,Dt,Frame.at,baseD,bot,aXg]
def aRj(T:Aw AE)(todo:Ad Item):QuitsD Ab 2 0 (G { (baseD 46).at ⟨T,[]⟩ todo with mode:=.returning } [bot]):=by
 refine QuitsD.ctl (g':=G bot []) rfl (λw=>?_) ?_
 .simp[G,stepG,unwind,doReturn,results,Frame.at,baseD,bot,Tryz.func46,Tryz.f46,seen,CJ,goexitEntry]
 refine QuitsD.ctl (g':={ G bot []with status:=.finished }) rfl (λw=>?_) ⟨rfl,rfl⟩;simp[G,stepG,unwind,bot,goexitEntry,Frame.catches];rfl
structure DT(c0 c1 c2:D)(pr i rp rv er:Al)(sv:AE)(L:Ae->Prop)(Γ:Ae->AV):Prop where
 b1:Γ 1=.fp [c0,c1,c2]
 b2:Γ 2=.fp [.i .u64 pr]
 b3:Γ 3=.fp [.lit sv]
 b4:Γ 4=.fp [.i .i64 i]
 s0:L 0->Γ 6=.d (.lit sv)
 s1:L 1->Γ 7=.d (.i .i64 i)
 s2:L 2->Γ 8=.ag [.d c0,.d c1,.d c2]
 s3:L 3->Γ 9=.d (.i .u64 pr)
 s4:L 4->Γ 10=.tp [.ag [.d (.i .u64 rp),.d (.i .u64 rv)],.d (.i .i64 er)]
 s5:L 5->Γ 5=.tp [.ag [.d (.i .u64 rp),.d (.i .u64 rv)],.d (.i .i64 er)]
 s6:L 6->Γ 11=.ag [.d (.i .u64 rp),.d (.i .u64 rv)]
 n9:¬L 9
def cHf:(AW 7).all (λj=>bKj oJ 8 j)=true:=by kernel_rfl
def bTv{Wg Ba Bp Bl Bi:Ae}{p:Pl}{i:Ae}{v:Ag}{c0 c1 c2:D}{pr rp rv er:Al}{sv:AE}(hok:OkV v)
 (hBa:VD (λb=>b<v.heap.size) v (.pt [c0,c1,c2]) (bI Ba)) (hBp:VD (λb=>b<v.heap.size) v (.pt [.i .u64 pr]) (bI Bp)) (hBi:VD (λb=>b<v.heap.size) v (.pt [.i .i64 i]) (bI Bi)) (hBl:VD (λb=>b<v.heap.size) v (.pt [.lit sv]) (bI Bl))
 (hsp:letI:=eX Ab Az;Spec Ab 48 [.ag [c0,c1,c2],.i .u64 pr] (.tp [.ag [.i .u64 rp,.i .u64 rv],.i .i64 er]))
 (hlast:∀(a:Act) (v':Ag) (l:Ad Ae) (y:Aw AE),OkV v'->l=[9]\/l=[7,9]\/l=[9,7]->a.tmps.size=14->a.defers=[dcall 47 #[bI Wg]]->a.tmps.getD 6 undef=sv->a.tmps.getD 7 undef=.int .i64 i->a.tmps.getD 11 undef=.agg #[.int .u64 rp,.int .u64 rv]->a.tmps.getD 5 undef=.tuple y->y.size=2 ->
  zX Wg p i (G ((baseD 46).at a [.inRegion oJ (8::l)]) [bot]) v') :
 zX Wg p i (born Ab (xF Wg Ba Bp Bl Bi)) v:=by
 letI:=eX Ab Az
 have hW:(eX Ab Az).Fam (zX Wg p i):=.inl ⟨_,_,_,λ_ _ _ _ h _=>h,rfl⟩
 have hb:kA (baseD 46):=.inr rfl
 refine aD hW rfl hok (λw=>aTr Wg Ba Bp Bl Bi w) ?_
 simp only[oJ,aXg,Tryz.f46,AQ]at hlast ⊢
 refine aD hW rfl hok (λw=>stepG_seq) ?_
 refine aD hW rfl hok (λw=>stepG_region) ?_
 refine aD hW rfl hok (λw=>stepG_defer rfl rfl (by k_ne) rfl) ?_
 walk_nrm
 refine aD hW rfl hok (λw=>stepG_region_end) ?_
 refine bDc hW aT hok λt d=>?_
 refine aKw (Gx:=⟨v,λb=>b<v.heap.size,bG,λ_ _=>True,λ_=>Aj⟩) (N:=14) (ds:=[dcall 47 #[bI Wg]]) hW hb (λL σ=>DT c0 c1 c2 pr i rp rv er sv L σ.Γ) 8 (by decide) (by kernel_rfl) (by kernel_rfl) ?dst ?step ?fin _ _ _
  (StL [(1,.fp [c0,c1,c2]),(2,.fp [.i .u64 pr]),(3,.fp [.lit sv]),(4,.fp [.i .i64 i])] Aj []) _ _ (by simp) (by decide) (by rfl) ?h0 ?hsr
 case dst =>
  intro j o d ho hd
  refine⟨?_,rfl⟩
  rcases j with _|_|_|_|_|_|_|_|_|_|j<;>cases ho<;>cases hd<;>decide
 case hsr =>
  refine SR.env (uR (Z:=λ_=>Aj) hok rfl (λ_ _ h=>by simp at h) (lL _ ?_)) ⟨rfl,rfl,rfl,0,by simp⟩
  simp only[Du]
  exact⟨zC hBa,zC hBp,zC hBl,zC hBi,λ_ h=>by simp at h⟩
 case h0 =>
  constructor<;>(try rfl)
  all_goals intro h;exact absurd h (by decide)
 case step =>
  rintro L j o ho hj hns hd ⟨Γ,H,nn⟩ hT
  replace hT:DT c0 c1 c2 pr i rp rv er sv L Γ:=hT
  obtain⟨b1,b2,b3,b4,s0,s1,s2,s3,s4,s5,s6,n9⟩:=hT
  rcases j with _|_|_|_|_|_|_|_|_|_|j
  .cases ho
   simp[-E,-I,↓KW,b3]
   constructor<;>(try simp[upd,b1,b2,b3,b4])<;>(try assumption)
  .cases ho
   simp[-E,-I,↓KW,b4]
   constructor<;>(try simp[upd,b1,b2,b3,b4])<;>(try assumption)
  .cases ho
   simp[-E,-I,↓KW,b1]
   constructor<;>(try simp[upd,b1,b2,b3,b4])<;>(try assumption)
  .cases ho
   simp[-E,-I,↓KW,b2]
   constructor<;>(try simp[upd,b1,b2,b3,b4])<;>(try assumption)
  .cases ho
   have q2:=s2 (hd 2 (by kernel_rfl))
   have q3:=s3 (hd 3 (by kernel_rfl))
   simp[-E,-I,↓KW,q2,q3]
   refine aL hsp ?_
   simp[-E,-I,↓KW,q2,q3,show wH (D.ag [D.i .u64 rp,D.i .u64 rv])=Az from rfl,show wH (D.i .i64 er)=Ak from rfl]
   constructor<;>(try simp[upd,b1,b2,b3,b4])<;>(try assumption)
  .cases ho
   have q4:=s4 (hd 4 (by kernel_rfl))
   simp[-E,-I,↓KW,q4]
   constructor<;>(try simp[upd,b1,b2,b3,b4])<;>(try assumption)
  .cases ho
   have q5:=s5 (hd 5 (by kernel_rfl))
   simp[-E,-I,↓KW,q5]
   constructor<;>(try simp[upd,b1,b2,b3,b4,q5])<;>(try assumption)
  .cases ho
   have q5:=s5 (hd 5 (by kernel_rfl))
   simp[-E,-I,↓KW,q5]
   constructor<;>(try simp[upd,b1,b2,b3,b4,q5])<;>(try assumption)
  .exact absurd rfl hj
  .exact absurd (hd 8 (by kernel_rfl)) hns
  .cases ho
 case fin =>
  rintro fuel t' listed ⟨Γ,H,nn⟩ a v' hsz hls hu hdep hT hsr
  replace hT:DT c0 c1 c2 pr i rp rv er sv (λj=>listed.getD j Az=Ak) Γ:=hT
  obtain⟨b1,b2,b3,b4,s0,s1,s2,s3,s4,s5,s6,n9⟩:=hT
  have hq:∀j,j<7->listed.getD j Az=true:=λj hj=>hdep j (A1.1 cHf j (Cc.2 hj))
  have g6:=s0 (hq 0 (by decide));have g7:=s1 (hq 1 (by decide));have g5:=s5 (hq 5 (by decide));have g11:=s6 (hq 6 (by decide))
  have hli:∃x,listed=#[Ak,Ak,Ak,Ak,Ak,Ak,Ak,x,Az,Az]:=by
   obtain⟨l⟩:=listed;match l,hsz with
   | [a0,a1,a2,a3,a4,a5,a6,a7,a8,a9],_ =>
    have e0:=hq 0 (by decide);have e1:=hq 1 (by decide);have e2:=hq 2 (by decide);have e3:=hq 3 (by decide);have e4:=hq 4 (by decide);have e5:=hq 5 (by decide);have e6:=hq 6 (by decide)
    simp at e0 e1 e2 e3 e4 e5 e6 hls n9
    exact⟨a7,by simp[e0,e1,e2,e3,e4,e5,e6,hls,n9]⟩
  obtain⟨x,rfl⟩:=hli
  obtain⟨_,_,hv',F,ι,hR,_,hV,⟨hN,_⟩,hds,_⟩:=id hsr
  have e6:a.tmps.getD 6 undef=sv:=by have h:V F v' ι (Γ 6) _:=hV 6;rw[g6]at h;exact fF h
  have e7:a.tmps.getD 7 undef=.int .i64 i:=by have h:V F v' ι (Γ 7) _:=hV 7;rw[g7]at h;exact v_i h
  have e11:a.tmps.getD 11 undef=.agg #[.int .u64 rp,.int .u64 rv]:=by
   have h:V F v' ι (Γ 11) _:=hV 11;rw[g11]at h;generalize a.tmps.getD 11 undef=x at h;cases h with
   | ag cs vs hl h =>
    have h0:vs[0]? = Aa (.int .u64 rp):=by have hx:=Ar (xs:=vs) (i:=0) (by simp at hl;omega);rw[hx,v_i (h 0 _ _ rfl hx)]
    have h1:vs[1]? = Aa (.int .u64 rv):=by have hx:=Ar (xs:=vs) (i:=1) (by simp at hl;omega);rw[hx,v_i (h 1 _ _ rfl hx)]
    congr 1;apply FU;intro k;match k with
    |0=>exact h0
    |1=>exact h1
    |k+2=>rw[C3 (by simp at hl;omega)];simp
  obtain⟨y,hy,hy2⟩:∃y:Aw AE,a.tmps.getD 5 undef=.tuple y/\y.size=2:=by
   have h:V F v' ι (Γ 5) _:=hV 5;rw[g5]at h;generalize a.tmps.getD 5 undef=x at h;cases h with
   |tp cs vs hl h=>exact⟨vs,rfl,by simp at hl;omega⟩
  refine hlast a v' _ y hv' ?_ hN hds e6 e7 e11 hy hy2
  cases x with
  | true =>
   left
   cases fuel with
   |zero=>exact absurd hu (by decide)
   | succ fuel =>
    obtain⟨t2,h2⟩:=wB (ops:=oJ) (fuel:=fuel) (t:=t') (i:=9) (listed:=#[Ak,Ak,Ak,Ak,Ak,Ak,Ak,Ak,Ak,Az]) (by
     rw[show Bo .any oJ #[Ak,Ak,Ak,Ak,Ak,Ak,Ak,Ak,Ak,Az]=[9]from by kernel_rfl];simp[Nat.mod_one])
    refine h2.trans ?_
    rw[aSo (by kernel_rfl)]
  | false =>
   right
   match fuel,hu with
   |0,hu=>exact absurd hu (by decide)
   |1,hu=>exact absurd hu (by decide)
   | fuel+2,hu =>
    have hr:Bo .any oJ #[Ak,Ak,Ak,Ak,Ak,Ak,Ak,Az,Ak,Az]=[7,9]:=by kernel_rfl
    rcases Nat.mod_two_eq_zero_or_one t' with h|h
    .left
     obtain⟨t2,h2⟩:=wB (ops:=oJ) (fuel:=fuel+1) (t:=t') (i:=7) (listed:=#[Ak,Ak,Ak,Ak,Ak,Ak,Ak,Az,Ak,Az]) (by rw[hr];simp[h])
     refine h2.trans ?_
     obtain⟨t3,h3⟩:=wB (ops:=oJ) (fuel:=fuel) (t:=t2) (i:=9) (listed:=#[Ak,Ak,Ak,Ak,Ak,Ak,Ak,Ak,Ak,Az]) (by
      rw[show Bo .any oJ #[Ak,Ak,Ak,Ak,Ak,Ak,Ak,Ak,Ak,Az]=[9]from by kernel_rfl];simp[Nat.mod_one])
     refine congrArg (List.cons 7) (h3.trans ?_)
     rw[aSo (by kernel_rfl)]
    .right
     obtain⟨t2,h2⟩:=wB (ops:=oJ) (fuel:=fuel+1) (t:=t') (i:=9) (listed:=#[Ak,Ak,Ak,Ak,Ak,Ak,Ak,Az,Ak,Az]) (by rw[hr];simp[h])
     refine h2.trans ?_
     obtain⟨t3,h3⟩:=wB (ops:=oJ) (fuel:=fuel) (t:=t2) (i:=7) (listed:=#[Ak,Ak,Ak,Ak,Ak,Ak,Ak,Az,Ak,Ak]) (by
      rw[show Bo .any oJ #[Ak,Ak,Ak,Ak,Ak,Ak,Ak,Az,Ak,Ak]=[7]from by kernel_rfl];simp[Nat.mod_one])
     refine congrArg (List.cons 9) (h3.trans ?_)
     rw[aSo (by kernel_rfl)]
def bPb(w:Ag)(es:Aw Event):(sizeOf 48).runT Ab w es=(.ok 2 w,es):=by refine aUy Tryz.sizeOf48 (λw es=>?_) w es;simp[sizeOf,typeInfo,go_sem];split<;>simp[stuck]
def bZd{a:Act}{o:Bf}{C n cap i:Ae}(hop:o.op=.indexAddr 108 (.tmp 6) (.tmp 7))(hx:a.tmps.getD 6 undef=.slice (Aa ⟨C,0,Aj⟩) n cap)(hy:a.tmps.getD 7 undef=.int .i64 i)(hi:i<n)(w:Ag) :
 (execOp a.eval o).run Ab w=.ok (.value (.pointer (Aa ⟨C,i*2,Aj⟩))) w/\(execOp a.eval o).events Ab w #[]=#[]:=by
 have hx':a.eval (.tmp 6)=.slice (Aa ⟨C,0,Aj⟩) n cap:=hx
 have hy':a.eval (.tmp 7)=.int .i64 i:=hy
 have h0:(0:Al)<=i:=by omega
 have h1:(i:Al)<n:=by omega
 have ha:(⟨C,0,Aj⟩:Addr).add (i*2)=⟨C,i*2,Aj⟩:=by rw[fN,AP]
 unfold execOp
 simp only[hop,hx',hy']
 constructor
 .simp[go_sem,EN,Tryz.runUnderlying108,Tryz.sizeOf48,h0,h1,ha]
  intro hh;omega
 .simp[go_sem,EN,Tryz.runUnderlying108,Tryz.sizeOf48,h0,h1,ha]
  intro hh;omega
def bAu{Wg:Ae}{p:Pl}{i:Ae}{rp rv:Al}{y:Aw AE}(hwd:p.wd=2)(hi:i<p.n)(h0:p.val i 0=.int .u64 rp)(h1:p.val i 1=.int .u64 rv)
 {a2:Act} {v':Ag} {r:Ad Ae} (hr:r=[]\/r=[7]) (hds:a2.defers=[dcall 47 #[bI Wg]]) (e13:a2.eval (.tmp 13)=.pointer (Aa ⟨p.C,i*2,Aj⟩)) (e11:a2.eval (.tmp 11)=.agg #[.int .u64 rp,.int .u64 rv]) (e5:a2.tmps.getD 5 undef=.tuple y) (hy:y.size=2) :
 zX Wg p i (G ((baseD 46).at a2 [.inRegion oJ (9::r)]) [bot]) v':=by
 have hG7:∃o,oJ[7]? = Aa o/\o.op=.extract (.tmp 5) 1/\o.guard=Aj/\o.dst=Aa 12:=⟨_,rfl,rfl,rfl,rfl⟩
 have hG9:∃o,oJ[9]? = Aa o/\o.op=.store 48 (.tmp 13) (.tmp 11)/\o.dst=Aj/\o.guard=none:=⟨_,rfl,rfl,rfl,rfl⟩
 generalize oJ=ops at *
 obtain⟨o7,ho7,p7,g7,d7⟩:=hG7
 obtain⟨o9,ho9,p9,d9,g9⟩:=hG9
 have w7:∀T,Bu o7 T=true:=λT=>by simp[Bu,g7]
 have w9:Bu o9 (yielded ops a2.tmps)=true:=by simp[Bu,g9]
 refine⟨.leaf,rfl,rfl,λw hp=>?_⟩
 obtain⟨cur,f,hC,hsz,hf⟩:=hp
 have hpos:0<p.n*2:=by omega
 have hle:=p.le;rw[hwd]at hle
 have hfz:f=(0,0):=hf (by rw[hsz];omega)
 subst hfz
 have hfit:i*2+2<=cur.size:=by rw[hsz];have:(i+1)*2<=p.n*2:=Nat.mul_le_mul_right _ hi;omega
 obtain⟨w',es,hrn,he,hput,hes⟩:=bGa (P:=Ab) (n:=2) p9 e13 e11 rfl (by simp[Value.oneCell']) bPb hC hfit
 refine⟨_,w',_,stepG_none ho9 w9 (by k_ne) hrn,?_,λev hev=>?_,?_⟩
 .obtain⟨cur',g1,g2,g3,g4⟩:=hput.new
  refine⟨hput.tape,hput.os,hput.output,hput.size,hput.block,⟨cur',(0,0),g1,by rw[g2,hsz],λ_=>rfl⟩,λo ho=>?_,λr hr=>?_⟩
  .rw[hwd]at ho
   have:=g4 o (by simp;omega)
   simp[BN,g1,hC,this]
  .rw[hwd]at hr
   match r,hr with
   |0,_=>rw[h0];simpa[BN,Pl.cell,g1,hwd]using g3 0 _ rfl
   |1,_=>rw[h1];simpa[BN,Pl.cell,g1,hwd]using g3 1 _ rfl
 .have:=mem_listed hev
  rw[he]at this
  obtain⟨r,hr,rfl⟩:=hes ev this
  exact⟨r,by omega,by simp[Pl.cell,hwd]⟩
 .rw[d9]
  have hdone:∀T:Aw AE,Dl Ab Az (cQ bF.tWg Wg) noE (uT Ab bF Wg) 0 (G ((baseD 46).at ⟨T,a2.defers⟩ [.inRegion ops []]) [bot]):=λT=>by
   refine aC (Dl.done ?_);refine Dl.ctl rfl (λw _=>stepG_unwind_enter hds Tryz.func47 (nm_done bF) rfl) ?_;have hq:bWd Wg:=λhcm hq=>aOk qB hcm hq
   have:=hq (c:={ (baseD 46).at ⟨T,[]⟩ []with mode:=.returning }) (cs:=[bot]) rfl (aRj T []);simp only[body_done,doneFn,AQ]at this;exact this
  rcases hr with rfl|rfl
  .exact hdone a2.tmps
  .have h1:y[1]? = Aa y[1]:=Ar (by omega)
   have h5:a2.tmps[5]?.getD undef=.tuple y:=by rw[<-e5];simp
   refine aJ y[1] ho7 (w7 _) (by k_ne) (λw _=>?_) (λw _=>?_) (by rw[d7];exact hdone ((a2.put Aj undef).put (Aa 12) y[1]).tmps)
   all_goals
    unfold execOp
    simp only[p7]
    simp[Cv,go_sem,h1,h5,hy]
def bKc{Wg:Ae}{p:Pl}{i n cap:Ae}{rp rv:Al}(hwd:p.wd=2)(hi:i<p.n)(hn:p.n=n)(h0:p.val i 0=.int .u64 rp)(h1:p.val i 1=.int .u64 rv)
 {a:Act} {v':Ag} {l:Ad Ae} {y:Aw AE} (hv:OkV v') (hl:l=[9]\/l=[7,9]\/l=[9,7]) (hN:a.tmps.size=14) (hds:a.defers=[dcall 47 #[bI Wg]]) (e6:a.tmps.getD 6 undef=.slice (Aa ⟨p.C,0,Aj⟩) n cap) (e7:a.tmps.getD 7 undef=.int .i64 i) (e11:a.tmps.getD 11 undef=.agg #[.int .u64 rp,.int .u64 rv]) (e5:a.tmps.getD 5 undef=.tuple y) (hy:y.size=2) :
 zX Wg p i (G ((baseD 46).at a [.inRegion oJ (8::l)]) [bot]) v':=by
 have hW:(eX Ab Az).Fam (zX Wg p i):=.inl ⟨_,_,_,λ_ _ _ _ h _=>h,rfl⟩
 letI:=eX Ab Az
 have hG7:∃o,oJ[7]? = Aa o/\o.op=.extract (.tmp 5) 1/\o.guard=Aj/\o.dst=Aa 12:=⟨_,rfl,rfl,rfl,rfl⟩
 have hG8:∃o,oJ[8]? = Aa o/\o.op=.indexAddr 108 (.tmp 6) (.tmp 7)/\o.dst=Aa 13/\o.guard=none:=⟨_,rfl,rfl,rfl,rfl⟩
 have hst:=λ(a2:Act) (v':Ag) (r:Ad Ae) hr hds e13 e11 e5=>bAu (Wg:=Wg) (p:=p) (i:=i) (rp:=rp) (rv:=rv) (y:=y) (a2:=a2) (v':=v') (r:=r) hwd hi h0 h1 hr hds e13 e11 e5 hy
 generalize oJ=ops at *
 obtain⟨o7,ho7,p7,g7,d7⟩:=hG7
 obtain⟨o8,ho8,p8,d8,g8⟩:=hG8
 have w8:Bu o8 (yielded ops a.tmps)=true:=by simp[Bu,g8]
 refine aD hW (g':=G ((baseD 46).at (a.put o8.dst (.pointer (Aa ⟨p.C,i*2,Aj⟩))) [.inRegion ops l]) [bot]) rfl hv (λw=>?_) ?_
 .have hx:=bZd p8 e6 e7 (by omega) w
  rw[stepG_value ho8 w8 (by k_ne) hx.1];unfold listed;rw[hx.2,seen_none]
 rw[d8]
 have hget:∀t,t≠13->(a.put (Aa 13) (.pointer (Aa ⟨p.C,i*2,Aj⟩))).tmps.getD t undef=a.tmps.getD t undef:=λt ht=>by simp[Cv,Au,AI (DZ ht)]
 have h13:(a.put (Aa 13) (.pointer (Aa ⟨p.C,i*2,Aj⟩))).tmps.getD 13 undef=.pointer (Aa ⟨p.C,i*2,Aj⟩):=by simp[Cv,Au,hN]
 have hds':(a.put (Aa 13) (.pointer (Aa ⟨p.C,i*2,Aj⟩))).defers=a.defers:=rfl
 have hN':(a.put (Aa 13) (.pointer (Aa ⟨p.C,i*2,Aj⟩))).tmps.size=14:=by simp[Cv,hN]
 generalize a.put (Aa 13) (.pointer (Aa ⟨p.C,i*2,Aj⟩))=a2 at hget h13 hds' hN'
 have k11:=(hget 11 (by decide)).trans e11
 have k5:=(hget 5 (by decide)).trans e5
 have kds:=hds'.trans hds
 rcases hl with rfl|rfl|rfl
 .exact hst a2 v' [] (.inl rfl) kds h13 k11 k5
 .have w7:Bu o7 (yielded ops a2.tmps)=true:=by simp[Bu,g7]
  have q1:y[1]? = Aa y[1]:=Ar (by omega)
  have q5:a2.eval (.tmp 5)=.tuple y:=k5
  have hx:∀w,(execOp a2.eval o7).run Ab w=.ok (.value y[1]) w/\(execOp a2.eval o7).events Ab w #[]=#[]:=λw=>by unfold execOp;simp only[p7,q5];constructor<;>simp[go_sem,q1,hy]
  refine aD hW (g':=G ((baseD 46).at (a2.put o7.dst y[1]) [.inRegion ops [9]]) [bot]) rfl hv (λw=>?_) ?_
  .rw[stepG_value ho7 w7 (by k_ne) (hx w).1];unfold listed;rw[(hx w).2,seen_none]
  rw[d7]
  have hg2:∀t,t≠12->(a2.put (Aa 12) y[1]).tmps.getD t undef=a2.tmps.getD t undef:=λt ht=>by simp[Cv,Au,AI (DZ ht)]
  exact hst _ v' [] (.inl rfl) kds ((hg2 13 (by decide)).trans h13) ((hg2 11 (by decide)).trans k11) ((hg2 5 (by decide)).trans k5)
 .exact hst a2 v' [7] (.inr rfl) kds h13 k11 k5
def cAf{Wg Ba Bp Bl Bi:Ae}{p:Pl}{i n cap:Ae}{v:Ag}{c0 c1 c2:D}{pr rp rv er:Al}(hwd:p.wd=2)(hi:i<p.n)(hn:p.n=n)(h0:p.val i 0=.int .u64 rp)(h1:p.val i 1=.int .u64 rv)(hok:OkV v)
 (hBa:VD (λb=>b<v.heap.size) v (.pt [c0,c1,c2]) (bI Ba)) (hBp:VD (λb=>b<v.heap.size) v (.pt [.i .u64 pr]) (bI Bp)) (hBi:VD (λb=>b<v.heap.size) v (.pt [.i .i64 i]) (bI Bi)) (hBl:VD (λb=>b<v.heap.size) v (.pt [.lit (.slice (Aa ⟨p.C,0,Aj⟩) n cap)]) (bI Bl))
 (hsp:letI:=eX Ab Az;Spec Ab 48 [.ag [c0,c1,c2],.i .u64 pr] (.tp [.ag [.i .u64 rp,.i .u64 rv],.i .i64 er])) :
 ∃tr,GTw Ab bF Wg p i tr 0 (born Ab (xF Wg Ba Bp Bl Bi)) v :=
 bTv (p:=p) (Wg:=Wg) hok hBa hBp hBi hBl hsp λa v' l y hv hl hN hds e6 e7 e11 e5 hy=>bKc hwd hi hn h0 h1 hv hl hN hds e6 e7 e11 e5 hy
noncomputable def gD:Code:=EB.body.getD .skip
noncomputable def cE:Code:=match gD with|.seq _ (.seq _ (.seq _ (.seq _ (.seq _ (.seq _ (.seq (.seq _ (.block _ (.loop c))) _))))))=>c|_=>.skip
noncomputable def tE:Code:=match gD with|.seq _ (.seq _ (.seq _ (.seq _ (.seq _ (.seq _ (.seq _ c))))))=>c|_=>.skip
noncomputable def tE2:Code:=match tE with|.seq _ c=>c|_=>.skip
noncomputable def aRr:Aw Oper:=match tE with|.seq (.region _ ops _) _=>ops|_=>#[]
structure RID(Wg bA bO bR C n cap:Ae)(c0 c1 c2:D)(lD:Ad (Ad D))(k:Ae)(a:Act)(V:Ag):Prop where
 size:a.tmps.size=40
 ds:a.defers=[]
 s2:a.tmps.getD 1 undef=bI bA
 sO:a.tmps.getD 2 undef=bI bO
 s6:a.tmps.getD 7 undef=bI bR
 s7:a.tmps.getD 8 undef=bI Wg
 s26:VD (λb=>b<V.heap.size) V (.sl lD) (a.tmps.getD 25 undef)
 s27:a.tmps.getD 26 undef=.int .i64 n
 s28:a.tmps.getD 27 undef=.int .i64 k
 ok:OkV V
 dA:VD (λb=>b<V.heap.size) V (.pt [c0,c1,c2]) (bI bA)
 dR:VD (λb=>b<V.heap.size) V (.pt [.lit (.slice (Aa ⟨C,0,Aj⟩) n cap)]) (bI bR)
def bHk{a:Act}{o:Bf}{x7 x2 x9 x8 x6:AE}(hop:o.op=.makeFunc (.func 46) #[] #[.tmp 8,.tmp 1,.tmp 10,.tmp 7,.tmp 9])(h7:a.eval (.tmp 8)=x7)(h2:a.eval (.tmp 1)=x2)(h9:a.eval (.tmp 10)=x9)(h8:a.eval (.tmp 9)=x8)(h6:a.eval (.tmp 7)=x6)(w:Ag) :
 (execOp a.eval o).run Ab w=.ok (.value (.func (.func 46) #[] #[x7,x2,x9,x6,x8])) w/\(execOp a.eval o).events Ab w #[]=#[]:=by
 have ev:∀{t:Ae} {x:AE},a.eval (.tmp t)=x->a.tmps[t]?.getD undef=x:=λh=>by rw[<-h];simp[Dh]
 unfold execOp
 simp only[hop]
 constructor<;>simp[F8,ev h7,ev h2,ev h9,ev h8,ev h6,go_sem]
def bJc{a:Act}{o:Bf}{cap:Aw AE}(hop:o.op=.go { callee:=.value (.tmp 33),args:=#[],argTypes:=#[] })(h:a.eval (.tmp 33)=.func (.func 46) #[] cap)(w:Ag) :
 (execOp a.eval o).run Ab w=.ok (.spawn { target:=.fn (.func 46) cap,args:=#[] }) w/\(execOp a.eval o).events Ab w #[]=#[]:=by
 have h':a.tmps[33]?.getD undef=.func (.func 46) #[] cap:=by rw[<-h];simp[Dh]
 unfold execOp
 simp only[hop]
 constructor<;>simp[h',go_sem]
section
variable {Wg bA bO bR cap:Ae} {p:Pl} {c0 c1 c2:D} {lD:Ad (Ad D)} {a:Act} {V:Ag} {k:Ae} {K An:Ay->Prop} {cs:Ad BU}
def aBq(bA bO bR Wg n k:Ae)(lD:Ad (Ad D)):Ad (Ae×AV):=[(1,.d (.lit (bI bA))),(2,.d (.lit (bI bO))),(7,.d (.lit (bI bR))),(8,.d (.lit (bI Wg))),(25,.d (.sl lD)),(26,.d (.i .i64 n)),(27,.d (.i .i64 k))]
def RID.sr(h:RID Wg bA bO bR p.C p.n cap c0 c1 c2 lD k a V):SR ⟨V,λb=>b<V.heap.size,bG,λ_ _=>True,λ_=>Aj⟩ 40 [] (StL (aBq bA bO bR Wg p.n k lD) Aj []) a V:=by
 rw[<-h.ds];refine uR (Z:=λ_=>Aj) h.ok h.size (λ_ _ h=>by simp at h) (lL (T:=λt=>a.tmps.getD t undef) _ ?_);simp only[aBq,Du];refine⟨.d _ _ ?_,.d _ _ ?_,.d _ _ ?_,.d _ _ ?_,.d _ _ h.s26,.d _ _ ?_,.d _ _ ?_,λ_ h=>by simp at h⟩
 .rw[h.s2];exact .lit _
 .rw[h.sO];exact .lit _
 .rw[h.s6];exact .lit _
 .rw[h.s7];exact .lit _
 .rw[h.s27];exact .i _ _
 .rw[h.s28];exact .i _ _
def aRg(h:RID Wg bA bO bR p.C p.n cap c0 c1 c2 lD p.n a V)(hl:lD.length=p.n)
 (hAn:∀a:Act,a.tmps.getD 7 undef=bI bR->a.tmps.getD 2 undef=bI bO->a.tmps.size=40->a.defers=[]->∀g,tV bF Wg (((base 8)).at a [.inRegion aRr [0],.code tE2]) cs g->An g)
 (hHd:∀g,An g->Dl Ab Ak (cQ bF.tWg Wg) (cZ Wg) (λd g=>d=1/\tN Ab bF Wg K An d g) 1 g) :
 kQ Ab bF Wg p K An 0 (G (((base 8)).at a [.code cE,.inLoop cE,.inBlock 0,.code tE]) cs) V:=by
 letI:=eX Ab Ak
 have hW:=kW (Wg:=Wg) (p:=p) (K:=K) (An:=An) 0
 have hb:kA (base 8):=.inl rfl
 simp only[cE,tE,gD,EB,AQ]
 refine aD hW rfl h.ok (λw=>stepG_seq) ?_
 refine bZ aT (λ_=>rfl) _ (λe σ=>e=.normal/\σ.Γ 28=.d (.b Az)/\σ.Γ 7=.d (.lit (bI bR))/\σ.Γ 8=.d (.lit (bI Wg))/\σ.Γ 2=.d (.lit (bI bO))) _ _ _ (by kernel_rfl) (by kernel_rfl) ?hawp h.sr _ hW h.ok _ _ _ hb λe a' v' hv' hq=>?_
 case hawp =>
  simp only[aBq]
  simp[-E,-I,↓KW]
 obtain⟨σ,⟨rfl,q29,q6,q7,qO⟩,hsr⟩:=hq
 obtain⟨_,_,_,F,ι,hR,_,hV,⟨hN,_⟩,hds,_⟩:=hsr
 have e29:a'.eval (.tmp 28)=.bool false:=by
  have h:=hV 28;rw[q29]at h;cases h with|d _ _ h =>
   show a'.tmps.getD 28 undef=_
   generalize a'.tmps.getD 28 undef=x at h
   cases h;rfl
 have e6:a'.tmps.getD 7 undef=bI bR:=by have h:=hV 7;rw[q6]at h;exact fF h
 have e7:a'.tmps.getD 8 undef=bI Wg:=by have h:=hV 8;rw[q7]at h;exact fF h
 have eO:=fF (qO ▸ hV 2)
 simp only[fW]
 refine aD hW rfl hv' (λw=>stepG_seq) ?_
 refine aD hW rfl hv' (λw=>stepG_cond e29) ?_
 refine aD hW rfl hv' (λw=>stepG_exit rfl) ?_
 refine aD hW rfl hv' (λw=>stepG_seq) ?_
 refine aD hW rfl hv' (λw=>stepG_region) ?_
 have hd:Dl Ab Ak (cQ bF.tWg Wg) (cZ Wg) (λd g=>d=1/\tN Ab bF Wg K An d g) 0 (G (((base 8)).at a' [.inRegion aRr [0],.code tE2]) cs):=by refine dE (f:=bF.wait) (fn:=waitFn bF) (c:=body_wait bF) rfl rfl (by k_ne) rfl qB.f_wait (nm_wait bF) rfl ((aBa qB ?_).bind λd g hh=>by rw[hh.1];exact hHd g (hAn a' e6 eO hN hds g hh.2));have:a'.eval (.tmp 8)=bI Wg:=e7;simp[this,waitFn,bI]
 simp only[aRr,tE2,tE,gD,EB,AQ]at hd
 obtain⟨tr,hg⟩:=hd.gt (Stop:=aHp Ab bF Wg K An) hv' λd g v1 _ hk=>⟨.leaf,hk⟩
 exact⟨tr,hg⟩
noncomputable def aVk:Aw Oper:=match cE with|.seq _ (.seq _ (.seq (.block _ (.seq _ (.seq (.region _ o _) _))) _))=>o|_=>#[]
noncomputable def bUq:Code:=match cE with|.seq _ (.seq _ (.seq (.block _ (.seq _ (.seq _ c))) _))=>c|_=>.skip
noncomputable def bUo:Code:=match cE with|.seq _ (.seq _ (.seq _ c))=>c|_=>.skip
noncomputable def r9E:Code:=match cE with|.seq _ (.seq _ (.seq (.block _ (.seq c _)) _))=>c|_=>.skip
def aLz{r:Ae}{pk:Al}(h:RID Wg bA bO bR p.C p.n cap c0 c1 c2 lD k a V)(hk:k<p.n)(hl:lD.length=p.n)(hlk:lD[k]? = Aa [.i .u64 pk])(hr:p.n-(r+1)=k)(hn:p.n<2147483648)(hfA:jY (.pt [c0,c1,c2]))(hfL:jY (.sl lD))
 (hwork:∀(V':Ag) (Bp Bi:Ae),OkV V'->VD (λb=>b<V'.heap.size) V' (.pt [c0,c1,c2]) (bI bA)->VD (λb=>b<V'.heap.size) V' (.pt [.i .u64 pk]) (bI Bp)->VD (λb=>b<V'.heap.size) V' (.pt [.i .i64 k]) (bI Bi) ->
  VD (λb=>b<V'.heap.size) V' (.pt [.lit (.slice (Aa ⟨p.C,0,Aj⟩) p.n cap)]) (bI bR)->∃tr,GTw Ab bF Wg p k tr 0 (born Ab (xF Wg bA Bp bR Bi)) V')
 (hnext:∀a' V',RID Wg bA bO bR p.C p.n cap c0 c1 c2 lD (k+1) a' V'->kQ Ab bF Wg p K An r (G (((base 8)).at a' [.code cE,.inLoop cE,.inBlock 0,.code tE]) cs) V') :
 kQ Ab bF Wg p K An (r+1) (G (((base 8)).at a [.code cE,.inLoop cE,.inBlock 0,.code tE]) cs) V:=by
 letI:=eX Ab Ak
 have hW:=kW (Wg:=Wg) (p:=p) (K:=K) (An:=An) (r+1)
 have hb:kA (base 8):=.inl rfl
 have hk0:(0:Al)<=k:=by omega
 have hk1:(k:Al)<p.n:=by omega
 have hk2:(k:Al)<(lD.length:Al):=by omega
 have hkl:k<lD.length:=by omega
 have hlk':lD[k]=[.i .u64 pk]:=(AA.1 hlk).2
 rw[show([.code cE,.inLoop cE,.inBlock 0,.code tE]:Ad Item)=[.code cE]++[.inLoop cE,.inBlock 0,.code tE]from rfl]
 generalize hKT:([.inLoop cE,.inBlock 0,.code tE]:Ad Item)=KT
 simp only[cE,gD,EB,AQ,Cz,Ea]
 refine aD hW rfl h.ok (λw=>stepG_seq) ?_
 refine bZ aT (λ_=>rfl) _ (λe σ=>e=.normal/\σ.Γ 28=.d (.b Ak)/\AWP Ab r9E σ λe σ'=>e=.normal/\∃i8 i9,σ'.Γ 9=.ptr i8 0/\σ'.H i8=Aa (.cells 3 [.d (.i .i64 k)])/\σ'.Γ 10=.ptr i9 0/\σ'.H i9=Aa (.cells 46 [.d (.i .u64 pk)]) /\
  σ'.Γ 1=.d (.lit (bI bA))/\σ'.Γ 2=.d (.lit (bI bO))/\σ'.Γ 7=.d (.lit (bI bR))/\σ'.Γ 8=.d (.lit (bI Wg))/\σ'.Γ 25=.d (.sl lD)/\σ'.Γ 26=.d (.i .i64 p.n)/\σ'.Γ 27=.d (.i .i64 k)) _ _ _ (by kernel_rfl) (by kernel_rfl) ?hawp h.sr _ hW h.ok _ _ _ hb λe a1 V1 hv1 hq=>?_
 case hawp =>
  simp only[aBq,r9E,cE,gD,EB,AQ]
  simp[-E,-I,↓KW,hk0,hk1,hk2,hkl,hlk,hlk']
 obtain⟨σ,⟨rfl,q29,hA9⟩,hsr⟩:=hq
 have e29:a1.eval (.tmp 28)=.bool true:=by obtain⟨_,_,_,F,ι,_,_,hV,_⟩:=id hsr;have h:=hV 28;rw[q29]at h;exact v_b h
 simp only[fW]
 refine aD hW rfl hv1 (λw=>stepG_seq) ?_
 refine aD hW rfl hv1 (λw=>stepG_cond e29) ?_
 simp only[CN]
 refine aD hW rfl hv1 (λw=>stepG_skip) ?_
 refine aD hW rfl hv1 (λw=>stepG_seq) ?_
 refine aD hW rfl hv1 (λw=>stepG_block) ?_
 refine aD hW rfl hv1 (λw=>stepG_seq) ?_
 simp only[r9E,cE,gD,EB,AQ]at hA9
 refine bZ aT (λ_=>rfl) _ _ _ _ _ (by kernel_rfl) (by kernel_rfl) hA9 hsr _ hW hv1 _ _ _ hb λe a2 V2 hv2 hq=>?_
 obtain⟨σ',⟨rfl,i8,i9,q8,qH8,q9,qH9,q2,qO,q6,q7,q26,q27,q28⟩,_,_,_,F,ι,hR,_,hV,⟨hN,_⟩,hds,_⟩:=hq
 obtain⟨b8,hb8,e8⟩:=uV (q8 ▸ hV 9)
 obtain⟨b9,hb9,e9⟩:=uV (q9 ▸ hV 10)
 have e2:=fF (q2 ▸ hV 1)
 have eO:=fF (qO ▸ hV 2)
 have e6:=fF (q6 ▸ hV 7)
 have e7:=fF (q7 ▸ hV 8)
 have e27:=v_i (q27 ▸ hV 26)
 have e28:=v_i (q28 ▸ hV 27)
 have hd8:=vH hR hb8 qH8
 have hd9:=vH hR hb9 qH9
 have hsame:jF (λb=>b<V.heap.size) V V2:=λb hb c e f hc=>⟨f,by rw[hR.kept.block b hb (λh=>h)];exact hc⟩
 have hge:V.heap.size<=V2.heap.size:=hR.kept.size
 have hdA:VD (λb=>b<V2.heap.size) V2 (.pt [c0,c1,c2]) (bI bA):=(hfA _ V V2 _ hsame h.dA).mono λb hb=>Be hb hge
 have hdR:VD (λb=>b<V2.heap.size) V2 (.pt [.lit (.slice (Aa ⟨p.C,0,Aj⟩) p.n cap)]) (bI bR):=(eN (by simp[gA]) _ V V2 _ hsame h.dR).mono λb hb=>Be hb hge
 have hdL:VD (λb=>b<V2.heap.size) V2 (.sl lD) (a2.tmps.getD 25 undef):=by have h:=hV 25;rw[q26]at h;cases h with|d _ _ h=>exact h.mono hR.F_lt
 simp only[fW]
 refine aD hW rfl hv2 (λw=>stepG_seq) ?_
 refine aD hW rfl hv2 (λw=>stepG_region) ?_
 -- the call of Add
 have hKA:∀v1,Env V2 v1->OkV v1->∃tr,GTm Ab bF Wg (aKs Ab bF Wg p k (kQ Ab bF Wg p K An r)) tr 0 (G (((base 8)).at (a2.put (Aa 32) (.tuple #[])) (.inRegion aVk []::.code bUq::.inBlock 1::.code bUo::KT)) cs) v1:=by
  intro v1 he1 ho1;have hW2:(eX Ab Ak).Fam (GoW Ab Ak (cQ bF.tWg Wg) (cZ Wg) (aKs Ab bF Wg p k (kQ Ab bF Wg p K An r))):=.inl ⟨_,_,_,aEd,rfl⟩;have hg:∀t,t≠32->(a2.put (Aa 32) (.tuple #[])).eval (.tmp t)=a2.tmps.getD t undef:=λt ht=>by simp[Cv,Dh,Au,AI (DZ ht)]
  have hsz3:(a2.put (Aa 32) (.tuple #[])).tmps.size=40:=by simp[Cv,hN]
  have hds3:(a2.put (Aa 32) (.tuple #[])).defers=[]:=hds;generalize a2.put (Aa 32) (.tuple #[])=a3 at hg hsz3 hds3;simp only[aVk,bUq,bUo,cE,gD,EB,AQ];refine aD hW2 rfl ho1 (λw=>stepG_region_end) ?_;refine aD hW2 rfl ho1 (λw=>stepG_region) ?_;have g7:=(hg 8 (by decide)).trans e7;have g2:=(hg 1 (by decide)).trans e2;have g9:=(hg 10 (by decide)).trans e9;have g8:=(hg 9 (by decide)).trans e8;have g6:=(hg 7 (by decide)).trans e6;refine aD hW2 rfl ho1 (λw=>(stepG_value rfl rfl (by k_ne) (bHk rfl g7 g2 g9 g8 g6 w).1).trans (by unfold listed;rw[(bHk rfl g7 g2 g9 g8 g6 w).2,seen_none])) ?_;have h34:∀x,(a3.put (Aa 33) x).eval (.tmp 33)=x:=λx=>by simp[Cv,Dh,Au,hsz3]
  have hg4:∀x t,t≠33->(a3.put (Aa 33) x).tmps.getD t undef=a3.eval (.tmp t):=λx t ht=>by simp[Cv,Dh,Au,AI (DZ ht)]
  refine⟨.leaf,rfl,rfl,λv2 he2=>⟨_,_,λw hs hI=>(stepG_spawn rfl rfl (by k_ne) (bJc rfl (h34 _) w).1 rfl).trans (by unfold listed;rw[(bJc rfl (h34 _) w).2,seen_none]),rfl,?_,?_⟩⟩;all_goals
   have hse:jF (λb=>b<V2.heap.size) V2 (gL v2):=(sL (he1.trans he2)).trans (aBt _ _)
   have hfs:∀b,b<V2.heap.size->b<(gL v2).heap.size:=λb hb=>by rw[tA];exact Be hb (he1.trans he2).size
  .exact hwork (gL v2) b9 b8 (wD _) ((hfA _ _ _ _ hse hdA).mono hfs) ((eN (by simp[pR]) _ _ _ _ hse hd9).mono hfs) ((eN (by simp[pR]) _ _ _ _ hse hd8).mono hfs) ((eN (by simp[gA]) _ _ _ _ hse hdR).mono hfs)
  have hW3:=kW (Wg:=Wg) (p:=p) (K:=K) (An:=An) r;generalize hx:Value.func (.func 46) #[] #[bI Wg,bI bA,.pointer (Aa ⟨b9,0,Aj⟩),bI bR,.pointer (Aa ⟨b8,0,Aj⟩)]=x;have hri:RID Wg bA bO bR p.C p.n cap c0 c1 c2 lD k ((a3.put (Aa 33) x).put Aj undef) (gL v2):=by
   have hg5:∀t,t≠33->t≠32->((a3.put (Aa 33) x).put Aj undef).tmps.getD t undef=a2.tmps.getD t undef:=λt h1 h2=>(hg4 x t h1).trans (hg t h2)
   refine⟨by simp[Cv,hsz3],hds3,(hg5 1 (by decide) (by decide)).trans e2,(hg5 2 (by decide) (by decide)).trans eO,(hg5 7 (by decide) (by decide)).trans e6,(hg5 8 (by decide) (by decide)).trans e7,?_,(hg5 26 (by decide) (by decide)).trans e27,(hg5 27 (by decide) (by decide)).trans e28,wD _,(hfA _ _ _ _ hse hdA).mono hfs,(eN (by simp[gA]) _ _ _ _ hse hdR).mono hfs⟩;rw[hg5 25 (by decide) (by decide)];exact(hfL _ _ _ _ hse hdL).mono hfs
  show kQ Ab bF Wg p K An r (G (((base 8)).at ((a3.put (Aa 33) x).put Aj undef) _) cs) (gL v2);generalize(a3.put (Aa 33) x).put Aj undef=a5 at hri;refine aD hW3 rfl hri.ok (λw=>stepG_region_end) ?_;refine aD hW3 rfl hri.ok (λw=>stepG_inBlock) ?_;refine bZ aT (λ_=>rfl) _ (λe σ=>e=.normal/\σ.Γ 27=.d (.i .i64 (k+1))/\σ.Γ 1=.d (.lit (bI bA))/\σ.Γ 2=.d (.lit (bI bO))/\σ.Γ 7=.d (.lit (bI bR))/\σ.Γ 8=.d (.lit (bI Wg))/\σ.Γ 25=.d (.sl lD)/\σ.Γ 26=.d (.i .i64 p.n)) _ _ _ (by kernel_rfl) (by kernel_rfl) ?hawp3 hri.sr _ hW3 hri.ok _ _ _ hb λe a6 V6 hv6 hq=>?_
  case hawp3 =>
   have hw:Ax.wrap ((k:Al)+1)=k+1:=bP
   simp only[aBq]
   simp[-E,-I,↓KW,hw]
  obtain⟨σ6,⟨rfl,q28',q2',qO',q6',q7',q26',q27'⟩,_,_,_,F6,ι6,hR6,_,hV6,⟨hN6,_⟩,hds6,_⟩:=hq;simp only[fW];subst hKT;refine aD hW3 rfl hv6 (λw=>stepG_inLoop) ?_;have hs6:jF (λb=>b<(gL v2).heap.size) (gL v2) V6:=λb hb c e f hc=>⟨f,by rw[hR6.kept.block b hb (λh=>h)];exact hc⟩
  have hf6:∀b,b<(gL v2).heap.size->b<V6.heap.size:=λb hb=>Be hb hR6.kept.size
  refine hnext a6 V6 ⟨hN6,hds6,fF (q2' ▸ hV6 1),fF (qO' ▸ hV6 2),fF (q6' ▸ hV6 7),fF (q7' ▸ hV6 8),?_,v_i (q27' ▸ hV6 26),?_,hv6,(hfA _ _ _ _ hs6 hri.dA).mono hf6,(eN (by simp[gA]) _ _ _ _ hs6 hri.dR).mono hf6⟩
  .have h:=hV6 25;rw[q26']at h;cases h with|d _ _ h=>exact h.mono hR6.F_lt
  .have:=v_i (q28' ▸ hV6 27);simpa using this
 have hd:Dl Ab Ak (cQ bF.tWg Wg) (cZ Wg) (λd g=>d=1/\aEr Ab bF Wg (λd' g'=>d'=0/\∀v1,Env V2 v1->OkV v1->∃tr,GTm Ab bF Wg (aKs Ab bF Wg p k (kQ Ab bF Wg p K An r)) tr 0 g' v1) d g) 0
  (G (((base 8)).at a2 (.inRegion aVk [0]::.code bUq::.inBlock 1::.code bUo::KT)) cs):=by
  refine dE (f:=bF.add) (fn:=addFn bF) (c:=body_add bF) rfl rfl (by k_ne) rfl qB.f_add (nm_add bF) rfl (aPh qB ?_ ⟨rfl,hKA⟩)
  have:a2.eval (.tmp 8)=bI Wg:=e7
  have hc:a2.eval (.const (.int .i64 1))=.int .i64 1:=rfl
  simp[this,hc,addFn,bI]
 simp only[aVk,bUq,bUo,cE,gD,EB,AQ]at hd
 obtain⟨tr,hg⟩:=hd.gt (Stop:=aPm Ab bF Wg p (p.n-(r+1)) (kQ Ab bF Wg p K An r)) hv2 λd g v1 he hk=>⟨.leaf,hk.1,uO (λd' g' hx v2 he2 ho2=>by rw[hr,hx.1];exact hx.2 v2 (he.trans he2) ho2) hk.2⟩
 exact⟨tr,hg⟩
end
def aUz{Wg bA bO bR cap:Ae}{p:Pl}{c0 c1 c2:D}{lD:Ad (Ad D)}{K An:Ay->Prop}{cs:Ad BU}(hl:lD.length=p.n)(hn:p.n<2147483648)(hfA:jY (.pt [c0,c1,c2]))(hfL:jY (.sl lD))
 (hw:∀k,k<p.n->∃pk,lD[k]? = Aa [.i .u64 pk]/\∀(V':Ag) (Bp Bi:Ae),OkV V'->VD (λb=>b<V'.heap.size) V' (.pt [c0,c1,c2]) (bI bA)->VD (λb=>b<V'.heap.size) V' (.pt [.i .u64 pk]) (bI Bp)->VD (λb=>b<V'.heap.size) V' (.pt [.i .i64 k]) (bI Bi) ->
  VD (λb=>b<V'.heap.size) V' (.pt [.lit (.slice (Aa ⟨p.C,0,Aj⟩) p.n cap)]) (bI bR)->∃tr,GTw Ab bF Wg p k tr 0 (born Ab (xF Wg bA Bp bR Bi)) V')
 (hAn:∀a:Act,a.tmps.getD 7 undef=bI bR->a.tmps.getD 2 undef=bI bO->a.tmps.size=40->a.defers=[]->∀g,tV bF Wg (((base 8)).at a [.inRegion aRr [0],.code tE2]) cs g->An g)
 (hHd:∀g,An g->Dl Ab Ak (cQ bF.tWg Wg) (cZ Wg) (λd g=>d=1/\tN Ab bF Wg K An d g) 1 g) :
 ∀(r k:Ae) (a:Act) (V:Ag),k+r=p.n->RID Wg bA bO bR p.C p.n cap c0 c1 c2 lD k a V->kQ Ab bF Wg p K An r (G (((base 8)).at a [.code cE,.inLoop cE,.inBlock 0,.code tE]) cs) V
 | 0,k,a,V,hk,h=>by
  obtain rfl:k=p.n:=by omega
  exact aRg h hl hAn hHd
 | r+1,k,a,V,hk,h=>by obtain⟨pk,h1,h2⟩:=hw k (by omega);exact aLz h (by omega) hl h1 (by omega) hn hfA hfL h2 λa' V' h'=>aUz hl hn hfA hfL hw hAn hHd r (k+1) a' V' (by omega) h'
def vO:HO:=.cells 35 [.d (.b Az),.nil]
def stB(rows:Ad (Ad D)):St:=StL [(2,.ptr 1 0),(7,.fp [.sl rows])] Aj [vO]
def bTw{W0 W:Ag}{A:Ae->Prop}{Post:AE->Ag->Prop}{p:Pl}{v1:Ag}{bR bO:Ae}{a:Act}{c0:BU}{cs:Ad BU}{rows:Ad (Ad D)}{z:Al}(h7:a.tmps.getD 7 undef=bI bR)(h2:a.tmps.getD 2 undef=bI bO)(hN:a.tmps.size=40)(hds:a.defers=[])
 (hcomb:letI:=bV Ab;Spec Ab 50 [.sl rows] (.tp [encZ z,.i .i64 0]))
 (hsr:∀(a:Act) (v':Ag),a.tmps.size=40->a.defers=[]->a.tmps.getD 2 undef=bI bO->a.tmps.getD 7 undef=bI bR->aFk p v1 v'->SR ⟨W,A,bG,λ_ _=>True,λ_=>Aj⟩ 40 [] (stB rows) a v')
 (hk:∀x v',OkV v'->(Below W.heap.size W v'/\VD (λb=>A b\/(W.heap.size<=b/\b<v'.heap.size)) v' (.tp [encZ z,.i .i64 0]) x)->dC Ab W0 Post (G (c0.finish x) cs) v') :
 KF Ab W0 Post p v1 (G (((base 8)).at (a.put (Aa 35) (.tuple #[])) [.inRegion aRr [],.code tE2]) (c0::cs)):=by
 refine⟨rfl,λv' hF=>?_⟩
 letI:=bV Ab
 have hW:(bV Ab).Fam (dC Ab W0 Post):=.inl ⟨W0,Post,rfl⟩
 have hb:kA (base 8):=.inl rfl
 have hg:∀t,t≠35->(a.put (Aa 35) (.tuple #[])).tmps.getD t undef=a.tmps.getD t undef:=λt ht=>by simp[Cv,Au,AI (DZ ht)]
 have g7:=(hg 7 (by decide)).trans h7
 have g2:=(hg 2 (by decide)).trans h2
 have gN:(a.put (Aa 35) (.tuple #[])).tmps.size=40:=by simp[Cv,hN]
 have gds:(a.put (Aa 35) (.tuple #[])).defers=[]:=hds
 generalize a.put (Aa 35) (.tuple #[])=a3 at g7 g2 gN gds
 have hok:=hF.ok
 have hs3:=hsr a3 v' gN gds g2 g7 hF.w
 simp only[aRr,tE2,tE,gD,EB,AQ]
 refine aD hW rfl hok (λw=>stepG_region_end) ?_
 refine bZ aT (λ_=>rfl) _ (λe σ=>e=.ret/\jM Ab EB.results.toList σ=Aa (.tp [encZ z,.i .i64 0])) _ _ _ (by kernel_rfl) (by kernel_rfl) ?hawp hs3 _ hW hok _ _ _ hb λe a4 V4 hv4 hq=>?_
 case hawp =>
  simp only[stB,vO]
  simp[-E,-I,↓KW]
  refine aL hcomb ?_
  rw[cX z]
  simp[-E,-I,↓KW,bE,gV]
 obtain⟨σ,⟨rfl,hr⟩,hsr4⟩:=hq
 simp only[fW]
 have hds4:a4.defers=[]:=hsr4.2.2.2.elim λ_ h=>h.elim λ_ h=>h.2.2.2.2.1
 intro todo
 refine aKy hW (R:=λx v2=>Below W.heap.size W v2/\VD (λb=>A b\/(W.heap.size<=b/\b<v2.heap.size)) v2 (.tp [encZ z,.i .i64 0]) x) Tryz.func8 hv4 hds4 (λv2 he=>?_) hk
 have hs1:=hsr4.env he
 obtain⟨v,hrun,hvd⟩:=fP hs1 hr
 obtain⟨_,_,_,F,ι,hR,_,_,_,hdf,_⟩:=hs1
 refine⟨v,hrun,⟨hR.kept.os,hR.kept.tape,hR.kept.output,hR.kept.size,λk hk=>hR.kept.block k hk (λh=>h)⟩,hvd.mono ?_⟩
 rintro b (h|h|h)
 .exact .inl h
 .exact h.elim
 .exact .inr h
noncomputable def aZm:Aw Oper:=match gD with|.seq _ (.seq _ (.seq _ (.seq _ (.seq _ (.seq (.region _ o _) _)))))=>o|_=>#[]
noncomputable def aGb:Code:=match gD with|.seq _ (.seq _ (.seq _ (.seq _ (.seq _ (.seq _ c)))))=>c|_=>.skip
noncomputable def x1E:Code:=match gD with|.seq _ (.seq c _)=>c|_=>.skip
noncomputable def x2E:Code:=match gD with|.seq _ (.seq _ (.seq c _))=>c|_=>.skip
noncomputable def x4E:Code:=match gD with|.seq _ (.seq _ (.seq _ (.seq c _)))=>c|_=>.skip
noncomputable def r5E:Code:=match gD with|.seq _ (.seq _ (.seq _ (.seq _ (.seq c _))))=>c|_=>.skip
def bAw{rr:Al}{eA:Ad (Ad D)}{lD:Ad (Ad D)}{n b:Ae}(hn:lD.length=n)(hn2:n<=1000000)
 (hHad:letI:=bV Ab;Spec Ab 43 [.ag [.i .i64 rr,.i .i64 rr,.sl eA]] (.tp [cB b,.i .i64 0])) (hNeed:letI:=bV Ab;Spec Ab 44 [cB b,.i .u64 2147483648] (.sl lD)) :
 letI:=bV Ab
 AWP Ab (match gD with|.seq c _=>c|_=>.skip) (St0 [.ag [.i .i64 rr,.i .i64 rr,.sl eA]] 40) λe σ=>e=.normal/\AWP Ab x1E σ λe σ=>e=.normal/\AWP Ab x2E σ λe σ=>e=.normal/\AWP Ab x4E σ λe σ=>e=.normal/\AWP Ab r5E σ λe σ=>e=.normal /\
  σ.Γ 6=.d (.sl lD)/\∃iA iO iR iC,iA≠iC/\iR≠iC/\iO≠iC/\iO≠iR/\σ.Γ 1=.ptr iA 0/\σ.H iA=Aa (.cells 31 [.d (.i .i64 rr),.d (.i .i64 rr),.d (.sl eA)])/\σ.Γ 2=.ptr iO 0/\σ.H iO=Aa vO/\σ.Γ 7=.ptr iR 0/\σ.H iR=Aa (.cells 108 [.own iC 0 n 2])/\∃cs,σ.H iC=Aa (.cells 48 cs)/\n*2<=cs.length:=by
 letI:=bV Ab
 simp only[x1E,x2E,x4E,r5E,gD,vO,EB,AQ]
 have h0:(0:Al)<=(lD.length:Al):=by omega
 have h1:(lD.length:Al)<=9223372036854775807:=by omega
 have h2:((rr:Al) != rr)=false:=by simp
 have h3:16*(n:Al)<=281474976710656:=by omega
 have h4:(n:Al)<=9223372036854775807:=by omega
 simp[-E,-I,↓KW,h0,h1,h2,hn]
 refine aL hHad ?_
 rw[aY b]
 simp[-E,-I,↓KW,h0,h1,h2,hn,bE]
 refine aL hNeed ?_
 simp[-E,-I,↓KW,h0,h1,h2,hn,h3,h4]
 refine⟨1,2,5,4,by decide,by decide,by decide,by decide,rfl,rfl,rfl,rfl,rfl,rfl,_,rfl,?_⟩
 simp[List.length_flatten]
def bAv{p:Pl}{bA bO bR cap Wg:Ae}{c0 c1 c2:D}{lD:Ad (Ad D)}{K An:Ay->Prop}{cs:Ad BU}{a:Act}{V:Ag}(hok:OkV V)(hN:a.tmps.size=40)(hds:a.defers=[])(h2:a.tmps.getD 1 undef=bI bA)(hO:a.tmps.getD 2 undef=bI bO)(h6:a.tmps.getD 7 undef=bI bR)
 (h1:VD (λb=>b<V.heap.size) V (.sl lD) (a.tmps.getD 6 undef)) (hl:lD.length=p.n) (hn:p.n<=1000000) (hfA:jY (.pt [c0,c1,c2])) (hfL:jY (.sl lD)) (hdA:VD (λb=>b<V.heap.size) V (.pt [c0,c1,c2]) (bI bA)) (hdR:VD (λb=>b<V.heap.size) V (.pt [.lit (.slice (Aa ⟨p.C,0,Aj⟩) p.n cap)]) (bI bR))
 (hgo:∀a' V',RID Wg bA bO bR p.C p.n cap c0 c1 c2 lD 0 a' V'->kQ Ab bF Wg p K An p.n (G (((base 8)).at a' [.code cE,.inLoop cE,.inBlock 0,.code tE]) cs) V') :
 kQ Ab bF Wg p K An p.n (G (((base 8)).at (a.put (Aa 8) (bI Wg)) [.inRegion aZm [],.code aGb]) cs) V:=by
 letI:=eX Ab Ak
 have hW:=kW (Wg:=Wg) (p:=p) (K:=K) (An:=An) p.n
 have hb:kA (base 8):=.inl rfl
 have hg:∀t,t≠8->(a.put (Aa 8) (bI Wg)).tmps.getD t undef=a.tmps.getD t undef:=λt ht=>by simp[Cv,Au,AI (DZ ht)]
 have h7:(a.put (Aa 8) (bI Wg)).tmps.getD 8 undef=bI Wg:=by simp[Cv,Au,hN]
 have hN':(a.put (Aa 8) (bI Wg)).tmps.size=40:=by simp[Cv,hN]
 have hds':(a.put (Aa 8) (bI Wg)).defers=[]:=hds
 have g1:=hg 6 (by decide)
 have g2:=(hg 1 (by decide)).trans h2
 have gO:=(hg 2 (by decide)).trans hO
 have g6:=(hg 7 (by decide)).trans h6
 rw[<-g1]at h1
 generalize a.put (Aa 8) (bI Wg)=a5 at h1 g2 gO g6 h7 hN' hds'
 have hL0:(lD.length:Al)=p.n:=by omega
 have hsr:SR ⟨V,λb=>b<V.heap.size,bG,λ_ _=>True,λ_=>Aj⟩ 40 [] (StL [(6,.d (.sl lD)),(1,.d (.lit (bI bA))),(2,.d (.lit (bI bO))),(7,.d (.lit (bI bR))),(8,.d (.lit (bI Wg)))] Aj []) a5 V:=by
  rw[<-hds'];refine uR (Z:=λ_=>Aj) hok hN' (λ_ _ h=>by simp at h) (lL (T:=λt=>a5.tmps.getD t undef) _ ?_);simp only[Du];refine⟨.d _ _ h1,.d _ _ ?_,.d _ _ ?_,.d _ _ ?_,.d _ _ ?_,λ_ h=>by simp at h⟩
  .rw[g2];exact .lit _
  .rw[gO];exact .lit _
  .rw[g6];exact .lit _
  .rw[h7];exact .lit _
 have hgo':=hgo
 simp only[cE,tE,gD,EB,AQ]at hgo'
 simp only[aZm,aGb,gD,EB,AQ]
 refine aD hW rfl hok (λw=>stepG_region_end) ?_
 refine aD hW rfl hok (λw=>stepG_seq) ?_
 refine aD hW rfl hok (λw=>stepG_seq) ?_
 refine bZ aT (λ_=>rfl) _ (λe σ=>e=.normal/\σ.Γ 1=.d (.lit (bI bA))/\σ.Γ 2=.d (.lit (bI bO))/\σ.Γ 7=.d (.lit (bI bR))/\σ.Γ 8=.d (.lit (bI Wg))/\σ.Γ 25=.d (.sl lD)/\σ.Γ 26=.d (.i .i64 p.n)/\σ.Γ 27=.d (.i .i64 0)) _ _ _ (by kernel_rfl) (by kernel_rfl) ?hawp hsr _ hW hok _ _ _ hb λe a6 V6 hv6 hq=>?_
 case hawp =>
  simp[-E,-I,↓KW,hL0]
 obtain⟨σ,⟨rfl,q2,qO,q6,q7,q26,q27,q28⟩,_,_,_,F,ι,hR,_,hV,⟨hN6,_⟩,hds6,_⟩:=hq
 simp only[fW]
 refine aD hW rfl hv6 (λw=>stepG_block) ?_
 refine aD hW rfl hv6 (λw=>stepG_loop) ?_
 have hs:jF (λb=>b<V.heap.size) V V6:=λb hb c e f hc=>⟨f,by rw[hR.kept.block b hb (λh=>h)];exact hc⟩
 have hf:∀b,b<V.heap.size->b<V6.heap.size:=λb hb=>Be hb hR.kept.size
 refine hgo' a6 V6 ⟨hN6,hds6,fF (q2 ▸ hV 1),fF (qO ▸ hV 2),fF (q6 ▸ hV 7),fF (q7 ▸ hV 8),?_,v_i (q27 ▸ hV 26),v_i (q28 ▸ hV 27),hv6,(hfA _ _ _ _ hs hdA).mono hf,(eN (by simp[gA]) _ _ _ _ hs hdR).mono hf⟩
 have h:=hV 25;rw[q26]at h
 cases h with|d _ _ h=>exact h.mono hR.F_lt
end Go.Am
end
section
open Go Go.Am Go.Proofs
namespace Go.Am
open Go.Conc Go.Conc.Lib Go.RowKit Go.ConcR.Gen
open Go.ConcR (KK wgBlock stA smA rd wr mk)
def bXd(Pv Vv:Ae->Al)(i r:Ae):Value:=match r with
 |0=>.int .u64 (Pv i)
 |_=>.int .u64 (Vv i)
def qL(Pv Vv:Ae->Al)(n:Ae):Ad (Ad D):=(AW n).map λ(i:Ae)=>[.i .u64 (Pv i),.i .u64 (Vv i)]
def bTx{W0:Ag}{Post:AE->Ag->Prop}{rr z:Al}{eA lD:Ad (Ad D)}{n:Ae}{Pv Vv Ev:Ae->Al}(hn:lD.length=n)(hn2:n<=1000000)(hfE:jY (.sl eA))(hlD:∀k,k<n->lD[k]? = Aa [.i .u64 (Pv k)])
 (hres:∀k,k<n->letI:=eX Ab Az;Spec Ab 48 [.ag [.i .i64 rr,.i .i64 rr,.sl eA],.i .u64 (Pv k)] (.tp [.ag [.i .u64 (Pv k),.i .u64 (Vv k)],.i .i64 (Ev k)]))
 (hcomb:letI:=bV Ab;Spec Ab 50 [.sl (qL Pv Vv n)] (.tp [encZ z,.i .i64 0]))
 {A:Ae->Prop} {W V:Ag} {σ:St} {a:Act} {c:BU} {cs:Ad BU} (hsr:SR ⟨W,A,bG,λ_ _=>True,λ_=>Aj⟩ 40 [] σ a V)
 (q1:σ.Γ 6=.d (.sl lD)) {iA iO iR iC:Ae} (hne1:iA≠iC) (hne2:iR≠iC) (hne3:iO≠iC) (hne4:iO≠iR) (q2:σ.Γ 1=.ptr iA 0) (qA:σ.H iA=Aa (.cells 31 [.d (.i .i64 rr),.d (.i .i64 rr),.d (.sl eA)])) (qO:σ.Γ 2=.ptr iO 0) (qHO:σ.H iO=Aa vO) (q6:σ.Γ 7=.ptr iR 0) (qR:σ.H iR=Aa (.cells 108 [.own iC 0 n 2])) {csC:Ad AV} (qC:σ.H iC=Aa (.cells 48 csC)) (hlC:n*2<=csC.length)
 (hk:∀x v',OkV v'->(Below W.heap.size W v'/\VD (λb=>A b\/(W.heap.size<=b/\b<v'.heap.size)) v' (.tp [encZ z,.i .i64 0]) x)->dC Ab W0 Post (G (c.finish x) cs) v') :
 dC Ab W0 Post (G (((base 8)).at a [.inRegion aZm [0],.code aGb]) (c::cs)) V:=by
 obtain⟨_,hPG,hok,F,ι,hR,_,hV,⟨hN,_⟩,hds,_⟩:=hsr
 obtain⟨bA,hbA,e2⟩:=uV (q2 ▸ hV 1)
 obtain⟨bO,hbO,eO⟩:=uV (qO ▸ hV 2)
 obtain⟨bR,hbR,e6⟩:=uV (q6 ▸ hV 7)
 -- the residues' cell
 obtain⟨obR,hoR,hcR⟩:=hR.obj iR bR _ hbR qR
 obtain⟨C,cap,cur,hiC,hCb,hcap,hmax,hcc,hcell⟩:∃C cap cur,ι iC=Aa C/\V.heap[C]? = Aa (.cells cur 48 (0,0))/\n<=cap/\cap<=maxLen/\(0+cap)*2<=cur.size/\V.cell? ⟨bR,0,Aj⟩=Aa (.slice (Aa ⟨C,0,Aj⟩) n cap):=by
  cases hcR with
  | cells _ _ curR hl hc =>
   obtain⟨u,hu,hv⟩:=hc 0 _ rfl;cases hv with
   | own _ _ _ _ b cap cur e hι hb hcap hl' hm =>
    obtain⟨obC,hoC,hcC⟩:=hR.obj iC b _ hι qC;cases hcC with
    | cells _ _ cur' hl2 hc2 =>
     have:cur=cur':=by rw[hb]at hoC;injection hoC with h;injection h
     subst this;exact⟨b,cap,cur,hι,hoC,hl',hm,hcap,by simp[BN,hoR,hu]⟩
 obtain⟨obC,hoC,hcC⟩:=hR.obj iC C _ hiC qC
 have hfit:n*2<=cur.size:=by
  rw[hCb]at hoC;obtain rfl:=BC hoC;cases hcC with
  |cells _ _ _ hl2 hc2=>omega
 obtain⟨obO,hoO,hcO⟩:=hR.obj iO bO _ hbO qHO
 have hnA:bA≠C:=λe=>hne1 (hR.inj iA iC bA hbA (e ▸ hiC) (λh=>h) (λh=>h))
 have hnR:bR≠C:=λe=>hne2 (hR.inj iR iC bR hbR (e ▸ hiC) (λh=>h) (λh=>h))
 have hnO:bO≠C:=λe=>hne3 (hR.inj iO iC bO hbO (e ▸ hiC) (λh=>h) (λh=>h))
 have hnOR:bO≠bR:=λe=>hne4 (hR.inj iO iR bO hbO (e ▸ hbR) (λh=>h) (λh=>h))
 have hCW:W.heap.size<=C:=(hR.place iC C hiC).1.elim (λh=>h.elim) id
 have hRW:W.heap.size<=bR:=(hR.place iR bR hbR).1.elim (λh=>h.elim) id
 have hOW:W.heap.size<=bO:=(hR.place iO bO hbO).1.elim (λh=>h.elim) id
 have hCF:¬F C:=(hR.place iC C hiC).2.2 (λh=>h)
 have hbRlt:bR<V.heap.size:=bL hoR
 have hbOlt:bO<V.heap.size:=bL hoO
 let p:Pl:={ C:=C,wd:=2,n:=n,ety:=48,val:=bXd Pv Vv,pos:=by decide,tot:=cur.size,le:=hfit }
 have hfL:jY (.sl lD):=wE λr hr x hx=>by obtain⟨k,hk',rfl⟩:=BE.1 hr;have:=hlD k (by omega);rw[Ac hk']at this;rw[BC this]at hx;simp at hx;subst hx;exact pR _ _
 have hfA:jY (.pt [.i .i64 rr,.i .i64 rr,.sl eA]):=eN (by
  intro x hx;simp at hx;rcases hx with rfl|rfl
  .exact pR _ _
  .exact hfE)
 have hdA:=bGf (cs:=[.i .i64 rr,.i .i64 rr,.sl eA]) hR hbA qA
 have hdR:VD (λb=>b=bR) V (.pt [.lit (.slice (Aa ⟨C,0,Aj⟩) n cap)]) (bI bR) :=
  .pt _ _ (λ_=>.slice (Aa ⟨C,0,Aj⟩) n cap) rfl (λj hj=>by
   have:j=0:=by simp at hj;omega
   subst this;rw[fN];exact hcell) λk c hk=>by
   cases k with
   |zero=>simp at hk;subst hk;exact .lit _
   |succ k=>simp at hk
 have hd1:VD F V (.sl lD) (a.tmps.getD 6 undef):=by have h:=hV 6;rw[q1]at h;cases h with|d _ _ h=>exact h
 refine aGd (L:=bF) (p:=p) (g1:=λWg=>G (((base 8)).at (a.put (Aa 8) (bI Wg)) [.inRegion aZm [],.code aGb]) (c::cs)) rfl (λv1 w he ho hs=>?_) ⟨cur,hCb,rfl⟩ (show(48:Ae)≠0 by decide) (show n<2147483648 by omega) λv1 he ho=>?_
 .simp only[aZm,aGb,gD,EB,AQ]
  exact(stepG_value rfl rfl (by k_ne) (wV rfl w).1).trans (by unfold listed;rw[(wV rfl w).2,seen_none];rfl)
 have hsz1:=he.size
 have hback:∀(a:Act) (v':Ag),a.tmps.size=40->a.defers=[]->a.tmps.getD 2 undef=bI bO->a.tmps.getD 7 undef=bI bR->aFk p v1 v'->SR ⟨W,A,bG,λ_ _=>True,λ_=>Aj⟩ 40 [] (stB (qL Pv Vv n)) a v':=by
  intro a v' hN hds s2 s7 hF;obtain⟨cs',g1,g2,g3⟩:=hF.val;have hlt:C<v'.heap.size:=bL g1;have hO':v'.heap[bO]? = Aa obO:=by rw[hF.old bO (Be hbOlt hsz1) hnO,he.get hbOlt];exact hoO
  have hR':v'.heap[bR]? = Aa obR:=by rw[hF.old bR (Be hbRlt hsz1) hnR,he.get hbRlt];exact hoR
  have hcell':v'.cell? ⟨bR,0,Aj⟩=Aa (.slice (Aa ⟨C,0,Aj⟩) n cap):=by rw[<-hcell];exact eJ (by simp only;rw[hR',hoR])
  have hvd:VD (λb=>b=bR\/b=C) v' (.sl (qL Pv Vv n)) (.slice (Aa ⟨C,0,Aj⟩) n cap):=by
   refine .sl _ _ n cap 2 (λj=>cs'.getD j undef) (by simp[qL]) hcap (λr hr=>?_) (.inr rfl) (λj hj=>?_) λj k r d h1 h2=>?_
   .obtain⟨i,_,rfl⟩:=AY.1 hr;rfl
   .have:j<cs'.size:=by rw[g2];show j<cur.size;omega
    have g1':v'.heap[C]? = Aa (.cells cs' 48 (0,0)):=g1;simp[fN,BN,g1',this]
   .simp only[qL,Ao,BZ]at h1;obtain⟨i,hi,rfl⟩:=Ai.1 h1;have hij:i=j/\j<n:=by
     rcases Bc j n with h|h
     .rw[BZ h]at hi;exact⟨(BC hi).symm,h⟩
     .rw[Bn (by simpa using h)]at hi;cases hi
    obtain⟨rfl,hjn⟩:=hij;have hv:=λr hr=>g3 i hjn r hr
    match k with
    | 0 =>
     simp at h2;subst h2
     have:=hv 0 (show 0<2 by decide)
     simp only[Au]
     rw[show cs'[i*2+0]? = Aa (bXd Pv Vv i 0)from this];exact .i _ _
    | 1 =>
     simp at h2;subst h2
     have:=hv 1 (show 1<2 by decide)
     simp only[Au]
     rw[show cs'[i*2+1]? = Aa (bXd Pv Vv i 1)from this];exact .i _ _
    |k+2=>simp at h2
  have hHs:∀id o,(stB (qL Pv Vv n)).H id=Aa o->id=1/\o=vO:=λid o h=>by
   rcases id with _|_|id<;>simp[stB,StL,bLg,zV]at h
   exact⟨rfl,h.symm⟩
  have hH1:(stB (qL Pv Vv n)).H 1=Aa vO:=rfl;let ι':Ae->Aq Ae:=λid=>if id=1 then Aa bO else Aj
  have hι:∀id b,ι' id=Aa b->id=1/\b=bO:=λid b h=>by
   simp only[ι']at h;split at h
   .rename_i e;injection h with h;exact⟨e,h.symm⟩
   .cases h
  have hkb:∀k,k<W.heap.size->v'.heap[k]? = W.heap[k]? := λk hk=>by have hk1:k<V.heap.size:=Be hk hR.kept.size;rw[hF.old k (Be hk1 hsz1) (by show k≠C;omega),he.get hk1];exact hR.kept.block k hk (λh=>h)
  have hsz2:V.heap.size<=v'.heap.size:=Bg hsz1 (Dz hF.size);refine⟨λid hid=>?_,⟨λ_ _ _=>trivial,hPG.2⟩,hF.ok,λb=>b=bR\/b=C,ι',⟨⟨(hF.os.trans he.os).trans hR.kept.os,(hF.tape.trans he.tape).trans hR.kept.tape,(hF.output.trans he.output).trans hR.kept.output,Bg hR.kept.size hsz2,λk hk _=>hkb k hk,λk cur e hk hc=>⟨cur,by rw[hkb k hk];exact hc,rfl⟩⟩,?_,?_,?_,?_,?_,?_⟩,λid=>?_,?_,⟨hN,λ_ _ h=>by simp at h⟩,hds,λ_ _ _=>trivial⟩
  .cases hx:(stB (qL Pv Vv n)).H id with
   |none=>rfl
   | some o =>
    have:=(hHs id o hx).1;have h2:2<=id:=hid;omega
  .rintro b (rfl|rfl)
   .exact Be hbRlt hsz2
   .exact hlt
  .rintro b (rfl|rfl)
   .exact .inr (.inr hRW)
   .exact .inr (.inr hCW)
  .intro id b h;obtain⟨rfl,rfl⟩:=hι id b h;exact⟨.inr hOW,Be hbOlt hsz2,λ_ h=>h.elim hnOR hnO⟩
  .intro id b o h hH;obtain⟨rfl,rfl⟩:=hι id b h;obtain⟨_,rfl⟩:=hHs 1 o hH;refine⟨obO,hO',?_⟩;cases hcO with
   | cells _ _ cur hl hc =>
    refine .cells _ _ cur hl λk c hk=>?_
    obtain⟨u,hu,hv⟩:=hc k c hk;refine⟨u,hu,?_⟩;rcases k with _|_|k
    .simp at hk;subst hk;cases hv with|d _ _ h=>cases h;exact .d _ _ (.b Az)
    .simp at hk;subst hk;cases hv;exact .nil
    .simp at hk
  .intro id id' b h h' _ _;rw[(hι id b h).1,(hι id' b h').1]
  .intro id id' b o o' h h' _ ho ho';rw[(hHs id o ho).2,(hHs id' o' ho').2];exact AM _
  .constructor
   .rintro⟨b,h⟩;rw[(hι id b h).1];rfl
   .intro h;obtain⟨o,ho⟩:=Option.isSome_iff_exists.1 h;exact⟨bO,by rw[(hHs id o ho).1];rfl⟩
  .refine lL (T:=λt=>a.tmps.getD t undef) [(2,.ptr 1 0),(7,.fp [.sl (qL Pv Vv n)])] ?_;simp only[Du];refine⟨?_,?_,λ_ h=>by simp at h⟩
   .rw[s2];exact .ptr 1 0 bO rfl
   .rw[s7];refine .fp _ ⟨bR,0,Aj⟩ (λ_=>.slice (Aa ⟨C,0,Aj⟩) n cap) (.inl rfl) (λj hj=>?_) λk c hk=>?_
    .have:j=0:=by simp at hj;omega
     subst this;rw[fN];exact hcell'
    .cases k with
     |zero=>simp at hk;subst hk;exact hvd
     |succ k=>simp at hk
 let An:Ay->Prop:=λg=>∃a:Act,a.tmps.getD 7 undef=bI bR/\a.tmps.getD 2 undef=bI bO/\a.tmps.size=40/\a.defers=[]/\tV bF v1.heap.size (((base 8)).at a [.inRegion aRr [0],.code tE2]) (c::cs) g
 have hHd:∀g,An g->Dl Ab Ak (cQ bF.tWg v1.heap.size) (cZ v1.heap.size) (λd g=>d=1/\tN Ab bF v1.heap.size (KF Ab W0 Post p v1) An d g) 1 g:=by rintro g ⟨a',h7,h2,hN',hds',hh⟩;exact(aFn qB (bTw (p:=p) h7 h2 hN' hds' hcomb hback hk) hh).mono λd g hx=>⟨hx.1,aHm (λg hg=>⟨a',h7,h2,hN',hds',hg⟩) hx.2⟩
 refine⟨An,hHd,?_⟩
 have hin:∀F':Ae->Prop,(∀b,F' b->b≠C)->jF F' V (inV v1 C):=λF' hF'=>(sL he).trans (aFw hF')
 have hlt':∀b,b<V.heap.size->b<(inV v1 C).heap.size:=λb hb=>by rw[rK];omega
 refine bAv (p:=p) (aSn v1 C) hN hds e2 eO e6 ((hfL _ _ _ _ (hin F λb hb e=>hCF (e ▸ hb)) hd1).mono λb hb=>hlt' b (hR.F_lt b hb)) hn hn2 hfA hfL
  ((hfA _ _ _ _ (hin _ λb hb e=>hb.elim (λh=>hnA (h ▸ e)) λh=>hCF (e ▸ h)) hdA).mono λb hb=>hlt' b (hb.elim (λh=>by rw[h];exact bL (hR.obj iA bA _ hbA qA).choose_spec.1) (hR.F_lt b)))
  ((eN (by simp[gA]) _ _ _ _ (hin (λb=>b=bR) λb hb e=>hnR (hb ▸ e)) hdR).mono λb hb=>hlt' b (hb ▸ hbRlt)) λa' V' hri=>?_
 refine aUz (p:=p) hn (show n<2147483648 by omega) hfA hfL (λk hkn=>⟨Pv k,hlD k hkn,λV' Bp Bi h1 h2 h3 h4 h5=>cAf (p:=p) rfl hkn rfl rfl rfl h1 h2 h3 h4 h5 (hres k hkn)⟩) (λa h7 h2 hN hds g hh=>⟨a,h7,h2,hN,hds,hh⟩) hHd n 0 a' V' (by show 0+n=n;omega) hri
def bTy{rr z:Al}{eA lD:Ad (Ad D)}{n b:Ae}{Pv Vv Ev:Ae->Al}(hn:lD.length=n)(hn2:n<=1000000)(hfE:jY (.sl eA))(hlD:∀k,k<n->lD[k]? = Aa [.i .u64 (Pv k)])
 (hHad:letI:=bV Ab;Spec Ab 43 [.ag [.i .i64 rr,.i .i64 rr,.sl eA]] (.tp [cB b,.i .i64 0])) (hNeed:letI:=bV Ab;Spec Ab 44 [cB b,.i .u64 2147483648] (.sl lD))
 (hres:∀k,k<n->letI:=eX Ab Az;Spec Ab 48 [.ag [.i .i64 rr,.i .i64 rr,.sl eA],.i .u64 (Pv k)] (.tp [.ag [.i .u64 (Pv k),.i .u64 (Vv k)],.i .i64 (Ev k)]))
 (hcomb:letI:=bV Ab;Spec Ab 50 [.sl (qL Pv Vv n)] (.tp [encZ z,.i .i64 0])) :
 letI:=bV Ab;Spec Ab 8 [.ag [.i .i64 rr,.i .i64 rr,.sl eA]] (.tp [encZ z,.i .i64 0]):=by
 letI:=bV Ab
 intro A W vs hA hl hv
 refine⟨λw=>by simp[callFunc,Tryz.func8,EB],aXb λW0 Post c cs hk hok=>?_⟩
 have hW:(bV Ab).Fam (dC Ab W0 Post):=.inl ⟨W0,Post,rfl⟩
 have hb:kA (base 8):=.inl rfl
 rw[enter_at vs Tryz.func8 (show EB.body=Aa gD from rfl)]
 have hsr:=SR0 (N:=40) hok hA hl hv (by simp)
 have hfr:=bAw hn hn2 hHad hNeed
 have hmid:∀{σ:St} {a:Act} {V:Ag},_:=λ{σ a V}=>@bTx W0 Post rr z eA lD n Pv Vv Ev hn hn2 hfE hlD hres hcomb A W V σ a c cs
 simp only[aZm,aGb,gD,EB,AQ]at hmid
 simp only[x1E,x2E,x4E,r5E,gD,EB,AQ]at hfr
 simp only[gD,EB,AQ]
 refine aD hW rfl hok (λw=>stepG_seq) ?_
 refine bZ aT (λ_=>rfl) _ _ _ _ _ (by kernel_rfl) (by kernel_rfl) hfr hsr _ hW hok _ _ _ hb λe a1 V1 hv1 hq=>?_
 obtain⟨σ1,⟨rfl,hfr1⟩,hsr1⟩:=hq
 simp only[fW]
 refine aD hW rfl hv1 (λw=>stepG_seq) ?_
 refine bZ aT (λ_=>rfl) _ _ _ _ _ (by kernel_rfl) (by kernel_rfl) hfr1 hsr1 _ hW hv1 _ _ _ hb λe a2 V2 hv2 hq=>?_
 obtain⟨σ2,⟨rfl,hfr2⟩,hsr2⟩:=hq
 simp only[fW]
 refine aD hW rfl hv2 (λw=>stepG_seq) ?_
 refine bZ aT (λ_=>rfl) _ _ _ _ _ (by kernel_rfl) (by kernel_rfl) hfr2 hsr2 _ hW hv2 _ _ _ hb λe a3 V3 hv3 hq=>?_
 obtain⟨σ3,⟨rfl,hfr3⟩,hsr3⟩:=hq
 simp only[fW]
 refine aD hW rfl hv3 (λw=>stepG_seq) ?_
 refine bZ aT (λ_=>rfl) _ _ _ _ _ (by kernel_rfl) (by kernel_rfl) hfr3 hsr3 _ hW hv3 _ _ _ hb λe a4 V4 hv4 hq=>?_
 obtain⟨σ4,⟨rfl,hfr4⟩,hsr4⟩:=hq
 simp only[fW]
 refine aD hW rfl hv4 (λw=>stepG_seq) ?_
 refine bZ aT (λ_=>rfl) _ _ _ _ _ (by kernel_rfl) (by kernel_rfl) hfr4 hsr4 _ hW hv4 _ _ _ hb λe a5 V5 hv5 hq=>?_
 obtain⟨σ5,⟨rfl,q1,iA,iO,iR,iC,hne1,hne2,hne3,hne4,q2,qA,qO,qHO,q6,qR,csC,qC,hlC⟩,hsr5⟩:=hq
 simp only[fW]
 refine aD hW rfl hv5 (λw=>stepG_seq) ?_
 refine aD hW rfl hv5 (λw=>stepG_region) ?_
 exact hmid hsr5 q1 hne1 hne2 hne3 hne4 q2 qA qO qHO q6 qR qC hlC hk
end Go.Am
end
section
open Go Go.Am Go.Proofs
namespace Go.Am
abbrev Rp3:=Ae×Ae×Ae
def mX(d:Al)(ps:Ad Ae):Ad Rp3:=(AW ps.length).map λi=>(i,ps.getD i 0,(d%(ps.getD i 0:Al)).toNat)
def aNt(d:Al)(ps:Ad Ae):(mX d ps).length=ps.length:=by simp[mX]
def sW(d:Al)(ps:Ad Ae):pmL (mX d ps)=ps:=by unfold pmL mX;rw[Dp];apply List.ext_getElem (by simp);intro i h1 h2;simp only[List.getElem_map,List.getElem_range,Function.comp];rw[Ah,Ac h2];rfl
def bSq(d:Al)(ps:Ad Ae):wkL (mX d ps)=AW ps.length:=by unfold wkL mX;rw[Dp];exact(List.map_congr_left λi _=>rfl).trans (List.map_id _)
def bJv{d:Al}{p:Ae}(hp:0<p):(d%(p:Al)).toNat<p:=by have h1:=En d (b:=(p:Al)) (by omega);have h2:=Int.emod_lt_of_pos d (b:=(p:Al)) (by omega);omega
def bUs{d:Al}{l:Ad Rp3}(h:∀x∈l,d%(x.2.1:Al)=(x.2.2:Al)):blL d l=[]:=by unfold blL;rw[List.filter_eq_nil_iff.2 λx hx=>by simp[h x hx]];rfl
def dRp(l:Ad (Ae×Ae×Ae)):Ad D:=(l.map λx=>[.i .i64 (x.1:Al),.i .u64 (x.2.1:Al),.i .u64 (x.2.2:Al)]).flatten
def wN(l:Ad (Ae×Ae×Ae)):(dRp l).length=l.length*3:=by
 unfold dRp;induction l with
 |nil=>rfl
 |cons x l ih=>simp only[BX,List.flatten_cons,List.length_append,ih,Av,AK];omega
def aXa(a b:Ad (Ae×Ae×Ae)):dRp (a++b)=dRp a++dRp b:=by simp[dRp]
def aKc{l:Ad (Ae×Ae×Ae)}{n:Ae}(h:l.length=n):((dRp l).map AV.d).take (n*3)=(dRp l).map AV.d:=A4 (by rw[BV,wN,h];exact AM _)
def bBh{l:Ad (Ae×Ae×Ae)}{n:Ae}(h:l.length=n):chunk 3 n (dRp l)=l.map λx=>[D.i .i64 (x.1:Al),D.i .u64 (x.2.1:Al),D.i .u64 (x.2.2:Al)]:=by
 subst h;have:=aOs (k:=3) (by decide) (l.map λx=>[D.i .i64 (x.1:Al),D.i .u64 (x.2.1:Al),D.i .u64 (x.2.2:Al)]) (λx hx=>by
  obtain⟨y,_,rfl⟩:=AY.1 hx;rfl)
 rwa [BV]at this
def aLj(l:Ad Ae):(lK l).Pairwise (·<=·):=by have h:=aQp (uI l);rw[<-aIc]at h;exact(Ga.1 h).imp λh=>by omega
def aCb:∀(S Q:Ad Ae) (k:Ae),S.Pairwise (·<=·)->(∀p∈S,0<p)->Q.Sublist S->k<=Q.length->bK (S.take k)<=bK Q
 |S,Q,0,_,hp,hQ,_=>sR (l:=Q) λp h=>hp p (hQ.mem h)
 |[],Q,k+1,_,_,hQ,hk=>by cases hQ;simp at hk
 | x::T,Q,k+1,hs,hp,hQ,hk=>by
  rw[List.pairwise_cons]at hs;have hpT:∀p∈T,0<p:=λp h=>hp p (AT _ h)
  rw[List.take_succ_cons,bK];rcases List.sublist_cons_iff.1 hQ with h|⟨R,rfl,h⟩
  .cases Q with
   |nil=>simp at hk
   | cons y R =>
    rw[bK];exact BO (hs.1 y (h.mem (AX ..))) (aCb T R k hs.2 hpT ((List.sublist_cons_self y R).trans h) (by simpa using hk))
  .rw[bK];exact Nat.mul_le_mul_left x (aCb T R k hs.2 hpT h (by simpa using hk))
def aRm{P Q:Ad Ae}{k:Ae}(hn:P.Nodup)(hp:∀p∈P,0<p)(hQ:Q.Sublist P)(hk:k<=Q.length):bK ((lK P).take k)<=bK Q:=by
 have hS:=sF P;have h1:Q.Perm ((lK P).filter (λx=>decide (x∈Q))):=by rw[List.perm_ext_iff_of_nodup (hQ.nodup hn) ((hS.nodup_iff.2 hn).filter _)];intro a;rw[ED,hS.mem_iff,decide_eq_true_iff];exact⟨λh=>⟨hQ.mem h,h⟩,λh=>h.2⟩
 rw[uC h1];exact aCb _ _ k (aLj P) (λp h=>hp p (hS.mem_iff.1 h)) List.filter_sublist (by rw[<-h1.length_eq];exact hk)
structure Good(l:Ad (Ae×Ae×Ae)):Prop where
 ok:aMq l
 nd:(pmL l).Nodup
 pr:∀x∈l,PrN x.2.1
def xG{α:Type}(f g:α->Bw):∀l:Ad α,l.length<=(l.filter λx=>f x&&g x).length+(l.filter λx=>!f x).length+(l.filter λx=>!g x).length
 |[]=>by simp
 | x::l=>by have:=xG f g l;cases hf:f x<;>cases hg:g x<;>simp[hf,hg]<;>omega
def aAt(z:Al)(l:Ad (Ae×Ae×Ae)):(l.filter λx=>!(z%(x.2.1:Al)==(x.2.2:Al))).length=(blL z l).length:=by unfold blL;rw[BV];rfl
def aWr{l:Ad (Ae×Ae×Ae)}(hG:Good l){b n:Ae}(he:enR b l n){Q:Ad Ae}(hQ:Q.Sublist (pmL l))(hk:l.length-2*n<=Q.length):2*b<bK Q :=
 Be he (aRm hG.nd (λp hp=>by
  obtain⟨x,hx,rfl⟩:=AY.1 hp;have:=(hG.pr x hx).1;omega) hQ hk)
def bGe{l:Ad (Ae×Ae×Ae)}(hG:Good l){p:Ae}(hp:p∈pmL l):PrN p:=by obtain⟨x,hx,rfl⟩:=AY.1 hp;exact hG.pr x hx
def aLe{l:Ad (Ae×Ae×Ae)}(hG:Good l){b n:Ae}(he:enR b l n){y z:Al}(hy:y.natAbs<=b)(hz:z.natAbs<=b)(hy1:(blL y l).length<=n)(hz1:(blL z l).length<=n):y=z:=by
 have hc:=xG (λx:Ae×Ae×Ae=>y%(x.2.1:Al)==(x.2.2:Al)) (λx=>z%(x.2.1:Al)==(x.2.2:Al)) l;rw[aAt,aAt]at hc;obtain⟨F,hF⟩:∃F,(l.filter λx:Ae×Ae×Ae=>y%(x.2.1:Al)==(x.2.2:Al)&&z%(x.2.1:Al)==(x.2.2:Al))=F:=⟨_,rfl⟩;have hFs:F.Sublist l:=hF ▸ List.filter_sublist;have hFc:∀x∈F,y%(x.2.1:Al)=(x.2.2:Al)/\z%(x.2.1:Al)=(x.2.2:Al):=λx hx=>by rw[<-hF,ED]at hx;simpa using hx.2
 rw[hF]at hc;have hQ:(pmL F).Sublist (pmL l):=hFs.map _;have hb:=aWr hG he hQ (by simp only[pmL,BV];omega);refine aDp (l:=pmL F) (λq hq=>bGe hG (hQ.mem hq)) (hQ.nodup hG.nd) (λq hq=>?_) (by omega);obtain⟨x,hx,rfl⟩:=AY.1 hq;obtain⟨h1,h2⟩:=hFc x hx;rw[Int.sub_emod,h1,h2,Int.sub_self,Gs]
def mkS{α:Type}(f:α->Bw):Ad α->Ae->Ae
 |[],_=>0
 |_::_,0=>0
 |x::l,k+1=>if f x then 1+2*mkS f l k else 2*mkS f l (k+1)
def aSa{α:Type}(f:α->Bw):∀(l:Ad α) (k:Ae),mkS f l k<2^l.length
 |[],k=>by simp[mkS]
 |x::l,0=>by simp only[mkS];exact Nat.pow_pos (by decide)
 | x::l,k+1=>by have h1:=aSa f l k;have h2:=aSa f l (k+1);rw[Av,CI];unfold mkS;split<;>omega
def yI{α:Type}:∀l:Ad α,fM l 0=[]
 |[]=>rfl
 |x::l=>by simp[fM,yI l]
def aPb{α:Type}:∀(a b:Ad α) (s:Ae),s<2^a.length->fM (a++b) s=fM a s
 | [],b,s,h=>by
  have:s=0:=by simpa using h
  subst this;rw[Ea,yI];rfl
 | x::a,b,s,h=>by
  have h':s/2<2^a.length:=by rw[Av,CI]at h;omega
  simp only[Cz,fM,aPb a b (s/2) h']
def aJg{α:Type}(f:α->Bw):∀(l:Ad α) (k:Ae),∀x∈fM l (mkS f l k),f x=Ak
 |[],k,x,h=>by simp[fM]at h
 |y::l,0,x,h=>by simp only[mkS,yI]at h;cases h
 | y::l,k+1,x,h=>by
  unfold mkS at h;by_cases hy:f y=Ak
  .rw[AB hy]at h;simp only[fM,show(1+2*mkS f l k)%2=1 from by omega,CN,show(1+2*mkS f l k)/2=mkS f l k from by omega,BQ]at h;rcases h with rfl|h
   .exact hy
   .exact aJg f l k x h
  .rw[Ap hy]at h;simp only[fM,show 2*mkS f l (k+1)%2=0 from by omega,show 2*mkS f l (k+1)/2=mkS f l (k+1)from by omega,Nat.zero_ne_one,DV]at h;exact aJg f l (k+1) x h
def aGc:∀n,jH n 0=0
 |0=>rfl
 |n+1=>by simp[jH,aGc n]
def aJf{α:Type}(f:α->Bw):∀(l:Ad α) (k:Ae),k<=(l.filter f).length->jH l.length (mkS f l k)=k
 |[],k,h=>by simp at h;subst h;rfl
 |y::l,0,h=>by simp only[mkS];exact aGc _
 | y::l,k+1,h=>by
  unfold mkS;by_cases hy:f y=Ak
  .rw[AB hy,Av,jH,show(1+2*mkS f l k)%2=1 from by omega,show(1+2*mkS f l k)/2=mkS f l k from by omega,aJf f l k (by simp[hy]at h;exact h)];omega
  .rw[Ap hy,Av,jH,show 2*mkS f l (k+1)%2=0 from by omega,show 2*mkS f l (k+1)/2=mkS f l (k+1)from by omega,aJf f l (k+1) (by simp[hy]at h;exact h)];omega
def aPa{α β:Type}(g:α->β):∀(l:Ad α) (s:Ae),fM (l.map g) s=(fM l s).map g
 |[],s=>rfl
 | x::l,s=>by simp only[BX,fM,aPa g l];split<;>simp
def bGb{l:Ad (Ae×Ae×Ae)}(hG:Good l){C:Ad (Ae×Ae)}(hC:C.Sublist (rsL l)):bCa C where
 pr:=λx hx=>by obtain⟨y,hy,rfl⟩:=AY.1 (hC.mem hx);exact hG.pr y hy
 lt:=λx hx=>by obtain⟨y,hy,rfl⟩:=AY.1 (hC.mem hx);exact hG.ok.2 y hy
 nd:=(hC.map (·.1)).nodup (by have:=hG.nd;rwa [<-sP]at this)
def bXr{l:Ad (Ae×Ae×Ae)}(hG:Good l){b n:Ae}(he:enR b l n)(hf:2*n<=l.length){z:Al}(hz:z.natAbs<=b)(hz1:(blL z l).length<=n) :
 ∃s,s<2^(l.length-n)/\jH (l.length-n) s=l.length-2*n/\zOf l s=z:=by
 obtain⟨f,hfe⟩:∃f:Ae×Ae×Ae->Bw,f=λx=>z%(x.2.1:Al)==(x.2.2:Al):=⟨_,rfl⟩
 obtain⟨s,hs⟩:∃s,mkS f (l.take (l.length-n)) (l.length-2*n)=s:=⟨_,rfl⟩
 have hll:(l.take (l.length-n)).length=l.length-n:=by rw[Bt];omega
 have hcnt:l.length-2*n<=((l.take (l.length-n)).filter f).length:=by
  have h1:=xG f f (l.take (l.length-n));have h2:((l.take (l.length-n)).filter λx=>!f x).length<=n:=by refine Bg ?_ hz1;rw[<-aAt,hfe];exact((DK _ l).filter _).length_le
  have h3:((l.take (l.length-n)).filter λx=>f x&&f x)=(l.take (l.length-n)).filter f:=List.filter_congr λx _=>Bool.and_self _
  have h4:l.length-n<=(l.filter λx=>!f x).length+((l.take (l.length-n)).filter f).length:=by
   have h5:∀L:Ad (Ae×Ae×Ae),L.length<=(L.filter λx=>!f x).length+(L.filter f).length:=λL=>by
    induction L with
    |nil=>simp
    |cons x L ih=>cases hx:f x<;>simp[hx]<;>omega
   have h6:=h5 (l.take (l.length-n));have h7:=((DK (l.length-n) l).filter λx=>!f x).length_le;omega
  have h8:(l.filter λx=>!f x).length<=n:=by rw[hfe,aAt];exact hz1
  omega
 have hlt:=aSa f (l.take (l.length-n)) (l.length-2*n)
 have hbit:=aJg f (l.take (l.length-n)) (l.length-2*n)
 have hpop:=aJf f (l.take (l.length-n)) (l.length-2*n) hcnt
 rw[hll,hs]at hlt hpop
 rw[hs]at hbit
 have hbl:fM l s=fM (l.take (l.length-n)) s:=by have h:=aPb (l.take (l.length-n)) (l.drop (l.length-n)) s (by rw[hll];exact hlt);rwa [List.take_append_drop]at h
 refine⟨s,hlt,hpop,?_⟩
 obtain⟨T,hT⟩:∃T,fM l s=T:=⟨_,rfl⟩
 have hTs:T.Sublist l:=hT ▸ wS l s
 have hTl:T.length=l.length-2*n:=by rw[<-hT,hbl,rT,hll,hpop]
 have hTc:∀x∈T,z%(x.2.1:Al)=(x.2.2:Al):=λx hx=>by rw[<-hT,hbl]at hx;have:=hbit x hx;rw[hfe]at this;simpa using this
 unfold zOf
 rw[show rsL l=l.map (·.2)from rfl,aPa,hT]
 have hC:(T.map (·.2)).Sublist (rsL l):=hTs.map _
 obtain⟨h1,h2,h3⟩:=aKe (bGb hG hC)
 have hpm:(T.map (·.2)).map (·.1)=pmL T:=by simp[pmL]
 rw[hpm]at h2 h3
 have hQ:(pmL T).Sublist (pmL l):=hTs.map _
 have hb:=aWr hG he hQ (by simp only[pmL,BV];omega)
 refine aDp (l:=pmL T) (λq hq=>bGe hG (hQ.mem hq)) (hQ.nodup hG.nd) (λq hq=>?_) (by omega)
 obtain⟨x,hx,rfl⟩:=AY.1 hq
 have h4:=h1 x.2 (Dn hx)
 have h5:=hTc x hx
 rw[Int.sub_emod,h4,h5,Int.sub_self,Gs]
structure Gd(d:Al)(k:Ae)(l:Ad Rp3):Prop where
 good:Good l
 lies:(blL d l).length<=k
def bIy{d:Al}{ps:Ad Ae}(hn:ps.Nodup)(hp:∀p∈ps,PrN p):Gd d 0 (mX d ps):=by
 have hm:∀x∈mX d ps,x.2.1∈ps/\x.2.2=(d%(x.2.1:Al)).toNat:=λx hx=>by obtain⟨i,hi,rfl⟩:=AY.1 hx;have hi:=Cc.1 hi;refine⟨?_,rfl⟩;show ps.getD i 0∈ps;rw[Ah,Ac hi];exact B3 hi
 refine⟨⟨⟨by rw[bSq];exact List.nodup_range,λx hx=>?_⟩,by rw[sW];exact hn,λx hx=>hp _ (hm x hx).1⟩,?_⟩
 .rw[(hm x hx).2];exact bJv (by have:=(hp _ (hm x hx).1).1;omega)
 .rw[bUs λx hx=>?_]
  .exact AM _
  .rw[(hm x hx).2];have h0:=(hp _ (hm x hx).1).1;have:=En d (b:=(x.2.1:Al)) (by omega);omega
def aUx{α β:Type}(f:α->β)(l:Ad α)(i:Ae)(x:α)(d:α)(h:f x=f (l.getD i d)):(l.set i x).map f=l.map f:=by
 apply Dr λk=>?_
 rw[Ao,Ao,DI];split
 .rename_i e;subst e;split
  .rename_i hi;rw[Ah,Ac hi]at h;rw[Ac hi];simp only[Bj,h,AQ]
  .rename_i hi;rw[Bn (by omega)]
 .rfl
def count_set(d:Al):∀(l:Ad Rp3) (i:Ae) (x:Rp3),(blL d (l.set i x)).length<=(blL d l).length+1
 |[],i,x=>by simp
 | z::l,0,x=>by
  have h1:(blL d (x::l)).length<=(blL d l).length+1:=by unfold blL;rw[Gn];split<;>simp
  have h2:(blL d l).length<=(blL d (z::l)).length:=by unfold blL;rw[Gn (x:=z)];split<;>simp
  rw[Dg];omega
 | z::l,i+1,x=>by have ih:=count_set d l i x;rw[E9];unfold blL at ih ⊢;rw[Gn,Gn];split<;>simp at ih ⊢<;>omega
def bCe(l:Ad Rp3):Prop:=∀x∈l,x.2.1∈P10
def lN{p:Ae}(h:p∈P10):2147483477<=p/\p<=2147483647:=by simp only[P10,BQ,Gp,Fh]at h;omega
def bJu{b n:Ae}{l:Ad Rp3}(hb:b<=160000)(hg:bCe l)(h:b=0\/1<=l.length-2*n):enR b l n:=by
 unfold enR;have hm:∀p∈(lK (pmL l)).take (l.length-2*n),2147483477<=p:=λp hp=>by have:=(sF (pmL l)).mem_iff.1 (BS hp);obtain⟨x,hx,rfl⟩:=AY.1 this;exact(lN (hg x hx)).1
 have hlen:((lK (pmL l)).take (l.length-2*n)).length=l.length-2*n:=by rw[Bt,aLk];simp only[pmL,BV];omega
 generalize(lK (pmL l)).take (l.length-2*n)=Q at *;rcases Q with _|⟨q,Q⟩
 .rw[AK]at hlen;have:b=0:=by omega
  subst this;decide
 .have h1:=hm q (AX ..);have h2:0<bK Q:=sR λp hp=>by have:=hm p (AT _ hp);omega
  rw[bK];have:=BO h1 h2;omega
def oC{b k:Ae}(hb:b<=160000)(hk:k<=3):wpL b k=P10.take (2*k+if b=0 then 0 else 1):=by
 unfold wpL;have h2:2*k<P10.length:=by rw[vF];omega
 obtain⟨q,hq⟩:∃q,P10[2*k]? = Aa q:=⟨_,Ac h2⟩;have hd:P10.drop (2*k)=q::P10.drop (2*k+1):=by
  rw[Ac h2]at hq;injection hq with hq
  rw[<-hq];exact(List.drop_eq_getElem_cons h2)
 have hqb:=lN (At hq);rw[hd];by_cases h0:b=0
 .subst h0;rw[AB rfl,Nat.add_zero];simp[gX]
 .rw[Ap h0,BG,hq];congr 1;unfold gX;rw[Ap (by omega)];rcases P10.drop (2*k+1)with _|⟨r,l⟩
  .rfl
  .unfold gX;rw[AB (by omega)];rfl
def aUl{b k p:Ae}(hb:b<=160000)(hk:k<=3)(h:p∈wpL b k):p∈P10:=by rw[oC hb hk]at h;exact BS h
def bYe:P10.Nodup:=by decide
def bCq{b k:Ae}(hb:b<=160000)(hk:k<=3):(wpL b k).Nodup:=by rw[oC hb hk];exact(DK _ _).nodup bYe
def aUm{b k:Ae}(hb:b<=160000)(hk:k<=3):(wpL b k).length=2*k+if b=0 then 0 else 1:=by rw[oC hb hk,Bt,vF];split<;>omega
def bQm{p:Ae}(h:Pr3 p):PrN p:=⟨h.1,h.2.2⟩
def oI[M:Mch Ab]{p:Ae}(h:p∈P10):Spec Ab 129 [.i .u64 (p:Ae)] (.b Ak) :=
 bGc (b:=Ak) (by
  have:(P10.all λp=>prB p==1)=true:=by kernel_rfl
  exact eq_of_beq (A1.1 this p h))
def bQq{p:Ae}(h:p∈P10):Pr3 p:=by
 simp only[P10,BQ,Gp,Fh]at h;rcases h with rfl|rfl|rfl|rfl|rfl|rfl|rfl|rfl|rfl|rfl
 .exact nY (by decide) (by decide) (by decide) np0
 .exact nY (by decide) (by decide) (by decide) np1
 .exact nY (by decide) (by decide) (by decide) np2
 .exact nY (by decide) (by decide) (by decide) np3
 .exact nY (by decide) (by decide) (by decide) np4
 .exact nY (by decide) (by decide) (by decide) np5
 .exact nY (by decide) (by decide) (by decide) np6
 .exact nY (by decide) (by decide) (by decide) np7
 .exact nY (by decide) (by decide) (by decide) np8
 .exact nY (by decide) (by decide) (by decide) np9
def pC{p:Ae}(h:p∈P10):PrN p:=bQm (bQq h)
def aTf[M:Mch Ab](b n:Ae)(l:Ad Rp3)(hb:b<=160000)(hG:Good l)(hg:bCe l)(hl:l.length<=9)(hf:2*n<=l.length)(hs:l.length-2*n<=7)(he:b=0\/1<=l.length-2*n) :
 (∃z:Al,z.natAbs<=b/\(blL z l).length<=n/\Spec Ab 12 [cB b,lB l,.i .i64 n] (aXz z l)) \/
 ((∀z:Al,z.natAbs<=b->n<(blL z l).length)/\Spec Ab 12 [cB b,lB l,.i .i64 n] (vdE 201)):=by
 have hE:=bJu (n:=n) hb hg he
 have hc:=λR h0 h1 h2=>bBd b l n 2147483647 R (Bv hb (by decide)) (by omega) (by omega) ⟨hG.ok,hG.nd⟩ (λx hx=>oI (hg x hx)) hf (λx hx=>⟨hG.pr x hx,(lN (hg x hx)).2⟩) (by decide) (Bv (CL (by decide) hs) (by decide)) h0 h1 h2
 by_cases hz:∃z:Al,z.natAbs<=b/\(blL z l).length<=n
 .obtain⟨z,hz,hz1⟩:=hz
  refine .inl ⟨z,hz,hz1,hc _ (λh=>absurd hE h) (λ_ s _ hs _=>?_) λ_ hno=>?_⟩
  .rw[aLe hG hE hz hs.2.1 hz1 hs.2.2]
  .obtain⟨s,h1,h2,h3⟩:=bXr hG hE hf hz hz1
   refine absurd ⟨?_,by rw[h3];exact hz,by rw[h3];exact hz1⟩ (hno s h1)
   have:=sS (l.length-n) (10-(l.length-n)) s h1
   rw[show l.length-n+(10-(l.length-n))=10 from by omega]at this
   rw[this,h2]
 .refine .inr ⟨λz h=>?_,hc _ (λh=>absurd hE h) (λ_ s _ hs _=>absurd ⟨_,hs.2.1,hs.2.2⟩ hz) λ_ _=>rfl⟩
  exact Nat.lt_of_not_le λh'=>hz ⟨z,h,h'⟩
def bBc[M:Mch Ab](b n:Ae)(d:Al)(l:Ad Rp3)(hb:b<=160000)(hd:d.natAbs<=b)(hG:Gd d n l)(hg:bCe l)(hl:l.length<=9)(hf:2*n<=l.length)(hs:l.length-2*n<=7)(he:b=0\/1<=l.length-2*n) :
 Spec Ab 12 [cB b,lB l,.i .i64 n] (aXz d l):=by
 rcases aTf b n l hb hG.good hg hl hf hs he with ⟨z,h1,h2,h3⟩|⟨h1,_⟩
 .rw[aLe hG.good (bJu hb hg he) hd h1 hG.lies h2];exact h3
 .have:=h1 d hd
  have:=hG.lies
  omega
def rD(v:Ae->AV)(o:HO)(m id:Ae):(jX v (λ_=>[o]) m).H id=if id=m then Aa o else none:=by
 simp only[jX,iY,B8];by_cases h:id=m
 .rw[AB h,AB (by omega),h,Dw];rfl
 .rw[Ap h,Ap (by omega)]
def bNq{Γ:Ae->AV}{H:Hp}{n b l s:Ae}{e:TypeId}{dl:Ad D}(hn:n≠0)(hH:H b=Aa (.cells e (dl.map .d))) :
 ∀m,0<m->∃ρ,Wk ⟨upd Γ 0 (.own b 0 l s),H,n⟩ (jX (λm=>.own m 0 l s) (λ_=>[.cells e (dl.map .d)]) m) ρ:=by
 intro m hm
 refine⟨λ_=>b,λid hid=>?_,λt=>?_,λid o' ho=>?_,λid id' h1 h2 _=>?_,λid hp h=>?_,λid hp h=>absurd h ?_⟩
 .rw[rD,Ap (by simp only[jX,B8]at hid;omega)]
 .show Sub _ _ _ _ (upd (λ_=>.any) 0 (.own m 0 l s) t)
  by_cases e:t=0
  .subst e
   simp only[upd_same]
   exact⟨rfl,rfl,rfl,rfl,by rw[rD,AB rfl];rfl⟩
  .rw[upd_ne _ _ e];exact sE _
 .rw[rD]at ho
  split at ho
  .injection ho with ho;subst ho
   exact⟨_,hH,oF _ _⟩
  .cases ho
 .rw[rD]at h1 h2
  split at h1
  .split at h2
   .omega
   .cases h2
  .cases h1
 .have hp:id=0:=hp
  subst hp;rw[rD,Ap (by omega)]at h;cases h
 .have hp:id=0:=hp
  subst hp;simp only[jX,B8];omega
def cAi[M:Mch Ab](v:Ad Ae)(h0:v≠[])(h:v.length<=1000000):aEn Ab 286 [cO v] (λm=>.own m 0 v.length 1) (λ_=>[.cells 46 ((dU v).map .d)]):=by
 refine aCi (N:=8) aT Tryz.func286 rfl rfl rfl (by decide) (by kernel_rfl) (by kernel_rfl) (by simp) rfl ?_;obtain⟨x,w,rfl⟩:∃x w,v=x::w:=by
  cases v with
  |nil=>exact absurd rfl h0
  |cons x w=>exact⟨x,w,rfl⟩
 have hb:(w.length+1)*8<=140737488355328/\w.length+1<=maxLen:=by simp only[Av]at h;exact⟨by omega,bY (by omega)⟩
 have hcs:dU (x::w)=D.i .u64 x::dU w:=rfl;have hfl:(DX (DX AV.d) (DX (λ(p:Ae)=>[D.i .u64 (p:Al)]) w)).flatten=(dU w).map AV.d:=aWy w;have hone:(∀y:D,y∈dU w->one (AV.d y)=Ak)=True:=eq_true λy hy=>by obtain⟨z,_,rfl⟩:=AY.1 hy;rfl
 have hdl:=fC w;simp[-E,-I,↓KW,cO,hb,hfl,hcs,hone,hdl];refine bNq (e:=46) (dl:=dU (x::w)) (by decide) ?_;rw[AB rfl,hcs];simp[gT,eM,Function.comp_def]
def jK(v:Ad Ae):HO:=.cells 46 ((dU v).map .d)
def hdI(ids:Ad Ae)(c:Ae):Ad AV:=ids.map λj=>AV.own j 0 c 1
def idR(n m:Ae):Ad Ae:=(AW n).map (·+m)
def bSl(n m:Ae):(idR n m).length=n:=by simp[idR]
def aAn{n m i:Ae}(h:i<n):(idR n m)[i]? = Aa (i+m):=by unfold idR;rw[Ao,BZ h];rfl
def mU(c:Ae)(M:Ad (Ad Ae))(m:Ae):Ad HO:=.cells 43 (hdI (idR M.length (m+1)) c)::M.map jK
def aJi(c:Ae)(M:Ad (Ad Ae))(m:Ae):(mU c M m).length=M.length+1:=by simp[mU]
def pO{ids:Ad Ae}{c i j:Ae}(h:ids[i]? = Aa j):(hdI ids c)[i]? = Aa (.own j 0 c 1):=by unfold hdI;rw[Ao,h];rfl
def bNp{Γ:Ae->AV}{H:Hp}{n:Ae}{av:AV}{R c m0:Ae}{M:Ad (Ad Ae)}(hM:M.length=R)(hn:n≠0)(hav:av=.own m0 0 R 1)(hH:∀(i:Ae) o,(mU c M m0)[i]? = Aa o->H (i+m0)=Aa o) :
 ∀m,0<m->∃ρ,Wk ⟨upd Γ 0 av,H,n⟩ (jX (λm=>.own m 0 R 1) (mU c M) m) ρ:=by
 intro m hm0
 subst hav
 have hML:(mU c M m).length=R+1:=by rw[aJi,hM]
 have hin:∀i,i<R+1->(jX (λm=>.own m 0 R 1) (mU c M) m).H (i+m)=(mU c M m)[i]? := λi h=>by simp only[jX,iY];rw[AB ⟨by omega,by rw[hML];omega⟩,Eu]
 have hout:∀id,¬(m<=id/\id<m+(R+1))->(jX (λm=>.own m 0 R 1) (mU c M) m).H id=none:=λid h=>by simp only[jX,iY];rw[Ap (by rw[hML];exact h)]
 have hsome:∀id,((jX (λm=>.own m 0 R 1) (mU c M) m).H id).isSome=Ak->∃i,id=i+m/\i<R+1:=λid h=>by
  by_cases hr:m<=id/\id<m+(R+1)
  .exact⟨id-m,by omega,by omega⟩
  .rw[hout id hr]at h;cases h
 have hget:∀i,i<R+1->((jX (λm=>.own m 0 R 1) (mU c M) m).H (i+m)).isSome=true:=λi h=>by rw[hin i h,Ac (by rw[hML];exact h)];rfl
 refine⟨λid=>id-m+m0,λid hid=>hout id (by simp only[jX]at hid;rw[hML]at hid;omega),λt=>?_,λid o' ho=>?_,λid id' h1 h2 e=>?_,λid hp h=>?_,λid hp h=>?_⟩
 .show Sub _ _ _ _ (upd (λ_=>.any) 0 (.own m 0 R 1) t)
  by_cases e:t=0
  .subst e
   simp only[upd_same]
   exact⟨by simp,rfl,rfl,rfl,by have:=hget 0 (by omega);rwa [AP]at this⟩
  .rw[upd_ne _ _ e];exact sE _
 .obtain⟨i,rfl,hi⟩:=hsome id (by rw[ho];rfl)
  rw[hin i hi]at ho
  simp only[Eu]
  rcases i with _|i
  .simp only[mU,Ca]at ho
   injection ho with ho;subst ho
   refine⟨_,hH 0 _ rfl,eL.2 ⟨rfl,eE.2 ⟨by simp[hdI,idR],λk x y h1 h2=>?_⟩⟩⟩
   have hlt:k<M.length:=by have:=(AA.1 h1).1;simpa[hdI,idR]using this
   rw[pO (aAn hlt)]at h1 h2
   injection h1 with h1;injection h2 with h2;subst h1;subst h2
   rw[hM]at hlt
   exact⟨by show k+(m0+1)=k+(m+1)-m+m0;omega,rfl,rfl,rfl,by have:=hget (k+1) (by omega);rwa [show k+1+m=k+(m+1)by omega]at this⟩
  .refine⟨o',hH (i+1) o' (by simpa only[mU,BT]using ho),?_⟩
   simp only[mU,BT,Ao]at ho
   obtain⟨v,_,rfl⟩:=Ai.1 ho
   exact oF _ _
 .obtain⟨i,rfl,_⟩:=hsome id h1
  obtain⟨j,rfl,_⟩:=hsome id' h2
  have e':i+m-m+m0=j+m-m+m0:=e
  omega
 .have hp:id=0:=hp
  subst hp;obtain⟨i,hi,_⟩:=hsome 0 h;omega
 .have hp:id=0:=hp
  subst hp;simp only[jX]at h;omega
def hdC(n c i:Ae):Ad AV:=hdI (idR i 2) c++AO (n-i) .nil
def bSu{n c i:Ae}(h:i<=n):(hdC n c i).length=n:=by simp[hdC,hdI,idR];omega
def aNs(i m:Ae):idR (i+1) m=idR i m++[i+m]:=by simp[idR,List.range_succ]
def bSt{n c i:Ae}(h:i<n):(hdC n c i).set i (.own (i+2) 0 c 1)=hdC n c (i+1):=by
 unfold hdC;have hl:(hdI (idR i 2) c).length=i:=by simp[hdI,idR]
 rw[DN _ _ (by omega),hl,Dw,show n-i=(n-(i+1))+1 by omega,C9,Dg,aNs];simp[hdI]
def aSf(l:Ad AV)(off:Ae)(x:AV)(h:off<l.length):lay l off [x]=l.set off x:=by
 have h1:off+[x].length<=l.length:=by simp;omega
 apply Dr;intro k;rw[vX h1,DI];by_cases e:off=k
 .subst e;simp[h]
 .rw[Ap (by simp;omega),Ap e]
def cpH(n c:Ae)(M:Ad (Ad Ae))(i:Ae):Hp:=jS 1 (.cells 43 (hdC n c i)::(M.take i).map jK)
def aAs{n c i j:Ae}{M:Ad (Ad Ae)}{v:Ad Ae}(hj:j<i)(hv:M[j]? = Aa v):cpH n c M i (j+2)=Aa (jK v):=by unfold cpH;rw[show j+2=(j+1)+1 by omega,rP,BT,Ao,List.getElem?_take,AB hj,hv];rfl
def wO{n c i id:Ae}{M:Ad (Ad Ae)}(hi:i<=M.length)(h:i+2<=id):cpH n c M i id=none:=aDl (by simp;omega)
def aOq{n c i:Ae}{M:Ad (Ad Ae)}(hi:i<=M.length){H:Hp}{id:Ae}{o:HO}(ho:cpH n c M i id=Aa o):mZ H (cpH n c M i) (λi=>i) o o:=by
 refine aDk (λo ho=>?_) ho;have hlen:(HO.cells 43 (hdC n c i)::(M.take i).map jK).length=i+1:=by simp;omega
 rw[hlen];rcases BQ.1 ho with rfl|ho
 .refine A1.2 λx hx=>?_
  rcases BR.1 hx with hx|hx
  .obtain⟨j,hj,rfl⟩:=AY.1 hx;obtain⟨k,hk,rfl⟩:=AY.1 hj;have:=Cc.1 hk;simp only[rfC,Bz];omega
  .rw[EO hx];rfl
 .obtain⟨v,_,rfl⟩:=AY.1 ho;refine A1.2 λc hc=>?_
  obtain⟨x,_,rfl⟩:=AY.1 hc;rfl
def aDq[M0:Mch Ab](n c:Ae)(M:Ad (Ad Ae))(hn:n<=1000)(hM:M.length=n)(hr:∀v∈M,v.length=c)(hc:0<c)(hc1:c<=1000):aEn Ab 224 [tR M] (λm=>.own m 0 n 1) (mU c M):=by
 obtain⟨L,hL,hLl,hLg⟩:=wL M;have hLn:(L.length:Al)=(n:Al):=by omega
 have hLn':L.length=n:=by omega
 have m1:¬(n:Al)<0:=by omega
 have hm3:24*(n:Al)<=281474976710656:=by omega
 have hm4:(n:Al)<=9223372036854775807:=by omega
 rw[hL];refine aCi (N:=23) aT Tryz.func224 rfl rfl rfl (by decide) (by kernel_rfl) (by kernel_rfl) (by simp) rfl ?_;simp[-E,-I,↓KW,hLn,hLn',m1,hm3,hm4,bY];refine eF (λi:Ae=>i<=n) (λi=>⟨gK [(3,.own 1 0 n 1),(9,.d (.sl L)),(10,.d (.i .i64 n)),(11,.d (.i .i64 (i:Al)))],cpH n c M i,i+2⟩) (λi=>n-i) 0 (BH _) ?_ ?_
 .refine⟨_,nB ?_ (λid o' ho=>?_) (λid hid=>wO (by omega) hid) (by simp)⟩
  .have g1:(cpH n c M 0 1).isSome=true:=rfl;simp[-E,upd,bH,Γ0,g1]
  .refine⟨o',?_,aOq (by omega) ho⟩;have hid:id=1:=by
    rcases Bc id 2 with h|h
    .rcases BB id with h0|h0
     .subst h0;cases ho
     .omega
    .rw[wO (by omega) h]at ho;cases ho
   subst hid;have e:cpH n c M 0 1=Aa (.cells 43 (AO n .nil)):=by show Aa (HO.cells _ (hdC n c 0))=_;simp[hdC,hdI,idR]
   rw[e]at ho;simpa[upd]using ho
 .intro i hi;by_cases hlt:i<n
  .obtain⟨v,hv⟩:∃v,M[i]? = Aa v:=⟨_,Ac (by omega)⟩;have hLi:=hLg i v hv;have hLi':=cI hLi;have hiL:i<L.length:=by omega
   have hvl:=hr v (At hv);have hv0:v≠[]:=λe=>by rw[e]at hvl;simp at hvl;omega
   have hCl:=cAi (M:=M0) v hv0 (by omega);rw[hvl]at hCl;have q1:(i:Al)<n:=by omega
   have hw0:Ax.wrap (i:Al)=i:=bP;have hw1:Ax.wrap ((i:Al)+1)=((i+1:Ae):Al):=bP;have hH1:cpH n c M i 1=Aa (.cells 43 (hdC n c i)):=rfl;have hhl:=bSu (c:=c) hi;have hset:=bSt (c:=c) hlt;have hly:lay (hdC n c i) i [.own (i+2) 0 c 1]=hdC n c (i+1):=by rw[aSf _ _ _ (by omega),hset]
   have hne1:¬1=i+2:=by omega
   have hi1:i+1<=n:=hlt;have hrow:=λj (hj:j<i+1) (w:Ad Ae) (hw:M[j]? = Aa w)=>aAs (n:=n) (c:=c) hj hw
   have hold:∀id,id≠1->id≠i+2->cpH n c M (i+1) id=cpH n c M i id:=λid h1 h2=>by
    rcases BB id with h0|h0
    .subst h0;rfl
    .obtain⟨j,rfl⟩:∃j,id=j+2:=⟨id-2,by omega⟩;by_cases hj:j<i
     .have hjM:M[j]? = Aa (M.getD j []):=by rw[Ah,Ac (by omega)];rfl
      rw[aAs hj hjM,aAs (by omega) hjM]
     .rw[wO (by omega) (by omega),wO (by omega) (by omega)]
   have htop:=λid=>wO (n:=n) (c:=c) (M:=M) (i:=i+1) (id:=id) (by omega)
   have hself:=λ(H:Hp) id o=>aOq (n:=n) (c:=c) (M:=M) (i:=i+1) (by omega) (H:=H) (id:=id) (o:=o)
   have hnew:=hrow i (by omega) v hv;have hn1:cpH n c M (i+1) 1=Aa (.cells 43 (hdC n c (i+1))):=rfl;generalize hHg:cpH n c M i=H at *;generalize hKg:cpH n c M (i+1)=K at *;generalize hdC n c i=cs at *;generalize hdC n c (i+1)=cs1 at *;simp[-E,-I,↓KW,q1,hlt,hiL,hLi,hLi',hw0];refine vJ [cO v] (λm=>.own m 0 c 1) (λ_=>[.cells 46 ((dU v).map .d)]) (by simp) (by simp) (by simp) (by rfl) (by rfl) hCl ?_;simp[-E,-I,↓KW,aOe,hne1,hH1,hhl,hlt,hi1,hly,hw0,hw1];refine bD (i+1) hi1 (by show n-(i+1)<n-i;omega) ?_;rw[hKg];refine⟨_,nB ?_ (λid o' ho=>?_) (λid hid=>htop id hid) (by simp)⟩
   .simp[-E,upd,bH,Γ0,hn1]
   .refine⟨o',?_,hself _ _ _ ho⟩;by_cases h1:id=1
    .subst h1;rw[hn1]at ho;simpa[upd]using ho
    .by_cases h2:id=i+2
     .subst h2;rw[hnew]at ho;simpa[upd,jK]using ho
     .rw[hold id h1 h2]at ho;simpa[upd,h1,h2]using ho
  .have q1:¬(i:Al)<n:=by omega
   have hin:i=n:=by omega
   subst hin;have hmb:∀(j:Ae) o,(mU c M 1)[j]? = Aa o->cpH i c M i (j+1)=Aa o:=λj o h=>by
    rcases j with _|j
    .simp only[mU,Ca]at h;injection h with h;subst h
     show Aa (HO.cells _ (hdC i c i))=_;unfold hdC;rw[Dw,List.replicate_zero,El,hM]
    .simp only[mU,BT,Ao]at h;obtain⟨v,hv,rfl⟩:=Ai.1 h;exact aAs (by have:=(AA.1 hv).1;omega) hv
   generalize hHg:cpH i c M i=H at *;simp[-E,-I,↓KW,q1];exact bNp hM (Nat.succ_ne_zero _) rfl hmb
def jL:Ad Ae->Ad (Ad Ae)->Ae->Aq HO
 |j::ids,v::M,id=>if id=j then Aa (jK v)else jL ids M id
 |_,_,_=>Aj
def gU:∀{ids:Ad Ae} {M:Ad (Ad Ae)} {id:Ae} {o:HO},jL ids M id=Aa o->∃(i:Ae) (v:Ad Ae),ids[i]? = Aa id/\M[i]? = Aa v/\o=jK v
 |[],M,id,o,h=>by cases M<;>cases h
 |j::ids,[],id,o,h=>by cases h
 | j::ids,v::M,id,o,h=>by
  unfold jL at h;split at h
  .rename_i e;injection h with h;exact⟨0,v,by simp[e],rfl,h.symm⟩
  .obtain⟨i,w,h1,h2,h3⟩:=gU h;exact⟨i+1,w,h1,h2,h3⟩
def kJ:∀{ids:Ad Ae} {M:Ad (Ad Ae)} {i id:Ae} {v:Ad Ae},ids.Nodup->ids[i]? = Aa id->M[i]? = Aa v->jL ids M id=Aa (jK v)
 |[],M,i,id,v,_,h,_=>by simp at h
 |j::ids,[],i,id,v,_,_,h=>by simp at h
 | j::ids,w::M,0,id,v,_,h1,h2=>by simp at h1 h2;subst h1;subst h2;unfold jL;rw[AB rfl]
 | j::ids,w::M,i+1,id,v,hn,h1,h2=>by
  have h1':ids[i]? = Aa id:=by simpa using h1
  have hne:id≠j:=λe=>(DQ.1 hn).1 (by rw[<-e];exact At h1')
  unfold jL;rw[Ap hne];exact kJ (DQ.1 hn).2 h1' (by simpa using h2)
def aYu{ids ids':Ad Ae}{M M':Ad (Ad Ae)}(hn:ids.Nodup)(hn':ids'.Nodup)(h:∀(i:Ae) (id:Ae) (v:Ad Ae),ids[i]? = Aa id->M[i]? = Aa v->∃j:Ae,ids'[j]? = Aa id/\M'[j]? = Aa v)
 (h':∀(i:Ae) (id:Ae) (v:Ad Ae),ids'[i]? = Aa id->M'[i]? = Aa v->∃j:Ae,ids[j]? = Aa id/\M[j]? = Aa v):jL ids M=jL ids' M':=by
 funext id
 cases h1:jL ids M id with
 | some o =>
  obtain⟨i,v,e1,e2,rfl⟩:=gU h1
  obtain⟨j,e3,e4⟩:=h i id v e1 e2
  exact(kJ hn' e3 e4).symm
 | none =>
  cases h2:jL ids' M' id with
  |none=>rfl
  | some o =>
   obtain⟨i,v,e1,e2,rfl⟩:=gU h2
   obtain⟨j,e3,e4⟩:=h' i id v e1 e2
   rw[kJ hn e3 e4]at h1;cases h1
def aFz{ids:Ad Ae}{M:Ad (Ad Ae)}{i id:Ae}{v:Ad Ae}(hn:ids.Nodup)(hl:ids.length=M.length)(hi:ids[i]? = Aa id)(j:Ae):jL ids (M.set i v) j=if j=id then Aa (jK v)else jL ids M j:=by
 have hil:i<M.length:=by rw[<-hl];exact(AA.1 hi).1
 by_cases hj:j=id
 .subst hj;rw[AB rfl];exact kJ hn hi (List.getElem?_set_self hil)
 .rw[Ap hj];cases h1:jL ids M j with
  | some o =>
   obtain⟨k,w,e1,e2,rfl⟩:=gU h1;refine kJ hn e1 ?_;rw[Fv (λe=>by rw[e]at hi;rw[hi]at e1;injection e1 with e1;exact hj e1.symm)];exact e2
  | none =>
   cases h2:jL ids (M.set i v) j with
   |none=>rfl
   | some o =>
    obtain⟨k,w,e1,e2,rfl⟩:=gU h2;rw[Fv (λe=>by rw[e]at hi;rw[hi]at e1;injection e1 with e1;exact hj e1.symm)]at e2;rw[kJ hn e1 e2]at h1;cases h1
structure qQ(n:Ae)(ids:Ad Ae):Prop where
 len:ids.length=n
 nd:ids.Nodup
 lo:∀j∈ids,3<=j/\j<n+3
def deH(p n:Ae)(L:Ad (Ad D))(ids:Ad Ae)(M:Ad (Ad Ae)):Hp:=λid =>
 if id=1 then Aa (.cells 216 [.d (.i .u64 p),.d (.i .i64 n),.d (.sl L)])else if id=2 then Aa (.cells 43 (hdI ids n))else jL ids M id
section
variable {p n:Ae} {L:Ad (Ad D)} {ids:Ad Ae} {M:Ad (Ad Ae)}
def tG{i id:Ae}{v:Ad Ae}(h:qQ n ids)(hi:ids[i]? = Aa id)(hv:M[i]? = Aa v):deH p n L ids M id=Aa (jK v):=by have:=h.lo id (At hi);unfold deH;rw[Ap (by omega),Ap (by omega)];exact kJ h.nd hi hv
def aKb{id:Ae}(h:qQ n ids)(hid:n+3<=id):deH p n L ids M id=none:=by
 unfold deH;rw[Ap (by omega),Ap (by omega)];cases h1:jL ids M id with
 |none=>rfl
 | some o =>
  obtain⟨i,v,e1,_,_⟩:=gU h1;have:=h.lo id (At e1);omega
def aOo(h:qQ n ids)(hM:M.length=n){H:Hp}{id:Ae}{o:HO}(ho:deH p n L ids M id=Aa o):mZ H (deH p n L ids M) (λi=>i) o o:=by
 unfold deH at ho;split at ho
 .injection ho with ho;subst ho
  refine eL.2 ⟨rfl,eE.2 ⟨rfl,λk x y h1 h2=>?_⟩⟩;rw[h1]at h2;injection h2 with h2;subst h2
  rcases k with _|_|_|k
  .simp at h1;subst h1;exact(mD _ _).2 rfl
  .simp at h1;subst h1;exact(mD _ _).2 rfl
  .simp at h1;subst h1;exact(mD _ _).2 rfl
  .simp at h1
 .split at ho
  .injection ho with ho;subst ho
   refine eL.2 ⟨rfl,eE.2 ⟨rfl,λk x y h1 h2=>?_⟩⟩;rw[h1]at h2;injection h2 with h2;subst h2
   unfold hdI at h1;rw[Ao]at h1;obtain⟨j,hj,rfl⟩:=Ai.1 h1;have hk:k<M.length:=by rw[hM,<-h.len];exact(AA.1 hj).1
   exact⟨rfl,rfl,rfl,rfl,by rw[tG h hj (Ac hk)];rfl⟩
  .obtain⟨i,v,_,_,rfl⟩:=gU ho;exact oF _ _
def bTz{i id:Ae}{v:Ad Ae}(h:qQ n ids)(hM:M.length=n)(hi:ids[i]? = Aa id):upd (deH p n L ids M) id (Aa (jK v))=deH p n L ids (M.set i v):=by
 have hlo:=h.lo id (At hi);funext j;unfold upd deH;by_cases hj:j=id
 .subst hj;rw[AB rfl,Ap (by omega),Ap (by omega),aFz h.nd (by rw[h.len,hM]) hi,AB rfl]
 .rw[Ap hj];split
  .rfl
  .split
   .rfl
   .rw[aFz h.nd (by rw[h.len,hM]) hi,Ap hj]
def swI(ids:Ad Ae)(k a:Ae):Ad Ae:=(ids.set k (ids.getD a 0)).set a (ids.getD k 0)
def aIf{k a r:Ae}(hk:k<ids.length)(ha:a<ids.length)(hr:r<ids.length):(swI ids k a)[r]? = Aa (if r=a then ids.getD k 0 else if r=k then ids.getD a 0 else ids.getD r 0):=by
 unfold swI;rw[DI];by_cases h1:a=r
 .rw[AB h1,AB (by rw[CO];exact ha),AB h1.symm]
 .rw[Ap h1,Ap (λe=>h1 e.symm),DI];by_cases h2:k=r
  .rw[AB h2,AB hk,AB h2.symm]
  .rw[Ap h2,Ap (λe=>h2 e.symm),Ac hr,Ah,Ac hr];rfl
def aBi{k a r:Ae}(hk:k<M.length)(ha:a<M.length)(hr:r<M.length):(swM M k a)[r]? = Aa (if r=a then M.getD k []else if r=k then M.getD a []else M.getD r []):=by have h:=aIe (M:=M) (k:=k) (a:=a) (r:=r) hk ha;rw[<-h,Ah,Ac (by simp[swM];exact hr)];rfl
def bDu{k a:Ae}(hk:k<ids.length)(ha:a<ids.length):(swI ids k a).Perm ids:=by
 unfold swI;by_cases e:a=k
 .subst e;have:ids.set a (ids.getD a 0)=ids:=by rw[Ah,Ac hk];exact List.set_getElem_self hk
  rw[this,this]
 .have h1:ids.getD a 0=ids[a]:=by rw[Ah,Ac ha];rfl
  have h2:ids.getD k 0=ids[k]:=by rw[Ah,Ac hk];rfl
  rw[h1,h2];exact List.set_set_perm hk ha
def aQh{k a:Ae}(h:qQ n ids)(hk:k<n)(ha:a<n):qQ n (swI ids k a):=by have hp:=bDu (ids:=ids) (k:=k) (a:=a) (by rw[h.len];exact hk) (by rw[h.len];exact ha);exact⟨by rw[hp.length_eq,h.len],hp.nodup_iff.2 h.nd,λj hj=>h.lo j (hp.mem_iff.1 hj)⟩
def aRe{k a:Ae}(h:qQ n ids)(hM:M.length=n)(hk:k<n)(ha:a<n):jL (swI ids k a) (swM M k a)=jL ids M:=by
 have hk1:k<ids.length:=by rw[h.len];exact hk
 have ha1:a<ids.length:=by rw[h.len];exact ha
 have hk2:k<M.length:=by rw[hM];exact hk
 have ha2:a<M.length:=by rw[hM];exact ha
 have gI:∀r,r<n->ids[r]? = Aa (ids.getD r 0):=λr hr=>by rw[Ah,Ac (by rw[h.len];exact hr)];rfl
 have gM:∀r,r<n->M[r]? = Aa (M.getD r []):=λr hr=>by rw[Ah,Ac (by rw[hM];exact hr)];rfl
 refine aYu (aQh h hk ha).nd h.nd (λi id v e1 e2=>?_) λi id v e1 e2=>?_
 .have hi:i<n:=by have:=(AA.1 e1).1;rw[(aQh h hk ha).len]at this;exact this
  rw[aIf hk1 ha1 (by rw[h.len];exact hi)]at e1;rw[aBi hk2 ha2 (by rw[hM];exact hi)]at e2;injection e1 with e1;injection e2 with e2
  by_cases c1:i=a
  .rw[AB c1]at e1 e2;exact⟨k,by rw[gI k hk,e1],by rw[gM k hk,e2]⟩
  .rw[Ap c1]at e1 e2;by_cases c2:i=k
   .rw[AB c2]at e1 e2;exact⟨a,by rw[gI a ha,e1],by rw[gM a ha,e2]⟩
   .rw[Ap c2]at e1 e2;exact⟨i,by rw[gI i hi,e1],by rw[gM i hi,e2]⟩
 .have hi:i<n:=by have:=(AA.1 e1).1;rw[h.len]at this;exact this
  rw[gI i hi]at e1;rw[gM i hi]at e2;injection e1 with e1;injection e2 with e2
  have sI:=λr (hr:r<n)=>aIf (ids:=ids) (k:=k) (a:=a) (r:=r) hk1 ha1 (by rw[h.len];exact hr)
  have sM:=λr (hr:r<n)=>aBi (M:=M) (k:=k) (a:=a) (r:=r) hk2 ha2 (by rw[hM];exact hr)
  by_cases c1:i=a
  .subst c1;refine⟨k,?_,?_⟩
   .rw[sI k hk];by_cases c:k=i
    .rw[AB c,c,e1]
    .rw[Ap c,AB rfl,e1]
   .rw[sM k hk];by_cases c:k=i
    .rw[AB c,c,e2]
    .rw[Ap c,AB rfl,e2]
  .by_cases c2:i=k
   .subst c2;exact⟨a,by rw[sI a ha,AB rfl,e1],by rw[sM a ha,AB rfl,e2]⟩
   .exact⟨i,by rw[sI i hi,Ap c1,Ap c2,e1],by rw[sM i hi,Ap c1,Ap c2,e2]⟩
def bKn{k a:Ae}(h:qQ n ids)(hM:M.length=n)(hk:k<n)(ha:a<n):upd (deH p n L ids M) 2 (Aa (.cells 43 (hdI (swI ids k a) n)))=deH p n L (swI ids k a) (swM M k a):=by
 funext j;unfold upd deH;rw[aRe h hM hk ha];by_cases h1:j=1
 .subst h1;rw[Ap (by decide),AB rfl,AB rfl]
 .by_cases h2:j=2
  .subst h2;rw[AB rfl,Ap (by decide),AB rfl]
  .rw[Ap h2,Ap h1,Ap h2,Ap h1,Ap h2]
def aDd{H:Hp}{B:Ae}{v:Ad Ae}{n:Ae}(m:Ae)(hB:H B=Aa (jK v))(hv:v.length=n):frz H (m+2) (.own B 0 n 1)=Aa (cO v)/\vis H (m+2) (.own B 0 n 1)=[B]:=by
 have hl:=fC v;rw[hv]at hl;constructor
 .rw[aAq,hB];simp only[jK,AP,BV,hl,Ef,Ew,Eb];rw[jE hv,AB ⟨AM _,by decide⟩];have:List.mapM (frz H (m+1)) ((dU v).map AV.d)=Aa (dU v):=aCn H m (dU v);rw[this,Bj,oP hv];rfl
 .simp only[vis,hB,jK,Ef,Ew,Eb];rw[jE hv];congr 1;refine FW.2 λx hx=>?_
  obtain⟨y,_,rfl⟩:=AY.1 hx;rfl
def bZs(h:qQ n ids)(hM:M.length=n)(hr:∀v∈M,v.length=n){H:Hp}(hH:∀id,(id=2\/id∈ids)->H id=deH p n L ids M id):frz H 8 (.own 2 0 n 1)=Aa (tR M):=by
 have h2:H 2=Aa (.cells 43 (hdI ids n)):=by rw[hH 2 (.inl rfl)];rfl
 have hl:(hdI ids n).length=n:=by simp[hdI,h.len]
 rw[aAq,h2];simp only[AP,hl,Ef,Ew,Eb];rw[A4 (by rw[hl];exact AM _),AB ⟨AM _,by decide⟩];have:(hdI ids n).mapM (frz H 7)=Aa (M.map cO):=by
  rw[mapM_some (frz H 7) (λk=>cO (M.getD k [])) _ λk x hx=>by
   have hlt:k<n:=by have:=(AA.1 hx).1;rwa [hl]at this
   unfold hdI at hx;rw[Ao]at hx;obtain⟨j,hj,rfl⟩:=Ai.1 hx;have hv:M[k]? = Aa (M.getD k []):=by rw[Ah,Ac (by omega)];rfl
   exact(aDd 5 (by rw[hH j (.inr (At hj))];exact tG h hj hv) (hr _ (At hv))).1]
  congr 1;apply Dr;intro k;rw[hl];by_cases hk:k<n
  .rw[Ao,BZ hk,Ao,Bj,Ah,Ac (by omega)];rfl
  .rw[Bn (by simpa using hk),Bn (by simpa[hM]using hk)]
 rw[this,Bj,lZ _ _ (by rw[BV,hM]),Dp];rfl
end
def bJg{H:Hp}{x:AV}{d a b:D}(h:frz H 8 x=Aa d):cK H [x,.d a,.d b]=Aa [d,a,b]:=by simp[cK,h,aNz]
def aWj(ids:Ad Ae)(n k j:Ae)(hk:k<ids.length):lay (hdI ids n) k [.own j 0 n 1]=hdI (ids.set k j) n:=by rw[aSf _ _ _ (by simpa[hdI]using hk)];unfold hdI;rw[List.map_set]
def bZl(n m:Ae):(idR n m).Nodup:=by unfold idR List.Nodup;rw[Ga];exact List.Pairwise.imp (λ{a b} h=>by omega) (List.nodup_range (n:=n))
def aJn(n:Ae):qQ n (idR n 3):=⟨bSl n 3,bZl n 3,λj hj=>by
 unfold idR at hj;obtain⟨k,hk,rfl⟩:=AY.1 hj;have:=Cc.1 hk;omega⟩
def bBb(p n:Ae)(L:Ad (Ad D))(M:Ad (Ad Ae))(hM:M.length=n):iY (upd (λ_=>Aj) 1 (Aa (.cells 216 [.d (.i .u64 p),.d (.i .i64 n),.d (.sl L)]))) 2 (mU n M 2)=deH p n L (idR n 3) M:=by
 have hid:=aJn n;funext id;simp only[iY,aJi,hM];by_cases h1:2<=id/\id<2+(n+1)
 .rw[AB h1];obtain⟨j,rfl⟩:∃j,id=j+2:=⟨id-2,by omega⟩;rw[Eu];rcases j with _|j
  .simp only[mU,Ca,deH];simp[hM]
  .simp only[mU,BT,Ao];have hv:M[j]? = Aa (M[j]'(by omega)):=Ac _;rw[hv,show j+1+2=j+3 by omega,tG hid (aAn (by omega)) hv];rfl
 .rw[Ap h1];by_cases h2:id=1
  .subst h2;simp[upd,deH]
  .rw[upd_ne _ _ h2];rcases BB id with h0|h0
   .subst h0;unfold deH;rw[Ap (by omega),Ap (by omega)];cases h3:jL (idR n 3) M 0 with
    |none=>rfl
    | some o =>
     obtain⟨i,v,e1,_,_⟩:=gU h3;have:=hid.lo 0 (At e1);omega
   .rw[aKb hid (by omega)]
def dmI(p n:Ae)(D:Al)(k:Ae)(ids:Ad Ae)(M:Ad (Ad Ae))(d:Ae):Prop:=k<=n/\qQ n ids/\RwM p n M/\SgM p n k D M d/\LoM n k M/\d<p
def dmE(p n:Ae)(D:Al)(k:Ae)(x:Ad Ae)(d:Ae)(j:Ae)(M:Ad (Ad Ae)):Prop:=k+1+j<=n/\RwM p n M/\SgM p n (k+1) D M d/\LoM n k M/\M.getD k []=x/\∀r,k<r->r<k+1+j->enN M r k=0
def aNi{n k:Ae}{M:Ad (Ad Ae)}(h:LoM n k M)(h0:∀r,k<r->r<n->enN M r k=0):LoM n (k+1) M:=λi j h1 h2 h3=>by
 by_cases hj:j=k
 .rw[hj];exact h0 i (by omega) h3
 .exact h i j (by omega) h2 h3
def bKb{p n k j d q inv u f g:Ae}{D:Al}{x y:Ad Ae}{M:Ad (Ad Ae)}(hn:n<=4)(hp:PrN p)(hk:k<n)(h:dmE p n D k x d j M)(hlt:k+1+j<n)(hq:x.getD k 0=q)(hq0:q≠0)(hqp:q<p)(hinv:inv=q^(p-2)%p)
 (hy:M.getD (k+1+j) []=y) (hu:y.getD k 0=u) (hf:inv*u%p=f) (hg:(0+p-f)%p=g):dmE p n D k x d (j+1) (M.set (k+1+j) (adL p y x g)):=by
 obtain⟨h1,hR,hS,hL,hx,hz⟩:=h
 have hp0:0<p:=by have:=hp.1;omega
 have hyr:=hR.2 (k+1+j) hlt
 rw[hy]at hyr
 have hxr:=hR.2 k hk
 rw[hx]at hxr
 have hfp:f<p:=hf ▸ B9 _ hp0
 have hgd:=λr=>sY (l:=M) (i:=k+1+j) (r:=r) (x:=adL p y x g) (d:=[]) (by rw[hR.1];exact hlt)
 have hgc:Cg p (g:Al) (-(f:Al)):=hg ▸ bHe hp0 hfp
 have hw:∀c,c<n->Cg p ((adL p y x g).getD c 0:Ae) ((y.getD c 0:Ae)-(f:Al)*(x.getD c 0:Ae)):=λc hc=>by rw[Ah,wW (by rw[hyr.1];exact hc),AQ];refine Cg.modN.trans ?_;rw[Em,show((y.getD c 0:Ae):Al)-(f:Al)*(x.getD c 0:Ae)=(y.getD c 0:Ae)+(-(f:Al))*(x.getD c 0:Ae)by rw[Int.neg_mul];omega];refine(Cg.refl _ _).add (Cg.modN.trans ?_);rw[Di];exact hgc.mul (Cg.refl _ _)
 have hlen:(adL p y x g).length=n:=by rw[lU];exact hyr.1
 have hwlt:∀z∈adL p y x g,z<p:=λz hz=>by obtain⟨c,_,rfl⟩:=AY.1 hz;exact B9 _ hp0
 have hwk:(adL p y x g).getD k 0=0:=by
  have h2:=hw k hk;rw[hu,hq]at h2;have h3:Cg p ((f:Al)*(q:Al)) (u:Al):=by
   rw[<-hf];have e1:Cg p ((inv*u%p:Ae):Al) ((inv:Al)*(u:Al)):=by have:=Cg.modN (p:=p) (a:=inv*u);rwa [Di]at this
   refine(e1.mul (Cg.refl _ (q:Al))).trans ?_;have e2:Cg p ((inv:Al)*(q:Al)) 1:=by
    have h5:=aDj hp (a:=q) (by rw[Cr hqp];exact hq0);refine⟨((inv*q:Ae):Al)/p,?_⟩;have h6:(inv*q)%p=1:=by rw[hinv,Nat.mod_mul_mod];exact h5
    have h7:((inv*q:Ae):Al)%(p:Al)=1:=by exact_mod_cast congrArg (Nat.cast (R:=Al)) h6
    have h8:=Int.emod_add_mul_ediv ((inv*q:Ae):Al) (p:Al);rw[h7]at h8;rw[<-Di];omega
   have:=e2.mul (Cg.refl _ (u:Al));rw[Int.one_mul]at this;rwa [show(inv:Al)*u*q=inv*q*u by rw[Gr,Int.mul_comm (u:Al),<-Gr]]
  have h4:Cg p ((adL p y x g).getD k 0:Ae) 0:=h2.trans (by have:=(Cg.refl (p:Al) (u:Al)).sub h3;rwa [Int.sub_self]at this);have h5:=h4.eq;have h6:(adL p y x g).getD k 0<p:=by rw[Ah,wW (by rw[hyr.1];exact hk)];exact B9 _ hp0
  have h7:(adL p y x g).getD k 0%p=0:=by rw[Gs]at h5;exact_mod_cast h5
  rwa [Cr h6]at h7
 refine⟨by omega,⟨by rw[CO];exact hR.1,λr hr=>?_⟩,?_,λr c h2 h3 h4=>?_,by rw[hgd,Ap (by omega)];exact hx,λr h2 h3=>?_⟩
 .rw[hgd]
  split
  .exact⟨hlen,hwlt⟩
  .exact hR.2 r hr
 .refine bXq (k:=k) (K:=k+1) (a:=k+1+j) (f:Al) (adL p y x g) hn hR (by omega) hlt (by omega) (λc hc=>?_) hS
  have:=hw c hc
  unfold enN
  rw[hy,hx];exact this
 .unfold enN
  rw[hgd]
  split
  .rename_i e
   have h0:Cg p ((adL p y x g).getD c 0:Ae) 0:=by
    have h5:=hw c (by omega);have e1:y.getD c 0=0:=by have:=hL (k+1+j) c h2 (by omega) hlt;unfold enN at this;rwa [hy]at this
    have e2:x.getD c 0=0:=by have:=hL k c h2 (by omega) hk;unfold enN at this;rwa [hx]at this
    rw[e1,e2]at h5;simpa using h5
   have h5:=h0.eq
   have h6:(adL p y x g).getD c 0<p:=by rw[Ah,wW (by rw[hyr.1];omega)];exact B9 _ hp0
   have h7:(adL p y x g).getD c 0%p=0:=by rw[Gs]at h5;exact_mod_cast h5
   rwa [Cr h6]at h7
  .exact hL r c h2 h3 h4
 .unfold enN
  rw[hgd]
  split
  .exact hwk
  .exact hz r h2 (by omega)
def dmS(p n:Ae)(L:Ad (Ad D))(ids:Ad Ae)(M:Ad (Ad Ae))(d k:Ae):St:=⟨gK [(1,.ptr 1 0),(4,.own 2 0 n 1),(5,.d (.i .u64 d)),(28,.d (.i .i64 n)),(29,.d (.i .i64 (k:Al)))],deH p n L ids M,n+3⟩
def aTa(p n:Ae)(L:Ad (Ad D))(ids:Ad Ae)(M:Ad (Ad Ae))(d k m v j:Ae):St:=⟨gK [(1,.ptr 1 0),(4,.own 2 0 n 1),(5,.d (.i .u64 d)),(6,.d (.i .i64 (k:Al))),(8,.d (.i .u64 v)),(28,.d (.i .i64 n)),(29,.d (.i .i64 (k:Al))),(86,.own 2 (k+1) m 1),(87,.d (.i .i64 m)),(88,.d (.i .i64 (j:Al)))],deH p n L ids M,n+3⟩
def aUo{p n:Ae}{L:Ad (Ad D)}{ids:Ad Ae}{M:Ad (Ad Ae)}{Γ:Ae->AV}{S:Ad (Ae×AV)}(hI:qQ n ids)(hM:M.length=n)(h:iT (deH p n L ids M) (deH p n L ids M) (λi=>i) Γ S):∃ρ,Wk ⟨Γ,deH p n L ids M,n+3⟩ ⟨gK S,deH p n L ids M,n+3⟩ ρ :=
 ⟨_,nB h (λid o' ho=>⟨o',ho,aOo hI hM ho⟩) (λid hid=>aKb hI hid) (by simp)⟩
def bKl{p n:Ae}{L:Ad (Ad D)}{ids:Ad Ae}{M:Ad (Ad Ae)}:(deH p n L ids M 2).isSome=true:=rfl
def bKm{p n:Ae}{L:Ad (Ad D)}{ids:Ad Ae}{M:Ad (Ad Ae)}:(deH p n L ids M 1).isSome=true:=rfl
def bYu[M0:Mch Ab](p n:Ae)(A:Ad (Ad Al))(hn:n<=4)(hn0:0<n)(hp:PrN p)(hp1:p<2147483648)(hA:A.length=n)(hr:∀v∈A,v.length=n)(hP:Spec Ab 129 [.i .u64 p] (.b Ak)) :
 Spec Ab 130 [tS p n (fO p A)] (.tp [.i .u64 (fK n A%(p:Al)),.i .i64 0]):=by
 have hp0:0<p:=by have:=hp.1;omega
 have hp2:p<=2147483648:=by omega
 have hMr:=bQa hp0 hA hr
 have hSt:=aYl hp0 hA
 obtain⟨D,hD⟩:∃D,fK n A=D:=⟨_,rfl⟩
 rw[hD]at hSt ⊢
 obtain⟨Mz,hMz⟩:∃M,fO p A=M:=⟨_,rfl⟩
 rw[hMz]at hSt hMr ⊢
 have hVl:=aVv (M0:=M0) p n Mz (by omega) hMr hP
 have hMl:=hMr.1
 have hrow:∀v∈Mz,v.length=n:=λv hv=>by obtain⟨i,hi,rfl⟩:=BE.1 hv;have:=(hMr.2 i (by omega)).1;rwa [Ah,Ac hi]at this
 have hCp:=aDq (M0:=M0) n n Mz (by omega) hMl hrow hn0 (by omega)
 obtain⟨L,hL,hLl,hLg⟩:=wL Mz
 have hLn:(L.length:Al)=(n:Al):=by omega
 have hLn':L.length=n:=by omega
 unfold tS at hVl ⊢
 rw[hL]at hVl hCp ⊢
 have hst:=bBb p n L Mz hMl
 refine bU (N:=115) Tryz.func130 ?_
 simp[-E,-I,↓KW]
 refine aL hVl ?_
 simp[-E,-I,↓KW,hLn,hLn']
 refine vJ [.sl L] (λm=>.own m 0 n 1) (mU n Mz) (by simp) (by simp) (by simp) (by rfl) (by rfl) hCp ?_
 simp[-E,-I,↓KW,aJi,hMl,hst]
 refine bT (τ:=Ae×Ad Ae×Ad (Ad Ae)×Ae) (λt=>dmI p n D t.1 t.2.1 t.2.2.1 t.2.2.2) (λt=>dmS p n L t.2.1 t.2.2.1 t.2.2.2 t.1) (λt=>n-t.1) (0,idR n 3,Mz,1) ⟨BH _,aJn n,hMr,hSt,λi j h=>absurd h (Nat.not_lt_zero _),show 1<p by have:=hp.1;omega⟩ ?_ ?_
 .show ∃ρ,Wk _ (dmS p n L (idR n 3) Mz 1 0) ρ
  unfold dmS
  refine⟨_,nB ?_ (λid o' ho=>⟨o',ho,aOo (aJn n) hMl ho⟩) (λid hid=>aKb (aJn n) hid) (by simp)⟩
  simp[-E,upd,bH,Γ0,bKm,bKl]
 .rintro⟨k,ids,M,d⟩ hI
  simp only at hI
  obtain⟨hkn,hI1,hR1,hS1,hLo1,hd1⟩:=hI
  have hM1l:=hR1.1
  by_cases hk:k<n
  .obtain⟨r,hrr⟩:=bXk M n k k
   have hSe:=aQu (M0:=M0) p n k k M r (by omega) hR1 hkn hk hrr
   have hrowM:∀v∈M,v.length=n:=λv hv=>by obtain⟨i,hi,rfl⟩:=BE.1 hv;have:=(hR1.2 i (by omega)).1;rwa [Ah,Ac hi]at this
   have hfz:=bZs (p:=p) (L:=L) hI1 hM1l hrowM (H:=deH p n L ids M) λ_ _=>rfl
   have hkI:(k:Al)<(n:Al):=by omega
   have gM:∀r,r<n->M[r]? = Aa (M.getD r []):=λr hr=>by rw[Ah,Ac (by omega)];rfl
   have gI:∀r,r<n->ids[r]? = Aa (ids.getD r 0):=λr hr=>by rw[Ah,Ac (by rw[hI1.len];omega)];rfl
   generalize hHg:deH p n L ids M=H at *
   simp[-E,-I,↓KW,dmS,hHg,hk,hkI]
   refine iD (ds:=[tR M,.i .i64 k,.i .i64 k]) (bJg hfz) hSe ?_
   rcases hrr with ⟨rfl,hz⟩|⟨i,rfl,hki,hin,hne,hzb⟩
   .have hD0:=bEl hn hk hS1 hLo1 hz
    simp[-E,-I,↓KW]
    exact bQ (by simp[-E,-I,↓KW,gV,hD0])
   .have hi0:¬(i:Al)<0:=by omega
    by_cases hik:i=k
    case' pos =>
     subst hik
     obtain⟨idk,hidk⟩:∃j,ids[i]? = Aa j:=⟨_,gI i hk⟩
     obtain⟨x,hxk⟩:∃x,M[i]? = Aa x:=⟨_,gM i hk⟩
     obtain⟨q,hqe⟩:∃q,x.getD i 0=q:=⟨_,rfl⟩
     have hq0:q≠0:=by
      have:M.getD i []=x:=by rw[Ah,hxk];rfl
      unfold enN at hne;rw[this,hqe]at hne;exact hne
     have hI2:=hI1
     have hR2:=hR1
     have hS2:=hS1
     have hLo2:=hLo1
     have hd2:=hd1
     clear hzb hne hfz hSe
     subst hHg
     have hii:((i:Al)==(i:Al))=true:=by simp
     simp[-E,-I,↓KW,hi0]
     generalize hkk:i=k at *
     generalize ids=ids2 at *
     generalize M=M2 at *
     generalize d=d2 at *
    case' neg =>
     have hki':k<i:=by omega
     have hneq:((i:Al) != (k:Al))=true:=by simp;omega
     have hneqd:¬((i:Al)=(k:Al)):=by omega
     obtain⟨idk,hidk⟩:∃j,ids[k]? = Aa j:=⟨_,gI k hk⟩
     obtain⟨idi,hidi⟩:∃j,ids[i]? = Aa j:=⟨_,gI i hin⟩
     obtain⟨xk,hxk⟩:∃x,M[k]? = Aa x:=⟨_,gM k hk⟩
     obtain⟨x,hxi⟩:∃x,M[i]? = Aa x:=⟨_,gM i hin⟩
     obtain⟨q,hqe⟩:∃q,x.getD k 0=q:=⟨_,rfl⟩
     have hq0:q≠0:=by
      have:M.getD i []=x:=by rw[Ah,hxi];rfl
      unfold enN at hne;rw[this,hqe]at hne;exact hne
     have hil:ids.length=n:=hI1.len
     have hhd:H 2=Aa (.cells 43 (hdI ids n)):=hHg ▸ rfl
     have hbx:H 1=Aa (.cells 216 [.d (.i .u64 p),.d (.i .i64 n),.d (.sl L)]):=hHg ▸ rfl
     have hgk:(hdI ids n)[k]? = Aa (.own idk 0 n 1):=pO hidk
     have hgi:(hdI ids n)[i]? = Aa (.own idi 0 n 1):=pO hidi
     have hgk':∀h,(hdI ids n)[k]'h=.own idk 0 n 1:=λh=>by rw[Ac h]at hgk;injection hgk
     have hgi':∀h,(hdI ids n)[i]'h=.own idi 0 n 1:=λh=>by rw[Ac h]at hgi;injection hgi
     have hhl:(hdI ids n).length=n:=by simp[hdI,hil]
     have hl1:lay (hdI ids n) k [.own idi 0 n 1]=hdI (ids.set k idi) n:=aWj ids n k idi (by omega)
     have hl2:lay (hdI (ids.set k idi) n) i [.own idk 0 n 1]=hdI ((ids.set k idi).set i idk) n:=aWj _ n i idk (by rw[CO];omega)
     have hhl2:(hdI (ids.set k idi) n).length=n:=by simp[hdI,hil]
     have hsw:(ids.set k idi).set i idk=swI ids k i:=by unfold swI;rw[Ah,hidi,Ah,hidk];rfl
     have hSu:=aIg (M:=M0) p 0 d hp0 hp2 (by omega) hd1
     have hk1:k+1<=n:=hk
     have hi1:i+1<=n:=hin
     simp[-E,-I,↓KW,hi0,hneq,hneqd,hhd,hhl,hgk,hgk',hgi,hgi',hk,hin,hk1,hi1,hl1,hl2,hhl2,hsw,hbx]
     have hHe:upd (upd H 2 (Aa (.cells 43 (hdI (ids.set k idi) n)))) 2 (Aa (.cells 43 (hdI (swI ids k i) n)))=deH p n L (swI ids k i) (swM M k i):=by rw[<-hHg,<-bKn hI1 hM1l hk hin];funext j;simp only[upd];split<;>rfl
     have hidk2:(swI ids k i)[k]? = Aa idi:=by rw[aIf (by omega) (by omega) (by omega),Ap (by omega),AB rfl,Ah,hidi];rfl
     have hxk2:(swM M k i)[k]? = Aa x:=by rw[aBi (by omega) (by omega) (by omega),Ap (by omega),AB rfl,Ah,hxi];rfl
     have hI2:=aQh hI1 hk hin
     have hR2:=bFb hR1 hk hin
     have hS2:=bEm hn hp0 hd1 hM1l hki' hin hS1
     have hLo2:=bHr hM1l hki' hin hLo1
     have hd2:(0+p-d)%p<p:=B9 _ hp0
     refine aL hSu ?_
     rw[hHe]
     clear hHe hSu hsw hl2 hl1 hhl2 hgi' hgk' hgi hgk hhl hhd hbx hfz hSe hidi hidk hxk hxi gM gI hHg hne hzb
     generalize(0+p-d)%p=d2 at *
     generalize swI ids k i=ids2 at *
     generalize swM M k i=M2 at *
     generalize idi=idk at *
     have hidk:=hidk2
     have hxk:=hxk2
    all_goals
     have hM2l:=hR2.1
     have hx:M2.getD k []=x:=by rw[Ah,hxk];rfl
     have hid1:=hI2.lo _ (At hidk)
     have hrk:deH p n L ids2 M2 idk=Aa (jK x):=tG hI2 hidk hxk
     have hhd:deH p n L ids2 M2 2=Aa (.cells 43 (hdI ids2 n)):=rfl
     have hbx:deH p n L ids2 M2 1=Aa (.cells 216 [.d (.i .u64 p),.d (.i .i64 n),.d (.sl L)]):=rfl
     have hgk:(hdI ids2 n)[k]? = Aa (.own idk 0 n 1):=pO hidk
     have hgk':∀h,(hdI ids2 n)[k]'h=.own idk 0 n 1:=λh=>by rw[Ac h]at hgk;injection hgk
     have hhl:(hdI ids2 n).length=n:=by simp[hdI,hI2.len]
     have hxr:=hR2.2 k hk
     rw[hx]at hxr
     have hqx:x[k]? = Aa q:=by rw[Ac (by rw[hxr.1];exact hk)];rw[Ah,Ac (by rw[hxr.1];exact hk)]at hqe;exact congrArg Aa hqe
     have hdq:=aTd hqx
     have hdq':∀h,(dU x)[k]'h=.i .u64 (q:Al):=λh=>by rw[Ac h]at hdq;injection hdq
     have hdl:(dU x).length=n:=by rw[fC];exact hxr.1
     have hqp:q<p:=hxr.2 q (At hqx)
     have hq31:q<=2147483648:=by omega
     have hMu:=pJ (M:=M0) p d2 q hp0 (Bv (BO (Dz hd2) (Dz hqp)) (Bv (BO hp2 hp2) (by decide)))
     have hIv:=aWe (M:=M0) p q hp.1 hp2 hqp hq0
     have hS3:SgM p n (k+1) D M2 (d2*q%p):=by
      have hen:enN M2 k k=q:=by unfold enN;rw[hx];exact hqe
      have:=bPd hS2;rwa [hen]at this
     have hd3:d2*q%p<p:=B9 _ hp0
     generalize d2*q%p=d3 at *
     obtain⟨inv,hinv⟩:∃inv,q^(p-2)%p=inv:=⟨_,rfl⟩
     have hinvp:inv<p:=hinv ▸ B9 _ hp0
     rw[hinv]at hIv
     have hwk:Ax.wrap (k:Al)=k:=bP
     have hwk1:Ax.wrap ((k:Al)+1)=((k+1:Ae):Al):=bP
     have hk1n:k+1<=n:=hk
     obtain⟨kI,hkI⟩:∃kI:Al,((k+1:Ae):Al)=kI:=⟨_,rfl⟩
     rw[hkI]at hwk1
     have hkI0:(0:Al)<=kI:=by omega
     have hkIn:kI<=(n:Al):=by omega
     generalize hHg:deH p n L ids2 M2=H at *
     generalize hCg:hdI ids2 n=cs at *
     simp[-E,-I,↓KW,hbx,hhd,hhl,hgk,hgk',hk,hwk,hrk,hdl,hdq,hdq',jK]
     refine aL hMu ?_
     simp[-E,-I,↓KW,hbx,hhd,hhl,hgk,hgk',hk,hwk,hrk,hdl,hdq,hdq',jK]
     refine aL hIv ?_
     by_cases hm:k+1=n
     .have hkn:kI=(n:Al):=by omega
      have hsl:iW 1 (.own 2 0 n 1) (n:Al) (n:Al) Az=Aa (.d (.sl [])):=by simp[iW]
      simp[-E,-I,↓KW,hwk1,hkI0,hkIn,hkn,hsl]
      refine eR 1 ?_
      simp[-E,-I,↓KW,↓aF,hwk1]
      refine bD (k+1,ids2,M2,d3) ⟨hk1n,hI2,hR2,hS3,aNi hLo2 λr h1 h2=>by omega,hd3⟩ (by show n-(k+1)<n-k;omega) ?_
      show ∃ρ,Wk _ (dmS p n L ids2 M2 d3 (k+1)) ρ
      unfold dmS
      subst hHg
      refine aUo hI2 hM2l ?_
      simp[-E,upd,bH,Γ0,bKm,bKl,hm,hkn]
     .obtain⟨m,hm'⟩:∃m,n-(k+1)=m:=⟨_,rfl⟩
      have hsl:iW 1 (.own 2 0 n 1) kI (n:Al) Az=Aa (.own 2 (k+1) m 1):=by
       have e1:¬kI=(n:Al):=by omega
       have e2:kI.toNat=k+1:=by omega
       have e3:((n:Al)-kI).toNat=m:=by omega
       simp[iW,hkI0,hkIn,e1,e2,e3]
      simp[-E,-I,↓KW,hwk1,hkI0,hkIn,hsl]
      refine bT (τ:=Ae×Ad (Ad Ae)) (λt=>dmE p n D k x d3 t.1 t.2) (λt=>aTa p n L ids2 t.2 d3 k m inv t.1) (λt=>n-(k+1+t.1)) (0,M2) ⟨by omega,hR2,hS3,hLo2,hx,λr h1 h2=>by omega⟩ ?_ ?_
      .show ∃ρ,Wk _ (aTa p n L ids2 M2 d3 k m inv 0) ρ
       unfold aTa
       subst hHg
       refine aUo hI2 hM2l ?_
       simp[-E,upd,bH,Γ0,bKm,bKl]
      .rintro⟨j,M3⟩ hE
       simp only at hE
       have hE0:=hE
       obtain⟨hjn,hR3,hS4,hLo3,hx3,hz3⟩:=hE
       have hM3l:=hR3.1
       by_cases hj:k+1+j<n
       .have hjI:(j:Al)<(m:Al):=by omega
        have hjm:j<m:=by omega
        obtain⟨idj,hidj⟩:∃i,ids2[k+1+j]? = Aa i:=⟨_,Ac (by rw[hI2.len];exact hj)⟩
        obtain⟨y,hyj⟩:∃y,M3[k+1+j]? = Aa y:=⟨_,Ac (by rw[hM3l];exact hj)⟩
        have hyd:M3.getD (k+1+j) []=y:=by rw[Ah,hyj];rfl
        obtain⟨u,hu⟩:∃u,y.getD k 0=u:=⟨_,rfl⟩
        have hx3':M3[k]? = Aa x:=by rw[<-hx3,Ah,Ac (by rw[hM3l];exact hk)];rfl
        have hyr:=hR3.2 (k+1+j) hj
        rw[hyd]at hyr
        have hrk3:deH p n L ids2 M3 idk=Aa (jK x):=tG hI2 hidk hx3'
        have hrj3:deH p n L ids2 M3 idj=Aa (jK y):=tG hI2 hidj hyj
        have hhd3:deH p n L ids2 M3 2=Aa (.cells 43 cs):=hCg ▸ rfl
        have hbx3:deH p n L ids2 M3 1=Aa (.cells 216 [.d (.i .u64 p),.d (.i .i64 n),.d (.sl L)]):=rfl
        have hgj:cs[k+1+j]? = Aa (.own idj 0 n 1):=hCg ▸ pO hidj
        have hgj':∀h,cs[k+1+j]'h=.own idj 0 n 1:=λh=>by rw[Ac h]at hgj;injection hgj
        have hkj:idj≠idk:=λe=>by subst e;have:=(List.getElem?_inj (by rw[hI2.len];exact hj) hI2.nd).1 (hidj.trans hidk.symm);omega
        have huy:y[k]? = Aa u:=by rw[Ac (by rw[hyr.1];exact hk)];rw[Ah,Ac (by rw[hyr.1];exact hk)]at hu;exact congrArg Aa hu
        have hdu:=aTd huy
        have hdu':∀h,(dU y)[k]'h=.i .u64 (u:Al):=λh=>by rw[Ac h]at hdu;injection hdu
        have hyl:(dU y).length=n:=by rw[fC];exact hyr.1
        have hup:u<p:=hyr.2 u (At huy)
        have hMu2:=pJ (M:=M0) p inv u hp0 (Bv (BO (Dz hinvp) (Dz hup)) (Bv (BO hp2 hp2) (by decide)))
        obtain⟨f,hf⟩:∃f,inv*u%p=f:=⟨_,rfl⟩
        have hfp:f<p:=hf ▸ B9 _ hp0
        rw[hf]at hMu2
        have hSu2:=aIg (M:=M0) p 0 f hp0 (by omega) (by omega) (by omega)
        obtain⟨g,hg⟩:∃g,(0+p-f)%p=g:=⟨_,rfl⟩
        rw[hg]at hSu2
        have hgp:g<p:=hg ▸ B9 _ hp0
        have hAd:=bBx (M:=M0) p g y x hp0 hp2 hgp hyr.2 hxr.2 (by rw[hyr.1,hxr.1]) (by rw[hyr.1];omega)
        rw[hyr.1]at hAd
        have hupd:=bTz (p:=p) (L:=L) (v:=adL p y x g) hI2 hM3l hidj
        have hE2:=bKb (by omega) hp hk hE0 hj hqe hq0 hqp hinv.symm hyd hu hf hg
        have hwj1:Ax.wrap ((j:Al)+1)=((j+1:Ae):Al):=bP
        generalize hHg3:deH p n L ids2 M3=H3 at *
        simp[-E,-I,↓KW,aTa,hHg3,hjI,hhd3,hgj,hgj',hbx3,hk,hrj3,hyl,hdu,hdu',jK]
        refine aL hMu2 ?_
        simp[-E,-I,↓KW,hhd3,hhl,hgk,hgk',hbx3,hk]
        refine aL hSu2 ?_
        simp[-E,-I,↓KW,hhd3,hhl,hgk,hgk',hbx3,hk]
        have hfz:=aDd (H:=H3) (B:=idk) (v:=x) (n:=n) 6 hrk3 hxr.1
        have hfz1:frz H3 8 (.own idk 0 n 1)=Aa (cO x):=hfz.1
        have hfz2:vis H3 8 (.own idk 0 n 1)=[idk]:=hfz.2
        refine bGo (d0:=.i .u64 p) (id:=idj) (h:=.own 0 0 n 1) (ho:=jK y) (ds:=[cO x,.i .u64 g]) (ho':=jK (adL p y x g)) (by kernel_rfl) (by rfl) (by rfl) (by rfl) hrj3 (aWk _ _) ?_ ?_ hAd (by simp[jK,HO.len,fC,lU]) (aWk _ _) ?_
        .show idj ∉ bW H3 [.own idk 0 n 1,.d (.i .u64 g)]
         simp[aFo,aLa,bDj,hfz2,hkj]
        .show cK H3 [.own idk 0 n 1,.d (.i .u64 g)]=Aa [cO x,.i .u64 g]
         simp[cK,hfz1,aNz]
        simp[-E,-I,↓KW,hwj1]
        refine bD (j+1,M3.set (k+1+j) (adL p y x g)) hE2 (by show n-(k+1+(j+1))<n-(k+1+j);omega) ?_
        show ∃ρ,Wk _ (aTa p n L ids2 (M3.set (k+1+j) (adL p y x g)) d3 k m inv (j+1)) ρ
        unfold aTa
        rw[hupd]
        refine aUo hI2 (by rw[CO];exact hM3l) ?_
        simp[-E,upd,bH,Γ0,bKm,bKl]
       .have hjm:j=m:=by omega
        have hjI:¬(j:Al)<(m:Al):=by omega
        have hwk1:Ax.wrap ((k:Al)+1)=((k+1:Ae):Al):=bP
        simp[-E,-I,↓KW,aTa,hjI]
        refine bQ ?_
        simp[-E,-I,↓KW,hwk1]
        refine bD (k+1,ids2,M3,d3) ⟨hk1n,hI2,hR3,hS4,aNi hLo3 λr h1 h2=>hz3 r h1 (by omega),by assumption⟩ (by show n-(k+1)<n-k;omega) ?_
        show ∃ρ,Wk _ (dmS p n L ids2 M3 d3 (k+1)) ρ
        unfold dmS
        refine aUo hI2 hM3l ?_
        simp[-E,upd,bH,Γ0,bKm,bKl]
  .have hkn':k=n:=by omega
   have hkI:¬(k:Al)<(n:Al):=by omega
   subst hkn'
   have hend:=(bPe hn hS1 hLo1).eq
   have hdv:D%(p:Al)=(d:Al):=by rw[<-hend];exact GY (by omega) (by omega)
   simp[-E,-I,↓KW,dmS,hk,hkI]
   exact bQ (by simp[-E,-I,↓KW,gV,hdv])
def hdN(n:Ae)(i:Ae):Ad AV:=hdI (idR i 5) n++AO (n-i) .nil
def aAp{n i:Ae}(h:i<=n):(hdN n i).length=n:=by simp[hdN,hdI,idR];omega
def bSr{n i:Ae}(h:i<n):(hdN n i).set i (.own (i+5) 0 n 1)=hdN n (i+1):=by
 unfold hdN;have hl:(hdI (idR i 5) n).length=i:=by simp[hdI,idR]
 rw[DN _ _ (by omega),hl,Dw,show n-i=(n-(i+1))+1 by omega,C9,Dg,aNs];simp[hdI]
def bSs{n i j:Ae}(h:j<i):(hdN n i)[j]? = Aa (.own (j+5) 0 n 1):=by unfold hdN;rw[Bb (by simp[hdI,idR,h])];exact pO (aAn h)
def rdP(p n:Ae)(L:Ad (Ad D))(i:Ae):Ad HO:=[.cells 31 [.d (.i .i64 n),.d (.i .i64 n),.d (.sl L)],.cells 216 [.d (.i .u64 0),.d (.i .i64 0),.nil],.cells 43 (hdN n i),.cells 216 [.d (.i .u64 p),.d (.i .i64 n),.own 3 0 n 1]]
def rdH(p n:Ae)(L:Ad (Ad D))(R:Ad (Ad Ae)):Hp:=jS 1 (rdP p n L R.length++R.map jK)
section
variable {p n:Ae} {L:Ad (Ad D)} {R:Ad (Ad Ae)}
def sQ{j:Ae}{v:Ad Ae}(hv:R[j]? = Aa v):rdH p n L R (j+5)=Aa (jK v):=by unfold rdH;rw[show j+5=(j+4)+1 by omega,rP,AZ (by simp[rdP]),Ao,show j+4-(rdP p n L R.length).length=j by simp[rdP],hv];rfl
def nJ{id:Ae}(h:R.length+5<=id):rdH p n L R id=none:=aDl (by simp[rdP];omega)
def vD(hR:R.length<=n){H:Hp}{id:Ae}{o:HO}(ho:rdH p n L R id=Aa o):mZ H (rdH p n L R) (λi=>i) o o:=by
 refine aDk (λo ho=>?_) ho;have hlen:(rdP p n L R.length++R.map jK).length=R.length+4:=by simp[rdP]
 rw[hlen];rcases BR.1 ho with ho|ho
 .simp only[rdP,BQ,Gp,Fh]at ho;rcases ho with rfl|rfl|rfl|rfl
  .rfl
  .rfl
  .refine A1.2 λx hx=>?_
   rcases BR.1 hx with hx|hx
   .obtain⟨j,hj,rfl⟩:=AY.1 hx;obtain⟨k,hk,rfl⟩:=AY.1 hj;have:=Cc.1 hk;simp only[rfC,Bz];omega
   .rw[EO hx];rfl
  .simp only[rfO,rfC,List.all_cons,List.all_nil,Bool.and_true,Bool.true_and,Bz];omega
 .obtain⟨v,_,rfl⟩:=AY.1 ho;refine A1.2 λc hc=>?_
  obtain⟨x,_,rfl⟩:=AY.1 hc;rfl
def aIt{v:Ad Ae}{id:Ae}(h3:id≠3)(h:id≠R.length+5):rdH p n L (R++[v]) id=rdH p n L R id:=by
 rcases Bc id 5 with h1|h1
 .have:id=0\/id=1\/id=2\/id=4:=by omega
  rcases this with rfl|rfl|rfl|rfl<;>rfl
 .obtain⟨j,rfl⟩:∃j,id=j+5:=⟨id-5,by omega⟩;by_cases hj:j<R.length
  .have e1:R[j]? = Aa R[j]:=Ac hj;rw[sQ e1,sQ (by rw[Bb hj];exact e1)]
  .rw[nJ (by simp;omega),nJ (by omega)]
def bQf{v w:Ad Ae}:upd (rdH p n L (R++[v])) (R.length+5) (Aa (jK w))=rdH p n L (R++[w]):=by
 have hl:∀u:Ad Ae,(R++[u])[R.length]? = Aa u:=λu=>by simp
 funext id;unfold upd;by_cases h:id=R.length+5
 .subst h;rw[AB rfl,sQ (hl w)]
 .rw[Ap h];by_cases h3:id=3
  .subst h3;show Aa (HO.cells _ (hdN n (R++[v]).length))=Aa (HO.cells _ (hdN n (R++[w]).length));simp
  .rw[aIt h3 h,aIt h3 h]
end
def bRw{n i:Ae}(h:i<n):lay (hdN n i) i [.own (i+5) 0 n 1]=hdN n (i+1):=by rw[aSf _ _ _ (by rw[aAp (Dz h)];exact h),bSr h]
def aYz(p n:Ae)(L:Ad (Ad D))(x:HO):upd (upd (upd (upd (upd (λ_=>Aj) 1 (Aa (.cells 31 [.d (.i .i64 n),.d (.i .i64 n),.d (.sl L)]))) 2 (Aa (.cells 216 [.d (.i .u64 0),.d (.i .i64 0),.nil]))) 3 (Aa (.cells 43 (AO n .nil)))) 4 (Aa x)) 4 (Aa (.cells 216 [.d (.i .u64 p),.d (.i .i64 n),.own 3 0 n 1]))=rdH p n L []:=by
 have h0:hdN n 0=AO n .nil:=by simp[hdN,hdI,idR]
 funext id;rcases Bc id 5 with h1|h1
 .have:id=0\/id=1\/id=2\/id=3\/id=4:=by omega
  rcases this with rfl|rfl|rfl|rfl|rfl
  .rfl
  .rfl
  .rfl
  .show Aa (HO.cells _ (AO n .nil))=Aa (HO.cells _ (hdN n 0));rw[h0]
  .rfl
 .rw[nJ (by simpa using h1)];simp only[upd];rw[Ap (by omega),Ap (by omega),Ap (by omega),Ap (by omega),Ap (by omega)]
def bFw{p n i:Ae}{L:Ad (Ad D)}{R:Ad (Ad Ae)}{v:Ad Ae}(h:R.length=i):upd (upd (rdH p n L R) (i+5) (Aa (jK v))) 3 (Aa (.cells 43 (hdN n (i+1))))=rdH p n L (R++[v]):=by
 funext id;unfold upd;by_cases h3:id=3
 .subst h3;show Aa (HO.cells _ (hdN n (i+1)))=Aa (HO.cells _ (hdN n (R++[v]).length));simp[h]
 .rw[Ap h3];by_cases h5:id=i+5
  .subst h5;subst h;rw[AB rfl,sQ (v:=v) (by simp)]
  .rw[Ap h5,aIt h3 (by omega)]
def bRn{n:Ae}{M:Ad (Ad Ae)}(hM:M.length=n)(hr:∀v∈M,v.length=n){H:Hp}(hH:∀(j:Ae) v,M[j]? = Aa v->H (j+5)=Aa (jK v)):(hdN n n).mapM (frz H 6)=Aa (M.map cO):=by
 have e0:hdN n n=hdI (idR n 5) n:=by simp[hdN]
 rw[e0];have hl:(hdI (idR n 5) n).length=n:=by simp[hdI,idR]
 rw[mapM_some (frz H 6) (λk=>cO (M.getD k [])) _ λk x hx=>by
  have hlt:k<n:=by have:=(AA.1 hx).1;rwa [hl]at this
  rw[pO (aAn hlt)]at hx;injection hx with hx
  subst hx;have hv:M[k]? = Aa (M.getD k []):=by rw[Ah,Ac (by omega)];rfl
  exact(aDd 4 (hH k _ hv) (hr _ (At hv))).1]
 congr 1;apply Dr;intro k;rw[hl];by_cases hk:k<n
 .rw[Ao,BZ hk,Ao,Bj,Ah,Ac (by omega)];rfl
 .rw[Bn (by simpa using hk),Bn (by simpa[hM]using hk)]
def bKy{n:Ae}{M:Ad (Ad Ae)}(hM:M.length=n):chunk 1 n (M.map cO)=M.map λv=>[cO v]:=by rw[lZ _ _ (by rw[BV,hM]),Dp];rfl
def bQe{p n:Ae}{L:Ad (Ad D)}{R:Ad (Ad Ae)}:(rdH p n L R 1).isSome=true:=rfl
def bQd{p n:Ae}{L:Ad (Ad D)}{R:Ad (Ad Ae)}:(rdH p n L R 2).isSome=true:=rfl
def bQc{p n:Ae}{L:Ad (Ad D)}{R:Ad (Ad Ae)}:(rdH p n L R 4).isSome=true:=rfl
def prW(p n:Ae)(v:Ad Al)(j:Ae):Ad Ae:=((v.take j).map λz=>(z%(p:Al)).toNat)++AO (n-j) 0
def bQk{p n j:Ae}{v:Ad Al}(hv:v.length=n)(hj:j<=n):(prW p n v j).length=n:=by simp[prW];omega
def bQj{p n j:Ae}{v:Ad Al}{z:Al}(hv:v.length=n)(hj:j<n)(hz:v[j]? = Aa z):(prW p n v j).set j (z%(p:Al)).toNat=prW p n v (j+1):=by unfold prW;rw[BG,hz,DN _ _ (by simp;omega),show n-j=(n-(j+1))+1 by omega,C9,show j-((v.take j).map λz=>(z%(p:Al)).toNat).length=0 by simp;omega,Dg];simp
def bQl{p n:Ae}{v:Ad Al}(hv:v.length=n):prW p n v n=v.map λz=>(z%(p:Al)).toNat:=by unfold prW;rw[Dw,A4 (by omega)];simp
def aYx{p:Ae}{A:Ad (Ad Al)}{i:Ae}{v:Ad Al}(h:A[i]? = Aa v):fO p (A.take (i+1))=fO p (A.take i)++[v.map λz=>(z%(p:Al)).toNat]:=by unfold fO;rw[BG,h];simp
def aRh(p n:Ae)(L:Ad (Ad D))(i:Ae):Ad (Ae×AV):=[(0,.d (.i .u64 p)),(3,.ptr 1 0),(4,.ptr 2 0),(5,.ptr 4 0),(28,.d (.sl L)),(29,.d (.i .i64 n)),(30,.d (.i .i64 (i:Al)))]
def aCa(p n:Ae)(L U:Ad (Ad D))(i j:Ae):Ad (Ae×AV):=[(0,.d (.i .u64 p)),(3,.ptr 1 0),(4,.ptr 2 0),(5,.ptr 4 0),(6,.d (.i .i64 (i:Al))),(28,.d (.sl L)),(29,.d (.i .i64 n)),(30,.d (.i .i64 (i:Al))),(48,.d (.sl U)),(49,.d (.i .i64 n)),(50,.d (.i .i64 (j:Al)))]
def bHi[M0:Mch Ab](p n:Ae)(A:Ad (Ad Al))(hn:n<=1000)(hp0:0<p)(hp1:p<=2147483648)(hA:A.length=n)(hr:∀v∈A,v.length=n)(hB:∀v∈A,∀z∈v,Sz z)(hP:Spec Ab 129 [.i .u64 p] (.b Ak)) :
 Spec Ab 131 [.i .u64 p,lC n A] (tS p n (fO p A)):=by
 obtain⟨L,hL,hLl,hLg⟩:∃L,(A.map λv=>[dK v])=L/\L.length=A.length/\∀(i:Ae) (v:Ad Al),A[i]? = Aa v->L[i]? = Aa [dK v]:=⟨_,rfl,by simp,λi v h=>by rw[Ao,h];rfl⟩
 have hLn:(L.length:Al)=(n:Al):=by omega
 have hLn':L.length=n:=by omega
 have m1:¬(n:Al)<0:=by omega
 have hm3:24*(n:Al)<=281474976710656:=by omega
 have hm8:8*(n:Al)<=281474976710656:=by omega
 have hm4:(n:Al)<=9223372036854775807:=by omega
 unfold lC
 rw[hL]
 refine bU (N:=68) Tryz.func131 ?_
 simp[-E,-I,↓KW]
 refine aL hP ?_
 simp[-E,-I,↓KW,m1,hLn,hLn',hm3,hm4,bY]
 refine eF (λi:Ae=>i<=n) (λi=>⟨gK (aRh p n L i),rdH p n L (fO p (A.take i)),i+5⟩) (λi=>n-i) 0 (BH _) ?_ ?_
 .rw[aYz p n L]
  show ∃ρ,Wk _ ⟨gK (aRh p n L 0),rdH p n L [],5⟩ ρ
  refine⟨_,nB ?_ (λid o' ho=>⟨o',ho,vD (BH _) ho⟩) (λid hid=>nJ hid) (by simp)⟩
  simp[-E,upd,bH,Γ0,aRh,bQe,bQd,bQc]
 .intro i hi
  have hTl:(fO p (A.take i)).length=i:=by simp[fO];omega
  by_cases hin:i<n
  .obtain⟨v,hv⟩:∃v,A[i]? = Aa v:=⟨_,Ac (by omega)⟩
   have hvm:=At hv
   have hvl:=hr v hvm
   obtain⟨U,hU,hUl,hUg⟩:∃U,dK v=.sl U/\U.length=v.length/\∀(j:Ae) (z:Al),v[j]? = Aa z->U[j]? = Aa (qT z):=⟨_,rfl,by simp,λj z h=>by rw[Ao,h];rfl⟩
   have hUn:(U.length:Al)=(n:Al):=by omega
   have hUn':U.length=n:=by omega
   have hLi:=hLg i v hv
   rw[hU]at hLi
   have hLi':=cI hLi
   have hii:(i:Al)<(n:Al):=by omega
   have hwi:Ax.wrap ((i:Al)+1)=((i+1:Ae):Al):=bP
   have h1:rdH p n L (fO p (A.take i)) 1=Aa (.cells 31 [.d (.i .i64 n),.d (.i .i64 n),.d (.sl L)]):=rfl
   have h2:rdH p n L (fO p (A.take i)) 2=Aa (.cells 216 [.d (.i .u64 0),.d (.i .i64 0),.nil]):=rfl
   have h4:rdH p n L (fO p (A.take i)) 4=Aa (.cells 216 [.d (.i .u64 p),.d (.i .i64 n),.own 3 0 n 1]):=rfl
   have h3:rdH p n L (fO p (A.take i)) 3=Aa (.cells 43 (hdN n i)):=by show Aa (HO.cells _ (hdN n (fO p (A.take i)).length))=_;rw[hTl]
   generalize hHg:rdH p n L (fO p (A.take i))=H at *
   have hl1:=bRw hin
   have hl2:i+1<=(hdN n i).length:=by rw[aAp hi];exact hin
   have hz0:AO n (AV.d (.i .u64 0))=(dU (prW p n v 0)).map .d:=by simp[prW,dU]
   simp[-E,-I,↓KW,aRh,hHg,h1,h2,h3,h4,hii,hin,hLi,hLi',hLn,hLn',hUn,hUn',hm8,hm4,bY,hl1,hl2,hz0]
   have hpu:=bFw (p:=p) (L:=L) (v:=prW p n v 0) hTl (n:=n)
   rw[hHg]at hpu
   have hpu':upd (upd H (i+5) (Aa (.cells 46 ((dU (prW p n v 0)).map .d)))) 3 (Aa (.cells 43 (hdN n (i+1))))=rdH p n L (fO p (A.take i)++[prW p n v 0]):=hpu
   rw[hpu']
   refine bT (λj:Ae=>j<=n) (λj=>⟨gK (aCa p n L U i j),rdH p n L (fO p (A.take i)++[prW p n v j]),i+6⟩) (λj=>n-j) 0 (BH _) ?_ ?_
   .show ∃ρ,Wk _ ⟨gK (aCa p n L U i 0),rdH p n L (fO p (A.take i)++[prW p n v 0]),i+6⟩ ρ
    refine⟨_,nB ?_ (λid o' ho=>⟨o',ho,vD (by simp[hTl];omega) ho⟩) (λid hid=>nJ (by simp[hTl];omega)) (by simp)⟩
    simp[-E,upd,bH,Γ0,aCa,bQe,bQd,bQc]
   .intro j hj
    obtain⟨T,hT⟩:∃T,fO p (A.take i)=T:=⟨_,rfl⟩
    rw[hT]at hTl
    simp only[hT]
    by_cases hjn:j<n
    .obtain⟨z,hz⟩:∃z,v[j]? = Aa z:=⟨_,Ac (by omega)⟩
     have hUj:=hUg j z hz
     have hUj':=cI hUj
     have hRz:=aIs (M:=M0) p z hp0 hp1 (hB v hvm z (At hz))
     obtain⟨y,hy⟩:∃y:Ae,z%(p:Al)=(y:Al):=⟨(z%(p:Al)).toNat,by have:=En z (b:=(p:Al)) (by omega);omega⟩
     rw[hy,cX]at hRz
     have hjj:(j:Al)<(n:Al):=by omega
     have hwj:Ax.wrap ((j:Al)+1)=((j+1:Ae):Al):=bP
     have k4:rdH p n L (T++[prW p n v j]) 4=Aa (.cells 216 [.d (.i .u64 p),.d (.i .i64 n),.own 3 0 n 1]):=rfl
     have k3:rdH p n L (T++[prW p n v j]) 3=Aa (.cells 43 (hdN n (i+1))):=by show Aa (HO.cells _ (hdN n (T++[prW p n v j]).length))=_;simp[hTl]
     have k5:rdH p n L (T++[prW p n v j]) (i+5)=Aa (.cells 46 ((dU (prW p n v j)).map .d)):=sQ (by simp[hTl])
     have hgi:=bSs (n:=n) (show i<i+1 by omega)
     have hgi':∀h,(hdN n (i+1))[i]'h=.own (i+5) 0 n 1:=λh=>by rw[Ac h]at hgi;injection hgi
     have hhl:=aAp (n:=n) (i:=i+1) (by omega)
     have hprl:=bQk (p:=p) hvl hj
     generalize hHg2:rdH p n L (T++[prW p n v j])=H2 at *
     have hps:=bQj (p:=p) hvl hjn hz
     rw[hy,Int.toNat_natCast]at hps
     have hdl:(dU (prW p n v j)).length=n:=by rw[fC];exact hprl
     have hly:lay ((dU (prW p n v j)).map AV.d) j [AV.d (D.i .u64 (y:Al))]=(dU (prW p n v (j+1))).map AV.d:=by rw[iU _ _ _ (by omega),bKo,hps]
     have hj1:j+1<=n:=hjn
     simp[-E,-I,↓KW,aCa,hHg2,hjj,hjn,hUj,hUj',hUn,hUn',aJx,xX,mG,iB,aCy,hin,k3,k4,k5,hgi,hgi',hhl,hdl,hjn]
     refine aL hRz ?_
     simp[-E,-I,↓KW,hin,k3,k4,k5,hgi,hgi',hhl,hdl,hjn,hj1,hly,hwj]
     refine bD (j+1) hj1 (by show n-(j+1)<n-j;omega) ?_
     have hset:=bQf (p:=p) (n:=n) (L:=L) (R:=T) (v:=prW p n v j) (w:=prW p n v (j+1))
     rw[hTl,hHg2]at hset
     show ∃ρ,Wk _ ⟨gK (aCa p n L U i (j+1)),rdH p n L (fO p (A.take i)++[prW p n v (j+1)]),i+6⟩ ρ
     rw[hT]
     refine⟨_,nB ?_ (λid o' ho=>⟨o',?_,vD (by simp[hTl];omega) ho⟩) (λid hid=>nJ (by simp[hTl];omega)) (by simp)⟩
     .simp[-E,upd,bH,Γ0,aCa,bQe,bQd,bQc]
     .have h6:id≠i+6:=λe=>by rw[e,nJ (by simp[hTl])]at ho;cases ho
      rw[<-hset]at ho
      simp only[upd,h6,DV]at ho ⊢
      exact ho
    .have hjn':j=n:=by omega
     have hjI:¬(j:Al)<(n:Al):=by omega
     simp[-E,-I,↓KW,aCa,hjI]
     refine bQ ?_
     simp[-E,-I,↓KW,hwi]
     refine bD (i+1) (show i+1<=n by omega) (by show n-(i+1)<n-i;omega) ?_
     rw[hjn',bQl hvl,<-hT,<-aYx hv]
     show ∃ρ,Wk _ ⟨gK (aRh p n L (i+1)),rdH p n L (fO p (A.take (i+1))),i+1+5⟩ ρ
     have hTl':(fO p (A.take (i+1))).length=i+1:=by simp[fO];omega
     refine⟨_,nB ?_ (λid o' ho=>⟨o',ho,vD (by omega) ho⟩) (λid hid=>nJ (by omega)) (by simp)⟩
     simp[-E,upd,bH,Γ0,aRh,bQe,bQd,bQc]
  .have hin':i=n:=by omega
   have hii:¬(i:Al)<(n:Al):=by omega
   have hA':A.take i=A:=A4 (by omega)
   rw[hA']at hTl ⊢
   have h2:rdH p n L (fO p A) 2=Aa (.cells 216 [.d (.i .u64 0),.d (.i .i64 0),.nil]):=rfl
   have h4:rdH p n L (fO p A) 4=Aa (.cells 216 [.d (.i .u64 p),.d (.i .i64 n),.own 3 0 n 1]):=rfl
   have h3:rdH p n L (fO p A) 3=Aa (.cells 43 (hdN n n)):=by show Aa (HO.cells _ (hdN n (fO p A).length))=_;rw[hTl,hin']
   have hrow:∀v∈fO p A,v.length=n:=λv hv=>by obtain⟨w,hw,rfl⟩:=AY.1 hv;rw[BV];exact hr w hw
   have hfr:∀x,(hdN n n).mapM (frz (upd (rdH p n L (fO p A)) 2 x) 6)=Aa ((fO p A).map cO):=λx =>
    bRn (by omega) hrow λj v hv=>by simp only[upd];rw[Ap (by omega)];exact sQ hv
   have hch:=bKy (n:=n) (M:=fO p A) (by omega)
   have hl:=aAp (n:=n) (i:=n) (AM _)
   have htk:(hdN n n).take n=hdN n n:=A4 (by omega)
   simp[-E,-I,↓KW,aRh,hii,h2,h4,h3,hl,htk,hfr,hch,tS,tR]
def bYv[M0:Mch Ab](p:Ae)(hp:PrN p)(hP:Spec Ab 129 [.i .u64 p] (.b Ak)) :
 Spec Ab 130 [tS p 0 []] (.tp [.i .u64 1,.i .i64 0]):=by
 have hVl:=aVv (M0:=M0) p 0 [] (by omega) ⟨rfl,λi h=>absurd h (Nat.not_lt_zero _)⟩ hP
 have hCp:=aDq (M0:=M0) 0 1 [] (by omega) rfl (by simp) (by omega) (by omega)
 unfold tS tR at hVl ⊢
 unfold tR at hCp
 rw[List.map_nil]at *
 refine bU (N:=115) Tryz.func130 ?_
 simp[-E,-I,↓KW]
 refine aL hVl ?_
 simp[-E,-I,↓KW]
 refine vJ [.sl []] (λm=>.own m 0 0 1) (mU 1 []) (by simp) (by simp) (by simp) (by rfl) (by rfl) hCp ?_
 simp[-E,-I,↓KW,aJi]
 refine eR 1 ?_
 simp[-E,-I,↓KW,↓aF,gV]
def cDd[M0:Mch Ab](p n:Ae)(A:Ad (Ad Al))(hn:n<=4)(hp:PrN p)(hp1:p<2147483648)(hA:A.length=n)(hr:∀v∈A,v.length=n)(hP:Spec Ab 129 [.i .u64 p] (.b Ak)) :
 Spec Ab 130 [tS p n (fO p A)] (.tp [.i .u64 (fK n A%(p:Al)),.i .i64 0]):=by
 rcases BB n with h|h
 .subst h
  have e:A=[]:=List.length_eq_zero_iff.1 hA
  subst e
  have hp2:=hp.1
  have:fK 0 []%(p:Al)=1:=by
   have:fK 0 []=1:=by decide
   rw[this];exact GY (by omega) (by omega)
  rw[this]
  exact bYv p hp hP
 .exact bYu p n A hn h hp hp1 hA hr hP
def bKd[M0:Mch Ab](p n:Ae)(A:Ad (Ad Al))(hn:n<=4)(hp:PrN p)(hp1:p<2147483648)(hA:A.length=n)(hr:∀v∈A,v.length=n)(hB:∀v∈A,∀z∈v,Sz z)(hP:Spec Ab 129 [.i .u64 p] (.b Ak)) :
 Spec Ab 48 [lC n A,.i .u64 p] (.tp [.ag [.i .u64 p,.i .u64 (fK n A%(p:Al))],.i .i64 0]):=by
 have hp2:=hp.1
 have hRd:=bHi (M0:=M0) p n A (by omega) (by omega) (by omega) hA hr hB hP
 have hDt:=cDd (M0:=M0) p n A hn hp hp1 hA hr hP
 unfold lC at hRd ⊢
 unfold tS at hRd hDt
 generalize(A.map λv=>[dK v])=L at *
 generalize tR (fO p A)=U at *
 generalize fK n A%(p:Al)=d at *
 refine bU (N:=32) Tryz.func48 ?_
 simp[-E,-I,↓KW]
 refine aL hP ?_
 simp[-E,-I,↓KW]
 refine aL hRd ?_
 simp[-E,-I,↓KW]
 refine aL hDt ?_
 simp[-E,-I,↓KW,gV]
def aDi(A:Ad (Ad Al)):jY (.sl (A.map λv=>[dK v])):=wE λcs hcs c hc=>by
 obtain⟨v,_,rfl⟩:=AY.1 hcs;rw[CB.1 hc];refine wE λcs hcs c hc=>?_
 obtain⟨z,_,rfl⟩:=AY.1 hcs;rcases BQ.1 hc with rfl|hc
 .exact bZx _
 .rw[CB.1 hc];refine wE λcs hcs c hc=>?_
  obtain⟨x,_,rfl⟩:=AY.1 hcs;rw[CB.1 hc];exact pR _ _
def bSw[M:Mch Ab](n:Ae)(A:Ad (Ad Al))(hn:n<=4)(hA:A.length=n)(hr:∀v∈A,v.length=n)(hB:∀v∈A,∀z∈v,z.natAbs<=10) :
 ∃b,bMp (bK (A.map sqS)) b/\Spec Ab 43 [lC n A] (.tp [cB b,.i .i64 0]):=by
 have hV:=aNf (M:=M) n A (by omega) hA hr λv hv z hz=>(szR (z:=z) (by have:=hB v hv z hz;omega)).1
 have hL:=aNk (M:=M) n A (by omega) hA (λv hv=>by rw[hr v hv];omega) λv hv z hz=>Bg (hB v hv z hz) (by decide)
 have hp:=sH (lnL A)
 have hq:∀v∈A,sqS v<=400:=λv hv=>Bg (aBn (n:=4) (B:=10) (by rw[hr v hv];omega) (hB v hv)) (by decide)
 have hm:∀z∈kH (lnL A),0<=z/\z.natAbs<=400:=λz hz=>by obtain⟨v,hv,rfl⟩:=AY.1 (hp.mem_iff.1 hz);have:=hq v hv;exact⟨by omega,by omega⟩
 have hlen:(kH (lnL A)).length=n:=by rw[hp.length_eq];simp[lnL,hA]
 have hpr:bK ((kH (lnL A)).map Eo)=bK (A.map sqS):=by rw[uC (hp.map Eo)];unfold lnL;rw[Dp];rfl
 obtain⟨b,hb,hR⟩:=bFr (M:=M) (kH (lnL A)) (400^4) (by omega) (λz hz=>(hm z hz).1) (λi=>by
  refine Bg (vE (B:=400) (λx hx=>?_) rfl) (CL (by decide) (by rw[BV,Bt];omega));obtain⟨z,hz,rfl⟩:=AY.1 hx;exact(hm z (BS hz)).2) (λz hz=>Bv (hm z hz).2 (by decide)) (by decide)
 rw[hpr]at hb
 refine⟨b,hb,?_⟩
 obtain⟨S,hS⟩:∃S,dK (kH (lnL A))=.sl S:=⟨_,rfl⟩
 rw[hS]at hL hR
 unfold lC at hV hL ⊢
 generalize(A.map λv=>[dK v])=L at *
 have hne:((n:Al) != (n:Al))=false:=by simp
 refine bU (N:=18) Tryz.func43 ?_
 simp[-E,-I,↓KW]
 refine aL hV ?_
 simp[-E,-I,↓KW,hne]
 refine aL hL ?_
 simp[-E,-I,↓KW]
 refine aL hR ?_
 rw[aY b]
 simp[-E,-I,↓KW,bE,gV]
def aWv(n:Ae)(A:Ad (Ad Al))(hn:n<=4)(hA:A.length=n)(hr:∀v∈A,v.length=n)(hB:∀v∈A,∀z∈v,z.natAbs<=10) :
 letI:=bV Ab;Spec Ab 8 [lC n A] (.tp [encZ (fK n A),.i .i64 0]):=by
 letI:=bV Ab
 obtain⟨b,hb,hHad⟩:=bSw (M:=bV Ab) n A hn hA hr hB
 have hbl:=bSa hb (aMf (by omega) (λv hv=>by rw[hr v hv];exact hn) hB)
 have hd:=bZp hn hA hr hb
 have hN:=aVt (M:=bV Ab) b 0 (Bv hbl (by decide)) (by omega)
 replace hN:Spec Ab 44 [cB b,.i .u64 2147483648] (cO (wpL b 0)):=hN
 have hpm:∀p∈wpL b 0,p∈P10:=λp hp=>aUl hbl (by omega) hp
 have hnd:=bCq (b:=b) (k:=0) hbl (by omega)
 have hpl:=aUm (b:=b) (k:=0) hbl (by omega)
 have hbig:2*b<bK (wpL b 0):=by
  rw[oC hbl (by omega)];by_cases h0:b=0
  .subst h0;decide
  .rw[Ap h0];show 2*b<bK [2147483647];simp[bK];omega
 have hG:=bIy (d:=fK n A) hnd λp hp=>pC (hpm p hp)
 have hP:=bGb hG.good (List.Sublist.refl (rsL (mX (fK n A) (wpL b 0))))
 have hBz:∀v∈A,∀z∈v,Sz z:=λv hv z hz=>(szR (z:=z) (by have:=hB v hv z hz;omega)).1
 have hcl:(aFf (rsL (mX (fK n A) (wpL b 0))))=fK n A:=by
  obtain⟨c1,c2,c3⟩:=aKe hP;have hpr:(rsL (mX (fK n A) (wpL b 0))).map (·.1)=wpL b 0:=(sP _).trans (sW _ _);rw[hpr]at c2 c3;refine aDp (l:=wpL b 0) (λq hq=>pC (hpm q hq)) hnd (λq hq=>?_) (by omega);rw[<-hpr]at hq;obtain⟨x,hx,rfl⟩:=AY.1 hq;have h1:=c1 x hx;obtain⟨y,hy,rfl⟩:=AY.1 hx;obtain⟨i,hi,rfl⟩:=AY.1 hy;have hi:=Cc.1 hi;have hm:(wpL b 0).getD i 0∈wpL b 0:=by rw[Ah,Ac hi];exact B3 hi
  have h0:=(pC (hpm _ hm)).1;have h2:(fK n A)%(((wpL b 0).getD i 0:Ae):Al)=((fK n A%(((wpL b 0).getD i 0:Ae):Al)).toNat:Al):=by have:=En (fK n A) (b:=(((wpL b 0).getD i 0:Ae):Al)) (by omega);omega
  simp only at h1 ⊢;rw[Int.sub_emod,h1,<-h2,Int.sub_self,Gs]
 have hC:=zG (M:=bV Ab) (rsL (mX (fK n A) (wpL b 0))) hP (by simp only[rsL,BV,aNt];rw[hpl];split<;>omega) (by
  rw[sP,sW,oC hbl (by omega)];split
  .decide
  .show bK [2147483647]<_;decide) (λx hx=>by
  have:x.1∈prR (rsL (mX (fK n A) (wpL b 0))):=Dn hx;rw[sP,sW]at this;have:=lN (hpm _ this);omega) (λx hx=>by
  have:x.1∈prR (rsL (mX (fK n A) (wpL b 0))):=Dn hx;rw[sP,sW]at this;exact oI (hpm _ this))
 rw[hcl]at hC
 refine bTy (rr:=n) (z:=fK n A) (eA:=A.map λv=>[dK v]) (lD:=(wpL b 0).map λ(p:Ae)=>[.i .u64 (p:Al)]) (n:=(wpL b 0).length) (b:=b) (Pv:=λk=>((wpL b 0).getD k 0:Ae)) (Vv:=λk=>((fK n A%(((wpL b 0).getD k 0:Ae):Al)).toNat:Ae)) (Ev:=λ_=>0)
  (by simp) (by rw[hpl];split<;>omega) (aDi A) (λk hk=>by rw[Ao,Ac hk,Ah,Ac hk];rfl) hHad hN (λk hk=>?_) ?_
 .have hm:=hpm ((wpL b 0).getD k 0) (by rw[Ah,Ac hk];exact B3 hk)
  have:=bKd (M0:=eX Ab Az) ((wpL b 0).getD k 0) n A hn (pC hm) (by have:=lN hm;omega) hA hr hBz (oI (M:=eX Ab Az) hm)
  have h2:=(pC hm).1
  have e:=En (fK n A) (b:=(((wpL b 0).getD k 0:Ae):Al)) (by omega)
  rw[<-Cj e]at this
  exact this
 .have e:D.sl (qL (λk=>((wpL b 0).getD k 0:Ae)) (λk=>((fK n A%(((wpL b 0).getD k 0:Ae):Al)).toNat:Ae)) (wpL b 0).length)=oO (rsL (mX (fK n A) (wpL b 0))):=by unfold qL oO rsL mX;rw[Dp,Dp];rfl
  rw[e];exact hC
def T23:Ad (AU×Ad D×D):=[(8,[aM],.tp [.ag (zi (-2)),.i .i64 0]),(36,[aM],.tp [.ag (zi (-2)),.i .i64 0]),(37,[aM,.i .i64 2],.tp [ctD,.i .i64 0]),(25,[aM],fmD),(41,[aM],.sl [zi 1,zi 2]),(39,[aM,ctD],.b Ak)]
def E23:Kn:={ E1 with call:=λf ds=>match T23.find? (λp=>p.1==f&&aOg (aJv 8) p.2.1 ds)with|some p=>Aa p.2.2|none=>E1.call f ds }
def aAv{n:Al}(h0:n≠0)(h:n.natAbs<4294967296):qT n=zi n:=by rw[aJx,aTb (by omega) h];simp[zi,h0,aZ]
def cAp:lC 2 [[1,2],[3,4]]=aM:=by have h1:=aAv (n:=1) (by decide) (by decide);have h2:=aAv (n:=2) (by decide) (by decide);have h3:=aAv (n:=3) (by decide) (by decide);have h4:=aAv (n:=4) (by decide) (by decide);simp[lC,dK,h1,h2,h3,h4,aM,zM]
def cGn:letI:=bV Ab;Spec Ab 8 [aM] (.tp [.ag (zi (-2)),.i .i64 0]):=by have h:=aWv 2 [[1,2],[3,4]] (by decide) rfl (by simp) (by decide);rw[cAp,show fK 2 [[1,2],[3,4]]=-2 from by decide,show encZ (-2)=.ag (zi (-2))from congrArg D.ag (aAv (n:=-2) (by decide) (by decide))]at h;exact h
def cAz:letI:=bV Ab;oB Ab E23:=by
 letI:=bV Ab
 refine⟨λf ds r h=>?_,aHu.ocall,aHu.keys,aHu.sorted,aHu.hcall⟩;simp only[E23]at h;split at h
 .rename_i p hp;injection h with h;subst h
  have hm:=List.mem_of_find?_eq_some hp;have hq:=List.find?_some hp;simp only[A5,beq_iff_eq]at hq;obtain⟨rfl,h2⟩:=hq;rw[<-tB (aAr 8) _ _ h2];simp only[T23,BQ,List.mem_nil_iff,Fh]at hm;rcases hm with rfl|rfl|rfl|rfl|rfl|rfl
  .exact cGn
  .exact cGp
  .exact cDo
  .exact cDp
  .exact cGm
  .exact cGo
 .exact aHu.call _ _ _ h
def bEz:letI:=bV Ab;Spec Ab 6 [] (.b Ak):=by
 letI:=bV Ab
 exact(mF (fuel:=100) aT cAz 20).call _ _ _ (by kernel_rfl)
def stU(l T:Ad Rp3)(y:Ae×Ae):Ad Rp3:=let x:=l.getD (y.1%l.length) (0,0,0);T.set (y.1%l.length) (x.1,x.2.1,(x.2.2+y.2%x.2.1)%x.2.1)
structure Lie(d:Al)(l T:Ad Rp3)(k:Ae):Prop where
 len:T.length=l.length
 pm:pmL T=pmL l
 wk:wkL T=wkL l
 lt:∀x∈T,x.2.2<x.2.1
 few:(blL d T).length<=k
def aNy{α β:Type}(f:α->β){l m:Ad α}(h:l.map f=m.map f)(i:Ae)(d:α):f (l.getD i d)=f (m.getD i d):=by have:=congrArg (λz=>z[i]?) h;simp only[Ao]at this;rw[Ah,Ah];cases h1:l[i]?<;>cases h2:m[i]?<;>simp[h1,h2]at this ⊢;exact this
def Lie.step{d:Al}{l T:Ad Rp3}{k:Ae}(h:Lie d l T k)(hp:∀x∈l,0<x.2.1)(y:Ae×Ae):Lie d l (stU l T y) (k+1):=by
 refine⟨by simp[stU,h.len],?_,?_,λx hx=>?_,Bg (count_set _ _ _ _) (by have:=h.few;omega)⟩
 .exact(aUx _ _ _ _ (0,0,0) (by exact(aNy (λx:Rp3=>x.2.1) h.pm _ (0,0,0)).symm)).trans h.pm
 .exact(aUx _ _ _ _ (0,0,0) (by exact(aNy (λx:Rp3=>x.1) h.wk _ (0,0,0)).symm)).trans h.wk
 .by_cases hl:l=[]
  .subst hl;have:T=[]:=BI h.len;subst this;simp[stU]at hx
  .have hlt:y.1%l.length<l.length:=B9 _ (List.length_pos_iff.2 hl);rcases List.mem_or_eq_of_mem_set hx with hx|rfl
   .exact h.lt x hx
   .exact B9 _ (hp _ (by rw[Ah,Ac hlt];exact B3 hlt))
def Lie.gd{d:Al}{l T:Ad Rp3}{k:Ae}(h:Lie d l T k)(hG:Gd d 0 l):Gd d k T:=by refine⟨⟨⟨by rw[h.wk];exact hG.good.ok.1,h.lt⟩,by rw[h.pm];exact hG.good.nd,λx hx=>?_⟩,h.few⟩;have:x.2.1∈pmL T:=Dn hx;rw[h.pm]at this;exact bGe hG.good this
def Lie.gr{d:Al}{l T:Ad Rp3}{k:Ae}(h:Lie d l T k)(hg:bCe l):bCe T:=λx hx=>by have:x.2.1∈pmL T:=Dn hx;rw[h.pm]at this;obtain⟨y,hy,e⟩:=AY.1 this;rw[<-e];exact hg y hy
def Lie.refl{d:Al}{l:Ad Rp3}(hG:Gd d 0 l):Lie d l l 0:=⟨rfl,rfl,rfl,hG.good.ok.2,hG.lies⟩
def Lie.at{d:Al}{l T:Ad Rp3}{k i w p v:Ae}(h:Lie d l T k)(hG:Gd d 0 l)(hi:l[i]? = Aa (w,p,v)):∃v',T[i]? = Aa (w,p,v')/\(d%(p:Al)=(v':Al)↔v'=v):=by
 have hlt:i<l.length:=(AA.1 hi).1;have hlT:i<T.length:=by rw[h.len];exact hlt
 have hT:T[i]? = Aa T[i]:=Ac hlT;have h1:T[i].1=w:=by have:=congrArg (λz=>z[i]?) h.wk;simp only[wkL,Ao,hi,hT]at this;simpa using this
 have h2:T[i].2.1=p:=by have:=congrArg (λz=>z[i]?) h.pm;simp only[pmL,Ao,hi,hT]at this;simpa using this
 refine⟨T[i].2.2,by rw[hT,<-h1,<-h2],?_⟩;have h3:d%(p:Al)=(v:Al):=by
  have hb:blL d l=[]:=BI (by have:=hG.lies;omega);refine Decidable.byContradiction λhne=>?_
  have hm:(w:Al)∈blL d l:=AY.2 ⟨(w,p,v),ED.2 ⟨At hi,by simpa using hne⟩,rfl⟩;rw[hb]at hm;simp at hm
 rw[h3];omega
def bBv{d:Al}{T:Ad Rp3}{i w p v:Ae}(hn:(wkL T).Nodup)(hi:T[i]? = Aa (w,p,v)):(w:Al) ∉ blL d (T.take i):=by
 intro h;obtain⟨x,hx,e⟩:=AY.1 h;have hx':=(ED.1 hx).1;have h1:(wkL T).take (i+1)=wkL (T.take i)++[w]:=by unfold wkL;rw[<-List.map_take,BG,hi];simp
 have h2:((wkL T).take (i+1)).Nodup:=Ex (DK ..) hn;rw[h1,List.nodup_append]at h2;have e':x.1=w:=by omega
 exact h2.2.2 w (e' ▸ Dn hx') w (by simp) rfl
def aZa[M:Mch Ab](R C:Ae)(V:Ad Al)(hR:R<256)(hb:∀x∈V,-128<=x/\x<=127)(hll:V.length<=9223372036854775807) :
 Spec Ab 7 [bFx R C V] (lC (R%5) (sqM V (R%5))):=by
 have hF:=aZb (M:=M) V (R%5) (by omega) hb hll
 obtain⟨L,hL,_,_⟩:=aOi V
 unfold bFx
 rw[hL]at hF ⊢
 obtain⟨n,hn⟩:∃n,R%5=n:=⟨_,rfl⟩
 rw[hn]at hF ⊢
 have h1:(R:Al).tmod 5=n:=by rw[Cq (by omega)];omega
 have h2:(R:Al)%5=n:=by omega
 have hw:IntKind.u8.wrap (n:Al)=n:=by unfold IntKind.wrap;simp[IntKind.bits,IntKind.signed];omega
 have hw2:Ax.wrap (n:Al)=n:=bP
 generalize sqM V n=A at *
 refine bU (N:=14) Tryz.func7 ?_
 simp[-E,-I,↓KW,h1,h2,hw,hw2]
 refine aL hF ?_
 simp[-E,-I,↓KW,lC]
def bQh[M:Mch Ab](x:Al)(hx:x.natAbs<2^200):Spec Ab 9 [encZ x] (cB x.natAbs):=by have h:=aZy (M:=M) x (Bg (szR (z:=x) (by omega)).2 (by decide));rw[fQ]at h;refine bU (N:=6) Tryz.func9 ?_;simp[-E,-I,↓KW,cX x,bE];refine aL h ?_;simp[-E,-I,↓KW,aY,bE]
def bXl(V:Ad Al)(n:Ae):(sqM V n).length=n/\(∀v∈sqM V n,v.length=n)/\∀v∈sqM V n,∀z∈v,z.natAbs<=10:=by
 have h:=bVn n n λr s=>vf V (r*n+s)
 refine⟨h.len,h.row,λv hv z hz=>?_⟩;obtain⟨r,_,rfl⟩:=AY.1 hv;obtain⟨s,_,rfl⟩:=AY.1 hz;exact bVi V _
def bZr{d:Al}{ps:Ad Ae}(h:∀p∈ps,p∈P10):bCe (mX d ps):=λx hx=>by have:x.2.1∈pmL (mX d ps):=Dn hx;rw[sW]at this;exact h _ this
def bCv(n:Ae)(A:Ad (Ad Al))(ps:Ad Ae)(hn:n<=4)(hA:A.length=n)(hr:∀v∈A,v.length=n)(hB:∀v∈A,∀z∈v,Sz z)(hp:∀p∈ps,p∈P10)(hnd:ps.Nodup) :
 letI:=bV Ab;Spec Ab 10 [lC n A,cO ps] (.tp [lB (mX (fK n A) ps),.i .i64 0]):=by
 letI:=bV Ab
 have hps:ps.length<=10:=hnd.length_le_of_subset λp h=>hp p h
 have hdf:=aDn (M:=bV Ab) ps (by omega) λp h=>oI (hp p h)
 rw[CQ hnd]at hdf
 have h:=bCu (rr:=n) (eA:=A.map λv=>[dK v]) (lD:=ps.map λ(p:Ae)=>[.i .u64 (p:Al)]) (n:=ps.length) (Pv:=λk=>(ps.getD k 0:Ae)) (Vv:=λk=>((fK n A%((ps.getD k 0:Ae):Al)).toNat:Ae)) (Ev:=λ_=>0)
  (by simp) (by omega) (aDi A) (λk hk=>by rw[Ao,Ac hk,Ah,Ac hk];rfl)
  (aNf (M:=bV Ab) n A (by omega) hA hr hB) hdf
  (λk hk=>by
   have hm:ps.getD k 0∈P10:=hp _ (by rw[Ah,Ac hk];exact B3 hk);have hb:=lN hm;have:=bKd (M0:=eX Ab Az) (ps.getD k 0) n A hn (pC hm) (by omega) hA hr hB (oI (M:=eX Ab Az) hm);have e:=En (fK n A) (b:=((ps.getD k 0:Ae):Al)) (by omega);rw[<-Cj e]at this;exact this)
 have e:D.sl (aFy (λk=>(ps.getD k 0:Ae)) (λk=>((fK n A%((ps.getD k 0:Ae):Al)).toNat:Ae)) ps.length)=lB (mX (fK n A) ps):=by unfold aFy lB mX;rw[Dp];rfl
 rw[e]at h
 exact h
def bUb{T:Ad Rp3}{k:Ae}{w p v:Ae}(h:T[k]? = Aa (w,p,v)):(dRp T)[k*3+1]? = Aa (.i .u64 p)/\(dRp T)[k*3+2]? = Aa (.i .u64 v):=by
 induction T generalizing k with
 |nil=>simp at h
 | cons x T ih =>
  have e:dRp (x::T)=dRp [x]++dRp T:=by rw[<-aXa];rfl
  have e3:(dRp [x]).length=3:=rfl;rcases k with _|k
  .simp at h;subst h;exact⟨rfl,rfl⟩
  .have:=ih (k:=k) (by simpa using h);rw[e,AZ (by omega),AZ (by omega),e3,show(k+1)*3+1-3=k*3+1 by omega,show(k+1)*3+2-3=k*3+2 by omega];exact this
def aWz{T:Ad Rp3}{k:Ae}{w p v u:Ae}(h:T[k]? = Aa (w,p,v)):(dRp T).set (k*3+2) (.i .u64 (u:Al))=dRp (T.set k (w,p,u)):=by
 induction T generalizing k with
 |nil=>simp at h
 | cons x T ih =>
  have e:∀y T,dRp (y::T)=dRp [y]++dRp T:=λy T=>by rw[<-aXa];rfl
  rcases k with _|k
  .simp at h;subst h;rw[Dg,e,e];rfl
  .have:=ih (k:=k) (by simpa using h);rw[E9,e,e _ (T.set k _),<-this,DN _ _ (by show 3<=_;omega)];congr 2;show(k+1)*3+2-3=k*3+2;omega
def tlL(l:Ad Rp3)(a c:Ae×Ae):Ae->Ad Rp3
 |0=>l
 |1=>stU l l a
 |_=>stU l (stU l l a) c
def tlB(d:Al)(b w0 w1 y0 y1:Ae)(T:Ad Rp3)(es:Ad (Al×AV)):Ad HO:=[.cells 25 [.d (.i .u8 w0),.d (.i .u8 w1)],.cells 27 [.d (.i .u32 y0),.d (.i .u32 y1)],.cells 35 [.d (.b (decide (d<0))),.d (aZ (bJ d.natAbs))],.cells 35 [.d (.b Az),.d (aZ (bJ b))],.cells 50 ((dRp T).map .d),.map .i64 es]
def tlS(d:Al)(b w0 w1 y0 y1:Ae)(Lv:Ad (Ad D))(T:Ad Rp3)(i:Ae):St:=StL [(4,.ptr 1 0),(5,.ptr 2 0),(7,.d (.b Ak)),(9,.ptr 3 0),(11,.ptr 4 0),(12,.d (.sl Lv)),(14,.own 5 0 T.length 3),(15,.mp 6),(16,.d (.i .i64 i))] Aj (tlB d b w0 w1 y0 y1 T [])
def tlT(d:Al)(b:Ae)(Lv:Ad (Ad D))(T:Ad Rp3)(i:Ae):St:=StL [(7,.d (.b Ak)),(9,.ptr 1 0),(11,.ptr 2 0),(12,.d (.sl Lv)),(14,.own 3 0 T.length 3),(15,.mp 4),(19,.d (.i .i64 i))] Aj [.cells 35 [.d (.b (decide (d<0))),.d (aZ (bJ d.natAbs))],.cells 35 [.d (.b Az),.d (aZ (bJ b))],.cells 50 ((dRp T).map .d),.map .i64 (dX (blL d (T.take i)))]
def tlU(d:Al)(K:Ad Al)(SL:Ad (Ad D))(i:Ae):St:=StL [(7,.d (.b Ak)),(15,.mp 1),(20,.ptr 2 0),(22,.d (.i .i64 i))] Aj [.map .i64 (dX K),.cells 53 [.d (.b (decide (d<0))),.d (aZ (bJ d.natAbs)),.d (.sl SL)]]
def cDn(R C w0 w1 y0 y1:Ae)(V:Ad Al)(hR:R<256)(hC:C<256)(hb:∀x∈V,-128<=x/\x<=127)(hll:V.length<=9223372036854775807)
 (hw0:w0<256) (hw1:w1<256) (hy0:y0<4294967296) (hy1:y1<4294967296) :
 letI:=bV Ab;cAv Ab Eg 173 [bFx R C V,.ag [.i .u8 w0,.i .u8 w1],.ag [.i .u32 y0,.i .u32 y1]] (.b Ak):=by
 letI M:=bV Ab
 have hS:=bEz
 have hSq:=aZa (M:=M) R C V hR hb hll
 obtain⟨n,hn⟩:∃n,R%5=n:=⟨_,rfl⟩
 have hn4:n<=4:=by omega
 rw[hn]at hSq
 obtain⟨a1,a2,a3⟩:=bXl V n
 generalize sqM V n=A at *
 have hDt:=aWv n A hn4 a1 a2 a3
 have hd16:(fK n A).natAbs<=160000:=aCr (Bg (aNw hn4 a1 a2) (aMf (by omega) (λv hv=>by rw[a2 v hv];exact hn4) a3))
 have hAb:=bQh (M:=M) (fK n A) (Bv hd16 (by decide))
 obtain⟨b,hbd⟩:∃b,(fK n A).natAbs=b:=⟨_,rfl⟩
 rw[hbd]at hd16 hAb
 have hPr:=bNx (M:=M) b 2 (Bv hd16 (by decide)) (by omega)
 have hpl:=aUm (b:=b) (k:=2) hd16 (by omega)
 have hpm:∀p∈wpL b 2,p∈P10:=λp hp=>aUl hd16 (by omega) hp
 have hpn:=bCq (b:=b) (k:=2) hd16 (by omega)
 have hWk:=bCv n A (wpL b 2) hn4 a1 a2 (λv hv z hz=>(szR (z:=z) (by have:=a3 v hv z hz;omega)).1) hpm hpn
 generalize fK n A=d at *
 have hG0:=bIy (d:=d) hpn λp hp=>pC (hpm p hp)
 have hg0:=bZr (d:=d) hpm
 have hl0:=aNt d (wpL b 2)
 rw[hpl]at hl0
 generalize wpL b 2=ps at *
 generalize mX d ps=l at *
 have hl45:4<=l.length/\l.length<=5:=by rw[hl0];split<;>omega
 have hp0:∀x∈l,0<x.2.1:=λx hx=>by have:=lN (hg0 x hx);omega
 have hL0:=Lie.refl hG0
 have hL1:=hL0.step hp0 (w0,y0)
 have hL2:=hL1.step hp0 (w1,y1)
 have hCl:=bBc (M:=M) b 2 d (stU l (stU l l (w0,y0)) (w1,y1)) hd16 (by omega) (hL2.gd hG0) (hL2.gr hg0) (by rw[hL2.len];omega) (by rw[hL2.len];omega) (by rw[hL2.len];omega) (by
  rw[hL2.len,hl0];split<;>omega)
 have hSm:=bFz (M:=M) d d (Bg (szR (z:=d) (by omega)).2 (by decide)) (Bg (szR (z:=d) (by omega)).2 (by decide))
 rw[CQ rfl]at hSm
 obtain⟨Lv,hLv,hLvl,hLvg⟩:∃L,lB l=.sl L/\L.length=l.length/\∀(i:Ae) (x:Ae×Ae×Ae),l[i]? = Aa x->L[i]? = Aa [D.i .i64 (x.1:Al),D.i .u64 (x.2.1:Al),D.i .u64 (x.2.2:Al)]:=rQ l
 obtain⟨U,hU⟩:∃L,cO ps=.sl L:=⟨_,rfl⟩
 obtain⟨VL,hVL⟩:∃L,aOj V=.sl L:=⟨_,rfl⟩
 unfold lC at hSq hDt hWk
 unfold bFx at hSq ⊢
 generalize(A.map λv=>[dK v])=L at *
 rw[hVL]at hSq ⊢
 rw[hU]at hPr hWk
 rw[hLv]at hWk
 have hfl:(DX (DX AV.d) Lv).flatten=(dRp l).map AV.d:=by
  have:Lv=l.map λx=>[D.i .i64 (x.1:Al),D.i .u64 (x.2.1:Al),D.i .u64 (x.2.2:Al)]:=by unfold lB at hLv;injection hLv with hLv;exact hLv.symm
  rw[this,dRp,List.map_flatten]
 have hok:fT 3 Lv=true:=by
  have:Lv=l.map λx=>[D.i .i64 (x.1:Al),D.i .u64 (x.2.1:Al),D.i .u64 (x.2.2:Al)]:=by unfold lB at hLv;injection hLv with hLv;exact hLv.symm
  rw[this];rcases l with _|⟨x,l⟩<;>rfl
 have hone:(∀x:D,x∈dRp l->one (AV.d x)=Ak)=True:=eq_true λx hx=>by unfold dRp at hx;obtain⟨y,hy,hx⟩:=List.mem_flatten.1 hx;obtain⟨z,_,rfl⟩:=AY.1 hy;simp only[BQ,Gp,Fh]at hx;rcases hx with rfl|rfl|rfl<;>rfl
 have hbb:l.length*24<=140737488355328/\l.length<=1099511627776:=by omega
 have h4:¬(l.length:Al)<4:=by omega
 have h4':¬l.length<4:=by omega
 have h16:¬(16:Al)<(l.length:Al):=by omega
 have h16':¬16<l.length:=by omega
 have hLl:=hLvl
 have z1:Ax.wrap 1=1:=by decide
 have z2:Ax.wrap 2=2:=by decide
 refine aSg rfl rfl (by kernel_rfl) (by kernel_rfl) (by simp) ?_
 simp[-E,-I,↓KW]
 refine aL hS ?_
 simp[-E,-I,↓KW]
 refine aL hSq ?_
 simp[-E,-I,↓KW]
 refine aL hDt ?_
 rw[cX d]
 simp[-E,-I,↓KW,bE]
 refine aL hAb ?_
 rw[aY b]
 simp[-E,-I,↓KW,bE]
 refine aL hPr ?_
 simp[-E,-I,↓KW,bE]
 refine aL hWk ?_
 simp[-E,-I,↓KW,h4,h4',h16,h16',hLl,hfl,hbb,bY,hok,hone,bE]
 refine bT (τ:=Ae) (λi=>i<=2) (λi=>tlS d b w0 w1 y0 y1 Lv (tlL l (w0,y0) (w1,y1) i) i) (λi=>2-i) 0 (by omega) ?_ ?_
 .show ∃ρ,Wk _ (tlS _ _ _ _ _ _ _ l _) ρ
  unfold tlS tlB
  refine wkQ [2,3,5,6,8,9] ?_ ?_<;>simp[-E,upd,bH,Γ0,oY]
 .intro i hi
  rcases i with _|_|_|i
  .obtain⟨T,hT⟩:∃T,tlL l (w0,y0) (w1,y1) 0=T:=⟨_,rfl⟩
   have hLi:Lie d l T 0:=hT ▸ hL0
   rw[hT]
   obtain⟨k,hk⟩:∃k,w0%l.length=k:=⟨_,rfl⟩
   have hkl:k<l.length:=hk ▸ B9 _ (by omega)
   obtain⟨⟨w,p,v⟩,hge⟩:∃x,l[k]? = Aa x:=⟨_,Ac hkl⟩
   obtain⟨v',hTg,_⟩:=hLi.at hG0 hge
   have hmem:=At hge
   have hpb:=lN (hg0 _ hmem)
   have hvp:=hG0.good.ok.2 _ hmem
   simp only at hpb hvp
   have hLk:=hLvg k _ hge
   simp only at hLk
   have hLk':=cI hLk
   obtain⟨c,hc⟩:∃c,y0%p=c:=⟨_,rfl⟩
   have hcp:c<p:=hc ▸ B9 _ (by omega)
   obtain⟨u,hu⟩:∃u,(v+c)%p=u:=⟨_,rfl⟩
   have hup:u<p:=hu ▸ B9 _ (by omega)
   have hst:tlL l (w0,y0) (w1,y1) (0+1)=T.set k (w,p,u):=by rw[show tlL l (w0,y0) (w1,y1) (0+1)=stU l (tlL l (w0,y0) (w1,y1) 0) (w0,y0)from rfl,hT];unfold stU;simp only;rw[hk,Ah,hge,<-hu,<-hc];rfl
   have hc1:(y0:Al).tmod (p:Al)=c:=by rw[Cq (by omega),<-hc];rfl
   have hc2:(y0:Al)%(p:Al)=c:=by rw[<-hc];rfl
   have hk1:(w0:Al).tmod (l.length:Al)=k:=by rw[Cq (by omega),<-hk];rfl
   have hk2:(w0:Al)%(l.length:Al)=k:=by rw[<-hk];rfl
   have hu1:((v+c:Ae):Al).tmod (p:Al)=u:=by rw[Cq (by omega),<-hu];rfl
   have hu2:((v+c:Ae):Al)%(p:Al)=u:=by rw[<-hu];rfl
   have hwa:Ax.wrap (w0:Al)=w0:=bP
   have hwy:Bh.wrap (y0:Al)=y0:=wrap_u64 (by omega) (by omega)
   have hwk:Ax.wrap (k:Al)=k:=bP
   have hwc:Bh.wrap (c:Al)=c:=wrap_u64 (by omega) (by omega)
   have hwu:Bh.wrap (u:Al)=u:=wrap_u64 (by omega) (by omega)
   have hwv:Bh.wrap ((v:Al)+(c:Al))=((v+c:Ae):Al):=by rw[<-Em];exact wrap_u64 (by omega) (by omega)
   have hl1:((l.length:Al)==0)=false:=by rw[D6];omega
   have hl2:¬l.length=0:=by omega
   have hp1:((p:Al)==0)=false:=by rw[D6];omega
   have hp2:¬p=0:=by omega
   have hpv:¬(p:Al)<=(v:Al):=by omega
   have hpv':¬p<=v:=by omega
   have hst2:=aWz (u:=u) hTg
   have hdl:=wN T
   rw[hLi.len]at hdl
   have hk3:k*3+2<l.length*3:=by omega
   have hk4:k*3+3<=l.length*3:=by omega
   have hly:lay (DX AV.d (dRp T)) (k*3+2) [AV.d (D.i .u64 (u:Al))]=DX AV.d (dRp (T.set k (w,p,u))):=by rw[iU _ _ _ (by omega),hst2]
   have hTl:=hLi.len
   have hT1l:(T.set k (w,p,u)).length=l.length:=by rw[CO];exact hTl
   generalize T.set k (w,p,u)=T1 at *
   generalize hvc:v+c=vc at *
   simp[-E,-I,↓KW,tlS,tlB,z1,z2,hLvl,hLk,hLk',hl1,hl2,hk1,hk2,hwa,hwk,hkl,hp1,hp2,hpv,hpv',hTl,hwy,hc1,hc2,hwc,hwv,hu1,hu2,hwu,hdl,hk3,hk4,hly]
   refine bD (0+1) (by omega) (by decide) ?_
   show ∃ρ,Wk _ (tlS _ _ _ _ _ _ _ (tlL l (w0,y0) (w1,y1) (0+1)) _) ρ
   rw[hst]
   unfold tlS tlB
   refine wkQ [1,2,3,4,5,6] ?_ ?_<;>simp[-E,upd,bH,Γ0,oY,hT1l,z1,z2]
  .obtain⟨T,hT⟩:∃T,tlL l (w0,y0) (w1,y1) 1=T:=⟨_,rfl⟩
   have hLi:Lie d l T 1:=hT ▸ hL1
   rw[hT]
   obtain⟨k,hk⟩:∃k,w1%l.length=k:=⟨_,rfl⟩
   have hkl:k<l.length:=hk ▸ B9 _ (by omega)
   obtain⟨⟨w,p,v⟩,hge⟩:∃x,l[k]? = Aa x:=⟨_,Ac hkl⟩
   obtain⟨v',hTg,_⟩:=hLi.at hG0 hge
   have hmem:=At hge
   have hpb:=lN (hg0 _ hmem)
   have hvp:=hG0.good.ok.2 _ hmem
   simp only at hpb hvp
   have hLk:=hLvg k _ hge
   simp only at hLk
   have hLk':=cI hLk
   obtain⟨c,hc⟩:∃c,y1%p=c:=⟨_,rfl⟩
   have hcp:c<p:=hc ▸ B9 _ (by omega)
   obtain⟨u,hu⟩:∃u,(v+c)%p=u:=⟨_,rfl⟩
   have hup:u<p:=hu ▸ B9 _ (by omega)
   have hst:tlL l (w0,y0) (w1,y1) (1+1)=T.set k (w,p,u):=by rw[show tlL l (w0,y0) (w1,y1) (1+1)=stU l (tlL l (w0,y0) (w1,y1) 1) (w1,y1)from rfl,hT];unfold stU;simp only;rw[hk,Ah,hge,<-hu,<-hc];rfl
   have hc1:(y1:Al).tmod (p:Al)=c:=by rw[Cq (by omega),<-hc];rfl
   have hc2:(y1:Al)%(p:Al)=c:=by rw[<-hc];rfl
   have hk1:(w1:Al).tmod (l.length:Al)=k:=by rw[Cq (by omega),<-hk];rfl
   have hk2:(w1:Al)%(l.length:Al)=k:=by rw[<-hk];rfl
   have hu1:((v+c:Ae):Al).tmod (p:Al)=u:=by rw[Cq (by omega),<-hu];rfl
   have hu2:((v+c:Ae):Al)%(p:Al)=u:=by rw[<-hu];rfl
   have hwa:Ax.wrap (w1:Al)=w1:=bP
   have hwy:Bh.wrap (y1:Al)=y1:=wrap_u64 (by omega) (by omega)
   have hwk:Ax.wrap (k:Al)=k:=bP
   have hwc:Bh.wrap (c:Al)=c:=wrap_u64 (by omega) (by omega)
   have hwu:Bh.wrap (u:Al)=u:=wrap_u64 (by omega) (by omega)
   have hwv:Bh.wrap ((v:Al)+(c:Al))=((v+c:Ae):Al):=by rw[<-Em];exact wrap_u64 (by omega) (by omega)
   have hl1:((l.length:Al)==0)=false:=by rw[D6];omega
   have hl2:¬l.length=0:=by omega
   have hp1:((p:Al)==0)=false:=by rw[D6];omega
   have hp2:¬p=0:=by omega
   have hpv:¬(p:Al)<=(v:Al):=by omega
   have hpv':¬p<=v:=by omega
   have hst2:=aWz (u:=u) hTg
   have hdl:=wN T
   rw[hLi.len]at hdl
   have hk3:k*3+2<l.length*3:=by omega
   have hk4:k*3+3<=l.length*3:=by omega
   have hly:lay (DX AV.d (dRp T)) (k*3+2) [AV.d (D.i .u64 (u:Al))]=DX AV.d (dRp (T.set k (w,p,u))):=by rw[iU _ _ _ (by omega),hst2]
   have hTl:=hLi.len
   have hT1l:(T.set k (w,p,u)).length=l.length:=by rw[CO];exact hTl
   generalize T.set k (w,p,u)=T1 at *
   generalize hvc:v+c=vc at *
   simp[-E,-I,↓KW,tlS,tlB,z1,z2,hLvl,hLk,hLk',hl1,hl2,hk1,hk2,hwa,hwk,hkl,hp1,hp2,hpv,hpv',hTl,hwy,hc1,hc2,hwc,hwv,hu1,hu2,hwu,hdl,hk3,hk4,hly]
   refine bD (1+1) (by omega) (by decide) ?_
   show ∃ρ,Wk _ (tlS _ _ _ _ _ _ _ (tlL l (w0,y0) (w1,y1) (1+1)) _) ρ
   rw[hst]
   unfold tlS tlB
   refine wkQ [1,2,3,4,5,6] ?_ ?_<;>simp[-E,upd,bH,Γ0,oY,hT1l,z1,z2]
  .obtain⟨T,hT⟩:∃T,tlL l (w0,y0) (w1,y1) 2=T:=⟨_,rfl⟩
   have hLi:Lie d l T 2:=hT ▸ hL2
   replace hCl:Spec Ab 12 [cB b,lB T,.i .i64 2] (aXz d T):=hT ▸ hCl
   rw[hT]
   have hTl:=hLi.len
   have hnw:(wkL T).Nodup:=by rw[hLi.wk];exact hG0.good.ok.1
   have hkb:=λi=>aKi d (T.take i)
   simp[-E,-I,↓KW,tlS,tlB]
   refine bQ ?_
   simp[-E,-I,↓KW]
   refine bT (τ:=Ae) (λi=>i<=l.length) (λi=>tlT d b Lv T i) (λi=>l.length-i) 0 (by omega) ?_ ?_
   .unfold tlT
    rw[List.take_zero]
    refine wkQ [3,4,5,6] ?_ ?_<;>simp[-E,upd,bH,Γ0,show blL d []=[]from rfl,show dX []=[]from rfl,oY]
   .intro i hi
    by_cases hlt:i<l.length
    .obtain⟨⟨w,p,v⟩,hge⟩:∃x,l[i]? = Aa x:=⟨_,Ac hlt⟩
     obtain⟨v',hTg,hv'⟩:=hLi.at hG0 hge
     have hLk:=hLvg i _ hge
     simp only at hLk
     have hLk':=cI hLk
     obtain⟨hg1,hg2⟩:=bUb hTg
     have hg3:(dRp T)[i*3+1+1]? = Aa (.i .u64 (v':Al)):=hg2
     have hg4:∀h,(dRp T)[i*3+1+1]'h=.i .u64 (v':Al):=λh=>by rw[Ac h]at hg3;injection hg3
     have hdl:=wN T
     rw[hTl]at hdl
     have hk3:i*3+2<l.length*3:=by omega
     have hk4:i*3+1+1<l.length*3:=by omega
     have hwi:Ax.wrap (i:Al)=i:=bP
     have hw1:Ax.wrap ((i:Al)+1)=((i+1:Ae):Al):=bP
     have hT1:blL d (T.take (i+1))=blL d (T.take i)++if d%(p:Al)=(v':Al)then[]else[(w:Al)]:=by rw[BG,hTg,Option.toList_some,aOz]
     by_cases hvv:v'=v
     .rw[AB (hv'.2 hvv),El]at hT1
      subst hvv
      have hne:((v':Al) != (v':Al))=false:=by simp
      simp[-E,-I,↓KW,tlT,hLvl,hLk,hLk',hTl,hlt,hg2,hg3,hg4,hdl,hk3,hk4,hwi,hne,hw1]
      refine bD (i+1) (show i+1<=l.length from hlt) (by show l.length-(i+1)<l.length-i;omega) ?_
      show ∃ρ,Wk _ (tlT _ _ _ _ (i+1)) ρ
      unfold tlT
      rw[hT1]
      refine wkQ [1,2,3,4] ?_ ?_<;>simp[-E,upd,bH,Γ0,jA,hTl]
     .rw[Ap (λh=>hvv (hv'.1 h))]at hT1
      have hne:((v':Al) != (v:Al))=true:=by simp;omega
      have hmp:=sU (w:Al) (blL d (T.take i)) (bBv hnw hTg)
      rw[<-hT1]at hmp
      simp[-E,-I,↓KW,tlT,hLvl,hLk,hLk',hTl,hlt,hg2,hg3,hg4,hdl,hk3,hk4,hwi,hne,hw1,vS,hmp]
      refine bD (i+1) (show i+1<=l.length from hlt) (by show l.length-(i+1)<l.length-i;omega) ?_
      show ∃ρ,Wk _ (tlT _ _ _ _ (i+1)) ρ
      unfold tlT
      refine wkQ [1,2,3,4] ?_ ?_<;>simp[-E,upd,bH,Γ0,jA,hTl]
    .have hTt:T.take i=T:=A4 (by omega)
     have hKl:=aKi d T
     have hSl:(dV (blL d T)).length=(blL d T).length:=(sG _).length_eq
     have hSmem:∀x∈dV (blL d T),x∈blL d T:=λx hx=>(sG _).mem_iff.1 hx
     have e1:=aKc hTl
     have e2:=bBh hTl
     have e3:=wN T
     rw[hTl]at e3
     have e4:lB T=.sl (T.map λx=>[D.i .i64 (x.1:Al),D.i .u64 (x.2.1:Al),D.i .u64 (x.2.2:Al)]):=rfl
     unfold aXz at hCl
     obtain⟨SL,hSL,hSLl,hSLg⟩:∃S,ezI (dV (blL d T))=.sl S/\S.length=(dV (blL d T)).length/\∀(i:Ae) (x:Al),(dV (blL d T))[i]? = Aa x->S[i]? = Aa [.i .i64 x]:=⟨_,rfl,by simp,λi x hx=>by rw[Ao,hx];rfl⟩
     rw[hSL]at hCl
     generalize dV (blL d T)=S at *
     obtain⟨K,hK⟩:∃K,blL d T=K:=⟨_,rfl⟩
     rw[hK]at hKl hSl hSmem
     have hKT:blL d (T.take i)=K:=by rw[hTt,hK]
     simp[-E,-I,↓KW,tlT,hKT,hTl,hLvl,hlt]
     refine bQ ?_
     simp[-E,-I,↓KW]
     refine iD (ds:=[cB b,lB T,.i .i64 2]) ?_ hCl ?_
     .simp[-E,-I,↓KW,hTl,e1,e2,e3,e4]
      exact(aY b).symm
     have hvd:∀(H:Hp) (q:Ad D),List.flatMap (vis H 7) (q.map AV.d)=[]:=λH q=>FW.2 λx hx=>by obtain⟨y,_,rfl⟩:=AY.1 hx;rfl
     have f1:wH (.ag [.b (decide (d<0)),aZ (bJ d.natAbs),.sl SL])=false:=rfl
     simp[-E,-I,↓KW,hTl,e1,e3,hvd,f1,mE,bE]
     refine aL hSm ?_
     have hlen:((SL.length:Al) != ((dX K).length:Al))=false:=by
      have:(dX K).length=K.length:=by simp[dX]
      simp;omega
     simp[-E,-I,↓KW,mE,hlen,bE]
     refine bT (τ:=Ae) (λj=>j<=SL.length) (λj=>tlU d K SL j) (λj=>SL.length-j) 0 (by omega) ?_ ?_
     .unfold tlU
      refine wkQ [4,5] ?_ ?_<;>simp[-E,upd,bH,Γ0,jA,mE]
     .intro j hj
      by_cases hjl:j<SL.length
      .obtain⟨x,hx⟩:∃x,S[j]? = Aa x:=⟨_,Ac (by omega)⟩
       have hSj:=hSLg j x hx
       have hSj':=cI hSj
       have hlk:=bHo K x
       rw[CQ (hSmem x (At hx))]at hlk
       have hwj:Ax.wrap (j:Al)=j:=bP
       have hw1:Ax.wrap ((j:Al)+1)=((j+1:Ae):Al):=bP
       simp[-E,-I,↓KW,tlU,hjl,hSj,hSj',hlk,fY,hwj,hw1]
       refine bD (j+1) hjl (by show SL.length-(j+1)<SL.length-j;omega) ?_
       show ∃ρ,Wk _ (tlU _ _ _ (j+1)) ρ
       unfold tlU
       refine wkQ [1,2] ?_ ?_<;>simp[-E,upd,bH,Γ0,jA]
      .simp[-E,-I,↓KW,tlU,hjl]
       refine bQ ?_
       simp[-E,-I,↓KW]
  .omega
def bAd{P:As}{f:AU}{fn:Func}{s:ChangeSpec}{c:OpenClaim}(h0:c.wf (OpenSpec.ofChange s)=Ak)
 (h1:laidOutB P=Ak)
 (h2:mapsRowed P=Ak)
 (h3:fn.params.all (P.readableRec ·)=Ak)
 (h4:namedTie P c.named s.vars=Ak)
 (h5:(c.stops==[])=Ak)
 (h6:(P.stops==[])=Ak)
 (h7:(c.knobs==[])=Ak)
 (h8:(P.stopKnobs==[])=Ak)
 (h9:(c.inPlace==P.inPlace f)=Ak)
 (h10:(c.unfollowed==P.unfollowed f)=Ak)
 (h11:(c.recurses==P.recurses f)=Ak)
 (h12:(c.named==P.varsNamed f)=Ak)
 (h13:(c.maps==(fn.params.toList++s.plain.varTypes P).any (P.mapsRec ·))=Ak)
 (h14:(c.ifaces==(fn.params.toList++s.plain.varTypes P).any (P.ifacesRec ·))=Ak)
 (h15:(c.mapsOut==P.mapsAmong fn.resultTypes.toList)=Ak)
 (h16:(c.loops==(fn.params.toList++s.plain.varTypes P).any (P.loopsFrom ·))=Ak)
 (h17:(c.wideKeys==(fn.params.toList++s.plain.varTypes P++fn.resultTypes.toList).any (P.wideKeysFrom ·))=Ak)
 (h18:s.vars.all (P.varReadable ·)=Ak)
 (h19:fn.resultTypes.all (λt=>P.readableRec t&&decide (t<P.types.size))=Ak)
 (h20:(c.ifacesOut==fn.resultTypes.toList.any (P.ifacesRec ·))=Ak)
 (h21:(c.loopsOut==fn.resultTypes.toList.any (P.loopsFrom ·))=Ak)
 (h22:(c.plainKeys==P.plainKeys)=Ak)
 (h23:c.shortTexts.isNone=Ak)
 (h24:P.stopsHeard=Ak)
 (h25:P.mayEnter=Ak)
 (h26:(c.lifted==P.liftsFinal)=Ak)
 (h27:(P.make==Aa c.make)=Ak)
 (h28:(c.kinds==(if c.domain.isEmpty then[]else fn.params.toList.map λt=>match P.underlying t with|some (.int k)=>Aa k|_=>Aj))=Ak)
 (h29:(c.pinned==c.pinnedBy)=Ak)
 (h30:(c.veiled==(fn.params.toList++s.plain.varTypes P++fn.resultTypes.toList).any (P.veiledRec ·))=Ak)
 (h31:c.veiledFits P fn.params.toList (fn.params.toList++s.plain.varTypes P++fn.resultTypes.toList)=Ak) :
 joinedFacts P f fn s c=true:=by
 unfold joinedFacts
 simp only[A5]
 exact⟨⟨⟨⟨⟨⟨⟨⟨⟨⟨⟨⟨⟨⟨⟨⟨⟨⟨⟨⟨⟨⟨⟨⟨⟨⟨⟨⟨⟨⟨⟨h0,h1⟩,h2⟩,h3⟩,h4⟩,h5⟩,h6⟩,h7⟩,h8⟩,h9⟩,h10⟩,h11⟩,h12⟩,h13⟩,h14⟩,h15⟩,h16⟩,h17⟩,h18⟩,h19⟩,h20⟩,h21⟩,h22⟩,h23⟩,h24⟩,h25⟩,h26⟩,h27⟩,h28⟩,h29⟩,h30⟩,h31⟩
end Go.Am
end
section
open Go Go.Am Go.Proofs
namespace Go.Proofs.YtaekgiimepenkaaGreat
def cFm:Rows.topLiarsAreBlamedRow.wf (OpenSpec.ofChange Rows.topLiarsAreBlamedSpec)=true:=by kernel_rfl
def cFl:mapsRowed Ab=true:=by kernel_rfl
def cFk:Eg.params.all (Ab.readableRec ·)=true:=by kernel_rfl
def cFj:namedTie Ab Rows.topLiarsAreBlamedRow.named Rows.topLiarsAreBlamedSpec.vars=true:=by kernel_rfl
def cFi:(Rows.topLiarsAreBlamedRow.stops==[])=true:=by kernel_rfl
def cFh:(Ab.stops==[])=true:=by kernel_rfl
def cFg:(Rows.topLiarsAreBlamedRow.knobs==[])=true:=by kernel_rfl
def cFf:(Ab.stopKnobs==[])=true:=by kernel_rfl
def cFe:(Rows.topLiarsAreBlamedRow.inPlace==Ab.inPlace 3)=true:=by kernel_rfl
def cCp:(Rows.topLiarsAreBlamedRow.unfollowed==Ab.unfollowed 3)=true:=by kernel_rfl
def cCo:(Rows.topLiarsAreBlamedRow.recurses==Ab.recurses 3)=true:=by kernel_rfl
def cCn:(Rows.topLiarsAreBlamedRow.named==Ab.varsNamed 3)=true:=by kernel_rfl
def cCm:(Rows.topLiarsAreBlamedRow.maps==(Eg.params.toList++Rows.topLiarsAreBlamedSpec.plain.varTypes Ab).any (Ab.mapsRec ·))=true:=by kernel_rfl
def cCl:(Rows.topLiarsAreBlamedRow.ifaces==(Eg.params.toList++Rows.topLiarsAreBlamedSpec.plain.varTypes Ab).any (Ab.ifacesRec ·))=true:=by kernel_rfl
def cCk:(Rows.topLiarsAreBlamedRow.mapsOut==Ab.mapsAmong Eg.resultTypes.toList)=true:=by kernel_rfl
def cCj:(Rows.topLiarsAreBlamedRow.loops==(Eg.params.toList++Rows.topLiarsAreBlamedSpec.plain.varTypes Ab).any (Ab.loopsFrom ·))=true:=by kernel_rfl
def cCi:(Rows.topLiarsAreBlamedRow.wideKeys==(Eg.params.toList++Rows.topLiarsAreBlamedSpec.plain.varTypes Ab++Eg.resultTypes.toList).any (Ab.wideKeysFrom ·))=true:=by kernel_rfl
def cCh:Rows.topLiarsAreBlamedSpec.vars.all (Ab.varReadable ·)=true:=by kernel_rfl
def cCg:Eg.resultTypes.all (λt=>Ab.readableRec t&&decide (t<Ab.types.size))=true:=by kernel_rfl
def cCf:(Rows.topLiarsAreBlamedRow.ifacesOut==Eg.resultTypes.toList.any (Ab.ifacesRec ·))=true:=by kernel_rfl
def cCe:(Rows.topLiarsAreBlamedRow.loopsOut==Eg.resultTypes.toList.any (Ab.loopsFrom ·))=true:=by kernel_rfl
def cCd:(Rows.topLiarsAreBlamedRow.plainKeys==Ab.plainKeys)=true:=by kernel_rfl
def cCc:Rows.topLiarsAreBlamedRow.shortTexts.isNone=true:=by kernel_rfl
def cCb:Ab.stopsHeard=true:=by kernel_rfl
def cCa:Ab.mayEnter=true:=by kernel_rfl
def cBz:(Rows.topLiarsAreBlamedRow.lifted==Ab.liftsFinal)=true:=by kernel_rfl
def cBy:(Ab.make==Aa Rows.topLiarsAreBlamedRow.make)=true:=by kernel_rfl
def cBx:(Rows.topLiarsAreBlamedRow.kinds==(if Rows.topLiarsAreBlamedRow.domain.isEmpty then[]else Eg.params.toList.map λt=>match Ab.underlying t with|some (.int k)=>Aa k|_=>Aj))=true:=by kernel_rfl
def cBw:(Rows.topLiarsAreBlamedRow.pinned==Rows.topLiarsAreBlamedRow.pinnedBy)=true:=by kernel_rfl
def cBv:(Rows.topLiarsAreBlamedRow.veiled==(Eg.params.toList++Rows.topLiarsAreBlamedSpec.plain.varTypes Ab++Eg.resultTypes.toList).any (Ab.veiledRec ·))=true:=by kernel_rfl
def cBu:Rows.topLiarsAreBlamedRow.veiledFits Ab Eg.params.toList (Eg.params.toList++Rows.topLiarsAreBlamedSpec.plain.varTypes Ab++Eg.resultTypes.toList)=true:=by kernel_rfl
end Go.Proofs.YtaekgiimepenkaaGreat
end
