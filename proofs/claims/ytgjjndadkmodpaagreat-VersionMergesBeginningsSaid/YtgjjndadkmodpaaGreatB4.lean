/- The reference's integers: the division of absolute values. No condition. -/
import Derived.Test.YtgjjndadkmodpaaGreatB3
import Derived.Test.YtgjjndadkmodpaaGreatRows
import Derived.Shelf.SlIterI.Nil
import Derived.Shelf.SortM.Plain
import Derived.Shelf.SortM.SortNone
import Derived.Ground.GgzProg
import Derived.Ground.SlgmProg
import Derived.Test.YtgjjndadkmodpaaGreatProg
import Derived.Recover
import Derived.ProofKit
import Derived.OpenShut
set_option linter.all false
set_option maxHeartbeats 8000000
set_option maxRecDepth 20000
open And renaming intro->AR
open Array renaming getElem?_eq_some_iff->BT,replicate->BG
open Bool renaming and_eq_true->AO,eq_iff_iff->DK,false_eq_true->A1,or_eq_true->CG
open Go.Ending renaming returned->DL
open Go.Fence renaming wide->DI
open Go.IntKind renaming bits->DC,i64->Ag,u32->Co,u64->A2
open Go.Program renaming underlying->Ao
open Go.Proofs.Tryz renaming isAgg3->E9,prog->Aa,prog->BK,sizeOf3->ER,underlying0->Fp,underlying156->FW,underlying3->DR,underlying4->EP,zeroValue0->FH,zeroValue156->Gd,zeroValue3->D6,zeroValue4->FI
open Go.Region renaming ready->BS
open Go.Sem renaming run_bind->A3
open Go.Shelf renaming Ren->FU
open Go.Value renaming cells->EG,oneCell'->CE
open Go.WideElems renaming rg->ES
open Int renaming add_zero->Dl,fdiv_eq_ediv_of_nonneg->Di,lt_trichotomy->ED,mul_neg->Ek,natAbs_mul->BV,natCast_mul->FJ,neg_mul->CX,sign_eq_neg_one_of_neg->CS,sign_eq_one_of_pos->Dj
open List renaming all_cons->Ec,all_eq_true->Ay,append_assoc->Bg,drop->Cy,drop_eq_getElem_cons->AP,drop_eq_nil_of_le->Bz,eq_nil_of_length_eq_zero->AE,ext_getElem->ET,flatten_cons->BE,foldl_append->Dk,foldl_cons->C3,getD_eq_getElem?_getD->Af,getElem?_append_left->AJ,getElem?_append_right->Az,getElem?_cons_succ->Bf,getElem?_eq_getElem->Ab,getElem?_eq_none->AW,getElem?_eq_some_iff->Ah,getElem?_map->Aw,getElem?_range->CJ,getElem?_replicate->CN,getElem?_set->Fe,getElem?_set_ne->FC,getElem_mem->Ar,getLast?_eq_getElem?->Dt,getLast?_eq_none_iff->EY,length_append->Al,length_cons->AH,length_map->AL,length_nil->Bo,length_pos_iff->Dq,length_replicate->EA,length_set->E5,length_singleton->Au,length_take->Ax,map->AQ,mapM_cons->B6,map_append->Bt,map_congr_left->BJ,map_cons->A0,map_map->CC,map_replicate->FZ,map_take->By,mem_append->A6,mem_cons->AG,mem_cons_of_mem->As,mem_cons_self->Av,mem_iff_getElem->BL,mem_map->AA,mem_map_of_mem->FQ,mem_of_getElem?->Aq,mem_of_mem_take->Cj,mem_or_eq_of_mem_set->EX,mem_range->C0,mem_singleton->AT,pairwise_cons->Bj,pairwise_map->CM,range->CP,range_succ_eq_map->Eo,replicate->AB,replicate_succ->DN,set_cons_succ->FY,set_cons_zero->CT,take->BB,take_add_one->AM,take_of_length_le->Ai,take_zero->Cq
open Nat renaming add_assoc->Eb,add_comm->CB,add_le_add_left->FR,add_mul->Bw,add_sub_cancel->A9,add_zero->B9,div_add_mod->FG,eq_zero_or_pos->B7,le_refl->Ap,le_trans->An,lt_or_ge->Bd,lt_succ_self->AK,min_eq_left->BP,mod_lt->EI,mul_add->Cn,mul_assoc->Ce,mul_comm->Cb,mul_le_mul->Cp,mul_le_mul_left->BC,mul_le_mul_right->A7,mul_left_comm->D9,mul_one->DP,mul_pos->Gc,mul_zero->Dh,one_mul->C9,pow_add->CA,pow_le_pow_right->BU,pow_succ->Cm,sub_lt_sub_left->AF,sub_self->Cu,zero_add->A5,zero_le->Ak
open Option renaming getD_some->Bc,map_eq_some_iff->Aj,map_some->A4
open Option.some renaming injEq->AU
open _root_ renaming beq_eq_false_iff_ne->FP,decide_eq_true_eq->AI,if_false->BY,if_neg->Ac,if_pos->Ae,or_false->Ex
section
open Go Go.Proofs
namespace Go.Am
@[simp]def cEi:tsz Aa 2=some 1/\tby Aa 2=some 8/\tz Aa 2=some (.int .i64 0)/\cZ Aa 2=some false/\tel Aa 2=none/\bX Aa 2=false/\(Ao Aa 2).isSome=true/\jJ Aa 2=some .i64/\tsz Aa 3=some 1/\tby Aa 3=some 8/\tz Aa 3=some (.int .i64 0)/\cZ Aa 3=some false/\tel Aa 3=none/\bX Aa 3=false/\(Ao Aa 3).isSome=true/\jJ Aa 3=some .i64/\tsz Aa 4=some 1/\tby Aa 4=some 1/\tz Aa 4=some (.bool false)/\cZ Aa 4=some false/\tel Aa 4=none/\bX Aa 4=true/\(Ao Aa 4).isSome=true/\tsz Aa 5=some 1/\tby Aa 5=some 1/\tz Aa 5=some (.int .u8 0)/\cZ Aa 5=some false/\tel Aa 5=none/\bX Aa 5=false/\(Ao Aa 5).isSome=true/\jJ Aa 5=some .u8/\tsz Aa 6=some 1/\tby Aa 6=some 1/\tz Aa 6=some (.int .u8 0)/\cZ Aa 6=some false/\tel Aa 6=none/\bX Aa 6=false/\(Ao Aa 6).isSome=true/\jJ Aa 6=some .u8/\tsz Aa 7=some 4:=by and_intros<;>kernel_rfl
@[simp]def cEj:tby Aa 7=some 24/\tz Aa 7=some (.agg #[.int .i64 0,.int .i64 0,.bool false,.int .u8 0])/\cZ Aa 7=some true/\tel Aa 7=none/\bX Aa 7=false/\(Ao Aa 7).isSome=true/\gI Aa 7=some [(0,1),(1,1),(2,1),(3,1)]/\tsz Aa 8=some 4/\tby Aa 8=some 24/\tz Aa 8=some (.agg #[.int .i64 0,.int .i64 0,.bool false,.int .u8 0])/\cZ Aa 8=some true/\tel Aa 8=none/\bX Aa 8=false/\(Ao Aa 8).isSome=true/\gI Aa 8=some [(0,1),(1,1),(2,1),(3,1)]/\tsz Aa 12=some 1/\tby Aa 12=some 8/\tz Aa 12=some (.int .u64 0)/\cZ Aa 12=some false/\tel Aa 12=none/\bX Aa 12=false/\(Ao Aa 12).isSome=true/\jJ Aa 12=some .u64/\tsz Aa 21=some 1/\tby Aa 21=some 4/\tz Aa 21=some (.int .i32 0)/\cZ Aa 21=some false/\tel Aa 21=none/\bX Aa 21=false/\(Ao Aa 21).isSome=true/\jJ Aa 21=some .i32/\tsz Aa 22=some 1/\tby Aa 22=some 24/\tz Aa 22=some (.slice none 0 0)/\cZ Aa 22=some false/\tel Aa 22=some 27/\bX Aa 22=false/\(Ao Aa 22).isSome=true/\tsz Aa 23=some 2/\tby Aa 23=some 32:=by and_intros<;>kernel_rfl
@[simp]def cEh:tz Aa 23=some (.agg #[.int .u8 0,.slice none 0 0])/\cZ Aa 23=some true/\tel Aa 23=none/\bX Aa 23=false/\(Ao Aa 23).isSome=true/\gI Aa 23=some [(0,1),(1,1)]/\tsz Aa 24=some 2/\tby Aa 24=some 32/\tz Aa 24=some (.agg #[.int .u8 0,.slice none 0 0])/\cZ Aa 24=some true/\tel Aa 24=none/\bX Aa 24=false/\(Ao Aa 24).isSome=true/\gI Aa 24=some [(0,1),(1,1)]/\tsz Aa 25=some 1/\tby Aa 25=some 24/\tz Aa 25=some (.slice none 0 0)/\cZ Aa 25=some false/\tel Aa 25=some 29/\bX Aa 25=false/\(Ao Aa 25).isSome=true/\tsz Aa 26=some 1/\tby Aa 26=some 1/\tz Aa 26=some (.int .i8 0)/\cZ Aa 26=some false/\tel Aa 26=none/\bX Aa 26=false/\(Ao Aa 26).isSome=true/\jJ Aa 26=some .i8/\tsz Aa 27=some 4/\tby Aa 27=some 4/\tz Aa 27=some (.agg #[.int .i8 0,.int .i8 0,.int .i8 0,.int .i8 0])/\cZ Aa 27=some true/\tel Aa 27=none/\bX Aa 27=false/\(Ao Aa 27).isSome=true/\gI Aa 27=none/\aAh Aa 27=some (4,26)/\tsz Aa 28=some 7/\tby Aa 28=some 7:=by and_intros<;>kernel_rfl
@[simp]def cEg:tz Aa 28=some (.agg #[.int .u8 0,.int .u8 0,.int .u8 0,.int .i8 0,.int .i8 0,.int .i8 0,.int .i8 0])/\cZ Aa 28=some true/\tel Aa 28=none/\bX Aa 28=false/\(Ao Aa 28).isSome=true/\gI Aa 28=some [(0,1),(1,1),(2,1),(3,4)]/\tsz Aa 29=some 7/\tby Aa 29=some 7/\tz Aa 29=some (.agg #[.int .u8 0,.int .u8 0,.int .u8 0,.int .i8 0,.int .i8 0,.int .i8 0,.int .i8 0])/\cZ Aa 29=some true/\tel Aa 29=none/\bX Aa 29=false/\(Ao Aa 29).isSome=true/\gI Aa 29=some [(0,1),(1,1),(2,1),(3,4)]/\tsz Aa 31=some 1/\tby Aa 31=some 24/\tz Aa 31=some (.slice none 0 0)/\cZ Aa 31=some false/\tel Aa 31=some 40/\bX Aa 31=false/\(Ao Aa 31).isSome=true/\tsz Aa 32=some 1/\tby Aa 32=some 24/\tz Aa 32=some (.slice none 0 0)/\cZ Aa 32=some false/\tel Aa 32=some 40/\bX Aa 32=false/\(Ao Aa 32).isSome=true/\tsz Aa 33=some 1/\tby Aa 33=some 24/\tz Aa 33=some (.slice none 0 0)/\cZ Aa 33=some false/\tel Aa 33=some 43/\bX Aa 33=false/\(Ao Aa 33).isSome=true/\tsz Aa 34=some 3/\tby Aa 34=some 56/\tz Aa 34=some (.agg #[.int .i64 0,.slice none 0 0,.slice none 0 0])/\cZ Aa 34=some true/\tel Aa 34=none:=by and_intros<;>kernel_rfl
@[simp]def cAf:bX Aa 34=false/\(Ao Aa 34).isSome=true/\gI Aa 34=some [(0,1),(1,1),(2,1)]/\tsz Aa 35=some 3/\tby Aa 35=some 56/\tz Aa 35=some (.agg #[.int .i64 0,.slice none 0 0,.slice none 0 0])/\cZ Aa 35=some true/\tel Aa 35=none/\bX Aa 35=false/\(Ao Aa 35).isSome=true/\gI Aa 35=some [(0,1),(1,1),(2,1)]/\tsz Aa 37=some 1/\tby Aa 37=some 24/\tz Aa 37=some (.slice none 0 0)/\cZ Aa 37=some false/\tel Aa 37=some 75/\bX Aa 37=false/\(Ao Aa 37).isSome=true/\tsz Aa 38=some 1/\tby Aa 38=some 24/\tz Aa 38=some (.slice none 0 0)/\cZ Aa 38=some false/\tel Aa 38=some 75/\bX Aa 38=false/\(Ao Aa 38).isSome=true/\tsz Aa 39=some 3/\tby Aa 39=some 40/\tz Aa 39=some (.agg #[.int .i64 0,.int .i64 0,.slice none 0 0])/\cZ Aa 39=some true/\tel Aa 39=none/\bX Aa 39=false/\(Ao Aa 39).isSome=true/\gI Aa 39=some [(0,1),(1,1),(2,1)]/\tsz Aa 40=some 3/\tby Aa 40=some 40/\tz Aa 40=some (.agg #[.int .i64 0,.int .i64 0,.slice none 0 0])/\cZ Aa 40=some true/\tel Aa 40=none/\bX Aa 40=false/\(Ao Aa 40).isSome=true:=by and_intros<;>kernel_rfl
@[simp]def cDg:gI Aa 40=some [(0,1),(1,1),(2,1)]/\tsz Aa 41=some 2/\tby Aa 41=some 16/\tz Aa 41=some (.agg #[.int .i64 0,.int .i64 0])/\cZ Aa 41=some true/\tel Aa 41=none/\bX Aa 41=false/\(Ao Aa 41).isSome=true/\gI Aa 41=none/\aAh Aa 41=some (2,3)/\tsz Aa 42=some 8/\tby Aa 42=some 80/\tz Aa 42=some (.agg #[.int .i64 0,.int .i64 0,.int .i64 0,.slice none 0 0,.int .i64 0,.int .i64 0,.int .i64 0,.int .i64 0])/\cZ Aa 42=some true/\tel Aa 42=none/\bX Aa 42=false/\(Ao Aa 42).isSome=true/\gI Aa 42=some [(0,1),(1,3),(4,1),(5,1),(6,2)]/\tsz Aa 43=some 8/\tby Aa 43=some 80/\tz Aa 43=some (.agg #[.int .i64 0,.int .i64 0,.int .i64 0,.slice none 0 0,.int .i64 0,.int .i64 0,.int .i64 0,.int .i64 0])/\cZ Aa 43=some true/\tel Aa 43=none/\bX Aa 43=false/\(Ao Aa 43).isSome=true/\gI Aa 43=some [(0,1),(1,3),(4,1),(5,1),(6,2)]/\tsz Aa 46=some 1/\tby Aa 46=some 8/\tz Aa 46=some (.int .i64 0)/\cZ Aa 46=some false/\tel Aa 46=none/\bX Aa 46=false/\(Ao Aa 46).isSome=true/\jJ Aa 46=some .i64/\tsz Aa 58=some 2/\tby Aa 58=some 2/\tz Aa 58=some (.agg #[.int .i8 0,.int .i8 0])/\cZ Aa 58=some true/\tel Aa 58=none/\bX Aa 58=false:=by and_intros<;>kernel_rfl
@[simp]def cCy:(Ao Aa 58).isSome=true/\gI Aa 58=none/\aAh Aa 58=some (2,26)/\tsz Aa 65=some 1/\tby Aa 65=some 24/\tz Aa 65=some (.slice none 0 0)/\cZ Aa 65=some false/\tel Aa 65=some 2/\bX Aa 65=false/\(Ao Aa 65).isSome=true/\tsz Aa 70=some 1/\tby Aa 70=some 24/\tz Aa 70=some (.slice none 0 0)/\cZ Aa 70=some false/\tel Aa 70=some 101/\bX Aa 70=false/\(Ao Aa 70).isSome=true/\tsz Aa 71=some 2/\tby Aa 71=some 32/\tz Aa 71=some (.agg #[.bool false,.slice none 0 0])/\cZ Aa 71=some true/\tel Aa 71=none/\bX Aa 71=false/\(Ao Aa 71).isSome=true/\gI Aa 71=some [(0,1),(1,1)]/\tsz Aa 72=some 2/\tby Aa 72=some 32/\tz Aa 72=some (.agg #[.bool false,.slice none 0 0])/\cZ Aa 72=some true/\tel Aa 72=none/\bX Aa 72=false/\(Ao Aa 72).isSome=true/\gI Aa 72=some [(0,1),(1,1)]/\tsz Aa 74=some 3/\tby Aa 74=some 40/\tz Aa 74=some (.agg #[.int .i64 0,.bool false,.slice none 0 0])/\cZ Aa 74=some true/\tel Aa 74=none/\bX Aa 74=false/\(Ao Aa 74).isSome=true:=by and_intros<;>kernel_rfl
@[simp]def cDf:gI Aa 74=some [(0,1),(1,2)]/\tsz Aa 75=some 3/\tby Aa 75=some 40/\tz Aa 75=some (.agg #[.int .i64 0,.bool false,.slice none 0 0])/\cZ Aa 75=some true/\tel Aa 75=none/\bX Aa 75=false/\(Ao Aa 75).isSome=true/\gI Aa 75=some [(0,1),(1,2)]/\tsz Aa 76=some 1/\tby Aa 76=some 24/\tz Aa 76=some (.slice none 0 0)/\cZ Aa 76=some false/\tel Aa 76=some 41/\bX Aa 76=false/\(Ao Aa 76).isSome=true/\tsz Aa 95=some 1/\tby Aa 95=some 24/\tz Aa 95=some (.slice none 0 0)/\cZ Aa 95=some false/\tel Aa 95=some 38/\bX Aa 95=false/\(Ao Aa 95).isSome=true/\tsz Aa 99=some 1/\tby Aa 99=some 8/\tz Aa 99=some (.int .u64 0)/\cZ Aa 99=some false/\tel Aa 99=none/\bX Aa 99=false/\(Ao Aa 99).isSome=true/\jJ Aa 99=some .u64/\tsz Aa 101=some 1/\tby Aa 101=some 4/\tz Aa 101=some (.int .u32 0)/\cZ Aa 101=some false/\tel Aa 101=none/\bX Aa 101=false/\(Ao Aa 101).isSome=true/\jJ Aa 101=some .u32/\tsz Aa 102=some 1:=by and_intros<;>kernel_rfl
@[simp]def cDa:tby Aa 102=some 8/\tz Aa 102=some (.int .u64 0)/\cZ Aa 102=some false/\tel Aa 102=none/\bX Aa 102=false/\(Ao Aa 102).isSome=true/\jJ Aa 102=some .u64/\tsz Aa 104=some 1/\tby Aa 104=some 24/\tz Aa 104=some (.slice none 0 0)/\cZ Aa 104=some false/\tel Aa 104=some 33/\bX Aa 104=false/\(Ao Aa 104).isSome=true/\tsz Aa 105=some 3/\tby Aa 105=some 40/\tz Aa 105=some (.agg #[.int .i64 0,.int .i64 0,.slice none 0 0])/\cZ Aa 105=some true/\tel Aa 105=none/\bX Aa 105=false/\(Ao Aa 105).isSome=true/\gI Aa 105=some [(0,3)]/\tsz Aa 106=some 3/\tby Aa 106=some 40/\tz Aa 106=some (.agg #[.int .i64 0,.int .i64 0,.slice none 0 0])/\cZ Aa 106=some true/\tel Aa 106=none/\bX Aa 106=false/\(Ao Aa 106).isSome=true/\gI Aa 106=some [(0,3)]/\tsz Aa 107=some 1/\tby Aa 107=some 8/\tz Aa 107=some (.agg #[.int .i64 0])/\cZ Aa 107=some true/\tel Aa 107=none/\bX Aa 107=false/\(Ao Aa 107).isSome=true/\gI Aa 107=some [(0,1)]/\tsz Aa 108=some 1/\tby Aa 108=some 8:=by and_intros<;>kernel_rfl
@[simp]def cDt:tz Aa 108=some (.agg #[.int .i64 0])/\cZ Aa 108=some true/\tel Aa 108=none/\bX Aa 108=false/\(Ao Aa 108).isSome=true/\gI Aa 108=some [(0,1)]/\tsz Aa 109=some 2/\tby Aa 109=some 16/\tz Aa 109=some (.agg #[.int .i64 0,.int .i64 0])/\cZ Aa 109=some true/\tel Aa 109=none/\bX Aa 109=false/\(Ao Aa 109).isSome=true/\gI Aa 109=some [(0,1),(1,1)]/\tsz Aa 110=some 2/\tby Aa 110=some 16/\tz Aa 110=some (.agg #[.int .i64 0,.int .i64 0])/\cZ Aa 110=some true/\tel Aa 110=none/\bX Aa 110=false/\(Ao Aa 110).isSome=true/\gI Aa 110=some [(0,1),(1,1)]/\tsz Aa 111=some 2/\tby Aa 111=some 16/\tz Aa 111=some (.agg #[.int .i64 0,.int .i64 0])/\cZ Aa 111=some true/\tel Aa 111=none/\bX Aa 111=false/\(Ao Aa 111).isSome=true/\gI Aa 111=some [(0,1),(1,1)]/\tsz Aa 112=some 2/\tby Aa 112=some 16/\tz Aa 112=some (.agg #[.int .i64 0,.int .i64 0])/\cZ Aa 112=some true/\tel Aa 112=none/\bX Aa 112=false/\(Ao Aa 112).isSome=true/\gI Aa 112=some [(0,1),(1,1)]/\tsz Aa 113=some 3/\tby Aa 113=some 24:=by and_intros<;>kernel_rfl
@[simp]def cDs:tz Aa 113=some (.agg #[.int .i64 0,.int .i64 0,.int .i64 0])/\cZ Aa 113=some true/\tel Aa 113=none/\bX Aa 113=false/\(Ao Aa 113).isSome=true/\gI Aa 113=some [(0,1),(1,2)]/\tsz Aa 114=some 3/\tby Aa 114=some 24/\tz Aa 114=some (.agg #[.int .i64 0,.int .i64 0,.int .i64 0])/\cZ Aa 114=some true/\tel Aa 114=none/\bX Aa 114=false/\(Ao Aa 114).isSome=true/\gI Aa 114=some [(0,1),(1,2)]/\tsz Aa 115=some 0/\tby Aa 115=some 0/\tz Aa 115=some (.agg #[])/\cZ Aa 115=some true/\tel Aa 115=none/\bX Aa 115=false/\(Ao Aa 115).isSome=true/\gI Aa 115=some []/\tsz Aa 116=some 0/\tby Aa 116=some 0/\tz Aa 116=some (.agg #[])/\cZ Aa 116=some true/\tel Aa 116=none/\bX Aa 116=false/\(Ao Aa 116).isSome=true/\gI Aa 116=some []/\tsz Aa 120=some 1/\tby Aa 120=some 24/\tz Aa 120=some (.slice none 0 0)/\cZ Aa 120=some false/\tel Aa 120=some 164/\bX Aa 120=false/\(Ao Aa 120).isSome=true/\tsz Aa 121=some 1/\tby Aa 121=some 24/\tz Aa 121=some (.slice none 0 0):=by and_intros<;>kernel_rfl
@[simp]def cAi:cZ Aa 121=some false/\tel Aa 121=some 164/\bX Aa 121=false/\(Ao Aa 121).isSome=true/\tsz Aa 122=some 3/\tby Aa 122=some 56/\tz Aa 122=some (.agg #[.slice none 0 0,.slice none 0 0,.int .i64 0])/\cZ Aa 122=some true/\tel Aa 122=none/\bX Aa 122=false/\(Ao Aa 122).isSome=true/\gI Aa 122=some [(0,1),(1,1),(2,1)]/\tsz Aa 123=some 3/\tby Aa 123=some 56/\tz Aa 123=some (.agg #[.slice none 0 0,.slice none 0 0,.int .i64 0])/\cZ Aa 123=some true/\tel Aa 123=none/\bX Aa 123=false/\(Ao Aa 123).isSome=true/\gI Aa 123=some [(0,1),(1,1),(2,1)]/\tsz Aa 134=some 1/\tby Aa 134=some 24/\tz Aa 134=some (.slice none 0 0)/\cZ Aa 134=some false/\tel Aa 134=some 140/\bX Aa 134=false/\(Ao Aa 134).isSome=true/\tsz Aa 135=some 3/\tby Aa 135=some 40/\tz Aa 135=some (.agg #[.int .i64 0,.int .i64 0,.slice none 0 0])/\cZ Aa 135=some true/\tel Aa 135=none/\bX Aa 135=false/\(Ao Aa 135).isSome=true/\gI Aa 135=some [(0,1),(1,1),(2,1)]/\tsz Aa 136=some 3/\tby Aa 136=some 40/\tz Aa 136=some (.agg #[.int .i64 0,.int .i64 0,.slice none 0 0])/\cZ Aa 136=some true/\tel Aa 136=none:=by and_intros<;>kernel_rfl
@[simp]def bZw:bX Aa 136=false/\(Ao Aa 136).isSome=true/\gI Aa 136=some [(0,1),(1,1),(2,1)]/\tsz Aa 140=some 1/\tby Aa 140=some 24/\tz Aa 140=some (.slice none 0 0)/\cZ Aa 140=some false/\tel Aa 140=some 72/\bX Aa 140=false/\(Ao Aa 140).isSome=true/\tsz Aa 152=some 9/\tby Aa 152=some 120/\tz Aa 152=some (.agg #[.int .i64 0,.int .i64 0,.slice none 0 0,.int .i64 0,.int .i64 0,.slice none 0 0,.int .i64 0,.int .i64 0,.slice none 0 0])/\cZ Aa 152=some true/\tel Aa 152=none/\bX Aa 152=false/\(Ao Aa 152).isSome=true/\gI Aa 152=some [(0,3),(3,3),(6,3)]/\tsz Aa 153=some 9/\tby Aa 153=some 120/\tz Aa 153=some (.agg #[.int .i64 0,.int .i64 0,.slice none 0 0,.int .i64 0,.int .i64 0,.slice none 0 0,.int .i64 0,.int .i64 0,.slice none 0 0])/\cZ Aa 153=some true/\tel Aa 153=none/\bX Aa 153=false/\(Ao Aa 153).isSome=true/\gI Aa 153=some [(0,3),(3,3),(6,3)]/\tsz Aa 156=some 1/\tby Aa 156=some 24/\tz Aa 156=some (.slice none 0 0)/\cZ Aa 156=some false/\tel Aa 156=some 3/\bX Aa 156=false/\(Ao Aa 156).isSome=true/\tsz Aa 158=some 1/\tby Aa 158=some 24/\tz Aa 158=some (.slice none 0 0)/\cZ Aa 158=some false/\tel Aa 158=some 72/\bX Aa 158=false/\(Ao Aa 158).isSome=true:=by and_intros<;>kernel_rfl
@[simp]def cCz:tsz Aa 163=some 2/\tby Aa 163=some 32/\tz Aa 163=some (.agg #[.int .i64 0,.slice none 0 0])/\cZ Aa 163=some true/\tel Aa 163=none/\bX Aa 163=false/\(Ao Aa 163).isSome=true/\gI Aa 163=some [(0,1),(1,1)]/\tsz Aa 164=some 2/\tby Aa 164=some 32/\tz Aa 164=some (.agg #[.int .i64 0,.slice none 0 0])/\cZ Aa 164=some true/\tel Aa 164=none/\bX Aa 164=false/\(Ao Aa 164).isSome=true/\gI Aa 164=some [(0,1),(1,1)]/\tsz Aa 167=some 9/\tby Aa 167=some 120/\tz Aa 167=some (.agg #[.int .i64 0,.int .i64 0,.slice none 0 0,.int .i64 0,.int .i64 0,.slice none 0 0,.int .i64 0,.int .i64 0,.slice none 0 0])/\cZ Aa 167=some true/\tel Aa 167=none/\bX Aa 167=false/\(Ao Aa 167).isSome=true/\gI Aa 167=some [(0,3),(3,3),(6,3)]/\tsz Aa 168=some 9/\tby Aa 168=some 120/\tz Aa 168=some (.agg #[.int .i64 0,.int .i64 0,.slice none 0 0,.int .i64 0,.int .i64 0,.slice none 0 0,.int .i64 0,.int .i64 0,.slice none 0 0])/\cZ Aa 168=some true/\tel Aa 168=none/\bX Aa 168=false/\(Ao Aa 168).isSome=true/\gI Aa 168=some [(0,3),(3,3),(6,3)]/\tsz Aa 187=some 0/\tby Aa 187=some 0/\tz Aa 187=some (.agg #[])/\cZ Aa 187=some true/\tel Aa 187=none/\bX Aa 187=false/\(Ao Aa 187).isSome=true/\gI Aa 187=none:=by and_intros<;>kernel_rfl
@[simp]def cAg:aAh Aa 187=some (0,16)/\tsz Aa 188=some 0/\tby Aa 188=some 0/\tz Aa 188=some (.agg #[])/\cZ Aa 188=some true/\tel Aa 188=none/\bX Aa 188=false/\(Ao Aa 188).isSome=true/\gI Aa 188=some [(0,0)]/\tsz Aa 189=some 0/\tby Aa 189=some 0/\tz Aa 189=some (.agg #[])/\cZ Aa 189=some true/\tel Aa 189=none/\bX Aa 189=false/\(Ao Aa 189).isSome=true/\gI Aa 189=some [(0,0)]/\tsz Aa 191=some 1/\tby Aa 191=some 1/\tz Aa 191=some (.int .u8 0)/\cZ Aa 191=some false/\tel Aa 191=none/\bX Aa 191=false/\(Ao Aa 191).isSome=true/\jJ Aa 191=some .u8/\tsz Aa 192=some 1/\tby Aa 192=some 1/\tz Aa 192=some (.int .u8 0)/\cZ Aa 192=some false/\tel Aa 192=none/\bX Aa 192=false/\(Ao Aa 192).isSome=true/\jJ Aa 192=some .u8/\tsz Aa 195=some 1/\tby Aa 195=some 4/\tz Aa 195=some (.int .i32 0)/\cZ Aa 195=some false/\tel Aa 195=none/\bX Aa 195=false/\(Ao Aa 195).isSome=true:=by and_intros<;>kernel_rfl
@[simp]def cAe:jJ Aa 195=some .i32/\tsz Aa 196=some 1/\tby Aa 196=some 4/\tz Aa 196=some (.int .i32 0)/\cZ Aa 196=some false/\tel Aa 196=none/\bX Aa 196=false/\(Ao Aa 196).isSome=true/\jJ Aa 196=some .i32/\tsz Aa 208=some 1/\tby Aa 208=some 8/\cZ Aa 208=some false/\tel Aa 208=none/\bX Aa 208=false/\(Ao Aa 208).isSome=true/\tmp Aa 208=some (3,72)/\tsz Aa 223=some 1/\tby Aa 223=some 8/\cZ Aa 223=some false/\tel Aa 223=none/\bX Aa 223=false/\(Ao Aa 223).isSome=true/\tmp Aa 223=some (3,38)/\tsz Aa 225=some 1/\tby Aa 225=some 8/\cZ Aa 225=some false/\tel Aa 225=none/\bX Aa 225=false/\(Ao Aa 225).isSome=true/\tmp Aa 225=some (3,72)/\tsz Aa 239=some 1/\tby Aa 239=some 8/\tz Aa 239=some (.int .i64 0)/\cZ Aa 239=some false/\tel Aa 239=none/\bX Aa 239=false/\(Ao Aa 239).isSome=true/\jJ Aa 239=some .i64/\tsz Aa 248=some 1/\tby Aa 248=some 8:=by and_intros<;>kernel_rfl
@[simp]def cDr:tz Aa 248=some (.int .u64 0)/\cZ Aa 248=some false/\tel Aa 248=none/\bX Aa 248=false/\(Ao Aa 248).isSome=true/\jJ Aa 248=some .u64/\tsz Aa 259=some 1/\tby Aa 259=some 8/\cZ Aa 259=some false/\tel Aa 259=none/\bX Aa 259=false/\(Ao Aa 259).isSome=true/\tmp Aa 259=some (3,3)/\tsz Aa 260=some 1/\tby Aa 260=some 8/\cZ Aa 260=some false/\tel Aa 260=none/\bX Aa 260=false/\(Ao Aa 260).isSome=true/\tmp Aa 260=some (3,4):=by and_intros<;>kernel_rfl
@[simp]def bL:Go.Tables.follows BK.toTables .mixedOrders=true:=by kernel_rfl
def bF {f N:Nat} {fn:Func} {c:Code} {args:List D} {r:D} (hf:BK.funcs[f]? = some fn) (h:AWP BK c (St0 args N) λe σ=>(e=.normal\/e=.ret)/\mU BK fn.results.toList σ=some r) (hb:fn.body=some c:=by exact rfl) (hN:fn.ntmps=N:=by exact rfl) (hname:(fn.name == "runtime.NumGoroutine")=false:=by exact rfl) (hd:dK N c=true:=by kernel_rfl) (hl:eC BK c=true:=by kernel_rfl) (ha:args.length<=N:=by simp):Spec BK f args r:=bPk bL hf hb hname hN hd hl ha h
def qL {f N:Nat} {fn:Func} {g:FuncId} {r0 rd rest:Code} {args:List D} {r:D} (hf:BK.funcs[f]? = some fn) (hrec:gQ BK g) (h:AWP BK r0 (St0 args N) λe σ0=>e=.normal/\AWP BK rest σ0 λe σ=>(e=.normal\/e=.ret)/\mU BK fn.results.toList σ=some r) (hb:fn.body=some (.seq r0 (.seq rd rest)):=by exact rfl) (hN:fn.ntmps=N:=by exact rfl) (hname:(fn.name == "runtime.NumGoroutine")=false:=by exact rfl) (hd0:dK N r0=true:=by kernel_rfl) (hl0:eC BK r0=true:=by kernel_rfl) (hd1:dK N rest=true:=by kernel_rfl) (hl1:eC BK rest=true:=by kernel_rfl) (hg:qJ rd=some g:=by exact rfl) (ha:args.length<=N:=by simp):Spec BK f args r:=bBa bL hf hb hname hN hd0 hl0 hd1 hl1 hg hrec ha h
@[simp]def cEb:bC Aa 0=false/\bB Aa 0=true/\bC Aa 1=false/\bB Aa 1=true/\bC Aa 2=false/\bB Aa 2=true/\bC Aa 3=false/\bB Aa 3=false/\bC Aa 4=false/\bB Aa 4=false/\bC Aa 5=false/\bB Aa 5=false/\bC Aa 6=false/\bB Aa 6=false/\bC Aa 7=false/\bB Aa 7=false/\bC Aa 8=false/\bB Aa 8=false/\bC Aa 9=false/\bB Aa 9=false/\bC Aa 10=false/\bB Aa 10=false/\bC Aa 11=false/\bB Aa 11=false/\bC Aa 12=false/\bB Aa 12=false/\bC Aa 13=false/\bB Aa 13=false/\bC Aa 14=false/\bB Aa 14=false/\bC Aa 15=false/\bB Aa 15=false/\bC Aa 16=false/\bB Aa 16=false/\bC Aa 17=false/\bB Aa 17=false/\bC Aa 18=false/\bB Aa 18=false/\bC Aa 19=false/\bB Aa 19=false:=by and_intros<;>kernel_rfl
@[simp]def cDe:bC Aa 20=false/\bB Aa 20=false/\bC Aa 21=false/\bB Aa 21=false/\bC Aa 22=false/\bB Aa 22=false/\bC Aa 23=false/\bB Aa 23=false/\bC Aa 24=false/\bB Aa 24=false/\bC Aa 25=false/\bB Aa 25=false/\bC Aa 26=false/\bB Aa 26=false/\bC Aa 27=false/\bB Aa 27=false/\bC Aa 28=false/\bB Aa 28=false/\bC Aa 29=false/\bB Aa 29=false/\bC Aa 30=false/\bB Aa 30=false/\bC Aa 31=false/\bB Aa 31=false/\bC Aa 32=false/\bB Aa 32=false/\bC Aa 33=false/\bB Aa 33=true/\bC Aa 34=false/\bB Aa 34=false/\bC Aa 35=false/\bB Aa 35=false/\bC Aa 36=false/\bB Aa 36=false/\bC Aa 37=false/\bB Aa 37=false/\bC Aa 38=false/\bB Aa 38=false/\bC Aa 39=false/\bB Aa 39=false:=by and_intros<;>kernel_rfl
@[simp]def cDd:bC Aa 40=false/\bB Aa 40=true/\bC Aa 41=false/\bB Aa 41=false/\bC Aa 42=false/\bB Aa 42=false/\bC Aa 43=false/\bB Aa 43=false/\bC Aa 44=false/\bB Aa 44=false/\bC Aa 45=false/\bB Aa 45=false/\bC Aa 46=false/\bB Aa 46=true/\bC Aa 47=false/\bB Aa 47=false/\bC Aa 48=false/\bB Aa 48=true/\bC Aa 49=false/\bB Aa 49=true/\bC Aa 50=false/\bB Aa 50=false/\bC Aa 51=false/\bB Aa 51=false/\bC Aa 52=false/\bB Aa 52=false/\bC Aa 53=false/\bB Aa 53=false/\bC Aa 54=false/\bB Aa 54=false/\bC Aa 55=false/\bB Aa 55=false/\bC Aa 56=false/\bB Aa 56=false/\bC Aa 57=false/\bB Aa 57=false/\bC Aa 58=false/\bB Aa 58=false/\bC Aa 59=false/\bB Aa 59=false:=by and_intros<;>kernel_rfl
@[simp]def cDc:bC Aa 60=true/\bB Aa 60=false/\bC Aa 61=false/\bB Aa 61=false/\bC Aa 62=false/\bB Aa 62=false/\bC Aa 63=false/\bB Aa 63=false/\bC Aa 64=false/\bB Aa 64=false/\bC Aa 65=false/\bB Aa 65=false/\bC Aa 66=false/\bB Aa 66=false/\bC Aa 67=false/\bB Aa 67=false/\bC Aa 68=false/\bB Aa 68=false/\bC Aa 69=false/\bB Aa 69=false/\bC Aa 70=false/\bB Aa 70=false/\bC Aa 71=false/\bB Aa 71=false/\bC Aa 72=false/\bB Aa 72=false/\bC Aa 73=false/\bB Aa 73=false/\bC Aa 74=false/\bB Aa 74=false/\bC Aa 75=false/\bB Aa 75=false/\bC Aa 76=false/\bB Aa 76=false/\bC Aa 77=false/\bB Aa 77=false/\bC Aa 78=false/\bB Aa 78=false/\bC Aa 79=false/\bB Aa 79=false:=by and_intros<;>kernel_rfl
@[simp]def cDb:bC Aa 80=false/\bB Aa 80=false/\bC Aa 81=false/\bB Aa 81=false/\bC Aa 82=false/\bB Aa 82=false/\bC Aa 83=false/\bB Aa 83=false/\bC Aa 84=false/\bB Aa 84=false/\bC Aa 85=true/\bB Aa 85=false/\bC Aa 86=false/\bB Aa 86=false/\bC Aa 87=false/\bB Aa 87=false/\bC Aa 88=false/\bB Aa 88=false/\bC Aa 89=false/\bB Aa 89=false/\bC Aa 90=false/\bB Aa 90=false/\bC Aa 91=false/\bB Aa 91=false/\bC Aa 92=false/\bB Aa 92=false/\bC Aa 93=false/\bB Aa 93=false/\bC Aa 94=false/\bB Aa 94=false/\bC Aa 95=false/\bB Aa 95=false/\bC Aa 96=false/\bB Aa 96=false/\bC Aa 97=false/\bB Aa 97=false/\bC Aa 98=false/\bB Aa 98=false/\bC Aa 99=false/\bB Aa 99=false:=by and_intros<;>kernel_rfl
@[simp]def cBd:bC Aa 100=true/\bB Aa 100=false/\bC Aa 101=false/\bB Aa 101=false/\bC Aa 102=false/\bB Aa 102=true/\bC Aa 103=false/\bB Aa 103=true/\bC Aa 104=false/\bB Aa 104=true/\bC Aa 105=false/\bB Aa 105=false/\bC Aa 106=false/\bB Aa 106=false/\bC Aa 107=false/\bB Aa 107=false/\bC Aa 108=true/\bB Aa 108=false/\bC Aa 109=true/\bB Aa 109=false/\bC Aa 110=false/\bB Aa 110=false/\bC Aa 111=false/\bB Aa 111=false/\bC Aa 112=true/\bB Aa 112=false/\bC Aa 113=true/\bB Aa 113=false/\bC Aa 114=false/\bB Aa 114=false/\bC Aa 115=false/\bB Aa 115=false/\bC Aa 116=false/\bB Aa 116=false/\bC Aa 117=false/\bB Aa 117=true/\bC Aa 118=false/\bB Aa 118=false/\bC Aa 119=false/\bB Aa 119=true:=by and_intros<;>kernel_rfl
@[simp]def cBc:bC Aa 120=false/\bB Aa 120=false/\bC Aa 121=false/\bB Aa 121=true/\bC Aa 122=false/\bB Aa 122=false/\bC Aa 123=false/\bB Aa 123=true/\bC Aa 124=false/\bB Aa 124=false/\bC Aa 125=false/\bB Aa 125=true/\bC Aa 126=false/\bB Aa 126=false/\bC Aa 127=false/\bB Aa 127=true/\bC Aa 128=false/\bB Aa 128=false/\bC Aa 129=false/\bB Aa 129=false/\bC Aa 130=false/\bB Aa 130=true/\bC Aa 131=false/\bB Aa 131=false/\bC Aa 132=false/\bB Aa 132=false/\bC Aa 133=false/\bB Aa 133=false/\bC Aa 134=false/\bB Aa 134=false/\bC Aa 135=false/\bB Aa 135=false/\bC Aa 136=false/\bB Aa 136=false/\bC Aa 137=false/\bB Aa 137=false/\bC Aa 138=false/\bB Aa 138=true/\bC Aa 139=true/\bB Aa 139=false:=by and_intros<;>kernel_rfl
@[simp]def cBb:bC Aa 140=false/\bB Aa 140=false/\bC Aa 141=false/\bB Aa 141=false/\bC Aa 142=false/\bB Aa 142=false/\bC Aa 143=false/\bB Aa 143=false/\bC Aa 144=false/\bB Aa 144=false/\bC Aa 145=false/\bB Aa 145=false/\bC Aa 146=false/\bB Aa 146=false/\bC Aa 147=false/\bB Aa 147=false/\bC Aa 148=false/\bB Aa 148=false/\bC Aa 149=false/\bB Aa 149=true/\bC Aa 150=false/\bB Aa 150=false/\bC Aa 151=false/\bB Aa 151=false/\bC Aa 152=false/\bB Aa 152=false/\bC Aa 153=false/\bB Aa 153=false/\bC Aa 154=false/\bB Aa 154=false/\bC Aa 155=false/\bB Aa 155=false/\bC Aa 156=false/\bB Aa 156=false/\bC Aa 157=false/\bB Aa 157=true/\bC Aa 158=false/\bB Aa 158=false/\bC Aa 159=false/\bB Aa 159=true:=by and_intros<;>kernel_rfl
@[simp]def cBa:bC Aa 160=false/\bB Aa 160=false/\bC Aa 161=false/\bB Aa 161=false/\bC Aa 162=false/\bB Aa 162=false/\bC Aa 163=false/\bB Aa 163=true/\bC Aa 164=false/\bB Aa 164=false/\bC Aa 165=false/\bB Aa 165=false/\bC Aa 166=false/\bB Aa 166=true/\bC Aa 167=false/\bB Aa 167=false/\bC Aa 168=false/\bB Aa 168=false/\bC Aa 169=false/\bB Aa 169=false/\bC Aa 170=false/\bB Aa 170=false/\bC Aa 171=false/\bB Aa 171=false/\bC Aa 172=false/\bB Aa 172=false/\bC Aa 173=false/\bB Aa 173=true/\bC Aa 174=false/\bB Aa 174=true/\bC Aa 175=false/\bB Aa 175=true/\bC Aa 176=false/\bB Aa 176=false/\bC Aa 177=false/\bB Aa 177=false/\bC Aa 178=false/\bB Aa 178=true/\bC Aa 179=false/\bB Aa 179=false:=by and_intros<;>kernel_rfl
@[simp]def cAz:bC Aa 180=false/\bB Aa 180=false/\bC Aa 181=false/\bB Aa 181=false/\bC Aa 182=false/\bB Aa 182=true/\bC Aa 183=false/\bB Aa 183=true/\bC Aa 184=false/\bB Aa 184=false/\bC Aa 185=false/\bB Aa 185=true/\bC Aa 186=false/\bB Aa 186=false/\bC Aa 187=false/\bB Aa 187=true/\bC Aa 188=false/\bB Aa 188=true/\bC Aa 189=false/\bB Aa 189=true/\bC Aa 190=false/\bB Aa 190=false/\bC Aa 191=false/\bB Aa 191=true/\bC Aa 192=false/\bB Aa 192=false/\bC Aa 193=false/\bB Aa 193=false/\bC Aa 194=false/\bB Aa 194=false/\bC Aa 195=false/\bB Aa 195=false/\bC Aa 196=false/\bB Aa 196=false/\bC Aa 197=false/\bB Aa 197=false/\bC Aa 198=false/\bB Aa 198=true/\bC Aa 199=false/\bB Aa 199=false:=by and_intros<;>kernel_rfl
@[simp]def cAy:bC Aa 200=false/\bB Aa 200=false/\bC Aa 201=false/\bB Aa 201=false/\bC Aa 202=false/\bB Aa 202=false/\bC Aa 203=false/\bB Aa 203=false/\bC Aa 204=false/\bB Aa 204=false/\bC Aa 205=false/\bB Aa 205=false/\bC Aa 206=false/\bB Aa 206=true/\bC Aa 207=false/\bB Aa 207=false/\bC Aa 208=false/\bB Aa 208=false/\bC Aa 209=false/\bB Aa 209=false/\bC Aa 210=false/\bB Aa 210=false/\bC Aa 211=false/\bB Aa 211=true/\bC Aa 212=false/\bB Aa 212=false/\bC Aa 213=false/\bB Aa 213=false/\bC Aa 214=false/\bB Aa 214=false/\bC Aa 215=false/\bB Aa 215=true/\bC Aa 216=true/\bB Aa 216=false/\bC Aa 217=false/\bB Aa 217=true/\bC Aa 218=false/\bB Aa 218=false/\bC Aa 219=false/\bB Aa 219=false:=by and_intros<;>kernel_rfl
@[simp]def cAx:bC Aa 220=false/\bB Aa 220=true/\bC Aa 221=false/\bB Aa 221=true/\bC Aa 222=false/\bB Aa 222=true/\bC Aa 223=false/\bB Aa 223=true/\bC Aa 224=false/\bB Aa 224=true/\bC Aa 225=false/\bB Aa 225=false/\bC Aa 226=false/\bB Aa 226=true/\bC Aa 227=false/\bB Aa 227=false/\bC Aa 228=false/\bB Aa 228=false/\bC Aa 229=false/\bB Aa 229=false/\bC Aa 230=false/\bB Aa 230=true/\bC Aa 231=false/\bB Aa 231=false/\bC Aa 232=false/\bB Aa 232=false/\bC Aa 233=false/\bB Aa 233=false/\bC Aa 234=false/\bB Aa 234=false/\bC Aa 235=false/\bB Aa 235=false:=by and_intros<;>kernel_rfl
end Go.Am
end
section
open List renaming map_map->C,mapM_map->I
namespace Go.Proofs
open Go.RowKit Go.Maps Go.Sort Go.Shelf
def Tryz.keysB_ren:FU:=⟨λ|7=>178|10=>183|n=>n,λ|23=>225|26=>3|3=>72|28=>231|0=>0|27=>230|33=>211|4=>4|n=>n,λ|n=>n⟩
def Tryz.keysB:Go.Proofs.SlLaysZI.n7 Aa Tryz.keysB_ren:={
 mixed:=by kernel_rfl,
 f7:=⟨Tryz.f178.name,by decide,Tryz.func178.trans (congrArg some (by kernel_rfl))⟩,
 f10:=⟨Tryz.f183.name,by decide,Tryz.func183.trans (congrArg some (by kernel_rfl))⟩,
 t0:=Fp,
 a0:=Tryz.isAgg0,
 z0:=Tryz.sizeOf0,
 v0:=FH,
 t4:=EP,
 a4:=Tryz.isAgg4,
 z4:=Tryz.sizeOf4,
 v4:=FI,
 t23:=Tryz.underlying225,
 a23:=Tryz.isAgg225,
 z23:=Tryz.sizeOf225,
 v23:=Tryz.zeroValue225,
 t26:=DR,
 a26:=E9,
 z26:=ER,
 v26:=D6,
 t27:=Tryz.underlying230,
 a27:=Tryz.isAgg230,
 z27:=Tryz.sizeOf230,
 v27:=Tryz.zeroValue230,
 t28:=Tryz.underlying231,
 a28:=Tryz.isAgg231,
 z28:=Tryz.sizeOf231,
 v28:=Tryz.zeroValue231,
 t33:=Tryz.underlying211,
 a33:=Tryz.isAgg211,
 z33:=Tryz.sizeOf211,
 v33:=Tryz.zeroValue211 }
def Tryz.sortedA_ren:FU:=⟨λ|6=>177|8=>181|9=>182|11=>184|13=>186|12=>185|23=>196|24=>197|14=>187|15=>188|16=>189|17=>190|18=>191|19=>192|20=>193|21=>194|22=>195|25=>198|26=>199|27=>200|28=>201|29=>202|30=>150|31=>203|n=>n,λ|26=>3|28=>231|24=>156|0=>0|3=>3|37=>102|48=>101|50=>99|4=>4|40=>240|39=>239|45=>199|5=>5|9=>9|51=>248|55=>252|57=>254|58=>255|33=>211|n=>n,λ|n=>n⟩
def Tryz.sortedA:Go.Proofs.SlLaysZI.n6 Aa Tryz.sortedA_ren:={
 mixed:=by kernel_rfl,
 f6:=⟨Tryz.f177.name,by decide,Tryz.func177.trans (congrArg some (by kernel_rfl))⟩,
 f8:=⟨Tryz.f181.name,by decide,Tryz.func181.trans (congrArg some (by kernel_rfl))⟩,
 f11:=⟨Tryz.f184.name,by decide,Tryz.func184.trans (congrArg some (by kernel_rfl))⟩,
 t0:=Fp,
 a0:=Tryz.isAgg0,
 z0:=Tryz.sizeOf0,
 v0:=FH,
 t24:=FW,
 a24:=Tryz.isAgg156,
 z24:=Tryz.sizeOf156,
 v24:=Gd,
 t26:=DR,
 a26:=E9,
 z26:=ER,
 v26:=D6,
 t28:=Tryz.underlying231,
 a28:=Tryz.isAgg231,
 z28:=Tryz.sizeOf231,
 v28:=Tryz.zeroValue231,
 i26:=by kernel_rfl }
def Tryz.sortA_ren:FU:=⟨λ|5=>182|8=>186|7=>185|19=>196|20=>197|10=>187|11=>188|12=>189|13=>190|14=>191|15=>192|16=>193|17=>194|18=>195|30=>198|31=>199|32=>200|33=>201|34=>202|35=>150|40=>203|n=>n,λ|23=>156|25=>3|3=>3|32=>102|22=>156|0=>0|44=>101|46=>99|4=>4|36=>240|35=>239|41=>199|5=>5|9=>9|53=>248|57=>252|63=>254|64=>255|n=>n,λ|n=>n⟩
def Tryz.sortA:Go.Proofs.SlLaysM.n5 Aa Tryz.sortA_ren:={
 mixed:=by kernel_rfl,
 f5:=⟨Tryz.f182.name,by decide,Tryz.func182.trans (congrArg some (by kernel_rfl))⟩,
 f7:=⟨Tryz.f185.name,by decide,Tryz.func185.trans (congrArg some (by kernel_rfl))⟩,
 f8:=Tryz.func186.trans (congrArg some (by kernel_rfl)),
 f10:=⟨Tryz.f187.name,by decide,Tryz.func187.trans (congrArg some (by kernel_rfl))⟩,
 f11:=⟨Tryz.f188.name,by decide,Tryz.func188.trans (congrArg some (by kernel_rfl))⟩,
 f12:=⟨Tryz.f189.name,by decide,Tryz.func189.trans (congrArg some (by kernel_rfl))⟩,
 f13:=⟨Tryz.f190.name,by decide,Tryz.func190.trans (congrArg some (by kernel_rfl))⟩,
 f14:=⟨Tryz.f191.name,by decide,Tryz.func191.trans (congrArg some (by kernel_rfl))⟩,
 f15:=⟨Tryz.f192.name,by decide,Tryz.func192.trans (congrArg some (by kernel_rfl))⟩,
 f16:=⟨Tryz.f193.name,by decide,Tryz.func193.trans (congrArg some (by kernel_rfl))⟩,
 f17:=⟨Tryz.f194.name,by decide,Tryz.func194.trans (congrArg some (by kernel_rfl))⟩,
 f18:=⟨Tryz.f195.name,by decide,Tryz.func195.trans (congrArg some (by kernel_rfl))⟩,
 f19:=Tryz.func196.trans (congrArg some (by kernel_rfl)),
 f20:=Tryz.func197.trans (congrArg some (by kernel_rfl)),
 f30:=⟨Tryz.f198.name,by decide,Tryz.func198.trans (congrArg some (by kernel_rfl))⟩,
 f31:=Tryz.func199.trans (congrArg some (by kernel_rfl)),
 f32:=Tryz.func200.trans (congrArg some (by kernel_rfl)),
 f33:=⟨Tryz.f201.name,by decide,Tryz.func201.trans (congrArg some (by kernel_rfl))⟩,
 f34:=⟨Tryz.f202.name,by decide,Tryz.func202.trans (congrArg some (by kernel_rfl))⟩,
 f35:=⟨Tryz.f150.name,by decide,Tryz.func150.trans (congrArg some (by kernel_rfl))⟩,
 f40:=⟨Tryz.f203.name,by decide,Tryz.func203.trans (congrArg some (by kernel_rfl))⟩,
 t0:=Fp,
 a0:=Tryz.isAgg0,
 z0:=Tryz.sizeOf0,
 v0:=FH,
 t3:=DR,
 a3:=E9,
 z3:=ER,
 v3:=D6,
 t4:=EP,
 a4:=Tryz.isAgg4,
 z4:=Tryz.sizeOf4,
 v4:=FI,
 t5:=Tryz.underlying5,
 a5:=Tryz.isAgg5,
 z5:=Tryz.sizeOf5,
 v5:=Tryz.zeroValue5,
 t9:=Tryz.underlying9,
 a9:=Tryz.isAgg9,
 z9:=Tryz.sizeOf9,
 v9:=Tryz.zeroValue9,
 t22:=FW,
 a22:=Tryz.isAgg156,
 z22:=Tryz.sizeOf156,
 v22:=Gd,
 t23:=FW,
 a23:=Tryz.isAgg156,
 z23:=Tryz.sizeOf156,
 v23:=Gd,
 t25:=DR,
 a25:=E9,
 z25:=ER,
 v25:=D6,
 t32:=Tryz.underlying102,
 a32:=Tryz.isAgg102,
 z32:=Tryz.sizeOf102,
 v32:=Tryz.zeroValue102,
 t35:=Tryz.underlying239,
 a35:=Tryz.isAgg239,
 z35:=Tryz.sizeOf239,
 v35:=Tryz.zeroValue239,
 t36:=Tryz.underlying240,
 a36:=Tryz.isAgg240,
 z36:=Tryz.sizeOf240,
 v36:=Tryz.zeroValue240,
 t41:=Tryz.underlying199,
 a41:=Tryz.isAgg199,
 z41:=Tryz.sizeOf199,
 v41:=Tryz.zeroValue199,
 t44:=Tryz.underlying101,
 a44:=Tryz.isAgg101,
 z44:=Tryz.sizeOf101,
 v44:=Tryz.zeroValue101,
 t46:=Tryz.underlying99,
 a46:=Tryz.isAgg99,
 z46:=Tryz.sizeOf99,
 v46:=Tryz.zeroValue99,
 t53:=Tryz.underlying248,
 a53:=Tryz.isAgg248,
 z53:=Tryz.sizeOf248,
 v53:=Tryz.zeroValue248,
 t57:=Tryz.underlying252,
 a57:=Tryz.isAgg252,
 z57:=Tryz.sizeOf252,
 v57:=Tryz.zeroValue252,
 t63:=Tryz.underlying254,
 a63:=Tryz.isAgg254,
 z63:=Tryz.sizeOf254,
 v63:=Tryz.zeroValue254,
 t64:=Tryz.underlying255,
 a64:=Tryz.isAgg255,
 z64:=Tryz.sizeOf255,
 v64:=Tryz.zeroValue255 }
def Tryz.sortsA(m:Nat):AnyZI.SortsIn Aa Tryz.sortedA_ren DI m :=
 ⟨λblk off cap ss W hH hblk hsz=>callsIn_wide.2 (AnyM.slices_Sort_int Tryz.sortA blk off cap ss W hH hblk hsz),
 λp cap W=>callsIn_wide.2 (AnyM.slices_Sort_int_none Tryz.sortA p cap W)⟩
def Tryz.keys106:Am.uV Aa 178 183:=λW b =>
 ⟨λw=>enters_of Tryz.func178 (by kernel_rfl) rfl _ w,(callsIn_wide (n:=5)).1 ((AnyZI.keys_in Tryz.keysB DI 5 trivial rfl (some b) W).mono (by rintro e w' ⟨rfl,rfl⟩;exact⟨_,rfl,rfl⟩))⟩
def isort_perm:∀l:List Int,(Am.gZ l).Perm l
 |[]=>.nil
 |n::l=>by
  have h1:∀(m:List Int),(Am.ins n m).Perm (n::m):=by
   intro m;induction m with
   |nil=>exact .refl _
   |cons x m ih =>
    unfold Am.ins;split
    ·exact .refl _
    ·exact(ih.cons x).trans (.swap n x m)
  exact(h1 _).trans ((isort_perm l).cons n)
def isort_sorted:∀l:List Int,(Am.gZ l).Pairwise (λa b=>a<=b)
 |[]=>.nil
 |n::l=>by
  have h1:∀(m:List Int),m.Pairwise (λa b=>a<=b)->(Am.ins n m).Pairwise (λa b=>a<=b):=by
   intro m;induction m with
   |nil=>intro _;simp[Am.ins]
   |cons x m ih =>
    intro h;unfold Am.ins;have h':=Bj.1 h;split
    ·rename_i hx;exact Bj.2 ⟨λa ha=>by
      rcases AG.1 ha with rfl|ha
      ·exact hx
      ·exact Int.le_trans hx (h'.1 a ha),h⟩
    ·rename_i hx;refine Bj.2 ⟨λa ha=>?_,ih h'.2⟩;have hp:(Am.ins n m).Perm (n::m):=by
      clear ih h h' ha;induction m with
      |nil=>exact .refl _
      |cons y m ih =>
       unfold Am.ins;split
       ·exact .refl _
       ·exact(ih.cons y).trans (.swap n y m)
     rcases AG.1 (hp.mem_iff.1 ha)with rfl|ha
     ·omega
     ·exact h'.1 a ha
  exact h1 _ (isort_sorted l)
def aCm(ss ks:List Int)(h:ss.Perm ks):ss.mergeSort (λx y=>decide (x<=y))=Am.gZ ks:=by
 have tr:∀a b c:Int,decide (a<=b)=true->decide (b<=c)=true->decide (a<=c)=true:=λa b c h1 h2=>by simp only[AI]at *;exact Int.le_trans h1 h2
 have to:∀a b:Int,(decide (a<=b)||decide (b<=a))=true:=λa b=>by simp only[CG,AI];exact Int.le_total a b
 refine List.Perm.eq_of_pairwise (le:=λa b=>decide (a<=b)=true) (λa b _ _ h1 h2=>?_) (List.pairwise_mergeSort tr to ss) ((isort_sorted ks).imp λh=>by simpa using h) (((List.mergeSort_perm ss _).trans h).trans (isort_perm ks).symm);simp only[AI]at h1 h2;exact Int.le_antisymm h1 h2
def bKa{P:Program}{k:TypeId}(hk:P.underlying k=some (.int .i64)){n:Int}(hn:Am.inr n=true):keyOf P k (.int .i64 n)=some (.int .i64 n):=by
 have hw:(Lit.int .i64 n).wf=true:=by have hmin:Ag.min=-9223372036854775808:=rfl;have hmax:Ag.max=9223372036854775807:=rfl;simp only[Am.inr,AI]at hn;simp only[Lit.wf,AO,AI];omega
 simp[keyOf,hk,mapKey,hw]
def aPc(f g:FuncId)(T3:TypeId)(hk3:Aa.underlying T3=some (.int .i64))(hent:∀args w,(callFunc f args).run Aa w=.ok (.enter f args) w)
  (hS:∀(lb:Array Value) (S:List Int->Prop) (N:Nat),N<=maxLen->N*8<=140737488355328->∀w,SeqGives DI 2 Aa g lb encZ S N w->CallsIn DI 5 Aa f #[.func (.func g) #[] lb] w λe w' =>
   ∃v ss,e=.returned v/\S ss/\w'.ownsRow w.heap.size T3 1 v ss.length ((ss.mergeSort λx y=>decide (x<=y)).map encZ)/\(v=.slice none 0 0↔ss=[])/\Below w.heap.size w w')
  (hG:∀(Bm b nn:Nat) (D0:DataW Unit) (R:Value->Option (DataW Unit×List MemPlace)) (w:World),Bm<w.heap.size->w.cell? ⟨Bm,0,none⟩=some (.map (some b))->w.ownsMap Aa T3 R b nn D0 ->
   SeqGives DI 2 Aa g #[.pointer (some ⟨Bm,0,none⟩)] encZ (λss=>ss.Perm (intKeys D0)) (Maps.size D0) w):Am.mZ Aa f g:=by
 intro W b p e ks ents clock hb hst hkeys hp hlen hr
 refine⟨λw=>hent _ w,(callsIn_wide (n:=5)).1 ?_⟩
 have hpl:p<W.heap.size:=(BT.1 hp).1
 have hcell:W.cell? ⟨p,0,none⟩=some (.map (some b)):=by rw[show W.cell? ⟨p,0,none⟩=(#[Value.map (some b)]:Array Value)[0]? from cell_of_row W p 0 _ e (0,0) hp];rfl
 have hsz:ents.size=ks.length:=by have:=congrArg List.length hkeys;simpa using this
 let R:Value->Option (DataW Unit×List MemPlace):=λ_=>some (.nil,[])
 have hrd:∀x∈ents.toList,∃n,n∈ks/\x.key=.int .i64 n/\WideElems.rd Aa T3 R x=some (.int .i64 n,.nil):=by
  intro x hx;have:x.key∈ks.map (.int .i64 ·):=by rw[<-hkeys];exact FQ hx
  obtain⟨n,hn,he⟩:=AA.1 this;refine⟨n,hn,he.symm,?_⟩;simp[WideElems.rd,<-he,bKa hk3 (Ay.1 hr n hn),R]
 have hfit:WideElems.Fit Aa T3 R ents clock:=⟨by rw[hsz];simp only[maxLen];omega,hst,λx hx=>let ⟨n,_,_,h⟩:=hrd x hx;⟨_,h⟩⟩
 have hks2:∀(l:List MapEntry) (k:List Int),l.map (·.key)=k.map (.int .i64 ·)->(∀x∈l,∃n,n∈ks/\x.key=.int .i64 n/\WideElems.rd Aa T3 R x=some (.int .i64 n,.nil))->(l.map (ES Aa T3 R)).map (λq=>Go.intOf q.1)=k:=by
  intro l;induction l with
  |nil=>intro k hk _;cases k with
   |nil=>rfl
   |cons=>simp at hk
  |cons x l ih =>
   intro k hk h;cases k with
   |nil=>simp at hk
   |cons m k =>
    simp only[A0,List.cons.injEq]at hk ⊢;refine⟨?_,ih k hk.2 λy hy=>h y (As _ hy)⟩;obtain⟨n,_,hxn,hxr⟩:=h x (Av ..);rw[hxn]at hk;have:=hk.1;injection this with _ this
    simp[ES,hxr,Go.intOf,this]
 have hD:(intKeys (.map ((ents.toList.map (ES Aa T3 R)).foldr DataW.insert []))).Perm ks:=by show(((ents.toList.map (ES Aa T3 R)).foldr DataW.insert []).map λq=>Go.intOf q.1).Perm ks;have h1:=(WideShapes.sorted_perm (ents.toList.map (ES Aa T3 R))).map (λq:Lit×DataW Unit=>Go.intOf q.1);rwa [hks2 _ ks hkeys hrd]at h1
 have hN:Maps.size (.map ((ents.toList.map (ES Aa T3 R)).foldr DataW.insert []):DataW Unit)=ks.length:=by have:=hD.length_eq;simpa[intKeys,Maps.size]using this
 have hseq:=hG p b ents.size (.map ((ents.toList.map (ES Aa T3 R)).foldr DataW.insert [])) R W hpl hcell ⟨ents,clock,hb,hfit,Ap _,rfl⟩
 rw[hN]at hseq
 refine(hS _ _ _ (by simp only[maxLen];omega) (by omega) W hseq).mono ?_
 rintro e' w' ⟨v,ss,rfl,hperm,hrow,hnil,hbl⟩
 refine⟨v,rfl,hbl,?_⟩
 rw[aCm ss ks (hperm.trans hD)]at hrow
 have hssl:ss.length=ks.length:=(hperm.trans hD).length_eq
 obtain⟨hl,⟨rfl,h0⟩|⟨gg,cap,cur,rfl,hg,hheap,h1,h2,h3,h4⟩⟩:=hrow
 ·have:Am.gZ ks=[]:=by apply AE;simp at hl;omega
  rw[this]
  exact .sl0 _ _
 ·have hil:(Am.gZ ks).length=ss.length:=by simpa using hl
  refine .sl _ ⟨gg,0,none⟩ _ _ 1 (λj=>.int .i64 ((Am.gZ ks).getD j 0)) (by simp[hil]) h1 (λcs hcs=>by obtain⟨n,_,rfl⟩:=AA.1 hcs;rfl) ⟨hg,(BT.1 hheap).1⟩ (λj hj=>?_) (λj k cs c hj hk=>?_)
  ·rw[Am.oF,cell_of_row w' gg _ cur T3 (0,0) hheap,A5]
   have:cur.toList[j]? = ((Am.gZ ks).map encZ)[j]? := by rw[<-h4,List.getElem?_take,Ae (by omega)]
   rw[<-Array.getElem?_toList,this,Aw]
   have hj2:j<(Am.gZ ks).length:=by omega
   simp[Ab hj2,Af]
  ·rw[Aw]at hj
   obtain⟨n,hn,rfl⟩:=Aj.1 hj
   rcases k with _|k
   ·simp at hk;subst hk
    simp only[DP,B9,Af,hn,Bc]
    exact .i _ _
   ·simp at hk
def Tryz.sorted122:Am.mZ Aa 177 183 :=
 aPc 177 183 3 (by kernel_rfl) (λargs w=>enters_of Tryz.func177 (by kernel_rfl) rfl args w)
  (λlb S N h1 h2 w hs=>AnyZI.sorted_in Tryz.sortedA DI 5 trivial trivial trivial trivial rfl (by omega) (Tryz.sortsA _) (enters_of Tryz.func182 (by kernel_rfl) rfl) 183 lb trivial (enters_of Tryz.func183 (by kernel_rfl) rfl) S N h1 h2 w hs)
  (λBm b nn D0 R w h1 h2 h3=>AnyZI.keys_gives (ρ:=Tryz.keysB_ren) { Tryz.keysB with } DI _ trivial rfl (by omega) Bm b nn D0 w h1 h2 h3)
end Go.Proofs
end
section
open List renaming map_map->C,mapM_map->I
open Go Go.Am Go.Proofs
namespace Go.Am
def aEr {P:Program} {g:FuncId} {fn:Func} {id:Nat} {ty:TypeId} {pos:String} {after:Array Edge} (hf:P.funcs[g]? = some fn) (hn:(fn.name == "runtime.NumGoroutine")=false) (hb:fn.body=some (.region id #[⟨some 0,.call ⟨.builtin .recover,#[],#[]⟩,ty,pos,after,none⟩] false)) (ht:fn.ntmps=1) (hr:fn.results=#[]):gQ P g:=by
 refine⟨λw=>enters_of hf hn hb _ w,λw=>?_⟩;refine callsD_of_wpS hf hb λc₀ cs hu=>?_
 apply wpS_region;simp[wpOpsS,go_sem,recoverD,hu,ht,bodyPostS,results,hr];cases c₀;simp only at hu;subst hu;rfl
def bUi(els:List (List D)):Bool:=els.all (λcs=>match cs with|[d]=>one (.d d)|_=>false)&&decide (els.length<=1099511627776)
def aKk(els:List (List D))(h:bUi els=true):Spec Aa 179 [.sl els] (.sl els):=by
 have hone:∀els:List (List D),els.all (λcs=>match cs with|[d]=>one (.d d)|_=>false)=true->(els.flatten.map AV.d).all one=true/\els.flatten.length=els.length/\fB 1 els=true /\
   chunk 1 els.length els.flatten=els:=by
  intro els h
  have key:∃ds:List D,els=ds.map (λd=>[d])/\(ds.map AV.d).all one=true:=by
   induction els with
   |nil=>exact⟨[],rfl,rfl⟩
   |cons c l ih =>
    simp only[Ec,AO]at h;obtain⟨ds,hds,hd1⟩:=ih h.2;have h1:=h.1;split at h1
    ·rename_i d;exact⟨d::ds,by rw[hds];rfl,by simp only[A0,Ec,AO];exact⟨h1,hd1⟩⟩
    ·cases h1
  obtain⟨ds,rfl,hd1⟩:=key
  have hfl:(ds.map (λd=>[d])).flatten=ds:=by simp[<-List.flatMap_def]
  rw[hfl]
  refine⟨hd1,by simp,by cases ds<;>simp[fB],?_⟩
  simp only[chunk,AL]
  refine ET (by simp) λi h1 h2=>?_
  simp at h1 h2
  simp[List.take_one,List.head?_drop,h1]
 simp only[bUi,AO,AI]at h;obtain⟨q1,q2,q3,q4⟩:=hone els h.1;refine bF (N:=8) Tryz.func179 ?_;show AWP Aa (.seq _ (.seq (.seq _ (.cond _ _ _)) (.seq (.region _ _ _) _))) _ _;have hb:∀b,qR (.d (.sl els))=some b->b=none/\els=[]\/b=some false:=by
  intro b hb;cases els with
  |nil=>simp[qR]at hb;exact .inl ⟨hb.symm,rfl⟩
  |cons=>simp[qR]at hb;exact .inr hb.symm
 have hl:els.length<=1099511627776:=h.2;have e1:(els.flatten.map AV.d).length=els.length:=by rw[AL];exact q2
 cases els with
 |nil =>
  simp[AWP,OW,O1,eY,kind,nev,oev,St0,cv,cv1,bS,upd,jE,cnt,fin,Γ0,aRd,eO,qR,bCo,aO,aCo,aAn,fB,nU,mU,nO,fW,Tryz.f179,Option.bind,kill,chunk,EG,CE,lI,tN,fV,fG,maxLen,frz]
 |cons x l =>
  generalize hE:x::l=els at *;have hn:qR (.d (.sl els))=some (some false):=by rw[<-hE];rfl
  have m1:∀(H:Hp) n,(els.flatten.map AV.d).mapM (frz H (n+1))=some els.flatten:=λH n=>lX H n _
  have m2:∀l,(els.flatten.map AV.d).map (fV l)=els.flatten.map AV.d:=λl=>vG l _
  have hsrc:∀H,aAn H 1 (.d (.sl els))=some (els.length,els.flatten.map AV.d):=λH=>by simp only[aAn];rw[Ae ⟨q3,q1⟩]
  generalize els.flatten.map AV.d=cs at *;generalize els.flatten=fl at *;have m3:cs.map (λx=>fV [1] x)=cs:=m2 [1];have p1:els.length*4<=140737488355328:=by omega
  have p2:els.length<=9223372036854775807:=by omega
  have e2:cs.take els.length=cs:=by rw[<-e1];exact List.take_length
  simp[AWP,OW,O1,eY,kind,nev,oev,St0,cv,cv1,bS,upd,jE,cnt,fin,Γ0,aRd,eO,hn,bCo,aO,aCo,hsrc,nU,mU,nO,fW,Tryz.f179,kill,EG,CE,lI,tN,maxLen,p1,p2];simp[fV,jA,fG,e1,e2,m2,m1,q4]
def bHi:gQ Aa 173:=aEr Tryz.func173 (by kernel_rfl) rfl rfl rfl
def bHh:gQ Aa 221:=aEr Tryz.func221 (by kernel_rfl) rfl rfl rfl
def E0:Kn where
 call:=λf ds=>if f=179 then(match ds with|[.sl els]=>if bUi els then some (.sl els)else none|_=>none)else none
 ocall:=λ_ _ _ _=>none
 keys:=λf=>if f=178 then some 183 else none
 sorted:=λf g=>f==177&&g==183
 recs:=λg=>[
  173,
  221,
  ].contains g
def bWf:aTr Aa E0:=by
 refine⟨λf ds r h=>?_,λf h o ds o' r h'=>(by cases h'),λf g h=>?_,λf g h=>?_,λg h=>?_⟩
 ·simp only[E0]at h;split at h
  ·rename_i hf;subst hf;split at h
   ·split at h
    ·rename_i hc;injection h with h;subst h;exact aKk _ hc
    ·cases h
   ·cases h
  ·cases h
 ·simp only[E0]at h;split at h
  ·rename_i hf;subst hf;injection h with h;subst h;exact Tryz.keys106
  ·cases h
 ·simp only[E0,AO,beq_iff_eq]at h;obtain⟨rfl,rfl⟩:=h;exact Tryz.sorted122
 ·simp only[E0,List.contains_eq_mem,AI]at h;simp only[AG,List.not_mem_nil,Ex]at h;rcases h with rfl|rfl|rfl|rfl|rfl|rfl|rfl|rfl
  ·exact bHi
  ·exact bHh
end Go.Am
end
section
open List renaming map_map->C,mapM_map->I
namespace Go.Am
attribute [simp] bUc bMe cBq aWu bP bDp bYe bCo qR St0 bJr bHf bSh bPz bKw bDh fW aWy aTh bSa sO bUk bUj aVn bSn bSm bJs
 bJw bJt qV vA aOj bOy bWn aLh bFf aXr aEa List.flatMap_nil vG bSb aRm aZc bJi nG aRa bMl bUl bRk bCm bRj bIv bXw bIt bQs aHu
 aMh bIu bRi aVc aMj aMi aVb bIq bXv aRn bJc bYb bXz bXu bXt bIs aVa aUv cCv cCx bZu cCw aLq bGc nL aHa gM cAt cAu
 bRd bRe cCf cCg bUb bEc bUn bUo bMo bXn bXo bRa bXm bXl bQy bQx bQw bQv bXi bXk bXj bEh bEg aWp aWn aWm aWl bEd
 bEf bEi aWr bUw bNs bPf bFl bKk bEk bCg bCf bJp bSk bJo bJn aWa bDr aVq bDf aVp aVr bDg bZq bNd bMr
 bMx bMv bMu bNc bMw bMy bMz bNa bNb bMt bMs bEm bPd bPe bCp bIy bYl bYk bSw bSz cBs cBr bYh bYj bYg bPn bBg bGj
 bBh bBf bBe bGl bGm bGo bGp bGk bGq aUp bBi aUq aUo aUn aPg bFv bFw bPj bFu aLn aUy aQn bNo bIc bUt
 bCd bCe bNn bNm bCy bDa bJh aUg bAz bHe bBo qZ bJy bJx bEr bEq bMi bMh bBy bBz dU bDq aVz aVy
 aUl bBc aLd bWj tU yG jA bLj bTe bYp bYq nB dY aEp aIn aOt aOs aUc bPh bWu fM jB kK bFs bPi aSz
 aNe
def KW:type_of% (AR @aTc (AR @aCh (AR @bAh (AR @aKs (AR @aTd (AR @bAi (AR @aKq (AR @aKo (AR @aKr (AR @aKp (AR @qF (AR @aQj (AR @aQi (AR @aYr (AR @aBy (AR @aJk (AR @aYq (AR @aQz (AR @bIo (AR @aQx (AR @wX (AR @yQ (AR @aFa (AR @aQy (AR @aYp (AR @aFc (AR @yS (AR @aQu (AR @yR (AR @aFb (AR @aQt (AR @bIn (AR @aYt (AR @bIm (AR @bIl (AR @aYs (AR @aJg (AR @aQs (AR @yP (AR @aJi (AR @aJl (AR @aJj (@aYu))))))))))))))))))))))))))))))))))))))))))) :=
 AR @aTc (AR @aCh (AR @bAh (AR @aKs (AR @aTd (AR @bAi (AR @aKq (AR @aKo (AR @aKr (AR @aKp (AR @qF (AR @aQj (AR @aQi (AR @aYr (AR @aBy (AR @aJk (AR @aYq (AR @aQz (AR @bIo (AR @aQx (AR @wX (AR @yQ (AR @aFa (AR @aQy (AR @aYp (AR @aFc (AR @yS (AR @aQu (AR @yR (AR @aFb (AR @aQt (AR @bIn (AR @aYt (AR @bIm (AR @bIl (AR @aYs (AR @aJg (AR @aQs (AR @yP (AR @aJi (AR @aJl (AR @aJj (@aYu))))))))))))))))))))))))))))))))))))))))))
end Go.Am
end
section
open List renaming map_map->C,mapM_map->I
namespace Go.Am
open RowKit (Below)
def OA(P:Program)(ops:Array Oper)(k:St->Prop):Nat->Array Bool->St->Prop
 |0,listed,σ=>BS .any ops listed=[]/\k σ
 |fuel+1,listed,σ=>(BS .any ops listed=[]->k σ)/\∀i∈BS .any ops listed,match ops[i]? with
   |none=>OA P ops k fuel (listed.setIfInBounds i true) σ
   |some o=>OW P ops [o] σ [] λσ' con=>OA P ops k fuel (listed.setIfInBounds i true) (fin σ' con)
section
variable {P:Program} {G:Ctx} {N:Nat} {ds:List Deferred} {ops:Array Oper}
def aHj{Q:St->Prop}{Q':Exit->Act->World->Prop}(hno:rY ops.toList=true)(hdst:∀(i:Nat) (o:Oper) (d:Tmp),ops[i]? = some o->o.dst=some d->d<N/\G.Z d=none)(hQ:∀σ a w,Q σ->SR G N ds σ a w->Q' .normal a w) :
  ∀(fuel:Nat) (listed:Array Bool) (σ:St) (a:Act) (w:World),SR G N ds σ a w->OA P ops Q fuel listed σ->wpA P ops Q' fuel listed a w
 |0,_,σ,a,w,hs,h=>⟨h.1,hQ σ a w h.2 hs⟩
 |fuel+1,listed,σ,a,w,hs,h=>by
  refine⟨λh0=>hQ σ a w (h.1 h0) hs,λi hi=>?_⟩;have h1:=h.2 i hi;split
  ·rename_i ho;simp only[ho]at h1;exact aHj hno hdst hQ fuel _ σ a w hs h1
  ·rename_i o ho;simp only[ho]at h1;obtain⟨hn0,hwf,hag⟩:=aAd hs;obtain⟨fb,hfb⟩:=uU (G:=G) [o] σ [] (by
    have h0:o∈ops.toList:=by rw[Array.mem_toList_iff];exact Array.mem_of_getElem? ho
    have:=Ay.1 hno o h0;simpa[rY]using this) hn0 hwf h1
   obtain⟨g1,g2⟩:=hag (λi=>if i<σ.n then σ.H i else fb i) (λi o hi=>by
    rcases Bd i σ.n with hlt|hge
    ·rw[Ae hlt];exact hi
    ·rw[hwf.top i hge]at hi;cases hi)
   obtain⟨s',hd,σ',con',hoa,hn',hwf',hag'⟩:=hfb _ g1 (λi hi=>by simp only;rw[Ac (by omega)]);exact xP (K:=wpA P ops Q' fuel (listed.setIfInBounds i true)) (Q':=Q') hd (λd h=>hdst i o d ho h) g2 λa' w' hr'=>aHj hno hdst hQ fuel _ _ a' w' (aNq hn' hwf' hag' hr') hoa
def cCt(P:Program):Code->St->(St->Prop)->Prop
 |.region _ ops true,σ,k=>OA P ops k ops.size (BG ops.size false) σ
 |_,_,_=>False
def bEu(P:Program):Code->St->(Exit->St->Prop)->Prop
 |.seq x (.seq y z),σ,Q=>AWP P x σ λe σ'=>match e with|.normal=>bEu P (.seq y z) σ' Q|e=>Q e σ'
 |.seq x .ret,σ,Q=>cCt P x σ (Q .ret)
 |_,_,_=>False
def uM(P:Program):Code->Bool
 |.seq x (.seq y z)=>eC P x&&uM P (.seq y z)
 |.seq (.region _ ops true) .ret=>rY ops.toList
 |_=>false
def aXj(hm:P.follows .mixedOrders=true)(hZ:∀d,G.Z d=none):∀(c:Code) (Q:Exit->St->Prop) (σ:St) (a:Act) (w:World),dK N c=true->uM P c=true->bEu P c σ Q->SR G N ds σ a w ->
  c.wp P (λe a' w'=>∃σ',Q e σ'/\SR G N ds σ' a' w') a w:=by
 intro c
 induction c with
 |seq x y ihx ihy =>
  intro Q σ a w hd hl h hs
  simp only[dK,AO]at hd
  cases y with
  |seq y z =>
   simp only[uM,AO]at hl
   refine wp_seq (wp_mono (iC hm hZ x _ σ a w hd.1 hl.1 h hs) ?_)
   rintro e a' w' ⟨σ',hq,hs'⟩
   cases e with
   |normal=>exact ihy Q σ' a' w' hd.2 hl.2 hq hs'
   |_=>exact⟨σ',hq,hs'⟩
  |ret =>
   unfold uM at hl
   split at hl
   ·rename_i he;cases he
   ·rename_i id ops he
    injection he with he1 _;subst he1
    have h':OA P ops (Q .ret) ops.size (BG ops.size false) σ:=h
    refine wp_seq ((WpR.plain P).regA hm (λe=>by cases e) (aHj (Q:=Q .ret) (N:=N) (ds:=ds) (G:=G) hl (λi o d hi hd'=>⟨qG hd.1 i o d hi hd',hZ d⟩) (λσ' a' w' hq hs'=>?_) _ _ σ _ _ ?_ h'))
    ·exact wp_ret ⟨σ',hq,hs'⟩
    ·obtain⟨q1,q2,F,ι,hR,hdom,hV,hN,hds,hp⟩:=hs
     have hs:Step F w ι F { w with drawn:=w.drawn+1 } ι:=⟨λ_ h=>h,λ_ _=>rfl,λ_ _ h=>h,λ_ _ cur _ _ h=>⟨cur,h,rfl⟩⟩
     refine⟨q1,q2,F,ι,⟨hR.kept.trans ⟨rfl,rfl,rfl,Ap _,λ_ _ _=>rfl,λ_ cur _ _ h=>⟨cur,h,rfl⟩⟩,hR.F_lt,hR.F_ok,hR.place,λid b o h1 h2=>?_,hR.inj,hR.len⟩,hdom,λt=>(hV t).step hs,hN,hds,hp⟩
     obtain⟨ob,h3,h4⟩:=hR.obj id b o h1 h2
     exact⟨ob,h3,h4.step hs⟩
   ·cases hl
  |_=>exact h.elim
 |_=>intro Q σ a w _ _ h;exact h.elim
def bFy {f N:Nat} {fn:Func} {c:Code} {args:List D} {r:D} (hm:P.follows .mixedOrders=true) (hf:P.funcs[f]? = some fn) (hb:fn.body=some c) (hname:(fn.name == "runtime.NumGoroutine")=false) (hN:fn.ntmps=N)
  (hd:dK N c=true) (hl':uM P c=true) (ha:args.length<=N) (h:bEu P c (St0 args N) λe σ=>(e=.normal\/e=.ret)/\mU P fn.results.toList σ=some r):Spec P f args r:=by
 intro A W vs hA hl hv
 have hn:¬ fn.name = "runtime.NumGoroutine" := by simpa using hname
 refine⟨λw=>by simp[callFunc,hf,hn,hb],?_⟩
 refine calls_of_wp hf hb ?_
 subst hN
 refine wp_mono (aXj hm (λ_=>rfl) c _ _ _ _ hd hl' h (SR0 hA hl hv ha)) ?_
 rintro e a w ⟨σ,⟨he,hr⟩,hs⟩
 obtain⟨v,hrun,hvd⟩:=nN hs hr
 obtain⟨_,_,F,ι,hR,_,_,_,hdf,_⟩:=hs
 have hend:a.defers=[]/\∃v,(results fn a.tmps).run P w=.ok v w/\∃v',DL v=.returned v'/\Below W.heap.size W w/\VD (λb=>A b\/(W.heap.size<=b/\b<w.heap.size)) w r v':=by
  refine⟨hdf,v,hrun,v,rfl,⟨hR.kept.os,hR.kept.tape,hR.kept.output,hR.kept.size,λk hk=>hR.kept.block k hk (λh=>h)⟩,hvd.mono ?_⟩;rintro b (h|h|h)
  ·exact .inl h
  ·exact h.elim
  ·exact .inr h
 rcases he with rfl|rfl<;>exact hend
def OAd(P:Program)(ops:Array Oper)(k:St->Prop)(fuel:Nat)(listed:Array Bool)(σ:St)(_:Dm (ops,k)):Prop:=OA P ops k fuel listed σ
def bH(x y z:Code)(σ:St)(Q:Exit->St->Prop):bEu P (.seq x (.seq y z)) σ Q=AWP P x σ λe σ'=>match e with|.normal=>bEu P (.seq y z) σ' Q|e=>Q e σ':=rfl
def bI(id:Nat)(l:List Oper)(σ:St)(Q:Exit->St->Prop):bEu P (.seq (.region id l.toArray true) .ret) σ Q=OAd P l.toArray (Q .ret) l.length (BG l.length false) σ .mk:=rfl
def qP{k:St->Prop}{fuel:Nat}{listed:Array Bool}{σ:St}{d:Dm (ops,k)}(i:Nat){o:Oper}(hr:BS .any ops listed=[i])(ho:ops[i]? = some o)
  (h:OWd P ops [o] σ [] (λσ' con=>aIf σ' con (λσ2=>OAd P ops k fuel (listed.setIfInBounds i true) σ2 .mk) .mk) .mk):OAd P ops k (fuel+1) listed σ d:=by
 refine⟨λe=>(by rw[hr]at e;cases e),λj hj=>?_⟩
 rw[hr]at hj
 simp only[AT]at hj
 subst hj
 simp only[ho];exact h
def bIg{k:St->Prop}{fuel:Nat}{listed:Array Bool}{σ:St}{d:Dm (ops,k)}(i j:Nat){o o':Oper}(hr:BS .any ops listed=[i,j])(ho:ops[i]? = some o)(ho':ops[j]? = some o')
  (h:OWd P ops [o] σ [] (λσ' con=>aIf σ' con (λσ2=>OAd P ops k fuel (listed.setIfInBounds i true) σ2 .mk) .mk) .mk)
  (h':OWd P ops [o'] σ [] (λσ' con=>aIf σ' con (λσ2=>OAd P ops k fuel (listed.setIfInBounds j true) σ2 .mk) .mk) .mk):OAd P ops k (fuel+1) listed σ d:=by
 refine⟨λe=>(by rw[hr]at e;cases e),λm hm=>?_⟩
 rw[hr]at hm
 simp only[AG,List.mem_nil_iff,Ex]at hm
 rcases hm with rfl|rfl
 ·simp only[ho];exact h
 ·simp only[ho'];exact h'
def aUz{k:St->Prop}{listed:Array Bool}{σ:St}{d:Dm (ops,k)}(hr:BS .any ops listed=[])(h:k σ):OAd P ops k 0 listed σ d:=⟨hr,h⟩
end
end Go.Am
end
section
open List renaming map_map->C,mapM_map->I
namespace Go.Am
open RowKit (Below)
variable {P:Program}
def bGs{G:Ctx}{fn:Func}{σ:St}{a:Act}{w:World}{rv:ResultVar}{av:AV}{F:Nat->Prop}{ι:Nat->Option Nat}(hR:HR G F w ι bU σ.H)(hV:∀t,V F w ι (σ.J t) (a.tmps.getD t undef))(hres:fn.results.toList=[rv])(h:nO P σ rv=some av) :
  ∃v,(results fn a.tmps).run P w=.ok v w/\V F w ι av v:=by
 cases rv with
 |cell ad t=>exact bPp hR hV hres h
 |tmp t =>
  simp only[nO,AU]at h
  subst h
  refine⟨a.tmps.getD t undef,?_,hV t⟩
  have h1':([ResultVar.tmp t].mapM (m:=Sem) λ|.tmp t=>pure (a.tmps.getD t undef)|.cell ad t=>do loadVar t (<-asAddr (a.tmps.getD ad undef))).run P w=.ok [a.tmps.getD t undef] w:=by simp only[B6,List.mapM_nil,A3,Result.andThen_ok,Sem.run_pure]
  simp only[results,Array.mapM_eq_mapM_toList,A3,Sem.run_map,hres]
  erw [h1']
  simp
def lW {f N:Nat} {fn:Func} {c:Code} {args:List D} {v:Nat->AV} {hs:Nat->List HO} {rv:ResultVar} (hm:P.follows .mixedOrders=true) (hf:P.funcs[f]? = some fn) (hb:fn.body=some c) (hname:(fn.name == "runtime.NumGoroutine")=false)
  (hN:fn.ntmps=N) (hN0:0<N) (hd:dK N c=true) (hl':eC P c=true) (ha:args.length<=N) (hres:fn.results.toList=[rv])
  (h:AWP P c (St0 args N) λe σ=>(e=.normal\/e=.ret)/\eG (nO P σ rv) (λav=>∀m,0<m->∃ρ,Wk ⟨upd σ.J 0 av,σ.H,σ.n⟩ (gR v hs m) ρ) .mk):pT P f args v hs:=by
 intro A W vs hA hl hv
 have hn:¬ fn.name = "runtime.NumGoroutine" := by simpa using hname
 refine⟨λw=>by simp[callFunc,hf,hn,hb],?_⟩
 refine calls_of_wp hf hb ?_
 subst hN
 refine wp_mono (iC hm (λ_=>rfl) c _ _ _ _ hd hl' h (SR0 hA hl hv ha)) ?_
 rintro e a w ⟨σ,⟨he,hr⟩,hs1⟩
 obtain⟨htop,hn0,F,ι,hR,hdom,hV,hN2,hdf,hp⟩:=hs1
 cases hav:nO P σ rv with
 |none=>rw[hav]at hr;exact hr.elim
 |some av =>
 rw[hav]at hr
 simp only[eG]at hr
 obtain⟨u,hrun,hvu⟩:=bGs hR hV hres hav
 have hput:SR ⟨W,A,bU,λ_=>True,λ_=>none⟩ fn.ntmps [] ⟨upd σ.J 0 av,σ.H,σ.n⟩ (a.put (some 0) u) w:=by
  refine⟨htop,hn0,F,ι,hR,hdom,λt'=>?_,⟨by simp[Act.put,hN2.1],λ_ _ h=>by cases h⟩,by simp[Act.put,hdf],hp⟩;rw[kS a (some 0) u (λd hd=>by injection hd with hd;subst hd;rw[hN2.1];exact hN0) t'];by_cases e0:t'=0
  ·subst e0;rw[Ae rfl];simp only[dB];exact hvu
  ·rw[Ac (λe=>e0 (by injection e with e;exact e.symm))];simp only;rw[dX _ _ e0];exact hV t'
 have hend:a.defers=[]/\∃u,(results fn a.tmps).run P w=.ok u w/\∃u',DL u=.returned u'/\Below W.heap.size W w/\∀m,0<m->∃(F:Nat->Prop) (ι:Nat->Option Nat),
   (∀b,F b->A b\/(W.heap.size<=b/\b<w.heap.size))/\V F w ι (v m) u'/\(∀id,(∃b,ι id=some b)↔(m<=id/\id<m+(hs m).length)) /\
   (∀id b,ι id=some b->W.heap.size<=b/\b<w.heap.size/\¬F b) /\
   (∀i o b,(hs m)[i]? = some o->ι (m+i)=some b->∃ob,w.heap[b]? = some ob/\CR F w ι o ob) /\
   (∀id id' b,ι id=some b->ι id'=some b->id=id'):=by
  refine⟨hdf,u,hrun,u,rfl,⟨hR.kept.os,hR.kept.tape,hR.kept.output,hR.kept.size,λk hk=>hR.kept.block k hk (λh=>h)⟩,λm hm0=>?_⟩
  obtain⟨ρ,hw⟩:=hr m hm0
  obtain⟨_,_,F2,ι2,hR2,hdom2,hV2,_,_,_⟩:=aDv hw hput
  have hout:∀id,((gR v hs m).H id).isSome=true↔(m<=id/\id<m+(hs m).length):=λid=>by
   simp only[gR,gJ];by_cases hr:m<=id/\id<m+(hs m).length
   ·rw[Ae hr,Ab (by omega)];simp[hr]
   ·rw[Ac hr];simp[hr]
  refine⟨F2,ι2,λb hb'=>?_,?_,λid=>by rw[hdom2,hout],λid b hb'=>?_,λi o b ho hb'=>?_,λid id' b e1 e2=>hR2.inj id id' b e1 e2 (λh=>h) (λh=>h)⟩
  ·rcases hR2.F_ok b hb' with h|h|h
   ·exact .inl h
   ·exact h.elim
   ·exact .inr ⟨h,hR2.F_lt b hb'⟩
  ·have:=hV2 0
   rw[kS a (some 0) u (λd hd=>by injection hd with hd;subst hd;rw[hN2.1];exact hN0) 0,Ae rfl]at this
   simpa[gR,dB]using this
  ·obtain⟨q1,q2,q3⟩:=hR2.place id b hb'
   rcases q1 with q1|q1
   ·exact q1.elim
   ·exact⟨q1,q2,q3 (λh=>h)⟩
  ·have hi:=(Ah.1 ho).1
   refine hR2.obj (m+i) b o hb' ?_
   simp only[gR,gJ]
   rw[Ae ⟨by omega,by omega⟩,show m+i-m=i by omega];exact ho
 rcases he with rfl|rfl<;>exact hend
end Go.Am
end
section
open List renaming map_map->C,mapM_map->I
open Go Go.Am Go.Proofs
namespace Go.Am
def sS{raw:List Nat}{n:Nat}(hn:n<raw.length)(h0:raw[n]≠0):strip (raw.take (n+1))=raw.take (n+1):=by refine qB ?_;rw[AM,Ab hn,oH,Option.toList_some,List.getLast?_append];simp[h0]
def sR{raw:List Nat}{n:Nat}(hn:n<raw.length)(h0:raw[n]=0):strip (raw.take (n+1))=strip (raw.take n):=by rw[AM,Ab hn,h0];exact aEl _
def iF(raw:List Nat)(neg:Bool)(hl:raw.length<=1099511627776):Spec Aa 58 [aM raw,.b neg] (encI (neg&&decide (strip raw≠[])) (strip raw)):=by
 refine bF (N:=31) Tryz.func58 ?_;simp[-C,-I,↓KW,aM];refine tW (τ:={ n:Nat // n<=raw.length/\strip (raw.take n)=strip raw }) (S:=λn=>StL [(0,.d (aM raw)),(1,.d (.b neg)),(4,.ptr 1 0),(5,.d (.i .i64 n.1))] none [.cells 72 [.d (.b false),.nil]]) (m:=λn=>n.1) ⟨raw.length,Ap _,by simp⟩ ?_ ?_
 ·refine wkQ [1] ?_ ?_
  ·simp[-C,upd,aO,Γ0,aM]
  ·simp[-C,upd,aO,Γ0]
 ·rintro⟨n,hn,hs⟩;rcases n with _|n
  ·have hs':strip raw=[]:=hs.symm;cases neg<;>simp[-C,-I,↓KW,aM,encI,hs',chunk]
  ·have hx:raw[n]? = some raw[n]:=Ab hn;have hw:Ag.wrap (n:Int)=n:=aV;have hp:(0:Int)<(n:Int)+1:=by omega
   by_cases h0:raw[n]=0
   ·simp[-C,-I,↓KW,aM,hx,hw,h0,hp];refine⟨n,by omega,⟨by omega,(sR hn h0).symm.trans hs⟩,.inr (wkQ [1] ?_ ?_)⟩<;>simp[-C,upd,aO,Γ0,aM]
   ·have h1:((raw[n]:Int)==0)=false:=by simp;omega
    have he:strip raw=raw.take (n+1):=hs.symm.trans (sS hn h0);have hp2:(0:Int)<=(n:Int)+1:=by omega
    have hn':(n:Int)+1<=raw.length:=by omega
    obtain⟨pre,hpre⟩:∃pre,raw.take (n+1)=pre:=⟨_,rfl⟩;have hpl:pre.length=n+1:=by rw[<-hpre];simp;omega
    have hp1:∀f:Nat->List D,(raw.map f).take (n+1)=pre.map f:=λf=>by rw[<-hpre,By]
    have hpn:pre≠[]:=λe=>by rw[e]at hpl;cases hpl
    rw[hpre]at he;have hb:(n+1)*4<=140737488355328:=by omega
    have hb2:n+1<=maxLen:=by unfold maxLen;omega
    cases neg<;>simp[-C,-I,↓KW,aM,encI,hx,hw,h1,hp,hp2,he,hn',hp1,hpl,hpn,iB hpl,fE hpl,aRm,aZc,nG,hb,hb2]
def fA{raw:List Nat}(h:Lim raw)(neg:Bool):encI (neg&&decide (strip raw≠[])) (strip raw)=encZ (sg neg (val raw)):=by rw[iW h,<-bTx];simp[fP]
def sY(n:Int)(h1:-9223372036854775808<=n)(h2:n<9223372036854775808):Spec Aa 31 [.i .i64 n] (encZ n):=by
 refine bF (N:=19) Tryz.func31 ?_;have key:∀(u:Nat),u<18446744073709551616->∃lo hi:Nat,Lim [lo,hi]/\val [lo,hi]=u/\Co.wrap (u:Int)=lo/\kZ .shr .u64 (u:Int) 32=some (.i .u64 hi)/\Co.wrap (hi:Int)=hi:=λu hu=>by refine⟨u%4294967296,u/4294967296,.cons (by omega) (.one (by omega)),by simp only[val];omega,by rw[jF];omega,?_,by rw[kN (by omega) (by omega)]⟩;simp only[kZ,DC];rw[Ac (by decide)];congr 2;rw[show(2:Int)^(min (32:Int).toNat 64)=4294967296 from by decide,Di _ (by decide)];omega
 by_cases hn:n<0
 ·obtain⟨u,hu⟩:∃u:Nat,n=-(u:Int):=⟨n.natAbs,by omega⟩;have hu2:u<18446744073709551616:=by omega
  have e1:A2.wrap n=n+18446744073709551616:=by rw[aAf];omega
  have e2:A2.wrap (-(n+18446744073709551616))=(u:Int):=by rw[aAf];omega
  obtain⟨lo,hi,k1,k2,e3,e4,e5⟩:=key u hu2;simp[-C,-I,↓KW,hn,e1,e2,e3,e4,e5];have hm:=iF [lo,hi] true (by simp);rw[fA k1,k2,show sg true u=n by simp[sg];omega]at hm;refine bK (ds:=[aM [lo,hi],.b true]) ?_ hm ?_
  ·simp[-C,-I,↓KW,aM]
  ·simp[-C,-I,↓KW,aM,encZ,encI]
 ·obtain⟨u,rfl⟩:∃u:Nat,n=(u:Int):=⟨n.natAbs,by omega⟩;have hu2:u<18446744073709551616:=by omega
  have e1:A2.wrap (u:Int)=u:=bT (by omega) (by omega);obtain⟨lo,hi,k1,k2,e3,e4,e5⟩:=key u hu2;simp[-C,-I,↓KW,hn,e1,e3,e4,e5];have hm:=iF [lo,hi] false (by simp);rw[fA k1,k2,show sg false u=u by simp[sg]]at hm;refine bK (ds:=[aM [lo,hi],.b false]) ?_ hm ?_
  ·simp[-C,-I,↓KW,aM]
  ·simp[-C,-I,↓KW,aM,encZ,encI]
def bQp(neg:Bool)(m:List Nat):Spec Aa 68 [encI neg m] (.i .i64 (if m=[]then 0 else if neg then -1 else 1)):=by
 refine bF (N:=9) Tryz.func68 ?_;cases m with
 |nil=>simp[-C,-I,↓KW,encI,aM]
 |cons x m =>
  have h1:(((m.length:Int)+1==0):Bool)=false:=by simp;omega
  cases neg<;>simp[-C,-I,↓KW,encI,aM,h1]
def fH(z:Int):Spec Aa 68 [encZ z] (.i .i64 z.sign):=by
 have:=bQp (decide (z<0)) (aU z.natAbs);have e:(if aU z.natAbs=[]then(0:Int)else if(decide (z<0))=true then -1 else 1)=z.sign:=by
  simp only[fP];rcases ED z 0 with h|h|h
  ·rw[Ac (by omega),Ae (by simpa using h),CS h]
  ·subst h;rfl
  ·rw[Ac (by omega),Ac (by simp;omega),Dj h]
 rwa [e]at this
def bHy(neg:Bool)(m:List Nat)(hl:m.length<=1099511627776):Spec Aa 67 [encI neg m] (.b (match m.getLast? with|some x=>x != 0|none=>!neg)):=by
 refine bF (N:=19) Tryz.func67 ?_;rcases List.eq_nil_or_concat m with rfl|⟨m',x,rfl⟩
 ·simp[-C,-I,↓KW,encI,aM]
 ·have hw:Ag.wrap (m'.length:Int)=m'.length:=by simp at hl;rw[wrap_i64]<;>omega
  have h1:(((m'.length:Int)+1==0):Bool)=false:=by simp;omega
  have hg:(AQ (λ(x:Nat)=>[D.i .u32 (x:Int)]) m'++[[D.i .u32 (x:Int)]])[m'.length]? = some [D.i .u32 (x:Int)]:=by rw[Az (by simp)];simp
  simp[-C,-I,↓KW,encI,aM,hw,h1,hg];rw[DK];simp
def aIw(z:Int)(hl:(aU z.natAbs).length<=1099511627776):Spec Aa 67 [encZ z] (.b true):=by
 have:=bHy (decide (z<0)) (aU z.natAbs) hl;have e:(match(aU z.natAbs).getLast? with|some x=>x != 0|none=>!(decide (z<0)))=true:=by
  have hc:=lF z.natAbs;unfold oH at hc;cases h:(aU z.natAbs).getLast? with
  |none =>
   have:=fP.1 (EY.1 h);simp;omega
  |some x=>rw[h]at hc;simpa using hc
 rwa [e]at this
def rH(a b:List Nat):Bool:=if a.length=b.length then decide (val a<val b)else decide (a.length<b.length)
def lB(x y:Nat):rH (aU x) (aU y)=decide (x<y):=by
 unfold rH;by_cases h:(aU x).length=(aU y).length
 ·rw[Ae h,dS,dS]
 ·rw[Ac h];by_cases h1:(aU x).length<(aU y).length
  ·simp[h1,kH h1]
  ·have:=kH (a:=y) (b:=x) (by omega);simp only[h1,decide_false];simp;omega
def aDb(a b:List Nat)(ha:Lim a)(hb:Lim b)(hla:a.length<=1099511627776)(hlb:b.length<=1099511627776):Spec Aa 98 [aM a,aM b] (.b (rH a b)):=by
 refine bF (N:=41) Tryz.func98 ?_;by_cases hn:a.length=b.length
 rotate_left
 ·have h1:(((a.length:Int) != b.length):Bool)=true:=by simp;omega
  simp[-C,-I,↓KW,aM,h1,rH,hn]
 ·have h1:(((a.length:Int) != b.length):Bool)=false:=by simp;omega
  have hw:Ag.wrap ((a.length:Int)-1)=(a.length:Int)-1:=aV;simp[-C,-I,↓KW,aM,h1,hw];refine tW (τ:={ k:Nat // k<=a.length/\a.drop k=b.drop k }) (S:=λk=>StL [(0,.d (aM a)),(1,.d (aM b)),(5,.d (.i .i64 ((k.1:Int)-1)))] none []) (m:=λk=>k.1) ⟨a.length,Ap _,by rw[Bz (Ap _),Bz (by omega)]⟩ ?_ ?_
  ·refine wkQ [] ?_ ?_<;>simp[-C,upd,aO,Γ0,aM]
  ·rintro⟨k,hk,hd⟩;rcases k with _|k
   ·have e:a=b:=by simpa using hd
    subst e;simp[-C,-I,↓KW,aM,rH]
   ·have hkb:k<b.length:=by omega
    have hxa:a[k]? = some a[k]:=Ab hk;have hxb:b[k]? = some b[k]:=Ab hkb;have hw2:Ag.wrap ((k:Int)-1)=(k:Int)-1:=aV;have hp:(0:Int)<=k:=by omega
    by_cases he:a[k]=b[k]
    ·have h2:(((a[k]:Int) != (b[k]:Int)):Bool)=false:=by simp[he]
     simp[-C,-I,↓KW,aM,hxa,hxb,hw2,hp,h2];refine⟨k,by omega,⟨by omega,?_⟩,.inr (wkQ [] ?_ ?_)⟩
     ·rw[AP hk,AP hkb,he,hd]
     ·simp[-C,upd,aO,Γ0,aM]
     ·trivial
    ·have h2:(((a[k]:Int) != (b[k]:Int)):Bool)=true:=by simp;omega
     simp[-C,-I,↓KW,aM,hxa,hxb,hw2,hp,h2,rH,hn];have ga:a.getD k 0=a[k]:=by rw[Af,hxa];rfl
     have gb:b.getD k 0=b[k]:=by rw[Af,hxb];rfl
     rcases Bd a[k] b[k]with hlt|hge
     ·have:=vB ha (i:=k) hn hk hd (by rw[ga,gb];exact hlt);simp[hlt,this]
     ·have:=vB hb (i:=k) hn.symm hkb hd.symm (by rw[ga,gb];omega);omega
def aEv(x y:Int)(hx:(aU x.natAbs).length<=1099511627776)(hy:(aU y.natAbs).length<=1099511627776):Spec Aa 78 [encZ x,encZ y] (.b (decide (x=y))):=by
 refine bF (N:=26) Tryz.func78 ?_;have l1:=aDb _ _ (cX x.natAbs) (cX y.natAbs) hx hy;have l2:=aDb _ _ (cX y.natAbs) (cX x.natAbs) hy hx;rw[lB]at l1 l2;unfold encZ encI;generalize aU x.natAbs=a at *;generalize aU y.natAbs=b at *;by_cases hs:decide (x<0)=decide (y<0)
 rotate_left
 ·have h1:(decide (x<0)==decide (y<0))=false:=by simpa using hs
  have h2:¬x=y:=λe=>hs (by rw[e])
  simp[-C,-I,↓KW,aM,h1,h2]
 ·have h1:(decide (x<0)==decide (y<0))=true:=by simpa using hs
  simp[-C,-I,↓KW,aM,h1];refine aJ l1 ?_;by_cases h3:x.natAbs<y.natAbs
  ·have h2:¬x=y:=λe=>by rw[e]at h3;omega
   simp[-C,-I,↓KW,aM,h3,h2]
  ·simp[-C,-I,↓KW,aM,h3];refine aJ l2 ?_;simp[-C,-I,↓KW,aM];have hs':x<0↔y<0:=by simpa using hs
   rw[DK];simp;omega
def plS(a b:List Nat):Nat->List Nat×Nat
 |0=>([],0)
 |i+1=>((plS a b i).1++[((plS a b i).2+a.getD i 0+b.getD i 0)%4294967296],((plS a b i).2+a.getD i 0+b.getD i 0)/4294967296)
def oL{a b:List Nat}(ha:Lim a)(hb:Lim b):∀i,(plS a b i).1.length=i/\(plS a b i).2<=1/\Lim (plS a b i).1/\val (plS a b i).1+4294967296^i*(plS a b i).2=val (a.take i)+val (b.take i)
 |0=>⟨rfl,Ak _,.nil,by simp[plS,val]⟩
 |i+1=>by
  obtain⟨h1,h2,h3,h4⟩:=oL ha hb i;have ha':=ha.getD i;have hb':=hb.getD i;simp only[plS];generalize(plS a b i).1=out at *;generalize(plS a b i).2=c at *;refine⟨by simp[h1],by omega,h3.app (.one (by omega)),?_⟩;rw[oI,eA,eA,h1,Cm];simp only[val];have h5:4294967296^i*((c+a.getD i 0+b.getD i 0)%4294967296)+4294967296^i*4294967296*((c+a.getD i 0+b.getD i 0)/4294967296)=4294967296^i*c+4294967296^i*a.getD i 0+4294967296^i*b.getD i 0:=by rw[Ce,<-Cn,Nat.mod_add_div,Cn,Cn]
  simp only[Dh,B9];omega
def plN(a b:List Nat):Nat:=if(plS a b (max a.length b.length)).2=0 then max a.length b.length else max a.length b.length+1
def aEw(a b:List Nat):List Nat:=(plS a b (plN a b)).1
def getD_none{l:List Nat}{i:Nat}(h:¬i<l.length):l.getD i 0=0:=by rw[Af,AW (by omega)];rfl
def aIz{a b:List Nat}(ha:Lim a)(hb:Lim b){i:Nat}(h1:a.length<=i)(h2:b.length<=i):(plS a b (i+1)).2=0:=by have h:=(oL ha hb i).2.1;show((plS a b i).2+a.getD i 0+b.getD i 0)/4294967296=0;rw[getD_none (l:=a) (by omega),getD_none (l:=b) (by omega)];omega
def aQg{a b:List Nat}(ha:Lim a)(hb:Lim b){i:Nat}(h1:a.length<=i)(h2:b.length<=i)(hc:(plS a b i).2=0):val (plS a b i).1=val a+val b:=by have h:=(oL ha hb i).2.2.2;rw[Ai h1,Ai h2,hc,Dh,B9]at h;exact h
def bCc{a b:List Nat}(ha:Lim a)(hb:Lim b):val (aEw a b)=val a+val b/\Lim (aEw a b)/\(aEw a b).length<=max a.length b.length+1:=by
 unfold aEw plN;have h1:a.length<=max a.length b.length:=by omega
 have h2:b.length<=max a.length b.length:=by omega
 generalize max a.length b.length=M at *;by_cases hc:(plS a b M).2=0
 ·rw[Ae hc];have h:=oL ha hb M;exact⟨aQg ha hb h1 h2 hc,h.2.2.1,by rw[h.1];omega⟩
 ·rw[Ac hc];have h:=oL ha hb (M+1);exact⟨aQg ha hb (by omega) (by omega) (aIz ha hb h1 h2),h.2.2.1,by rw[h.1];exact Ap _⟩
def getD_some{l:List Nat}{i:Nat}(h:i<l.length):l[i]? = some (l.getD i 0):=by rw[Af,Ab h];rfl
def bQo(a b:List Nat)(ha:Lim a)(hb:Lim b)(hla:a.length<=1099511627776)(hlb:b.length<=1099511627776):Spec Aa 97 [aM a,aM b] (aM (aEw a b)):=by
 refine bF (N:=55) Tryz.func97 ?_;simp[-C,-I,↓KW,aM];refine aP (λi:Nat=>i<=max a.length b.length\/(i=max a.length b.length+1/\(plS a b (max a.length b.length)).2≠0))
  (λi=>StL [(0,.d (aM a)),(1,.d (aM b)),(5,.own 1 0 i 1),(6,.d (.i .u64 (plS a b i).2)),(7,.d (.i .i64 i))] none [.cells 101 ((lms (plS a b i).1).map .d)]) (λi=>max a.length b.length+1-i) 0 (.inl (Ak _)) ?_ ?_
 ·refine wkQ [1] ?_ ?_<;>simp[-C,upd,aO,Γ0,aM,plS,lms]
 ·intro i hi;obtain⟨hlen,hc,_,_⟩:=oL ha hb i;have hsucc:plS a b (i+1)=((plS a b i).1++[((plS a b i).2+a.getD i 0+b.getD i 0)%4294967296],((plS a b i).2+a.getD i 0+b.getD i 0)/4294967296):=rfl;have hstop:(i<a.length\/i<b.length\/0<(plS a b i).2)\/i=plN a b:=by
   unfold plN;rcases hi with hi|⟨hi,hc⟩
   ·by_cases h1:i=max a.length b.length
    ·subst h1;by_cases h2:(plS a b (max a.length b.length)).2=0
     ·rw[Ae h2];exact .inr rfl
     ·exact .inl (.inr (.inr (by omega)))
    ·exact .inl (by omega)
   ·rw[Ac hc];exact .inr hi
  have hnext:(i<a.length\/i<b.length\/0<(plS a b i).2)->i<=max a.length b.length/\(i+1<=max a.length b.length\/(i+1=max a.length b.length+1/\(plS a b (max a.length b.length)).2≠0)):=by
   intro h;rcases hi with hi|⟨hi,hc2⟩
   ·refine⟨hi,?_⟩;by_cases h1:i=max a.length b.length
    ·subst h1;exact .inr ⟨rfl,by omega⟩
    ·exact .inl (by omega)
   ·exfalso;have e:(plS a b i).2=0:=by rw[hi];exact aIz ha hb (by omega) (by omega)
    omega
  have hal:=ha.getD i;have hbl:=hb.getD i;have hres:i=plN a b->(plS a b i).1=aEw a b:=λe=>by rw[e];rfl
  generalize hout:(plS a b i).1=out at *;generalize hcar:(plS a b i).2=c at *;by_cases hgo:i<a.length\/i<b.length\/0<c
  ·obtain⟨hi1,hi2⟩:=hnext hgo;have hb1:(i+1)*4<=140737488355328:=by omega
   have hb2:i+1<=maxLen:=by unfold maxLen;omega
   have hw7:Ag.wrap ((i:Int)+1)=(i:Int)+1:=aV;have hpos:(0:Int)<=i:=by omega
   obtain⟨s1,hs1⟩:∃s1:Nat,c+a.getD i 0=s1:=⟨_,rfl⟩;obtain⟨s2,hs2⟩:∃s2:Nat,s1+b.getD i 0=s2:=⟨_,rfl⟩;rw[hs1,hs2]at hsucc;have hw1:A2.wrap ((c:Int)+((a.getD i 0:Nat):Int))=s1:=by rw[bT (by omega) (by omega)];omega
   have hw2:A2.wrap ((s1:Int)+((b.getD i 0:Nat):Int))=s2:=by rw[bT (by omega) (by omega)];omega
   have hwa:A2.wrap ((a.getD i 0:Nat):Int)=((a.getD i 0:Nat):Int):=bT (by omega) (by omega);have hwb:A2.wrap ((b.getD i 0:Nat):Int)=((b.getD i 0:Nat):Int):=bT (by omega) (by omega);obtain⟨lo,hlo⟩:∃lo:Nat,s2%4294967296=lo:=⟨_,rfl⟩;obtain⟨hi',hhi⟩:∃hi':Nat,s2/4294967296=hi':=⟨_,rfl⟩;have hw3:Co.wrap (s2:Int)=lo:=by rw[jF];omega
   have hw4:A2.wrap ((s2:Int).tdiv 4294967296)=hi':=by rw[Int.tdiv_eq_ediv_of_nonneg (by omega),bT (by omega) (by omega)];omega
   have hw4':A2.wrap ((s2:Int)/4294967296)=hi':=by rw[bT (by omega) (by omega)];omega
   rw[hlo,hhi]at hsucc;have hcase:(a.getD i 0=0/\¬i<a.length)\/i<a.length:=by
    by_cases h:i<a.length
    ·exact .inr h
    ·exact .inl ⟨getD_none h,h⟩
   have hcase2:(b.getD i 0=0/\¬i<b.length)\/i<b.length:=by
    by_cases h:i<b.length
    ·exact .inr h
    ·exact .inl ⟨getD_none h,h⟩
   rcases hcase with ⟨ha0,han⟩|han<;>rcases hcase2 with ⟨hb0,hbn⟩|hbn
   ·have q1:¬(i:Int)<a.length:=by omega
    have q2:¬(i:Int)<b.length:=by omega
    have q3:0<c:=by omega
    rw[ha0]at hs1;rw[hb0]at hs2;have e2:s2=c:=by omega
    rw[e2]at hw3 hw4 hw4';simp[-C,-I,↓KW,aM,q1,q2,q3,hw3,hw4,hw7,hb1,hb2,hlen];refine aI (i+1) hi2 ?_ (wkQ [3] ?_ ?_)
    ·omega
    ·simp[-C,upd,aO,Γ0,aM,hsucc,iG,iL,hw4']
    ·simp[-C,upd,aO,Γ0,aM,hsucc,iG,iL]
   ·have q1:¬(i:Int)<a.length:=by omega
    have q2:(i:Int)<b.length:=by omega
    rw[ha0]at hs1;have e1:s1=c:=by omega
    have g2:=getD_some hbn;rw[e1]at hw2;generalize b.getD i 0=y at *;simp[-C,-I,↓KW,aM,q1,q2,g2,hwb,hw2,hw3,hw4,hw7,hb1,hb2,hlen];refine aI (i+1) hi2 ?_ (wkQ [3] ?_ ?_)
    ·omega
    ·simp[-C,upd,aO,Γ0,aM,hsucc,iG,iL,hw4']
    ·simp[-C,upd,aO,Γ0,aM,hsucc,iG,iL]
   ·have q1:(i:Int)<a.length:=by omega
    have q2:¬(i:Int)<b.length:=by omega
    rw[hb0]at hs2;have e2:s2=s1:=by omega
    have g1:=getD_some han;rw[e2]at hw3 hw4 hw4';generalize a.getD i 0=x at *;simp[-C,-I,↓KW,aM,q1,q2,g1,hwa,hw1,hw3,hw4,hw7,hb1,hb2,hlen];refine aI (i+1) hi2 ?_ (wkQ [3] ?_ ?_)
    ·omega
    ·simp[-C,upd,aO,Γ0,aM,hsucc,iG,iL,hw4']
    ·simp[-C,upd,aO,Γ0,aM,hsucc,iG,iL]
   ·have q1:(i:Int)<a.length:=by omega
    have q2:(i:Int)<b.length:=by omega
    have g1:=getD_some han;have g2:=getD_some hbn;generalize a.getD i 0=x at *;generalize b.getD i 0=y at *;simp[-C,-I,↓KW,aM,q1,q2,g1,g2,hwa,hwb,hw1,hw2,hw3,hw4,hw7,hb1,hb2,hlen];refine aI (i+1) hi2 ?_ (wkQ [3] ?_ ?_)
    ·omega
    ·simp[-C,upd,aO,Γ0,aM,hsucc,iG,iL,hw4']
    ·simp[-C,upd,aO,Γ0,aM,hsucc,iG,iL]
  ·have e:=hstop.resolve_left hgo;have h1:¬(i:Int)<a.length:=by omega
   have h2:¬(i:Int)<b.length:=by omega
   have h3:c=0:=by omega
   have h4:=hres e;subst h3;simp[-C,-I,↓KW,aM,h1,h2,hlen,iB hlen,fE hlen,<-h4]
def miS(a b:List Nat):Nat->List Nat×Nat
 |0=>([],0)
 |i+1=>if(miS a b i).2+b.getD i 0<=a.getD i 0 then((miS a b i).1++[a.getD i 0-((miS a b i).2+b.getD i 0)],0)else((miS a b i).1++[a.getD i 0+4294967296-((miS a b i).2+b.getD i 0)],1)
def aJq{p o vb va x y c z:Nat}(h4:o+vb=va+p*c)(hx:x=z+(c+y)):o+p*z+(vb+p*y)=va+p*x:=by subst hx;rw[Cn,Cn];omega
def bCw{p o vb va x y c z k:Nat}(h4:o+vb=va+p*c)(hx:x+k=z+(c+y)):o+p*z+(vb+p*y)=va+p*x+p*k:=by have:=aJq (p:=p) (x:=x+k) h4 hx;rw[Cn]at this;omega
def bRv{p va vb i:Nat}{out:List Nat}{c x y z:Nat}(hz:x=z+(c+y))(hl:z<4294967296)(h1:out.length=i)(hp:4294967296^i=p)(h3:Lim out)(h4:val out+vb=va+p*c) :
  (out++[z]).length=i+1/\Lim (out++[z])/\val (out++[z])+(vb+p*y)=va+p*x:=by
 refine⟨by simp[h1],h3.app (.one hl),?_⟩
 simp only[oI,val,Dh,B9,h1,hp]
 exact aJq h4 hz
def bRw{p va vb i:Nat}{out:List Nat}{c x y z k:Nat}(hz:x+k=z+(c+y))(hl:z<4294967296)(h1:out.length=i)(hp:4294967296^i=p)(h3:Lim out)(h4:val out+vb=va+p*c) :
  (out++[z]).length=i+1/\Lim (out++[z])/\val (out++[z])+(vb+p*y)=va+p*x+p*k:=by
 refine⟨by simp[h1],h3.app (.one hl),?_⟩
 simp only[oI,val,Dh,B9,h1,hp]
 exact bCw h4 hz
def aRh(a b:List Nat)(i:Nat):miS a b (i+1)=if(miS a b i).2+b.getD i 0<=a.getD i 0 then((miS a b i).1++[a.getD i 0-((miS a b i).2+b.getD i 0)],0)else((miS a b i).1++[a.getD i 0+4294967296-((miS a b i).2+b.getD i 0)],1):=rfl
def bNj{a b:Nat}(q:Nat)(h:a=b):a=b+q*0:=by rw[Dh,B9];exact h
def bNi{a b:Nat}(q:Nat)(h:a=b+q):a=b+q*1:=by rw[DP];exact h
def aMl{a b:List Nat}(ha:Lim a)(hb:Lim b)(i:Nat):(miS a b i).1.length=i/\(miS a b i).2<=1/\Lim (miS a b i).1/\val (miS a b i).1+val (b.take i)=val (a.take i)+4294967296^i*(miS a b i).2:=by
 induction i with
 |zero=>exact⟨rfl,Ak _,.nil,by simp[miS,val]⟩
 |succ i ih =>
  obtain⟨h1,h2,h3,h4⟩:=ih;have hx:=ha.getD i;have hy:=hb.getD i;rw[eA,eA,Cm,aRh];generalize(miS a b i).1=out at *;generalize(miS a b i).2=c at *;generalize a.getD i 0=x at *;generalize b.getD i 0=y at *;generalize hp:4294967296^i=p at *;by_cases h:c+y<=x
  ·rw[Ae h];obtain⟨z,hz,hz'⟩:∃z,x-(c+y)=z/\x=z+(c+y):=⟨_,rfl,(Nat.sub_add_cancel h).symm⟩;rw[hz];clear hz;obtain⟨q1,q2,q3⟩:=bRv hz' (by omega) h1 hp h3 h4;exact⟨q1,Ak _,q2,bNj _ q3⟩
  ·rw[Ac h];obtain⟨z,hz,hz'⟩:∃z,x+4294967296-(c+y)=z/\x+4294967296=z+(c+y):=⟨_,rfl,(Nat.sub_add_cancel (by omega)).symm⟩;rw[hz];clear hz;obtain⟨q1,q2,q3⟩:=bRw hz' (by omega) h1 hp h3 h4;exact⟨q1,Ap _,q2,bNi _ q3⟩
def qQ(a b:List Nat):List Nat:=(miS a b a.length).1
def sB{a b:List Nat}(ha:Lim a)(hb:Lim b)(hl:b.length<=a.length)(hv:val b<=val a):val (qQ a b)=val a-val b/\Lim (qQ a b)/\(qQ a b).length=a.length:=by
 obtain⟨h1,h2,h3,h4⟩:=aMl ha hb a.length;rw[Ai hl,Ai (Ap _)]at h4;refine⟨?_,h3,h1⟩;have hlt:=tK h3;rw[h1]at hlt;unfold qQ;generalize(miS a b a.length).1=out at *;generalize(miS a b a.length).2=c at *;rcases Bd 0 c with hc|hc
 ·have:c=1:=by omega
  rw[this,DP]at h4;omega
 ·have:c=0:=by omega
  rw[this,Dh]at h4;omega
def aQa(a b:List Nat)(ha:Lim a)(hb:Lim b)(hla:a.length<=1099511627776)(_hlb:b.length<=1099511627776):Spec Aa 99 [aM a,aM b] (aM (qQ a b)):=by
 refine bF (N:=44) Tryz.func99 ?_;simp[-C,-I,↓KW,aM];refine aP (λi:Nat=>i<=a.length)
  (λi=>StL [(0,.d (aM a)),(1,.d (aM b)),(5,.own 1 0 i 1),(6,.d (.i .i64 (miS a b i).2)),(7,.d (.i .i64 i))] none [.cells 101 ((lms (miS a b i).1).map .d)]) (λi=>a.length-i) 0 (Ak _) ?_ ?_
 ·refine wkQ [1] ?_ ?_<;>simp[-C,upd,aO,Γ0,aM,miS,lms]
 ·intro i hi;obtain⟨hlen,hc,_,_⟩:=aMl ha hb i;have hsucc:miS a b (i+1)=if(miS a b i).2+b.getD i 0<=a.getD i 0 then((miS a b i).1++[a.getD i 0-((miS a b i).2+b.getD i 0)],0)else((miS a b i).1++[a.getD i 0+4294967296-((miS a b i).2+b.getD i 0)],1):=rfl
  have hal:=ha.getD i;have hbl:=hb.getD i;have hres:i=a.length->(miS a b i).1=qQ a b:=λe=>by rw[e];rfl
  generalize hout:(miS a b i).1=out at *;generalize hcar:(miS a b i).2=c at *;by_cases hgo:i<a.length
  ·have hb1:(i+1)*4<=140737488355328:=by omega
   have hb2:i+1<=maxLen:=by unfold maxLen;omega
   have hw7:Ag.wrap ((i:Int)+1)=(i:Int)+1:=aV;have q1:(i:Int)<a.length:=by omega
   have g1:=getD_some hgo;have hb0:¬i<b.length->b.getD i 0=0:=getD_none;have g2:i<b.length->b[i]? = some (b.getD i 0):=getD_some;generalize a.getD i 0=x at *;generalize b.getD i 0=y at *;have hwx:Ag.wrap (x:Int)=x:=aV;have hwy:Ag.wrap (y:Int)=y:=aV;obtain⟨d1,hd1⟩:∃d1:Int,(x:Int)-c=d1:=⟨_,rfl⟩;obtain⟨d,hd⟩:∃d:Int,d1-y=d:=⟨_,rfl⟩;have hw1:Ag.wrap ((x:Int)-c)=d1:=by rw[aV];exact hd1
   have hw2:Ag.wrap (d1-y)=d:=by rw[aV];exact hd
   by_cases hneg:d<0
   ·rw[Ac (by omega)]at hsucc;obtain⟨lo,hlo⟩:∃lo:Nat,x+4294967296-(c+y)=lo:=⟨_,rfl⟩;rw[hlo]at hsucc;have hw3:Ag.wrap (d+4294967296)=lo:=by rw[aV];omega
    have hw4:Co.wrap (lo:Int)=lo:=kN (by omega) (by omega);by_cases hbn:i<b.length
    ·have q2:(i:Int)<b.length:=by omega
     have g3:=g2 hbn;simp[-C,-I,↓KW,aM,q1,q2,g1,g3,hwx,hwy,hw1,hw2,hw3,hw4,hneg,hw7,hb1,hb2,hlen];refine aI (i+1) hgo ?_ (wkQ [3] ?_ ?_)
     ·omega
     ·simp[-C,upd,aO,Γ0,aM,hsucc,iG,iL]
     ·simp[-C,upd,aO,Γ0,aM,hsucc,iG,iL]
    ·have q2:¬(i:Int)<b.length:=by omega
     have e1:d1=d:=by have:=hb0 hbn;omega
     rw[e1]at hw1;simp[-C,-I,↓KW,aM,q1,q2,g1,hwx,hw1,hw3,hw4,hneg,hw7,hb1,hb2,hlen];refine aI (i+1) hgo ?_ (wkQ [3] ?_ ?_)
     ·omega
     ·simp[-C,upd,aO,Γ0,aM,hsucc,iG,iL]
     ·simp[-C,upd,aO,Γ0,aM,hsucc,iG,iL]
   ·rw[Ae (by omega)]at hsucc;obtain⟨lo,hlo⟩:∃lo:Nat,x-(c+y)=lo:=⟨_,rfl⟩;rw[hlo]at hsucc;have e0:d=lo:=by omega
    rw[e0]at hw2 hneg;have hw4:Co.wrap (lo:Int)=lo:=kN (by omega) (by omega);by_cases hbn:i<b.length
    ·have q2:(i:Int)<b.length:=by omega
     have g3:=g2 hbn;simp[-C,-I,↓KW,aM,q1,q2,g1,g3,hwx,hwy,hw1,hw2,hw4,hneg,hw7,hb1,hb2,hlen];refine aI (i+1) hgo ?_ (wkQ [3] ?_ ?_)
     ·omega
     ·simp[-C,upd,aO,Γ0,aM,hsucc,iG,iL]
     ·simp[-C,upd,aO,Γ0,aM,hsucc,iG,iL]
    ·have q2:¬(i:Int)<b.length:=by omega
     have e1:d1=lo:=by have:=hb0 hbn;omega
     rw[e1]at hw1;simp[-C,-I,↓KW,aM,q1,q2,g1,hwx,hw1,hw4,hneg,hw7,hb1,hb2,hlen];refine aI (i+1) hgo ?_ (wkQ [3] ?_ ?_)
     ·omega
     ·simp[-C,upd,aO,Γ0,aM,hsucc,iG,iL]
     ·simp[-C,upd,aO,Γ0,aM,hsucc,iG,iL]
  ·have e:i=a.length:=by omega
   have h1:¬(i:Int)<a.length:=by omega
   have h4:=hres e;simp[-C,-I,↓KW,aM,h1,hlen,iB hlen,fE hlen,<-h4]
def rX(x y:Int)(hx:(aU x.natAbs).length<=549755813888)(hy:(aU y.natAbs).length<=549755813888):Spec Aa 76 [encZ x,encZ y] (encZ (x+y)):=by
 refine bF (N:=39) Tryz.func76 ?_;have la:=cX x.natAbs;have lb:=cX y.natAbs;have va:=dS x.natAbs;have vb:=dS y.natAbs;have hless:(aU x.natAbs).length<(aU y.natAbs).length->x.natAbs<y.natAbs:=kH;have hless2:(aU y.natAbs).length<(aU x.natAbs).length->y.natAbs<x.natAbs:=kH;have hl:=aDb _ _ la lb (by omega) (by omega);rw[lB]at hl;have sx:=jH x;have sy:=jH y;have ex:encZ x=.ag [.b (decide (x<0)),aM (aU x.natAbs)]:=rfl;have ey:encZ y=.ag [.b (decide (y<0)),aM (aU y.natAbs)]:=rfl;rw[ex,ey];generalize aU x.natAbs=a at *;generalize aU y.natAbs=b at *;generalize hbx:decide (x<0)=nx at *;generalize hby:decide (y<0)=ny at *;by_cases hn:nx=ny
 ·have h1:(nx==ny)=true:=by simpa using hn
  simp[-C,-I,↓KW,aM,h1];obtain⟨pv,pl,pn⟩:=bCc la lb;refine aJ (bQo a b la lb (by omega) (by omega)) ?_;simp[-C,-I,↓KW,aM];have hm:=iF (aEw a b) nx (by omega);rw[fA pl,pv,va,vb]at hm;refine aJ hm ?_;have e:sg nx (x.natAbs+y.natAbs)=x+y:=by rw[<-sx,<-sy,<-hn];cases nx<;>simp[sg]<;>omega
  rw[e];simp[-C,-I,↓KW,aM,encZ,encI]
 ·have h1:(nx==ny)=false:=by simpa using hn
  simp[-C,-I,↓KW,aM,h1];refine aJ hl ?_;by_cases hlt:x.natAbs<y.natAbs
  ·simp[-C,-I,↓KW,aM,hlt];obtain⟨pv,pl,pn⟩:=sB lb la (by omega) (by omega);refine aJ (aQa b a lb la (by omega) (by omega)) ?_;simp[-C,-I,↓KW,aM];have hm:=iF (qQ b a) ny (by omega);rw[fA pl,pv,va,vb]at hm;refine aJ hm ?_;have e:sg ny (y.natAbs-x.natAbs)=x+y:=by rw[<-sx,<-sy];cases nx<;>cases ny<;>simp[sg]at hn ⊢<;>omega
   rw[e];simp[-C,-I,↓KW,aM,encZ,encI]
  ·simp[-C,-I,↓KW,aM,hlt];obtain⟨pv,pl,pn⟩:=sB la lb (by omega) (by omega);refine aJ (aQa a b la lb (by omega) (by omega)) ?_;simp[-C,-I,↓KW,aM];have hm:=iF (qQ a b) nx (by omega);rw[fA pl,pv,va,vb]at hm;refine aJ hm ?_;have e:sg nx (x.natAbs-y.natAbs)=x+y:=by rw[<-sx,<-sy];cases nx<;>cases ny<;>simp[sg]at hn ⊢<;>omega
   rw[e];simp[-C,-I,↓KW,aM,encZ,encI]
def aLj{l:List Nat}{j:Nat}(h:j<l.length)(v:Nat):val (l.set j v)+4294967296^j*l.getD j 0=val l+4294967296^j*v:=by
 induction l generalizing j with
 |nil=>simp at h
 |cons x l ih =>
  cases j with
  |zero=>simp only[CT,val,Nat.pow_zero,C9,List.getD_cons_zero];omega
  |succ j =>
   have:=ih (j:=j) (by simpa using h);simp only[FY,val,List.getD_cons_succ,Cm];generalize 4294967296^j=p at *;generalize l.getD j 0=o at *;generalize val (l.set j v)=w at *;rw[Cb p,Ce,Ce];generalize p*o=e1 at *;generalize p*v=e2 at *;omega
def muI(out:List Nat)(x:Nat)(b:List Nat)(i:Nat):Nat->List Nat×Nat
 |0=>(out,0)
 |k+1=>((muI out x b i k).1.set (i+k) (((muI out x b i k).2+(muI out x b i k).1.getD (i+k) 0+x*b.getD k 0)%4294967296),((muI out x b i k).2+(muI out x b i k).1.getD (i+k) 0+x*b.getD k 0)/4294967296)
def muN(out:List Nat)(x:Nat)(b:List Nat)(i:Nat):Nat:=if(muI out x b i b.length).2=0 then b.length else b.length+1
def muO(a b:List Nat):Nat->List Nat
 |0=>AB (a.length+b.length+1) 0
 |i+1=>(muI (muO a b i) (a.getD i 0) b i (muN (muO a b i) (a.getD i 0) b i)).1
def bJa{P v v' o c t q r e w k:Nat}(hs:v'+P*o=v+P*r)(ht:r+k*q=t)(ht2:c+o+e=t)(hv:v+P*c=w):v'+P*k*q=w+P*e:=by
 have h1:P*t=P*r+P*(k*q):=by rw[<-ht,Cn]
 have h2:P*t=P*c+P*o+P*e:=by rw[<-ht2,Cn,Cn]
 rw[Ce];omega
def aVe{c o x y:Nat}(hc:c<4294967296)(ho:o<4294967296)(hx:x<4294967296)(hy:y<4294967296):c+o+x*y<18446744073709551616:=by have:x*y<=4294967295*4294967295:=Cp (by omega) (by omega);omega
def vO{out b:List Nat}{x i:Nat}(ho:Lim out)(hb:Lim b)(hx:x<4294967296)(hl:i+b.length<out.length)(k:Nat)(hk:k<=b.length+1) :
  (muI out x b i k).1.length=out.length/\(muI out x b i k).2<4294967296/\Lim (muI out x b i k).1/\val (muI out x b i k).1+4294967296^(i+k)*(muI out x b i k).2=val out+4294967296^i*(x*val (b.take k)):=by
 induction k with
 |zero=>exact⟨rfl,Nat.zero_lt_of_lt hx,ho,by simp[muI,val]⟩
 |succ k ih =>
  obtain⟨h1,h2,h3,h4⟩:=ih (by omega)
  have hy:=hb.getD k
  have hoo:=h3.getD (i+k)
  have hset:=aLj (l:=(muI out x b i k).1) (j:=i+k) (by omega) (((muI out x b i k).2+(muI out x b i k).1.getD (i+k) 0+x*b.getD k 0)%4294967296)
  have hlim:=aVe h2 hoo hx hy
  rw[eA]
  simp only[muI]
  generalize(muI out x b i k).1=out' at *
  generalize(muI out x b i k).2=c at *
  generalize out'.getD (i+k) 0=o at *
  generalize b.getD k 0=y at *
  refine⟨by simp[h1],by omega,h3.set _ (by omega),?_⟩
  have:=bJa hset (Nat.mod_add_div _ _) rfl h4
  rw[<-Eb i k 1,Cm,this,CA,Cn,Cn,Ce,Eb]
  congr 2
  rw[D9 x]
def aRf{out b:List Nat}{x i:Nat}(ho:Lim out)(hb:Lim b)(hx:x<4294967296)(hl:i+b.length<out.length)(hv:val out<4294967296^(i+b.length)):(muI out x b i (b.length+1)).2=0:=by
 obtain⟨_,_,_,h4⟩:=vO ho hb hx hl (b.length+1) (Ap _);rw[Ai (by omega)]at h4;have hbv:=tK hb;rcases B7 (muI out x b i (b.length+1)).2 with h|h
 ·exact h
 exfalso;have e1:4294967296^(i+(b.length+1))*1<=4294967296^(i+(b.length+1))*(muI out x b i (b.length+1)).2:=BC _ h;have e2:x*val b<=4294967295*4294967296^b.length:=Cp (by omega) (by omega);have e3:4294967296^i*(x*val b)<=4294967296^i*(4294967295*4294967296^b.length):=BC _ e2;have e4:4294967296^i*(4294967295*4294967296^b.length)=4294967295*4294967296^(i+b.length):=by rw[CA,D9]
 have e5:4294967296^(i+(b.length+1))=4294967296^(i+b.length)*4294967296:=by rw[<-Eb,Cm]
 rw[DP,e5]at e1;rw[e5]at h4;rw[e4]at e3;generalize 4294967296^(i+b.length)=p at *;generalize 4294967296^i*(x*val b)=q at *;generalize(muI out x b i (b.length+1)).2=c at *;generalize p*4294967296*c=d at *;omega
def bRr{out b:List Nat}{x i:Nat}(ho:Lim out)(hb:Lim b)(hx:x<4294967296)(hl:i+b.length<out.length)(hv:val out<4294967296^(i+b.length)) :
  (muI out x b i (muN out x b i)).1.length=out.length/\Lim (muI out x b i (muN out x b i)).1/\val (muI out x b i (muN out x b i)).1=val out+4294967296^i*(x*val b):=by
 unfold muN
 have hstop:=aRf ho hb hx hl hv
 by_cases h:(muI out x b i b.length).2=0
 ·rw[Ae h]
  obtain⟨h1,_,h3,h4⟩:=vO ho hb hx hl b.length (by omega)
  rw[Ai (by omega),h,Dh,B9]at h4
  exact⟨h1,h3,h4⟩
 ·rw[Ac h]
  obtain⟨h1,_,h3,h4⟩:=vO ho hb hx hl (b.length+1) (Ap _)
  rw[Ai (by omega),hstop,Dh,B9]at h4
  exact⟨h1,h3,h4⟩
def aVf{a b:List Nat}(ha:Lim a)(hb:Lim b){i:Nat}(hi:i<=a.length):val (a.take i)*val b<4294967296^(i+b.length):=by have h1:=tK (ha.take i);rw[Ax,BP hi]at h1;have h2:=tK hb;rw[CA];exact Nat.mul_lt_mul'' h1 h2
def bRq{a b:List Nat}(ha:Lim a)(hb:Lim b)(i:Nat)(hi:i<=a.length):(muO a b i).length=a.length+b.length+1/\Lim (muO a b i)/\val (muO a b i)=val (a.take i)*val b:=by
 induction i with
 |zero=>exact⟨by simp[muO],.rep _,by simp[muO,aCt,val]⟩
 |succ i ih =>
  obtain⟨h1,h2,h3⟩:=ih (by omega);have hv:=aVf ha hb (i:=i) (by omega);rw[<-h3]at hv;obtain⟨q1,q2,q3⟩:=bRr (x:=a.getD i 0) (i:=i) h2 hb (ha.getD i) (by omega) hv;refine⟨q1.trans h1,q2,?_⟩;show val (muI (muO a b i) (a.getD i 0) b i (muN (muO a b i) (a.getD i 0) b i)).1=_;rw[q3,h3,eA,Bw,Ce]
def qE(x y:Int)(hx:(aU x.natAbs).length<=137438953472)(hy:(aU y.natAbs).length<=137438953472):Spec Aa 57 [encZ x,encZ y] (encZ (x*y)):=by
 refine bF (N:=81) Tryz.func57 ?_;have la:=cX x.natAbs;have lb:=cX y.natAbs;have va:=dS x.natAbs;have vb:=dS y.natAbs;have sx:=jH x;have sy:=jH y;have ex:encZ x=.ag [.b (decide (x<0)),aM (aU x.natAbs)]:=rfl;have ey:encZ y=.ag [.b (decide (y<0)),aM (aU y.natAbs)]:=rfl;rw[ex,ey];generalize aU x.natAbs=a at *;generalize aU y.natAbs=b at *;generalize hbx:decide (x<0)=nx at *;generalize hby:decide (y<0)=ny at *;obtain⟨n,hn⟩:∃n,a.length+b.length+1=n:=⟨_,rfl⟩;have hw1:Ag.wrap ((a.length:Int)+b.length)=(a.length:Int)+b.length:=aV;have hw2:Ag.wrap ((a.length:Int)+b.length+1)=(n:Int):=by rw[aV];omega
 have hm1:(4:Int)*n<=281474976710656:=by omega
 have hm2:(n:Int)<=9223372036854775807:=by omega
 have h00:muO a b 0=AB n 0:=by rw[<-hn];rfl
 simp[-C,-I,↓KW,aM,hw1,hw2,hm1,hm2];refine aP (λi:Nat=>i<=a.length)
  (λi=>StL [(2,.ptr 1 0),(3,.ptr 2 0),(4,.ptr 3 0),(5,.own 4 0 n 1),(6,.d (.i .i64 i))] none
   [.cells 72 [.d (.b nx),.d (aM a)],.cells 72 [.d (.b ny),.d (aM b)],.cells 72 [.d (.b false),.nil],.cells 101 ((lms (muO a b i)).map .d)]) (λi=>a.length-i) 0 (Ak _) ?_ ?_
 ·refine wkQ [1,2,3,4] ?_ ?_<;>simp[-C,upd,aO,Γ0,aM,h00]
 ·intro i hi;obtain⟨ol,om,ov⟩:=bRq la lb i hi;rw[hn]at ol;by_cases hgo:i<a.length
  ·have q1:(i:Int)<a.length:=by omega
   simp[-C,-I,↓KW,aM,q1];have hsucc:muO a b (i+1)=(muI (muO a b i) (a.getD i 0) b i (muN (muO a b i) (a.getD i 0) b i)).1:=rfl;have g1:=getD_some hgo;have hlt:=aVf la lb hi;rw[<-ov]at hlt;generalize hout:muO a b i=out at *;have hal:=la.getD i;generalize a.getD i 0=xv at *;have hwx:A2.wrap (xv:Int)=xv:=bT (by omega) (by omega);refine aP (λk:Nat=>k<=b.length\/(k=b.length+1/\(muI out xv b i b.length).2≠0))
    (λk=>StL [(2,.ptr 1 0),(3,.ptr 2 0),(4,.ptr 3 0),(5,.own 4 0 n 1),(6,.d (.i .i64 i)),(7,.d (.i .u64 (muI out xv b i k).2)),(8,.d (.i .i64 k))] none
     [.cells 72 [.d (.b nx),.d (aM a)],.cells 72 [.d (.b ny),.d (aM b)],.cells 72 [.d (.b false),.nil],.cells 101 ((lms (muI out xv b i k).1).map .d)]) (λk=>b.length+1-k) 0 (.inl (Ak _)) ?_ ?_
   ·refine wkQ [1,2,3,4] ?_ ?_<;>simp[-C,upd,aO,Γ0,aM,muI]
   ·intro k hk;have hkl:k<=b.length+1:=by omega
    obtain⟨il,ic,im,_⟩:=vO om lb hal (i:=i) (by omega) k hkl;have isucc:muI out xv b i (k+1)=((muI out xv b i k).1.set (i+k) (((muI out xv b i k).2+(muI out xv b i k).1.getD (i+k) 0+xv*b.getD k 0)%4294967296),((muI out xv b i k).2+(muI out xv b i k).1.getD (i+k) 0+xv*b.getD k 0)/4294967296):=rfl;have hstop0:=aRf om lb hal (i:=i) (by omega) hlt;have hres:(k<b.length\/0<(muI out xv b i k).2)\/muO a b (i+1)=(muI out xv b i k).1:=by
     rw[hsucc];unfold muN;rcases hk with hk|⟨hk,hc⟩
     ·by_cases h1:k=b.length
      ·subst h1;by_cases h2:(muI out xv b i b.length).2=0
       ·rw[Ae h2];exact .inr rfl
       ·exact .inl (.inr (by omega))
      ·exact .inl (.inl (by omega))
     ·rw[Ac hc,hk];exact .inr rfl
    have hnext:(k<b.length\/0<(muI out xv b i k).2)->k<=b.length/\(k+1<=b.length\/(k+1=b.length+1/\(muI out xv b i b.length).2≠0)):=by
     intro h;rcases hk with hk|⟨hk,hc⟩
     ·refine⟨hk,?_⟩;by_cases h1:k=b.length
      ·subst h1;exact .inr ⟨rfl,by omega⟩
      ·exact .inl (by omega)
     ·rw[hk,hstop0]at h;omega
    clear hstop0 hsucc;have ho:=im.getD (i+k);generalize hcar:(muI out xv b i k).2=c at *;generalize hcur:(muI out xv b i k).1=cur at *;by_cases hg2:k<b.length\/0<c
    ·obtain⟨n1,n2⟩:=hnext hg2;obtain⟨j,hj⟩:∃j,i+k=j:=⟨_,rfl⟩;rw[hj]at isucc ho;have hjl:j<cur.length:=by omega
     have g2:=aZb (getD_some hjl);have hwj:Ag.wrap ((i:Int)+k)=j:=by rw[aV];omega
     have hjn:(j:Int)<n:=by omega
     have hw8:Ag.wrap ((k:Int)+1)=(k:Int)+1:=aV;have hjl2:j<(lms cur).length:=by rw[nG];exact hjl
     have hjl3:j+1<=n:=by omega
     have hyb:=lb.getD k;have hlim:=aVe ic ho hal hyb;have hy0:¬k<b.length->b.getD k 0=0:=getD_none;have g3:k<b.length->b[k]? = some (b.getD k 0):=getD_some;generalize cur.getD j 0=o at *;generalize b.getD k 0=yv at *;obtain⟨s1,hs1⟩:∃s1:Nat,c+o=s1:=⟨_,rfl⟩;obtain⟨t,ht⟩:∃t:Nat,s1+xv*yv=t:=⟨_,rfl⟩;rw[hs1]at isucc hlim;rw[ht]at isucc hlim;obtain⟨lo,hlo⟩:∃lo:Nat,t%4294967296=lo:=⟨_,rfl⟩;obtain⟨hi',hhi⟩:∃hi':Nat,t/4294967296=hi':=⟨_,rfl⟩;rw[hlo,hhi]at isucc;have hwo:A2.wrap (o:Int)=o:=bT (by omega) (by omega);have hws:A2.wrap ((c:Int)+o)=s1:=by rw[bT (by omega) (by omega)];omega
     have hwlo:Co.wrap (t:Int)=lo:=by rw[jF];omega
     have hwhi:A2.wrap ((t:Int)/4294967296)=hi':=by rw[bT (by omega) (by omega)];omega
     have hlay:lay (AQ AV.d (lms cur)) j [AV.d (D.i .u32 (lo:Int))]=AQ AV.d (lms (cur.set j lo)):=by rw[oM _ _ _ hjl2,zC]
     have hgj:List.length cur=n:=by omega
     by_cases hkb:k<b.length
     ·have q2:(k:Int)<b.length:=by omega
      have g4:=g3 hkb;have hwy:A2.wrap (yv:Int)=yv:=bT (by omega) (by omega);obtain⟨e,he⟩:∃e:Nat,xv*yv=e:=⟨_,rfl⟩;rw[he]at ht;have hwm:A2.wrap ((xv:Int)*yv)=e:=by rw[<-FJ,he,bT (by omega) (by omega)]
      have hwt:A2.wrap ((s1:Int)+e)=t:=by rw[bT (by omega) (by omega)];omega
      simp[-C,-I,↓KW,aM,q2,hwj,hjn,g2,hwo,hws,g1,g4,hwx,hwy,hwm,hwt,hwlo,hwhi,hlay,hw8,hjl3,hgj];refine aI (k+1) n2 ?_ (wkQ [1,2,3,4] ?_ ?_)
      ·omega
      ·simp[-C,upd,aO,Γ0,aM,isucc]
      ·simp[-C,upd,aO,Γ0,aM,isucc]
     ·have q2:¬(k:Int)<b.length:=by omega
      have q3:0<c:=by omega
      have e1:t=s1:=by rw[hy0 hkb,Dh]at ht;omega
      rw[e1]at hwlo hwhi;simp[-C,-I,↓KW,aM,q2,q3,hwj,hjn,g2,hwo,hws,hwlo,hwhi,hlay,hw8,hjl3,hgj];refine aI (k+1) n2 ?_ (wkQ [1,2,3,4] ?_ ?_)
      ·omega
      ·simp[-C,upd,aO,Γ0,aM,isucc]
      ·simp[-C,upd,aO,Γ0,aM,isucc]
    ·have q2:¬(k:Int)<b.length:=by omega
     have q3:¬0<c:=by omega
     have hfin:=hres.resolve_left hg2;have hw8:Ag.wrap ((i:Int)+1)=(i:Int)+1:=aV;simp[-C,-I,↓KW,aM,q2,q3,hw8];refine aI (i+1) hgo ?_ (wkQ [1,2,3,4] ?_ ?_)
     ·omega
     ·simp[-C,upd,aO,Γ0,aM,hfin]
     ·simp[-C,upd,aO,Γ0,aM,hfin]
  ·have q1:¬(i:Int)<a.length:=by omega
   have e:i=a.length:=by omega
   rw[e,Ai (Ap _),va,vb]at ov;have hm:=iF (muO a b i) (nx != ny) (by omega);rw[fA om,e,ov]at hm;have e2:sg (nx != ny) (x.natAbs*y.natAbs)=x*y:=by rw[<-sx,<-sy];cases nx<;>cases ny<;>simp[sg,Ek,CX]
   rw[e2]at hm;rw[e]at ol;have e':muO a b i=muO a b a.length:=by rw[e]
   generalize muO a b a.length=out at *;simp[-C,-I,↓KW,aM,q1,e'];refine bK (ds:=[aM out,.b (nx != ny)]) ?_ hm ?_
   ·simp[-C,-I,↓KW,aM,ol,iB ol,fE ol];cases nx<;>cases ny<;>rfl
   ·simp[-C,-I,↓KW,aM,encZ,encI,ol,iB ol,fE ol]
def aNy{n:Nat}(h:n<=9223372036854775807):Ag.wrap (n:Int)=n:=aV
def qH(m:List Nat)(hl:m.length<=1099511627776):Spec Aa 151 [aM m] (aM (strip m)):=by
 refine bF (N:=21) Tryz.func151 ?_;simp[-C,-I,↓KW,aM];refine aP (λn:Nat=>n<=m.length/\strip (m.take n)=strip m) (λn=>StL [(0,.d (aM m)),(3,.d (.i .i64 n))] none []) (λn=>n) m.length ⟨Ap _,by simp⟩ ?_ ?_
 ·refine wkQ [] ?_ ?_<;>simp[-C,upd,aO,Γ0,aM]
 ·rintro n ⟨hn,hs⟩;rcases n with _|n
  ·have hs':strip m=[]:=hs.symm;have h0:fB 1 (m.map λ(x:Nat)=>[D.i .u32 (x:Int)])=true:=tU m _;simp[-C,-I,↓KW,aM,hs',h0]
  ·have hx:m[n]? = some m[n]:=Ab hn;have hw:Ag.wrap (n:Int)=n:=aNy (by omega);have hp:(0:Int)<(n:Int)+1:=by omega
   have hp2:(0:Int)<=(n:Int)+1:=by omega
   by_cases h0:m[n]=0
   ·simp[-C,-I,↓KW,aM,hx,hw,h0,hp];refine aI n ⟨by omega,(sR hn h0).symm.trans hs⟩ (by omega) (wkQ [] ?_ ?_)<;>simp[-C,upd,aO,Γ0,aM]
   ·have h1:((m[n]:Int)==0)=false:=by simp;omega
    have he:strip m=m.take (n+1):=hs.symm.trans (sS hn h0);have hn':(n:Int)+1<=m.length:=by omega
    obtain⟨pre,hpre⟩:∃pre,m.take (n+1)=pre:=⟨_,rfl⟩;have hp1:∀f:Nat->List D,(m.map f).take (n+1)=pre.map f:=λf=>by rw[<-hpre,By]
    rw[hpre]at he;simp[-C,-I,↓KW,aM,hx,hw,h1,hp,hp2,he,hn',hp1,tU]
def bKh(neg:Bool)(m:List Nat)(hl:m.length<=1099511627776):Spec Aa 152 [.b neg,aM m] (encI (neg&&decide (strip m≠[])) (strip m)):=by
 refine bF (N:=14) Tryz.func152 ?_;simp[-C,-I,↓KW,aM];refine aJ (qH m hl) ?_;cases hm:strip m with
 |nil =>
  cases neg<;>simp[-C,-I,↓KW,aM,encI]
 |cons x l =>
  have h1:(((l.length:Int)+1==0):Bool)=false:=by simp;omega
  cases neg<;>simp[-C,-I,↓KW,aM,encI,h1]
def oX{m:List Nat}(h:Lim m)(hl:m.length<=1099511627776)(neg:Bool):Spec Aa 152 [.b neg,aM m] (encZ (sg neg (val m))):=by rw[<-fA h];exact bKh neg m hl
def aDl(neg:Bool)(m:List Nat)(hl:m.length<=1099511627776):Spec Aa 144 [encI neg m] (.i .i64 (if strip m=[]then 0 else if neg then -1 else 1)):=by
 refine bF (N:=12) Tryz.func144 ?_;simp[-C,-I,↓KW,encI,aM];refine aJ (qH m hl) ?_;cases hm:strip m with
 |nil=>simp[-C,-I,↓KW,aM,encI]
 |cons x l =>
  have h1:(((l.length:Int)+1==0):Bool)=false:=by simp;omega
  cases neg<;>simp[-C,-I,↓KW,aM,encI,h1]
def bKi(neg:Bool)(m:List Nat)(hl:m.length<=1099511627776):Spec Aa 143 [encI neg m] (.b (match m.getLast? with|some x=>x != 0|none=>!neg)):=by
 refine bF (N:=19) Tryz.func143 ?_;rcases List.eq_nil_or_concat m with rfl|⟨m',x,rfl⟩
 ·simp[-C,-I,↓KW,encI,aM]
 ·have hw:Ag.wrap (m'.length:Int)=m'.length:=by simp at hl;rw[wrap_i64]<;>omega
  have h1:(0:Int)<(m'.length:Int)+1:=by omega
  have hg:(AQ (λ(x:Nat)=>[D.i .u32 (x:Int)]) m'++[[D.i .u32 (x:Int)]])[m'.length]? = some [D.i .u32 (x:Int)]:=by rw[Az (by simp)];simp
  simp[-C,-I,↓KW,encI,aM,hw,h1,hg];rw[DK];simp
def cBf(x:Int):Spec Aa 150 [.i .i64 x] (.b false):=by refine bF (N:=6) Tryz.func150 ?_;simp[-C,-I,↓KW]
def cBe(x:Int):Spec Aa 160 [.i .u32 x] (.b false):=by refine bF (N:=6) Tryz.func160 ?_;simp[-C,-I,↓KW]
def mG(x y:Int):Int:=if x<y then -1 else if y<x then 1 else 0
def aWg(x y:Int):Spec Aa 142 [.i .i64 x,.i .i64 y] (.i .i64 (mG x y)):=by
 refine bF (N:=20) Tryz.func142 ?_;simp[-C,-I,↓KW];refine aJ (cBf x) ?_;simp[-C,-I,↓KW];refine aJ (cBf y) ?_;by_cases h1:x<y
 ·simp[-C,-I,↓KW,h1,mG]
 ·by_cases h2:y<x<;>simp[-C,-I,↓KW,h1,h2,mG]
def cEf(x y:Int):Spec Aa 158 [.i .u32 x,.i .u32 y] (.i .i64 (mG x y)):=by
 refine bF (N:=20) Tryz.func158 ?_;simp[-C,-I,↓KW];refine aJ (cBe x) ?_;simp[-C,-I,↓KW];refine aJ (cBe y) ?_;by_cases h1:x<y
 ·simp[-C,-I,↓KW,h1,mG]
 ·by_cases h2:y<x<;>simp[-C,-I,↓KW,h1,h2,mG]
def rQ(a b:List Nat):Int:=if rH a b then -1 else if rH b a then 1 else 0
def aFr(a b:List Nat)(ha:Lim a)(hb:Lim b)(hla:a.length<=1099511627776)(hlb:b.length<=1099511627776):Spec Aa 154 [aM a,aM b] (.i .i64 (rQ a b)):=by
 refine bF (N:=35) Tryz.func154 ?_;simp[-C,-I,↓KW,aM];refine aJ (aWg _ _) ?_;by_cases hn:a.length=b.length
 rotate_left
 ·rcases Nat.lt_or_gt_of_ne hn with h|h
  ·have h1:mG a.length b.length=-1:=by unfold mG;rw[Ae (by omega)]
   have h2:rQ a b=-1:=by simp[rQ,rH,hn,h]
   simp[-C,-I,↓KW,aM,h1,h2]
  ·have h1:mG a.length b.length=1:=by unfold mG;rw[Ac (by omega),Ae (by omega)]
   have h2:rQ a b=1:=by
    have h3:¬a.length<b.length:=by omega
    have h4:¬b.length=a.length:=λe=>hn e.symm
    simp[rQ,rH,hn,h,h3,h4]
   simp[-C,-I,↓KW,aM,h1,h2]
 ·have h1:mG a.length b.length=0:=by simp[mG,hn]
  have hw:Ag.wrap ((a.length:Int)-1)=(a.length:Int)-1:=aV;simp[-C,-I,↓KW,aM,h1,hw];refine aP (λk:Nat=>k<=a.length/\a.drop k=b.drop k) (λk=>StL [(0,.d (aM a)),(1,.d (aM b)),(6,.d (.i .i64 ((k:Int)-1)))] none []) (λk=>k) a.length ⟨Ap _,by rw[Bz (Ap _),Bz (by omega)]⟩ ?_ ?_
  ·refine wkQ [] ?_ ?_<;>simp[-C,upd,aO,Γ0,aM]
  ·rintro k ⟨hk,hd⟩;rcases k with _|k
   ·have e:a=b:=by simpa using hd
    subst e;simp[-C,-I,↓KW,aM,rH,rQ]
   ·have hkb:k<b.length:=by omega
    have hxa:a[k]? = some a[k]:=Ab hk;have hxb:b[k]? = some b[k]:=Ab hkb;have hw2:Ag.wrap ((k:Int)-1)=(k:Int)-1:=aV;have hp:(0:Int)<=k:=by omega
    simp[-C,-I,↓KW,aM,hxa,hxb,hp];refine aJ (cEf _ _) ?_;by_cases he:a[k]=b[k]
    ·have h2:mG a[k] b[k]=0:=by simp[mG,he]
     simp[-C,-I,↓KW,aM,h2,hw2];refine aI k ⟨by omega,?_⟩ (by omega) (wkQ [] ?_ ?_)
     ·rw[AP hk,AP hkb,he,hd]
     ·simp[-C,upd,aO,Γ0,aM]
     ·trivial
    ·have ga:a.getD k 0=a[k]:=by rw[Af,hxa];rfl
     have gb:b.getD k 0=b[k]:=by rw[Af,hxb];rfl
     rcases Bd a[k] b[k]with hlt|hge
     ·have h3:=vB ha (i:=k) hn hk hd (by rw[ga,gb];exact hlt);have h4:mG a[k] b[k]=-1:=by unfold mG;rw[Ae (by omega)]
      have h5:rQ a b=-1:=by simp[rQ,rH,hn,h3]
      simp[-C,-I,↓KW,aM,h4,h5]
     ·have h3:=vB hb (i:=k) hn.symm hkb hd.symm (by rw[ga,gb];omega);have h4:mG a[k] b[k]=1:=by unfold mG;rw[Ac (by omega),Ae (by omega)]
      have h6:¬val a<val b:=by omega
      have h5:rQ a b=1:=by simp[rQ,rH,hn,h3,h6]
      simp[-C,-I,↓KW,aM,h4,h5]
def zp(out:List Nat)(n:Nat):List Nat:=out++AB (n-out.length) 0
def aKz{out:List Nat}{n:Nat}(h:out.length<=n):(zp out n).length=n:=by simp[zp];omega
def aLa{out:List Nat}{n:Nat}(h:out.length=n):zp out n=out:=by subst h;simp[zp]
def aTu(n:Nat):zp [] n=AB n 0:=by simp[zp]
def bWk{out:List Nat}{n i:Nat}(h:out.length=i)(hi:i<n)(v:Nat):(zp out n).set i v=zp (out++[v]) n:=by subst h;unfold zp;obtain⟨k,hk⟩:∃k,n-out.length=k+1:=⟨n-out.length-1,by omega⟩;rw[hk,List.set_append_right _ _ (Ap _),Cu,DN,CT,Al,Au,show n-(out.length+1)=k from by omega,Bg];rfl
def aDw{out:List Nat}{n i:Nat}(h:out.length=i)(hi:i<n)(v:Nat):lay (AQ AV.d (lms (zp out n))) i [AV.d (D.i .u32 (v:Int))]=AQ AV.d (lms (zp (out++[v]) n)):=by rw[oM _ _ _ (by rw[nG,aKz (by omega)];exact hi),zC,bWk h hi]
def bGd{t:Nat}:kZ .shr .u64 (t:Int) 32=some (.i .u64 ((t/4294967296:Nat):Int)):=by simp only[kZ,DC];rw[Ac (by decide)];congr 2;rw[show(2:Int)^(min (32:Int).toNat 64)=4294967296 from by decide,Di _ (by decide)];omega
def bVj{t:Int}(_h0:0<=t):kZ .shr .u64 t 63=some (.i .u64 (t/9223372036854775808)):=by simp only[kZ,DC];rw[Ac (by decide)];congr 2;rw[show(2:Int)^(min (63:Int).toNat 64)=9223372036854775808 from by decide,Di _ (by decide)]
def ip(p q:List Nat):List Nat:=(plS p q p.length).1++[(plS p q p.length).2]
def bKf{p q:List Nat}(lp:Lim p)(lq:Lim q)(h:q.length<=p.length):val (ip p q)=val p+val q/\Lim (ip p q)/\(ip p q).length=p.length+1:=by obtain⟨h1,h2,h3,h4⟩:=oL lp lq p.length;rw[Ai (Ap _),Ai h]at h4;unfold ip;refine⟨?_,h3.app (.one (by omega)),by simp[h1]⟩;rw[oI,h1];simp only[val,Dh,B9];exact h4
def uD(a b:List Nat):List Nat:=if a.length<b.length then ip b a else ip a b
def aVo{a b:List Nat}(ha:Lim a)(hb:Lim b):val (uD a b)=val a+val b/\Lim (uD a b)/\(uD a b).length<=a.length+b.length+1:=by
 unfold uD;by_cases h:a.length<b.length
 ·rw[Ae h];obtain⟨h1,h2,h3⟩:=bKf hb ha (by omega);exact⟨by omega,h2,by omega⟩
 ·rw[Ac h];obtain⟨h1,h2,h3⟩:=bKf ha hb (by omega);exact⟨h1,h2,by omega⟩
def bSr(a b:List Nat)(ha:Lim a)(hb:Lim b)(hla:a.length<=274877906944)(hlb:b.length<=274877906944):Spec Aa 153 [aM a,aM b] (aM (uD a b)):=by
 refine bF (N:=57) Tryz.func153 ?_;obtain⟨p,q,lp,lq,hqp,hpl,hr,hc⟩:∃p q:List Nat,Lim p/\Lim q/\q.length<=p.length/\p.length<=274877906944/\uD a b=ip p q/\((a.length<b.length/\p=b/\q=a)\/(¬a.length<b.length/\p=a/\q=b)):=by
  by_cases h:a.length<b.length
  ·exact⟨b,a,hb,ha,by omega,hlb,by simp[uD,h],.inl ⟨h,rfl,rfl⟩⟩
  ·exact⟨a,b,ha,hb,by omega,hla,by simp[uD,h],.inr ⟨h,rfl,rfl⟩⟩
 rw[hr];obtain⟨n,hn⟩:∃n,p.length+1=n:=⟨_,rfl⟩;have hw2:Ag.wrap ((p.length:Int)+1)=(n:Int):=by rw[aV];omega
 have hm1:(4:Int)*n<=281474976710656:=by omega
 have hm2:(n:Int)<=9223372036854775807:=by omega
 rcases hc with ⟨h,hp,hq⟩|⟨h,hp,hq⟩<;>subst hp<;>subst hq
 ·have h1:(q.length:Int)<p.length:=by omega
  simp[-C,-I,↓KW,aM,h1,hw2,hm1,hm2];refine aP (λi:Nat=>i<=p.length) (λi=>StL [(0,.d (aM p)),(1,.d (aM q)),(5,.own 1 0 n 1),(6,.d (.i .u64 (plS p q i).2)),(20,.d (.i .i64 p.length)),(21,.d (.i .i64 i))] none [.cells 101 ((lms (zp (plS p q i).1 n)).map .d)]) (λi=>p.length-i) 0 (Ak _) ?_ ?_
  ·refine wkQ [1] ?_ ?_<;>simp[-C,upd,aO,Γ0,aM,plS,aTu]
  ·intro i hi;obtain⟨hlen,hc,_,_⟩:=oL lp lq i;have hsucc:plS p q (i+1)=((plS p q i).1++[((plS p q i).2+p.getD i 0+q.getD i 0)%4294967296],((plS p q i).2+p.getD i 0+q.getD i 0)/4294967296):=rfl;have hal:=lp.getD i;have hbl:=lq.getD i;have hres:i=p.length->(plS p q i).1++[(plS p q i).2]=ip p q:=λe=>by rw[e];rfl
   generalize hout:(plS p q i).1=out at *;generalize hcar:(plS p q i).2=c at *;have hzl:(zp out n).length=n:=aKz (by omega);by_cases hgo:i<p.length
   ·have hw7:Ag.wrap ((i:Int)+1)=(i:Int)+1:=aV;have q1:(i:Int)<p.length:=by omega
    have q3:(i:Int)<n:=by omega
    have q4:i+1<=n:=by omega
    have g1:=getD_some hgo;have hb0:¬i<q.length->q.getD i 0=0:=getD_none;have g2:i<q.length->q[i]? = some (q.getD i 0):=getD_some;generalize p.getD i 0=x at *;generalize q.getD i 0=y at *;obtain⟨s1,hs1⟩:∃s1:Nat,c+x=s1:=⟨_,rfl⟩;obtain⟨s2,hs2⟩:∃s2:Nat,s1+y=s2:=⟨_,rfl⟩;rw[hs1,hs2]at hsucc;have hwx:A2.wrap (x:Int)=x:=bT (by omega) (by omega);have hwy:A2.wrap (y:Int)=y:=bT (by omega) (by omega);have hw1:A2.wrap ((c:Int)+x)=s1:=by rw[bT (by omega) (by omega)];omega
    have hw2':A2.wrap ((s1:Int)+y)=s2:=by rw[bT (by omega) (by omega)];omega
    obtain⟨lo,hlo⟩:∃lo:Nat,s2%4294967296=lo:=⟨_,rfl⟩;have hsh:=bGd (t:=s2);obtain⟨hi',hhi⟩:∃hi':Nat,s2/4294967296=hi':=⟨_,rfl⟩;rw[hhi]at hsh;have hw3:Co.wrap (s2:Int)=lo:=by rw[jF];omega
    rw[hlo,hhi]at hsucc;have hlay:=aDw hlen (show i<n by omega) lo;by_cases hbn:i<q.length
    ·have q2:(i:Int)<q.length:=by omega
     have g3:=g2 hbn;simp[-C,-I,↓KW,aM,q1,q2,q3,q4,g1,g3,hwx,hwy,hw1,hw2',hw3,hsh,hlay,hw7,hzl];refine aI (i+1) hgo ?_ (wkQ [1] ?_ ?_)
     ·omega
     ·simp[-C,upd,aO,Γ0,aM,hsucc]
     ·simp[-C,upd,aO,Γ0,aM,hsucc]
    ·have q2:¬(i:Int)<q.length:=by omega
     have e2:s2=s1:=by have:=hb0 hbn;omega
     rw[e2]at hw3 hsh;simp[-C,-I,↓KW,aM,q1,q2,q3,q4,g1,hwx,hw1,hw3,hsh,hlay,hw7,hzl];refine aI (i+1) hgo ?_ (wkQ [1] ?_ ?_)
     ·omega
     ·simp[-C,upd,aO,Γ0,aM,hsucc]
     ·simp[-C,upd,aO,Γ0,aM,hsucc]
   ·have e:i=p.length:=by omega
    have h1:¬(i:Int)<p.length:=by omega
    have h4:=hres e;have hn':(p.length:Int)<n:=by omega
    have hn2:p.length+1<=n:=by omega
    have hw3:Co.wrap (c:Int)=c:=kN (by omega) (by omega);have hlay:=aDw (hlen.trans e) (show p.length<n by omega) c;have hfl:(out++[c]).length=n:=by simp;omega
    have h5:zp (out++[c]) n=out++[c]:=aLa hfl;rw[h5,h4]at hlay;rw[h4]at hfl;simp[-C,-I,↓KW,aM,h1,hn',hn2,hw3,hlay,hzl,hfl,iB hfl,fE hfl]
 ·have h1:¬(p.length:Int)<q.length:=by omega
  simp[-C,-I,↓KW,aM,h1,hw2,hm1,hm2];refine aP (λi:Nat=>i<=p.length) (λi=>StL [(0,.d (aM p)),(1,.d (aM q)),(5,.own 1 0 n 1),(6,.d (.i .u64 (plS p q i).2)),(20,.d (.i .i64 p.length)),(21,.d (.i .i64 i))] none [.cells 101 ((lms (zp (plS p q i).1 n)).map .d)]) (λi=>p.length-i) 0 (Ak _) ?_ ?_
  ·refine wkQ [1] ?_ ?_<;>simp[-C,upd,aO,Γ0,aM,plS,aTu]
  ·intro i hi;obtain⟨hlen,hc,_,_⟩:=oL lp lq i;have hsucc:plS p q (i+1)=((plS p q i).1++[((plS p q i).2+p.getD i 0+q.getD i 0)%4294967296],((plS p q i).2+p.getD i 0+q.getD i 0)/4294967296):=rfl;have hal:=lp.getD i;have hbl:=lq.getD i;have hres:i=p.length->(plS p q i).1++[(plS p q i).2]=ip p q:=λe=>by rw[e];rfl
   generalize hout:(plS p q i).1=out at *;generalize hcar:(plS p q i).2=c at *;have hzl:(zp out n).length=n:=aKz (by omega);by_cases hgo:i<p.length
   ·have hw7:Ag.wrap ((i:Int)+1)=(i:Int)+1:=aV;have q1:(i:Int)<p.length:=by omega
    have q3:(i:Int)<n:=by omega
    have q4:i+1<=n:=by omega
    have g1:=getD_some hgo;have hb0:¬i<q.length->q.getD i 0=0:=getD_none;have g2:i<q.length->q[i]? = some (q.getD i 0):=getD_some;generalize p.getD i 0=x at *;generalize q.getD i 0=y at *;obtain⟨s1,hs1⟩:∃s1:Nat,c+x=s1:=⟨_,rfl⟩;obtain⟨s2,hs2⟩:∃s2:Nat,s1+y=s2:=⟨_,rfl⟩;rw[hs1,hs2]at hsucc;have hwx:A2.wrap (x:Int)=x:=bT (by omega) (by omega);have hwy:A2.wrap (y:Int)=y:=bT (by omega) (by omega);have hw1:A2.wrap ((c:Int)+x)=s1:=by rw[bT (by omega) (by omega)];omega
    have hw2':A2.wrap ((s1:Int)+y)=s2:=by rw[bT (by omega) (by omega)];omega
    obtain⟨lo,hlo⟩:∃lo:Nat,s2%4294967296=lo:=⟨_,rfl⟩;have hsh:=bGd (t:=s2);obtain⟨hi',hhi⟩:∃hi':Nat,s2/4294967296=hi':=⟨_,rfl⟩;rw[hhi]at hsh;have hw3:Co.wrap (s2:Int)=lo:=by rw[jF];omega
    rw[hlo,hhi]at hsucc;have hlay:=aDw hlen (show i<n by omega) lo;by_cases hbn:i<q.length
    ·have q2:(i:Int)<q.length:=by omega
     have g3:=g2 hbn;simp[-C,-I,↓KW,aM,q1,q2,q3,q4,g1,g3,hwx,hwy,hw1,hw2',hw3,hsh,hlay,hw7,hzl];refine aI (i+1) hgo ?_ (wkQ [1] ?_ ?_)
     ·omega
     ·simp[-C,upd,aO,Γ0,aM,hsucc]
     ·simp[-C,upd,aO,Γ0,aM,hsucc]
    ·have q2:¬(i:Int)<q.length:=by omega
     have e2:s2=s1:=by have:=hb0 hbn;omega
     rw[e2]at hw3 hsh;simp[-C,-I,↓KW,aM,q1,q2,q3,q4,g1,hwx,hw1,hw3,hsh,hlay,hw7,hzl];refine aI (i+1) hgo ?_ (wkQ [1] ?_ ?_)
     ·omega
     ·simp[-C,upd,aO,Γ0,aM,hsucc]
     ·simp[-C,upd,aO,Γ0,aM,hsucc]
   ·have e:i=p.length:=by omega
    have h1:¬(i:Int)<p.length:=by omega
    have h4:=hres e;have hn':(p.length:Int)<n:=by omega
    have hn2:p.length+1<=n:=by omega
    have hw3:Co.wrap (c:Int)=c:=kN (by omega) (by omega);have hlay:=aDw (hlen.trans e) (show p.length<n by omega) c;have hfl:(out++[c]).length=n:=by simp;omega
    have h5:zp (out++[c]) n=out++[c]:=aLa hfl;rw[h5,h4]at hlay;rw[h4]at hfl;simp[-C,-I,↓KW,aM,h1,hn',hn2,hw3,hlay,hzl,hfl,iB hfl,fE hfl]
def aRq(a b:List Nat)(ha:Lim a)(hb:Lim b)(hla:a.length<=274877906944):Spec Aa 155 [aM a,aM b] (aM (qQ a b)):=by
 refine bF (N:=44) Tryz.func155 ?_;obtain⟨n,hn⟩:∃n,a.length=n:=⟨_,rfl⟩;have hm1:(4:Int)*n<=281474976710656:=by omega
 have hm2:(n:Int)<=9223372036854775807:=by omega
 simp[-C,-I,↓KW,aM,hn,hm1,hm2];refine aP (λi:Nat=>i<=n) (λi=>StL [(0,.d (aM a)),(1,.d (aM b)),(5,.own 1 0 n 1),(6,.d (.i .u64 (miS a b i).2)),(13,.d (.i .i64 n)),(14,.d (.i .i64 i))] none [.cells 101 ((lms (zp (miS a b i).1 n)).map .d)]) (λi=>n-i) 0 (Ak _) ?_ ?_
 ·refine wkQ [1] ?_ ?_<;>simp[-C,upd,aO,Γ0,aM,miS,aTu,hn]
 ·intro i hi;obtain⟨hlen,hc,_,_⟩:=aMl ha hb i;have hsucc:=aRh a b i;have hal:=ha.getD i;have hbl:=hb.getD i;have hres:i=n->(miS a b i).1=qQ a b:=λe=>by rw[e,<-hn];rfl
  generalize hout:(miS a b i).1=out at *;generalize hcar:(miS a b i).2=c at *;have hzl:(zp out n).length=n:=aKz (by omega);by_cases hgo:i<n
  ·have hw7:Ag.wrap ((i:Int)+1)=(i:Int)+1:=aV;have q1:(i:Int)<n:=by omega
   have q4:i+1<=n:=hgo;have g1:=getD_some (l:=a) (i:=i) (by omega);have hb0:¬i<b.length->b.getD i 0=0:=getD_none;have g2:i<b.length->b[i]? = some (b.getD i 0):=getD_some;generalize a.getD i 0=x at *;generalize b.getD i 0=y at *;have hwx:A2.wrap (x:Int)=x:=bT (by omega) (by omega);have hwy:A2.wrap (y:Int)=y:=bT (by omega) (by omega);obtain⟨d1,hd1⟩:∃d1:Int,A2.wrap ((x:Int)-c)=d1:=⟨_,rfl⟩;obtain⟨d,hd⟩:∃d:Int,A2.wrap (d1-y)=d:=⟨_,rfl⟩;have hd1':=hd1;have hd':=hd;rw[aAf]at hd1' hd';have hfin:∃(lo bw:Nat),miS a b (i+1)=(out++[lo],bw)/\Co.wrap d=lo/\kZ .shr .u64 d 63=some (.i .u64 (bw:Int)):=by
    by_cases hle:c+y<=x
    ·rw[Ae hle]at hsucc;refine⟨_,_,hsucc,?_,?_⟩
     ·rw[jF];omega
     ·rw[bVj (by omega)];congr 2;omega
    ·rw[Ac hle]at hsucc;refine⟨_,_,hsucc,?_,?_⟩
     ·rw[jF];omega
     ·rw[bVj (by omega)];congr 2;omega
   obtain⟨lo,bw,hs,hlo,hbw⟩:=hfin;have hlay:=aDw hlen hgo lo;by_cases hbn:i<b.length
   ·have q2:(i:Int)<b.length:=by omega
    have g3:=g2 hbn;simp[-C,-I,↓KW,aM,q1,q2,g1,g3,hwx,hwy,hd1,hd,hlo,hbw,hlay,hw7,hzl,q4];refine aI (i+1) hgo ?_ (wkQ [1] ?_ ?_)
    ·omega
    ·simp[-C,upd,aO,Γ0,aM,hs]
    ·simp[-C,upd,aO,Γ0,aM,hs]
   ·have q2:¬(i:Int)<b.length:=by omega
    have e1:d1=d:=by have:=hb0 hbn;omega
    rw[e1]at hd1;simp[-C,-I,↓KW,aM,q1,q2,g1,hwx,hd1,hlo,hbw,hlay,hw7,hzl,q4];refine aI (i+1) hgo ?_ (wkQ [1] ?_ ?_)
    ·omega
    ·simp[-C,upd,aO,Γ0,aM,hs]
    ·simp[-C,upd,aO,Γ0,aM,hs]
  ·have e:i=n:=by omega
   have h1:¬(i:Int)<n:=by omega
   have h4:=hres e;have h5:zp out n=out:=aLa (by omega);have hlen':out.length=n:=by omega
   simp[-C,-I,↓KW,aM,h1,h5,hlen',iB hlen',fE hlen',<-h4]
def bWo(l:List Nat)(j:Nat):4294967296^j*l.getD j 0<=val l:=by
 have h:=eA l j;have e:val l=val (l.take (j+1))+4294967296^(l.take (j+1)).length*val (l.drop (j+1)):=by rw[<-oI,List.take_append_drop]
 have h2:val (l.take (j+1))<=val l:=by rw[e];exact Nat.le_add_right _ _
 rw[h]at h2;exact An (Nat.le_add_left _ _) h2
def aCn{l:List Nat}{j:Nat}(h:val l<4294967296^j):l.getD j 0=0:=by
 have h1:=bWo l j;rcases B7 (l.getD j 0)with h2|h2
 ·exact h2
 ·exfalso;have:4294967296^j*1<=4294967296^j*l.getD j 0:=BC _ h2;rw[DP]at this;omega
def bCs{out b:List Nat}{x i:Nat}(k j:Nat)(h:i+k<=j):(muI out x b i k).1.getD j 0=out.getD j 0:=by
 induction k with
 |zero=>rfl
 |succ k ih =>
  have:=ih (by omega);rw[<-this];simp only[muI,Af];rw[FC (by omega)]
def tmO(a b:List Nat):Nat->List Nat
 |0=>AB (a.length+b.length) 0
 |i+1=>(muI (tmO a b i) (a.getD i 0) b i b.length).1.set (i+b.length) (muI (tmO a b i) (a.getD i 0) b i b.length).2
def aXw{a b:List Nat}(ha:Lim a)(hb:Lim b)(i:Nat)(hi:i<=a.length):(tmO a b i).length=a.length+b.length/\Lim (tmO a b i)/\val (tmO a b i)=val (a.take i)*val b:=by
 induction i with
 |zero=>exact⟨by simp[tmO],.rep _,by simp[tmO,aCt,val]⟩
 |succ i ih =>
  obtain⟨h1,h2,h3⟩:=ih (by omega);have hv:=aVf ha hb (i:=i) (by omega);rw[<-h3]at hv;have hx:=ha.getD i;obtain⟨q1,q2,q3,q4⟩:=vO (x:=a.getD i 0) (i:=i) h2 hb hx (by omega) b.length (by omega);have habove:=bCs (out:=tmO a b i) (b:=b) (x:=a.getD i 0) (i:=i) b.length (i+b.length) (Ap _);rw[aCn hv]at habove;rw[Ai (Ap _)]at q4;have hset:=aLj (l:=(muI (tmO a b i) (a.getD i 0) b i b.length).1) (j:=i+b.length) (by omega) (muI (tmO a b i) (a.getD i 0) b i b.length).2;rw[habove,Dh,B9,q4]at hset;refine⟨?_,q3.set _ q2,?_⟩
  ·show(List.set _ _ _).length=_;rw[E5,q1,h1]
  ·show val (List.set _ _ _)=_;rw[hset,h3,eA,Bw,Ce]
def aEf(a b:List Nat):List Nat:=tmO a b a.length
def aUa{a b:List Nat}(ha:Lim a)(hb:Lim b):val (aEf a b)=val a*val b/\Lim (aEf a b)/\(aEf a b).length=a.length+b.length:=by obtain⟨h1,h2,h3⟩:=aXw ha hb a.length (Ap _);rw[Ai (Ap _)]at h3;exact⟨h3,h2,h1⟩
def bKj(a b:List Nat)(la:Lim a)(lb:Lim b)(hla:a.length<=137438953472)(hlb:b.length<=137438953472):Spec Aa 156 [aM a,aM b] (aM (aEf a b)):=by
 refine bF (N:=66) Tryz.func156 ?_;obtain⟨n,hn⟩:∃n,a.length+b.length=n:=⟨_,rfl⟩;have hw1:Ag.wrap ((a.length:Int)+b.length)=(n:Int):=by rw[aV];omega
 have hm1:(4:Int)*n<=281474976710656:=by omega
 have hm2:(n:Int)<=9223372036854775807:=by omega
 have h00:tmO a b 0=AB n 0:=by rw[<-hn];rfl
 simp[-C,-I,↓KW,aM,hw1,hm1,hm2];refine aP (λi:Nat=>i<=a.length)
  (λi=>StL [(0,.d (aM a)),(1,.d (aM b)),(5,.own 1 0 n 1),(17,.d (aM a)),(18,.d (.i .i64 a.length)),(19,.d (.i .i64 i))] none [.cells 101 ((lms (tmO a b i)).map .d)]) (λi=>a.length-i) 0 (Ak _) ?_ ?_
 ·refine wkQ [1] ?_ ?_<;>simp[-C,upd,aO,Γ0,aM,h00]
 ·intro i hi;obtain⟨ol,om,ov⟩:=aXw la lb i hi;rw[hn]at ol;by_cases hgo:i<a.length
  ·have q1:(i:Int)<a.length:=by omega
   have g1:=getD_some hgo;have hsucc:tmO a b (i+1)=(muI (tmO a b i) (a.getD i 0) b i b.length).1.set (i+b.length) (muI (tmO a b i) (a.getD i 0) b i b.length).2:=rfl;have hal:=la.getD i;generalize hout:tmO a b i=out at *;generalize a.getD i 0=xv at *;simp[-C,-I,↓KW,aM,q1,g1];have hwx:A2.wrap (xv:Int)=xv:=bT (by omega) (by omega);refine aP (λk:Nat=>k<=b.length)
    (λk=>StL [(0,.d (aM a)),(1,.d (aM b)),(5,.own 1 0 n 1),(17,.d (aM a)),(18,.d (.i .i64 a.length)),(19,.d (.i .i64 i)),(6,.d (.i .i64 i)),(7,.d (.i .u32 xv)),(8,.d (.i .u64 (muI out xv b i k).2)),(24,.d (aM b)),(25,.d (.i .i64 b.length)),(26,.d (.i .i64 k))] none
     [.cells 101 ((lms (muI out xv b i k).1).map .d)]) (λk=>b.length-k) 0 (Ak _) ?_ ?_
   ·refine wkQ [1] ?_ ?_<;>simp[-C,upd,aO,Γ0,aM,muI]
   ·intro k hk;obtain⟨il,ic,im,_⟩:=vO om lb hal (i:=i) (by omega) k (by omega);have isucc:muI out xv b i (k+1)=((muI out xv b i k).1.set (i+k) (((muI out xv b i k).2+(muI out xv b i k).1.getD (i+k) 0+xv*b.getD k 0)%4294967296),((muI out xv b i k).2+(muI out xv b i k).1.getD (i+k) 0+xv*b.getD k 0)/4294967296):=rfl;have hres:k=b.length->tmO a b (i+1)=(muI out xv b i k).1.set (i+b.length) (muI out xv b i k).2:=λe=>by rw[e];exact hsucc
    clear hsucc;have ho:=im.getD (i+k);generalize hcar:(muI out xv b i k).2=c at *;generalize hcur:(muI out xv b i k).1=cur at *;have hgj:List.length cur=n:=by omega
    by_cases hkb:k<b.length
    ·obtain⟨j,hj⟩:∃j,i+k=j:=⟨_,rfl⟩;rw[hj]at isucc ho;have hjl:j<cur.length:=by omega
     have g2:=aZb (getD_some hjl);have hwj:Ag.wrap ((i:Int)+k)=j:=by rw[aV];omega
     have hjn:(j:Int)<n:=by omega
     have hw8:Ag.wrap ((k:Int)+1)=(k:Int)+1:=aV;have hjl2:j<(lms cur).length:=by rw[nG];exact hjl
     have hjl3:j+1<=n:=by omega
     have hyb:=lb.getD k;have hlim:=aVe ic ho hal hyb;have g4:=getD_some hkb;have q2:(k:Int)<b.length:=by omega
     generalize cur.getD j 0=o at *;generalize b.getD k 0=yv at *;obtain⟨e,he⟩:∃e:Nat,xv*yv=e:=⟨_,rfl⟩;rw[he]at isucc hlim;obtain⟨s1,hs1⟩:∃s1:Nat,e+o=s1:=⟨_,rfl⟩;obtain⟨t,ht⟩:∃t:Nat,c+o+e=t:=⟨_,rfl⟩;rw[ht]at isucc hlim;obtain⟨lo,hlo⟩:∃lo:Nat,t%4294967296=lo:=⟨_,rfl⟩;have hsh:=bGd (t:=t);obtain⟨hi',hhi⟩:∃hi':Nat,t/4294967296=hi':=⟨_,rfl⟩;rw[hlo,hhi]at isucc;rw[hhi]at hsh;have hwo:A2.wrap (o:Int)=o:=bT (by omega) (by omega);have hwy:A2.wrap (yv:Int)=yv:=bT (by omega) (by omega);have hwm:A2.wrap ((xv:Int)*yv)=e:=by rw[<-FJ,he,bT (by omega) (by omega)]
     have hws:A2.wrap ((e:Int)+o)=s1:=by rw[bT (by omega) (by omega)];omega
     have hwt:A2.wrap ((c:Int)+s1)=t:=by rw[bT (by omega) (by omega)];omega
     have hwlo:Co.wrap (t:Int)=lo:=by rw[jF];omega
     have hlay:lay (AQ AV.d (lms cur)) j [AV.d (D.i .u32 (lo:Int))]=AQ AV.d (lms (cur.set j lo)):=by rw[oM _ _ _ hjl2,zC]
     simp[-C,-I,↓KW,aM,q2,hwj,hjn,g2,hwo,hws,g1,g4,hwx,hwy,hwm,hwt,hwlo,hsh,hlay,hw8,hjl3,hgj];refine aI (k+1) hkb ?_ (wkQ [1] ?_ ?_)
     ·omega
     ·simp[-C,upd,aO,Γ0,aM,isucc]
     ·simp[-C,upd,aO,Γ0,aM,isucc]
    ·have q2:¬(k:Int)<b.length:=by omega
     have hfin:=hres (by omega);have hw8:Ag.wrap ((i:Int)+1)=(i:Int)+1:=aV;obtain⟨j,hj⟩:∃j,i+b.length=j:=⟨_,rfl⟩;rw[hj]at hfin;have hwj:Ag.wrap ((i:Int)+b.length)=j:=by rw[aV];omega
     have hjn:(j:Int)<n:=by omega
     have hjl3:j+1<=n:=by omega
     have hjl2:j<(lms cur).length:=by rw[nG];omega
     have hwc:Co.wrap (c:Int)=c:=kN (by omega) (by omega);have hlay:lay (AQ AV.d (lms cur)) j [AV.d (D.i .u32 (c:Int))]=AQ AV.d (lms (cur.set j c)):=by rw[oM _ _ _ hjl2,zC]
     simp[-C,-I,↓KW,aM,q2,hw8,hwj,hjn,hjl3,hwc,hlay,hgj];refine aI (i+1) hgo ?_ (wkQ [1] ?_ ?_)
     ·omega
     ·simp[-C,upd,aO,Γ0,aM,hfin]
     ·simp[-C,upd,aO,Γ0,aM,hfin]
  ·have q1:¬(i:Int)<a.length:=by omega
   have e:i=a.length:=by omega
   have e':tmO a b i=aEf a b:=by rw[e];rfl
   rw[e']at ol;simp[-C,-I,↓KW,aM,q1,e',ol,iB ol,fE ol]
def aMn(x y:Int)(hx:(aU x.natAbs).length<=137438953472)(hy:(aU y.natAbs).length<=137438953472):Spec Aa 147 [encZ x,encZ y] (encZ (x*y)):=by
 refine bF (N:=18) Tryz.func147 ?_;have la:=cX x.natAbs;have lb:=cX y.natAbs;have va:=dS x.natAbs;have vb:=dS y.natAbs;have ta:=qH (aU x.natAbs) (by omega);have tb:=qH (aU y.natAbs) (by omega);rw[iW la,va]at ta;rw[iW lb,vb]at tb;have sx:=jH x;have sy:=jH y;have ex:encZ x=.ag [.b (decide (x<0)),aM (aU x.natAbs)]:=rfl;have ey:encZ y=.ag [.b (decide (y<0)),aM (aU y.natAbs)]:=rfl;rw[ex,ey];generalize aU x.natAbs=a at *;generalize aU y.natAbs=b at *;generalize hbx:decide (x<0)=nx at *;generalize hby:decide (y<0)=ny at *;obtain⟨tv,tl,tn⟩:=aUa la lb;simp[-C,-I,↓KW,aM];refine aJ ta ?_;simp[-C,-I,↓KW,aM];refine aJ tb ?_;simp[-C,-I,↓KW,aM];refine aJ (bKj a b la lb hx hy) ?_;simp[-C,-I,↓KW,aM];have hm:=oX tl (by omega) (!(nx==ny));rw[tv,va,vb]at hm;have e2:sg (!(nx==ny)) (x.natAbs*y.natAbs)=x*y:=by rw[<-sx,<-sy];cases nx<;>cases ny<;>simp[sg,Ek,CX]
 rw[e2]at hm;refine aJ hm ?_;simp[-C,-I,↓KW,aM,encZ,encI]
def aMo(x y:Int)(hx:(aU x.natAbs).length<=137438953472)(hy:(aU y.natAbs).length<=137438953472):Spec Aa 146 [encZ x,encZ y] (encZ (x+y)):=by
 refine bF (N:=42) Tryz.func146 ?_;have la:=cX x.natAbs;have lb:=cX y.natAbs;have va:=dS x.natAbs;have vb:=dS y.natAbs;have ta:=qH (aU x.natAbs) (by omega);have tb:=qH (aU y.natAbs) (by omega);rw[iW la,va]at ta;rw[iW lb,vb]at tb;have hless:(aU x.natAbs).length<(aU y.natAbs).length->x.natAbs<y.natAbs:=kH;have hless2:(aU y.natAbs).length<(aU x.natAbs).length->y.natAbs<x.natAbs:=kH;have hl:=aFr _ _ la lb (by omega) (by omega);have hcmp:(x.natAbs<y.natAbs->rQ (aU x.natAbs) (aU y.natAbs)<0)/\(¬x.natAbs<y.natAbs->¬rQ (aU x.natAbs) (aU y.natAbs)<0):=by
  unfold rQ;rw[lB,lB];constructor
  ·intro h;rw[Ae (by simpa using h)];decide
  ·intro h;rw[Ac (by simpa using h)];split<;>decide
 have sx:=jH x;have sy:=jH y;have ex:encZ x=.ag [.b (decide (x<0)),aM (aU x.natAbs)]:=rfl;have ey:encZ y=.ag [.b (decide (y<0)),aM (aU y.natAbs)]:=rfl;rw[ex,ey];generalize aU x.natAbs=a at *;generalize aU y.natAbs=b at *;generalize hbx:decide (x<0)=nx at *;generalize hby:decide (y<0)=ny at *;simp[-C,-I,↓KW,aM];refine aJ ta ?_;simp[-C,-I,↓KW,aM];refine aJ tb ?_;by_cases hn:nx=ny
 ·have h1:(nx==ny)=true:=by simpa using hn
  simp[-C,-I,↓KW,aM,h1];obtain⟨pv,pl,pn⟩:=aVo la lb;refine aJ (bSr a b la lb (by omega) (by omega)) ?_;simp[-C,-I,↓KW,aM];have hm:=oX pl (by omega) nx;rw[pv,va,vb]at hm;have e:sg nx (x.natAbs+y.natAbs)=x+y:=by rw[<-sx,<-sy,<-hn];cases nx<;>simp[sg]<;>omega
  rw[e]at hm;refine aJ hm ?_;simp[-C,-I,↓KW,aM,encZ,encI]
 ·have h1:(nx==ny)=false:=by simpa using hn
  simp[-C,-I,↓KW,aM,h1];refine aJ hl ?_;by_cases hlt:x.natAbs<y.natAbs
  ·have h2:=hcmp.1 hlt;simp[-C,-I,↓KW,aM,h2];obtain⟨pv,pl,pn⟩:=sB lb la (by omega) (by omega);refine aJ (aRq b a lb la (by omega)) ?_;simp[-C,-I,↓KW,aM];have hm:=oX pl (by omega) ny;rw[pv,va,vb]at hm;have e:sg ny (y.natAbs-x.natAbs)=x+y:=by rw[<-sx,<-sy];cases nx<;>cases ny<;>simp[sg]at hn ⊢<;>omega
   rw[e]at hm;refine aJ hm ?_;simp[-C,-I,↓KW,aM,encZ,encI]
  ·have h2:=hcmp.2 hlt;simp[-C,-I,↓KW,aM,h2];obtain⟨pv,pl,pn⟩:=sB la lb (by omega) (by omega);refine aJ (aRq a b la lb (by omega)) ?_;simp[-C,-I,↓KW,aM];have hm:=oX pl (by omega) nx;rw[pv,va,vb]at hm;have e:sg nx (x.natAbs-y.natAbs)=x+y:=by rw[<-sx,<-sy];cases nx<;>cases ny<;>simp[sg]at hn ⊢<;>omega
   rw[e]at hm;refine aJ hm ?_;simp[-C,-I,↓KW,aM,encZ,encI]
def eL(f:Int×Int):List D:=[.i .i64 f.1,.b (decide (f.2<0)),aM (aU f.2.natAbs)]
def aK(l:List (Int×Int)):D:=.sl (l.map eL)
def fcs(l:List (Int×Int)):List D:=(l.map eL).flatten
def vY(l:List (Int×Int)):(fcs l).length=l.length*3:=by
 unfold fcs;induction l with
 |nil=>rfl
 |cons x l ih=>simp only[A0,BE,Al,ih,eL,AH,Bo];omega
def bTm:fcs []=[]:=rfl
def fT(a b:List (Int×Int)):fcs (a++b)=fcs a++fcs b:=by simp[fcs]
def dM(f:Int×Int):fcs [f]=[.i .i64 f.1,.b (decide (f.2<0)),aM (aU f.2.natAbs)]:=rfl
def bTl(f g:Int×Int):fcs [f,g]=[.i .i64 f.1,.b (decide (f.2<0)),aM (aU f.2.natAbs),.i .i64 g.1,.b (decide (g.2<0)),aM (aU g.2.natAbs)]:=rfl
def aF(m:List Nat):one (.d (aM m))=true:=rfl
def aD(m:List Nat):fN (.d (aM m))=some [.d (aM m)]:=rfl
def aG(m:List Nat):aO (aM m)=.d (aM m):=rfl
def bTn(l:List (Int×Int)):((fcs l).map AV.d).all one=true:=by
 unfold fcs;induction l with
 |nil=>rfl
 |cons x l ih =>
  simp only[A0,BE,Bt,List.all_append,ih,Bool.and_true];rfl
def jU(l:List (Int×Int)):(∀x,x∈fcs l->one (AV.d x)=true)↔True:=⟨λ_=>trivial,λ_ _ hx=>Ay.1 (bTn l) _ (FQ hx)⟩
def wC{l:List (Int×Int)}{n:Nat}(h:l.length=n):chunk 3 n (fcs l)=l.map eL:=by subst h;have:=aCd (l.map eL) (λx hx=>by obtain⟨y,_,rfl⟩:=AA.1 hx;rfl);rwa [AL]at this
def oQ{l:List (Int×Int)}{n:Nat}(h:l.length=n):BB (n*3) ((fcs l).map AV.d)=(fcs l).map AV.d:=Ai (by simp[vY,h])
def bE(f:Int×Int):eL f=[.i .i64 f.1,.b (decide (f.2<0)),aM (aU f.2.natAbs)]:=rfl
def aS{n:Nat}(h:n<=1099511627776):n<=maxLen:=An h (by decide)
def cG{n:Nat}(h:n<=2147483648):(n+1)*40<=140737488355328/\n+1<=1099511627776/\(n+1+1)*40<=140737488355328/\n+1+1<=1099511627776:=by refine⟨by omega,by omega,by omega,by omega⟩
def Sz(z:Int):Prop:=(aU z.natAbs).length<=137438953472
def aZ(m:List Nat):inj (aM m)=.d (aM m):=rfl
def aW(H:Hp)(avs:List AV)(m:List Nat):bR H avs (aM m)=fK H avs:=rfl
def aY(z:Int):encZ z=.ag [.b (decide (z<0)),aM (aU z.natAbs)]:=rfl
def aKd:encZ 0=.ag [.b false,.sl []]:=by unfold encZ encI;rw[show(0:Int).natAbs=0 from rfl,dG];rfl
def aEk(z:Int):strip (aU z.natAbs)=[]↔z=0:=by rw[iW (cX _),dS,fP];omega
def uE(z:Int)(hz:Sz z):Spec Aa 144 [encZ z] (.i .i64 z.sign):=by
 have:=aDl (decide (z<0)) (aU z.natAbs) (An hz (by decide));have e:(if strip (aU z.natAbs)=[]then(0:Int)else if(decide (z<0))=true then -1 else 1)=z.sign:=by
  simp only[aEk];rcases ED z 0 with h|h|h
  ·rw[Ac (by omega),Ae (by simpa using h),CS h]
  ·subst h;rfl
  ·rw[Ac (by omega),Ac (by simp;omega),Dj h]
 rwa [e]at this
end Go.Am
end
section
open List renaming map_map->C,mapM_map->I
open Go Go.Am Go.Proofs
namespace Go.Am
open Go.ChangeShapes Go.WideShapes Go.ChangeAt Go.RowKit
def bMp{w:World}{a:Addr}{v:Value}(h:w.cell? a=some v):a.block<w.heap.size:=by
 unfold World.cell? at h;cases hb:w.heap[a.block]? with
 |none=>rw[hb]at h;cases h
 |some o=>exact(BT.1 hb).1
def bJj{α:Type}{Q:Nat->α->Prop}:∀{n:Nat},(∀i,i<n->∃y,Q i y)->∃l:List α,l.length=n/\∀(i:Nat) (y:α),l[i]? = some y->Q i y
 |0,_=>⟨[],rfl,λi y h=>by simp at h⟩
 |n+1,h=>by
  obtain⟨l,hl,hq⟩:=bJj (n:=n) λi hi=>h i (Nat.lt_succ_of_lt hi)
  obtain⟨y,hy⟩:=h n (AK n);refine⟨l++[y],by simp[hl],λi z hz=>?_⟩;rcases Bd i l.length with h1|h1
  ·rw[AJ h1]at hz;exact hq i z hz
  ·rw[Az h1]at hz;have h2:i-l.length=0:=by
    rcases B7 (i-l.length)with h3|h3
    ·exact h3
    ·rw[AW (by simp;omega)]at hz;cases hz
   rw[h2]at hz;simp at hz;subst hz;rwa [show i=n by omega]
def bEb{w:World}{n:Nat}{a:Addr}{cs:List Value}(h:w.cells? 0 a n=some cs):∀k,k<n->w.cell? (a.add k)=cs[k]? := by intro k hk;unfold World.cells? at h;rw[Ae (Ak _)]at h;have:=mapM_some_get h k k (by simp[hk]);exact this
def aJd{α:Type}{P:Program}{H:Type}{enc:TypeId×Value->H}{w:World}{sp:Nat->Bool}{held:Bool}{t e:TypeId}{cs:List Value}{x:DataW H×List MemPlace}{fuel:Nat}(ht:P.underlying t=some (.slice e))(hc:0<P.cellsOf e)(E:α->List D)(good:α->Prop)
  (hE:∀(fuel:Nat) (cs:List Value) (x:DataW H×List MemPlace),DataW.trod enc P w 0 sp held fuel e cs=some x->∃y:α,good y/\(E y).length=P.cellsOf e/\∀(k:Nat) (c:D) (v:Value),(E y)[k]? = some c->cs[k]? = some v->VD (λb=>b<w.heap.size) w c v)
  (hf:DataW.trod enc P w 0 sp held fuel t cs=some x):∃(v:Value) (l:List α),cs=[v]/\VD (λb=>b<w.heap.size) w (.sl (l.map E)) v/\(∀y∈l,good y)/\l.length<=9223372036854775807:=by
 rcases DataW.trod_slice ht hf with ⟨hcs,_⟩|⟨a,len,cap,elems,rest,n,_,hcs,_,_,hlc,hcm,hel,hEl,_⟩
 ·exact⟨_,[],hcs,.sl0 _ _,(λp hp=>by cases hp),Ak _⟩
 ·have each:∀i,i<len->∃y:α,good y/\(E y).length=P.cellsOf e/\∀(k:Nat),k<P.cellsOf e->∃v,w.cell? (a.add (i*P.cellsOf e+k))=some v/\∀c:D,(E y)[k]? = some c->VD (λb=>b<w.heap.size) w c v:=by
   intro i hi;have h1:=hEl i hi;rw[Ab (by omega)]at h1;obtain⟨vs,h2,h3⟩:=Option.bind_eq_some_iff.1 h1;obtain⟨y,g,hy,hv⟩:=hE _ _ _ h3;refine⟨y,g,hy,λk hk=>?_⟩;have h4:=bEb h2 k hk;rw[add_add]at h4;have h5:k<vs.length:=by unfold World.cells? at h2;rw[Ae (Ak _)]at h2;have:=mapM_some_length h2;simp at this;omega
   rw[Ab h5]at h4;exact⟨_,h4,λc hc=>hv k c _ hc (Ab h5)⟩
  obtain⟨l,hl,hq⟩:=bJj each
  have hgood:∀y∈l,good y:=λy hy=>by obtain⟨i,hi,rfl⟩:=BL.1 hy;exact(hq i _ (Ab hi)).1
  refine⟨_,l,hcs,?_,hgood,by rw[hl];exact An hlc hcm⟩
  rcases B7 len with h0|hpos
  ·have:l=[]:=AE (by omega)
   subst this;subst h0;exact .sl0 _ _
  ·have hab:a.block<w.heap.size:=by obtain⟨y,_,_,hy⟩:=each 0 hpos;obtain⟨v,hv,_⟩:=hy 0 hc;have:=bMp hv;rwa [block_add]at this
   refine .sl _ a len cap (P.cellsOf e) (λj=>(w.cell? (a.add j)).getD undef) (by simp[hl]) hlc (λcs hcs=>?_) hab (λj hj=>?_) (λj k cs c hj hk=>?_)
   ·obtain⟨y,hy,rfl⟩:=AA.1 hcs
    obtain⟨i,hi,rfl⟩:=BL.1 hy
    exact(hq i _ (Ab hi)).2.1
   ·have hd:j/P.cellsOf e<len:=Nat.div_lt_of_lt_mul (by rwa [Cb]at hj)
    obtain⟨y,_,_,hy⟩:=each _ hd
    obtain⟨v,hv,_⟩:=hy (j%P.cellsOf e) (EI _ hc)
    rw[Cb,FG]at hv
    simp[hv]
   ·rw[Aw,Aj]at hj
    obtain⟨y,hy,rfl⟩:=hj
    obtain⟨_,h6,h7⟩:=hq j y hy
    obtain⟨v,hv,hvc⟩:=h7 k (by rw[<-h6];exact(Ah.1 hk).1)
    simp only[hv,Bc]
    exact hvc c hk
end Go.Am
end
section
open List renaming map_map->C,mapM_map->I
open Go Go.Am Go.Proofs
namespace Go.Am
def gA(id z:Int)(s:List (Int×Int)×Bool)(x:Int×Int):List (Int×Int)×Bool :=
 if s.2 then(s.1++[x],true)
 else if x.1>id then(s.1++[(id,z),x],true)
 else if x.1=id then(if x.2+z=0 then s.1 else s.1++[(id,x.2+z)],true)
 else(s.1++[x],false)
def oO(l:List (Int×Int))(f:Int×Int):List (Int×Int) :=
 let s:=l.foldl (gA f.1 f.2) ([],decide (f.2=0))
 if s.2 then s.1 else s.1++[f]
def bKm(id z:Int)(s:List (Int×Int)×Bool)(x:Int×Int):(gA id z s x).1.length<=s.1.length+2:=by
 unfold gA;split
 ·simp
 ·split
  ·simp
  ·split
   ·split<;>simp
   ·simp
def uG(id z:Int):∀(l:List (Int×Int)) (s:List (Int×Int)×Bool),(l.foldl (gA id z) s).1.length<=s.1.length+2*l.length
 |[],s=>by simp
 |x::l,s=>by have h1:=uG id z l (gA id z s x);have h2:=bKm id z s x;simp only[C3,AH];omega
def aAv(l:List (Int×Int))(id z:Int)(hz:Sz z)(hs:∀x∈l,Sz x.2)(hl:l.length<=1073741824):Spec Aa 56 [aK l,.ag (eL (id,z))] (aK (oO l (id,z))):=by
 refine bF (N:=80) Tryz.func56 ?_;simp[-C,-I,↓KW,aK,bE,aF,aD];refine aJ (fH z) ?_;have e0:((z.sign:Int)==0)=decide (z=0):=by rw[DK];simp
 simp[-C,-I,↓KW,e0,bE,aF,aD];refine aP (λi:Nat=>i<=l.length)
  (λi=>StL [(0,.d (aK l)),(3,.ptr 1 0),(5,.own 2 0 ((l.take i).foldl (gA id z) ([],decide (z=0))).1.length 3),(6,.d (.b ((l.take i).foldl (gA id z) ([],decide (z=0))).2)),(7,.d (.i .i64 i))] none
   [.cells 75 ((fcs [(id,z)]).map .d),.cells 75 ((fcs ((l.take i).foldl (gA id z) ([],decide (z=0))).1).map .d)]) (λi=>l.length-i) 0 (Ak _) ?_ ?_
 ·refine wkQ [1,2] ?_ ?_<;>simp[-C,upd,aO,Γ0,aK,bE,dM,bTm]
 ·intro i hi;have hlen:=uG id z (l.take i) ([],decide (z=0));simp only[Bo,Ax]at hlen;have hfin:i=l.length->oO l (id,z)=if((l.take i).foldl (gA id z) ([],decide (z=0))).2 then((l.take i).foldl (gA id z) ([],decide (z=0))).1 else((l.take i).foldl (gA id z) ([],decide (z=0))).1++[(id,z)]:=λe=>by rw[Ai (by omega)];rfl
  have hsucc:∀h:i<l.length,(l.take (i+1)).foldl (gA id z) ([],decide (z=0))=gA id z ((l.take i).foldl (gA id z) ([],decide (z=0))) l[i]:=λh=>by rw[AM,Ab h,Dk];rfl
  generalize hst:(l.take i).foldl (gA id z) ([],decide (z=0))=st at *;obtain⟨out,done⟩:=st;simp only at hlen hfin hsucc;obtain⟨n,hn⟩:∃n,out.length=n:=⟨_,rfl⟩;have hn':n<=2147483648:=by rw[<-hn];exact An hlen (by omega)
  clear hlen;have hfl:=vY out;rw[hn]at hfl;by_cases hgo:i<l.length
  ·have q1:(i:Int)<l.length:=by omega
   have hw7:Ag.wrap ((i:Int)+1)=(i:Int)+1:=aV;have hsu:=hsucc hgo;have g1:l[i]? = some l[i]:=Ab hgo;have hsx:=hs _ (Ar hgo);generalize l[i]=x at *;obtain⟨xi,xc⟩:=x;simp only at hsx;have hb:=cG hn';cases done with
   |true =>
    replace hsu:=hsu.trans (show gA id z (out,true) (xi,xc)=(out++[(xi,xc)],true)from rfl);simp[-C,-I,↓KW,aK,q1,g1,bE,aF,aD,dM,jU,hn,hfl,hb,aS,hw7];refine aI (i+1) hgo (AF hgo (AK i)) (wkQ [1,4] ?_ ?_)
    ·simp[-C,upd,aO,Γ0,aK,hsu,bE,dM,fT,hn]
    ·simp[-C,upd,aO,Γ0,aK,hsu,bE,dM,fT,hn]
   |false =>
    by_cases hgt:xi>id
    ·have hgt':id<xi:=hgt;replace hsu:=hsu.trans (show gA id z (out,false) (xi,xc)=(out++[(id,z),(xi,xc)],true)by simp[gA,hgt]);have h33:n*3+3=(n+1)*3:=by omega
     simp[-C,-I,↓KW,aK,q1,g1,hgt',bE,aF,aD,dM,jU,hn,hfl,hb,aS,hw7,h33];refine aI (i+1) hgo (AF hgo (AK i)) (wkQ [1,6] ?_ ?_)
     ·simp[-C,upd,aO,Γ0,aK,hsu,bE,dM,fT,hn]
     ·simp[-C,upd,aO,Γ0,aK,hsu,bE,dM,fT,hn,bTl]
    ·have hgt':¬id<xi:=hgt;by_cases heq:xi=id
     ·have he:(xi==id)=true:=by simpa using heq
      simp[-C,-I,↓KW,aK,q1,g1,hgt',he,bE,aF,aD,dM,jU,hn,hfl,hb,aS,hw7];refine aJ (rX xc z (An hsx (by decide)) (An hz (by decide))) ?_;simp[-C,-I,↓KW,encZ,encI,aF,aD];refine aJ (fH (xc+z)) ?_;by_cases h0:xc+z=0
      ·have h0':((xc+z).sign != 0)=false:=by simp[h0]
       replace hsu:=hsu.trans (show gA id z (out,false) (xi,xc)=(out,true)by simp[gA,hgt,heq,h0]);simp[-C,-I,↓KW,h0',hn,hw7];refine aI (i+1) hgo (AF hgo (AK i)) (wkQ [1,2] ?_ ?_)
       ·simp[-C,upd,aO,Γ0,aK,hsu,bE,dM,fT,hn]
       ·simp[-C,upd,aO,Γ0,aK,hsu,bE,dM,fT,hn]
      ·have h0':((xc+z).sign != 0)=true:=by simp[h0]
       replace hsu:=hsu.trans (show gA id z (out,false) (xi,xc)=(out++[(id,xc+z)],true)by simp[gA,hgt,heq,h0]);simp[-C,-I,↓KW,h0',bE,aF,aD,dM,jU,hn,hfl,hb,aS,hw7];refine aI (i+1) hgo (AF hgo (AK i)) (wkQ [1,5] ?_ ?_)
       ·simp[-C,upd,aO,Γ0,aK,hsu,bE,dM,fT,hn]
       ·simp[-C,upd,aO,Γ0,aK,hsu,bE,dM,fT,hn]
     ·have he:(xi==id)=false:=by simpa using heq
      replace hsu:=hsu.trans (show gA id z (out,false) (xi,xc)=(out++[(xi,xc)],false)by simp[gA,hgt,heq]);simp[-C,-I,↓KW,aK,q1,g1,hgt',he,bE,aF,aD,dM,jU,hn,hfl,hb,aS,hw7];refine aI (i+1) hgo (AF hgo (AK i)) (wkQ [1,4] ?_ ?_)
      ·simp[-C,upd,aO,Γ0,aK,hsu,bE,dM,fT,hn]
      ·simp[-C,upd,aO,Γ0,aK,hsu,bE,dM,fT,hn]
  ·have q1:¬(i:Int)<l.length:=by omega
   have hfi:=hfin (by omega);have hb:=cG hn';cases done with
   |true =>
    have e:oO l (id,z)=out:=by rw[hfi];rfl
    simp[-C,-I,↓KW,aK,q1,hn,hfl,wC hn,oQ hn,e]
   |false =>
    have e:oO l (id,z)=out++[(id,z)]:=by rw[hfi];rfl
    have hn2:(out++[(id,z)]).length=n+1:=by simp[hn]
    have e2:AQ AV.d (fcs out)++[AV.d (D.i .i64 id),AV.d (D.b (decide (z<0))),AV.d (aM (aU z.natAbs))]=AQ AV.d (fcs (out++[(id,z)])):=by rw[fT,Bt];rfl
    have hfl2:=vY (out++[(id,z)]);rw[hn2]at hfl2;simp[-C,-I,↓KW,aK,q1,bE,aF,aD,dM,jU,hn,hfl,hb,aS,e2,hfl2,wC hn2,oQ hn2,e]
def b2n(b:Bool):Nat:=if b then 1 else 0
def tD(id z:Int):∀(l:List (Int×Int)) (s:List (Int×Int)×Bool) (n:Nat),s.1.length<=n+b2n s.2->(l.foldl (gA id z) s).1.length<=n+l.length+b2n (l.foldl (gA id z) s).2
 |[],s,n,h=>by simpa using h
 |x::l,s,n,h=>by
  have h2:(gA id z s x).1.length<=n+1+b2n (gA id z s x).2:=by
   obtain⟨out,done⟩:=s;cases done
   ·simp only[b2n,A1,BY,B9]at h;unfold gA;simp only[A1,BY];split
    ·simp[b2n];omega
    ·split
     ·split<;>simp[b2n]<;>omega
     ·simp[b2n];omega
   ·simp only[b2n,if_true]at h;unfold gA;simp[b2n];omega
  have h1:=tD id z l _ (n+1) h2;simp only[C3,AH];omega
def aJz(l:List (Int×Int))(f:Int×Int):(oO l f).length<=l.length+1:=by
 have h:=tD f.1 f.2 l ([],decide (f.2=0)) 0 (Ak _);have e:oO l f=if(l.foldl (gA f.1 f.2) ([],decide (f.2=0))).2 then(l.foldl (gA f.1 f.2) ([],decide (f.2=0))).1 else(l.foldl (gA f.1 f.2) ([],decide (f.2=0))).1++[f]:=rfl
 rw[e];generalize l.foldl (gA f.1 f.2) ([],decide (f.2=0))=s at *;obtain⟨out,done⟩:=s;cases done
 ·simp only[b2n,A1,BY]at h ⊢;simp;omega
 ·simp only[b2n,if_true]at h ⊢;omega
def Bnd(M:Nat)(l:List (Int×Int)):Prop:=∀x∈l,x.2.natAbs<=M
def Bnd.nil(M:Nat):Bnd M []:=λ_ h=>by cases h
def Bnd.mono{M N:Nat}{l:List (Int×Int)}(h:Bnd M l)(k:M<=N):Bnd N l:=λx hx=>An (h x hx) k
def Bnd.app{M:Nat}{a b:List (Int×Int)}(h:Bnd M a)(k:Bnd M b):Bnd M (a++b):=λx hx=>by
 rcases A6.1 hx with hx|hx
 ·exact h x hx
 ·exact k x hx
def Bnd.one{M:Nat}{x:Int×Int}(h:x.2.natAbs<=M):Bnd M [x]:=λy hy=>by
 rcases AG.1 hy with rfl|hy
 ·exact h
 ·cases hy
def bKn{id z:Int}{s:List (Int×Int)×Bool}{x:Int×Int}{M K:Nat}(hs:Bnd (M+K) s.1)(hx:x.2.natAbs<=M)(hz:z.natAbs<=K):Bnd (M+K) (gA id z s x).1:=by
 unfold gA;split
 ·exact hs.app (.one (by omega))
 ·split
  ·exact hs.app (.app (.one (x:=(id,z)) (by simp only;omega)) (.one (by omega)))
  ·split
   ·split
    ·exact hs
    ·exact hs.app (.one (by simp only;omega))
   ·exact hs.app (.one (by omega))
def uH{id z:Int}{M K:Nat}(hz:z.natAbs<=K):∀(l:List (Int×Int)) (s:List (Int×Int)×Bool),Bnd M l->Bnd (M+K) s.1->Bnd (M+K) (l.foldl (gA id z) s).1
 |[],s,_,h=>h
 |x::l,s,hl,h=>uH hz l _ (λy hy=>hl y (As _ hy)) (bKn h (hl x (Av ..)) hz)
def aRr{l:List (Int×Int)}{f:Int×Int}{M K:Nat}(hl:Bnd M l)(hz:f.2.natAbs<=K):Bnd (M+K) (oO l f):=by
 have h:=uH (id:=f.1) hz l ([],decide (f.2=0)) hl (.nil _);have e:oO l f=if(l.foldl (gA f.1 f.2) ([],decide (f.2=0))).2 then(l.foldl (gA f.1 f.2) ([],decide (f.2=0))).1 else(l.foldl (gA f.1 f.2) ([],decide (f.2=0))).1++[f]:=rfl
 rw[e];split
 ·exact h
 ·exact h.app (.one (by omega))
def gU{z:Int}{M:Nat}(h:z.natAbs<=M)(hM:(aU M).length<=137438953472):Sz z:=An (fC h) hM
def cE(a b:List (Int×Int)):List (Int×Int):=b.foldl oO a
def nX(a:List (Int×Int)):∀b:List (Int×Int),(cE a b).length<=a.length+b.length:=by
 intro b;unfold cE;induction b generalizing a with
 |nil=>simp
 |cons x b ih =>
  have h1:=ih (oO a x);have h2:=aJz a x;simp only[C3,AH];omega
def mK{M K:Nat}:∀(b a:List (Int×Int)),Bnd M a->Bnd K b->Bnd (M+b.length*K) (cE a b)
 |[],a,ha,_=>by simpa[cE]using ha
 |x::b,a,ha,hb=>by have h1:=aRr (f:=x) ha (hb x (Av ..));have h2:=mK b (oO a x) h1 (λy hy=>hb y (As _ hy));refine(show Bnd _ (cE (oO a x) b)from h2).mono ?_;rw[AH,Bw,C9];omega
def bEo(a b:List (Int×Int))(i:Nat)(h:i<b.length):cE a (b.take (i+1))=oO (cE a (b.take i)) b[i]:=by unfold cE;rw[AM,Ab h,Dk];rfl
def mulR(k:Int)(b:List (Int×Int)):List (Int×Int):=b.map λf=>(f.1,k*f.2)
def pE{k:Int}{M K:Nat}{b:List (Int×Int)}(hk:k.natAbs<=K)(hb:Bnd M b):Bnd (K*M) (mulR k b):=λx hx=>by obtain⟨y,hy,rfl⟩:=AA.1 hx;simp only[BV];exact Cp hk (hb y hy)
def bHq(a b:List (Int×Int))(k:Int)(A M K:Nat)(ha:Bnd A a)(hb:Bnd M b)(hk:k.natAbs<=K)(hA:(aU (A+b.length*(K*M))).length<=137438953472)(hKM:(aU (K*M)).length<=137438953472)(hK:(aU K).length<=137438953472)
  (hM:(aU M).length<=137438953472) (hl:a.length+b.length<=1073741824):Spec Aa 30 [aK a,aK b,encZ k] (aK (cE a (mulR k b))):=by
 refine bF (N:=32) Tryz.func30 ?_
 simp[-C,-I,↓KW,aK,encZ,encI,aF,aD]
 refine aP (λi:Nat=>i<=b.length) (λi=>StL [(1,.d (aK b)),(5,.ptr 1 0),(7,.d (aK (cE a ((mulR k b).take i)))),(8,.d (.i .i64 i))] none [.cells 72 [.d (.b (decide (k<0))),.d (aM (aU k.natAbs))]]) (λi=>b.length-i) 0 (Ak _) ?_ ?_
 ·refine wkQ [1] ?_ ?_<;>simp[-C,upd,aO,Γ0,aK,cE]
 ·intro i hi
  have hlm:(mulR k b).length=b.length:=by simp[mulR]
  by_cases hgo:i<b.length
  ·have q1:(i:Int)<b.length:=by omega
   have hw7:Ag.wrap ((i:Int)+1)=(i:Int)+1:=aV
   have g1:b[i]? = some b[i]:=Ab hgo
   have hsu:=bEo a (mulR k b) i (by omega)
   have hgm:(mulR k b)[i]'(by omega)=(b[i].1,k*b[i].2):=by simp[mulR]
   rw[hgm]at hsu
   have hbx:=hb _ (Ar hgo)
   have hbt:Bnd (K*M) ((mulR k b).take i):=λx hx=>pE hk hb x (Cj hx)
   have hbo:=mK ((mulR k b).take i) a ha hbt
   have hlo:=nX a ((mulR k b).take i)
   have hti:((mulR k b).take i).length=i:=by simp;omega
   rw[hti]at hbo hlo
   have hle:A+i*(K*M)<=A+b.length*(K*M):=FR (A7 _ (by omega)) _
   generalize hxe:b[i]=x at *
   obtain⟨xi,xc⟩:=x
   generalize cE a ((mulR k b).take i)=out at *
   simp only at hbx hsu
   have hkx:(k*xc).natAbs<=K*M:=by rw[BV];exact Cp hk hbx
   simp[-C,-I,↓KW,aK,q1,g1,bE,aF,aD]
   refine aJ (qE k xc (gU hk hK) (gU hbx hM)) ?_
   simp[-C,-I,↓KW,aK,encZ,encI,aF,aD]
   have hins:=aAv out xi (k*xc) (gU hkx hKM) (λy hy=>gU (An (hbo y hy) hle) hA) (by omega)
   refine aJ hins ?_
   simp[-C,-I,↓KW,aK,hw7]
   refine aI (i+1) hgo (AF hgo (AK i)) (wkQ [1] ?_ ?_)
   ·simp[-C,upd,aO,Γ0,aK,hsu]
   ·simp[-C,upd,aO,Γ0]
  ·have q1:¬(i:Int)<b.length:=by omega
   have e:(mulR k b).take i=mulR k b:=Ai (by omega)
   simp[-C,-I,↓KW,aK,q1,e]
def aQp(l:List (Int×Int))(i:Nat):Bool:=decide ((l.getD i (0,0)).2≠0)&&(decide (i=0)||decide ((l.getD (i-1) (0,0)).1<(l.getD i (0,0)).1))
def xC(l:List (Int×Int)):Bool:=(CP l.length).all (aQp l)
def aBs{l:List (Int×Int)}(h:∀j,j<l.length->aQp l j=true):xC l=true:=by unfold xC;rw[Ay];intro j hj;exact h j (C0.1 hj)
def aLi{l:List (Int×Int)}{j:Nat}(hj:j<l.length)(h:aQp l j=false):xC l=false:=by unfold xC;rw[List.all_eq_false];exact⟨j,C0.2 hj,by rw[h];decide⟩
def bLe{l:List (Int×Int)}{i:Nat}(h:i<l.length):l[i]? = some (l.getD i (0,0)):=by rw[Af,Ab h];rfl
def bRg{P:Program}{dst:Option Tmp}{ty:TypeId}{pos:String}{after:Array Edge}{guard:Option (Nat×Bool)}{σ:St}{con:List Nat}{k:St->List Nat->Prop}{f g:FuncId}{x:Operand}{ts:Array TypeId}
  {d:Dm ((⟨dst,.call ⟨.value (.func f),[x].toArray,ts⟩,ty,pos,after,guard⟩:Oper),k)} {id:Nat} {ho:HO} (hs:uV P f g) (hm:bB P f=true)
  (hx:oev σ.J x=.mp id) (hH:σ.H id=some ho) (hk:k ⟨bS σ.J dst (.kf g id),σ.H,σ.n⟩ con):O1d P ⟨dst,.call ⟨.value (.func f),[x].toArray,ts⟩,ty,pos,after,guard⟩ σ con k d:=by
 show OC P f [x].toArray dst σ con k
 unfold OC
 have e:hd1 (oev σ.J x)=some (id,.mp 0):=by rw[hx];rfl
 simp only[hm,if_true,e,hH]
 exact .inl ⟨g,trivial,trivial,hs,hk⟩
def bCk{P:Program}{dst:Option Tmp}{ty:TypeId}{pos:String}{after:Array Edge}{guard:Option (Nat×Bool)}{σ:St}{con:List Nat}{k:St->List Nat->Prop}{f g:FuncId}{x:Operand}{ts:Array TypeId}
  {d:Dm ((⟨dst,.call ⟨.value (.func f),[x].toArray,ts⟩,ty,pos,after,guard⟩:Oper),k)} {id:Nat} {es:List (Int×AV)} (hs:mZ P f g) (hm:bB P f=false)
  (hx:oev σ.J x=.kf g id) (hH:σ.H id=some (.map .i64 es)) (hl:es.length<=1099511627776) (hr:(es.map (·.1)).all inr=true)
  (hk:k ⟨bS σ.J dst (.d (.sl ((gZ (es.map (·.1))).map λn=>[.i .i64 n]))),σ.H,σ.n⟩ con):O1d P ⟨dst,.call ⟨.value (.func f),[x].toArray,ts⟩,ty,pos,after,guard⟩ σ con k d:=by
 show OC P f [x].toArray dst σ con k
 unfold OC
 have e:([x].toArray.toList.map (oev σ.J))=[.kf g id]:=by show[oev σ.J x]=_;rw[hx]
 simp only[hm,A1,BY]
 refine .inr ?_
 split
 ·rename_i g' id' hx'
  rw[e]at hx'
  injection hx' with hx' _
  injection hx' with h1 h2
  subst h1;subst h2
  rw[hH]
  exact⟨hl,hr,hs,hk⟩
 ·rename_i hne
  exact(hne _ _ e).elim
def fnd(n:Int):List (Int×Int)->Option Nat
 |[]=>none
 |x::es=>if x.1=n then some 0 else(fnd n es).map (·+1)
def aBi(z:Int):AV:=.ag [.d (.b (decide (z<0))),.d (aM (aU z.natAbs))]
def iJ(m:List (Int×Int)):List (Int×AV):=m.map λp=>(p.1,aBi p.2)
def xL(n:Int)(m:List (Int×Int)):iP n (iJ m)=fnd n m:=by
 induction m with
 |nil=>rfl
 |cons x m ih =>
  show(if x.1=n then some 0 else(iP n (iJ m)).map (·+1))=if x.1=n then some 0 else(fnd n m).map (·+1)
  rw[ih]
def aGa{n:Int}{m:List (Int×Int)}{j:Nat}(h:fnd n m=some j):∃z,m[j]? = some (n,z):=by
 induction m generalizing j with
 |nil=>cases h
 |cons x m ih =>
  unfold fnd at h;by_cases hx:x.1=n
  ·rw[Ae hx]at h;injection h with h;subst h;exact⟨x.2,by rw[<-hx];rfl⟩
  ·rw[Ac hx]at h;obtain⟨i,hi,rfl⟩:=Aj.1 h;obtain⟨z,hz⟩:=ih hi;exact⟨z,by simpa using hz⟩
def getM(m:List (Int×Int))(n:Int):Int:=match fnd n m with
 |some j=>(m.getD j (0,0)).2
 |none=>0
def wJ(m:List (Int×Int))(n v:Int):List (Int×Int):=match fnd n m with
 |some j=>m.set j (n,v)
 |none=>m++[(n,v)]
def wO(m:List (Int×Int))(n:Int):List (Int×Int):=match fnd n m with
 |some j=>m.eraseIdx j
 |none=>m
def jY(m:List (Int×Int))(n k:Int):List (Int×Int):=if getM m n+k=0 then wO m n else wJ m n (getM m n+k)
def vP(m:List (Int×Int))(n v:Int):rZ (iJ m) n (aBi v)=iJ (wJ m n v):=by
 unfold rZ wJ;rw[xL];cases fnd n m with
 |none=>simp[iJ]
 |some j=>simp[iJ,List.map_set]
def wY{α β:Type}(f:α->β):∀(l:List α) (j:Nat),(l.map f).eraseIdx j=(l.eraseIdx j).map f
 |[],_=>rfl
 |_::_,0=>rfl
 |x::l,j+1=>by show f x::(l.map f).eraseIdx j=f x::(l.eraseIdx j).map f;rw[wY f l j]
def vT(m:List (Int×Int))(n:Int):aRj (iJ m) n=iJ (wO m n):=by
 unfold aRj wO;rw[xL];cases fnd n m with
 |none=>rfl
 |some j=>simp[iJ,wY]
def xK(m:List (Int×Int))(n:Int):rE (iJ m) n=if(fnd n m).isSome then some (aBi (getM m n))else none:=by
 unfold rE getM;rw[xL];cases h:fnd n m with
 |none=>rfl
 |some j =>
  obtain⟨z,hz⟩:=aGa h;simp[iJ,hz,Af]
def jC(m:List (Int×Int)):oC (.map .i64 (iJ m))=true:=by simp only[oC,iJ,List.all_map,Ay];intro x _;rfl
def cB{P:Program}(H:Hp)(t:TypeId)(id:Nat)(x:AV)(ok:Bool):pG P H t (.mp id) x ok=match H id with
  |some (.map k es)=>(tmp P t).bind λp=>match x with
   |.d (.i k' n)=>if k'=k/\jJ P p.1=some k then
     match rE es n with
     |some v=>some (if ok then .tp [v,.d (.b true)]else v)
     |none=>(tz P p.2).map λz=>if ok then .tp [cv z,.d (.b false)]else cv z
    else none
   |_=>none
  |_=>none:=rfl
def cH{P:Program}(H:Hp)(t:TypeId)(id:Nat)(x:AV)(v:Option AV):tG P H t (.mp id) x v=match H id with
  |some (.map k es)=>(tmp P t).bind λp=>match x with
   |.d (.i k' n)=>if k'=k/\jJ P p.1=some k then some (id,.map k (match v with|some v=>rZ es n v|none=>aRj es n))else none
   |_=>none
  |_=>none:=rfl
def gO(m:List (Int×Int)):List (Int×Int):=(gZ (m.map (·.1))).map λn=>(n,getM m n)
def aZh(n:Int):∀l:List Int,(ins n l).length=l.length+1
 |[]=>rfl
 |m::l=>by
  unfold ins;split
  ·rfl
  ·simp[aZh n l]
def aJw:∀l:List Int,(gZ l).length=l.length
 |[]=>rfl
 |n::l=>by rw[gZ,aZh,aJw l];rfl
def aZg(n x:Int):∀l:List Int,x∈ins n l↔x=n\/x∈l
 |[]=>by simp[ins]
 |m::l=>by
  unfold ins;split
  ·simp
  ·simp[aZg n x l];constructor
   ·rintro(h|h|h)<;>simp[h]
   ·rintro(h|h|h)<;>simp[h]
def rJ(x:Int):∀l:List Int,x∈gZ l↔x∈l
 |[]=>by simp[gZ]
 |n::l=>by rw[gZ,aZg,rJ x l];simp
def aGb{n:Int}{m:List (Int×Int)}(h:n∈m.map (·.1)):(fnd n m).isSome=true:=by
 induction m with
 |nil=>simp at h
 |cons x m ih =>
  unfold fnd;by_cases hx:x.1=n
  ·rw[Ae hx];rfl
  ·rw[Ac hx,Option.isSome_map];exact ih (by
    rcases AG.1 h with h|h
    ·exact(hx h.symm).elim
    ·exact h)
def aKi(m:List (Int×Int)):(iJ m).map (·.1)=m.map (·.1):=by simp[iJ]
def aBu(l:List Nat)(m:List (Int×Int)):fG l (.map .i64 (iJ m))=.map .i64 (iJ m):=by simp[fG,iJ,aBi,tN,fV]
def aJc {P:Program} {f N:Nat} {fn:Func} {c:Code} {h:AV} {o o':HO} {args:List D} {r:D} (hm:P.follows .mixedOrders=true) (hf:P.funcs[f]? = some fn) (hb:fn.body=some c) (hname:(fn.name == "runtime.NumGoroutine")=false) (hN:fn.ntmps=N)
  (hd:dK N c=true) (hl:eC P c=true) (ha:args.length+1<=N) (hmap:∃k es,o=.map k es) (hmap':∃k es,o'=.map k es) (hno':oC o'=true) (hnm:NM r)
  (hA:AWP P c (St1 h o args N) λe σ=>(e=.normal\/e=.ret)/\mU P fn.results.toList σ=some r/\σ.H 0=some o'):tE P f h o args o' r :=
 aQk hf hb hname hN ha hmap hmap' hno' hnm λG a w hZ hs=>iC hm hZ c _ _ a w hd hl hA hs
def tV{P:Program}{dst:Option Tmp}{ty:TypeId}{pos:String}{after:Array Edge}{guard:Option (Nat×Bool)}{σ:St}{con:List Nat}{k:St->List Nat->Prop}{f:FuncId}{x:Operand}{rest:List Operand}{ts:Array TypeId}
  {d:Dm ((⟨dst,.call ⟨.value (.func f),(x::rest).toArray,ts⟩,ty,pos,after,guard⟩:Oper),k)} {id:Nat} {ho ho':HO} {ds:List D} {r:D} (hs:tE P f (.mp 0) ho ds ho' r) (hm:bB P f=true)
  (hx:oev σ.J x=.mp id) (hH:σ.H id=some ho) (hno:oC ho=true) (hvis:fK σ.H (rest.map (oev σ.J))=[]) (hfr:fW σ.H (rest.map (oev σ.J))=some ds) (hlen:ho'.len=ho.len) (hno':oC ho'=true)
  (hk:k ⟨bS σ.J dst (inj r),upd σ.H id (some ho'),σ.n⟩ con):O1d P ⟨dst,.call ⟨.value (.func f),(x::rest).toArray,ts⟩,ty,pos,after,guard⟩ σ con k d:=by
 refine aQw hm ?_
 rw[hx]
 exact aCe (id:=id) (h:=.mp 0) hH hno hvis hfr hs hlen hno' hk
def sL{x y:Int}(hx:Sz x)(hy:Sz y):(aU (x+y).natAbs).length<=1099511627776:=by
 have h1:=gW (Ap (aU x.natAbs).length);have h2:=gW (Ap (aU y.natAbs).length);have h:(x+y).natAbs<4294967296^((aU x.natAbs).length+(aU y.natAbs).length+1):=by have e1:4294967296^(aU x.natAbs).length<=4294967296^((aU x.natAbs).length+(aU y.natAbs).length):=BU (by decide) (by omega);have e2:4294967296^(aU y.natAbs).length<=4294967296^((aU x.natAbs).length+(aU y.natAbs).length):=BU (by decide) (by omega);rw[Cm];generalize 4294967296^((aU x.natAbs).length+(aU y.natAbs).length)=p at *;omega
 have:=fZ h;unfold Sz at hx hy;omega
def bRn(m:List Nat):NM (aM m):=.sl _ (λcs h=>by obtain⟨x,_,rfl⟩:=AA.1 h;simp) λcs h c hc=>by obtain⟨x,_,rfl⟩:=AA.1 h;rw[AT]at hc;subst hc;exact .i _ _
def bRo(l:List (Int×Int)):NM (aK l):=.sl _ (λcs h=>by obtain⟨x,_,rfl⟩:=AA.1 h;simp[eL]) λcs h c hc=>by
 obtain⟨x,_,rfl⟩:=AA.1 h;simp only[eL,AG,List.mem_nil_iff,Ex]at hc;rcases hc with rfl|rfl|rfl
 ·exact .i _ _
 ·exact .b _
 ·exact bRn _
def rA{P:Program}(σ:St):mU P [] σ=some (.tp []):=rfl
def aUb(m:List (Int×Int))(id k:Int)(hm:Sz (getM m id))(hk:Sz k):tE Aa 174 (.mp 0) (.map .i64 (iJ m)) [.i .i64 id,encZ k] (.map .i64 (iJ (jY m id k))) (.tp []):=by
 refine aJc (N:=20) bL Tryz.func174 rfl rfl rfl (by kernel_rfl) (by kernel_rfl) (by simp) ⟨_,_,rfl⟩ ⟨_,_,rfl⟩ (jC _) (aFf 8 _ rfl) ?_;have hml:=xK m id;have hz0:¬(fnd id m).isSome=true->getM m id=0:=λh=>by
  unfold getM;cases hf:fnd id m with
  |none=>rfl
  |some j=>rw[hf]at h;exact(h rfl).elim
 have hgo:∀z:Int,z=getM m id->True:=λ_ _=>trivial
 by_cases hs:(fnd id m).isSome=true
 ·rw[Ae hs]at hml;simp[-C,-I,↓KW,St1,aY,aD,aF,cB,hml,aBi];refine aJ (aMo (getM m id) k hm hk) ?_;simp[-C,-I,↓KW,aY,aD,aF];refine aJ (aDl _ _ (sL hm hk)) ?_;by_cases ht:getM m id+k=0
  ·have e1:strip (aU (getM m id+k).natAbs)=[]:=by rw[ht,show(0:Int).natAbs=0 from rfl,dG];rfl
   have e2:jY m id k=wO m id:=by unfold jY;rw[Ae ht]
   simp[-C,-I,↓KW,e1,e2,cH,vT,rA]
  ·have e1:strip (aU (getM m id+k).natAbs)≠[]:=by rw[iW (cX _),dS,ne_eq,fP];omega
   have e2:jY m id k=wJ m id (getM m id+k):=by unfold jY;rw[Ac ht]
   have e3:=vP m id (getM m id+k);unfold aBi at e3;by_cases hneg:getM m id+k<0
   ·simp[-C,-I,↓KW,e1,e2,hneg,cH,aD,aF,rA];have hd:decide (getM m id+k<0)=true:=by simpa using hneg
    rw[hd]at e3;exact e3
   ·simp[-C,-I,↓KW,e1,e2,hneg,cH,aD,aF,rA];have hd:decide (getM m id+k<0)=false:=by simpa using hneg
    rw[hd]at e3;exact e3
 ·rw[Ac hs]at hml;have h0:=hz0 hs;simp[-C,-I,↓KW,St1,aY,aD,aF,cB,hml,cv];refine bK (ds:=[encZ (getM m id),encZ k]) (by rw[h0,aKd];rfl) (aMo (getM m id) k hm hk) ?_;simp[-C,-I,↓KW,aY,aD,aF];refine aJ (aDl _ _ (sL hm hk)) ?_;by_cases ht:getM m id+k=0
  ·have e1:strip (aU (getM m id+k).natAbs)=[]:=by rw[ht,show(0:Int).natAbs=0 from rfl,dG];rfl
   have e2:jY m id k=wO m id:=by unfold jY;rw[Ae ht]
   simp[-C,-I,↓KW,e1,e2,cH,vT,rA]
  ·have e1:strip (aU (getM m id+k).natAbs)≠[]:=by rw[iW (cX _),dS,ne_eq,fP];omega
   have e2:jY m id k=wJ m id (getM m id+k):=by unfold jY;rw[Ac ht]
   have e3:=vP m id (getM m id+k);unfold aBi at e3;by_cases hneg:getM m id+k<0
   ·simp[-C,-I,↓KW,e1,e2,hneg,cH,aD,aF,rA];have hd:decide (getM m id+k<0)=true:=by simpa using hneg
    rw[hd]at e3;exact e3
   ·simp[-C,-I,↓KW,e1,e2,hneg,cH,aD,aF,rA];have hd:decide (getM m id+k<0)=false:=by simpa using hneg
    rw[hd]at e3;exact e3
def pL{m:List (Int×Int)}{M:Nat}(h:Bnd M m)(n:Int):(getM m n).natAbs<=M:=by
 unfold getM;cases hf:fnd n m with
 |none=>simp
 |some j =>
  obtain⟨z,hz⟩:=aGa hf;simp only[Af,hz,Bc];exact h _ (Aq hz)
def aWh(m:List Nat)(h:m.length<=1099511627776):Spec Aa 179 [aM m] (aM m):=aKk _ (by simp[bUi,one,h])
def chS(m:List (Int×Int))(n:Nat):Nat->St
 |0=>StL [(0,.mp 0),(3,.nil),(9,.d (.sl ((gZ (m.map (·.1))).map λn=>[.i .i64 n]))),(10,.d (.i .i64 n)),(11,.d (.i .i64 0))] (some (.map .i64 (iJ m))) []
 |i+1=>StL [(0,.mp 0),(3,.own 1 0 (i+1) 3),(9,.d (.sl ((gZ (m.map (·.1))).map λn=>[.i .i64 n]))),(10,.d (.i .i64 n)),(11,.d (.i .i64 ((i:Int)+1)))] (some (.map .i64 (iJ m))) [.cells 75 ((fcs ((gO m).take (i+1))).map .d)]
def aOr(m:List (Int×Int))(hS:∀n,Sz (getM m n))(hl:m.length<=1073741824)(hr:(m.map (·.1)).all inr=true):tE Aa 175 (.mp 0) (.map .i64 (iJ m)) [] (.map .i64 (iJ m)) (aK (gO m)):=by
 refine aJc (N:=31) bL Tryz.func175 rfl rfl rfl (by kernel_rfl) (by kernel_rfl) (by simp) ⟨_,_,rfl⟩ ⟨_,_,rfl⟩ (jC _) (bRo _) ?_;simp[-C,-I,↓KW,St1];refine bRg Tryz.keys106 (by simp) (id:=0) (ho:=.map .i64 (iJ m)) (by simp[gM,dU]) (by simp) ?_;simp[-C,-I,↓KW,St1];refine bCk Tryz.sorted122 (by simp) (id:=0) (es:=iJ m) (by simp[gM,dU]) (by simp) (by simp[iJ];omega) (by rw[aKi];exact hr) ?_;rw[aKi];have hil:=aJw (m.map (·.1));rw[AL]at hil;obtain⟨n,hn⟩:∃n,m.length=n:=⟨_,rfl⟩;rw[hn]at hil;simp[-C,-I,↓KW,hil];have hcl:(gO m).length=n:=by simp[gO,hil]
 have hsub:∀(H H':Hp) (ρ:Nat->Nat),mY H H' ρ (.map .i64 (iJ m)) (.map .i64 (iJ m)):=λH H' ρ=>aEj λx hx=>by
  obtain⟨y,_,rfl⟩:=AA.1 hx;refine⟨rfl,λk c d hc hd=>?_⟩;rw[hc]at hd;injection hd with hd;subst hd
  rcases k with _|_|k
  ·simp at hc;subst hc;exact(kK _ _).2 rfl
  ·simp at hc;subst hc;exact(kK _ _).2 rfl
  ·simp at hc
 have hkl:∀q∈gZ (m.map (·.1)),rE (iJ m) q=some (aBi (getM m q)):=λq hq=>by rw[xK,Ae (aGb ((rJ q _).1 hq))]
 refine aP (λi:Nat=>i<=n) (chS m n) (λi=>n-i) 0 (Ak _) ?_ ?_
 ·refine⟨_,aCs [] (by simp) ?_ ?_ ?_⟩
  ·simp[-C,upd,aO,Γ0]
  ·intro o' ho';injection ho' with ho';subst ho'
   exact⟨_,by simp[dU],hsub _ _ _⟩
  ·trivial
 ·intro i hi;by_cases hgo:i<n
  ·have hql:i<(gZ (m.map (·.1))).length:=by omega
   have hq:=Ab hql;have hqm:=Ar hql;have hml:=hkl _ hqm;have htk:(gO m).take (i+1)=(gO m).take i++[((gZ (m.map (·.1)))[i],getM m (gZ (m.map (·.1)))[i])]:=by rw[AM];simp[gO,hq]
   generalize(gZ (m.map (·.1)))[i]=q at *;have hcl1:=aWh (aU (getM m q).natAbs) (An (hS q) (by decide));rcases i with _|j
   ·have q1:(0:Int)<n:=by omega
    have q1':0<n:=hgo;have g0:(gZ (AQ (λx=>x.fst) m)).head? = some q:=by rw[List.head?_eq_getElem?];exact hq
    unfold chS;simp[-C,-I,↓KW,q1',hq,g0,cB,hml,aBi,aD,aF];refine aJ hcl1 ?_;have hw:Ag.wrap 1=1:=by decide
    have h1:(1:Nat)<=maxLen:=aS (by decide);rw[Cq,List.nil_append]at htk;simp[-C,-I,↓KW,aD,aF,aG,aZ,aW,hw,h1];refine aI 1 hgo (slQ hgo) ?_;simp only[chS];refine⟨_,aCs [3] (by simp) ?_ ?_ ?_⟩
    ·simp[-C,upd,aO,Γ0,htk]
    ·intro o' ho';injection ho' with ho';subst ho'
     exact⟨_,by simp[dU,aHa,aBu],hsub _ _ _⟩
    ·simp[-C,upd,aO,Γ0,htk,dM]
   ·have q1:(j:Int)+1<n:=by omega
    have q5:(0:Int)<=(j:Int)+1:=by omega
    have hlt:((gO m).take (j+1)).length=j+1:=by simp[hcl];omega
    have hfl:=vY ((gO m).take (j+1));rw[hlt]at hfl;have hw:Ag.wrap ((j:Int)+1+1)=(j:Int)+1+1:=aV;have hb:=cG (n:=j+1) (by omega);show AWP _ _ (StL [(0,.mp 0),(3,.own 1 0 (j+1) 3),(9,.d (.sl ((gZ (m.map (·.1))).map λn=>[.i .i64 n]))),(10,.d (.i .i64 n)),(11,.d (.i .i64 ((j:Int)+1)))] (some (.map .i64 (iJ m))) [.cells 75 ((fcs ((gO m).take (j+1))).map .d)]) _;generalize(gO m).take (j+1)=out at *;simp[-C,-I,↓KW,q1,q5,hq,cB,hml,aBi,aD,aF];refine aJ hcl1 ?_;simp[-C,-I,↓KW,aD,aF,aG,aZ,aW,hw,hb,hfl,aS];refine aI (j+1+1) hgo (slQ hgo) ?_;simp only[chS];refine⟨_,aCs [4] (by simp) ?_ ?_ ?_⟩
    ·simp[-C,upd,aO,Γ0,htk]
    ·intro o' ho';injection ho' with ho';subst ho'
     exact⟨_,by simp[dU,aHa,aBu],hsub _ _ _⟩
    ·simp[-C,upd,aO,Γ0,htk,fT,dM]
  ·have e:i=n:=by omega
   rcases i with _|j
   ·have q1:¬0<n:=by omega
    have hch:gO m=[]:=AE (by omega);unfold chS;simp[-C,-I,↓KW,q1,hch,aK]
   ·have q1:¬(j:Int)+1<n:=by omega
    have e2:(gO m).take (j+1)=gO m:=Ai (by omega);have hlt:(gO m).length=j+1:=by omega
    have hfl:=vY (gO m);rw[hlt]at hfl;unfold chS;simp[-C,-I,↓KW,q1,e2,hfl,hlt,wC hlt,oQ hlt,aK]
def Keys(m:List (Int×Int)):Prop:=∀x∈m,inr x.1=true
def Keys.all{m:List (Int×Int)}(h:Keys m):(m.map (·.1)).all inr=true:=by rw[Ay];intro x hx;obtain⟨y,hy,rfl⟩:=AA.1 hx;exact h y hy
def aTj{m:List (Int×Int)}{n k:Int}{x:Int×Int}(h:x∈jY m n k):x∈m\/x=(n,getM m n+k):=by
 unfold jY at h;split at h
 ·unfold wO at h;split at h
  ·exact .inl (List.mem_of_mem_eraseIdx h)
  ·exact .inl h
 ·unfold wJ at h;split at h
  ·rcases EX h with h|h
   ·exact .inl h
   ·exact .inr h
  ·rcases A6.1 h with h|h
   ·exact .inl h
   ·exact .inr (by simpa using h)
def bNu(m:List (Int×Int))(n k:Int):(jY m n k).length<=m.length+1:=by
 unfold jY;split
 ·unfold wO;split
  ·exact An (List.length_eraseIdx_le ..) (by omega)
  ·omega
 ·unfold wJ;split
  ·simp
  ·simp
def bNv{m:List (Int×Int)}{n k:Int}{M K:Nat}(hm:Bnd M m)(hk:k.natAbs<=K):Bnd (M+K) (jY m n k):=λx hx=>by
 rcases aTj hx with h|rfl
 ·have:=hm x h;omega
 ·have:=pL hm n;simp only;omega
def bEp{m:List (Int×Int)}{n k:Int}(hm:Keys m)(hn:inr n=true):Keys (jY m n k):=λx hx=>by
 rcases aTj hx with h|rfl
 ·exact hm x h
 ·exact hn
def fF(m:List (Int×Int))(l:List (Int×Int)):List (Int×Int):=l.foldl (λm f=>jY m f.1 f.2) m
def aAj(m l:List (Int×Int))(i:Nat)(h:i<l.length):fF m (l.take (i+1))=jY (fF m (l.take i)) l[i].1 l[i].2:=by unfold fF;rw[AM,Ab h,Dk];rfl
def aEh(m:List (Int×Int)):∀l:List (Int×Int),(fF m l).length<=m.length+l.length:=by
 intro l;unfold fF;induction l generalizing m with
 |nil=>simp
 |cons x l ih =>
  have h1:=ih (jY m x.1 x.2);have h2:=bNu m x.1 x.2;simp only[C3,AH];omega
def qX{M K:Nat}:∀(l m:List (Int×Int)),Bnd M m->Bnd K l->Bnd (M+l.length*K) (fF m l)
 |[],m,hm,_=>by simpa[fF]using hm
 |x::l,m,hm,hl=>by have h1:=bNv (n:=x.1) hm (hl x (Av ..));have h2:=qX l (jY m x.1 x.2) h1 (λy hy=>hl y (As _ hy));refine(show Bnd _ (fF (jY m x.1 x.2) l)from h2).mono ?_;rw[AH,Bw,C9];omega
def vC:∀(l m:List (Int×Int)),Keys m->Keys l->Keys (fF m l)
 |[],m,hm,_=>hm
 |x::l,m,hm,hl=>vC l (jY m x.1 x.2) (bEp hm (hl x (Av ..))) λy hy=>hl y (As _ hy)
def lH{H H':Hp}{ρ:Nat->Nat}(m:List (Int×Int)):mY H H' ρ (.map .i64 (iJ m)) (.map .i64 (iJ m)):=aEj λx hx=>by
 obtain⟨y,_,rfl⟩:=AA.1 hx;refine⟨rfl,λk c d hc hd=>?_⟩;rw[hc]at hd;injection hd with hd;subst hd
 rcases k with _|_|k
 ·simp at hc;subst hc;exact(kK _ _).2 rfl
 ·simp at hc;subst hc;exact(kK _ _).2 rfl
 ·simp at hc
def jG{H H':Hp}{ρ:Nat->Nat}(m:List (Int×Int)):mY H H' ρ (.map .i64 (iJ m)) (.map .i64 (iJ m))↔True:=⟨λ_=>trivial,λ_=>lH m⟩
def aWi(l:List (Int×Int))(M:Nat)(hM:(aU (l.length*M)).length<=137438953472)(hb:Bnd M l)(hk:Keys l)(hl:l.length<=1073741824):Spec Aa 168 [aK l] (aK (gO (fF [] l))):=by
 refine qL (N:=22) Tryz.func168 bHi ?_;simp[-C,-I,↓KW,aK];refine aP (λi:Nat=>i<=l.length) (λi=>StL [(3,.mp 1),(7,.d (aK l)),(8,.d (.i .i64 l.length)),(9,.d (.i .i64 i))] none [.map .i64 (iJ (fF [] (l.take i)))]) (λi=>l.length-i) 0 (Ak _) ?_ ?_
 ·refine wkQ [1] ?_ ?_
  ·simp[-C,upd,aO,Γ0,aK]
  ·exact⟨⟨_,by simp[dU];rfl,lH []⟩,trivial⟩
 ·intro i hi;have hbt:Bnd M (l.take i):=λx hx=>hb x (Cj hx)
  have hbo:=qX (l.take i) [] (Bnd.nil 0) hbt;have hko:=vC (l.take i) [] (λ_ h=>by cases h) (λx hx=>hk x (Cj hx));have hlo:=aEh [] (l.take i);have hti:(l.take i).length=i:=by simp;omega
  rw[hti]at hbo hlo;have hle:0+i*M<=l.length*M:=by rw[A5];exact A7 _ (by omega)
  by_cases hgo:i<l.length
  ·have q1:(i:Int)<l.length:=by omega
   have hw7:Ag.wrap ((i:Int)+1)=(i:Int)+1:=aV;have g1:l[i]? = some l[i]:=Ab hgo;have hsu:=aAj [] l i hgo;have hbx:=hb _ (Ar hgo);have hle2:M<=l.length*M:=by have:1*M<=l.length*M:=A7 _ (by omega);rwa [C9]at this
   generalize l[i]=x at *;obtain⟨xi,xc⟩:=x;generalize fF [] (l.take i)=m at *;simp only at hbx hsu;have hadd:=aUb m xi xc (gU (An (pL hbo xi) hle) hM) (gU (An hbx hle2) hM);simp[-C,-I,↓KW,aK,q1,g1,bE,aF,aD];refine tV hadd (by simp) (id:=1) (by simp[gM,dU]) (by simp[dU,nL]) (jC _) (by simp[gM,dU,vA,qV,aOj,aLh]) (by simp[gM,dU];rfl) rfl (jC _) ?_;simp[-C,-I,↓KW,hw7];refine aI (i+1) hgo (AF hgo (AK i)) (wkQ [1] ?_ ?_)
   ·simp[-C,upd,aO,Γ0,aK]
   ·rw[hsu];exact⟨⟨_,by simp[dU],lH _⟩,trivial⟩
  ·have q1:¬(i:Int)<l.length:=by omega
   have e:l.take i=l:=Ai (by omega);have ei:i=l.length:=by omega
   rw[e]at hbo hko hlo;rw[ei]at hbo hlo;generalize hmm:fF [] l=m at *;have hbo':Bnd (l.length*M) m:=hbo.mono (by omega);simp only[e,hmm];simp[-C,-I,↓KW,q1];refine tV (aOr m (λq=>gU (pL hbo' q) hM) (by simp at hlo;omega) hko.all) (by simp) (id:=1) (by simp[gM,dU,aLq]) (by simp[dU,nL]) (jC _) (by simp[qV]) (by rfl) rfl (jC _) ?_;simp[-C,-I,↓KW,aK]
def bEa(a b:List (Int×Int))(k:Int)(A M K:Nat)(ha:Bnd A a)(hb:Bnd M b)(hk:k.natAbs<=K)(hA:(aU (a.length*A+b.length*(K*M))).length<=137438953472)(hA1:(aU A).length<=137438953472)(hKM:(aU (K*M)).length<=137438953472)(hK:(aU K).length<=137438953472)
  (hM:(aU M).length<=137438953472) (hka:Keys a) (hkb:Keys b) (hl:a.length+b.length<=1073741824):Spec Aa 219 [aK a,aK b,encZ k] (aK (gO (fF (fF [] a) (mulR k b)))):=by
 refine qL (N:=43) Tryz.func219 bHh ?_
 simp[-C,-I,↓KW,aK,aY,aF,aD]
 refine aP (λi:Nat=>i<=a.length) (λi=>StL [(1,.d (aK b)),(5,.ptr 1 0),(7,.mp 2),(13,.d (aK a)),(14,.d (.i .i64 a.length)),(15,.d (.i .i64 i))] none [.cells 72 [.d (.b (decide (k<0))),.d (aM (aU k.natAbs))],.map .i64 (iJ (fF [] (a.take i)))]) (λi=>a.length-i) 0 (Ak _) ?_ ?_
 ·refine wkQ [1,2] ?_ ?_
  ·simp[-C,upd,aO,Γ0,aK]
  ·exact⟨⟨_,by simp[dU];rfl,by simp[-C,upd,aO,Γ0]⟩,⟨_,by simp[dU];rfl,lH []⟩,trivial⟩
 ·intro i hi
  have hbt:Bnd A (a.take i):=λx hx=>ha x (Cj hx)
  have hbo:=qX (a.take i) [] (Bnd.nil 0) hbt
  have hti:(a.take i).length=i:=by simp;omega
  rw[hti]at hbo
  have hle:0+i*A<=a.length*A+b.length*(K*M):=by rw[A5];exact An (A7 _ (by omega)) (Nat.le_add_right _ _)
  by_cases hgo:i<a.length
  ·have q1:(i:Int)<a.length:=by omega
   have hw7:Ag.wrap ((i:Int)+1)=(i:Int)+1:=aV
   have g1:a[i]? = some a[i]:=Ab hgo
   have hsu:=aAj [] a i hgo
   have hbx:=ha _ (Ar hgo)
   generalize a[i]=x at *
   obtain⟨xi,xc⟩:=x
   generalize fF [] (a.take i)=m at *
   simp only at hbx hsu
   have hadd:=aUb m xi xc (gU (An (pL hbo xi) hle) hA) (gU hbx hA1)
   simp[-C,-I,↓KW,aK,q1,g1,bE,aF,aD]
   refine tV hadd (by simp) (id:=2) (by simp[gM,dU]) (by simp[dU,nL]) (jC _) (by simp[gM,dU,vA,qV,aOj,aLh]) (by simp[gM,dU];rfl) rfl (jC _) ?_
   simp[-C,-I,↓KW,hw7]
   refine aI (i+1) hgo (AF hgo (AK i)) (wkQ [1,2] ?_ ?_)
   ·simp[-C,upd,aO,Γ0,aK]
   ·rw[hsu]
    exact⟨⟨_,by simp[dU,nL];rfl,by simp[-C,upd,aO,Γ0]⟩,⟨_,by simp[dU],lH _⟩,trivial⟩
  ·have q1:¬(i:Int)<a.length:=by omega
   have e:a.take i=a:=Ai (by omega)
   have hba:=qX a [] (Bnd.nil 0) ha
   have hka':=vC a [] (λ_ h=>by cases h) hka
   have hla:=aEh [] a
   simp only[e]
   generalize fF [] a=ma at *
   simp[-C,-I,↓KW,q1,aK]
   have hlm:(mulR k b).length=b.length:=by simp[mulR]
   have hkm:Keys (mulR k b):=λx hx=>by obtain⟨y,hy,rfl⟩:=AA.1 hx;exact hkb y hy
   refine aP (λj:Nat=>j<=b.length) (λj=>StL [(5,.ptr 1 0),(7,.mp 2),(26,.d (aK b)),(27,.d (.i .i64 b.length)),(28,.d (.i .i64 j))] none [.cells 72 [.d (.b (decide (k<0))),.d (aM (aU k.natAbs))],.map .i64 (iJ (fF ma ((mulR k b).take j)))]) (λj=>b.length-j) 0 (Ak _) ?_ ?_
   ·refine wkQ [1,2] ?_ ?_
    ·simp[-C,upd,aO,Γ0,aK]
    ·exact⟨⟨_,by simp[dU,nL];rfl,by simp[-C,upd,aO,Γ0]⟩,⟨_,by simp[dU,nL,fF],lH _⟩,trivial⟩
   ·intro j hj
    have hbt2:Bnd (K*M) ((mulR k b).take j):=λx hx=>pE hk hb x (Cj hx)
    have hbo2:=qX ((mulR k b).take j) ma hba hbt2
    have htj:((mulR k b).take j).length=j:=by simp;omega
    rw[htj]at hbo2
    have hle2:0+a.length*A+j*(K*M)<=a.length*A+b.length*(K*M):=by rw[A5];exact FR (A7 _ (by omega)) _
    by_cases hgo2:j<b.length
    ·have q2:(j:Int)<b.length:=by omega
     have hw7:Ag.wrap ((j:Int)+1)=(j:Int)+1:=aV
     have g1:b[j]? = some b[j]:=Ab hgo2
     have hsu:=aAj ma (mulR k b) j (by omega)
     have hgm:(mulR k b)[j]'(by omega)=(b[j].1,k*b[j].2):=by simp[mulR]
     rw[hgm]at hsu
     have hbx:=hb _ (Ar hgo2)
     generalize b[j]=x at *
     obtain⟨xi,xc⟩:=x
     generalize fF ma ((mulR k b).take j)=m at *
     simp only at hbx hsu
     have hkx:(k*xc).natAbs<=K*M:=by rw[BV];exact Cp hk hbx
     have hadd:=aUb m xi (k*xc) (gU (An (pL hbo2 xi) hle2) hA) (gU hkx hKM)
     simp[-C,-I,↓KW,aK,q2,g1,bE,aF,aD]
     refine aJ (aMn k xc (gU hk hK) (gU hbx hM)) ?_
     simp[-C,-I,↓KW,aY,aF,aD]
     refine tV hadd (by simp) (id:=2) (by simp[gM,dU]) (by simp[dU,nL]) (jC _) (by simp[gM,dU,vA,qV,aOj,aLh]) (by simp[gM,dU];rfl) rfl (jC _) ?_
     simp[-C,-I,↓KW,hw7]
     refine aI (j+1) hgo2 (AF hgo2 (AK j)) (wkQ [1,2] ?_ ?_)
     ·simp[-C,upd,aO,Γ0,aK]
     ·rw[hsu]
      exact⟨⟨_,by simp[dU,nL];rfl,by simp[-C,upd,aO,Γ0]⟩,⟨_,by simp[dU],lH _⟩,trivial⟩
    ·have q2:¬(j:Int)<b.length:=by omega
     have e2:(mulR k b).take j=mulR k b:=Ai (by omega)
     have ej:j=b.length:=by omega
     have hko:=vC (mulR k b) ma hka' hkm
     have hlo:=aEh ma (mulR k b)
     rw[e2]at hbo2
     simp only[e2]
     generalize fF ma (mulR k b)=m at *
     have hbo3:=hbo2.mono hle2
     simp[-C,-I,↓KW,q2]
     refine tV (aOr m (λq=>gU (pL hbo3 q) hA) (by simp at hla;omega) hko.all) (by simp) (id:=2) (by simp[gM,dU,aLq]) (by simp[dU,nL]) (jC _) (by simp[qV]) (by rfl) rfl (jC _) ?_
     simp[-C,-I,↓KW,aK]
def aJx(z:Int)(hl:Sz z):Spec Aa 143 [encZ z] (.b true):=by
 have:=bKi (decide (z<0)) (aU z.natAbs) (An hl (by decide));have hc:=lF z.natAbs;unfold oH at hc;cases h:(aU z.natAbs).getLast? with
 |none =>
  have hz:=fP.1 (EY.1 h);have e:(!decide (z<0))=true:=by simp;omega
  rw[h]at this;have this2:Spec Aa 143 [encI (decide (z<0)) (aU z.natAbs)] (.b (!decide (z<0))):=this;rw[e]at this2;exact this2
 |some x =>
  rw[h]at hc this;have e:(x != 0)=true:=by simpa using hc
  have this2:Spec Aa 143 [encI (decide (z<0)) (aU z.natAbs)] (.b (x != 0)):=this;rw[e]at this2;exact this2
def Val(l:List (Int×Int)):Prop:=l.Pairwise (λx y=>x.1<y.1)/\∀x∈l,x.2≠0
def cK(x:Int×Int)(l:List (Int×Int))(n:Int):getM (x::l) n=if x.1=n then x.2 else getM l n:=by
 unfold getM;by_cases h:x.1=n
 ·have e:fnd n (x::l)=some 0:=by unfold fnd;rw[Ae h]
  rw[e,Ae h];rfl
 ·have e:fnd n (x::l)=(fnd n l).map (·+1):=by show(if x.1=n then some 0 else(fnd n l).map (·+1))=_;rw[Ac h]
  rw[e,Ac h];cases fnd n l with
  |none=>rfl
  |some j=>simp
def gX(n:Int):getM [] n=0:=rfl
def iA{l:List (Int×Int)}{n:Int}(h:∀y∈l,y.1≠n):getM l n=0:=by
 induction l with
 |nil=>rfl
 |cons x l ih =>
  rw[cK,Ac (h x (Av ..))];exact ih λy hy=>h y (As _ hy)
def Val.tail{x:Int×Int}{l:List (Int×Int)}(h:Val (x::l)):Val l/\(∀y∈l,x.1<y.1)/\x.2≠0 :=
 ⟨⟨(Bj.1 h.1).2,λy hy=>h.2 y (As _ hy)⟩,(Bj.1 h.1).1,h.2 x (Av ..)⟩
def Val.cons{x:Int×Int}{l:List (Int×Int)}(h:Val l)(h1:∀y∈l,x.1<y.1)(h2:x.2≠0):Val (x::l) :=
 ⟨Bj.2 ⟨h1,h.1⟩,λy hy=>by
  rcases AG.1 hy with rfl|hy
  ·exact h2
  ·exact h.2 y hy⟩
def Val.nil:Val []:=⟨List.Pairwise.nil,λ_ h=>by cases h⟩
def Val.ext:∀{a b:List (Int×Int)},Val a->Val b->(∀n,getM a n=getM b n)->a=b
 |[],[],_,_,_=>rfl
 |[],y::b,_,hb,h=>by have:=h y.1;rw[gX,cK,Ae rfl]at this;exact(hb.tail.2.2 this.symm).elim
 |x::a,[],ha,_,h=>by have:=h x.1;rw[gX,cK,Ae rfl]at this;exact(ha.tail.2.2 this).elim
 |x::a,y::b,ha,hb,h=>by
  obtain⟨a1,a2,a3⟩:=ha.tail;obtain⟨b1,b2,b3⟩:=hb.tail;rcases ED x.1 y.1 with hxy|hxy|hxy
  ·exfalso;have:=h x.1;rw[cK,Ae rfl,cK,Ac (by omega),iA (λz hz=>by have:=b2 z hz;omega)]at this;exact a3 this
  ·have h1:=h x.1;rw[cK,Ae rfl,cK,Ae hxy.symm]at h1;have e:x=y:=Prod.ext hxy h1;subst e;rw[Val.ext a1 b1 λn=>by
    by_cases hn:x.1=n
    ·subst hn;rw[iA (λz hz=>by have:=a2 z hz;omega),iA (λz hz=>by have:=b2 z hz;omega)]
    ·have:=h n;rwa [cK,Ac hn,cK,Ac hn]at this]
  ·exfalso;have:=h y.1;rw[cK,Ac (by omega),iA (λz hz=>by have:=a2 z hz;omega),cK,Ae rfl]at this;exact b3 this.symm
def aBa(id z:Int):List (Int×Int)->List (Int×Int)
 |[]=>[(id,z)]
 |x::l=>if x.1>id then(id,z)::x::l else if x.1=id then(if x.2+z=0 then l else(id,x.2+z)::l)else x::aBa id z l
def pM(id z:Int):∀(l out:List (Int×Int)),l.foldl (gA id z) (out,true)=(out++l,true)
 |[],out=>by simp
 |x::l,out=>by have e:gA id z (out,true) x=(out++[x],true):=rfl;rw[C3,e,pM id z l];simp
def bYr(f:Int×Int)(s:List (Int×Int)×Bool):List (Int×Int):=if s.2 then s.1 else s.1++[f]
def vX(f:Int×Int)(out:List (Int×Int)):bYr f (out,true)=out:=rfl
def aFz(id z:Int):∀(l out:List (Int×Int)),bYr (id,z) (l.foldl (gA id z) (out,false))=out++aBa id z l
 |[],out=>rfl
 |x::l,out=>by
  rw[C3,aBa];by_cases h1:x.1>id
  ·have e:gA id z (out,false) x=(out++[(id,z),x],true):=by simp[gA,h1]
   rw[e,pM,Ae h1,vX];simp
  ·rw[Ac h1];by_cases h2:x.1=id
   ·rw[Ae h2];by_cases h3:x.2+z=0
    ·have e:gA id z (out,false) x=(out,true):=by simp[gA,h1,h2,h3]
     rw[e,pM,Ae h3,vX]
    ·have e:gA id z (out,false) x=(out++[(id,x.2+z)],true):=by simp[gA,h1,h2,h3]
     rw[e,pM,Ac h3,vX];simp
   ·rw[Ac h2];have e:gA id z (out,false) x=(out++[x],false):=by simp[gA,h1,h2]
    rw[e,aFz id z l (out++[x])];simp
def aZi(l:List (Int×Int))(id z:Int):oO l (id,z)=if z=0 then l else aBa id z l:=by
 have e:oO l (id,z)=bYr (id,z) (l.foldl (gA id z) ([],decide (z=0))):=rfl;rw[e];by_cases h:z=0
 ·rw[Ae h];have:decide (z=0)=true:=by simpa using h
  rw[this,pM,vX];simp
 ·rw[Ac h];have:decide (z=0)=false:=by simpa using h
  rw[this,aFz];simp
def aRs{id z:Int}(hz:z≠0):∀{l:List (Int×Int)},Val l->Val (aBa id z l)/\(∀y∈aBa id z l,y.1=id\/∃x∈l,x.1=y.1)/\∀n,getM (aBa id z l) n=getM l n+if n=id then z else 0
 |[],_=>by
  refine⟨Val.nil.cons (λy hy=>by cases hy) hz,λy hy=>?_,λn=>?_⟩
  ·simp[aBa]at hy;subst hy;exact .inl rfl
  ·simp only[aBa,cK,gX];by_cases h:n=id
   ·subst h;simp
   ·rw[Ac (λe=>h e.symm),Ac h];rfl
 |x::l,h=>by
  obtain⟨h1,h2,h3⟩:=h.tail;simp only[aBa];by_cases hgt:x.1>id
  ·rw[Ae hgt];refine⟨h.cons (λy hy=>?_) hz,λy hy=>?_,λn=>?_⟩
   ·rcases AG.1 hy with rfl|hy
    ·exact hgt
    ·have:=h2 y hy;simp only;omega
   ·rcases AG.1 hy with rfl|hy
    ·exact .inl rfl
    ·exact .inr ⟨y,hy,rfl⟩
   ·rw[cK];by_cases hn:n=id
    ·subst hn;rw[Ae rfl,Ae rfl,iA (l:=x::l) λy hy=>?_,Int.zero_add];rcases AG.1 hy with rfl|hy
     ·omega
     ·have:=h2 y hy;omega
    ·rw[Ac (λe=>hn e.symm),Ac hn,Dl]
  ·rw[Ac hgt];by_cases heq:x.1=id
   ·rw[Ae heq];by_cases h0:x.2+z=0
    ·rw[Ae h0];refine⟨h1,λy hy=>.inr ⟨y,As _ hy,rfl⟩,λn=>?_⟩;rw[cK];by_cases hn:n=id
     ·subst hn;rw[Ae heq,Ae rfl,iA (λy hy=>by have:=h2 y hy;omega)];omega
     ·rw[Ac (by omega),Ac hn,Dl]
    ·rw[Ac h0];refine⟨h1.cons (λy hy=>by have:=h2 y hy;simp only;omega) h0,λy hy=>?_,λn=>?_⟩
     ·rcases AG.1 hy with rfl|hy
      ·exact .inl rfl
      ·exact .inr ⟨y,As _ hy,rfl⟩
     ·rw[cK,cK];by_cases hn:n=id
      ·subst hn;rw[Ae rfl,Ae heq,Ae rfl]
      ·rw[Ac (λe=>hn e.symm),Ac (by omega),Ac hn,Dl]
   ·rw[Ac heq];obtain⟨i1,i2,i3⟩:=aRs (id:=id) hz h1;refine⟨i1.cons (λy hy=>?_) h3,λy hy=>?_,λn=>?_⟩
    ·rcases i2 y hy with h|⟨w,hw,h⟩
     ·omega
     ·have:=h2 w hw;omega
    ·rcases AG.1 hy with rfl|hy
     ·exact .inr ⟨_,Av ..,rfl⟩
     ·rcases i2 y hy with h|⟨w,hw,h⟩
      ·exact .inl h
      ·exact .inr ⟨w,As _ hw,h⟩
    ·rw[cK,cK,i3 n];by_cases hx:x.1=n
     ·rw[Ae hx,Ae hx,Ac (by omega)];omega
     ·rw[Ac hx,Ac hx]
def bKo{l:List (Int×Int)}(h:Val l)(f:Int×Int):Val (oO l f)/\∀n,getM (oO l f) n=getM l n+if n=f.1 then f.2 else 0:=by
 obtain⟨id,z⟩:=f;rw[aZi];by_cases hz:z=0
 ·rw[Ae hz];exact⟨h,λn=>by simp only[hz];simp⟩
 ·rw[Ac hz];obtain⟨h1,_,h3⟩:=aRs (id:=id) hz h;exact⟨h1,h3⟩
def cf(n:Int):List (Int×Int)->Int
 |[]=>0
 |x::l=>(if n=x.1 then x.2 else 0)+cf n l
def cR:∀(b a:List (Int×Int)),Val a->Val (cE a b)/\∀n,getM (cE a b) n=getM a n+cf n b
 |[],a,h=>⟨h,λn=>by simp[cE,cf]⟩
 |x::b,a,h=>by obtain⟨h1,h2⟩:=bKo h x;obtain⟨h3,h4⟩:=cR b (oO a x) h1;refine⟨h3,λn=>?_⟩;show getM (cE (oO a x) b) n=_;rw[h4 n,h2 n];simp only[cf];omega
def bBx(x:Int×Int)(m:List (Int×Int))(n v:Int):wJ (x::m) n v=if x.1=n then(n,v)::m else x::wJ m n v:=by
 unfold wJ;by_cases h:x.1=n
 ·have e:fnd n (x::m)=some 0:=by unfold fnd;rw[Ae h]
  rw[e,Ae h];rfl
 ·have e:fnd n (x::m)=(fnd n m).map (·+1):=by show(if x.1=n then some 0 else(fnd n m).map (·+1))=_;rw[Ac h]
  rw[e,Ac h];cases fnd n m with
  |none=>rfl
  |some j=>simp
def bDv(x:Int×Int)(m:List (Int×Int))(n:Int):wO (x::m) n=if x.1=n then m else x::wO m n:=by
 unfold wO;by_cases h:x.1=n
 ·have e:fnd n (x::m)=some 0:=by unfold fnd;rw[Ae h]
  rw[e,Ae h];rfl
 ·have e:fnd n (x::m)=(fnd n m).map (·+1):=by show(if x.1=n then some 0 else(fnd n m).map (·+1))=_;rw[Ac h]
  rw[e,Ac h];cases fnd n m with
  |none=>rfl
  |some j=>simp
def Mp(m:List (Int×Int)):Prop:=m.Pairwise (λx y=>x.1≠y.1)/\∀x∈m,x.2≠0
def Mp.tail{x:Int×Int}{l:List (Int×Int)}(h:Mp (x::l)):Mp l/\(∀y∈l,x.1≠y.1)/\x.2≠0 :=
 ⟨⟨(Bj.1 h.1).2,λy hy=>h.2 y (As _ hy)⟩,(Bj.1 h.1).1,h.2 x (Av ..)⟩
def Mp.cons{x:Int×Int}{l:List (Int×Int)}(h:Mp l)(h1:∀y∈l,x.1≠y.1)(h2:x.2≠0):Mp (x::l) :=
 ⟨Bj.2 ⟨h1,h.1⟩,λy hy=>by
  rcases AG.1 hy with rfl|hy
  ·exact h2
  ·exact h.2 y hy⟩
def Mp.nil:Mp []:=⟨List.Pairwise.nil,λ_ h=>by cases h⟩
def aYh{n v:Int}(hv:v≠0):∀{m:List (Int×Int)},Mp m->Mp (wJ m n v)/\(∀y∈wJ m n v,y.1=n\/∃x∈m,x.1=y.1)/\∀k,getM (wJ m n v) k=if k=n then v else getM m k
 |[],_=>by
  have e:wJ [] n v=[(n,v)]:=rfl;rw[e];refine⟨Mp.nil.cons (λy hy=>by cases hy) hv,λy hy=>?_,λk=>?_⟩
  ·simp at hy;subst hy;exact .inl rfl
  ·rw[cK];by_cases h:k=n
   ·subst h;simp
   ·rw[Ac (λe=>h e.symm),Ac h]
 |x::m,h=>by
  obtain⟨h1,h2,h3⟩:=h.tail;rw[bBx];by_cases hx:x.1=n
  ·rw[Ae hx];refine⟨h1.cons (λy hy=>by have:=h2 y hy;simp only;omega) hv,λy hy=>?_,λk=>?_⟩
   ·rcases AG.1 hy with rfl|hy
    ·exact .inl rfl
    ·exact .inr ⟨y,As _ hy,rfl⟩
   ·rw[cK,cK];by_cases h:k=n
    ·subst h;simp
    ·rw[Ac (λe=>h e.symm),Ac h,Ac (by omega)]
  ·rw[Ac hx];obtain⟨i1,i2,i3⟩:=aYh (n:=n) hv h1;refine⟨i1.cons (λy hy=>?_) h3,λy hy=>?_,λk=>?_⟩
   ·rcases i2 y hy with h|⟨w,hw,h⟩
    ·omega
    ·have:=h2 w hw;omega
   ·rcases AG.1 hy with rfl|hy
    ·exact .inr ⟨_,Av ..,rfl⟩
    ·rcases i2 y hy with h|⟨w,hw,h⟩
     ·exact .inl h
     ·exact .inr ⟨w,As _ hw,h⟩
   ·rw[cK,cK,i3 k];by_cases hk:x.1=k
    ·rw[Ae hk,Ae hk,Ac (by omega)]
    ·rw[Ac hk,Ac hk]
def aZu{n:Int}:∀{m:List (Int×Int)},Mp m->Mp (wO m n)/\(∀y∈wO m n,y∈m)/\∀k,getM (wO m n) k=if k=n then 0 else getM m k
 |[],h=>⟨h,λy hy=>hy,λk=>by
   have e:wO [] n=[]:=rfl;rw[e,gX];simp⟩
 |x::m,h=>by
  obtain⟨h1,h2,h3⟩:=h.tail;rw[bDv];by_cases hx:x.1=n
  ·rw[Ae hx];refine⟨h1,λy hy=>As _ hy,λk=>?_⟩;rw[cK];by_cases hk:k=n
   ·subst hk;rw[Ae rfl,iA (λy hy=>by have:=h2 y hy;omega)]
   ·rw[Ac hk,Ac (by omega)]
  ·rw[Ac hx];obtain⟨i1,i2,i3⟩:=aZu (n:=n) h1;refine⟨i1.cons (λy hy=>h2 y (i2 y hy)) h3,λy hy=>?_,λk=>?_⟩
   ·rcases AG.1 hy with rfl|hy
    ·exact Av ..
    ·exact As _ (i2 y hy)
   ·rw[cK,cK,i3 k];by_cases hk:x.1=k
    ·rw[Ae hk,Ae hk,Ac (by omega)]
    ·rw[Ac hk,Ac hk]
def bUx{m:List (Int×Int)}(h:Mp m)(n k:Int):Mp (jY m n k)/\∀j,getM (jY m n k) j=getM m j+if j=n then k else 0:=by
 unfold jY;by_cases h0:getM m n+k=0
 ·rw[Ae h0];obtain⟨h1,_,h3⟩:=aZu (n:=n) h;refine⟨h1,λj=>?_⟩;rw[h3 j];by_cases hj:j=n
  ·subst hj;rw[Ae rfl,Ae rfl];omega
  ·rw[Ac hj,Ac hj];omega
 ·rw[Ac h0];obtain⟨h1,_,h3⟩:=aYh (n:=n) h0 h;refine⟨h1,λj=>?_⟩;rw[h3 j];by_cases hj:j=n
  ·subst hj;rw[Ae rfl,Ae rfl]
  ·rw[Ac hj,Ac hj];omega
def yA:∀(l m:List (Int×Int)),Mp m->Mp (fF m l)/\∀j,getM (fF m l) j=getM m j+cf j l
 |[],m,h=>⟨h,λn=>by simp[fF,cf]⟩
 |x::l,m,h=>by obtain⟨h1,h2⟩:=bUx h x.1 x.2;obtain⟨h3,h4⟩:=yA l (jY m x.1 x.2) h1;refine⟨h3,λn=>?_⟩;show getM (fF (jY m x.1 x.2) l) n=_;rw[h4 n,h2 n];simp only[cf];omega
def aSg(g:Int->Int):∀(l:List Int) (n:Int),getM (l.map λn=>(n,g n)) n=if n∈l then g n else 0
 |[],n=>rfl
 |x::l,n=>by
  rw[A0,cK,aSg g l n];by_cases h:x=n
  ·subst h;simp
  ·have h':¬n=x:=λe=>h e.symm
   simp[h,h']
def aSl{n:Int}{m:List (Int×Int)}(h:n ∉ m.map (·.1)):getM m n=0:=iA λy hy e=>h (e ▸ FQ hy)
def aSf{m:List (Int×Int)}(h:Mp m){n:Int}(hn:n∈m.map (·.1)):getM m n≠0:=by
 unfold getM;have hs:=aGb hn;cases hf:fnd n m with
 |none=>rw[hf]at hs;cases hs
 |some j =>
  obtain⟨z,hz⟩:=aGa hf;simp only[Af,hz,Bc];exact h.2 _ (Aq hz)
def aGu{m:List (Int×Int)}(h:Mp m):Val (gO m)/\∀n,getM (gO m) n=getM m n:=by
 refine⟨⟨?_,λx hx=>?_⟩,λn=>?_⟩
 ·unfold gO;rw[CM];have h1:=Go.Proofs.isort_sorted (m.map (·.1));have h0:(m.map (·.1)).Pairwise (λa b:Int=>a≠b):=by rw[CM];exact h.1
  have h2:(gZ (m.map (·.1))).Pairwise (λa b:Int=>a≠b):=(Go.Proofs.isort_perm (m.map (·.1))).symm.pairwise h0 (λ{x y} (hxy:x≠y)=>Ne.symm hxy);exact(h1.and h2).imp λ⟨a,b⟩=>by simp only;omega
 ·obtain⟨n,hn,rfl⟩:=AA.1 hx;exact aSf h ((rJ n _).1 hn)
 ·unfold gO;rw[aSg];by_cases hn:n∈m.map (·.1)
  ·rw[Ae ((rJ n _).2 hn)]
  ·rw[Ac (λh=>hn ((rJ n _).1 h)),aSl hn]
def gD:∀{l:List (Int×Int)},Val l->∀n,cf n l=getM l n
 |[],_,_=>rfl
 |x::l,h,n=>by
  obtain⟨h1,h2,_⟩:=h.tail;rw[cf,gD h1,cK];by_cases hx:x.1=n
  ·subst hx;rw[Ae rfl,Ae rfl,iA (λy hy=>by have:=h2 y hy;omega)];omega
  ·rw[Ac (λe=>hx e.symm),Ac hx];omega
def bSc(l:List (Int×Int)):gO (fF [] l)=cE [] l:=by obtain⟨h1,h2⟩:=yA l [] Mp.nil;obtain⟨h3,h4⟩:=aGu h1;obtain⟨h5,h6⟩:=cR l [] Val.nil;exact h3.ext h5 λn=>by rw[h4 n,h2 n,h6 n]
def add_eq{a:List (Int×Int)}(ha:Val a)(c:List (Int×Int)):gO (fF (fF [] a) c)=cE a c:=by obtain⟨h1,h2⟩:=yA a [] Mp.nil;obtain⟨h1',h2'⟩:=yA c _ h1;obtain⟨h3,h4⟩:=aGu h1';obtain⟨h5,h6⟩:=cR c a ha;exact h3.ext h5 λn=>by rw[h4 n,h2' n,h2 n,h6 n,gD ha,gX];omega
def xD{l:List (Int×Int)}(h:Val l):xC l=true:=by
 refine aBs λj hj=>?_
 unfold aQp;have g:=bLe hj;have h1:(l.getD j (0,0)).2≠0:=h.2 _ (Aq g);rw[AO,CG];refine⟨by simpa using h1,?_⟩;rcases j with _|k
 ·exact .inl rfl
 ·refine .inr ?_;have hk:k<l.length:=by omega
  have:=List.pairwise_iff_getElem.1 h.1 k (k+1) hk hj (by omega);rw[A9,Af,Af,Ab hj,Ab hk];simpa using this
def aWc{n:Nat}(h:n<340282366920938463463374607431768211456):(aU n).length<=137438953472:=by
 have e:(4294967296:Nat)^4=340282366920938463463374607431768211456:=by decide
 have:=fZ (n:=n) (k:=4) (by rw[e];exact h);omega
def lin(a b:List (Int×Int))(k:Int):List (Int×Int):=cE a (mulR k b)
def aNd(k n:Int):∀b:List (Int×Int),cf n (mulR k b)=k*cf n b
 |[]=>by simp[mulR,cf]
 |x::b=>by have ih:=aNd k n b;show(if n=x.1 then k*x.2 else 0)+cf n (mulR k b)=k*((if n=x.1 then x.2 else 0)+cf n b);rw[ih,Int.mul_add];split<;>simp
def aWk(n:Int):∀a b:List (Int×Int),cf n (a++b)=cf n a+cf n b
 |[],b=>by simp[cf]
 |x::a,b=>by have ih:=aWk n a b;simp only[List.cons_append,cf,ih];omega
def aDj{a b:List (Int×Int)}(ha:Val a)(hb:Val b)(k:Int):Val (lin a b k)/\∀n,getM (lin a b k) n=getM a n+k*getM b n:=by obtain⟨h1,h2⟩:=cR (mulR k b) a ha;exact⟨h1,λn=>by show getM (cE a (mulR k b)) n=_;rw[h2 n,aNd,gD hb]⟩
def bSj{a b:List (Int×Int)}{k:Int}{A M K:Nat}(ha:Bnd A a)(hb:Bnd M b)(hk:k.natAbs<=K):Bnd (A+b.length*(K*M)) (lin a b k):=by have:=mK (mulR k b) a ha (pE hk hb);rwa [show(mulR k b).length=b.length by simp[mulR]]at this
def bSi(a b:List (Int×Int))(k:Int):(lin a b k).length<=a.length+b.length:=by have:=nX a (mulR k b);rwa [show(mulR k b).length=b.length by simp[mulR]]at this
structure Small(a:List (Int×Int)):Prop where
 val:Val a
 keys:Keys a
 bnd:Bnd 1000000000000 a
 len:a.length<=100
def Small.sz{a:List (Int×Int)}(h:Small a):∀x∈a,Sz x.2:=λx hx=>gU (h.bnd x hx) (aWc (by decide))
def Small.nil:Small []:=⟨Val.nil,(λ_ h=>by cases h),Bnd.nil _,Ak _⟩
def bXs(n:Int)(h:n.natAbs<=1000000):Spec Aa 31 [.i .i64 n] (encZ n):=sY n (by omega) (by omega)
def xO(z:Int):List D:=[.b (decide (z<0)),aM (aU z.natAbs)]
def dQ(v:List Int):D:=.sl (v.map xO)
def vcs(v:List Int):List D:=(v.map xO).flatten
def gY(l:List Int):(vcs l).length=l.length*2:=by
 unfold vcs;induction l with
 |nil=>rfl
 |cons x l ih=>simp only[A0,BE,Al,ih,xO,AH,Bo];omega
def aMx(z:Int):xO z=[.b (decide (z<0)),aM (aU z.natAbs)]:=rfl
def bDy(l:List (List D))(h:∀x∈l,x.length=2):chunk 2 l.length l.flatten=l:=by
 induction l with
 |nil=>rfl
 |cons a l ih =>
  have ha:=h a (Av ..);have:=ih λx hx=>h x (As _ hx)
  unfold chunk at this ⊢;rw[AH,Eo,A0,CC,BE];congr 1
  ·simp[ha]
  ·conv=>rhs;rw[<-this]
   apply BJ;intro i _;simp only[Function.comp];rw[show Nat.succ i*2=a.length+i*2 from by omega,List.drop_append,Bz (by omega)];simp
def aKl{l:List Int}{n:Nat}(h:l.length=n):chunk 2 n (vcs l)=l.map xO:=by subst h;have:=bDy (l.map xO) (λx hx=>by obtain⟨y,_,rfl⟩:=AA.1 hx;rfl);rwa [AL]at this
def xW{l:List Int}{n:Nat}(h:l.length=n):BB (n*2) ((vcs l).map AV.d)=(vcs l).map AV.d:=Ai (by simp[gY,h])
def eQ(rows cols:Int)(A:List (List Int)):D:=.ag [.i .i64 rows,.i .i64 cols,.sl (A.map λv=>[dQ v])]
def wU{H H':Hp}{ρ:Nat->Nat}{a o l s b o' l' s':Nat}:pR H H' ρ (.own a o l s) (.own b o' l' s')↔(a=ρ b/\o=o'/\l=l'/\s=s'/\(H' b).isSome=true):=Iff.rfl
def bLh{H:Hp}{B:Nat}{e:TypeId}{v:List Int}{n:Nat}(m:Nat)(hB:H B=some (.cells e ((vcs v).map .d)))(hv:v.length=n):frz H (m+2) (.own B 0 n 2)=some (dQ v):=by have hl:=gY v;rw[hv]at hl;rw[jA,hB];simp only[A5,AL,hl,Nat.zero_mul,List.drop_zero];rw[xW hv,Ae ⟨Ap _,by decide⟩];have:List.mapM (frz H (m+1)) ((vcs v).map AV.d)=some (vcs v):=lX H m (vcs v);rw[this,A4,aKl hv];rfl
def qW(z:Int)(v:List Int):vcs (z::v)=xO z++vcs v:=by simp[vcs]
def iM:∀{v:List Int} {k:Nat} {z:Int},v[k]? = some z->((vcs v).drop (k*2)).take 2=xO z
 |[],k,z,h=>by simp at h
 |y::v,0,z,h=>by simp at h;subst h;rw[qW];rfl
 |y::v,k+1,z,h=>by have ih:=iM (v:=v) (k:=k) (z:=z) (by simpa using h);rw[qW,show(k+1)*2=k*2+2 by omega,<-ih];rw[CB,<-List.drop_drop];rfl
def aXs:∀{v:List Int} {k:Nat} (z:Int),k<v.length->(vcs v).take (k*2)++xO z++(vcs v).drop (k*2+2)=vcs (v.set k z)
 |[],k,z,h=>by simp at h
 |y::v,0,z,h=>by rw[CT,qW,qW];rfl
 |y::v,k+1,z,h=>by
  have ih:=aXs (v:=v) (k:=k) z (by simpa using h);rw[FY,qW,qW,<-ih,show(k+1)*2=2+k*2 by omega,show 2+k*2+2=2+(k*2+2)by omega];have e1:∀n,BB (2+n) (xO y++vcs v)=xO y++BB n (vcs v):=λn=>by rw[List.take_append,Ai (by show 2<=2+n;omega)];congr 2;show 2+n-2=n;omega
  have e2:∀n,Cy (2+n) (xO y++vcs v)=Cy n (vcs v):=λn=>by rw[<-List.drop_drop];rfl
  rw[e1,e2];simp
def mapM_some{α β:Type}(f:α->Option β)(g:Nat->β):∀(l:List α),(∀k x,l[k]? = some x->f x=some (g k))->l.mapM f=some ((CP l.length).map g)
 |[],_=>rfl
 |x::l,h=>by rw[B6,h 0 x rfl,mapM_some f (λk=>g (k+1)) l λk y hy=>h (k+1) y (by simpa using hy),AH,Eo];simp[Function.comp_def]
def zr(cols:Nat):List AV:=(AB cols [AV.d (.b false),AV.nil]).flatten
def bOq{H H':Hp}{ρ:Nat->Nat}(cols:Nat):jB H H' ρ (zr cols) (zr cols):=by
 refine fQ.2 ⟨rfl,λk c d h1 h2=>?_⟩;rw[h1]at h2;injection h2 with h2;subst h2
 have hm:=Aq h1;unfold zr at hm;rw[List.mem_flatten]at hm;obtain⟨l,hl,hc⟩:=hm;rw[List.eq_of_mem_replicate hl]at hc;rcases AG.1 hc with rfl|hc
 ·exact(kK _ _).2 rfl
 ·rw[AT.1 hc];trivial
def aTt{H H':Hp}{ρ:Nat->Nat}:∀c:Nat,jB H H' ρ (zr c) ((vcs (AB c 0)).map .d)
 |0=>trivial
 |c+1=>by
  have ih:=aTt (H:=H) (H':=H') (ρ:=ρ) c;have e1:zr (c+1)=AV.d (.b false)::AV.nil::zr c:=by simp[zr,DN]
  have e2:(vcs (AB (c+1) 0)).map AV.d=AV.d (.b (decide ((0:Int)<0)))::AV.d (aM (aU (0:Int).natAbs))::(vcs (AB c 0)).map AV.d:=by rw[DN];rfl
  rw[e1,e2];refine⟨?_,?_,ih⟩
  ·exact(kK _ _).2 rfl
  ·exact⟨by rw[show((0:Int).natAbs)=0 from rfl,dG];rfl,λa ha=>by simp[vis]at ha⟩
def nwV(rows cols m:Nat):AV:=.ag [.d (.i .i64 (rows:Int)),.d (.i .i64 (cols:Int)),.own m 0 rows 1]
def cC{P:Program}(σ:St)(x y:ResultVar):mU P [x,y] σ=(nO P σ x).bind λa=>(nO P σ y).bind λb=>(frz σ.H 8 a).bind λu=>(frz σ.H 8 b).bind λv=>some (.tp [u,v]):=by unfold mU;cases h1:nO P σ x<;>cases h2:nO P σ y<;>simp[fW,h1,h2];rename_i a b;cases frz σ.H 8 a<;>cases frz σ.H 8 b<;>simp
def eW{P:Program}(σ:St)(x y z:ResultVar):mU P [x,y,z] σ=(nO P σ x).bind λa=>(nO P σ y).bind λb=>(nO P σ z).bind λc=>(frz σ.H 8 a).bind λu=>(frz σ.H 8 b).bind λv=>(frz σ.H 8 c).bind λw=>some (.tp [u,v,w]):=by unfold mU;cases h1:nO P σ x<;>cases h2:nO P σ y<;>cases h3:nO P σ z<;>simp[fW,h1,h2,h3];rename_i a b c;cases frz σ.H 8 a<;>cases frz σ.H 8 b<;>cases frz σ.H 8 c<;>simp
def shS(a:List Nat)(d:Nat):Nat->List Nat×Nat
 |0=>(AB a.length 0,0)
 |k+1=>((shS a d k).1.set (a.length-1-k) (((shS a d k).2*4294967296+a.getD (a.length-1-k) 0)/d),((shS a d k).2*4294967296+a.getD (a.length-1-k) 0)%d)
def bGe{o v v' p q d r r' x t t' w:Nat}(hs:v'+p*o=v+p*q)(ho:o=0)(ht:r*4294967296+x=t)(hq:r'+d*q=t)(hv:v*d+p*4294967296*r+(t'+p*x)=w):v'*d+p*r'+t'=w:=by
 subst ho;have h1:v'=v+p*q:=by omega
 have h2:p*t=p*(r*4294967296)+p*x:=by rw[<-ht,Cn]
 have h3:p*t=p*r'+p*(d*q):=by rw[<-hq,Cn]
 have h4:p*q*d=p*(d*q):=by rw[Ce,Cb q]
 have h5:p*4294967296*r=p*(r*4294967296):=by rw[Ce,Cb r]
 rw[h1,Bw,h4];omega
def bVk{r x d:Nat}(hr:r<d)(hx:x<4294967296):(r*4294967296+x)/d<4294967296:=by
 rw[Nat.div_lt_iff_lt_mul (by omega)];have:r*4294967296+4294967296<=d*4294967296:=by have:=A7 4294967296 (Nat.succ_le_of_lt hr);rw[Nat.succ_mul]at this;exact this
 rw[Cb 4294967296];omega
def aYa{a:List Nat}{d:Nat}(ha:Lim a)(hd:0<d)(k:Nat)(hk:k<=a.length) :
  (shS a d k).1.length=a.length/\(shS a d k).2<d/\Lim (shS a d k).1/\(∀i,i<a.length-k->(shS a d k).1.getD i 0=0) /\
  val (shS a d k).1*d+4294967296^(a.length-k)*(shS a d k).2+val (a.take (a.length-k))=val a:=by
 induction k with
 |zero=>exact⟨by simp[shS],hd,.rep _,λi _=>by simp[shS,CN];split<;>rfl,by simp[shS,aCt]⟩
 |succ k ih =>
  obtain⟨h1,h2,h3,h4,h5⟩:=ih (by omega)
  obtain⟨j,hj⟩:∃j,a.length-1-k=j:=⟨_,rfl⟩
  have hj1:a.length-k=j+1:=by omega
  have hj2:a.length-(k+1)=j:=by omega
  have hx:=ha.getD j
  have hset:=aLj (l:=(shS a d k).1) (j:=j) (by omega) (((shS a d k).2*4294967296+a.getD j 0)/d)
  have hoj:=h4 j (by omega)
  simp only[shS,hj,hj2]
  rw[hj1,eA,Cm]at h5
  have hlt:=bVk h2 hx
  refine⟨by simp[h1],EI _ hd,h3.set _ hlt,λi hi=>?_,?_⟩
  ·rw[Af,FC (by omega),<-Af]
   exact h4 i (by omega)
  ·exact bGe hset hoj rfl (Nat.mod_add_div _ _) h5
def shQ(a:List Nat)(d:Nat):List Nat:=(shS a d a.length).1
def aLr{a:List Nat}{d:Nat}(ha:Lim a)(hd:0<d):(shQ a d).length=a.length/\Lim (shQ a d)/\val (shQ a d)=val a/d/\(shS a d a.length).2=val a%d:=by obtain⟨h1,h2,h3,_,h5⟩:=aYa ha hd a.length (Ap _);rw[Cu,Nat.pow_zero,C9,Cq,val,B9]at h5;have:=(Nat.div_mod_unique hd).2 ⟨show(shS a d a.length).2+d*val (shQ a d)=val a by rw[Cb,CB];exact h5,h2⟩;exact⟨h1,h3,this.1.symm,this.2.symm⟩
def aPz(a:List Nat)(d:Nat)(ha:Lim a)(hd:0<d)(hd2:d<4294967296)(hla:a.length<=1099511627776):Spec Aa 114 [aM a,.i .u32 d] (.tp [aM (shQ a d),.i .u32 ((val a%d:Nat):Int)]):=by
 refine bF (N:=42) Tryz.func114 ?_;obtain⟨n,hn⟩:∃n,a.length=n:=⟨_,rfl⟩;have hm1:(4:Int)*n<=281474976710656:=by omega
 have hm2:(n:Int)<=9223372036854775807:=by omega
 have hw1:Ag.wrap ((n:Int)-1)=(n:Int)-1:=aV;have hwd:A2.wrap (d:Int)=d:=bT (by omega) (by omega);have hdz:¬d=0:=by omega
 have h00:(shS a d 0).1=AB n 0:=by rw[<-hn];rfl
 have h01:(shS a d 0).2=0:=rfl;simp[-C,-I,↓KW,aM,hn,hw1,hm1,hm2];refine aP (λk:Nat=>k<=n)
  (λk=>StL [(0,.d (aM a)),(1,.d (.i .u32 d)),(6,.own 1 0 n 1),(7,.d (.i .u64 (shS a d k).2)),(8,.d (.i .i64 ((n:Int)-1-k)))] none
   [.cells 101 ((lms (shS a d k).1).map .d)]) (λk=>n-k) 0 (Ak _) ?_ ?_
 ·refine wkQ [1] ?_ ?_<;>simp[-C,upd,aO,Γ0,aM,h00,h01]
 ·intro k hk;obtain⟨ol,oc,om,_,_⟩:=aYa ha hd k (by omega);rw[hn]at ol;by_cases hgo:k<n
  ·have q1:(0:Int)<=(n:Int)-1-k:=by omega
   obtain⟨j,hj⟩:∃j,a.length-1-k=j:=⟨_,rfl⟩;have hji:(n:Int)-1-k=j:=by omega
   have hsucc:shS a d (k+1)=((shS a d k).1.set j (((shS a d k).2*4294967296+a.getD j 0)/d),((shS a d k).2*4294967296+a.getD j 0)%d):=by rw[<-hj];rfl
   have g1:=getD_some (l:=a) (i:=j) (by omega);have hx:=ha.getD j;have hlt:=bVk oc hx;generalize hout:(shS a d k).1=out at *;generalize hcar:(shS a d k).2=r at *;generalize a.getD j 0=x at *;obtain⟨t,ht⟩:∃t,r*4294967296+x=t:=⟨_,rfl⟩;rw[ht]at hsucc hlt;obtain⟨q,hq⟩:∃q,t/d=q:=⟨_,rfl⟩;obtain⟨r',hr'⟩:∃r',t%d=r':=⟨_,rfl⟩;rw[hq,hr']at hsucc;rw[hq]at hlt;have hr'd:r'<d:=by rw[<-hr'];exact EI _ hd
   have hwx:A2.wrap (x:Int)=x:=bT (by omega) (by omega);have hwr:A2.wrap ((r:Int)*4294967296)=(r:Int)*4294967296:=bT (by omega) (by omega);have hwt:A2.wrap ((r:Int)*4294967296+x)=t:=by rw[bT (by omega) (by omega)];omega
   have hwq:A2.wrap ((t:Int)/d)=q:=by rw[<-Int.natCast_ediv,hq,bT (by omega) (by omega)]
   have hwq2:Co.wrap (q:Int)=q:=kN (by omega) (by omega);have hwm:Int.tmod (t:Int) d=r':=by rw[<-Int.ofNat_tmod,hr']
   have hw8:Ag.wrap ((j:Int)-1)=(j:Int)-1:=aV;have hjn:j<n:=by omega
   have hjl3:j+1<=n:=by omega
   have hlay:lay (AQ AV.d (lms out)) j [AV.d (D.i .u32 (q:Int))]=AQ AV.d (lms (out.set j q)):=by rw[oM _ _ _ (by rw[nG];omega),zC]
   have he:(n:Int)-1-((k:Int)+1)=(j:Int)-1:=by omega
   rw[hji];simp[-C,-I,↓KW,aM,g1,hwx,hwr,hwt,hwd,hdz,hwq,hwq2,hwm,hw8,hjn,hjl3,hlay,ol];refine aI (k+1) hgo ?_ (wkQ [1] ?_ ?_)
   ·omega
   ·simp[-C,upd,aO,Γ0,aM,hsucc,he]
   ·simp[-C,upd,aO,Γ0,aM,hsucc,he]
  ·have e:k=n:=by omega
   have q1:¬(k:Int)<=(n:Int)-1:=by omega
   obtain⟨s1,s2,s3,s4⟩:=aLr ha hd;have e1:(shS a d k).1=shQ a d:=by rw[e,<-hn];rfl
   have e2:(shS a d k).2=val a%d:=by rw[e,<-hn];exact s4
   rw[hn]at s1;have hrd:val a%d<d:=EI _ hd;have e3:(val a:Int)%d=((val a%d:Nat):Int):=by rw[Int.natCast_emod]
   rw[e1,e2];generalize val a%d=r at *;have hwr:Co.wrap (r:Int)=r:=kN (by omega) (by omega);simp[-C,-I,↓KW,aM,q1,s1,iB s1,fE s1,hwr,e3,cC]
def uR{n:Nat}(h:n<=2147483648):(n+1)*32<=140737488355328/\n+1<=1099511627776:=⟨by omega,by omega⟩
structure Cl where
 id:Int
 dim:Int
 b:List (Int×Int)
 deriving DecidableEq,Inhabited
def lA:Cl:=⟨0,0,[]⟩
def aN(x:Cl):List D:=[.i .i64 x.id,.i .i64 x.dim,aK x.b]
def aE(c:List Cl):D:=.sl (c.map aN)
def dV(l:List Int):D:=.sl (l.map λn=>[.i .i64 n])
def bG(c:List Cl)(n:Int):Option Cl:=c.find? λy=>decide (y.id=n)
def cA(c:List Cl)(k:Int):List Int:=(c.filter λy=>decide (y.dim=k)).map Cl.id
def bOf(c:List Cl)(n:Int):List (Int×Int):=((bG c n).getD lA).b
def dOf(c:List Cl)(n:Int):Int:=((bG c n).getD lA).dim
def kn(c:List Cl)(n:Int):Bool:=(bG c n).isSome
def aVx(x:Cl)(c:List Cl)(n:Int):bG (x::c) n=if x.id=n then some x else bG c n:=by unfold bG;rw[List.find?_cons];by_cases h:x.id=n<;>simp[h]
def aVw{c:List Cl}{i:Nat}(h:i<c.length)(n:Int):bG (c.drop i) n=if c[i].id=n then some c[i]else bG (c.drop (i+1)) n:=by rw[AP h,aVx]
def bDi{c:List Cl}{i:Nat}(h:i<c.length)(k:Int):cA (c.take (i+1)) k=cA (c.take i) k++if c[i].dim=k then[c[i].id]else[]:=by unfold cA;rw[AM,Ab h,List.filter_append,Bt];congr 1;by_cases e:c[i].dim=k<;>simp[e]
def nS(c:List Cl)(k:Int):(cA c k).length<=c.length:=by unfold cA;rw[AL];exact List.length_filter_le _ _
def dE{c:List Cl}{n:Int}{x:Cl}(h:bG c n=some x):x∈c/\x.id=n :=
 ⟨List.mem_of_find?_eq_some h,by have:=List.find?_some h;simpa using this⟩
def aGd{c:List Cl}{n:Int}(h:bG c n=none):∀x∈c,x.id≠n:=λx hx=>by have:=List.find?_eq_none.1 h x hx;simpa using this
def Inc(c:List Cl):Prop:=c.Pairwise λx y=>x.id<y.id
def Inc.eq{c:List Cl}(h:Inc c){x y:Cl}(hx:x∈c)(hy:y∈c)(e:x.id=y.id):x=y:=by
 induction c with
 |nil=>cases hx
 |cons a c ih =>
  obtain⟨h1,h2⟩:=Bj.1 h;rcases AG.1 hx with rfl|hx'<;>rcases AG.1 hy with rfl|hy'
  ·rfl
  ·have:=h1 y hy';omega
  ·have:=h1 x hx';omega
  ·exact ih h2 hx' hy'
def Inc.find{c:List Cl}(h:Inc c){x:Cl}(hx:x∈c):bG c x.id=some x:=by
 cases e:bG c x.id with
 |none=>exact(aGd e x hx rfl).elim
 |some y=>obtain⟨h1,h2⟩:=dE e;rw[h.eq h1 hx h2]
def lv(k:Int)(r:List (Int×Int)):Int:=r.foldl (λacc x=>if x.1=k then x.2 else acc) 0
def bSe(k:Int)(r:List (Int×Int))(x:Int×Int):lv k (r++[x])=if x.1=k then x.2 else lv k r:=by simp[lv]
def bSd{r:List (Int×Int)}{i:Nat}(h:i<r.length)(k:Int):lv k (r.take (i+1))=if r[i].1=k then r[i].2 else lv k (r.take i):=by rw[AM,Ab h];exact bSe _ _ _
def aYz(k:Int):∀(r:List (Int×Int)) (acc:Int),Val r->r.foldl (λacc x=>if x.1=k then x.2 else acc) acc=if ∃y∈r,y.1=k then getM r k else acc
 |[],acc,_=>by simp
 |x::r,acc,h=>by
  obtain⟨h1,h2,h3⟩:=h.tail;rw[C3,aYz k r _ h1,cK];by_cases e:x.1=k
  ·have hn:¬∃y∈r,y.1=k:=λ⟨y,hy,e2⟩=>by have:=h2 y hy;omega
   rw[Ac hn,Ae e,Ae ⟨x,Av ..,e⟩,Ae e]
  ·rw[Ac e,Ac e];by_cases hr:∃y∈r,y.1=k
   ·obtain⟨y,hy,e2⟩:=hr;rw[Ae ⟨y,hy,e2⟩,Ae ⟨y,As _ hy,e2⟩]
   ·rw[Ac hr,Ac];rintro⟨y,hy,e2⟩;rcases AG.1 hy with rfl|hy
    ·exact e e2
    ·exact hr ⟨y,hy,e2⟩
def aYy{r:List (Int×Int)}(h:Val r)(k:Int):lv k r=getM r k:=by
 unfold lv;rw[aYz k r 0 h];split
 ·rfl
 ·rename_i hn;exact(iA λy hy e=>hn ⟨y,hy,e⟩).symm
def bYc{M:Nat}{r:List (Int×Int)}(h:Bnd M r)(k:Int):(lv k r).natAbs<=M:=by
 unfold lv
 suffices ∀(r:List (Int×Int)) (acc:Int),Bnd M r->acc.natAbs<=M->(r.foldl (λacc x=>if x.1=k then x.2 else acc) acc).natAbs<=M from this r 0 h (by simp)
 intro r;induction r with
 |nil=>intro acc _ ha;exact ha
 |cons x r ih =>
  intro acc hb ha;rw[C3];refine ih _ (λy hy=>hb y (As _ hy)) ?_;split
  ·exact hb x (Av ..)
  ·exact ha
def wG(ids:List Int)(x:List (Int×Int)):List Int:=ids.map λn=>lv n x
def tF(c:List Cl)(k:Int):List (List Int):=(cA c k).map λn=>wG (cA c (k-1)) (bOf c n)
def rI(c:List Cl)(x:List (Int×Int)):Bool:=x.all λf=>kn c f.1
def bdL(c:List Cl)(x:List (Int×Int)):List (Int×Int):=x.flatMap λf=>mulR f.2 (bOf c f.1)
def bdX(c:List Cl)(x:List (Int×Int)):List (Int×Int):=cE [] (bdL c x)
def chX(c:List Cl)(k:Int)(v:List Int):List (Int×Int)×Int:=if v.length=(cA c k).length then(cE [] ((cA c k).zip v),0)else([],50)
def bNf{c:List Cl}{x:List (Int×Int)}{i:Nat}(h:i<x.length):bdL c (x.take (i+1))=bdL c (x.take i)++mulR x[i].2 (bOf c x[i].1):=by unfold bdL;rw[AM,Ab h,List.flatMap_append];simp
def aTi(a x y:List (Int×Int)):cE a (x++y)=cE (cE a x) y:=by unfold cE;rw[Dk]
def oP(c:List Cl)(n:Int):D:=.tp [.ag (aN ((bG c n).getD lA)),.b (bG c n).isSome]
def eJ(c:List Cl):fB 3 (c.map aN)=true:=by cases c<;>rfl
def aC(l:List (Int×Int)):one (.d (aK l))=true:=rfl
def aA(l:List (Int×Int)):fN (.d (aK l))=some [.d (aK l)]:=rfl
def aB(l:List (Int×Int)):aO (aK l)=.d (aK l):=rfl
def aT(H:Hp)(avs:List AV)(l:List (Int×Int)):bR H avs (aK l)=fK H avs:=rfl
def aQ(l:List (Int×Int)):inj (aK l)=.d (aK l):=rfl
def gC(c:List Cl)(n:Int)(hl:c.length<=1000000):Spec Aa 69 [aE c,.i .i64 n] (oP c n):=by
 refine bF (N:=25) Tryz.func69 ?_;simp[-C,-I,↓KW,aE];refine aP (λi:Nat=>i<=c.length/\bG (c.drop i) n=bG c n) (λi=>StL [(0,.d (aE c)),(1,.d (.i .i64 n)),(4,.ptr 1 0),(5,.d (.b false)),(6,.d (.i .i64 (i:Int)))] none [.cells 40 [.d (.i .i64 0),.d (.i .i64 0),.nil]]) (λi=>c.length-i) 0 ⟨Ak _,rfl⟩ ?_ ?_
 ·refine wkQ [1] ?_ ?_<;>simp[-C,upd,aO,Γ0,aE]
 ·intro i ⟨hi,hp⟩;by_cases hgo:i<c.length
  ·have q1:(i:Int)<c.length:=by omega
   have hx:c[i]? = some c[i]:=Ab hgo;have hw:Ag.wrap ((i:Int)+1)=(i:Int)+1:=aV;rw[aVw hgo]at hp;generalize c[i]=x at *;by_cases h0:x.id=n
   ·rw[Ae h0]at hp;have h0':((x.id==n):Bool)=true:=by simpa using h0
    unfold oP;rw[<-hp];have q3:(((n:Int)==(n:Int)):Bool)=true:=by simp
    simp[-C,-I,↓KW,aE,aN,q1,hx,h0,h0',q3,aC,aA,aB];rfl
   ·rw[Ac h0]at hp;have h0':((x.id==n):Bool)=false:=by simpa using h0
    simp[-C,-I,↓KW,aE,aN,q1,hx,h0,h0',hw,aC,aA,aB];refine aI (i+1) ⟨hgo,hp⟩ (slQ hgo) (wkQ [1] ?_ ?_)<;>simp[-C,upd,aO,Γ0,aE]
  ·have q1:¬(i:Int)<c.length:=by omega
   rw[Bz (by omega)]at hp;have hp':bG c n=none:=hp.symm;unfold oP;rw[hp'];simp[-C,-I,↓KW,aE,q1,aN,lA,aK];rfl
def aEt(c:List Cl)(k:Int)(hl:c.length<=1000000):Spec Aa 94 [aE c,.i .i64 k] (dV (cA c k)):=by
 refine bF (N:=30) Tryz.func94 ?_;simp[-C,-I,↓KW,aE];refine aP (λi:Nat=>i<=c.length) (λi=>StL [(0,.d (aE c)),(1,.d (.i .i64 k)),(5,.own 1 0 (cA (c.take i) k).length 1),(6,.d (.i .i64 (i:Int)))] none [.cells 3 (((cA (c.take i) k).map λn=>D.i .i64 n).map .d)]) (λi=>c.length-i) 0 (Ak _) ?_ ?_
 ·refine wkQ [1] ?_ ?_<;>simp[-C,upd,aO,Γ0,aE,cA]
 ·intro i hi;by_cases hgo:i<c.length
  ·have q1:(i:Int)<c.length:=by omega
   have hx:c[i]? = some c[i]:=Ab hgo;have hw:Ag.wrap ((i:Int)+1)=(i:Int)+1:=aV;have htk:=bDi hgo k;have hln:(cA (c.take i) k).length<=i:=An (nS _ _) (by simp;omega);generalize cA (c.take i) k=out at *;generalize c[i]=x at *;have hbb:=cG (n:=out.length) (by omega);have hb8:(out.length+1)*8<=140737488355328:=by omega
   by_cases h0:x.dim=k
   ·rw[Ae h0]at htk;have h0':((x.dim==k):Bool)=true:=by simpa using h0
    have q3:(((k:Int)==(k:Int)):Bool)=true:=by simp
    simp[-C,-I,↓KW,aE,aN,q1,hx,h0,h0',q3,hw,hbb,hb8,aS,aC,aA,aB];refine aI (i+1) hgo (slQ hgo) (wkQ [3] ?_ ?_)<;>simp[-C,upd,aO,Γ0,aE,htk]
   ·rw[Ac h0,List.append_nil]at htk;have h0':((x.dim==k):Bool)=false:=by simpa using h0
    simp[-C,-I,↓KW,aE,aN,q1,hx,h0,h0',hw,aC,aA,aB];refine aI (i+1) hgo (slQ hgo) (wkQ [1] ?_ ?_)<;>simp[-C,upd,aO,Γ0,aE,htk]
  ·have q1:¬(i:Int)<c.length:=by omega
   rw[Ai (by omega)];have hln:=nS c k;generalize cA c k=out at *;have e1:BB out.length ((out.map λn=>D.i .i64 n).map AV.d)=(out.map λn=>D.i .i64 n).map AV.d:=Ai (by simp);have e2:chunk 1 out.length (out.map λn=>D.i .i64 n)=out.map λn=>[D.i .i64 n]:=by rw[wB _ _ (by simp),CC];rfl
   simp[-C,-I,↓KW,aE,dV,q1,e1,e2]
def hdr(c n b:Nat):List AV:=(CP n).map λj=>AV.own (j+b) 0 c 2
def aCl(v:List Int):HO:=.cells 72 ((vcs v).map .d)
def mB(c:Nat)(M:List (List Int))(m:Nat):List HO:=.cells 140 (hdr c M.length (m+1))::M.map aCl
def cT(c n b:Nat):(hdr c n b).length=n:=by simp[hdr]
def dZ{c n b i:Nat}(h:i<n):(hdr c n b)[i]? = some (.own (i+b) 0 c 2):=by unfold hdr;rw[Aw,CJ h];rfl
def bKy(c n b:Nat):hdr c (n+1) b=hdr c n b++[.own (n+b) 0 c 2]:=by simp[hdr,List.range_succ]
def cS(c:Nat)(M:List (List Int))(m:Nat):(mB c M m).length=M.length+1:=by simp[mB]
def nwH(cols i:Nat):Hp:=λid =>
 if id=1 then some (.cells 136 [.d (.i .i64 0),.d (.i .i64 0),.nil])else if id=2 then some (.cells 140 (hdr cols i 3))else if 3<=id/\id<i+3 then some (.cells 72 (zr cols))else none
def bHx(rows cols:Nat)(hr:rows<=1000)(hc:cols<=1000):pT Aa 113 [.i .i64 (rows:Int),.i .i64 (cols:Int)] (nwV rows cols) (mB cols (AB rows (AB cols 0))):=by
 refine lW (N:=22) bL Tryz.func113 rfl rfl rfl (by decide) (by kernel_rfl) (by kernel_rfl) (by simp) rfl ?_;have m1:¬(rows:Int)<0:=by omega
 have m2:¬(cols:Int)<0:=by omega
 have hm3:32*(cols:Int)<=281474976710656:=by omega
 have hm4:(cols:Int)<=9223372036854775807:=by omega
 simp[-C,-I,↓KW,m1,m2,aS];refine aP (λi:Nat=>i<=rows) (λi=>⟨jN [(0,.d (.i .i64 (rows:Int))),(1,.d (.i .i64 (cols:Int))),(4,.ptr 1 0),(5,.own 2 0 i 1),(6,.d (.i .i64 (i:Int)))],nwH cols i,i+3⟩) (λi=>rows-i) 0 (Ak _) ?_ ?_
 ·refine⟨_,lG ?_ (λid o' ho=>?_) (λid hid=>?_) (by simp)⟩
  ·simp[-C,upd,aO,Γ0,nwH]
  ·simp only[nwH]at ho;split at ho
   ·rename_i e;subst e;injection ho with ho;subst ho
    exact⟨_,rfl,by simp[-C,upd,aO,Γ0]⟩
   ·split at ho
    ·rename_i e;subst e;injection ho with ho;subst ho
     exact⟨_,rfl,fM.2 ⟨rfl,trivial⟩⟩
    ·rw[Ac (by omega)]at ho;cases ho
  ·simp only[nwH];rw[Ac (by omega),Ac (by omega),Ac (by omega)]
 ·intro i hi;have hH1:nwH cols i 1=some (.cells 136 [.d (.i .i64 0),.d (.i .i64 0),.nil]):=rfl;have hH2:nwH cols i 2=some (.cells 140 (hdr cols i 3)):=rfl;have hlen:(hdr cols i 3).length=i:=cT ..;by_cases hgo:i<rows
  ·have q1:(i:Int)<rows:=by omega
   have hw:Ag.wrap ((i:Int)+1)=(i:Int)+1:=aV;generalize hHg:nwH cols i=H at *;generalize hcl:hdr cols i 3=cells at *;have hb:(i+1)*24<=140737488355328:=by omega
   have hb2:i+1<=maxLen:=aS (by omega);simp[-C,-I,↓KW,q1,hgo,hw,hm3,hm4,hH1,hH2,hlen,m1,m2,hb,hb2];have hn1:(nwH cols (i+1) 1).isSome=true:=rfl;have hn2:(nwH cols (i+1) 2).isSome=true:=rfl;have hnj:∀j,j<i+1->(nwH cols (i+1) (j+3)).isSome=true:=λj hj=>by unfold nwH;rw[Ac (by omega),Ac (by omega),Ae (by omega)];rfl
   refine aI (i+1) hgo (slQ hgo) ⟨_,aTw (λid=>if id=2 then i+5 else id) ?_ (λid o' ho=>?_) (λid id' h1 h2 e=>?_) (λ_=>rfl) (λid hid=>?_) (by simp)⟩
   ·simp[-C,upd,aO,Γ0,hn1,hn2]
   ·simp only[nwH]at ho;split at ho
    ·rename_i e;subst e;injection ho with ho;subst ho
     refine⟨.cells 136 [.d (.i .i64 0),.d (.i .i64 0),.nil],?_,by simp[-C,upd,aO,Γ0]⟩;rw[Ac (by omega)];simp only;rw[Ac (by omega),Ac (by omega),Ac (by omega),Ac (by omega),hH1];rfl
    ·split at ho
     ·rename_i e;subst e;injection ho with ho;subst ho
      refine⟨.cells 140 (hdr cols (i+1) 3),?_,fM.2 ⟨rfl,fQ.2 ⟨rfl,λk x y h1 h2=>?_⟩⟩⟩
      ·show Option.map (fG [2]) (if i+5=i+3+1+1 then some (HO.cells 140 (cells++[AV.own (i+3) 0 cols 2]))else _)=_;rw[Ae (by omega),bKy,hcl];simp only[A4,fG,Bt,A0,List.map_nil];have e1:cells.map (fV [2])=cells:=by rw[<-hcl];unfold hdr;rw[CC];apply BJ;intro j hj;simp[fV]
       rw[e1];simp[fV]
      ·rw[h1]at h2;injection h2 with h2;subst h2
       have hk:k<i+1:=by have:=(Ah.1 h1).1;rwa [cT]at this
       rw[dZ hk]at h1;injection h1 with h1;subst h1
       exact⟨by simp only;rw[Ac (by omega)],rfl,rfl,rfl,hnj k hk⟩
     ·split at ho
      ·rename_i e2 e3;injection ho with ho;subst ho
       refine⟨.cells 72 (zr cols),?_,fM.2 ⟨rfl,bOq cols⟩⟩;rw[Ac e2];simp only;rw[Ac (by omega),Ac e2,Ac (by omega)];have ez:Option.map (fG [2]) (some (HO.cells 72 (zr cols)))=some (.cells 72 (zr cols)):=by simp only[A4,fG];congr 2;unfold zr;rw[List.map_flatten,FZ];rfl
       by_cases e4:id=i+3
       ·rw[Ae e4];exact ez
       ·rw[Ac e4,<-hHg];unfold nwH;rw[Ac (by omega),Ac (by omega),Ae (by omega)];exact ez
      ·cases ho
   ·have k1:∀id,(nwH cols (i+1) id).isSome=true->1<=id/\id<i+4:=λid h=>by
     unfold nwH at h;split at h
     ·omega
     ·split at h
      ·omega
      ·split at h
       ·omega
       ·cases h
    have b1:=k1 id h1;have b2:=k1 id' h2;have e':(if id=2 then i+5 else id)=(if id'=2 then i+5 else id'):=e;split at e'<;>split at e'<;>omega
   ·simp only[nwH];rw[Ac (by omega),Ac (by omega),Ac (by omega)]
  ·have q1:¬(i:Int)<rows:=by omega
   have e:i=rows:=by omega
   subst e;generalize hHg:nwH cols i=H at *;simp[-C,-I,↓KW,q1,hH1,hH2];intro m hm0;have hML:(mB cols (AB i (AB cols (0:Int))) m).length=i+1:=by simp[cS]
   have hin:∀id,m<=id->id<m+(i+1)->(gR (nwV i cols) (mB cols (AB i (AB cols 0))) m).H id=(mB cols (AB i (AB cols 0)) m)[id-m]? := λid h1 h2=>by simp only[gR,gJ];rw[Ae ⟨h1,by rw[hML];exact h2⟩]
   have hout:∀id,¬(m<=id/\id<m+(i+1))->(gR (nwV i cols) (mB cols (AB i (AB cols 0))) m).H id=none:=λid h=>by simp only[gR,gJ];rw[Ac (by rw[hML];exact h)]
   have hsome:∀id,((gR (nwV i cols) (mB cols (AB i (AB cols 0))) m).H id).isSome=true->m<=id/\id<m+(i+1):=λid h=>by
    by_cases hr:m<=id/\id<m+(i+1)
    ·exact hr
    ·rw[hout id hr]at h;cases h
   have hS0:((gR (nwV i cols) (mB cols (AB i (AB cols 0))) m).H m).isSome=true:=by rw[hin m (Ap _) (by omega),Cu];rfl
   have hSj:∀j,j<i->(gR (nwV i cols) (mB cols (AB i (AB cols 0))) m).H (j+(m+1))=some (aCl (AB cols 0)):=λj hj=>by rw[hin _ (by omega) (by omega),show j+(m+1)-m=j+1 by omega];simp only[mB,Bf,FZ,CN,Ae hj]
   refine⟨λid=>id-m+2,λid hid=>hout id (by simp only[gR]at hid;rw[hML]at hid;omega),λt=>?_,λid o' ho=>?_,λid id' h1 h2 e=>?_,λh=>?_,λh=>?_⟩
   ·show Sub _ _ _ _ (upd (λ_=>.any) 0 (nwV i cols m) t);by_cases e:t=0
    ·subst e;simp only[dB,nwV];refine⟨rfl,λk c d h1 h2=>?_⟩;rcases k with _|_|_|k
     ·simp at h1 h2;subst h1;subst h2;exact(kK _ _).2 rfl
     ·simp at h1 h2;subst h1;subst h2;exact(kK _ _).2 rfl
     ·simp at h1 h2;subst h1;subst h2;exact⟨by simp,rfl,rfl,rfl,hS0⟩
     ·simp at h1
    ·rw[dX _ _ e];exact oJ _
   ·have hr:=hsome id (by rw[ho];rfl);rw[hin id hr.1 hr.2]at ho;simp only;obtain⟨j,rfl⟩:∃j,id=m+j:=⟨id-m,by omega⟩;rw[show m+j-m=j by omega]at ho ⊢;rcases j with _|j
    ·simp only[mB,List.getElem?_cons_zero,EA]at ho;injection ho with ho;subst ho
     refine⟨.cells 140 (hdr cols i 3),by simp only[upd];rw[Ac (by omega)];exact hH2,fM.2 ⟨rfl,fQ.2 ⟨by rw[cT,cT],λk c d h1 h2=>?_⟩⟩⟩;have hlt:k<i:=by have:=(Ah.1 h1).1;rwa [cT]at this
     rw[dZ hlt]at h1 h2;injection h1 with h1;injection h2 with h2;subst h1;subst h2
     exact⟨by show k+3=k+(m+1)-m+2;omega,rfl,rfl,rfl,by rw[hSj k hlt];rfl⟩
    ·have hlt:j<i:=by omega
     simp only[mB,Bf,FZ,CN,Ae hlt]at ho;injection ho with ho;subst ho
     refine⟨.cells 72 (zr cols),?_,fM.2 ⟨rfl,aTt cols⟩⟩;simp only[upd];rw[Ac (by omega),<-hHg];unfold nwH;rw[Ac (by omega),Ac (by omega),Ae (by omega)]
   ·have q1':=hsome id h1;have q2':=hsome id' h2;have e':id-m+2=id'-m+2:=e;omega
   ·have:=hsome 0 h;omega
   ·simp only[gR]at h;omega
structure Sh(R c:Nat)(M:List (List Int)):Prop where
 len:M.length=R
 row:∀v∈M,v.length=c
def ent(M:List (List Int))(r s:Nat):Int:=(M.getD r []).getD s 0
def mk(R c:Nat)(f:Nat->Nat->Int):List (List Int):=(CP R).map λr=>(CP c).map λs=>f r s
def Sh.get{R c r:Nat}{M:List (List Int)}(h:Sh R c M)(hr:r<R):∃v,M[r]? = some v/\v.length=c/\∀s,v.getD s 0=ent M r s:=by
 have hl:r<M.length:=by rw[h.len];exact hr
 refine⟨M[r],Ab hl,h.row _ (Ar hl),λs=>?_⟩;unfold ent;rw[Af (l:=M),Ab hl];rfl
def kR(R c:Nat)(f:Nat->Nat->Int):Sh R c (mk R c f):=⟨by simp[mk],λv hv=>by obtain⟨r,_,rfl⟩:=AA.1 hv;simp⟩
def sA{R c r s:Nat}(f:Nat->Nat->Int)(hr:r<R)(hs:s<c):ent (mk R c f) r s=f r s:=by unfold ent mk;rw[Af (l:=AQ _ _),Aw,CJ hr];simp only[A4,Bc];rw[Af,Aw,CJ hs];rfl
def bRz{R c:Nat}{M M':List (List Int)}(h:Sh R c M)(h':Sh R c M')(he:∀r s,r<R->s<c->ent M r s=ent M' r s):M=M':=by
 refine ET (by rw[h.len,h'.len]) λr h1 h2=>?_
 have hr:r<R:=by rw[<-h.len];exact h1
 refine ET (by rw[h.row _ (Ar h1),h'.row _ (Ar h2)]) λs g1 g2=>?_
 have hs:s<c:=by rw[<-h.row _ (Ar h1)];exact g1
 have:=he r s hr hs;unfold ent at this;rw[Af (l:=M),Ab h1,Af (l:=M'),Ab h2]at this;simp only[Bc]at this;rw[Af,Ab g1,Af,Ab g2]at this;exact this
def jM{R c:Nat}{M:List (List Int)}(h:Sh R c M){r s:Nat}(hr:¬(r<R/\s<c)):ent M r s=0:=by
 unfold ent;by_cases h1:r<R
 ·obtain⟨v,hv,hl,_⟩:=h.get h1;rw[Af (l:=M),hv];simp only[Bc];rw[Af,AW (by omega)];rfl
 ·rw[Af (l:=M),AW (by rw[h.len];omega)];rfl
def bWy{R c i:Nat}{M:List (List Int)}(h:Sh R c M){v:List Int}(hv:v.length=c):Sh R c (M.set i v) :=
 ⟨by rw[E5,h.len],λw hw=>(EX hw).elim (h.row w) λe=>e ▸ hv⟩
def nH{R c i j:Nat}{M:List (List Int)}(h:Sh R c M){v:List Int}{z:Int}(hi:i<R)(hj:j<c)(hv:M[i]? = some v)(r s:Nat):ent (M.set i (v.set j z)) r s=if r=i/\s=j then z else ent M r s:=by
 have hl:i<M.length:=by rw[h.len];exact hi
 have hvl:v.length=c:=h.row v (Aq hv);unfold ent;rw[Af (l:=M.set i _),Fe];by_cases e:r=i
 ·subst e;rw[Ae rfl,Ae hl,Af (l:=M),hv];simp only[Bc,true_and];rw[Af,Fe];by_cases e2:s=j
  ·subst e2;rw[Ae rfl,Ae (by omega),Ae rfl];rfl
  ·rw[Ac (λh=>e2 h.symm),Ac e2,Af]
 ·rw[Ac (λh=>e h.symm),Ac (λh=>e h.1),Af (l:=M)]
def iI{R c i j:Nat}{M:List (List Int)}(h:Sh R c M){v:List Int}{z:Int}(hv:M[i]? = some v):Sh R c (M.set i (v.set j z)) :=
 bWy h (by rw[E5];exact h.row v (Aq hv))
def sZ{R c:Nat}{M:List (List Int)}(h:Sh R c M){f:Nat->Nat->Int}(he:∀r s,r<R->s<c->ent M r s=f r s):M=mk R c f :=
 bRz h (kR R c f) λr s hr hs=>by rw[he r s hr hs,sA f hr hs]
def iK(b:Nat)(l:List HO):Hp:=λid=>if id<b then none else l[id-b]?
def mF{b i:Nat}{l:List HO}:iK b l (i+b)=l[i]? := by unfold iK;rw[Ac (by omega),A9]
def zL{b:Nat}{l:List HO}{id:Nat}(h:l.length+b<=id):iK b l id=none:=by unfold iK;rw[Ac (by omega),AW (by omega)]
def lM{b:Nat}{l:List HO}{id:Nat}(h1:b<=id)(h2:id<l.length+b):(iK b l id).isSome=true:=by unfold iK;rw[Ac (by omega),Ab (by omega)];rfl
def aMv{b:Nat}{l:List HO}{id:Nat}(h:(iK b l id).isSome=true):b<=id/\id<l.length+b:=by
 unfold iK at h;split at h
 ·cases h
 ·rcases Bd (id-b) l.length with h'|h'
  ·omega
  ·rw[AW h']at h;cases h
def rfC(a n:Nat):AV->Bool
 |.d _|.nil=>true
 |.own id _ _ _=>decide (a<=id/\id<n)
 |.ptr id _=>decide (a<=id/\id<n)
 |_=>false
def rfO(a n:Nat):HO->Bool
 |.cells _ cs=>cs.all (rfC a n)
 |_=>false
def bPy{H H':Hp}{ρ:Nat->Nat}{a n:Nat}{c:AV}(hc:rfC a n c=true)(h:∀id,a<=id->id<n->id=ρ id/\(H' id).isSome=true):pR H H' ρ c c:=by
 unfold rfC at hc;split at hc
 ·exact(kK _ _).2 rfl
 ·trivial
 ·simp only[AI]at hc;obtain⟨h1,h2⟩:=h _ hc.1 hc.2;exact⟨h1,rfl,rfl,rfl,h2⟩
 ·simp only[AI]at hc;obtain⟨h1,h2⟩:=h _ hc.1 hc.2;exact⟨h1,rfl,h2⟩
 ·cases hc
def aCx{H H':Hp}{ρ:Nat->Nat}{a n:Nat}{o:HO}(ho:rfO a n o=true)(h:∀id,a<=id->id<n->id=ρ id/\(H' id).isSome=true):mY H H' ρ o o:=by
 cases o with
 |cells e cs =>
  refine fM.2 ⟨rfl,fQ.2 ⟨rfl,λk c d h1 h2=>?_⟩⟩;rw[h1]at h2;injection h2 with h2;subst h2
  exact bPy (Ay.1 ho c (Aq h1)) h
 |map k es=>cases ho
 |iter _ _ _=>cases ho
def bPx(a n:Nat)(v:List Int):rfO a n (aCl v)=true:=by
 unfold rfO aCl;refine Ay.2 λc hc=>?_
 obtain⟨x,_,rfl⟩:=AA.1 hc;rfl
def xG{a n c m:Nat}{M:List (List Int)}(h1:a<=m+1)(h2:m+1+M.length<=n):∀o∈mB c M m,rfO a n o=true:=by
 intro o ho;rcases AG.1 ho with rfl|ho
 ·refine Ay.2 λx hx=>?_
  obtain⟨j,hj,rfl⟩:=AA.1 hx;have:=C0.1 hj;simp only[rfC,AI];omega
 ·obtain⟨v,_,rfl⟩:=AA.1 ho;exact bPx _ _ _
def aEq{a n a' n':Nat}(h1:a'<=a)(h2:n<=n'){o:HO}(ho:rfO a n o=true):rfO a' n' o=true:=by
 cases o with
 |map _ _=>cases ho
 |iter _ _ _=>cases ho
 |cells e cs =>
  refine Ay.2 λc hc=>?_
  have:=Ay.1 ho c hc;cases c<;>first|rfl|(cases this;done)|(simp only[rfC,AI]at this ⊢;omega)
def aGe{H:Hp}{b:Nat}{l:List HO}(h:∀o∈l,rfO b (l.length+b) o=true){id:Nat}{o:HO}(ho:iK b l id=some o):mY H (iK b l) (λi=>i) o o:=by
 refine aCx (h o ?_) λid h1 h2=>⟨rfl,lM h1 h2⟩
 unfold iK at ho;split at ho
 ·cases ho
 ·exact Aq ho
def zK{b c m:Nat}{pre post:List HO}{M:List (List Int)}(hm:m=pre.length+b):iK b (pre++mB c M m++post) m=some (.cells 140 (hdr c M.length (m+1))):=by subst hm;rw[mF,Bg,Az (Ap _),Cu];rfl
def vZ{b c m j:Nat}{pre post:List HO}{M:List (List Int)}{v:List Int}(hm:m=pre.length+b)(hv:M[j]? = some v):iK b (pre++mB c M m++post) (j+(m+1))=some (aCl v):=by have hj:=(Ah.1 hv).1;rw[show j+(m+1)=(j+1+pre.length)+b by omega,mF,Bg,Az (by omega),A9,AJ (by rw[cS];omega)];simp only[mB,Bf,Aw,hv,A4]
def bTp{b c m i:Nat}{pre post:List HO}{M:List (List Int)}{v:List Int}(hm:m=pre.length+b)(hi:i<M.length)(id:Nat) :
  iK b (pre++mB c (M.set i v) m++post) id=if id=i+(m+1)then some (aCl v)else iK b (pre++mB c M m++post) id:=by
 by_cases e:id=i+(m+1)
 ·rw[Ae e,e]
  exact vZ hm (List.getElem?_set_self hi)
 ·rw[Ac e]
  unfold iK
  by_cases h0:id<b
  ·rw[Ae h0,Ae h0]
  ·rw[Ac h0,Ac h0]
   have hl:(mB c (M.set i v) m).length=(mB c M m).length:=by rw[cS,cS,E5]
   rw[Bg,Bg]
   rcases Bd (id-b) pre.length with h1|h1
   ·rw[AJ h1,AJ h1]
   ·rw[Az h1,Az h1]
    rcases Bd (id-b-pre.length) (mB c M m).length with h2|h2
    ·rw[AJ (by omega),AJ h2]
     generalize hk:id-b-pre.length=k at *
     rcases k with _|k
     ·simp[mB]
     ·simp only[mB,Bf,Aw]
      rw[FC (by omega)]
    ·rw[Az (by omega),Az h2,hl]
def wA{c m:Nat}{pre post:List HO}{M:List (List Int)}:(pre++mB c M m++post).length=pre.length+M.length+1+post.length:=by rw[Al,Al,cS];omega
def lY{v:List Int}{j:Nat}(z:Int)(hj:j<v.length):lay ((vcs v).map AV.d) (j*2) [.d (.b (decide (z<0))),.d (aM (aU z.natAbs))]=(vcs (v.set j z)).map .d:=by rw[<-aXs _ hj];simp[lay,xO]
def xZ{b c m i:Nat}{pre post:List HO}{M:List (List Int)}{v:List Int}(hm:m=pre.length+b)(hi:i<M.length) :
  upd (iK b (pre++mB c M m++post)) (i+(m+1)) (some (aCl v))=iK b (pre++mB c (M.set i v) m++post):=by
 funext id
 rw[bTp hm hi]
 rfl
def aDq{b n:Nat}{pre l:List HO}(h:n=pre.length+b):gJ (iK b pre) n l=iK b (pre++l):=by
 funext id;subst h;unfold gJ iK;by_cases h0:id<b
 ·rw[Ac (by omega),Ae h0,Ae h0]
 ·rw[Ac h0];by_cases h1:pre.length+b<=id/\id<pre.length+b+l.length
  ·rw[Ae h1,Ac h0,Az (by omega),show id-b-pre.length=id-(pre.length+b)by omega]
  ·rw[Ac h1,Ac h0];rcases Bd (id-b) pre.length with h2|h2
   ·rw[AJ h2]
   ·rw[AW h2,Az h2,AW (by omega)]
def rM{b n:Nat}{l:List HO}{p:HO}(h:n=l.length+b):upd (iK b l) n (some p)=iK b (l++[p]):=by
 rw[<-aDq h];funext id;unfold upd gJ;simp only[Au];by_cases e:id=n
 ·subst e;rw[Ae rfl,Ae (by omega),Cu];rfl
 ·rw[Ac e,Ac (by omega)]
def bTq(b:Nat):(λ_=>none:Hp)=iK b []:=by funext id;unfold iK;split<;>rfl
def aIm{H:Hp}{n:Nat}{a a':Option HO}:upd (upd H n a) n a'=upd H n a':=by funext id;unfold upd;split<;>rfl
def aZr(a:HO):upd (λ_=>none) 1 (some a)=iK 1 [a]:=by rw[bTq 1];exact rM rfl
def aZq(a b:HO):upd (upd (λ_=>none) 1 (some a)) 2 (some b)=iK 1 [a,b]:=by rw[aZr];exact rM rfl
def bDs(a b c:HO):upd (upd (upd (λ_=>none) 1 (some a)) 2 (some b)) 3 (some c)=iK 1 [a,b,c]:=by rw[aZq];exact rM rfl
def aGf{b c m n:Nat}{pre:List HO}{M:List (List Int)}{p:HO}(hn:n=pre.length+b+(M.length+1)):iK b (pre++mB c M m++[p]) n=some p:=by
 subst hn;rw[show pre.length+b+(M.length+1)=(pre.length+M.length+1)+b by omega,mF,Az (by rw[Al,cS];omega),Al,cS,
  show pre.length+M.length+1-(pre.length+(M.length+1))=0 by omega];rfl
def bAx{u:Nat}(hu:u<18446744073709551616):∃lo hi:Nat,Lim [lo,hi]/\val [lo,hi]=u/\Co.wrap (u:Int)=lo/\kZ .shr .u64 (u:Int) 32=some (.i .u64 hi)/\Co.wrap (hi:Int)=hi:=by refine⟨u%4294967296,u/4294967296,.cons (by omega) (.one (by omega)),by simp only[val];omega,by rw[jF];omega,?_,by rw[kN (by omega) (by omega)]⟩;simp only[kZ,DC];rw[Ac (by decide)];congr 2;rw[show(2:Int)^(min (32:Int).toNat 64)=4294967296 from by decide,Di _ (by decide)];omega
def aEc{l:List Nat}{n:Nat}(hn:l.length=n+1):val l=val (l.take n)+4294967296^n*l.getD n 0:=by rw[<-eA,Ai (by omega)]
def bFg{l:List Nat}{n:Nat}(hn:l.length=n+2):val l=val (l.take n)+4294967296^n*(l.getD (n+1) 0*4294967296+l.getD n 0):=by rw[aEc hn,eA,Cm,Cn,Ce,Cb 4294967296];omega
def aTx{l:List Nat}{n:Nat}(h:Lim l)(hn:l.length=n+1):val l<4294967296^n*(l.getD n 0+1):=by have h1:=tK (h.take n);rw[Ax,BP (by omega)]at h1;rw[aEc hn,Cn,DP];omega
def bLq{p q e low t D R:Nat}(hD:D<=q*low)(he:e*low<=t)(hR:p*q*t<=R):p*e*D<=R:=by
 refine An (BC _ hD) (An ?_ hR);have:p*e*(q*low)=p*q*(e*low):=by rw[Ce,Ce,D9 e]
 rw[this];exact BC _ he
def bCz{a b:List Nat}(hb:Lim b)(hc:oH a)(hla:Lim a)(h:val a<=val b):a.length<=b.length:=by have e1:=bLz hla hc;rw[<-e1];exact fZ (Nat.lt_of_le_of_lt h (tK hb))
def aQb(r d:List Nat)(hr:Lim r)(hd:Lim d)(hcr:oH r)(hcd:oH d)(hd0:d≠[])(hle:val d<=val r)(hl:r.length<=137438953472) :
  ∃e:Nat,0<e/\e*val d<=val r/\Spec Aa 115 [aM r,aM d] (encZ e):=by
 have hlen:=bCz hr hcd hd hle
 have hdl:0<d.length:=Dq.2 hd0
 obtain⟨m,hm⟩:∃m,d.length=m+1:=⟨d.length-1,by omega⟩
 obtain⟨k,hk⟩:∃k,r.length=k+(m+1):=⟨r.length-d.length,by omega⟩
 have gd:=getD_some (l:=d) (i:=m) (by omega)
 have gr:=getD_some (l:=r) (i:=k+m) (by omega)
 have hdm:=hd.getD m
 have hrm:=hr.getD (k+m)
 have hdv:=Nat.le_of_lt (aTx hd hm)
 have hrtop:0<r.getD (k+m) 0:=by
  have h1:r.getLast? = some (r.getD (k+m) 0):=by rw[Dt,show r.length-1=k+m by omega];exact gr
  have h2:r.getLast? ≠ some 0:=hcr;rw[h1]at h2;rcases B7 (r.getD (k+m) 0)with h|h
  ·rw[h]at h2;exact absurd rfl h2
  ·exact h
 generalize hdt:d.getD m 0=dt at *
 obtain⟨low,hlow⟩:∃low,dt+1=low:=⟨_,rfl⟩
 rw[hlow]at hdv
 have c1:Ag.wrap ((r.length:Int)-d.length)=(k:Int):=by rw[aV];omega
 have c2:Ag.wrap ((d.length:Int)-1)=(m:Int):=by rw[aV];omega
 have c3:A2.wrap (dt:Int)=dt:=bT (by omega) (by omega)
 have c4:A2.wrap ((dt:Int)+1)=low:=by rw[bT (by omega) (by omega)];omega
 have c5:Ag.wrap ((r.length:Int)-1)=((k+m:Nat):Int):=by rw[aV];omega
 have c6:¬low=0:=by omega
 by_cases hk0:k=0
 ·subst hk0
  rw[A5]at gr hrm hrtop hk
  rw[show((0+m:Nat):Int)=(m:Int)by omega]at c5
  have hv1:4294967296^m*r.getD m 0<=val r:=by rw[aEc hk];omega
  generalize r.getD m 0=rt at *
  obtain⟨e0,he0⟩:∃e0,rt/low=e0:=⟨_,rfl⟩
  have he0':e0*low<=rt:=by rw[<-he0];exact Nat.div_mul_le_self _ _
  have he0l:e0<=rt:=by rw[<-he0];exact Nat.div_le_self _ _
  have c7:A2.wrap (rt:Int)=rt:=bT (by omega) (by omega)
  have c8:A2.wrap ((rt:Int)/low)=e0:=by rw[<-Int.natCast_ediv,he0,bT (by omega) (by omega)]
  obtain⟨e,he⟩:∃e:Nat,max 1 e0=e:=⟨_,rfl⟩
  have c9:Ag.wrap (e:Int)=e:=aV
  refine⟨e,by omega,?_,?_⟩
  ·by_cases h1:e0<=1
   ·have:e=1:=by omega
    rw[this,C9];exact hle
   ·have:e=e0:=by omega
    rw[this]
    have:=bLq (p:=1) hdv he0' (by rw[C9];exact hv1)
    rwa [C9]at this
  ·refine bF (N:=66) Tryz.func115 ?_
   simp[-C,-I,↓KW,aM,c1,c2,c3,c4,c5,c6,c7,c8,gd,gr,hdt,c9]
   refine bK (ds:=[.i .i64 e]) ?_ (sY e (by omega) (by omega)) ?_
   ·have he2:(if(1:Int)<(e0:Int)then(e0:Int)else 1)=e:=by split<;>omega
    simp[-C,-I,↓KW,he2,c9]
   ·simp[-C,-I,↓KW,aM,encZ,encI]
 ·obtain⟨j,hj⟩:∃j,k=j+1:=⟨k-1,by omega⟩
  have hk2:r.length=(j+m)+2:=by omega
  have gs:=getD_some (l:=r) (i:=j+m) (by omega)
  have hrs:=hr.getD (j+m)
  have hv2:=bFg hk2
  rw[show j+m+1=k+m by omega]at hv2
  have c10:Ag.wrap ((r.length:Int)-2)=((j+m:Nat):Int):=by rw[aV];omega
  have c11:Ag.wrap ((k:Int)-1)=(j:Int):=by rw[aV];omega
  obtain⟨n1,hn1⟩:∃n1,k+m=n1:=⟨_,rfl⟩
  obtain⟨n2,hn2⟩:∃n2,j+m=n2:=⟨_,rfl⟩
  rw[hn1]at gr hrm hrtop c5 hv2
  rw[hn2]at gs hrs c10 hv2
  generalize r.getD n1 0=rt at *
  generalize r.getD n2 0=rs at *
  have c12:A2.wrap (rt:Int)=rt:=bT (by omega) (by omega)
  have c13:A2.wrap (rs:Int)=rs:=bT (by omega) (by omega)
  have c14:A2.wrap ((rt:Int)*4294967296)=(rt:Int)*4294967296:=bT (by omega) (by omega)
  obtain⟨t,ht⟩:∃t,rt*4294967296+rs=t:=⟨_,rfl⟩
  rw[ht]at hv2
  have c15:A2.wrap ((rt:Int)*4294967296+rs)=t:=by rw[bT (by omega) (by omega)];omega
  obtain⟨e,he⟩:∃e,t/low=e:=⟨_,rfl⟩
  have he1:e*low<=t:=by rw[<-he];exact Nat.div_mul_le_self _ _
  have hel:e<=t:=by rw[<-he];exact Nat.div_le_self _ _
  have he0:0<e:=by rw[<-he];exact Nat.div_pos (by omega) (by omega)
  have c16:A2.wrap ((t:Int)/low)=e:=by rw[<-Int.natCast_ediv,he,bT (by omega) (by omega)]
  obtain⟨lo,hi,k1,k2,e3,e4,e5⟩:=bAx (u:=e) (by omega)
  have hpow:4294967296^j*4294967296^m=4294967296^n2:=by rw[<-CA,hn2]
  refine⟨4294967296^j*e,Gc (Nat.pow_pos (by decide)) he0,bLq hdv he1 (by rw[hpow];omega),?_⟩
  have hlim:Lim (AB j 0++[lo,hi]):=(Lim.rep j).app k1
  have hval:val (AB j 0++[lo,hi])=4294967296^j*e:=by rw[oI,aCt,EA,k2,A5]
  have hlen2:(AB j 0++[lo,hi]).length=j+2:=by simp
  have hm2:=iF (AB j 0++[lo,hi]) false (by rw[hlen2];omega)
  rw[fA hlim,hval,show sg false (4294967296^j*e)=((4294967296^j*e:Nat):Int)from rfl]at hm2
  have m1:(4:Int)*j<=281474976710656:=by omega
  have m2:(j:Int)<=9223372036854775807:=by omega
  have m3:(j+2)*4<=140737488355328:=by omega
  have m4:j+2<=maxLen:=by unfold maxLen;omega
  have hrep:(AQ AV.d (lms (AB j 0))).length=j:=by simp[nG]
  refine bF (N:=66) Tryz.func115 ?_
  generalize 4294967296^j*e=res at *
  have hcells:AQ AV.d (lms (AB j 0))++[AV.d (D.i .u32 (lo:Int)),AV.d (D.i .u32 (hi:Int))]=AQ AV.d (lms (AB j 0++[lo,hi])):=by rw[iG,Bt];rfl
  have hkk:((k:Int)==0)=false:=by simp only[FP,ne_eq];omega
  simp[-C,-I,↓KW,aM,c1,c2,c3,c4,c5,c6,c10,c11,c12,c13,c14,c15,c16,gd,gr,gs,hdt,e3,e4,e5,hkk,m1,m2,m3,m4,hrep]
  rw[hcells]
  generalize AB j 0++[lo,hi]=L at *
  refine bK (ds:=[aM L,.b false]) ?_ hm2 ?_
  ·simp[-C,-I,↓KW,aM,hlen2,iB hlen2,fE hlen2]
  ·simp[-C,-I,↓KW,aM,encZ,encI,hlen2,iB hlen2,fE hlen2]
def nD(x:Int)(hx:(aU x.natAbs).length<=549755813888):Spec Aa 88 [encZ x] (encZ (-x)):=by
 refine bF (N:=9) Tryz.func88 ?_;have la:=cX x.natAbs;have va:=dS x.natAbs;have sx:=jH x;have ex:encZ x=.ag [.b (decide (x<0)),aM (aU x.natAbs)]:=rfl;have hm:=iF (aU x.natAbs) (!decide (x<0)) (by omega);rw[fA la,va]at hm;have e:sg (!decide (x<0)) x.natAbs=-x:=by unfold sg;by_cases h:x<0<;>simp[h]<;>omega
 rw[e]at hm;rw[ex];generalize aU x.natAbs=a at *;generalize decide (x<0)=nx at *;simp[-C,-I,↓KW,aM];refine bK (ds:=[aM a,.b (!nx)]) ?_ hm ?_
 ·cases nx<;>rfl
 ·simp[-C,-I,↓KW,aM,encZ,encI]
def aMa(x y:Int)(hx:(aU x.natAbs).length<=549755813888)(hy:(aU y.natAbs).length<=549755813888):Spec Aa 111 [encZ x,encZ y] (encZ (x-y)):=by
 refine bF (N:=9) Tryz.func111 ?_;have h1:=nD y hy;have h2:=rX x (-y) hx (by rw[Int.natAbs_neg];exact hy);rw[<-Int.sub_eq_add_neg]at h2;simp[-C,-I,↓KW,encZ,encI,aM];refine aJ h1 ?_;simp[-C,-I,↓KW,encZ,encI,aM];refine bK (ds:=[encZ x,encZ (-y)]) ?_ h2 ?_
 ·simp[-C,-I,↓KW,encZ,encI,aM]
 ·simp[-C,-I,↓KW,encZ,encI,aM]
def bDu{x y c q r:Nat}(hc:0<c)(hy:0<y)(h:q*(y*c)+r=x*c)(hr:r<y*c):q=x/y/\r/c=x%y:=by
 have hq:x*c/(y*c)=q:=by have:=(Nat.div_mod_unique (Gc hy hc) (a:=x*c) (d:=q) (c:=r)).2 ⟨by rw[Cb (y*c)];omega,hr⟩;exact this.1
 rw[Nat.mul_div_mul_right _ _ hc]at hq;refine⟨hq.symm,?_⟩;have h2:r=x%y*c:=by
  have h3:=FG x y;rw[hq]at h3;have h4:(y*q+x%y)*c=x*c:=by rw[h3]
  rw[Bw]at h4;have h5:y*q*c=q*(y*c):=by rw[Cb y,Ce]
  omega
 rw[h2,Nat.mul_div_cancel _ hc]
def bLv{dt c:Nat}(htop:0<dt)(hs:dt*c<4294967296):∃t,dt*c=t/\c<=t/\t<4294967296/\(t<2147483648->dt*(2*c)<4294967296) :=
 ⟨_,rfl,Nat.le_mul_of_pos_left _ htop,hs,λh=>by rw[D9];omega⟩
def zq(q:Nat):AV:=if q=0 then .nil else .d (aM (aU q))
def zO{x c n:Nat}(h1:(aU x).length<=n)(h2:c<4294967296):(aU (x*c)).length<=n+1 :=
 fZ (by rw[Cm];exact Nat.mul_lt_mul'' (gW h1) h2)
def bNt{x c X:Nat}(h:x+c=X)(h1:(aU (x:Int).natAbs).length<=549755813888)(h2:(aU (c:Int).natAbs).length<=549755813888):Spec Aa 76 [encZ (x:Int),encZ (c:Int)] (encZ (X:Int)):=by have:=rX (x:Int) (c:Int) h1 h2;rwa [<-Int.natCast_add,h]at this
def bFo{x c X:Nat}(h:x=X+c)(h1:(aU (x:Int).natAbs).length<=549755813888)(h2:(aU (c:Int).natAbs).length<=549755813888):Spec Aa 111 [encZ (x:Int),encZ (c:Int)] (encZ (X:Int)):=by have:=aMa (x:Int) (c:Int) h1 h2;rwa [show(x:Int)-c=X by omega]at this
def bLy{q Y r X e E r':Nat}(hp:q*Y+r=X)(hE:e*Y=E)(hr:r=r'+E)(he:0<e)(hY:0<Y):(q+e)*Y+r'=X/\r'<r/\q+e<=X/\E<=X:=by
 have h1:(q+e)*Y+r'=X:=by rw[Bw,hE];omega
 have h2:0<E:=by rw[<-hE];exact Gc he hY
 have h3:q+e<=(q+e)*Y:=Nat.le_mul_of_pos_right _ hY;exact⟨h1,by omega,by omega,by omega⟩
def bJm{c:Nat}(h:c<4294967296):(aU (c:Int).natAbs).length<=1:=fZ (by simpa using h)
def aFi{x c X:Nat}(h:x*c=X)(h1:(aU (x:Int).natAbs).length<=137438953472)(h2:(aU (c:Int).natAbs).length<=137438953472):Spec Aa 57 [encZ (x:Int),encZ (c:Int)] (encZ (X:Int)):=by have:=qE (x:Int) (c:Int) h1 h2;rwa [<-FJ,h]at this
def bJg(n:Nat)(hn:n<4294967296):Spec Aa 58 [aM [n],.b false] (encZ (n:Int)):=by have hm:=iF [n] false (by simp);rw[fA (.one hn)]at hm;simpa[val,sg]using hm
def bBw(x y qq rr:Nat)(hqq:x/y=qq)(hrr:x%y=rr)(hy:0<y)(hlx:(aU x).length<=130000000000)(hly:(aU y).length<=130000000000):Spec Aa 110 [aM (aU x),aM (aU y)] (.tp [encZ (qq:Int),encZ (rr:Int)]):=by
 refine bF (N:=86) Tryz.func110 ?_;have lx:=cX x;have ly:=cX y;have vx:=dS x;have vy:=dS y;have cy:=lF y;have hne:aU y≠[]:=λh=>by rw[fP]at h;omega
 have hyl:0<(aU y).length:=Dq.2 hne;have hmx:∀n:Nat,n<4294967296->Spec Aa 58 [aM [n],.b false] (encZ (n:Int)):=λn hn=>by have hm:=iF [n] false (by simp);rw[fA (.one hn)]at hm;simpa[val,sg]using hm
 by_cases h1:(aU y).length=1
 ·obtain⟨d,hd⟩:=List.length_eq_one_iff.1 h1;have hdl:d<4294967296:=ly d (by rw[hd];simp);have hdv:d=y:=by rw[hd]at vy;simpa[val]using vy
  have hs:=aPz (aU x) d lx (by omega) hdl (by omega);obtain⟨s1,s2,s3,_⟩:=aLr (a:=aU x) (d:=d) lx (by omega);have hm1:=iF (shQ (aU x) d) false (by omega);rw[fA s2,s3,vx,show sg false (x/d)=((x/d:Nat):Int)from rfl]at hm1;have hm2:=hmx (val (aU x)%d) (by have:=EI (val (aU x)) (show d>0 by omega);omega);rw[hd];rw[vx,hdv,hrr]at hm2 hs;rw[hdv,hqq]at hm1;rw[hdv];generalize shQ (aU x) y=Q at *;generalize aU x=a at *;simp[-C,-I,↓KW,aM];refine aJ hs ?_;simp[-C,-I,↓KW,aM];refine aJ hm1 ?_;simp[-C,-I,↓KW,aM];refine bK (ds:=[aM [rr],.b false]) ?_ hm2 ?_
  ·simp[-C,-I,↓KW,aM]
  simp[-C,-I,↓KW,aM,encZ,encI,cC]
 ·have hq1:(((aU y).length:Int)==1)=false:=by simp only[FP,ne_eq];omega
  obtain⟨m,hm⟩:∃m,(aU y).length=m+1:=⟨(aU y).length-1,by omega⟩;have gd:=getD_some (l:=aU y) (i:=m) (by omega);have hdm:=ly.getD m;have htop:0<(aU y).getD m 0:=by
   have h2:(aU y).getLast? ≠ some 0:=cy;rw[Dt,show(aU y).length-1=m by omega,gd]at h2;rcases B7 ((aU y).getD m 0)with h|h
   ·rw[h]at h2;exact absurd rfl h2
   ·exact h
  generalize(aU y).getD m 0=dt at *;have c2:Ag.wrap (((aU y).length:Int)-1)=(m:Int):=by rw[aV];omega
  have c3:A2.wrap (dt:Int)=dt:=bT (by omega) (by omega);have hma:=iF (aU x) false (by omega);rw[fA lx,vx,show sg false x=(x:Int)from rfl]at hma;have hmb:=iF (aU y) false (by omega);rw[fA ly,vy,show sg false y=(y:Int)from rfl]at hmb;have hX:(aU (x:Int).natAbs).length<=130000000000:=hlx;have hY:(aU (y:Int).natAbs).length<=130000000000:=hly;generalize aU x=a at *;generalize aU y=b at *;clear hmx lx ly vx vy cy hne;simp[-C,-I,↓KW,aM,hq1];refine aP (λc:Nat=>0<c/\dt*c<4294967296)
   (λc=>StL [(0,.d (aM a)),(1,.d (aM b)),(4,.ptr 1 0),(5,.ptr 2 0),(8,.d (.i .u32 (c:Int)))] none
    [.cells 72 [.d (.b false),.nil],.cells 72 [.d (.b false),.nil]]) (λc=>4294967296-c) 1 ⟨by decide,by omega⟩ ?_ ?_
  ·refine wkQ [1,2] ?_ ?_<;>simp[-C,upd,aO,Γ0,aM]
  ·intro c hs;refine(bLv htop hs.2).elim λt h5=>?_
   have hc0:=hs.1;have ht:=h5.1;have hcd:=h5.2.1;have hs2:=h5.2.2.1;have hdc:=h5.2.2.2;have c4:A2.wrap (c:Int)=c:=bT (by omega) (by omega);have c5:A2.wrap ((dt:Int)*c)=t:=by rw[<-FJ,ht,bT (by omega) (by omega)]
   by_cases hgo:t<2147483648
   ·have q1:(t:Int)<2147483648:=by omega
    have c6:Co.wrap (2*(c:Int))=2*(c:Int):=kN (by omega) (by omega);simp[-C,-I,↓KW,aM,c2,c3,c4,c5,c6,gd,q1];refine aI (2*c) ⟨by omega,hdc hgo⟩ ?_ (wkQ [1,2] ?_ ?_)
    ·omega
    ·simp[-C,upd,aO,Γ0,aM]
    ·simp[-C,upd,aO,Γ0,aM]
   ·have q1:¬(t:Int)<2147483648:=by omega
    have hc32:c<4294967296:=by omega
    have hmc:=bJg c hc32;simp[-C,-I,↓KW,aM,c2,c3,c4,c5,gd,q1];refine bK (ds:=[aM [c],.b false]) ?_ hmc ?_
    ·simp[-C,-I,↓KW,aM]
    simp[-C,-I,↓KW,aM,encZ,encI];refine aJ hma ?_;simp[-C,-I,↓KW,encZ,encI,aM];refine(⟨_,rfl⟩:∃X,x*c=X).elim λX hXe=>?_
    refine(⟨_,rfl⟩:∃X,y*c=X).elim λY hYe=>?_
    have hC:=bJm hc32;have hXl:(aU X).length<=130000000001:=by rw[<-hXe];exact zO hX hc32
    have hYl:(aU Y).length<=130000000001:=by rw[<-hYe];exact zO hY hc32
    have hY0:0<Y:=by rw[<-hYe];exact Gc hy hc0
    have hMx:=aFi (X:=X) hXe (by omega) (by omega) (x:=x) (c:=c);have hMy:=aFi (X:=Y) hYe (by omega) (by omega) (x:=y) (c:=c);refine bK (ds:=[encZ x,encZ c]) ?_ hMx ?_
    ·simp[-C,-I,↓KW,encZ,encI,aM]
    simp[-C,-I,↓KW,encZ,encI,aM];refine aJ hmb ?_;simp[-C,-I,↓KW,encZ,encI,aM];refine bK (ds:=[encZ y,encZ c]) ?_ hMy ?_
    ·simp[-C,-I,↓KW,encZ,encI,aM]
    simp[-C,-I,↓KW,encZ,encI,aM];refine aP (λp:Nat×Nat=>p.1*Y+p.2=X)
     (λp=>StL [(4,.ptr 1 0),(5,.ptr 2 0),(8,.d (.i .u32 (c:Int))),(10,.ptr 3 0),(11,.ptr 4 0),(12,.ptr 5 0)] none
      [.cells 72 [.d (.b false),.nil],.cells 72 [.d (.b false),.nil],.cells 72 [.d (.b false),.d (aM (aU p.2))],.cells 72 [.d (.b false),.d (aM (aU Y))],.cells 72 [.d (.b false),zq p.1]]) (λp=>p.2) (0,X) (by simp) ?_ ?_
    ·refine wkQ [1,2,5,6,7] ?_ ?_<;>simp[-C,upd,aO,Γ0,aM,zq]
    ·intro p hp;have hpX:p.2<=X:=by rw[<-hp];exact Nat.le_add_left _ _
     have hpl:=An (fC hpX) hXl;have hless:=aDb (aU p.2) (aU Y) (cX _) (cX _) (by omega) (by omega);rw[lB]at hless;simp[-C,-I,↓KW,aM];refine aJ hless ?_;by_cases hgo:p.2<Y
     ·simp[-C,-I,↓KW,hgo];have hsh:=aPz (aU p.2) c (cX _) hc0 hc32 (by omega);have hsv:=aLr (cX p.2) hc0;have hmd:=iF (shQ (aU p.2) c) false (by have:=hsv.1;omega);have hfin:=bDu hc0 hy (x:=x) (q:=p.1) (r:=p.2) (by rw[hYe,hXe];exact hp) (by rw[hYe];exact hgo);rw[fA hsv.2.1,hsv.2.2.1,dS,hfin.2,hrr,show sg false rr=(rr:Int)from rfl]at hmd;refine aJ hsh ?_;simp[-C,-I,↓KW,aM];refine aJ hmd ?_;have hq1:p.1=qq:=hfin.1.trans hqq;rw[hq1];by_cases hq0:qq=0
      ·simp[-C,-I,↓KW,encZ,encI,aM,cC,zq,hq0,dG]
      ·simp[-C,-I,↓KW,encZ,encI,aM,cC,zq,hq0]
     ·simp[-C,-I,↓KW,hgo];refine(aQb (aU p.2) (aU Y) (cX _) (cX _) (lF _) (lF _) (λh=>by rw[fP]at h;omega) (by rw[dS,dS];omega) (by omega)).elim λe he=>?_
      have he1:=he.2.1;rw[dS,dS]at he1;refine(⟨_,rfl⟩:∃E,e*Y=E).elim λE hE=>?_
      rw[hE]at he1;refine(⟨_,rfl⟩:∃F,p.2-E=F).elim λR' hR'=>?_
      have hR2:p.2=R'+E:=by omega
      have hst:=bLy hp hE hR2 he.1 hY0;refine(⟨_,rfl⟩:∃F,p.1+e=F).elim λq' hq'=>?_
      rw[hq']at hst;have hel:(aU (e:Int).natAbs).length<=130000000001:=An (fC (show e<=X by omega)) hXl;have hqpl:(aU (p.1:Int).natAbs).length<=130000000001:=An (fC (show p.1<=X by omega)) hXl;have hEl:(aU (E:Int).natAbs).length<=130000000001:=An (fC (show E<=X by omega)) hXl;have hrl:(aU (p.2:Int).natAbs).length<=130000000001:=hpl;have hYl2:(aU (Y:Int).natAbs).length<=130000000001:=hYl;have hadd:=bNt hq' (by omega) (by omega);have hmul:=aFi hE (by omega) (by omega);have hsub:=bFo hR2 (by omega) (by omega);by_cases hq0:p.1=0
      ·have hz:zq p.1=.nil:=Ae hq0;refine aJ he.2.2 ?_;simp[-C,-I,↓KW,aM,encZ,encI,hz];refine bK (ds:=[encZ p.1,encZ e]) ?_ hadd ?_
       ·simp[-C,-I,↓KW,encZ,encI,aM,hq0,dG]
       simp[-C,-I,↓KW,aM,encZ,encI];refine bK (ds:=[encZ e,encZ Y]) ?_ hmul ?_
       ·simp[-C,-I,↓KW,encZ,encI,aM]
       simp[-C,-I,↓KW,aM,encZ,encI];refine bK (ds:=[encZ p.2,encZ E]) ?_ hsub ?_
       ·simp[-C,-I,↓KW,encZ,encI,aM]
       simp[-C,-I,↓KW,aM,encZ,encI];have hz2:zq q'=.d (aM (aU q')):=Ac (by have:=he.1;omega);refine aI (q',R') hst.1 hst.2.1 (wkQ [1,2,3,4,5] ?_ ?_)
       ·simp[-C,upd,aO,Γ0,aM,hz2]
       ·simp[-C,upd,aO,Γ0,aM,hz2]
      ·have hz:zq p.1=.d (aM (aU p.1)):=Ac hq0;refine aJ he.2.2 ?_;simp[-C,-I,↓KW,aM,encZ,encI,hz];refine bK (ds:=[encZ p.1,encZ e]) ?_ hadd ?_
       ·simp[-C,-I,↓KW,encZ,encI,aM,hq0,dG]
       simp[-C,-I,↓KW,aM,encZ,encI];refine bK (ds:=[encZ e,encZ Y]) ?_ hmul ?_
       ·simp[-C,-I,↓KW,encZ,encI,aM]
       simp[-C,-I,↓KW,aM,encZ,encI];refine bK (ds:=[encZ p.2,encZ E]) ?_ hsub ?_
       ·simp[-C,-I,↓KW,encZ,encI,aM]
       simp[-C,-I,↓KW,aM,encZ,encI];have hz2:zq q'=.d (aM (aU q')):=Ac (by have:=he.1;omega);refine aI (q',R') hst.1 hst.2.1 (wkQ [1,2,3,4,5] ?_ ?_)
       ·simp[-C,upd,aO,Γ0,aM,hz2]
       ·simp[-C,upd,aO,Γ0,aM,hz2]
end Go.Am
end
