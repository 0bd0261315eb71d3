/- The reference's integers: the division of absolute values. No condition. -/
import Derived.Test.YtgjjndadkmodpaaGreatC3
import Derived.Test.YtgjjndadkmodpaaGreatRows
import Derived.Shelf.SlIterI.Nil
import Derived.Shelf.SortM.Plain
import Derived.Shelf.SortM.SortNone
import Derived.Ground.GgzProg
import Derived.Ground.SlgmProg
import Derived.Test.YtgjjndadkmodpaaGreatProg
import Derived.Recover
import Derived.ProofKit
import Derived.OpenShut
set_option linter.all false
set_option maxHeartbeats 8000000
set_option maxRecDepth 20000
open And renaming intro->AR
open Array renaming getElem?_eq_some_iff->BV,replicate->BI
open Bool renaming and_eq_true->AO,eq_iff_iff->DL,false_eq_true->A0,or_eq_true->CG
open Go.Ending renaming returned->DM
open Go.Fence renaming wide->DJ
open Go.IntKind renaming bits->Di,i64->Ag,u32->Cr,u64->A1
open Go.Program renaming underlying->Ao
open Go.Proofs.Tryz renaming isAgg3->Fb,prog->Aa,prog->BL,sizeOf3->ET,underlying0->Fq,underlying156->FZ,underlying3->DR,underlying4->ES,zeroValue0->FK,zeroValue156->Gg,zeroValue3->D7,zeroValue4->FL
open Go.Region renaming ready->BU
open Go.Sem renaming run_bind->A3
open Go.Shelf renaming Ren->FX
open Go.Value renaming cells->Em,oneCell'->CE
open Go.WideElems renaming rg->EU
open Int renaming add_zero->Dn,fdiv_eq_ediv_of_nonneg->Dj,lt_trichotomy->EH,mul_neg->En,natAbs_mul->BX,natCast_mul->FM,neg_mul->C0,sign_eq_neg_one_of_neg->CU,sign_eq_one_of_pos->Dk
open List renaming all_cons->Ee,all_eq_true->Ay,append_assoc->Bh,drop->Cy,drop_eq_getElem_cons->AP,drop_eq_nil_of_le->BA,eq_nil_of_length_eq_zero->AE,ext_getElem->EV,flatten_cons->BF,foldl_append->Dl,foldl_cons->C6,getD_eq_getElem?_getD->Af,getElem?_append_left->AJ,getElem?_append_right->Az,getElem?_cons_succ->Bg,getElem?_eq_getElem->Ab,getElem?_eq_none->AW,getElem?_eq_some_iff->Ah,getElem?_map->Aw,getElem?_range->CJ,getElem?_replicate->CO,getElem?_set->Fh,getElem?_set_ne->FE,getElem_mem->Ar,getLast?_eq_getElem?->Dv,getLast?_eq_none_iff->EZ,length_append->Ak,length_cons->AH,length_map->AL,length_nil->Bq,length_pos_iff->Dr,length_replicate->EE,length_set->E6,length_singleton->As,length_take->Ax,map->AQ,mapM_cons->Ca,map_append->Bu,map_congr_left->BK,map_cons->AZ,map_map->CC,map_replicate->F5,map_take->BD,mem_append->A5,mem_cons->AG,mem_cons_of_mem->Au,mem_cons_self->Av,mem_iff_getElem->BM,mem_map->AA,mem_map_of_mem->FU,mem_of_getElem?->Aq,mem_of_mem_take->Cm,mem_or_eq_of_mem_set->EY,mem_range->C4,mem_singleton->AT,pairwise_cons->Bk,pairwise_map->CN,range->CS,range_succ_eq_map->Et,replicate->AB,replicate_succ->DO,set_cons_succ->F4,set_cons_zero->CW,take->BB,take_add_one->AM,take_of_length_le->Ai,take_zero->Cc
open Nat renaming add_assoc->Ed,add_comm->CB,add_le_add_left->FV,add_mul->By,add_sub_cancel->Ba,add_zero->Ce,div_add_mod->FJ,eq_zero_or_pos->Cb,le_refl->Ap,le_trans->An,lt_or_ge->Bf,lt_succ_self->AK,min_eq_left->BR,mod_lt->EL,mul_add->Cq,mul_assoc->Ck,mul_comm->Ci,mul_le_mul->Cs,mul_le_mul_left->BE,mul_le_mul_right->A8,mul_left_comm->Ea,mul_one->DE,mul_pos->Gf,mul_zero->Dh,one_mul->CZ,pow_add->CA,pow_le_pow_right->BW,pow_succ->Cp,sub_lt_sub_left->AF,sub_self->Cx,zero_add->A6,zero_le->Al
open Option renaming getD_some->Bd,map_eq_some_iff->Aj,map_some->A4
open Option.some renaming injEq->AU
open _root_ renaming beq_eq_false_iff_ne->FT,decide_eq_true_eq->AI,if_false->B2,if_neg->Ac,if_pos->Ad,or_false->EB
section
open Go Go.Proofs
namespace Go.Am
@[simp]def cEp:tsz Aa 2=some 1/\tby Aa 2=some 8/\tz Aa 2=some (.int .i64 0)/\dA Aa 2=some false/\tel Aa 2=none/\bY Aa 2=false/\(Ao Aa 2).isSome=true/\jJ Aa 2=some .i64/\tsz Aa 3=some 1/\tby Aa 3=some 8/\tz Aa 3=some (.int .i64 0)/\dA Aa 3=some false/\tel Aa 3=none/\bY Aa 3=false/\(Ao Aa 3).isSome=true/\jJ Aa 3=some .i64/\tsz Aa 4=some 1/\tby Aa 4=some 1/\tz Aa 4=some (.bool false)/\dA Aa 4=some false/\tel Aa 4=none/\bY Aa 4=true/\(Ao Aa 4).isSome=true/\tsz Aa 5=some 1/\tby Aa 5=some 1/\tz Aa 5=some (.int .u8 0)/\dA Aa 5=some false/\tel Aa 5=none/\bY Aa 5=false/\(Ao Aa 5).isSome=true/\jJ Aa 5=some .u8/\tsz Aa 6=some 1/\tby Aa 6=some 1/\tz Aa 6=some (.int .u8 0)/\dA Aa 6=some false/\tel Aa 6=none/\bY Aa 6=false/\(Ao Aa 6).isSome=true/\jJ Aa 6=some .u8/\tsz Aa 7=some 4:=by and_intros<;>kernel_rfl
@[simp]def cEq:tby Aa 7=some 24/\tz Aa 7=some (.agg #[.int .i64 0,.int .i64 0,.bool false,.int .u8 0])/\dA Aa 7=some true/\tel Aa 7=none/\bY Aa 7=false/\(Ao Aa 7).isSome=true/\gI Aa 7=some [(0,1),(1,1),(2,1),(3,1)]/\tsz Aa 8=some 4/\tby Aa 8=some 24/\tz Aa 8=some (.agg #[.int .i64 0,.int .i64 0,.bool false,.int .u8 0])/\dA Aa 8=some true/\tel Aa 8=none/\bY Aa 8=false/\(Ao Aa 8).isSome=true/\gI Aa 8=some [(0,1),(1,1),(2,1),(3,1)]/\tsz Aa 12=some 1/\tby Aa 12=some 8/\tz Aa 12=some (.int .u64 0)/\dA Aa 12=some false/\tel Aa 12=none/\bY Aa 12=false/\(Ao Aa 12).isSome=true/\jJ Aa 12=some .u64/\tsz Aa 21=some 1/\tby Aa 21=some 4/\tz Aa 21=some (.int .i32 0)/\dA Aa 21=some false/\tel Aa 21=none/\bY Aa 21=false/\(Ao Aa 21).isSome=true/\jJ Aa 21=some .i32/\tsz Aa 22=some 1/\tby Aa 22=some 24/\tz Aa 22=some (.slice none 0 0)/\dA Aa 22=some false/\tel Aa 22=some 27/\bY Aa 22=false/\(Ao Aa 22).isSome=true/\tsz Aa 23=some 2/\tby Aa 23=some 32:=by and_intros<;>kernel_rfl
@[simp]def cEo:tz Aa 23=some (.agg #[.int .u8 0,.slice none 0 0])/\dA Aa 23=some true/\tel Aa 23=none/\bY Aa 23=false/\(Ao Aa 23).isSome=true/\gI Aa 23=some [(0,1),(1,1)]/\tsz Aa 24=some 2/\tby Aa 24=some 32/\tz Aa 24=some (.agg #[.int .u8 0,.slice none 0 0])/\dA Aa 24=some true/\tel Aa 24=none/\bY Aa 24=false/\(Ao Aa 24).isSome=true/\gI Aa 24=some [(0,1),(1,1)]/\tsz Aa 25=some 1/\tby Aa 25=some 24/\tz Aa 25=some (.slice none 0 0)/\dA Aa 25=some false/\tel Aa 25=some 29/\bY Aa 25=false/\(Ao Aa 25).isSome=true/\tsz Aa 26=some 1/\tby Aa 26=some 1/\tz Aa 26=some (.int .i8 0)/\dA Aa 26=some false/\tel Aa 26=none/\bY Aa 26=false/\(Ao Aa 26).isSome=true/\jJ Aa 26=some .i8/\tsz Aa 27=some 4/\tby Aa 27=some 4/\tz Aa 27=some (.agg #[.int .i8 0,.int .i8 0,.int .i8 0,.int .i8 0])/\dA Aa 27=some true/\tel Aa 27=none/\bY Aa 27=false/\(Ao Aa 27).isSome=true/\gI Aa 27=none/\aAj Aa 27=some (4,26)/\tsz Aa 28=some 7/\tby Aa 28=some 7:=by and_intros<;>kernel_rfl
@[simp]def cEn:tz Aa 28=some (.agg #[.int .u8 0,.int .u8 0,.int .u8 0,.int .i8 0,.int .i8 0,.int .i8 0,.int .i8 0])/\dA Aa 28=some true/\tel Aa 28=none/\bY Aa 28=false/\(Ao Aa 28).isSome=true/\gI Aa 28=some [(0,1),(1,1),(2,1),(3,4)]/\tsz Aa 29=some 7/\tby Aa 29=some 7/\tz Aa 29=some (.agg #[.int .u8 0,.int .u8 0,.int .u8 0,.int .i8 0,.int .i8 0,.int .i8 0,.int .i8 0])/\dA Aa 29=some true/\tel Aa 29=none/\bY Aa 29=false/\(Ao Aa 29).isSome=true/\gI Aa 29=some [(0,1),(1,1),(2,1),(3,4)]/\tsz Aa 31=some 1/\tby Aa 31=some 24/\tz Aa 31=some (.slice none 0 0)/\dA Aa 31=some false/\tel Aa 31=some 40/\bY Aa 31=false/\(Ao Aa 31).isSome=true/\tsz Aa 32=some 1/\tby Aa 32=some 24/\tz Aa 32=some (.slice none 0 0)/\dA Aa 32=some false/\tel Aa 32=some 40/\bY Aa 32=false/\(Ao Aa 32).isSome=true/\tsz Aa 33=some 1/\tby Aa 33=some 24/\tz Aa 33=some (.slice none 0 0)/\dA Aa 33=some false/\tel Aa 33=some 43/\bY Aa 33=false/\(Ao Aa 33).isSome=true/\tsz Aa 34=some 3/\tby Aa 34=some 56/\tz Aa 34=some (.agg #[.int .i64 0,.slice none 0 0,.slice none 0 0])/\dA Aa 34=some true/\tel Aa 34=none:=by and_intros<;>kernel_rfl
@[simp]def cAp:bY Aa 34=false/\(Ao Aa 34).isSome=true/\gI Aa 34=some [(0,1),(1,1),(2,1)]/\tsz Aa 35=some 3/\tby Aa 35=some 56/\tz Aa 35=some (.agg #[.int .i64 0,.slice none 0 0,.slice none 0 0])/\dA Aa 35=some true/\tel Aa 35=none/\bY Aa 35=false/\(Ao Aa 35).isSome=true/\gI Aa 35=some [(0,1),(1,1),(2,1)]/\tsz Aa 37=some 1/\tby Aa 37=some 24/\tz Aa 37=some (.slice none 0 0)/\dA Aa 37=some false/\tel Aa 37=some 75/\bY Aa 37=false/\(Ao Aa 37).isSome=true/\tsz Aa 38=some 1/\tby Aa 38=some 24/\tz Aa 38=some (.slice none 0 0)/\dA Aa 38=some false/\tel Aa 38=some 75/\bY Aa 38=false/\(Ao Aa 38).isSome=true/\tsz Aa 39=some 3/\tby Aa 39=some 40/\tz Aa 39=some (.agg #[.int .i64 0,.int .i64 0,.slice none 0 0])/\dA Aa 39=some true/\tel Aa 39=none/\bY Aa 39=false/\(Ao Aa 39).isSome=true/\gI Aa 39=some [(0,1),(1,1),(2,1)]/\tsz Aa 40=some 3/\tby Aa 40=some 40/\tz Aa 40=some (.agg #[.int .i64 0,.int .i64 0,.slice none 0 0])/\dA Aa 40=some true/\tel Aa 40=none/\bY Aa 40=false/\(Ao Aa 40).isSome=true:=by and_intros<;>kernel_rfl
@[simp]def cDn:gI Aa 40=some [(0,1),(1,1),(2,1)]/\tsz Aa 41=some 2/\tby Aa 41=some 16/\tz Aa 41=some (.agg #[.int .i64 0,.int .i64 0])/\dA Aa 41=some true/\tel Aa 41=none/\bY Aa 41=false/\(Ao Aa 41).isSome=true/\gI Aa 41=none/\aAj Aa 41=some (2,3)/\tsz Aa 42=some 8/\tby Aa 42=some 80/\tz Aa 42=some (.agg #[.int .i64 0,.int .i64 0,.int .i64 0,.slice none 0 0,.int .i64 0,.int .i64 0,.int .i64 0,.int .i64 0])/\dA Aa 42=some true/\tel Aa 42=none/\bY Aa 42=false/\(Ao Aa 42).isSome=true/\gI Aa 42=some [(0,1),(1,3),(4,1),(5,1),(6,2)]/\tsz Aa 43=some 8/\tby Aa 43=some 80/\tz Aa 43=some (.agg #[.int .i64 0,.int .i64 0,.int .i64 0,.slice none 0 0,.int .i64 0,.int .i64 0,.int .i64 0,.int .i64 0])/\dA Aa 43=some true/\tel Aa 43=none/\bY Aa 43=false/\(Ao Aa 43).isSome=true/\gI Aa 43=some [(0,1),(1,3),(4,1),(5,1),(6,2)]/\tsz Aa 46=some 1/\tby Aa 46=some 8/\tz Aa 46=some (.int .i64 0)/\dA Aa 46=some false/\tel Aa 46=none/\bY Aa 46=false/\(Ao Aa 46).isSome=true/\jJ Aa 46=some .i64/\tsz Aa 58=some 2/\tby Aa 58=some 2/\tz Aa 58=some (.agg #[.int .i8 0,.int .i8 0])/\dA Aa 58=some true/\tel Aa 58=none/\bY Aa 58=false:=by and_intros<;>kernel_rfl
@[simp]def cDf:(Ao Aa 58).isSome=true/\gI Aa 58=none/\aAj Aa 58=some (2,26)/\tsz Aa 65=some 1/\tby Aa 65=some 24/\tz Aa 65=some (.slice none 0 0)/\dA Aa 65=some false/\tel Aa 65=some 2/\bY Aa 65=false/\(Ao Aa 65).isSome=true/\tsz Aa 70=some 1/\tby Aa 70=some 24/\tz Aa 70=some (.slice none 0 0)/\dA Aa 70=some false/\tel Aa 70=some 101/\bY Aa 70=false/\(Ao Aa 70).isSome=true/\tsz Aa 71=some 2/\tby Aa 71=some 32/\tz Aa 71=some (.agg #[.bool false,.slice none 0 0])/\dA Aa 71=some true/\tel Aa 71=none/\bY Aa 71=false/\(Ao Aa 71).isSome=true/\gI Aa 71=some [(0,1),(1,1)]/\tsz Aa 72=some 2/\tby Aa 72=some 32/\tz Aa 72=some (.agg #[.bool false,.slice none 0 0])/\dA Aa 72=some true/\tel Aa 72=none/\bY Aa 72=false/\(Ao Aa 72).isSome=true/\gI Aa 72=some [(0,1),(1,1)]/\tsz Aa 74=some 3/\tby Aa 74=some 40/\tz Aa 74=some (.agg #[.int .i64 0,.bool false,.slice none 0 0])/\dA Aa 74=some true/\tel Aa 74=none/\bY Aa 74=false/\(Ao Aa 74).isSome=true:=by and_intros<;>kernel_rfl
@[simp]def cDm:gI Aa 74=some [(0,1),(1,2)]/\tsz Aa 75=some 3/\tby Aa 75=some 40/\tz Aa 75=some (.agg #[.int .i64 0,.bool false,.slice none 0 0])/\dA Aa 75=some true/\tel Aa 75=none/\bY Aa 75=false/\(Ao Aa 75).isSome=true/\gI Aa 75=some [(0,1),(1,2)]/\tsz Aa 76=some 1/\tby Aa 76=some 24/\tz Aa 76=some (.slice none 0 0)/\dA Aa 76=some false/\tel Aa 76=some 41/\bY Aa 76=false/\(Ao Aa 76).isSome=true/\tsz Aa 95=some 1/\tby Aa 95=some 24/\tz Aa 95=some (.slice none 0 0)/\dA Aa 95=some false/\tel Aa 95=some 38/\bY Aa 95=false/\(Ao Aa 95).isSome=true/\tsz Aa 99=some 1/\tby Aa 99=some 8/\tz Aa 99=some (.int .u64 0)/\dA Aa 99=some false/\tel Aa 99=none/\bY Aa 99=false/\(Ao Aa 99).isSome=true/\jJ Aa 99=some .u64/\tsz Aa 101=some 1/\tby Aa 101=some 4/\tz Aa 101=some (.int .u32 0)/\dA Aa 101=some false/\tel Aa 101=none/\bY Aa 101=false/\(Ao Aa 101).isSome=true/\jJ Aa 101=some .u32/\tsz Aa 102=some 1:=by and_intros<;>kernel_rfl
@[simp]def cDh:tby Aa 102=some 8/\tz Aa 102=some (.int .u64 0)/\dA Aa 102=some false/\tel Aa 102=none/\bY Aa 102=false/\(Ao Aa 102).isSome=true/\jJ Aa 102=some .u64/\tsz Aa 104=some 1/\tby Aa 104=some 24/\tz Aa 104=some (.slice none 0 0)/\dA Aa 104=some false/\tel Aa 104=some 33/\bY Aa 104=false/\(Ao Aa 104).isSome=true/\tsz Aa 105=some 3/\tby Aa 105=some 40/\tz Aa 105=some (.agg #[.int .i64 0,.int .i64 0,.slice none 0 0])/\dA Aa 105=some true/\tel Aa 105=none/\bY Aa 105=false/\(Ao Aa 105).isSome=true/\gI Aa 105=some [(0,3)]/\tsz Aa 106=some 3/\tby Aa 106=some 40/\tz Aa 106=some (.agg #[.int .i64 0,.int .i64 0,.slice none 0 0])/\dA Aa 106=some true/\tel Aa 106=none/\bY Aa 106=false/\(Ao Aa 106).isSome=true/\gI Aa 106=some [(0,3)]/\tsz Aa 107=some 1/\tby Aa 107=some 8/\tz Aa 107=some (.agg #[.int .i64 0])/\dA Aa 107=some true/\tel Aa 107=none/\bY Aa 107=false/\(Ao Aa 107).isSome=true/\gI Aa 107=some [(0,1)]/\tsz Aa 108=some 1/\tby Aa 108=some 8:=by and_intros<;>kernel_rfl
@[simp]def cEa:tz Aa 108=some (.agg #[.int .i64 0])/\dA Aa 108=some true/\tel Aa 108=none/\bY Aa 108=false/\(Ao Aa 108).isSome=true/\gI Aa 108=some [(0,1)]/\tsz Aa 109=some 2/\tby Aa 109=some 16/\tz Aa 109=some (.agg #[.int .i64 0,.int .i64 0])/\dA Aa 109=some true/\tel Aa 109=none/\bY Aa 109=false/\(Ao Aa 109).isSome=true/\gI Aa 109=some [(0,1),(1,1)]/\tsz Aa 110=some 2/\tby Aa 110=some 16/\tz Aa 110=some (.agg #[.int .i64 0,.int .i64 0])/\dA Aa 110=some true/\tel Aa 110=none/\bY Aa 110=false/\(Ao Aa 110).isSome=true/\gI Aa 110=some [(0,1),(1,1)]/\tsz Aa 111=some 2/\tby Aa 111=some 16/\tz Aa 111=some (.agg #[.int .i64 0,.int .i64 0])/\dA Aa 111=some true/\tel Aa 111=none/\bY Aa 111=false/\(Ao Aa 111).isSome=true/\gI Aa 111=some [(0,1),(1,1)]/\tsz Aa 112=some 2/\tby Aa 112=some 16/\tz Aa 112=some (.agg #[.int .i64 0,.int .i64 0])/\dA Aa 112=some true/\tel Aa 112=none/\bY Aa 112=false/\(Ao Aa 112).isSome=true/\gI Aa 112=some [(0,1),(1,1)]/\tsz Aa 113=some 3/\tby Aa 113=some 24:=by and_intros<;>kernel_rfl
@[simp]def cDz:tz Aa 113=some (.agg #[.int .i64 0,.int .i64 0,.int .i64 0])/\dA Aa 113=some true/\tel Aa 113=none/\bY Aa 113=false/\(Ao Aa 113).isSome=true/\gI Aa 113=some [(0,1),(1,2)]/\tsz Aa 114=some 3/\tby Aa 114=some 24/\tz Aa 114=some (.agg #[.int .i64 0,.int .i64 0,.int .i64 0])/\dA Aa 114=some true/\tel Aa 114=none/\bY Aa 114=false/\(Ao Aa 114).isSome=true/\gI Aa 114=some [(0,1),(1,2)]/\tsz Aa 115=some 0/\tby Aa 115=some 0/\tz Aa 115=some (.agg #[])/\dA Aa 115=some true/\tel Aa 115=none/\bY Aa 115=false/\(Ao Aa 115).isSome=true/\gI Aa 115=some []/\tsz Aa 116=some 0/\tby Aa 116=some 0/\tz Aa 116=some (.agg #[])/\dA Aa 116=some true/\tel Aa 116=none/\bY Aa 116=false/\(Ao Aa 116).isSome=true/\gI Aa 116=some []/\tsz Aa 120=some 1/\tby Aa 120=some 24/\tz Aa 120=some (.slice none 0 0)/\dA Aa 120=some false/\tel Aa 120=some 164/\bY Aa 120=false/\(Ao Aa 120).isSome=true/\tsz Aa 121=some 1/\tby Aa 121=some 24/\tz Aa 121=some (.slice none 0 0):=by and_intros<;>kernel_rfl
@[simp]def cAs:dA Aa 121=some false/\tel Aa 121=some 164/\bY Aa 121=false/\(Ao Aa 121).isSome=true/\tsz Aa 122=some 3/\tby Aa 122=some 56/\tz Aa 122=some (.agg #[.slice none 0 0,.slice none 0 0,.int .i64 0])/\dA Aa 122=some true/\tel Aa 122=none/\bY Aa 122=false/\(Ao Aa 122).isSome=true/\gI Aa 122=some [(0,1),(1,1),(2,1)]/\tsz Aa 123=some 3/\tby Aa 123=some 56/\tz Aa 123=some (.agg #[.slice none 0 0,.slice none 0 0,.int .i64 0])/\dA Aa 123=some true/\tel Aa 123=none/\bY Aa 123=false/\(Ao Aa 123).isSome=true/\gI Aa 123=some [(0,1),(1,1),(2,1)]/\tsz Aa 134=some 1/\tby Aa 134=some 24/\tz Aa 134=some (.slice none 0 0)/\dA Aa 134=some false/\tel Aa 134=some 140/\bY Aa 134=false/\(Ao Aa 134).isSome=true/\tsz Aa 135=some 3/\tby Aa 135=some 40/\tz Aa 135=some (.agg #[.int .i64 0,.int .i64 0,.slice none 0 0])/\dA Aa 135=some true/\tel Aa 135=none/\bY Aa 135=false/\(Ao Aa 135).isSome=true/\gI Aa 135=some [(0,1),(1,1),(2,1)]/\tsz Aa 136=some 3/\tby Aa 136=some 40/\tz Aa 136=some (.agg #[.int .i64 0,.int .i64 0,.slice none 0 0])/\dA Aa 136=some true/\tel Aa 136=none:=by and_intros<;>kernel_rfl
@[simp]def cAg:bY Aa 136=false/\(Ao Aa 136).isSome=true/\gI Aa 136=some [(0,1),(1,1),(2,1)]/\tsz Aa 140=some 1/\tby Aa 140=some 24/\tz Aa 140=some (.slice none 0 0)/\dA Aa 140=some false/\tel Aa 140=some 72/\bY Aa 140=false/\(Ao Aa 140).isSome=true/\tsz Aa 152=some 9/\tby Aa 152=some 120/\tz Aa 152=some (.agg #[.int .i64 0,.int .i64 0,.slice none 0 0,.int .i64 0,.int .i64 0,.slice none 0 0,.int .i64 0,.int .i64 0,.slice none 0 0])/\dA Aa 152=some true/\tel Aa 152=none/\bY Aa 152=false/\(Ao Aa 152).isSome=true/\gI Aa 152=some [(0,3),(3,3),(6,3)]/\tsz Aa 153=some 9/\tby Aa 153=some 120/\tz Aa 153=some (.agg #[.int .i64 0,.int .i64 0,.slice none 0 0,.int .i64 0,.int .i64 0,.slice none 0 0,.int .i64 0,.int .i64 0,.slice none 0 0])/\dA Aa 153=some true/\tel Aa 153=none/\bY Aa 153=false/\(Ao Aa 153).isSome=true/\gI Aa 153=some [(0,3),(3,3),(6,3)]/\tsz Aa 156=some 1/\tby Aa 156=some 24/\tz Aa 156=some (.slice none 0 0)/\dA Aa 156=some false/\tel Aa 156=some 3/\bY Aa 156=false/\(Ao Aa 156).isSome=true/\tsz Aa 158=some 1/\tby Aa 158=some 24/\tz Aa 158=some (.slice none 0 0)/\dA Aa 158=some false/\tel Aa 158=some 72/\bY Aa 158=false/\(Ao Aa 158).isSome=true:=by and_intros<;>kernel_rfl
@[simp]def cDg:tsz Aa 163=some 2/\tby Aa 163=some 32/\tz Aa 163=some (.agg #[.int .i64 0,.slice none 0 0])/\dA Aa 163=some true/\tel Aa 163=none/\bY Aa 163=false/\(Ao Aa 163).isSome=true/\gI Aa 163=some [(0,1),(1,1)]/\tsz Aa 164=some 2/\tby Aa 164=some 32/\tz Aa 164=some (.agg #[.int .i64 0,.slice none 0 0])/\dA Aa 164=some true/\tel Aa 164=none/\bY Aa 164=false/\(Ao Aa 164).isSome=true/\gI Aa 164=some [(0,1),(1,1)]/\tsz Aa 167=some 9/\tby Aa 167=some 120/\tz Aa 167=some (.agg #[.int .i64 0,.int .i64 0,.slice none 0 0,.int .i64 0,.int .i64 0,.slice none 0 0,.int .i64 0,.int .i64 0,.slice none 0 0])/\dA Aa 167=some true/\tel Aa 167=none/\bY Aa 167=false/\(Ao Aa 167).isSome=true/\gI Aa 167=some [(0,3),(3,3),(6,3)]/\tsz Aa 168=some 9/\tby Aa 168=some 120/\tz Aa 168=some (.agg #[.int .i64 0,.int .i64 0,.slice none 0 0,.int .i64 0,.int .i64 0,.slice none 0 0,.int .i64 0,.int .i64 0,.slice none 0 0])/\dA Aa 168=some true/\tel Aa 168=none/\bY Aa 168=false/\(Ao Aa 168).isSome=true/\gI Aa 168=some [(0,3),(3,3),(6,3)]/\tsz Aa 187=some 0/\tby Aa 187=some 0/\tz Aa 187=some (.agg #[])/\dA Aa 187=some true/\tel Aa 187=none/\bY Aa 187=false/\(Ao Aa 187).isSome=true/\gI Aa 187=none:=by and_intros<;>kernel_rfl
@[simp]def cAq:aAj Aa 187=some (0,16)/\tsz Aa 188=some 0/\tby Aa 188=some 0/\tz Aa 188=some (.agg #[])/\dA Aa 188=some true/\tel Aa 188=none/\bY Aa 188=false/\(Ao Aa 188).isSome=true/\gI Aa 188=some [(0,0)]/\tsz Aa 189=some 0/\tby Aa 189=some 0/\tz Aa 189=some (.agg #[])/\dA Aa 189=some true/\tel Aa 189=none/\bY Aa 189=false/\(Ao Aa 189).isSome=true/\gI Aa 189=some [(0,0)]/\tsz Aa 191=some 1/\tby Aa 191=some 1/\tz Aa 191=some (.int .u8 0)/\dA Aa 191=some false/\tel Aa 191=none/\bY Aa 191=false/\(Ao Aa 191).isSome=true/\jJ Aa 191=some .u8/\tsz Aa 192=some 1/\tby Aa 192=some 1/\tz Aa 192=some (.int .u8 0)/\dA Aa 192=some false/\tel Aa 192=none/\bY Aa 192=false/\(Ao Aa 192).isSome=true/\jJ Aa 192=some .u8/\tsz Aa 195=some 1/\tby Aa 195=some 4/\tz Aa 195=some (.int .i32 0)/\dA Aa 195=some false/\tel Aa 195=none/\bY Aa 195=false/\(Ao Aa 195).isSome=true:=by and_intros<;>kernel_rfl
@[simp]def cAo:jJ Aa 195=some .i32/\tsz Aa 196=some 1/\tby Aa 196=some 4/\tz Aa 196=some (.int .i32 0)/\dA Aa 196=some false/\tel Aa 196=none/\bY Aa 196=false/\(Ao Aa 196).isSome=true/\jJ Aa 196=some .i32/\tsz Aa 208=some 1/\tby Aa 208=some 8/\dA Aa 208=some false/\tel Aa 208=none/\bY Aa 208=false/\(Ao Aa 208).isSome=true/\tmp Aa 208=some (3,72)/\tsz Aa 223=some 1/\tby Aa 223=some 8/\dA Aa 223=some false/\tel Aa 223=none/\bY Aa 223=false/\(Ao Aa 223).isSome=true/\tmp Aa 223=some (3,38)/\tsz Aa 225=some 1/\tby Aa 225=some 8/\dA Aa 225=some false/\tel Aa 225=none/\bY Aa 225=false/\(Ao Aa 225).isSome=true/\tmp Aa 225=some (3,72)/\tsz Aa 239=some 1/\tby Aa 239=some 8/\tz Aa 239=some (.int .i64 0)/\dA Aa 239=some false/\tel Aa 239=none/\bY Aa 239=false/\(Ao Aa 239).isSome=true/\jJ Aa 239=some .i64/\tsz Aa 248=some 1/\tby Aa 248=some 8:=by and_intros<;>kernel_rfl
@[simp]def cDy:tz Aa 248=some (.int .u64 0)/\dA Aa 248=some false/\tel Aa 248=none/\bY Aa 248=false/\(Ao Aa 248).isSome=true/\jJ Aa 248=some .u64/\tsz Aa 259=some 1/\tby Aa 259=some 8/\dA Aa 259=some false/\tel Aa 259=none/\bY Aa 259=false/\(Ao Aa 259).isSome=true/\tmp Aa 259=some (3,3)/\tsz Aa 260=some 1/\tby Aa 260=some 8/\dA Aa 260=some false/\tel Aa 260=none/\bY Aa 260=false/\(Ao Aa 260).isSome=true/\tmp Aa 260=some (3,4):=by and_intros<;>kernel_rfl
@[simp]def bN:Go.Tables.follows BL.toTables .mixedOrders=true:=by kernel_rfl
def bF {f N:Nat} {fn:Func} {c:Code} {args:List D} {r:D} (hf:BL.funcs[f]? = some fn) (h:AWP BL c (St0 args N) λe σ=>(e=.normal\/e=.ret)/\mY BL fn.results.toList σ=some r) (hb:fn.body=some c:=by exact rfl) (hN:fn.ntmps=N:=by exact rfl) (hname:(fn.name == "runtime.NumGoroutine")=false:=by exact rfl) (hd:dK N c=true:=by kernel_rfl) (hl:eC BL c=true:=by kernel_rfl) (ha:args.length<=N:=by simp):Spec BL f args r:=bPp bN hf hb hname hN hd hl ha h
def qP {f N:Nat} {fn:Func} {g:FuncId} {r0 rd rest:Code} {args:List D} {r:D} (hf:BL.funcs[f]? = some fn) (hrec:gQ BL g) (h:AWP BL r0 (St0 args N) λe σ0=>e=.normal/\AWP BL rest σ0 λe σ=>(e=.normal\/e=.ret)/\mY BL fn.results.toList σ=some r) (hb:fn.body=some (.seq r0 (.seq rd rest)):=by exact rfl) (hN:fn.ntmps=N:=by exact rfl) (hname:(fn.name == "runtime.NumGoroutine")=false:=by exact rfl) (hd0:dK N r0=true:=by kernel_rfl) (hl0:eC BL r0=true:=by kernel_rfl) (hd1:dK N rest=true:=by kernel_rfl) (hl1:eC BL rest=true:=by kernel_rfl) (hg:qN rd=some g:=by exact rfl) (ha:args.length<=N:=by simp):Spec BL f args r:=bBf bN hf hb hname hN hd0 hl0 hd1 hl1 hg hrec ha h
@[simp]def cEi:bC Aa 0=false/\bB Aa 0=true/\bC Aa 1=false/\bB Aa 1=true/\bC Aa 2=false/\bB Aa 2=true/\bC Aa 3=false/\bB Aa 3=false/\bC Aa 4=false/\bB Aa 4=false/\bC Aa 5=false/\bB Aa 5=false/\bC Aa 6=false/\bB Aa 6=false/\bC Aa 7=false/\bB Aa 7=false/\bC Aa 8=false/\bB Aa 8=false/\bC Aa 9=false/\bB Aa 9=false/\bC Aa 10=false/\bB Aa 10=false/\bC Aa 11=false/\bB Aa 11=false/\bC Aa 12=false/\bB Aa 12=false/\bC Aa 13=false/\bB Aa 13=false/\bC Aa 14=false/\bB Aa 14=false/\bC Aa 15=false/\bB Aa 15=false/\bC Aa 16=false/\bB Aa 16=false/\bC Aa 17=false/\bB Aa 17=false/\bC Aa 18=false/\bB Aa 18=false/\bC Aa 19=false/\bB Aa 19=false:=by and_intros<;>kernel_rfl
@[simp]def cDl:bC Aa 20=false/\bB Aa 20=false/\bC Aa 21=false/\bB Aa 21=false/\bC Aa 22=false/\bB Aa 22=false/\bC Aa 23=false/\bB Aa 23=false/\bC Aa 24=false/\bB Aa 24=false/\bC Aa 25=false/\bB Aa 25=false/\bC Aa 26=false/\bB Aa 26=false/\bC Aa 27=false/\bB Aa 27=false/\bC Aa 28=false/\bB Aa 28=false/\bC Aa 29=false/\bB Aa 29=false/\bC Aa 30=false/\bB Aa 30=false/\bC Aa 31=false/\bB Aa 31=false/\bC Aa 32=false/\bB Aa 32=false/\bC Aa 33=false/\bB Aa 33=true/\bC Aa 34=false/\bB Aa 34=false/\bC Aa 35=false/\bB Aa 35=false/\bC Aa 36=false/\bB Aa 36=false/\bC Aa 37=false/\bB Aa 37=false/\bC Aa 38=false/\bB Aa 38=false/\bC Aa 39=false/\bB Aa 39=false:=by and_intros<;>kernel_rfl
@[simp]def cDk:bC Aa 40=false/\bB Aa 40=true/\bC Aa 41=false/\bB Aa 41=false/\bC Aa 42=false/\bB Aa 42=false/\bC Aa 43=false/\bB Aa 43=false/\bC Aa 44=false/\bB Aa 44=false/\bC Aa 45=false/\bB Aa 45=false/\bC Aa 46=false/\bB Aa 46=true/\bC Aa 47=false/\bB Aa 47=false/\bC Aa 48=false/\bB Aa 48=true/\bC Aa 49=false/\bB Aa 49=true/\bC Aa 50=false/\bB Aa 50=false/\bC Aa 51=false/\bB Aa 51=false/\bC Aa 52=false/\bB Aa 52=false/\bC Aa 53=false/\bB Aa 53=false/\bC Aa 54=false/\bB Aa 54=false/\bC Aa 55=false/\bB Aa 55=false/\bC Aa 56=false/\bB Aa 56=false/\bC Aa 57=false/\bB Aa 57=false/\bC Aa 58=false/\bB Aa 58=false/\bC Aa 59=false/\bB Aa 59=false:=by and_intros<;>kernel_rfl
@[simp]def cDj:bC Aa 60=true/\bB Aa 60=false/\bC Aa 61=false/\bB Aa 61=false/\bC Aa 62=false/\bB Aa 62=false/\bC Aa 63=false/\bB Aa 63=false/\bC Aa 64=false/\bB Aa 64=false/\bC Aa 65=false/\bB Aa 65=false/\bC Aa 66=false/\bB Aa 66=false/\bC Aa 67=false/\bB Aa 67=false/\bC Aa 68=false/\bB Aa 68=false/\bC Aa 69=false/\bB Aa 69=false/\bC Aa 70=false/\bB Aa 70=false/\bC Aa 71=false/\bB Aa 71=false/\bC Aa 72=false/\bB Aa 72=false/\bC Aa 73=false/\bB Aa 73=false/\bC Aa 74=false/\bB Aa 74=false/\bC Aa 75=false/\bB Aa 75=false/\bC Aa 76=false/\bB Aa 76=false/\bC Aa 77=false/\bB Aa 77=false/\bC Aa 78=false/\bB Aa 78=false/\bC Aa 79=false/\bB Aa 79=false:=by and_intros<;>kernel_rfl
@[simp]def cDi:bC Aa 80=false/\bB Aa 80=false/\bC Aa 81=false/\bB Aa 81=false/\bC Aa 82=false/\bB Aa 82=false/\bC Aa 83=false/\bB Aa 83=false/\bC Aa 84=false/\bB Aa 84=false/\bC Aa 85=true/\bB Aa 85=false/\bC Aa 86=false/\bB Aa 86=false/\bC Aa 87=false/\bB Aa 87=false/\bC Aa 88=false/\bB Aa 88=false/\bC Aa 89=false/\bB Aa 89=false/\bC Aa 90=false/\bB Aa 90=false/\bC Aa 91=false/\bB Aa 91=false/\bC Aa 92=false/\bB Aa 92=false/\bC Aa 93=false/\bB Aa 93=false/\bC Aa 94=false/\bB Aa 94=false/\bC Aa 95=false/\bB Aa 95=false/\bC Aa 96=false/\bB Aa 96=false/\bC Aa 97=false/\bB Aa 97=false/\bC Aa 98=false/\bB Aa 98=false/\bC Aa 99=false/\bB Aa 99=false:=by and_intros<;>kernel_rfl
@[simp]def cBm:bC Aa 100=true/\bB Aa 100=false/\bC Aa 101=false/\bB Aa 101=false/\bC Aa 102=false/\bB Aa 102=true/\bC Aa 103=false/\bB Aa 103=true/\bC Aa 104=false/\bB Aa 104=true/\bC Aa 105=false/\bB Aa 105=false/\bC Aa 106=false/\bB Aa 106=false/\bC Aa 107=false/\bB Aa 107=false/\bC Aa 108=true/\bB Aa 108=false/\bC Aa 109=true/\bB Aa 109=false/\bC Aa 110=false/\bB Aa 110=false/\bC Aa 111=false/\bB Aa 111=false/\bC Aa 112=true/\bB Aa 112=false/\bC Aa 113=true/\bB Aa 113=false/\bC Aa 114=false/\bB Aa 114=false/\bC Aa 115=false/\bB Aa 115=false/\bC Aa 116=false/\bB Aa 116=false/\bC Aa 117=false/\bB Aa 117=true/\bC Aa 118=false/\bB Aa 118=false/\bC Aa 119=false/\bB Aa 119=true:=by and_intros<;>kernel_rfl
@[simp]def cBl:bC Aa 120=false/\bB Aa 120=false/\bC Aa 121=false/\bB Aa 121=true/\bC Aa 122=false/\bB Aa 122=false/\bC Aa 123=false/\bB Aa 123=true/\bC Aa 124=false/\bB Aa 124=false/\bC Aa 125=false/\bB Aa 125=true/\bC Aa 126=false/\bB Aa 126=false/\bC Aa 127=false/\bB Aa 127=true/\bC Aa 128=false/\bB Aa 128=false/\bC Aa 129=false/\bB Aa 129=false/\bC Aa 130=false/\bB Aa 130=true/\bC Aa 131=false/\bB Aa 131=false/\bC Aa 132=false/\bB Aa 132=false/\bC Aa 133=false/\bB Aa 133=false/\bC Aa 134=false/\bB Aa 134=false/\bC Aa 135=false/\bB Aa 135=false/\bC Aa 136=false/\bB Aa 136=false/\bC Aa 137=false/\bB Aa 137=false/\bC Aa 138=false/\bB Aa 138=true/\bC Aa 139=true/\bB Aa 139=false:=by and_intros<;>kernel_rfl
@[simp]def cBk:bC Aa 140=false/\bB Aa 140=false/\bC Aa 141=false/\bB Aa 141=false/\bC Aa 142=false/\bB Aa 142=false/\bC Aa 143=false/\bB Aa 143=false/\bC Aa 144=false/\bB Aa 144=false/\bC Aa 145=false/\bB Aa 145=false/\bC Aa 146=false/\bB Aa 146=false/\bC Aa 147=false/\bB Aa 147=false/\bC Aa 148=false/\bB Aa 148=false/\bC Aa 149=false/\bB Aa 149=true/\bC Aa 150=false/\bB Aa 150=false/\bC Aa 151=false/\bB Aa 151=false/\bC Aa 152=false/\bB Aa 152=false/\bC Aa 153=false/\bB Aa 153=false/\bC Aa 154=false/\bB Aa 154=false/\bC Aa 155=false/\bB Aa 155=false/\bC Aa 156=false/\bB Aa 156=false/\bC Aa 157=false/\bB Aa 157=true/\bC Aa 158=false/\bB Aa 158=false/\bC Aa 159=false/\bB Aa 159=true:=by and_intros<;>kernel_rfl
@[simp]def cBj:bC Aa 160=false/\bB Aa 160=false/\bC Aa 161=false/\bB Aa 161=false/\bC Aa 162=false/\bB Aa 162=false/\bC Aa 163=false/\bB Aa 163=true/\bC Aa 164=false/\bB Aa 164=false/\bC Aa 165=false/\bB Aa 165=false/\bC Aa 166=false/\bB Aa 166=true/\bC Aa 167=false/\bB Aa 167=false/\bC Aa 168=false/\bB Aa 168=false/\bC Aa 169=false/\bB Aa 169=false/\bC Aa 170=false/\bB Aa 170=false/\bC Aa 171=false/\bB Aa 171=false/\bC Aa 172=false/\bB Aa 172=false/\bC Aa 173=false/\bB Aa 173=true/\bC Aa 174=false/\bB Aa 174=true/\bC Aa 175=false/\bB Aa 175=true/\bC Aa 176=false/\bB Aa 176=false/\bC Aa 177=false/\bB Aa 177=false/\bC Aa 178=false/\bB Aa 178=true/\bC Aa 179=false/\bB Aa 179=false:=by and_intros<;>kernel_rfl
@[simp]def cBi:bC Aa 180=false/\bB Aa 180=false/\bC Aa 181=false/\bB Aa 181=false/\bC Aa 182=false/\bB Aa 182=true/\bC Aa 183=false/\bB Aa 183=true/\bC Aa 184=false/\bB Aa 184=false/\bC Aa 185=false/\bB Aa 185=true/\bC Aa 186=false/\bB Aa 186=false/\bC Aa 187=false/\bB Aa 187=true/\bC Aa 188=false/\bB Aa 188=true/\bC Aa 189=false/\bB Aa 189=true/\bC Aa 190=false/\bB Aa 190=false/\bC Aa 191=false/\bB Aa 191=true/\bC Aa 192=false/\bB Aa 192=false/\bC Aa 193=false/\bB Aa 193=false/\bC Aa 194=false/\bB Aa 194=false/\bC Aa 195=false/\bB Aa 195=false/\bC Aa 196=false/\bB Aa 196=false/\bC Aa 197=false/\bB Aa 197=false/\bC Aa 198=false/\bB Aa 198=true/\bC Aa 199=false/\bB Aa 199=false:=by and_intros<;>kernel_rfl
@[simp]def cBh:bC Aa 200=false/\bB Aa 200=false/\bC Aa 201=false/\bB Aa 201=false/\bC Aa 202=false/\bB Aa 202=false/\bC Aa 203=false/\bB Aa 203=false/\bC Aa 204=false/\bB Aa 204=false/\bC Aa 205=false/\bB Aa 205=false/\bC Aa 206=false/\bB Aa 206=true/\bC Aa 207=false/\bB Aa 207=false/\bC Aa 208=false/\bB Aa 208=false/\bC Aa 209=false/\bB Aa 209=false/\bC Aa 210=false/\bB Aa 210=false/\bC Aa 211=false/\bB Aa 211=true/\bC Aa 212=false/\bB Aa 212=false/\bC Aa 213=false/\bB Aa 213=false/\bC Aa 214=false/\bB Aa 214=false/\bC Aa 215=false/\bB Aa 215=true/\bC Aa 216=true/\bB Aa 216=false/\bC Aa 217=false/\bB Aa 217=true/\bC Aa 218=false/\bB Aa 218=false/\bC Aa 219=false/\bB Aa 219=false:=by and_intros<;>kernel_rfl
@[simp]def cBg:bC Aa 220=false/\bB Aa 220=true/\bC Aa 221=false/\bB Aa 221=true/\bC Aa 222=false/\bB Aa 222=true/\bC Aa 223=false/\bB Aa 223=true/\bC Aa 224=false/\bB Aa 224=true/\bC Aa 225=false/\bB Aa 225=false/\bC Aa 226=false/\bB Aa 226=true/\bC Aa 227=false/\bB Aa 227=false/\bC Aa 228=false/\bB Aa 228=false/\bC Aa 229=false/\bB Aa 229=false/\bC Aa 230=false/\bB Aa 230=true/\bC Aa 231=false/\bB Aa 231=false/\bC Aa 232=false/\bB Aa 232=false/\bC Aa 233=false/\bB Aa 233=false/\bC Aa 234=false/\bB Aa 234=false/\bC Aa 235=false/\bB Aa 235=false:=by and_intros<;>kernel_rfl
end Go.Am
end
section
open List renaming map_map->C,mapM_map->I
namespace Go.Proofs
open Go.RowKit Go.Maps Go.Sort Go.Shelf
def Tryz.keysB_ren:FX:=⟨λ|7=>178|10=>183|n=>n,λ|23=>225|26=>3|3=>72|28=>231|0=>0|27=>230|33=>211|4=>4|n=>n,λ|n=>n⟩
def Tryz.keysB:Go.Proofs.SlLaysZI.n7 Aa Tryz.keysB_ren:={
 mixed:=by kernel_rfl,
 f7:=⟨Tryz.f178.name,by decide,Tryz.func178.trans (congrArg some (by kernel_rfl))⟩,
 f10:=⟨Tryz.f183.name,by decide,Tryz.func183.trans (congrArg some (by kernel_rfl))⟩,
 t0:=Fq,
 a0:=Tryz.isAgg0,
 z0:=Tryz.sizeOf0,
 v0:=FK,
 t4:=ES,
 a4:=Tryz.isAgg4,
 z4:=Tryz.sizeOf4,
 v4:=FL,
 t23:=Tryz.underlying225,
 a23:=Tryz.isAgg225,
 z23:=Tryz.sizeOf225,
 v23:=Tryz.zeroValue225,
 t26:=DR,
 a26:=Fb,
 z26:=ET,
 v26:=D7,
 t27:=Tryz.underlying230,
 a27:=Tryz.isAgg230,
 z27:=Tryz.sizeOf230,
 v27:=Tryz.zeroValue230,
 t28:=Tryz.underlying231,
 a28:=Tryz.isAgg231,
 z28:=Tryz.sizeOf231,
 v28:=Tryz.zeroValue231,
 t33:=Tryz.underlying211,
 a33:=Tryz.isAgg211,
 z33:=Tryz.sizeOf211,
 v33:=Tryz.zeroValue211 }
def Tryz.sortedA_ren:FX:=⟨λ|6=>177|8=>181|9=>182|11=>184|13=>186|12=>185|23=>196|24=>197|14=>187|15=>188|16=>189|17=>190|18=>191|19=>192|20=>193|21=>194|22=>195|25=>198|26=>199|27=>200|28=>201|29=>202|30=>150|31=>203|n=>n,λ|26=>3|28=>231|24=>156|0=>0|3=>3|37=>102|48=>101|50=>99|4=>4|40=>240|39=>239|45=>199|5=>5|9=>9|51=>248|55=>252|57=>254|58=>255|33=>211|n=>n,λ|n=>n⟩
def Tryz.sortedA:Go.Proofs.SlLaysZI.n6 Aa Tryz.sortedA_ren:={
 mixed:=by kernel_rfl,
 f6:=⟨Tryz.f177.name,by decide,Tryz.func177.trans (congrArg some (by kernel_rfl))⟩,
 f8:=⟨Tryz.f181.name,by decide,Tryz.func181.trans (congrArg some (by kernel_rfl))⟩,
 f11:=⟨Tryz.f184.name,by decide,Tryz.func184.trans (congrArg some (by kernel_rfl))⟩,
 t0:=Fq,
 a0:=Tryz.isAgg0,
 z0:=Tryz.sizeOf0,
 v0:=FK,
 t24:=FZ,
 a24:=Tryz.isAgg156,
 z24:=Tryz.sizeOf156,
 v24:=Gg,
 t26:=DR,
 a26:=Fb,
 z26:=ET,
 v26:=D7,
 t28:=Tryz.underlying231,
 a28:=Tryz.isAgg231,
 z28:=Tryz.sizeOf231,
 v28:=Tryz.zeroValue231,
 i26:=by kernel_rfl }
def Tryz.sortA_ren:FX:=⟨λ|5=>182|8=>186|7=>185|19=>196|20=>197|10=>187|11=>188|12=>189|13=>190|14=>191|15=>192|16=>193|17=>194|18=>195|30=>198|31=>199|32=>200|33=>201|34=>202|35=>150|40=>203|n=>n,λ|23=>156|25=>3|3=>3|32=>102|22=>156|0=>0|44=>101|46=>99|4=>4|36=>240|35=>239|41=>199|5=>5|9=>9|53=>248|57=>252|63=>254|64=>255|n=>n,λ|n=>n⟩
def Tryz.sortA:Go.Proofs.SlLaysM.n5 Aa Tryz.sortA_ren:={
 mixed:=by kernel_rfl,
 f5:=⟨Tryz.f182.name,by decide,Tryz.func182.trans (congrArg some (by kernel_rfl))⟩,
 f7:=⟨Tryz.f185.name,by decide,Tryz.func185.trans (congrArg some (by kernel_rfl))⟩,
 f8:=Tryz.func186.trans (congrArg some (by kernel_rfl)),
 f10:=⟨Tryz.f187.name,by decide,Tryz.func187.trans (congrArg some (by kernel_rfl))⟩,
 f11:=⟨Tryz.f188.name,by decide,Tryz.func188.trans (congrArg some (by kernel_rfl))⟩,
 f12:=⟨Tryz.f189.name,by decide,Tryz.func189.trans (congrArg some (by kernel_rfl))⟩,
 f13:=⟨Tryz.f190.name,by decide,Tryz.func190.trans (congrArg some (by kernel_rfl))⟩,
 f14:=⟨Tryz.f191.name,by decide,Tryz.func191.trans (congrArg some (by kernel_rfl))⟩,
 f15:=⟨Tryz.f192.name,by decide,Tryz.func192.trans (congrArg some (by kernel_rfl))⟩,
 f16:=⟨Tryz.f193.name,by decide,Tryz.func193.trans (congrArg some (by kernel_rfl))⟩,
 f17:=⟨Tryz.f194.name,by decide,Tryz.func194.trans (congrArg some (by kernel_rfl))⟩,
 f18:=⟨Tryz.f195.name,by decide,Tryz.func195.trans (congrArg some (by kernel_rfl))⟩,
 f19:=Tryz.func196.trans (congrArg some (by kernel_rfl)),
 f20:=Tryz.func197.trans (congrArg some (by kernel_rfl)),
 f30:=⟨Tryz.f198.name,by decide,Tryz.func198.trans (congrArg some (by kernel_rfl))⟩,
 f31:=Tryz.func199.trans (congrArg some (by kernel_rfl)),
 f32:=Tryz.func200.trans (congrArg some (by kernel_rfl)),
 f33:=⟨Tryz.f201.name,by decide,Tryz.func201.trans (congrArg some (by kernel_rfl))⟩,
 f34:=⟨Tryz.f202.name,by decide,Tryz.func202.trans (congrArg some (by kernel_rfl))⟩,
 f35:=⟨Tryz.f150.name,by decide,Tryz.func150.trans (congrArg some (by kernel_rfl))⟩,
 f40:=⟨Tryz.f203.name,by decide,Tryz.func203.trans (congrArg some (by kernel_rfl))⟩,
 t0:=Fq,
 a0:=Tryz.isAgg0,
 z0:=Tryz.sizeOf0,
 v0:=FK,
 t3:=DR,
 a3:=Fb,
 z3:=ET,
 v3:=D7,
 t4:=ES,
 a4:=Tryz.isAgg4,
 z4:=Tryz.sizeOf4,
 v4:=FL,
 t5:=Tryz.underlying5,
 a5:=Tryz.isAgg5,
 z5:=Tryz.sizeOf5,
 v5:=Tryz.zeroValue5,
 t9:=Tryz.underlying9,
 a9:=Tryz.isAgg9,
 z9:=Tryz.sizeOf9,
 v9:=Tryz.zeroValue9,
 t22:=FZ,
 a22:=Tryz.isAgg156,
 z22:=Tryz.sizeOf156,
 v22:=Gg,
 t23:=FZ,
 a23:=Tryz.isAgg156,
 z23:=Tryz.sizeOf156,
 v23:=Gg,
 t25:=DR,
 a25:=Fb,
 z25:=ET,
 v25:=D7,
 t32:=Tryz.underlying102,
 a32:=Tryz.isAgg102,
 z32:=Tryz.sizeOf102,
 v32:=Tryz.zeroValue102,
 t35:=Tryz.underlying239,
 a35:=Tryz.isAgg239,
 z35:=Tryz.sizeOf239,
 v35:=Tryz.zeroValue239,
 t36:=Tryz.underlying240,
 a36:=Tryz.isAgg240,
 z36:=Tryz.sizeOf240,
 v36:=Tryz.zeroValue240,
 t41:=Tryz.underlying199,
 a41:=Tryz.isAgg199,
 z41:=Tryz.sizeOf199,
 v41:=Tryz.zeroValue199,
 t44:=Tryz.underlying101,
 a44:=Tryz.isAgg101,
 z44:=Tryz.sizeOf101,
 v44:=Tryz.zeroValue101,
 t46:=Tryz.underlying99,
 a46:=Tryz.isAgg99,
 z46:=Tryz.sizeOf99,
 v46:=Tryz.zeroValue99,
 t53:=Tryz.underlying248,
 a53:=Tryz.isAgg248,
 z53:=Tryz.sizeOf248,
 v53:=Tryz.zeroValue248,
 t57:=Tryz.underlying252,
 a57:=Tryz.isAgg252,
 z57:=Tryz.sizeOf252,
 v57:=Tryz.zeroValue252,
 t63:=Tryz.underlying254,
 a63:=Tryz.isAgg254,
 z63:=Tryz.sizeOf254,
 v63:=Tryz.zeroValue254,
 t64:=Tryz.underlying255,
 a64:=Tryz.isAgg255,
 z64:=Tryz.sizeOf255,
 v64:=Tryz.zeroValue255 }
def Tryz.sortsA(m:Nat):AnyZI.SortsIn Aa Tryz.sortedA_ren DJ m :=
 ⟨λblk off cap ss W hH hblk hsz=>callsIn_wide.2 (AnyM.slices_Sort_int Tryz.sortA blk off cap ss W hH hblk hsz),
 λp cap W=>callsIn_wide.2 (AnyM.slices_Sort_int_none Tryz.sortA p cap W)⟩
def Tryz.keys106:Am.uZ Aa 178 183:=λW b =>
 ⟨λw=>enters_of Tryz.func178 (by kernel_rfl) rfl _ w,(callsIn_wide (n:=5)).1 ((AnyZI.keys_in Tryz.keysB DJ 5 trivial rfl (some b) W).mono (by rintro e w' ⟨rfl,rfl⟩;exact⟨_,rfl,rfl⟩))⟩
def isort_perm:∀l:List Int,(Am.gZ l).Perm l
 |[]=>.nil
 |n::l=>by
  have h1:∀(m:List Int),(Am.ins n m).Perm (n::m):=by
   intro m;induction m with
   |nil=>exact .refl _
   |cons x m ih =>
    unfold Am.ins;split
    ·exact .refl _
    ·exact(ih.cons x).trans (.swap n x m)
  exact(h1 _).trans ((isort_perm l).cons n)
def isort_sorted:∀l:List Int,(Am.gZ l).Pairwise (λa b=>a<=b)
 |[]=>.nil
 |n::l=>by
  have h1:∀(m:List Int),m.Pairwise (λa b=>a<=b)->(Am.ins n m).Pairwise (λa b=>a<=b):=by
   intro m;induction m with
   |nil=>intro _;simp[Am.ins]
   |cons x m ih =>
    intro h;unfold Am.ins;have h':=Bk.1 h;split
    ·rename_i hx;exact Bk.2 ⟨λa ha=>by
      rcases AG.1 ha with rfl|ha
      ·exact hx
      ·exact Int.le_trans hx (h'.1 a ha),h⟩
    ·rename_i hx;refine Bk.2 ⟨λa ha=>?_,ih h'.2⟩;have hp:(Am.ins n m).Perm (n::m):=by
      clear ih h h' ha;induction m with
      |nil=>exact .refl _
      |cons y m ih =>
       unfold Am.ins;split
       ·exact .refl _
       ·exact(ih.cons y).trans (.swap n y m)
     rcases AG.1 (hp.mem_iff.1 ha)with rfl|ha
     ·omega
     ·exact h'.1 a ha
  exact h1 _ (isort_sorted l)
def aCp(ss ks:List Int)(h:ss.Perm ks):ss.mergeSort (λx y=>decide (x<=y))=Am.gZ ks:=by
 have tr:∀a b c:Int,decide (a<=b)=true->decide (b<=c)=true->decide (a<=c)=true:=λa b c h1 h2=>by simp only[AI]at *;exact Int.le_trans h1 h2
 have to:∀a b:Int,(decide (a<=b)||decide (b<=a))=true:=λa b=>by simp only[CG,AI];exact Int.le_total a b
 refine List.Perm.eq_of_pairwise (le:=λa b=>decide (a<=b)=true) (λa b _ _ h1 h2=>?_) (List.pairwise_mergeSort tr to ss) ((isort_sorted ks).imp λh=>by simpa using h) (((List.mergeSort_perm ss _).trans h).trans (isort_perm ks).symm);simp only[AI]at h1 h2;exact Int.le_antisymm h1 h2
def bKe{P:Program}{k:TypeId}(hk:P.underlying k=some (.int .i64)){n:Int}(hn:Am.inr n=true):keyOf P k (.int .i64 n)=some (.int .i64 n):=by
 have hw:(Lit.int .i64 n).wf=true:=by have hmin:Ag.min=-9223372036854775808:=rfl;have hmax:Ag.max=9223372036854775807:=rfl;simp only[Am.inr,AI]at hn;simp only[Lit.wf,AO,AI];omega
 simp[keyOf,hk,mapKey,hw]
def aPg(f g:FuncId)(T3:TypeId)(hk3:Aa.underlying T3=some (.int .i64))(hent:∀args w,(callFunc f args).run Aa w=.ok (.enter f args) w)
  (hS:∀(lb:Array Value) (S:List Int->Prop) (N:Nat),N<=maxLen->N*8<=140737488355328->∀w,SeqGives DJ 2 Aa g lb encZ S N w->CallsIn DJ 5 Aa f #[.func (.func g) #[] lb] w λe w' =>
   ∃v ss,e=.returned v/\S ss/\w'.ownsRow w.heap.size T3 1 v ss.length ((ss.mergeSort λx y=>decide (x<=y)).map encZ)/\(v=.slice none 0 0↔ss=[])/\Below w.heap.size w w')
  (hG:∀(Bm b nn:Nat) (D0:DataW Unit) (R:Value->Option (DataW Unit×List MemPlace)) (w:World),Bm<w.heap.size->w.cell? ⟨Bm,0,none⟩=some (.map (some b))->w.ownsMap Aa T3 R b nn D0 ->
   SeqGives DJ 2 Aa g #[.pointer (some ⟨Bm,0,none⟩)] encZ (λss=>ss.Perm (intKeys D0)) (Maps.size D0) w):Am.nD Aa f g:=by
 intro W b p e ks ents clock hb hst hkeys hp hlen hr
 refine⟨λw=>hent _ w,(callsIn_wide (n:=5)).1 ?_⟩
 have hpl:p<W.heap.size:=(BV.1 hp).1
 have hcell:W.cell? ⟨p,0,none⟩=some (.map (some b)):=by rw[show W.cell? ⟨p,0,none⟩=(#[Value.map (some b)]:Array Value)[0]? from cell_of_row W p 0 _ e (0,0) hp];rfl
 have hsz:ents.size=ks.length:=by have:=congrArg List.length hkeys;simpa using this
 let R:Value->Option (DataW Unit×List MemPlace):=λ_=>some (.nil,[])
 have hrd:∀x∈ents.toList,∃n,n∈ks/\x.key=.int .i64 n/\WideElems.rd Aa T3 R x=some (.int .i64 n,.nil):=by
  intro x hx;have:x.key∈ks.map (.int .i64 ·):=by rw[<-hkeys];exact FU hx
  obtain⟨n,hn,he⟩:=AA.1 this;refine⟨n,hn,he.symm,?_⟩;simp[WideElems.rd,<-he,bKe hk3 (Ay.1 hr n hn),R]
 have hfit:WideElems.Fit Aa T3 R ents clock:=⟨by rw[hsz];simp only[maxLen];omega,hst,λx hx=>let ⟨n,_,_,h⟩:=hrd x hx;⟨_,h⟩⟩
 have hks2:∀(l:List MapEntry) (k:List Int),l.map (·.key)=k.map (.int .i64 ·)->(∀x∈l,∃n,n∈ks/\x.key=.int .i64 n/\WideElems.rd Aa T3 R x=some (.int .i64 n,.nil))->(l.map (EU Aa T3 R)).map (λq=>Go.intOf q.1)=k:=by
  intro l;induction l with
  |nil=>intro k hk _;cases k with
   |nil=>rfl
   |cons=>simp at hk
  |cons x l ih =>
   intro k hk h;cases k with
   |nil=>simp at hk
   |cons m k =>
    simp only[AZ,List.cons.injEq]at hk ⊢;refine⟨?_,ih k hk.2 λy hy=>h y (Au _ hy)⟩;obtain⟨n,_,hxn,hxr⟩:=h x (Av ..);rw[hxn]at hk;have:=hk.1;injection this with _ this
    simp[EU,hxr,Go.intOf,this]
 have hD:(intKeys (.map ((ents.toList.map (EU Aa T3 R)).foldr DataW.insert []))).Perm ks:=by show(((ents.toList.map (EU Aa T3 R)).foldr DataW.insert []).map λq=>Go.intOf q.1).Perm ks;have h1:=(WideShapes.sorted_perm (ents.toList.map (EU Aa T3 R))).map (λq:Lit×DataW Unit=>Go.intOf q.1);rwa [hks2 _ ks hkeys hrd]at h1
 have hN:Maps.size (.map ((ents.toList.map (EU Aa T3 R)).foldr DataW.insert []):DataW Unit)=ks.length:=by have:=hD.length_eq;simpa[intKeys,Maps.size]using this
 have hseq:=hG p b ents.size (.map ((ents.toList.map (EU Aa T3 R)).foldr DataW.insert [])) R W hpl hcell ⟨ents,clock,hb,hfit,Ap _,rfl⟩
 rw[hN]at hseq
 refine(hS _ _ _ (by simp only[maxLen];omega) (by omega) W hseq).mono ?_
 rintro e' w' ⟨v,ss,rfl,hperm,hrow,hnil,hbl⟩
 refine⟨v,rfl,hbl,?_⟩
 rw[aCp ss ks (hperm.trans hD)]at hrow
 have hssl:ss.length=ks.length:=(hperm.trans hD).length_eq
 obtain⟨hl,⟨rfl,h0⟩|⟨gg,cap,cur,rfl,hg,hheap,h1,h2,h3,h4⟩⟩:=hrow
 ·have:Am.gZ ks=[]:=by apply AE;simp at hl;omega
  rw[this]
  exact .sl0 _ _
 ·have hil:(Am.gZ ks).length=ss.length:=by simpa using hl
  refine .sl _ ⟨gg,0,none⟩ _ _ 1 (λj=>.int .i64 ((Am.gZ ks).getD j 0)) (by simp[hil]) h1 (λcs hcs=>by obtain⟨n,_,rfl⟩:=AA.1 hcs;rfl) ⟨hg,(BV.1 hheap).1⟩ (λj hj=>?_) (λj k cs c hj hk=>?_)
  ·rw[Am.oJ,cell_of_row w' gg _ cur T3 (0,0) hheap,A6]
   have:cur.toList[j]? = ((Am.gZ ks).map encZ)[j]? := by rw[<-h4,List.getElem?_take,Ad (by omega)]
   rw[<-Array.getElem?_toList,this,Aw]
   have hj2:j<(Am.gZ ks).length:=by omega
   simp[Ab hj2,Af]
  ·rw[Aw]at hj
   obtain⟨n,hn,rfl⟩:=Aj.1 hj
   rcases k with _|k
   ·simp at hk;subst hk
    simp only[DE,Ce,Af,hn,Bd]
    exact .i _ _
   ·simp at hk
def Tryz.sorted122:Am.nD Aa 177 183 :=
 aPg 177 183 3 (by kernel_rfl) (λargs w=>enters_of Tryz.func177 (by kernel_rfl) rfl args w)
  (λlb S N h1 h2 w hs=>AnyZI.sorted_in Tryz.sortedA DJ 5 trivial trivial trivial trivial rfl (by omega) (Tryz.sortsA _) (enters_of Tryz.func182 (by kernel_rfl) rfl) 183 lb trivial (enters_of Tryz.func183 (by kernel_rfl) rfl) S N h1 h2 w hs)
  (λBm b nn D0 R w h1 h2 h3=>AnyZI.keys_gives (ρ:=Tryz.keysB_ren) { Tryz.keysB with } DJ _ trivial rfl (by omega) Bm b nn D0 w h1 h2 h3)
end Go.Proofs
end
section
open List renaming map_map->C,mapM_map->I
open Go Go.Am Go.Proofs
namespace Go.Am
def aEt {P:Program} {g:FuncId} {fn:Func} {id:Nat} {ty:TypeId} {pos:String} {after:Array Edge} (hf:P.funcs[g]? = some fn) (hn:(fn.name == "runtime.NumGoroutine")=false) (hb:fn.body=some (.region id #[⟨some 0,.call ⟨.builtin .recover,#[],#[]⟩,ty,pos,after,none⟩] false)) (ht:fn.ntmps=1) (hr:fn.results=#[]):gQ P g:=by
 refine⟨λw=>enters_of hf hn hb _ w,λw=>?_⟩;refine callsD_of_wpS hf hb λc₀ cs hu=>?_
 apply wpS_region;simp[wpOpsS,go_sem,recoverD,hu,ht,bodyPostS,results,hr];cases c₀;simp only at hu;subst hu;rfl
def bUm(els:List (List D)):Bool:=els.all (λcs=>match cs with|[d]=>one (.d d)|_=>false)&&decide (els.length<=1099511627776)
def aKn(els:List (List D))(h:bUm els=true):Spec Aa 179 [.sl els] (.sl els):=by
 have hone:∀els:List (List D),els.all (λcs=>match cs with|[d]=>one (.d d)|_=>false)=true->(els.flatten.map AV.d).all one=true/\els.flatten.length=els.length/\fB 1 els=true /\
   chunk 1 els.length els.flatten=els:=by
  intro els h
  have key:∃ds:List D,els=ds.map (λd=>[d])/\(ds.map AV.d).all one=true:=by
   induction els with
   |nil=>exact⟨[],rfl,rfl⟩
   |cons c l ih =>
    simp only[Ee,AO]at h;obtain⟨ds,hds,hd1⟩:=ih h.2;have h1:=h.1;split at h1
    ·rename_i d;exact⟨d::ds,by rw[hds];rfl,by simp only[AZ,Ee,AO];exact⟨h1,hd1⟩⟩
    ·cases h1
  obtain⟨ds,rfl,hd1⟩:=key
  have hfl:(ds.map (λd=>[d])).flatten=ds:=by simp[<-List.flatMap_def]
  rw[hfl]
  refine⟨hd1,by simp,by cases ds<;>simp[fB],?_⟩
  simp only[chunk,AL]
  refine EV (by simp) λi h1 h2=>?_
  simp at h1 h2
  simp[List.take_one,List.head?_drop,h1]
 simp only[bUm,AO,AI]at h;obtain⟨q1,q2,q3,q4⟩:=hone els h.1;refine bF (N:=8) Tryz.func179 ?_;show AWP Aa (.seq _ (.seq (.seq _ (.cond _ _ _)) (.seq (.region _ _ _) _))) _ _;have hb:∀b,qV (.d (.sl els))=some b->b=none/\els=[]\/b=some false:=by
  intro b hb;cases els with
  |nil=>simp[qV]at hb;exact .inl ⟨hb.symm,rfl⟩
  |cons=>simp[qV]at hb;exact .inr hb.symm
 have hl:els.length<=1099511627776:=h.2;have e1:(els.flatten.map AV.d).length=els.length:=by rw[AL];exact q2
 cases els with
 |nil =>
  simp[AWP,OW,O1,eY,kind,nev,oev,St0,cv,cv1,bT,upd,jE,cnt,fin,Γ0,aRi,eO,qV,bCt,aO,aCr,aAp,fB,nY,mY,nS,fW,Tryz.f179,Option.bind,kill,chunk,Em,CE,lJ,tU,fV,fG,maxLen,frz]
 |cons x l =>
  generalize hE:x::l=els at *;have hn:qV (.d (.sl els))=some (some false):=by rw[<-hE];rfl
  have m1:∀(H:Hp) n,(els.flatten.map AV.d).mapM (frz H (n+1))=some els.flatten:=λH n=>mA H n _
  have m2:∀l,(els.flatten.map AV.d).map (fV l)=els.flatten.map AV.d:=λl=>vK l _
  have hsrc:∀H,aAp H 1 (.d (.sl els))=some (els.length,els.flatten.map AV.d):=λH=>by simp only[aAp];rw[Ad ⟨q3,q1⟩]
  generalize els.flatten.map AV.d=cs at *;generalize els.flatten=fl at *;have m3:cs.map (λx=>fV [1] x)=cs:=m2 [1];have p1:els.length*4<=140737488355328:=by omega
  have p2:els.length<=9223372036854775807:=by omega
  have e2:cs.take els.length=cs:=by rw[<-e1];exact List.take_length
  simp[AWP,OW,O1,eY,kind,nev,oev,St0,cv,cv1,bT,upd,jE,cnt,fin,Γ0,aRi,eO,hn,bCt,aO,aCr,hsrc,nY,mY,nS,fW,Tryz.f179,kill,Em,CE,lJ,tU,maxLen,p1,p2];simp[fV,jA,fG,e1,e2,m2,m1,q4]
def bHn:gQ Aa 173:=aEt Tryz.func173 (by kernel_rfl) rfl rfl rfl
def bHm:gQ Aa 221:=aEt Tryz.func221 (by kernel_rfl) rfl rfl rfl
def E0:Kn where
 call:=λf ds=>if f=179 then(match ds with|[.sl els]=>if bUm els then some (.sl els)else none|_=>none)else none
 ocall:=λ_ _ _ _=>none
 keys:=λf=>if f=178 then some 183 else none
 sorted:=λf g=>f==177&&g==183
 recs:=λg=>[
  173,
  221,
  ].contains g
def bWl:aTu Aa E0:=by
 refine⟨λf ds r h=>?_,λf h o ds o' r h'=>(by cases h'),λf g h=>?_,λf g h=>?_,λg h=>?_⟩
 ·simp only[E0]at h;split at h
  ·rename_i hf;subst hf;split at h
   ·split at h
    ·rename_i hc;injection h with h;subst h;exact aKn _ hc
    ·cases h
   ·cases h
  ·cases h
 ·simp only[E0]at h;split at h
  ·rename_i hf;subst hf;injection h with h;subst h;exact Tryz.keys106
  ·cases h
 ·simp only[E0,AO,beq_iff_eq]at h;obtain⟨rfl,rfl⟩:=h;exact Tryz.sorted122
 ·simp only[E0,List.contains_eq_mem,AI]at h;simp only[AG,List.not_mem_nil,EB]at h;rcases h with rfl|rfl|rfl|rfl|rfl|rfl|rfl|rfl
  ·exact bHn
  ·exact bHm
end Go.Am
end
section
open List renaming map_map->C,mapM_map->I
namespace Go.Am
attribute [simp] bUg bMi cBy aXa bQ bDu bYm bCt qV St0 bJu bHk bSl bQe bLa bDm fW aXe aTl bSe sS bUo bUn aVt bSr bSq bJw
 bKa bJx qZ vE aOn bPd bWt aLj bFk aXx aEc List.flatMap_nil vK bSf aRr aZh bJl nK aRf bMp bUp bRo bCr bRn bIy bYd bIw bQw aHy
 aMl bIx bRm aVi aMn aMm aVh bIt bYc aRs bJf bYi bYg bYb bYa bIv aVg aVb cDc cDe cAe cDd aLu bGh nP aHd gM cBc cBd
 bRh bRi cCn cCo bUf bEh bUr bUs bMs bXu bXv bRe bXt bXs bRc bRb bRa bQz bXp bXr bXq bEm bEl aWv aWt aWs aWr bEi
 bEk bEn aWx bVb bNx bPk bFq bKo bEp bCl bCk bJs bSo bJr bJq aWg bDw aVw bDk aVv aVx bDl bZy bNh bMv
 bNb bMz bMy bNg bNa bNc bNd bNe bNf bMx bMw bEr bPi bPj bCu bJb bYt bYs bTa bTd cCa cBz bYp bYr bYo bPs bBl bGo
 bBm bBk bBj bGq bGr bGt bGu bGp bGv aUt bBn aUu aUs aUr aPk bGa bGb bPo bFz aLr aVe aQs bNt bIf bUy
 bCi bCj bNs bNr bDd bDf bJk aUk bBe bHj bBt rD bKc bKb bEw bEv bMm bMl bCd bCe dU bDv aWf aWe
 aUp bBh aLf bWp tY yG jA bLn bTi bYx bYy nF dY aEr aIr aOx aOw aUg bPm bXa fM jB kL bFx bPn aTd
 aNi
def KW:type_of% (AR @aTg (AR @aCk (AR @bAm (AR @aKv (AR @aTh (AR @bAn (AR @aKt (AR @aKr (AR @aKu (AR @aKs (AR @qJ (AR @aQo (AR @aQn (AR @aYw (AR @aCc (AR @aJn (AR @aYv (AR @aRe (AR @bIr (AR @aRc (AR @wY (AR @yQ (AR @aFc (AR @aRd (AR @aYu (AR @aFe (AR @yS (AR @aQz (AR @yR (AR @aFd (AR @aQy (AR @bIq (AR @aYy (AR @bIp (AR @bIo (AR @aYx (AR @aJj (AR @aQx (AR @yP (AR @aJl (AR @aJo (AR @aJm (@aYz))))))))))))))))))))))))))))))))))))))))))) :=
 AR @aTg (AR @aCk (AR @bAm (AR @aKv (AR @aTh (AR @bAn (AR @aKt (AR @aKr (AR @aKu (AR @aKs (AR @qJ (AR @aQo (AR @aQn (AR @aYw (AR @aCc (AR @aJn (AR @aYv (AR @aRe (AR @bIr (AR @aRc (AR @wY (AR @yQ (AR @aFc (AR @aRd (AR @aYu (AR @aFe (AR @yS (AR @aQz (AR @yR (AR @aFd (AR @aQy (AR @bIq (AR @aYy (AR @bIp (AR @bIo (AR @aYx (AR @aJj (AR @aQx (AR @yP (AR @aJl (AR @aJo (AR @aJm (@aYz))))))))))))))))))))))))))))))))))))))))))
end Go.Am
end
section
open List renaming map_map->C,mapM_map->I
namespace Go.Am
open RowKit (Below)
def OA(P:Program)(ops:Array Oper)(k:St->Prop):Nat->Array Bool->St->Prop
 |0,listed,σ=>BU .any ops listed=[]/\k σ
 |fuel+1,listed,σ=>(BU .any ops listed=[]->k σ)/\∀i∈BU .any ops listed,match ops[i]? with
   |none=>OA P ops k fuel (listed.setIfInBounds i true) σ
   |some o=>OW P ops [o] σ [] λσ' con=>OA P ops k fuel (listed.setIfInBounds i true) (fin σ' con)
section
variable {P:Program} {G:Ctx} {N:Nat} {ds:List Deferred} {ops:Array Oper}
def aHn{Q:St->Prop}{Q':Exit->Act->World->Prop}(hno:sC ops.toList=true)(hdst:∀(i:Nat) (o:Oper) (d:Tmp),ops[i]? = some o->o.dst=some d->d<N/\G.Z d=none)(hQ:∀σ a w,Q σ->SR G N ds σ a w->Q' .normal a w) :
  ∀(fuel:Nat) (listed:Array Bool) (σ:St) (a:Act) (w:World),SR G N ds σ a w->OA P ops Q fuel listed σ->wpA P ops Q' fuel listed a w
 |0,_,σ,a,w,hs,h=>⟨h.1,hQ σ a w h.2 hs⟩
 |fuel+1,listed,σ,a,w,hs,h=>by
  refine⟨λh0=>hQ σ a w (h.1 h0) hs,λi hi=>?_⟩;have h1:=h.2 i hi;split
  ·rename_i ho;simp only[ho]at h1;exact aHn hno hdst hQ fuel _ σ a w hs h1
  ·rename_i o ho;simp only[ho]at h1;obtain⟨hn0,hwf,hag⟩:=aAe hs;obtain⟨fb,hfb⟩:=uY (G:=G) [o] σ [] (by
    have h0:o∈ops.toList:=by rw[Array.mem_toList_iff];exact Array.mem_of_getElem? ho
    have:=Ay.1 hno o h0;simpa[sC]using this) hn0 hwf h1
   obtain⟨g1,g2⟩:=hag (λi=>if i<σ.n then σ.H i else fb i) (λi o hi=>by
    rcases Bf i σ.n with hlt|hge
    ·rw[Ad hlt];exact hi
    ·rw[hwf.top i hge]at hi;cases hi)
   obtain⟨s',hd,σ',con',hoa,hn',hwf',hag'⟩:=hfb _ g1 (λi hi=>by simp only;rw[Ac (by omega)]);exact xQ (K:=wpA P ops Q' fuel (listed.setIfInBounds i true)) (Q':=Q') hd (λd h=>hdst i o d ho h) g2 λa' w' hr'=>aHn hno hdst hQ fuel _ _ a' w' (aNu hn' hwf' hag' hr') hoa
def cDa(P:Program):Code->St->(St->Prop)->Prop
 |.region _ ops true,σ,k=>OA P ops k ops.size (BI ops.size false) σ
 |_,_,_=>False
def bEz(P:Program):Code->St->(Exit->St->Prop)->Prop
 |.seq x (.seq y z),σ,Q=>AWP P x σ λe σ'=>match e with|.normal=>bEz P (.seq y z) σ' Q|e=>Q e σ'
 |.seq x .ret,σ,Q=>cDa P x σ (Q .ret)
 |_,_,_=>False
def uQ(P:Program):Code->Bool
 |.seq x (.seq y z)=>eC P x&&uQ P (.seq y z)
 |.seq (.region _ ops true) .ret=>sC ops.toList
 |_=>false
def aXp(hm:P.follows .mixedOrders=true)(hZ:∀d,G.Z d=none):∀(c:Code) (Q:Exit->St->Prop) (σ:St) (a:Act) (w:World),dK N c=true->uQ P c=true->bEz P c σ Q->SR G N ds σ a w ->
  c.wp P (λe a' w'=>∃σ',Q e σ'/\SR G N ds σ' a' w') a w:=by
 intro c
 induction c with
 |seq x y ihx ihy =>
  intro Q σ a w hd hl h hs
  simp only[dK,AO]at hd
  cases y with
  |seq y z =>
   simp only[uQ,AO]at hl
   refine wp_seq (wp_mono (iC hm hZ x _ σ a w hd.1 hl.1 h hs) ?_)
   rintro e a' w' ⟨σ',hq,hs'⟩
   cases e with
   |normal=>exact ihy Q σ' a' w' hd.2 hl.2 hq hs'
   |_=>exact⟨σ',hq,hs'⟩
  |ret =>
   unfold uQ at hl
   split at hl
   ·rename_i he;cases he
   ·rename_i id ops he
    injection he with he1 _;subst he1
    have h':OA P ops (Q .ret) ops.size (BI ops.size false) σ:=h
    refine wp_seq ((WpR.plain P).regA hm (λe=>by cases e) (aHn (Q:=Q .ret) (N:=N) (ds:=ds) (G:=G) hl (λi o d hi hd'=>⟨qK hd.1 i o d hi hd',hZ d⟩) (λσ' a' w' hq hs'=>?_) _ _ σ _ _ ?_ h'))
    ·exact wp_ret ⟨σ',hq,hs'⟩
    ·obtain⟨q1,q2,F,ι,hR,hdom,hV,hN,hds,hp⟩:=hs
     have hs:Step F w ι F { w with drawn:=w.drawn+1 } ι:=⟨λ_ h=>h,λ_ _=>rfl,λ_ _ h=>h,λ_ _ cur _ _ h=>⟨cur,h,rfl⟩⟩
     refine⟨q1,q2,F,ι,⟨hR.kept.trans ⟨rfl,rfl,rfl,Ap _,λ_ _ _=>rfl,λ_ cur _ _ h=>⟨cur,h,rfl⟩⟩,hR.F_lt,hR.F_ok,hR.place,λid b o h1 h2=>?_,hR.inj,hR.len⟩,hdom,λt=>(hV t).step hs,hN,hds,hp⟩
     obtain⟨ob,h3,h4⟩:=hR.obj id b o h1 h2
     exact⟨ob,h3,h4.step hs⟩
   ·cases hl
  |_=>exact h.elim
 |_=>intro Q σ a w _ _ h;exact h.elim
def bGd {f N:Nat} {fn:Func} {c:Code} {args:List D} {r:D} (hm:P.follows .mixedOrders=true) (hf:P.funcs[f]? = some fn) (hb:fn.body=some c) (hname:(fn.name == "runtime.NumGoroutine")=false) (hN:fn.ntmps=N)
  (hd:dK N c=true) (hl':uQ P c=true) (ha:args.length<=N) (h:bEz P c (St0 args N) λe σ=>(e=.normal\/e=.ret)/\mY P fn.results.toList σ=some r):Spec P f args r:=by
 intro A W vs hA hl hv
 have hn:¬ fn.name = "runtime.NumGoroutine" := by simpa using hname
 refine⟨λw=>by simp[callFunc,hf,hn,hb],?_⟩
 refine calls_of_wp hf hb ?_
 subst hN
 refine wp_mono (aXp hm (λ_=>rfl) c _ _ _ _ hd hl' h (SR0 hA hl hv ha)) ?_
 rintro e a w ⟨σ,⟨he,hr⟩,hs⟩
 obtain⟨v,hrun,hvd⟩:=nR hs hr
 obtain⟨_,_,F,ι,hR,_,_,_,hdf,_⟩:=hs
 have hend:a.defers=[]/\∃v,(results fn a.tmps).run P w=.ok v w/\∃v',DM v=.returned v'/\Below W.heap.size W w/\VD (λb=>A b\/(W.heap.size<=b/\b<w.heap.size)) w r v':=by
  refine⟨hdf,v,hrun,v,rfl,⟨hR.kept.os,hR.kept.tape,hR.kept.output,hR.kept.size,λk hk=>hR.kept.block k hk (λh=>h)⟩,hvd.mono ?_⟩;rintro b (h|h|h)
  ·exact .inl h
  ·exact h.elim
  ·exact .inr h
 rcases he with rfl|rfl<;>exact hend
def OAd(P:Program)(ops:Array Oper)(k:St->Prop)(fuel:Nat)(listed:Array Bool)(σ:St)(_:Dm (ops,k)):Prop:=OA P ops k fuel listed σ
def bH(x y z:Code)(σ:St)(Q:Exit->St->Prop):bEz P (.seq x (.seq y z)) σ Q=AWP P x σ λe σ'=>match e with|.normal=>bEz P (.seq y z) σ' Q|e=>Q e σ':=rfl
def bI(id:Nat)(l:List Oper)(σ:St)(Q:Exit->St->Prop):bEz P (.seq (.region id l.toArray true) .ret) σ Q=OAd P l.toArray (Q .ret) l.length (BI l.length false) σ .mk:=rfl
def qT{k:St->Prop}{fuel:Nat}{listed:Array Bool}{σ:St}{d:Dm (ops,k)}(i:Nat){o:Oper}(hr:BU .any ops listed=[i])(ho:ops[i]? = some o)
  (h:OWd P ops [o] σ [] (λσ' con=>aIj σ' con (λσ2=>OAd P ops k fuel (listed.setIfInBounds i true) σ2 .mk) .mk) .mk):OAd P ops k (fuel+1) listed σ d:=by
 refine⟨λe=>(by rw[hr]at e;cases e),λj hj=>?_⟩
 rw[hr]at hj
 simp only[AT]at hj
 subst hj
 simp only[ho];exact h
def bIj{k:St->Prop}{fuel:Nat}{listed:Array Bool}{σ:St}{d:Dm (ops,k)}(i j:Nat){o o':Oper}(hr:BU .any ops listed=[i,j])(ho:ops[i]? = some o)(ho':ops[j]? = some o')
  (h:OWd P ops [o] σ [] (λσ' con=>aIj σ' con (λσ2=>OAd P ops k fuel (listed.setIfInBounds i true) σ2 .mk) .mk) .mk)
  (h':OWd P ops [o'] σ [] (λσ' con=>aIj σ' con (λσ2=>OAd P ops k fuel (listed.setIfInBounds j true) σ2 .mk) .mk) .mk):OAd P ops k (fuel+1) listed σ d:=by
 refine⟨λe=>(by rw[hr]at e;cases e),λm hm=>?_⟩
 rw[hr]at hm
 simp only[AG,List.mem_nil_iff,EB]at hm
 rcases hm with rfl|rfl
 ·simp only[ho];exact h
 ·simp only[ho'];exact h'
def aVf{k:St->Prop}{listed:Array Bool}{σ:St}{d:Dm (ops,k)}(hr:BU .any ops listed=[])(h:k σ):OAd P ops k 0 listed σ d:=⟨hr,h⟩
end
end Go.Am
end
section
open List renaming map_map->C,mapM_map->I
namespace Go.Am
open RowKit (Below)
variable {P:Program}
def bGx{G:Ctx}{fn:Func}{σ:St}{a:Act}{w:World}{rv:ResultVar}{av:AV}{F:Nat->Prop}{ι:Nat->Option Nat}(hR:HR G F w ι bW σ.H)(hV:∀t,V F w ι (σ.J t) (a.tmps.getD t undef))(hres:fn.results.toList=[rv])(h:nS P σ rv=some av) :
  ∃v,(results fn a.tmps).run P w=.ok v w/\V F w ι av v:=by
 cases rv with
 |cell ad t=>exact bPu hR hV hres h
 |tmp t =>
  simp only[nS,AU]at h
  subst h
  refine⟨a.tmps.getD t undef,?_,hV t⟩
  have h1':([ResultVar.tmp t].mapM (m:=Sem) λ|.tmp t=>pure (a.tmps.getD t undef)|.cell ad t=>do loadVar t (<-asAddr (a.tmps.getD ad undef))).run P w=.ok [a.tmps.getD t undef] w:=by simp only[Ca,List.mapM_nil,A3,Result.andThen_ok,Sem.run_pure]
  simp only[results,Array.mapM_eq_mapM_toList,A3,Sem.run_map,hres]
  erw [h1']
  simp
def lZ {f N:Nat} {fn:Func} {c:Code} {args:List D} {v:Nat->AV} {hs:Nat->List HO} {rv:ResultVar} (hm:P.follows .mixedOrders=true) (hf:P.funcs[f]? = some fn) (hb:fn.body=some c) (hname:(fn.name == "runtime.NumGoroutine")=false)
  (hN:fn.ntmps=N) (hN0:0<N) (hd:dK N c=true) (hl':eC P c=true) (ha:args.length<=N) (hres:fn.results.toList=[rv])
  (h:AWP P c (St0 args N) λe σ=>(e=.normal\/e=.ret)/\eG (nS P σ rv) (λav=>∀m,0<m->∃ρ,Wk ⟨upd σ.J 0 av,σ.H,σ.n⟩ (gR v hs m) ρ) .mk):pX P f args v hs:=by
 intro A W vs hA hl hv
 have hn:¬ fn.name = "runtime.NumGoroutine" := by simpa using hname
 refine⟨λw=>by simp[callFunc,hf,hn,hb],?_⟩
 refine calls_of_wp hf hb ?_
 subst hN
 refine wp_mono (iC hm (λ_=>rfl) c _ _ _ _ hd hl' h (SR0 hA hl hv ha)) ?_
 rintro e a w ⟨σ,⟨he,hr⟩,hs1⟩
 obtain⟨htop,hn0,F,ι,hR,hdom,hV,hN2,hdf,hp⟩:=hs1
 cases hav:nS P σ rv with
 |none=>rw[hav]at hr;exact hr.elim
 |some av =>
 rw[hav]at hr
 simp only[eG]at hr
 obtain⟨u,hrun,hvu⟩:=bGx hR hV hres hav
 have hput:SR ⟨W,A,bW,λ_=>True,λ_=>none⟩ fn.ntmps [] ⟨upd σ.J 0 av,σ.H,σ.n⟩ (a.put (some 0) u) w:=by
  refine⟨htop,hn0,F,ι,hR,hdom,λt'=>?_,⟨by simp[Act.put,hN2.1],λ_ _ h=>by cases h⟩,by simp[Act.put,hdf],hp⟩;rw[kT a (some 0) u (λd hd=>by injection hd with hd;subst hd;rw[hN2.1];exact hN0) t'];by_cases e0:t'=0
  ·subst e0;rw[Ad rfl];simp only[dC];exact hvu
  ·rw[Ac (λe=>e0 (by injection e with e;exact e.symm))];simp only;rw[dX _ _ e0];exact hV t'
 have hend:a.defers=[]/\∃u,(results fn a.tmps).run P w=.ok u w/\∃u',DM u=.returned u'/\Below W.heap.size W w/\∀m,0<m->∃(F:Nat->Prop) (ι:Nat->Option Nat),
   (∀b,F b->A b\/(W.heap.size<=b/\b<w.heap.size))/\V F w ι (v m) u'/\(∀id,(∃b,ι id=some b)↔(m<=id/\id<m+(hs m).length)) /\
   (∀id b,ι id=some b->W.heap.size<=b/\b<w.heap.size/\¬F b) /\
   (∀i o b,(hs m)[i]? = some o->ι (m+i)=some b->∃ob,w.heap[b]? = some ob/\CR F w ι o ob) /\
   (∀id id' b,ι id=some b->ι id'=some b->id=id'):=by
  refine⟨hdf,u,hrun,u,rfl,⟨hR.kept.os,hR.kept.tape,hR.kept.output,hR.kept.size,λk hk=>hR.kept.block k hk (λh=>h)⟩,λm hm0=>?_⟩
  obtain⟨ρ,hw⟩:=hr m hm0
  obtain⟨_,_,F2,ι2,hR2,hdom2,hV2,_,_,_⟩:=aDy hw hput
  have hout:∀id,((gR v hs m).H id).isSome=true↔(m<=id/\id<m+(hs m).length):=λid=>by
   simp only[gR,gJ];by_cases hr:m<=id/\id<m+(hs m).length
   ·rw[Ad hr,Ab (by omega)];simp[hr]
   ·rw[Ac hr];simp[hr]
  refine⟨F2,ι2,λb hb'=>?_,?_,λid=>by rw[hdom2,hout],λid b hb'=>?_,λi o b ho hb'=>?_,λid id' b e1 e2=>hR2.inj id id' b e1 e2 (λh=>h) (λh=>h)⟩
  ·rcases hR2.F_ok b hb' with h|h|h
   ·exact .inl h
   ·exact h.elim
   ·exact .inr ⟨h,hR2.F_lt b hb'⟩
  ·have:=hV2 0
   rw[kT a (some 0) u (λd hd=>by injection hd with hd;subst hd;rw[hN2.1];exact hN0) 0,Ad rfl]at this
   simpa[gR,dC]using this
  ·obtain⟨q1,q2,q3⟩:=hR2.place id b hb'
   rcases q1 with q1|q1
   ·exact q1.elim
   ·exact⟨q1,q2,q3 (λh=>h)⟩
  ·have hi:=(Ah.1 ho).1
   refine hR2.obj (m+i) b o hb' ?_
   simp only[gR,gJ]
   rw[Ad ⟨by omega,by omega⟩,show m+i-m=i by omega];exact ho
 rcases he with rfl|rfl<;>exact hend
end Go.Am
end
section
open List renaming map_map->C,mapM_map->I
open Go Go.Am Go.Proofs
namespace Go.Am
def sX{raw:List Nat}{n:Nat}(hn:n<raw.length)(h0:raw[n]≠0):strip (raw.take (n+1))=raw.take (n+1):=by refine qF ?_;rw[AM,Ab hn,oL,Option.toList_some,List.getLast?_append];simp[h0]
def sW{raw:List Nat}{n:Nat}(hn:n<raw.length)(h0:raw[n]=0):strip (raw.take (n+1))=strip (raw.take n):=by rw[AM,Ab hn,h0];exact aEn _
def iF(raw:List Nat)(neg:Bool)(hl:raw.length<=1099511627776):Spec Aa 58 [aM raw,.b neg] (encI (neg&&decide (strip raw≠[])) (strip raw)):=by
 refine bF (N:=31) Tryz.func58 ?_;simp[-C,-I,↓KW,aM];refine uD (τ:={ n:Nat // n<=raw.length/\strip (raw.take n)=strip raw }) (S:=λn=>StL [(0,.d (aM raw)),(1,.d (.b neg)),(4,.ptr 1 0),(5,.d (.i .i64 n.1))] none [.cells 72 [.d (.b false),.nil]]) (m:=λn=>n.1) ⟨raw.length,Ap _,by simp⟩ ?_ ?_
 ·refine wkQ [1] ?_ ?_
  ·simp[-C,upd,aO,Γ0,aM]
  ·simp[-C,upd,aO,Γ0]
 ·rintro⟨n,hn,hs⟩;rcases n with _|n
  ·have hs':strip raw=[]:=hs.symm;cases neg<;>simp[-C,-I,↓KW,aM,encI,hs',chunk]
  ·have hx:raw[n]? = some raw[n]:=Ab hn;have hw:Ag.wrap (n:Int)=n:=aV;have hp:(0:Int)<(n:Int)+1:=by omega
   by_cases h0:raw[n]=0
   ·simp[-C,-I,↓KW,aM,hx,hw,h0,hp];refine⟨n,by omega,⟨by omega,(sW hn h0).symm.trans hs⟩,.inr (wkQ [1] ?_ ?_)⟩<;>simp[-C,upd,aO,Γ0,aM]
   ·have h1:((raw[n]:Int)==0)=false:=by simp;omega
    have he:strip raw=raw.take (n+1):=hs.symm.trans (sX hn h0);have hp2:(0:Int)<=(n:Int)+1:=by omega
    have hn':(n:Int)+1<=raw.length:=by omega
    obtain⟨pre,hpre⟩:∃pre,raw.take (n+1)=pre:=⟨_,rfl⟩;have hpl:pre.length=n+1:=by rw[<-hpre];simp;omega
    have hp1:∀f:Nat->List D,(raw.map f).take (n+1)=pre.map f:=λf=>by rw[<-hpre,BD]
    have hpn:pre≠[]:=λe=>by rw[e]at hpl;cases hpl
    rw[hpre]at he;have hb:(n+1)*4<=140737488355328:=by omega
    have hb2:n+1<=maxLen:=by unfold maxLen;omega
    cases neg<;>simp[-C,-I,↓KW,aM,encI,hx,hw,h1,hp,hp2,he,hn',hp1,hpl,hpn,iB hpl,fE hpl,aRr,aZh,nK,hb,hb2]
def fA{raw:List Nat}(h:Lim raw)(neg:Bool):encI (neg&&decide (strip raw≠[])) (strip raw)=encZ (sg neg (val raw)):=by rw[iW h,<-bUb];simp[fP]
def tE(n:Int)(h1:-9223372036854775808<=n)(h2:n<9223372036854775808):Spec Aa 31 [.i .i64 n] (encZ n):=by
 refine bF (N:=19) Tryz.func31 ?_;have key:∀(u:Nat),u<18446744073709551616->∃lo hi:Nat,Lim [lo,hi]/\val [lo,hi]=u/\Cr.wrap (u:Int)=lo/\kZ .shr .u64 (u:Int) 32=some (.i .u64 hi)/\Cr.wrap (hi:Int)=hi:=λu hu=>by refine⟨u%4294967296,u/4294967296,.cons (by omega) (.one (by omega)),by simp only[val];omega,by rw[jF];omega,?_,by rw[kP (by omega) (by omega)]⟩;simp only[kZ,Di];rw[Ac (by decide)];congr 2;rw[show(2:Int)^(min (32:Int).toNat 64)=4294967296 from by decide,Dj _ (by decide)];omega
 by_cases hn:n<0
 ·obtain⟨u,hu⟩:∃u:Nat,n=-(u:Int):=⟨n.natAbs,by omega⟩;have hu2:u<18446744073709551616:=by omega
  have e1:A1.wrap n=n+18446744073709551616:=by rw[aAg];omega
  have e2:A1.wrap (-(n+18446744073709551616))=(u:Int):=by rw[aAg];omega
  obtain⟨lo,hi,k1,k2,e3,e4,e5⟩:=key u hu2;simp[-C,-I,↓KW,hn,e1,e2,e3,e4,e5];have hm:=iF [lo,hi] true (by simp);rw[fA k1,k2,show sg true u=n by simp[sg];omega]at hm;refine bK (ds:=[aM [lo,hi],.b true]) ?_ hm ?_
  ·simp[-C,-I,↓KW,aM]
  ·simp[-C,-I,↓KW,aM,encZ,encI]
 ·obtain⟨u,rfl⟩:∃u:Nat,n=(u:Int):=⟨n.natAbs,by omega⟩;have hu2:u<18446744073709551616:=by omega
  have e1:A1.wrap (u:Int)=u:=bU (by omega) (by omega);obtain⟨lo,hi,k1,k2,e3,e4,e5⟩:=key u hu2;simp[-C,-I,↓KW,hn,e1,e3,e4,e5];have hm:=iF [lo,hi] false (by simp);rw[fA k1,k2,show sg false u=u by simp[sg]]at hm;refine bK (ds:=[aM [lo,hi],.b false]) ?_ hm ?_
  ·simp[-C,-I,↓KW,aM]
  ·simp[-C,-I,↓KW,aM,encZ,encI]
def bQt(neg:Bool)(m:List Nat):Spec Aa 68 [encI neg m] (.i .i64 (if m=[]then 0 else if neg then -1 else 1)):=by
 refine bF (N:=9) Tryz.func68 ?_;cases m with
 |nil=>simp[-C,-I,↓KW,encI,aM]
 |cons x m =>
  have h1:(((m.length:Int)+1==0):Bool)=false:=by simp;omega
  cases neg<;>simp[-C,-I,↓KW,encI,aM,h1]
def fH(z:Int):Spec Aa 68 [encZ z] (.i .i64 z.sign):=by
 have:=bQt (decide (z<0)) (aU z.natAbs);have e:(if aU z.natAbs=[]then(0:Int)else if(decide (z<0))=true then -1 else 1)=z.sign:=by
  simp only[fP];rcases EH z 0 with h|h|h
  ·rw[Ac (by omega),Ad (by simpa using h),CU h]
  ·subst h;rfl
  ·rw[Ac (by omega),Ac (by simp;omega),Dk h]
 rwa [e]at this
def bIb(neg:Bool)(m:List Nat)(hl:m.length<=1099511627776):Spec Aa 67 [encI neg m] (.b (match m.getLast? with|some x=>x != 0|none=>!neg)):=by
 refine bF (N:=19) Tryz.func67 ?_;rcases List.eq_nil_or_concat m with rfl|⟨m',x,rfl⟩
 ·simp[-C,-I,↓KW,encI,aM]
 ·have hw:Ag.wrap (m'.length:Int)=m'.length:=by simp at hl;rw[wrap_i64]<;>omega
  have h1:(((m'.length:Int)+1==0):Bool)=false:=by simp;omega
  have hg:(AQ (λ(x:Nat)=>[D.i .u32 (x:Int)]) m'++[[D.i .u32 (x:Int)]])[m'.length]? = some [D.i .u32 (x:Int)]:=by rw[Az (by simp)];simp
  simp[-C,-I,↓KW,encI,aM,hw,h1,hg];rw[DL];simp
def aIz(z:Int)(hl:(aU z.natAbs).length<=1099511627776):Spec Aa 67 [encZ z] (.b true):=by
 have:=bIb (decide (z<0)) (aU z.natAbs) hl;have e:(match(aU z.natAbs).getLast? with|some x=>x != 0|none=>!(decide (z<0)))=true:=by
  have hc:=lF z.natAbs;unfold oL at hc;cases h:(aU z.natAbs).getLast? with
  |none =>
   have:=fP.1 (EZ.1 h);simp;omega
  |some x=>rw[h]at hc;simpa using hc
 rwa [e]at this
def rL(a b:List Nat):Bool:=if a.length=b.length then decide (val a<val b)else decide (a.length<b.length)
def lB(x y:Nat):rL (aU x) (aU y)=decide (x<y):=by
 unfold rL;by_cases h:(aU x).length=(aU y).length
 ·rw[Ad h,dS,dS]
 ·rw[Ac h];by_cases h1:(aU x).length<(aU y).length
  ·simp[h1,kI h1]
  ·have:=kI (a:=y) (b:=x) (by omega);simp only[h1,decide_false];simp;omega
def aDe(a b:List Nat)(ha:Lim a)(hb:Lim b)(hla:a.length<=1099511627776)(hlb:b.length<=1099511627776):Spec Aa 98 [aM a,aM b] (.b (rL a b)):=by
 refine bF (N:=41) Tryz.func98 ?_;by_cases hn:a.length=b.length
 rotate_left
 ·have h1:(((a.length:Int) != b.length):Bool)=true:=by simp;omega
  simp[-C,-I,↓KW,aM,h1,rL,hn]
 ·have h1:(((a.length:Int) != b.length):Bool)=false:=by simp;omega
  have hw:Ag.wrap ((a.length:Int)-1)=(a.length:Int)-1:=aV;simp[-C,-I,↓KW,aM,h1,hw];refine uD (τ:={ k:Nat // k<=a.length/\a.drop k=b.drop k }) (S:=λk=>StL [(0,.d (aM a)),(1,.d (aM b)),(5,.d (.i .i64 ((k.1:Int)-1)))] none []) (m:=λk=>k.1) ⟨a.length,Ap _,by rw[BA (Ap _),BA (by omega)]⟩ ?_ ?_
  ·refine wkQ [] ?_ ?_<;>simp[-C,upd,aO,Γ0,aM]
  ·rintro⟨k,hk,hd⟩;rcases k with _|k
   ·have e:a=b:=by simpa using hd
    subst e;simp[-C,-I,↓KW,aM,rL]
   ·have hkb:k<b.length:=by omega
    have hxa:a[k]? = some a[k]:=Ab hk;have hxb:b[k]? = some b[k]:=Ab hkb;have hw2:Ag.wrap ((k:Int)-1)=(k:Int)-1:=aV;have hp:(0:Int)<=k:=by omega
    by_cases he:a[k]=b[k]
    ·have h2:(((a[k]:Int) != (b[k]:Int)):Bool)=false:=by simp[he]
     simp[-C,-I,↓KW,aM,hxa,hxb,hw2,hp,h2];refine⟨k,by omega,⟨by omega,?_⟩,.inr (wkQ [] ?_ ?_)⟩
     ·rw[AP hk,AP hkb,he,hd]
     ·simp[-C,upd,aO,Γ0,aM]
     ·trivial
    ·have h2:(((a[k]:Int) != (b[k]:Int)):Bool)=true:=by simp;omega
     simp[-C,-I,↓KW,aM,hxa,hxb,hw2,hp,h2,rL,hn];have ga:a.getD k 0=a[k]:=by rw[Af,hxa];rfl
     have gb:b.getD k 0=b[k]:=by rw[Af,hxb];rfl
     rcases Bf a[k] b[k]with hlt|hge
     ·have:=vF ha (i:=k) hn hk hd (by rw[ga,gb];exact hlt);simp[hlt,this]
     ·have:=vF hb (i:=k) hn.symm hkb hd.symm (by rw[ga,gb];omega);omega
def aEx(x y:Int)(hx:(aU x.natAbs).length<=1099511627776)(hy:(aU y.natAbs).length<=1099511627776):Spec Aa 78 [encZ x,encZ y] (.b (decide (x=y))):=by
 refine bF (N:=26) Tryz.func78 ?_;have l1:=aDe _ _ (cY x.natAbs) (cY y.natAbs) hx hy;have l2:=aDe _ _ (cY y.natAbs) (cY x.natAbs) hy hx;rw[lB]at l1 l2;unfold encZ encI;generalize aU x.natAbs=a at *;generalize aU y.natAbs=b at *;by_cases hs:decide (x<0)=decide (y<0)
 rotate_left
 ·have h1:(decide (x<0)==decide (y<0))=false:=by simpa using hs
  have h2:¬x=y:=λe=>hs (by rw[e])
  simp[-C,-I,↓KW,aM,h1,h2]
 ·have h1:(decide (x<0)==decide (y<0))=true:=by simpa using hs
  simp[-C,-I,↓KW,aM,h1];refine aJ l1 ?_;by_cases h3:x.natAbs<y.natAbs
  ·have h2:¬x=y:=λe=>by rw[e]at h3;omega
   simp[-C,-I,↓KW,aM,h3,h2]
  ·simp[-C,-I,↓KW,aM,h3];refine aJ l2 ?_;simp[-C,-I,↓KW,aM];have hs':x<0↔y<0:=by simpa using hs
   rw[DL];simp;omega
def plS(a b:List Nat):Nat->List Nat×Nat
 |0=>([],0)
 |i+1=>((plS a b i).1++[((plS a b i).2+a.getD i 0+b.getD i 0)%4294967296],((plS a b i).2+a.getD i 0+b.getD i 0)/4294967296)
def oP{a b:List Nat}(ha:Lim a)(hb:Lim b):∀i,(plS a b i).1.length=i/\(plS a b i).2<=1/\Lim (plS a b i).1/\val (plS a b i).1+4294967296^i*(plS a b i).2=val (a.take i)+val (b.take i)
 |0=>⟨rfl,Al _,.nil,by simp[plS,val]⟩
 |i+1=>by
  obtain⟨h1,h2,h3,h4⟩:=oP ha hb i;have ha':=ha.getD i;have hb':=hb.getD i;simp only[plS];generalize(plS a b i).1=out at *;generalize(plS a b i).2=c at *;refine⟨by simp[h1],by omega,h3.app (.one (by omega)),?_⟩;rw[oM,eA,eA,h1,Cp];simp only[val];have h5:4294967296^i*((c+a.getD i 0+b.getD i 0)%4294967296)+4294967296^i*4294967296*((c+a.getD i 0+b.getD i 0)/4294967296)=4294967296^i*c+4294967296^i*a.getD i 0+4294967296^i*b.getD i 0:=by rw[Ck,<-Cq,Nat.mod_add_div,Cq,Cq]
  simp only[Dh,Ce];omega
def plN(a b:List Nat):Nat:=if(plS a b (max a.length b.length)).2=0 then max a.length b.length else max a.length b.length+1
def aEy(a b:List Nat):List Nat:=(plS a b (plN a b)).1
def getD_none{l:List Nat}{i:Nat}(h:¬i<l.length):l.getD i 0=0:=by rw[Af,AW (by omega)];rfl
def aJc{a b:List Nat}(ha:Lim a)(hb:Lim b){i:Nat}(h1:a.length<=i)(h2:b.length<=i):(plS a b (i+1)).2=0:=by have h:=(oP ha hb i).2.1;show((plS a b i).2+a.getD i 0+b.getD i 0)/4294967296=0;rw[getD_none (l:=a) (by omega),getD_none (l:=b) (by omega)];omega
def aQl{a b:List Nat}(ha:Lim a)(hb:Lim b){i:Nat}(h1:a.length<=i)(h2:b.length<=i)(hc:(plS a b i).2=0):val (plS a b i).1=val a+val b:=by have h:=(oP ha hb i).2.2.2;rw[Ai h1,Ai h2,hc,Dh,Ce]at h;exact h
def bCh{a b:List Nat}(ha:Lim a)(hb:Lim b):val (aEy a b)=val a+val b/\Lim (aEy a b)/\(aEy a b).length<=max a.length b.length+1:=by
 unfold aEy plN;have h1:a.length<=max a.length b.length:=by omega
 have h2:b.length<=max a.length b.length:=by omega
 generalize max a.length b.length=M at *;by_cases hc:(plS a b M).2=0
 ·rw[Ad hc];have h:=oP ha hb M;exact⟨aQl ha hb h1 h2 hc,h.2.2.1,by rw[h.1];omega⟩
 ·rw[Ac hc];have h:=oP ha hb (M+1);exact⟨aQl ha hb (by omega) (by omega) (aJc ha hb h1 h2),h.2.2.1,by rw[h.1];exact Ap _⟩
def getD_some{l:List Nat}{i:Nat}(h:i<l.length):l[i]? = some (l.getD i 0):=by rw[Af,Ab h];rfl
def bQs(a b:List Nat)(ha:Lim a)(hb:Lim b)(hla:a.length<=1099511627776)(hlb:b.length<=1099511627776):Spec Aa 97 [aM a,aM b] (aM (aEy a b)):=by
 refine bF (N:=55) Tryz.func97 ?_;simp[-C,-I,↓KW,aM];refine aP (λi:Nat=>i<=max a.length b.length\/(i=max a.length b.length+1/\(plS a b (max a.length b.length)).2≠0))
  (λi=>StL [(0,.d (aM a)),(1,.d (aM b)),(5,.own 1 0 i 1),(6,.d (.i .u64 (plS a b i).2)),(7,.d (.i .i64 i))] none [.cells 101 ((lms (plS a b i).1).map .d)]) (λi=>max a.length b.length+1-i) 0 (.inl (Al _)) ?_ ?_
 ·refine wkQ [1] ?_ ?_<;>simp[-C,upd,aO,Γ0,aM,plS,lms]
 ·intro i hi;obtain⟨hlen,hc,_,_⟩:=oP ha hb i;have hsucc:plS a b (i+1)=((plS a b i).1++[((plS a b i).2+a.getD i 0+b.getD i 0)%4294967296],((plS a b i).2+a.getD i 0+b.getD i 0)/4294967296):=rfl;have hstop:(i<a.length\/i<b.length\/0<(plS a b i).2)\/i=plN a b:=by
   unfold plN;rcases hi with hi|⟨hi,hc⟩
   ·by_cases h1:i=max a.length b.length
    ·subst h1;by_cases h2:(plS a b (max a.length b.length)).2=0
     ·rw[Ad h2];exact .inr rfl
     ·exact .inl (.inr (.inr (by omega)))
    ·exact .inl (by omega)
   ·rw[Ac hc];exact .inr hi
  have hnext:(i<a.length\/i<b.length\/0<(plS a b i).2)->i<=max a.length b.length/\(i+1<=max a.length b.length\/(i+1=max a.length b.length+1/\(plS a b (max a.length b.length)).2≠0)):=by
   intro h;rcases hi with hi|⟨hi,hc2⟩
   ·refine⟨hi,?_⟩;by_cases h1:i=max a.length b.length
    ·subst h1;exact .inr ⟨rfl,by omega⟩
    ·exact .inl (by omega)
   ·exfalso;have e:(plS a b i).2=0:=by rw[hi];exact aJc ha hb (by omega) (by omega)
    omega
  have hal:=ha.getD i;have hbl:=hb.getD i;have hres:i=plN a b->(plS a b i).1=aEy a b:=λe=>by rw[e];rfl
  generalize hout:(plS a b i).1=out at *;generalize hcar:(plS a b i).2=c at *;by_cases hgo:i<a.length\/i<b.length\/0<c
  ·obtain⟨hi1,hi2⟩:=hnext hgo;have hb1:(i+1)*4<=140737488355328:=by omega
   have hb2:i+1<=maxLen:=by unfold maxLen;omega
   have hw7:Ag.wrap ((i:Int)+1)=(i:Int)+1:=aV;have hpos:(0:Int)<=i:=by omega
   obtain⟨s1,hs1⟩:∃s1:Nat,c+a.getD i 0=s1:=⟨_,rfl⟩;obtain⟨s2,hs2⟩:∃s2:Nat,s1+b.getD i 0=s2:=⟨_,rfl⟩;rw[hs1,hs2]at hsucc;have hw1:A1.wrap ((c:Int)+((a.getD i 0:Nat):Int))=s1:=by rw[bU (by omega) (by omega)];omega
   have hw2:A1.wrap ((s1:Int)+((b.getD i 0:Nat):Int))=s2:=by rw[bU (by omega) (by omega)];omega
   have hwa:A1.wrap ((a.getD i 0:Nat):Int)=((a.getD i 0:Nat):Int):=bU (by omega) (by omega);have hwb:A1.wrap ((b.getD i 0:Nat):Int)=((b.getD i 0:Nat):Int):=bU (by omega) (by omega);obtain⟨lo,hlo⟩:∃lo:Nat,s2%4294967296=lo:=⟨_,rfl⟩;obtain⟨hi',hhi⟩:∃hi':Nat,s2/4294967296=hi':=⟨_,rfl⟩;have hw3:Cr.wrap (s2:Int)=lo:=by rw[jF];omega
   have hw4:A1.wrap ((s2:Int).tdiv 4294967296)=hi':=by rw[Int.tdiv_eq_ediv_of_nonneg (by omega),bU (by omega) (by omega)];omega
   have hw4':A1.wrap ((s2:Int)/4294967296)=hi':=by rw[bU (by omega) (by omega)];omega
   rw[hlo,hhi]at hsucc;have hcase:(a.getD i 0=0/\¬i<a.length)\/i<a.length:=by
    by_cases h:i<a.length
    ·exact .inr h
    ·exact .inl ⟨getD_none h,h⟩
   have hcase2:(b.getD i 0=0/\¬i<b.length)\/i<b.length:=by
    by_cases h:i<b.length
    ·exact .inr h
    ·exact .inl ⟨getD_none h,h⟩
   rcases hcase with ⟨ha0,han⟩|han<;>rcases hcase2 with ⟨hb0,hbn⟩|hbn
   ·have q1:¬(i:Int)<a.length:=by omega
    have q2:¬(i:Int)<b.length:=by omega
    have q3:0<c:=by omega
    rw[ha0]at hs1;rw[hb0]at hs2;have e2:s2=c:=by omega
    rw[e2]at hw3 hw4 hw4';simp[-C,-I,↓KW,aM,q1,q2,q3,hw3,hw4,hw7,hb1,hb2,hlen];refine aI (i+1) hi2 ?_ (wkQ [3] ?_ ?_)
    ·omega
    ·simp[-C,upd,aO,Γ0,aM,hsucc,iG,iL,hw4']
    ·simp[-C,upd,aO,Γ0,aM,hsucc,iG,iL]
   ·have q1:¬(i:Int)<a.length:=by omega
    have q2:(i:Int)<b.length:=by omega
    rw[ha0]at hs1;have e1:s1=c:=by omega
    have g2:=getD_some hbn;rw[e1]at hw2;generalize b.getD i 0=y at *;simp[-C,-I,↓KW,aM,q1,q2,g2,hwb,hw2,hw3,hw4,hw7,hb1,hb2,hlen];refine aI (i+1) hi2 ?_ (wkQ [3] ?_ ?_)
    ·omega
    ·simp[-C,upd,aO,Γ0,aM,hsucc,iG,iL,hw4']
    ·simp[-C,upd,aO,Γ0,aM,hsucc,iG,iL]
   ·have q1:(i:Int)<a.length:=by omega
    have q2:¬(i:Int)<b.length:=by omega
    rw[hb0]at hs2;have e2:s2=s1:=by omega
    have g1:=getD_some han;rw[e2]at hw3 hw4 hw4';generalize a.getD i 0=x at *;simp[-C,-I,↓KW,aM,q1,q2,g1,hwa,hw1,hw3,hw4,hw7,hb1,hb2,hlen];refine aI (i+1) hi2 ?_ (wkQ [3] ?_ ?_)
    ·omega
    ·simp[-C,upd,aO,Γ0,aM,hsucc,iG,iL,hw4']
    ·simp[-C,upd,aO,Γ0,aM,hsucc,iG,iL]
   ·have q1:(i:Int)<a.length:=by omega
    have q2:(i:Int)<b.length:=by omega
    have g1:=getD_some han;have g2:=getD_some hbn;generalize a.getD i 0=x at *;generalize b.getD i 0=y at *;simp[-C,-I,↓KW,aM,q1,q2,g1,g2,hwa,hwb,hw1,hw2,hw3,hw4,hw7,hb1,hb2,hlen];refine aI (i+1) hi2 ?_ (wkQ [3] ?_ ?_)
    ·omega
    ·simp[-C,upd,aO,Γ0,aM,hsucc,iG,iL,hw4']
    ·simp[-C,upd,aO,Γ0,aM,hsucc,iG,iL]
  ·have e:=hstop.resolve_left hgo;have h1:¬(i:Int)<a.length:=by omega
   have h2:¬(i:Int)<b.length:=by omega
   have h3:c=0:=by omega
   have h4:=hres e;subst h3;simp[-C,-I,↓KW,aM,h1,h2,hlen,iB hlen,fE hlen,<-h4]
def miS(a b:List Nat):Nat->List Nat×Nat
 |0=>([],0)
 |i+1=>if(miS a b i).2+b.getD i 0<=a.getD i 0 then((miS a b i).1++[a.getD i 0-((miS a b i).2+b.getD i 0)],0)else((miS a b i).1++[a.getD i 0+4294967296-((miS a b i).2+b.getD i 0)],1)
def aJt{p o vb va x y c z:Nat}(h4:o+vb=va+p*c)(hx:x=z+(c+y)):o+p*z+(vb+p*y)=va+p*x:=by subst hx;rw[Cq,Cq];omega
def bDb{p o vb va x y c z k:Nat}(h4:o+vb=va+p*c)(hx:x+k=z+(c+y)):o+p*z+(vb+p*y)=va+p*x+p*k:=by have:=aJt (p:=p) (x:=x+k) h4 hx;rw[Cq]at this;omega
def bRz{p va vb i:Nat}{out:List Nat}{c x y z:Nat}(hz:x=z+(c+y))(hl:z<4294967296)(h1:out.length=i)(hp:4294967296^i=p)(h3:Lim out)(h4:val out+vb=va+p*c) :
  (out++[z]).length=i+1/\Lim (out++[z])/\val (out++[z])+(vb+p*y)=va+p*x:=by
 refine⟨by simp[h1],h3.app (.one hl),?_⟩
 simp only[oM,val,Dh,Ce,h1,hp]
 exact aJt h4 hz
def bSa{p va vb i:Nat}{out:List Nat}{c x y z k:Nat}(hz:x+k=z+(c+y))(hl:z<4294967296)(h1:out.length=i)(hp:4294967296^i=p)(h3:Lim out)(h4:val out+vb=va+p*c) :
  (out++[z]).length=i+1/\Lim (out++[z])/\val (out++[z])+(vb+p*y)=va+p*x+p*k:=by
 refine⟨by simp[h1],h3.app (.one hl),?_⟩
 simp only[oM,val,Dh,Ce,h1,hp]
 exact bDb h4 hz
def aRm(a b:List Nat)(i:Nat):miS a b (i+1)=if(miS a b i).2+b.getD i 0<=a.getD i 0 then((miS a b i).1++[a.getD i 0-((miS a b i).2+b.getD i 0)],0)else((miS a b i).1++[a.getD i 0+4294967296-((miS a b i).2+b.getD i 0)],1):=rfl
def bNn{a b:Nat}(q:Nat)(h:a=b):a=b+q*0:=by rw[Dh,Ce];exact h
def bNm{a b:Nat}(q:Nat)(h:a=b+q):a=b+q*1:=by rw[DE];exact h
def aMp{a b:List Nat}(ha:Lim a)(hb:Lim b)(i:Nat):(miS a b i).1.length=i/\(miS a b i).2<=1/\Lim (miS a b i).1/\val (miS a b i).1+val (b.take i)=val (a.take i)+4294967296^i*(miS a b i).2:=by
 induction i with
 |zero=>exact⟨rfl,Al _,.nil,by simp[miS,val]⟩
 |succ i ih =>
  obtain⟨h1,h2,h3,h4⟩:=ih;have hx:=ha.getD i;have hy:=hb.getD i;rw[eA,eA,Cp,aRm];generalize(miS a b i).1=out at *;generalize(miS a b i).2=c at *;generalize a.getD i 0=x at *;generalize b.getD i 0=y at *;generalize hp:4294967296^i=p at *;by_cases h:c+y<=x
  ·rw[Ad h];obtain⟨z,hz,hz'⟩:∃z,x-(c+y)=z/\x=z+(c+y):=⟨_,rfl,(Nat.sub_add_cancel h).symm⟩;rw[hz];clear hz;obtain⟨q1,q2,q3⟩:=bRz hz' (by omega) h1 hp h3 h4;exact⟨q1,Al _,q2,bNn _ q3⟩
  ·rw[Ac h];obtain⟨z,hz,hz'⟩:∃z,x+4294967296-(c+y)=z/\x+4294967296=z+(c+y):=⟨_,rfl,(Nat.sub_add_cancel (by omega)).symm⟩;rw[hz];clear hz;obtain⟨q1,q2,q3⟩:=bSa hz' (by omega) h1 hp h3 h4;exact⟨q1,Ap _,q2,bNm _ q3⟩
def qU(a b:List Nat):List Nat:=(miS a b a.length).1
def sF{a b:List Nat}(ha:Lim a)(hb:Lim b)(hl:b.length<=a.length)(hv:val b<=val a):val (qU a b)=val a-val b/\Lim (qU a b)/\(qU a b).length=a.length:=by
 obtain⟨h1,h2,h3,h4⟩:=aMp ha hb a.length;rw[Ai hl,Ai (Ap _)]at h4;refine⟨?_,h3,h1⟩;have hlt:=tP h3;rw[h1]at hlt;unfold qU;generalize(miS a b a.length).1=out at *;generalize(miS a b a.length).2=c at *;rcases Bf 0 c with hc|hc
 ·have:c=1:=by omega
  rw[this,DE]at h4;omega
 ·have:c=0:=by omega
  rw[this,Dh]at h4;omega
def aQf(a b:List Nat)(ha:Lim a)(hb:Lim b)(hla:a.length<=1099511627776)(_hlb:b.length<=1099511627776):Spec Aa 99 [aM a,aM b] (aM (qU a b)):=by
 refine bF (N:=44) Tryz.func99 ?_;simp[-C,-I,↓KW,aM];refine aP (λi:Nat=>i<=a.length)
  (λi=>StL [(0,.d (aM a)),(1,.d (aM b)),(5,.own 1 0 i 1),(6,.d (.i .i64 (miS a b i).2)),(7,.d (.i .i64 i))] none [.cells 101 ((lms (miS a b i).1).map .d)]) (λi=>a.length-i) 0 (Al _) ?_ ?_
 ·refine wkQ [1] ?_ ?_<;>simp[-C,upd,aO,Γ0,aM,miS,lms]
 ·intro i hi;obtain⟨hlen,hc,_,_⟩:=aMp ha hb i;have hsucc:miS a b (i+1)=if(miS a b i).2+b.getD i 0<=a.getD i 0 then((miS a b i).1++[a.getD i 0-((miS a b i).2+b.getD i 0)],0)else((miS a b i).1++[a.getD i 0+4294967296-((miS a b i).2+b.getD i 0)],1):=rfl
  have hal:=ha.getD i;have hbl:=hb.getD i;have hres:i=a.length->(miS a b i).1=qU a b:=λe=>by rw[e];rfl
  generalize hout:(miS a b i).1=out at *;generalize hcar:(miS a b i).2=c at *;by_cases hgo:i<a.length
  ·have hb1:(i+1)*4<=140737488355328:=by omega
   have hb2:i+1<=maxLen:=by unfold maxLen;omega
   have hw7:Ag.wrap ((i:Int)+1)=(i:Int)+1:=aV;have q1:(i:Int)<a.length:=by omega
   have g1:=getD_some hgo;have hb0:¬i<b.length->b.getD i 0=0:=getD_none;have g2:i<b.length->b[i]? = some (b.getD i 0):=getD_some;generalize a.getD i 0=x at *;generalize b.getD i 0=y at *;have hwx:Ag.wrap (x:Int)=x:=aV;have hwy:Ag.wrap (y:Int)=y:=aV;obtain⟨d1,hd1⟩:∃d1:Int,(x:Int)-c=d1:=⟨_,rfl⟩;obtain⟨d,hd⟩:∃d:Int,d1-y=d:=⟨_,rfl⟩;have hw1:Ag.wrap ((x:Int)-c)=d1:=by rw[aV];exact hd1
   have hw2:Ag.wrap (d1-y)=d:=by rw[aV];exact hd
   by_cases hneg:d<0
   ·rw[Ac (by omega)]at hsucc;obtain⟨lo,hlo⟩:∃lo:Nat,x+4294967296-(c+y)=lo:=⟨_,rfl⟩;rw[hlo]at hsucc;have hw3:Ag.wrap (d+4294967296)=lo:=by rw[aV];omega
    have hw4:Cr.wrap (lo:Int)=lo:=kP (by omega) (by omega);by_cases hbn:i<b.length
    ·have q2:(i:Int)<b.length:=by omega
     have g3:=g2 hbn;simp[-C,-I,↓KW,aM,q1,q2,g1,g3,hwx,hwy,hw1,hw2,hw3,hw4,hneg,hw7,hb1,hb2,hlen];refine aI (i+1) hgo ?_ (wkQ [3] ?_ ?_)
     ·omega
     ·simp[-C,upd,aO,Γ0,aM,hsucc,iG,iL]
     ·simp[-C,upd,aO,Γ0,aM,hsucc,iG,iL]
    ·have q2:¬(i:Int)<b.length:=by omega
     have e1:d1=d:=by have:=hb0 hbn;omega
     rw[e1]at hw1;simp[-C,-I,↓KW,aM,q1,q2,g1,hwx,hw1,hw3,hw4,hneg,hw7,hb1,hb2,hlen];refine aI (i+1) hgo ?_ (wkQ [3] ?_ ?_)
     ·omega
     ·simp[-C,upd,aO,Γ0,aM,hsucc,iG,iL]
     ·simp[-C,upd,aO,Γ0,aM,hsucc,iG,iL]
   ·rw[Ad (by omega)]at hsucc;obtain⟨lo,hlo⟩:∃lo:Nat,x-(c+y)=lo:=⟨_,rfl⟩;rw[hlo]at hsucc;have e0:d=lo:=by omega
    rw[e0]at hw2 hneg;have hw4:Cr.wrap (lo:Int)=lo:=kP (by omega) (by omega);by_cases hbn:i<b.length
    ·have q2:(i:Int)<b.length:=by omega
     have g3:=g2 hbn;simp[-C,-I,↓KW,aM,q1,q2,g1,g3,hwx,hwy,hw1,hw2,hw4,hneg,hw7,hb1,hb2,hlen];refine aI (i+1) hgo ?_ (wkQ [3] ?_ ?_)
     ·omega
     ·simp[-C,upd,aO,Γ0,aM,hsucc,iG,iL]
     ·simp[-C,upd,aO,Γ0,aM,hsucc,iG,iL]
    ·have q2:¬(i:Int)<b.length:=by omega
     have e1:d1=lo:=by have:=hb0 hbn;omega
     rw[e1]at hw1;simp[-C,-I,↓KW,aM,q1,q2,g1,hwx,hw1,hw4,hneg,hw7,hb1,hb2,hlen];refine aI (i+1) hgo ?_ (wkQ [3] ?_ ?_)
     ·omega
     ·simp[-C,upd,aO,Γ0,aM,hsucc,iG,iL]
     ·simp[-C,upd,aO,Γ0,aM,hsucc,iG,iL]
  ·have e:i=a.length:=by omega
   have h1:¬(i:Int)<a.length:=by omega
   have h4:=hres e;simp[-C,-I,↓KW,aM,h1,hlen,iB hlen,fE hlen,<-h4]
def sB(x y:Int)(hx:(aU x.natAbs).length<=549755813888)(hy:(aU y.natAbs).length<=549755813888):Spec Aa 76 [encZ x,encZ y] (encZ (x+y)):=by
 refine bF (N:=39) Tryz.func76 ?_;have la:=cY x.natAbs;have lb:=cY y.natAbs;have va:=dS x.natAbs;have vb:=dS y.natAbs;have hless:(aU x.natAbs).length<(aU y.natAbs).length->x.natAbs<y.natAbs:=kI;have hless2:(aU y.natAbs).length<(aU x.natAbs).length->y.natAbs<x.natAbs:=kI;have hl:=aDe _ _ la lb (by omega) (by omega);rw[lB]at hl;have sx:=jH x;have sy:=jH y;have ex:encZ x=.ag [.b (decide (x<0)),aM (aU x.natAbs)]:=rfl;have ey:encZ y=.ag [.b (decide (y<0)),aM (aU y.natAbs)]:=rfl;rw[ex,ey];generalize aU x.natAbs=a at *;generalize aU y.natAbs=b at *;generalize hbx:decide (x<0)=nx at *;generalize hby:decide (y<0)=ny at *;by_cases hn:nx=ny
 ·have h1:(nx==ny)=true:=by simpa using hn
  simp[-C,-I,↓KW,aM,h1];obtain⟨pv,pl,pn⟩:=bCh la lb;refine aJ (bQs a b la lb (by omega) (by omega)) ?_;simp[-C,-I,↓KW,aM];have hm:=iF (aEy a b) nx (by omega);rw[fA pl,pv,va,vb]at hm;refine aJ hm ?_;have e:sg nx (x.natAbs+y.natAbs)=x+y:=by rw[<-sx,<-sy,<-hn];cases nx<;>simp[sg]<;>omega
  rw[e];simp[-C,-I,↓KW,aM,encZ,encI]
 ·have h1:(nx==ny)=false:=by simpa using hn
  simp[-C,-I,↓KW,aM,h1];refine aJ hl ?_;by_cases hlt:x.natAbs<y.natAbs
  ·simp[-C,-I,↓KW,aM,hlt];obtain⟨pv,pl,pn⟩:=sF lb la (by omega) (by omega);refine aJ (aQf b a lb la (by omega) (by omega)) ?_;simp[-C,-I,↓KW,aM];have hm:=iF (qU b a) ny (by omega);rw[fA pl,pv,va,vb]at hm;refine aJ hm ?_;have e:sg ny (y.natAbs-x.natAbs)=x+y:=by rw[<-sx,<-sy];cases nx<;>cases ny<;>simp[sg]at hn ⊢<;>omega
   rw[e];simp[-C,-I,↓KW,aM,encZ,encI]
  ·simp[-C,-I,↓KW,aM,hlt];obtain⟨pv,pl,pn⟩:=sF la lb (by omega) (by omega);refine aJ (aQf a b la lb (by omega) (by omega)) ?_;simp[-C,-I,↓KW,aM];have hm:=iF (qU a b) nx (by omega);rw[fA pl,pv,va,vb]at hm;refine aJ hm ?_;have e:sg nx (x.natAbs-y.natAbs)=x+y:=by rw[<-sx,<-sy];cases nx<;>cases ny<;>simp[sg]at hn ⊢<;>omega
   rw[e];simp[-C,-I,↓KW,aM,encZ,encI]
def aLl{l:List Nat}{j:Nat}(h:j<l.length)(v:Nat):val (l.set j v)+4294967296^j*l.getD j 0=val l+4294967296^j*v:=by
 induction l generalizing j with
 |nil=>simp at h
 |cons x l ih =>
  cases j with
  |zero=>simp only[CW,val,Nat.pow_zero,CZ,List.getD_cons_zero];omega
  |succ j =>
   have:=ih (j:=j) (by simpa using h);simp only[F4,val,List.getD_cons_succ,Cp];generalize 4294967296^j=p at *;generalize l.getD j 0=o at *;generalize val (l.set j v)=w at *;rw[Ci p,Ck,Ck];generalize p*o=e1 at *;generalize p*v=e2 at *;omega
def muI(out:List Nat)(x:Nat)(b:List Nat)(i:Nat):Nat->List Nat×Nat
 |0=>(out,0)
 |k+1=>((muI out x b i k).1.set (i+k) (((muI out x b i k).2+(muI out x b i k).1.getD (i+k) 0+x*b.getD k 0)%4294967296),((muI out x b i k).2+(muI out x b i k).1.getD (i+k) 0+x*b.getD k 0)/4294967296)
def muN(out:List Nat)(x:Nat)(b:List Nat)(i:Nat):Nat:=if(muI out x b i b.length).2=0 then b.length else b.length+1
def muO(a b:List Nat):Nat->List Nat
 |0=>AB (a.length+b.length+1) 0
 |i+1=>(muI (muO a b i) (a.getD i 0) b i (muN (muO a b i) (a.getD i 0) b i)).1
def bJd{P v v' o c t q r e w k:Nat}(hs:v'+P*o=v+P*r)(ht:r+k*q=t)(ht2:c+o+e=t)(hv:v+P*c=w):v'+P*k*q=w+P*e:=by
 have h1:P*t=P*r+P*(k*q):=by rw[<-ht,Cq]
 have h2:P*t=P*c+P*o+P*e:=by rw[<-ht2,Cq,Cq]
 rw[Ck];omega
def aVk{c o x y:Nat}(hc:c<4294967296)(ho:o<4294967296)(hx:x<4294967296)(hy:y<4294967296):c+o+x*y<18446744073709551616:=by have:x*y<=4294967295*4294967295:=Cs (by omega) (by omega);omega
def vT{out b:List Nat}{x i:Nat}(ho:Lim out)(hb:Lim b)(hx:x<4294967296)(hl:i+b.length<out.length)(k:Nat)(hk:k<=b.length+1) :
  (muI out x b i k).1.length=out.length/\(muI out x b i k).2<4294967296/\Lim (muI out x b i k).1/\val (muI out x b i k).1+4294967296^(i+k)*(muI out x b i k).2=val out+4294967296^i*(x*val (b.take k)):=by
 induction k with
 |zero=>exact⟨rfl,Nat.zero_lt_of_lt hx,ho,by simp[muI,val]⟩
 |succ k ih =>
  obtain⟨h1,h2,h3,h4⟩:=ih (by omega)
  have hy:=hb.getD k
  have hoo:=h3.getD (i+k)
  have hset:=aLl (l:=(muI out x b i k).1) (j:=i+k) (by omega) (((muI out x b i k).2+(muI out x b i k).1.getD (i+k) 0+x*b.getD k 0)%4294967296)
  have hlim:=aVk h2 hoo hx hy
  rw[eA]
  simp only[muI]
  generalize(muI out x b i k).1=out' at *
  generalize(muI out x b i k).2=c at *
  generalize out'.getD (i+k) 0=o at *
  generalize b.getD k 0=y at *
  refine⟨by simp[h1],by omega,h3.set _ (by omega),?_⟩
  have:=bJd hset (Nat.mod_add_div _ _) rfl h4
  rw[<-Ed i k 1,Cp,this,CA,Cq,Cq,Ck,Ed]
  congr 2
  rw[Ea x]
def aRk{out b:List Nat}{x i:Nat}(ho:Lim out)(hb:Lim b)(hx:x<4294967296)(hl:i+b.length<out.length)(hv:val out<4294967296^(i+b.length)):(muI out x b i (b.length+1)).2=0:=by
 obtain⟨_,_,_,h4⟩:=vT ho hb hx hl (b.length+1) (Ap _);rw[Ai (by omega)]at h4;have hbv:=tP hb;rcases Cb (muI out x b i (b.length+1)).2 with h|h
 ·exact h
 exfalso;have e1:4294967296^(i+(b.length+1))*1<=4294967296^(i+(b.length+1))*(muI out x b i (b.length+1)).2:=BE _ h;have e2:x*val b<=4294967295*4294967296^b.length:=Cs (by omega) (by omega);have e3:4294967296^i*(x*val b)<=4294967296^i*(4294967295*4294967296^b.length):=BE _ e2;have e4:4294967296^i*(4294967295*4294967296^b.length)=4294967295*4294967296^(i+b.length):=by rw[CA,Ea]
 have e5:4294967296^(i+(b.length+1))=4294967296^(i+b.length)*4294967296:=by rw[<-Ed,Cp]
 rw[DE,e5]at e1;rw[e5]at h4;rw[e4]at e3;generalize 4294967296^(i+b.length)=p at *;generalize 4294967296^i*(x*val b)=q at *;generalize(muI out x b i (b.length+1)).2=c at *;generalize p*4294967296*c=d at *;omega
def bRv{out b:List Nat}{x i:Nat}(ho:Lim out)(hb:Lim b)(hx:x<4294967296)(hl:i+b.length<out.length)(hv:val out<4294967296^(i+b.length)) :
  (muI out x b i (muN out x b i)).1.length=out.length/\Lim (muI out x b i (muN out x b i)).1/\val (muI out x b i (muN out x b i)).1=val out+4294967296^i*(x*val b):=by
 unfold muN
 have hstop:=aRk ho hb hx hl hv
 by_cases h:(muI out x b i b.length).2=0
 ·rw[Ad h]
  obtain⟨h1,_,h3,h4⟩:=vT ho hb hx hl b.length (by omega)
  rw[Ai (by omega),h,Dh,Ce]at h4
  exact⟨h1,h3,h4⟩
 ·rw[Ac h]
  obtain⟨h1,_,h3,h4⟩:=vT ho hb hx hl (b.length+1) (Ap _)
  rw[Ai (by omega),hstop,Dh,Ce]at h4
  exact⟨h1,h3,h4⟩
def aVl{a b:List Nat}(ha:Lim a)(hb:Lim b){i:Nat}(hi:i<=a.length):val (a.take i)*val b<4294967296^(i+b.length):=by have h1:=tP (ha.take i);rw[Ax,BR hi]at h1;have h2:=tP hb;rw[CA];exact Nat.mul_lt_mul'' h1 h2
def bRu{a b:List Nat}(ha:Lim a)(hb:Lim b)(i:Nat)(hi:i<=a.length):(muO a b i).length=a.length+b.length+1/\Lim (muO a b i)/\val (muO a b i)=val (a.take i)*val b:=by
 induction i with
 |zero=>exact⟨by simp[muO],.rep _,by simp[muO,aCw,val]⟩
 |succ i ih =>
  obtain⟨h1,h2,h3⟩:=ih (by omega);have hv:=aVl ha hb (i:=i) (by omega);rw[<-h3]at hv;obtain⟨q1,q2,q3⟩:=bRv (x:=a.getD i 0) (i:=i) h2 hb (ha.getD i) (by omega) hv;refine⟨q1.trans h1,q2,?_⟩;show val (muI (muO a b i) (a.getD i 0) b i (muN (muO a b i) (a.getD i 0) b i)).1=_;rw[q3,h3,eA,By,Ck]
def qI(x y:Int)(hx:(aU x.natAbs).length<=137438953472)(hy:(aU y.natAbs).length<=137438953472):Spec Aa 57 [encZ x,encZ y] (encZ (x*y)):=by
 refine bF (N:=81) Tryz.func57 ?_;have la:=cY x.natAbs;have lb:=cY y.natAbs;have va:=dS x.natAbs;have vb:=dS y.natAbs;have sx:=jH x;have sy:=jH y;have ex:encZ x=.ag [.b (decide (x<0)),aM (aU x.natAbs)]:=rfl;have ey:encZ y=.ag [.b (decide (y<0)),aM (aU y.natAbs)]:=rfl;rw[ex,ey];generalize aU x.natAbs=a at *;generalize aU y.natAbs=b at *;generalize hbx:decide (x<0)=nx at *;generalize hby:decide (y<0)=ny at *;obtain⟨n,hn⟩:∃n,a.length+b.length+1=n:=⟨_,rfl⟩;have hw1:Ag.wrap ((a.length:Int)+b.length)=(a.length:Int)+b.length:=aV;have hw2:Ag.wrap ((a.length:Int)+b.length+1)=(n:Int):=by rw[aV];omega
 have hm1:(4:Int)*n<=281474976710656:=by omega
 have hm2:(n:Int)<=9223372036854775807:=by omega
 have h00:muO a b 0=AB n 0:=by rw[<-hn];rfl
 simp[-C,-I,↓KW,aM,hw1,hw2,hm1,hm2];refine aP (λi:Nat=>i<=a.length)
  (λi=>StL [(2,.ptr 1 0),(3,.ptr 2 0),(4,.ptr 3 0),(5,.own 4 0 n 1),(6,.d (.i .i64 i))] none
   [.cells 72 [.d (.b nx),.d (aM a)],.cells 72 [.d (.b ny),.d (aM b)],.cells 72 [.d (.b false),.nil],.cells 101 ((lms (muO a b i)).map .d)]) (λi=>a.length-i) 0 (Al _) ?_ ?_
 ·refine wkQ [1,2,3,4] ?_ ?_<;>simp[-C,upd,aO,Γ0,aM,h00]
 ·intro i hi;obtain⟨ol,om,ov⟩:=bRu la lb i hi;rw[hn]at ol;by_cases hgo:i<a.length
  ·have q1:(i:Int)<a.length:=by omega
   simp[-C,-I,↓KW,aM,q1];have hsucc:muO a b (i+1)=(muI (muO a b i) (a.getD i 0) b i (muN (muO a b i) (a.getD i 0) b i)).1:=rfl;have g1:=getD_some hgo;have hlt:=aVl la lb hi;rw[<-ov]at hlt;generalize hout:muO a b i=out at *;have hal:=la.getD i;generalize a.getD i 0=xv at *;have hwx:A1.wrap (xv:Int)=xv:=bU (by omega) (by omega);refine aP (λk:Nat=>k<=b.length\/(k=b.length+1/\(muI out xv b i b.length).2≠0))
    (λk=>StL [(2,.ptr 1 0),(3,.ptr 2 0),(4,.ptr 3 0),(5,.own 4 0 n 1),(6,.d (.i .i64 i)),(7,.d (.i .u64 (muI out xv b i k).2)),(8,.d (.i .i64 k))] none
     [.cells 72 [.d (.b nx),.d (aM a)],.cells 72 [.d (.b ny),.d (aM b)],.cells 72 [.d (.b false),.nil],.cells 101 ((lms (muI out xv b i k).1).map .d)]) (λk=>b.length+1-k) 0 (.inl (Al _)) ?_ ?_
   ·refine wkQ [1,2,3,4] ?_ ?_<;>simp[-C,upd,aO,Γ0,aM,muI]
   ·intro k hk;have hkl:k<=b.length+1:=by omega
    obtain⟨il,ic,im,_⟩:=vT om lb hal (i:=i) (by omega) k hkl;have isucc:muI out xv b i (k+1)=((muI out xv b i k).1.set (i+k) (((muI out xv b i k).2+(muI out xv b i k).1.getD (i+k) 0+xv*b.getD k 0)%4294967296),((muI out xv b i k).2+(muI out xv b i k).1.getD (i+k) 0+xv*b.getD k 0)/4294967296):=rfl;have hstop0:=aRk om lb hal (i:=i) (by omega) hlt;have hres:(k<b.length\/0<(muI out xv b i k).2)\/muO a b (i+1)=(muI out xv b i k).1:=by
     rw[hsucc];unfold muN;rcases hk with hk|⟨hk,hc⟩
     ·by_cases h1:k=b.length
      ·subst h1;by_cases h2:(muI out xv b i b.length).2=0
       ·rw[Ad h2];exact .inr rfl
       ·exact .inl (.inr (by omega))
      ·exact .inl (.inl (by omega))
     ·rw[Ac hc,hk];exact .inr rfl
    have hnext:(k<b.length\/0<(muI out xv b i k).2)->k<=b.length/\(k+1<=b.length\/(k+1=b.length+1/\(muI out xv b i b.length).2≠0)):=by
     intro h;rcases hk with hk|⟨hk,hc⟩
     ·refine⟨hk,?_⟩;by_cases h1:k=b.length
      ·subst h1;exact .inr ⟨rfl,by omega⟩
      ·exact .inl (by omega)
     ·rw[hk,hstop0]at h;omega
    clear hstop0 hsucc;have ho:=im.getD (i+k);generalize hcar:(muI out xv b i k).2=c at *;generalize hcur:(muI out xv b i k).1=cur at *;by_cases hg2:k<b.length\/0<c
    ·obtain⟨n1,n2⟩:=hnext hg2;obtain⟨j,hj⟩:∃j,i+k=j:=⟨_,rfl⟩;rw[hj]at isucc ho;have hjl:j<cur.length:=by omega
     have g2:=aZg (getD_some hjl);have hwj:Ag.wrap ((i:Int)+k)=j:=by rw[aV];omega
     have hjn:(j:Int)<n:=by omega
     have hw8:Ag.wrap ((k:Int)+1)=(k:Int)+1:=aV;have hjl2:j<(lms cur).length:=by rw[nK];exact hjl
     have hjl3:j+1<=n:=by omega
     have hyb:=lb.getD k;have hlim:=aVk ic ho hal hyb;have hy0:¬k<b.length->b.getD k 0=0:=getD_none;have g3:k<b.length->b[k]? = some (b.getD k 0):=getD_some;generalize cur.getD j 0=o at *;generalize b.getD k 0=yv at *;obtain⟨s1,hs1⟩:∃s1:Nat,c+o=s1:=⟨_,rfl⟩;obtain⟨t,ht⟩:∃t:Nat,s1+xv*yv=t:=⟨_,rfl⟩;rw[hs1]at isucc hlim;rw[ht]at isucc hlim;obtain⟨lo,hlo⟩:∃lo:Nat,t%4294967296=lo:=⟨_,rfl⟩;obtain⟨hi',hhi⟩:∃hi':Nat,t/4294967296=hi':=⟨_,rfl⟩;rw[hlo,hhi]at isucc;have hwo:A1.wrap (o:Int)=o:=bU (by omega) (by omega);have hws:A1.wrap ((c:Int)+o)=s1:=by rw[bU (by omega) (by omega)];omega
     have hwlo:Cr.wrap (t:Int)=lo:=by rw[jF];omega
     have hwhi:A1.wrap ((t:Int)/4294967296)=hi':=by rw[bU (by omega) (by omega)];omega
     have hlay:lay (AQ AV.d (lms cur)) j [AV.d (D.i .u32 (lo:Int))]=AQ AV.d (lms (cur.set j lo)):=by rw[oQ _ _ _ hjl2,zC]
     have hgj:List.length cur=n:=by omega
     by_cases hkb:k<b.length
     ·have q2:(k:Int)<b.length:=by omega
      have g4:=g3 hkb;have hwy:A1.wrap (yv:Int)=yv:=bU (by omega) (by omega);obtain⟨e,he⟩:∃e:Nat,xv*yv=e:=⟨_,rfl⟩;rw[he]at ht;have hwm:A1.wrap ((xv:Int)*yv)=e:=by rw[<-FM,he,bU (by omega) (by omega)]
      have hwt:A1.wrap ((s1:Int)+e)=t:=by rw[bU (by omega) (by omega)];omega
      simp[-C,-I,↓KW,aM,q2,hwj,hjn,g2,hwo,hws,g1,g4,hwx,hwy,hwm,hwt,hwlo,hwhi,hlay,hw8,hjl3,hgj];refine aI (k+1) n2 ?_ (wkQ [1,2,3,4] ?_ ?_)
      ·omega
      ·simp[-C,upd,aO,Γ0,aM,isucc]
      ·simp[-C,upd,aO,Γ0,aM,isucc]
     ·have q2:¬(k:Int)<b.length:=by omega
      have q3:0<c:=by omega
      have e1:t=s1:=by rw[hy0 hkb,Dh]at ht;omega
      rw[e1]at hwlo hwhi;simp[-C,-I,↓KW,aM,q2,q3,hwj,hjn,g2,hwo,hws,hwlo,hwhi,hlay,hw8,hjl3,hgj];refine aI (k+1) n2 ?_ (wkQ [1,2,3,4] ?_ ?_)
      ·omega
      ·simp[-C,upd,aO,Γ0,aM,isucc]
      ·simp[-C,upd,aO,Γ0,aM,isucc]
    ·have q2:¬(k:Int)<b.length:=by omega
     have q3:¬0<c:=by omega
     have hfin:=hres.resolve_left hg2;have hw8:Ag.wrap ((i:Int)+1)=(i:Int)+1:=aV;simp[-C,-I,↓KW,aM,q2,q3,hw8];refine aI (i+1) hgo ?_ (wkQ [1,2,3,4] ?_ ?_)
     ·omega
     ·simp[-C,upd,aO,Γ0,aM,hfin]
     ·simp[-C,upd,aO,Γ0,aM,hfin]
  ·have q1:¬(i:Int)<a.length:=by omega
   have e:i=a.length:=by omega
   rw[e,Ai (Ap _),va,vb]at ov;have hm:=iF (muO a b i) (nx != ny) (by omega);rw[fA om,e,ov]at hm;have e2:sg (nx != ny) (x.natAbs*y.natAbs)=x*y:=by rw[<-sx,<-sy];cases nx<;>cases ny<;>simp[sg,En,C0]
   rw[e2]at hm;rw[e]at ol;have e':muO a b i=muO a b a.length:=by rw[e]
   generalize muO a b a.length=out at *;simp[-C,-I,↓KW,aM,q1,e'];refine bK (ds:=[aM out,.b (nx != ny)]) ?_ hm ?_
   ·simp[-C,-I,↓KW,aM,ol,iB ol,fE ol];cases nx<;>cases ny<;>rfl
   ·simp[-C,-I,↓KW,aM,encZ,encI,ol,iB ol,fE ol]
def aOc{n:Nat}(h:n<=9223372036854775807):Ag.wrap (n:Int)=n:=aV
def qL(m:List Nat)(hl:m.length<=1099511627776):Spec Aa 151 [aM m] (aM (strip m)):=by
 refine bF (N:=21) Tryz.func151 ?_;simp[-C,-I,↓KW,aM];refine aP (λn:Nat=>n<=m.length/\strip (m.take n)=strip m) (λn=>StL [(0,.d (aM m)),(3,.d (.i .i64 n))] none []) (λn=>n) m.length ⟨Ap _,by simp⟩ ?_ ?_
 ·refine wkQ [] ?_ ?_<;>simp[-C,upd,aO,Γ0,aM]
 ·rintro n ⟨hn,hs⟩;rcases n with _|n
  ·have hs':strip m=[]:=hs.symm;have h0:fB 1 (m.map λ(x:Nat)=>[D.i .u32 (x:Int)])=true:=tY m _;simp[-C,-I,↓KW,aM,hs',h0]
  ·have hx:m[n]? = some m[n]:=Ab hn;have hw:Ag.wrap (n:Int)=n:=aOc (by omega);have hp:(0:Int)<(n:Int)+1:=by omega
   have hp2:(0:Int)<=(n:Int)+1:=by omega
   by_cases h0:m[n]=0
   ·simp[-C,-I,↓KW,aM,hx,hw,h0,hp];refine aI n ⟨by omega,(sW hn h0).symm.trans hs⟩ (by omega) (wkQ [] ?_ ?_)<;>simp[-C,upd,aO,Γ0,aM]
   ·have h1:((m[n]:Int)==0)=false:=by simp;omega
    have he:strip m=m.take (n+1):=hs.symm.trans (sX hn h0);have hn':(n:Int)+1<=m.length:=by omega
    obtain⟨pre,hpre⟩:∃pre,m.take (n+1)=pre:=⟨_,rfl⟩;have hp1:∀f:Nat->List D,(m.map f).take (n+1)=pre.map f:=λf=>by rw[<-hpre,BD]
    rw[hpre]at he;simp[-C,-I,↓KW,aM,hx,hw,h1,hp,hp2,he,hn',hp1,tY]
def bKl(neg:Bool)(m:List Nat)(hl:m.length<=1099511627776):Spec Aa 152 [.b neg,aM m] (encI (neg&&decide (strip m≠[])) (strip m)):=by
 refine bF (N:=14) Tryz.func152 ?_;simp[-C,-I,↓KW,aM];refine aJ (qL m hl) ?_;cases hm:strip m with
 |nil =>
  cases neg<;>simp[-C,-I,↓KW,aM,encI]
 |cons x l =>
  have h1:(((l.length:Int)+1==0):Bool)=false:=by simp;omega
  cases neg<;>simp[-C,-I,↓KW,aM,encI,h1]
def pB{m:List Nat}(h:Lim m)(hl:m.length<=1099511627776)(neg:Bool):Spec Aa 152 [.b neg,aM m] (encZ (sg neg (val m))):=by rw[<-fA h];exact bKl neg m hl
def aDo(neg:Bool)(m:List Nat)(hl:m.length<=1099511627776):Spec Aa 144 [encI neg m] (.i .i64 (if strip m=[]then 0 else if neg then -1 else 1)):=by
 refine bF (N:=12) Tryz.func144 ?_;simp[-C,-I,↓KW,encI,aM];refine aJ (qL m hl) ?_;cases hm:strip m with
 |nil=>simp[-C,-I,↓KW,aM,encI]
 |cons x l =>
  have h1:(((l.length:Int)+1==0):Bool)=false:=by simp;omega
  cases neg<;>simp[-C,-I,↓KW,aM,encI,h1]
def bKm(neg:Bool)(m:List Nat)(hl:m.length<=1099511627776):Spec Aa 143 [encI neg m] (.b (match m.getLast? with|some x=>x != 0|none=>!neg)):=by
 refine bF (N:=19) Tryz.func143 ?_;rcases List.eq_nil_or_concat m with rfl|⟨m',x,rfl⟩
 ·simp[-C,-I,↓KW,encI,aM]
 ·have hw:Ag.wrap (m'.length:Int)=m'.length:=by simp at hl;rw[wrap_i64]<;>omega
  have h1:(0:Int)<(m'.length:Int)+1:=by omega
  have hg:(AQ (λ(x:Nat)=>[D.i .u32 (x:Int)]) m'++[[D.i .u32 (x:Int)]])[m'.length]? = some [D.i .u32 (x:Int)]:=by rw[Az (by simp)];simp
  simp[-C,-I,↓KW,encI,aM,hw,h1,hg];rw[DL];simp
def cBo(x:Int):Spec Aa 150 [.i .i64 x] (.b false):=by refine bF (N:=6) Tryz.func150 ?_;simp[-C,-I,↓KW]
def cBn(x:Int):Spec Aa 160 [.i .u32 x] (.b false):=by refine bF (N:=6) Tryz.func160 ?_;simp[-C,-I,↓KW]
def mL(x y:Int):Int:=if x<y then -1 else if y<x then 1 else 0
def aWm(x y:Int):Spec Aa 142 [.i .i64 x,.i .i64 y] (.i .i64 (mL x y)):=by
 refine bF (N:=20) Tryz.func142 ?_;simp[-C,-I,↓KW];refine aJ (cBo x) ?_;simp[-C,-I,↓KW];refine aJ (cBo y) ?_;by_cases h1:x<y
 ·simp[-C,-I,↓KW,h1,mL]
 ·by_cases h2:y<x<;>simp[-C,-I,↓KW,h1,h2,mL]
def cEm(x y:Int):Spec Aa 158 [.i .u32 x,.i .u32 y] (.i .i64 (mL x y)):=by
 refine bF (N:=20) Tryz.func158 ?_;simp[-C,-I,↓KW];refine aJ (cBn x) ?_;simp[-C,-I,↓KW];refine aJ (cBn y) ?_;by_cases h1:x<y
 ·simp[-C,-I,↓KW,h1,mL]
 ·by_cases h2:y<x<;>simp[-C,-I,↓KW,h1,h2,mL]
def rU(a b:List Nat):Int:=if rL a b then -1 else if rL b a then 1 else 0
def aFt(a b:List Nat)(ha:Lim a)(hb:Lim b)(hla:a.length<=1099511627776)(hlb:b.length<=1099511627776):Spec Aa 154 [aM a,aM b] (.i .i64 (rU a b)):=by
 refine bF (N:=35) Tryz.func154 ?_;simp[-C,-I,↓KW,aM];refine aJ (aWm _ _) ?_;by_cases hn:a.length=b.length
 rotate_left
 ·rcases Nat.lt_or_gt_of_ne hn with h|h
  ·have h1:mL a.length b.length=-1:=by unfold mL;rw[Ad (by omega)]
   have h2:rU a b=-1:=by simp[rU,rL,hn,h]
   simp[-C,-I,↓KW,aM,h1,h2]
  ·have h1:mL a.length b.length=1:=by unfold mL;rw[Ac (by omega),Ad (by omega)]
   have h2:rU a b=1:=by
    have h3:¬a.length<b.length:=by omega
    have h4:¬b.length=a.length:=λe=>hn e.symm
    simp[rU,rL,hn,h,h3,h4]
   simp[-C,-I,↓KW,aM,h1,h2]
 ·have h1:mL a.length b.length=0:=by simp[mL,hn]
  have hw:Ag.wrap ((a.length:Int)-1)=(a.length:Int)-1:=aV;simp[-C,-I,↓KW,aM,h1,hw];refine aP (λk:Nat=>k<=a.length/\a.drop k=b.drop k) (λk=>StL [(0,.d (aM a)),(1,.d (aM b)),(6,.d (.i .i64 ((k:Int)-1)))] none []) (λk=>k) a.length ⟨Ap _,by rw[BA (Ap _),BA (by omega)]⟩ ?_ ?_
  ·refine wkQ [] ?_ ?_<;>simp[-C,upd,aO,Γ0,aM]
  ·rintro k ⟨hk,hd⟩;rcases k with _|k
   ·have e:a=b:=by simpa using hd
    subst e;simp[-C,-I,↓KW,aM,rL,rU]
   ·have hkb:k<b.length:=by omega
    have hxa:a[k]? = some a[k]:=Ab hk;have hxb:b[k]? = some b[k]:=Ab hkb;have hw2:Ag.wrap ((k:Int)-1)=(k:Int)-1:=aV;have hp:(0:Int)<=k:=by omega
    simp[-C,-I,↓KW,aM,hxa,hxb,hp];refine aJ (cEm _ _) ?_;by_cases he:a[k]=b[k]
    ·have h2:mL a[k] b[k]=0:=by simp[mL,he]
     simp[-C,-I,↓KW,aM,h2,hw2];refine aI k ⟨by omega,?_⟩ (by omega) (wkQ [] ?_ ?_)
     ·rw[AP hk,AP hkb,he,hd]
     ·simp[-C,upd,aO,Γ0,aM]
     ·trivial
    ·have ga:a.getD k 0=a[k]:=by rw[Af,hxa];rfl
     have gb:b.getD k 0=b[k]:=by rw[Af,hxb];rfl
     rcases Bf a[k] b[k]with hlt|hge
     ·have h3:=vF ha (i:=k) hn hk hd (by rw[ga,gb];exact hlt);have h4:mL a[k] b[k]=-1:=by unfold mL;rw[Ad (by omega)]
      have h5:rU a b=-1:=by simp[rU,rL,hn,h3]
      simp[-C,-I,↓KW,aM,h4,h5]
     ·have h3:=vF hb (i:=k) hn.symm hkb hd.symm (by rw[ga,gb];omega);have h4:mL a[k] b[k]=1:=by unfold mL;rw[Ac (by omega),Ad (by omega)]
      have h6:¬val a<val b:=by omega
      have h5:rU a b=1:=by simp[rU,rL,hn,h3,h6]
      simp[-C,-I,↓KW,aM,h4,h5]
def zp(out:List Nat)(n:Nat):List Nat:=out++AB (n-out.length) 0
def aLb{out:List Nat}{n:Nat}(h:out.length<=n):(zp out n).length=n:=by simp[zp];omega
def aLc{out:List Nat}{n:Nat}(h:out.length=n):zp out n=out:=by subst h;simp[zp]
def aTx(n:Nat):zp [] n=AB n 0:=by simp[zp]
def bWq{out:List Nat}{n i:Nat}(h:out.length=i)(hi:i<n)(v:Nat):(zp out n).set i v=zp (out++[v]) n:=by subst h;unfold zp;obtain⟨k,hk⟩:∃k,n-out.length=k+1:=⟨n-out.length-1,by omega⟩;rw[hk,List.set_append_right _ _ (Ap _),Cx,DO,CW,Ak,As,show n-(out.length+1)=k from by omega,Bh];rfl
def aDz{out:List Nat}{n i:Nat}(h:out.length=i)(hi:i<n)(v:Nat):lay (AQ AV.d (lms (zp out n))) i [AV.d (D.i .u32 (v:Int))]=AQ AV.d (lms (zp (out++[v]) n)):=by rw[oQ _ _ _ (by rw[nK,aLb (by omega)];exact hi),zC,bWq h hi]
def bGi{t:Nat}:kZ .shr .u64 (t:Int) 32=some (.i .u64 ((t/4294967296:Nat):Int)):=by simp only[kZ,Di];rw[Ac (by decide)];congr 2;rw[show(2:Int)^(min (32:Int).toNat 64)=4294967296 from by decide,Dj _ (by decide)];omega
def bVo{t:Int}(_h0:0<=t):kZ .shr .u64 t 63=some (.i .u64 (t/9223372036854775808)):=by simp only[kZ,Di];rw[Ac (by decide)];congr 2;rw[show(2:Int)^(min (63:Int).toNat 64)=9223372036854775808 from by decide,Dj _ (by decide)]
def ip(p q:List Nat):List Nat:=(plS p q p.length).1++[(plS p q p.length).2]
def bKj{p q:List Nat}(lp:Lim p)(lq:Lim q)(h:q.length<=p.length):val (ip p q)=val p+val q/\Lim (ip p q)/\(ip p q).length=p.length+1:=by obtain⟨h1,h2,h3,h4⟩:=oP lp lq p.length;rw[Ai (Ap _),Ai h]at h4;unfold ip;refine⟨?_,h3.app (.one (by omega)),by simp[h1]⟩;rw[oM,h1];simp only[val,Dh,Ce];exact h4
def uH(a b:List Nat):List Nat:=if a.length<b.length then ip b a else ip a b
def aVu{a b:List Nat}(ha:Lim a)(hb:Lim b):val (uH a b)=val a+val b/\Lim (uH a b)/\(uH a b).length<=a.length+b.length+1:=by
 unfold uH;by_cases h:a.length<b.length
 ·rw[Ad h];obtain⟨h1,h2,h3⟩:=bKj hb ha (by omega);exact⟨by omega,h2,by omega⟩
 ·rw[Ac h];obtain⟨h1,h2,h3⟩:=bKj ha hb (by omega);exact⟨h1,h2,by omega⟩
def bSv(a b:List Nat)(ha:Lim a)(hb:Lim b)(hla:a.length<=274877906944)(hlb:b.length<=274877906944):Spec Aa 153 [aM a,aM b] (aM (uH a b)):=by
 refine bF (N:=57) Tryz.func153 ?_;obtain⟨p,q,lp,lq,hqp,hpl,hr,hc⟩:∃p q:List Nat,Lim p/\Lim q/\q.length<=p.length/\p.length<=274877906944/\uH a b=ip p q/\((a.length<b.length/\p=b/\q=a)\/(¬a.length<b.length/\p=a/\q=b)):=by
  by_cases h:a.length<b.length
  ·exact⟨b,a,hb,ha,by omega,hlb,by simp[uH,h],.inl ⟨h,rfl,rfl⟩⟩
  ·exact⟨a,b,ha,hb,by omega,hla,by simp[uH,h],.inr ⟨h,rfl,rfl⟩⟩
 rw[hr];obtain⟨n,hn⟩:∃n,p.length+1=n:=⟨_,rfl⟩;have hw2:Ag.wrap ((p.length:Int)+1)=(n:Int):=by rw[aV];omega
 have hm1:(4:Int)*n<=281474976710656:=by omega
 have hm2:(n:Int)<=9223372036854775807:=by omega
 rcases hc with ⟨h,hp,hq⟩|⟨h,hp,hq⟩<;>subst hp<;>subst hq
 ·have h1:(q.length:Int)<p.length:=by omega
  simp[-C,-I,↓KW,aM,h1,hw2,hm1,hm2];refine aP (λi:Nat=>i<=p.length) (λi=>StL [(0,.d (aM p)),(1,.d (aM q)),(5,.own 1 0 n 1),(6,.d (.i .u64 (plS p q i).2)),(20,.d (.i .i64 p.length)),(21,.d (.i .i64 i))] none [.cells 101 ((lms (zp (plS p q i).1 n)).map .d)]) (λi=>p.length-i) 0 (Al _) ?_ ?_
  ·refine wkQ [1] ?_ ?_<;>simp[-C,upd,aO,Γ0,aM,plS,aTx]
  ·intro i hi;obtain⟨hlen,hc,_,_⟩:=oP lp lq i;have hsucc:plS p q (i+1)=((plS p q i).1++[((plS p q i).2+p.getD i 0+q.getD i 0)%4294967296],((plS p q i).2+p.getD i 0+q.getD i 0)/4294967296):=rfl;have hal:=lp.getD i;have hbl:=lq.getD i;have hres:i=p.length->(plS p q i).1++[(plS p q i).2]=ip p q:=λe=>by rw[e];rfl
   generalize hout:(plS p q i).1=out at *;generalize hcar:(plS p q i).2=c at *;have hzl:(zp out n).length=n:=aLb (by omega);by_cases hgo:i<p.length
   ·have hw7:Ag.wrap ((i:Int)+1)=(i:Int)+1:=aV;have q1:(i:Int)<p.length:=by omega
    have q3:(i:Int)<n:=by omega
    have q4:i+1<=n:=by omega
    have g1:=getD_some hgo;have hb0:¬i<q.length->q.getD i 0=0:=getD_none;have g2:i<q.length->q[i]? = some (q.getD i 0):=getD_some;generalize p.getD i 0=x at *;generalize q.getD i 0=y at *;obtain⟨s1,hs1⟩:∃s1:Nat,c+x=s1:=⟨_,rfl⟩;obtain⟨s2,hs2⟩:∃s2:Nat,s1+y=s2:=⟨_,rfl⟩;rw[hs1,hs2]at hsucc;have hwx:A1.wrap (x:Int)=x:=bU (by omega) (by omega);have hwy:A1.wrap (y:Int)=y:=bU (by omega) (by omega);have hw1:A1.wrap ((c:Int)+x)=s1:=by rw[bU (by omega) (by omega)];omega
    have hw2':A1.wrap ((s1:Int)+y)=s2:=by rw[bU (by omega) (by omega)];omega
    obtain⟨lo,hlo⟩:∃lo:Nat,s2%4294967296=lo:=⟨_,rfl⟩;have hsh:=bGi (t:=s2);obtain⟨hi',hhi⟩:∃hi':Nat,s2/4294967296=hi':=⟨_,rfl⟩;rw[hhi]at hsh;have hw3:Cr.wrap (s2:Int)=lo:=by rw[jF];omega
    rw[hlo,hhi]at hsucc;have hlay:=aDz hlen (show i<n by omega) lo;by_cases hbn:i<q.length
    ·have q2:(i:Int)<q.length:=by omega
     have g3:=g2 hbn;simp[-C,-I,↓KW,aM,q1,q2,q3,q4,g1,g3,hwx,hwy,hw1,hw2',hw3,hsh,hlay,hw7,hzl];refine aI (i+1) hgo ?_ (wkQ [1] ?_ ?_)
     ·omega
     ·simp[-C,upd,aO,Γ0,aM,hsucc]
     ·simp[-C,upd,aO,Γ0,aM,hsucc]
    ·have q2:¬(i:Int)<q.length:=by omega
     have e2:s2=s1:=by have:=hb0 hbn;omega
     rw[e2]at hw3 hsh;simp[-C,-I,↓KW,aM,q1,q2,q3,q4,g1,hwx,hw1,hw3,hsh,hlay,hw7,hzl];refine aI (i+1) hgo ?_ (wkQ [1] ?_ ?_)
     ·omega
     ·simp[-C,upd,aO,Γ0,aM,hsucc]
     ·simp[-C,upd,aO,Γ0,aM,hsucc]
   ·have e:i=p.length:=by omega
    have h1:¬(i:Int)<p.length:=by omega
    have h4:=hres e;have hn':(p.length:Int)<n:=by omega
    have hn2:p.length+1<=n:=by omega
    have hw3:Cr.wrap (c:Int)=c:=kP (by omega) (by omega);have hlay:=aDz (hlen.trans e) (show p.length<n by omega) c;have hfl:(out++[c]).length=n:=by simp;omega
    have h5:zp (out++[c]) n=out++[c]:=aLc hfl;rw[h5,h4]at hlay;rw[h4]at hfl;simp[-C,-I,↓KW,aM,h1,hn',hn2,hw3,hlay,hzl,hfl,iB hfl,fE hfl]
 ·have h1:¬(p.length:Int)<q.length:=by omega
  simp[-C,-I,↓KW,aM,h1,hw2,hm1,hm2];refine aP (λi:Nat=>i<=p.length) (λi=>StL [(0,.d (aM p)),(1,.d (aM q)),(5,.own 1 0 n 1),(6,.d (.i .u64 (plS p q i).2)),(20,.d (.i .i64 p.length)),(21,.d (.i .i64 i))] none [.cells 101 ((lms (zp (plS p q i).1 n)).map .d)]) (λi=>p.length-i) 0 (Al _) ?_ ?_
  ·refine wkQ [1] ?_ ?_<;>simp[-C,upd,aO,Γ0,aM,plS,aTx]
  ·intro i hi;obtain⟨hlen,hc,_,_⟩:=oP lp lq i;have hsucc:plS p q (i+1)=((plS p q i).1++[((plS p q i).2+p.getD i 0+q.getD i 0)%4294967296],((plS p q i).2+p.getD i 0+q.getD i 0)/4294967296):=rfl;have hal:=lp.getD i;have hbl:=lq.getD i;have hres:i=p.length->(plS p q i).1++[(plS p q i).2]=ip p q:=λe=>by rw[e];rfl
   generalize hout:(plS p q i).1=out at *;generalize hcar:(plS p q i).2=c at *;have hzl:(zp out n).length=n:=aLb (by omega);by_cases hgo:i<p.length
   ·have hw7:Ag.wrap ((i:Int)+1)=(i:Int)+1:=aV;have q1:(i:Int)<p.length:=by omega
    have q3:(i:Int)<n:=by omega
    have q4:i+1<=n:=by omega
    have g1:=getD_some hgo;have hb0:¬i<q.length->q.getD i 0=0:=getD_none;have g2:i<q.length->q[i]? = some (q.getD i 0):=getD_some;generalize p.getD i 0=x at *;generalize q.getD i 0=y at *;obtain⟨s1,hs1⟩:∃s1:Nat,c+x=s1:=⟨_,rfl⟩;obtain⟨s2,hs2⟩:∃s2:Nat,s1+y=s2:=⟨_,rfl⟩;rw[hs1,hs2]at hsucc;have hwx:A1.wrap (x:Int)=x:=bU (by omega) (by omega);have hwy:A1.wrap (y:Int)=y:=bU (by omega) (by omega);have hw1:A1.wrap ((c:Int)+x)=s1:=by rw[bU (by omega) (by omega)];omega
    have hw2':A1.wrap ((s1:Int)+y)=s2:=by rw[bU (by omega) (by omega)];omega
    obtain⟨lo,hlo⟩:∃lo:Nat,s2%4294967296=lo:=⟨_,rfl⟩;have hsh:=bGi (t:=s2);obtain⟨hi',hhi⟩:∃hi':Nat,s2/4294967296=hi':=⟨_,rfl⟩;rw[hhi]at hsh;have hw3:Cr.wrap (s2:Int)=lo:=by rw[jF];omega
    rw[hlo,hhi]at hsucc;have hlay:=aDz hlen (show i<n by omega) lo;by_cases hbn:i<q.length
    ·have q2:(i:Int)<q.length:=by omega
     have g3:=g2 hbn;simp[-C,-I,↓KW,aM,q1,q2,q3,q4,g1,g3,hwx,hwy,hw1,hw2',hw3,hsh,hlay,hw7,hzl];refine aI (i+1) hgo ?_ (wkQ [1] ?_ ?_)
     ·omega
     ·simp[-C,upd,aO,Γ0,aM,hsucc]
     ·simp[-C,upd,aO,Γ0,aM,hsucc]
    ·have q2:¬(i:Int)<q.length:=by omega
     have e2:s2=s1:=by have:=hb0 hbn;omega
     rw[e2]at hw3 hsh;simp[-C,-I,↓KW,aM,q1,q2,q3,q4,g1,hwx,hw1,hw3,hsh,hlay,hw7,hzl];refine aI (i+1) hgo ?_ (wkQ [1] ?_ ?_)
     ·omega
     ·simp[-C,upd,aO,Γ0,aM,hsucc]
     ·simp[-C,upd,aO,Γ0,aM,hsucc]
   ·have e:i=p.length:=by omega
    have h1:¬(i:Int)<p.length:=by omega
    have h4:=hres e;have hn':(p.length:Int)<n:=by omega
    have hn2:p.length+1<=n:=by omega
    have hw3:Cr.wrap (c:Int)=c:=kP (by omega) (by omega);have hlay:=aDz (hlen.trans e) (show p.length<n by omega) c;have hfl:(out++[c]).length=n:=by simp;omega
    have h5:zp (out++[c]) n=out++[c]:=aLc hfl;rw[h5,h4]at hlay;rw[h4]at hfl;simp[-C,-I,↓KW,aM,h1,hn',hn2,hw3,hlay,hzl,hfl,iB hfl,fE hfl]
def aRv(a b:List Nat)(ha:Lim a)(hb:Lim b)(hla:a.length<=274877906944):Spec Aa 155 [aM a,aM b] (aM (qU a b)):=by
 refine bF (N:=44) Tryz.func155 ?_;obtain⟨n,hn⟩:∃n,a.length=n:=⟨_,rfl⟩;have hm1:(4:Int)*n<=281474976710656:=by omega
 have hm2:(n:Int)<=9223372036854775807:=by omega
 simp[-C,-I,↓KW,aM,hn,hm1,hm2];refine aP (λi:Nat=>i<=n) (λi=>StL [(0,.d (aM a)),(1,.d (aM b)),(5,.own 1 0 n 1),(6,.d (.i .u64 (miS a b i).2)),(13,.d (.i .i64 n)),(14,.d (.i .i64 i))] none [.cells 101 ((lms (zp (miS a b i).1 n)).map .d)]) (λi=>n-i) 0 (Al _) ?_ ?_
 ·refine wkQ [1] ?_ ?_<;>simp[-C,upd,aO,Γ0,aM,miS,aTx,hn]
 ·intro i hi;obtain⟨hlen,hc,_,_⟩:=aMp ha hb i;have hsucc:=aRm a b i;have hal:=ha.getD i;have hbl:=hb.getD i;have hres:i=n->(miS a b i).1=qU a b:=λe=>by rw[e,<-hn];rfl
  generalize hout:(miS a b i).1=out at *;generalize hcar:(miS a b i).2=c at *;have hzl:(zp out n).length=n:=aLb (by omega);by_cases hgo:i<n
  ·have hw7:Ag.wrap ((i:Int)+1)=(i:Int)+1:=aV;have q1:(i:Int)<n:=by omega
   have q4:i+1<=n:=hgo;have g1:=getD_some (l:=a) (i:=i) (by omega);have hb0:¬i<b.length->b.getD i 0=0:=getD_none;have g2:i<b.length->b[i]? = some (b.getD i 0):=getD_some;generalize a.getD i 0=x at *;generalize b.getD i 0=y at *;have hwx:A1.wrap (x:Int)=x:=bU (by omega) (by omega);have hwy:A1.wrap (y:Int)=y:=bU (by omega) (by omega);obtain⟨d1,hd1⟩:∃d1:Int,A1.wrap ((x:Int)-c)=d1:=⟨_,rfl⟩;obtain⟨d,hd⟩:∃d:Int,A1.wrap (d1-y)=d:=⟨_,rfl⟩;have hd1':=hd1;have hd':=hd;rw[aAg]at hd1' hd';have hfin:∃(lo bw:Nat),miS a b (i+1)=(out++[lo],bw)/\Cr.wrap d=lo/\kZ .shr .u64 d 63=some (.i .u64 (bw:Int)):=by
    by_cases hle:c+y<=x
    ·rw[Ad hle]at hsucc;refine⟨_,_,hsucc,?_,?_⟩
     ·rw[jF];omega
     ·rw[bVo (by omega)];congr 2;omega
    ·rw[Ac hle]at hsucc;refine⟨_,_,hsucc,?_,?_⟩
     ·rw[jF];omega
     ·rw[bVo (by omega)];congr 2;omega
   obtain⟨lo,bw,hs,hlo,hbw⟩:=hfin;have hlay:=aDz hlen hgo lo;by_cases hbn:i<b.length
   ·have q2:(i:Int)<b.length:=by omega
    have g3:=g2 hbn;simp[-C,-I,↓KW,aM,q1,q2,g1,g3,hwx,hwy,hd1,hd,hlo,hbw,hlay,hw7,hzl,q4];refine aI (i+1) hgo ?_ (wkQ [1] ?_ ?_)
    ·omega
    ·simp[-C,upd,aO,Γ0,aM,hs]
    ·simp[-C,upd,aO,Γ0,aM,hs]
   ·have q2:¬(i:Int)<b.length:=by omega
    have e1:d1=d:=by have:=hb0 hbn;omega
    rw[e1]at hd1;simp[-C,-I,↓KW,aM,q1,q2,g1,hwx,hd1,hlo,hbw,hlay,hw7,hzl,q4];refine aI (i+1) hgo ?_ (wkQ [1] ?_ ?_)
    ·omega
    ·simp[-C,upd,aO,Γ0,aM,hs]
    ·simp[-C,upd,aO,Γ0,aM,hs]
  ·have e:i=n:=by omega
   have h1:¬(i:Int)<n:=by omega
   have h4:=hres e;have h5:zp out n=out:=aLc (by omega);have hlen':out.length=n:=by omega
   simp[-C,-I,↓KW,aM,h1,h5,hlen',iB hlen',fE hlen',<-h4]
def bWu(l:List Nat)(j:Nat):4294967296^j*l.getD j 0<=val l:=by
 have h:=eA l j;have e:val l=val (l.take (j+1))+4294967296^(l.take (j+1)).length*val (l.drop (j+1)):=by rw[<-oM,List.take_append_drop]
 have h2:val (l.take (j+1))<=val l:=by rw[e];exact Nat.le_add_right _ _
 rw[h]at h2;exact An (Nat.le_add_left _ _) h2
def aCq{l:List Nat}{j:Nat}(h:val l<4294967296^j):l.getD j 0=0:=by
 have h1:=bWu l j;rcases Cb (l.getD j 0)with h2|h2
 ·exact h2
 ·exfalso;have:4294967296^j*1<=4294967296^j*l.getD j 0:=BE _ h2;rw[DE]at this;omega
def bCx{out b:List Nat}{x i:Nat}(k j:Nat)(h:i+k<=j):(muI out x b i k).1.getD j 0=out.getD j 0:=by
 induction k with
 |zero=>rfl
 |succ k ih =>
  have:=ih (by omega);rw[<-this];simp only[muI,Af];rw[FE (by omega)]
def tmO(a b:List Nat):Nat->List Nat
 |0=>AB (a.length+b.length) 0
 |i+1=>(muI (tmO a b i) (a.getD i 0) b i b.length).1.set (i+b.length) (muI (tmO a b i) (a.getD i 0) b i b.length).2
def aYa{a b:List Nat}(ha:Lim a)(hb:Lim b)(i:Nat)(hi:i<=a.length):(tmO a b i).length=a.length+b.length/\Lim (tmO a b i)/\val (tmO a b i)=val (a.take i)*val b:=by
 induction i with
 |zero=>exact⟨by simp[tmO],.rep _,by simp[tmO,aCw,val]⟩
 |succ i ih =>
  obtain⟨h1,h2,h3⟩:=ih (by omega);have hv:=aVl ha hb (i:=i) (by omega);rw[<-h3]at hv;have hx:=ha.getD i;obtain⟨q1,q2,q3,q4⟩:=vT (x:=a.getD i 0) (i:=i) h2 hb hx (by omega) b.length (by omega);have habove:=bCx (out:=tmO a b i) (b:=b) (x:=a.getD i 0) (i:=i) b.length (i+b.length) (Ap _);rw[aCq hv]at habove;rw[Ai (Ap _)]at q4;have hset:=aLl (l:=(muI (tmO a b i) (a.getD i 0) b i b.length).1) (j:=i+b.length) (by omega) (muI (tmO a b i) (a.getD i 0) b i b.length).2;rw[habove,Dh,Ce,q4]at hset;refine⟨?_,q3.set _ q2,?_⟩
  ·show(List.set _ _ _).length=_;rw[E6,q1,h1]
  ·show val (List.set _ _ _)=_;rw[hset,h3,eA,By,Ck]
def aEh(a b:List Nat):List Nat:=tmO a b a.length
def aUe{a b:List Nat}(ha:Lim a)(hb:Lim b):val (aEh a b)=val a*val b/\Lim (aEh a b)/\(aEh a b).length=a.length+b.length:=by obtain⟨h1,h2,h3⟩:=aYa ha hb a.length (Ap _);rw[Ai (Ap _)]at h3;exact⟨h3,h2,h1⟩
def bKn(a b:List Nat)(la:Lim a)(lb:Lim b)(hla:a.length<=137438953472)(hlb:b.length<=137438953472):Spec Aa 156 [aM a,aM b] (aM (aEh a b)):=by
 refine bF (N:=66) Tryz.func156 ?_;obtain⟨n,hn⟩:∃n,a.length+b.length=n:=⟨_,rfl⟩;have hw1:Ag.wrap ((a.length:Int)+b.length)=(n:Int):=by rw[aV];omega
 have hm1:(4:Int)*n<=281474976710656:=by omega
 have hm2:(n:Int)<=9223372036854775807:=by omega
 have h00:tmO a b 0=AB n 0:=by rw[<-hn];rfl
 simp[-C,-I,↓KW,aM,hw1,hm1,hm2];refine aP (λi:Nat=>i<=a.length)
  (λi=>StL [(0,.d (aM a)),(1,.d (aM b)),(5,.own 1 0 n 1),(17,.d (aM a)),(18,.d (.i .i64 a.length)),(19,.d (.i .i64 i))] none [.cells 101 ((lms (tmO a b i)).map .d)]) (λi=>a.length-i) 0 (Al _) ?_ ?_
 ·refine wkQ [1] ?_ ?_<;>simp[-C,upd,aO,Γ0,aM,h00]
 ·intro i hi;obtain⟨ol,om,ov⟩:=aYa la lb i hi;rw[hn]at ol;by_cases hgo:i<a.length
  ·have q1:(i:Int)<a.length:=by omega
   have g1:=getD_some hgo;have hsucc:tmO a b (i+1)=(muI (tmO a b i) (a.getD i 0) b i b.length).1.set (i+b.length) (muI (tmO a b i) (a.getD i 0) b i b.length).2:=rfl;have hal:=la.getD i;generalize hout:tmO a b i=out at *;generalize a.getD i 0=xv at *;simp[-C,-I,↓KW,aM,q1,g1];have hwx:A1.wrap (xv:Int)=xv:=bU (by omega) (by omega);refine aP (λk:Nat=>k<=b.length)
    (λk=>StL [(0,.d (aM a)),(1,.d (aM b)),(5,.own 1 0 n 1),(17,.d (aM a)),(18,.d (.i .i64 a.length)),(19,.d (.i .i64 i)),(6,.d (.i .i64 i)),(7,.d (.i .u32 xv)),(8,.d (.i .u64 (muI out xv b i k).2)),(24,.d (aM b)),(25,.d (.i .i64 b.length)),(26,.d (.i .i64 k))] none
     [.cells 101 ((lms (muI out xv b i k).1).map .d)]) (λk=>b.length-k) 0 (Al _) ?_ ?_
   ·refine wkQ [1] ?_ ?_<;>simp[-C,upd,aO,Γ0,aM,muI]
   ·intro k hk;obtain⟨il,ic,im,_⟩:=vT om lb hal (i:=i) (by omega) k (by omega);have isucc:muI out xv b i (k+1)=((muI out xv b i k).1.set (i+k) (((muI out xv b i k).2+(muI out xv b i k).1.getD (i+k) 0+xv*b.getD k 0)%4294967296),((muI out xv b i k).2+(muI out xv b i k).1.getD (i+k) 0+xv*b.getD k 0)/4294967296):=rfl;have hres:k=b.length->tmO a b (i+1)=(muI out xv b i k).1.set (i+b.length) (muI out xv b i k).2:=λe=>by rw[e];exact hsucc
    clear hsucc;have ho:=im.getD (i+k);generalize hcar:(muI out xv b i k).2=c at *;generalize hcur:(muI out xv b i k).1=cur at *;have hgj:List.length cur=n:=by omega
    by_cases hkb:k<b.length
    ·obtain⟨j,hj⟩:∃j,i+k=j:=⟨_,rfl⟩;rw[hj]at isucc ho;have hjl:j<cur.length:=by omega
     have g2:=aZg (getD_some hjl);have hwj:Ag.wrap ((i:Int)+k)=j:=by rw[aV];omega
     have hjn:(j:Int)<n:=by omega
     have hw8:Ag.wrap ((k:Int)+1)=(k:Int)+1:=aV;have hjl2:j<(lms cur).length:=by rw[nK];exact hjl
     have hjl3:j+1<=n:=by omega
     have hyb:=lb.getD k;have hlim:=aVk ic ho hal hyb;have g4:=getD_some hkb;have q2:(k:Int)<b.length:=by omega
     generalize cur.getD j 0=o at *;generalize b.getD k 0=yv at *;obtain⟨e,he⟩:∃e:Nat,xv*yv=e:=⟨_,rfl⟩;rw[he]at isucc hlim;obtain⟨s1,hs1⟩:∃s1:Nat,e+o=s1:=⟨_,rfl⟩;obtain⟨t,ht⟩:∃t:Nat,c+o+e=t:=⟨_,rfl⟩;rw[ht]at isucc hlim;obtain⟨lo,hlo⟩:∃lo:Nat,t%4294967296=lo:=⟨_,rfl⟩;have hsh:=bGi (t:=t);obtain⟨hi',hhi⟩:∃hi':Nat,t/4294967296=hi':=⟨_,rfl⟩;rw[hlo,hhi]at isucc;rw[hhi]at hsh;have hwo:A1.wrap (o:Int)=o:=bU (by omega) (by omega);have hwy:A1.wrap (yv:Int)=yv:=bU (by omega) (by omega);have hwm:A1.wrap ((xv:Int)*yv)=e:=by rw[<-FM,he,bU (by omega) (by omega)]
     have hws:A1.wrap ((e:Int)+o)=s1:=by rw[bU (by omega) (by omega)];omega
     have hwt:A1.wrap ((c:Int)+s1)=t:=by rw[bU (by omega) (by omega)];omega
     have hwlo:Cr.wrap (t:Int)=lo:=by rw[jF];omega
     have hlay:lay (AQ AV.d (lms cur)) j [AV.d (D.i .u32 (lo:Int))]=AQ AV.d (lms (cur.set j lo)):=by rw[oQ _ _ _ hjl2,zC]
     simp[-C,-I,↓KW,aM,q2,hwj,hjn,g2,hwo,hws,g1,g4,hwx,hwy,hwm,hwt,hwlo,hsh,hlay,hw8,hjl3,hgj];refine aI (k+1) hkb ?_ (wkQ [1] ?_ ?_)
     ·omega
     ·simp[-C,upd,aO,Γ0,aM,isucc]
     ·simp[-C,upd,aO,Γ0,aM,isucc]
    ·have q2:¬(k:Int)<b.length:=by omega
     have hfin:=hres (by omega);have hw8:Ag.wrap ((i:Int)+1)=(i:Int)+1:=aV;obtain⟨j,hj⟩:∃j,i+b.length=j:=⟨_,rfl⟩;rw[hj]at hfin;have hwj:Ag.wrap ((i:Int)+b.length)=j:=by rw[aV];omega
     have hjn:(j:Int)<n:=by omega
     have hjl3:j+1<=n:=by omega
     have hjl2:j<(lms cur).length:=by rw[nK];omega
     have hwc:Cr.wrap (c:Int)=c:=kP (by omega) (by omega);have hlay:lay (AQ AV.d (lms cur)) j [AV.d (D.i .u32 (c:Int))]=AQ AV.d (lms (cur.set j c)):=by rw[oQ _ _ _ hjl2,zC]
     simp[-C,-I,↓KW,aM,q2,hw8,hwj,hjn,hjl3,hwc,hlay,hgj];refine aI (i+1) hgo ?_ (wkQ [1] ?_ ?_)
     ·omega
     ·simp[-C,upd,aO,Γ0,aM,hfin]
     ·simp[-C,upd,aO,Γ0,aM,hfin]
  ·have q1:¬(i:Int)<a.length:=by omega
   have e:i=a.length:=by omega
   have e':tmO a b i=aEh a b:=by rw[e];rfl
   rw[e']at ol;simp[-C,-I,↓KW,aM,q1,e',ol,iB ol,fE ol]
def aMr(x y:Int)(hx:(aU x.natAbs).length<=137438953472)(hy:(aU y.natAbs).length<=137438953472):Spec Aa 147 [encZ x,encZ y] (encZ (x*y)):=by
 refine bF (N:=18) Tryz.func147 ?_;have la:=cY x.natAbs;have lb:=cY y.natAbs;have va:=dS x.natAbs;have vb:=dS y.natAbs;have ta:=qL (aU x.natAbs) (by omega);have tb:=qL (aU y.natAbs) (by omega);rw[iW la,va]at ta;rw[iW lb,vb]at tb;have sx:=jH x;have sy:=jH y;have ex:encZ x=.ag [.b (decide (x<0)),aM (aU x.natAbs)]:=rfl;have ey:encZ y=.ag [.b (decide (y<0)),aM (aU y.natAbs)]:=rfl;rw[ex,ey];generalize aU x.natAbs=a at *;generalize aU y.natAbs=b at *;generalize hbx:decide (x<0)=nx at *;generalize hby:decide (y<0)=ny at *;obtain⟨tv,tl,tn⟩:=aUe la lb;simp[-C,-I,↓KW,aM];refine aJ ta ?_;simp[-C,-I,↓KW,aM];refine aJ tb ?_;simp[-C,-I,↓KW,aM];refine aJ (bKn a b la lb hx hy) ?_;simp[-C,-I,↓KW,aM];have hm:=pB tl (by omega) (!(nx==ny));rw[tv,va,vb]at hm;have e2:sg (!(nx==ny)) (x.natAbs*y.natAbs)=x*y:=by rw[<-sx,<-sy];cases nx<;>cases ny<;>simp[sg,En,C0]
 rw[e2]at hm;refine aJ hm ?_;simp[-C,-I,↓KW,aM,encZ,encI]
def aMs(x y:Int)(hx:(aU x.natAbs).length<=137438953472)(hy:(aU y.natAbs).length<=137438953472):Spec Aa 146 [encZ x,encZ y] (encZ (x+y)):=by
 refine bF (N:=42) Tryz.func146 ?_;have la:=cY x.natAbs;have lb:=cY y.natAbs;have va:=dS x.natAbs;have vb:=dS y.natAbs;have ta:=qL (aU x.natAbs) (by omega);have tb:=qL (aU y.natAbs) (by omega);rw[iW la,va]at ta;rw[iW lb,vb]at tb;have hless:(aU x.natAbs).length<(aU y.natAbs).length->x.natAbs<y.natAbs:=kI;have hless2:(aU y.natAbs).length<(aU x.natAbs).length->y.natAbs<x.natAbs:=kI;have hl:=aFt _ _ la lb (by omega) (by omega);have hcmp:(x.natAbs<y.natAbs->rU (aU x.natAbs) (aU y.natAbs)<0)/\(¬x.natAbs<y.natAbs->¬rU (aU x.natAbs) (aU y.natAbs)<0):=by
  unfold rU;rw[lB,lB];constructor
  ·intro h;rw[Ad (by simpa using h)];decide
  ·intro h;rw[Ac (by simpa using h)];split<;>decide
 have sx:=jH x;have sy:=jH y;have ex:encZ x=.ag [.b (decide (x<0)),aM (aU x.natAbs)]:=rfl;have ey:encZ y=.ag [.b (decide (y<0)),aM (aU y.natAbs)]:=rfl;rw[ex,ey];generalize aU x.natAbs=a at *;generalize aU y.natAbs=b at *;generalize hbx:decide (x<0)=nx at *;generalize hby:decide (y<0)=ny at *;simp[-C,-I,↓KW,aM];refine aJ ta ?_;simp[-C,-I,↓KW,aM];refine aJ tb ?_;by_cases hn:nx=ny
 ·have h1:(nx==ny)=true:=by simpa using hn
  simp[-C,-I,↓KW,aM,h1];obtain⟨pv,pl,pn⟩:=aVu la lb;refine aJ (bSv a b la lb (by omega) (by omega)) ?_;simp[-C,-I,↓KW,aM];have hm:=pB pl (by omega) nx;rw[pv,va,vb]at hm;have e:sg nx (x.natAbs+y.natAbs)=x+y:=by rw[<-sx,<-sy,<-hn];cases nx<;>simp[sg]<;>omega
  rw[e]at hm;refine aJ hm ?_;simp[-C,-I,↓KW,aM,encZ,encI]
 ·have h1:(nx==ny)=false:=by simpa using hn
  simp[-C,-I,↓KW,aM,h1];refine aJ hl ?_;by_cases hlt:x.natAbs<y.natAbs
  ·have h2:=hcmp.1 hlt;simp[-C,-I,↓KW,aM,h2];obtain⟨pv,pl,pn⟩:=sF lb la (by omega) (by omega);refine aJ (aRv b a lb la (by omega)) ?_;simp[-C,-I,↓KW,aM];have hm:=pB pl (by omega) ny;rw[pv,va,vb]at hm;have e:sg ny (y.natAbs-x.natAbs)=x+y:=by rw[<-sx,<-sy];cases nx<;>cases ny<;>simp[sg]at hn ⊢<;>omega
   rw[e]at hm;refine aJ hm ?_;simp[-C,-I,↓KW,aM,encZ,encI]
  ·have h2:=hcmp.2 hlt;simp[-C,-I,↓KW,aM,h2];obtain⟨pv,pl,pn⟩:=sF la lb (by omega) (by omega);refine aJ (aRv a b la lb (by omega)) ?_;simp[-C,-I,↓KW,aM];have hm:=pB pl (by omega) nx;rw[pv,va,vb]at hm;have e:sg nx (x.natAbs-y.natAbs)=x+y:=by rw[<-sx,<-sy];cases nx<;>cases ny<;>simp[sg]at hn ⊢<;>omega
   rw[e]at hm;refine aJ hm ?_;simp[-C,-I,↓KW,aM,encZ,encI]
def eL(f:Int×Int):List D:=[.i .i64 f.1,.b (decide (f.2<0)),aM (aU f.2.natAbs)]
def aK(l:List (Int×Int)):D:=.sl (l.map eL)
def fcs(l:List (Int×Int)):List D:=(l.map eL).flatten
def wC(l:List (Int×Int)):(fcs l).length=l.length*3:=by
 unfold fcs;induction l with
 |nil=>rfl
 |cons x l ih=>simp only[AZ,BF,Ak,ih,eL,AH,Bq];omega
def bTq:fcs []=[]:=rfl
def fT(a b:List (Int×Int)):fcs (a++b)=fcs a++fcs b:=by simp[fcs]
def dM(f:Int×Int):fcs [f]=[.i .i64 f.1,.b (decide (f.2<0)),aM (aU f.2.natAbs)]:=rfl
def bTp(f g:Int×Int):fcs [f,g]=[.i .i64 f.1,.b (decide (f.2<0)),aM (aU f.2.natAbs),.i .i64 g.1,.b (decide (g.2<0)),aM (aU g.2.natAbs)]:=rfl
def aF(m:List Nat):one (.d (aM m))=true:=rfl
def aD(m:List Nat):fN (.d (aM m))=some [.d (aM m)]:=rfl
def aG(m:List Nat):aO (aM m)=.d (aM m):=rfl
def bTr(l:List (Int×Int)):((fcs l).map AV.d).all one=true:=by
 unfold fcs;induction l with
 |nil=>rfl
 |cons x l ih =>
  simp only[AZ,BF,Bu,List.all_append,ih,Bool.and_true];rfl
def jV(l:List (Int×Int)):(∀x,x∈fcs l->one (AV.d x)=true)↔True:=⟨λ_=>trivial,λ_ _ hx=>Ay.1 (bTr l) _ (FU hx)⟩
def wG{l:List (Int×Int)}{n:Nat}(h:l.length=n):chunk 3 n (fcs l)=l.map eL:=by subst h;have:=aCh (l.map eL) (λx hx=>by obtain⟨y,_,rfl⟩:=AA.1 hx;rfl);rwa [AL]at this
def oU{l:List (Int×Int)}{n:Nat}(h:l.length=n):BB (n*3) ((fcs l).map AV.d)=(fcs l).map AV.d:=Ai (by simp[wC,h])
def bE(f:Int×Int):eL f=[.i .i64 f.1,.b (decide (f.2<0)),aM (aU f.2.natAbs)]:=rfl
def aS{n:Nat}(h:n<=1099511627776):n<=maxLen:=An h (by decide)
def cH{n:Nat}(h:n<=2147483648):(n+1)*40<=140737488355328/\n+1<=1099511627776/\(n+1+1)*40<=140737488355328/\n+1+1<=1099511627776:=by refine⟨by omega,by omega,by omega,by omega⟩
def Sz(z:Int):Prop:=(aU z.natAbs).length<=137438953472
def aZ(m:List Nat):inj (aM m)=.d (aM m):=rfl
def aW(H:Hp)(avs:List AV)(m:List Nat):bS H avs (aM m)=fK H avs:=rfl
def aY(z:Int):encZ z=.ag [.b (decide (z<0)),aM (aU z.natAbs)]:=rfl
def aKg:encZ 0=.ag [.b false,.sl []]:=by unfold encZ encI;rw[show(0:Int).natAbs=0 from rfl,dH];rfl
def aEm(z:Int):strip (aU z.natAbs)=[]↔z=0:=by rw[iW (cY _),dS,fP];omega
def uI(z:Int)(hz:Sz z):Spec Aa 144 [encZ z] (.i .i64 z.sign):=by
 have:=aDo (decide (z<0)) (aU z.natAbs) (An hz (by decide));have e:(if strip (aU z.natAbs)=[]then(0:Int)else if(decide (z<0))=true then -1 else 1)=z.sign:=by
  simp only[aEm];rcases EH z 0 with h|h|h
  ·rw[Ac (by omega),Ad (by simpa using h),CU h]
  ·subst h;rfl
  ·rw[Ac (by omega),Ac (by simp;omega),Dk h]
 rwa [e]at this
end Go.Am
end
section
open List renaming map_map->C,mapM_map->I
open Go Go.Am Go.Proofs
namespace Go.Am
open Go.ChangeShapes Go.WideShapes Go.ChangeAt Go.RowKit
def bMt{w:World}{a:Addr}{v:Value}(h:w.cell? a=some v):a.block<w.heap.size:=by
 unfold World.cell? at h;cases hb:w.heap[a.block]? with
 |none=>rw[hb]at h;cases h
 |some o=>exact(BV.1 hb).1
def bJm{α:Type}{Q:Nat->α->Prop}:∀{n:Nat},(∀i,i<n->∃y,Q i y)->∃l:List α,l.length=n/\∀(i:Nat) (y:α),l[i]? = some y->Q i y
 |0,_=>⟨[],rfl,λi y h=>by simp at h⟩
 |n+1,h=>by
  obtain⟨l,hl,hq⟩:=bJm (n:=n) λi hi=>h i (Nat.lt_succ_of_lt hi)
  obtain⟨y,hy⟩:=h n (AK n);refine⟨l++[y],by simp[hl],λi z hz=>?_⟩;rcases Bf i l.length with h1|h1
  ·rw[AJ h1]at hz;exact hq i z hz
  ·rw[Az h1]at hz;have h2:i-l.length=0:=by
    rcases Cb (i-l.length)with h3|h3
    ·exact h3
    ·rw[AW (by simp;omega)]at hz;cases hz
   rw[h2]at hz;simp at hz;subst hz;rwa [show i=n by omega]
def bEg{w:World}{n:Nat}{a:Addr}{cs:List Value}(h:w.cells? 0 a n=some cs):∀k,k<n->w.cell? (a.add k)=cs[k]? := by intro k hk;unfold World.cells? at h;rw[Ad (Al _)]at h;have:=mapM_some_get h k k (by simp[hk]);exact this
def aJg{α:Type}{P:Program}{H:Type}{enc:TypeId×Value->H}{w:World}{sp:Nat->Bool}{held:Bool}{t e:TypeId}{cs:List Value}{x:DataW H×List MemPlace}{fuel:Nat}(ht:P.underlying t=some (.slice e))(hc:0<P.cellsOf e)(E:α->List D)(good:α->Prop)
  (hE:∀(fuel:Nat) (cs:List Value) (x:DataW H×List MemPlace),DataW.trod enc P w 0 sp held fuel e cs=some x->∃y:α,good y/\(E y).length=P.cellsOf e/\∀(k:Nat) (c:D) (v:Value),(E y)[k]? = some c->cs[k]? = some v->VD (λb=>b<w.heap.size) w c v)
  (hf:DataW.trod enc P w 0 sp held fuel t cs=some x):∃(v:Value) (l:List α),cs=[v]/\VD (λb=>b<w.heap.size) w (.sl (l.map E)) v/\(∀y∈l,good y)/\l.length<=9223372036854775807:=by
 rcases DataW.trod_slice ht hf with ⟨hcs,_⟩|⟨a,len,cap,elems,rest,n,_,hcs,_,_,hlc,hcm,hel,hEl,_⟩
 ·exact⟨_,[],hcs,.sl0 _ _,(λp hp=>by cases hp),Al _⟩
 ·have each:∀i,i<len->∃y:α,good y/\(E y).length=P.cellsOf e/\∀(k:Nat),k<P.cellsOf e->∃v,w.cell? (a.add (i*P.cellsOf e+k))=some v/\∀c:D,(E y)[k]? = some c->VD (λb=>b<w.heap.size) w c v:=by
   intro i hi;have h1:=hEl i hi;rw[Ab (by omega)]at h1;obtain⟨vs,h2,h3⟩:=Option.bind_eq_some_iff.1 h1;obtain⟨y,g,hy,hv⟩:=hE _ _ _ h3;refine⟨y,g,hy,λk hk=>?_⟩;have h4:=bEg h2 k hk;rw[add_add]at h4;have h5:k<vs.length:=by unfold World.cells? at h2;rw[Ad (Al _)]at h2;have:=mapM_some_length h2;simp at this;omega
   rw[Ab h5]at h4;exact⟨_,h4,λc hc=>hv k c _ hc (Ab h5)⟩
  obtain⟨l,hl,hq⟩:=bJm each
  have hgood:∀y∈l,good y:=λy hy=>by obtain⟨i,hi,rfl⟩:=BM.1 hy;exact(hq i _ (Ab hi)).1
  refine⟨_,l,hcs,?_,hgood,by rw[hl];exact An hlc hcm⟩
  rcases Cb len with h0|hpos
  ·have:l=[]:=AE (by omega)
   subst this;subst h0;exact .sl0 _ _
  ·have hab:a.block<w.heap.size:=by obtain⟨y,_,_,hy⟩:=each 0 hpos;obtain⟨v,hv,_⟩:=hy 0 hc;have:=bMt hv;rwa [block_add]at this
   refine .sl _ a len cap (P.cellsOf e) (λj=>(w.cell? (a.add j)).getD undef) (by simp[hl]) hlc (λcs hcs=>?_) hab (λj hj=>?_) (λj k cs c hj hk=>?_)
   ·obtain⟨y,hy,rfl⟩:=AA.1 hcs
    obtain⟨i,hi,rfl⟩:=BM.1 hy
    exact(hq i _ (Ab hi)).2.1
   ·have hd:j/P.cellsOf e<len:=Nat.div_lt_of_lt_mul (by rwa [Ci]at hj)
    obtain⟨y,_,_,hy⟩:=each _ hd
    obtain⟨v,hv,_⟩:=hy (j%P.cellsOf e) (EL _ hc)
    rw[Ci,FJ]at hv
    simp[hv]
   ·rw[Aw,Aj]at hj
    obtain⟨y,hy,rfl⟩:=hj
    obtain⟨_,h6,h7⟩:=hq j y hy
    obtain⟨v,hv,hvc⟩:=h7 k (by rw[<-h6];exact(Ah.1 hk).1)
    simp only[hv,Bd]
    exact hvc c hk
end Go.Am
end
section
open List renaming map_map->C,mapM_map->I
open Go Go.Am Go.Proofs
namespace Go.Am
def gA(id z:Int)(s:List (Int×Int)×Bool)(x:Int×Int):List (Int×Int)×Bool :=
 if s.2 then(s.1++[x],true)
 else if x.1>id then(s.1++[(id,z),x],true)
 else if x.1=id then(if x.2+z=0 then s.1 else s.1++[(id,x.2+z)],true)
 else(s.1++[x],false)
def oS(l:List (Int×Int))(f:Int×Int):List (Int×Int) :=
 let s:=l.foldl (gA f.1 f.2) ([],decide (f.2=0))
 if s.2 then s.1 else s.1++[f]
def bKq(id z:Int)(s:List (Int×Int)×Bool)(x:Int×Int):(gA id z s x).1.length<=s.1.length+2:=by
 unfold gA;split
 ·simp
 ·split
  ·simp
  ·split
   ·split<;>simp
   ·simp
def uK(id z:Int):∀(l:List (Int×Int)) (s:List (Int×Int)×Bool),(l.foldl (gA id z) s).1.length<=s.1.length+2*l.length
 |[],s=>by simp
 |x::l,s=>by have h1:=uK id z l (gA id z s x);have h2:=bKq id z s x;simp only[C6,AH];omega
def aAy(l:List (Int×Int))(id z:Int)(hz:Sz z)(hs:∀x∈l,Sz x.2)(hl:l.length<=1073741824):Spec Aa 56 [aK l,.ag (eL (id,z))] (aK (oS l (id,z))):=by
 refine bF (N:=80) Tryz.func56 ?_;simp[-C,-I,↓KW,aK,bE,aF,aD];refine aJ (fH z) ?_;have e0:((z.sign:Int)==0)=decide (z=0):=by rw[DL];simp
 simp[-C,-I,↓KW,e0,bE,aF,aD];refine aP (λi:Nat=>i<=l.length)
  (λi=>StL [(0,.d (aK l)),(3,.ptr 1 0),(5,.own 2 0 ((l.take i).foldl (gA id z) ([],decide (z=0))).1.length 3),(6,.d (.b ((l.take i).foldl (gA id z) ([],decide (z=0))).2)),(7,.d (.i .i64 i))] none
   [.cells 75 ((fcs [(id,z)]).map .d),.cells 75 ((fcs ((l.take i).foldl (gA id z) ([],decide (z=0))).1).map .d)]) (λi=>l.length-i) 0 (Al _) ?_ ?_
 ·refine wkQ [1,2] ?_ ?_<;>simp[-C,upd,aO,Γ0,aK,bE,dM,bTq]
 ·intro i hi;have hlen:=uK id z (l.take i) ([],decide (z=0));simp only[Bq,Ax]at hlen;have hfin:i=l.length->oS l (id,z)=if((l.take i).foldl (gA id z) ([],decide (z=0))).2 then((l.take i).foldl (gA id z) ([],decide (z=0))).1 else((l.take i).foldl (gA id z) ([],decide (z=0))).1++[(id,z)]:=λe=>by rw[Ai (by omega)];rfl
  have hsucc:∀h:i<l.length,(l.take (i+1)).foldl (gA id z) ([],decide (z=0))=gA id z ((l.take i).foldl (gA id z) ([],decide (z=0))) l[i]:=λh=>by rw[AM,Ab h,Dl];rfl
  generalize hst:(l.take i).foldl (gA id z) ([],decide (z=0))=st at *;obtain⟨out,done⟩:=st;simp only at hlen hfin hsucc;obtain⟨n,hn⟩:∃n,out.length=n:=⟨_,rfl⟩;have hn':n<=2147483648:=by rw[<-hn];exact An hlen (by omega)
  clear hlen;have hfl:=wC out;rw[hn]at hfl;by_cases hgo:i<l.length
  ·have q1:(i:Int)<l.length:=by omega
   have hw7:Ag.wrap ((i:Int)+1)=(i:Int)+1:=aV;have hsu:=hsucc hgo;have g1:l[i]? = some l[i]:=Ab hgo;have hsx:=hs _ (Ar hgo);generalize l[i]=x at *;obtain⟨xi,xc⟩:=x;simp only at hsx;have hb:=cH hn';cases done with
   |true =>
    replace hsu:=hsu.trans (show gA id z (out,true) (xi,xc)=(out++[(xi,xc)],true)from rfl);simp[-C,-I,↓KW,aK,q1,g1,bE,aF,aD,dM,jV,hn,hfl,hb,aS,hw7];refine aI (i+1) hgo (AF hgo (AK i)) (wkQ [1,4] ?_ ?_)
    ·simp[-C,upd,aO,Γ0,aK,hsu,bE,dM,fT,hn]
    ·simp[-C,upd,aO,Γ0,aK,hsu,bE,dM,fT,hn]
   |false =>
    by_cases hgt:xi>id
    ·have hgt':id<xi:=hgt;replace hsu:=hsu.trans (show gA id z (out,false) (xi,xc)=(out++[(id,z),(xi,xc)],true)by simp[gA,hgt]);have h33:n*3+3=(n+1)*3:=by omega
     simp[-C,-I,↓KW,aK,q1,g1,hgt',bE,aF,aD,dM,jV,hn,hfl,hb,aS,hw7,h33];refine aI (i+1) hgo (AF hgo (AK i)) (wkQ [1,6] ?_ ?_)
     ·simp[-C,upd,aO,Γ0,aK,hsu,bE,dM,fT,hn]
     ·simp[-C,upd,aO,Γ0,aK,hsu,bE,dM,fT,hn,bTp]
    ·have hgt':¬id<xi:=hgt;by_cases heq:xi=id
     ·have he:(xi==id)=true:=by simpa using heq
      simp[-C,-I,↓KW,aK,q1,g1,hgt',he,bE,aF,aD,dM,jV,hn,hfl,hb,aS,hw7];refine aJ (sB xc z (An hsx (by decide)) (An hz (by decide))) ?_;simp[-C,-I,↓KW,encZ,encI,aF,aD];refine aJ (fH (xc+z)) ?_;by_cases h0:xc+z=0
      ·have h0':((xc+z).sign != 0)=false:=by simp[h0]
       replace hsu:=hsu.trans (show gA id z (out,false) (xi,xc)=(out,true)by simp[gA,hgt,heq,h0]);simp[-C,-I,↓KW,h0',hn,hw7];refine aI (i+1) hgo (AF hgo (AK i)) (wkQ [1,2] ?_ ?_)
       ·simp[-C,upd,aO,Γ0,aK,hsu,bE,dM,fT,hn]
       ·simp[-C,upd,aO,Γ0,aK,hsu,bE,dM,fT,hn]
      ·have h0':((xc+z).sign != 0)=true:=by simp[h0]
       replace hsu:=hsu.trans (show gA id z (out,false) (xi,xc)=(out++[(id,xc+z)],true)by simp[gA,hgt,heq,h0]);simp[-C,-I,↓KW,h0',bE,aF,aD,dM,jV,hn,hfl,hb,aS,hw7];refine aI (i+1) hgo (AF hgo (AK i)) (wkQ [1,5] ?_ ?_)
       ·simp[-C,upd,aO,Γ0,aK,hsu,bE,dM,fT,hn]
       ·simp[-C,upd,aO,Γ0,aK,hsu,bE,dM,fT,hn]
     ·have he:(xi==id)=false:=by simpa using heq
      replace hsu:=hsu.trans (show gA id z (out,false) (xi,xc)=(out++[(xi,xc)],false)by simp[gA,hgt,heq]);simp[-C,-I,↓KW,aK,q1,g1,hgt',he,bE,aF,aD,dM,jV,hn,hfl,hb,aS,hw7];refine aI (i+1) hgo (AF hgo (AK i)) (wkQ [1,4] ?_ ?_)
      ·simp[-C,upd,aO,Γ0,aK,hsu,bE,dM,fT,hn]
      ·simp[-C,upd,aO,Γ0,aK,hsu,bE,dM,fT,hn]
  ·have q1:¬(i:Int)<l.length:=by omega
   have hfi:=hfin (by omega);have hb:=cH hn';cases done with
   |true =>
    have e:oS l (id,z)=out:=by rw[hfi];rfl
    simp[-C,-I,↓KW,aK,q1,hn,hfl,wG hn,oU hn,e]
   |false =>
    have e:oS l (id,z)=out++[(id,z)]:=by rw[hfi];rfl
    have hn2:(out++[(id,z)]).length=n+1:=by simp[hn]
    have e2:AQ AV.d (fcs out)++[AV.d (D.i .i64 id),AV.d (D.b (decide (z<0))),AV.d (aM (aU z.natAbs))]=AQ AV.d (fcs (out++[(id,z)])):=by rw[fT,Bu];rfl
    have hfl2:=wC (out++[(id,z)]);rw[hn2]at hfl2;simp[-C,-I,↓KW,aK,q1,bE,aF,aD,dM,jV,hn,hfl,hb,aS,e2,hfl2,wG hn2,oU hn2,e]
def b2n(b:Bool):Nat:=if b then 1 else 0
def tI(id z:Int):∀(l:List (Int×Int)) (s:List (Int×Int)×Bool) (n:Nat),s.1.length<=n+b2n s.2->(l.foldl (gA id z) s).1.length<=n+l.length+b2n (l.foldl (gA id z) s).2
 |[],s,n,h=>by simpa using h
 |x::l,s,n,h=>by
  have h2:(gA id z s x).1.length<=n+1+b2n (gA id z s x).2:=by
   obtain⟨out,done⟩:=s;cases done
   ·simp only[b2n,A0,B2,Ce]at h;unfold gA;simp only[A0,B2];split
    ·simp[b2n];omega
    ·split
     ·split<;>simp[b2n]<;>omega
     ·simp[b2n];omega
   ·simp only[b2n,if_true]at h;unfold gA;simp[b2n];omega
  have h1:=tI id z l _ (n+1) h2;simp only[C6,AH];omega
def aKc(l:List (Int×Int))(f:Int×Int):(oS l f).length<=l.length+1:=by
 have h:=tI f.1 f.2 l ([],decide (f.2=0)) 0 (Al _);have e:oS l f=if(l.foldl (gA f.1 f.2) ([],decide (f.2=0))).2 then(l.foldl (gA f.1 f.2) ([],decide (f.2=0))).1 else(l.foldl (gA f.1 f.2) ([],decide (f.2=0))).1++[f]:=rfl
 rw[e];generalize l.foldl (gA f.1 f.2) ([],decide (f.2=0))=s at *;obtain⟨out,done⟩:=s;cases done
 ·simp only[b2n,A0,B2]at h ⊢;simp;omega
 ·simp only[b2n,if_true]at h ⊢;omega
def Bnd(M:Nat)(l:List (Int×Int)):Prop:=∀x∈l,x.2.natAbs<=M
def Bnd.nil(M:Nat):Bnd M []:=λ_ h=>by cases h
def Bnd.mono{M N:Nat}{l:List (Int×Int)}(h:Bnd M l)(k:M<=N):Bnd N l:=λx hx=>An (h x hx) k
def Bnd.app{M:Nat}{a b:List (Int×Int)}(h:Bnd M a)(k:Bnd M b):Bnd M (a++b):=λx hx=>by
 rcases A5.1 hx with hx|hx
 ·exact h x hx
 ·exact k x hx
def Bnd.one{M:Nat}{x:Int×Int}(h:x.2.natAbs<=M):Bnd M [x]:=λy hy=>by
 rcases AG.1 hy with rfl|hy
 ·exact h
 ·cases hy
def bKr{id z:Int}{s:List (Int×Int)×Bool}{x:Int×Int}{M K:Nat}(hs:Bnd (M+K) s.1)(hx:x.2.natAbs<=M)(hz:z.natAbs<=K):Bnd (M+K) (gA id z s x).1:=by
 unfold gA;split
 ·exact hs.app (.one (by omega))
 ·split
  ·exact hs.app (.app (.one (x:=(id,z)) (by simp only;omega)) (.one (by omega)))
  ·split
   ·split
    ·exact hs
    ·exact hs.app (.one (by simp only;omega))
   ·exact hs.app (.one (by omega))
def uL{id z:Int}{M K:Nat}(hz:z.natAbs<=K):∀(l:List (Int×Int)) (s:List (Int×Int)×Bool),Bnd M l->Bnd (M+K) s.1->Bnd (M+K) (l.foldl (gA id z) s).1
 |[],s,_,h=>h
 |x::l,s,hl,h=>uL hz l _ (λy hy=>hl y (Au _ hy)) (bKr h (hl x (Av ..)) hz)
def aRw{l:List (Int×Int)}{f:Int×Int}{M K:Nat}(hl:Bnd M l)(hz:f.2.natAbs<=K):Bnd (M+K) (oS l f):=by
 have h:=uL (id:=f.1) hz l ([],decide (f.2=0)) hl (.nil _);have e:oS l f=if(l.foldl (gA f.1 f.2) ([],decide (f.2=0))).2 then(l.foldl (gA f.1 f.2) ([],decide (f.2=0))).1 else(l.foldl (gA f.1 f.2) ([],decide (f.2=0))).1++[f]:=rfl
 rw[e];split
 ·exact h
 ·exact h.app (.one (by omega))
def gU{z:Int}{M:Nat}(h:z.natAbs<=M)(hM:(aU M).length<=137438953472):Sz z:=An (fC h) hM
def cF(a b:List (Int×Int)):List (Int×Int):=b.foldl oS a
def oB(a:List (Int×Int)):∀b:List (Int×Int),(cF a b).length<=a.length+b.length:=by
 intro b;unfold cF;induction b generalizing a with
 |nil=>simp
 |cons x b ih =>
  have h1:=ih (oS a x);have h2:=aKc a x;simp only[C6,AH];omega
def mP{M K:Nat}:∀(b a:List (Int×Int)),Bnd M a->Bnd K b->Bnd (M+b.length*K) (cF a b)
 |[],a,ha,_=>by simpa[cF]using ha
 |x::b,a,ha,hb=>by have h1:=aRw (f:=x) ha (hb x (Av ..));have h2:=mP b (oS a x) h1 (λy hy=>hb y (Au _ hy));refine(show Bnd _ (cF (oS a x) b)from h2).mono ?_;rw[AH,By,CZ];omega
def bEt(a b:List (Int×Int))(i:Nat)(h:i<b.length):cF a (b.take (i+1))=oS (cF a (b.take i)) b[i]:=by unfold cF;rw[AM,Ab h,Dl];rfl
def mulR(k:Int)(b:List (Int×Int)):List (Int×Int):=b.map λf=>(f.1,k*f.2)
def pI{k:Int}{M K:Nat}{b:List (Int×Int)}(hk:k.natAbs<=K)(hb:Bnd M b):Bnd (K*M) (mulR k b):=λx hx=>by obtain⟨y,hy,rfl⟩:=AA.1 hx;simp only[BX];exact Cs hk (hb y hy)
def bHt(a b:List (Int×Int))(k:Int)(A M K:Nat)(ha:Bnd A a)(hb:Bnd M b)(hk:k.natAbs<=K)(hA:(aU (A+b.length*(K*M))).length<=137438953472)(hKM:(aU (K*M)).length<=137438953472)(hK:(aU K).length<=137438953472)
  (hM:(aU M).length<=137438953472) (hl:a.length+b.length<=1073741824):Spec Aa 30 [aK a,aK b,encZ k] (aK (cF a (mulR k b))):=by
 refine bF (N:=32) Tryz.func30 ?_
 simp[-C,-I,↓KW,aK,encZ,encI,aF,aD]
 refine aP (λi:Nat=>i<=b.length) (λi=>StL [(1,.d (aK b)),(5,.ptr 1 0),(7,.d (aK (cF a ((mulR k b).take i)))),(8,.d (.i .i64 i))] none [.cells 72 [.d (.b (decide (k<0))),.d (aM (aU k.natAbs))]]) (λi=>b.length-i) 0 (Al _) ?_ ?_
 ·refine wkQ [1] ?_ ?_<;>simp[-C,upd,aO,Γ0,aK,cF]
 ·intro i hi
  have hlm:(mulR k b).length=b.length:=by simp[mulR]
  by_cases hgo:i<b.length
  ·have q1:(i:Int)<b.length:=by omega
   have hw7:Ag.wrap ((i:Int)+1)=(i:Int)+1:=aV
   have g1:b[i]? = some b[i]:=Ab hgo
   have hsu:=bEt a (mulR k b) i (by omega)
   have hgm:(mulR k b)[i]'(by omega)=(b[i].1,k*b[i].2):=by simp[mulR]
   rw[hgm]at hsu
   have hbx:=hb _ (Ar hgo)
   have hbt:Bnd (K*M) ((mulR k b).take i):=λx hx=>pI hk hb x (Cm hx)
   have hbo:=mP ((mulR k b).take i) a ha hbt
   have hlo:=oB a ((mulR k b).take i)
   have hti:((mulR k b).take i).length=i:=by simp;omega
   rw[hti]at hbo hlo
   have hle:A+i*(K*M)<=A+b.length*(K*M):=FV (A8 _ (by omega)) _
   generalize hxe:b[i]=x at *
   obtain⟨xi,xc⟩:=x
   generalize cF a ((mulR k b).take i)=out at *
   simp only at hbx hsu
   have hkx:(k*xc).natAbs<=K*M:=by rw[BX];exact Cs hk hbx
   simp[-C,-I,↓KW,aK,q1,g1,bE,aF,aD]
   refine aJ (qI k xc (gU hk hK) (gU hbx hM)) ?_
   simp[-C,-I,↓KW,aK,encZ,encI,aF,aD]
   have hins:=aAy out xi (k*xc) (gU hkx hKM) (λy hy=>gU (An (hbo y hy) hle) hA) (by omega)
   refine aJ hins ?_
   simp[-C,-I,↓KW,aK,hw7]
   refine aI (i+1) hgo (AF hgo (AK i)) (wkQ [1] ?_ ?_)
   ·simp[-C,upd,aO,Γ0,aK,hsu]
   ·simp[-C,upd,aO,Γ0]
  ·have q1:¬(i:Int)<b.length:=by omega
   have e:(mulR k b).take i=mulR k b:=Ai (by omega)
   simp[-C,-I,↓KW,aK,q1,e]
def aQu(l:List (Int×Int))(i:Nat):Bool:=decide ((l.getD i (0,0)).2≠0)&&(decide (i=0)||decide ((l.getD (i-1) (0,0)).1<(l.getD i (0,0)).1))
def xD(l:List (Int×Int)):Bool:=(CS l.length).all (aQu l)
def aBw{l:List (Int×Int)}(h:∀j,j<l.length->aQu l j=true):xD l=true:=by unfold xD;rw[Ay];intro j hj;exact h j (C4.1 hj)
def aLk{l:List (Int×Int)}{j:Nat}(hj:j<l.length)(h:aQu l j=false):xD l=false:=by unfold xD;rw[List.all_eq_false];exact⟨j,C4.2 hj,by rw[h];decide⟩
def bLi{l:List (Int×Int)}{i:Nat}(h:i<l.length):l[i]? = some (l.getD i (0,0)):=by rw[Af,Ab h];rfl
def bRk{P:Program}{dst:Option Tmp}{ty:TypeId}{pos:String}{after:Array Edge}{guard:Option (Nat×Bool)}{σ:St}{con:List Nat}{k:St->List Nat->Prop}{f g:FuncId}{x:Operand}{ts:Array TypeId}
  {d:Dm ((⟨dst,.call ⟨.value (.func f),[x].toArray,ts⟩,ty,pos,after,guard⟩:Oper),k)} {id:Nat} {ho:HO} (hs:uZ P f g) (hm:bB P f=true)
  (hx:oev σ.J x=.mp id) (hH:σ.H id=some ho) (hk:k ⟨bT σ.J dst (.kf g id),σ.H,σ.n⟩ con):O1d P ⟨dst,.call ⟨.value (.func f),[x].toArray,ts⟩,ty,pos,after,guard⟩ σ con k d:=by
 show OC P f [x].toArray dst σ con k
 unfold OC
 have e:hd1 (oev σ.J x)=some (id,.mp 0):=by rw[hx];rfl
 simp only[hm,if_true,e,hH]
 exact .inl ⟨g,trivial,trivial,hs,hk⟩
def bCp{P:Program}{dst:Option Tmp}{ty:TypeId}{pos:String}{after:Array Edge}{guard:Option (Nat×Bool)}{σ:St}{con:List Nat}{k:St->List Nat->Prop}{f g:FuncId}{x:Operand}{ts:Array TypeId}
  {d:Dm ((⟨dst,.call ⟨.value (.func f),[x].toArray,ts⟩,ty,pos,after,guard⟩:Oper),k)} {id:Nat} {es:List (Int×AV)} (hs:nD P f g) (hm:bB P f=false)
  (hx:oev σ.J x=.kf g id) (hH:σ.H id=some (.map .i64 es)) (hl:es.length<=1099511627776) (hr:(es.map (·.1)).all inr=true)
  (hk:k ⟨bT σ.J dst (.d (.sl ((gZ (es.map (·.1))).map λn=>[.i .i64 n]))),σ.H,σ.n⟩ con):O1d P ⟨dst,.call ⟨.value (.func f),[x].toArray,ts⟩,ty,pos,after,guard⟩ σ con k d:=by
 show OC P f [x].toArray dst σ con k
 unfold OC
 have e:([x].toArray.toList.map (oev σ.J))=[.kf g id]:=by show[oev σ.J x]=_;rw[hx]
 simp only[hm,A0,B2]
 refine .inr ?_
 split
 ·rename_i g' id' hx'
  rw[e]at hx'
  injection hx' with hx' _
  injection hx' with h1 h2
  subst h1;subst h2
  rw[hH]
  exact⟨hl,hr,hs,hk⟩
 ·rename_i hne
  exact(hne _ _ e).elim
def fnd(n:Int):List (Int×Int)->Option Nat
 |[]=>none
 |x::es=>if x.1=n then some 0 else(fnd n es).map (·+1)
def aBl(z:Int):AV:=.ag [.d (.b (decide (z<0))),.d (aM (aU z.natAbs))]
def iJ(m:List (Int×Int)):List (Int×AV):=m.map λp=>(p.1,aBl p.2)
def xM(n:Int)(m:List (Int×Int)):iP n (iJ m)=fnd n m:=by
 induction m with
 |nil=>rfl
 |cons x m ih =>
  show(if x.1=n then some 0 else(iP n (iJ m)).map (·+1))=if x.1=n then some 0 else(fnd n m).map (·+1)
  rw[ih]
def aGc{n:Int}{m:List (Int×Int)}{j:Nat}(h:fnd n m=some j):∃z,m[j]? = some (n,z):=by
 induction m generalizing j with
 |nil=>cases h
 |cons x m ih =>
  unfold fnd at h;by_cases hx:x.1=n
  ·rw[Ad hx]at h;injection h with h;subst h;exact⟨x.2,by rw[<-hx];rfl⟩
  ·rw[Ac hx]at h;obtain⟨i,hi,rfl⟩:=Aj.1 h;obtain⟨z,hz⟩:=ih hi;exact⟨z,by simpa using hz⟩
def getM(m:List (Int×Int))(n:Int):Int:=match fnd n m with
 |some j=>(m.getD j (0,0)).2
 |none=>0
def wO(m:List (Int×Int))(n v:Int):List (Int×Int):=match fnd n m with
 |some j=>m.set j (n,v)
 |none=>m++[(n,v)]
def wQ(m:List (Int×Int))(n:Int):List (Int×Int):=match fnd n m with
 |some j=>m.eraseIdx j
 |none=>m
def jZ(m:List (Int×Int))(n k:Int):List (Int×Int):=if getM m n+k=0 then wQ m n else wO m n (getM m n+k)
def vU(m:List (Int×Int))(n v:Int):sD (iJ m) n (aBl v)=iJ (wO m n v):=by
 unfold sD wO;rw[xM];cases fnd n m with
 |none=>simp[iJ]
 |some j=>simp[iJ,List.map_set]
def wZ{α β:Type}(f:α->β):∀(l:List α) (j:Nat),(l.map f).eraseIdx j=(l.eraseIdx j).map f
 |[],_=>rfl
 |_::_,0=>rfl
 |x::l,j+1=>by show f x::(l.map f).eraseIdx j=f x::(l.eraseIdx j).map f;rw[wZ f l j]
def vX(m:List (Int×Int))(n:Int):aRo (iJ m) n=iJ (wQ m n):=by
 unfold aRo wQ;rw[xM];cases fnd n m with
 |none=>rfl
 |some j=>simp[iJ,wZ]
def xL(m:List (Int×Int))(n:Int):rI (iJ m) n=if(fnd n m).isSome then some (aBl (getM m n))else none:=by
 unfold rI getM;rw[xM];cases h:fnd n m with
 |none=>rfl
 |some j =>
  obtain⟨z,hz⟩:=aGc h;simp[iJ,hz,Af]
def jC(m:List (Int×Int)):oG (.map .i64 (iJ m))=true:=by simp only[oG,iJ,List.all_map,Ay];intro x _;rfl
def cC{P:Program}(H:Hp)(t:TypeId)(id:Nat)(x:AV)(ok:Bool):pK P H t (.mp id) x ok=match H id with
  |some (.map k es)=>(tmp P t).bind λp=>match x with
   |.d (.i k' n)=>if k'=k/\jJ P p.1=some k then
     match rI es n with
     |some v=>some (if ok then .tp [v,.d (.b true)]else v)
     |none=>(tz P p.2).map λz=>if ok then .tp [cv z,.d (.b false)]else cv z
    else none
   |_=>none
  |_=>none:=rfl
def cI{P:Program}(H:Hp)(t:TypeId)(id:Nat)(x:AV)(v:Option AV):tL P H t (.mp id) x v=match H id with
  |some (.map k es)=>(tmp P t).bind λp=>match x with
   |.d (.i k' n)=>if k'=k/\jJ P p.1=some k then some (id,.map k (match v with|some v=>sD es n v|none=>aRo es n))else none
   |_=>none
  |_=>none:=rfl
def gO(m:List (Int×Int)):List (Int×Int):=(gZ (m.map (·.1))).map λn=>(n,getM m n)
def aZm(n:Int):∀l:List Int,(ins n l).length=l.length+1
 |[]=>rfl
 |m::l=>by
  unfold ins;split
  ·rfl
  ·simp[aZm n l]
def aJz:∀l:List Int,(gZ l).length=l.length
 |[]=>rfl
 |n::l=>by rw[gZ,aZm,aJz l];rfl
def aZl(n x:Int):∀l:List Int,x∈ins n l↔x=n\/x∈l
 |[]=>by simp[ins]
 |m::l=>by
  unfold ins;split
  ·simp
  ·simp[aZl n x l];constructor
   ·rintro(h|h|h)<;>simp[h]
   ·rintro(h|h|h)<;>simp[h]
def rN(x:Int):∀l:List Int,x∈gZ l↔x∈l
 |[]=>by simp[gZ]
 |n::l=>by rw[gZ,aZl,rN x l];simp
def aGd{n:Int}{m:List (Int×Int)}(h:n∈m.map (·.1)):(fnd n m).isSome=true:=by
 induction m with
 |nil=>simp at h
 |cons x m ih =>
  unfold fnd;by_cases hx:x.1=n
  ·rw[Ad hx];rfl
  ·rw[Ac hx,Option.isSome_map];exact ih (by
    rcases AG.1 h with h|h
    ·exact(hx h.symm).elim
    ·exact h)
def aKl(m:List (Int×Int)):(iJ m).map (·.1)=m.map (·.1):=by simp[iJ]
def aBy(l:List Nat)(m:List (Int×Int)):fG l (.map .i64 (iJ m))=.map .i64 (iJ m):=by simp[fG,iJ,aBl,tU,fV]
def aJf {P:Program} {f N:Nat} {fn:Func} {c:Code} {h:AV} {o o':HO} {args:List D} {r:D} (hm:P.follows .mixedOrders=true) (hf:P.funcs[f]? = some fn) (hb:fn.body=some c) (hname:(fn.name == "runtime.NumGoroutine")=false) (hN:fn.ntmps=N)
  (hd:dK N c=true) (hl:eC P c=true) (ha:args.length+1<=N) (hmap:∃k es,o=.map k es) (hmap':∃k es,o'=.map k es) (hno':oG o'=true) (hnm:NM r)
  (hA:AWP P c (St1 h o args N) λe σ=>(e=.normal\/e=.ret)/\mY P fn.results.toList σ=some r/\σ.H 0=some o'):tJ P f h o args o' r :=
 aQp hf hb hname hN ha hmap hmap' hno' hnm λG a w hZ hs=>iC hm hZ c _ _ a w hd hl hA hs
def tZ{P:Program}{dst:Option Tmp}{ty:TypeId}{pos:String}{after:Array Edge}{guard:Option (Nat×Bool)}{σ:St}{con:List Nat}{k:St->List Nat->Prop}{f:FuncId}{x:Operand}{rest:List Operand}{ts:Array TypeId}
  {d:Dm ((⟨dst,.call ⟨.value (.func f),(x::rest).toArray,ts⟩,ty,pos,after,guard⟩:Oper),k)} {id:Nat} {ho ho':HO} {ds:List D} {r:D} (hs:tJ P f (.mp 0) ho ds ho' r) (hm:bB P f=true)
  (hx:oev σ.J x=.mp id) (hH:σ.H id=some ho) (hno:oG ho=true) (hvis:fK σ.H (rest.map (oev σ.J))=[]) (hfr:fW σ.H (rest.map (oev σ.J))=some ds) (hlen:ho'.len=ho.len) (hno':oG ho'=true)
  (hk:k ⟨bT σ.J dst (inj r),upd σ.H id (some ho'),σ.n⟩ con):O1d P ⟨dst,.call ⟨.value (.func f),(x::rest).toArray,ts⟩,ty,pos,after,guard⟩ σ con k d:=by
 refine aRb hm ?_
 rw[hx]
 exact aCi (id:=id) (h:=.mp 0) hH hno hvis hfr hs hlen hno' hk
def sP{x y:Int}(hx:Sz x)(hy:Sz y):(aU (x+y).natAbs).length<=1099511627776:=by
 have h1:=gW (Ap (aU x.natAbs).length);have h2:=gW (Ap (aU y.natAbs).length);have h:(x+y).natAbs<4294967296^((aU x.natAbs).length+(aU y.natAbs).length+1):=by have e1:4294967296^(aU x.natAbs).length<=4294967296^((aU x.natAbs).length+(aU y.natAbs).length):=BW (by decide) (by omega);have e2:4294967296^(aU y.natAbs).length<=4294967296^((aU x.natAbs).length+(aU y.natAbs).length):=BW (by decide) (by omega);rw[Cp];generalize 4294967296^((aU x.natAbs).length+(aU y.natAbs).length)=p at *;omega
 have:=fZ h;unfold Sz at hx hy;omega
def bRr(m:List Nat):NM (aM m):=.sl _ (λcs h=>by obtain⟨x,_,rfl⟩:=AA.1 h;simp) λcs h c hc=>by obtain⟨x,_,rfl⟩:=AA.1 h;rw[AT]at hc;subst hc;exact .i _ _
def bRs(l:List (Int×Int)):NM (aK l):=.sl _ (λcs h=>by obtain⟨x,_,rfl⟩:=AA.1 h;simp[eL]) λcs h c hc=>by
 obtain⟨x,_,rfl⟩:=AA.1 h;simp only[eL,AG,List.mem_nil_iff,EB]at hc;rcases hc with rfl|rfl|rfl
 ·exact .i _ _
 ·exact .b _
 ·exact bRr _
def rE{P:Program}(σ:St):mY P [] σ=some (.tp []):=rfl
def aUf(m:List (Int×Int))(id k:Int)(hm:Sz (getM m id))(hk:Sz k):tJ Aa 174 (.mp 0) (.map .i64 (iJ m)) [.i .i64 id,encZ k] (.map .i64 (iJ (jZ m id k))) (.tp []):=by
 refine aJf (N:=20) bN Tryz.func174 rfl rfl rfl (by kernel_rfl) (by kernel_rfl) (by simp) ⟨_,_,rfl⟩ ⟨_,_,rfl⟩ (jC _) (aFh 8 _ rfl) ?_;have hml:=xL m id;have hz0:¬(fnd id m).isSome=true->getM m id=0:=λh=>by
  unfold getM;cases hf:fnd id m with
  |none=>rfl
  |some j=>rw[hf]at h;exact(h rfl).elim
 have hgo:∀z:Int,z=getM m id->True:=λ_ _=>trivial
 by_cases hs:(fnd id m).isSome=true
 ·rw[Ad hs]at hml;simp[-C,-I,↓KW,St1,aY,aD,aF,cC,hml,aBl];refine aJ (aMs (getM m id) k hm hk) ?_;simp[-C,-I,↓KW,aY,aD,aF];refine aJ (aDo _ _ (sP hm hk)) ?_;by_cases ht:getM m id+k=0
  ·have e1:strip (aU (getM m id+k).natAbs)=[]:=by rw[ht,show(0:Int).natAbs=0 from rfl,dH];rfl
   have e2:jZ m id k=wQ m id:=by unfold jZ;rw[Ad ht]
   simp[-C,-I,↓KW,e1,e2,cI,vX,rE]
  ·have e1:strip (aU (getM m id+k).natAbs)≠[]:=by rw[iW (cY _),dS,ne_eq,fP];omega
   have e2:jZ m id k=wO m id (getM m id+k):=by unfold jZ;rw[Ac ht]
   have e3:=vU m id (getM m id+k);unfold aBl at e3;by_cases hneg:getM m id+k<0
   ·simp[-C,-I,↓KW,e1,e2,hneg,cI,aD,aF,rE];have hd:decide (getM m id+k<0)=true:=by simpa using hneg
    rw[hd]at e3;exact e3
   ·simp[-C,-I,↓KW,e1,e2,hneg,cI,aD,aF,rE];have hd:decide (getM m id+k<0)=false:=by simpa using hneg
    rw[hd]at e3;exact e3
 ·rw[Ac hs]at hml;have h0:=hz0 hs;simp[-C,-I,↓KW,St1,aY,aD,aF,cC,hml,cv];refine bK (ds:=[encZ (getM m id),encZ k]) (by rw[h0,aKg];rfl) (aMs (getM m id) k hm hk) ?_;simp[-C,-I,↓KW,aY,aD,aF];refine aJ (aDo _ _ (sP hm hk)) ?_;by_cases ht:getM m id+k=0
  ·have e1:strip (aU (getM m id+k).natAbs)=[]:=by rw[ht,show(0:Int).natAbs=0 from rfl,dH];rfl
   have e2:jZ m id k=wQ m id:=by unfold jZ;rw[Ad ht]
   simp[-C,-I,↓KW,e1,e2,cI,vX,rE]
  ·have e1:strip (aU (getM m id+k).natAbs)≠[]:=by rw[iW (cY _),dS,ne_eq,fP];omega
   have e2:jZ m id k=wO m id (getM m id+k):=by unfold jZ;rw[Ac ht]
   have e3:=vU m id (getM m id+k);unfold aBl at e3;by_cases hneg:getM m id+k<0
   ·simp[-C,-I,↓KW,e1,e2,hneg,cI,aD,aF,rE];have hd:decide (getM m id+k<0)=true:=by simpa using hneg
    rw[hd]at e3;exact e3
   ·simp[-C,-I,↓KW,e1,e2,hneg,cI,aD,aF,rE];have hd:decide (getM m id+k<0)=false:=by simpa using hneg
    rw[hd]at e3;exact e3
def pP{m:List (Int×Int)}{M:Nat}(h:Bnd M m)(n:Int):(getM m n).natAbs<=M:=by
 unfold getM;cases hf:fnd n m with
 |none=>simp
 |some j =>
  obtain⟨z,hz⟩:=aGc hf;simp only[Af,hz,Bd];exact h _ (Aq hz)
def aWn(m:List Nat)(h:m.length<=1099511627776):Spec Aa 179 [aM m] (aM m):=aKn _ (by simp[bUm,one,h])
def chS(m:List (Int×Int))(n:Nat):Nat->St
 |0=>StL [(0,.mp 0),(3,.nil),(9,.d (.sl ((gZ (m.map (·.1))).map λn=>[.i .i64 n]))),(10,.d (.i .i64 n)),(11,.d (.i .i64 0))] (some (.map .i64 (iJ m))) []
 |i+1=>StL [(0,.mp 0),(3,.own 1 0 (i+1) 3),(9,.d (.sl ((gZ (m.map (·.1))).map λn=>[.i .i64 n]))),(10,.d (.i .i64 n)),(11,.d (.i .i64 ((i:Int)+1)))] (some (.map .i64 (iJ m))) [.cells 75 ((fcs ((gO m).take (i+1))).map .d)]
def aOv(m:List (Int×Int))(hS:∀n,Sz (getM m n))(hl:m.length<=1073741824)(hr:(m.map (·.1)).all inr=true):tJ Aa 175 (.mp 0) (.map .i64 (iJ m)) [] (.map .i64 (iJ m)) (aK (gO m)):=by
 refine aJf (N:=31) bN Tryz.func175 rfl rfl rfl (by kernel_rfl) (by kernel_rfl) (by simp) ⟨_,_,rfl⟩ ⟨_,_,rfl⟩ (jC _) (bRs _) ?_;simp[-C,-I,↓KW,St1];refine bRk Tryz.keys106 (by simp) (id:=0) (ho:=.map .i64 (iJ m)) (by simp[gM,dU]) (by simp) ?_;simp[-C,-I,↓KW,St1];refine bCp Tryz.sorted122 (by simp) (id:=0) (es:=iJ m) (by simp[gM,dU]) (by simp) (by simp[iJ];omega) (by rw[aKl];exact hr) ?_;rw[aKl];have hil:=aJz (m.map (·.1));rw[AL]at hil;obtain⟨n,hn⟩:∃n,m.length=n:=⟨_,rfl⟩;rw[hn]at hil;simp[-C,-I,↓KW,hil];have hcl:(gO m).length=n:=by simp[gO,hil]
 have hsub:∀(H H':Hp) (ρ:Nat->Nat),nC H H' ρ (.map .i64 (iJ m)) (.map .i64 (iJ m)):=λH H' ρ=>aEl λx hx=>by
  obtain⟨y,_,rfl⟩:=AA.1 hx;refine⟨rfl,λk c d hc hd=>?_⟩;rw[hc]at hd;injection hd with hd;subst hd
  rcases k with _|_|k
  ·simp at hc;subst hc;exact(kL _ _).2 rfl
  ·simp at hc;subst hc;exact(kL _ _).2 rfl
  ·simp at hc
 have hkl:∀q∈gZ (m.map (·.1)),rI (iJ m) q=some (aBl (getM m q)):=λq hq=>by rw[xL,Ad (aGd ((rN q _).1 hq))]
 refine aP (λi:Nat=>i<=n) (chS m n) (λi=>n-i) 0 (Al _) ?_ ?_
 ·refine⟨_,aCv [] (by simp) ?_ ?_ ?_⟩
  ·simp[-C,upd,aO,Γ0]
  ·intro o' ho';injection ho' with ho';subst ho'
   exact⟨_,by simp[dU],hsub _ _ _⟩
  ·trivial
 ·intro i hi;by_cases hgo:i<n
  ·have hql:i<(gZ (m.map (·.1))).length:=by omega
   have hq:=Ab hql;have hqm:=Ar hql;have hml:=hkl _ hqm;have htk:(gO m).take (i+1)=(gO m).take i++[((gZ (m.map (·.1)))[i],getM m (gZ (m.map (·.1)))[i])]:=by rw[AM];simp[gO,hq]
   generalize(gZ (m.map (·.1)))[i]=q at *;have hcl1:=aWn (aU (getM m q).natAbs) (An (hS q) (by decide));rcases i with _|j
   ·have q1:(0:Int)<n:=by omega
    have q1':0<n:=hgo;have g0:(gZ (AQ (λx=>x.fst) m)).head? = some q:=by rw[List.head?_eq_getElem?];exact hq
    unfold chS;simp[-C,-I,↓KW,q1',hq,g0,cC,hml,aBl,aD,aF];refine aJ hcl1 ?_;have hw:Ag.wrap 1=1:=by decide
    have h1:(1:Nat)<=maxLen:=aS (by decide);rw[Cc,List.nil_append]at htk;simp[-C,-I,↓KW,aD,aF,aG,aZ,aW,hw,h1];refine aI 1 hgo (slQ hgo) ?_;simp only[chS];refine⟨_,aCv [3] (by simp) ?_ ?_ ?_⟩
    ·simp[-C,upd,aO,Γ0,htk]
    ·intro o' ho';injection ho' with ho';subst ho'
     exact⟨_,by simp[dU,aHd,aBy],hsub _ _ _⟩
    ·simp[-C,upd,aO,Γ0,htk,dM]
   ·have q1:(j:Int)+1<n:=by omega
    have q5:(0:Int)<=(j:Int)+1:=by omega
    have hlt:((gO m).take (j+1)).length=j+1:=by simp[hcl];omega
    have hfl:=wC ((gO m).take (j+1));rw[hlt]at hfl;have hw:Ag.wrap ((j:Int)+1+1)=(j:Int)+1+1:=aV;have hb:=cH (n:=j+1) (by omega);show AWP _ _ (StL [(0,.mp 0),(3,.own 1 0 (j+1) 3),(9,.d (.sl ((gZ (m.map (·.1))).map λn=>[.i .i64 n]))),(10,.d (.i .i64 n)),(11,.d (.i .i64 ((j:Int)+1)))] (some (.map .i64 (iJ m))) [.cells 75 ((fcs ((gO m).take (j+1))).map .d)]) _;generalize(gO m).take (j+1)=out at *;simp[-C,-I,↓KW,q1,q5,hq,cC,hml,aBl,aD,aF];refine aJ hcl1 ?_;simp[-C,-I,↓KW,aD,aF,aG,aZ,aW,hw,hb,hfl,aS];refine aI (j+1+1) hgo (slQ hgo) ?_;simp only[chS];refine⟨_,aCv [4] (by simp) ?_ ?_ ?_⟩
    ·simp[-C,upd,aO,Γ0,htk]
    ·intro o' ho';injection ho' with ho';subst ho'
     exact⟨_,by simp[dU,aHd,aBy],hsub _ _ _⟩
    ·simp[-C,upd,aO,Γ0,htk,fT,dM]
  ·have e:i=n:=by omega
   rcases i with _|j
   ·have q1:¬0<n:=by omega
    have hch:gO m=[]:=AE (by omega);unfold chS;simp[-C,-I,↓KW,q1,hch,aK]
   ·have q1:¬(j:Int)+1<n:=by omega
    have e2:(gO m).take (j+1)=gO m:=Ai (by omega);have hlt:(gO m).length=j+1:=by omega
    have hfl:=wC (gO m);rw[hlt]at hfl;unfold chS;simp[-C,-I,↓KW,q1,e2,hfl,hlt,wG hlt,oU hlt,aK]
def Keys(m:List (Int×Int)):Prop:=∀x∈m,inr x.1=true
def Keys.all{m:List (Int×Int)}(h:Keys m):(m.map (·.1)).all inr=true:=by rw[Ay];intro x hx;obtain⟨y,hy,rfl⟩:=AA.1 hx;exact h y hy
def aTn{m:List (Int×Int)}{n k:Int}{x:Int×Int}(h:x∈jZ m n k):x∈m\/x=(n,getM m n+k):=by
 unfold jZ at h;split at h
 ·unfold wQ at h;split at h
  ·exact .inl (List.mem_of_mem_eraseIdx h)
  ·exact .inl h
 ·unfold wO at h;split at h
  ·rcases EY h with h|h
   ·exact .inl h
   ·exact .inr h
  ·rcases A5.1 h with h|h
   ·exact .inl h
   ·exact .inr (by simpa using h)
def bNz(m:List (Int×Int))(n k:Int):(jZ m n k).length<=m.length+1:=by
 unfold jZ;split
 ·unfold wQ;split
  ·exact An (List.length_eraseIdx_le ..) (by omega)
  ·omega
 ·unfold wO;split
  ·simp
  ·simp
def bOa{m:List (Int×Int)}{n k:Int}{M K:Nat}(hm:Bnd M m)(hk:k.natAbs<=K):Bnd (M+K) (jZ m n k):=λx hx=>by
 rcases aTn hx with h|rfl
 ·have:=hm x h;omega
 ·have:=pP hm n;simp only;omega
def bEu{m:List (Int×Int)}{n k:Int}(hm:Keys m)(hn:inr n=true):Keys (jZ m n k):=λx hx=>by
 rcases aTn hx with h|rfl
 ·exact hm x h
 ·exact hn
def fF(m:List (Int×Int))(l:List (Int×Int)):List (Int×Int):=l.foldl (λm f=>jZ m f.1 f.2) m
def aAl(m l:List (Int×Int))(i:Nat)(h:i<l.length):fF m (l.take (i+1))=jZ (fF m (l.take i)) l[i].1 l[i].2:=by unfold fF;rw[AM,Ab h,Dl];rfl
def aEj(m:List (Int×Int)):∀l:List (Int×Int),(fF m l).length<=m.length+l.length:=by
 intro l;unfold fF;induction l generalizing m with
 |nil=>simp
 |cons x l ih =>
  have h1:=ih (jZ m x.1 x.2);have h2:=bNz m x.1 x.2;simp only[C6,AH];omega
def rB{M K:Nat}:∀(l m:List (Int×Int)),Bnd M m->Bnd K l->Bnd (M+l.length*K) (fF m l)
 |[],m,hm,_=>by simpa[fF]using hm
 |x::l,m,hm,hl=>by have h1:=bOa (n:=x.1) hm (hl x (Av ..));have h2:=rB l (jZ m x.1 x.2) h1 (λy hy=>hl y (Au _ hy));refine(show Bnd _ (fF (jZ m x.1 x.2) l)from h2).mono ?_;rw[AH,By,CZ];omega
def vG:∀(l m:List (Int×Int)),Keys m->Keys l->Keys (fF m l)
 |[],m,hm,_=>hm
 |x::l,m,hm,hl=>vG l (jZ m x.1 x.2) (bEu hm (hl x (Av ..))) λy hy=>hl y (Au _ hy)
def lI{H H':Hp}{ρ:Nat->Nat}(m:List (Int×Int)):nC H H' ρ (.map .i64 (iJ m)) (.map .i64 (iJ m)):=aEl λx hx=>by
 obtain⟨y,_,rfl⟩:=AA.1 hx;refine⟨rfl,λk c d hc hd=>?_⟩;rw[hc]at hd;injection hd with hd;subst hd
 rcases k with _|_|k
 ·simp at hc;subst hc;exact(kL _ _).2 rfl
 ·simp at hc;subst hc;exact(kL _ _).2 rfl
 ·simp at hc
def jG{H H':Hp}{ρ:Nat->Nat}(m:List (Int×Int)):nC H H' ρ (.map .i64 (iJ m)) (.map .i64 (iJ m))↔True:=⟨λ_=>trivial,λ_=>lI m⟩
def aWo(l:List (Int×Int))(M:Nat)(hM:(aU (l.length*M)).length<=137438953472)(hb:Bnd M l)(hk:Keys l)(hl:l.length<=1073741824):Spec Aa 168 [aK l] (aK (gO (fF [] l))):=by
 refine qP (N:=22) Tryz.func168 bHn ?_;simp[-C,-I,↓KW,aK];refine aP (λi:Nat=>i<=l.length) (λi=>StL [(3,.mp 1),(7,.d (aK l)),(8,.d (.i .i64 l.length)),(9,.d (.i .i64 i))] none [.map .i64 (iJ (fF [] (l.take i)))]) (λi=>l.length-i) 0 (Al _) ?_ ?_
 ·refine wkQ [1] ?_ ?_
  ·simp[-C,upd,aO,Γ0,aK]
  ·exact⟨⟨_,by simp[dU];rfl,lI []⟩,trivial⟩
 ·intro i hi;have hbt:Bnd M (l.take i):=λx hx=>hb x (Cm hx)
  have hbo:=rB (l.take i) [] (Bnd.nil 0) hbt;have hko:=vG (l.take i) [] (λ_ h=>by cases h) (λx hx=>hk x (Cm hx));have hlo:=aEj [] (l.take i);have hti:(l.take i).length=i:=by simp;omega
  rw[hti]at hbo hlo;have hle:0+i*M<=l.length*M:=by rw[A6];exact A8 _ (by omega)
  by_cases hgo:i<l.length
  ·have q1:(i:Int)<l.length:=by omega
   have hw7:Ag.wrap ((i:Int)+1)=(i:Int)+1:=aV;have g1:l[i]? = some l[i]:=Ab hgo;have hsu:=aAl [] l i hgo;have hbx:=hb _ (Ar hgo);have hle2:M<=l.length*M:=by have:1*M<=l.length*M:=A8 _ (by omega);rwa [CZ]at this
   generalize l[i]=x at *;obtain⟨xi,xc⟩:=x;generalize fF [] (l.take i)=m at *;simp only at hbx hsu;have hadd:=aUf m xi xc (gU (An (pP hbo xi) hle) hM) (gU (An hbx hle2) hM);simp[-C,-I,↓KW,aK,q1,g1,bE,aF,aD];refine tZ hadd (by simp) (id:=1) (by simp[gM,dU]) (by simp[dU,nP]) (jC _) (by simp[gM,dU,vE,qZ,aOn,aLj]) (by simp[gM,dU];rfl) rfl (jC _) ?_;simp[-C,-I,↓KW,hw7];refine aI (i+1) hgo (AF hgo (AK i)) (wkQ [1] ?_ ?_)
   ·simp[-C,upd,aO,Γ0,aK]
   ·rw[hsu];exact⟨⟨_,by simp[dU],lI _⟩,trivial⟩
  ·have q1:¬(i:Int)<l.length:=by omega
   have e:l.take i=l:=Ai (by omega);have ei:i=l.length:=by omega
   rw[e]at hbo hko hlo;rw[ei]at hbo hlo;generalize hmm:fF [] l=m at *;have hbo':Bnd (l.length*M) m:=hbo.mono (by omega);simp only[e,hmm];simp[-C,-I,↓KW,q1];refine tZ (aOv m (λq=>gU (pP hbo' q) hM) (by simp at hlo;omega) hko.all) (by simp) (id:=1) (by simp[gM,dU,aLu]) (by simp[dU,nP]) (jC _) (by simp[qZ]) (by rfl) rfl (jC _) ?_;simp[-C,-I,↓KW,aK]
def bEf(a b:List (Int×Int))(k:Int)(A M K:Nat)(ha:Bnd A a)(hb:Bnd M b)(hk:k.natAbs<=K)(hA:(aU (a.length*A+b.length*(K*M))).length<=137438953472)(hA1:(aU A).length<=137438953472)(hKM:(aU (K*M)).length<=137438953472)(hK:(aU K).length<=137438953472)
  (hM:(aU M).length<=137438953472) (hka:Keys a) (hkb:Keys b) (hl:a.length+b.length<=1073741824):Spec Aa 219 [aK a,aK b,encZ k] (aK (gO (fF (fF [] a) (mulR k b)))):=by
 refine qP (N:=43) Tryz.func219 bHm ?_
 simp[-C,-I,↓KW,aK,aY,aF,aD]
 refine aP (λi:Nat=>i<=a.length) (λi=>StL [(1,.d (aK b)),(5,.ptr 1 0),(7,.mp 2),(13,.d (aK a)),(14,.d (.i .i64 a.length)),(15,.d (.i .i64 i))] none [.cells 72 [.d (.b (decide (k<0))),.d (aM (aU k.natAbs))],.map .i64 (iJ (fF [] (a.take i)))]) (λi=>a.length-i) 0 (Al _) ?_ ?_
 ·refine wkQ [1,2] ?_ ?_
  ·simp[-C,upd,aO,Γ0,aK]
  ·exact⟨⟨_,by simp[dU];rfl,by simp[-C,upd,aO,Γ0]⟩,⟨_,by simp[dU];rfl,lI []⟩,trivial⟩
 ·intro i hi
  have hbt:Bnd A (a.take i):=λx hx=>ha x (Cm hx)
  have hbo:=rB (a.take i) [] (Bnd.nil 0) hbt
  have hti:(a.take i).length=i:=by simp;omega
  rw[hti]at hbo
  have hle:0+i*A<=a.length*A+b.length*(K*M):=by rw[A6];exact An (A8 _ (by omega)) (Nat.le_add_right _ _)
  by_cases hgo:i<a.length
  ·have q1:(i:Int)<a.length:=by omega
   have hw7:Ag.wrap ((i:Int)+1)=(i:Int)+1:=aV
   have g1:a[i]? = some a[i]:=Ab hgo
   have hsu:=aAl [] a i hgo
   have hbx:=ha _ (Ar hgo)
   generalize a[i]=x at *
   obtain⟨xi,xc⟩:=x
   generalize fF [] (a.take i)=m at *
   simp only at hbx hsu
   have hadd:=aUf m xi xc (gU (An (pP hbo xi) hle) hA) (gU hbx hA1)
   simp[-C,-I,↓KW,aK,q1,g1,bE,aF,aD]
   refine tZ hadd (by simp) (id:=2) (by simp[gM,dU]) (by simp[dU,nP]) (jC _) (by simp[gM,dU,vE,qZ,aOn,aLj]) (by simp[gM,dU];rfl) rfl (jC _) ?_
   simp[-C,-I,↓KW,hw7]
   refine aI (i+1) hgo (AF hgo (AK i)) (wkQ [1,2] ?_ ?_)
   ·simp[-C,upd,aO,Γ0,aK]
   ·rw[hsu]
    exact⟨⟨_,by simp[dU,nP];rfl,by simp[-C,upd,aO,Γ0]⟩,⟨_,by simp[dU],lI _⟩,trivial⟩
  ·have q1:¬(i:Int)<a.length:=by omega
   have e:a.take i=a:=Ai (by omega)
   have hba:=rB a [] (Bnd.nil 0) ha
   have hka':=vG a [] (λ_ h=>by cases h) hka
   have hla:=aEj [] a
   simp only[e]
   generalize fF [] a=ma at *
   simp[-C,-I,↓KW,q1,aK]
   have hlm:(mulR k b).length=b.length:=by simp[mulR]
   have hkm:Keys (mulR k b):=λx hx=>by obtain⟨y,hy,rfl⟩:=AA.1 hx;exact hkb y hy
   refine aP (λj:Nat=>j<=b.length) (λj=>StL [(5,.ptr 1 0),(7,.mp 2),(26,.d (aK b)),(27,.d (.i .i64 b.length)),(28,.d (.i .i64 j))] none [.cells 72 [.d (.b (decide (k<0))),.d (aM (aU k.natAbs))],.map .i64 (iJ (fF ma ((mulR k b).take j)))]) (λj=>b.length-j) 0 (Al _) ?_ ?_
   ·refine wkQ [1,2] ?_ ?_
    ·simp[-C,upd,aO,Γ0,aK]
    ·exact⟨⟨_,by simp[dU,nP];rfl,by simp[-C,upd,aO,Γ0]⟩,⟨_,by simp[dU,nP,fF],lI _⟩,trivial⟩
   ·intro j hj
    have hbt2:Bnd (K*M) ((mulR k b).take j):=λx hx=>pI hk hb x (Cm hx)
    have hbo2:=rB ((mulR k b).take j) ma hba hbt2
    have htj:((mulR k b).take j).length=j:=by simp;omega
    rw[htj]at hbo2
    have hle2:0+a.length*A+j*(K*M)<=a.length*A+b.length*(K*M):=by rw[A6];exact FV (A8 _ (by omega)) _
    by_cases hgo2:j<b.length
    ·have q2:(j:Int)<b.length:=by omega
     have hw7:Ag.wrap ((j:Int)+1)=(j:Int)+1:=aV
     have g1:b[j]? = some b[j]:=Ab hgo2
     have hsu:=aAl ma (mulR k b) j (by omega)
     have hgm:(mulR k b)[j]'(by omega)=(b[j].1,k*b[j].2):=by simp[mulR]
     rw[hgm]at hsu
     have hbx:=hb _ (Ar hgo2)
     generalize b[j]=x at *
     obtain⟨xi,xc⟩:=x
     generalize fF ma ((mulR k b).take j)=m at *
     simp only at hbx hsu
     have hkx:(k*xc).natAbs<=K*M:=by rw[BX];exact Cs hk hbx
     have hadd:=aUf m xi (k*xc) (gU (An (pP hbo2 xi) hle2) hA) (gU hkx hKM)
     simp[-C,-I,↓KW,aK,q2,g1,bE,aF,aD]
     refine aJ (aMr k xc (gU hk hK) (gU hbx hM)) ?_
     simp[-C,-I,↓KW,aY,aF,aD]
     refine tZ hadd (by simp) (id:=2) (by simp[gM,dU]) (by simp[dU,nP]) (jC _) (by simp[gM,dU,vE,qZ,aOn,aLj]) (by simp[gM,dU];rfl) rfl (jC _) ?_
     simp[-C,-I,↓KW,hw7]
     refine aI (j+1) hgo2 (AF hgo2 (AK j)) (wkQ [1,2] ?_ ?_)
     ·simp[-C,upd,aO,Γ0,aK]
     ·rw[hsu]
      exact⟨⟨_,by simp[dU,nP];rfl,by simp[-C,upd,aO,Γ0]⟩,⟨_,by simp[dU],lI _⟩,trivial⟩
    ·have q2:¬(j:Int)<b.length:=by omega
     have e2:(mulR k b).take j=mulR k b:=Ai (by omega)
     have ej:j=b.length:=by omega
     have hko:=vG (mulR k b) ma hka' hkm
     have hlo:=aEj ma (mulR k b)
     rw[e2]at hbo2
     simp only[e2]
     generalize fF ma (mulR k b)=m at *
     have hbo3:=hbo2.mono hle2
     simp[-C,-I,↓KW,q2]
     refine tZ (aOv m (λq=>gU (pP hbo3 q) hA) (by simp at hla;omega) hko.all) (by simp) (id:=2) (by simp[gM,dU,aLu]) (by simp[dU,nP]) (jC _) (by simp[qZ]) (by rfl) rfl (jC _) ?_
     simp[-C,-I,↓KW,aK]
def aKa(z:Int)(hl:Sz z):Spec Aa 143 [encZ z] (.b true):=by
 have:=bKm (decide (z<0)) (aU z.natAbs) (An hl (by decide));have hc:=lF z.natAbs;unfold oL at hc;cases h:(aU z.natAbs).getLast? with
 |none =>
  have hz:=fP.1 (EZ.1 h);have e:(!decide (z<0))=true:=by simp;omega
  rw[h]at this;have this2:Spec Aa 143 [encI (decide (z<0)) (aU z.natAbs)] (.b (!decide (z<0))):=this;rw[e]at this2;exact this2
 |some x =>
  rw[h]at hc this;have e:(x != 0)=true:=by simpa using hc
  have this2:Spec Aa 143 [encI (decide (z<0)) (aU z.natAbs)] (.b (x != 0)):=this;rw[e]at this2;exact this2
def Val(l:List (Int×Int)):Prop:=l.Pairwise (λx y=>x.1<y.1)/\∀x∈l,x.2≠0
def cL(x:Int×Int)(l:List (Int×Int))(n:Int):getM (x::l) n=if x.1=n then x.2 else getM l n:=by
 unfold getM;by_cases h:x.1=n
 ·have e:fnd n (x::l)=some 0:=by unfold fnd;rw[Ad h]
  rw[e,Ad h];rfl
 ·have e:fnd n (x::l)=(fnd n l).map (·+1):=by show(if x.1=n then some 0 else(fnd n l).map (·+1))=_;rw[Ac h]
  rw[e,Ac h];cases fnd n l with
  |none=>rfl
  |some j=>simp
def gX(n:Int):getM [] n=0:=rfl
def iA{l:List (Int×Int)}{n:Int}(h:∀y∈l,y.1≠n):getM l n=0:=by
 induction l with
 |nil=>rfl
 |cons x l ih =>
  rw[cL,Ac (h x (Av ..))];exact ih λy hy=>h y (Au _ hy)
def Val.tail{x:Int×Int}{l:List (Int×Int)}(h:Val (x::l)):Val l/\(∀y∈l,x.1<y.1)/\x.2≠0 :=
 ⟨⟨(Bk.1 h.1).2,λy hy=>h.2 y (Au _ hy)⟩,(Bk.1 h.1).1,h.2 x (Av ..)⟩
def Val.cons{x:Int×Int}{l:List (Int×Int)}(h:Val l)(h1:∀y∈l,x.1<y.1)(h2:x.2≠0):Val (x::l) :=
 ⟨Bk.2 ⟨h1,h.1⟩,λy hy=>by
  rcases AG.1 hy with rfl|hy
  ·exact h2
  ·exact h.2 y hy⟩
def Val.nil:Val []:=⟨List.Pairwise.nil,λ_ h=>by cases h⟩
def Val.ext:∀{a b:List (Int×Int)},Val a->Val b->(∀n,getM a n=getM b n)->a=b
 |[],[],_,_,_=>rfl
 |[],y::b,_,hb,h=>by have:=h y.1;rw[gX,cL,Ad rfl]at this;exact(hb.tail.2.2 this.symm).elim
 |x::a,[],ha,_,h=>by have:=h x.1;rw[gX,cL,Ad rfl]at this;exact(ha.tail.2.2 this).elim
 |x::a,y::b,ha,hb,h=>by
  obtain⟨a1,a2,a3⟩:=ha.tail;obtain⟨b1,b2,b3⟩:=hb.tail;rcases EH x.1 y.1 with hxy|hxy|hxy
  ·exfalso;have:=h x.1;rw[cL,Ad rfl,cL,Ac (by omega),iA (λz hz=>by have:=b2 z hz;omega)]at this;exact a3 this
  ·have h1:=h x.1;rw[cL,Ad rfl,cL,Ad hxy.symm]at h1;have e:x=y:=Prod.ext hxy h1;subst e;rw[Val.ext a1 b1 λn=>by
    by_cases hn:x.1=n
    ·subst hn;rw[iA (λz hz=>by have:=a2 z hz;omega),iA (λz hz=>by have:=b2 z hz;omega)]
    ·have:=h n;rwa [cL,Ac hn,cL,Ac hn]at this]
  ·exfalso;have:=h y.1;rw[cL,Ac (by omega),iA (λz hz=>by have:=a2 z hz;omega),cL,Ad rfl]at this;exact b3 this.symm
def aBd(id z:Int):List (Int×Int)->List (Int×Int)
 |[]=>[(id,z)]
 |x::l=>if x.1>id then(id,z)::x::l else if x.1=id then(if x.2+z=0 then l else(id,x.2+z)::l)else x::aBd id z l
def pQ(id z:Int):∀(l out:List (Int×Int)),l.foldl (gA id z) (out,true)=(out++l,true)
 |[],out=>by simp
 |x::l,out=>by have e:gA id z (out,true) x=(out++[x],true):=rfl;rw[C6,e,pQ id z l];simp
def bYz(f:Int×Int)(s:List (Int×Int)×Bool):List (Int×Int):=if s.2 then s.1 else s.1++[f]
def wB(f:Int×Int)(out:List (Int×Int)):bYz f (out,true)=out:=rfl
def aGb(id z:Int):∀(l out:List (Int×Int)),bYz (id,z) (l.foldl (gA id z) (out,false))=out++aBd id z l
 |[],out=>rfl
 |x::l,out=>by
  rw[C6,aBd];by_cases h1:x.1>id
  ·have e:gA id z (out,false) x=(out++[(id,z),x],true):=by simp[gA,h1]
   rw[e,pQ,Ad h1,wB];simp
  ·rw[Ac h1];by_cases h2:x.1=id
   ·rw[Ad h2];by_cases h3:x.2+z=0
    ·have e:gA id z (out,false) x=(out,true):=by simp[gA,h1,h2,h3]
     rw[e,pQ,Ad h3,wB]
    ·have e:gA id z (out,false) x=(out++[(id,x.2+z)],true):=by simp[gA,h1,h2,h3]
     rw[e,pQ,Ac h3,wB];simp
   ·rw[Ac h2];have e:gA id z (out,false) x=(out++[x],false):=by simp[gA,h1,h2]
    rw[e,aGb id z l (out++[x])];simp
def aZn(l:List (Int×Int))(id z:Int):oS l (id,z)=if z=0 then l else aBd id z l:=by
 have e:oS l (id,z)=bYz (id,z) (l.foldl (gA id z) ([],decide (z=0))):=rfl;rw[e];by_cases h:z=0
 ·rw[Ad h];have:decide (z=0)=true:=by simpa using h
  rw[this,pQ,wB];simp
 ·rw[Ac h];have:decide (z=0)=false:=by simpa using h
  rw[this,aGb];simp
def aRx{id z:Int}(hz:z≠0):∀{l:List (Int×Int)},Val l->Val (aBd id z l)/\(∀y∈aBd id z l,y.1=id\/∃x∈l,x.1=y.1)/\∀n,getM (aBd id z l) n=getM l n+if n=id then z else 0
 |[],_=>by
  refine⟨Val.nil.cons (λy hy=>by cases hy) hz,λy hy=>?_,λn=>?_⟩
  ·simp[aBd]at hy;subst hy;exact .inl rfl
  ·simp only[aBd,cL,gX];by_cases h:n=id
   ·subst h;simp
   ·rw[Ac (λe=>h e.symm),Ac h];rfl
 |x::l,h=>by
  obtain⟨h1,h2,h3⟩:=h.tail;simp only[aBd];by_cases hgt:x.1>id
  ·rw[Ad hgt];refine⟨h.cons (λy hy=>?_) hz,λy hy=>?_,λn=>?_⟩
   ·rcases AG.1 hy with rfl|hy
    ·exact hgt
    ·have:=h2 y hy;simp only;omega
   ·rcases AG.1 hy with rfl|hy
    ·exact .inl rfl
    ·exact .inr ⟨y,hy,rfl⟩
   ·rw[cL];by_cases hn:n=id
    ·subst hn;rw[Ad rfl,Ad rfl,iA (l:=x::l) λy hy=>?_,Int.zero_add];rcases AG.1 hy with rfl|hy
     ·omega
     ·have:=h2 y hy;omega
    ·rw[Ac (λe=>hn e.symm),Ac hn,Dn]
  ·rw[Ac hgt];by_cases heq:x.1=id
   ·rw[Ad heq];by_cases h0:x.2+z=0
    ·rw[Ad h0];refine⟨h1,λy hy=>.inr ⟨y,Au _ hy,rfl⟩,λn=>?_⟩;rw[cL];by_cases hn:n=id
     ·subst hn;rw[Ad heq,Ad rfl,iA (λy hy=>by have:=h2 y hy;omega)];omega
     ·rw[Ac (by omega),Ac hn,Dn]
    ·rw[Ac h0];refine⟨h1.cons (λy hy=>by have:=h2 y hy;simp only;omega) h0,λy hy=>?_,λn=>?_⟩
     ·rcases AG.1 hy with rfl|hy
      ·exact .inl rfl
      ·exact .inr ⟨y,Au _ hy,rfl⟩
     ·rw[cL,cL];by_cases hn:n=id
      ·subst hn;rw[Ad rfl,Ad heq,Ad rfl]
      ·rw[Ac (λe=>hn e.symm),Ac (by omega),Ac hn,Dn]
   ·rw[Ac heq];obtain⟨i1,i2,i3⟩:=aRx (id:=id) hz h1;refine⟨i1.cons (λy hy=>?_) h3,λy hy=>?_,λn=>?_⟩
    ·rcases i2 y hy with h|⟨w,hw,h⟩
     ·omega
     ·have:=h2 w hw;omega
    ·rcases AG.1 hy with rfl|hy
     ·exact .inr ⟨_,Av ..,rfl⟩
     ·rcases i2 y hy with h|⟨w,hw,h⟩
      ·exact .inl h
      ·exact .inr ⟨w,Au _ hw,h⟩
    ·rw[cL,cL,i3 n];by_cases hx:x.1=n
     ·rw[Ad hx,Ad hx,Ac (by omega)];omega
     ·rw[Ac hx,Ac hx]
def bKs{l:List (Int×Int)}(h:Val l)(f:Int×Int):Val (oS l f)/\∀n,getM (oS l f) n=getM l n+if n=f.1 then f.2 else 0:=by
 obtain⟨id,z⟩:=f;rw[aZn];by_cases hz:z=0
 ·rw[Ad hz];exact⟨h,λn=>by simp only[hz];simp⟩
 ·rw[Ac hz];obtain⟨h1,_,h3⟩:=aRx (id:=id) hz h;exact⟨h1,h3⟩
def cf(n:Int):List (Int×Int)->Int
 |[]=>0
 |x::l=>(if n=x.1 then x.2 else 0)+cf n l
def cS:∀(b a:List (Int×Int)),Val a->Val (cF a b)/\∀n,getM (cF a b) n=getM a n+cf n b
 |[],a,h=>⟨h,λn=>by simp[cF,cf]⟩
 |x::b,a,h=>by obtain⟨h1,h2⟩:=bKs h x;obtain⟨h3,h4⟩:=cS b (oS a x) h1;refine⟨h3,λn=>?_⟩;show getM (cF (oS a x) b) n=_;rw[h4 n,h2 n];simp only[cf];omega
def bCc(x:Int×Int)(m:List (Int×Int))(n v:Int):wO (x::m) n v=if x.1=n then(n,v)::m else x::wO m n v:=by
 unfold wO;by_cases h:x.1=n
 ·have e:fnd n (x::m)=some 0:=by unfold fnd;rw[Ad h]
  rw[e,Ad h];rfl
 ·have e:fnd n (x::m)=(fnd n m).map (·+1):=by show(if x.1=n then some 0 else(fnd n m).map (·+1))=_;rw[Ac h]
  rw[e,Ac h];cases fnd n m with
  |none=>rfl
  |some j=>simp
def bEa(x:Int×Int)(m:List (Int×Int))(n:Int):wQ (x::m) n=if x.1=n then m else x::wQ m n:=by
 unfold wQ;by_cases h:x.1=n
 ·have e:fnd n (x::m)=some 0:=by unfold fnd;rw[Ad h]
  rw[e,Ad h];rfl
 ·have e:fnd n (x::m)=(fnd n m).map (·+1):=by show(if x.1=n then some 0 else(fnd n m).map (·+1))=_;rw[Ac h]
  rw[e,Ac h];cases fnd n m with
  |none=>rfl
  |some j=>simp
def Mp(m:List (Int×Int)):Prop:=m.Pairwise (λx y=>x.1≠y.1)/\∀x∈m,x.2≠0
def Mp.tail{x:Int×Int}{l:List (Int×Int)}(h:Mp (x::l)):Mp l/\(∀y∈l,x.1≠y.1)/\x.2≠0 :=
 ⟨⟨(Bk.1 h.1).2,λy hy=>h.2 y (Au _ hy)⟩,(Bk.1 h.1).1,h.2 x (Av ..)⟩
def Mp.cons{x:Int×Int}{l:List (Int×Int)}(h:Mp l)(h1:∀y∈l,x.1≠y.1)(h2:x.2≠0):Mp (x::l) :=
 ⟨Bk.2 ⟨h1,h.1⟩,λy hy=>by
  rcases AG.1 hy with rfl|hy
  ·exact h2
  ·exact h.2 y hy⟩
def Mp.nil:Mp []:=⟨List.Pairwise.nil,λ_ h=>by cases h⟩
def aYm{n v:Int}(hv:v≠0):∀{m:List (Int×Int)},Mp m->Mp (wO m n v)/\(∀y∈wO m n v,y.1=n\/∃x∈m,x.1=y.1)/\∀k,getM (wO m n v) k=if k=n then v else getM m k
 |[],_=>by
  have e:wO [] n v=[(n,v)]:=rfl;rw[e];refine⟨Mp.nil.cons (λy hy=>by cases hy) hv,λy hy=>?_,λk=>?_⟩
  ·simp at hy;subst hy;exact .inl rfl
  ·rw[cL];by_cases h:k=n
   ·subst h;simp
   ·rw[Ac (λe=>h e.symm),Ac h]
 |x::m,h=>by
  obtain⟨h1,h2,h3⟩:=h.tail;rw[bCc];by_cases hx:x.1=n
  ·rw[Ad hx];refine⟨h1.cons (λy hy=>by have:=h2 y hy;simp only;omega) hv,λy hy=>?_,λk=>?_⟩
   ·rcases AG.1 hy with rfl|hy
    ·exact .inl rfl
    ·exact .inr ⟨y,Au _ hy,rfl⟩
   ·rw[cL,cL];by_cases h:k=n
    ·subst h;simp
    ·rw[Ac (λe=>h e.symm),Ac h,Ac (by omega)]
  ·rw[Ac hx];obtain⟨i1,i2,i3⟩:=aYm (n:=n) hv h1;refine⟨i1.cons (λy hy=>?_) h3,λy hy=>?_,λk=>?_⟩
   ·rcases i2 y hy with h|⟨w,hw,h⟩
    ·omega
    ·have:=h2 w hw;omega
   ·rcases AG.1 hy with rfl|hy
    ·exact .inr ⟨_,Av ..,rfl⟩
    ·rcases i2 y hy with h|⟨w,hw,h⟩
     ·exact .inl h
     ·exact .inr ⟨w,Au _ hw,h⟩
   ·rw[cL,cL,i3 k];by_cases hk:x.1=k
    ·rw[Ad hk,Ad hk,Ac (by omega)]
    ·rw[Ac hk,Ac hk]
def aZz{n:Int}:∀{m:List (Int×Int)},Mp m->Mp (wQ m n)/\(∀y∈wQ m n,y∈m)/\∀k,getM (wQ m n) k=if k=n then 0 else getM m k
 |[],h=>⟨h,λy hy=>hy,λk=>by
   have e:wQ [] n=[]:=rfl;rw[e,gX];simp⟩
 |x::m,h=>by
  obtain⟨h1,h2,h3⟩:=h.tail;rw[bEa];by_cases hx:x.1=n
  ·rw[Ad hx];refine⟨h1,λy hy=>Au _ hy,λk=>?_⟩;rw[cL];by_cases hk:k=n
   ·subst hk;rw[Ad rfl,iA (λy hy=>by have:=h2 y hy;omega)]
   ·rw[Ac hk,Ac (by omega)]
  ·rw[Ac hx];obtain⟨i1,i2,i3⟩:=aZz (n:=n) h1;refine⟨i1.cons (λy hy=>h2 y (i2 y hy)) h3,λy hy=>?_,λk=>?_⟩
   ·rcases AG.1 hy with rfl|hy
    ·exact Av ..
    ·exact Au _ (i2 y hy)
   ·rw[cL,cL,i3 k];by_cases hk:x.1=k
    ·rw[Ad hk,Ad hk,Ac (by omega)]
    ·rw[Ac hk,Ac hk]
def bVc{m:List (Int×Int)}(h:Mp m)(n k:Int):Mp (jZ m n k)/\∀j,getM (jZ m n k) j=getM m j+if j=n then k else 0:=by
 unfold jZ;by_cases h0:getM m n+k=0
 ·rw[Ad h0];obtain⟨h1,_,h3⟩:=aZz (n:=n) h;refine⟨h1,λj=>?_⟩;rw[h3 j];by_cases hj:j=n
  ·subst hj;rw[Ad rfl,Ad rfl];omega
  ·rw[Ac hj,Ac hj];omega
 ·rw[Ac h0];obtain⟨h1,_,h3⟩:=aYm (n:=n) h0 h;refine⟨h1,λj=>?_⟩;rw[h3 j];by_cases hj:j=n
  ·subst hj;rw[Ad rfl,Ad rfl]
  ·rw[Ac hj,Ac hj];omega
def yA:∀(l m:List (Int×Int)),Mp m->Mp (fF m l)/\∀j,getM (fF m l) j=getM m j+cf j l
 |[],m,h=>⟨h,λn=>by simp[fF,cf]⟩
 |x::l,m,h=>by obtain⟨h1,h2⟩:=bVc h x.1 x.2;obtain⟨h3,h4⟩:=yA l (jZ m x.1 x.2) h1;refine⟨h3,λn=>?_⟩;show getM (fF (jZ m x.1 x.2) l) n=_;rw[h4 n,h2 n];simp only[cf];omega
def aSl(g:Int->Int):∀(l:List Int) (n:Int),getM (l.map λn=>(n,g n)) n=if n∈l then g n else 0
 |[],n=>rfl
 |x::l,n=>by
  rw[AZ,cL,aSl g l n];by_cases h:x=n
  ·subst h;simp
  ·have h':¬n=x:=λe=>h e.symm
   simp[h,h']
def aSq{n:Int}{m:List (Int×Int)}(h:n ∉ m.map (·.1)):getM m n=0:=iA λy hy e=>h (e ▸ FU hy)
def aSk{m:List (Int×Int)}(h:Mp m){n:Int}(hn:n∈m.map (·.1)):getM m n≠0:=by
 unfold getM;have hs:=aGd hn;cases hf:fnd n m with
 |none=>rw[hf]at hs;cases hs
 |some j =>
  obtain⟨z,hz⟩:=aGc hf;simp only[Af,hz,Bd];exact h.2 _ (Aq hz)
def aGx{m:List (Int×Int)}(h:Mp m):Val (gO m)/\∀n,getM (gO m) n=getM m n:=by
 refine⟨⟨?_,λx hx=>?_⟩,λn=>?_⟩
 ·unfold gO;rw[CN];have h1:=Go.Proofs.isort_sorted (m.map (·.1));have h0:(m.map (·.1)).Pairwise (λa b:Int=>a≠b):=by rw[CN];exact h.1
  have h2:(gZ (m.map (·.1))).Pairwise (λa b:Int=>a≠b):=(Go.Proofs.isort_perm (m.map (·.1))).symm.pairwise h0 (λ{x y} (hxy:x≠y)=>Ne.symm hxy);exact(h1.and h2).imp λ⟨a,b⟩=>by simp only;omega
 ·obtain⟨n,hn,rfl⟩:=AA.1 hx;exact aSk h ((rN n _).1 hn)
 ·unfold gO;rw[aSl];by_cases hn:n∈m.map (·.1)
  ·rw[Ad ((rN n _).2 hn)]
  ·rw[Ac (λh=>hn ((rN n _).1 h)),aSq hn]
def gD:∀{l:List (Int×Int)},Val l->∀n,cf n l=getM l n
 |[],_,_=>rfl
 |x::l,h,n=>by
  obtain⟨h1,h2,_⟩:=h.tail;rw[cf,gD h1,cL];by_cases hx:x.1=n
  ·subst hx;rw[Ad rfl,Ad rfl,iA (λy hy=>by have:=h2 y hy;omega)];omega
  ·rw[Ac (λe=>hx e.symm),Ac hx];omega
def bSg(l:List (Int×Int)):gO (fF [] l)=cF [] l:=by obtain⟨h1,h2⟩:=yA l [] Mp.nil;obtain⟨h3,h4⟩:=aGx h1;obtain⟨h5,h6⟩:=cS l [] Val.nil;exact h3.ext h5 λn=>by rw[h4 n,h2 n,h6 n]
def add_eq{a:List (Int×Int)}(ha:Val a)(c:List (Int×Int)):gO (fF (fF [] a) c)=cF a c:=by obtain⟨h1,h2⟩:=yA a [] Mp.nil;obtain⟨h1',h2'⟩:=yA c _ h1;obtain⟨h3,h4⟩:=aGx h1';obtain⟨h5,h6⟩:=cS c a ha;exact h3.ext h5 λn=>by rw[h4 n,h2' n,h2 n,h6 n,gD ha,gX];omega
def xE{l:List (Int×Int)}(h:Val l):xD l=true:=by
 refine aBw λj hj=>?_
 unfold aQu;have g:=bLi hj;have h1:(l.getD j (0,0)).2≠0:=h.2 _ (Aq g);rw[AO,CG];refine⟨by simpa using h1,?_⟩;rcases j with _|k
 ·exact .inl rfl
 ·refine .inr ?_;have hk:k<l.length:=by omega
  have:=List.pairwise_iff_getElem.1 h.1 k (k+1) hk hj (by omega);rw[Ba,Af,Af,Ab hj,Ab hk];simpa using this
def aWi{n:Nat}(h:n<340282366920938463463374607431768211456):(aU n).length<=137438953472:=by
 have e:(4294967296:Nat)^4=340282366920938463463374607431768211456:=by decide
 have:=fZ (n:=n) (k:=4) (by rw[e];exact h);omega
def lin(a b:List (Int×Int))(k:Int):List (Int×Int):=cF a (mulR k b)
def aNh(k n:Int):∀b:List (Int×Int),cf n (mulR k b)=k*cf n b
 |[]=>by simp[mulR,cf]
 |x::b=>by have ih:=aNh k n b;show(if n=x.1 then k*x.2 else 0)+cf n (mulR k b)=k*((if n=x.1 then x.2 else 0)+cf n b);rw[ih,Int.mul_add];split<;>simp
def aWq(n:Int):∀a b:List (Int×Int),cf n (a++b)=cf n a+cf n b
 |[],b=>by simp[cf]
 |x::a,b=>by have ih:=aWq n a b;simp only[List.cons_append,cf,ih];omega
def aDm{a b:List (Int×Int)}(ha:Val a)(hb:Val b)(k:Int):Val (lin a b k)/\∀n,getM (lin a b k) n=getM a n+k*getM b n:=by obtain⟨h1,h2⟩:=cS (mulR k b) a ha;exact⟨h1,λn=>by show getM (cF a (mulR k b)) n=_;rw[h2 n,aNh,gD hb]⟩
def bSn{a b:List (Int×Int)}{k:Int}{A M K:Nat}(ha:Bnd A a)(hb:Bnd M b)(hk:k.natAbs<=K):Bnd (A+b.length*(K*M)) (lin a b k):=by have:=mP (mulR k b) a ha (pI hk hb);rwa [show(mulR k b).length=b.length by simp[mulR]]at this
def bSm(a b:List (Int×Int))(k:Int):(lin a b k).length<=a.length+b.length:=by have:=oB a (mulR k b);rwa [show(mulR k b).length=b.length by simp[mulR]]at this
structure Small(a:List (Int×Int)):Prop where
 val:Val a
 keys:Keys a
 bnd:Bnd 1000000000000 a
 len:a.length<=100
def Small.sz{a:List (Int×Int)}(h:Small a):∀x∈a,Sz x.2:=λx hx=>gU (h.bnd x hx) (aWi (by decide))
def Small.nil:Small []:=⟨Val.nil,(λ_ h=>by cases h),Bnd.nil _,Al _⟩
def bXz(n:Int)(h:n.natAbs<=1000000):Spec Aa 31 [.i .i64 n] (encZ n):=tE n (by omega) (by omega)
def xP(z:Int):List D:=[.b (decide (z<0)),aM (aU z.natAbs)]
def dQ(v:List Int):D:=.sl (v.map xP)
def vcs(v:List Int):List D:=(v.map xP).flatten
def gY(l:List Int):(vcs l).length=l.length*2:=by
 unfold vcs;induction l with
 |nil=>rfl
 |cons x l ih=>simp only[AZ,BF,Ak,ih,xP,AH,Bq];omega
def aNb(z:Int):xP z=[.b (decide (z<0)),aM (aU z.natAbs)]:=rfl
def bEd(l:List (List D))(h:∀x∈l,x.length=2):chunk 2 l.length l.flatten=l:=by
 induction l with
 |nil=>rfl
 |cons a l ih =>
  have ha:=h a (Av ..);have:=ih λx hx=>h x (Au _ hx)
  unfold chunk at this ⊢;rw[AH,Et,AZ,CC,BF];congr 1
  ·simp[ha]
  ·conv=>rhs;rw[<-this]
   apply BK;intro i _;simp only[Function.comp];rw[show Nat.succ i*2=a.length+i*2 from by omega,List.drop_append,BA (by omega)];simp
def aKo{l:List Int}{n:Nat}(h:l.length=n):chunk 2 n (vcs l)=l.map xP:=by subst h;have:=bEd (l.map xP) (λx hx=>by obtain⟨y,_,rfl⟩:=AA.1 hx;rfl);rwa [AL]at this
def xW{l:List Int}{n:Nat}(h:l.length=n):BB (n*2) ((vcs l).map AV.d)=(vcs l).map AV.d:=Ai (by simp[gY,h])
def eQ(rows cols:Int)(A:List (List Int)):D:=.ag [.i .i64 rows,.i .i64 cols,.sl (A.map λv=>[dQ v])]
def wV{H H':Hp}{ρ:Nat->Nat}{a o l s b o' l' s':Nat}:pV H H' ρ (.own a o l s) (.own b o' l' s')↔(a=ρ b/\o=o'/\l=l'/\s=s'/\(H' b).isSome=true):=Iff.rfl
def bLl{H:Hp}{B:Nat}{e:TypeId}{v:List Int}{n:Nat}(m:Nat)(hB:H B=some (.cells e ((vcs v).map .d)))(hv:v.length=n):frz H (m+2) (.own B 0 n 2)=some (dQ v):=by have hl:=gY v;rw[hv]at hl;rw[jA,hB];simp only[A6,AL,hl,Nat.zero_mul,List.drop_zero];rw[xW hv,Ad ⟨Ap _,by decide⟩];have:List.mapM (frz H (m+1)) ((vcs v).map AV.d)=some (vcs v):=mA H m (vcs v);rw[this,A4,aKo hv];rfl
def rA(z:Int)(v:List Int):vcs (z::v)=xP z++vcs v:=by simp[vcs]
def iM:∀{v:List Int} {k:Nat} {z:Int},v[k]? = some z->((vcs v).drop (k*2)).take 2=xP z
 |[],k,z,h=>by simp at h
 |y::v,0,z,h=>by simp at h;subst h;rw[rA];rfl
 |y::v,k+1,z,h=>by have ih:=iM (v:=v) (k:=k) (z:=z) (by simpa using h);rw[rA,show(k+1)*2=k*2+2 by omega,<-ih];rw[CB,<-List.drop_drop];rfl
def aXy:∀{v:List Int} {k:Nat} (z:Int),k<v.length->(vcs v).take (k*2)++xP z++(vcs v).drop (k*2+2)=vcs (v.set k z)
 |[],k,z,h=>by simp at h
 |y::v,0,z,h=>by rw[CW,rA,rA];rfl
 |y::v,k+1,z,h=>by
  have ih:=aXy (v:=v) (k:=k) z (by simpa using h);rw[F4,rA,rA,<-ih,show(k+1)*2=2+k*2 by omega,show 2+k*2+2=2+(k*2+2)by omega];have e1:∀n,BB (2+n) (xP y++vcs v)=xP y++BB n (vcs v):=λn=>by rw[List.take_append,Ai (by show 2<=2+n;omega)];congr 2;show 2+n-2=n;omega
  have e2:∀n,Cy (2+n) (xP y++vcs v)=Cy n (vcs v):=λn=>by rw[<-List.drop_drop];rfl
  rw[e1,e2];simp
def mapM_some{α β:Type}(f:α->Option β)(g:Nat->β):∀(l:List α),(∀k x,l[k]? = some x->f x=some (g k))->l.mapM f=some ((CS l.length).map g)
 |[],_=>rfl
 |x::l,h=>by rw[Ca,h 0 x rfl,mapM_some f (λk=>g (k+1)) l λk y hy=>h (k+1) y (by simpa using hy),AH,Et];simp[Function.comp_def]
def zr(cols:Nat):List AV:=(AB cols [AV.d (.b false),AV.nil]).flatten
def bOv{H H':Hp}{ρ:Nat->Nat}(cols:Nat):jB H H' ρ (zr cols) (zr cols):=by
 refine fQ.2 ⟨rfl,λk c d h1 h2=>?_⟩;rw[h1]at h2;injection h2 with h2;subst h2
 have hm:=Aq h1;unfold zr at hm;rw[List.mem_flatten]at hm;obtain⟨l,hl,hc⟩:=hm;rw[List.eq_of_mem_replicate hl]at hc;rcases AG.1 hc with rfl|hc
 ·exact(kL _ _).2 rfl
 ·rw[AT.1 hc];trivial
def aTw{H H':Hp}{ρ:Nat->Nat}:∀c:Nat,jB H H' ρ (zr c) ((vcs (AB c 0)).map .d)
 |0=>trivial
 |c+1=>by
  have ih:=aTw (H:=H) (H':=H') (ρ:=ρ) c;have e1:zr (c+1)=AV.d (.b false)::AV.nil::zr c:=by simp[zr,DO]
  have e2:(vcs (AB (c+1) 0)).map AV.d=AV.d (.b (decide ((0:Int)<0)))::AV.d (aM (aU (0:Int).natAbs))::(vcs (AB c 0)).map AV.d:=by rw[DO];rfl
  rw[e1,e2];refine⟨?_,?_,ih⟩
  ·exact(kL _ _).2 rfl
  ·exact⟨by rw[show((0:Int).natAbs)=0 from rfl,dH];rfl,λa ha=>by simp[vis]at ha⟩
def nwV(rows cols m:Nat):AV:=.ag [.d (.i .i64 (rows:Int)),.d (.i .i64 (cols:Int)),.own m 0 rows 1]
def cD{P:Program}(σ:St)(x y:ResultVar):mY P [x,y] σ=(nS P σ x).bind λa=>(nS P σ y).bind λb=>(frz σ.H 8 a).bind λu=>(frz σ.H 8 b).bind λv=>some (.tp [u,v]):=by unfold mY;cases h1:nS P σ x<;>cases h2:nS P σ y<;>simp[fW,h1,h2];rename_i a b;cases frz σ.H 8 a<;>cases frz σ.H 8 b<;>simp
def eW{P:Program}(σ:St)(x y z:ResultVar):mY P [x,y,z] σ=(nS P σ x).bind λa=>(nS P σ y).bind λb=>(nS P σ z).bind λc=>(frz σ.H 8 a).bind λu=>(frz σ.H 8 b).bind λv=>(frz σ.H 8 c).bind λw=>some (.tp [u,v,w]):=by unfold mY;cases h1:nS P σ x<;>cases h2:nS P σ y<;>cases h3:nS P σ z<;>simp[fW,h1,h2,h3];rename_i a b c;cases frz σ.H 8 a<;>cases frz σ.H 8 b<;>cases frz σ.H 8 c<;>simp
def shS(a:List Nat)(d:Nat):Nat->List Nat×Nat
 |0=>(AB a.length 0,0)
 |k+1=>((shS a d k).1.set (a.length-1-k) (((shS a d k).2*4294967296+a.getD (a.length-1-k) 0)/d),((shS a d k).2*4294967296+a.getD (a.length-1-k) 0)%d)
def bGj{o v v' p q d r r' x t t' w:Nat}(hs:v'+p*o=v+p*q)(ho:o=0)(ht:r*4294967296+x=t)(hq:r'+d*q=t)(hv:v*d+p*4294967296*r+(t'+p*x)=w):v'*d+p*r'+t'=w:=by
 subst ho;have h1:v'=v+p*q:=by omega
 have h2:p*t=p*(r*4294967296)+p*x:=by rw[<-ht,Cq]
 have h3:p*t=p*r'+p*(d*q):=by rw[<-hq,Cq]
 have h4:p*q*d=p*(d*q):=by rw[Ck,Ci q]
 have h5:p*4294967296*r=p*(r*4294967296):=by rw[Ck,Ci r]
 rw[h1,By,h4];omega
def bVp{r x d:Nat}(hr:r<d)(hx:x<4294967296):(r*4294967296+x)/d<4294967296:=by
 rw[Nat.div_lt_iff_lt_mul (by omega)];have:r*4294967296+4294967296<=d*4294967296:=by have:=A8 4294967296 (Nat.succ_le_of_lt hr);rw[Nat.succ_mul]at this;exact this
 rw[Ci 4294967296];omega
def aYe{a:List Nat}{d:Nat}(ha:Lim a)(hd:0<d)(k:Nat)(hk:k<=a.length) :
  (shS a d k).1.length=a.length/\(shS a d k).2<d/\Lim (shS a d k).1/\(∀i,i<a.length-k->(shS a d k).1.getD i 0=0) /\
  val (shS a d k).1*d+4294967296^(a.length-k)*(shS a d k).2+val (a.take (a.length-k))=val a:=by
 induction k with
 |zero=>exact⟨by simp[shS],hd,.rep _,λi _=>by simp[shS,CO];split<;>rfl,by simp[shS,aCw]⟩
 |succ k ih =>
  obtain⟨h1,h2,h3,h4,h5⟩:=ih (by omega)
  obtain⟨j,hj⟩:∃j,a.length-1-k=j:=⟨_,rfl⟩
  have hj1:a.length-k=j+1:=by omega
  have hj2:a.length-(k+1)=j:=by omega
  have hx:=ha.getD j
  have hset:=aLl (l:=(shS a d k).1) (j:=j) (by omega) (((shS a d k).2*4294967296+a.getD j 0)/d)
  have hoj:=h4 j (by omega)
  simp only[shS,hj,hj2]
  rw[hj1,eA,Cp]at h5
  have hlt:=bVp h2 hx
  refine⟨by simp[h1],EL _ hd,h3.set _ hlt,λi hi=>?_,?_⟩
  ·rw[Af,FE (by omega),<-Af]
   exact h4 i (by omega)
  ·exact bGj hset hoj rfl (Nat.mod_add_div _ _) h5
def shQ(a:List Nat)(d:Nat):List Nat:=(shS a d a.length).1
def aLv{a:List Nat}{d:Nat}(ha:Lim a)(hd:0<d):(shQ a d).length=a.length/\Lim (shQ a d)/\val (shQ a d)=val a/d/\(shS a d a.length).2=val a%d:=by obtain⟨h1,h2,h3,_,h5⟩:=aYe ha hd a.length (Ap _);rw[Cx,Nat.pow_zero,CZ,Cc,val,Ce]at h5;have:=(Nat.div_mod_unique hd).2 ⟨show(shS a d a.length).2+d*val (shQ a d)=val a by rw[Ci,CB];exact h5,h2⟩;exact⟨h1,h3,this.1.symm,this.2.symm⟩
def aQe(a:List Nat)(d:Nat)(ha:Lim a)(hd:0<d)(hd2:d<4294967296)(hla:a.length<=1099511627776):Spec Aa 114 [aM a,.i .u32 d] (.tp [aM (shQ a d),.i .u32 ((val a%d:Nat):Int)]):=by
 refine bF (N:=42) Tryz.func114 ?_;obtain⟨n,hn⟩:∃n,a.length=n:=⟨_,rfl⟩;have hm1:(4:Int)*n<=281474976710656:=by omega
 have hm2:(n:Int)<=9223372036854775807:=by omega
 have hw1:Ag.wrap ((n:Int)-1)=(n:Int)-1:=aV;have hwd:A1.wrap (d:Int)=d:=bU (by omega) (by omega);have hdz:¬d=0:=by omega
 have h00:(shS a d 0).1=AB n 0:=by rw[<-hn];rfl
 have h01:(shS a d 0).2=0:=rfl;simp[-C,-I,↓KW,aM,hn,hw1,hm1,hm2];refine aP (λk:Nat=>k<=n)
  (λk=>StL [(0,.d (aM a)),(1,.d (.i .u32 d)),(6,.own 1 0 n 1),(7,.d (.i .u64 (shS a d k).2)),(8,.d (.i .i64 ((n:Int)-1-k)))] none
   [.cells 101 ((lms (shS a d k).1).map .d)]) (λk=>n-k) 0 (Al _) ?_ ?_
 ·refine wkQ [1] ?_ ?_<;>simp[-C,upd,aO,Γ0,aM,h00,h01]
 ·intro k hk;obtain⟨ol,oc,om,_,_⟩:=aYe ha hd k (by omega);rw[hn]at ol;by_cases hgo:k<n
  ·have q1:(0:Int)<=(n:Int)-1-k:=by omega
   obtain⟨j,hj⟩:∃j,a.length-1-k=j:=⟨_,rfl⟩;have hji:(n:Int)-1-k=j:=by omega
   have hsucc:shS a d (k+1)=((shS a d k).1.set j (((shS a d k).2*4294967296+a.getD j 0)/d),((shS a d k).2*4294967296+a.getD j 0)%d):=by rw[<-hj];rfl
   have g1:=getD_some (l:=a) (i:=j) (by omega);have hx:=ha.getD j;have hlt:=bVp oc hx;generalize hout:(shS a d k).1=out at *;generalize hcar:(shS a d k).2=r at *;generalize a.getD j 0=x at *;obtain⟨t,ht⟩:∃t,r*4294967296+x=t:=⟨_,rfl⟩;rw[ht]at hsucc hlt;obtain⟨q,hq⟩:∃q,t/d=q:=⟨_,rfl⟩;obtain⟨r',hr'⟩:∃r',t%d=r':=⟨_,rfl⟩;rw[hq,hr']at hsucc;rw[hq]at hlt;have hr'd:r'<d:=by rw[<-hr'];exact EL _ hd
   have hwx:A1.wrap (x:Int)=x:=bU (by omega) (by omega);have hwr:A1.wrap ((r:Int)*4294967296)=(r:Int)*4294967296:=bU (by omega) (by omega);have hwt:A1.wrap ((r:Int)*4294967296+x)=t:=by rw[bU (by omega) (by omega)];omega
   have hwq:A1.wrap ((t:Int)/d)=q:=by rw[<-Int.natCast_ediv,hq,bU (by omega) (by omega)]
   have hwq2:Cr.wrap (q:Int)=q:=kP (by omega) (by omega);have hwm:Int.tmod (t:Int) d=r':=by rw[<-Int.ofNat_tmod,hr']
   have hw8:Ag.wrap ((j:Int)-1)=(j:Int)-1:=aV;have hjn:j<n:=by omega
   have hjl3:j+1<=n:=by omega
   have hlay:lay (AQ AV.d (lms out)) j [AV.d (D.i .u32 (q:Int))]=AQ AV.d (lms (out.set j q)):=by rw[oQ _ _ _ (by rw[nK];omega),zC]
   have he:(n:Int)-1-((k:Int)+1)=(j:Int)-1:=by omega
   rw[hji];simp[-C,-I,↓KW,aM,g1,hwx,hwr,hwt,hwd,hdz,hwq,hwq2,hwm,hw8,hjn,hjl3,hlay,ol];refine aI (k+1) hgo ?_ (wkQ [1] ?_ ?_)
   ·omega
   ·simp[-C,upd,aO,Γ0,aM,hsucc,he]
   ·simp[-C,upd,aO,Γ0,aM,hsucc,he]
  ·have e:k=n:=by omega
   have q1:¬(k:Int)<=(n:Int)-1:=by omega
   obtain⟨s1,s2,s3,s4⟩:=aLv ha hd;have e1:(shS a d k).1=shQ a d:=by rw[e,<-hn];rfl
   have e2:(shS a d k).2=val a%d:=by rw[e,<-hn];exact s4
   rw[hn]at s1;have hrd:val a%d<d:=EL _ hd;have e3:(val a:Int)%d=((val a%d:Nat):Int):=by rw[Int.natCast_emod]
   rw[e1,e2];generalize val a%d=r at *;have hwr:Cr.wrap (r:Int)=r:=kP (by omega) (by omega);simp[-C,-I,↓KW,aM,q1,s1,iB s1,fE s1,hwr,e3,cD]
def uV{n:Nat}(h:n<=2147483648):(n+1)*32<=140737488355328/\n+1<=1099511627776:=⟨by omega,by omega⟩
structure Cl where
 id:Int
 dim:Int
 b:List (Int×Int)
 deriving DecidableEq,Inhabited
def lA:Cl:=⟨0,0,[]⟩
def aN(x:Cl):List D:=[.i .i64 x.id,.i .i64 x.dim,aK x.b]
def aE(c:List Cl):D:=.sl (c.map aN)
def dV(l:List Int):D:=.sl (l.map λn=>[.i .i64 n])
def bG(c:List Cl)(n:Int):Option Cl:=c.find? λy=>decide (y.id=n)
def cB(c:List Cl)(k:Int):List Int:=(c.filter λy=>decide (y.dim=k)).map Cl.id
def bOf(c:List Cl)(n:Int):List (Int×Int):=((bG c n).getD lA).b
def dOf(c:List Cl)(n:Int):Int:=((bG c n).getD lA).dim
def kn(c:List Cl)(n:Int):Bool:=(bG c n).isSome
def aWd(x:Cl)(c:List Cl)(n:Int):bG (x::c) n=if x.id=n then some x else bG c n:=by unfold bG;rw[List.find?_cons];by_cases h:x.id=n<;>simp[h]
def aWc{c:List Cl}{i:Nat}(h:i<c.length)(n:Int):bG (c.drop i) n=if c[i].id=n then some c[i]else bG (c.drop (i+1)) n:=by rw[AP h,aWd]
def bDn{c:List Cl}{i:Nat}(h:i<c.length)(k:Int):cB (c.take (i+1)) k=cB (c.take i) k++if c[i].dim=k then[c[i].id]else[]:=by unfold cB;rw[AM,Ab h,List.filter_append,Bu];congr 1;by_cases e:c[i].dim=k<;>simp[e]
def nW(c:List Cl)(k:Int):(cB c k).length<=c.length:=by unfold cB;rw[AL];exact List.length_filter_le _ _
def dF{c:List Cl}{n:Int}{x:Cl}(h:bG c n=some x):x∈c/\x.id=n :=
 ⟨List.mem_of_find?_eq_some h,by have:=List.find?_some h;simpa using this⟩
def aGf{c:List Cl}{n:Int}(h:bG c n=none):∀x∈c,x.id≠n:=λx hx=>by have:=List.find?_eq_none.1 h x hx;simpa using this
def Inc(c:List Cl):Prop:=c.Pairwise λx y=>x.id<y.id
def Inc.eq{c:List Cl}(h:Inc c){x y:Cl}(hx:x∈c)(hy:y∈c)(e:x.id=y.id):x=y:=by
 induction c with
 |nil=>cases hx
 |cons a c ih =>
  obtain⟨h1,h2⟩:=Bk.1 h;rcases AG.1 hx with rfl|hx'<;>rcases AG.1 hy with rfl|hy'
  ·rfl
  ·have:=h1 y hy';omega
  ·have:=h1 x hx';omega
  ·exact ih h2 hx' hy'
def Inc.find{c:List Cl}(h:Inc c){x:Cl}(hx:x∈c):bG c x.id=some x:=by
 cases e:bG c x.id with
 |none=>exact(aGf e x hx rfl).elim
 |some y=>obtain⟨h1,h2⟩:=dF e;rw[h.eq h1 hx h2]
def lv(k:Int)(r:List (Int×Int)):Int:=r.foldl (λacc x=>if x.1=k then x.2 else acc) 0
def bSi(k:Int)(r:List (Int×Int))(x:Int×Int):lv k (r++[x])=if x.1=k then x.2 else lv k r:=by simp[lv]
def bSh{r:List (Int×Int)}{i:Nat}(h:i<r.length)(k:Int):lv k (r.take (i+1))=if r[i].1=k then r[i].2 else lv k (r.take i):=by rw[AM,Ab h];exact bSi _ _ _
def aZe(k:Int):∀(r:List (Int×Int)) (acc:Int),Val r->r.foldl (λacc x=>if x.1=k then x.2 else acc) acc=if ∃y∈r,y.1=k then getM r k else acc
 |[],acc,_=>by simp
 |x::r,acc,h=>by
  obtain⟨h1,h2,h3⟩:=h.tail;rw[C6,aZe k r _ h1,cL];by_cases e:x.1=k
  ·have hn:¬∃y∈r,y.1=k:=λ⟨y,hy,e2⟩=>by have:=h2 y hy;omega
   rw[Ac hn,Ad e,Ad ⟨x,Av ..,e⟩,Ad e]
  ·rw[Ac e,Ac e];by_cases hr:∃y∈r,y.1=k
   ·obtain⟨y,hy,e2⟩:=hr;rw[Ad ⟨y,hy,e2⟩,Ad ⟨y,Au _ hy,e2⟩]
   ·rw[Ac hr,Ac];rintro⟨y,hy,e2⟩;rcases AG.1 hy with rfl|hy
    ·exact e e2
    ·exact hr ⟨y,hy,e2⟩
def aZd{r:List (Int×Int)}(h:Val r)(k:Int):lv k r=getM r k:=by
 unfold lv;rw[aZe k r 0 h];split
 ·rfl
 ·rename_i hn;exact(iA λy hy e=>hn ⟨y,hy,e⟩).symm
def bYj{M:Nat}{r:List (Int×Int)}(h:Bnd M r)(k:Int):(lv k r).natAbs<=M:=by
 unfold lv
 suffices ∀(r:List (Int×Int)) (acc:Int),Bnd M r->acc.natAbs<=M->(r.foldl (λacc x=>if x.1=k then x.2 else acc) acc).natAbs<=M from this r 0 h (by simp)
 intro r;induction r with
 |nil=>intro acc _ ha;exact ha
 |cons x r ih =>
  intro acc hb ha;rw[C6];refine ih _ (λy hy=>hb y (Au _ hy)) ?_;split
  ·exact hb x (Av ..)
  ·exact ha
def wL(ids:List Int)(x:List (Int×Int)):List Int:=ids.map λn=>lv n x
def tK(c:List Cl)(k:Int):List (List Int):=(cB c k).map λn=>wL (cB c (k-1)) (bOf c n)
def rM(c:List Cl)(x:List (Int×Int)):Bool:=x.all λf=>kn c f.1
def bdL(c:List Cl)(x:List (Int×Int)):List (Int×Int):=x.flatMap λf=>mulR f.2 (bOf c f.1)
def bdX(c:List Cl)(x:List (Int×Int)):List (Int×Int):=cF [] (bdL c x)
def chX(c:List Cl)(k:Int)(v:List Int):List (Int×Int)×Int:=if v.length=(cB c k).length then(cF [] ((cB c k).zip v),0)else([],50)
def bNj{c:List Cl}{x:List (Int×Int)}{i:Nat}(h:i<x.length):bdL c (x.take (i+1))=bdL c (x.take i)++mulR x[i].2 (bOf c x[i].1):=by unfold bdL;rw[AM,Ab h,List.flatMap_append];simp
def aTm(a x y:List (Int×Int)):cF a (x++y)=cF (cF a x) y:=by unfold cF;rw[Dl]
def oT(c:List Cl)(n:Int):D:=.tp [.ag (aN ((bG c n).getD lA)),.b (bG c n).isSome]
def eJ(c:List Cl):fB 3 (c.map aN)=true:=by cases c<;>rfl
def aC(l:List (Int×Int)):one (.d (aK l))=true:=rfl
def aA(l:List (Int×Int)):fN (.d (aK l))=some [.d (aK l)]:=rfl
def aB(l:List (Int×Int)):aO (aK l)=.d (aK l):=rfl
def aT(H:Hp)(avs:List AV)(l:List (Int×Int)):bS H avs (aK l)=fK H avs:=rfl
def aQ(l:List (Int×Int)):inj (aK l)=.d (aK l):=rfl
def gC(c:List Cl)(n:Int)(hl:c.length<=1000000):Spec Aa 69 [aE c,.i .i64 n] (oT c n):=by
 refine bF (N:=25) Tryz.func69 ?_;simp[-C,-I,↓KW,aE];refine aP (λi:Nat=>i<=c.length/\bG (c.drop i) n=bG c n) (λi=>StL [(0,.d (aE c)),(1,.d (.i .i64 n)),(4,.ptr 1 0),(5,.d (.b false)),(6,.d (.i .i64 (i:Int)))] none [.cells 40 [.d (.i .i64 0),.d (.i .i64 0),.nil]]) (λi=>c.length-i) 0 ⟨Al _,rfl⟩ ?_ ?_
 ·refine wkQ [1] ?_ ?_<;>simp[-C,upd,aO,Γ0,aE]
 ·intro i ⟨hi,hp⟩;by_cases hgo:i<c.length
  ·have q1:(i:Int)<c.length:=by omega
   have hx:c[i]? = some c[i]:=Ab hgo;have hw:Ag.wrap ((i:Int)+1)=(i:Int)+1:=aV;rw[aWc hgo]at hp;generalize c[i]=x at *;by_cases h0:x.id=n
   ·rw[Ad h0]at hp;have h0':((x.id==n):Bool)=true:=by simpa using h0
    unfold oT;rw[<-hp];have q3:(((n:Int)==(n:Int)):Bool)=true:=by simp
    simp[-C,-I,↓KW,aE,aN,q1,hx,h0,h0',q3,aC,aA,aB];rfl
   ·rw[Ac h0]at hp;have h0':((x.id==n):Bool)=false:=by simpa using h0
    simp[-C,-I,↓KW,aE,aN,q1,hx,h0,h0',hw,aC,aA,aB];refine aI (i+1) ⟨hgo,hp⟩ (slQ hgo) (wkQ [1] ?_ ?_)<;>simp[-C,upd,aO,Γ0,aE]
  ·have q1:¬(i:Int)<c.length:=by omega
   rw[BA (by omega)]at hp;have hp':bG c n=none:=hp.symm;unfold oT;rw[hp'];simp[-C,-I,↓KW,aE,q1,aN,lA,aK];rfl
def aEv(c:List Cl)(k:Int)(hl:c.length<=1000000):Spec Aa 94 [aE c,.i .i64 k] (dV (cB c k)):=by
 refine bF (N:=30) Tryz.func94 ?_;simp[-C,-I,↓KW,aE];refine aP (λi:Nat=>i<=c.length) (λi=>StL [(0,.d (aE c)),(1,.d (.i .i64 k)),(5,.own 1 0 (cB (c.take i) k).length 1),(6,.d (.i .i64 (i:Int)))] none [.cells 3 (((cB (c.take i) k).map λn=>D.i .i64 n).map .d)]) (λi=>c.length-i) 0 (Al _) ?_ ?_
 ·refine wkQ [1] ?_ ?_<;>simp[-C,upd,aO,Γ0,aE,cB]
 ·intro i hi;by_cases hgo:i<c.length
  ·have q1:(i:Int)<c.length:=by omega
   have hx:c[i]? = some c[i]:=Ab hgo;have hw:Ag.wrap ((i:Int)+1)=(i:Int)+1:=aV;have htk:=bDn hgo k;have hln:(cB (c.take i) k).length<=i:=An (nW _ _) (by simp;omega);generalize cB (c.take i) k=out at *;generalize c[i]=x at *;have hbb:=cH (n:=out.length) (by omega);have hb8:(out.length+1)*8<=140737488355328:=by omega
   by_cases h0:x.dim=k
   ·rw[Ad h0]at htk;have h0':((x.dim==k):Bool)=true:=by simpa using h0
    have q3:(((k:Int)==(k:Int)):Bool)=true:=by simp
    simp[-C,-I,↓KW,aE,aN,q1,hx,h0,h0',q3,hw,hbb,hb8,aS,aC,aA,aB];refine aI (i+1) hgo (slQ hgo) (wkQ [3] ?_ ?_)<;>simp[-C,upd,aO,Γ0,aE,htk]
   ·rw[Ac h0,List.append_nil]at htk;have h0':((x.dim==k):Bool)=false:=by simpa using h0
    simp[-C,-I,↓KW,aE,aN,q1,hx,h0,h0',hw,aC,aA,aB];refine aI (i+1) hgo (slQ hgo) (wkQ [1] ?_ ?_)<;>simp[-C,upd,aO,Γ0,aE,htk]
  ·have q1:¬(i:Int)<c.length:=by omega
   rw[Ai (by omega)];have hln:=nW c k;generalize cB c k=out at *;have e1:BB out.length ((out.map λn=>D.i .i64 n).map AV.d)=(out.map λn=>D.i .i64 n).map AV.d:=Ai (by simp);have e2:chunk 1 out.length (out.map λn=>D.i .i64 n)=out.map λn=>[D.i .i64 n]:=by rw[wF _ _ (by simp),CC];rfl
   simp[-C,-I,↓KW,aE,dV,q1,e1,e2]
def hdr(c n b:Nat):List AV:=(CS n).map λj=>AV.own (j+b) 0 c 2
def aCo(v:List Int):HO:=.cells 72 ((vcs v).map .d)
def mB(c:Nat)(M:List (List Int))(m:Nat):List HO:=.cells 140 (hdr c M.length (m+1))::M.map aCo
def cU(c n b:Nat):(hdr c n b).length=n:=by simp[hdr]
def dZ{c n b i:Nat}(h:i<n):(hdr c n b)[i]? = some (.own (i+b) 0 c 2):=by unfold hdr;rw[Aw,CJ h];rfl
def bLc(c n b:Nat):hdr c (n+1) b=hdr c n b++[.own (n+b) 0 c 2]:=by simp[hdr,List.range_succ]
def cT(c:Nat)(M:List (List Int))(m:Nat):(mB c M m).length=M.length+1:=by simp[mB]
def nwH(cols i:Nat):Hp:=λid =>
 if id=1 then some (.cells 136 [.d (.i .i64 0),.d (.i .i64 0),.nil])else if id=2 then some (.cells 140 (hdr cols i 3))else if 3<=id/\id<i+3 then some (.cells 72 (zr cols))else none
def bIa(rows cols:Nat)(hr:rows<=1000)(hc:cols<=1000):pX Aa 113 [.i .i64 (rows:Int),.i .i64 (cols:Int)] (nwV rows cols) (mB cols (AB rows (AB cols 0))):=by
 refine lZ (N:=22) bN Tryz.func113 rfl rfl rfl (by decide) (by kernel_rfl) (by kernel_rfl) (by simp) rfl ?_;have m1:¬(rows:Int)<0:=by omega
 have m2:¬(cols:Int)<0:=by omega
 have hm3:32*(cols:Int)<=281474976710656:=by omega
 have hm4:(cols:Int)<=9223372036854775807:=by omega
 simp[-C,-I,↓KW,m1,m2,aS];refine aP (λi:Nat=>i<=rows) (λi=>⟨jO [(0,.d (.i .i64 (rows:Int))),(1,.d (.i .i64 (cols:Int))),(4,.ptr 1 0),(5,.own 2 0 i 1),(6,.d (.i .i64 (i:Int)))],nwH cols i,i+3⟩) (λi=>rows-i) 0 (Al _) ?_ ?_
 ·refine⟨_,lH ?_ (λid o' ho=>?_) (λid hid=>?_) (by simp)⟩
  ·simp[-C,upd,aO,Γ0,nwH]
  ·simp only[nwH]at ho;split at ho
   ·rename_i e;subst e;injection ho with ho;subst ho
    exact⟨_,rfl,by simp[-C,upd,aO,Γ0]⟩
   ·split at ho
    ·rename_i e;subst e;injection ho with ho;subst ho
     exact⟨_,rfl,fM.2 ⟨rfl,trivial⟩⟩
    ·rw[Ac (by omega)]at ho;cases ho
  ·simp only[nwH];rw[Ac (by omega),Ac (by omega),Ac (by omega)]
 ·intro i hi;have hH1:nwH cols i 1=some (.cells 136 [.d (.i .i64 0),.d (.i .i64 0),.nil]):=rfl;have hH2:nwH cols i 2=some (.cells 140 (hdr cols i 3)):=rfl;have hlen:(hdr cols i 3).length=i:=cU ..;by_cases hgo:i<rows
  ·have q1:(i:Int)<rows:=by omega
   have hw:Ag.wrap ((i:Int)+1)=(i:Int)+1:=aV;generalize hHg:nwH cols i=H at *;generalize hcl:hdr cols i 3=cells at *;have hb:(i+1)*24<=140737488355328:=by omega
   have hb2:i+1<=maxLen:=aS (by omega);simp[-C,-I,↓KW,q1,hgo,hw,hm3,hm4,hH1,hH2,hlen,m1,m2,hb,hb2];have hn1:(nwH cols (i+1) 1).isSome=true:=rfl;have hn2:(nwH cols (i+1) 2).isSome=true:=rfl;have hnj:∀j,j<i+1->(nwH cols (i+1) (j+3)).isSome=true:=λj hj=>by unfold nwH;rw[Ac (by omega),Ac (by omega),Ad (by omega)];rfl
   refine aI (i+1) hgo (slQ hgo) ⟨_,aTz (λid=>if id=2 then i+5 else id) ?_ (λid o' ho=>?_) (λid id' h1 h2 e=>?_) (λ_=>rfl) (λid hid=>?_) (by simp)⟩
   ·simp[-C,upd,aO,Γ0,hn1,hn2]
   ·simp only[nwH]at ho;split at ho
    ·rename_i e;subst e;injection ho with ho;subst ho
     refine⟨.cells 136 [.d (.i .i64 0),.d (.i .i64 0),.nil],?_,by simp[-C,upd,aO,Γ0]⟩;rw[Ac (by omega)];simp only;rw[Ac (by omega),Ac (by omega),Ac (by omega),Ac (by omega),hH1];rfl
    ·split at ho
     ·rename_i e;subst e;injection ho with ho;subst ho
      refine⟨.cells 140 (hdr cols (i+1) 3),?_,fM.2 ⟨rfl,fQ.2 ⟨rfl,λk x y h1 h2=>?_⟩⟩⟩
      ·show Option.map (fG [2]) (if i+5=i+3+1+1 then some (HO.cells 140 (cells++[AV.own (i+3) 0 cols 2]))else _)=_;rw[Ad (by omega),bLc,hcl];simp only[A4,fG,Bu,AZ,List.map_nil];have e1:cells.map (fV [2])=cells:=by rw[<-hcl];unfold hdr;rw[CC];apply BK;intro j hj;simp[fV]
       rw[e1];simp[fV]
      ·rw[h1]at h2;injection h2 with h2;subst h2
       have hk:k<i+1:=by have:=(Ah.1 h1).1;rwa [cU]at this
       rw[dZ hk]at h1;injection h1 with h1;subst h1
       exact⟨by simp only;rw[Ac (by omega)],rfl,rfl,rfl,hnj k hk⟩
     ·split at ho
      ·rename_i e2 e3;injection ho with ho;subst ho
       refine⟨.cells 72 (zr cols),?_,fM.2 ⟨rfl,bOv cols⟩⟩;rw[Ac e2];simp only;rw[Ac (by omega),Ac e2,Ac (by omega)];have ez:Option.map (fG [2]) (some (HO.cells 72 (zr cols)))=some (.cells 72 (zr cols)):=by simp only[A4,fG];congr 2;unfold zr;rw[List.map_flatten,F5];rfl
       by_cases e4:id=i+3
       ·rw[Ad e4];exact ez
       ·rw[Ac e4,<-hHg];unfold nwH;rw[Ac (by omega),Ac (by omega),Ad (by omega)];exact ez
      ·cases ho
   ·have k1:∀id,(nwH cols (i+1) id).isSome=true->1<=id/\id<i+4:=λid h=>by
     unfold nwH at h;split at h
     ·omega
     ·split at h
      ·omega
      ·split at h
       ·omega
       ·cases h
    have b1:=k1 id h1;have b2:=k1 id' h2;have e':(if id=2 then i+5 else id)=(if id'=2 then i+5 else id'):=e;split at e'<;>split at e'<;>omega
   ·simp only[nwH];rw[Ac (by omega),Ac (by omega),Ac (by omega)]
  ·have q1:¬(i:Int)<rows:=by omega
   have e:i=rows:=by omega
   subst e;generalize hHg:nwH cols i=H at *;simp[-C,-I,↓KW,q1,hH1,hH2];intro m hm0;have hML:(mB cols (AB i (AB cols (0:Int))) m).length=i+1:=by simp[cT]
   have hin:∀id,m<=id->id<m+(i+1)->(gR (nwV i cols) (mB cols (AB i (AB cols 0))) m).H id=(mB cols (AB i (AB cols 0)) m)[id-m]? := λid h1 h2=>by simp only[gR,gJ];rw[Ad ⟨h1,by rw[hML];exact h2⟩]
   have hout:∀id,¬(m<=id/\id<m+(i+1))->(gR (nwV i cols) (mB cols (AB i (AB cols 0))) m).H id=none:=λid h=>by simp only[gR,gJ];rw[Ac (by rw[hML];exact h)]
   have hsome:∀id,((gR (nwV i cols) (mB cols (AB i (AB cols 0))) m).H id).isSome=true->m<=id/\id<m+(i+1):=λid h=>by
    by_cases hr:m<=id/\id<m+(i+1)
    ·exact hr
    ·rw[hout id hr]at h;cases h
   have hS0:((gR (nwV i cols) (mB cols (AB i (AB cols 0))) m).H m).isSome=true:=by rw[hin m (Ap _) (by omega),Cx];rfl
   have hSj:∀j,j<i->(gR (nwV i cols) (mB cols (AB i (AB cols 0))) m).H (j+(m+1))=some (aCo (AB cols 0)):=λj hj=>by rw[hin _ (by omega) (by omega),show j+(m+1)-m=j+1 by omega];simp only[mB,Bg,F5,CO,Ad hj]
   refine⟨λid=>id-m+2,λid hid=>hout id (by simp only[gR]at hid;rw[hML]at hid;omega),λt=>?_,λid o' ho=>?_,λid id' h1 h2 e=>?_,λh=>?_,λh=>?_⟩
   ·show Sub _ _ _ _ (upd (λ_=>.any) 0 (nwV i cols m) t);by_cases e:t=0
    ·subst e;simp only[dC,nwV];refine⟨rfl,λk c d h1 h2=>?_⟩;rcases k with _|_|_|k
     ·simp at h1 h2;subst h1;subst h2;exact(kL _ _).2 rfl
     ·simp at h1 h2;subst h1;subst h2;exact(kL _ _).2 rfl
     ·simp at h1 h2;subst h1;subst h2;exact⟨by simp,rfl,rfl,rfl,hS0⟩
     ·simp at h1
    ·rw[dX _ _ e];exact oN _
   ·have hr:=hsome id (by rw[ho];rfl);rw[hin id hr.1 hr.2]at ho;simp only;obtain⟨j,rfl⟩:∃j,id=m+j:=⟨id-m,by omega⟩;rw[show m+j-m=j by omega]at ho ⊢;rcases j with _|j
    ·simp only[mB,List.getElem?_cons_zero,EE]at ho;injection ho with ho;subst ho
     refine⟨.cells 140 (hdr cols i 3),by simp only[upd];rw[Ac (by omega)];exact hH2,fM.2 ⟨rfl,fQ.2 ⟨by rw[cU,cU],λk c d h1 h2=>?_⟩⟩⟩;have hlt:k<i:=by have:=(Ah.1 h1).1;rwa [cU]at this
     rw[dZ hlt]at h1 h2;injection h1 with h1;injection h2 with h2;subst h1;subst h2
     exact⟨by show k+3=k+(m+1)-m+2;omega,rfl,rfl,rfl,by rw[hSj k hlt];rfl⟩
    ·have hlt:j<i:=by omega
     simp only[mB,Bg,F5,CO,Ad hlt]at ho;injection ho with ho;subst ho
     refine⟨.cells 72 (zr cols),?_,fM.2 ⟨rfl,aTw cols⟩⟩;simp only[upd];rw[Ac (by omega),<-hHg];unfold nwH;rw[Ac (by omega),Ac (by omega),Ad (by omega)]
   ·have q1':=hsome id h1;have q2':=hsome id' h2;have e':id-m+2=id'-m+2:=e;omega
   ·have:=hsome 0 h;omega
   ·simp only[gR]at h;omega
structure Sh(R c:Nat)(M:List (List Int)):Prop where
 len:M.length=R
 row:∀v∈M,v.length=c
def ent(M:List (List Int))(r s:Nat):Int:=(M.getD r []).getD s 0
def mk(R c:Nat)(f:Nat->Nat->Int):List (List Int):=(CS R).map λr=>(CS c).map λs=>f r s
def Sh.get{R c r:Nat}{M:List (List Int)}(h:Sh R c M)(hr:r<R):∃v,M[r]? = some v/\v.length=c/\∀s,v.getD s 0=ent M r s:=by
 have hl:r<M.length:=by rw[h.len];exact hr
 refine⟨M[r],Ab hl,h.row _ (Ar hl),λs=>?_⟩;unfold ent;rw[Af (l:=M),Ab hl];rfl
def kS(R c:Nat)(f:Nat->Nat->Int):Sh R c (mk R c f):=⟨by simp[mk],λv hv=>by obtain⟨r,_,rfl⟩:=AA.1 hv;simp⟩
def sE{R c r s:Nat}(f:Nat->Nat->Int)(hr:r<R)(hs:s<c):ent (mk R c f) r s=f r s:=by unfold ent mk;rw[Af (l:=AQ _ _),Aw,CJ hr];simp only[A4,Bd];rw[Af,Aw,CJ hs];rfl
def bSd{R c:Nat}{M M':List (List Int)}(h:Sh R c M)(h':Sh R c M')(he:∀r s,r<R->s<c->ent M r s=ent M' r s):M=M':=by
 refine EV (by rw[h.len,h'.len]) λr h1 h2=>?_
 have hr:r<R:=by rw[<-h.len];exact h1
 refine EV (by rw[h.row _ (Ar h1),h'.row _ (Ar h2)]) λs g1 g2=>?_
 have hs:s<c:=by rw[<-h.row _ (Ar h1)];exact g1
 have:=he r s hr hs;unfold ent at this;rw[Af (l:=M),Ab h1,Af (l:=M'),Ab h2]at this;simp only[Bd]at this;rw[Af,Ab g1,Af,Ab g2]at this;exact this
def jN{R c:Nat}{M:List (List Int)}(h:Sh R c M){r s:Nat}(hr:¬(r<R/\s<c)):ent M r s=0:=by
 unfold ent;by_cases h1:r<R
 ·obtain⟨v,hv,hl,_⟩:=h.get h1;rw[Af (l:=M),hv];simp only[Bd];rw[Af,AW (by omega)];rfl
 ·rw[Af (l:=M),AW (by rw[h.len];omega)];rfl
def bXe{R c i:Nat}{M:List (List Int)}(h:Sh R c M){v:List Int}(hv:v.length=c):Sh R c (M.set i v) :=
 ⟨by rw[E6,h.len],λw hw=>(EY hw).elim (h.row w) λe=>e ▸ hv⟩
def nL{R c i j:Nat}{M:List (List Int)}(h:Sh R c M){v:List Int}{z:Int}(hi:i<R)(hj:j<c)(hv:M[i]? = some v)(r s:Nat):ent (M.set i (v.set j z)) r s=if r=i/\s=j then z else ent M r s:=by
 have hl:i<M.length:=by rw[h.len];exact hi
 have hvl:v.length=c:=h.row v (Aq hv);unfold ent;rw[Af (l:=M.set i _),Fh];by_cases e:r=i
 ·subst e;rw[Ad rfl,Ad hl,Af (l:=M),hv];simp only[Bd,true_and];rw[Af,Fh];by_cases e2:s=j
  ·subst e2;rw[Ad rfl,Ad (by omega),Ad rfl];rfl
  ·rw[Ac (λh=>e2 h.symm),Ac e2,Af]
 ·rw[Ac (λh=>e h.symm),Ac (λh=>e h.1),Af (l:=M)]
def iI{R c i j:Nat}{M:List (List Int)}(h:Sh R c M){v:List Int}{z:Int}(hv:M[i]? = some v):Sh R c (M.set i (v.set j z)) :=
 bXe h (by rw[E6];exact h.row v (Aq hv))
def tF{R c:Nat}{M:List (List Int)}(h:Sh R c M){f:Nat->Nat->Int}(he:∀r s,r<R->s<c->ent M r s=f r s):M=mk R c f :=
 bSd h (kS R c f) λr s hr hs=>by rw[he r s hr hs,sE f hr hs]
def iK(b:Nat)(l:List HO):Hp:=λid=>if id<b then none else l[id-b]?
def mJ{b i:Nat}{l:List HO}:iK b l (i+b)=l[i]? := by unfold iK;rw[Ac (by omega),Ba]
def zL{b:Nat}{l:List HO}{id:Nat}(h:l.length+b<=id):iK b l id=none:=by unfold iK;rw[Ac (by omega),AW (by omega)]
def lN{b:Nat}{l:List HO}{id:Nat}(h1:b<=id)(h2:id<l.length+b):(iK b l id).isSome=true:=by unfold iK;rw[Ac (by omega),Ab (by omega)];rfl
def aMz{b:Nat}{l:List HO}{id:Nat}(h:(iK b l id).isSome=true):b<=id/\id<l.length+b:=by
 unfold iK at h;split at h
 ·cases h
 ·rcases Bf (id-b) l.length with h'|h'
  ·omega
  ·rw[AW h']at h;cases h
def rfC(a n:Nat):AV->Bool
 |.d _|.nil=>true
 |.own id _ _ _=>decide (a<=id/\id<n)
 |.ptr id _=>decide (a<=id/\id<n)
 |_=>false
def rfO(a n:Nat):HO->Bool
 |.cells _ cs=>cs.all (rfC a n)
 |_=>false
def bQd{H H':Hp}{ρ:Nat->Nat}{a n:Nat}{c:AV}(hc:rfC a n c=true)(h:∀id,a<=id->id<n->id=ρ id/\(H' id).isSome=true):pV H H' ρ c c:=by
 unfold rfC at hc;split at hc
 ·exact(kL _ _).2 rfl
 ·trivial
 ·simp only[AI]at hc;obtain⟨h1,h2⟩:=h _ hc.1 hc.2;exact⟨h1,rfl,rfl,rfl,h2⟩
 ·simp only[AI]at hc;obtain⟨h1,h2⟩:=h _ hc.1 hc.2;exact⟨h1,rfl,h2⟩
 ·cases hc
def aDa{H H':Hp}{ρ:Nat->Nat}{a n:Nat}{o:HO}(ho:rfO a n o=true)(h:∀id,a<=id->id<n->id=ρ id/\(H' id).isSome=true):nC H H' ρ o o:=by
 cases o with
 |cells e cs =>
  refine fM.2 ⟨rfl,fQ.2 ⟨rfl,λk c d h1 h2=>?_⟩⟩;rw[h1]at h2;injection h2 with h2;subst h2
  exact bQd (Ay.1 ho c (Aq h1)) h
 |map k es=>cases ho
 |iter _ _ _=>cases ho
def bQc(a n:Nat)(v:List Int):rfO a n (aCo v)=true:=by
 unfold rfO aCo;refine Ay.2 λc hc=>?_
 obtain⟨x,_,rfl⟩:=AA.1 hc;rfl
def xH{a n c m:Nat}{M:List (List Int)}(h1:a<=m+1)(h2:m+1+M.length<=n):∀o∈mB c M m,rfO a n o=true:=by
 intro o ho;rcases AG.1 ho with rfl|ho
 ·refine Ay.2 λx hx=>?_
  obtain⟨j,hj,rfl⟩:=AA.1 hx;have:=C4.1 hj;simp only[rfC,AI];omega
 ·obtain⟨v,_,rfl⟩:=AA.1 ho;exact bQc _ _ _
def aEs{a n a' n':Nat}(h1:a'<=a)(h2:n<=n'){o:HO}(ho:rfO a n o=true):rfO a' n' o=true:=by
 cases o with
 |map _ _=>cases ho
 |iter _ _ _=>cases ho
 |cells e cs =>
  refine Ay.2 λc hc=>?_
  have:=Ay.1 ho c hc;cases c<;>first|rfl|(cases this;done)|(simp only[rfC,AI]at this ⊢;omega)
def aGg{H:Hp}{b:Nat}{l:List HO}(h:∀o∈l,rfO b (l.length+b) o=true){id:Nat}{o:HO}(ho:iK b l id=some o):nC H (iK b l) (λi=>i) o o:=by
 refine aDa (h o ?_) λid h1 h2=>⟨rfl,lN h1 h2⟩
 unfold iK at ho;split at ho
 ·cases ho
 ·exact Aq ho
def zK{b c m:Nat}{pre post:List HO}{M:List (List Int)}(hm:m=pre.length+b):iK b (pre++mB c M m++post) m=some (.cells 140 (hdr c M.length (m+1))):=by subst hm;rw[mJ,Bh,Az (Ap _),Cx];rfl
def wD{b c m j:Nat}{pre post:List HO}{M:List (List Int)}{v:List Int}(hm:m=pre.length+b)(hv:M[j]? = some v):iK b (pre++mB c M m++post) (j+(m+1))=some (aCo v):=by have hj:=(Ah.1 hv).1;rw[show j+(m+1)=(j+1+pre.length)+b by omega,mJ,Bh,Az (by omega),Ba,AJ (by rw[cT];omega)];simp only[mB,Bg,Aw,hv,A4]
def bTt{b c m i:Nat}{pre post:List HO}{M:List (List Int)}{v:List Int}(hm:m=pre.length+b)(hi:i<M.length)(id:Nat) :
  iK b (pre++mB c (M.set i v) m++post) id=if id=i+(m+1)then some (aCo v)else iK b (pre++mB c M m++post) id:=by
 by_cases e:id=i+(m+1)
 ·rw[Ad e,e]
  exact wD hm (List.getElem?_set_self hi)
 ·rw[Ac e]
  unfold iK
  by_cases h0:id<b
  ·rw[Ad h0,Ad h0]
  ·rw[Ac h0,Ac h0]
   have hl:(mB c (M.set i v) m).length=(mB c M m).length:=by rw[cT,cT,E6]
   rw[Bh,Bh]
   rcases Bf (id-b) pre.length with h1|h1
   ·rw[AJ h1,AJ h1]
   ·rw[Az h1,Az h1]
    rcases Bf (id-b-pre.length) (mB c M m).length with h2|h2
    ·rw[AJ (by omega),AJ h2]
     generalize hk:id-b-pre.length=k at *
     rcases k with _|k
     ·simp[mB]
     ·simp only[mB,Bg,Aw]
      rw[FE (by omega)]
    ·rw[Az (by omega),Az h2,hl]
def wE{c m:Nat}{pre post:List HO}{M:List (List Int)}:(pre++mB c M m++post).length=pre.length+M.length+1+post.length:=by rw[Ak,Ak,cT];omega
def mC{v:List Int}{j:Nat}(z:Int)(hj:j<v.length):lay ((vcs v).map AV.d) (j*2) [.d (.b (decide (z<0))),.d (aM (aU z.natAbs))]=(vcs (v.set j z)).map .d:=by rw[<-aXy _ hj];simp[lay,xP]
def xZ{b c m i:Nat}{pre post:List HO}{M:List (List Int)}{v:List Int}(hm:m=pre.length+b)(hi:i<M.length) :
  upd (iK b (pre++mB c M m++post)) (i+(m+1)) (some (aCo v))=iK b (pre++mB c (M.set i v) m++post):=by
 funext id
 rw[bTt hm hi]
 rfl
def aDt{b n:Nat}{pre l:List HO}(h:n=pre.length+b):gJ (iK b pre) n l=iK b (pre++l):=by
 funext id;subst h;unfold gJ iK;by_cases h0:id<b
 ·rw[Ac (by omega),Ad h0,Ad h0]
 ·rw[Ac h0];by_cases h1:pre.length+b<=id/\id<pre.length+b+l.length
  ·rw[Ad h1,Ac h0,Az (by omega),show id-b-pre.length=id-(pre.length+b)by omega]
  ·rw[Ac h1,Ac h0];rcases Bf (id-b) pre.length with h2|h2
   ·rw[AJ h2]
   ·rw[AW h2,Az h2,AW (by omega)]
def rQ{b n:Nat}{l:List HO}{p:HO}(h:n=l.length+b):upd (iK b l) n (some p)=iK b (l++[p]):=by
 rw[<-aDt h];funext id;unfold upd gJ;simp only[As];by_cases e:id=n
 ·subst e;rw[Ad rfl,Ad (by omega),Cx];rfl
 ·rw[Ac e,Ac (by omega)]
def bTu(b:Nat):(λ_=>none:Hp)=iK b []:=by funext id;unfold iK;split<;>rfl
def aIq{H:Hp}{n:Nat}{a a':Option HO}:upd (upd H n a) n a'=upd H n a':=by funext id;unfold upd;split<;>rfl
def aZw(a:HO):upd (λ_=>none) 1 (some a)=iK 1 [a]:=by rw[bTu 1];exact rQ rfl
def aZv(a b:HO):upd (upd (λ_=>none) 1 (some a)) 2 (some b)=iK 1 [a,b]:=by rw[aZw];exact rQ rfl
def bDx(a b c:HO):upd (upd (upd (λ_=>none) 1 (some a)) 2 (some b)) 3 (some c)=iK 1 [a,b,c]:=by rw[aZv];exact rQ rfl
def aGh{b c m n:Nat}{pre:List HO}{M:List (List Int)}{p:HO}(hn:n=pre.length+b+(M.length+1)):iK b (pre++mB c M m++[p]) n=some p:=by
 subst hn;rw[show pre.length+b+(M.length+1)=(pre.length+M.length+1)+b by omega,mJ,Az (by rw[Ak,cT];omega),Ak,cT,
  show pre.length+M.length+1-(pre.length+(M.length+1))=0 by omega];rfl
def bBc{u:Nat}(hu:u<18446744073709551616):∃lo hi:Nat,Lim [lo,hi]/\val [lo,hi]=u/\Cr.wrap (u:Int)=lo/\kZ .shr .u64 (u:Int) 32=some (.i .u64 hi)/\Cr.wrap (hi:Int)=hi:=by refine⟨u%4294967296,u/4294967296,.cons (by omega) (.one (by omega)),by simp only[val];omega,by rw[jF];omega,?_,by rw[kP (by omega) (by omega)]⟩;simp only[kZ,Di];rw[Ac (by decide)];congr 2;rw[show(2:Int)^(min (32:Int).toNat 64)=4294967296 from by decide,Dj _ (by decide)];omega
def aEe{l:List Nat}{n:Nat}(hn:l.length=n+1):val l=val (l.take n)+4294967296^n*l.getD n 0:=by rw[<-eA,Ai (by omega)]
def bFl{l:List Nat}{n:Nat}(hn:l.length=n+2):val l=val (l.take n)+4294967296^n*(l.getD (n+1) 0*4294967296+l.getD n 0):=by rw[aEe hn,eA,Cp,Cq,Ck,Ci 4294967296];omega
def aUa{l:List Nat}{n:Nat}(h:Lim l)(hn:l.length=n+1):val l<4294967296^n*(l.getD n 0+1):=by have h1:=tP (h.take n);rw[Ax,BR (by omega)]at h1;rw[aEe hn,Cq,DE];omega
def bLu{p q e low t D R:Nat}(hD:D<=q*low)(he:e*low<=t)(hR:p*q*t<=R):p*e*D<=R:=by
 refine An (BE _ hD) (An ?_ hR);have:p*e*(q*low)=p*q*(e*low):=by rw[Ck,Ck,Ea e]
 rw[this];exact BE _ he
def bDe{a b:List Nat}(hb:Lim b)(hc:oL a)(hla:Lim a)(h:val a<=val b):a.length<=b.length:=by have e1:=bMd hla hc;rw[<-e1];exact fZ (Nat.lt_of_le_of_lt h (tP hb))
def aQg(r d:List Nat)(hr:Lim r)(hd:Lim d)(hcr:oL r)(hcd:oL d)(hd0:d≠[])(hle:val d<=val r)(hl:r.length<=137438953472) :
  ∃e:Nat,0<e/\e*val d<=val r/\Spec Aa 115 [aM r,aM d] (encZ e):=by
 have hlen:=bDe hr hcd hd hle
 have hdl:0<d.length:=Dr.2 hd0
 obtain⟨m,hm⟩:∃m,d.length=m+1:=⟨d.length-1,by omega⟩
 obtain⟨k,hk⟩:∃k,r.length=k+(m+1):=⟨r.length-d.length,by omega⟩
 have gd:=getD_some (l:=d) (i:=m) (by omega)
 have gr:=getD_some (l:=r) (i:=k+m) (by omega)
 have hdm:=hd.getD m
 have hrm:=hr.getD (k+m)
 have hdv:=Nat.le_of_lt (aUa hd hm)
 have hrtop:0<r.getD (k+m) 0:=by
  have h1:r.getLast? = some (r.getD (k+m) 0):=by rw[Dv,show r.length-1=k+m by omega];exact gr
  have h2:r.getLast? ≠ some 0:=hcr;rw[h1]at h2;rcases Cb (r.getD (k+m) 0)with h|h
  ·rw[h]at h2;exact absurd rfl h2
  ·exact h
 generalize hdt:d.getD m 0=dt at *
 obtain⟨low,hlow⟩:∃low,dt+1=low:=⟨_,rfl⟩
 rw[hlow]at hdv
 have c1:Ag.wrap ((r.length:Int)-d.length)=(k:Int):=by rw[aV];omega
 have c2:Ag.wrap ((d.length:Int)-1)=(m:Int):=by rw[aV];omega
 have c3:A1.wrap (dt:Int)=dt:=bU (by omega) (by omega)
 have c4:A1.wrap ((dt:Int)+1)=low:=by rw[bU (by omega) (by omega)];omega
 have c5:Ag.wrap ((r.length:Int)-1)=((k+m:Nat):Int):=by rw[aV];omega
 have c6:¬low=0:=by omega
 by_cases hk0:k=0
 ·subst hk0
  rw[A6]at gr hrm hrtop hk
  rw[show((0+m:Nat):Int)=(m:Int)by omega]at c5
  have hv1:4294967296^m*r.getD m 0<=val r:=by rw[aEe hk];omega
  generalize r.getD m 0=rt at *
  obtain⟨e0,he0⟩:∃e0,rt/low=e0:=⟨_,rfl⟩
  have he0':e0*low<=rt:=by rw[<-he0];exact Nat.div_mul_le_self _ _
  have he0l:e0<=rt:=by rw[<-he0];exact Nat.div_le_self _ _
  have c7:A1.wrap (rt:Int)=rt:=bU (by omega) (by omega)
  have c8:A1.wrap ((rt:Int)/low)=e0:=by rw[<-Int.natCast_ediv,he0,bU (by omega) (by omega)]
  obtain⟨e,he⟩:∃e:Nat,max 1 e0=e:=⟨_,rfl⟩
  have c9:Ag.wrap (e:Int)=e:=aV
  refine⟨e,by omega,?_,?_⟩
  ·by_cases h1:e0<=1
   ·have:e=1:=by omega
    rw[this,CZ];exact hle
   ·have:e=e0:=by omega
    rw[this]
    have:=bLu (p:=1) hdv he0' (by rw[CZ];exact hv1)
    rwa [CZ]at this
  ·refine bF (N:=66) Tryz.func115 ?_
   simp[-C,-I,↓KW,aM,c1,c2,c3,c4,c5,c6,c7,c8,gd,gr,hdt,c9]
   refine bK (ds:=[.i .i64 e]) ?_ (tE e (by omega) (by omega)) ?_
   ·have he2:(if(1:Int)<(e0:Int)then(e0:Int)else 1)=e:=by split<;>omega
    simp[-C,-I,↓KW,he2,c9]
   ·simp[-C,-I,↓KW,aM,encZ,encI]
 ·obtain⟨j,hj⟩:∃j,k=j+1:=⟨k-1,by omega⟩
  have hk2:r.length=(j+m)+2:=by omega
  have gs:=getD_some (l:=r) (i:=j+m) (by omega)
  have hrs:=hr.getD (j+m)
  have hv2:=bFl hk2
  rw[show j+m+1=k+m by omega]at hv2
  have c10:Ag.wrap ((r.length:Int)-2)=((j+m:Nat):Int):=by rw[aV];omega
  have c11:Ag.wrap ((k:Int)-1)=(j:Int):=by rw[aV];omega
  obtain⟨n1,hn1⟩:∃n1,k+m=n1:=⟨_,rfl⟩
  obtain⟨n2,hn2⟩:∃n2,j+m=n2:=⟨_,rfl⟩
  rw[hn1]at gr hrm hrtop c5 hv2
  rw[hn2]at gs hrs c10 hv2
  generalize r.getD n1 0=rt at *
  generalize r.getD n2 0=rs at *
  have c12:A1.wrap (rt:Int)=rt:=bU (by omega) (by omega)
  have c13:A1.wrap (rs:Int)=rs:=bU (by omega) (by omega)
  have c14:A1.wrap ((rt:Int)*4294967296)=(rt:Int)*4294967296:=bU (by omega) (by omega)
  obtain⟨t,ht⟩:∃t,rt*4294967296+rs=t:=⟨_,rfl⟩
  rw[ht]at hv2
  have c15:A1.wrap ((rt:Int)*4294967296+rs)=t:=by rw[bU (by omega) (by omega)];omega
  obtain⟨e,he⟩:∃e,t/low=e:=⟨_,rfl⟩
  have he1:e*low<=t:=by rw[<-he];exact Nat.div_mul_le_self _ _
  have hel:e<=t:=by rw[<-he];exact Nat.div_le_self _ _
  have he0:0<e:=by rw[<-he];exact Nat.div_pos (by omega) (by omega)
  have c16:A1.wrap ((t:Int)/low)=e:=by rw[<-Int.natCast_ediv,he,bU (by omega) (by omega)]
  obtain⟨lo,hi,k1,k2,e3,e4,e5⟩:=bBc (u:=e) (by omega)
  have hpow:4294967296^j*4294967296^m=4294967296^n2:=by rw[<-CA,hn2]
  refine⟨4294967296^j*e,Gf (Nat.pow_pos (by decide)) he0,bLu hdv he1 (by rw[hpow];omega),?_⟩
  have hlim:Lim (AB j 0++[lo,hi]):=(Lim.rep j).app k1
  have hval:val (AB j 0++[lo,hi])=4294967296^j*e:=by rw[oM,aCw,EE,k2,A6]
  have hlen2:(AB j 0++[lo,hi]).length=j+2:=by simp
  have hm2:=iF (AB j 0++[lo,hi]) false (by rw[hlen2];omega)
  rw[fA hlim,hval,show sg false (4294967296^j*e)=((4294967296^j*e:Nat):Int)from rfl]at hm2
  have m1:(4:Int)*j<=281474976710656:=by omega
  have m2:(j:Int)<=9223372036854775807:=by omega
  have m3:(j+2)*4<=140737488355328:=by omega
  have m4:j+2<=maxLen:=by unfold maxLen;omega
  have hrep:(AQ AV.d (lms (AB j 0))).length=j:=by simp[nK]
  refine bF (N:=66) Tryz.func115 ?_
  generalize 4294967296^j*e=res at *
  have hcells:AQ AV.d (lms (AB j 0))++[AV.d (D.i .u32 (lo:Int)),AV.d (D.i .u32 (hi:Int))]=AQ AV.d (lms (AB j 0++[lo,hi])):=by rw[iG,Bu];rfl
  have hkk:((k:Int)==0)=false:=by simp only[FT,ne_eq];omega
  simp[-C,-I,↓KW,aM,c1,c2,c3,c4,c5,c6,c10,c11,c12,c13,c14,c15,c16,gd,gr,gs,hdt,e3,e4,e5,hkk,m1,m2,m3,m4,hrep]
  rw[hcells]
  generalize AB j 0++[lo,hi]=L at *
  refine bK (ds:=[aM L,.b false]) ?_ hm2 ?_
  ·simp[-C,-I,↓KW,aM,hlen2,iB hlen2,fE hlen2]
  ·simp[-C,-I,↓KW,aM,encZ,encI,hlen2,iB hlen2,fE hlen2]
def nH(x:Int)(hx:(aU x.natAbs).length<=549755813888):Spec Aa 88 [encZ x] (encZ (-x)):=by
 refine bF (N:=9) Tryz.func88 ?_;have la:=cY x.natAbs;have va:=dS x.natAbs;have sx:=jH x;have ex:encZ x=.ag [.b (decide (x<0)),aM (aU x.natAbs)]:=rfl;have hm:=iF (aU x.natAbs) (!decide (x<0)) (by omega);rw[fA la,va]at hm;have e:sg (!decide (x<0)) x.natAbs=-x:=by unfold sg;by_cases h:x<0<;>simp[h]<;>omega
 rw[e]at hm;rw[ex];generalize aU x.natAbs=a at *;generalize decide (x<0)=nx at *;simp[-C,-I,↓KW,aM];refine bK (ds:=[aM a,.b (!nx)]) ?_ hm ?_
 ·cases nx<;>rfl
 ·simp[-C,-I,↓KW,aM,encZ,encI]
def aMe(x y:Int)(hx:(aU x.natAbs).length<=549755813888)(hy:(aU y.natAbs).length<=549755813888):Spec Aa 111 [encZ x,encZ y] (encZ (x-y)):=by
 refine bF (N:=9) Tryz.func111 ?_;have h1:=nH y hy;have h2:=sB x (-y) hx (by rw[Int.natAbs_neg];exact hy);rw[<-Int.sub_eq_add_neg]at h2;simp[-C,-I,↓KW,encZ,encI,aM];refine aJ h1 ?_;simp[-C,-I,↓KW,encZ,encI,aM];refine bK (ds:=[encZ x,encZ (-y)]) ?_ h2 ?_
 ·simp[-C,-I,↓KW,encZ,encI,aM]
 ·simp[-C,-I,↓KW,encZ,encI,aM]
def bDz{x y c q r:Nat}(hc:0<c)(hy:0<y)(h:q*(y*c)+r=x*c)(hr:r<y*c):q=x/y/\r/c=x%y:=by
 have hq:x*c/(y*c)=q:=by have:=(Nat.div_mod_unique (Gf hy hc) (a:=x*c) (d:=q) (c:=r)).2 ⟨by rw[Ci (y*c)];omega,hr⟩;exact this.1
 rw[Nat.mul_div_mul_right _ _ hc]at hq;refine⟨hq.symm,?_⟩;have h2:r=x%y*c:=by
  have h3:=FJ x y;rw[hq]at h3;have h4:(y*q+x%y)*c=x*c:=by rw[h3]
  rw[By]at h4;have h5:y*q*c=q*(y*c):=by rw[Ci y,Ck]
  omega
 rw[h2,Nat.mul_div_cancel _ hc]
def bLz{dt c:Nat}(htop:0<dt)(hs:dt*c<4294967296):∃t,dt*c=t/\c<=t/\t<4294967296/\(t<2147483648->dt*(2*c)<4294967296) :=
 ⟨_,rfl,Nat.le_mul_of_pos_left _ htop,hs,λh=>by rw[Ea];omega⟩
def zq(q:Nat):AV:=if q=0 then .nil else .d (aM (aU q))
def zO{x c n:Nat}(h1:(aU x).length<=n)(h2:c<4294967296):(aU (x*c)).length<=n+1 :=
 fZ (by rw[Cp];exact Nat.mul_lt_mul'' (gW h1) h2)
def bNy{x c X:Nat}(h:x+c=X)(h1:(aU (x:Int).natAbs).length<=549755813888)(h2:(aU (c:Int).natAbs).length<=549755813888):Spec Aa 76 [encZ (x:Int),encZ (c:Int)] (encZ (X:Int)):=by have:=sB (x:Int) (c:Int) h1 h2;rwa [<-Int.natCast_add,h]at this
def bFt{x c X:Nat}(h:x=X+c)(h1:(aU (x:Int).natAbs).length<=549755813888)(h2:(aU (c:Int).natAbs).length<=549755813888):Spec Aa 111 [encZ (x:Int),encZ (c:Int)] (encZ (X:Int)):=by have:=aMe (x:Int) (c:Int) h1 h2;rwa [show(x:Int)-c=X by omega]at this
def bMc{q Y r X e E r':Nat}(hp:q*Y+r=X)(hE:e*Y=E)(hr:r=r'+E)(he:0<e)(hY:0<Y):(q+e)*Y+r'=X/\r'<r/\q+e<=X/\E<=X:=by
 have h1:(q+e)*Y+r'=X:=by rw[By,hE];omega
 have h2:0<E:=by rw[<-hE];exact Gf he hY
 have h3:q+e<=(q+e)*Y:=Nat.le_mul_of_pos_right _ hY;exact⟨h1,by omega,by omega,by omega⟩
def bJp{c:Nat}(h:c<4294967296):(aU (c:Int).natAbs).length<=1:=fZ (by simpa using h)
def aFk{x c X:Nat}(h:x*c=X)(h1:(aU (x:Int).natAbs).length<=137438953472)(h2:(aU (c:Int).natAbs).length<=137438953472):Spec Aa 57 [encZ (x:Int),encZ (c:Int)] (encZ (X:Int)):=by have:=qI (x:Int) (c:Int) h1 h2;rwa [<-FM,h]at this
def bJj(n:Nat)(hn:n<4294967296):Spec Aa 58 [aM [n],.b false] (encZ (n:Int)):=by have hm:=iF [n] false (by simp);rw[fA (.one hn)]at hm;simpa[val,sg]using hm
def bCb(x y qq rr:Nat)(hqq:x/y=qq)(hrr:x%y=rr)(hy:0<y)(hlx:(aU x).length<=130000000000)(hly:(aU y).length<=130000000000):Spec Aa 110 [aM (aU x),aM (aU y)] (.tp [encZ (qq:Int),encZ (rr:Int)]):=by
 refine bF (N:=86) Tryz.func110 ?_;have lx:=cY x;have ly:=cY y;have vx:=dS x;have vy:=dS y;have cy:=lF y;have hne:aU y≠[]:=λh=>by rw[fP]at h;omega
 have hyl:0<(aU y).length:=Dr.2 hne;have hmx:∀n:Nat,n<4294967296->Spec Aa 58 [aM [n],.b false] (encZ (n:Int)):=λn hn=>by have hm:=iF [n] false (by simp);rw[fA (.one hn)]at hm;simpa[val,sg]using hm
 by_cases h1:(aU y).length=1
 ·obtain⟨d,hd⟩:=List.length_eq_one_iff.1 h1;have hdl:d<4294967296:=ly d (by rw[hd];simp);have hdv:d=y:=by rw[hd]at vy;simpa[val]using vy
  have hs:=aQe (aU x) d lx (by omega) hdl (by omega);obtain⟨s1,s2,s3,_⟩:=aLv (a:=aU x) (d:=d) lx (by omega);have hm1:=iF (shQ (aU x) d) false (by omega);rw[fA s2,s3,vx,show sg false (x/d)=((x/d:Nat):Int)from rfl]at hm1;have hm2:=hmx (val (aU x)%d) (by have:=EL (val (aU x)) (show d>0 by omega);omega);rw[hd];rw[vx,hdv,hrr]at hm2 hs;rw[hdv,hqq]at hm1;rw[hdv];generalize shQ (aU x) y=Q at *;generalize aU x=a at *;simp[-C,-I,↓KW,aM];refine aJ hs ?_;simp[-C,-I,↓KW,aM];refine aJ hm1 ?_;simp[-C,-I,↓KW,aM];refine bK (ds:=[aM [rr],.b false]) ?_ hm2 ?_
  ·simp[-C,-I,↓KW,aM]
  simp[-C,-I,↓KW,aM,encZ,encI,cD]
 ·have hq1:(((aU y).length:Int)==1)=false:=by simp only[FT,ne_eq];omega
  obtain⟨m,hm⟩:∃m,(aU y).length=m+1:=⟨(aU y).length-1,by omega⟩;have gd:=getD_some (l:=aU y) (i:=m) (by omega);have hdm:=ly.getD m;have htop:0<(aU y).getD m 0:=by
   have h2:(aU y).getLast? ≠ some 0:=cy;rw[Dv,show(aU y).length-1=m by omega,gd]at h2;rcases Cb ((aU y).getD m 0)with h|h
   ·rw[h]at h2;exact absurd rfl h2
   ·exact h
  generalize(aU y).getD m 0=dt at *;have c2:Ag.wrap (((aU y).length:Int)-1)=(m:Int):=by rw[aV];omega
  have c3:A1.wrap (dt:Int)=dt:=bU (by omega) (by omega);have hma:=iF (aU x) false (by omega);rw[fA lx,vx,show sg false x=(x:Int)from rfl]at hma;have hmb:=iF (aU y) false (by omega);rw[fA ly,vy,show sg false y=(y:Int)from rfl]at hmb;have hX:(aU (x:Int).natAbs).length<=130000000000:=hlx;have hY:(aU (y:Int).natAbs).length<=130000000000:=hly;generalize aU x=a at *;generalize aU y=b at *;clear hmx lx ly vx vy cy hne;simp[-C,-I,↓KW,aM,hq1];refine aP (λc:Nat=>0<c/\dt*c<4294967296)
   (λc=>StL [(0,.d (aM a)),(1,.d (aM b)),(4,.ptr 1 0),(5,.ptr 2 0),(8,.d (.i .u32 (c:Int)))] none
    [.cells 72 [.d (.b false),.nil],.cells 72 [.d (.b false),.nil]]) (λc=>4294967296-c) 1 ⟨by decide,by omega⟩ ?_ ?_
  ·refine wkQ [1,2] ?_ ?_<;>simp[-C,upd,aO,Γ0,aM]
  ·intro c hs;refine(bLz htop hs.2).elim λt h5=>?_
   have hc0:=hs.1;have ht:=h5.1;have hcd:=h5.2.1;have hs2:=h5.2.2.1;have hdc:=h5.2.2.2;have c4:A1.wrap (c:Int)=c:=bU (by omega) (by omega);have c5:A1.wrap ((dt:Int)*c)=t:=by rw[<-FM,ht,bU (by omega) (by omega)]
   by_cases hgo:t<2147483648
   ·have q1:(t:Int)<2147483648:=by omega
    have c6:Cr.wrap (2*(c:Int))=2*(c:Int):=kP (by omega) (by omega);simp[-C,-I,↓KW,aM,c2,c3,c4,c5,c6,gd,q1];refine aI (2*c) ⟨by omega,hdc hgo⟩ ?_ (wkQ [1,2] ?_ ?_)
    ·omega
    ·simp[-C,upd,aO,Γ0,aM]
    ·simp[-C,upd,aO,Γ0,aM]
   ·have q1:¬(t:Int)<2147483648:=by omega
    have hc32:c<4294967296:=by omega
    have hmc:=bJj c hc32;simp[-C,-I,↓KW,aM,c2,c3,c4,c5,gd,q1];refine bK (ds:=[aM [c],.b false]) ?_ hmc ?_
    ·simp[-C,-I,↓KW,aM]
    simp[-C,-I,↓KW,aM,encZ,encI];refine aJ hma ?_;simp[-C,-I,↓KW,encZ,encI,aM];refine(⟨_,rfl⟩:∃X,x*c=X).elim λX hXe=>?_
    refine(⟨_,rfl⟩:∃X,y*c=X).elim λY hYe=>?_
    have hC:=bJp hc32;have hXl:(aU X).length<=130000000001:=by rw[<-hXe];exact zO hX hc32
    have hYl:(aU Y).length<=130000000001:=by rw[<-hYe];exact zO hY hc32
    have hY0:0<Y:=by rw[<-hYe];exact Gf hy hc0
    have hMx:=aFk (X:=X) hXe (by omega) (by omega) (x:=x) (c:=c);have hMy:=aFk (X:=Y) hYe (by omega) (by omega) (x:=y) (c:=c);refine bK (ds:=[encZ x,encZ c]) ?_ hMx ?_
    ·simp[-C,-I,↓KW,encZ,encI,aM]
    simp[-C,-I,↓KW,encZ,encI,aM];refine aJ hmb ?_;simp[-C,-I,↓KW,encZ,encI,aM];refine bK (ds:=[encZ y,encZ c]) ?_ hMy ?_
    ·simp[-C,-I,↓KW,encZ,encI,aM]
    simp[-C,-I,↓KW,encZ,encI,aM];refine aP (λp:Nat×Nat=>p.1*Y+p.2=X)
     (λp=>StL [(4,.ptr 1 0),(5,.ptr 2 0),(8,.d (.i .u32 (c:Int))),(10,.ptr 3 0),(11,.ptr 4 0),(12,.ptr 5 0)] none
      [.cells 72 [.d (.b false),.nil],.cells 72 [.d (.b false),.nil],.cells 72 [.d (.b false),.d (aM (aU p.2))],.cells 72 [.d (.b false),.d (aM (aU Y))],.cells 72 [.d (.b false),zq p.1]]) (λp=>p.2) (0,X) (by simp) ?_ ?_
    ·refine wkQ [1,2,5,6,7] ?_ ?_<;>simp[-C,upd,aO,Γ0,aM,zq]
    ·intro p hp;have hpX:p.2<=X:=by rw[<-hp];exact Nat.le_add_left _ _
     have hpl:=An (fC hpX) hXl;have hless:=aDe (aU p.2) (aU Y) (cY _) (cY _) (by omega) (by omega);rw[lB]at hless;simp[-C,-I,↓KW,aM];refine aJ hless ?_;by_cases hgo:p.2<Y
     ·simp[-C,-I,↓KW,hgo];have hsh:=aQe (aU p.2) c (cY _) hc0 hc32 (by omega);have hsv:=aLv (cY p.2) hc0;have hmd:=iF (shQ (aU p.2) c) false (by have:=hsv.1;omega);have hfin:=bDz hc0 hy (x:=x) (q:=p.1) (r:=p.2) (by rw[hYe,hXe];exact hp) (by rw[hYe];exact hgo);rw[fA hsv.2.1,hsv.2.2.1,dS,hfin.2,hrr,show sg false rr=(rr:Int)from rfl]at hmd;refine aJ hsh ?_;simp[-C,-I,↓KW,aM];refine aJ hmd ?_;have hq1:p.1=qq:=hfin.1.trans hqq;rw[hq1];by_cases hq0:qq=0
      ·simp[-C,-I,↓KW,encZ,encI,aM,cD,zq,hq0,dH]
      ·simp[-C,-I,↓KW,encZ,encI,aM,cD,zq,hq0]
     ·simp[-C,-I,↓KW,hgo];refine(aQg (aU p.2) (aU Y) (cY _) (cY _) (lF _) (lF _) (λh=>by rw[fP]at h;omega) (by rw[dS,dS];omega) (by omega)).elim λe he=>?_
      have he1:=he.2.1;rw[dS,dS]at he1;refine(⟨_,rfl⟩:∃E,e*Y=E).elim λE hE=>?_
      rw[hE]at he1;refine(⟨_,rfl⟩:∃F,p.2-E=F).elim λR' hR'=>?_
      have hR2:p.2=R'+E:=by omega
      have hst:=bMc hp hE hR2 he.1 hY0;refine(⟨_,rfl⟩:∃F,p.1+e=F).elim λq' hq'=>?_
      rw[hq']at hst;have hel:(aU (e:Int).natAbs).length<=130000000001:=An (fC (show e<=X by omega)) hXl;have hqpl:(aU (p.1:Int).natAbs).length<=130000000001:=An (fC (show p.1<=X by omega)) hXl;have hEl:(aU (E:Int).natAbs).length<=130000000001:=An (fC (show E<=X by omega)) hXl;have hrl:(aU (p.2:Int).natAbs).length<=130000000001:=hpl;have hYl2:(aU (Y:Int).natAbs).length<=130000000001:=hYl;have hadd:=bNy hq' (by omega) (by omega);have hmul:=aFk hE (by omega) (by omega);have hsub:=bFt hR2 (by omega) (by omega);by_cases hq0:p.1=0
      ·have hz:zq p.1=.nil:=Ad hq0;refine aJ he.2.2 ?_;simp[-C,-I,↓KW,aM,encZ,encI,hz];refine bK (ds:=[encZ p.1,encZ e]) ?_ hadd ?_
       ·simp[-C,-I,↓KW,encZ,encI,aM,hq0,dH]
       simp[-C,-I,↓KW,aM,encZ,encI];refine bK (ds:=[encZ e,encZ Y]) ?_ hmul ?_
       ·simp[-C,-I,↓KW,encZ,encI,aM]
       simp[-C,-I,↓KW,aM,encZ,encI];refine bK (ds:=[encZ p.2,encZ E]) ?_ hsub ?_
       ·simp[-C,-I,↓KW,encZ,encI,aM]
       simp[-C,-I,↓KW,aM,encZ,encI];have hz2:zq q'=.d (aM (aU q')):=Ac (by have:=he.1;omega);refine aI (q',R') hst.1 hst.2.1 (wkQ [1,2,3,4,5] ?_ ?_)
       ·simp[-C,upd,aO,Γ0,aM,hz2]
       ·simp[-C,upd,aO,Γ0,aM,hz2]
      ·have hz:zq p.1=.d (aM (aU p.1)):=Ac hq0;refine aJ he.2.2 ?_;simp[-C,-I,↓KW,aM,encZ,encI,hz];refine bK (ds:=[encZ p.1,encZ e]) ?_ hadd ?_
       ·simp[-C,-I,↓KW,encZ,encI,aM,hq0,dH]
       simp[-C,-I,↓KW,aM,encZ,encI];refine bK (ds:=[encZ e,encZ Y]) ?_ hmul ?_
       ·simp[-C,-I,↓KW,encZ,encI,aM]
       simp[-C,-I,↓KW,aM,encZ,encI];refine bK (ds:=[encZ p.2,encZ E]) ?_ hsub ?_
       ·simp[-C,-I,↓KW,encZ,encI,aM]
       simp[-C,-I,↓KW,aM,encZ,encI];have hz2:zq q'=.d (aM (aU q')):=Ac (by have:=he.1;omega);refine aI (q',R') hst.1 hst.2.1 (wkQ [1,2,3,4,5] ?_ ?_)
       ·simp[-C,upd,aO,Γ0,aM,hz2]
       ·simp[-C,upd,aO,Γ0,aM,hz2]
end Go.Am
end
