/- The reference's integers: the division of absolute values. No condition. -/
import Derived.Test.YtaopbfbimpkomaaGreatE3
import Derived.Test.YtaopbfbimpkomaaGreatRows
import Derived.Shelf.SlIterI.Nil
import Derived.Shelf.SortM.Plain
import Derived.Shelf.SortM.SortNone
import Derived.Ground.GgzProg
import Derived.Ground.SlgmProg
import Derived.Test.YtaopbfbimpkomaaGreatProg
import Derived.Recover
import Derived.ProofKit
import Derived.OpenShut
open And renaming intro→AQ
open Array renaming getElem?_eq_some_iff→BH,replicate→Bx
open Bool renaming and_eq_true→AI,eq_iff_iff→Dg,false_eq_true→AU,or_eq_true→Dd
open Go.Ending renaming returned→Dx
open Go.Fence renaming wide→De
open Go.IntKind renaming bits→C4,i64→Ah,u32→BY,u64→AY
open Go.Program renaming underlying→Aw
open Go.Region renaming ready→BL
open Go.Sem renaming run_bind→A4
open Go.Shelf renaming Ren→E1
open Go.Value renaming cells→DP,oneCell'→Cj
open Go.WideElems renaming rg→Ef
open Int renaming add_zero→DA,fdiv_eq_ediv_of_nonneg→CQ,lt_trichotomy→D4,mul_neg→DQ,natAbs_mul→BJ,natCast_mul→ES,neg_mul→C5,sign_eq_neg_one_of_neg→CS,sign_eq_one_of_pos→Dj
open List renaming all_cons→DD,all_eq_true→AO,append_assoc→AZ,drop→C1,drop_eq_getElem_cons→A2,drop_eq_nil_of_le→Bo,eq_nil_of_length_eq_zero→Au,ext_getElem→DK,flatten_cons→BP,foldl_append→C9,foldl_cons→CG,getD_eq_getElem?_getD→Ac,getElem?_append_left→AF,getElem?_append_right→AA,getElem?_cons_succ→A6,getElem?_eq_getElem→Aa,getElem?_eq_none→AG,getElem?_eq_some_iff→Aj,getElem?_map→Ax,getElem?_range→Co,getElem?_replicate→Ct,getElem?_set→EA,getElem?_set_ne→EO,getElem_mem→Ak,getLast?_eq_getElem?→Ds,length_append→Al,length_cons→AB,length_map→AN,length_nil→A8,length_pos_iff→DF,length_replicate→D2,length_set→Er,length_singleton→Ar,length_take→AM,map→BR,mapM_cons→B7,map_append→By,map_congr_left→Bu,map_cons→AR,map_map→C3,map_replicate→E7,map_take→Cc,mem_append→A9,mem_cons→AD,mem_cons_of_mem→As,mem_cons_self→Av,mem_iff_getElem→BC,mem_map→AE,mem_map_of_mem→EY,mem_nil_iff→Eg,mem_of_getElem?→Aq,mem_of_mem_take→Bs,mem_or_eq_of_mem_set→Ej,mem_range→DH,mem_singleton→AP,pairwise_cons→A5,pairwise_map→Cs,range→Db,range_succ_eq_map→DU,replicate→Ay,replicate_succ→Dh,set_cons_zero→Es,take→Cd,take_add_one→AJ,take_of_length_le→Ai,take_zero→BZ
open Nat renaming add_assoc→DC,add_comm→CB,add_le_add_left→En,add_mul→Bp,add_sub_cancel→A7,add_zero→BW,div_add_mod→ER,eq_zero_or_pos→Ce,le_refl→Az,le_trans→Ap,lt_or_ge→Bc,lt_succ_self→Ad,min_eq_left→Da,mod_lt→D9,mul_add→BX,mul_assoc→BF,mul_comm→BU,mul_le_mul→B9,mul_le_mul_left→BE,mul_le_mul_right→AX,mul_left_comm→Dz,mul_one→CK,mul_pos→Fk,mul_zero→CP,one_mul→Cn,pow_add→CC,pow_le_pow_right→BI,pow_succ→Cf,sub_lt_sub_left→Ab,sub_self→Cq,zero_add→Bf,zero_le→An
open Option renaming getD_some→Ba,map_eq_some_iff→Ao,map_some→AW
open Option.some renaming injEq→AT
open _root_ renaming beq_eq_false_iff_ne→EX,decide_eq_true_eq→AH,if_false→BB,if_neg→Ae,if_pos→Ag,or_false→DX
section
set_option linter.unusedVariables false
set_option linter.unusedSimpArgs false
open Go Go.Proofs
namespace Go.Am
@[simp]theorem cBb:tsz Tryz.prog 2=some 1∧tby Tryz.prog 2=some 8∧tz Tryz.prog 2=some (.int .i64 0)∧dI Tryz.prog 2=some false∧tel Tryz.prog 2=none∧cI Tryz.prog 2=false∧(Aw Tryz.prog 2).isSome=true∧gW Tryz.prog 2=some .i64:=by and_intros<;>kernel_rfl
@[simp]theorem cBa:tsz Tryz.prog 3=some 1∧tby Tryz.prog 3=some 8∧tz Tryz.prog 3=some (.int .i64 0)∧dI Tryz.prog 3=some false∧tel Tryz.prog 3=none∧cI Tryz.prog 3=false∧(Aw Tryz.prog 3).isSome=true∧gW Tryz.prog 3=some .i64:=by and_intros<;>kernel_rfl
@[simp]theorem cAz:tsz Tryz.prog 4=some 1∧tby Tryz.prog 4=some 1∧tz Tryz.prog 4=some (.bool false)∧dI Tryz.prog 4=some false∧tel Tryz.prog 4=none∧cI Tryz.prog 4=true∧(Aw Tryz.prog 4).isSome=true:=by and_intros<;>kernel_rfl
@[simp]theorem cAy:tsz Tryz.prog 5=some 1∧tby Tryz.prog 5=some 1∧tz Tryz.prog 5=some (.int .u8 0)∧dI Tryz.prog 5=some false∧tel Tryz.prog 5=none∧cI Tryz.prog 5=false∧(Aw Tryz.prog 5).isSome=true∧gW Tryz.prog 5=some .u8:=by and_intros<;>kernel_rfl
@[simp]theorem cAx:tsz Tryz.prog 6=some 1∧tby Tryz.prog 6=some 1∧tz Tryz.prog 6=some (.int .u8 0)∧dI Tryz.prog 6=some false∧tel Tryz.prog 6=none∧cI Tryz.prog 6=false∧(Aw Tryz.prog 6).isSome=true∧gW Tryz.prog 6=some .u8:=by and_intros<;>kernel_rfl
@[simp]theorem cAw:tsz Tryz.prog 7=some 4∧tby Tryz.prog 7=some 24∧tz Tryz.prog 7=some (.agg #[.int .i64 0,.int .i64 0,.bool false,.int .u8 0])∧dI Tryz.prog 7=some true∧tel Tryz.prog 7=none∧cI Tryz.prog 7=false∧(Aw Tryz.prog 7).isSome=true∧jP Tryz.prog 7=some [(0,1),(1,1),(2,1),(3,1)]:=by and_intros<;>kernel_rfl
@[simp]theorem cAv:tsz Tryz.prog 8=some 4∧tby Tryz.prog 8=some 24∧tz Tryz.prog 8=some (.agg #[.int .i64 0,.int .i64 0,.bool false,.int .u8 0])∧dI Tryz.prog 8=some true∧tel Tryz.prog 8=none∧cI Tryz.prog 8=false∧(Aw Tryz.prog 8).isSome=true∧jP Tryz.prog 8=some [(0,1),(1,1),(2,1),(3,1)]:=by and_intros<;>kernel_rfl
@[simp]theorem cAj:tsz Tryz.prog 12=some 1∧tby Tryz.prog 12=some 8∧tz Tryz.prog 12=some (.int .u64 0)∧dI Tryz.prog 12=some false∧tel Tryz.prog 12=none∧cI Tryz.prog 12=false∧(Aw Tryz.prog 12).isSome=true∧gW Tryz.prog 12=some .u64:=by and_intros<;>kernel_rfl
@[simp]theorem cAi:tsz Tryz.prog 21=some 1∧tby Tryz.prog 21=some 4∧tz Tryz.prog 21=some (.int .i32 0)∧dI Tryz.prog 21=some false∧tel Tryz.prog 21=none∧cI Tryz.prog 21=false∧(Aw Tryz.prog 21).isSome=true∧gW Tryz.prog 21=some .i32:=by and_intros<;>kernel_rfl
@[simp]theorem cAh:tsz Tryz.prog 22=some 1∧tby Tryz.prog 22=some 24∧tz Tryz.prog 22=some (.slice none 0 0)∧dI Tryz.prog 22=some false∧tel Tryz.prog 22=some 67∧cI Tryz.prog 22=false∧(Aw Tryz.prog 22).isSome=true:=by and_intros<;>kernel_rfl
@[simp]theorem cAg:tsz Tryz.prog 23=some 2∧tby Tryz.prog 23=some 32∧tz Tryz.prog 23=some (.agg #[.int .u8 0,.slice none 0 0])∧dI Tryz.prog 23=some true∧tel Tryz.prog 23=none∧cI Tryz.prog 23=false∧(Aw Tryz.prog 23).isSome=true∧jP Tryz.prog 23=some [(0,1),(1,1)]:=by and_intros<;>kernel_rfl
@[simp]theorem cAf:tsz Tryz.prog 24=some 2∧tby Tryz.prog 24=some 32∧tz Tryz.prog 24=some (.agg #[.int .u8 0,.slice none 0 0])∧dI Tryz.prog 24=some true∧tel Tryz.prog 24=none∧cI Tryz.prog 24=false∧(Aw Tryz.prog 24).isSome=true∧jP Tryz.prog 24=some [(0,1),(1,1)]:=by and_intros<;>kernel_rfl
@[simp]theorem cAe:tsz Tryz.prog 25=some 3∧tby Tryz.prog 25=some 3∧tz Tryz.prog 25=some (.agg #[.int .u8 0,.int .u8 0,.int .u8 0])∧dI Tryz.prog 25=some true∧tel Tryz.prog 25=none∧cI Tryz.prog 25=false∧(Aw Tryz.prog 25).isSome=true∧jP Tryz.prog 25=none∧yA Tryz.prog 25=some (3,5):=by and_intros<;>kernel_rfl
@[simp]theorem cAd:tsz Tryz.prog 26=some 1∧tby Tryz.prog 26=some 24∧tz Tryz.prog 26=some (.slice none 0 0)∧dI Tryz.prog 26=some false∧tel Tryz.prog 26=some 66∧cI Tryz.prog 26=false∧(Aw Tryz.prog 26).isSome=true:=by and_intros<;>kernel_rfl
@[simp]theorem cAc:tsz Tryz.prog 28=some 1∧tby Tryz.prog 28=some 24∧tz Tryz.prog 28=some (.slice none 0 0)∧dI Tryz.prog 28=some false∧tel Tryz.prog 28=some 43∧cI Tryz.prog 28=false∧(Aw Tryz.prog 28).isSome=true:=by and_intros<;>kernel_rfl
@[simp]theorem cAb:tsz Tryz.prog 29=some 1∧tby Tryz.prog 29=some 24∧tz Tryz.prog 29=some (.slice none 0 0)∧dI Tryz.prog 29=some false∧tel Tryz.prog 29=some 43∧cI Tryz.prog 29=false∧(Aw Tryz.prog 29).isSome=true:=by and_intros<;>kernel_rfl
@[simp]theorem cAa:tsz Tryz.prog 31=some 1∧tby Tryz.prog 31=some 24∧tz Tryz.prog 31=some (.slice none 0 0)∧dI Tryz.prog 31=some false∧tel Tryz.prog 31=some 39∧cI Tryz.prog 31=false∧(Aw Tryz.prog 31).isSome=true:=by and_intros<;>kernel_rfl
@[simp]theorem bZz:tsz Tryz.prog 35=some 1∧tby Tryz.prog 35=some 24∧tz Tryz.prog 35=some (.slice none 0 0)∧dI Tryz.prog 35=some false∧tel Tryz.prog 35=some 84∧cI Tryz.prog 35=false∧(Aw Tryz.prog 35).isSome=true:=by and_intros<;>kernel_rfl
@[simp]theorem bZy:tsz Tryz.prog 36=some 1∧tby Tryz.prog 36=some 24∧tz Tryz.prog 36=some (.slice none 0 0)∧dI Tryz.prog 36=some false∧tel Tryz.prog 36=some 84∧cI Tryz.prog 36=false∧(Aw Tryz.prog 36).isSome=true:=by and_intros<;>kernel_rfl
@[simp]theorem bZx:tsz Tryz.prog 37=some 1∧tby Tryz.prog 37=some 8∧tz Tryz.prog 37=some (.int .i64 0)∧dI Tryz.prog 37=some false∧tel Tryz.prog 37=none∧cI Tryz.prog 37=false∧(Aw Tryz.prog 37).isSome=true∧gW Tryz.prog 37=some .i64:=by and_intros<;>kernel_rfl
@[simp]theorem bZw:tsz Tryz.prog 38=some 3∧tby Tryz.prog 38=some 56∧tz Tryz.prog 38=some (.agg #[.slice none 0 0,.slice none 0 0,.int .i64 0])∧dI Tryz.prog 38=some true∧tel Tryz.prog 38=none∧cI Tryz.prog 38=false∧(Aw Tryz.prog 38).isSome=true∧jP Tryz.prog 38=some [(0,1),(1,1),(2,1)]:=by and_intros<;>kernel_rfl
@[simp]theorem bZv:tsz Tryz.prog 39=some 3∧tby Tryz.prog 39=some 56∧tz Tryz.prog 39=some (.agg #[.slice none 0 0,.slice none 0 0,.int .i64 0])∧dI Tryz.prog 39=some true∧tel Tryz.prog 39=none∧cI Tryz.prog 39=false∧(Aw Tryz.prog 39).isSome=true∧jP Tryz.prog 39=some [(0,1),(1,1),(2,1)]:=by and_intros<;>kernel_rfl
@[simp]theorem bZu:tsz Tryz.prog 40=some 1∧tby Tryz.prog 40=some 24∧tz Tryz.prog 40=some (.slice none 0 0)∧dI Tryz.prog 40=some false∧tel Tryz.prog 40=some 76∧cI Tryz.prog 40=false∧(Aw Tryz.prog 40).isSome=true:=by and_intros<;>kernel_rfl
@[simp]theorem bZt:tsz Tryz.prog 41=some 1∧tby Tryz.prog 41=some 24∧tz Tryz.prog 41=some (.slice none 0 0)∧dI Tryz.prog 41=some false∧tel Tryz.prog 41=some 76∧cI Tryz.prog 41=false∧(Aw Tryz.prog 41).isSome=true:=by and_intros<;>kernel_rfl
@[simp]theorem bZs:tsz Tryz.prog 42=some 3∧tby Tryz.prog 42=some 40∧tz Tryz.prog 42=some (.agg #[.int .i64 0,.int .i64 0,.slice none 0 0])∧dI Tryz.prog 42=some true∧tel Tryz.prog 42=none∧cI Tryz.prog 42=false∧(Aw Tryz.prog 42).isSome=true∧jP Tryz.prog 42=some [(0,1),(1,1),(2,1)]:=by and_intros<;>kernel_rfl
@[simp]theorem bZr:tsz Tryz.prog 43=some 3∧tby Tryz.prog 43=some 40∧tz Tryz.prog 43=some (.agg #[.int .i64 0,.int .i64 0,.slice none 0 0])∧dI Tryz.prog 43=some true∧tel Tryz.prog 43=none∧cI Tryz.prog 43=false∧(Aw Tryz.prog 43).isSome=true∧jP Tryz.prog 43=some [(0,1),(1,1),(2,1)]:=by and_intros<;>kernel_rfl
@[simp]theorem bZq:tsz Tryz.prog 56=some 2∧tby Tryz.prog 56=some 16∧tz Tryz.prog 56=some (.agg #[.int .i64 0,.int .i64 0])∧dI Tryz.prog 56=some true∧tel Tryz.prog 56=none∧cI Tryz.prog 56=false∧(Aw Tryz.prog 56).isSome=true∧jP Tryz.prog 56=none∧yA Tryz.prog 56=some (2,3):=by and_intros<;>kernel_rfl
@[simp]theorem bZp:tsz Tryz.prog 57=some 1∧tby Tryz.prog 57=some 24∧tz Tryz.prog 57=some (.slice none 0 0)∧dI Tryz.prog 57=some false∧tel Tryz.prog 57=some 56∧cI Tryz.prog 57=false∧(Aw Tryz.prog 57).isSome=true:=by and_intros<;>kernel_rfl
@[simp]theorem bZo:tsz Tryz.prog 66=some 1∧tby Tryz.prog 66=some 1∧tz Tryz.prog 66=some (.int .i8 0)∧dI Tryz.prog 66=some false∧tel Tryz.prog 66=none∧cI Tryz.prog 66=false∧(Aw Tryz.prog 66).isSome=true∧gW Tryz.prog 66=some .i8:=by and_intros<;>kernel_rfl
@[simp]theorem bZn:tsz Tryz.prog 67=some 4∧tby Tryz.prog 67=some 4∧tz Tryz.prog 67=some (.agg #[.int .i8 0,.int .i8 0,.int .i8 0,.int .i8 0])∧dI Tryz.prog 67=some true∧tel Tryz.prog 67=none∧cI Tryz.prog 67=false∧(Aw Tryz.prog 67).isSome=true∧jP Tryz.prog 67=none∧yA Tryz.prog 67=some (4,66):=by and_intros<;>kernel_rfl
@[simp]theorem bZm:tsz Tryz.prog 68=some 1∧tby Tryz.prog 68=some 24∧tz Tryz.prog 68=some (.slice none 0 0)∧dI Tryz.prog 68=some false∧tel Tryz.prog 68=some 3∧cI Tryz.prog 68=false∧(Aw Tryz.prog 68).isSome=true:=by and_intros<;>kernel_rfl
@[simp]theorem bZl:tsz Tryz.prog 72=some 1∧tby Tryz.prog 72=some 24∧tz Tryz.prog 72=some (.slice none 0 0)∧dI Tryz.prog 72=some false∧tel Tryz.prog 72=some 131∧cI Tryz.prog 72=false∧(Aw Tryz.prog 72).isSome=true:=by and_intros<;>kernel_rfl
@[simp]theorem bZk:tsz Tryz.prog 73=some 2∧tby Tryz.prog 73=some 32∧tz Tryz.prog 73=some (.agg #[.bool false,.slice none 0 0])∧dI Tryz.prog 73=some true∧tel Tryz.prog 73=none∧cI Tryz.prog 73=false∧(Aw Tryz.prog 73).isSome=true∧jP Tryz.prog 73=some [(0,1),(1,1)]:=by and_intros<;>kernel_rfl
@[simp]theorem bZj:tsz Tryz.prog 74=some 2∧tby Tryz.prog 74=some 32∧tz Tryz.prog 74=some (.agg #[.bool false,.slice none 0 0])∧dI Tryz.prog 74=some true∧tel Tryz.prog 74=none∧cI Tryz.prog 74=false∧(Aw Tryz.prog 74).isSome=true∧jP Tryz.prog 74=some [(0,1),(1,1)]:=by and_intros<;>kernel_rfl
@[simp]theorem bZi:tsz Tryz.prog 75=some 3∧tby Tryz.prog 75=some 40∧tz Tryz.prog 75=some (.agg #[.int .i64 0,.bool false,.slice none 0 0])∧dI Tryz.prog 75=some true∧tel Tryz.prog 75=none∧cI Tryz.prog 75=false∧(Aw Tryz.prog 75).isSome=true∧jP Tryz.prog 75=some [(0,1),(1,2)]:=by and_intros<;>kernel_rfl
@[simp]theorem bZh:tsz Tryz.prog 76=some 3∧tby Tryz.prog 76=some 40∧tz Tryz.prog 76=some (.agg #[.int .i64 0,.bool false,.slice none 0 0])∧dI Tryz.prog 76=some true∧tel Tryz.prog 76=none∧cI Tryz.prog 76=false∧(Aw Tryz.prog 76).isSome=true∧jP Tryz.prog 76=some [(0,1),(1,2)]:=by and_intros<;>kernel_rfl
@[simp]theorem bZg:tsz Tryz.prog 80=some 1∧tby Tryz.prog 80=some 8∧dI Tryz.prog 80=some false∧tel Tryz.prog 80=none∧cI Tryz.prog 80=false∧(Aw Tryz.prog 80).isSome=true∧tmp Tryz.prog 80=some (3,41):=by and_intros<;>kernel_rfl
@[simp]theorem bZf:tsz Tryz.prog 83=some 2∧tby Tryz.prog 83=some 32∧tz Tryz.prog 83=some (.agg #[.int .i64 0,.slice none 0 0])∧dI Tryz.prog 83=some true∧tel Tryz.prog 83=none∧cI Tryz.prog 83=false∧(Aw Tryz.prog 83).isSome=true∧jP Tryz.prog 83=some [(0,1),(1,1)]:=by and_intros<;>kernel_rfl
@[simp]theorem bZe:tsz Tryz.prog 84=some 2∧tby Tryz.prog 84=some 32∧tz Tryz.prog 84=some (.agg #[.int .i64 0,.slice none 0 0])∧dI Tryz.prog 84=some true∧tel Tryz.prog 84=none∧cI Tryz.prog 84=false∧(Aw Tryz.prog 84).isSome=true∧jP Tryz.prog 84=some [(0,1),(1,1)]:=by and_intros<;>kernel_rfl
@[simp]theorem bZd:tsz Tryz.prog 86=some 1∧tby Tryz.prog 86=some 24∧tz Tryz.prog 86=some (.slice none 0 0)∧dI Tryz.prog 86=some false∧tel Tryz.prog 86=some 41∧cI Tryz.prog 86=false∧(Aw Tryz.prog 86).isSome=true:=by and_intros<;>kernel_rfl
@[simp]theorem bZc:tsz Tryz.prog 93=some 1∧tby Tryz.prog 93=some 24∧tz Tryz.prog 93=some (.slice none 0 0)∧dI Tryz.prog 93=some false∧tel Tryz.prog 93=some 97∧cI Tryz.prog 93=false∧(Aw Tryz.prog 93).isSome=true:=by and_intros<;>kernel_rfl
@[simp]theorem bZb:tsz Tryz.prog 94=some 3∧tby Tryz.prog 94=some 40∧tz Tryz.prog 94=some (.agg #[.int .i64 0,.int .i64 0,.slice none 0 0])∧dI Tryz.prog 94=some true∧tel Tryz.prog 94=none∧cI Tryz.prog 94=false∧(Aw Tryz.prog 94).isSome=true∧jP Tryz.prog 94=some [(0,1),(1,1),(2,1)]:=by and_intros<;>kernel_rfl
@[simp]theorem bZa:tsz Tryz.prog 95=some 3∧tby Tryz.prog 95=some 40∧tz Tryz.prog 95=some (.agg #[.int .i64 0,.int .i64 0,.slice none 0 0])∧dI Tryz.prog 95=some true∧tel Tryz.prog 95=none∧cI Tryz.prog 95=false∧(Aw Tryz.prog 95).isSome=true∧jP Tryz.prog 95=some [(0,1),(1,1),(2,1)]:=by and_intros<;>kernel_rfl
@[simp]theorem bYz:tsz Tryz.prog 97=some 1∧tby Tryz.prog 97=some 24∧tz Tryz.prog 97=some (.slice none 0 0)∧dI Tryz.prog 97=some false∧tel Tryz.prog 97=some 74∧cI Tryz.prog 97=false∧(Aw Tryz.prog 97).isSome=true:=by and_intros<;>kernel_rfl
@[simp]theorem bYy:tsz Tryz.prog 98=some 1∧tby Tryz.prog 98=some 24∧tz Tryz.prog 98=some (.slice none 0 0)∧dI Tryz.prog 98=some false∧tel Tryz.prog 98=some 74∧cI Tryz.prog 98=false∧(Aw Tryz.prog 98).isSome=true:=by and_intros<;>kernel_rfl
@[simp]theorem bYl:tsz Tryz.prog 100=some 1∧tby Tryz.prog 100=some 24∧tz Tryz.prog 100=some (.slice none 0 0)∧dI Tryz.prog 100=some false∧tel Tryz.prog 100=some 2∧cI Tryz.prog 100=false∧(Aw Tryz.prog 100).isSome=true:=by and_intros<;>kernel_rfl
@[simp]theorem bYk:tsz Tryz.prog 109=some 1∧tby Tryz.prog 109=some 8∧dI Tryz.prog 109=some false∧tel Tryz.prog 109=none∧cI Tryz.prog 109=false∧(Aw Tryz.prog 109).isSome=true∧tmp Tryz.prog 109=some (3,3):=by and_intros<;>kernel_rfl
@[simp]theorem bYj:tsz Tryz.prog 110=some 1∧tby Tryz.prog 110=some 8∧dI Tryz.prog 110=some false∧tel Tryz.prog 110=none∧cI Tryz.prog 110=false∧(Aw Tryz.prog 110).isSome=true∧tmp Tryz.prog 110=some (3,4):=by and_intros<;>kernel_rfl
@[simp]theorem bYi:tsz Tryz.prog 120=some 1∧tby Tryz.prog 120=some 8∧dI Tryz.prog 120=some false∧tel Tryz.prog 120=none∧cI Tryz.prog 120=false∧(Aw Tryz.prog 120).isSome=true∧tmp Tryz.prog 120=some (3,74):=by and_intros<;>kernel_rfl
@[simp]theorem bYh:tsz Tryz.prog 121=some 1∧tby Tryz.prog 121=some 8∧dI Tryz.prog 121=some false∧tel Tryz.prog 121=none∧cI Tryz.prog 121=false∧(Aw Tryz.prog 121).isSome=true∧tmp Tryz.prog 121=some (3,74):=by and_intros<;>kernel_rfl
@[simp]theorem bYg:tsz Tryz.prog 129=some 1∧tby Tryz.prog 129=some 8∧tz Tryz.prog 129=some (.int .u64 0)∧dI Tryz.prog 129=some false∧tel Tryz.prog 129=none∧cI Tryz.prog 129=false∧(Aw Tryz.prog 129).isSome=true∧gW Tryz.prog 129=some .u64:=by and_intros<;>kernel_rfl
@[simp]theorem bYf:tsz Tryz.prog 131=some 1∧tby Tryz.prog 131=some 4∧tz Tryz.prog 131=some (.int .u32 0)∧dI Tryz.prog 131=some false∧tel Tryz.prog 131=none∧cI Tryz.prog 131=false∧(Aw Tryz.prog 131).isSome=true∧gW Tryz.prog 131=some .u32:=by and_intros<;>kernel_rfl
@[simp]theorem bYe:tsz Tryz.prog 132=some 1∧tby Tryz.prog 132=some 8∧tz Tryz.prog 132=some (.int .u64 0)∧dI Tryz.prog 132=some false∧tel Tryz.prog 132=none∧cI Tryz.prog 132=false∧(Aw Tryz.prog 132).isSome=true∧gW Tryz.prog 132=some .u64:=by and_intros<;>kernel_rfl
@[simp]theorem bYd:tsz Tryz.prog 156=some 9∧tby Tryz.prog 156=some 120∧tz Tryz.prog 156=some (.agg #[.int .i64 0,.int .i64 0,.slice none 0 0,.int .i64 0,.int .i64 0,.slice none 0 0,.int .i64 0,.int .i64 0,.slice none 0 0])∧dI Tryz.prog 156=some true∧tel Tryz.prog 156=none∧cI Tryz.prog 156=false∧(Aw Tryz.prog 156).isSome=true∧jP Tryz.prog 156=some [(0,3),(3,3),(6,3)]:=by and_intros<;>kernel_rfl
@[simp]theorem bYc:tsz Tryz.prog 157=some 9∧tby Tryz.prog 157=some 120∧tz Tryz.prog 157=some (.agg #[.int .i64 0,.int .i64 0,.slice none 0 0,.int .i64 0,.int .i64 0,.slice none 0 0,.int .i64 0,.int .i64 0,.slice none 0 0])∧dI Tryz.prog 157=some true∧tel Tryz.prog 157=none∧cI Tryz.prog 157=false∧(Aw Tryz.prog 157).isSome=true∧jP Tryz.prog 157=some [(0,3),(3,3),(6,3)]:=by and_intros<;>kernel_rfl
@[simp]theorem bYb:tsz Tryz.prog 167=some 1∧tby Tryz.prog 167=some 8∧tz Tryz.prog 167=some (.int .i64 0)∧dI Tryz.prog 167=some false∧tel Tryz.prog 167=none∧cI Tryz.prog 167=false∧(Aw Tryz.prog 167).isSome=true∧gW Tryz.prog 167=some .i64:=by and_intros<;>kernel_rfl
@[simp]theorem bYa:tsz Tryz.prog 179=some 9∧tby Tryz.prog 179=some 120∧tz Tryz.prog 179=some (.agg #[.int .i64 0,.int .i64 0,.slice none 0 0,.int .i64 0,.int .i64 0,.slice none 0 0,.int .i64 0,.int .i64 0,.slice none 0 0])∧dI Tryz.prog 179=some true∧tel Tryz.prog 179=none∧cI Tryz.prog 179=false∧(Aw Tryz.prog 179).isSome=true∧jP Tryz.prog 179=some [(0,3),(3,3),(6,3)]:=by and_intros<;>kernel_rfl
@[simp]theorem bXz:tsz Tryz.prog 180=some 9∧tby Tryz.prog 180=some 120∧tz Tryz.prog 180=some (.agg #[.int .i64 0,.int .i64 0,.slice none 0 0,.int .i64 0,.int .i64 0,.slice none 0 0,.int .i64 0,.int .i64 0,.slice none 0 0])∧dI Tryz.prog 180=some true∧tel Tryz.prog 180=none∧cI Tryz.prog 180=false∧(Aw Tryz.prog 180).isSome=true∧jP Tryz.prog 180=some [(0,3),(3,3),(6,3)]:=by and_intros<;>kernel_rfl
@[simp]theorem bXy:tsz Tryz.prog 187=some 1∧tby Tryz.prog 187=some 8∧tz Tryz.prog 187=some (.int .u64 0)∧dI Tryz.prog 187=some false∧tel Tryz.prog 187=none∧cI Tryz.prog 187=false∧(Aw Tryz.prog 187).isSome=true∧gW Tryz.prog 187=some .u64:=by and_intros<;>kernel_rfl
@[simp]theorem bXx:tsz Tryz.prog 219=some 0∧tby Tryz.prog 219=some 0∧tz Tryz.prog 219=some (.agg #[])∧dI Tryz.prog 219=some true∧tel Tryz.prog 219=none∧cI Tryz.prog 219=false∧(Aw Tryz.prog 219).isSome=true∧jP Tryz.prog 219=none∧yA Tryz.prog 219=some (0,16):=by and_intros<;>kernel_rfl
@[simp]theorem bXw:tsz Tryz.prog 220=some 0∧tby Tryz.prog 220=some 0∧tz Tryz.prog 220=some (.agg #[])∧dI Tryz.prog 220=some true∧tel Tryz.prog 220=none∧cI Tryz.prog 220=false∧(Aw Tryz.prog 220).isSome=true∧jP Tryz.prog 220=some [(0,0)]:=by and_intros<;>kernel_rfl
@[simp]theorem bXv:tsz Tryz.prog 221=some 0∧tby Tryz.prog 221=some 0∧tz Tryz.prog 221=some (.agg #[])∧dI Tryz.prog 221=some true∧tel Tryz.prog 221=none∧cI Tryz.prog 221=false∧(Aw Tryz.prog 221).isSome=true∧jP Tryz.prog 221=some [(0,0)]:=by and_intros<;>kernel_rfl
@[simp]theorem bXu:tsz Tryz.prog 223=some 1∧tby Tryz.prog 223=some 1∧tz Tryz.prog 223=some (.int .u8 0)∧dI Tryz.prog 223=some false∧tel Tryz.prog 223=none∧cI Tryz.prog 223=false∧(Aw Tryz.prog 223).isSome=true∧gW Tryz.prog 223=some .u8:=by and_intros<;>kernel_rfl
@[simp]theorem bXt:tsz Tryz.prog 224=some 1∧tby Tryz.prog 224=some 1∧tz Tryz.prog 224=some (.int .u8 0)∧dI Tryz.prog 224=some false∧tel Tryz.prog 224=none∧cI Tryz.prog 224=false∧(Aw Tryz.prog 224).isSome=true∧gW Tryz.prog 224=some .u8:=by and_intros<;>kernel_rfl
@[simp]theorem bXs:tsz Tryz.prog 227=some 1∧tby Tryz.prog 227=some 4∧tz Tryz.prog 227=some (.int .i32 0)∧dI Tryz.prog 227=some false∧tel Tryz.prog 227=none∧cI Tryz.prog 227=false∧(Aw Tryz.prog 227).isSome=true∧gW Tryz.prog 227=some .i32:=by and_intros<;>kernel_rfl
@[simp]theorem bXr:tsz Tryz.prog 228=some 1∧tby Tryz.prog 228=some 4∧tz Tryz.prog 228=some (.int .i32 0)∧dI Tryz.prog 228=some false∧tel Tryz.prog 228=none∧cI Tryz.prog 228=false∧(Aw Tryz.prog 228).isSome=true∧gW Tryz.prog 228=some .i32:=by and_intros<;>kernel_rfl
@[simp]theorem aI:Go.Tables.follows Go.Proofs.Tryz.prog.toTables .mixedOrders=true:=by kernel_rfl
end Go.Am
end

section
set_option linter.unusedVariables false
set_option linter.unusedSimpArgs false
open Go Go.Proofs
namespace Go.Am
@[simp]theorem cAp:bI Tryz.prog 0=false∧bH Tryz.prog 0=true∧bI Tryz.prog 1=false∧bH Tryz.prog 1=true∧bI Tryz.prog 2=false∧bH Tryz.prog 2=true∧bI Tryz.prog 3=false∧bH Tryz.prog 3=false∧bI Tryz.prog 4=false∧bH Tryz.prog 4=false∧bI Tryz.prog 5=false∧bH Tryz.prog 5=false∧bI Tryz.prog 6=false∧bH Tryz.prog 6=false∧bI Tryz.prog 7=false∧bH Tryz.prog 7=false∧bI Tryz.prog 8=false∧bH Tryz.prog 8=false∧bI Tryz.prog 9=false∧bH Tryz.prog 9=false:=by and_intros<;>kernel_rfl
@[simp]theorem bYu:bI Tryz.prog 10=false∧bH Tryz.prog 10=false∧bI Tryz.prog 11=false∧bH Tryz.prog 11=false∧bI Tryz.prog 12=false∧bH Tryz.prog 12=false∧bI Tryz.prog 13=false∧bH Tryz.prog 13=false∧bI Tryz.prog 14=false∧bH Tryz.prog 14=false∧bI Tryz.prog 15=false∧bH Tryz.prog 15=false∧bI Tryz.prog 16=false∧bH Tryz.prog 16=false∧bI Tryz.prog 17=false∧bH Tryz.prog 17=false∧bI Tryz.prog 18=false∧bH Tryz.prog 18=false∧bI Tryz.prog 19=false∧bH Tryz.prog 19=false:=by and_intros<;>kernel_rfl
@[simp]theorem bYt:bI Tryz.prog 20=false∧bH Tryz.prog 20=false∧bI Tryz.prog 21=false∧bH Tryz.prog 21=false∧bI Tryz.prog 22=false∧bH Tryz.prog 22=false∧bI Tryz.prog 23=false∧bH Tryz.prog 23=false∧bI Tryz.prog 24=false∧bH Tryz.prog 24=false∧bI Tryz.prog 25=false∧bH Tryz.prog 25=false∧bI Tryz.prog 26=false∧bH Tryz.prog 26=false∧bI Tryz.prog 27=false∧bH Tryz.prog 27=false∧bI Tryz.prog 28=false∧bH Tryz.prog 28=true∧bI Tryz.prog 29=false∧bH Tryz.prog 29=false:=by and_intros<;>kernel_rfl
@[simp]theorem bYs:bI Tryz.prog 30=false∧bH Tryz.prog 30=false∧bI Tryz.prog 31=false∧bH Tryz.prog 31=false∧bI Tryz.prog 32=false∧bH Tryz.prog 32=false∧bI Tryz.prog 33=false∧bH Tryz.prog 33=false∧bI Tryz.prog 34=false∧bH Tryz.prog 34=false∧bI Tryz.prog 35=false∧bH Tryz.prog 35=false∧bI Tryz.prog 36=false∧bH Tryz.prog 36=false∧bI Tryz.prog 37=false∧bH Tryz.prog 37=false∧bI Tryz.prog 38=false∧bH Tryz.prog 38=false∧bI Tryz.prog 39=false∧bH Tryz.prog 39=false:=by and_intros<;>kernel_rfl
@[simp]theorem bYr:bI Tryz.prog 40=false∧bH Tryz.prog 40=false∧bI Tryz.prog 41=false∧bH Tryz.prog 41=false∧bI Tryz.prog 42=false∧bH Tryz.prog 42=false∧bI Tryz.prog 43=false∧bH Tryz.prog 43=false∧bI Tryz.prog 44=false∧bH Tryz.prog 44=false∧bI Tryz.prog 45=false∧bH Tryz.prog 45=false∧bI Tryz.prog 46=false∧bH Tryz.prog 46=true∧bI Tryz.prog 47=false∧bH Tryz.prog 47=false∧bI Tryz.prog 48=false∧bH Tryz.prog 48=false∧bI Tryz.prog 49=false∧bH Tryz.prog 49=false:=by and_intros<;>kernel_rfl
@[simp]theorem bYq:bI Tryz.prog 50=false∧bH Tryz.prog 50=true∧bI Tryz.prog 51=false∧bH Tryz.prog 51=false∧bI Tryz.prog 52=false∧bH Tryz.prog 52=false∧bI Tryz.prog 53=true∧bH Tryz.prog 53=false∧bI Tryz.prog 54=false∧bH Tryz.prog 54=true∧bI Tryz.prog 55=false∧bH Tryz.prog 55=false∧bI Tryz.prog 56=false∧bH Tryz.prog 56=false∧bI Tryz.prog 57=false∧bH Tryz.prog 57=false∧bI Tryz.prog 58=false∧bH Tryz.prog 58=true∧bI Tryz.prog 59=false∧bH Tryz.prog 59=false:=by and_intros<;>kernel_rfl
@[simp]theorem bYp:bI Tryz.prog 60=false∧bH Tryz.prog 60=false∧bI Tryz.prog 61=false∧bH Tryz.prog 61=false∧bI Tryz.prog 62=false∧bH Tryz.prog 62=true∧bI Tryz.prog 63=false∧bH Tryz.prog 63=false∧bI Tryz.prog 64=false∧bH Tryz.prog 64=false∧bI Tryz.prog 65=false∧bH Tryz.prog 65=false∧bI Tryz.prog 66=false∧bH Tryz.prog 66=false∧bI Tryz.prog 67=false∧bH Tryz.prog 67=false∧bI Tryz.prog 68=false∧bH Tryz.prog 68=false∧bI Tryz.prog 69=false∧bH Tryz.prog 69=true:=by and_intros<;>kernel_rfl
@[simp]theorem bYo:bI Tryz.prog 70=false∧bH Tryz.prog 70=true∧bI Tryz.prog 71=false∧bH Tryz.prog 71=true∧bI Tryz.prog 72=false∧bH Tryz.prog 72=false∧bI Tryz.prog 73=false∧bH Tryz.prog 73=false∧bI Tryz.prog 74=false∧bH Tryz.prog 74=false∧bI Tryz.prog 75=false∧bH Tryz.prog 75=false∧bI Tryz.prog 76=false∧bH Tryz.prog 76=false∧bI Tryz.prog 77=false∧bH Tryz.prog 77=false∧bI Tryz.prog 78=false∧bH Tryz.prog 78=false∧bI Tryz.prog 79=false∧bH Tryz.prog 79=false:=by and_intros<;>kernel_rfl
@[simp]theorem bYn:bI Tryz.prog 80=false∧bH Tryz.prog 80=false∧bI Tryz.prog 81=false∧bH Tryz.prog 81=false∧bI Tryz.prog 82=false∧bH Tryz.prog 82=false∧bI Tryz.prog 83=false∧bH Tryz.prog 83=false∧bI Tryz.prog 84=false∧bH Tryz.prog 84=false∧bI Tryz.prog 85=false∧bH Tryz.prog 85=false∧bI Tryz.prog 86=false∧bH Tryz.prog 86=false∧bI Tryz.prog 87=false∧bH Tryz.prog 87=false∧bI Tryz.prog 88=false∧bH Tryz.prog 88=false∧bI Tryz.prog 89=false∧bH Tryz.prog 89=false:=by and_intros<;>kernel_rfl
@[simp]theorem bYm:bI Tryz.prog 90=false∧bH Tryz.prog 90=false∧bI Tryz.prog 91=false∧bH Tryz.prog 91=false∧bI Tryz.prog 92=false∧bH Tryz.prog 92=true∧bI Tryz.prog 93=false∧bH Tryz.prog 93=false∧bI Tryz.prog 94=false∧bH Tryz.prog 94=false∧bI Tryz.prog 95=false∧bH Tryz.prog 95=true∧bI Tryz.prog 96=false∧bH Tryz.prog 96=false∧bI Tryz.prog 97=false∧bH Tryz.prog 97=false∧bI Tryz.prog 98=false∧bH Tryz.prog 98=false∧bI Tryz.prog 99=false∧bH Tryz.prog 99=false:=by and_intros<;>kernel_rfl
@[simp]theorem bWc:bI Tryz.prog 100=false∧bH Tryz.prog 100=false∧bI Tryz.prog 101=false∧bH Tryz.prog 101=false∧bI Tryz.prog 102=false∧bH Tryz.prog 102=false∧bI Tryz.prog 103=false∧bH Tryz.prog 103=false∧bI Tryz.prog 104=false∧bH Tryz.prog 104=true∧bI Tryz.prog 105=false∧bH Tryz.prog 105=false∧bI Tryz.prog 106=false∧bH Tryz.prog 106=false∧bI Tryz.prog 107=false∧bH Tryz.prog 107=false∧bI Tryz.prog 108=false∧bH Tryz.prog 108=false∧bI Tryz.prog 109=false∧bH Tryz.prog 109=false:=by and_intros<;>kernel_rfl
@[simp]theorem bWb:bI Tryz.prog 110=false∧bH Tryz.prog 110=false∧bI Tryz.prog 111=false∧bH Tryz.prog 111=false∧bI Tryz.prog 112=false∧bH Tryz.prog 112=false∧bI Tryz.prog 113=false∧bH Tryz.prog 113=true∧bI Tryz.prog 114=false∧bH Tryz.prog 114=true∧bI Tryz.prog 115=false∧bH Tryz.prog 115=true∧bI Tryz.prog 116=false∧bH Tryz.prog 116=false∧bI Tryz.prog 117=false∧bH Tryz.prog 117=true∧bI Tryz.prog 118=false∧bH Tryz.prog 118=false∧bI Tryz.prog 119=false∧bH Tryz.prog 119=false:=by and_intros<;>kernel_rfl
@[simp]theorem bWa:bI Tryz.prog 120=false∧bH Tryz.prog 120=false∧bI Tryz.prog 121=false∧bH Tryz.prog 121=false∧bI Tryz.prog 122=false∧bH Tryz.prog 122=false∧bI Tryz.prog 123=false∧bH Tryz.prog 123=false∧bI Tryz.prog 124=false∧bH Tryz.prog 124=false∧bI Tryz.prog 125=false∧bH Tryz.prog 125=false∧bI Tryz.prog 126=false∧bH Tryz.prog 126=false∧bI Tryz.prog 127=false∧bH Tryz.prog 127=true∧bI Tryz.prog 128=false∧bH Tryz.prog 128=true∧bI Tryz.prog 129=true∧bH Tryz.prog 129=false:=by and_intros<;>kernel_rfl
@[simp]theorem bVz:bI Tryz.prog 130=false∧bH Tryz.prog 130=false∧bI Tryz.prog 131=false∧bH Tryz.prog 131=true∧bI Tryz.prog 132=false∧bH Tryz.prog 132=false∧bI Tryz.prog 133=false∧bH Tryz.prog 133=true∧bI Tryz.prog 134=false∧bH Tryz.prog 134=true∧bI Tryz.prog 135=false∧bH Tryz.prog 135=false∧bI Tryz.prog 136=false∧bH Tryz.prog 136=false∧bI Tryz.prog 137=true∧bH Tryz.prog 137=false∧bI Tryz.prog 138=false∧bH Tryz.prog 138=true∧bI Tryz.prog 139=false∧bH Tryz.prog 139=false:=by and_intros<;>kernel_rfl
@[simp]theorem bVy:bI Tryz.prog 140=false∧bH Tryz.prog 140=false∧bI Tryz.prog 141=false∧bH Tryz.prog 141=false∧bI Tryz.prog 142=false∧bH Tryz.prog 142=false∧bI Tryz.prog 143=false∧bH Tryz.prog 143=false∧bI Tryz.prog 144=false∧bH Tryz.prog 144=false∧bI Tryz.prog 145=false∧bH Tryz.prog 145=true∧bI Tryz.prog 146=true∧bH Tryz.prog 146=false∧bI Tryz.prog 147=false∧bH Tryz.prog 147=false∧bI Tryz.prog 148=false∧bH Tryz.prog 148=false∧bI Tryz.prog 149=true∧bH Tryz.prog 149=false:=by and_intros<;>kernel_rfl
@[simp]theorem bVx:bI Tryz.prog 150=false∧bH Tryz.prog 150=false∧bI Tryz.prog 151=false∧bH Tryz.prog 151=true∧bI Tryz.prog 152=false∧bH Tryz.prog 152=true∧bI Tryz.prog 153=false∧bH Tryz.prog 153=true∧bI Tryz.prog 154=false∧bH Tryz.prog 154=false∧bI Tryz.prog 155=false∧bH Tryz.prog 155=true∧bI Tryz.prog 156=false∧bH Tryz.prog 156=false∧bI Tryz.prog 157=false∧bH Tryz.prog 157=false∧bI Tryz.prog 158=false∧bH Tryz.prog 158=false∧bI Tryz.prog 159=false∧bH Tryz.prog 159=false:=by and_intros<;>kernel_rfl
@[simp]theorem bVw:bI Tryz.prog 160=true∧bH Tryz.prog 160=false∧bI Tryz.prog 161=false∧bH Tryz.prog 161=false∧bI Tryz.prog 162=false∧bH Tryz.prog 162=false∧bI Tryz.prog 163=false∧bH Tryz.prog 163=true∧bI Tryz.prog 164=false∧bH Tryz.prog 164=false∧bI Tryz.prog 165=false∧bH Tryz.prog 165=false∧bI Tryz.prog 166=false∧bH Tryz.prog 166=false∧bI Tryz.prog 167=false∧bH Tryz.prog 167=false∧bI Tryz.prog 168=false∧bH Tryz.prog 168=true∧bI Tryz.prog 169=false∧bH Tryz.prog 169=false:=by and_intros<;>kernel_rfl
@[simp]theorem bVv:bI Tryz.prog 170=false∧bH Tryz.prog 170=true∧bI Tryz.prog 171=false∧bH Tryz.prog 171=false∧bI Tryz.prog 172=false∧bH Tryz.prog 172=true∧bI Tryz.prog 173=false∧bH Tryz.prog 173=false∧bI Tryz.prog 174=false∧bH Tryz.prog 174=true∧bI Tryz.prog 175=false∧bH Tryz.prog 175=false∧bI Tryz.prog 176=false∧bH Tryz.prog 176=true∧bI Tryz.prog 177=false∧bH Tryz.prog 177=false∧bI Tryz.prog 178=false∧bH Tryz.prog 178=true∧bI Tryz.prog 179=false∧bH Tryz.prog 179=false:=by and_intros<;>kernel_rfl
@[simp]theorem bVu:bI Tryz.prog 180=false∧bH Tryz.prog 180=false∧bI Tryz.prog 181=false∧bH Tryz.prog 181=true∧bI Tryz.prog 182=false∧bH Tryz.prog 182=false∧bI Tryz.prog 183=false∧bH Tryz.prog 183=false:=by and_intros<;>kernel_rfl
end Go.Am
end

section
set_option linter.unusedVariables false
set_option linter.unusedSimpArgs false
namespace Go.Proofs
open Go.RowKit Go.Maps Go.Sort Go.Shelf
def Tryz.keysB_ren:E1:=⟨fun|7=>104|10=>128|n=>n,fun|23=>121|26=>3|3=>74|28=>154|0=>0|27=>153|33=>146|4=>4|n=>n,fun|n=>n⟩
theorem Tryz.keysB:Go.Proofs.SlLaysZI.n7 Tryz.prog Tryz.keysB_ren:={
 mixed:=by kernel_rfl,
 f7:=⟨Tryz.f104.name,by decide,Tryz.func104.trans (congrArg some (by kernel_rfl))⟩,
 f10:=⟨Tryz.f128.name,by decide,Tryz.func128.trans (congrArg some (by kernel_rfl))⟩,
 t0:=Tryz.underlying0,
 a0:=Tryz.isAgg0,
 z0:=Tryz.sizeOf0,
 v0:=Tryz.zeroValue0,
 t4:=Tryz.underlying4,
 a4:=Tryz.isAgg4,
 z4:=Tryz.sizeOf4,
 v4:=Tryz.zeroValue4,
 t23:=Tryz.underlying121,
 a23:=Tryz.isAgg121,
 z23:=Tryz.sizeOf121,
 v23:=Tryz.zeroValue121,
 t26:=Tryz.underlying3,
 a26:=Tryz.isAgg3,
 z26:=Tryz.sizeOf3,
 v26:=Tryz.zeroValue3,
 t27:=Tryz.underlying153,
 a27:=Tryz.isAgg153,
 z27:=Tryz.sizeOf153,
 v27:=Tryz.zeroValue153,
 t28:=Tryz.underlying154,
 a28:=Tryz.isAgg154,
 z28:=Tryz.sizeOf154,
 v28:=Tryz.zeroValue154,
 t33:=Tryz.underlying146,
 a33:=Tryz.isAgg146,
 z33:=Tryz.sizeOf146,
 v33:=Tryz.zeroValue146 }
def Tryz.sortedA_ren:E1:=⟨fun|6=>103|8=>126|9=>127|11=>144|13=>93|12=>145|23=>121|24=>122|14=>151|15=>152|16=>153|17=>154|18=>155|19=>156|20=>157|21=>158|22=>159|25=>163|26=>139|27=>140|28=>164|29=>165|30=>94|31=>166|n=>n,fun|26=>3|28=>154|24=>68|0=>0|3=>3|37=>132|48=>131|50=>129|4=>4|40=>168|39=>167|45=>116|5=>5|9=>9|51=>187|55=>191|57=>200|58=>201|33=>146|n=>n,fun|n=>n⟩
theorem Tryz.sortedA:Go.Proofs.SlLaysZI.n6 Tryz.prog Tryz.sortedA_ren:={
 mixed:=by kernel_rfl,
 f6:=⟨Tryz.f103.name,by decide,Tryz.func103.trans (congrArg some (by kernel_rfl))⟩,
 f8:=⟨Tryz.f126.name,by decide,Tryz.func126.trans (congrArg some (by kernel_rfl))⟩,
 f11:=⟨Tryz.f144.name,by decide,Tryz.func144.trans (congrArg some (by kernel_rfl))⟩,
 t0:=Tryz.underlying0,
 a0:=Tryz.isAgg0,
 z0:=Tryz.sizeOf0,
 v0:=Tryz.zeroValue0,
 t24:=Tryz.underlying68,
 a24:=Tryz.isAgg68,
 z24:=Tryz.sizeOf68,
 v24:=Tryz.zeroValue68,
 t26:=Tryz.underlying3,
 a26:=Tryz.isAgg3,
 z26:=Tryz.sizeOf3,
 v26:=Tryz.zeroValue3,
 t28:=Tryz.underlying154,
 a28:=Tryz.isAgg154,
 z28:=Tryz.sizeOf154,
 v28:=Tryz.zeroValue154,
 i26:=by kernel_rfl }
def Tryz.sortA_ren:E1:=⟨fun|5=>127|8=>93|7=>145|19=>121|20=>122|10=>151|11=>152|12=>153|13=>154|14=>155|15=>156|16=>157|17=>158|18=>159|30=>163|31=>139|32=>140|33=>164|34=>165|35=>94|40=>166|n=>n,fun|23=>68|25=>3|3=>3|32=>132|22=>68|0=>0|44=>131|46=>129|4=>4|36=>168|35=>167|41=>116|5=>5|9=>9|53=>187|57=>191|63=>200|64=>201|n=>n,fun|n=>n⟩
theorem Tryz.sortA:Go.Proofs.SlLaysM.n5 Tryz.prog Tryz.sortA_ren:={
 mixed:=by kernel_rfl,
 f5:=⟨Tryz.f127.name,by decide,Tryz.func127.trans (congrArg some (by kernel_rfl))⟩,
 f7:=⟨Tryz.f145.name,by decide,Tryz.func145.trans (congrArg some (by kernel_rfl))⟩,
 f8:=Tryz.func93.trans (congrArg some (by kernel_rfl)),
 f10:=⟨Tryz.f151.name,by decide,Tryz.func151.trans (congrArg some (by kernel_rfl))⟩,
 f11:=⟨Tryz.f152.name,by decide,Tryz.func152.trans (congrArg some (by kernel_rfl))⟩,
 f12:=⟨Tryz.f153.name,by decide,Tryz.func153.trans (congrArg some (by kernel_rfl))⟩,
 f13:=⟨Tryz.f154.name,by decide,Tryz.func154.trans (congrArg some (by kernel_rfl))⟩,
 f14:=⟨Tryz.f155.name,by decide,Tryz.func155.trans (congrArg some (by kernel_rfl))⟩,
 f15:=⟨Tryz.f156.name,by decide,Tryz.func156.trans (congrArg some (by kernel_rfl))⟩,
 f16:=⟨Tryz.f157.name,by decide,Tryz.func157.trans (congrArg some (by kernel_rfl))⟩,
 f17:=⟨Tryz.f158.name,by decide,Tryz.func158.trans (congrArg some (by kernel_rfl))⟩,
 f18:=⟨Tryz.f159.name,by decide,Tryz.func159.trans (congrArg some (by kernel_rfl))⟩,
 f19:=Tryz.func121.trans (congrArg some (by kernel_rfl)),
 f20:=Tryz.func122.trans (congrArg some (by kernel_rfl)),
 f30:=⟨Tryz.f163.name,by decide,Tryz.func163.trans (congrArg some (by kernel_rfl))⟩,
 f31:=Tryz.func139.trans (congrArg some (by kernel_rfl)),
 f32:=Tryz.func140.trans (congrArg some (by kernel_rfl)),
 f33:=⟨Tryz.f164.name,by decide,Tryz.func164.trans (congrArg some (by kernel_rfl))⟩,
 f34:=⟨Tryz.f165.name,by decide,Tryz.func165.trans (congrArg some (by kernel_rfl))⟩,
 f35:=⟨Tryz.f94.name,by decide,Tryz.func94.trans (congrArg some (by kernel_rfl))⟩,
 f40:=⟨Tryz.f166.name,by decide,Tryz.func166.trans (congrArg some (by kernel_rfl))⟩,
 t0:=Tryz.underlying0,
 a0:=Tryz.isAgg0,
 z0:=Tryz.sizeOf0,
 v0:=Tryz.zeroValue0,
 t3:=Tryz.underlying3,
 a3:=Tryz.isAgg3,
 z3:=Tryz.sizeOf3,
 v3:=Tryz.zeroValue3,
 t4:=Tryz.underlying4,
 a4:=Tryz.isAgg4,
 z4:=Tryz.sizeOf4,
 v4:=Tryz.zeroValue4,
 t5:=Tryz.underlying5,
 a5:=Tryz.isAgg5,
 z5:=Tryz.sizeOf5,
 v5:=Tryz.zeroValue5,
 t9:=Tryz.underlying9,
 a9:=Tryz.isAgg9,
 z9:=Tryz.sizeOf9,
 v9:=Tryz.zeroValue9,
 t22:=Tryz.underlying68,
 a22:=Tryz.isAgg68,
 z22:=Tryz.sizeOf68,
 v22:=Tryz.zeroValue68,
 t23:=Tryz.underlying68,
 a23:=Tryz.isAgg68,
 z23:=Tryz.sizeOf68,
 v23:=Tryz.zeroValue68,
 t25:=Tryz.underlying3,
 a25:=Tryz.isAgg3,
 z25:=Tryz.sizeOf3,
 v25:=Tryz.zeroValue3,
 t32:=Tryz.underlying132,
 a32:=Tryz.isAgg132,
 z32:=Tryz.sizeOf132,
 v32:=Tryz.zeroValue132,
 t35:=Tryz.underlying167,
 a35:=Tryz.isAgg167,
 z35:=Tryz.sizeOf167,
 v35:=Tryz.zeroValue167,
 t36:=Tryz.underlying168,
 a36:=Tryz.isAgg168,
 z36:=Tryz.sizeOf168,
 v36:=Tryz.zeroValue168,
 t41:=Tryz.underlying116,
 a41:=Tryz.isAgg116,
 z41:=Tryz.sizeOf116,
 v41:=Tryz.zeroValue116,
 t44:=Tryz.underlying131,
 a44:=Tryz.isAgg131,
 z44:=Tryz.sizeOf131,
 v44:=Tryz.zeroValue131,
 t46:=Tryz.underlying129,
 a46:=Tryz.isAgg129,
 z46:=Tryz.sizeOf129,
 v46:=Tryz.zeroValue129,
 t53:=Tryz.underlying187,
 a53:=Tryz.isAgg187,
 z53:=Tryz.sizeOf187,
 v53:=Tryz.zeroValue187,
 t57:=Tryz.underlying191,
 a57:=Tryz.isAgg191,
 z57:=Tryz.sizeOf191,
 v57:=Tryz.zeroValue191,
 t63:=Tryz.underlying200,
 a63:=Tryz.isAgg200,
 z63:=Tryz.sizeOf200,
 v63:=Tryz.zeroValue200,
 t64:=Tryz.underlying201,
 a64:=Tryz.isAgg201,
 z64:=Tryz.sizeOf201,
 v64:=Tryz.zeroValue201 }
theorem Tryz.sortsA(m:Nat):AnyZI.SortsIn Tryz.prog Tryz.sortedA_ren De m :=
 ⟨fun blk off cap ss W hH hblk hsz=>callsIn_wide.2 (AnyM.slices_Sort_int Tryz.sortA blk off cap ss W hH hblk hsz),
 fun p cap W=>callsIn_wide.2 (AnyM.slices_Sort_int_none Tryz.sortA p cap W)⟩
theorem Tryz.keys106:Am.sP Tryz.prog 104 128:=fun W b =>
 ⟨fun w=>enters_of Tryz.func104 (by kernel_rfl) rfl _ w,(callsIn_wide (n:=5)).1 ((AnyZI.keys_in Tryz.keysB De 5 trivial rfl (some b) W).mono (by rintro e w' ⟨rfl,rfl⟩;exact⟨_,rfl,rfl⟩))⟩
theorem isort_perm:∀ l:List Int,(Am.fT l).Perm l
 |[]=>.nil
 |n::l=>by
  have h1:∀(m:List Int),(Am.ins n m).Perm (n::m):=by
   intro m
   induction m with
   |nil=>exact .refl _
   |cons x m ih =>
    unfold Am.ins
    split
    ·exact .refl _
    ·exact(ih.cons x).trans (.swap n x m)
  exact(h1 _).trans ((isort_perm l).cons n)
theorem isort_sorted:∀ l:List Int,(Am.fT l).Pairwise (fun a b=>a≤b)
 |[]=>.nil
 |n::l=>by
  have h1:∀(m:List Int),m.Pairwise (fun a b=>a≤b)→(Am.ins n m).Pairwise (fun a b=>a≤b):=by
   intro m
   induction m with
   |nil=>intro _;simp[Am.ins]
   |cons x m ih =>
    intro h
    unfold Am.ins
    have h':=A5.1 h
    split
    ·rename_i hx
     exact A5.2 ⟨fun a ha=>by
      rcases AD.1 ha with rfl|ha
      ·exact hx
      ·exact Int.le_trans hx (h'.1 a ha),h⟩
    ·rename_i hx
     refine A5.2 ⟨fun a ha=>?_,ih h'.2⟩
     have hp:(Am.ins n m).Perm (n::m):=by
      clear ih h h' ha
      induction m with
      |nil=>exact .refl _
      |cons y m ih =>
       unfold Am.ins
       split
       ·exact .refl _
       ·exact(ih.cons y).trans (.swap n y m)
     rcases AD.1 (hp.mem_iff.1 ha)with rfl|ha
     ·omega
     ·exact h'.1 a ha
  exact h1 _ (isort_sorted l)
theorem zO(ss ks:List Int)(h:ss.Perm ks):ss.mergeSort (fun x y=>decide (x≤y))=Am.fT ks:=by
 have tr:∀ a b c:Int,decide (a≤b)=true→decide (b≤c)=true→decide (a≤c)=true:=fun a b c h1 h2=>by simp only[AH]at *;exact Int.le_trans h1 h2
 have to:∀ a b:Int,(decide (a≤b)||decide (b≤a))=true:=fun a b=>by simp only[Dd,AH];exact Int.le_total a b
 refine List.Perm.eq_of_pairwise (le:=fun a b=>decide (a≤b)=true) (fun a b _ _ h1 h2=>?_) (List.pairwise_mergeSort tr to ss) ((isort_sorted ks).imp fun h=>by simpa using h) (((List.mergeSort_perm ss _).trans h).trans (isort_perm ks).symm)
 simp only[AH]at h1 h2
 exact Int.le_antisymm h1 h2
theorem bFa{P:Program}{k:TypeId}(hk:P.underlying k=some (.int .i64)){n:Int}(hn:Am.inr n=true):keyOf P k (.int .i64 n)=some (.int .i64 n):=by
 have hw:(Lit.int .i64 n).wf=true:=by
  have hmin:Ah.min=-9223372036854775808:=rfl
  have hmax:Ah.max=9223372036854775807:=rfl
  simp only[Am.inr,AH]at hn
  simp only[Lit.wf,AI,AH]
  omega
 simp[keyOf,hk,mapKey,hw]
set_option maxRecDepth 20000 in
theorem aLb(f g:FuncId)(T3:TypeId)(hk3:Tryz.prog.underlying T3=some (.int .i64))(hent:∀ args w,(callFunc f args).run Tryz.prog w=.ok (.enter f args) w)
  (hS:∀(lb:Array Value) (S:List Int→Prop) (N:Nat),N≤maxLen→N*8≤140737488355328→∀ w,SeqGives De 2 Tryz.prog g lb encZ S N w→CallsIn De 5 Tryz.prog f #[.func (.func g) #[] lb] w fun e w' =>
   ∃ v ss,e=.returned v∧S ss∧w'.ownsRow w.heap.size T3 1 v ss.length ((ss.mergeSort fun x y=>decide (x≤y)).map encZ)∧(v=.slice none 0 0↔ss=[])∧Below w.heap.size w w')
  (hG:∀(Bm b nn:Nat) (D0:DataW Unit) (R:Value→Option (DataW Unit×List MemPlace)) (w:World),Bm<w.heap.size→w.cell? ⟨Bm,0,none⟩=some (.map (some b))→w.ownsMap Tryz.prog T3 R b nn D0 →
   SeqGives De 2 Tryz.prog g #[.pointer (some ⟨Bm,0,none⟩)] encZ (fun ss=>ss.Perm (intKeys D0)) (Maps.size D0) w):Am.lV Tryz.prog f g:=by
 intro W b p e ks ents clock hb hst hkeys hp hlen hr
 refine⟨fun w=>hent _ w,(callsIn_wide (n:=5)).1 ?_⟩
 have hpl:p<W.heap.size:=(BH.1 hp).1
 have hcell:W.cell? ⟨p,0,none⟩=some (.map (some b)):=by
  rw[show W.cell? ⟨p,0,none⟩=(#[Value.map (some b)]:Array Value)[0]? from cell_of_row W p 0 _ e (0,0) hp];rfl
 have hsz:ents.size=ks.length:=by have:=congrArg List.length hkeys;simpa using this
 let R:Value→Option (DataW Unit×List MemPlace):=fun _=>some (.nil,[])
 have hrd:∀ x∈ents.toList,∃ n,n∈ks∧x.key=.int .i64 n∧WideElems.rd Tryz.prog T3 R x=some (.int .i64 n,.nil):=by
  intro x hx
  have:x.key∈ks.map (.int .i64 ·):=by rw[←hkeys];exact EY hx
  obtain⟨n,hn,he⟩:=AE.1 this
  refine⟨n,hn,he.symm,?_⟩
  simp[WideElems.rd,←he,bFa hk3 (AO.1 hr n hn),R]
 have hfit:WideElems.Fit Tryz.prog T3 R ents clock:=⟨by rw[hsz];simp only[maxLen];omega,hst,fun x hx=>let ⟨n,_,_,h⟩:=hrd x hx;⟨_,h⟩⟩
 have hks2:∀(l:List MapEntry) (k:List Int),l.map (·.key)=k.map (.int .i64 ·)→(∀ x∈l,∃ n,n∈ks∧x.key=.int .i64 n∧WideElems.rd Tryz.prog T3 R x=some (.int .i64 n,.nil))→(l.map (Ef Tryz.prog T3 R)).map (fun q=>Go.intOf q.1)=k:=by
  intro l
  induction l with
  |nil=>intro k hk _;cases k with
   |nil=>rfl
   |cons=>simp at hk
  |cons x l ih =>
   intro k hk h
   cases k with
   |nil=>simp at hk
   |cons m k =>
    simp only[AR,List.cons.injEq]at hk ⊢
    refine⟨?_,ih k hk.2 fun y hy=>h y (As _ hy)⟩
    obtain⟨n,_,hxn,hxr⟩:=h x (Av ..)
    rw[hxn]at hk
    have:=hk.1
    injection this with _ this
    simp[Ef,hxr,Go.intOf,this]
 have hD:(intKeys (.map ((ents.toList.map (Ef Tryz.prog T3 R)).foldr DataW.insert []))).Perm ks:=by
  show(((ents.toList.map (Ef Tryz.prog T3 R)).foldr DataW.insert []).map fun q=>Go.intOf q.1).Perm ks
  have h1:=(WideShapes.sorted_perm (ents.toList.map (Ef Tryz.prog T3 R))).map (fun q:Lit×DataW Unit=>Go.intOf q.1)
  rwa [hks2 _ ks hkeys hrd]at h1
 have hN:Maps.size (.map ((ents.toList.map (Ef Tryz.prog T3 R)).foldr DataW.insert []):DataW Unit)=ks.length:=by
  have:=hD.length_eq
  simpa[intKeys,Maps.size]using this
 have hseq:=hG p b ents.size (.map ((ents.toList.map (Ef Tryz.prog T3 R)).foldr DataW.insert [])) R W hpl hcell ⟨ents,clock,hb,hfit,Az _,rfl⟩
 rw[hN]at hseq
 refine(hS _ _ _ (by simp only[maxLen];omega) (by omega) W hseq).mono ?_
 rintro e' w' ⟨v,ss,rfl,hperm,hrow,hnil,hbl⟩
 refine⟨v,rfl,hbl,?_⟩
 rw[zO ss ks (hperm.trans hD)]at hrow
 have hssl:ss.length=ks.length:=(hperm.trans hD).length_eq
 obtain⟨hl,⟨rfl,h0⟩|⟨gg,cap,cur,rfl,hg,hheap,h1,h2,h3,h4⟩⟩:=hrow
 ·have:Am.fT ks=[]:=by
   apply Au
   simp at hl;omega
  rw[this]
  exact .sl0 _ _
 ·have hil:(Am.fT ks).length=ss.length:=by simpa using hl
  refine .sl _ ⟨gg,0,none⟩ _ _ 1 (fun j=>.int .i64 ((Am.fT ks).getD j 0)) (by simp[hil]) h1 (fun cs hcs=>by obtain⟨n,_,rfl⟩:=AE.1 hcs;rfl) ⟨hg,(BH.1 hheap).1⟩ (fun j hj=>?_) (fun j k cs c hj hk=>?_)
  ·rw[Am.pA,cell_of_row w' gg _ cur T3 (0,0) hheap,Bf]
   have:cur.toList[j]? = ((Am.fT ks).map encZ)[j]? := by
    rw[←h4,List.getElem?_take,Ag (by omega)]
   rw[←Array.getElem?_toList,this,Ax]
   have hj2:j<(Am.fT ks).length:=by omega
   simp[Aa hj2,Ac]
  ·rw[Ax]at hj
   obtain⟨n,hn,rfl⟩:=Ao.1 hj
   rcases k with _|k
   ·simp at hk;subst hk
    simp only[CK,BW,Ac,hn,Ba]
    exact .i _ _
   ·simp at hk
set_option maxRecDepth 20000 in
set_option maxRecDepth 20000 in
theorem Tryz.sorted122:Am.lV Tryz.prog 103 128 :=
 aLb 103 128 3 (by kernel_rfl) (fun args w=>enters_of Tryz.func103 (by kernel_rfl) rfl args w)
  (fun lb S N h1 h2 w hs=>AnyZI.sorted_in Tryz.sortedA De 5 trivial trivial trivial trivial rfl (by omega) (Tryz.sortsA _) (enters_of Tryz.func127 (by kernel_rfl) rfl) 128 lb trivial (enters_of Tryz.func128 (by kernel_rfl) rfl) S N h1 h2 w hs)
  (fun Bm b nn D0 R w h1 h2 h3=>AnyZI.keys_gives (ρ:=Tryz.keysB_ren) { Tryz.keysB with } De _ trivial rfl (by omega) Bm b nn D0 w h1 h2 h3)
end Go.Proofs
end

section
set_option linter.unusedVariables false
set_option linter.unusedSimpArgs false
open Go Go.Am Go.Proofs
namespace Go.Am
def bPg(els:List (List D)):Bool:=els.all (fun cs=>match cs with|[d]=>one (.d d)|_=>false)&&decide (els.length≤1099511627776)
set_option maxRecDepth 10000 in
theorem aHa(els:List (List D))(h:bPg els=true):Spec Tryz.prog 90 [.sl els] (.sl els):=by
 have hone:∀ els:List (List D),els.all (fun cs=>match cs with|[d]=>one (.d d)|_=>false)=true→(els.flatten.map AV.d).all one=true∧els.flatten.length=els.length∧gE 1 els=true ∧
   chunk 1 els.length els.flatten=els:=by
  intro els h
  have key:∃ ds:List D,els=ds.map (fun d=>[d])∧(ds.map AV.d).all one=true:=by
   induction els with
   |nil=>exact⟨[],rfl,rfl⟩
   |cons c l ih =>
    simp only[DD,AI]at h
    obtain⟨ds,hds,hd1⟩:=ih h.2
    have h1:=h.1
    split at h1
    ·rename_i d;exact⟨d::ds,by rw[hds];rfl,by simp only[AR,DD,AI];exact⟨h1,hd1⟩⟩
    ·cases h1
  obtain⟨ds,rfl,hd1⟩:=key
  have hfl:(ds.map (fun d=>[d])).flatten=ds:=by simp[←List.flatMap_def]
  rw[hfl]
  refine⟨hd1,by simp,by cases ds<;>simp[gE],?_⟩
  simp only[chunk,AN]
  refine DK (by simp) fun i h1 h2=>?_
  simp at h1 h2
  simp[List.take_one,List.head?_drop,h1]
 simp only[bPg,AI,AH]at h
 obtain⟨q1,q2,q3,q4⟩:=hone els h.1
 refine aZ (N:=8) aI Tryz.func90 rfl rfl rfl (by kernel_rfl) (by kernel_rfl) (by simp) ?_
 show AWP Tryz.prog (.seq _ (.seq (.seq _ (.cond _ _ _)) (.seq (.region _ _ _) _))) _ _
 have hb:∀ b,oY (.d (.sl els))=some b→b=none∧els=[]∨b=some false:=by
  intro b hb
  cases els with
  |nil=>simp[oY]at hb;exact .inl ⟨hb.symm,rfl⟩
  |cons=>simp[oY]at hb;exact .inr hb.symm
 have hl:els.length≤1099511627776:=h.2
 have e1:(els.flatten.map AV.d).length=els.length:=by rw[AN];exact q2
 cases els with
 |nil =>
  simp[AWP,OW,O1,dX,kind,nev,oev,St0,cv,cv1,bT,upd,jF,cnt,fin,Γ0,aMy,eQ,oY,aYb,aT,zQ,yF,gE,mH,mW,mE,iB,Tryz.f90,Option.bind,kill,chunk,DP,Cj,kI,rO,eN,eC,maxLen,frz]
 |cons x l =>
  generalize hE:x::l=els at *
  have hn:oY (.d (.sl els))=some (some false):=by rw[←hE];rfl
  have m1:∀(H:Nat→Option HO) n,(els.flatten.map AV.d).mapM (frz H (n+1))=some els.flatten:=fun H n=>nP H n _
  have m2:∀ l,(els.flatten.map AV.d).map (eN l)=els.flatten.map AV.d:=fun l=>tD l _
  have hsrc:∀ H,yF H 1 (.d (.sl els))=some (els.length,els.flatten.map AV.d):=fun H=>by
   simp only[yF];rw[Ag ⟨q3,q1⟩]
  generalize els.flatten.map AV.d=cs at *
  generalize els.flatten=fl at *
  have m3:cs.map (fun x=>eN [1] x)=cs:=m2 [1]
  have p1:els.length*4≤140737488355328:=by omega
  have p2:els.length≤9223372036854775807:=by omega
  have e2:cs.take els.length=cs:=by rw[←e1];exact List.take_length
  simp[AWP,OW,O1,dX,kind,nev,oev,St0,cv,cv1,bT,upd,jF,cnt,fin,Γ0,aMy,eQ,hn,aYb,aT,zQ,hsrc,mH,mW,mE,iB,Tryz.f90,kill,DP,Cj,kI,rO,maxLen,p1,p2]
  simp[eN,iS,eC,e1,e2,m2,m1,q4]
theorem bQm:lG Tryz.prog 69:=by
 refine⟨fun w=>enters_of Tryz.func69 (by kernel_rfl) rfl _ w,fun w=>?_⟩
 refine callsD_of_wpS Tryz.func69 rfl fun c₀ cs hu=>?_
 apply wpS_region
 simp[wpOpsS,go_sem,recoverD,hu,Tryz.ntmps69,bodyPostS,results,Tryz.results69]
 cases c₀;simp only at hu;subst hu;rfl
theorem bQl:lG Tryz.prog 95:=by
 refine⟨fun w=>enters_of Tryz.func95 (by kernel_rfl) rfl _ w,fun w=>?_⟩
 refine callsD_of_wpS Tryz.func95 rfl fun c₀ cs hu=>?_
 apply wpS_region
 simp[wpOpsS,go_sem,recoverD,hu,Tryz.ntmps95,bodyPostS,results,Tryz.results95]
 cases c₀;simp only at hu;subst hu;rfl
def E0:Kn where
 call:=fun f ds=>if f=90 then(match ds with|[.sl els]=>if bPg els then some (.sl els)else none|_=>none)else none
 ocall:=fun _ _ _ _=>none
 keys:=fun f=>if f=104 then some 128 else none
 sorted:=fun f g=>f==103&&g==128
 recs:=fun g=>[
  69,
  95,
  ].contains g
theorem bJl:aFg Tryz.prog E0:=by
 refine⟨fun f ds r h=>?_,fun f h o ds o' r h'=>(by cases h'),fun f g h=>?_,fun f g h=>?_,fun g h=>?_⟩
 ·simp only[E0]at h
  split at h
  ·rename_i hf;subst hf
   split at h
   ·split at h
    ·rename_i hc;injection h with h;subst h;exact aHa _ hc
    ·cases h
   ·cases h
  ·cases h
 ·simp only[E0]at h
  split at h
  ·rename_i hf;subst hf;injection h with h;subst h;exact Tryz.keys106
  ·cases h
 ·simp only[E0,AI,beq_iff_eq]at h
  obtain⟨rfl,rfl⟩:=h
  exact Tryz.sorted122
 ·simp only[E0,List.contains_eq_mem,AH]at h
  simp only[AD,List.not_mem_nil,DX]at h
  rcases h with rfl|rfl|rfl|rfl|rfl|rfl|rfl|rfl
  ·exact bQm
  ·exact bQl
end Go.Am
end

section
set_option linter.unusedVariables false
set_option linter.unusedSimpArgs false
namespace Go.Am
attribute [simp] bPb bHa bWp aSf aS aZe bTj aYb oY St0 bEq bCl bNh bLk bFp aYw iB aSi aOv bNa qU bPi bPh aQy bNl bNk bEs
 bEw bEt pC sW aKq bKc bRl aHv bAs aTc aAx List.flatMap_nil tD bNb aNj aUw bEh lY aMw bHi bPj bMo aYa bMn bDr bSy bDp bLy aEv
 aIq bDq bMm aQo aIs aIr aQn bDm bSx bTd bTc bSw bSv bDo aQm aQi bXn bXp bVb bXo aIf bBl mD aEa iQ bVs bVt
 bMi bMj bXf bXg bPa aZt bPl bPm bHo bSt bSu bMg bSs bSr bMe bMd bMc bMb bSo bSq bSp aZy aZx aRz aRy aRx aRw aZu
 aZw aZz aSb bPw bIt bKj bAv bFg bAb aXv aXu bEo bNj bEn bEm aRm aZg aRb aYu aRa aRc aYv bUw bId bHr
 bHx bHv bHu bIc bHw bHy bHz bIa bIb bHt bHs bAd bKh bKi aYc bDv bTp bTo bNr bNu bWr bWq bTl bTn bTk bLa aWy bBq
 aWz aWx aWw bBs bBt bBv bBw bBr bBx aPz aXa aQa uV aPy rN bBe bBf bKr bBd aIe aQl aMl bIq bDa bPt
 aXs aXt bIp bIo aYn aYp bEg aPs aWt aLl aFp bCk bEy bEx bAj bAi bHf bHe aXn aXo dT aZf aRl aRk
 aPw aWv aHr bRh rU qB iS aVh bOb bTt bTu mV bY aIi aFm aKw aKv aPo bKm bRr eJ iF jO bBb bKp aOm
 aJl
theorem KW:type_of% (AQ @aOr (AQ @zM (AQ @aWc (AQ @aHh (AQ @aOs (AQ @aWd (AQ @aHf (AQ @aHd (AQ @aHg (AQ @aHe (AQ @oJ (AQ @aMg (AQ @aMf (AQ @aUk (AQ @zF (AQ @aGf (AQ @aUj (AQ @aMv (AQ @bDl (AQ @aMt (AQ @uK (AQ @wB (AQ @aBx (AQ @aMu (AQ @aUi (AQ @aBz (AQ @wD (AQ @aMq (AQ @wC (AQ @aBy (AQ @aMp (AQ @bDk (AQ @bDj (AQ @bDi (AQ @aUl (AQ @aGc (AQ @aMo (AQ @wA (AQ @aGd (AQ @aGg (AQ @aGe (@aUm)))))))))))))))))))))))))))))))))))))))))) :=
 AQ @aOr (AQ @zM (AQ @aWc (AQ @aHh (AQ @aOs (AQ @aWd (AQ @aHf (AQ @aHd (AQ @aHg (AQ @aHe (AQ @oJ (AQ @aMg (AQ @aMf (AQ @aUk (AQ @zF (AQ @aGf (AQ @aUj (AQ @aMv (AQ @bDl (AQ @aMt (AQ @uK (AQ @wB (AQ @aBx (AQ @aMu (AQ @aUi (AQ @aBz (AQ @wD (AQ @aMq (AQ @wC (AQ @aBy (AQ @aMp (AQ @bDk (AQ @bDj (AQ @bDi (AQ @aUl (AQ @aGc (AQ @aMo (AQ @wA (AQ @aGd (AQ @aGg (AQ @aGe (@aUm)))))))))))))))))))))))))))))))))))))))))
end Go.Am
end

section
set_option linter.unusedVariables false
set_option linter.unusedSimpArgs false
namespace Go.Am
open RowKit (Below)
def OA(P:Program)(ops:Array Oper)(k:St→Prop):Nat→Array Bool→St→Prop
 |0,listed,σ=>BL .any ops listed=[]∧k σ
 |fuel+1,listed,σ=>(BL .any ops listed=[]→k σ)∧∀ i∈BL .any ops listed,match ops[i]? with
   |none=>OA P ops k fuel (listed.setIfInBounds i true) σ
   |some o=>OW P ops [o] σ [] fun σ' con=>OA P ops k fuel (listed.setIfInBounds i true) (fin σ' con)
section
variable {P:Program} {G:Ctx} {N:Nat} {ds:List Deferred} {ops:Array Oper}
theorem aEo{Q:St→Prop}{Q':Exit→Act→World→Prop}(hno:qG ops.toList=true)(hdst:∀(i:Nat) (o:Oper) (d:Tmp),ops[i]? = some o→o.dst=some d→d<N∧G.Z d=none)(hQ:∀ σ a w,Q σ→SR G N ds σ a w→Q' .normal a w) :
  ∀(fuel:Nat) (listed:Array Bool) (σ:St) (a:Act) (w:World),SR G N ds σ a w→OA P ops Q fuel listed σ→wpA P ops Q' fuel listed a w
 |0,_,σ,a,w,hs,h=>⟨h.1,hQ σ a w h.2 hs⟩
 |fuel+1,listed,σ,a,w,hs,h=>by
  refine⟨fun h0=>hQ σ a w (h.1 h0) hs,fun i hi=>?_⟩
  have h1:=h.2 i hi
  split
  ·rename_i ho
   simp only[ho]at h1
   exact aEo hno hdst hQ fuel _ σ a w hs h1
  ·rename_i o ho
   simp only[ho]at h1
   obtain⟨hn0,hwf,hag⟩:=xU hs
   obtain⟨fb,hfb⟩:=sO (G:=G) [o] σ [] (by
    have h0:o∈ops.toList:=by rw[Array.mem_toList_iff];exact Array.mem_of_getElem? ho
    have:=AO.1 hno o h0
    simpa[qG]using this) hn0 hwf h1
   obtain⟨g1,g2⟩:=hag (fun i=>if i<σ.n then σ.H i else fb i) (fun i o hi=>by
    rcases Bc i σ.n with hlt|hge
    ·rw[Ag hlt];exact hi
    ·rw[hwf.top i hge]at hi;cases hi)
   obtain⟨s',hd,σ',con',hoa,hn',hwf',hag'⟩:=hfb _ g1 (fun i hi=>by simp only;rw[Ae (by omega)])
   exact vF (K:=wpA P ops Q' fuel (listed.setIfInBounds i true)) (Q':=Q') hd (fun d h=>hdst i o d ho h) g2 fun a' w' hr'=>aEo hno hdst hQ fuel _ _ a' w' (aJz hn' hwf' hag' hr') hoa
def bXm(P:Program):Code→St→(St→Prop)→Prop
 |.region _ ops true,σ,k=>OA P ops k ops.size (Bx ops.size false) σ
 |_,_,_=>False
def bAm(P:Program):Code→St→(Exit→St→Prop)→Prop
 |.seq x (.seq y z),σ,Q=>AWP P x σ fun e σ'=>match e with|.normal=>bAm P (.seq y z) σ' Q|e=>Q e σ'
 |.seq x .ret,σ,Q=>bXm P x σ (Q .ret)
 |_,_,_=>False
def sG(P:Program):Code→Bool
 |.seq x (.seq y z)=>eA P x&&sG P (.seq y z)
 |.seq (.region _ ops true) .ret=>qG ops.toList
 |_=>false
theorem aSu(hm:P.follows .mixedOrders=true)(hZ:∀ d,G.Z d=none):∀(c:Code) (Q:Exit→St→Prop) (σ:St) (a:Act) (w:World),dM N c=true→sG P c=true→bAm P c σ Q→SR G N ds σ a w →
  c.wp P (fun e a' w'=>∃ σ',Q e σ'∧SR G N ds σ' a' w') a w:=by
 intro c
 induction c with
 |seq x y ihx ihy =>
  intro Q σ a w hd hl h hs
  simp only[dM,AI]at hd
  cases y with
  |seq y z =>
   simp only[sG,AI]at hl
   refine wp_seq (wp_mono (gS hm hZ x _ σ a w hd.1 hl.1 h hs) ?_)
   rintro e a' w' ⟨σ',hq,hs'⟩
   cases e with
   |normal=>exact ihy Q σ' a' w' hd.2 hl.2 hq hs'
   |_=>exact⟨σ',hq,hs'⟩
  |ret =>
   unfold sG at hl
   split at hl
   ·rename_i he;cases he
   ·rename_i id ops he
    injection he with he1 _;subst he1
    have h':OA P ops (Q .ret) ops.size (Bx ops.size false) σ:=h
    refine wp_seq ((WpR.plain P).regA hm (fun e=>by cases e) (aEo (Q:=Q .ret) (N:=N) (ds:=ds) (G:=G) hl (fun i o d hi hd'=>⟨oK hd.1 i o d hi hd',hZ d⟩) (fun σ' a' w' hq hs'=>?_) _ _ σ _ _ ?_ h'))
    ·exact wp_ret ⟨σ',hq,hs'⟩
    ·obtain⟨q1,q2,F,ι,hR,hdom,hV,hN,hds,hp⟩:=hs
     have hs:Step F w ι F { w with drawn:=w.drawn+1 } ι:=⟨fun _ h=>h,fun _ _=>rfl,fun _ _ h=>h,fun _ _ cur _ _ h=>⟨cur,h,rfl⟩⟩
     refine⟨q1,q2,F,ι,⟨hR.kept.trans ⟨rfl,rfl,rfl,Az _,fun _ _ _=>rfl,fun _ cur _ _ h=>⟨cur,h,rfl⟩⟩,hR.F_lt,hR.F_ok,hR.place,fun id b o h1 h2=>?_,hR.inj,hR.len⟩,hdom,fun t=>(hV t).step hs,hN,hds,hp⟩
     obtain⟨ob,h3,h4⟩:=hR.obj id b o h1 h2
     exact⟨ob,h3,h4.step hs⟩
   ·cases hl
  |_=>exact h.elim
 |_=>intro Q σ a w _ _ h;exact h.elim
theorem bBj {f N:Nat} {fn:Func} {c:Code} {args:List D} {r:D} (hm:P.follows .mixedOrders=true) (hf:P.funcs[f]? = some fn) (hb:fn.body=some c) (hname:(fn.name == "runtime.NumGoroutine")=false) (hN:fn.ntmps=N)
  (hd:dM N c=true) (hl':sG P c=true) (ha:args.length≤N) (h:bAm P c (St0 args N) fun e σ=>(e=.normal∨e=.ret)∧mW P fn.results.toList σ=some r):Spec P f args r:=by
 intro A W vs hA hl hv
 have hn:¬ fn.name = "runtime.NumGoroutine" := by simpa using hname
 refine⟨fun w=>by simp[callFunc,hf,hn,hb],?_⟩
 refine calls_of_wp hf hb ?_
 subst hN
 refine wp_mono (aSu hm (fun _=>rfl) c _ _ _ _ hd hl' h (SR0 hA hl hv ha)) ?_
 rintro e a w ⟨σ,⟨he,hr⟩,hs⟩
 obtain⟨v,hrun,hvd⟩:=iX hs hr
 obtain⟨_,_,F,ι,hR,_,_,_,hdf,_⟩:=hs
 have hend:a.defers=[]∧∃ v,(results fn a.tmps).run P w=.ok v w∧∃ v',Dx v=.returned v'∧Below W.heap.size W w∧VD (fun b=>A b∨(W.heap.size≤b∧b<w.heap.size)) w r v':=by
  refine⟨hdf,v,hrun,v,rfl,⟨hR.kept.os,hR.kept.tape,hR.kept.output,hR.kept.size,fun k hk=>hR.kept.block k hk (fun h=>h)⟩,hvd.mono ?_⟩
  rintro b (h|h|h)
  ·exact .inl h
  ·exact h.elim
  ·exact .inr h
 rcases he with rfl|rfl<;>exact hend
def OAd(P:Program)(ops:Array Oper)(k:St→Prop)(fuel:Nat)(listed:Array Bool)(σ:St)(_:Dm (ops,k)):Prop:=OA P ops k fuel listed σ
theorem aO(x y z:Code)(σ:St)(Q:Exit→St→Prop):bAm P (.seq x (.seq y z)) σ Q=AWP P x σ fun e σ'=>match e with|.normal=>bAm P (.seq y z) σ' Q|e=>Q e σ':=rfl
theorem aP(id:Nat)(l:List Oper)(σ:St)(Q:Exit→St→Prop):bAm P (.seq (.region id l.toArray true) .ret) σ Q=OAd P l.toArray (Q .ret) l.length (Bx l.length false) σ .mk:=rfl
theorem cA{k:St→Prop}{fuel:Nat}{listed:Array Bool}{σ:St}{d:Dm (ops,k)}(i:Nat){o:Oper}(hr:BL .any ops listed=[i])(ho:ops[i]? = some o)
  (h:OWd P ops [o] σ [] (fun σ' con=>aFh σ' con (fun σ2=>OAd P ops k fuel (listed.setIfInBounds i true) σ2 .mk) .mk) .mk):OAd P ops k (fuel+1) listed σ d:=by
 refine⟨fun e=>(by rw[hr]at e;cases e),fun j hj=>?_⟩
 rw[hr]at hj
 simp only[AP]at hj
 subst hj
 simp only[ho];exact h
theorem mL{k:St→Prop}{fuel:Nat}{listed:Array Bool}{σ:St}{d:Dm (ops,k)}(i j:Nat){o o':Oper}(hr:BL .any ops listed=[i,j])(ho:ops[i]? = some o)(ho':ops[j]? = some o')
  (h:OWd P ops [o] σ [] (fun σ' con=>aFh σ' con (fun σ2=>OAd P ops k fuel (listed.setIfInBounds i true) σ2 .mk) .mk) .mk)
  (h':OWd P ops [o'] σ [] (fun σ' con=>aFh σ' con (fun σ2=>OAd P ops k fuel (listed.setIfInBounds j true) σ2 .mk) .mk) .mk):OAd P ops k (fuel+1) listed σ d:=by
 refine⟨fun e=>(by rw[hr]at e;cases e),fun m hm=>?_⟩
 rw[hr]at hm
 simp only[AD,Eg,DX]at hm
 rcases hm with rfl|rfl
 ·simp only[ho];exact h
 ·simp only[ho'];exact h'
theorem iP{k:St→Prop}{listed:Array Bool}{σ:St}{d:Dm (ops,k)}(hr:BL .any ops listed=[])(h:k σ):OAd P ops k 0 listed σ d:=⟨hr,h⟩
end
end Go.Am
end

section
set_option linter.unusedVariables false
set_option linter.unusedSimpArgs false
namespace Go.Am
open RowKit (Below)
variable {P:Program}
theorem bBz{G:Ctx}{fn:Func}{σ:St}{a:Act}{w:World}{rv:ResultVar}{av:AV}{F:Nat→Prop}{ι:Nat→Option Nat}(hR:HR G F w ι bX σ.H)(hV:∀ t,V F w ι (σ.Γ t) (a.tmps.getD t undef))(hres:fn.results.toList=[rv])(h:mE P σ rv=some av) :
  ∃ v,(results fn a.tmps).run P w=.ok v w∧V F w ι av v:=by
 cases rv with
 |cell ad t=>exact bLd hR hV hres h
 |tmp t =>
  simp only[mE,AT]at h
  subst h
  refine⟨a.tmps.getD t undef,?_,hV t⟩
  have h1':([ResultVar.tmp t].mapM (m:=Sem) fun|.tmp t=>pure (a.tmps.getD t undef)|.cell ad t=>do loadVar t (←asAddr (a.tmps.getD ad undef))).run P w=.ok [a.tmps.getD t undef] w:=by
   simp only[B7,List.mapM_nil,A4,Result.andThen_ok,Sem.run_pure]
  simp only[results,Array.mapM_eq_mapM_toList,A4,Sem.run_map,hres]
  erw [h1']
  simp
theorem nN {f N:Nat} {fn:Func} {c:Code} {args:List D} {v:Nat→AV} {hs:Nat→List HO} {rv:ResultVar} (hm:P.follows .mixedOrders=true) (hf:P.funcs[f]? = some fn) (hb:fn.body=some c) (hname:(fn.name == "runtime.NumGoroutine")=false)
  (hN:fn.ntmps=N) (hN0:0<N) (hd:dM N c=true) (hl':eA P c=true) (ha:args.length≤N) (hres:fn.results.toList=[rv])
  (h:AWP P c (St0 args N) fun e σ=>(e=.normal∨e=.ret)∧dR (mE P σ rv) (fun av=>∀ m,0<m→∃ ρ,Wk ⟨upd σ.Γ 0 av,σ.H,σ.n⟩ (fM v hs m) ρ) .mk):rG P f args v hs:=by
 intro A W vs hA hl hv
 have hn:¬ fn.name = "runtime.NumGoroutine" := by simpa using hname
 refine⟨fun w=>by simp[callFunc,hf,hn,hb],?_⟩
 refine calls_of_wp hf hb ?_
 subst hN
 refine wp_mono (gS hm (fun _=>rfl) c _ _ _ _ hd hl' h (SR0 hA hl hv ha)) ?_
 rintro e a w ⟨σ,⟨he,hr⟩,hs1⟩
 obtain⟨htop,hn0,F,ι,hR,hdom,hV,hN2,hdf,hp⟩:=hs1
 cases hav:mE P σ rv with
 |none=>rw[hav]at hr;exact hr.elim
 |some av =>
 rw[hav]at hr
 simp only[dR]at hr
 obtain⟨u,hrun,hvu⟩:=bBz hR hV hres hav
 have hput:SR ⟨W,A,bX,fun _=>True,fun _=>none⟩ fn.ntmps [] ⟨upd σ.Γ 0 av,σ.H,σ.n⟩ (a.put (some 0) u) w:=by
  refine⟨htop,hn0,F,ι,hR,hdom,fun t'=>?_,⟨by simp[Act.put,hN2.1],fun _ _ h=>by cases h⟩,by simp[Act.put,hdf],hp⟩
  rw[jX a (some 0) u (fun d hd=>by injection hd with hd;subst hd;rw[hN2.1];exact hN0) t']
  by_cases e0:t'=0
  ·subst e0;rw[Ag rfl];simp only[cQ];exact hvu
  ·rw[Ae (fun e=>e0 (by injection e with e;exact e.symm))];simp only;rw[dD _ _ e0];exact hV t'
 have hend:a.defers=[]∧∃ u,(results fn a.tmps).run P w=.ok u w∧∃ u',Dx u=.returned u'∧Below W.heap.size W w∧∀ m,0<m→∃(F:Nat→Prop) (ι:Nat→Option Nat),
   (∀ b,F b→A b∨(W.heap.size≤b∧b<w.heap.size))∧V F w ι (v m) u'∧(∀ id,(∃ b,ι id=some b)↔(m≤id∧id<m+(hs m).length)) ∧
   (∀ id b,ι id=some b→W.heap.size≤b∧b<w.heap.size∧¬F b) ∧
   (∀ i o b,(hs m)[i]? = some o→ι (m+i)=some b→∃ ob,w.heap[b]? = some ob∧CR F w ι o ob) ∧
   (∀ id id' b,ι id=some b→ι id'=some b→id=id'):=by
  refine⟨hdf,u,hrun,u,rfl,⟨hR.kept.os,hR.kept.tape,hR.kept.output,hR.kept.size,fun k hk=>hR.kept.block k hk (fun h=>h)⟩,fun m hm0=>?_⟩
  obtain⟨ρ,hw⟩:=hr m hm0
  obtain⟨_,_,F2,ι2,hR2,hdom2,hV2,_,_,_⟩:=aAo hw hput
  have hout:∀ id,((fM v hs m).H id).isSome=true↔(m≤id∧id<m+(hs m).length):=fun id=>by
   simp only[fM,fE]
   by_cases hr:m≤id∧id<m+(hs m).length
   ·rw[Ag hr,Aa (by omega)];simp[hr]
   ·rw[Ae hr];simp[hr]
  refine⟨F2,ι2,fun b hb'=>?_,?_,fun id=>by rw[hdom2,hout],fun id b hb'=>?_,fun i o b ho hb'=>?_,fun id id' b e1 e2=>hR2.inj id id' b e1 e2 (fun h=>h) (fun h=>h)⟩
  ·rcases hR2.F_ok b hb' with h|h|h
   ·exact .inl h
   ·exact h.elim
   ·exact .inr ⟨h,hR2.F_lt b hb'⟩
  ·have:=hV2 0
   rw[jX a (some 0) u (fun d hd=>by injection hd with hd;subst hd;rw[hN2.1];exact hN0) 0,Ag rfl]at this
   simpa[fM,cQ]using this
  ·obtain⟨q1,q2,q3⟩:=hR2.place id b hb'
   rcases q1 with q1|q1
   ·exact q1.elim
   ·exact⟨q1,q2,q3 (fun h=>h)⟩
  ·have hi:=(Aj.1 ho).1
   refine hR2.obj (m+i) b o hb' ?_
   simp only[fM,fE]
   rw[Ag ⟨by omega,by omega⟩,show m+i-m=i by omega];exact ho
 rcases he with rfl|rfl<;>exact hend
end Go.Am
end

section
set_option linter.unusedVariables false
set_option linter.unusedSimpArgs false
open List (map_map mapM_map)
open Go Go.Am Go.Proofs
namespace Go.Am
theorem qY{raw:List Nat}{n:Nat}(hn:n<raw.length)(h0:raw[n]≠0):strip (raw.take (n+1))=raw.take (n+1):=by
 refine rM ?_
 rw[AJ,Aa hn,oE,Option.toList_some,List.getLast?_append]
 simp[h0]
theorem qX{raw:List Nat}{n:Nat}(hn:n<raw.length)(h0:raw[n]=0):strip (raw.take (n+1))=strip (raw.take n):=by
 rw[AJ,Aa hn,h0]
 exact aBf _
set_option maxRecDepth 10000 in
theorem fZ(raw:List Nat)(neg:Bool)(hl:raw.length≤1099511627776):Spec Tryz.prog 78 [aN raw,.b neg] (encI (neg&&decide (strip raw≠[])) (strip raw)):=by
 refine aZ (N:=31) aI Tryz.func78 rfl rfl rfl (by kernel_rfl) (by kernel_rfl) (by simp) ?_
 simp[-map_map,-mapM_map,↓KW,aN]
 refine rX (τ:={ n:Nat // n≤raw.length∧strip (raw.take n)=strip raw }) (S:=fun n=>StL [(0,.d (aN raw)),(1,.d (.b neg)),(4,.ptr 1 0),(5,.d (.i .i64 n.1))] none [.cells 74 [.d (.b false),.nil]]) (m:=fun n=>n.1) ⟨raw.length,Az _,by simp⟩ ?_ ?_
 ·refine aY [1] (by simp) ?_ ?_
  ·simp[-map_map,upd,aT,Γ0,aN]
  ·simp[-map_map,upd,aT,Γ0]
 ·rintro⟨n,hn,hs⟩
  rcases n with _|n
  ·have hs':strip raw=[]:=hs.symm
   cases neg<;>simp[-map_map,-mapM_map,↓KW,aN,encI,hs',chunk]
  ·have hx:raw[n]? = some raw[n]:=Aa hn
   have hw:Ah.wrap (n:Int)=n:=aR (by omega) (by omega)
   have hp:(0:Int)<(n:Int)+1:=by omega
   by_cases h0:raw[n]=0
   ·simp[-map_map,-mapM_map,↓KW,aN,hx,hw,h0,hp]
    refine⟨n,by omega,⟨by omega,(qX hn h0).symm.trans hs⟩,.inr (aY [1] (by simp) ?_ ?_)⟩<;>simp[-map_map,upd,aT,Γ0,aN]
   ·have h1:((raw[n]:Int)==0)=false:=by simp;omega
    have he:strip raw=raw.take (n+1):=hs.symm.trans (qY hn h0)
    have hp2:(0:Int)≤(n:Int)+1:=by omega
    have hn':(n:Int)+1≤raw.length:=by omega
    obtain⟨pre,hpre⟩:∃ pre,raw.take (n+1)=pre:=⟨_,rfl⟩
    have hpl:pre.length=n+1:=by rw[←hpre];simp;omega
    have hp1:∀ f:Nat→List D,(raw.map f).take (n+1)=pre.map f:=fun f=>by rw[←hpre,Cc]
    have hpn:pre≠[]:=fun e=>by rw[e]at hpl;cases hpl
    rw[hpre]at he
    have hb:(n+1)*4≤140737488355328:=by omega
    have hb2:n+1≤maxLen:=by unfold maxLen;omega
    cases neg<;>simp[-map_map,-mapM_map,↓KW,aN,encI,hx,hw,h1,hp,hp2,he,hn',hp1,hpl,hpn,fX hpl,dY hpl,aNj,aUw,lY,hb,hb2]
theorem dV{raw:List Nat}(h:Lim raw)(neg:Bool):encI (neg&&decide (strip raw≠[])) (strip raw)=encZ (sg neg (val raw)):=by
 rw[gY h,←bOx]
 simp[gD]
set_option maxRecDepth 10000 in
theorem vV(n:Int)(h1:-9223372036854775808≤n)(h2:n<9223372036854775808):Spec Tryz.prog 40 [.i .i64 n] (encZ n):=by
 refine aZ (N:=19) aI Tryz.func40 rfl rfl rfl (by kernel_rfl) (by kernel_rfl) (by simp) ?_
 have key:∀(u:Nat),u<18446744073709551616→∃ lo hi:Nat,Lim [lo,hi]∧val [lo,hi]=u∧BY.wrap (u:Int)=lo∧kA .shr .u64 (u:Int) 32=some (.i .u64 hi)∧BY.wrap (hi:Int)=hi:=fun u hu=>by
  refine⟨u%4294967296,u/4294967296,.cons (by omega) (.one (by omega)),by simp only[val];omega,by rw[iM];omega,?_,by rw[jS (by omega) (by omega)]⟩
  simp only[kA,C4]
  rw[Ae (by decide)]
  congr 2
  rw[show(2:Int)^(min (32:Int).toNat 64)=4294967296 from by decide,CQ _ (by decide)]
  omega
 by_cases hn:n<0
 ·obtain⟨u,hu⟩:∃ u:Nat,n=-(u:Int):=⟨n.natAbs,by omega⟩
  have hu2:u<18446744073709551616:=by omega
  have e1:AY.wrap n=n+18446744073709551616:=by rw[xW];omega
  have e2:AY.wrap (-(n+18446744073709551616))=(u:Int):=by rw[xW];omega
  obtain⟨lo,hi,k1,k2,e3,e4,e5⟩:=key u hu2
  simp[-map_map,-mapM_map,↓KW,hn,e1,e2,e3,e4,e5]
  have hm:=fZ [lo,hi] true (by simp)
  rw[dV k1,k2,show sg true u=n by simp[sg];omega]at hm
  refine aA (ds:=[aN [lo,hi],.b true]) ?_ hm ?_
  ·simp[-map_map,-mapM_map,↓KW,aN]
  ·simp[-map_map,-mapM_map,↓KW,aN,encZ,encI]
 ·obtain⟨u,rfl⟩:∃ u:Nat,n=(u:Int):=⟨n.natAbs,by omega⟩
  have hu2:u<18446744073709551616:=by omega
  have e1:AY.wrap (u:Int)=u:=bP (by omega) (by omega)
  obtain⟨lo,hi,k1,k2,e3,e4,e5⟩:=key u hu2
  simp[-map_map,-mapM_map,↓KW,hn,e1,e3,e4,e5]
  have hm:=fZ [lo,hi] false (by simp)
  rw[dV k1,k2,show sg false u=u by simp[sg]]at hm
  refine aA (ds:=[aN [lo,hi],.b false]) ?_ hm ?_
  ·simp[-map_map,-mapM_map,↓KW,aN]
  ·simp[-map_map,-mapM_map,↓KW,aN,encZ,encI]
end Go.Am
end

section
set_option linter.unusedVariables false
set_option linter.unusedSimpArgs false
open List (map_map mapM_map)
open Go Go.Am Go.Proofs
namespace Go.Am
set_option maxRecDepth 10000 in
theorem bLv(neg:Bool)(m:List Nat):Spec Tryz.prog 73 [encI neg m] (.i .i64 (if m=[]then 0 else if neg then -1 else 1)):=by
 refine aZ (N:=9) aI Tryz.func73 rfl rfl rfl (by kernel_rfl) (by kernel_rfl) (by simp) ?_
 cases m with
 |nil=>simp[-map_map,-mapM_map,↓KW,encI,aN]
 |cons x m =>
  have h1:(((m.length:Int)+1==0):Bool)=false:=by simp;omega
  cases neg<;>simp[-map_map,-mapM_map,↓KW,encI,aN,h1]
theorem eX(z:Int):Spec Tryz.prog 73 [encZ z] (.i .i64 z.sign):=by
 have:=bLv (decide (z<0)) (aX z.natAbs)
 have e:(if aX z.natAbs=[]then(0:Int)else if(decide (z<0))=true then -1 else 1)=z.sign:=by
  simp only[gD]
  rcases D4 z 0 with h|h|h
  ·rw[Ae (by omega),Ag (by simpa using h),CS h]
  ·subst h;rfl
  ·rw[Ae (by omega),Ae (by simp;omega),Dj h]
 rwa [e]at this
set_option maxRecDepth 10000 in
theorem bCw(neg:Bool)(m:List Nat)(hl:m.length≤1099511627776):Spec Tryz.prog 72 [encI neg m] (.b (match m.getLast? with|some x=>x != 0|none=>!neg)):=by
 refine aZ (N:=19) aI Tryz.func72 rfl rfl rfl (by kernel_rfl) (by kernel_rfl) (by simp) ?_
 rcases List.eq_nil_or_concat m with rfl|⟨m',x,rfl⟩
 ·simp[-map_map,-mapM_map,↓KW,encI,aN]
 ·have hw:Ah.wrap (m'.length:Int)=m'.length:=by simp at hl;rw[aR]<;>omega
  have h1:(((m'.length:Int)+1==0):Bool)=false:=by simp;omega
  have hg:(BR (fun(x:Nat)=>[D.i .u32 (x:Int)]) m'++[[D.i .u32 (x:Int)]])[m'.length]? = some [D.i .u32 (x:Int)]:=by
   rw[AA (by simp)];simp
  simp[-map_map,-mapM_map,↓KW,encI,aN,hw,h1,hg]
  rw[Dg];simp
theorem aFu(z:Int)(hl:(aX z.natAbs).length≤1099511627776):Spec Tryz.prog 72 [encZ z] (.b true):=by
 have:=bCw (decide (z<0)) (aX z.natAbs) hl
 have e:(match(aX z.natAbs).getLast? with|some x=>x != 0|none=>!(decide (z<0)))=true:=by
  have hc:=nY z.natAbs
  unfold oE at hc
  cases h:(aX z.natAbs).getLast? with
  |none =>
   have:=gD.1 (List.getLast?_eq_none_iff.1 h)
   simp;omega
  |some x=>rw[h]at hc;simpa using hc
 rwa [e]at this
def pN(a b:List Nat):Bool:=if a.length=b.length then decide (val a<val b)else decide (a.length<b.length)
theorem kB(x y:Nat):pN (aX x) (aX y)=decide (x<y):=by
 unfold pN
 by_cases h:(aX x).length=(aX y).length
 ·rw[Ag h,cY,cY]
 ·rw[Ae h]
  by_cases h1:(aX x).length<(aX y).length
  ·simp[h1,jI h1]
  ·have:=jI (a:=y) (b:=x) (by omega)
   simp only[h1,decide_false]
   simp;omega
set_option maxRecDepth 10000 in
theorem aAb(a b:List Nat)(ha:Lim a)(hb:Lim b)(hla:a.length≤1099511627776)(hlb:b.length≤1099511627776):Spec Tryz.prog 97 [aN a,aN b] (.b (pN a b)):=by
 refine aZ (N:=41) aI Tryz.func97 rfl rfl rfl (by kernel_rfl) (by kernel_rfl) (by simp) ?_
 by_cases hn:a.length=b.length
 rotate_left
 ·have h1:(((a.length:Int) != b.length):Bool)=true:=by simp;omega
  simp[-map_map,-mapM_map,↓KW,aN,h1,pN,hn]
 ·have h1:(((a.length:Int) != b.length):Bool)=false:=by simp;omega
  have hw:Ah.wrap ((a.length:Int)-1)=(a.length:Int)-1:=aR (by omega) (by omega)
  simp[-map_map,-mapM_map,↓KW,aN,h1,hw]
  refine rX (τ:={ k:Nat // k≤a.length∧a.drop k=b.drop k }) (S:=fun k=>StL [(0,.d (aN a)),(1,.d (aN b)),(5,.d (.i .i64 ((k.1:Int)-1)))] none []) (m:=fun k=>k.1) ⟨a.length,Az _,by rw[Bo (Az _),Bo (by omega)]⟩ ?_ ?_
  ·refine aY [] (by simp) ?_ ?_<;>simp[-map_map,upd,aT,Γ0,aN]
  ·rintro⟨k,hk,hd⟩
   rcases k with _|k
   ·have e:a=b:=by simpa using hd
    subst e
    simp[-map_map,-mapM_map,↓KW,aN,pN]
   ·have hkb:k<b.length:=by omega
    have hxa:a[k]? = some a[k]:=Aa hk
    have hxb:b[k]? = some b[k]:=Aa hkb
    have hw2:Ah.wrap ((k:Int)-1)=(k:Int)-1:=aR (by omega) (by omega)
    have hp:(0:Int)≤k:=by omega
    by_cases he:a[k]=b[k]
    ·have h2:(((a[k]:Int) != (b[k]:Int)):Bool)=false:=by simp[he]
     simp[-map_map,-mapM_map,↓KW,aN,hxa,hxb,hw2,hp,h2]
     refine⟨k,by omega,⟨by omega,?_⟩,.inr (aY [] (by simp) ?_ ?_)⟩
     ·rw[A2 hk,A2 hkb,he,hd]
     ·simp[-map_map,upd,aT,Γ0,aN]
     ·trivial
    ·have h2:(((a[k]:Int) != (b[k]:Int)):Bool)=true:=by simp;omega
     simp[-map_map,-mapM_map,↓KW,aN,hxa,hxb,hw2,hp,h2,pN,hn]
     have ga:a.getD k 0=a[k]:=by rw[Ac,hxa];rfl
     have gb:b.getD k 0=b[k]:=by rw[Ac,hxb];rfl
     rcases Bc a[k] b[k]with hlt|hge
     ·have:=sX ha (i:=k) hn hk hd (by rw[ga,gb];exact hlt)
      simp[hlt,this]
     ·have:=sX hb (i:=k) hn.symm hkb hd.symm (by rw[ga,gb];omega)
      omega
set_option maxRecDepth 10000 in
theorem aBp(x y:Int)(hx:(aX x.natAbs).length≤1099511627776)(hy:(aX y.natAbs).length≤1099511627776):Spec Tryz.prog 61 [encZ x,encZ y] (.b (decide (x=y))):=by
 refine aZ (N:=26) aI Tryz.func61 rfl rfl rfl (by kernel_rfl) (by kernel_rfl) (by simp) ?_
 have l1:=aAb _ _ (cM x.natAbs) (cM y.natAbs) hx hy
 have l2:=aAb _ _ (cM y.natAbs) (cM x.natAbs) hy hx
 rw[kB]at l1 l2
 unfold encZ encI
 generalize aX x.natAbs=a at *
 generalize aX y.natAbs=b at *
 by_cases hs:decide (x<0)=decide (y<0)
 rotate_left
 ·have h1:(decide (x<0)==decide (y<0))=false:=by simpa using hs
  have h2:¬x=y:=fun e=>hs (by rw[e])
  simp[-map_map,-mapM_map,↓KW,aN,h1,h2]
 ·have h1:(decide (x<0)==decide (y<0))=true:=by simpa using hs
  simp[-map_map,-mapM_map,↓KW,aN,h1]
  refine aA (ds:=[aN a,aN b]) (by rfl) l1 ?_
  by_cases h3:x.natAbs<y.natAbs
  ·have h2:¬x=y:=fun e=>by rw[e]at h3;omega
   simp[-map_map,-mapM_map,↓KW,aN,h3,h2]
  ·simp[-map_map,-mapM_map,↓KW,aN,h3]
   refine aA (ds:=[aN b,aN a]) (by rfl) l2 ?_
   simp[-map_map,-mapM_map,↓KW,aN]
   have hs':x<0↔y<0:=by simpa using hs
   rw[Dg]
   simp
   omega
end Go.Am
end

section
set_option linter.unusedVariables false
set_option linter.unusedSimpArgs false
open List (map_map mapM_map)
open Go Go.Am Go.Proofs
namespace Go.Am
def plS(a b:List Nat):Nat→List Nat×Nat
 |0=>([],0)
 |i+1=>((plS a b i).1++[((plS a b i).2+a.getD i 0+b.getD i 0)%4294967296],((plS a b i).2+a.getD i 0+b.getD i 0)/4294967296)
theorem mY{a b:List Nat}(ha:Lim a)(hb:Lim b):∀ i,(plS a b i).1.length=i∧(plS a b i).2≤1∧Lim (plS a b i).1∧val (plS a b i).1+4294967296^i*(plS a b i).2=val (a.take i)+val (b.take i)
 |0=>⟨rfl,An _,.nil,by simp[plS,val]⟩
 |i+1=>by
  obtain⟨h1,h2,h3,h4⟩:=mY ha hb i
  have ha':=ha.getD i
  have hb':=hb.getD i
  simp only[plS]
  generalize(plS a b i).1=out at *
  generalize(plS a b i).2=c at *
  refine⟨by simp[h1],by omega,h3.app (.one (by omega)),?_⟩
  rw[mR,dH,dH,h1,Cf]
  simp only[val]
  have h5:4294967296^i*((c+a.getD i 0+b.getD i 0)%4294967296)+4294967296^i*4294967296*((c+a.getD i 0+b.getD i 0)/4294967296)=4294967296^i*c+4294967296^i*a.getD i 0+4294967296^i*b.getD i 0:=by
   rw[BF,←BX,Nat.mod_add_div,BX,BX]
  simp only[CP,BW]
  omega
def plN(a b:List Nat):Nat:=if(plS a b (max a.length b.length)).2=0 then max a.length b.length else max a.length b.length+1
def zD(a b:List Nat):List Nat:=(plS a b (plN a b)).1
theorem getD_none{l:List Nat}{i:Nat}(h:¬i<l.length):l.getD i 0=0:=by rw[Ac,AG (by omega)];rfl
theorem aFw{a b:List Nat}(ha:Lim a)(hb:Lim b){i:Nat}(h1:a.length≤i)(h2:b.length≤i):(plS a b (i+1)).2=0:=by
 have h:=(mY ha hb i).2.1
 show((plS a b i).2+a.getD i 0+b.getD i 0)/4294967296=0
 rw[getD_none (l:=a) (by omega),getD_none (l:=b) (by omega)]
 omega
theorem aMd{a b:List Nat}(ha:Lim a)(hb:Lim b){i:Nat}(h1:a.length≤i)(h2:b.length≤i)(hc:(plS a b i).2=0):val (plS a b i).1=val a+val b:=by
 have h:=(mY ha hb i).2.2.2
 rw[Ai h1,Ai h2,hc,CP,BW]at h
 exact h
theorem aXr{a b:List Nat}(ha:Lim a)(hb:Lim b):val (zD a b)=val a+val b∧Lim (zD a b)∧(zD a b).length≤max a.length b.length+1:=by
 unfold zD plN
 have h1:a.length≤max a.length b.length:=by omega
 have h2:b.length≤max a.length b.length:=by omega
 generalize max a.length b.length=M at *
 by_cases hc:(plS a b M).2=0
 ·rw[Ag hc]
  have h:=mY ha hb M
  exact⟨aMd ha hb h1 h2 hc,h.2.2.1,by rw[h.1];omega⟩
 ·rw[Ae hc]
  have h:=mY ha hb (M+1)
  exact⟨aMd ha hb (by omega) (by omega) (aFw ha hb h1 h2),h.2.2.1,by rw[h.1];exact Az _⟩
theorem getD_some{l:List Nat}{i:Nat}(h:i<l.length):l[i]? = some (l.getD i 0):=by rw[Ac,Aa h];rfl
set_option maxRecDepth 10000 in
theorem bLu(a b:List Nat)(ha:Lim a)(hb:Lim b)(hla:a.length≤1099511627776)(hlb:b.length≤1099511627776):Spec Tryz.prog 111 [aN a,aN b] (aN (zD a b)):=by
 refine aZ (N:=55) aI Tryz.func111 rfl rfl rfl (by kernel_rfl) (by kernel_rfl) (by simp) ?_
 simp[-map_map,-mapM_map,↓KW,aN]
 refine aU (fun i:Nat=>i≤max a.length b.length∨(i=max a.length b.length+1∧(plS a b (max a.length b.length)).2≠0))
  (fun i=>StL [(0,.d (aN a)),(1,.d (aN b)),(5,.own 1 0 i 1),(6,.d (.i .u64 (plS a b i).2)),(7,.d (.i .i64 i))] none [.cells 131 ((lms (plS a b i).1).map .d)]) (fun i=>max a.length b.length+1-i) 0 (.inl (An _)) ?_ ?_
 ·refine aY [1] (by simp) ?_ ?_<;>simp[-map_map,upd,aT,Γ0,aN,plS,lms]
 ·intro i hi
  obtain⟨hlen,hc,_,_⟩:=mY ha hb i
  have hsucc:plS a b (i+1)=((plS a b i).1++[((plS a b i).2+a.getD i 0+b.getD i 0)%4294967296],((plS a b i).2+a.getD i 0+b.getD i 0)/4294967296):=rfl
  have hstop:(i<a.length∨i<b.length∨0<(plS a b i).2)∨i=plN a b:=by
   unfold plN
   rcases hi with hi|⟨hi,hc⟩
   ·by_cases h1:i=max a.length b.length
    ·subst h1
     by_cases h2:(plS a b (max a.length b.length)).2=0
     ·rw[Ag h2];exact .inr rfl
     ·exact .inl (.inr (.inr (by omega)))
    ·exact .inl (by omega)
   ·rw[Ae hc];exact .inr hi
  have hnext:(i<a.length∨i<b.length∨0<(plS a b i).2)→i≤max a.length b.length∧(i+1≤max a.length b.length∨(i+1=max a.length b.length+1∧(plS a b (max a.length b.length)).2≠0)):=by
   intro h
   rcases hi with hi|⟨hi,hc2⟩
   ·refine⟨hi,?_⟩
    by_cases h1:i=max a.length b.length
    ·subst h1;exact .inr ⟨rfl,by omega⟩
    ·exact .inl (by omega)
   ·exfalso
    have e:(plS a b i).2=0:=by
     rw[hi];exact aFw ha hb (by omega) (by omega)
    omega
  have hal:=ha.getD i
  have hbl:=hb.getD i
  have hres:i=plN a b→(plS a b i).1=zD a b:=fun e=>by rw[e];rfl
  generalize hout:(plS a b i).1=out at *
  generalize hcar:(plS a b i).2=c at *
  by_cases hgo:i<a.length∨i<b.length∨0<c
  ·obtain⟨hi1,hi2⟩:=hnext hgo
   have hb1:(i+1)*4≤140737488355328:=by omega
   have hb2:i+1≤maxLen:=by unfold maxLen;omega
   have hw7:Ah.wrap ((i:Int)+1)=(i:Int)+1:=aR (by omega) (by omega)
   have hpos:(0:Int)≤i:=by omega
   obtain⟨s1,hs1⟩:∃ s1:Nat,c+a.getD i 0=s1:=⟨_,rfl⟩
   obtain⟨s2,hs2⟩:∃ s2:Nat,s1+b.getD i 0=s2:=⟨_,rfl⟩
   rw[hs1,hs2]at hsucc
   have hw1:AY.wrap ((c:Int)+((a.getD i 0:Nat):Int))=s1:=by rw[bP (by omega) (by omega)];omega
   have hw2:AY.wrap ((s1:Int)+((b.getD i 0:Nat):Int))=s2:=by rw[bP (by omega) (by omega)];omega
   have hwa:AY.wrap ((a.getD i 0:Nat):Int)=((a.getD i 0:Nat):Int):=bP (by omega) (by omega)
   have hwb:AY.wrap ((b.getD i 0:Nat):Int)=((b.getD i 0:Nat):Int):=bP (by omega) (by omega)
   obtain⟨lo,hlo⟩:∃ lo:Nat,s2%4294967296=lo:=⟨_,rfl⟩
   obtain⟨hi',hhi⟩:∃ hi':Nat,s2/4294967296=hi':=⟨_,rfl⟩
   have hw3:BY.wrap (s2:Int)=lo:=by rw[iM];omega
   have hw4:AY.wrap ((s2:Int).tdiv 4294967296)=hi':=by
    rw[Int.tdiv_eq_ediv_of_nonneg (by omega),bP (by omega) (by omega)];omega
   have hw4':AY.wrap ((s2:Int)/4294967296)=hi':=by rw[bP (by omega) (by omega)];omega
   rw[hlo,hhi]at hsucc
   have hcase:(a.getD i 0=0∧¬i<a.length)∨i<a.length:=by
    by_cases h:i<a.length
    ·exact .inr h
    ·exact .inl ⟨getD_none h,h⟩
   have hcase2:(b.getD i 0=0∧¬i<b.length)∨i<b.length:=by
    by_cases h:i<b.length
    ·exact .inr h
    ·exact .inl ⟨getD_none h,h⟩
   rcases hcase with ⟨ha0,han⟩|han<;>rcases hcase2 with ⟨hb0,hbn⟩|hbn
   ·have q1:¬(i:Int)<a.length:=by omega
    have q2:¬(i:Int)<b.length:=by omega
    have q3:0<c:=by omega
    rw[ha0]at hs1;rw[hb0]at hs2
    have e2:s2=c:=by omega
    rw[e2]at hw3 hw4 hw4'
    simp[-map_map,-mapM_map,↓KW,aN,q1,q2,q3,hw3,hw4,hw7,hb1,hb2,hlen]
    refine aJ (i+1) hi2 ?_ (aY [3] (by simp) ?_ ?_)
    ·omega
    ·simp[-map_map,upd,aT,Γ0,aN,hsucc,gC,gJ,hw4']
    ·simp[-map_map,upd,aT,Γ0,aN,hsucc,gC,gJ]
   ·have q1:¬(i:Int)<a.length:=by omega
    have q2:(i:Int)<b.length:=by omega
    rw[ha0]at hs1
    have e1:s1=c:=by omega
    have g2:=getD_some hbn
    rw[e1]at hw2
    generalize b.getD i 0=y at *
    simp[-map_map,-mapM_map,↓KW,aN,q1,q2,g2,hwb,hw2,hw3,hw4,hw7,hb1,hb2,hlen]
    refine aJ (i+1) hi2 ?_ (aY [3] (by simp) ?_ ?_)
    ·omega
    ·simp[-map_map,upd,aT,Γ0,aN,hsucc,gC,gJ,hw4']
    ·simp[-map_map,upd,aT,Γ0,aN,hsucc,gC,gJ]
   ·have q1:(i:Int)<a.length:=by omega
    have q2:¬(i:Int)<b.length:=by omega
    rw[hb0]at hs2
    have e2:s2=s1:=by omega
    have g1:=getD_some han
    rw[e2]at hw3 hw4 hw4'
    generalize a.getD i 0=x at *
    simp[-map_map,-mapM_map,↓KW,aN,q1,q2,g1,hwa,hw1,hw3,hw4,hw7,hb1,hb2,hlen]
    refine aJ (i+1) hi2 ?_ (aY [3] (by simp) ?_ ?_)
    ·omega
    ·simp[-map_map,upd,aT,Γ0,aN,hsucc,gC,gJ,hw4']
    ·simp[-map_map,upd,aT,Γ0,aN,hsucc,gC,gJ]
   ·have q1:(i:Int)<a.length:=by omega
    have q2:(i:Int)<b.length:=by omega
    have g1:=getD_some han
    have g2:=getD_some hbn
    generalize a.getD i 0=x at *
    generalize b.getD i 0=y at *
    simp[-map_map,-mapM_map,↓KW,aN,q1,q2,g1,g2,hwa,hwb,hw1,hw2,hw3,hw4,hw7,hb1,hb2,hlen]
    refine aJ (i+1) hi2 ?_ (aY [3] (by simp) ?_ ?_)
    ·omega
    ·simp[-map_map,upd,aT,Γ0,aN,hsucc,gC,gJ,hw4']
    ·simp[-map_map,upd,aT,Γ0,aN,hsucc,gC,gJ]
  ·have e:=hstop.resolve_left hgo
   have h1:¬(i:Int)<a.length:=by omega
   have h2:¬(i:Int)<b.length:=by omega
   have h3:c=0:=by omega
   have h4:=hres e
   subst h3
   simp[-map_map,-mapM_map,↓KW,aN,h1,h2,hlen,fX hlen,dY hlen,←h4]
end Go.Am
end

section
set_option linter.unusedVariables false
set_option linter.unusedSimpArgs false
open List (map_map mapM_map)
open Go Go.Am Go.Proofs
namespace Go.Am
def miS(a b:List Nat):Nat→List Nat×Nat
 |0=>([],0)
 |i+1=>if(miS a b i).2+b.getD i 0≤a.getD i 0 then((miS a b i).1++[a.getD i 0-((miS a b i).2+b.getD i 0)],0)else((miS a b i).1++[a.getD i 0+4294967296-((miS a b i).2+b.getD i 0)],1)
theorem aGl{p o vb va x y c z:Nat}(h4:o+vb=va+p*c)(hx:x=z+(c+y)):o+p*z+(vb+p*y)=va+p*x:=by
 subst hx;rw[BX,BX];omega
theorem aYi{p o vb va x y c z k:Nat}(h4:o+vb=va+p*c)(hx:x+k=z+(c+y)):o+p*z+(vb+p*y)=va+p*x+p*k:=by
 have:=aGl (p:=p) (x:=x+k) h4 hx
 rw[BX]at this;omega
theorem bMw{p va vb i:Nat}{out:List Nat}{c x y z:Nat}(hz:x=z+(c+y))(hl:z<4294967296)(h1:out.length=i)(hp:4294967296^i=p)(h3:Lim out)(h4:val out+vb=va+p*c) :
  (out++[z]).length=i+1∧Lim (out++[z])∧val (out++[z])+(vb+p*y)=va+p*x:=by
 refine⟨by simp[h1],h3.app (.one hl),?_⟩
 simp only[mR,val,CP,BW,h1,hp]
 exact aGl h4 hz
theorem bMx{p va vb i:Nat}{out:List Nat}{c x y z k:Nat}(hz:x+k=z+(c+y))(hl:z<4294967296)(h1:out.length=i)(hp:4294967296^i=p)(h3:Lim out)(h4:val out+vb=va+p*c) :
  (out++[z]).length=i+1∧Lim (out++[z])∧val (out++[z])+(vb+p*y)=va+p*x+p*k:=by
 refine⟨by simp[h1],h3.app (.one hl),?_⟩
 simp only[mR,val,CP,BW,h1,hp]
 exact aYi h4 hz
theorem aNe(a b:List Nat)(i:Nat):miS a b (i+1)=if(miS a b i).2+b.getD i 0≤a.getD i 0 then((miS a b i).1++[a.getD i 0-((miS a b i).2+b.getD i 0)],0)else((miS a b i).1++[a.getD i 0+4294967296-((miS a b i).2+b.getD i 0)],1):=rfl
theorem bIk{a b:Nat}(q:Nat)(h:a=b):a=b+q*0:=by rw[CP,BW];exact h
theorem bIj{a b:Nat}(q:Nat)(h:a=b+q):a=b+q*1:=by rw[CK];exact h
theorem aIu{a b:List Nat}(ha:Lim a)(hb:Lim b)(i:Nat):(miS a b i).1.length=i∧(miS a b i).2≤1∧Lim (miS a b i).1∧val (miS a b i).1+val (b.take i)=val (a.take i)+4294967296^i*(miS a b i).2:=by
 induction i with
 |zero=>exact⟨rfl,An _,.nil,by simp[miS,val]⟩
 |succ i ih =>
  obtain⟨h1,h2,h3,h4⟩:=ih
  have hx:=ha.getD i
  have hy:=hb.getD i
  rw[dH,dH,Cf,aNe]
  generalize(miS a b i).1=out at *
  generalize(miS a b i).2=c at *
  generalize a.getD i 0=x at *
  generalize b.getD i 0=y at *
  generalize hp:4294967296^i=p at *
  by_cases h:c+y≤x
  ·rw[Ag h]
   obtain⟨z,hz,hz'⟩:∃ z,x-(c+y)=z∧x=z+(c+y):=⟨_,rfl,(Nat.sub_add_cancel h).symm⟩
   rw[hz];clear hz
   obtain⟨q1,q2,q3⟩:=bMw hz' (by omega) h1 hp h3 h4
   exact⟨q1,An _,q2,bIk _ q3⟩
  ·rw[Ae h]
   obtain⟨z,hz,hz'⟩:∃ z,x+4294967296-(c+y)=z∧x+4294967296=z+(c+y):=⟨_,rfl,(Nat.sub_add_cancel (by omega)).symm⟩
   rw[hz];clear hz
   obtain⟨q1,q2,q3⟩:=bMx hz' (by omega) h1 hp h3 h4
   exact⟨q1,Az _,q2,bIj _ q3⟩
def kX(a b:List Nat):List Nat:=(miS a b a.length).1
theorem qI{a b:List Nat}(ha:Lim a)(hb:Lim b)(hl:b.length≤a.length)(hv:val b≤val a):val (kX a b)=val a-val b∧Lim (kX a b)∧(kX a b).length=a.length:=by
 obtain⟨h1,h2,h3,h4⟩:=aIu ha hb a.length
 rw[Ai hl,Ai (Az _)]at h4
 refine⟨?_,h3,h1⟩
 have hlt:=rJ h3
 rw[h1]at hlt
 unfold kX
 generalize(miS a b a.length).1=out at *
 generalize(miS a b a.length).2=c at *
 rcases Bc 0 c with hc|hc
 ·have:c=1:=by omega
  rw[this,CK]at h4;omega
 ·have:c=0:=by omega
  rw[this,CP]at h4;omega
set_option maxRecDepth 10000 in
theorem aLw(a b:List Nat)(ha:Lim a)(hb:Lim b)(hla:a.length≤1099511627776)(_hlb:b.length≤1099511627776):Spec Tryz.prog 112 [aN a,aN b] (aN (kX a b)):=by
 refine aZ (N:=44) aI Tryz.func112 rfl rfl rfl (by kernel_rfl) (by kernel_rfl) (by simp) ?_
 simp[-map_map,-mapM_map,↓KW,aN]
 refine aU (fun i:Nat=>i≤a.length)
  (fun i=>StL [(0,.d (aN a)),(1,.d (aN b)),(5,.own 1 0 i 1),(6,.d (.i .i64 (miS a b i).2)),(7,.d (.i .i64 i))] none [.cells 131 ((lms (miS a b i).1).map .d)]) (fun i=>a.length-i) 0 (An _) ?_ ?_
 ·refine aY [1] (by simp) ?_ ?_<;>simp[-map_map,upd,aT,Γ0,aN,miS,lms]
 ·intro i hi
  obtain⟨hlen,hc,_,_⟩:=aIu ha hb i
  have hsucc:miS a b (i+1)=if(miS a b i).2+b.getD i 0≤a.getD i 0 then((miS a b i).1++[a.getD i 0-((miS a b i).2+b.getD i 0)],0)else((miS a b i).1++[a.getD i 0+4294967296-((miS a b i).2+b.getD i 0)],1):=rfl
  have hal:=ha.getD i
  have hbl:=hb.getD i
  have hres:i=a.length→(miS a b i).1=kX a b:=fun e=>by rw[e];rfl
  generalize hout:(miS a b i).1=out at *
  generalize hcar:(miS a b i).2=c at *
  by_cases hgo:i<a.length
  ·have hb1:(i+1)*4≤140737488355328:=by omega
   have hb2:i+1≤maxLen:=by unfold maxLen;omega
   have hw7:Ah.wrap ((i:Int)+1)=(i:Int)+1:=aR (by omega) (by omega)
   have q1:(i:Int)<a.length:=by omega
   have g1:=getD_some hgo
   have hb0:¬i<b.length→b.getD i 0=0:=getD_none
   have g2:i<b.length→b[i]? = some (b.getD i 0):=getD_some
   generalize a.getD i 0=x at *
   generalize b.getD i 0=y at *
   have hwx:Ah.wrap (x:Int)=x:=aR (by omega) (by omega)
   have hwy:Ah.wrap (y:Int)=y:=aR (by omega) (by omega)
   obtain⟨d1,hd1⟩:∃ d1:Int,(x:Int)-c=d1:=⟨_,rfl⟩
   obtain⟨d,hd⟩:∃ d:Int,d1-y=d:=⟨_,rfl⟩
   have hw1:Ah.wrap ((x:Int)-c)=d1:=by rw[aR (by omega) (by omega)];exact hd1
   have hw2:Ah.wrap (d1-y)=d:=by rw[aR (by omega) (by omega)];exact hd
   by_cases hneg:d<0
   ·rw[Ae (by omega)]at hsucc
    obtain⟨lo,hlo⟩:∃ lo:Nat,x+4294967296-(c+y)=lo:=⟨_,rfl⟩
    rw[hlo]at hsucc
    have hw3:Ah.wrap (d+4294967296)=lo:=by rw[aR (by omega) (by omega)];omega
    have hw4:BY.wrap (lo:Int)=lo:=jS (by omega) (by omega)
    by_cases hbn:i<b.length
    ·have q2:(i:Int)<b.length:=by omega
     have g3:=g2 hbn
     simp[-map_map,-mapM_map,↓KW,aN,q1,q2,g1,g3,hwx,hwy,hw1,hw2,hw3,hw4,hneg,hw7,hb1,hb2,hlen]
     refine aJ (i+1) hgo ?_ (aY [3] (by simp) ?_ ?_)
     ·omega
     ·simp[-map_map,upd,aT,Γ0,aN,hsucc,gC,gJ]
     ·simp[-map_map,upd,aT,Γ0,aN,hsucc,gC,gJ]
    ·have q2:¬(i:Int)<b.length:=by omega
     have e1:d1=d:=by have:=hb0 hbn;omega
     rw[e1]at hw1
     simp[-map_map,-mapM_map,↓KW,aN,q1,q2,g1,hwx,hw1,hw3,hw4,hneg,hw7,hb1,hb2,hlen]
     refine aJ (i+1) hgo ?_ (aY [3] (by simp) ?_ ?_)
     ·omega
     ·simp[-map_map,upd,aT,Γ0,aN,hsucc,gC,gJ]
     ·simp[-map_map,upd,aT,Γ0,aN,hsucc,gC,gJ]
   ·rw[Ag (by omega)]at hsucc
    obtain⟨lo,hlo⟩:∃ lo:Nat,x-(c+y)=lo:=⟨_,rfl⟩
    rw[hlo]at hsucc
    have e0:d=lo:=by omega
    rw[e0]at hw2 hneg
    have hw4:BY.wrap (lo:Int)=lo:=jS (by omega) (by omega)
    by_cases hbn:i<b.length
    ·have q2:(i:Int)<b.length:=by omega
     have g3:=g2 hbn
     simp[-map_map,-mapM_map,↓KW,aN,q1,q2,g1,g3,hwx,hwy,hw1,hw2,hw4,hneg,hw7,hb1,hb2,hlen]
     refine aJ (i+1) hgo ?_ (aY [3] (by simp) ?_ ?_)
     ·omega
     ·simp[-map_map,upd,aT,Γ0,aN,hsucc,gC,gJ]
     ·simp[-map_map,upd,aT,Γ0,aN,hsucc,gC,gJ]
    ·have q2:¬(i:Int)<b.length:=by omega
     have e1:d1=lo:=by have:=hb0 hbn;omega
     rw[e1]at hw1
     simp[-map_map,-mapM_map,↓KW,aN,q1,q2,g1,hwx,hw1,hw4,hneg,hw7,hb1,hb2,hlen]
     refine aJ (i+1) hgo ?_ (aY [3] (by simp) ?_ ?_)
     ·omega
     ·simp[-map_map,upd,aT,Γ0,aN,hsucc,gC,gJ]
     ·simp[-map_map,upd,aT,Γ0,aN,hsucc,gC,gJ]
  ·have e:i=a.length:=by omega
   have h1:¬(i:Int)<a.length:=by omega
   have h4:=hres e
   simp[-map_map,-mapM_map,↓KW,aN,h1,hlen,fX hlen,dY hlen,←h4]
set_option maxRecDepth 10000 in
theorem qF(x y:Int)(hx:(aX x.natAbs).length≤549755813888)(hy:(aX y.natAbs).length≤549755813888):Spec Tryz.prog 85 [encZ x,encZ y] (encZ (x+y)):=by
 refine aZ (N:=39) aI Tryz.func85 rfl rfl rfl (by kernel_rfl) (by kernel_rfl) (by simp) ?_
 have la:=cM x.natAbs
 have lb:=cM y.natAbs
 have va:=cY x.natAbs
 have vb:=cY y.natAbs
 have hless:(aX x.natAbs).length<(aX y.natAbs).length→x.natAbs<y.natAbs:=jI
 have hless2:(aX y.natAbs).length<(aX x.natAbs).length→y.natAbs<x.natAbs:=jI
 have hl:=aAb _ _ la lb (by omega) (by omega)
 rw[kB]at hl
 have sx:=iN x
 have sy:=iN y
 have ex:encZ x=.ag [.b (decide (x<0)),aN (aX x.natAbs)]:=rfl
 have ey:encZ y=.ag [.b (decide (y<0)),aN (aX y.natAbs)]:=rfl
 rw[ex,ey]
 generalize aX x.natAbs=a at *
 generalize aX y.natAbs=b at *
 generalize hbx:decide (x<0)=nx at *
 generalize hby:decide (y<0)=ny at *
 by_cases hn:nx=ny
 ·have h1:(nx==ny)=true:=by simpa using hn
  simp[-map_map,-mapM_map,↓KW,aN,h1]
  obtain⟨pv,pl,pn⟩:=aXr la lb
  refine aA (ds:=[aN a,aN b]) (by rfl) (bLu a b la lb (by omega) (by omega)) ?_
  simp[-map_map,-mapM_map,↓KW,aN]
  have hm:=fZ (zD a b) nx (by omega)
  rw[dV pl,pv,va,vb]at hm
  refine aA (ds:=[aN (zD a b),.b nx]) (by rfl) hm ?_
  have e:sg nx (x.natAbs+y.natAbs)=x+y:=by
   rw[←sx,←sy,←hn];cases nx<;>simp[sg]<;>omega
  rw[e]
  simp[-map_map,-mapM_map,↓KW,aN,encZ,encI]
 ·have h1:(nx==ny)=false:=by simpa using hn
  simp[-map_map,-mapM_map,↓KW,aN,h1]
  refine aA (ds:=[aN a,aN b]) (by rfl) hl ?_
  by_cases hlt:x.natAbs<y.natAbs
  ·simp[-map_map,-mapM_map,↓KW,aN,hlt]
   obtain⟨pv,pl,pn⟩:=qI lb la (by omega) (by omega)
   refine aA (ds:=[aN b,aN a]) (by rfl) (aLw b a lb la (by omega) (by omega)) ?_
   simp[-map_map,-mapM_map,↓KW,aN]
   have hm:=fZ (kX b a) ny (by omega)
   rw[dV pl,pv,va,vb]at hm
   refine aA (ds:=[aN (kX b a),.b ny]) (by rfl) hm ?_
   have e:sg ny (y.natAbs-x.natAbs)=x+y:=by
    rw[←sx,←sy]
    cases nx<;>cases ny<;>simp[sg]at hn ⊢<;>omega
   rw[e]
   simp[-map_map,-mapM_map,↓KW,aN,encZ,encI]
  ·simp[-map_map,-mapM_map,↓KW,aN,hlt]
   obtain⟨pv,pl,pn⟩:=qI la lb (by omega) (by omega)
   refine aA (ds:=[aN a,aN b]) (by rfl) (aLw a b la lb (by omega) (by omega)) ?_
   simp[-map_map,-mapM_map,↓KW,aN]
   have hm:=fZ (kX a b) nx (by omega)
   rw[dV pl,pv,va,vb]at hm
   refine aA (ds:=[aN (kX a b),.b nx]) (by rfl) hm ?_
   have e:sg nx (x.natAbs-y.natAbs)=x+y:=by
    rw[←sx,←sy]
    cases nx<;>cases ny<;>simp[sg]at hn ⊢<;>omega
   rw[e]
   simp[-map_map,-mapM_map,↓KW,aN,encZ,encI]
end Go.Am
end

section
set_option linter.unusedVariables false
set_option linter.unusedSimpArgs false
open Go Go.Am Go.Proofs
namespace Go.Am
theorem aHx{l:List Nat}{j:Nat}(h:j<l.length)(v:Nat):val (l.set j v)+4294967296^j*l.getD j 0=val l+4294967296^j*v:=by
 induction l generalizing j with
 |nil=>simp at h
 |cons x l ih =>
  cases j with
  |zero=>simp only[Es,val,Nat.pow_zero,Cn,List.getD_cons_zero];omega
  |succ j =>
   have:=ih (j:=j) (by simpa using h)
   simp only[List.set_cons_succ,val,List.getD_cons_succ,Cf]
   generalize 4294967296^j=p at *
   generalize l.getD j 0=o at *
   generalize val (l.set j v)=w at *
   rw[BU p,BF,BF]
   generalize p*o=e1 at *
   generalize p*v=e2 at *
   omega
def muI(out:List Nat)(x:Nat)(b:List Nat)(i:Nat):Nat→List Nat×Nat
 |0=>(out,0)
 |k+1=>((muI out x b i k).1.set (i+k) (((muI out x b i k).2+(muI out x b i k).1.getD (i+k) 0+x*b.getD k 0)%4294967296),((muI out x b i k).2+(muI out x b i k).1.getD (i+k) 0+x*b.getD k 0)/4294967296)
def muN(out:List Nat)(x:Nat)(b:List Nat)(i:Nat):Nat:=if(muI out x b i b.length).2=0 then b.length else b.length+1
def muO(a b:List Nat):Nat→List Nat
 |0=>Ay (a.length+b.length+1) 0
 |i+1=>(muI (muO a b i) (a.getD i 0) b i (muN (muO a b i) (a.getD i 0) b i)).1
theorem bDx{P v v' o c t q r e w k:Nat}(hs:v'+P*o=v+P*r)(ht:r+k*q=t)(ht2:c+o+e=t)(hv:v+P*c=w):v'+P*k*q=w+P*e:=by
 have h1:P*t=P*r+P*(k*q):=by rw[←ht,BX]
 have h2:P*t=P*c+P*o+P*e:=by rw[←ht2,BX,BX]
 rw[BF]
 omega
theorem aQq{c o x y:Nat}(hc:c<4294967296)(ho:o<4294967296)(hx:x<4294967296)(hy:y<4294967296):c+o+x*y<18446744073709551616:=by
 have:x*y≤4294967295*4294967295:=B9 (by omega) (by omega)
 omega
theorem tL{out b:List Nat}{x i:Nat}(ho:Lim out)(hb:Lim b)(hx:x<4294967296)(hl:i+b.length<out.length)(k:Nat)(hk:k≤b.length+1) :
  (muI out x b i k).1.length=out.length∧(muI out x b i k).2<4294967296∧Lim (muI out x b i k).1∧val (muI out x b i k).1+4294967296^(i+k)*(muI out x b i k).2=val out+4294967296^i*(x*val (b.take k)):=by
 induction k with
 |zero=>exact⟨rfl,Nat.zero_lt_of_lt hx,ho,by simp[muI,val]⟩
 |succ k ih =>
  obtain⟨h1,h2,h3,h4⟩:=ih (by omega)
  have hy:=hb.getD k
  have hoo:=h3.getD (i+k)
  have hset:=aHx (l:=(muI out x b i k).1) (j:=i+k) (by omega) (((muI out x b i k).2+(muI out x b i k).1.getD (i+k) 0+x*b.getD k 0)%4294967296)
  have hlim:=aQq h2 hoo hx hy
  rw[dH]
  simp only[muI]
  generalize(muI out x b i k).1=out' at *
  generalize(muI out x b i k).2=c at *
  generalize out'.getD (i+k) 0=o at *
  generalize b.getD k 0=y at *
  refine⟨by simp[h1],by omega,h3.set _ (by omega),?_⟩
  have:=bDx hset (Nat.mod_add_div _ _) rfl h4
  rw[←DC i k 1,Cf,this,CC,BX,BX,BF,DC]
  congr 2
  rw[Dz x]
theorem aNc{out b:List Nat}{x i:Nat}(ho:Lim out)(hb:Lim b)(hx:x<4294967296)(hl:i+b.length<out.length)(hv:val out<4294967296^(i+b.length)):(muI out x b i (b.length+1)).2=0:=by
 obtain⟨_,_,_,h4⟩:=tL ho hb hx hl (b.length+1) (Az _)
 rw[Ai (by omega)]at h4
 have hbv:=rJ hb
 rcases Ce (muI out x b i (b.length+1)).2 with h|h
 ·exact h
 exfalso
 have e1:4294967296^(i+(b.length+1))*1≤4294967296^(i+(b.length+1))*(muI out x b i (b.length+1)).2:=BE _ h
 have e2:x*val b≤4294967295*4294967296^b.length:=B9 (by omega) (by omega)
 have e3:4294967296^i*(x*val b)≤4294967296^i*(4294967295*4294967296^b.length):=BE _ e2
 have e4:4294967296^i*(4294967295*4294967296^b.length)=4294967295*4294967296^(i+b.length):=by rw[CC,Dz]
 have e5:4294967296^(i+(b.length+1))=4294967296^(i+b.length)*4294967296:=by rw[←DC,Cf]
 rw[CK,e5]at e1
 rw[e5]at h4
 rw[e4]at e3
 generalize 4294967296^(i+b.length)=p at *
 generalize 4294967296^i*(x*val b)=q at *
 generalize(muI out x b i (b.length+1)).2=c at *
 generalize p*4294967296*c=d at *
 omega
theorem bMt{out b:List Nat}{x i:Nat}(ho:Lim out)(hb:Lim b)(hx:x<4294967296)(hl:i+b.length<out.length)(hv:val out<4294967296^(i+b.length)) :
  (muI out x b i (muN out x b i)).1.length=out.length∧Lim (muI out x b i (muN out x b i)).1∧val (muI out x b i (muN out x b i)).1=val out+4294967296^i*(x*val b):=by
 unfold muN
 have hstop:=aNc ho hb hx hl hv
 by_cases h:(muI out x b i b.length).2=0
 ·rw[Ag h]
  obtain⟨h1,_,h3,h4⟩:=tL ho hb hx hl b.length (by omega)
  rw[Ai (by omega),h,CP,BW]at h4
  exact⟨h1,h3,h4⟩
 ·rw[Ae h]
  obtain⟨h1,_,h3,h4⟩:=tL ho hb hx hl (b.length+1) (Az _)
  rw[Ai (by omega),hstop,CP,BW]at h4
  exact⟨h1,h3,h4⟩
theorem aQr{a b:List Nat}(ha:Lim a)(hb:Lim b){i:Nat}(hi:i≤a.length):val (a.take i)*val b<4294967296^(i+b.length):=by
 have h1:=rJ (ha.take i)
 rw[AM,Da hi]at h1
 have h2:=rJ hb
 rw[CC]
 exact Nat.mul_lt_mul'' h1 h2
theorem bMs{a b:List Nat}(ha:Lim a)(hb:Lim b)(i:Nat)(hi:i≤a.length):(muO a b i).length=a.length+b.length+1∧Lim (muO a b i)∧val (muO a b i)=val (a.take i)*val b:=by
 induction i with
 |zero=>exact⟨by simp[muO],.rep _,by simp[muO,zV,val]⟩
 |succ i ih =>
  obtain⟨h1,h2,h3⟩:=ih (by omega)
  have hv:=aQr ha hb (i:=i) (by omega)
  rw[←h3]at hv
  obtain⟨q1,q2,q3⟩:=bMt (x:=a.getD i 0) (i:=i) h2 hb (ha.getD i) (by omega) hv
  refine⟨q1.trans h1,q2,?_⟩
  show val (muI (muO a b i) (a.getD i 0) b i (muN (muO a b i) (a.getD i 0) b i)).1=_
  rw[q3,h3,dH,Bp,BF]
end Go.Am
end

section
set_option linter.unusedVariables false
set_option linter.unusedSimpArgs false
open List (map_map mapM_map)
open Go Go.Am Go.Proofs
namespace Go.Am
set_option maxRecDepth 10000 in
theorem oI(x y:Int)(hx:(aX x.natAbs).length≤137438953472)(hy:(aX y.natAbs).length≤137438953472):Spec Tryz.prog 77 [encZ x,encZ y] (encZ (x*y)):=by
 refine aZ (N:=81) aI Tryz.func77 rfl rfl rfl (by kernel_rfl) (by kernel_rfl) (by simp) ?_
 have la:=cM x.natAbs
 have lb:=cM y.natAbs
 have va:=cY x.natAbs
 have vb:=cY y.natAbs
 have sx:=iN x
 have sy:=iN y
 have ex:encZ x=.ag [.b (decide (x<0)),aN (aX x.natAbs)]:=rfl
 have ey:encZ y=.ag [.b (decide (y<0)),aN (aX y.natAbs)]:=rfl
 rw[ex,ey]
 generalize aX x.natAbs=a at *
 generalize aX y.natAbs=b at *
 generalize hbx:decide (x<0)=nx at *
 generalize hby:decide (y<0)=ny at *
 obtain⟨n,hn⟩:∃ n,a.length+b.length+1=n:=⟨_,rfl⟩
 have hw1:Ah.wrap ((a.length:Int)+b.length)=(a.length:Int)+b.length:=aR (by omega) (by omega)
 have hw2:Ah.wrap ((a.length:Int)+b.length+1)=(n:Int):=by rw[aR (by omega) (by omega)];omega
 have hm1:(4:Int)*n≤281474976710656:=by omega
 have hm2:(n:Int)≤9223372036854775807:=by omega
 have h00:muO a b 0=Ay n 0:=by rw[←hn];rfl
 simp[-map_map,-mapM_map,↓KW,aN,hw1,hw2,hm1,hm2]
 refine aU (fun i:Nat=>i≤a.length)
  (fun i=>StL [(2,.ptr 1 0),(3,.ptr 2 0),(4,.ptr 3 0),(5,.own 4 0 n 1),(6,.d (.i .i64 i))] none
   [.cells 74 [.d (.b nx),.d (aN a)],.cells 74 [.d (.b ny),.d (aN b)],.cells 74 [.d (.b false),.nil],.cells 131 ((lms (muO a b i)).map .d)]) (fun i=>a.length-i) 0 (An _) ?_ ?_
 ·refine aY [1,2,3,4] (by simp) ?_ ?_<;>simp[-map_map,upd,aT,Γ0,aN,h00]
 ·intro i hi
  obtain⟨ol,om,ov⟩:=bMs la lb i hi
  rw[hn]at ol
  by_cases hgo:i<a.length
  ·have q1:(i:Int)<a.length:=by omega
   simp[-map_map,-mapM_map,↓KW,aN,q1]
   have hsucc:muO a b (i+1)=(muI (muO a b i) (a.getD i 0) b i (muN (muO a b i) (a.getD i 0) b i)).1:=rfl
   have g1:=getD_some hgo
   have hlt:=aQr la lb hi
   rw[←ov]at hlt
   generalize hout:muO a b i=out at *
   have hal:=la.getD i
   generalize a.getD i 0=xv at *
   have hwx:AY.wrap (xv:Int)=xv:=bP (by omega) (by omega)
   refine aU (fun k:Nat=>k≤b.length∨(k=b.length+1∧(muI out xv b i b.length).2≠0))
    (fun k=>StL [(2,.ptr 1 0),(3,.ptr 2 0),(4,.ptr 3 0),(5,.own 4 0 n 1),(6,.d (.i .i64 i)),(7,.d (.i .u64 (muI out xv b i k).2)),(8,.d (.i .i64 k))] none
     [.cells 74 [.d (.b nx),.d (aN a)],.cells 74 [.d (.b ny),.d (aN b)],.cells 74 [.d (.b false),.nil],.cells 131 ((lms (muI out xv b i k).1).map .d)]) (fun k=>b.length+1-k) 0 (.inl (An _)) ?_ ?_
   ·refine aY [1,2,3,4] (by simp) ?_ ?_<;>simp[-map_map,upd,aT,Γ0,aN,muI]
   ·intro k hk
    have hkl:k≤b.length+1:=by omega
    obtain⟨il,ic,im,_⟩:=tL om lb hal (i:=i) (by omega) k hkl
    have isucc:muI out xv b i (k+1)=((muI out xv b i k).1.set (i+k) (((muI out xv b i k).2+(muI out xv b i k).1.getD (i+k) 0+xv*b.getD k 0)%4294967296),((muI out xv b i k).2+(muI out xv b i k).1.getD (i+k) 0+xv*b.getD k 0)/4294967296):=rfl
    have hstop0:=aNc om lb hal (i:=i) (by omega) hlt
    have hres:(k<b.length∨0<(muI out xv b i k).2)∨muO a b (i+1)=(muI out xv b i k).1:=by
     rw[hsucc];unfold muN
     rcases hk with hk|⟨hk,hc⟩
     ·by_cases h1:k=b.length
      ·subst h1
       by_cases h2:(muI out xv b i b.length).2=0
       ·rw[Ag h2];exact .inr rfl
       ·exact .inl (.inr (by omega))
      ·exact .inl (.inl (by omega))
     ·rw[Ae hc,hk];exact .inr rfl
    have hnext:(k<b.length∨0<(muI out xv b i k).2)→k≤b.length∧(k+1≤b.length∨(k+1=b.length+1∧(muI out xv b i b.length).2≠0)):=by
     intro h
     rcases hk with hk|⟨hk,hc⟩
     ·refine⟨hk,?_⟩
      by_cases h1:k=b.length
      ·subst h1;exact .inr ⟨rfl,by omega⟩
      ·exact .inl (by omega)
     ·rw[hk,hstop0]at h;omega
    clear hstop0 hsucc
    have ho:=im.getD (i+k)
    generalize hcar:(muI out xv b i k).2=c at *
    generalize hcur:(muI out xv b i k).1=cur at *
    by_cases hg2:k<b.length∨0<c
    ·obtain⟨n1,n2⟩:=hnext hg2
     obtain⟨j,hj⟩:∃ j,i+k=j:=⟨_,rfl⟩
     rw[hj]at isucc ho
     have hjl:j<cur.length:=by omega
     have g2:=aUv (getD_some hjl)
     have hwj:Ah.wrap ((i:Int)+k)=j:=by rw[aR (by omega) (by omega)];omega
     have hjn:(j:Int)<n:=by omega
     have hw8:Ah.wrap ((k:Int)+1)=(k:Int)+1:=aR (by omega) (by omega)
     have hjl2:j<(lms cur).length:=by rw[lY];exact hjl
     have hjl3:j+1≤n:=by omega
     have hyb:=lb.getD k
     have hlim:=aQq ic ho hal hyb
     have hy0:¬k<b.length→b.getD k 0=0:=getD_none
     have g3:k<b.length→b[k]? = some (b.getD k 0):=getD_some
     generalize cur.getD j 0=o at *
     generalize b.getD k 0=yv at *
     obtain⟨s1,hs1⟩:∃ s1:Nat,c+o=s1:=⟨_,rfl⟩
     obtain⟨t,ht⟩:∃ t:Nat,s1+xv*yv=t:=⟨_,rfl⟩
     rw[hs1]at isucc hlim
     rw[ht]at isucc hlim
     obtain⟨lo,hlo⟩:∃ lo:Nat,t%4294967296=lo:=⟨_,rfl⟩
     obtain⟨hi',hhi⟩:∃ hi':Nat,t/4294967296=hi':=⟨_,rfl⟩
     rw[hlo,hhi]at isucc
     have hwo:AY.wrap (o:Int)=o:=bP (by omega) (by omega)
     have hws:AY.wrap ((c:Int)+o)=s1:=by rw[bP (by omega) (by omega)];omega
     have hwlo:BY.wrap (t:Int)=lo:=by rw[iM];omega
     have hwhi:AY.wrap ((t:Int)/4294967296)=hi':=by rw[bP (by omega) (by omega)];omega
     have hlay:lay (BR AV.d (lms cur)) j [AV.d (D.i .u32 (lo:Int))]=BR AV.d (lms (cur.set j lo)):=by
      rw[wR _ _ _ hjl2,wO]
     have hgj:List.length cur=n:=by omega
     by_cases hkb:k<b.length
     ·have q2:(k:Int)<b.length:=by omega
      have g4:=g3 hkb
      have hwy:AY.wrap (yv:Int)=yv:=bP (by omega) (by omega)
      obtain⟨e,he⟩:∃ e:Nat,xv*yv=e:=⟨_,rfl⟩
      rw[he]at ht
      have hwm:AY.wrap ((xv:Int)*yv)=e:=by rw[←ES,he,bP (by omega) (by omega)]
      have hwt:AY.wrap ((s1:Int)+e)=t:=by rw[bP (by omega) (by omega)];omega
      simp[-map_map,-mapM_map,↓KW,aN,q2,hwj,hjn,g2,hwo,hws,g1,g4,hwx,hwy,hwm,hwt,hwlo,hwhi,hlay,hw8,hjl3,hgj]
      refine aJ (k+1) n2 ?_ (aY [1,2,3,4] (by simp) ?_ ?_)
      ·omega
      ·simp[-map_map,upd,aT,Γ0,aN,isucc]
      ·simp[-map_map,upd,aT,Γ0,aN,isucc]
     ·have q2:¬(k:Int)<b.length:=by omega
      have q3:0<c:=by omega
      have e1:t=s1:=by rw[hy0 hkb,CP]at ht;omega
      rw[e1]at hwlo hwhi
      simp[-map_map,-mapM_map,↓KW,aN,q2,q3,hwj,hjn,g2,hwo,hws,hwlo,hwhi,hlay,hw8,hjl3,hgj]
      refine aJ (k+1) n2 ?_ (aY [1,2,3,4] (by simp) ?_ ?_)
      ·omega
      ·simp[-map_map,upd,aT,Γ0,aN,isucc]
      ·simp[-map_map,upd,aT,Γ0,aN,isucc]
    ·have q2:¬(k:Int)<b.length:=by omega
     have q3:¬0<c:=by omega
     have hfin:=hres.resolve_left hg2
     have hw8:Ah.wrap ((i:Int)+1)=(i:Int)+1:=aR (by omega) (by omega)
     simp[-map_map,-mapM_map,↓KW,aN,q2,q3,hw8]
     refine aJ (i+1) hgo ?_ (aY [1,2,3,4] (by simp) ?_ ?_)
     ·omega
     ·simp[-map_map,upd,aT,Γ0,aN,hfin]
     ·simp[-map_map,upd,aT,Γ0,aN,hfin]
  ·have q1:¬(i:Int)<a.length:=by omega
   have e:i=a.length:=by omega
   rw[e,Ai (Az _),va,vb]at ov
   have hm:=fZ (muO a b i) (nx != ny) (by omega)
   rw[dV om,e,ov]at hm
   have e2:sg (nx != ny) (x.natAbs*y.natAbs)=x*y:=by
    rw[←sx,←sy]
    cases nx<;>cases ny<;>simp[sg,DQ,C5]
   rw[e2]at hm
   rw[e]at ol
   have e':muO a b i=muO a b a.length:=by rw[e]
   generalize muO a b a.length=out at *
   simp[-map_map,-mapM_map,↓KW,aN,q1,e']
   refine aA (ds:=[aN out,.b (nx != ny)]) ?_ hm ?_
   ·simp[-map_map,-mapM_map,↓KW,aN,ol,fX ol,dY ol]
    cases nx<;>cases ny<;>rfl
   ·simp[-map_map,-mapM_map,↓KW,aN,encZ,encI,ol,fX ol,dY ol]
end Go.Am
end

section
set_option linter.unusedVariables false
set_option linter.unusedSimpArgs false
open List (map_map mapM_map)
open Go Go.Am Go.Proofs
namespace Go.Am
theorem aKf{n:Nat}(h:n≤9223372036854775807):Ah.wrap (n:Int)=n:=aR (by omega) (by omega)
set_option maxRecDepth 10000 in
theorem oL(m:List Nat)(hl:m.length≤1099511627776):Spec Tryz.prog 89 [aN m] (aN (strip m)):=by
 refine aZ (N:=21) aI Tryz.func89 rfl rfl rfl (by kernel_rfl) (by kernel_rfl) (by simp) ?_
 simp[-map_map,-mapM_map,↓KW,aN]
 refine aU (fun n:Nat=>n≤m.length∧strip (m.take n)=strip m) (fun n=>StL [(0,.d (aN m)),(3,.d (.i .i64 n))] none []) (fun n=>n) m.length ⟨Az _,by simp⟩ ?_ ?_
 ·refine aY [] (by simp) ?_ ?_<;>simp[-map_map,upd,aT,Γ0,aN]
 ·rintro n ⟨hn,hs⟩
  rcases n with _|n
  ·have hs':strip m=[]:=hs.symm
   have h0:gE 1 (m.map fun(x:Nat)=>[D.i .u32 (x:Int)])=true:=rU m _
   simp[-map_map,-mapM_map,↓KW,aN,hs',h0]
  ·have hx:m[n]? = some m[n]:=Aa hn
   have hw:Ah.wrap (n:Int)=n:=aKf (by omega)
   have hp:(0:Int)<(n:Int)+1:=by omega
   have hp2:(0:Int)≤(n:Int)+1:=by omega
   by_cases h0:m[n]=0
   ·simp[-map_map,-mapM_map,↓KW,aN,hx,hw,h0,hp]
    refine aJ n ⟨by omega,(qX hn h0).symm.trans hs⟩ (by omega) (aY [] (by simp) ?_ ?_)<;>simp[-map_map,upd,aT,Γ0,aN]
   ·have h1:((m[n]:Int)==0)=false:=by simp;omega
    have he:strip m=m.take (n+1):=hs.symm.trans (qY hn h0)
    have hn':(n:Int)+1≤m.length:=by omega
    obtain⟨pre,hpre⟩:∃ pre,m.take (n+1)=pre:=⟨_,rfl⟩
    have hp1:∀ f:Nat→List D,(m.map f).take (n+1)=pre.map f:=fun f=>by rw[←hpre,Cc]
    rw[hpre]at he
    simp[-map_map,-mapM_map,↓KW,aN,hx,hw,h1,hp,hp2,he,hn',hp1,rU]
set_option maxRecDepth 10000 in
theorem bFe(neg:Bool)(m:List Nat)(hl:m.length≤1099511627776):Spec Tryz.prog 87 [.b neg,aN m] (encI (neg&&decide (strip m≠[])) (strip m)):=by
 refine aZ (N:=14) aI Tryz.func87 rfl rfl rfl (by kernel_rfl) (by kernel_rfl) (by simp) ?_
 simp[-map_map,-mapM_map,↓KW,aN]
 refine aA (ds:=[aN m]) (by rfl) (oL m hl) ?_
 cases hm:strip m with
 |nil =>
  cases neg<;>simp[-map_map,-mapM_map,↓KW,aN,encI]
 |cons x l =>
  have h1:(((l.length:Int)+1==0):Bool)=false:=by simp;omega
  cases neg<;>simp[-map_map,-mapM_map,↓KW,aN,encI,h1]
theorem nK{m:List Nat}(h:Lim m)(hl:m.length≤1099511627776)(neg:Bool):Spec Tryz.prog 87 [.b neg,aN m] (encZ (sg neg (val m))):=by
 rw[←dV h];exact bFe neg m hl
set_option maxRecDepth 10000 in
theorem aIw(neg:Bool)(m:List Nat)(hl:m.length≤1099511627776):Spec Tryz.prog 52 [encI neg m] (.i .i64 (if strip m=[]then 0 else if neg then -1 else 1)):=by
 refine aZ (N:=12) aI Tryz.func52 rfl rfl rfl (by kernel_rfl) (by kernel_rfl) (by simp) ?_
 simp[-map_map,-mapM_map,↓KW,encI,aN]
 refine aA (ds:=[aN m]) (by rfl) (oL m hl) ?_
 cases hm:strip m with
 |nil=>simp[-map_map,-mapM_map,↓KW,aN,encI]
 |cons x l =>
  have h1:(((l.length:Int)+1==0):Bool)=false:=by simp;omega
  cases neg<;>simp[-map_map,-mapM_map,↓KW,aN,encI,h1]
set_option maxRecDepth 10000 in
theorem bWe(x:Int):Spec Tryz.prog 94 [.i .i64 x] (.b false):=by
 refine aZ (N:=6) aI Tryz.func94 rfl rfl rfl (by kernel_rfl) (by kernel_rfl) (by simp) ?_
 simp[-map_map,-mapM_map,↓KW]
set_option maxRecDepth 10000 in
theorem bWd(x:Int):Spec Tryz.prog 143 [.i .u32 x] (.b false):=by
 refine aZ (N:=6) aI Tryz.func143 rfl rfl rfl (by kernel_rfl) (by kernel_rfl) (by simp) ?_
 simp[-map_map,-mapM_map,↓KW]
def lE(x y:Int):Int:=if x<y then -1 else if y<x then 1 else 0
set_option maxRecDepth 10000 in
theorem aRs(x y:Int):Spec Tryz.prog 56 [.i .i64 x,.i .i64 y] (.i .i64 (lE x y)):=by
 refine aZ (N:=20) aI Tryz.func56 rfl rfl rfl (by kernel_rfl) (by kernel_rfl) (by simp) ?_
 simp[-map_map,-mapM_map,↓KW]
 refine aA (ds:=[.i .i64 x]) (by rfl) (bWe x) ?_
 simp[-map_map,-mapM_map,↓KW]
 refine aA (ds:=[.i .i64 y]) (by rfl) (bWe y) ?_
 by_cases h1:x<y
 ·simp[-map_map,-mapM_map,↓KW,h1,lE]
 ·by_cases h2:y<x<;>simp[-map_map,-mapM_map,↓KW,h1,h2,lE]
set_option maxRecDepth 10000 in
theorem cAu(x y:Int):Spec Tryz.prog 123 [.i .u32 x,.i .u32 y] (.i .i64 (lE x y)):=by
 refine aZ (N:=20) aI Tryz.func123 rfl rfl rfl (by kernel_rfl) (by kernel_rfl) (by simp) ?_
 simp[-map_map,-mapM_map,↓KW]
 refine aA (ds:=[.i .u32 x]) (by rfl) (bWd x) ?_
 simp[-map_map,-mapM_map,↓KW]
 refine aA (ds:=[.i .u32 y]) (by rfl) (bWd y) ?_
 by_cases h1:x<y
 ·simp[-map_map,-mapM_map,↓KW,h1,lE]
 ·by_cases h2:y<x<;>simp[-map_map,-mapM_map,↓KW,h1,h2,lE]
def pX(a b:List Nat):Int:=if pN a b then -1 else if pN b a then 1 else 0
set_option maxRecDepth 10000 in
theorem aCm(a b:List Nat)(ha:Lim a)(hb:Lim b)(hla:a.length≤1099511627776)(hlb:b.length≤1099511627776):Spec Tryz.prog 96 [aN a,aN b] (.i .i64 (pX a b)):=by
 refine aZ (N:=35) aI Tryz.func96 rfl rfl rfl (by kernel_rfl) (by kernel_rfl) (by simp) ?_
 simp[-map_map,-mapM_map,↓KW,aN]
 refine aA (ds:=[.i .i64 a.length,.i .i64 b.length]) (by rfl) (aRs _ _) ?_
 by_cases hn:a.length=b.length
 rotate_left
 ·rcases Nat.lt_or_gt_of_ne hn with h|h
  ·have h1:lE a.length b.length=-1:=by unfold lE;rw[Ag (by omega)]
   have h2:pX a b=-1:=by simp[pX,pN,hn,h]
   simp[-map_map,-mapM_map,↓KW,aN,h1,h2]
  ·have h1:lE a.length b.length=1:=by unfold lE;rw[Ae (by omega),Ag (by omega)]
   have h2:pX a b=1:=by
    have h3:¬a.length<b.length:=by omega
    have h4:¬b.length=a.length:=fun e=>hn e.symm
    simp[pX,pN,hn,h,h3,h4]
   simp[-map_map,-mapM_map,↓KW,aN,h1,h2]
 ·have h1:lE a.length b.length=0:=by simp[lE,hn]
  have hw:Ah.wrap ((a.length:Int)-1)=(a.length:Int)-1:=aR (by omega) (by omega)
  simp[-map_map,-mapM_map,↓KW,aN,h1,hw]
  refine aU (fun k:Nat=>k≤a.length∧a.drop k=b.drop k) (fun k=>StL [(0,.d (aN a)),(1,.d (aN b)),(6,.d (.i .i64 ((k:Int)-1)))] none []) (fun k=>k) a.length ⟨Az _,by rw[Bo (Az _),Bo (by omega)]⟩ ?_ ?_
  ·refine aY [] (by simp) ?_ ?_<;>simp[-map_map,upd,aT,Γ0,aN]
  ·rintro k ⟨hk,hd⟩
   rcases k with _|k
   ·have e:a=b:=by simpa using hd
    subst e
    simp[-map_map,-mapM_map,↓KW,aN,pN,pX]
   ·have hkb:k<b.length:=by omega
    have hxa:a[k]? = some a[k]:=Aa hk
    have hxb:b[k]? = some b[k]:=Aa hkb
    have hw2:Ah.wrap ((k:Int)-1)=(k:Int)-1:=aR (by omega) (by omega)
    have hp:(0:Int)≤k:=by omega
    simp[-map_map,-mapM_map,↓KW,aN,hxa,hxb,hp]
    refine aA (ds:=[.i .u32 a[k],.i .u32 b[k]]) (by rfl) (cAu _ _) ?_
    by_cases he:a[k]=b[k]
    ·have h2:lE a[k] b[k]=0:=by simp[lE,he]
     simp[-map_map,-mapM_map,↓KW,aN,h2,hw2]
     refine aJ k ⟨by omega,?_⟩ (by omega) (aY [] (by simp) ?_ ?_)
     ·rw[A2 hk,A2 hkb,he,hd]
     ·simp[-map_map,upd,aT,Γ0,aN]
     ·trivial
    ·have ga:a.getD k 0=a[k]:=by rw[Ac,hxa];rfl
     have gb:b.getD k 0=b[k]:=by rw[Ac,hxb];rfl
     rcases Bc a[k] b[k]with hlt|hge
     ·have h3:=sX ha (i:=k) hn hk hd (by rw[ga,gb];exact hlt)
      have h4:lE a[k] b[k]=-1:=by unfold lE;rw[Ag (by omega)]
      have h5:pX a b=-1:=by simp[pX,pN,hn,h3]
      simp[-map_map,-mapM_map,↓KW,aN,h4,h5]
     ·have h3:=sX hb (i:=k) hn.symm hkb hd.symm (by rw[ga,gb];omega)
      have h4:lE a[k] b[k]=1:=by unfold lE;rw[Ae (by omega),Ag (by omega)]
      have h6:¬val a<val b:=by omega
      have h5:pX a b=1:=by simp[pX,pN,hn,h3,h6]
      simp[-map_map,-mapM_map,↓KW,aN,h4,h5]
end Go.Am
end

section
set_option linter.unusedVariables false
set_option linter.unusedSimpArgs false
open List (map_map mapM_map)
open Go Go.Am Go.Proofs
namespace Go.Am
def zp(out:List Nat)(n:Nat):List Nat:=out++Ay (n-out.length) 0
theorem aHn{out:List Nat}{n:Nat}(h:out.length≤n):(zp out n).length=n:=by simp[zp];omega
theorem aHo{out:List Nat}{n:Nat}(h:out.length=n):zp out n=out:=by subst h;simp[zp]
theorem aPe(n:Nat):zp [] n=Ay n 0:=by simp[zp]
theorem bRi{out:List Nat}{n i:Nat}(h:out.length=i)(hi:i<n)(v:Nat):(zp out n).set i v=zp (out++[v]) n:=by
 subst h
 unfold zp
 obtain⟨k,hk⟩:∃ k,n-out.length=k+1:=⟨n-out.length-1,by omega⟩
 rw[hk,List.set_append_right _ _ (Az _),Cq,Dh,Es,Al,Ar,show n-(out.length+1)=k from by omega,AZ]
 rfl
theorem aAp{out:List Nat}{n i:Nat}(h:out.length=i)(hi:i<n)(v:Nat):lay (BR AV.d (lms (zp out n))) i [AV.d (D.i .u32 (v:Int))]=BR AV.d (lms (zp (out++[v]) n)):=by
 rw[wR _ _ _ (by rw[lY,aHn (by omega)];exact hi),wO,bRi h hi]
theorem bBm{t:Nat}:kA .shr .u64 (t:Int) 32=some (.i .u64 ((t/4294967296:Nat):Int)):=by
 simp only[kA,C4]
 rw[Ae (by decide)]
 congr 2
 rw[show(2:Int)^(min (32:Int).toNat 64)=4294967296 from by decide,CQ _ (by decide)]
 omega
theorem bQj{t:Int}(_h0:0≤t):kA .shr .u64 t 63=some (.i .u64 (t/9223372036854775808)):=by
 simp only[kA,C4]
 rw[Ae (by decide)]
 congr 2
 rw[show(2:Int)^(min (63:Int).toNat 64)=9223372036854775808 from by decide,CQ _ (by decide)]
def ip(p q:List Nat):List Nat:=(plS p q p.length).1++[(plS p q p.length).2]
theorem bFd{p q:List Nat}(lp:Lim p)(lq:Lim q)(h:q.length≤p.length):val (ip p q)=val p+val q∧Lim (ip p q)∧(ip p q).length=p.length+1:=by
 obtain⟨h1,h2,h3,h4⟩:=mY lp lq p.length
 rw[Ai (Az _),Ai h]at h4
 unfold ip
 refine⟨?_,h3.app (.one (by omega)),by simp[h1]⟩
 rw[mR,h1]
 simp only[val,CP,BW]
 exact h4
def qL(a b:List Nat):List Nat:=if a.length<b.length then ip b a else ip a b
theorem aQz{a b:List Nat}(ha:Lim a)(hb:Lim b):val (qL a b)=val a+val b∧Lim (qL a b)∧(qL a b).length≤a.length+b.length+1:=by
 unfold qL
 by_cases h:a.length<b.length
 ·rw[Ag h]
  obtain⟨h1,h2,h3⟩:=bFd hb ha (by omega)
  exact⟨by omega,h2,by omega⟩
 ·rw[Ae h]
  obtain⟨h1,h2,h3⟩:=bFd ha hb (by omega)
  exact⟨h1,h2,by omega⟩
set_option maxRecDepth 10000 in
theorem bNo(a b:List Nat)(ha:Lim a)(hb:Lim b)(hla:a.length≤274877906944)(hlb:b.length≤274877906944):Spec Tryz.prog 124 [aN a,aN b] (aN (qL a b)):=by
 refine aZ (N:=57) aI Tryz.func124 rfl rfl rfl (by kernel_rfl) (by kernel_rfl) (by simp) ?_
 obtain⟨p,q,lp,lq,hqp,hpl,hr,hc⟩:∃ p q:List Nat,Lim p∧Lim q∧q.length≤p.length∧p.length≤274877906944∧qL a b=ip p q∧((a.length<b.length∧p=b∧q=a)∨(¬a.length<b.length∧p=a∧q=b)):=by
  by_cases h:a.length<b.length
  ·exact⟨b,a,hb,ha,by omega,hlb,by simp[qL,h],.inl ⟨h,rfl,rfl⟩⟩
  ·exact⟨a,b,ha,hb,by omega,hla,by simp[qL,h],.inr ⟨h,rfl,rfl⟩⟩
 rw[hr]
 obtain⟨n,hn⟩:∃ n,p.length+1=n:=⟨_,rfl⟩
 have hw2:Ah.wrap ((p.length:Int)+1)=(n:Int):=by rw[aR (by omega) (by omega)];omega
 have hm1:(4:Int)*n≤281474976710656:=by omega
 have hm2:(n:Int)≤9223372036854775807:=by omega
 rcases hc with ⟨h,hp,hq⟩|⟨h,hp,hq⟩<;>subst hp<;>subst hq
 ·have h1:(q.length:Int)<p.length:=by omega
  simp[-map_map,-mapM_map,↓KW,aN,h1,hw2,hm1,hm2]
  refine aU (fun i:Nat=>i≤p.length) (fun i=>StL [(0,.d (aN p)),(1,.d (aN q)),(5,.own 1 0 n 1),(6,.d (.i .u64 (plS p q i).2)),(20,.d (.i .i64 p.length)),(21,.d (.i .i64 i))] none [.cells 131 ((lms (zp (plS p q i).1 n)).map .d)]) (fun i=>p.length-i) 0 (An _) ?_ ?_
  ·refine aY [1] (by simp) ?_ ?_<;>simp[-map_map,upd,aT,Γ0,aN,plS,aPe]
  ·intro i hi
   obtain⟨hlen,hc,_,_⟩:=mY lp lq i
   have hsucc:plS p q (i+1)=((plS p q i).1++[((plS p q i).2+p.getD i 0+q.getD i 0)%4294967296],((plS p q i).2+p.getD i 0+q.getD i 0)/4294967296):=rfl
   have hal:=lp.getD i
   have hbl:=lq.getD i
   have hres:i=p.length→(plS p q i).1++[(plS p q i).2]=ip p q:=fun e=>by rw[e];rfl
   generalize hout:(plS p q i).1=out at *
   generalize hcar:(plS p q i).2=c at *
   have hzl:(zp out n).length=n:=aHn (by omega)
   by_cases hgo:i<p.length
   ·have hw7:Ah.wrap ((i:Int)+1)=(i:Int)+1:=aR (by omega) (by omega)
    have q1:(i:Int)<p.length:=by omega
    have q3:(i:Int)<n:=by omega
    have q4:i+1≤n:=by omega
    have g1:=getD_some hgo
    have hb0:¬i<q.length→q.getD i 0=0:=getD_none
    have g2:i<q.length→q[i]? = some (q.getD i 0):=getD_some
    generalize p.getD i 0=x at *
    generalize q.getD i 0=y at *
    obtain⟨s1,hs1⟩:∃ s1:Nat,c+x=s1:=⟨_,rfl⟩
    obtain⟨s2,hs2⟩:∃ s2:Nat,s1+y=s2:=⟨_,rfl⟩
    rw[hs1,hs2]at hsucc
    have hwx:AY.wrap (x:Int)=x:=bP (by omega) (by omega)
    have hwy:AY.wrap (y:Int)=y:=bP (by omega) (by omega)
    have hw1:AY.wrap ((c:Int)+x)=s1:=by rw[bP (by omega) (by omega)];omega
    have hw2':AY.wrap ((s1:Int)+y)=s2:=by rw[bP (by omega) (by omega)];omega
    obtain⟨lo,hlo⟩:∃ lo:Nat,s2%4294967296=lo:=⟨_,rfl⟩
    have hsh:=bBm (t:=s2)
    obtain⟨hi',hhi⟩:∃ hi':Nat,s2/4294967296=hi':=⟨_,rfl⟩
    rw[hhi]at hsh
    have hw3:BY.wrap (s2:Int)=lo:=by rw[iM];omega
    rw[hlo,hhi]at hsucc
    have hlay:=aAp hlen (show i<n by omega) lo
    by_cases hbn:i<q.length
    ·have q2:(i:Int)<q.length:=by omega
     have g3:=g2 hbn
     simp[-map_map,-mapM_map,↓KW,aN,q1,q2,q3,q4,g1,g3,hwx,hwy,hw1,hw2',hw3,hsh,hlay,hw7,hzl]
     refine aJ (i+1) hgo ?_ (aY [1] (by simp) ?_ ?_)
     ·omega
     ·simp[-map_map,upd,aT,Γ0,aN,hsucc]
     ·simp[-map_map,upd,aT,Γ0,aN,hsucc]
    ·have q2:¬(i:Int)<q.length:=by omega
     have e2:s2=s1:=by have:=hb0 hbn;omega
     rw[e2]at hw3 hsh
     simp[-map_map,-mapM_map,↓KW,aN,q1,q2,q3,q4,g1,hwx,hw1,hw3,hsh,hlay,hw7,hzl]
     refine aJ (i+1) hgo ?_ (aY [1] (by simp) ?_ ?_)
     ·omega
     ·simp[-map_map,upd,aT,Γ0,aN,hsucc]
     ·simp[-map_map,upd,aT,Γ0,aN,hsucc]
   ·have e:i=p.length:=by omega
    have h1:¬(i:Int)<p.length:=by omega
    have h4:=hres e
    have hn':(p.length:Int)<n:=by omega
    have hn2:p.length+1≤n:=by omega
    have hw3:BY.wrap (c:Int)=c:=jS (by omega) (by omega)
    have hlay:=aAp (hlen.trans e) (show p.length<n by omega) c
    have hfl:(out++[c]).length=n:=by simp;omega
    have h5:zp (out++[c]) n=out++[c]:=aHo hfl
    rw[h5,h4]at hlay
    rw[h4]at hfl
    simp[-map_map,-mapM_map,↓KW,aN,h1,hn',hn2,hw3,hlay,hzl,hfl,fX hfl,dY hfl]
 ·have h1:¬(p.length:Int)<q.length:=by omega
  simp[-map_map,-mapM_map,↓KW,aN,h1,hw2,hm1,hm2]
  refine aU (fun i:Nat=>i≤p.length) (fun i=>StL [(0,.d (aN p)),(1,.d (aN q)),(5,.own 1 0 n 1),(6,.d (.i .u64 (plS p q i).2)),(20,.d (.i .i64 p.length)),(21,.d (.i .i64 i))] none [.cells 131 ((lms (zp (plS p q i).1 n)).map .d)]) (fun i=>p.length-i) 0 (An _) ?_ ?_
  ·refine aY [1] (by simp) ?_ ?_<;>simp[-map_map,upd,aT,Γ0,aN,plS,aPe]
  ·intro i hi
   obtain⟨hlen,hc,_,_⟩:=mY lp lq i
   have hsucc:plS p q (i+1)=((plS p q i).1++[((plS p q i).2+p.getD i 0+q.getD i 0)%4294967296],((plS p q i).2+p.getD i 0+q.getD i 0)/4294967296):=rfl
   have hal:=lp.getD i
   have hbl:=lq.getD i
   have hres:i=p.length→(plS p q i).1++[(plS p q i).2]=ip p q:=fun e=>by rw[e];rfl
   generalize hout:(plS p q i).1=out at *
   generalize hcar:(plS p q i).2=c at *
   have hzl:(zp out n).length=n:=aHn (by omega)
   by_cases hgo:i<p.length
   ·have hw7:Ah.wrap ((i:Int)+1)=(i:Int)+1:=aR (by omega) (by omega)
    have q1:(i:Int)<p.length:=by omega
    have q3:(i:Int)<n:=by omega
    have q4:i+1≤n:=by omega
    have g1:=getD_some hgo
    have hb0:¬i<q.length→q.getD i 0=0:=getD_none
    have g2:i<q.length→q[i]? = some (q.getD i 0):=getD_some
    generalize p.getD i 0=x at *
    generalize q.getD i 0=y at *
    obtain⟨s1,hs1⟩:∃ s1:Nat,c+x=s1:=⟨_,rfl⟩
    obtain⟨s2,hs2⟩:∃ s2:Nat,s1+y=s2:=⟨_,rfl⟩
    rw[hs1,hs2]at hsucc
    have hwx:AY.wrap (x:Int)=x:=bP (by omega) (by omega)
    have hwy:AY.wrap (y:Int)=y:=bP (by omega) (by omega)
    have hw1:AY.wrap ((c:Int)+x)=s1:=by rw[bP (by omega) (by omega)];omega
    have hw2':AY.wrap ((s1:Int)+y)=s2:=by rw[bP (by omega) (by omega)];omega
    obtain⟨lo,hlo⟩:∃ lo:Nat,s2%4294967296=lo:=⟨_,rfl⟩
    have hsh:=bBm (t:=s2)
    obtain⟨hi',hhi⟩:∃ hi':Nat,s2/4294967296=hi':=⟨_,rfl⟩
    rw[hhi]at hsh
    have hw3:BY.wrap (s2:Int)=lo:=by rw[iM];omega
    rw[hlo,hhi]at hsucc
    have hlay:=aAp hlen (show i<n by omega) lo
    by_cases hbn:i<q.length
    ·have q2:(i:Int)<q.length:=by omega
     have g3:=g2 hbn
     simp[-map_map,-mapM_map,↓KW,aN,q1,q2,q3,q4,g1,g3,hwx,hwy,hw1,hw2',hw3,hsh,hlay,hw7,hzl]
     refine aJ (i+1) hgo ?_ (aY [1] (by simp) ?_ ?_)
     ·omega
     ·simp[-map_map,upd,aT,Γ0,aN,hsucc]
     ·simp[-map_map,upd,aT,Γ0,aN,hsucc]
    ·have q2:¬(i:Int)<q.length:=by omega
     have e2:s2=s1:=by have:=hb0 hbn;omega
     rw[e2]at hw3 hsh
     simp[-map_map,-mapM_map,↓KW,aN,q1,q2,q3,q4,g1,hwx,hw1,hw3,hsh,hlay,hw7,hzl]
     refine aJ (i+1) hgo ?_ (aY [1] (by simp) ?_ ?_)
     ·omega
     ·simp[-map_map,upd,aT,Γ0,aN,hsucc]
     ·simp[-map_map,upd,aT,Γ0,aN,hsucc]
   ·have e:i=p.length:=by omega
    have h1:¬(i:Int)<p.length:=by omega
    have h4:=hres e
    have hn':(p.length:Int)<n:=by omega
    have hn2:p.length+1≤n:=by omega
    have hw3:BY.wrap (c:Int)=c:=jS (by omega) (by omega)
    have hlay:=aAp (hlen.trans e) (show p.length<n by omega) c
    have hfl:(out++[c]).length=n:=by simp;omega
    have h5:zp (out++[c]) n=out++[c]:=aHo hfl
    rw[h5,h4]at hlay
    rw[h4]at hfl
    simp[-map_map,-mapM_map,↓KW,aN,h1,hn',hn2,hw3,hlay,hzl,hfl,fX hfl,dY hfl]
set_option maxRecDepth 10000 in
theorem aNl(a b:List Nat)(ha:Lim a)(hb:Lim b)(hla:a.length≤274877906944):Spec Tryz.prog 125 [aN a,aN b] (aN (kX a b)):=by
 refine aZ (N:=44) aI Tryz.func125 rfl rfl rfl (by kernel_rfl) (by kernel_rfl) (by simp) ?_
 obtain⟨n,hn⟩:∃ n,a.length=n:=⟨_,rfl⟩
 have hm1:(4:Int)*n≤281474976710656:=by omega
 have hm2:(n:Int)≤9223372036854775807:=by omega
 simp[-map_map,-mapM_map,↓KW,aN,hn,hm1,hm2]
 refine aU (fun i:Nat=>i≤n) (fun i=>StL [(0,.d (aN a)),(1,.d (aN b)),(5,.own 1 0 n 1),(6,.d (.i .u64 (miS a b i).2)),(13,.d (.i .i64 n)),(14,.d (.i .i64 i))] none [.cells 131 ((lms (zp (miS a b i).1 n)).map .d)]) (fun i=>n-i) 0 (An _) ?_ ?_
 ·refine aY [1] (by simp) ?_ ?_<;>simp[-map_map,upd,aT,Γ0,aN,miS,aPe,hn]
 ·intro i hi
  obtain⟨hlen,hc,_,_⟩:=aIu ha hb i
  have hsucc:=aNe a b i
  have hal:=ha.getD i
  have hbl:=hb.getD i
  have hres:i=n→(miS a b i).1=kX a b:=fun e=>by rw[e,←hn];rfl
  generalize hout:(miS a b i).1=out at *
  generalize hcar:(miS a b i).2=c at *
  have hzl:(zp out n).length=n:=aHn (by omega)
  by_cases hgo:i<n
  ·have hw7:Ah.wrap ((i:Int)+1)=(i:Int)+1:=aR (by omega) (by omega)
   have q1:(i:Int)<n:=by omega
   have q4:i+1≤n:=hgo
   have g1:=getD_some (l:=a) (i:=i) (by omega)
   have hb0:¬i<b.length→b.getD i 0=0:=getD_none
   have g2:i<b.length→b[i]? = some (b.getD i 0):=getD_some
   generalize a.getD i 0=x at *
   generalize b.getD i 0=y at *
   have hwx:AY.wrap (x:Int)=x:=bP (by omega) (by omega)
   have hwy:AY.wrap (y:Int)=y:=bP (by omega) (by omega)
   obtain⟨d1,hd1⟩:∃ d1:Int,AY.wrap ((x:Int)-c)=d1:=⟨_,rfl⟩
   obtain⟨d,hd⟩:∃ d:Int,AY.wrap (d1-y)=d:=⟨_,rfl⟩
   have hd1':=hd1
   have hd':=hd
   rw[xW]at hd1' hd'
   have hfin:∃(lo bw:Nat),miS a b (i+1)=(out++[lo],bw)∧BY.wrap d=lo∧kA .shr .u64 d 63=some (.i .u64 (bw:Int)):=by
    by_cases hle:c+y≤x
    ·rw[Ag hle]at hsucc
     refine⟨_,_,hsucc,?_,?_⟩
     ·rw[iM];omega
     ·rw[bQj (by omega)];congr 2;omega
    ·rw[Ae hle]at hsucc
     refine⟨_,_,hsucc,?_,?_⟩
     ·rw[iM];omega
     ·rw[bQj (by omega)];congr 2;omega
   obtain⟨lo,bw,hs,hlo,hbw⟩:=hfin
   have hlay:=aAp hlen hgo lo
   by_cases hbn:i<b.length
   ·have q2:(i:Int)<b.length:=by omega
    have g3:=g2 hbn
    simp[-map_map,-mapM_map,↓KW,aN,q1,q2,g1,g3,hwx,hwy,hd1,hd,hlo,hbw,hlay,hw7,hzl,q4]
    refine aJ (i+1) hgo ?_ (aY [1] (by simp) ?_ ?_)
    ·omega
    ·simp[-map_map,upd,aT,Γ0,aN,hs]
    ·simp[-map_map,upd,aT,Γ0,aN,hs]
   ·have q2:¬(i:Int)<b.length:=by omega
    have e1:d1=d:=by have:=hb0 hbn;omega
    rw[e1]at hd1
    simp[-map_map,-mapM_map,↓KW,aN,q1,q2,g1,hwx,hd1,hlo,hbw,hlay,hw7,hzl,q4]
    refine aJ (i+1) hgo ?_ (aY [1] (by simp) ?_ ?_)
    ·omega
    ·simp[-map_map,upd,aT,Γ0,aN,hs]
    ·simp[-map_map,upd,aT,Γ0,aN,hs]
  ·have e:i=n:=by omega
   have h1:¬(i:Int)<n:=by omega
   have h4:=hres e
   have h5:zp out n=out:=aHo (by omega)
   have hlen':out.length=n:=by omega
   simp[-map_map,-mapM_map,↓KW,aN,h1,h5,hlen',fX hlen',dY hlen',←h4]
end Go.Am
end

section
set_option linter.unusedVariables false
set_option linter.unusedSimpArgs false
open List (map_map mapM_map)
open Go Go.Am Go.Proofs
namespace Go.Am
theorem bRm(l:List Nat)(j:Nat):4294967296^j*l.getD j 0≤val l:=by
 have h:=dH l j
 have e:val l=val (l.take (j+1))+4294967296^(l.take (j+1)).length*val (l.drop (j+1)):=by rw[←mR,List.take_append_drop]
 have h2:val (l.take (j+1))≤val l:=by rw[e];exact Nat.le_add_right _ _
 rw[h]at h2
 exact Ap (Nat.le_add_left _ _) h2
theorem zP{l:List Nat}{j:Nat}(h:val l<4294967296^j):l.getD j 0=0:=by
 have h1:=bRm l j
 rcases Ce (l.getD j 0)with h2|h2
 ·exact h2
 ·exfalso
  have:4294967296^j*1≤4294967296^j*l.getD j 0:=BE _ h2
  rw[CK]at this
  omega
theorem aYf{out b:List Nat}{x i:Nat}(k j:Nat)(h:i+k≤j):(muI out x b i k).1.getD j 0=out.getD j 0:=by
 induction k with
 |zero=>rfl
 |succ k ih =>
  have:=ih (by omega)
  rw[←this]
  simp only[muI,Ac]
  rw[EO (by omega)]
def tmO(a b:List Nat):Nat→List Nat
 |0=>Ay (a.length+b.length) 0
 |i+1=>(muI (tmO a b i) (a.getD i 0) b i b.length).1.set (i+b.length) (muI (tmO a b i) (a.getD i 0) b i b.length).2
theorem aTi{a b:List Nat}(ha:Lim a)(hb:Lim b)(i:Nat)(hi:i≤a.length):(tmO a b i).length=a.length+b.length∧Lim (tmO a b i)∧val (tmO a b i)=val (a.take i)*val b:=by
 induction i with
 |zero=>exact⟨by simp[tmO],.rep _,by simp[tmO,zV,val]⟩
 |succ i ih =>
  obtain⟨h1,h2,h3⟩:=ih (by omega)
  have hv:=aQr ha hb (i:=i) (by omega)
  rw[←h3]at hv
  have hx:=ha.getD i
  obtain⟨q1,q2,q3,q4⟩:=tL (x:=a.getD i 0) (i:=i) h2 hb hx (by omega) b.length (by omega)
  have habove:=aYf (out:=tmO a b i) (b:=b) (x:=a.getD i 0) (i:=i) b.length (i+b.length) (Az _)
  rw[zP hv]at habove
  rw[Ai (Az _)]at q4
  have hset:=aHx (l:=(muI (tmO a b i) (a.getD i 0) b i b.length).1) (j:=i+b.length) (by omega) (muI (tmO a b i) (a.getD i 0) b i b.length).2
  rw[habove,CP,BW,q4]at hset
  refine⟨?_,q3.set _ q2,?_⟩
  ·show(List.set _ _ _).length=_
   rw[Er,q1,h1]
  ·show val (List.set _ _ _)=_
   rw[hset,h3,dH,Bp,BF]
def xZ(a b:List Nat):List Nat:=tmO a b a.length
theorem aPl{a b:List Nat}(ha:Lim a)(hb:Lim b):val (xZ a b)=val a*val b∧Lim (xZ a b)∧(xZ a b).length=a.length+b.length:=by
 obtain⟨h1,h2,h3⟩:=aTi ha hb a.length (Az _)
 rw[Ai (Az _)]at h3
 exact⟨h3,h2,h1⟩
set_option maxHeartbeats 1000000 in
set_option maxRecDepth 10000 in
theorem bFf(a b:List Nat)(la:Lim a)(lb:Lim b)(hla:a.length≤137438953472)(hlb:b.length≤137438953472):Spec Tryz.prog 88 [aN a,aN b] (aN (xZ a b)):=by
 refine aZ (N:=66) aI Tryz.func88 rfl rfl rfl (by kernel_rfl) (by kernel_rfl) (by simp) ?_
 obtain⟨n,hn⟩:∃ n,a.length+b.length=n:=⟨_,rfl⟩
 have hw1:Ah.wrap ((a.length:Int)+b.length)=(n:Int):=by rw[aR (by omega) (by omega)];omega
 have hm1:(4:Int)*n≤281474976710656:=by omega
 have hm2:(n:Int)≤9223372036854775807:=by omega
 have h00:tmO a b 0=Ay n 0:=by rw[←hn];rfl
 simp[-map_map,-mapM_map,↓KW,aN,hw1,hm1,hm2]
 refine aU (fun i:Nat=>i≤a.length)
  (fun i=>StL [(0,.d (aN a)),(1,.d (aN b)),(5,.own 1 0 n 1),(17,.d (aN a)),(18,.d (.i .i64 a.length)),(19,.d (.i .i64 i))] none [.cells 131 ((lms (tmO a b i)).map .d)]) (fun i=>a.length-i) 0 (An _) ?_ ?_
 ·refine aY [1] (by simp) ?_ ?_<;>simp[-map_map,upd,aT,Γ0,aN,h00]
 ·intro i hi
  obtain⟨ol,om,ov⟩:=aTi la lb i hi
  rw[hn]at ol
  by_cases hgo:i<a.length
  ·have q1:(i:Int)<a.length:=by omega
   have g1:=getD_some hgo
   have hsucc:tmO a b (i+1)=(muI (tmO a b i) (a.getD i 0) b i b.length).1.set (i+b.length) (muI (tmO a b i) (a.getD i 0) b i b.length).2:=rfl
   have hal:=la.getD i
   generalize hout:tmO a b i=out at *
   generalize a.getD i 0=xv at *
   simp[-map_map,-mapM_map,↓KW,aN,q1,g1]
   have hwx:AY.wrap (xv:Int)=xv:=bP (by omega) (by omega)
   refine aU (fun k:Nat=>k≤b.length)
    (fun k=>StL [(0,.d (aN a)),(1,.d (aN b)),(5,.own 1 0 n 1),(17,.d (aN a)),(18,.d (.i .i64 a.length)),(19,.d (.i .i64 i)),(6,.d (.i .i64 i)),(7,.d (.i .u32 xv)),(8,.d (.i .u64 (muI out xv b i k).2)),(24,.d (aN b)),(25,.d (.i .i64 b.length)),(26,.d (.i .i64 k))] none
     [.cells 131 ((lms (muI out xv b i k).1).map .d)]) (fun k=>b.length-k) 0 (An _) ?_ ?_
   ·refine aY [1] (by simp) ?_ ?_<;>simp[-map_map,upd,aT,Γ0,aN,muI]
   ·intro k hk
    obtain⟨il,ic,im,_⟩:=tL om lb hal (i:=i) (by omega) k (by omega)
    have isucc:muI out xv b i (k+1)=((muI out xv b i k).1.set (i+k) (((muI out xv b i k).2+(muI out xv b i k).1.getD (i+k) 0+xv*b.getD k 0)%4294967296),((muI out xv b i k).2+(muI out xv b i k).1.getD (i+k) 0+xv*b.getD k 0)/4294967296):=rfl
    have hres:k=b.length→tmO a b (i+1)=(muI out xv b i k).1.set (i+b.length) (muI out xv b i k).2:=fun e=>by rw[e];exact hsucc
    clear hsucc
    have ho:=im.getD (i+k)
    generalize hcar:(muI out xv b i k).2=c at *
    generalize hcur:(muI out xv b i k).1=cur at *
    have hgj:List.length cur=n:=by omega
    by_cases hkb:k<b.length
    ·obtain⟨j,hj⟩:∃ j,i+k=j:=⟨_,rfl⟩
     rw[hj]at isucc ho
     have hjl:j<cur.length:=by omega
     have g2:=aUv (getD_some hjl)
     have hwj:Ah.wrap ((i:Int)+k)=j:=by rw[aR (by omega) (by omega)];omega
     have hjn:(j:Int)<n:=by omega
     have hw8:Ah.wrap ((k:Int)+1)=(k:Int)+1:=aR (by omega) (by omega)
     have hjl2:j<(lms cur).length:=by rw[lY];exact hjl
     have hjl3:j+1≤n:=by omega
     have hyb:=lb.getD k
     have hlim:=aQq ic ho hal hyb
     have g4:=getD_some hkb
     have q2:(k:Int)<b.length:=by omega
     generalize cur.getD j 0=o at *
     generalize b.getD k 0=yv at *
     obtain⟨e,he⟩:∃ e:Nat,xv*yv=e:=⟨_,rfl⟩
     rw[he]at isucc hlim
     obtain⟨s1,hs1⟩:∃ s1:Nat,e+o=s1:=⟨_,rfl⟩
     obtain⟨t,ht⟩:∃ t:Nat,c+o+e=t:=⟨_,rfl⟩
     rw[ht]at isucc hlim
     obtain⟨lo,hlo⟩:∃ lo:Nat,t%4294967296=lo:=⟨_,rfl⟩
     have hsh:=bBm (t:=t)
     obtain⟨hi',hhi⟩:∃ hi':Nat,t/4294967296=hi':=⟨_,rfl⟩
     rw[hlo,hhi]at isucc
     rw[hhi]at hsh
     have hwo:AY.wrap (o:Int)=o:=bP (by omega) (by omega)
     have hwy:AY.wrap (yv:Int)=yv:=bP (by omega) (by omega)
     have hwm:AY.wrap ((xv:Int)*yv)=e:=by rw[←ES,he,bP (by omega) (by omega)]
     have hws:AY.wrap ((e:Int)+o)=s1:=by rw[bP (by omega) (by omega)];omega
     have hwt:AY.wrap ((c:Int)+s1)=t:=by rw[bP (by omega) (by omega)];omega
     have hwlo:BY.wrap (t:Int)=lo:=by rw[iM];omega
     have hlay:lay (BR AV.d (lms cur)) j [AV.d (D.i .u32 (lo:Int))]=BR AV.d (lms (cur.set j lo)):=by
      rw[wR _ _ _ hjl2,wO]
     simp[-map_map,-mapM_map,↓KW,aN,q2,hwj,hjn,g2,hwo,hws,g1,g4,hwx,hwy,hwm,hwt,hwlo,hsh,hlay,hw8,hjl3,hgj]
     refine aJ (k+1) hkb ?_ (aY [1] (by simp) ?_ ?_)
     ·omega
     ·simp[-map_map,upd,aT,Γ0,aN,isucc]
     ·simp[-map_map,upd,aT,Γ0,aN,isucc]
    ·have q2:¬(k:Int)<b.length:=by omega
     have hfin:=hres (by omega)
     have hw8:Ah.wrap ((i:Int)+1)=(i:Int)+1:=aR (by omega) (by omega)
     obtain⟨j,hj⟩:∃ j,i+b.length=j:=⟨_,rfl⟩
     rw[hj]at hfin
     have hwj:Ah.wrap ((i:Int)+b.length)=j:=by rw[aR (by omega) (by omega)];omega
     have hjn:(j:Int)<n:=by omega
     have hjl3:j+1≤n:=by omega
     have hjl2:j<(lms cur).length:=by rw[lY];omega
     have hwc:BY.wrap (c:Int)=c:=jS (by omega) (by omega)
     have hlay:lay (BR AV.d (lms cur)) j [AV.d (D.i .u32 (c:Int))]=BR AV.d (lms (cur.set j c)):=by
      rw[wR _ _ _ hjl2,wO]
     simp[-map_map,-mapM_map,↓KW,aN,q2,hw8,hwj,hjn,hjl3,hwc,hlay,hgj]
     refine aJ (i+1) hgo ?_ (aY [1] (by simp) ?_ ?_)
     ·omega
     ·simp[-map_map,upd,aT,Γ0,aN,hfin]
     ·simp[-map_map,upd,aT,Γ0,aN,hfin]
  ·have q1:¬(i:Int)<a.length:=by omega
   have e:i=a.length:=by omega
   have e':tmO a b i=xZ a b:=by rw[e];rfl
   rw[e']at ol
   simp[-map_map,-mapM_map,↓KW,aN,q1,e',ol,fX ol,dY ol]
set_option maxHeartbeats 1000000 in
set_option maxRecDepth 10000 in
theorem tO(x y:Int)(hx:(aX x.natAbs).length≤137438953472)(hy:(aX y.natAbs).length≤137438953472):Spec Tryz.prog 48 [encZ x,encZ y] (encZ (x*y)):=by
 refine aZ (N:=18) aI Tryz.func48 rfl rfl rfl (by kernel_rfl) (by kernel_rfl) (by simp) ?_
 have la:=cM x.natAbs
 have lb:=cM y.natAbs
 have va:=cY x.natAbs
 have vb:=cY y.natAbs
 have ta:=oL (aX x.natAbs) (by omega)
 have tb:=oL (aX y.natAbs) (by omega)
 rw[gY la,va]at ta
 rw[gY lb,vb]at tb
 have sx:=iN x
 have sy:=iN y
 have ex:encZ x=.ag [.b (decide (x<0)),aN (aX x.natAbs)]:=rfl
 have ey:encZ y=.ag [.b (decide (y<0)),aN (aX y.natAbs)]:=rfl
 rw[ex,ey]
 generalize aX x.natAbs=a at *
 generalize aX y.natAbs=b at *
 generalize hbx:decide (x<0)=nx at *
 generalize hby:decide (y<0)=ny at *
 obtain⟨tv,tl,tn⟩:=aPl la lb
 simp[-map_map,-mapM_map,↓KW,aN]
 refine aA (ds:=[aN a]) (by rfl) ta ?_
 simp[-map_map,-mapM_map,↓KW,aN]
 refine aA (ds:=[aN b]) (by rfl) tb ?_
 simp[-map_map,-mapM_map,↓KW,aN]
 refine aA (ds:=[aN a,aN b]) (by rfl) (bFf a b la lb hx hy) ?_
 simp[-map_map,-mapM_map,↓KW,aN]
 have hm:=nK tl (by omega) (!(nx==ny))
 rw[tv,va,vb]at hm
 have e2:sg (!(nx==ny)) (x.natAbs*y.natAbs)=x*y:=by
  rw[←sx,←sy]
  cases nx<;>cases ny<;>simp[sg,DQ,C5]
 rw[e2]at hm
 refine aA (ds:=[.b (!(nx==ny)),aN (xZ a b)]) (by rfl) hm ?_
 simp[-map_map,-mapM_map,↓KW,aN,encZ,encI]
set_option maxHeartbeats 1000000 in
set_option maxRecDepth 10000 in
theorem aUy(x y:Int)(hx:(aX x.natAbs).length≤137438953472)(hy:(aX y.natAbs).length≤137438953472):Spec Tryz.prog 102 [encZ x,encZ y] (encZ (x+y)):=by
 refine aZ (N:=42) aI Tryz.func102 rfl rfl rfl (by kernel_rfl) (by kernel_rfl) (by simp) ?_
 have la:=cM x.natAbs
 have lb:=cM y.natAbs
 have va:=cY x.natAbs
 have vb:=cY y.natAbs
 have ta:=oL (aX x.natAbs) (by omega)
 have tb:=oL (aX y.natAbs) (by omega)
 rw[gY la,va]at ta
 rw[gY lb,vb]at tb
 have hless:(aX x.natAbs).length<(aX y.natAbs).length→x.natAbs<y.natAbs:=jI
 have hless2:(aX y.natAbs).length<(aX x.natAbs).length→y.natAbs<x.natAbs:=jI
 have hl:=aCm _ _ la lb (by omega) (by omega)
 have hcmp:(x.natAbs<y.natAbs→pX (aX x.natAbs) (aX y.natAbs)<0)∧(¬x.natAbs<y.natAbs→¬pX (aX x.natAbs) (aX y.natAbs)<0):=by
  unfold pX
  rw[kB,kB]
  constructor
  ·intro h;rw[Ag (by simpa using h)];decide
  ·intro h
   rw[Ae (by simpa using h)]
   split<;>decide
 have sx:=iN x
 have sy:=iN y
 have ex:encZ x=.ag [.b (decide (x<0)),aN (aX x.natAbs)]:=rfl
 have ey:encZ y=.ag [.b (decide (y<0)),aN (aX y.natAbs)]:=rfl
 rw[ex,ey]
 generalize aX x.natAbs=a at *
 generalize aX y.natAbs=b at *
 generalize hbx:decide (x<0)=nx at *
 generalize hby:decide (y<0)=ny at *
 simp[-map_map,-mapM_map,↓KW,aN]
 refine aA (ds:=[aN a]) (by rfl) ta ?_
 simp[-map_map,-mapM_map,↓KW,aN]
 refine aA (ds:=[aN b]) (by rfl) tb ?_
 by_cases hn:nx=ny
 ·have h1:(nx==ny)=true:=by simpa using hn
  simp[-map_map,-mapM_map,↓KW,aN,h1]
  obtain⟨pv,pl,pn⟩:=aQz la lb
  refine aA (ds:=[aN a,aN b]) (by rfl) (bNo a b la lb (by omega) (by omega)) ?_
  simp[-map_map,-mapM_map,↓KW,aN]
  have hm:=nK pl (by omega) nx
  rw[pv,va,vb]at hm
  have e:sg nx (x.natAbs+y.natAbs)=x+y:=by
   rw[←sx,←sy,←hn];cases nx<;>simp[sg]<;>omega
  rw[e]at hm
  refine aA (ds:=[.b nx,aN (qL a b)]) (by rfl) hm ?_
  simp[-map_map,-mapM_map,↓KW,aN,encZ,encI]
 ·have h1:(nx==ny)=false:=by simpa using hn
  simp[-map_map,-mapM_map,↓KW,aN,h1]
  refine aA (ds:=[aN a,aN b]) (by rfl) hl ?_
  by_cases hlt:x.natAbs<y.natAbs
  ·have h2:=hcmp.1 hlt
   simp[-map_map,-mapM_map,↓KW,aN,h2]
   obtain⟨pv,pl,pn⟩:=qI lb la (by omega) (by omega)
   refine aA (ds:=[aN b,aN a]) (by rfl) (aNl b a lb la (by omega)) ?_
   simp[-map_map,-mapM_map,↓KW,aN]
   have hm:=nK pl (by omega) ny
   rw[pv,va,vb]at hm
   have e:sg ny (y.natAbs-x.natAbs)=x+y:=by
    rw[←sx,←sy]
    cases nx<;>cases ny<;>simp[sg]at hn ⊢<;>omega
   rw[e]at hm
   refine aA (ds:=[.b ny,aN (kX b a)]) (by rfl) hm ?_
   simp[-map_map,-mapM_map,↓KW,aN,encZ,encI]
  ·have h2:=hcmp.2 hlt
   simp[-map_map,-mapM_map,↓KW,aN,h2]
   obtain⟨pv,pl,pn⟩:=qI la lb (by omega) (by omega)
   refine aA (ds:=[aN a,aN b]) (by rfl) (aNl a b la lb (by omega)) ?_
   simp[-map_map,-mapM_map,↓KW,aN]
   have hm:=nK pl (by omega) nx
   rw[pv,va,vb]at hm
   have e:sg nx (x.natAbs-y.natAbs)=x+y:=by
    rw[←sx,←sy]
    cases nx<;>cases ny<;>simp[sg]at hn ⊢<;>omega
   rw[e]at hm
   refine aA (ds:=[.b nx,aN (kX a b)]) (by rfl) hm ?_
   simp[-map_map,-mapM_map,↓KW,aN,encZ,encI]
end Go.Am
end

section
set_option linter.unusedVariables false
set_option linter.unusedSimpArgs false
open Go Go.Am Go.Proofs
namespace Go.Am
def dK(f:Int×Int):List D:=[.i .i64 f.1,.b (decide (f.2<0)),aN (aX f.2.natAbs)]
def aG(l:List (Int×Int)):D:=.sl (l.map dK)
def fcs(l:List (Int×Int)):List D:=(l.map dK).flatten
theorem tS(l:List (Int×Int)):(fcs l).length=l.length*3:=by
 unfold fcs
 induction l with
 |nil=>rfl
 |cons x l ih=>simp only[AR,BP,Al,ih,dK,AB,A8];omega
theorem bOl:fcs []=[]:=rfl
theorem eP(a b:List (Int×Int)):fcs (a++b)=fcs a++fcs b:=by simp[fcs]
theorem cX(f:Int×Int):fcs [f]=[.i .i64 f.1,.b (decide (f.2<0)),aN (aX f.2.natAbs)]:=rfl
theorem bOk(f g:Int×Int):fcs [f,g]=[.i .i64 f.1,.b (decide (f.2<0)),aN (aX f.2.natAbs),.i .i64 g.1,.b (decide (g.2<0)),aN (aX g.2.natAbs)]:=rfl
theorem aK(m:List Nat):one (.d (aN m))=true:=rfl
theorem aD(m:List Nat):eS (.d (aN m))=some [.d (aN m)]:=rfl
theorem aM(m:List Nat):aT (aN m)=.d (aN m):=rfl
theorem bOm(l:List (Int×Int)):((fcs l).map AV.d).all one=true:=by
 unfold fcs
 induction l with
 |nil=>rfl
 |cons x l ih =>
  simp only[AR,BP,By,List.all_append,ih,Bool.and_true]
  rfl
theorem jB(l:List (Int×Int)):(∀ x,x∈fcs l→one (AV.d x)=true)↔True:=⟨fun _=>trivial,fun _ _ hx=>AO.1 (bOm l) _ (EY hx)⟩
theorem uA{l:List (Int×Int)}{n:Nat}(h:l.length=n):chunk 3 n (fcs l)=l.map dK:=by
 subst h
 have:=zK (l.map dK) (fun x hx=>by obtain⟨y,_,rfl⟩:=AE.1 hx;rfl)
 rwa [AN]at this
theorem nC{l:List (Int×Int)}{n:Nat}(h:l.length=n):Cd (n*3) ((fcs l).map AV.d)=(fcs l).map AV.d:=Ai (by simp[tS,h])
theorem bB(f:Int×Int):dK f=[.i .i64 f.1,.b (decide (f.2<0)),aN (aX f.2.natAbs)]:=rfl
theorem aW{n:Nat}(h:n≤1099511627776):n≤maxLen:=Ap h (by decide)
theorem cC{n:Nat}(h:n≤2147483648):(n+1)*40≤140737488355328∧n+1≤1099511627776∧(n+1+1)*40≤140737488355328∧n+1+1≤1099511627776:=by
 refine⟨by omega,by omega,by omega,by omega⟩
def Sz(z:Int):Prop:=(aX z.natAbs).length≤137438953472
theorem bE(m:List Nat):inj (aN m)=.d (aN m):=rfl
theorem bC(H:Nat→Option HO)(avs:List AV)(m:List Nat):cE H avs (aN m)=gT H avs:=rfl
theorem bF(z:Int):encZ z=.ag [.b (decide (z<0)),aN (aX z.natAbs)]:=rfl
theorem aZj:encZ 0=.ag [.b false,.sl []]:=by
 unfold encZ encI
 rw[show(0:Int).natAbs=0 from rfl,cP];rfl
theorem aBe(z:Int):strip (aX z.natAbs)=[]↔z=0:=by
 rw[gY (cM _),cY,gD];omega
theorem aCl(z:Int)(hz:Sz z):Spec Tryz.prog 52 [encZ z] (.i .i64 z.sign):=by
 have:=aIw (decide (z<0)) (aX z.natAbs) (Ap hz (by decide))
 have e:(if strip (aX z.natAbs)=[]then(0:Int)else if(decide (z<0))=true then -1 else 1)=z.sign:=by
  simp only[aBe]
  rcases D4 z 0 with h|h|h
  ·rw[Ae (by omega),Ag (by simpa using h),CS h]
  ·subst h;rfl
  ·rw[Ae (by omega),Ae (by simp;omega),Dj h]
 rwa [e]at this
end Go.Am
end

section
set_option linter.unusedVariables false
set_option linter.unusedSimpArgs false
open Go Go.Am Go.Proofs
namespace Go.Am
open Go.ChangeShapes Go.WideShapes Go.ChangeAt Go.RowKit
theorem bHp{w:World}{a:Addr}{v:Value}(h:w.cell? a=some v):a.block<w.heap.size:=by
 unfold World.cell? at h
 cases hb:w.heap[a.block]? with
 |none=>rw[hb]at h;cases h
 |some o=>exact(BH.1 hb).1
theorem bEi{α:Type}{Q:Nat→α→Prop}:∀{n:Nat},(∀ i,i<n→∃ y,Q i y)→∃ l:List α,l.length=n∧∀(i:Nat) (y:α),l[i]? = some y→Q i y
 |0,_=>⟨[],rfl,fun i y h=>by simp at h⟩
 |n+1,h=>by
  obtain⟨l,hl,hq⟩:=bEi (n:=n) fun i hi=>h i (Nat.lt_succ_of_lt hi)
  obtain⟨y,hy⟩:=h n (Ad n)
  refine⟨l++[y],by simp[hl],fun i z hz=>?_⟩
  rcases Bc i l.length with h1|h1
  ·rw[AF h1]at hz;exact hq i z hz
  ·rw[AA h1]at hz
   have h2:i-l.length=0:=by
    rcases Ce (i-l.length)with h3|h3
    ·exact h3
    ·rw[AG (by simp;omega)]at hz;cases hz
   rw[h2]at hz
   simp at hz
   subst hz
   rwa [show i=n by omega]
theorem aZs{w:World}{n:Nat}{a:Addr}{cs:List Value}(h:w.cells? 0 a n=some cs):∀ k,k<n→w.cell? (a.add k)=cs[k]? := by
 intro k hk
 unfold World.cells? at h
 rw[Ag (An _)]at h
 have:=mapM_some_get h k k (by simp[hk])
 exact this
theorem aGa{α:Type}{P:Program}{H:Type}{enc:TypeId×Value→H}{w:World}{sp:Nat→Bool}{held:Bool}{t e:TypeId}{cs:List Value}{x:DataW H×List MemPlace}{fuel:Nat}(ht:P.underlying t=some (.slice e))(hc:0<P.cellsOf e)(E:α→List D)(good:α→Prop)
  (hE:∀(fuel:Nat) (cs:List Value) (x:DataW H×List MemPlace),DataW.trod enc P w 0 sp held fuel e cs=some x→∃ y:α,good y∧(E y).length=P.cellsOf e∧∀(k:Nat) (c:D) (v:Value),(E y)[k]? = some c→cs[k]? = some v→VD (fun b=>b<w.heap.size) w c v)
  (hf:DataW.trod enc P w 0 sp held fuel t cs=some x):∃(v:Value) (l:List α),cs=[v]∧VD (fun b=>b<w.heap.size) w (.sl (l.map E)) v∧(∀ y∈l,good y)∧l.length≤9223372036854775807:=by
 rcases DataW.trod_slice ht hf with ⟨hcs,_⟩|⟨a,len,cap,elems,rest,n,_,hcs,_,_,hlc,hcm,hel,hEl,_⟩
 ·exact⟨_,[],hcs,.sl0 _ _,(fun p hp=>by cases hp),An _⟩
 ·have each:∀ i,i<len→∃ y:α,good y∧(E y).length=P.cellsOf e∧∀(k:Nat),k<P.cellsOf e→∃ v,w.cell? (a.add (i*P.cellsOf e+k))=some v∧∀ c:D,(E y)[k]? = some c→VD (fun b=>b<w.heap.size) w c v:=by
   intro i hi
   have h1:=hEl i hi
   rw[Aa (by omega)]at h1
   obtain⟨vs,h2,h3⟩:=Option.bind_eq_some_iff.1 h1
   obtain⟨y,g,hy,hv⟩:=hE _ _ _ h3
   refine⟨y,g,hy,fun k hk=>?_⟩
   have h4:=aZs h2 k hk
   rw[add_add]at h4
   have h5:k<vs.length:=by
    unfold World.cells? at h2
    rw[Ag (An _)]at h2
    have:=mapM_some_length h2
    simp at this;omega
   rw[Aa h5]at h4
   exact⟨_,h4,fun c hc=>hv k c _ hc (Aa h5)⟩
  obtain⟨l,hl,hq⟩:=bEi each
  have hgood:∀ y∈l,good y:=fun y hy=>by
   obtain⟨i,hi,rfl⟩:=BC.1 hy
   exact(hq i _ (Aa hi)).1
  refine⟨_,l,hcs,?_,hgood,by rw[hl];exact Ap hlc hcm⟩
  rcases Ce len with h0|hpos
  ·have:l=[]:=Au (by omega)
   subst this;subst h0;exact .sl0 _ _
  ·have hab:a.block<w.heap.size:=by
    obtain⟨y,_,_,hy⟩:=each 0 hpos
    obtain⟨v,hv,_⟩:=hy 0 hc
    have:=bHp hv
    rwa [block_add]at this
   refine .sl _ a len cap (P.cellsOf e) (fun j=>(w.cell? (a.add j)).getD undef) (by simp[hl]) hlc (fun cs hcs=>?_) hab (fun j hj=>?_) (fun j k cs c hj hk=>?_)
   ·obtain⟨y,hy,rfl⟩:=AE.1 hcs
    obtain⟨i,hi,rfl⟩:=BC.1 hy
    exact(hq i _ (Aa hi)).2.1
   ·have hd:j/P.cellsOf e<len:=Nat.div_lt_of_lt_mul (by rwa [BU]at hj)
    obtain⟨y,_,_,hy⟩:=each _ hd
    obtain⟨v,hv,_⟩:=hy (j%P.cellsOf e) (D9 _ hc)
    rw[BU,ER]at hv
    simp[hv]
   ·rw[Ax,Ao]at hj
    obtain⟨y,hy,rfl⟩:=hj
    obtain⟨_,h6,h7⟩:=hq j y hy
    obtain⟨v,hv,hvc⟩:=h7 k (by rw[←h6];exact(Aj.1 hk).1)
    simp only[hv,Ba]
    exact hvc c hk
end Go.Am
end

section
set_option linter.unusedVariables false
set_option linter.unusedSimpArgs false
open List (map_map mapM_map)
open Go Go.Am Go.Proofs
namespace Go.Am
def fD(id z:Int)(s:List (Int×Int)×Bool)(x:Int×Int):List (Int×Int)×Bool :=
 if s.2 then(s.1++[x],true)
 else if x.1>id then(s.1++[(id,z),x],true)
 else if x.1=id then(if x.2+z=0 then s.1 else s.1++[(id,x.2+z)],true)
 else(s.1++[x],false)
def nA(l:List (Int×Int))(f:Int×Int):List (Int×Int) :=
 let s:=l.foldl (fD f.1 f.2) ([],decide (f.2=0))
 if s.2 then s.1 else s.1++[f]
theorem bFh(id z:Int)(s:List (Int×Int)×Bool)(x:Int×Int):(fD id z s x).1.length≤s.1.length+2:=by
 unfold fD
 split
 ·simp
 ·split
  ·simp
  ·split
   ·split<;>simp
   ·simp
theorem rZ(id z:Int):∀(l:List (Int×Int)) (s:List (Int×Int)×Bool),(l.foldl (fD id z) s).1.length≤s.1.length+2*l.length
 |[],s=>by simp
 |x::l,s=>by
  have h1:=rZ id z l (fD id z s x)
  have h2:=bFh id z s x
  simp only[CG,AB]
  omega
set_option maxHeartbeats 2000000 in
set_option maxRecDepth 10000 in
theorem yJ(l:List (Int×Int))(id z:Int)(hz:Sz z)(hs:∀ x∈l,Sz x.2)(hl:l.length≤1073741824):Spec Tryz.prog 76 [aG l,.ag (dK (id,z))] (aG (nA l (id,z))):=by
 refine aZ (N:=80) aI Tryz.func76 rfl rfl rfl (by kernel_rfl) (by kernel_rfl) (by simp) ?_
 simp[-map_map,-mapM_map,↓KW,aG,bB,aK,aD]
 refine aA (ds:=[encZ z]) (by rfl) (eX z) ?_
 have e0:((z.sign:Int)==0)=decide (z=0):=by
  rw[Dg];simp
 simp[-map_map,-mapM_map,↓KW,e0,bB,aK,aD]
 refine aU (fun i:Nat=>i≤l.length)
  (fun i=>StL [(0,.d (aG l)),(3,.ptr 1 0),(5,.own 2 0 ((l.take i).foldl (fD id z) ([],decide (z=0))).1.length 3),(6,.d (.b ((l.take i).foldl (fD id z) ([],decide (z=0))).2)),(7,.d (.i .i64 i))] none
   [.cells 76 ((fcs [(id,z)]).map .d),.cells 76 ((fcs ((l.take i).foldl (fD id z) ([],decide (z=0))).1).map .d)]) (fun i=>l.length-i) 0 (An _) ?_ ?_
 ·refine aY [1,2] (by simp) ?_ ?_<;>simp[-map_map,upd,aT,Γ0,aG,bB,cX,bOl]
 ·intro i hi
  have hlen:=rZ id z (l.take i) ([],decide (z=0))
  simp only[A8,AM]at hlen
  have hfin:i=l.length→nA l (id,z)=if((l.take i).foldl (fD id z) ([],decide (z=0))).2 then((l.take i).foldl (fD id z) ([],decide (z=0))).1 else((l.take i).foldl (fD id z) ([],decide (z=0))).1++[(id,z)]:=fun e=>by
   rw[Ai (by omega)];rfl
  have hsucc:∀ h:i<l.length,(l.take (i+1)).foldl (fD id z) ([],decide (z=0))=fD id z ((l.take i).foldl (fD id z) ([],decide (z=0))) l[i]:=fun h=>by
   rw[AJ,Aa h,C9];rfl
  generalize hst:(l.take i).foldl (fD id z) ([],decide (z=0))=st at *
  obtain⟨out,done⟩:=st
  simp only at hlen hfin hsucc
  obtain⟨n,hn⟩:∃ n,out.length=n:=⟨_,rfl⟩
  have hn':n≤2147483648:=by rw[←hn];exact Ap hlen (by omega)
  clear hlen
  have hfl:=tS out
  rw[hn]at hfl
  by_cases hgo:i<l.length
  ·have q1:(i:Int)<l.length:=by omega
   have hw7:Ah.wrap ((i:Int)+1)=(i:Int)+1:=aR (by omega) (by omega)
   have hsu:=hsucc hgo
   have g1:l[i]? = some l[i]:=Aa hgo
   have hsx:=hs _ (Ak hgo)
   generalize l[i]=x at *
   obtain⟨xi,xc⟩:=x
   simp only at hsx
   have hb:=cC hn'
   cases done with
   |true =>
    replace hsu:=hsu.trans (show fD id z (out,true) (xi,xc)=(out++[(xi,xc)],true)from rfl)
    simp[-map_map,-mapM_map,↓KW,aG,q1,g1,bB,aK,aD,cX,jB,hn,hfl,hb,aW,hw7]
    refine aJ (i+1) hgo (Ab hgo (Ad i)) (aY [1,4] (by simp) ?_ ?_)
    ·simp[-map_map,upd,aT,Γ0,aG,hsu,bB,cX,eP,hn]
    ·simp[-map_map,upd,aT,Γ0,aG,hsu,bB,cX,eP,hn]
   |false =>
    by_cases hgt:xi>id
    ·have hgt':id<xi:=hgt
     replace hsu:=hsu.trans (show fD id z (out,false) (xi,xc)=(out++[(id,z),(xi,xc)],true)by simp[fD,hgt])
     have h33:n*3+3=(n+1)*3:=by omega
     simp[-map_map,-mapM_map,↓KW,aG,q1,g1,hgt',bB,aK,aD,cX,jB,hn,hfl,hb,aW,hw7,h33]
     refine aJ (i+1) hgo (Ab hgo (Ad i)) (aY [1,6] (by simp) ?_ ?_)
     ·simp[-map_map,upd,aT,Γ0,aG,hsu,bB,cX,eP,hn]
     ·simp[-map_map,upd,aT,Γ0,aG,hsu,bB,cX,eP,hn,bOk]
    ·have hgt':¬id<xi:=hgt
     by_cases heq:xi=id
     ·have he:(xi==id)=true:=by simpa using heq
      simp[-map_map,-mapM_map,↓KW,aG,q1,g1,hgt',he,bB,aK,aD,cX,jB,hn,hfl,hb,aW,hw7]
      refine aA (ds:=[encZ xc,encZ z]) (by rfl) (qF xc z (Ap hsx (by decide)) (Ap hz (by decide))) ?_
      simp[-map_map,-mapM_map,↓KW,encZ,encI,aK,aD]
      refine aA (ds:=[encZ (xc+z)]) (by rfl) (eX (xc+z)) ?_
      by_cases h0:xc+z=0
      ·have h0':((xc+z).sign != 0)=false:=by simp[h0]
       replace hsu:=hsu.trans (show fD id z (out,false) (xi,xc)=(out,true)by simp[fD,hgt,heq,h0])
       simp[-map_map,-mapM_map,↓KW,h0',hn,hw7]
       refine aJ (i+1) hgo (Ab hgo (Ad i)) (aY [1,2] (by simp) ?_ ?_)
       ·simp[-map_map,upd,aT,Γ0,aG,hsu,bB,cX,eP,hn]
       ·simp[-map_map,upd,aT,Γ0,aG,hsu,bB,cX,eP,hn]
      ·have h0':((xc+z).sign != 0)=true:=by simp[h0]
       replace hsu:=hsu.trans (show fD id z (out,false) (xi,xc)=(out++[(id,xc+z)],true)by simp[fD,hgt,heq,h0])
       simp[-map_map,-mapM_map,↓KW,h0',bB,aK,aD,cX,jB,hn,hfl,hb,aW,hw7]
       refine aJ (i+1) hgo (Ab hgo (Ad i)) (aY [1,5] (by simp) ?_ ?_)
       ·simp[-map_map,upd,aT,Γ0,aG,hsu,bB,cX,eP,hn]
       ·simp[-map_map,upd,aT,Γ0,aG,hsu,bB,cX,eP,hn]
     ·have he:(xi==id)=false:=by simpa using heq
      replace hsu:=hsu.trans (show fD id z (out,false) (xi,xc)=(out++[(xi,xc)],false)by simp[fD,hgt,heq])
      simp[-map_map,-mapM_map,↓KW,aG,q1,g1,hgt',he,bB,aK,aD,cX,jB,hn,hfl,hb,aW,hw7]
      refine aJ (i+1) hgo (Ab hgo (Ad i)) (aY [1,4] (by simp) ?_ ?_)
      ·simp[-map_map,upd,aT,Γ0,aG,hsu,bB,cX,eP,hn]
      ·simp[-map_map,upd,aT,Γ0,aG,hsu,bB,cX,eP,hn]
  ·have q1:¬(i:Int)<l.length:=by omega
   have hfi:=hfin (by omega)
   have hb:=cC hn'
   cases done with
   |true =>
    have e:nA l (id,z)=out:=by rw[hfi];rfl
    simp[-map_map,-mapM_map,↓KW,aG,q1,hn,hfl,uA hn,nC hn,e]
   |false =>
    have e:nA l (id,z)=out++[(id,z)]:=by rw[hfi];rfl
    have hn2:(out++[(id,z)]).length=n+1:=by simp[hn]
    have e2:BR AV.d (fcs out)++[AV.d (D.i .i64 id),AV.d (D.b (decide (z<0))),AV.d (aN (aX z.natAbs))]=BR AV.d (fcs (out++[(id,z)])):=by
     rw[eP,By];rfl
    have hfl2:=tS (out++[(id,z)])
    rw[hn2]at hfl2
    simp[-map_map,-mapM_map,↓KW,aG,q1,bB,aK,aD,cX,jB,hn,hfl,hb,aW,e2,hfl2,uA hn2,nC hn2,e]
end Go.Am
end

section
set_option linter.unusedVariables false
set_option linter.unusedSimpArgs false
open List (map_map mapM_map)
open Go Go.Am Go.Proofs
namespace Go.Am
def b2n(b:Bool):Nat:=if b then 1 else 0
theorem rE(id z:Int):∀(l:List (Int×Int)) (s:List (Int×Int)×Bool) (n:Nat),s.1.length≤n+b2n s.2→(l.foldl (fD id z) s).1.length≤n+l.length+b2n (l.foldl (fD id z) s).2
 |[],s,n,h=>by simpa using h
 |x::l,s,n,h=>by
  have h2:(fD id z s x).1.length≤n+1+b2n (fD id z s x).2:=by
   obtain⟨out,done⟩:=s
   cases done
   ·simp only[b2n,AU,BB,BW]at h
    unfold fD
    simp only[AU,BB]
    split
    ·simp[b2n];omega
    ·split
     ·split<;>simp[b2n]<;>omega
     ·simp[b2n];omega
   ·simp only[b2n,if_true]at h
    unfold fD
    simp[b2n];omega
  have h1:=rE id z l _ (n+1) h2
  simp only[CG,AB]
  omega
theorem aGs(l:List (Int×Int))(f:Int×Int):(nA l f).length≤l.length+1:=by
 have h:=rE f.1 f.2 l ([],decide (f.2=0)) 0 (An _)
 have e:nA l f=if(l.foldl (fD f.1 f.2) ([],decide (f.2=0))).2 then(l.foldl (fD f.1 f.2) ([],decide (f.2=0))).1 else(l.foldl (fD f.1 f.2) ([],decide (f.2=0))).1++[f]:=rfl
 rw[e]
 generalize l.foldl (fD f.1 f.2) ([],decide (f.2=0))=s at *
 obtain⟨out,done⟩:=s
 cases done
 ·simp only[b2n,AU,BB]at h ⊢
  simp;omega
 ·simp only[b2n,if_true]at h ⊢
  omega
def Bnd(M:Nat)(l:List (Int×Int)):Prop:=∀ x∈l,x.2.natAbs≤M
theorem Bnd.nil(M:Nat):Bnd M []:=fun _ h=>by cases h
theorem Bnd.mono{M N:Nat}{l:List (Int×Int)}(h:Bnd M l)(k:M≤N):Bnd N l:=fun x hx=>Ap (h x hx) k
theorem Bnd.app{M:Nat}{a b:List (Int×Int)}(h:Bnd M a)(k:Bnd M b):Bnd M (a++b):=fun x hx=>by
 rcases A9.1 hx with hx|hx
 ·exact h x hx
 ·exact k x hx
theorem Bnd.one{M:Nat}{x:Int×Int}(h:x.2.natAbs≤M):Bnd M [x]:=fun y hy=>by
 rcases AD.1 hy with rfl|hy
 ·exact h
 ·cases hy
theorem bFi{id z:Int}{s:List (Int×Int)×Bool}{x:Int×Int}{M K:Nat}(hs:Bnd (M+K) s.1)(hx:x.2.natAbs≤M)(hz:z.natAbs≤K):Bnd (M+K) (fD id z s x).1:=by
 unfold fD
 split
 ·exact hs.app (.one (by omega))
 ·split
  ·exact hs.app (.app (.one (x:=(id,z)) (by simp only;omega)) (.one (by omega)))
  ·split
   ·split
    ·exact hs
    ·exact hs.app (.one (by simp only;omega))
   ·exact hs.app (.one (by omega))
theorem sA{id z:Int}{M K:Nat}(hz:z.natAbs≤K):∀(l:List (Int×Int)) (s:List (Int×Int)×Bool),Bnd M l→Bnd (M+K) s.1→Bnd (M+K) (l.foldl (fD id z) s).1
 |[],s,_,h=>h
 |x::l,s,hl,h=>sA hz l _ (fun y hy=>hl y (As _ hy)) (bFi h (hl x (Av ..)) hz)
theorem aNm{l:List (Int×Int)}{f:Int×Int}{M K:Nat}(hl:Bnd M l)(hz:f.2.natAbs≤K):Bnd (M+K) (nA l f):=by
 have h:=sA (id:=f.1) hz l ([],decide (f.2=0)) hl (.nil _)
 have e:nA l f=if(l.foldl (fD f.1 f.2) ([],decide (f.2=0))).2 then(l.foldl (fD f.1 f.2) ([],decide (f.2=0))).1 else(l.foldl (fD f.1 f.2) ([],decide (f.2=0))).1++[f]:=rfl
 rw[e]
 split
 ·exact h
 ·exact h.app (.one (by omega))
theorem fP{z:Int}{M:Nat}(h:z.natAbs≤M)(hM:(aX M).length≤137438953472):Sz z:=Ap (dW h) hM
def bV(a b:List (Int×Int)):List (Int×Int):=b.foldl nA a
theorem iL(a:List (Int×Int)):∀ b:List (Int×Int),(bV a b).length≤a.length+b.length:=by
 intro b
 unfold bV
 induction b generalizing a with
 |nil=>simp
 |cons x b ih =>
  have h1:=ih (nA a x)
  have h2:=aGs a x
  simp only[CG,AB];omega
theorem gQ{M K:Nat}:∀(b a:List (Int×Int)),Bnd M a→Bnd K b→Bnd (M+b.length*K) (bV a b)
 |[],a,ha,_=>by simpa[bV]using ha
 |x::b,a,ha,hb=>by
  have h1:=aNm (f:=x) ha (hb x (Av ..))
  have h2:=gQ b (nA a x) h1 (fun y hy=>hb y (As _ hy))
  refine(show Bnd _ (bV (nA a x) b)from h2).mono ?_
  rw[AB,Bp,Cn];omega
theorem bAg(a b:List (Int×Int))(i:Nat)(h:i<b.length):bV a (b.take (i+1))=nA (bV a (b.take i)) b[i]:=by
 unfold bV
 rw[AJ,Aa h,C9];rfl
def mulR(k:Int)(b:List (Int×Int)):List (Int×Int):=b.map fun f=>(f.1,k*f.2)
theorem pI{k:Int}{M K:Nat}{b:List (Int×Int)}(hk:k.natAbs≤K)(hb:Bnd M b):Bnd (K*M) (mulR k b):=fun x hx=>by
 obtain⟨y,hy,rfl⟩:=AE.1 hx
 simp only[BJ]
 exact B9 hk (hb y hy)
set_option maxHeartbeats 1000000 in
set_option maxRecDepth 10000 in
theorem bCr(a b:List (Int×Int))(k:Int)(A M K:Nat)(ha:Bnd A a)(hb:Bnd M b)(hk:k.natAbs≤K)(hA:(aX (A+b.length*(K*M))).length≤137438953472)(hKM:(aX (K*M)).length≤137438953472)(hK:(aX K).length≤137438953472)
  (hM:(aX M).length≤137438953472) (hl:a.length+b.length≤1073741824):Spec Tryz.prog 39 [aG a,aG b,encZ k] (aG (bV a (mulR k b))):=by
 refine aZ (N:=32) aI Tryz.func39 rfl rfl rfl (by kernel_rfl) (by kernel_rfl) (by simp) ?_
 simp[-map_map,-mapM_map,↓KW,aG,encZ,encI,aK,aD]
 refine aU (fun i:Nat=>i≤b.length) (fun i=>StL [(1,.d (aG b)),(5,.ptr 1 0),(7,.d (aG (bV a ((mulR k b).take i)))),(8,.d (.i .i64 i))] none [.cells 74 [.d (.b (decide (k<0))),.d (aN (aX k.natAbs))]]) (fun i=>b.length-i) 0 (An _) ?_ ?_
 ·refine aY [1] (by simp) ?_ ?_<;>simp[-map_map,upd,aT,Γ0,aG,bV]
 ·intro i hi
  have hlm:(mulR k b).length=b.length:=by simp[mulR]
  by_cases hgo:i<b.length
  ·have q1:(i:Int)<b.length:=by omega
   have hw7:Ah.wrap ((i:Int)+1)=(i:Int)+1:=aR (by omega) (by omega)
   have g1:b[i]? = some b[i]:=Aa hgo
   have hsu:=bAg a (mulR k b) i (by omega)
   have hgm:(mulR k b)[i]'(by omega)=(b[i].1,k*b[i].2):=by simp[mulR]
   rw[hgm]at hsu
   have hbx:=hb _ (Ak hgo)
   have hbt:Bnd (K*M) ((mulR k b).take i):=fun x hx=>pI hk hb x (Bs hx)
   have hbo:=gQ ((mulR k b).take i) a ha hbt
   have hlo:=iL a ((mulR k b).take i)
   have hti:((mulR k b).take i).length=i:=by simp;omega
   rw[hti]at hbo hlo
   have hle:A+i*(K*M)≤A+b.length*(K*M):=En (AX _ (by omega)) _
   generalize hxe:b[i]=x at *
   obtain⟨xi,xc⟩:=x
   generalize bV a ((mulR k b).take i)=out at *
   simp only at hbx hsu
   have hkx:(k*xc).natAbs≤K*M:=by rw[BJ];exact B9 hk hbx
   simp[-map_map,-mapM_map,↓KW,aG,q1,g1,bB,aK,aD]
   refine aA (ds:=[encZ k,encZ xc]) (by rfl) (oI k xc (fP hk hK) (fP hbx hM)) ?_
   simp[-map_map,-mapM_map,↓KW,aG,encZ,encI,aK,aD]
   have hins:=yJ out xi (k*xc) (fP hkx hKM) (fun y hy=>fP (Ap (hbo y hy) hle) hA) (by omega)
   refine aA (ds:=[aG out,.ag (dK (xi,k*xc))]) (by rfl) hins ?_
   simp[-map_map,-mapM_map,↓KW,aG,hw7]
   refine aJ (i+1) hgo (Ab hgo (Ad i)) (aY [1] (by simp) ?_ ?_)
   ·simp[-map_map,upd,aT,Γ0,aG,hsu]
   ·simp[-map_map,upd,aT,Γ0]
  ·have q1:¬(i:Int)<b.length:=by omega
   have e:(mulR k b).take i=mulR k b:=Ai (by omega)
   simp[-map_map,-mapM_map,↓KW,aG,q1,e]
end Go.Am
end

section
set_option linter.unusedVariables false
set_option linter.unusedSimpArgs false
open Go Go.Am Go.Proofs
namespace Go.Am
def aMm(l:List (Int×Int))(i:Nat):Bool:=decide ((l.getD i (0,0)).2≠0)&&(decide (i=0)||decide ((l.getD (i-1) (0,0)).1<(l.getD i (0,0)).1))
def uQ(l:List (Int×Int)):Bool:=(Db l.length).all (aMm l)
theorem yY{l:List (Int×Int)}(h:∀ j,j<l.length→aMm l j=true):uQ l=true:=by
 unfold uQ;rw[AO];intro j hj;exact h j (DH.1 hj)
theorem aHw{l:List (Int×Int)}{j:Nat}(hj:j<l.length)(h:aMm l j=false):uQ l=false:=by
 unfold uQ
 rw[List.all_eq_false]
 exact⟨j,DH.2 hj,by rw[h];decide⟩
theorem bFw{l:List (Int×Int)}{i:Nat}(h:i<l.length):l[i]? = some (l.getD i (0,0)):=by rw[Ac,Aa h];rfl
end Go.Am
end

section
set_option linter.unusedVariables false
set_option linter.unusedSimpArgs false
open Go Go.Am Go.Proofs
namespace Go.Am
theorem bMl{P:Program}{dst:Option Tmp}{ty:TypeId}{pos:String}{after:Array Edge}{guard:Option (Nat×Bool)}{σ:St}{con:List Nat}{k:St→List Nat→Prop}{f g:FuncId}{x:Operand}{ts:Array TypeId}
  {d:Dm ((⟨dst,.call ⟨.value (.func f),[x].toArray,ts⟩,ty,pos,after,guard⟩:Oper),k)} {id:Nat} {ho:HO} (hs:sP P f g) (hm:bH P f=true)
  (hx:oev σ.Γ x=.mp id) (hH:σ.H id=some ho) (hk:k ⟨bT σ.Γ dst (.kf g id),σ.H,σ.n⟩ con):O1d P ⟨dst,.call ⟨.value (.func f),[x].toArray,ts⟩,ty,pos,after,guard⟩ σ con k d:=by
 show OC P f [x].toArray dst σ con k
 unfold OC
 have e:hd1 (oev σ.Γ x)=some (id,.mp 0):=by rw[hx];rfl
 simp only[hm,if_true,e,hH]
 exact .inl ⟨g,trivial,trivial,hs,hk⟩
theorem aXy{P:Program}{dst:Option Tmp}{ty:TypeId}{pos:String}{after:Array Edge}{guard:Option (Nat×Bool)}{σ:St}{con:List Nat}{k:St→List Nat→Prop}{f g:FuncId}{x:Operand}{ts:Array TypeId}
  {d:Dm ((⟨dst,.call ⟨.value (.func f),[x].toArray,ts⟩,ty,pos,after,guard⟩:Oper),k)} {id:Nat} {es:List (Int×AV)} (hs:lV P f g) (hm:bH P f=false)
  (hx:oev σ.Γ x=.kf g id) (hH:σ.H id=some (.map .i64 es)) (hl:es.length≤1099511627776) (hr:(es.map (·.1)).all inr=true)
  (hk:k ⟨bT σ.Γ dst (.d (.sl ((fT (es.map (·.1))).map fun n=>[.i .i64 n]))),σ.H,σ.n⟩ con):O1d P ⟨dst,.call ⟨.value (.func f),[x].toArray,ts⟩,ty,pos,after,guard⟩ σ con k d:=by
 show OC P f [x].toArray dst σ con k
 unfold OC
 have e:([x].toArray.toList.map (oev σ.Γ))=[.kf g id]:=by show[oev σ.Γ x]=_;rw[hx]
 simp only[hm,AU,BB]
 refine .inr ?_
 split
 ·rename_i g' id' hx'
  rw[e]at hx'
  injection hx' with hx' _
  injection hx' with h1 h2
  subst h1;subst h2
  rw[hH]
  exact⟨hl,hr,hs,hk⟩
 ·rename_i hne
  exact(hne _ _ e).elim
/-! Sums, as association lists -/
def fnd(n:Int):List (Int×Int)→Option Nat
 |[]=>none
 |x::es=>if x.1=n then some 0 else(fnd n es).map (·+1)
def aFc(z:Int):AV:=.ag [.d (.b (decide (z<0))),.d (aN (aX z.natAbs))]
def iU(m:List (Int×Int)):List (Int×AV):=m.map fun p=>(p.1,aFc p.2)
theorem uY(n:Int)(m:List (Int×Int)):gM n (iU m)=fnd n m:=by
 induction m with
 |nil=>rfl
 |cons x m ih =>
  show(if x.1=n then some 0 else(gM n (iU m)).map (·+1))=if x.1=n then some 0 else(fnd n m).map (·+1)
  rw[ih]
theorem aCy{n:Int}{m:List (Int×Int)}{j:Nat}(h:fnd n m=some j):∃ z,m[j]? = some (n,z):=by
 induction m generalizing j with
 |nil=>cases h
 |cons x m ih =>
  unfold fnd at h
  by_cases hx:x.1=n
  ·rw[Ag hx]at h;injection h with h;subst h;exact⟨x.2,by rw[←hx];rfl⟩
  ·rw[Ae hx]at h
   obtain⟨i,hi,rfl⟩:=Ao.1 h
   obtain⟨z,hz⟩:=ih hi
   exact⟨z,by simpa using hz⟩
def getM(m:List (Int×Int))(n:Int):Int:=match fnd n m with
 |some j=>(m.getD j (0,0)).2
 |none=>0
def vW(m:List (Int×Int))(n v:Int):List (Int×Int):=match fnd n m with
 |some j=>m.set j (n,v)
 |none=>m++[(n,v)]
def xJ(m:List (Int×Int))(n:Int):List (Int×Int):=match fnd n m with
 |some j=>m.eraseIdx j
 |none=>m
def mI(m:List (Int×Int))(n k:Int):List (Int×Int):=if getM m n+k=0 then xJ m n else vW m n (getM m n+k)
theorem aGj(m:List (Int×Int))(n v:Int):pJ (iU m) n (aFc v)=iU (vW m n v):=by
 unfold pJ vW
 rw[uY]
 cases fnd n m with
 |none=>simp[iU]
 |some j=>simp[iU,List.map_set]
theorem uM{α β:Type}(f:α→β):∀(l:List α) (j:Nat),(l.map f).eraseIdx j=(l.eraseIdx j).map f
 |[],_=>rfl
 |_::_,0=>rfl
 |x::l,j+1=>by
  show f x::(l.map f).eraseIdx j=f x::(l.eraseIdx j).map f
  rw[uM f l j]
theorem aGm(m:List (Int×Int))(n:Int):aNg (iU m) n=iU (xJ m n):=by
 unfold aNg xJ
 rw[uY]
 cases fnd n m with
 |none=>rfl
 |some j=>simp[iU,uM]
theorem aCd(m:List (Int×Int))(n:Int):pK (iU m) n=if(fnd n m).isSome then some (aFc (getM m n))else none:=by
 unfold pK getM
 rw[uY]
 cases h:fnd n m with
 |none=>rfl
 |some j =>
  obtain⟨z,hz⟩:=aCy h
  simp[iU,hz,Ac]
theorem iI(m:List (Int×Int)):pG (.map .i64 (iU m))=true:=by
 simp only[pG,iU,List.all_map,AO]
 intro x _;rfl
theorem cD{P:Program}(H:Nat→Option HO)(t:TypeId)(id:Nat)(x:AV)(ok:Bool):lJ P H t (.mp id) x ok=match H id with
  |some (.map k es)=>(tmp P t).bind fun p=>match x with
   |.d (.i k' n)=>if k'=k∧gW P p.1=some k then
     match pK es n with
     |some v=>some (if ok then .tp [v,.d (.b true)]else v)
     |none=>(tz P p.2).map fun z=>if ok then .tp [cv z,.d (.b false)]else cv z
    else none
   |_=>none
  |_=>none:=rfl
theorem cJ{P:Program}(H:Nat→Option HO)(t:TypeId)(id:Nat)(x:AV)(v:Option AV):rI P H t (.mp id) x v=match H id with
  |some (.map k es)=>(tmp P t).bind fun p=>match x with
   |.d (.i k' n)=>if k'=k∧gW P p.1=some k then some (id,.map k (match v with|some v=>pJ es n v|none=>aNg es n))else none
   |_=>none
  |_=>none:=rfl
def fJ(m:List (Int×Int)):List (Int×Int):=(fT (m.map (·.1))).map fun n=>(n,getM m n)
theorem aVa(n:Int):∀ l:List Int,(ins n l).length=l.length+1
 |[]=>rfl
 |m::l=>by
  unfold ins
  split
  ·rfl
  ·simp[aVa n l]
theorem aGr:∀ l:List Int,(fT l).length=l.length
 |[]=>rfl
 |n::l=>by rw[fT,aVa,aGr l];rfl
theorem aUz(n x:Int):∀ l:List Int,x∈ins n l↔x=n∨x∈l
 |[]=>by simp[ins]
 |m::l=>by
  unfold ins
  split
  ·simp
  ·simp[aUz n x l]
   constructor
   ·rintro(h|h|h)<;>simp[h]
   ·rintro(h|h|h)<;>simp[h]
theorem pP(x:Int):∀ l:List Int,x∈fT l↔x∈l
 |[]=>by simp[fT]
 |n::l=>by rw[fT,aUz,pP x l];simp
theorem aCz{n:Int}{m:List (Int×Int)}(h:n∈m.map (·.1)):(fnd n m).isSome=true:=by
 induction m with
 |nil=>simp at h
 |cons x m ih =>
  unfold fnd
  by_cases hx:x.1=n
  ·rw[Ag hx];rfl
  ·rw[Ae hx,Option.isSome_map]
   exact ih (by
    rcases AD.1 h with h|h
    ·exact(hx h.symm).elim
    ·exact h)
theorem aGy(m:List (Int×Int)):(iU m).map (·.1)=m.map (·.1):=by simp[iU]
theorem zA(l:List Nat)(m:List (Int×Int)):eC l (.map .i64 (iU m))=.map .i64 (iU m):=by
 simp[eC,iU,aFc,rO,eN]
end Go.Am
end

section
set_option linter.unusedVariables false
set_option linter.unusedSimpArgs false
open List (map_map mapM_map)
open Go Go.Am Go.Proofs
namespace Go.Am
theorem aFz {P:Program} {f N:Nat} {fn:Func} {c:Code} {h:AV} {o o':HO} {args:List D} {r:D} (hm:P.follows .mixedOrders=true) (hf:P.funcs[f]? = some fn) (hb:fn.body=some c) (hname:(fn.name == "runtime.NumGoroutine")=false) (hN:fn.ntmps=N)
  (hd:dM N c=true) (hl:eA P c=true) (ha:args.length+1≤N) (hmap:∃ k es,o=.map k es) (hmap':∃ k es,o'=.map k es) (hno':pG o'=true) (hnm:NM r)
  (hA:AWP P c (St1 h o args N) fun e σ=>(e=.normal∨e=.ret)∧mW P fn.results.toList σ=some r∧σ.H 0=some o'):mP P f h o args o' r :=
 aMh hf hb hname hN ha hmap hmap' hno' hnm fun G a w hZ hs=>gS hm hZ c _ _ a w hd hl hA hs
theorem rV{P:Program}{dst:Option Tmp}{ty:TypeId}{pos:String}{after:Array Edge}{guard:Option (Nat×Bool)}{σ:St}{con:List Nat}{k:St→List Nat→Prop}{f:FuncId}{x:Operand}{rest:List Operand}{ts:Array TypeId}
  {d:Dm ((⟨dst,.call ⟨.value (.func f),(x::rest).toArray,ts⟩,ty,pos,after,guard⟩:Oper),k)} {id:Nat} {ho ho':HO} {ds:List D} {r:D} (hs:mP P f (.mp 0) ho ds ho' r) (hm:bH P f=true)
  (hx:oev σ.Γ x=.mp id) (hH:σ.H id=some ho) (hno:pG ho=true) (hvis:gT σ.H (rest.map (oev σ.Γ))=[]) (hfr:iB σ.H (rest.map (oev σ.Γ))=some ds) (hlen:ho'.len=ho.len) (hno':pG ho'=true)
  (hk:k ⟨bT σ.Γ dst (inj r),upd σ.H id (some ho'),σ.n⟩ con):O1d P ⟨dst,.call ⟨.value (.func f),(x::rest).toArray,ts⟩,ty,pos,after,guard⟩ σ con k d:=by
 refine aMs hm ?_
 rw[hx]
 exact zL (id:=id) (h:=.mp 0) hH hno hvis hfr hs hlen hno' hk
theorem xI{x y:Int}(hx:Sz x)(hy:Sz y):(aX (x+y).natAbs).length≤1099511627776:=by
 have h1:=fR (Az (aX x.natAbs).length)
 have h2:=fR (Az (aX y.natAbs).length)
 have h:(x+y).natAbs<4294967296^((aX x.natAbs).length+(aX y.natAbs).length+1):=by
  have e1:4294967296^(aX x.natAbs).length≤4294967296^((aX x.natAbs).length+(aX y.natAbs).length):=BI (by decide) (by omega)
  have e2:4294967296^(aX y.natAbs).length≤4294967296^((aX x.natAbs).length+(aX y.natAbs).length):=BI (by decide) (by omega)
  rw[Cf]
  generalize 4294967296^((aX x.natAbs).length+(aX y.natAbs).length)=p at *
  omega
 have:=fC h
 unfold Sz at hx hy
 omega
theorem bMp(m:List Nat):NM (aN m):=.sl _ (fun cs h=>by obtain⟨x,_,rfl⟩:=AE.1 h;simp) fun cs h c hc=>by
 obtain⟨x,_,rfl⟩:=AE.1 h
 rw[AP]at hc;subst hc;exact .i _ _
theorem bMq(l:List (Int×Int)):NM (aG l):=.sl _ (fun cs h=>by obtain⟨x,_,rfl⟩:=AE.1 h;simp[dK]) fun cs h c hc=>by
 obtain⟨x,_,rfl⟩:=AE.1 h
 simp only[dK,AD,Eg,DX]at hc
 rcases hc with rfl|rfl|rfl
 ·exact .i _ _
 ·exact .b _
 ·exact bMp _
theorem pE{P:Program}(σ:St):mW P [] σ=some (.tp []):=rfl
set_option maxHeartbeats 1000000 in
set_option maxRecDepth 10000 in
theorem aPm(m:List (Int×Int))(id k:Int)(hm:Sz (getM m id))(hk:Sz k):mP Tryz.prog 70 (.mp 0) (.map .i64 (iU m)) [.i .i64 id,encZ k] (.map .i64 (iU (mI m id k))) (.tp []):=by
 refine aFz (N:=20) aI Tryz.func70 rfl rfl rfl (by kernel_rfl) (by kernel_rfl) (by simp) ⟨_,_,rfl⟩ ⟨_,_,rfl⟩ (iI _) (aCa 8 _ rfl) ?_
 have hml:=aCd m id
 have hz0:¬(fnd id m).isSome=true→getM m id=0:=fun h=>by
  unfold getM
  cases hf:fnd id m with
  |none=>rfl
  |some j=>rw[hf]at h;exact(h rfl).elim
 have hgo:∀ z:Int,z=getM m id→True:=fun _ _=>trivial
 by_cases hs:(fnd id m).isSome=true
 ·rw[Ag hs]at hml
  simp[-map_map,-mapM_map,↓KW,St1,bF,aD,aK,cD,hml,aFc]
  refine aA (ds:=[encZ (getM m id),encZ k]) (by rfl) (aUy (getM m id) k hm hk) ?_
  simp[-map_map,-mapM_map,↓KW,bF,aD,aK]
  refine aA (ds:=[encZ (getM m id+k)]) (by rfl) (aIw _ _ (xI hm hk)) ?_
  by_cases ht:getM m id+k=0
  ·have e1:strip (aX (getM m id+k).natAbs)=[]:=by rw[ht,show(0:Int).natAbs=0 from rfl,cP];rfl
   have e2:mI m id k=xJ m id:=by unfold mI;rw[Ag ht]
   simp[-map_map,-mapM_map,↓KW,e1,e2,cJ,aGm,pE]
  ·have e1:strip (aX (getM m id+k).natAbs)≠[]:=by
    rw[gY (cM _),cY,ne_eq,gD];omega
   have e2:mI m id k=vW m id (getM m id+k):=by unfold mI;rw[Ae ht]
   have e3:=aGj m id (getM m id+k)
   unfold aFc at e3
   by_cases hneg:getM m id+k<0
   ·simp[-map_map,-mapM_map,↓KW,e1,e2,hneg,cJ,aD,aK,pE]
    have hd:decide (getM m id+k<0)=true:=by simpa using hneg
    rw[hd]at e3
    exact e3
   ·simp[-map_map,-mapM_map,↓KW,e1,e2,hneg,cJ,aD,aK,pE]
    have hd:decide (getM m id+k<0)=false:=by simpa using hneg
    rw[hd]at e3
    exact e3
 ·rw[Ae hs]at hml
  have h0:=hz0 hs
  simp[-map_map,-mapM_map,↓KW,St1,bF,aD,aK,cD,hml,cv]
  refine aA (ds:=[encZ (getM m id),encZ k]) (by rw[h0,aZj];rfl) (aUy (getM m id) k hm hk) ?_
  simp[-map_map,-mapM_map,↓KW,bF,aD,aK]
  refine aA (ds:=[encZ (getM m id+k)]) (by rfl) (aIw _ _ (xI hm hk)) ?_
  by_cases ht:getM m id+k=0
  ·have e1:strip (aX (getM m id+k).natAbs)=[]:=by rw[ht,show(0:Int).natAbs=0 from rfl,cP];rfl
   have e2:mI m id k=xJ m id:=by unfold mI;rw[Ag ht]
   simp[-map_map,-mapM_map,↓KW,e1,e2,cJ,aGm,pE]
  ·have e1:strip (aX (getM m id+k).natAbs)≠[]:=by
    rw[gY (cM _),cY,ne_eq,gD];omega
   have e2:mI m id k=vW m id (getM m id+k):=by unfold mI;rw[Ae ht]
   have e3:=aGj m id (getM m id+k)
   unfold aFc at e3
   by_cases hneg:getM m id+k<0
   ·simp[-map_map,-mapM_map,↓KW,e1,e2,hneg,cJ,aD,aK,pE]
    have hd:decide (getM m id+k<0)=true:=by simpa using hneg
    rw[hd]at e3
    exact e3
   ·simp[-map_map,-mapM_map,↓KW,e1,e2,hneg,cJ,aD,aK,pE]
    have hd:decide (getM m id+k<0)=false:=by simpa using hneg
    rw[hd]at e3
    exact e3
theorem nS{m:List (Int×Int)}{M:Nat}(h:Bnd M m)(n:Int):(getM m n).natAbs≤M:=by
 unfold getM
 cases hf:fnd n m with
 |none=>simp
 |some j =>
  obtain⟨z,hz⟩:=aCy hf
  simp only[Ac,hz,Ba]
  exact h _ (Aq hz)
theorem aRt(m:List Nat)(h:m.length≤1099511627776):Spec Tryz.prog 90 [aN m] (aN m):=aHa _ (by simp[bPg,one,h])
def chS(m:List (Int×Int))(n:Nat):Nat→St
 |0=>StL [(0,.mp 0),(3,.nil),(9,.d (.sl ((fT (m.map (·.1))).map fun n=>[.i .i64 n]))),(10,.d (.i .i64 n)),(11,.d (.i .i64 0))] (some (.map .i64 (iU m))) []
 |i+1=>StL [(0,.mp 0),(3,.own 1 0 (i+1) 3),(9,.d (.sl ((fT (m.map (·.1))).map fun n=>[.i .i64 n]))),(10,.d (.i .i64 n)),(11,.d (.i .i64 ((i:Int)+1)))] (some (.map .i64 (iU m))) [.cells 76 ((fcs ((fJ m).take (i+1))).map .d)]
set_option maxHeartbeats 1000000 in
set_option maxRecDepth 10000 in
theorem aKu(m:List (Int×Int))(hS:∀ n,Sz (getM m n))(hl:m.length≤1073741824)(hr:(m.map (·.1)).all inr=true):mP Tryz.prog 71 (.mp 0) (.map .i64 (iU m)) [] (.map .i64 (iU m)) (aG (fJ m)):=by
 refine aFz (N:=31) aI Tryz.func71 rfl rfl rfl (by kernel_rfl) (by kernel_rfl) (by simp) ⟨_,_,rfl⟩ ⟨_,_,rfl⟩ (iI _) (bMq _) ?_
 simp[-map_map,-mapM_map,↓KW,St1]
 refine bMl Tryz.keys106 (by simp) (id:=0) (ho:=.map .i64 (iU m)) (by simp[iQ,dT]) (by simp) ?_
 simp[-map_map,-mapM_map,↓KW,St1]
 refine aXy Tryz.sorted122 (by simp) (id:=0) (es:=iU m) (by simp[iQ,dT]) (by simp) (by simp[iU];omega) (by rw[aGy];exact hr) ?_
 rw[aGy]
 have hil:=aGr (m.map (·.1))
 rw[AN]at hil
 obtain⟨n,hn⟩:∃ n,m.length=n:=⟨_,rfl⟩
 rw[hn]at hil
 simp[-map_map,-mapM_map,↓KW,hil]
 have hcl:(fJ m).length=n:=by simp[fJ,hil]
 have hsub:∀(H H':Nat→Option HO) (ρ:Nat→Nat),lU H H' ρ (.map .i64 (iU m)) (.map .i64 (iU m)):=fun H H' ρ=>aBc fun x hx=>by
  obtain⟨y,_,rfl⟩:=AE.1 hx
  refine⟨rfl,fun k c d hc hd=>?_⟩
  rw[hc]at hd;injection hd with hd;subst hd
  rcases k with _|_|k
  ·simp at hc;subst hc;exact(jO _ _).2 rfl
  ·simp at hc;subst hc;exact(jO _ _).2 rfl
  ·simp at hc
 have hkl:∀ q∈fT (m.map (·.1)),pK (iU m) q=some (aFc (getM m q)):=fun q hq=>by
  rw[aCd,Ag (aCz ((pP q _).1 hq))]
 refine aU (fun i:Nat=>i≤n) (chS m n) (fun i=>n-i) 0 (An _) ?_ ?_
 ·refine⟨_,zU [] (by simp) ?_ ?_ ?_⟩
  ·simp[-map_map,upd,aT,Γ0]
  ·intro o' ho'
   injection ho' with ho';subst ho'
   exact⟨_,by simp[dT],hsub _ _ _⟩
  ·trivial
 ·intro i hi
  by_cases hgo:i<n
  ·have hql:i<(fT (m.map (·.1))).length:=by omega
   have hq:=Aa hql
   have hqm:=Ak hql
   have hml:=hkl _ hqm
   have htk:(fJ m).take (i+1)=(fJ m).take i++[((fT (m.map (·.1)))[i],getM m (fT (m.map (·.1)))[i])]:=by
    rw[AJ]
    simp[fJ,hq]
   generalize(fT (m.map (·.1)))[i]=q at *
   have hcl1:=aRt (aX (getM m q).natAbs) (Ap (hS q) (by decide))
   rcases i with _|j
   ·have q1:(0:Int)<n:=by omega
    have q1':0<n:=hgo
    have g0:(fT (BR (fun x=>x.fst) m)).head? = some q:=by rw[List.head?_eq_getElem?];exact hq
    unfold chS
    simp[-map_map,-mapM_map,↓KW,q1',hq,g0,cD,hml,aFc,aD,aK]
    refine aA (ds:=[aN (aX (getM m q).natAbs)]) (by rfl) hcl1 ?_
    have hw:Ah.wrap 1=1:=by decide
    have h1:(1:Nat)≤maxLen:=aW (by decide)
    rw[BZ,List.nil_append]at htk
    simp[-map_map,-mapM_map,↓KW,aD,aK,aM,bE,bC,hw,h1]
    refine aJ 1 hgo (Ab hgo (Ad _)) ?_
    simp only[chS]
    refine⟨_,zU [3] (by simp) ?_ ?_ ?_⟩
    ·simp[-map_map,upd,aT,Γ0,htk]
    ·intro o' ho'
     injection ho' with ho';subst ho'
     exact⟨_,by simp[dT,aEa,zA],hsub _ _ _⟩
    ·simp[-map_map,upd,aT,Γ0,htk,cX]
   ·have q1:(j:Int)+1<n:=by omega
    have q5:(0:Int)≤(j:Int)+1:=by omega
    have hlt:((fJ m).take (j+1)).length=j+1:=by simp[hcl];omega
    have hfl:=tS ((fJ m).take (j+1))
    rw[hlt]at hfl
    have hw:Ah.wrap ((j:Int)+1+1)=(j:Int)+1+1:=aR (by omega) (by omega)
    have hb:=cC (n:=j+1) (by omega)
    show AWP _ _ (StL [(0,.mp 0),(3,.own 1 0 (j+1) 3),(9,.d (.sl ((fT (m.map (·.1))).map fun n=>[.i .i64 n]))),(10,.d (.i .i64 n)),(11,.d (.i .i64 ((j:Int)+1)))] (some (.map .i64 (iU m))) [.cells 76 ((fcs ((fJ m).take (j+1))).map .d)]) _
    generalize(fJ m).take (j+1)=out at *
    simp[-map_map,-mapM_map,↓KW,q1,q5,hq,cD,hml,aFc,aD,aK]
    refine aA (ds:=[aN (aX (getM m q).natAbs)]) (by rfl) hcl1 ?_
    simp[-map_map,-mapM_map,↓KW,aD,aK,aM,bE,bC,hw,hb,hfl,aW]
    refine aJ (j+1+1) hgo (Ab hgo (Ad _)) ?_
    simp only[chS]
    refine⟨_,zU [4] (by simp) ?_ ?_ ?_⟩
    ·simp[-map_map,upd,aT,Γ0,htk]
    ·intro o' ho'
     injection ho' with ho';subst ho'
     exact⟨_,by simp[dT,aEa,zA],hsub _ _ _⟩
    ·simp[-map_map,upd,aT,Γ0,htk,eP,cX]
  ·have e:i=n:=by omega
   rcases i with _|j
   ·have q1:¬0<n:=by omega
    have hch:fJ m=[]:=Au (by omega)
    unfold chS
    simp[-map_map,-mapM_map,↓KW,q1,hch,aG]
   ·have q1:¬(j:Int)+1<n:=by omega
    have e2:(fJ m).take (j+1)=fJ m:=Ai (by omega)
    have hlt:(fJ m).length=j+1:=by omega
    have hfl:=tS (fJ m)
    rw[hlt]at hfl
    unfold chS
    simp[-map_map,-mapM_map,↓KW,q1,e2,hfl,hlt,uA hlt,nC hlt,aG]
end Go.Am
end

section
set_option linter.unusedVariables false
set_option linter.unusedSimpArgs false
open List (map_map mapM_map)
open Go Go.Am Go.Proofs
namespace Go.Am
def Keys(m:List (Int×Int)):Prop:=∀ x∈m,inr x.1=true
theorem Keys.all{m:List (Int×Int)}(h:Keys m):(m.map (·.1)).all inr=true:=by
 rw[AO]
 intro x hx
 obtain⟨y,hy,rfl⟩:=AE.1 hx
 exact h y hy
theorem aOw{m:List (Int×Int)}{n k:Int}{x:Int×Int}(h:x∈mI m n k):x∈m∨x=(n,getM m n+k):=by
 unfold mI at h
 split at h
 ·unfold xJ at h
  split at h
  ·exact .inl (List.mem_of_mem_eraseIdx h)
  ·exact .inl h
 ·unfold vW at h
  split at h
  ·rcases Ej h with h|h
   ·exact .inl h
   ·exact .inr h
  ·rcases A9.1 h with h|h
   ·exact .inl h
   ·exact .inr (by simpa using h)
theorem bIv(m:List (Int×Int))(n k:Int):(mI m n k).length≤m.length+1:=by
 unfold mI
 split
 ·unfold xJ
  split
  ·exact Ap (List.length_eraseIdx_le ..) (by omega)
  ·omega
 ·unfold vW
  split
  ·simp
  ·simp
theorem bIw{m:List (Int×Int)}{n k:Int}{M K:Nat}(hm:Bnd M m)(hk:k.natAbs≤K):Bnd (M+K) (mI m n k):=fun x hx=>by
 rcases aOw hx with h|rfl
 ·have:=hm x h;omega
 ·have:=nS hm n
  simp only;omega
theorem bAh{m:List (Int×Int)}{n k:Int}(hm:Keys m)(hn:inr n=true):Keys (mI m n k):=fun x hx=>by
 rcases aOw hx with h|rfl
 ·exact hm x h
 ·exact hn
def kV(m:List (Int×Int))(l:List (Int×Int)):List (Int×Int):=l.foldl (fun m f=>mI m f.1 f.2) m
theorem yC(m l:List (Int×Int))(i:Nat)(h:i<l.length):kV m (l.take (i+1))=mI (kV m (l.take i)) l[i].1 l[i].2:=by
 unfold kV
 rw[AJ,Aa h,C9];rfl
theorem aBb(m:List (Int×Int)):∀ l:List (Int×Int),(kV m l).length≤m.length+l.length:=by
 intro l
 unfold kV
 induction l generalizing m with
 |nil=>simp
 |cons x l ih =>
  have h1:=ih (mI m x.1 x.2)
  have h2:=bIv m x.1 x.2
  simp only[CG,AB];omega
theorem rL{M K:Nat}:∀(l m:List (Int×Int)),Bnd M m→Bnd K l→Bnd (M+l.length*K) (kV m l)
 |[],m,hm,_=>by simpa[kV]using hm
 |x::l,m,hm,hl=>by
  have h1:=bIw (n:=x.1) hm (hl x (Av ..))
  have h2:=rL l (mI m x.1 x.2) h1 (fun y hy=>hl y (As _ hy))
  refine(show Bnd _ (kV (mI m x.1 x.2) l)from h2).mono ?_
  rw[AB,Bp,Cn];omega
theorem sZ:∀(l m:List (Int×Int)),Keys m→Keys l→Keys (kV m l)
 |[],m,hm,_=>hm
 |x::l,m,hm,hl=>sZ l (mI m x.1 x.2) (bAh hm (hl x (Av ..))) fun y hy=>hl y (As _ hy)
theorem nG{H H':Nat→Option HO}{ρ:Nat→Nat}(m:List (Int×Int)):lU H H' ρ (.map .i64 (iU m)) (.map .i64 (iU m)):=aBc fun x hx=>by
 obtain⟨y,_,rfl⟩:=AE.1 hx
 refine⟨rfl,fun k c d hc hd=>?_⟩
 rw[hc]at hd;injection hd with hd;subst hd
 rcases k with _|_|k
 ·simp at hc;subst hc;exact(jO _ _).2 rfl
 ·simp at hc;subst hc;exact(jO _ _).2 rfl
 ·simp at hc
set_option maxHeartbeats 1000000 in
set_option maxRecDepth 10000 in
theorem aRu(l:List (Int×Int))(M:Nat)(hM:(aX (l.length*M)).length≤137438953472)(hb:Bnd M l)(hk:Keys l)(hl:l.length≤1073741824):Spec Tryz.prog 31 [aG l] (aG (fJ (kV [] l))):=by
 refine nH (N:=22) aI Tryz.func31 rfl rfl rfl (by kernel_rfl) (by kernel_rfl) (by kernel_rfl) (by kernel_rfl) rfl bQm (by simp) ?_
 simp[-map_map,-mapM_map,↓KW,aG]
 refine aU (fun i:Nat=>i≤l.length) (fun i=>StL [(3,.mp 1),(7,.d (aG l)),(8,.d (.i .i64 l.length)),(9,.d (.i .i64 i))] none [.map .i64 (iU (kV [] (l.take i)))]) (fun i=>l.length-i) 0 (An _) ?_ ?_
 ·refine aY [1] (by simp) ?_ ?_
  ·simp[-map_map,upd,aT,Γ0,aG]
  ·exact⟨⟨_,by simp[dT];rfl,nG []⟩,trivial⟩
 ·intro i hi
  have hbt:Bnd M (l.take i):=fun x hx=>hb x (Bs hx)
  have hbo:=rL (l.take i) [] (Bnd.nil 0) hbt
  have hko:=sZ (l.take i) [] (fun _ h=>by cases h) (fun x hx=>hk x (Bs hx))
  have hlo:=aBb [] (l.take i)
  have hti:(l.take i).length=i:=by simp;omega
  rw[hti]at hbo hlo
  have hle:0+i*M≤l.length*M:=by rw[Bf];exact AX _ (by omega)
  by_cases hgo:i<l.length
  ·have q1:(i:Int)<l.length:=by omega
   have hw7:Ah.wrap ((i:Int)+1)=(i:Int)+1:=aR (by omega) (by omega)
   have g1:l[i]? = some l[i]:=Aa hgo
   have hsu:=yC [] l i hgo
   have hbx:=hb _ (Ak hgo)
   have hle2:M≤l.length*M:=by
    have:1*M≤l.length*M:=AX _ (by omega)
    rwa [Cn]at this
   generalize l[i]=x at *
   obtain⟨xi,xc⟩:=x
   generalize kV [] (l.take i)=m at *
   simp only at hbx hsu
   have hadd:=aPm m xi xc (fP (Ap (nS hbo xi) hle) hM) (fP (Ap hbx hle2) hM)
   simp[-map_map,-mapM_map,↓KW,aG,q1,g1,bB,aK,aD]
   refine rV hadd (by simp) (id:=1) (by simp[iQ,dT]) (by simp[dT,mD]) (iI _) (by simp[iQ,dT,sW,pC,aKq,aHv]) (by simp[iQ,dT];rfl) rfl (iI _) ?_
   simp[-map_map,-mapM_map,↓KW,hw7]
   refine aJ (i+1) hgo (Ab hgo (Ad i)) (aY [1] (by simp) ?_ ?_)
   ·simp[-map_map,upd,aT,Γ0,aG]
   ·rw[hsu]
    exact⟨⟨_,by simp[dT],nG _⟩,trivial⟩
  ·have q1:¬(i:Int)<l.length:=by omega
   have e:l.take i=l:=Ai (by omega)
   have ei:i=l.length:=by omega
   rw[e]at hbo hko hlo
   rw[ei]at hbo hlo
   generalize hmm:kV [] l=m at *
   have hbo':Bnd (l.length*M) m:=hbo.mono (by omega)
   simp only[e,hmm]
   simp[-map_map,-mapM_map,↓KW,q1]
   refine rV (aKu m (fun q=>fP (nS hbo' q) hM) (by simp at hlo;omega) hko.all) (by simp) (id:=1) (by simp[iQ,dT,aIf]) (by simp[dT,mD]) (iI _) (by simp[pC]) (by rfl) rfl (iI _) ?_
   simp[-map_map,-mapM_map,↓KW,aG]
set_option maxHeartbeats 2000000 in
set_option maxRecDepth 10000 in
theorem aZr(a b:List (Int×Int))(k:Int)(A M K:Nat)(ha:Bnd A a)(hb:Bnd M b)(hk:k.natAbs≤K)(hA:(aX (a.length*A+b.length*(K*M))).length≤137438953472)(hA1:(aX A).length≤137438953472)(hKM:(aX (K*M)).length≤137438953472)(hK:(aX K).length≤137438953472)
  (hM:(aX M).length≤137438953472) (hka:Keys a) (hkb:Keys b) (hl:a.length+b.length≤1073741824):Spec Tryz.prog 57 [aG a,aG b,encZ k] (aG (fJ (kV (kV [] a) (mulR k b)))):=by
 refine nH (N:=43) aI Tryz.func57 rfl rfl rfl (by kernel_rfl) (by kernel_rfl) (by kernel_rfl) (by kernel_rfl) rfl bQl (by simp) ?_
 simp[-map_map,-mapM_map,↓KW,aG,bF,aK,aD]
 refine aU (fun i:Nat=>i≤a.length) (fun i=>StL [(1,.d (aG b)),(5,.ptr 1 0),(7,.mp 2),(13,.d (aG a)),(14,.d (.i .i64 a.length)),(15,.d (.i .i64 i))] none [.cells 74 [.d (.b (decide (k<0))),.d (aN (aX k.natAbs))],.map .i64 (iU (kV [] (a.take i)))]) (fun i=>a.length-i) 0 (An _) ?_ ?_
 ·refine aY [1,2] (by simp) ?_ ?_
  ·simp[-map_map,upd,aT,Γ0,aG]
  ·exact⟨⟨_,by simp[dT];rfl,by simp[-map_map,upd,aT,Γ0]⟩,⟨_,by simp[dT];rfl,nG []⟩,trivial⟩
 ·intro i hi
  have hbt:Bnd A (a.take i):=fun x hx=>ha x (Bs hx)
  have hbo:=rL (a.take i) [] (Bnd.nil 0) hbt
  have hti:(a.take i).length=i:=by simp;omega
  rw[hti]at hbo
  have hle:0+i*A≤a.length*A+b.length*(K*M):=by
   rw[Bf];exact Ap (AX _ (by omega)) (Nat.le_add_right _ _)
  by_cases hgo:i<a.length
  ·have q1:(i:Int)<a.length:=by omega
   have hw7:Ah.wrap ((i:Int)+1)=(i:Int)+1:=aR (by omega) (by omega)
   have g1:a[i]? = some a[i]:=Aa hgo
   have hsu:=yC [] a i hgo
   have hbx:=ha _ (Ak hgo)
   generalize a[i]=x at *
   obtain⟨xi,xc⟩:=x
   generalize kV [] (a.take i)=m at *
   simp only at hbx hsu
   have hadd:=aPm m xi xc (fP (Ap (nS hbo xi) hle) hA) (fP hbx hA1)
   simp[-map_map,-mapM_map,↓KW,aG,q1,g1,bB,aK,aD]
   refine rV hadd (by simp) (id:=2) (by simp[iQ,dT]) (by simp[dT,mD]) (iI _) (by simp[iQ,dT,sW,pC,aKq,aHv]) (by simp[iQ,dT];rfl) rfl (iI _) ?_
   simp[-map_map,-mapM_map,↓KW,hw7]
   refine aJ (i+1) hgo (Ab hgo (Ad i)) (aY [1,2] (by simp) ?_ ?_)
   ·simp[-map_map,upd,aT,Γ0,aG]
   ·rw[hsu]
    exact⟨⟨_,by simp[dT,mD];rfl,by simp[-map_map,upd,aT,Γ0]⟩,⟨_,by simp[dT],nG _⟩,trivial⟩
  ·have q1:¬(i:Int)<a.length:=by omega
   have e:a.take i=a:=Ai (by omega)
   have hba:=rL a [] (Bnd.nil 0) ha
   have hka':=sZ a [] (fun _ h=>by cases h) hka
   have hla:=aBb [] a
   simp only[e]
   generalize kV [] a=ma at *
   simp[-map_map,-mapM_map,↓KW,q1,aG]
   have hlm:(mulR k b).length=b.length:=by simp[mulR]
   have hkm:Keys (mulR k b):=fun x hx=>by
    obtain⟨y,hy,rfl⟩:=AE.1 hx
    exact hkb y hy
   refine aU (fun j:Nat=>j≤b.length) (fun j=>StL [(5,.ptr 1 0),(7,.mp 2),(26,.d (aG b)),(27,.d (.i .i64 b.length)),(28,.d (.i .i64 j))] none [.cells 74 [.d (.b (decide (k<0))),.d (aN (aX k.natAbs))],.map .i64 (iU (kV ma ((mulR k b).take j)))]) (fun j=>b.length-j) 0 (An _) ?_ ?_
   ·refine aY [1,2] (by simp) ?_ ?_
    ·simp[-map_map,upd,aT,Γ0,aG]
    ·exact⟨⟨_,by simp[dT,mD];rfl,by simp[-map_map,upd,aT,Γ0]⟩,⟨_,by simp[dT,mD,kV],nG _⟩,trivial⟩
   ·intro j hj
    have hbt2:Bnd (K*M) ((mulR k b).take j):=fun x hx=>pI hk hb x (Bs hx)
    have hbo2:=rL ((mulR k b).take j) ma hba hbt2
    have htj:((mulR k b).take j).length=j:=by simp;omega
    rw[htj]at hbo2
    have hle2:0+a.length*A+j*(K*M)≤a.length*A+b.length*(K*M):=by
     rw[Bf];exact En (AX _ (by omega)) _
    by_cases hgo2:j<b.length
    ·have q2:(j:Int)<b.length:=by omega
     have hw7:Ah.wrap ((j:Int)+1)=(j:Int)+1:=aR (by omega) (by omega)
     have g1:b[j]? = some b[j]:=Aa hgo2
     have hsu:=yC ma (mulR k b) j (by omega)
     have hgm:(mulR k b)[j]'(by omega)=(b[j].1,k*b[j].2):=by simp[mulR]
     rw[hgm]at hsu
     have hbx:=hb _ (Ak hgo2)
     generalize b[j]=x at *
     obtain⟨xi,xc⟩:=x
     generalize kV ma ((mulR k b).take j)=m at *
     simp only at hbx hsu
     have hkx:(k*xc).natAbs≤K*M:=by rw[BJ];exact B9 hk hbx
     have hadd:=aPm m xi (k*xc) (fP (Ap (nS hbo2 xi) hle2) hA) (fP hkx hKM)
     simp[-map_map,-mapM_map,↓KW,aG,q2,g1,bB,aK,aD]
     refine aA (ds:=[encZ k,encZ xc]) (by rfl) (tO k xc (fP hk hK) (fP hbx hM)) ?_
     simp[-map_map,-mapM_map,↓KW,bF,aK,aD]
     refine rV hadd (by simp) (id:=2) (by simp[iQ,dT]) (by simp[dT,mD]) (iI _) (by simp[iQ,dT,sW,pC,aKq,aHv]) (by simp[iQ,dT];rfl) rfl (iI _) ?_
     simp[-map_map,-mapM_map,↓KW,hw7]
     refine aJ (j+1) hgo2 (Ab hgo2 (Ad j)) (aY [1,2] (by simp) ?_ ?_)
     ·simp[-map_map,upd,aT,Γ0,aG]
     ·rw[hsu]
      exact⟨⟨_,by simp[dT,mD];rfl,by simp[-map_map,upd,aT,Γ0]⟩,⟨_,by simp[dT],nG _⟩,trivial⟩
    ·have q2:¬(j:Int)<b.length:=by omega
     have e2:(mulR k b).take j=mulR k b:=Ai (by omega)
     have ej:j=b.length:=by omega
     have hko:=sZ (mulR k b) ma hka' hkm
     have hlo:=aBb ma (mulR k b)
     rw[e2]at hbo2
     simp only[e2]
     generalize kV ma (mulR k b)=m at *
     have hbo3:=hbo2.mono hle2
     simp[-map_map,-mapM_map,↓KW,q2]
     refine rV (aKu m (fun q=>fP (nS hbo3 q) hA) (by simp at hla;omega) hko.all) (by simp) (id:=2) (by simp[iQ,dT,aIf]) (by simp[dT,mD]) (iI _) (by simp[pC]) (by rfl) rfl (iI _) ?_
     simp[-map_map,-mapM_map,↓KW,aG]
end Go.Am
end

section
set_option linter.unusedVariables false
set_option linter.unusedSimpArgs false
open Go Go.Am Go.Proofs
namespace Go.Am
def Val(l:List (Int×Int)):Prop:=l.Pairwise (fun x y=>x.1<y.1)∧∀ x∈l,x.2≠0
theorem cH(x:Int×Int)(l:List (Int×Int))(n:Int):getM (x::l) n=if x.1=n then x.2 else getM l n:=by
 unfold getM
 by_cases h:x.1=n
 ·have e:fnd n (x::l)=some 0:=by unfold fnd;rw[Ag h]
  rw[e,Ag h];rfl
 ·have e:fnd n (x::l)=(fnd n l).map (·+1):=by
   show(if x.1=n then some 0 else(fnd n l).map (·+1))=_
   rw[Ae h]
  rw[e,Ae h]
  cases fnd n l with
  |none=>rfl
  |some j=>simp
theorem gN(n:Int):getM [] n=0:=rfl
theorem fN{l:List (Int×Int)}{n:Int}(h:∀ y∈l,y.1≠n):getM l n=0:=by
 induction l with
 |nil=>rfl
 |cons x l ih =>
  rw[cH,Ae (h x (Av ..))]
  exact ih fun y hy=>h y (As _ hy)
theorem Val.tail{x:Int×Int}{l:List (Int×Int)}(h:Val (x::l)):Val l∧(∀ y∈l,x.1<y.1)∧x.2≠0 :=
 ⟨⟨(A5.1 h.1).2,fun y hy=>h.2 y (As _ hy)⟩,(A5.1 h.1).1,h.2 x (Av ..)⟩
theorem Val.cons{x:Int×Int}{l:List (Int×Int)}(h:Val l)(h1:∀ y∈l,x.1<y.1)(h2:x.2≠0):Val (x::l) :=
 ⟨A5.2 ⟨h1,h.1⟩,fun y hy=>by
  rcases AD.1 hy with rfl|hy
  ·exact h2
  ·exact h.2 y hy⟩
theorem Val.nil:Val []:=⟨List.Pairwise.nil,fun _ h=>by cases h⟩
theorem Val.ext:∀{a b:List (Int×Int)},Val a→Val b→(∀ n,getM a n=getM b n)→a=b
 |[],[],_,_,_=>rfl
 |[],y::b,_,hb,h=>by
  have:=h y.1
  rw[gN,cH,Ag rfl]at this
  exact(hb.tail.2.2 this.symm).elim
 |x::a,[],ha,_,h=>by
  have:=h x.1
  rw[gN,cH,Ag rfl]at this
  exact(ha.tail.2.2 this).elim
 |x::a,y::b,ha,hb,h=>by
  obtain⟨a1,a2,a3⟩:=ha.tail
  obtain⟨b1,b2,b3⟩:=hb.tail
  rcases D4 x.1 y.1 with hxy|hxy|hxy
  ·exfalso
   have:=h x.1
   rw[cH,Ag rfl,cH,Ae (by omega),fN (fun z hz=>by have:=b2 z hz;omega)]at this
   exact a3 this
  ·have h1:=h x.1
   rw[cH,Ag rfl,cH,Ag hxy.symm]at h1
   have e:x=y:=Prod.ext hxy h1
   subst e
   rw[Val.ext a1 b1 fun n=>by
    by_cases hn:x.1=n
    ·subst hn
     rw[fN (fun z hz=>by have:=a2 z hz;omega),fN (fun z hz=>by have:=b2 z hz;omega)]
    ·have:=h n
     rwa [cH,Ae hn,cH,Ae hn]at this]
  ·exfalso
   have:=h y.1
   rw[cH,Ae (by omega),fN (fun z hz=>by have:=a2 z hz;omega),cH,Ag rfl]at this
   exact b3 this.symm
def yL(id z:Int):List (Int×Int)→List (Int×Int)
 |[]=>[(id,z)]
 |x::l=>if x.1>id then(id,z)::x::l else if x.1=id then(if x.2+z=0 then l else(id,x.2+z)::l)else x::yL id z l
theorem nU(id z:Int):∀(l out:List (Int×Int)),l.foldl (fD id z) (out,true)=(out++l,true)
 |[],out=>by simp
 |x::l,out=>by
  have e:fD id z (out,true) x=(out++[x],true):=rfl
  rw[CG,e,nU id z l];simp
def bTv(f:Int×Int)(s:List (Int×Int)×Bool):List (Int×Int):=if s.2 then s.1 else s.1++[f]
theorem tR(f:Int×Int)(out:List (Int×Int)):bTv f (out,true)=out:=rfl
theorem aCx(id z:Int):∀(l out:List (Int×Int)),bTv (id,z) (l.foldl (fD id z) (out,false))=out++yL id z l
 |[],out=>rfl
 |x::l,out=>by
  rw[CG,yL]
  by_cases h1:x.1>id
  ·have e:fD id z (out,false) x=(out++[(id,z),x],true):=by simp[fD,h1]
   rw[e,nU,Ag h1,tR];simp
  ·rw[Ae h1]
   by_cases h2:x.1=id
   ·rw[Ag h2]
    by_cases h3:x.2+z=0
    ·have e:fD id z (out,false) x=(out,true):=by simp[fD,h1,h2,h3]
     rw[e,nU,Ag h3,tR]
    ·have e:fD id z (out,false) x=(out++[(id,x.2+z)],true):=by simp[fD,h1,h2,h3]
     rw[e,nU,Ae h3,tR];simp
   ·rw[Ae h2]
    have e:fD id z (out,false) x=(out++[x],false):=by simp[fD,h1,h2]
    rw[e,aCx id z l (out++[x])];simp
theorem aVb(l:List (Int×Int))(id z:Int):nA l (id,z)=if z=0 then l else yL id z l:=by
 have e:nA l (id,z)=bTv (id,z) (l.foldl (fD id z) ([],decide (z=0))):=rfl
 rw[e]
 by_cases h:z=0
 ·rw[Ag h]
  have:decide (z=0)=true:=by simpa using h
  rw[this,nU,tR];simp
 ·rw[Ae h]
  have:decide (z=0)=false:=by simpa using h
  rw[this,aCx];simp
theorem aNn{id z:Int}(hz:z≠0):∀{l:List (Int×Int)},Val l→Val (yL id z l)∧(∀ y∈yL id z l,y.1=id∨∃ x∈l,x.1=y.1)∧∀ n,getM (yL id z l) n=getM l n+if n=id then z else 0
 |[],_=>by
  refine⟨Val.nil.cons (fun y hy=>by cases hy) hz,fun y hy=>?_,fun n=>?_⟩
  ·simp[yL]at hy;subst hy;exact .inl rfl
  ·simp only[yL,cH,gN]
   by_cases h:n=id
   ·subst h;simp
   ·rw[Ae (fun e=>h e.symm),Ae h];rfl
 |x::l,h=>by
  obtain⟨h1,h2,h3⟩:=h.tail
  simp only[yL]
  by_cases hgt:x.1>id
  ·rw[Ag hgt]
   refine⟨h.cons (fun y hy=>?_) hz,fun y hy=>?_,fun n=>?_⟩
   ·rcases AD.1 hy with rfl|hy
    ·exact hgt
    ·have:=h2 y hy;simp only;omega
   ·rcases AD.1 hy with rfl|hy
    ·exact .inl rfl
    ·exact .inr ⟨y,hy,rfl⟩
   ·rw[cH]
    by_cases hn:n=id
    ·subst hn
     rw[Ag rfl,Ag rfl,fN (l:=x::l) fun y hy=>?_,Int.zero_add]
     rcases AD.1 hy with rfl|hy
     ·omega
     ·have:=h2 y hy;omega
    ·rw[Ae (fun e=>hn e.symm),Ae hn,DA]
  ·rw[Ae hgt]
   by_cases heq:x.1=id
   ·rw[Ag heq]
    by_cases h0:x.2+z=0
    ·rw[Ag h0]
     refine⟨h1,fun y hy=>.inr ⟨y,As _ hy,rfl⟩,fun n=>?_⟩
     rw[cH]
     by_cases hn:n=id
     ·subst hn
      rw[Ag heq,Ag rfl,fN (fun y hy=>by have:=h2 y hy;omega)];omega
     ·rw[Ae (by omega),Ae hn,DA]
    ·rw[Ae h0]
     refine⟨h1.cons (fun y hy=>by have:=h2 y hy;simp only;omega) h0,fun y hy=>?_,fun n=>?_⟩
     ·rcases AD.1 hy with rfl|hy
      ·exact .inl rfl
      ·exact .inr ⟨y,As _ hy,rfl⟩
     ·rw[cH,cH]
      by_cases hn:n=id
      ·subst hn
       rw[Ag rfl,Ag heq,Ag rfl]
      ·rw[Ae (fun e=>hn e.symm),Ae (by omega),Ae hn,DA]
   ·rw[Ae heq]
    obtain⟨i1,i2,i3⟩:=aNn (id:=id) hz h1
    refine⟨i1.cons (fun y hy=>?_) h3,fun y hy=>?_,fun n=>?_⟩
    ·rcases i2 y hy with h|⟨w,hw,h⟩
     ·omega
     ·have:=h2 w hw;omega
    ·rcases AD.1 hy with rfl|hy
     ·exact .inr ⟨_,Av ..,rfl⟩
     ·rcases i2 y hy with h|⟨w,hw,h⟩
      ·exact .inl h
      ·exact .inr ⟨w,As _ hw,h⟩
    ·rw[cH,cH,i3 n]
     by_cases hx:x.1=n
     ·rw[Ag hx,Ag hx,Ae (by omega)];omega
     ·rw[Ae hx,Ae hx]
theorem bFj{l:List (Int×Int)}(h:Val l)(f:Int×Int):Val (nA l f)∧∀ n,getM (nA l f) n=getM l n+if n=f.1 then f.2 else 0:=by
 obtain⟨id,z⟩:=f
 rw[aVb]
 by_cases hz:z=0
 ·rw[Ag hz]
  exact⟨h,fun n=>by simp only[hz];simp⟩
 ·rw[Ae hz]
  obtain⟨h1,_,h3⟩:=aNn (id:=id) hz h
  exact⟨h1,h3⟩
def cf(n:Int):List (Int×Int)→Int
 |[]=>0
 |x::l=>(if n=x.1 then x.2 else 0)+cf n l
theorem cO:∀(b a:List (Int×Int)),Val a→Val (bV a b)∧∀ n,getM (bV a b) n=getM a n+cf n b
 |[],a,h=>⟨h,fun n=>by simp[bV,cf]⟩
 |x::b,a,h=>by
  obtain⟨h1,h2⟩:=bFj h x
  obtain⟨h3,h4⟩:=cO b (nA a x) h1
  refine⟨h3,fun n=>?_⟩
  show getM (bV (nA a x) b) n=_
  rw[h4 n,h2 n]
  simp only[cf];omega
/-! The map -/
theorem aXm(x:Int×Int)(m:List (Int×Int))(n v:Int):vW (x::m) n v=if x.1=n then(n,v)::m else x::vW m n v:=by
 unfold vW
 by_cases h:x.1=n
 ·have e:fnd n (x::m)=some 0:=by unfold fnd;rw[Ag h]
  rw[e,Ag h];rfl
 ·have e:fnd n (x::m)=(fnd n m).map (·+1):=by
   show(if x.1=n then some 0 else(fnd n m).map (·+1))=_
   rw[Ae h]
  rw[e,Ae h]
  cases fnd n m with
  |none=>rfl
  |some j=>simp
theorem aZm(x:Int×Int)(m:List (Int×Int))(n:Int):xJ (x::m) n=if x.1=n then m else x::xJ m n:=by
 unfold xJ
 by_cases h:x.1=n
 ·have e:fnd n (x::m)=some 0:=by unfold fnd;rw[Ag h]
  rw[e,Ag h];rfl
 ·have e:fnd n (x::m)=(fnd n m).map (·+1):=by
   show(if x.1=n then some 0 else(fnd n m).map (·+1))=_
   rw[Ae h]
  rw[e,Ae h]
  cases fnd n m with
  |none=>rfl
  |some j=>simp
def Mp(m:List (Int×Int)):Prop:=m.Pairwise (fun x y=>x.1≠y.1)∧∀ x∈m,x.2≠0
theorem Mp.tail{x:Int×Int}{l:List (Int×Int)}(h:Mp (x::l)):Mp l∧(∀ y∈l,x.1≠y.1)∧x.2≠0 :=
 ⟨⟨(A5.1 h.1).2,fun y hy=>h.2 y (As _ hy)⟩,(A5.1 h.1).1,h.2 x (Av ..)⟩
theorem Mp.cons{x:Int×Int}{l:List (Int×Int)}(h:Mp l)(h1:∀ y∈l,x.1≠y.1)(h2:x.2≠0):Mp (x::l) :=
 ⟨A5.2 ⟨h1,h.1⟩,fun y hy=>by
  rcases AD.1 hy with rfl|hy
  ·exact h2
  ·exact h.2 y hy⟩
theorem Mp.nil:Mp []:=⟨List.Pairwise.nil,fun _ h=>by cases h⟩
theorem aTy{n v:Int}(hv:v≠0):∀{m:List (Int×Int)},Mp m→Mp (vW m n v)∧(∀ y∈vW m n v,y.1=n∨∃ x∈m,x.1=y.1)∧∀ k,getM (vW m n v) k=if k=n then v else getM m k
 |[],_=>by
  have e:vW [] n v=[(n,v)]:=rfl
  rw[e]
  refine⟨Mp.nil.cons (fun y hy=>by cases hy) hv,fun y hy=>?_,fun k=>?_⟩
  ·simp at hy;subst hy;exact .inl rfl
  ·rw[cH]
   by_cases h:k=n
   ·subst h;simp
   ·rw[Ae (fun e=>h e.symm),Ae h]
 |x::m,h=>by
  obtain⟨h1,h2,h3⟩:=h.tail
  rw[aXm]
  by_cases hx:x.1=n
  ·rw[Ag hx]
   refine⟨h1.cons (fun y hy=>by have:=h2 y hy;simp only;omega) hv,fun y hy=>?_,fun k=>?_⟩
   ·rcases AD.1 hy with rfl|hy
    ·exact .inl rfl
    ·exact .inr ⟨y,As _ hy,rfl⟩
   ·rw[cH,cH]
    by_cases h:k=n
    ·subst h;simp
    ·rw[Ae (fun e=>h e.symm),Ae h,Ae (by omega)]
  ·rw[Ae hx]
   obtain⟨i1,i2,i3⟩:=aTy (n:=n) hv h1
   refine⟨i1.cons (fun y hy=>?_) h3,fun y hy=>?_,fun k=>?_⟩
   ·rcases i2 y hy with h|⟨w,hw,h⟩
    ·omega
    ·have:=h2 w hw;omega
   ·rcases AD.1 hy with rfl|hy
    ·exact .inr ⟨_,Av ..,rfl⟩
    ·rcases i2 y hy with h|⟨w,hw,h⟩
     ·exact .inl h
     ·exact .inr ⟨w,As _ hw,h⟩
   ·rw[cH,cH,i3 k]
    by_cases hk:x.1=k
    ·rw[Ag hk,Ag hk,Ae (by omega)]
    ·rw[Ae hk,Ae hk]
theorem aVp{n:Int}:∀{m:List (Int×Int)},Mp m→Mp (xJ m n)∧(∀ y∈xJ m n,y∈m)∧∀ k,getM (xJ m n) k=if k=n then 0 else getM m k
 |[],h=>⟨h,fun y hy=>hy,fun k=>by
   have e:xJ [] n=[]:=rfl
   rw[e,gN];simp⟩
 |x::m,h=>by
  obtain⟨h1,h2,h3⟩:=h.tail
  rw[aZm]
  by_cases hx:x.1=n
  ·rw[Ag hx]
   refine⟨h1,fun y hy=>As _ hy,fun k=>?_⟩
   rw[cH]
   by_cases hk:k=n
   ·subst hk
    rw[Ag rfl,fN (fun y hy=>by have:=h2 y hy;omega)]
   ·rw[Ae hk,Ae (by omega)]
  ·rw[Ae hx]
   obtain⟨i1,i2,i3⟩:=aVp (n:=n) h1
   refine⟨i1.cons (fun y hy=>h2 y (i2 y hy)) h3,fun y hy=>?_,fun k=>?_⟩
   ·rcases AD.1 hy with rfl|hy
    ·exact Av ..
    ·exact As _ (i2 y hy)
   ·rw[cH,cH,i3 k]
    by_cases hk:x.1=k
    ·rw[Ag hk,Ag hk,Ae (by omega)]
    ·rw[Ae hk,Ae hk]
theorem bPx{m:List (Int×Int)}(h:Mp m)(n k:Int):Mp (mI m n k)∧∀ j,getM (mI m n k) j=getM m j+if j=n then k else 0:=by
 unfold mI
 by_cases h0:getM m n+k=0
 ·rw[Ag h0]
  obtain⟨h1,_,h3⟩:=aVp (n:=n) h
  refine⟨h1,fun j=>?_⟩
  rw[h3 j]
  by_cases hj:j=n
  ·subst hj;rw[Ag rfl,Ag rfl];omega
  ·rw[Ae hj,Ae hj];omega
 ·rw[Ae h0]
  obtain⟨h1,_,h3⟩:=aTy (n:=n) h0 h
  refine⟨h1,fun j=>?_⟩
  rw[h3 j]
  by_cases hj:j=n
  ·subst hj;rw[Ag rfl,Ag rfl]
  ·rw[Ae hj,Ae hj];omega
theorem zW:∀(l m:List (Int×Int)),Mp m→Mp (kV m l)∧∀ j,getM (kV m l) j=getM m j+cf j l
 |[],m,h=>⟨h,fun n=>by simp[kV,cf]⟩
 |x::l,m,h=>by
  obtain⟨h1,h2⟩:=bPx h x.1 x.2
  obtain⟨h3,h4⟩:=zW l (mI m x.1 x.2) h1
  refine⟨h3,fun n=>?_⟩
  show getM (kV (mI m x.1 x.2) l) n=_
  rw[h4 n,h2 n]
  simp only[cf];omega
theorem aNx(g:Int→Int):∀(l:List Int) (n:Int),getM (l.map fun n=>(n,g n)) n=if n∈l then g n else 0
 |[],n=>rfl
 |x::l,n=>by
  rw[AR,cH,aNx g l n]
  by_cases h:x=n
  ·subst h;simp
  ·have h':¬n=x:=fun e=>h e.symm
   simp[h,h']
theorem bGg{n:Int}{m:List (Int×Int)}(h:n ∉ m.map (·.1)):getM m n=0:=fN fun y hy e=>h (e ▸ EY hy)
theorem bFv{m:List (Int×Int)}(h:Mp m){n:Int}(hn:n∈m.map (·.1)):getM m n≠0:=by
 unfold getM
 have hs:=aCz hn
 cases hf:fnd n m with
 |none=>rw[hf]at hs;cases hs
 |some j =>
  obtain⟨z,hz⟩:=aCy hf
  simp only[Ac,hz,Ba]
  exact h.2 _ (Aq hz)
theorem aDu{m:List (Int×Int)}(h:Mp m):Val (fJ m)∧∀ n,getM (fJ m) n=getM m n:=by
 refine⟨⟨?_,fun x hx=>?_⟩,fun n=>?_⟩
 ·unfold fJ
  rw[Cs]
  have h1:=Go.Proofs.isort_sorted (m.map (·.1))
  have h0:(m.map (·.1)).Pairwise (fun a b:Int=>a≠b):=by rw[Cs];exact h.1
  have h2:(fT (m.map (·.1))).Pairwise (fun a b:Int=>a≠b):=(Go.Proofs.isort_perm (m.map (·.1))).symm.pairwise h0 (fun{x y} (hxy:x≠y)=>Ne.symm hxy)
  exact(h1.and h2).imp fun⟨a,b⟩=>by simp only;omega
 ·obtain⟨n,hn,rfl⟩:=AE.1 hx
  exact bFv h ((pP n _).1 hn)
 ·unfold fJ
  rw[aNx]
  by_cases hn:n∈m.map (·.1)
  ·rw[Ag ((pP n _).2 hn)]
  ·rw[Ae (fun h=>hn ((pP n _).1 h)),bGg hn]
theorem fS:∀{l:List (Int×Int)},Val l→∀ n,cf n l=getM l n
 |[],_,_=>rfl
 |x::l,h,n=>by
  obtain⟨h1,h2,_⟩:=h.tail
  rw[cf,fS h1,cH]
  by_cases hx:x.1=n
  ·subst hx
   rw[Ag rfl,Ag rfl,fN (fun y hy=>by have:=h2 y hy;omega)];omega
  ·rw[Ae (fun e=>hx e.symm),Ae hx];omega
theorem bNc(l:List (Int×Int)):fJ (kV [] l)=bV [] l:=by
 obtain⟨h1,h2⟩:=zW l [] Mp.nil
 obtain⟨h3,h4⟩:=aDu h1
 obtain⟨h5,h6⟩:=cO l [] Val.nil
 exact h3.ext h5 fun n=>by rw[h4 n,h2 n,h6 n]
theorem add_eq{a:List (Int×Int)}(ha:Val a)(c:List (Int×Int)):fJ (kV (kV [] a) c)=bV a c:=by
 obtain⟨h1,h2⟩:=zW a [] Mp.nil
 obtain⟨h1',h2'⟩:=zW c _ h1
 obtain⟨h3,h4⟩:=aDu h1'
 obtain⟨h5,h6⟩:=cO c a ha
 exact h3.ext h5 fun n=>by rw[h4 n,h2' n,h2 n,h6 n,fS ha,gN];omega
theorem uR{l:List (Int×Int)}(h:Val l):uQ l=true:=by
 refine yY fun j hj=>?_
 unfold aMm
 have g:=bFw hj
 have h1:(l.getD j (0,0)).2≠0:=h.2 _ (Aq g)
 rw[AI,Dd]
 refine⟨by simpa using h1,?_⟩
 rcases j with _|k
 ·exact .inl rfl
 ·refine .inr ?_
  have hk:k<l.length:=by omega
  have:=List.pairwise_iff_getElem.1 h.1 k (k+1) hk hj (by omega)
  rw[A7,Ac,Ac,Aa hj,Aa hk]
  simpa using this
end Go.Am
end

section
set_option linter.unusedVariables false
set_option linter.unusedSimpArgs false
open Go Go.Am Go.Proofs
namespace Go.Am
theorem aRp{n:Nat}(h:n<340282366920938463463374607431768211456):(aX n).length≤137438953472:=by
 have e:(4294967296:Nat)^4=340282366920938463463374607431768211456:=by decide
 have:=fC (n:=n) (k:=4) (by rw[e];exact h)
 omega
end Go.Am
end

section
set_option linter.unusedVariables false
set_option linter.unusedSimpArgs false
open Go Go.Am Go.Proofs
namespace Go.Am
def lin(a b:List (Int×Int))(k:Int):List (Int×Int):=bV a (mulR k b)
theorem aJk(k n:Int):∀ b:List (Int×Int),cf n (mulR k b)=k*cf n b
 |[]=>by simp[mulR,cf]
 |x::b=>by
  have ih:=aJk k n b
  show(if n=x.1 then k*x.2 else 0)+cf n (mulR k b)=k*((if n=x.1 then x.2 else 0)+cf n b)
  rw[ih,Int.mul_add]
  split<;>simp
theorem bHn(n:Int):∀ a b:List (Int×Int),cf n (a++b)=cf n a+cf n b
 |[],b=>by simp[cf]
 |x::a,b=>by
  have ih:=bHn n a b
  simp only[List.cons_append,cf,ih];omega
theorem aAf{a b:List (Int×Int)}(ha:Val a)(hb:Val b)(k:Int):Val (lin a b k)∧∀ n,getM (lin a b k) n=getM a n+k*getM b n:=by
 obtain⟨h1,h2⟩:=cO (mulR k b) a ha
 exact⟨h1,fun n=>by show getM (bV a (mulR k b)) n=_;rw[h2 n,aJk,fS hb]⟩
structure Small(a:List (Int×Int)):Prop where
 val:Val a
 keys:Keys a
 bnd:Bnd 1000000000000 a
 len:a.length≤100
theorem Small.sz{a:List (Int×Int)}(h:Small a):∀ x∈a,Sz x.2:=fun x hx=>fP (h.bnd x hx) (aRp (by decide))
theorem Small.nil:Small []:=⟨Val.nil,(fun _ h=>by cases h),Bnd.nil _,An _⟩
end Go.Am
end

section
set_option linter.unusedVariables false
set_option linter.unusedSimpArgs false
open Go Go.Am Go.Proofs
namespace Go.Am
def qP(z:Int):List D:=[.b (decide (z<0)),aN (aX z.natAbs)]
def bO(v:List Int):D:=.sl (v.map qP)
def vcs(v:List Int):List D:=(v.map qP).flatten
theorem eO(l:List Int):(vcs l).length=l.length*2:=by
 unfold vcs
 induction l with
 |nil=>rfl
 |cons x l ih=>simp only[AR,BP,Al,ih,qP,AB,A8];omega
theorem aTf:vcs []=[]:=rfl
theorem aTg(a b:List Int):vcs (a++b)=vcs a++vcs b:=by simp[vcs]
theorem aTe(z:Int):vcs [z]=[.b (decide (z<0)),aN (aX z.natAbs)]:=rfl
theorem aAl(z:Int):qP z=[.b (decide (z<0)),aN (aX z.natAbs)]:=rfl
theorem aZp(l:List (List D))(h:∀ x∈l,x.length=2):chunk 2 l.length l.flatten=l:=by
 induction l with
 |nil=>rfl
 |cons a l ih =>
  have ha:=h a (Av ..)
  have:=ih fun x hx=>h x (As _ hx)
  unfold chunk at this ⊢
  rw[AB,DU,AR,C3,BP]
  congr 1
  ·simp[ha]
  ·conv=>rhs;rw[←this]
   apply Bu
   intro i _
   simp only[Function.comp]
   rw[show Nat.succ i*2=a.length+i*2 from by omega,List.drop_append,Bo (by omega)]
   simp
theorem tY{l:List Int}{n:Nat}(h:l.length=n):chunk 2 n (vcs l)=l.map qP:=by
 subst h
 have:=aZp (l.map qP) (fun x hx=>by obtain⟨y,_,rfl⟩:=AE.1 hx;rfl)
 rwa [AN]at this
theorem mQ{l:List Int}{n:Nat}(h:l.length=n):Cd (n*2) ((vcs l).map AV.d)=(vcs l).map AV.d:=Ai (by simp[eO,h])
def bN(rows cols:Int)(A:List (List Int)):D:=.ag [.i .i64 rows,.i .i64 cols,.sl (A.map fun v=>[bO v])]
theorem uH{H H':Nat→Option HO}{ρ:Nat→Nat}{a o l s b o' l' s':Nat}:oB H H' ρ (.own a o l s) (.own b o' l' s')↔(a=ρ b∧o=o'∧l=l'∧s=s'∧(H' b).isSome=true):=Iff.rfl
theorem aCv{H:Nat→Option HO}{B:Nat}{e:TypeId}{v:List Int}{n:Nat}(m:Nat)(hB:H B=some (.cells e ((vcs v).map .d)))(hv:v.length=n):frz H (m+2) (.own B 0 n 2)=some (bO v):=by
 have hl:=eO v
 rw[hv]at hl
 rw[iS,hB]
 simp only[Bf,AN,hl,Nat.zero_mul,List.drop_zero]
 rw[mQ hv,Ag ⟨Az _,by decide⟩]
 have:List.mapM (frz H (m+1)) ((vcs v).map AV.d)=some (vcs v):=nP H m (vcs v)
 rw[this,AW,tY hv];rfl
theorem pD(z:Int)(v:List Int):vcs (z::v)=qP z++vcs v:=by simp[vcs]
theorem gK:∀{v:List Int} {k:Nat} {z:Int},v[k]? = some z→((vcs v).drop (k*2)).take 2=qP z
 |[],k,z,h=>by simp at h
 |y::v,0,z,h=>by
  simp at h;subst h
  rw[pD];rfl
 |y::v,k+1,z,h=>by
  have ih:=gK (v:=v) (k:=k) (z:=z) (by simpa using h)
  rw[pD,show(k+1)*2=k*2+2 by omega,←ih]
  rw[CB,←List.drop_drop]
  rfl
theorem aTd:∀{v:List Int} {k:Nat} (z:Int),k<v.length→(vcs v).take (k*2)++qP z++(vcs v).drop (k*2+2)=vcs (v.set k z)
 |[],k,z,h=>by simp at h
 |y::v,0,z,h=>by
  rw[Es,pD,pD];rfl
 |y::v,k+1,z,h=>by
  have ih:=aTd (v:=v) (k:=k) z (by simpa using h)
  rw[List.set_cons_succ,pD,pD,←ih,show(k+1)*2=2+k*2 by omega,show 2+k*2+2=2+(k*2+2)by omega]
  have e1:∀ n,Cd (2+n) (qP y++vcs v)=qP y++Cd n (vcs v):=fun n=>by rw[List.take_append,Ai (by show 2≤2+n;omega)];congr 2;show 2+n-2=n;omega
  have e2:∀ n,C1 (2+n) (qP y++vcs v)=C1 n (vcs v):=fun n=>by rw[←List.drop_drop];rfl
  rw[e1,e2];simp
theorem mapM_some{α β:Type}(f:α→Option β)(g:Nat→β):∀(l:List α),(∀ k x,l[k]? = some x→f x=some (g k))→l.mapM f=some ((Db l.length).map g)
 |[],_=>rfl
 |x::l,h=>by
  rw[B7,h 0 x rfl,mapM_some f (fun k=>g (k+1)) l fun k y hy=>h (k+1) y (by simpa using hy),AB,DU]
  simp[Function.comp_def]
def zr(cols:Nat):List AV:=(Ay cols [AV.d (.b false),AV.nil]).flatten
theorem bJt{H H':Nat→Option HO}{ρ:Nat→Nat}(cols:Nat):iF H H' ρ (zr cols) (zr cols):=by
 refine eK.2 ⟨rfl,fun k c d h1 h2=>?_⟩
 rw[h1]at h2;injection h2 with h2;subst h2
 have hm:=Aq h1
 unfold zr at hm
 rw[List.mem_flatten]at hm
 obtain⟨l,hl,hc⟩:=hm
 rw[List.eq_of_mem_replicate hl]at hc
 rcases AD.1 hc with rfl|hc
 ·exact(jO _ _).2 rfl
 ·rw[AP.1 hc];trivial
theorem aPd{H H':Nat→Option HO}{ρ:Nat→Nat}:∀ c:Nat,iF H H' ρ (zr c) ((vcs (Ay c 0)).map .d)
 |0=>trivial
 |c+1=>by
  have ih:=aPd (H:=H) (H':=H') (ρ:=ρ) c
  have e1:zr (c+1)=AV.d (.b false)::AV.nil::zr c:=by simp[zr,Dh]
  have e2:(vcs (Ay (c+1) 0)).map AV.d=AV.d (.b (decide ((0:Int)<0)))::AV.d (aN (aX (0:Int).natAbs))::(vcs (Ay c 0)).map AV.d:=by
   rw[Dh];rfl
  rw[e1,e2]
  refine⟨?_,?_,ih⟩
  ·exact(jO _ _).2 rfl
  ·exact⟨by rw[show((0:Int).natAbs)=0 from rfl,cP];rfl,fun a ha=>by simp[vis]at ha⟩
def nwV(rows cols m:Nat):AV:=.ag [.d (.i .i64 (rows:Int)),.d (.i .i64 (cols:Int)),.own m 0 rows 1]
end Go.Am
end

section
set_option linter.unusedVariables false
set_option linter.unusedSimpArgs false
open List (map_map mapM_map)
open Go Go.Am Go.Proofs
namespace Go.Am
theorem fV{P:Program}(σ:St)(x y:ResultVar):mW P [x,y] σ=(mE P σ x).bind fun a=>(mE P σ y).bind fun b=>(frz σ.H 8 a).bind fun u=>(frz σ.H 8 b).bind fun v=>some (.tp [u,v]):=by
 unfold mW
 cases h1:mE P σ x<;>cases h2:mE P σ y<;>simp[iB,h1,h2]
 rename_i a b
 cases frz σ.H 8 a<;>cases frz σ.H 8 b<;>simp
theorem cN{P:Program}(σ:St)(x y z:ResultVar):mW P [x,y,z] σ=(mE P σ x).bind fun a=>(mE P σ y).bind fun b=>(mE P σ z).bind fun c=>(frz σ.H 8 a).bind fun u=>(frz σ.H 8 b).bind fun v=>(frz σ.H 8 c).bind fun w=>some (.tp [u,v,w]):=by
 unfold mW
 cases h1:mE P σ x<;>cases h2:mE P σ y<;>cases h3:mE P σ z<;>simp[iB,h1,h2,h3]
 rename_i a b c
 cases frz σ.H 8 a<;>cases frz σ.H 8 b<;>cases frz σ.H 8 c<;>simp
def shS(a:List Nat)(d:Nat):Nat→List Nat×Nat
 |0=>(Ay a.length 0,0)
 |k+1=>((shS a d k).1.set (a.length-1-k) (((shS a d k).2*4294967296+a.getD (a.length-1-k) 0)/d),((shS a d k).2*4294967296+a.getD (a.length-1-k) 0)%d)
theorem bBn{o v v' p q d r r' x t t' w:Nat}(hs:v'+p*o=v+p*q)(ho:o=0)(ht:r*4294967296+x=t)(hq:r'+d*q=t)(hv:v*d+p*4294967296*r+(t'+p*x)=w):v'*d+p*r'+t'=w:=by
 subst ho
 have h1:v'=v+p*q:=by omega
 have h2:p*t=p*(r*4294967296)+p*x:=by rw[←ht,BX]
 have h3:p*t=p*r'+p*(d*q):=by rw[←hq,BX]
 have h4:p*q*d=p*(d*q):=by rw[BF,BU q]
 have h5:p*4294967296*r=p*(r*4294967296):=by rw[BF,BU r]
 rw[h1,Bp,h4]
 omega
theorem bQk{r x d:Nat}(hr:r<d)(hx:x<4294967296):(r*4294967296+x)/d<4294967296:=by
 rw[Nat.div_lt_iff_lt_mul (by omega)]
 have:r*4294967296+4294967296≤d*4294967296:=by
  have:=AX 4294967296 (Nat.succ_le_of_lt hr)
  rw[Nat.succ_mul]at this;exact this
 rw[BU 4294967296]
 omega
theorem aTn{a:List Nat}{d:Nat}(ha:Lim a)(hd:0<d)(k:Nat)(hk:k≤a.length) :
  (shS a d k).1.length=a.length∧(shS a d k).2<d∧Lim (shS a d k).1∧(∀ i,i<a.length-k→(shS a d k).1.getD i 0=0) ∧
  val (shS a d k).1*d+4294967296^(a.length-k)*(shS a d k).2+val (a.take (a.length-k))=val a:=by
 induction k with
 |zero=>exact⟨by simp[shS],hd,.rep _,fun i _=>by simp[shS,Ct];split<;>rfl,by simp[shS,zV]⟩
 |succ k ih =>
  obtain⟨h1,h2,h3,h4,h5⟩:=ih (by omega)
  obtain⟨j,hj⟩:∃ j,a.length-1-k=j:=⟨_,rfl⟩
  have hj1:a.length-k=j+1:=by omega
  have hj2:a.length-(k+1)=j:=by omega
  have hx:=ha.getD j
  have hset:=aHx (l:=(shS a d k).1) (j:=j) (by omega) (((shS a d k).2*4294967296+a.getD j 0)/d)
  have hoj:=h4 j (by omega)
  simp only[shS,hj,hj2]
  rw[hj1,dH,Cf]at h5
  have hlt:=bQk h2 hx
  refine⟨by simp[h1],D9 _ hd,h3.set _ hlt,fun i hi=>?_,?_⟩
  ·rw[Ac,EO (by omega),←Ac]
   exact h4 i (by omega)
  ·exact bBn hset hoj rfl (Nat.mod_add_div _ _) h5
def shQ(a:List Nat)(d:Nat):List Nat:=(shS a d a.length).1
theorem aIg{a:List Nat}{d:Nat}(ha:Lim a)(hd:0<d):(shQ a d).length=a.length∧Lim (shQ a d)∧val (shQ a d)=val a/d∧(shS a d a.length).2=val a%d:=by
 obtain⟨h1,h2,h3,_,h5⟩:=aTn ha hd a.length (Az _)
 rw[Cq,Nat.pow_zero,Cn,BZ,val,BW]at h5
 have:=(Nat.div_mod_unique hd).2 ⟨show(shS a d a.length).2+d*val (shQ a d)=val a by rw[BU,CB];exact h5,h2⟩
 exact⟨h1,h3,this.1.symm,this.2.symm⟩
set_option maxRecDepth 10000 in
theorem aLv(a:List Nat)(d:Nat)(ha:Lim a)(hd:0<d)(hd2:d<4294967296)(hla:a.length≤1099511627776):Spec Tryz.prog 161 [aN a,.i .u32 d] (.tp [aN (shQ a d),.i .u32 ((val a%d:Nat):Int)]):=by
 refine aZ (N:=42) aI Tryz.func161 rfl rfl rfl (by kernel_rfl) (by kernel_rfl) (by simp) ?_
 obtain⟨n,hn⟩:∃ n,a.length=n:=⟨_,rfl⟩
 have hm1:(4:Int)*n≤281474976710656:=by omega
 have hm2:(n:Int)≤9223372036854775807:=by omega
 have hw1:Ah.wrap ((n:Int)-1)=(n:Int)-1:=aR (by omega) (by omega)
 have hwd:AY.wrap (d:Int)=d:=bP (by omega) (by omega)
 have hdz:¬d=0:=by omega
 have h00:(shS a d 0).1=Ay n 0:=by rw[←hn];rfl
 have h01:(shS a d 0).2=0:=rfl
 simp[-map_map,-mapM_map,↓KW,aN,hn,hw1,hm1,hm2]
 refine aU (fun k:Nat=>k≤n)
  (fun k=>StL [(0,.d (aN a)),(1,.d (.i .u32 d)),(6,.own 1 0 n 1),(7,.d (.i .u64 (shS a d k).2)),(8,.d (.i .i64 ((n:Int)-1-k)))] none
   [.cells 131 ((lms (shS a d k).1).map .d)]) (fun k=>n-k) 0 (An _) ?_ ?_
 ·refine aY [1] (by simp) ?_ ?_<;>simp[-map_map,upd,aT,Γ0,aN,h00,h01]
 ·intro k hk
  obtain⟨ol,oc,om,_,_⟩:=aTn ha hd k (by omega)
  rw[hn]at ol
  by_cases hgo:k<n
  ·have q1:(0:Int)≤(n:Int)-1-k:=by omega
   obtain⟨j,hj⟩:∃ j,a.length-1-k=j:=⟨_,rfl⟩
   have hji:(n:Int)-1-k=j:=by omega
   have hsucc:shS a d (k+1)=((shS a d k).1.set j (((shS a d k).2*4294967296+a.getD j 0)/d),((shS a d k).2*4294967296+a.getD j 0)%d):=by rw[←hj];rfl
   have g1:=getD_some (l:=a) (i:=j) (by omega)
   have hx:=ha.getD j
   have hlt:=bQk oc hx
   generalize hout:(shS a d k).1=out at *
   generalize hcar:(shS a d k).2=r at *
   generalize a.getD j 0=x at *
   obtain⟨t,ht⟩:∃ t,r*4294967296+x=t:=⟨_,rfl⟩
   rw[ht]at hsucc hlt
   obtain⟨q,hq⟩:∃ q,t/d=q:=⟨_,rfl⟩
   obtain⟨r',hr'⟩:∃ r',t%d=r':=⟨_,rfl⟩
   rw[hq,hr']at hsucc
   rw[hq]at hlt
   have hr'd:r'<d:=by rw[←hr'];exact D9 _ hd
   have hwx:AY.wrap (x:Int)=x:=bP (by omega) (by omega)
   have hwr:AY.wrap ((r:Int)*4294967296)=(r:Int)*4294967296:=bP (by omega) (by omega)
   have hwt:AY.wrap ((r:Int)*4294967296+x)=t:=by rw[bP (by omega) (by omega)];omega
   have hwq:AY.wrap ((t:Int)/d)=q:=by rw[←Int.natCast_ediv,hq,bP (by omega) (by omega)]
   have hwq2:BY.wrap (q:Int)=q:=jS (by omega) (by omega)
   have hwm:Int.tmod (t:Int) d=r':=by rw[←Int.ofNat_tmod,hr']
   have hw8:Ah.wrap ((j:Int)-1)=(j:Int)-1:=aR (by omega) (by omega)
   have hjn:j<n:=by omega
   have hjl3:j+1≤n:=by omega
   have hlay:lay (BR AV.d (lms out)) j [AV.d (D.i .u32 (q:Int))]=BR AV.d (lms (out.set j q)):=by
    rw[wR _ _ _ (by rw[lY];omega),wO]
   have he:(n:Int)-1-((k:Int)+1)=(j:Int)-1:=by omega
   rw[hji]
   simp[-map_map,-mapM_map,↓KW,aN,g1,hwx,hwr,hwt,hwd,hdz,hwq,hwq2,hwm,hw8,hjn,hjl3,hlay,ol]
   refine aJ (k+1) hgo ?_ (aY [1] (by simp) ?_ ?_)
   ·omega
   ·simp[-map_map,upd,aT,Γ0,aN,hsucc,he]
   ·simp[-map_map,upd,aT,Γ0,aN,hsucc,he]
  ·have e:k=n:=by omega
   have q1:¬(k:Int)≤(n:Int)-1:=by omega
   obtain⟨s1,s2,s3,s4⟩:=aIg ha hd
   have e1:(shS a d k).1=shQ a d:=by rw[e,←hn];rfl
   have e2:(shS a d k).2=val a%d:=by rw[e,←hn];exact s4
   rw[hn]at s1
   have hrd:val a%d<d:=D9 _ hd
   have e3:(val a:Int)%d=((val a%d:Nat):Int):=by rw[Int.natCast_emod]
   rw[e1,e2]
   generalize val a%d=r at *
   have hwr:BY.wrap (r:Int)=r:=jS (by omega) (by omega)
   simp[-map_map,-mapM_map,↓KW,aN,q1,s1,fX s1,dY s1,hwr,e3,fV]
end Go.Am
end

section
set_option linter.unusedVariables false
set_option linter.unusedSimpArgs false
open Go Go.Am Go.Proofs
namespace Go.Am
theorem sL{n:Nat}(h:n≤2147483648):(n+1)*32≤140737488355328∧n+1≤1099511627776:=⟨by omega,by omega⟩
structure Cl where
 id:Int
 dim:Int
 b:List (Int×Int)
 deriving DecidableEq,Inhabited
def pH:Cl:=⟨0,0,[]⟩
def bJ(x:Cl):List D:=[.i .i64 x.id,.i .i64 x.dim,aG x.b]
def aF(c:List Cl):D:=.sl (c.map bJ)
def bL(l:List Int):D:=.sl (l.map fun n=>[.i .i64 n])
def bW(c:List Cl)(n:Int):Option Cl:=c.find? fun y=>decide (y.id=n)
def bR(c:List Cl)(k:Int):List Int:=(c.filter fun y=>decide (y.dim=k)).map Cl.id
def bOf(c:List Cl)(n:Int):List (Int×Int):=((bW c n).getD pH).b
def dOf(c:List Cl)(n:Int):Int:=((bW c n).getD pH).dim
def kn(c:List Cl)(n:Int):Bool:=(bW c n).isSome
theorem aRj(x:Cl)(c:List Cl)(n:Int):bW (x::c) n=if x.id=n then some x else bW c n:=by
 unfold bW
 rw[List.find?_cons]
 by_cases h:x.id=n<;>simp[h]
theorem aRi{c:List Cl}{i:Nat}(h:i<c.length)(n:Int):bW (c.drop i) n=if c[i].id=n then some c[i]else bW (c.drop (i+1)) n:=by
 rw[A2 h,aRj]
theorem aYx{c:List Cl}{i:Nat}(h:i<c.length)(k:Int):bR (c.take (i+1)) k=bR (c.take i) k++if c[i].dim=k then[c[i].id]else[]:=by
 unfold bR
 rw[AJ,Aa h,List.filter_append,By]
 congr 1
 by_cases e:c[i].dim=k<;>simp[e]
theorem fA(c:List Cl)(k:Int):(bR c k).length≤c.length:=by
 unfold bR
 rw[AN];exact List.length_filter_le _ _
theorem cV{c:List Cl}{n:Int}{x:Cl}(h:bW c n=some x):x∈c∧x.id=n :=
 ⟨List.mem_of_find?_eq_some h,by have:=List.find?_some h;simpa using this⟩
theorem aDa{c:List Cl}{n:Int}(h:bW c n=none):∀ x∈c,x.id≠n:=fun x hx=>by
 have:=List.find?_eq_none.1 h x hx;simpa using this
def Inc(c:List Cl):Prop:=c.Pairwise fun x y=>x.id<y.id
theorem Inc.eq{c:List Cl}(h:Inc c){x y:Cl}(hx:x∈c)(hy:y∈c)(e:x.id=y.id):x=y:=by
 induction c with
 |nil=>cases hx
 |cons a c ih =>
  obtain⟨h1,h2⟩:=A5.1 h
  rcases AD.1 hx with rfl|hx'<;>rcases AD.1 hy with rfl|hy'
  ·rfl
  ·have:=h1 y hy';omega
  ·have:=h1 x hx';omega
  ·exact ih h2 hx' hy'
theorem Inc.find{c:List Cl}(h:Inc c){x:Cl}(hx:x∈c):bW c x.id=some x:=by
 cases e:bW c x.id with
 |none=>exact(aDa e x hx rfl).elim
 |some y=>obtain⟨h1,h2⟩:=cV e;rw[h.eq h1 hx h2]
def lv(k:Int)(r:List (Int×Int)):Int:=r.foldl (fun acc x=>if x.1=k then x.2 else acc) 0
theorem bNe(k:Int)(r:List (Int×Int))(x:Int×Int):lv k (r++[x])=if x.1=k then x.2 else lv k r:=by simp[lv]
theorem aIv{r:List (Int×Int)}{i:Nat}(h:i<r.length)(k:Int):lv k (r.take (i+1))=if r[i].1=k then r[i].2 else lv k (r.take i):=by
 rw[AJ,Aa h];exact bNe _ _ _
theorem aUs(k:Int):∀(r:List (Int×Int)) (acc:Int),Val r→r.foldl (fun acc x=>if x.1=k then x.2 else acc) acc=if ∃ y∈r,y.1=k then getM r k else acc
 |[],acc,_=>by simp
 |x::r,acc,h=>by
  obtain⟨h1,h2,h3⟩:=h.tail
  rw[CG,aUs k r _ h1,cH]
  by_cases e:x.1=k
  ·have hn:¬∃ y∈r,y.1=k:=fun⟨y,hy,e2⟩=>by have:=h2 y hy;omega
   rw[Ae hn,Ag e,Ag ⟨x,Av ..,e⟩,Ag e]
  ·rw[Ae e,Ae e]
   by_cases hr:∃ y∈r,y.1=k
   ·obtain⟨y,hy,e2⟩:=hr
    rw[Ag ⟨y,hy,e2⟩,Ag ⟨y,As _ hy,e2⟩]
   ·rw[Ae hr,Ae]
    rintro⟨y,hy,e2⟩
    rcases AD.1 hy with rfl|hy
    ·exact e e2
    ·exact hr ⟨y,hy,e2⟩
theorem qJ{r:List (Int×Int)}(h:Val r)(k:Int):lv k r=getM r k:=by
 unfold lv
 rw[aUs k r 0 h]
 split
 ·rfl
 ·rename_i hn
  exact(fN fun y hy e=>hn ⟨y,hy,e⟩).symm
theorem bEe{M:Nat}{r:List (Int×Int)}(h:Bnd M r)(k:Int):(lv k r).natAbs≤M:=by
 unfold lv
 suffices ∀(r:List (Int×Int)) (acc:Int),Bnd M r→acc.natAbs≤M→(r.foldl (fun acc x=>if x.1=k then x.2 else acc) acc).natAbs≤M from this r 0 h (by simp)
 intro r
 induction r with
 |nil=>intro acc _ ha;exact ha
 |cons x r ih =>
  intro acc hb ha
  rw[CG]
  refine ih _ (fun y hy=>hb y (As _ hy)) ?_
  split
  ·exact hb x (Av ..)
  ·exact ha
def fG(ids:List Int)(x:List (Int×Int)):List Int:=ids.map fun n=>lv n x
def mF(c:List Cl)(k:Int):List (List Int):=(bR c k).map fun n=>fG (bR c (k-1)) (bOf c n)
/-! Chains in a complex -/
def aCe(c:List Cl)(x:List (Int×Int)):Nat→Bool
 |0=>false
 |n+1=>aCe c x n||(decide (0<n)&&decide (dOf c (x.getD n (0,0)).1≠dOf c (x.getD (n-1) (0,0)).1))
def xK(c:List Cl)(x:List (Int×Int)):Nat→Int
 |0=>-1
 |n+1=>dOf c (x.getD n (0,0)).1
def aCj(c:List Cl)(x:List (Int×Int)):Bool:=x.all fun f=>kn c f.1
def qQ(c:List Cl)(x:List (Int×Int)):Int×Int:=if aCj c x then(if aCe c x x.length then(0,260)else(xK c x x.length,0))else(0,250)
def bdL(c:List Cl)(x:List (Int×Int)):List (Int×Int):=x.flatMap fun f=>mulR f.2 (bOf c f.1)
def bdX(c:List Cl)(x:List (Int×Int)):List (Int×Int):=bV [] (bdL c x)
def xX(c:List Cl)(k:Int)(x:List (Int×Int)):List Int×Int:=if(qQ c x).2=0 then(if 0<x.length∧(qQ c x).1≠k then([],260)else(fG (bR c k) x,0))else([],(qQ c x).2)
def chX(c:List Cl)(k:Int)(v:List Int):List (Int×Int)×Int:=if v.length=(bR c k).length then(bV [] ((bR c k).zip v),0)else([],50)
theorem bIg{c:List Cl}{x:List (Int×Int)}{i:Nat}(h:i<x.length):bdL c (x.take (i+1))=bdL c (x.take i)++mulR x[i].2 (bOf c x[i].1):=by
 unfold bdL
 rw[AJ,Aa h,List.flatMap_append]
 simp
theorem aEe(a x y:List (Int×Int)):bV a (x++y)=bV (bV a x) y:=by unfold bV;rw[C9]
end Go.Am
end

section
set_option linter.unusedVariables false
set_option linter.unusedSimpArgs false
open List (map_map mapM_map)
open Go Go.Am Go.Proofs
namespace Go.Am
def vB(c:List Cl)(n:Int):D:=.tp [.ag (bJ ((bW c n).getD pH)),.b (bW c n).isSome]
theorem aMk(c:List Cl):gE 3 (c.map bJ)=true:=by cases c<;>rfl
theorem aE(l:List (Int×Int)):one (.d (aG l))=true:=rfl
theorem aB(l:List (Int×Int)):eS (.d (aG l))=some [.d (aG l)]:=rfl
theorem aC(l:List (Int×Int)):aT (aG l)=.d (aG l):=rfl
theorem bG(H:Nat→Option HO)(avs:List AV)(l:List (Int×Int)):cE H avs (aG l)=gT H avs:=rfl
theorem aQ(l:List (Int×Int)):inj (aG l)=.d (aG l):=rfl
set_option maxHeartbeats 1000000 in
set_option maxRecDepth 10000 in
theorem qE(c:List Cl)(n:Int)(hl:c.length≤1000000):Spec Tryz.prog 36 [aF c,.i .i64 n] (vB c n):=by
 refine aZ (N:=25) aI Tryz.func36 rfl rfl rfl (by kernel_rfl) (by kernel_rfl) (by simp) ?_
 simp[-map_map,-mapM_map,↓KW,aF]
 refine aU (fun i:Nat=>i≤c.length∧bW (c.drop i) n=bW c n) (fun i=>StL [(0,.d (aF c)),(1,.d (.i .i64 n)),(4,.ptr 1 0),(5,.d (.b false)),(6,.d (.i .i64 (i:Int)))] none [.cells 43 [.d (.i .i64 0),.d (.i .i64 0),.nil]]) (fun i=>c.length-i) 0 ⟨An _,rfl⟩ ?_ ?_
 ·refine aY [1] (by simp) ?_ ?_<;>simp[-map_map,upd,aT,Γ0,aF]
 ·intro i ⟨hi,hp⟩
  by_cases hgo:i<c.length
  ·have q1:(i:Int)<c.length:=by omega
   have hx:c[i]? = some c[i]:=Aa hgo
   have hw:Ah.wrap ((i:Int)+1)=(i:Int)+1:=aR (by omega) (by omega)
   rw[aRi hgo]at hp
   generalize c[i]=x at *
   by_cases h0:x.id=n
   ·rw[Ag h0]at hp
    have h0':((x.id==n):Bool)=true:=by simpa using h0
    unfold vB
    rw[←hp]
    have q3:(((n:Int)==(n:Int)):Bool)=true:=by simp
    simp[-map_map,-mapM_map,↓KW,aF,bJ,q1,hx,h0,h0',q3,aE,aB,aC]
    rfl
   ·rw[Ae h0]at hp
    have h0':((x.id==n):Bool)=false:=by simpa using h0
    simp[-map_map,-mapM_map,↓KW,aF,bJ,q1,hx,h0,h0',hw,aE,aB,aC]
    refine aJ (i+1) ⟨hgo,hp⟩ (Ab hgo (Ad _)) (aY [1] (by simp) ?_ ?_)<;>simp[-map_map,upd,aT,Γ0,aF]
  ·have q1:¬(i:Int)<c.length:=by omega
   rw[Bo (by omega)]at hp
   have hp':bW c n=none:=hp.symm
   unfold vB
   rw[hp']
   simp[-map_map,-mapM_map,↓KW,aF,q1,bJ,pH,aG]
   rfl
set_option maxHeartbeats 1000000 in
set_option maxRecDepth 10000 in
theorem rQ(c:List Cl)(k:Int)(hl:c.length≤1000000):Spec Tryz.prog 27 [aF c,.i .i64 k] (bL (bR c k)):=by
 refine aZ (N:=30) aI Tryz.func27 rfl rfl rfl (by kernel_rfl) (by kernel_rfl) (by simp) ?_
 simp[-map_map,-mapM_map,↓KW,aF]
 refine aU (fun i:Nat=>i≤c.length) (fun i=>StL [(0,.d (aF c)),(1,.d (.i .i64 k)),(5,.own 1 0 (bR (c.take i) k).length 1),(6,.d (.i .i64 (i:Int)))] none [.cells 3 (((bR (c.take i) k).map fun n=>D.i .i64 n).map .d)]) (fun i=>c.length-i) 0 (An _) ?_ ?_
 ·refine aY [1] (by simp) ?_ ?_<;>simp[-map_map,upd,aT,Γ0,aF,bR]
 ·intro i hi
  by_cases hgo:i<c.length
  ·have q1:(i:Int)<c.length:=by omega
   have hx:c[i]? = some c[i]:=Aa hgo
   have hw:Ah.wrap ((i:Int)+1)=(i:Int)+1:=aR (by omega) (by omega)
   have htk:=aYx hgo k
   have hln:(bR (c.take i) k).length≤i:=Ap (fA _ _) (by simp;omega)
   generalize bR (c.take i) k=out at *
   generalize c[i]=x at *
   have hbb:=cC (n:=out.length) (by omega)
   have hb8:(out.length+1)*8≤140737488355328:=by omega
   by_cases h0:x.dim=k
   ·rw[Ag h0]at htk
    have h0':((x.dim==k):Bool)=true:=by simpa using h0
    have q3:(((k:Int)==(k:Int)):Bool)=true:=by simp
    simp[-map_map,-mapM_map,↓KW,aF,bJ,q1,hx,h0,h0',q3,hw,hbb,hb8,aW,aE,aB,aC]
    refine aJ (i+1) hgo (Ab hgo (Ad _)) (aY [3] (by simp) ?_ ?_)<;>simp[-map_map,upd,aT,Γ0,aF,htk]
   ·rw[Ae h0,List.append_nil]at htk
    have h0':((x.dim==k):Bool)=false:=by simpa using h0
    simp[-map_map,-mapM_map,↓KW,aF,bJ,q1,hx,h0,h0',hw,aE,aB,aC]
    refine aJ (i+1) hgo (Ab hgo (Ad _)) (aY [1] (by simp) ?_ ?_)<;>simp[-map_map,upd,aT,Γ0,aF,htk]
  ·have q1:¬(i:Int)<c.length:=by omega
   rw[Ai (by omega)]
   have hln:=fA c k
   generalize bR c k=out at *
   have e1:Cd out.length ((out.map fun n=>D.i .i64 n).map AV.d)=(out.map fun n=>D.i .i64 n).map AV.d:=Ai (by simp)
   have e2:chunk 1 out.length (out.map fun n=>D.i .i64 n)=out.map fun n=>[D.i .i64 n]:=by rw[tZ _ _ (by simp),C3];rfl
   simp[-map_map,-mapM_map,↓KW,aF,bL,q1,e1,e2]
end Go.Am
end

section
set_option linter.unusedVariables false
set_option linter.unusedSimpArgs false
open List (map_map mapM_map)
open Go Go.Am Go.Proofs
namespace Go.Am
def hdr(c n b:Nat):List AV:=(Db n).map fun j=>AV.own (j+b) 0 c 2
def vR(v:List Int):HO:=.cells 74 ((vcs v).map .d)
def mB(c:Nat)(M:List (List Int))(m:Nat):List HO:=.cells 97 (hdr c M.length (m+1))::M.map vR
theorem cK(c n b:Nat):(hdr c n b).length=n:=by simp[hdr]
theorem dC{c n b i:Nat}(h:i<n):(hdr c n b)[i]? = some (.own (i+b) 0 c 2):=by
 unfold hdr;rw[Ax,Co h];rfl
theorem bFt(c n b:Nat):hdr c (n+1) b=hdr c n b++[.own (n+b) 0 c 2]:=by simp[hdr,List.range_succ]
theorem cL(c:Nat)(M:List (List Int))(m:Nat):(mB c M m).length=M.length+1:=by simp[mB]
def nwH(cols i:Nat):Nat→Option HO:=fun id =>
 if id=1 then some (.cells 95 [.d (.i .i64 0),.d (.i .i64 0),.nil])else if id=2 then some (.cells 97 (hdr cols i 3))else if 3≤id∧id<i+3 then some (.cells 74 (zr cols))else none
set_option maxHeartbeats 8000000 in
set_option maxRecDepth 10000 in
theorem bCv(rows cols:Nat)(hr:rows≤1000)(hc:cols≤1000):rG Tryz.prog 160 [.i .i64 (rows:Int),.i .i64 (cols:Int)] (nwV rows cols) (mB cols (Ay rows (Ay cols 0))):=by
 refine nN (N:=22) aI Tryz.func160 rfl rfl rfl (by decide) (by kernel_rfl) (by kernel_rfl) (by simp) rfl ?_
 have m1:¬(rows:Int)<0:=by omega
 have m2:¬(cols:Int)<0:=by omega
 have hm3:32*(cols:Int)≤281474976710656:=by omega
 have hm4:(cols:Int)≤9223372036854775807:=by omega
 simp[-map_map,-mapM_map,↓KW,m1,m2,aW]
 refine aU (fun i:Nat=>i≤rows) (fun i=>⟨iT [(0,.d (.i .i64 (rows:Int))),(1,.d (.i .i64 (cols:Int))),(4,.ptr 1 0),(5,.own 2 0 i 1),(6,.d (.i .i64 (i:Int)))],nwH cols i,i+3⟩) (fun i=>rows-i) 0 (An _) ?_ ?_
 ·refine⟨_,kH ?_ (fun id o' ho=>?_) (fun id hid=>?_) (by simp)⟩
  ·simp[-map_map,upd,aT,Γ0,nwH]
  ·simp only[nwH]at ho
   split at ho
   ·rename_i e;subst e
    injection ho with ho;subst ho
    exact⟨_,rfl,by simp[-map_map,upd,aT,Γ0,]⟩
   ·split at ho
    ·rename_i e;subst e
     injection ho with ho;subst ho
     exact⟨_,rfl,eJ.2 ⟨rfl,trivial⟩⟩
    ·rw[Ae (by omega)]at ho;cases ho
  ·simp only[nwH]
   rw[Ae (by omega),Ae (by omega),Ae (by omega)]
 ·intro i hi
  have hH1:nwH cols i 1=some (.cells 95 [.d (.i .i64 0),.d (.i .i64 0),.nil]):=rfl
  have hH2:nwH cols i 2=some (.cells 97 (hdr cols i 3)):=rfl
  have hlen:(hdr cols i 3).length=i:=cK ..
  by_cases hgo:i<rows
  ·have q1:(i:Int)<rows:=by omega
   have hw:Ah.wrap ((i:Int)+1)=(i:Int)+1:=aR (by omega) (by omega)
   generalize hHg:nwH cols i=H at *
   generalize hcl:hdr cols i 3=cells at *
   have hb:(i+1)*24≤140737488355328:=by omega
   have hb2:i+1≤maxLen:=aW (by omega)
   simp[-map_map,-mapM_map,↓KW,q1,hgo,hw,hm3,hm4,hH1,hH2,hlen,m1,m2,hb,hb2]
   have hn1:(nwH cols (i+1) 1).isSome=true:=rfl
   have hn2:(nwH cols (i+1) 2).isSome=true:=rfl
   have hnj:∀ j,j<i+1→(nwH cols (i+1) (j+3)).isSome=true:=fun j hj=>by
    unfold nwH;rw[Ae (by omega),Ae (by omega),Ag (by omega)];rfl
   refine aJ (i+1) hgo (Ab hgo (Ad _)) ⟨_,aPh (fun id=>if id=2 then i+5 else id) ?_ (fun id o' ho=>?_) (fun id id' h1 h2 e=>?_) (fun _=>rfl) (fun id hid=>?_) (by simp)⟩
   ·simp[-map_map,upd,aT,Γ0,hn1,hn2]
   ·simp only[nwH]at ho
    split at ho
    ·rename_i e;subst e
     injection ho with ho;subst ho
     refine⟨.cells 95 [.d (.i .i64 0),.d (.i .i64 0),.nil],?_,by simp[-map_map,upd,aT,Γ0,]⟩
     rw[Ae (by omega)]
     simp only
     rw[Ae (by omega),Ae (by omega),Ae (by omega),Ae (by omega),hH1]
     rfl
    ·split at ho
     ·rename_i e;subst e
      injection ho with ho;subst ho
      refine⟨.cells 97 (hdr cols (i+1) 3),?_,eJ.2 ⟨rfl,eK.2 ⟨rfl,fun k x y h1 h2=>?_⟩⟩⟩
      ·show Option.map (eC [2]) (if i+5=i+3+1+1 then some (HO.cells 97 (cells++[AV.own (i+3) 0 cols 2]))else _)=_
       rw[Ag (by omega),bFt,hcl]
       simp only[AW,eC,By,AR,List.map_nil]
       have e1:cells.map (eN [2])=cells:=by
        rw[←hcl]
        unfold hdr
        rw[C3]
        apply Bu
        intro j hj
        simp[eN]
       rw[e1]
       simp[eN]
      ·rw[h1]at h2;injection h2 with h2;subst h2
       have hk:k<i+1:=by have:=(Aj.1 h1).1;rwa [cK]at this
       rw[dC hk]at h1;injection h1 with h1;subst h1
       exact⟨by simp only;rw[Ae (by omega)],rfl,rfl,rfl,hnj k hk⟩
     ·split at ho
      ·rename_i e2 e3
       injection ho with ho;subst ho
       refine⟨.cells 74 (zr cols),?_,eJ.2 ⟨rfl,bJt cols⟩⟩
       rw[Ae e2]
       simp only
       rw[Ae (by omega),Ae e2,Ae (by omega)]
       have ez:Option.map (eC [2]) (some (HO.cells 74 (zr cols)))=some (.cells 74 (zr cols)):=by
        simp only[AW,eC]
        congr 2
        unfold zr
        rw[List.map_flatten,E7];rfl
       by_cases e4:id=i+3
       ·rw[Ag e4];exact ez
       ·rw[Ae e4,←hHg]
        unfold nwH
        rw[Ae (by omega),Ae (by omega),Ag (by omega)]
        exact ez
      ·cases ho
   ·have k1:∀ id,(nwH cols (i+1) id).isSome=true→1≤id∧id<i+4:=fun id h=>by
     unfold nwH at h
     split at h
     ·omega
     ·split at h
      ·omega
      ·split at h
       ·omega
       ·cases h
    have b1:=k1 id h1
    have b2:=k1 id' h2
    have e':(if id=2 then i+5 else id)=(if id'=2 then i+5 else id'):=e
    split at e'<;>split at e'<;>omega
   ·simp only[nwH]
    rw[Ae (by omega),Ae (by omega),Ae (by omega)]
  ·have q1:¬(i:Int)<rows:=by omega
   have e:i=rows:=by omega
   subst e
   generalize hHg:nwH cols i=H at *
   simp[-map_map,-mapM_map,↓KW,q1,hH1,hH2]
   intro m hm0
   have hML:(mB cols (Ay i (Ay cols (0:Int))) m).length=i+1:=by simp[cL]
   have hin:∀ id,m≤id→id<m+(i+1)→(fM (nwV i cols) (mB cols (Ay i (Ay cols 0))) m).H id=(mB cols (Ay i (Ay cols 0)) m)[id-m]? := fun id h1 h2=>by
    simp only[fM,fE]
    rw[Ag ⟨h1,by rw[hML];exact h2⟩]
   have hout:∀ id,¬(m≤id∧id<m+(i+1))→(fM (nwV i cols) (mB cols (Ay i (Ay cols 0))) m).H id=none:=fun id h=>by
    simp only[fM,fE]
    rw[Ae (by rw[hML];exact h)]
   have hsome:∀ id,((fM (nwV i cols) (mB cols (Ay i (Ay cols 0))) m).H id).isSome=true→m≤id∧id<m+(i+1):=fun id h=>by
    by_cases hr:m≤id∧id<m+(i+1)
    ·exact hr
    ·rw[hout id hr]at h;cases h
   have hS0:((fM (nwV i cols) (mB cols (Ay i (Ay cols 0))) m).H m).isSome=true:=by
    rw[hin m (Az _) (by omega),Cq];rfl
   have hSj:∀ j,j<i→(fM (nwV i cols) (mB cols (Ay i (Ay cols 0))) m).H (j+(m+1))=some (vR (Ay cols 0)):=fun j hj=>by
    rw[hin _ (by omega) (by omega),show j+(m+1)-m=j+1 by omega]
    simp only[mB,A6,E7,Ct,Ag hj]
   refine⟨fun id=>id-m+2,fun id hid=>hout id (by simp only[fM]at hid;rw[hML]at hid;omega),fun t=>?_,fun id o' ho=>?_,fun id id' h1 h2 e=>?_,fun h=>?_,fun h=>?_⟩
   ·show Sub _ _ _ _ (upd (fun _=>.any) 0 (nwV i cols m) t)
    by_cases e:t=0
    ·subst e
     simp only[cQ,nwV]
     refine⟨rfl,fun k c d h1 h2=>?_⟩
     rcases k with _|_|_|k
     ·simp at h1 h2;subst h1;subst h2;exact(jO _ _).2 rfl
     ·simp at h1 h2;subst h1;subst h2;exact(jO _ _).2 rfl
     ·simp at h1 h2;subst h1;subst h2
      exact⟨by simp,rfl,rfl,rfl,hS0⟩
     ·simp at h1
    ·rw[dD _ _ e];exact mS _
   ·have hr:=hsome id (by rw[ho];rfl)
    rw[hin id hr.1 hr.2]at ho
    simp only
    obtain⟨j,rfl⟩:∃ j,id=m+j:=⟨id-m,by omega⟩
    rw[show m+j-m=j by omega]at ho ⊢
    rcases j with _|j
    ·simp only[mB,List.getElem?_cons_zero,D2]at ho
     injection ho with ho;subst ho
     refine⟨.cells 97 (hdr cols i 3),by simp only[upd];rw[Ae (by omega)];exact hH2,eJ.2 ⟨rfl,eK.2 ⟨by rw[cK,cK],fun k c d h1 h2=>?_⟩⟩⟩
     have hlt:k<i:=by have:=(Aj.1 h1).1;rwa [cK]at this
     rw[dC hlt]at h1 h2
     injection h1 with h1;injection h2 with h2;subst h1;subst h2
     exact⟨by show k+3=k+(m+1)-m+2;omega,rfl,rfl,rfl,by rw[hSj k hlt];rfl⟩
    ·have hlt:j<i:=by omega
     simp only[mB,A6,E7,Ct,Ag hlt]at ho
     injection ho with ho;subst ho
     refine⟨.cells 74 (zr cols),?_,eJ.2 ⟨rfl,aPd cols⟩⟩
     simp only[upd]
     rw[Ae (by omega),←hHg]
     unfold nwH
     rw[Ae (by omega),Ae (by omega),Ag (by omega)]
   ·have q1':=hsome id h1
    have q2':=hsome id' h2
    have e':id-m+2=id'-m+2:=e
    omega
   ·have:=hsome 0 h;omega
   ·simp only[fM]at h;omega
end Go.Am
end

section
set_option linter.unusedVariables false
set_option linter.unusedSimpArgs false
open Go Go.Am Go.Proofs
namespace Go.Am
/-! Matrices by their entries -/
structure Sh(R c:Nat)(M:List (List Int)):Prop where
 len:M.length=R
 row:∀ v∈M,v.length=c
def ent(M:List (List Int))(r s:Nat):Int:=(M.getD r []).getD s 0
def mk(R c:Nat)(f:Nat→Nat→Int):List (List Int):=(Db R).map fun r=>(Db c).map fun s=>f r s
theorem Sh.get{R c r:Nat}{M:List (List Int)}(h:Sh R c M)(hr:r<R):∃ v,M[r]? = some v∧v.length=c∧∀ s,v.getD s 0=ent M r s:=by
 have hl:r<M.length:=by rw[h.len];exact hr
 refine⟨M[r],Aa hl,h.row _ (Ak hl),fun s=>?_⟩
 unfold ent
 rw[Ac (l:=M),Aa hl];rfl
theorem iR(R c:Nat)(f:Nat→Nat→Int):Sh R c (mk R c f):=⟨by simp[mk],fun v hv=>by obtain⟨r,_,rfl⟩:=AE.1 hv;simp⟩
theorem qH{R c r s:Nat}(f:Nat→Nat→Int)(hr:r<R)(hs:s<c):ent (mk R c f) r s=f r s:=by
 unfold ent mk
 rw[Ac (l:=BR _ _),Ax,Co hr]
 simp only[AW,Ba]
 rw[Ac,Ax,Co hs];rfl
theorem aUr{R c:Nat}{M M':List (List Int)}(h:Sh R c M)(h':Sh R c M')(he:∀ r s,r<R→s<c→ent M r s=ent M' r s):M=M':=by
 refine DK (by rw[h.len,h'.len]) fun r h1 h2=>?_
 have hr:r<R:=by rw[←h.len];exact h1
 refine DK (by rw[h.row _ (Ak h1),h'.row _ (Ak h2)]) fun s g1 g2=>?_
 have hs:s<c:=by rw[←h.row _ (Ak h1)];exact g1
 have:=he r s hr hs
 unfold ent at this
 rw[Ac (l:=M),Aa h1,Ac (l:=M'),Aa h2]at this
 simp only[Ba]at this
 rw[Ac,Aa g1,Ac,Aa g2]at this
 exact this
theorem xF{R c:Nat}{M:List (List Int)}(h:Sh R c M){r s:Nat}(hr:¬(r<R∧s<c)):ent M r s=0:=by
 unfold ent
 by_cases h1:r<R
 ·obtain⟨v,hv,hl,_⟩:=h.get h1
  rw[Ac (l:=M),hv]
  simp only[Ba]
  rw[Ac,AG (by omega)];rfl
 ·rw[Ac (l:=M),AG (by rw[h.len];omega)];rfl
theorem bSf{R c i:Nat}{M:List (List Int)}(h:Sh R c M){v:List Int}(hv:v.length=c):Sh R c (M.set i v) :=
 ⟨by rw[Er,h.len],fun w hw=>(Ej hw).elim (h.row w) fun e=>e ▸ hv⟩
theorem lZ{R c i j:Nat}{M:List (List Int)}(h:Sh R c M){v:List Int}{z:Int}(hi:i<R)(hj:j<c)(hv:M[i]? = some v)(r s:Nat):ent (M.set i (v.set j z)) r s=if r=i∧s=j then z else ent M r s:=by
 have hl:i<M.length:=by rw[h.len];exact hi
 have hvl:v.length=c:=h.row v (Aq hv)
 unfold ent
 rw[Ac (l:=M.set i _),EA]
 by_cases e:r=i
 ·subst e
  rw[Ag rfl,Ag hl,Ac (l:=M),hv]
  simp only[Ba,true_and]
  rw[Ac,EA]
  by_cases e2:s=j
  ·subst e2;rw[Ag rfl,Ag (by omega),Ag rfl];rfl
  ·rw[Ae (fun h=>e2 h.symm),Ae e2,Ac]
 ·rw[Ae (fun h=>e h.symm),Ae (fun h=>e h.1),Ac (l:=M)]
theorem gF{R c i j:Nat}{M:List (List Int)}(h:Sh R c M){v:List Int}{z:Int}(hv:M[i]? = some v):Sh R c (M.set i (v.set j z)) :=
 bSf h (by rw[Er];exact h.row v (Aq hv))
theorem rD{R c:Nat}{M:List (List Int)}(h:Sh R c M){f:Nat→Nat→Int}(he:∀ r s,r<R→s<c→ent M r s=f r s):M=mk R c f :=
 aUr h (iR R c f) fun r s hr hs=>by rw[he r s hr hs,qH f hr hs]
/-! Heaps -/
def gI(b:Nat)(l:List HO):Nat→Option HO:=fun id=>if id<b then none else l[id-b]?
theorem lC{b i:Nat}{l:List HO}:gI b l (i+b)=l[i]? := by unfold gI;rw[Ae (by omega),A7]
theorem xB{b:Nat}{l:List HO}{id:Nat}(h:l.length+b≤id):gI b l id=none:=by
 unfold gI;rw[Ae (by omega),AG (by omega)]
theorem kM{b:Nat}{l:List HO}{id:Nat}(h1:b≤id)(h2:id<l.length+b):(gI b l id).isSome=true:=by
 unfold gI;rw[Ae (by omega),Aa (by omega)];rfl
theorem aJd{b:Nat}{l:List HO}{id:Nat}(h:(gI b l id).isSome=true):b≤id∧id<l.length+b:=by
 unfold gI at h
 split at h
 ·cases h
 ·rcases Bc (id-b) l.length with h'|h'
  ·omega
  ·rw[AG h']at h;cases h
def rfC(a n:Nat):AV→Bool
 |.d _|.nil=>true
 |.own id _ _ _=>decide (a≤id∧id<n)
 |.ptr id _=>decide (a≤id∧id<n)
 |_=>false
def rfO(a n:Nat):HO→Bool
 |.cells _ cs=>cs.all (rfC a n)
 |_=>false
theorem bLj{H H':Nat→Option HO}{ρ:Nat→Nat}{a n:Nat}{c:AV}(hc:rfC a n c=true)(h:∀ id,a≤id→id<n→id=ρ id∧(H' id).isSome=true):oB H H' ρ c c:=by
 unfold rfC at hc
 split at hc
 ·exact(jO _ _).2 rfl
 ·trivial
 ·simp only[AH]at hc
  obtain⟨h1,h2⟩:=h _ hc.1 hc.2
  exact⟨h1,rfl,rfl,rfl,h2⟩
 ·simp only[AH]at hc
  obtain⟨h1,h2⟩:=h _ hc.1 hc.2
  exact⟨h1,rfl,h2⟩
 ·cases hc
theorem zZ{H H':Nat→Option HO}{ρ:Nat→Nat}{a n:Nat}{o:HO}(ho:rfO a n o=true)(h:∀ id,a≤id→id<n→id=ρ id∧(H' id).isSome=true):lU H H' ρ o o:=by
 cases o with
 |cells e cs =>
  refine eJ.2 ⟨rfl,eK.2 ⟨rfl,fun k c d h1 h2=>?_⟩⟩
  rw[h1]at h2;injection h2 with h2;subst h2
  exact bLj (AO.1 ho c (Aq h1)) h
 |map k es=>cases ho
 |iter _ _ _=>cases ho
theorem bLi(a n:Nat)(v:List Int):rfO a n (vR v)=true:=by
 unfold rfO vR
 refine AO.2 fun c hc=>?_
 obtain⟨x,_,rfl⟩:=AE.1 hc;rfl
theorem uW{a n c m:Nat}{M:List (List Int)}(h1:a≤m+1)(h2:m+1+M.length≤n):∀ o∈mB c M m,rfO a n o=true:=by
 intro o ho
 rcases AD.1 ho with rfl|ho
 ·refine AO.2 fun x hx=>?_
  obtain⟨j,hj,rfl⟩:=AE.1 hx
  have:=DH.1 hj
  simp only[rfC,AH];omega
 ·obtain⟨v,_,rfl⟩:=AE.1 ho
  exact bLi _ _ _
theorem aBl{a n a' n':Nat}(h1:a'≤a)(h2:n≤n'){o:HO}(ho:rfO a n o=true):rfO a' n' o=true:=by
 cases o with
 |map _ _=>cases ho
 |iter _ _ _=>cases ho
 |cells e cs =>
  refine AO.2 fun c hc=>?_
  have:=AO.1 ho c hc
  cases c<;>first|rfl|(cases this;done)|(simp only[rfC,AH]at this ⊢;omega)
theorem aDb{H:Nat→Option HO}{b:Nat}{l:List HO}(h:∀ o∈l,rfO b (l.length+b) o=true){id:Nat}{o:HO}(ho:gI b l id=some o):lU H (gI b l) (fun i=>i) o o:=by
 refine zZ (h o ?_) fun id h1 h2=>⟨rfl,kM h1 h2⟩
 unfold gI at ho
 split at ho
 ·cases ho
 ·exact Aq ho
theorem xA{b c m:Nat}{pre post:List HO}{M:List (List Int)}(hm:m=pre.length+b):gI b (pre++mB c M m++post) m=some (.cells 97 (hdr c M.length (m+1))):=by
 subst hm
 rw[lC,AZ,AA (Az _),Cq];rfl
theorem tT{b c m j:Nat}{pre post:List HO}{M:List (List Int)}{v:List Int}(hm:m=pre.length+b)(hv:M[j]? = some v):gI b (pre++mB c M m++post) (j+(m+1))=some (vR v):=by
 have hj:=(Aj.1 hv).1
 rw[show j+(m+1)=(j+1+pre.length)+b by omega,lC,AZ,AA (by omega),A7,AF (by rw[cL];omega)]
 simp only[mB,A6,Ax,hv,AW]
theorem bOn{b c m i:Nat}{pre post:List HO}{M:List (List Int)}{v:List Int}(hm:m=pre.length+b)(hi:i<M.length)(id:Nat) :
  gI b (pre++mB c (M.set i v) m++post) id=if id=i+(m+1)then some (vR v)else gI b (pre++mB c M m++post) id:=by
 by_cases e:id=i+(m+1)
 ·rw[Ag e,e]
  exact tT hm (List.getElem?_set_self hi)
 ·rw[Ae e]
  unfold gI
  by_cases h0:id<b
  ·rw[Ag h0,Ag h0]
  ·rw[Ae h0,Ae h0]
   have hl:(mB c (M.set i v) m).length=(mB c M m).length:=by rw[cL,cL,Er]
   rw[AZ,AZ]
   rcases Bc (id-b) pre.length with h1|h1
   ·rw[AF h1,AF h1]
   ·rw[AA h1,AA h1]
    rcases Bc (id-b-pre.length) (mB c M m).length with h2|h2
    ·rw[AF (by omega),AF h2]
     generalize hk:id-b-pre.length=k at *
     rcases k with _|k
     ·simp[mB]
     ·simp only[mB,A6,Ax]
      rw[EO (by omega)]
    ·rw[AA (by omega),AA h2,hl]
theorem tU{c m:Nat}{pre post:List HO}{M:List (List Int)}:(pre++mB c M m++post).length=pre.length+M.length+1+post.length:=by
 rw[Al,Al,cL];omega
theorem kY{v:List Int}{j:Nat}(z:Int)(hj:j<v.length):lay ((vcs v).map AV.d) (j*2) [.d (.b (decide (z<0))),.d (aN (aX z.natAbs))]=(vcs (v.set j z)).map .d:=by
 rw[←aTd _ hj]
 simp[lay,qP]
theorem vL{b c m i:Nat}{pre post:List HO}{M:List (List Int)}{v:List Int}(hm:m=pre.length+b)(hi:i<M.length) :
  upd (gI b (pre++mB c M m++post)) (i+(m+1)) (some (vR v))=gI b (pre++mB c (M.set i v) m++post):=by
 funext id
 rw[bOn hm hi]
 rfl
theorem aAj{b n:Nat}{pre l:List HO}(h:n=pre.length+b):fE (gI b pre) n l=gI b (pre++l):=by
 funext id
 subst h
 unfold fE gI
 by_cases h0:id<b
 ·rw[Ae (by omega),Ag h0,Ag h0]
 ·rw[Ae h0]
  by_cases h1:pre.length+b≤id∧id<pre.length+b+l.length
  ·rw[Ag h1,Ae h0,AA (by omega),show id-b-pre.length=id-(pre.length+b)by omega]
  ·rw[Ae h1,Ae h0]
   rcases Bc (id-b) pre.length with h2|h2
   ·rw[AF h2]
   ·rw[AG h2,AA h2,AG (by omega)]
theorem pT{b n:Nat}{l:List HO}{p:HO}(h:n=l.length+b):upd (gI b l) n (some p)=gI b (l++[p]):=by
 rw[←aAj h]
 funext id
 unfold upd fE
 simp only[Ar]
 by_cases e:id=n
 ·subst e;rw[Ag rfl,Ag (by omega),Cq];rfl
 ·rw[Ae e,Ae (by omega)]
theorem bOo(b:Nat):(fun _=>none:Nat→Option HO)=gI b []:=by
 funext id;unfold gI;split<;>rfl
theorem aFl{H:Nat→Option HO}{n:Nat}{a a':Option HO}:upd (upd H n a) n a'=upd H n a':=by
 funext id;unfold upd;split<;>rfl
theorem aVl(a:HO):upd (fun _=>none) 1 (some a)=gI 1 [a]:=by rw[bOo 1];exact pT rfl
theorem aVk(a b:HO):upd (upd (fun _=>none) 1 (some a)) 2 (some b)=gI 1 [a,b]:=by rw[aVl];exact pT rfl
theorem aZh(a b c:HO):upd (upd (upd (fun _=>none) 1 (some a)) 2 (some b)) 3 (some c)=gI 1 [a,b,c]:=by rw[aVk];exact pT rfl
theorem aDc{b c m n:Nat}{pre:List HO}{M:List (List Int)}{p:HO}(hn:n=pre.length+b+(M.length+1)):gI b (pre++mB c M m++[p]) n=some p:=by
 subst hn
 rw[show pre.length+b+(M.length+1)=(pre.length+M.length+1)+b by omega,lC,AA (by rw[Al,cL];omega),Al,cL,
  show pre.length+M.length+1-(pre.length+(M.length+1))=0 by omega];rfl
end Go.Am
end

section
set_option linter.unusedVariables false
set_option linter.unusedSimpArgs false
open List (map_map mapM_map)
open Go Go.Am Go.Proofs
namespace Go.Am
theorem aWq{u:Nat}(hu:u<18446744073709551616):∃ lo hi:Nat,Lim [lo,hi]∧val [lo,hi]=u∧BY.wrap (u:Int)=lo∧kA .shr .u64 (u:Int) 32=some (.i .u64 hi)∧BY.wrap (hi:Int)=hi:=by
 refine⟨u%4294967296,u/4294967296,.cons (by omega) (.one (by omega)),by simp only[val];omega,by rw[iM];omega,?_,by rw[jS (by omega) (by omega)]⟩
 simp only[kA,C4]
 rw[Ae (by decide)]
 congr 2
 rw[show(2:Int)^(min (32:Int).toNat 64)=4294967296 from by decide,CQ _ (by decide)]
 omega
theorem aAy{l:List Nat}{n:Nat}(hn:l.length=n+1):val l=val (l.take n)+4294967296^n*l.getD n 0:=by
 rw[←dH,Ai (by omega)]
theorem bAt{l:List Nat}{n:Nat}(hn:l.length=n+2):val l=val (l.take n)+4294967296^n*(l.getD (n+1) 0*4294967296+l.getD n 0):=by
 rw[aAy hn,dH,Cf,BX,BF,BU 4294967296];omega
theorem aPi{l:List Nat}{n:Nat}(h:Lim l)(hn:l.length=n+1):val l<4294967296^n*(l.getD n 0+1):=by
 have h1:=rJ (h.take n)
 rw[AM,Da (by omega)]at h1
 rw[aAy hn,BX,CK];omega
theorem bGm{p q e low t D R:Nat}(hD:D≤q*low)(he:e*low≤t)(hR:p*q*t≤R):p*e*D≤R:=by
 refine Ap (BE _ hD) (Ap ?_ hR)
 have:p*e*(q*low)=p*q*(e*low):=by
  rw[BF,BF,Dz e]
 rw[this];exact BE _ he
theorem aYo{a b:List Nat}(hb:Lim b)(hc:oE a)(hla:Lim a)(h:val a≤val b):a.length≤b.length:=by
 have e1:=bGx hla hc
 rw[←e1]
 exact fC (Nat.lt_of_le_of_lt h (rJ hb))
set_option maxRecDepth 10000 in
theorem aLx(r d:List Nat)(hr:Lim r)(hd:Lim d)(hcr:oE r)(hcd:oE d)(hd0:d≠[])(hle:val d≤val r)(hl:r.length≤137438953472) :
  ∃ e:Nat,0<e∧e*val d≤val r∧Spec Tryz.prog 162 [aN r,aN d] (encZ e):=by
 have hlen:=aYo hr hcd hd hle
 have hdl:0<d.length:=DF.2 hd0
 obtain⟨m,hm⟩:∃ m,d.length=m+1:=⟨d.length-1,by omega⟩
 obtain⟨k,hk⟩:∃ k,r.length=k+(m+1):=⟨r.length-d.length,by omega⟩
 have gd:=getD_some (l:=d) (i:=m) (by omega)
 have gr:=getD_some (l:=r) (i:=k+m) (by omega)
 have hdm:=hd.getD m
 have hrm:=hr.getD (k+m)
 have hdv:=Nat.le_of_lt (aPi hd hm)
 have hrtop:0<r.getD (k+m) 0:=by
  have h1:r.getLast? = some (r.getD (k+m) 0):=by rw[Ds,show r.length-1=k+m by omega];exact gr
  have h2:r.getLast? ≠ some 0:=hcr
  rw[h1]at h2
  rcases Ce (r.getD (k+m) 0)with h|h
  ·rw[h]at h2;exact absurd rfl h2
  ·exact h
 generalize hdt:d.getD m 0=dt at *
 obtain⟨low,hlow⟩:∃ low,dt+1=low:=⟨_,rfl⟩
 rw[hlow]at hdv
 have c1:Ah.wrap ((r.length:Int)-d.length)=(k:Int):=by rw[aR (by omega) (by omega)];omega
 have c2:Ah.wrap ((d.length:Int)-1)=(m:Int):=by rw[aR (by omega) (by omega)];omega
 have c3:AY.wrap (dt:Int)=dt:=bP (by omega) (by omega)
 have c4:AY.wrap ((dt:Int)+1)=low:=by rw[bP (by omega) (by omega)];omega
 have c5:Ah.wrap ((r.length:Int)-1)=((k+m:Nat):Int):=by rw[aR (by omega) (by omega)];omega
 have c6:¬low=0:=by omega
 by_cases hk0:k=0
 ·subst hk0
  rw[Bf]at gr hrm hrtop hk
  rw[show((0+m:Nat):Int)=(m:Int)by omega]at c5
  have hv1:4294967296^m*r.getD m 0≤val r:=by rw[aAy hk];omega
  generalize r.getD m 0=rt at *
  obtain⟨e0,he0⟩:∃ e0,rt/low=e0:=⟨_,rfl⟩
  have he0':e0*low≤rt:=by rw[←he0];exact Nat.div_mul_le_self _ _
  have he0l:e0≤rt:=by rw[←he0];exact Nat.div_le_self _ _
  have c7:AY.wrap (rt:Int)=rt:=bP (by omega) (by omega)
  have c8:AY.wrap ((rt:Int)/low)=e0:=by rw[←Int.natCast_ediv,he0,bP (by omega) (by omega)]
  obtain⟨e,he⟩:∃ e:Nat,max 1 e0=e:=⟨_,rfl⟩
  have c9:Ah.wrap (e:Int)=e:=aR (by omega) (by omega)
  refine⟨e,by omega,?_,?_⟩
  ·by_cases h1:e0≤1
   ·have:e=1:=by omega
    rw[this,Cn];exact hle
   ·have:e=e0:=by omega
    rw[this]
    have:=bGm (p:=1) hdv he0' (by rw[Cn];exact hv1)
    rwa [Cn]at this
  ·refine aZ (N:=66) aI Tryz.func162 rfl rfl rfl (by kernel_rfl) (by kernel_rfl) (by simp) ?_
   simp[-map_map,-mapM_map,↓KW,aN,c1,c2,c3,c4,c5,c6,c7,c8,gd,gr,hdt,c9]
   refine aA (ds:=[.i .i64 e]) ?_ (vV e (by omega) (by omega)) ?_
   ·have he2:(if(1:Int)<(e0:Int)then(e0:Int)else 1)=e:=by split<;>omega
    simp[-map_map,-mapM_map,↓KW,he2,c9]
   ·simp[-map_map,-mapM_map,↓KW,aN,encZ,encI]
 ·obtain⟨j,hj⟩:∃ j,k=j+1:=⟨k-1,by omega⟩
  have hk2:r.length=(j+m)+2:=by omega
  have gs:=getD_some (l:=r) (i:=j+m) (by omega)
  have hrs:=hr.getD (j+m)
  have hv2:=bAt hk2
  rw[show j+m+1=k+m by omega]at hv2
  have c10:Ah.wrap ((r.length:Int)-2)=((j+m:Nat):Int):=by rw[aR (by omega) (by omega)];omega
  have c11:Ah.wrap ((k:Int)-1)=(j:Int):=by rw[aR (by omega) (by omega)];omega
  obtain⟨n1,hn1⟩:∃ n1,k+m=n1:=⟨_,rfl⟩
  obtain⟨n2,hn2⟩:∃ n2,j+m=n2:=⟨_,rfl⟩
  rw[hn1]at gr hrm hrtop c5 hv2
  rw[hn2]at gs hrs c10 hv2
  generalize r.getD n1 0=rt at *
  generalize r.getD n2 0=rs at *
  have c12:AY.wrap (rt:Int)=rt:=bP (by omega) (by omega)
  have c13:AY.wrap (rs:Int)=rs:=bP (by omega) (by omega)
  have c14:AY.wrap ((rt:Int)*4294967296)=(rt:Int)*4294967296:=bP (by omega) (by omega)
  obtain⟨t,ht⟩:∃ t,rt*4294967296+rs=t:=⟨_,rfl⟩
  rw[ht]at hv2
  have c15:AY.wrap ((rt:Int)*4294967296+rs)=t:=by rw[bP (by omega) (by omega)];omega
  obtain⟨e,he⟩:∃ e,t/low=e:=⟨_,rfl⟩
  have he1:e*low≤t:=by rw[←he];exact Nat.div_mul_le_self _ _
  have hel:e≤t:=by rw[←he];exact Nat.div_le_self _ _
  have he0:0<e:=by rw[←he];exact Nat.div_pos (by omega) (by omega)
  have c16:AY.wrap ((t:Int)/low)=e:=by rw[←Int.natCast_ediv,he,bP (by omega) (by omega)]
  obtain⟨lo,hi,k1,k2,e3,e4,e5⟩:=aWq (u:=e) (by omega)
  have hpow:4294967296^j*4294967296^m=4294967296^n2:=by rw[←CC,hn2]
  refine⟨4294967296^j*e,Fk (Nat.pow_pos (by decide)) he0,bGm hdv he1 (by rw[hpow];omega),?_⟩
  have hlim:Lim (Ay j 0++[lo,hi]):=(Lim.rep j).app k1
  have hval:val (Ay j 0++[lo,hi])=4294967296^j*e:=by rw[mR,zV,D2,k2,Bf]
  have hlen2:(Ay j 0++[lo,hi]).length=j+2:=by simp
  have hm2:=fZ (Ay j 0++[lo,hi]) false (by rw[hlen2];omega)
  rw[dV hlim,hval,show sg false (4294967296^j*e)=((4294967296^j*e:Nat):Int)from rfl]at hm2
  have m1:(4:Int)*j≤281474976710656:=by omega
  have m2:(j:Int)≤9223372036854775807:=by omega
  have m3:(j+2)*4≤140737488355328:=by omega
  have m4:j+2≤maxLen:=by unfold maxLen;omega
  have hrep:(BR AV.d (lms (Ay j 0))).length=j:=by simp[lY]
  refine aZ (N:=66) aI Tryz.func162 rfl rfl rfl (by kernel_rfl) (by kernel_rfl) (by simp) ?_
  generalize 4294967296^j*e=res at *
  have hcells:BR AV.d (lms (Ay j 0))++[AV.d (D.i .u32 (lo:Int)),AV.d (D.i .u32 (hi:Int))]=BR AV.d (lms (Ay j 0++[lo,hi])):=by rw[gC,By];rfl
  have hkk:((k:Int)==0)=false:=by simp only[EX,ne_eq];omega
  simp[-map_map,-mapM_map,↓KW,aN,c1,c2,c3,c4,c5,c6,c10,c11,c12,c13,c14,c15,c16,gd,gr,gs,hdt,e3,e4,e5,hkk,m1,m2,m3,m4,hrep]
  rw[hcells]
  generalize Ay j 0++[lo,hi]=L at *
  refine aA (ds:=[aN L,.b false]) ?_ hm2 ?_
  ·simp[-map_map,-mapM_map,↓KW,aN,hlen2,fX hlen2,dY hlen2]
  ·simp[-map_map,-mapM_map,↓KW,aN,encZ,encI,hlen2,fX hlen2,dY hlen2]
end Go.Am
end

section
set_option linter.unusedVariables false
set_option linter.unusedSimpArgs false
open List (map_map mapM_map)
open Go Go.Am Go.Proofs
namespace Go.Am
theorem mX(x:Int)(hx:(aX x.natAbs).length≤549755813888):Spec Tryz.prog 132 [encZ x] (encZ (-x)):=by
 refine aZ (N:=9) aI Tryz.func132 rfl rfl rfl (by kernel_rfl) (by kernel_rfl) (by simp) ?_
 have la:=cM x.natAbs
 have va:=cY x.natAbs
 have sx:=iN x
 have ex:encZ x=.ag [.b (decide (x<0)),aN (aX x.natAbs)]:=rfl
 have hm:=fZ (aX x.natAbs) (!decide (x<0)) (by omega)
 rw[dV la,va]at hm
 have e:sg (!decide (x<0)) x.natAbs=-x:=by
  unfold sg;by_cases h:x<0<;>simp[h]<;>omega
 rw[e]at hm
 rw[ex]
 generalize aX x.natAbs=a at *
 generalize decide (x<0)=nx at *
 simp[-map_map,-mapM_map,↓KW,aN]
 refine aA (ds:=[aN a,.b (!nx)]) ?_ hm ?_
 ·cases nx<;>rfl
 ·simp[-map_map,-mapM_map,↓KW,aN,encZ,encI]
theorem aIl(x y:Int)(hx:(aX x.natAbs).length≤549755813888)(hy:(aX y.natAbs).length≤549755813888):Spec Tryz.prog 148 [encZ x,encZ y] (encZ (x-y)):=by
 refine aZ (N:=9) aI Tryz.func148 rfl rfl rfl (by kernel_rfl) (by kernel_rfl) (by simp) ?_
 have h1:=mX y hy
 have h2:=qF x (-y) hx (by rw[Int.natAbs_neg];exact hy)
 rw[←Int.sub_eq_add_neg]at h2
 simp[-map_map,-mapM_map,↓KW,encZ,encI,aN]
 refine aA (ds:=[encZ y]) (by rfl) h1 ?_
 simp[-map_map,-mapM_map,↓KW,encZ,encI,aN]
 refine aA (ds:=[encZ x,encZ (-y)]) ?_ h2 ?_
 ·simp[-map_map,-mapM_map,↓KW,encZ,encI,aN]
 ·simp[-map_map,-mapM_map,↓KW,encZ,encI,aN]
end Go.Am
end

section
set_option linter.unusedVariables false
set_option linter.unusedSimpArgs false
open List (map_map mapM_map)
open Go Go.Am Go.Proofs
namespace Go.Am
theorem aZl{x y c q r:Nat}(hc:0<c)(hy:0<y)(h:q*(y*c)+r=x*c)(hr:r<y*c):q=x/y∧r/c=x%y:=by
 have hq:x*c/(y*c)=q:=by
  have:=(Nat.div_mod_unique (Fk hy hc) (a:=x*c) (d:=q) (c:=r)).2 ⟨by rw[BU (y*c)];omega,hr⟩
  exact this.1
 rw[Nat.mul_div_mul_right _ _ hc]at hq
 refine⟨hq.symm,?_⟩
 have h2:r=x%y*c:=by
  have h3:=ER x y
  rw[hq]at h3
  have h4:(y*q+x%y)*c=x*c:=by rw[h3]
  rw[Bp]at h4
  have h5:y*q*c=q*(y*c):=by rw[BU y,BF]
  omega
 rw[h2,Nat.mul_div_cancel _ hc]
theorem bGy{n:Nat}(h:0<n)(h2:n<4294967296):aX n=[n]:=by
 rw[iK (by omega),Nat.mod_eq_of_lt h2,Nat.div_eq_of_lt h2,cP]
theorem bGs{dt c:Nat}(htop:0<dt)(hs:dt*c<4294967296):∃ t,dt*c=t∧c≤t∧t<4294967296∧(t<2147483648→dt*(2*c)<4294967296) :=
 ⟨_,rfl,Nat.le_mul_of_pos_left _ htop,hs,fun h=>by rw[Dz];omega⟩
def zq(q:Nat):AV:=if q=0 then .nil else .d (aN (aX q))
theorem xH{x c n:Nat}(h1:(aX x).length≤n)(h2:c<4294967296):(aX (x*c)).length≤n+1 :=
 fC (by rw[Cf];exact Nat.mul_lt_mul'' (fR h1) h2)
theorem bIu{x c X:Nat}(h:x+c=X)(h1:(aX (x:Int).natAbs).length≤549755813888)(h2:(aX (c:Int).natAbs).length≤549755813888):Spec Tryz.prog 85 [encZ (x:Int),encZ (c:Int)] (encZ (X:Int)):=by
 have:=qF (x:Int) (c:Int) h1 h2
 rwa [←Int.natCast_add,h]at this
theorem bAy{x c X:Nat}(h:x=X+c)(h1:(aX (x:Int).natAbs).length≤549755813888)(h2:(aX (c:Int).natAbs).length≤549755813888):Spec Tryz.prog 148 [encZ (x:Int),encZ (c:Int)] (encZ (X:Int)):=by
 have:=aIl (x:Int) (c:Int) h1 h2
 rwa [show(x:Int)-c=X by omega]at this
theorem bGu{q Y r X e E r':Nat}(hp:q*Y+r=X)(hE:e*Y=E)(hr:r=r'+E)(he:0<e)(hY:0<Y):(q+e)*Y+r'=X∧r'<r∧q+e≤X∧E≤X:=by
 have h1:(q+e)*Y+r'=X:=by rw[Bp,hE];omega
 have h2:0<E:=by rw[←hE];exact Fk he hY
 have h3:q+e≤(q+e)*Y:=Nat.le_mul_of_pos_right _ hY
 exact⟨h1,by omega,by omega,by omega⟩
theorem bEl{c:Nat}(h:c<4294967296):(aX (c:Int).natAbs).length≤1:=fC (by simpa using h)
theorem aCc{x c X:Nat}(h:x*c=X)(h1:(aX (x:Int).natAbs).length≤137438953472)(h2:(aX (c:Int).natAbs).length≤137438953472):Spec Tryz.prog 77 [encZ (x:Int),encZ (c:Int)] (encZ (X:Int)):=by
 have:=oI (x:Int) (c:Int) h1 h2
 rwa [←ES,h]at this
theorem bEd(n:Nat)(hn:n<4294967296):Spec Tryz.prog 78 [aN [n],.b false] (encZ (n:Int)):=by
 have hm:=fZ [n] false (by simp)
 rw[dV (.one hn)]at hm
 simpa[val,sg]using hm
set_option maxRecDepth 10000 in
theorem aXl(x y qq rr:Nat)(hqq:x/y=qq)(hrr:x%y=rr)(hy:0<y)(hlx:(aX x).length≤34359738368)(hly:(aX y).length≤34359738368):Spec Tryz.prog 147 [aN (aX x),aN (aX y)] (.tp [encZ (qq:Int),encZ (rr:Int)]):=by
 refine aZ (N:=86) aI Tryz.func147 rfl rfl rfl (by kernel_rfl) (by kernel_rfl) (by simp) ?_
 have lx:=cM x
 have ly:=cM y
 have vx:=cY x
 have vy:=cY y
 have cy:=nY y
 have hne:aX y≠[]:=fun h=>by rw[gD]at h;omega
 have hyl:0<(aX y).length:=DF.2 hne
 have hmx:∀ n:Nat,n<4294967296→Spec Tryz.prog 78 [aN [n],.b false] (encZ (n:Int)):=fun n hn=>by
  have hm:=fZ [n] false (by simp)
  rw[dV (.one hn)]at hm
  simpa[val,sg]using hm
 by_cases h1:(aX y).length=1
 ·obtain⟨d,hd⟩:=List.length_eq_one_iff.1 h1
  have hdl:d<4294967296:=ly d (by rw[hd];simp)
  have hdv:d=y:=by rw[hd]at vy;simpa[val]using vy
  have hs:=aLv (aX x) d lx (by omega) hdl (by omega)
  obtain⟨s1,s2,s3,_⟩:=aIg (a:=aX x) (d:=d) lx (by omega)
  have hm1:=fZ (shQ (aX x) d) false (by omega)
  rw[dV s2,s3,vx,show sg false (x/d)=((x/d:Nat):Int)from rfl]at hm1
  have hm2:=hmx (val (aX x)%d) (by have:=D9 (val (aX x)) (show d>0 by omega);omega)
  rw[hd]
  rw[vx,hdv,hrr]at hm2 hs
  rw[hdv,hqq]at hm1
  rw[hdv]
  generalize shQ (aX x) y=Q at *
  generalize aX x=a at *
  simp[-map_map,-mapM_map,↓KW,aN]
  refine aA (ds:=[aN a,.i .u32 y]) (by rfl) hs ?_
  simp[-map_map,-mapM_map,↓KW,aN]
  refine aA (ds:=[aN Q,.b false]) (by rfl) hm1 ?_
  simp[-map_map,-mapM_map,↓KW,aN]
  refine aA (ds:=[aN [rr],.b false]) ?_ hm2 ?_
  ·simp[-map_map,-mapM_map,↓KW,aN]
  simp[-map_map,-mapM_map,↓KW,aN,encZ,encI,fV]
 ·have hq1:(((aX y).length:Int)==1)=false:=by simp only[EX,ne_eq];omega
  obtain⟨m,hm⟩:∃ m,(aX y).length=m+1:=⟨(aX y).length-1,by omega⟩
  have gd:=getD_some (l:=aX y) (i:=m) (by omega)
  have hdm:=ly.getD m
  have htop:0<(aX y).getD m 0:=by
   have h2:(aX y).getLast? ≠ some 0:=cy
   rw[Ds,show(aX y).length-1=m by omega,gd]at h2
   rcases Ce ((aX y).getD m 0)with h|h
   ·rw[h]at h2;exact absurd rfl h2
   ·exact h
  generalize(aX y).getD m 0=dt at *
  have c2:Ah.wrap (((aX y).length:Int)-1)=(m:Int):=by rw[aR (by omega) (by omega)];omega
  have c3:AY.wrap (dt:Int)=dt:=bP (by omega) (by omega)
  have hma:=fZ (aX x) false (by omega)
  rw[dV lx,vx,show sg false x=(x:Int)from rfl]at hma
  have hmb:=fZ (aX y) false (by omega)
  rw[dV ly,vy,show sg false y=(y:Int)from rfl]at hmb
  have hX:(aX (x:Int).natAbs).length≤34359738368:=hlx
  have hY:(aX (y:Int).natAbs).length≤34359738368:=hly
  generalize aX x=a at *
  generalize aX y=b at *
  clear hmx lx ly vx vy cy hne
  simp[-map_map,-mapM_map,↓KW,aN,hq1]
  refine aU (fun c:Nat=>0<c∧dt*c<4294967296)
   (fun c=>StL [(0,.d (aN a)),(1,.d (aN b)),(4,.ptr 1 0),(5,.ptr 2 0),(8,.d (.i .u32 (c:Int)))] none
    [.cells 74 [.d (.b false),.nil],.cells 74 [.d (.b false),.nil]]) (fun c=>4294967296-c) 1 ⟨by decide,by omega⟩ ?_ ?_
  ·refine aY [1,2] (by simp) ?_ ?_<;>simp[-map_map,upd,aT,Γ0,aN]
  ·intro c hs
   refine(bGs htop hs.2).elim fun t h5=>?_
   have hc0:=hs.1
   have ht:=h5.1
   have hcd:=h5.2.1
   have hs2:=h5.2.2.1
   have hdc:=h5.2.2.2
   have c4:AY.wrap (c:Int)=c:=bP (by omega) (by omega)
   have c5:AY.wrap ((dt:Int)*c)=t:=by rw[←ES,ht,bP (by omega) (by omega)]
   by_cases hgo:t<2147483648
   ·have q1:(t:Int)<2147483648:=by omega
    have c6:BY.wrap (2*(c:Int))=2*(c:Int):=jS (by omega) (by omega)
    simp[-map_map,-mapM_map,↓KW,aN,c2,c3,c4,c5,c6,gd,q1]
    refine aJ (2*c) ⟨by omega,hdc hgo⟩ ?_ (aY [1,2] (by simp) ?_ ?_)
    ·omega
    ·simp[-map_map,upd,aT,Γ0,aN]
    ·simp[-map_map,upd,aT,Γ0,aN]
   ·have q1:¬(t:Int)<2147483648:=by omega
    have hc32:c<4294967296:=by omega
    have hmc:=bEd c hc32
    simp[-map_map,-mapM_map,↓KW,aN,c2,c3,c4,c5,gd,q1]
    refine aA (ds:=[aN [c],.b false]) ?_ hmc ?_
    ·simp[-map_map,-mapM_map,↓KW,aN]
    simp[-map_map,-mapM_map,↓KW,aN,encZ,encI]
    refine aA (ds:=[aN a,.b false]) (by rfl) hma ?_
    simp[-map_map,-mapM_map,↓KW,encZ,encI,aN]
    refine(⟨_,rfl⟩:∃ X,x*c=X).elim fun X hXe=>?_
    refine(⟨_,rfl⟩:∃ X,y*c=X).elim fun Y hYe=>?_
    have hC:=bEl hc32
    have hXl:(aX X).length≤34359738369:=by rw[←hXe];exact xH hX hc32
    have hYl:(aX Y).length≤34359738369:=by rw[←hYe];exact xH hY hc32
    have hY0:0<Y:=by rw[←hYe];exact Fk hy hc0
    have hMx:=aCc (X:=X) hXe (by omega) (by omega) (x:=x) (c:=c)
    have hMy:=aCc (X:=Y) hYe (by omega) (by omega) (x:=y) (c:=c)
    refine aA (ds:=[encZ x,encZ c]) ?_ hMx ?_
    ·simp[-map_map,-mapM_map,↓KW,encZ,encI,aN]
    simp[-map_map,-mapM_map,↓KW,encZ,encI,aN]
    refine aA (ds:=[aN b,.b false]) (by rfl) hmb ?_
    simp[-map_map,-mapM_map,↓KW,encZ,encI,aN]
    refine aA (ds:=[encZ y,encZ c]) ?_ hMy ?_
    ·simp[-map_map,-mapM_map,↓KW,encZ,encI,aN]
    simp[-map_map,-mapM_map,↓KW,encZ,encI,aN]
    refine aU (fun p:Nat×Nat=>p.1*Y+p.2=X)
     (fun p=>StL [(4,.ptr 1 0),(5,.ptr 2 0),(8,.d (.i .u32 (c:Int))),(10,.ptr 3 0),(11,.ptr 4 0),(12,.ptr 5 0)] none
      [.cells 74 [.d (.b false),.nil],.cells 74 [.d (.b false),.nil],.cells 74 [.d (.b false),.d (aN (aX p.2))],.cells 74 [.d (.b false),.d (aN (aX Y))],.cells 74 [.d (.b false),zq p.1]]) (fun p=>p.2) (0,X) (by simp) ?_ ?_
    ·refine aY [1,2,5,6,7] (by simp) ?_ ?_<;>simp[-map_map,upd,aT,Γ0,aN,zq]
    ·intro p hp
     have hpX:p.2≤X:=by rw[←hp];exact Nat.le_add_left _ _
     have hpl:=Ap (dW hpX) hXl
     have hless:=aAb (aX p.2) (aX Y) (cM _) (cM _) (by omega) (by omega)
     rw[kB]at hless
     simp[-map_map,-mapM_map,↓KW,aN]
     refine aA (ds:=[aN (aX p.2),aN (aX Y)]) (by rfl) hless ?_
     by_cases hgo:p.2<Y
     ·simp[-map_map,-mapM_map,↓KW,hgo]
      have hsh:=aLv (aX p.2) c (cM _) hc0 hc32 (by omega)
      have hsv:=aIg (cM p.2) hc0
      have hmd:=fZ (shQ (aX p.2) c) false (by have:=hsv.1;omega)
      have hfin:=aZl hc0 hy (x:=x) (q:=p.1) (r:=p.2) (by rw[hYe,hXe];exact hp) (by rw[hYe];exact hgo)
      rw[dV hsv.2.1,hsv.2.2.1,cY,hfin.2,hrr,show sg false rr=(rr:Int)from rfl]at hmd
      refine aA (ds:=[aN (aX p.2),.i .u32 c]) (by rfl) hsh ?_
      simp[-map_map,-mapM_map,↓KW,aN]
      refine aA (ds:=[aN (shQ (aX p.2) c),.b false]) (by rfl) hmd ?_
      have hq1:p.1=qq:=hfin.1.trans hqq
      rw[hq1]
      by_cases hq0:qq=0
      ·simp[-map_map,-mapM_map,↓KW,encZ,encI,aN,fV,zq,hq0,cP]
      ·simp[-map_map,-mapM_map,↓KW,encZ,encI,aN,fV,zq,hq0]
     ·simp[-map_map,-mapM_map,↓KW,hgo]
      refine(aLx (aX p.2) (aX Y) (cM _) (cM _) (nY _) (nY _) (fun h=>by rw[gD]at h;omega) (by rw[cY,cY];omega) (by omega)).elim fun e he=>?_
      have he1:=he.2.1
      rw[cY,cY]at he1
      refine(⟨_,rfl⟩:∃ E,e*Y=E).elim fun E hE=>?_
      rw[hE]at he1
      refine(⟨_,rfl⟩:∃ F,p.2-E=F).elim fun R' hR'=>?_
      have hR2:p.2=R'+E:=by omega
      have hst:=bGu hp hE hR2 he.1 hY0
      refine(⟨_,rfl⟩:∃ F,p.1+e=F).elim fun q' hq'=>?_
      rw[hq']at hst
      have hel:(aX (e:Int).natAbs).length≤34359738369:=Ap (dW (show e≤X by omega)) hXl
      have hqpl:(aX (p.1:Int).natAbs).length≤34359738369:=Ap (dW (show p.1≤X by omega)) hXl
      have hEl:(aX (E:Int).natAbs).length≤34359738369:=Ap (dW (show E≤X by omega)) hXl
      have hrl:(aX (p.2:Int).natAbs).length≤34359738369:=hpl
      have hYl2:(aX (Y:Int).natAbs).length≤34359738369:=hYl
      have hadd:=bIu hq' (by omega) (by omega)
      have hmul:=aCc hE (by omega) (by omega)
      have hsub:=bAy hR2 (by omega) (by omega)
      by_cases hq0:p.1=0
      ·have hz:zq p.1=.nil:=Ag hq0
       refine aA (ds:=[aN (aX p.2),aN (aX Y)]) (by rfl) he.2.2 ?_
       simp[-map_map,-mapM_map,↓KW,aN,encZ,encI,hz]
       refine aA (ds:=[encZ p.1,encZ e]) ?_ hadd ?_
       ·simp[-map_map,-mapM_map,↓KW,encZ,encI,aN,hq0,cP]
       simp[-map_map,-mapM_map,↓KW,aN,encZ,encI]
       refine aA (ds:=[encZ e,encZ Y]) ?_ hmul ?_
       ·simp[-map_map,-mapM_map,↓KW,encZ,encI,aN]
       simp[-map_map,-mapM_map,↓KW,aN,encZ,encI]
       refine aA (ds:=[encZ p.2,encZ E]) ?_ hsub ?_
       ·simp[-map_map,-mapM_map,↓KW,encZ,encI,aN]
       simp[-map_map,-mapM_map,↓KW,aN,encZ,encI]
       have hz2:zq q'=.d (aN (aX q')):=Ae (by have:=he.1;omega)
       refine aJ (q',R') hst.1 hst.2.1 (aY [1,2,3,4,5] (by simp) ?_ ?_)
       ·simp[-map_map,upd,aT,Γ0,aN,hz2]
       ·simp[-map_map,upd,aT,Γ0,aN,hz2]
      ·have hz:zq p.1=.d (aN (aX p.1)):=Ae hq0
       refine aA (ds:=[aN (aX p.2),aN (aX Y)]) (by rfl) he.2.2 ?_
       simp[-map_map,-mapM_map,↓KW,aN,encZ,encI,hz]
       refine aA (ds:=[encZ p.1,encZ e]) ?_ hadd ?_
       ·simp[-map_map,-mapM_map,↓KW,encZ,encI,aN,hq0,cP]
       simp[-map_map,-mapM_map,↓KW,aN,encZ,encI]
       refine aA (ds:=[encZ e,encZ Y]) ?_ hmul ?_
       ·simp[-map_map,-mapM_map,↓KW,encZ,encI,aN]
       simp[-map_map,-mapM_map,↓KW,aN,encZ,encI]
       refine aA (ds:=[encZ p.2,encZ E]) ?_ hsub ?_
       ·simp[-map_map,-mapM_map,↓KW,encZ,encI,aN]
       simp[-map_map,-mapM_map,↓KW,aN,encZ,encI]
       have hz2:zq q'=.d (aN (aX q')):=Ae (by have:=he.1;omega)
       refine aJ (q',R') hst.1 hst.2.1 (aY [1,2,3,4,5] (by simp) ?_ ?_)
       ·simp[-map_map,upd,aT,Γ0,aN,hz2]
       ·simp[-map_map,upd,aT,Γ0,aN,hz2]
end Go.Am
end
