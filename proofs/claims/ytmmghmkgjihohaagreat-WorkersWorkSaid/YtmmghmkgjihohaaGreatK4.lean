/- The reference's integers: division by one limb. No condition. -/
import Derived.Test.YtmmghmkgjihohaaGreatK3
import Derived.Test.YtmmghmkgjihohaaGreatRows
import Derived.AtR
import Derived.RangeFuncIn
import Derived.RangeFuncRecord
import Derived.Laws.Bits64b
open And renaming intro→AN
open Array renaming empty_append→Ca,getElem?_push→Bm,length_toList→BA,mem_of_getElem?→BS,replicate→AU
open Bool renaming and_eq_true→AR,false_eq_true→Ae,or_eq_false_iff→FL
open Go.Act renaming put→C0
open Go.CallKind renaming early→C9
open Go.Deferred renaming ofValue→Cq
open Go.Exit renaming inBlock→DR
open Go.Frame renaming atR→Ck,enter→CZ,finish_at→D6,finish_atR→Em,round→Fb
open Go.GStep renaming after→Cl
open Go.Instr renaming beginRound→EX,endRound→F0,takeDeferred→Fa
open Go.IntKind renaming bits→Dt,i64→Al,u32→BR,u64→AB
open Go.Program renaming underlying→Aq
open Go.Proofs.Tryz renaming prog→Aa,prog→Dw
open Go.Region renaming ready→Bo,schedule→FN,wanted→Bl
open Go.Region.linearise renaming go→Cm
open Go.Result renaming andThen→En,andThen_ok→AH
open Go.Sem renaming runT_eq→Di
open Go.World renaming putObj_heap_other→Eo
open Go.stepG renaming apply→DX,exec→B7
open Int renaming fdiv_eq_ediv_of_nonneg→Du,lt_trichotomy→Fj,mul_neg→DJ,natCast_mul→B9,neg_mul→Gm,sign_eq_neg_one_of_neg→D1,sign_eq_one_of_pos→DU,toNat_of_nonneg→BN
open List renaming all_eq_true→AW,contains_cons→B6,drop_eq_getElem_cons→Cv,drop_eq_nil_of_le→CO,getD_eq_getElem?_getD→Ac,getElem?_append_right→AM,getElem?_cons_succ→Bt,getElem?_cons_zero→BP,getElem?_eq_getElem→Ab,getElem?_eq_none→AX,getElem?_eq_some_iff→Ao,getElem?_map→Ag,getElem?_set_ne→D9,length_append→A8,length_cons→Aj,length_take→Be,map→Cs,mem_cons→Bq,mem_cons_of_mem→AJ,mem_cons_self→AI,mem_of_getElem?→Ai,nodup_cons→Dz,range→AK,range'→Dy,range'_succ→DY,range_eq_range'→EO,replicate→As,set_cons_zero→DG,singleton_append→Ft,take_add_one→BE,take_of_length_le→AG,take_zero→Cx
open Nat renaming add_assoc→DW,add_mul→BV,add_zero→B8,eq_zero_or_pos→Bb,le_refl→AA,le_trans→AY,lt_of_lt_of_le→A9,lt_or_ge→Az,lt_succ_self→Cr,mod_lt→BL,mul_add→Cd,mul_assoc→B0,mul_comm→BJ,mul_le_mul→A3,mul_le_mul_left→Cn,mul_left_comm→Fl,mul_one→CJ,mul_zero→Dr,one_mul→CE,pow_add→Es,pow_succ→BH,pow_zero→Db,sub_self→CN,zero_add→Ax,zero_le→A5
open Option renaming isSome_map→EM,map_eq_some_iff→Af,toList_some→EA
open Option.some renaming injEq→At
open _root_ renaming decide_eq_true_eq→Bw,if_false→Av,if_neg→Ah,if_pos→Ap,if_true→AF
set_option linter.unusedSectionVars false
set_option linter.unusedVariables false
set_option linter.unusedSimpArgs false
section
open Go Go.Proofs
namespace Go.Am
@[simp]theorem cBc:tsz Aa 2=some 1∧tby Aa 2=some 8∧tz Aa 2=some (.int .i64 0)∧cB Aa 2=some false∧tel Aa 2=none∧bI Aa 2=false∧(Aq Aa 2).isSome=true∧eQ Aa 2=some .i64∧tsz Aa 3=some 1∧tby Aa 3=some 8∧tz Aa 3=some (.int .i64 0)∧cB Aa 3=some false∧tel Aa 3=none∧bI Aa 3=false∧(Aq Aa 3).isSome=true∧eQ Aa 3=some .i64∧tsz Aa 4=some 1∧tby Aa 4=some 1∧tz Aa 4=some (.bool false)∧cB Aa 4=some false∧tel Aa 4=none∧bI Aa 4=true∧(Aq Aa 4).isSome=true∧tsz Aa 5=some 1∧tby Aa 5=some 1∧tz Aa 5=some (.int .u8 0)∧cB Aa 5=some false∧tel Aa 5=none∧bI Aa 5=false∧(Aq Aa 5).isSome=true∧eQ Aa 5=some .u8∧tsz Aa 6=some 1∧tby Aa 6=some 1∧tz Aa 6=some (.int .u8 0)∧cB Aa 6=some false∧tel Aa 6=none∧bI Aa 6=false∧(Aq Aa 6).isSome=true∧eQ Aa 6=some .u8∧tsz Aa 7=some 4:=by and_intros<;>kernel_rfl
@[simp]theorem cBd:tby Aa 7=some 24∧tz Aa 7=some (.agg #[.int .i64 0,.int .i64 0,.bool false,.int .u8 0])∧cB Aa 7=some true∧tel Aa 7=none∧bI Aa 7=false∧(Aq Aa 7).isSome=true∧fE Aa 7=some [(0,1),(1,1),(2,1),(3,1)]∧tsz Aa 8=some 4∧tby Aa 8=some 24∧tz Aa 8=some (.agg #[.int .i64 0,.int .i64 0,.bool false,.int .u8 0])∧cB Aa 8=some true∧tel Aa 8=none∧bI Aa 8=false∧(Aq Aa 8).isSome=true∧fE Aa 8=some [(0,1),(1,1),(2,1),(3,1)]∧tsz Aa 12=some 1∧tby Aa 12=some 8∧tz Aa 12=some (.int .u64 0)∧cB Aa 12=some false∧tel Aa 12=none∧bI Aa 12=false∧(Aq Aa 12).isSome=true∧eQ Aa 12=some .u64∧tsz Aa 21=some 1∧tby Aa 21=some 4∧tz Aa 21=some (.int .i32 0)∧cB Aa 21=some false∧tel Aa 21=none∧bI Aa 21=false∧(Aq Aa 21).isSome=true∧eQ Aa 21=some .i32∧tsz Aa 22=some 1∧tby Aa 22=some 24∧tz Aa 22=some (.slice none 0 0)∧cB Aa 22=some false∧tel Aa 22=some 100∧bI Aa 22=false∧(Aq Aa 22).isSome=true∧tsz Aa 23=some 3∧tby Aa 23=some 32:=by and_intros<;>kernel_rfl
@[simp]theorem cBb:tz Aa 23=some (.agg #[.int .u8 0,.int .u8 0,.slice none 0 0])∧cB Aa 23=some true∧tel Aa 23=none∧bI Aa 23=false∧(Aq Aa 23).isSome=true∧fE Aa 23=some [(0,1),(1,1),(2,1)]∧tsz Aa 24=some 3∧tby Aa 24=some 32∧tz Aa 24=some (.agg #[.int .u8 0,.int .u8 0,.slice none 0 0])∧cB Aa 24=some true∧tel Aa 24=none∧bI Aa 24=false∧(Aq Aa 24).isSome=true∧fE Aa 24=some [(0,1),(1,1),(2,1)]∧tsz Aa 25=some 1∧tby Aa 25=some 24∧tz Aa 25=some (.slice none 0 0)∧cB Aa 25=some false∧tel Aa 25=some 43∧bI Aa 25=false∧(Aq Aa 25).isSome=true∧tsz Aa 27=some 1∧tby Aa 27=some 24∧tz Aa 27=some (.slice none 0 0)∧cB Aa 27=some false∧tel Aa 27=some 93∧bI Aa 27=false∧(Aq Aa 27).isSome=true∧tsz Aa 28=some 3∧tby Aa 28=some 40∧tz Aa 28=some (.agg #[.int .i64 0,.int .i64 0,.slice none 0 0])∧cB Aa 28=some true∧tel Aa 28=none∧bI Aa 28=false∧(Aq Aa 28).isSome=true∧fE Aa 28=some [(0,1),(1,1),(2,1)]∧tsz Aa 29=some 3∧tby Aa 29=some 40∧tz Aa 29=some (.agg #[.int .i64 0,.int .i64 0,.slice none 0 0])∧cB Aa 29=some true:=by and_intros<;>kernel_rfl
@[simp]theorem bZh:tel Aa 29=none∧bI Aa 29=false∧(Aq Aa 29).isSome=true∧fE Aa 29=some [(0,1),(1,1),(2,1)]∧tsz Aa 31=some 1∧tby Aa 31=some 24∧tz Aa 31=some (.slice none 0 0)∧cB Aa 31=some false∧tel Aa 31=some 47∧bI Aa 31=false∧(Aq Aa 31).isSome=true∧tsz Aa 32=some 1∧tby Aa 32=some 8∧tz Aa 32=some (.int .i64 0)∧cB Aa 32=some false∧tel Aa 32=none∧bI Aa 32=false∧(Aq Aa 32).isSome=true∧eQ Aa 32=some .i64∧tsz Aa 38=some 1∧tby Aa 38=some 24∧tz Aa 38=some (.slice none 0 0)∧cB Aa 38=some false∧tel Aa 38=some 72∧bI Aa 38=false∧(Aq Aa 38).isSome=true∧tsz Aa 39=some 2∧tby Aa 39=some 32∧tz Aa 39=some (.agg #[.bool false,.slice none 0 0])∧cB Aa 39=some true∧tel Aa 39=none∧bI Aa 39=false∧(Aq Aa 39).isSome=true∧fE Aa 39=some [(0,1),(1,1)]∧tsz Aa 40=some 2∧tby Aa 40=some 32∧tz Aa 40=some (.agg #[.bool false,.slice none 0 0])∧cB Aa 40=some true∧tel Aa 40=none∧bI Aa 40=false:=by and_intros<;>kernel_rfl
@[simp]theorem bYu:(Aq Aa 40).isSome=true∧fE Aa 40=some [(0,1),(1,1)]∧tsz Aa 43=some 1∧tby Aa 43=some 8∧tz Aa 43=some (.int .u64 0)∧cB Aa 43=some false∧tel Aa 43=none∧bI Aa 43=false∧(Aq Aa 43).isSome=true∧eQ Aa 43=some .u64∧tsz Aa 44=some 2∧tby Aa 44=some 16∧tz Aa 44=some (.agg #[.int .u64 0,.int .u64 0])∧cB Aa 44=some true∧tel Aa 44=none∧bI Aa 44=false∧(Aq Aa 44).isSome=true∧fE Aa 44=some [(0,1),(1,1)]∧tsz Aa 45=some 2∧tby Aa 45=some 16∧tz Aa 45=some (.agg #[.int .u64 0,.int .u64 0])∧cB Aa 45=some true∧tel Aa 45=none∧bI Aa 45=false∧(Aq Aa 45).isSome=true∧fE Aa 45=some [(0,1),(1,1)]∧tsz Aa 46=some 3∧tby Aa 46=some 24∧tz Aa 46=some (.agg #[.int .i64 0,.int .u64 0,.int .u64 0])∧cB Aa 46=some true∧tel Aa 46=none∧bI Aa 46=false∧(Aq Aa 46).isSome=true∧fE Aa 46=some [(0,1),(1,2)]∧tsz Aa 47=some 3∧tby Aa 47=some 24∧tz Aa 47=some (.agg #[.int .i64 0,.int .u64 0,.int .u64 0])∧cB Aa 47=some true∧tel Aa 47=none∧bI Aa 47=false:=by and_intros<;>kernel_rfl
@[simp]theorem bYt:(Aq Aa 47).isSome=true∧fE Aa 47=some [(0,1),(1,2)]∧tsz Aa 50=some 1∧tby Aa 50=some 24∧tz Aa 50=some (.slice none 0 0)∧cB Aa 50=some false∧tel Aa 50=some 3∧bI Aa 50=false∧(Aq Aa 50).isSome=true∧tsz Aa 51=some 3∧tby Aa 51=some 56∧tz Aa 51=some (.agg #[.bool false,.slice none 0 0,.slice none 0 0])∧cB Aa 51=some true∧tel Aa 51=none∧bI Aa 51=false∧(Aq Aa 51).isSome=true∧fE Aa 51=some [(0,2),(2,1)]∧tsz Aa 52=some 3∧tby Aa 52=some 56∧tz Aa 52=some (.agg #[.bool false,.slice none 0 0,.slice none 0 0])∧cB Aa 52=some true∧tel Aa 52=none∧bI Aa 52=false∧(Aq Aa 52).isSome=true∧fE Aa 52=some [(0,2),(2,1)]∧tsz Aa 56=some 1∧tby Aa 56=some 24∧tz Aa 56=some (.slice none 0 0)∧cB Aa 56=some false∧tel Aa 56=some 2∧bI Aa 56=false∧(Aq Aa 56).isSome=true∧tsz Aa 66=some 0∧tby Aa 66=some 0∧tz Aa 66=some (.agg #[])∧cB Aa 66=some true∧tel Aa 66=none∧bI Aa 66=false∧(Aq Aa 66).isSome=true∧fE Aa 66=some []:=by and_intros<;>kernel_rfl
@[simp]theorem bZg:tsz Aa 67=some 0∧tby Aa 67=some 0∧tz Aa 67=some (.agg #[])∧cB Aa 67=some true∧tel Aa 67=none∧bI Aa 67=false∧(Aq Aa 67).isSome=true∧fE Aa 67=some []∧tsz Aa 68=some 0∧tby Aa 68=some 0∧tz Aa 68=some (.agg #[])∧cB Aa 68=some true∧tel Aa 68=none∧bI Aa 68=false∧(Aq Aa 68).isSome=true∧fE Aa 68=some []∧tsz Aa 69=some 0∧tby Aa 69=some 0∧tz Aa 69=some (.agg #[])∧cB Aa 69=some true∧tel Aa 69=none∧bI Aa 69=false∧(Aq Aa 69).isSome=true∧fE Aa 69=some []∧tsz Aa 70=some 1∧tby Aa 70=some 8∧tz Aa 70=some (.agg #[.int .u64 0])∧cB Aa 70=some true∧tel Aa 70=none∧bI Aa 70=false∧(Aq Aa 70).isSome=true∧fE Aa 70=some [(0,0),(0,0),(0,1)]∧tsz Aa 71=some 1∧tby Aa 71=some 8∧tz Aa 71=some (.agg #[.int .u64 0])∧cB Aa 71=some true∧tel Aa 71=none∧bI Aa 71=false∧(Aq Aa 71).isSome=true∧fE Aa 71=some [(0,0),(0,0),(0,1)]:=by and_intros<;>kernel_rfl
@[simp]theorem bZf:tsz Aa 72=some 1∧tby Aa 72=some 4∧tz Aa 72=some (.int .u32 0)∧cB Aa 72=some false∧tel Aa 72=none∧bI Aa 72=false∧(Aq Aa 72).isSome=true∧eQ Aa 72=some .u32∧tsz Aa 73=some 2∧tby Aa 73=some 16∧tz Aa 73=some (.agg #[.int .u64 0,.int .u32 0])∧cB Aa 73=some true∧tel Aa 73=none∧bI Aa 73=false∧(Aq Aa 73).isSome=true∧fE Aa 73=some [(0,0),(0,1),(1,1)]∧tsz Aa 74=some 2∧tby Aa 74=some 16∧tz Aa 74=some (.agg #[.int .u64 0,.int .u32 0])∧cB Aa 74=some true∧tel Aa 74=none∧bI Aa 74=false∧(Aq Aa 74).isSome=true∧fE Aa 74=some [(0,0),(0,1),(1,1)]∧tsz Aa 83=some 1∧tby Aa 83=some 8∧tz Aa 83=some (.int .u64 0)∧cB Aa 83=some false∧tel Aa 83=none∧bI Aa 83=false∧(Aq Aa 83).isSome=true∧eQ Aa 83=some .u64∧tsz Aa 89=some 1∧tby Aa 89=some 24∧tz Aa 89=some (.slice none 0 0)∧cB Aa 89=some false∧tel Aa 89=some 45∧bI Aa 89=false∧(Aq Aa 89).isSome=true∧tsz Aa 93=some 1:=by and_intros<;>kernel_rfl
@[simp]theorem bZi:tby Aa 93=some 24∧tz Aa 93=some (.slice none 0 0)∧cB Aa 93=some false∧tel Aa 93=some 40∧bI Aa 93=false∧(Aq Aa 93).isSome=true∧tsz Aa 100=some 1∧tby Aa 100=some 1∧tz Aa 100=some (.int .i8 0)∧cB Aa 100=some false∧tel Aa 100=none∧bI Aa 100=false∧(Aq Aa 100).isSome=true∧eQ Aa 100=some .i8∧tsz Aa 102=some 1∧tby Aa 102=some 8∧cB Aa 102=some false∧tel Aa 102=none∧bI Aa 102=false∧(Aq Aa 102).isSome=true∧tmp Aa 102=some (43,4)∧tsz Aa 106=some 1∧tby Aa 106=some 8∧tz Aa 106=some (.int .i64 0)∧cB Aa 106=some false∧tel Aa 106=none∧bI Aa 106=false∧(Aq Aa 106).isSome=true∧eQ Aa 106=some .i64∧tsz Aa 117=some 1∧tby Aa 117=some 24∧tz Aa 117=some (.slice none 0 0)∧cB Aa 117=some false∧tel Aa 117=some 25∧bI Aa 117=false∧(Aq Aa 117).isSome=true∧tsz Aa 118=some 3∧tby Aa 118=some 40∧tz Aa 118=some (.agg #[.int .u64 0,.int .i64 0,.slice none 0 0])∧cB Aa 118=some true:=by and_intros<;>kernel_rfl
@[simp]theorem bYw:tel Aa 118=none∧bI Aa 118=false∧(Aq Aa 118).isSome=true∧fE Aa 118=some [(0,1),(1,1),(2,1)]∧tsz Aa 119=some 3∧tby Aa 119=some 40∧tz Aa 119=some (.agg #[.int .u64 0,.int .i64 0,.slice none 0 0])∧cB Aa 119=some true∧tel Aa 119=none∧bI Aa 119=false∧(Aq Aa 119).isSome=true∧fE Aa 119=some [(0,1),(1,1),(2,1)]∧tsz Aa 128=some 1∧tby Aa 128=some 24∧tz Aa 128=some (.slice none 0 0)∧cB Aa 128=some false∧tel Aa 128=some 132∧bI Aa 128=false∧(Aq Aa 128).isSome=true∧tsz Aa 129=some 4∧tby Aa 129=some 64∧tz Aa 129=some (.agg #[.bool false,.slice none 0 0,.bool false,.slice none 0 0])∧cB Aa 129=some true∧tel Aa 129=none∧bI Aa 129=false∧(Aq Aa 129).isSome=true∧fE Aa 129=some [(0,2),(2,2)]∧tsz Aa 130=some 4∧tby Aa 130=some 64∧tz Aa 130=some (.agg #[.bool false,.slice none 0 0,.bool false,.slice none 0 0])∧cB Aa 130=some true∧tel Aa 130=none∧bI Aa 130=false∧(Aq Aa 130).isSome=true∧fE Aa 130=some [(0,2),(2,2)]∧tsz Aa 132=some 1∧tby Aa 132=some 24∧tz Aa 132=some (.slice none 0 0)∧cB Aa 132=some false∧tel Aa 132=some 130:=by and_intros<;>kernel_rfl
@[simp]theorem bWb:bI Aa 132=false∧(Aq Aa 132).isSome=true∧tsz Aa 139=some 1∧tby Aa 139=some 8∧cB Aa 139=some false∧tel Aa 139=none∧bI Aa 139=false∧(Aq Aa 139).isSome=true∧tmp Aa 139=some (3,4)∧tsz Aa 146=some 1∧tby Aa 146=some 24∧tz Aa 146=some (.slice none 0 0)∧cB Aa 146=some false∧tel Aa 146=some 45∧bI Aa 146=false∧(Aq Aa 146).isSome=true∧tsz Aa 157=some 4∧tby Aa 157=some 32∧tz Aa 157=some (.agg #[.int .u64 0,.int .u64 0,.int .u64 0,.int .u64 0])∧cB Aa 157=some true∧tel Aa 157=none∧bI Aa 157=false∧(Aq Aa 157).isSome=true∧fE Aa 157=none∧yI Aa 157=some (4,43)∧tsz Aa 173=some 1∧tby Aa 173=some 24∧tz Aa 173=some (.slice none 0 0)∧cB Aa 173=some false∧tel Aa 173=some 40∧bI Aa 173=false∧(Aq Aa 173).isSome=true∧tsz Aa 178=some 1∧tby Aa 178=some 8∧tz Aa 178=some (.int .i64 0)∧cB Aa 178=some false∧tel Aa 178=none∧bI Aa 178=false∧(Aq Aa 178).isSome=true∧eQ Aa 178=some .i64:=by and_intros<;>kernel_rfl
@[simp]theorem bYv:tsz Aa 202=some 1∧tby Aa 202=some 8∧tz Aa 202=some (.int .u64 0)∧cB Aa 202=some false∧tel Aa 202=none∧bI Aa 202=false∧(Aq Aa 202).isSome=true∧eQ Aa 202=some .u64∧tsz Aa 220=some 0∧tby Aa 220=some 0∧tz Aa 220=some (.agg #[])∧cB Aa 220=some true∧tel Aa 220=none∧bI Aa 220=false∧(Aq Aa 220).isSome=true∧fE Aa 220=none∧yI Aa 220=some (0,16)∧tsz Aa 221=some 0∧tby Aa 221=some 0∧tz Aa 221=some (.agg #[])∧cB Aa 221=some true∧tel Aa 221=none∧bI Aa 221=false∧(Aq Aa 221).isSome=true∧fE Aa 221=some [(0,0)]∧tsz Aa 222=some 0∧tby Aa 222=some 0∧tz Aa 222=some (.agg #[])∧cB Aa 222=some true∧tel Aa 222=none∧bI Aa 222=false∧(Aq Aa 222).isSome=true∧fE Aa 222=some [(0,0)]∧tsz Aa 224=some 1∧tby Aa 224=some 1∧tz Aa 224=some (.int .u8 0)∧cB Aa 224=some false∧tel Aa 224=none∧bI Aa 224=false∧(Aq Aa 224).isSome=true:=by and_intros<;>kernel_rfl
@[simp]theorem bWo:eQ Aa 224=some .u8∧tsz Aa 225=some 1∧tby Aa 225=some 1∧tz Aa 225=some (.int .u8 0)∧cB Aa 225=some false∧tel Aa 225=none∧bI Aa 225=false∧(Aq Aa 225).isSome=true∧eQ Aa 225=some .u8∧tsz Aa 228=some 1∧tby Aa 228=some 4∧tz Aa 228=some (.int .i32 0)∧cB Aa 228=some false∧tel Aa 228=none∧bI Aa 228=false∧(Aq Aa 228).isSome=true∧eQ Aa 228=some .i32∧tsz Aa 229=some 1∧tby Aa 229=some 4∧tz Aa 229=some (.int .i32 0)∧cB Aa 229=some false∧tel Aa 229=none∧bI Aa 229=false∧(Aq Aa 229).isSome=true∧eQ Aa 229=some .i32:=by and_intros<;>kernel_rfl
@[simp]theorem aT:Go.Tables.follows Dw.toTables .mixedOrders=true:=by kernel_rfl
theorem bD [M:Mch Dw] {f N:Nat} {fn:Func} {c:Code} {args:List D} {r:D} (hf:Dw.funcs[f]? = some fn) (h:AWP Dw c (St0 args N) fun e σ=>(e=.normal∨e=.ret)∧iY Dw fn.results.toList σ=some r) (hb:fn.body=some c:=by exact rfl) (hN:fn.ntmps=N:=by exact rfl) (hname:(fn.name == "runtime.NumGoroutine")=false:=by exact rfl) (hd:bH N c=true:=by kernel_rfl) (hl:bK Dw c=true:=by kernel_rfl) (ha:args.length≤N:=by simp):Spec Dw f args r:=bKe aT hf hb hname hN hd hl ha h
@[simp]theorem bZw:aN Aa 0=false∧aM Aa 0=true∧aN Aa 1=false∧aM Aa 1=true∧aN Aa 2=false∧aM Aa 2=true∧aN Aa 3=false∧aM Aa 3=false∧aN Aa 4=false∧aM Aa 4=false∧aN Aa 5=false∧aM Aa 5=false∧aN Aa 6=false∧aM Aa 6=false∧aN Aa 7=false∧aM Aa 7=false∧aN Aa 8=false∧aM Aa 8=false∧aN Aa 9=false∧aM Aa 9=false∧aN Aa 10=false∧aM Aa 10=false∧aN Aa 11=false∧aM Aa 11=false∧aN Aa 12=false∧aM Aa 12=false∧aN Aa 13=false∧aM Aa 13=false∧aN Aa 14=false∧aM Aa 14=false∧aN Aa 15=false∧aM Aa 15=false∧aN Aa 16=true∧aM Aa 16=false∧aN Aa 17=false∧aM Aa 17=false∧aN Aa 18=false∧aM Aa 18=false∧aN Aa 19=false∧aM Aa 19=false:=by and_intros<;>kernel_rfl
@[simp]theorem bZa:aN Aa 20=false∧aM Aa 20=false∧aN Aa 21=false∧aM Aa 21=false∧aN Aa 22=false∧aM Aa 22=false∧aN Aa 23=false∧aM Aa 23=false∧aN Aa 24=false∧aM Aa 24=false∧aN Aa 25=false∧aM Aa 25=true∧aN Aa 26=false∧aM Aa 26=true∧aN Aa 27=false∧aM Aa 27=true∧aN Aa 28=false∧aM Aa 28=false∧aN Aa 29=false∧aM Aa 29=true∧aN Aa 30=false∧aM Aa 30=false∧aN Aa 31=false∧aM Aa 31=false∧aN Aa 32=false∧aM Aa 32=false∧aN Aa 33=false∧aM Aa 33=false∧aN Aa 34=false∧aM Aa 34=false∧aN Aa 35=false∧aM Aa 35=false∧aN Aa 36=false∧aM Aa 36=false∧aN Aa 37=false∧aM Aa 37=true∧aN Aa 38=false∧aM Aa 38=false∧aN Aa 39=false∧aM Aa 39=false:=by and_intros<;>kernel_rfl
@[simp]theorem bYz:aN Aa 40=false∧aM Aa 40=false∧aN Aa 41=false∧aM Aa 41=false∧aN Aa 42=false∧aM Aa 42=false∧aN Aa 43=false∧aM Aa 43=false∧aN Aa 44=false∧aM Aa 44=false∧aN Aa 45=false∧aM Aa 45=false∧aN Aa 46=false∧aM Aa 46=false∧aN Aa 47=false∧aM Aa 47=false∧aN Aa 48=false∧aM Aa 48=false∧aN Aa 49=false∧aM Aa 49=false∧aN Aa 50=false∧aM Aa 50=true∧aN Aa 51=false∧aM Aa 51=false∧aN Aa 52=false∧aM Aa 52=true∧aN Aa 53=false∧aM Aa 53=true∧aN Aa 54=false∧aM Aa 54=true∧aN Aa 55=false∧aM Aa 55=false∧aN Aa 56=false∧aM Aa 56=false∧aN Aa 57=false∧aM Aa 57=true∧aN Aa 58=false∧aM Aa 58=false∧aN Aa 59=false∧aM Aa 59=false:=by and_intros<;>kernel_rfl
@[simp]theorem bYy:aN Aa 60=false∧aM Aa 60=true∧aN Aa 61=false∧aM Aa 61=false∧aN Aa 62=false∧aM Aa 62=true∧aN Aa 63=false∧aM Aa 63=true∧aN Aa 64=false∧aM Aa 64=true∧aN Aa 65=false∧aM Aa 65=false∧aN Aa 66=false∧aM Aa 66=false∧aN Aa 67=false∧aM Aa 67=true∧aN Aa 68=false∧aM Aa 68=false∧aN Aa 69=false∧aM Aa 69=false∧aN Aa 70=false∧aM Aa 70=true∧aN Aa 71=false∧aM Aa 71=true∧aN Aa 72=false∧aM Aa 72=false∧aN Aa 73=false∧aM Aa 73=false∧aN Aa 74=false∧aM Aa 74=false∧aN Aa 75=false∧aM Aa 75=false∧aN Aa 76=false∧aM Aa 76=false∧aN Aa 77=false∧aM Aa 77=false∧aN Aa 78=false∧aM Aa 78=false∧aN Aa 79=false∧aM Aa 79=false:=by and_intros<;>kernel_rfl
@[simp]theorem bYx:aN Aa 80=false∧aM Aa 80=false∧aN Aa 81=false∧aM Aa 81=false∧aN Aa 82=false∧aM Aa 82=false∧aN Aa 83=false∧aM Aa 83=true∧aN Aa 84=false∧aM Aa 84=false∧aN Aa 85=false∧aM Aa 85=false∧aN Aa 86=false∧aM Aa 86=false∧aN Aa 87=false∧aM Aa 87=false∧aN Aa 88=false∧aM Aa 88=false∧aN Aa 89=false∧aM Aa 89=false∧aN Aa 90=false∧aM Aa 90=false∧aN Aa 91=false∧aM Aa 91=false∧aN Aa 92=false∧aM Aa 92=false∧aN Aa 93=false∧aM Aa 93=false∧aN Aa 94=false∧aM Aa 94=false∧aN Aa 95=false∧aM Aa 95=false∧aN Aa 96=false∧aM Aa 96=false∧aN Aa 97=false∧aM Aa 97=false∧aN Aa 98=false∧aM Aa 98=false∧aN Aa 99=false∧aM Aa 99=false:=by and_intros<;>kernel_rfl
@[simp]theorem bXi:aN Aa 100=false∧aM Aa 100=false∧aN Aa 101=true∧aM Aa 101=false∧aN Aa 102=false∧aM Aa 102=false∧aN Aa 103=false∧aM Aa 103=false∧aN Aa 104=false∧aM Aa 104=false∧aN Aa 105=false∧aM Aa 105=true∧aN Aa 106=false∧aM Aa 106=false∧aN Aa 107=false∧aM Aa 107=false∧aN Aa 108=false∧aM Aa 108=false∧aN Aa 109=false∧aM Aa 109=true∧aN Aa 110=false∧aM Aa 110=false∧aN Aa 111=true∧aM Aa 111=false∧aN Aa 112=false∧aM Aa 112=false∧aN Aa 113=false∧aM Aa 113=true∧aN Aa 114=false∧aM Aa 114=false∧aN Aa 115=false∧aM Aa 115=false∧aN Aa 116=false∧aM Aa 116=false∧aN Aa 117=false∧aM Aa 117=false∧aN Aa 118=false∧aM Aa 118=false∧aN Aa 119=false∧aM Aa 119=false:=by and_intros<;>kernel_rfl
@[simp]theorem bXh:aN Aa 120=false∧aM Aa 120=false∧aN Aa 121=false∧aM Aa 121=false∧aN Aa 122=false∧aM Aa 122=false∧aN Aa 123=false∧aM Aa 123=false∧aN Aa 124=false∧aM Aa 124=false∧aN Aa 125=false∧aM Aa 125=true∧aN Aa 126=false∧aM Aa 126=true∧aN Aa 127=false∧aM Aa 127=true∧aN Aa 128=false∧aM Aa 128=false∧aN Aa 129=false∧aM Aa 129=true∧aN Aa 130=false∧aM Aa 130=false∧aN Aa 131=false∧aM Aa 131=false∧aN Aa 132=false∧aM Aa 132=false∧aN Aa 133=false∧aM Aa 133=false∧aN Aa 134=false∧aM Aa 134=false∧aN Aa 135=false∧aM Aa 135=false∧aN Aa 136=false∧aM Aa 136=false∧aN Aa 137=false∧aM Aa 137=false∧aN Aa 138=false∧aM Aa 138=false∧aN Aa 139=false∧aM Aa 139=false:=by and_intros<;>kernel_rfl
@[simp]theorem bXg:aN Aa 140=false∧aM Aa 140=false∧aN Aa 141=false∧aM Aa 141=false∧aN Aa 142=false∧aM Aa 142=true∧aN Aa 143=false∧aM Aa 143=false∧aN Aa 144=false∧aM Aa 144=true∧aN Aa 145=false∧aM Aa 145=true∧aN Aa 146=false∧aM Aa 146=true∧aN Aa 147=false∧aM Aa 147=false∧aN Aa 148=false∧aM Aa 148=true∧aN Aa 149=false∧aM Aa 149=false∧aN Aa 150=false∧aM Aa 150=false∧aN Aa 151=false∧aM Aa 151=false∧aN Aa 152=false∧aM Aa 152=false∧aN Aa 153=false∧aM Aa 153=false∧aN Aa 154=true∧aM Aa 154=false∧aN Aa 155=false∧aM Aa 155=false∧aN Aa 156=false∧aM Aa 156=false∧aN Aa 157=false∧aM Aa 157=false∧aN Aa 158=false∧aM Aa 158=false∧aN Aa 159=false∧aM Aa 159=false:=by and_intros<;>kernel_rfl
@[simp]theorem bXf:aN Aa 160=false∧aM Aa 160=false∧aN Aa 161=false∧aM Aa 161=false∧aN Aa 162=false∧aM Aa 162=true∧aN Aa 163=false∧aM Aa 163=false∧aN Aa 164=false∧aM Aa 164=false∧aN Aa 165=false∧aM Aa 165=false∧aN Aa 166=false∧aM Aa 166=false∧aN Aa 167=false∧aM Aa 167=false∧aN Aa 168=false∧aM Aa 168=false∧aN Aa 169=false∧aM Aa 169=false∧aN Aa 170=false∧aM Aa 170=false∧aN Aa 171=false∧aM Aa 171=true∧aN Aa 172=false∧aM Aa 172=false∧aN Aa 173=false∧aM Aa 173=false∧aN Aa 174=false∧aM Aa 174=false∧aN Aa 175=false∧aM Aa 175=false∧aN Aa 176=false∧aM Aa 176=false∧aN Aa 177=false∧aM Aa 177=false∧aN Aa 178=false∧aM Aa 178=true∧aN Aa 179=false∧aM Aa 179=false:=by and_intros<;>kernel_rfl
@[simp]theorem bXe:aN Aa 180=false∧aM Aa 180=false∧aN Aa 181=false∧aM Aa 181=false∧aN Aa 182=false∧aM Aa 182=true∧aN Aa 183=false∧aM Aa 183=false∧aN Aa 184=false∧aM Aa 184=true∧aN Aa 185=false∧aM Aa 185=false∧aN Aa 186=false∧aM Aa 186=true∧aN Aa 187=false∧aM Aa 187=false∧aN Aa 188=false∧aM Aa 188=true∧aN Aa 189=false∧aM Aa 189=false∧aN Aa 190=false∧aM Aa 190=true∧aN Aa 191=false∧aM Aa 191=false∧aN Aa 192=false∧aM Aa 192=true∧aN Aa 193=false∧aM Aa 193=false∧aN Aa 194=false∧aM Aa 194=false∧aN Aa 195=false∧aM Aa 195=true∧aN Aa 196=false∧aM Aa 196=false∧aN Aa 197=false∧aM Aa 197=false:=by and_intros<;>kernel_rfl
end Go.Am
end
section
open List renaming map_map→ζ,mapM_map→ξ
namespace Go.Am
attribute [simp] bPq bGa bXy aPn aO aVz bUt bMt zO St0 bDh bBc bNn bLh bEg aVt cI aPt aLd bNh bPt bPs bPr aOc bNt bNs bDi
   bDm bDj aHf aCe aYm bJh bSk bSl aYl bJg aLy List.flatMap_nil aCi bNi aJu aRo bCx jN aJg bGh bPw bMs aVa bMr bCj bUh bCh bMc aBr
   aFn bCi bMq aNs aFp aFo aNr bCe bUg aJv bCq bUq bUo bUf bUe bCg aNq aNh bYo bYq bVw bYp bKg aZp bQb bGo aFl bXc bXd
   bMo bMp bYj bYk bPp aWq bPx bPy bGl bUc bUd bMk bUb bUa bMj bMi bMh bMg bTx bTz bTy aWv aWu aPg aPf aPe aPd aWr
   aWt aWw aPi bQh bHp bJr aYt bDy aWz aUw aUv bDe bNp bDd bDc aOr aWb aOg aVr aOf aOh aVs bVq bHd bGr
   bGx bGv bGu bHc bGw bGy bGz bHa bHb bGt bGs aXb bJo bJp aVb bCk bUz bUy bOa bOd bYa bXz bUv bUx bUu bKn aTs bAa
   aTt aTr aTq bAc bAd bAf bAg bAb bAh aMt aTu aMu aMs aMr aHq aZc aZd bJy aZb aEp aNo aIz bHn bBq bQf
   aUt aUu bHl bHk aVl aVo bCv aMi aTk bBb aUd bBa bDo bDn aXh aXg bGc bGb aUm aUn aMa aWa aOq aOo
   aMo aTo aEg bRs pC sV xX aKc bOp bVf bVh jL vT wX aCg aHm aHl aMe bJs bSr dL eX kM aYz bJw aKr
   aGn
theorem KW:type_of% (AN @aKx (AN @wQ (AN @aSh (AN @aDw (AN @aKy (AN @aSi (AN @aDu (AN @aDs (AN @aDv (AN @aDt (AN @aQy (AN @aIu (AN @aIt (AN @aRe (AN @wG (AN @aCx (AN @aRd (AN @aJf (AN @bCd (AN @aJd (AN @rE (AN @tG (AN @zD (AN @aJe (AN @aRc (AN @zF (AN @tJ (AN @aJc (AN @tI (AN @zE (AN @aJb (AN @bCc (AN @aRg (AN @bCb (AN @bCa (AN @aRf (AN @aCu (AN @aJa (AN @tF (AN @aCv (AN @aCy (AN @aCw (@aRh))))))))))))))))))))))))))))))))))))))))))) :=
  AN @aKx (AN @wQ (AN @aSh (AN @aDw (AN @aKy (AN @aSi (AN @aDu (AN @aDs (AN @aDv (AN @aDt (AN @aQy (AN @aIu (AN @aIt (AN @aRe (AN @wG (AN @aCx (AN @aRd (AN @aJf (AN @bCd (AN @aJd (AN @rE (AN @tG (AN @zD (AN @aJe (AN @aRc (AN @zF (AN @tJ (AN @aJc (AN @tI (AN @zE (AN @aJb (AN @bCc (AN @aRg (AN @bCb (AN @bCa (AN @aRf (AN @aCu (AN @aJa (AN @tF (AN @aCv (AN @aCy (AN @aCw (@aRh))))))))))))))))))))))))))))))))))))))))))
end Go.Am
end
section
open List renaming map_map→ζ,mapM_map→ξ
namespace Go.Am
open RowKit (Below)
def OA(P:Program)[M:Mch P](ops:Array Oper)(k:St→Prop):Nat→Array Bool→St→Prop
 |0,listed,σ=>Bo .any ops listed=[]∧k σ
 | fuel+1,listed,σ=>(Bo .any ops listed=[]→k σ)∧∀ i∈Bo .any ops listed,match ops[i]? with
   |none=>OA P ops k fuel (listed.setIfInBounds i true) σ
   |some o=>OW P ops [o] σ [] fun σ' con=>OA P ops k fuel (listed.setIfInBounds i true) (fin σ' con)
section
variable {P:Program} [M:Mch P] {G:Ctx} {N:Nat} {ds:List Deferred} {ops:Array Oper}
theorem uP{Q:St→Prop}{Q':Exit→Act→World→Prop}(hno:fM ops.toList=true)(hdst:∀(i:Nat) (o:Oper) (d:Tmp),ops[i]? = some o→o.dst=some d→d<N∧G.Z d=none)(hQ:∀ σ a w,Q σ→SR G N ds σ a w→Q' .normal a w) :
  ∀(fuel:Nat) (listed:Array Bool) (σ:St) (a:Act) (w:World),SR G N ds σ a w→OA P ops Q fuel listed σ→wS P ops Q' fuel listed a w
 |0,_,σ,a,w,hs,h=>⟨h.1,hQ σ a w h.2 hs⟩
 | fuel+1,listed,σ,a,w,hs,h=>by
  refine⟨fun h0=>hQ σ a w (h.1 h0) hs,fun i hi=>?_⟩
  have h1:=h.2 i hi
  split
  ·rename_i ho
   simp only[ho]at h1
   exact uP hno hdst hQ fuel _ σ a w hs h1
  ·rename_i o ho
   simp only[ho]at h1
   obtain⟨hn0,hwf,hag⟩:=pW hs
   obtain⟨fb,hfb⟩:=pX (G:=G) [o] σ [] (by
    have h0:o∈ops.toList:=by rw[Array.mem_toList_iff];exact BS ho
    have:=AW.1 hno o h0
    simpa[fM]using this) hn0 hwf h1
   obtain⟨g1,g2⟩:=hag (fun i=>if i<σ.n then σ.H i else fb i) (fun i o hi=>by
    rcases Az i σ.n with hlt|hge
    ·rw[Ap hlt];exact hi
    ·rw[hwf.top i hge]at hi;cases hi)
   obtain⟨s',hd,σ',con',hoa,hn',hwf',hag'⟩:=hfb _ g1 (fun i hi=>by simp only;rw[Ah (by omega)])
   exact nQ (K:=wS P ops Q' fuel (listed.setIfInBounds i true)) hd (fun d h=>hdst i o d ho h) g2 fun a' w' hr'=>uP hno hdst hQ fuel _ _ a' w' (aBb hn' hwf' hag' hr') hoa
def bYn(P:Program)[M:Mch P]:Code→St→(St→Prop)→Prop
 |.region _ ops true,σ,k=>OA P ops k ops.size (AU ops.size false) σ
 |_,_,_=>False
def aXo(P:Program)[M:Mch P]:Code→St→(Exit→St→Prop)→Prop
 |.seq x (.seq y z),σ,Q=>AWP P x σ fun e σ'=>match e with|.normal=>aXo P (.seq y z) σ' Q|e=>Q e σ'
 |.seq x .ret,σ,Q=>bYn P x σ (Q .ret)
 |_,_,_=>False
def pR(P:Program):Code→Bool
 |.seq x (.seq y z)=>bK P x&&pR P (.seq y z)
 |.seq (.region _ ops true) .ret=>fM ops.toList
 |_=>false
theorem aQb(hm:P.follows .mixedOrders=true)(hZ:∀ d,G.Z d=none):∀(c:Code) (Q:Exit→St→Prop) (σ:St) (a:Act) (w:World),bH N c=true→pR P c=true→aXo P c σ Q→SR G N ds σ a w →
  WC P c (fun e a' w'=>∃ σ',Q e σ'∧SR G N ds σ' a' w') a w:=by
 intro c
 induction c with
 | seq x y ihx ihy =>
  intro Q σ a w hd hl h hs
  simp only[bH,AR]at hd
  cases y with
  | seq y z =>
   simp only[pR,AR]at hl
   refine eB (bQ (cG hm hZ x _ σ a w hd.1 hl.1 h hs) ?_)
   rintro e a' w' ⟨σ',hq,hs'⟩
   cases e with
   |normal=>exact ihy Q σ' a' w' hd.2 hl.2 hq hs'
   |_=>exact⟨σ',hq,hs'⟩
  | ret =>
   unfold pR at hl
   split at hl
   ·rename_i he;cases he
   ·rename_i id ops he
    injection he with he1 _;subst he1
    have h':OA P ops (Q .ret) ops.size (AU ops.size false) σ:=h
    refine eB ((WpR.plain P).regA hm (fun e=>by cases e) fun d=>uP (Q:=Q .ret) (N:=N) (ds:=ds) (G:=G) hl (fun i o d hi hd'=>⟨pA hd.1 i o d hi hd',hZ d⟩) (fun σ' a' w' hq hs'=>?_) _ _ σ _ _ ?_ h')
    ·exact yC ⟨σ',hq,hs'⟩
    ·exact hs.env ⟨rfl,rfl,rfl,0,by simp⟩
   ·cases hl
  |_=>exact h.elim
 |_=>intro Q σ a w _ _ h;exact h.elim
theorem aZn {f N:Nat} {fn:Func} {c:Code} {args:List D} {r:D} (hm:P.follows .mixedOrders=true) (hf:P.funcs[f]? = some fn) (hb:fn.body=some c) (hname:(fn.name == "runtime.NumGoroutine")=false) (hN:fn.ntmps=N)
  (hd:bH N c=true) (hl':pR P c=true) (ha:args.length≤N) (h:aXo P c (St0 args N) fun e σ=>(e=.normal∨e=.ret)∧iY P fn.results.toList σ=some r):Spec P f args r:=by
 intro A W vs hA hl hv
 have hn:¬ fn.name = "runtime.NumGoroutine" := by simpa using hname
 refine⟨fun w=>by simp[callFunc,hf,hn,hb],?_⟩
 refine fS hf hb ?_
 subst hN
 refine(WpR.plain P).okv fun hok=>bQ (aQb hm (fun _=>rfl) c _ _ _ _ hd hl' h (SR0 hok hA hl hv ha)) ?_
 rintro e a w ⟨σ,⟨he,hr⟩,hs⟩
 have hend:a.defers=[]∧∀ v1,Env w v1→∃ x,aH P (results fn a.tmps) v1=.ok x v1∧Below W.heap.size W v1∧VD (fun b=>A b∨(W.heap.size≤b∧b<v1.heap.size)) v1 r x:=by
  refine⟨hs.2.2.2.elim fun _ h=>h.elim fun _ h=>h.2.2.2.2.1,fun v1 he=>?_⟩
  have hs1:=hs.env he
  obtain⟨v,hrun,hvd⟩:=dV hs1 hr
  obtain⟨_,_,_,F,ι,hR,_,_,_,hdf,_⟩:=hs1
  refine⟨v,hrun,⟨hR.kept.os,hR.kept.tape,hR.kept.output,hR.kept.size,fun k hk=>hR.kept.block k hk (fun h=>h)⟩,hvd.mono ?_⟩
  rintro b (h|h|h)
  ·exact .inl h
  ·exact h.elim
  ·exact .inr h
 rcases he with rfl|rfl<;>exact hend
def OAd(P:Program)[M:Mch P](ops:Array Oper)(k:St→Prop)(fuel:Nat)(listed:Array Bool)(σ:St)(_:Dm (ops,k)):Prop:=OA P ops k fuel listed σ
theorem aP(x y z:Code)(σ:St)(Q:Exit→St→Prop):aXo P (.seq x (.seq y z)) σ Q=AWP P x σ fun e σ'=>match e with|.normal=>aXo P (.seq y z) σ' Q|e=>Q e σ':=rfl
theorem aQ(id:Nat)(l:List Oper)(σ:St)(Q:Exit→St→Prop):aXo P (.seq (.region id l.toArray true) .ret) σ Q=OAd P l.toArray (Q .ret) l.length (AU l.length false) σ .mk:=rfl
theorem fL{k:St→Prop}{fuel:Nat}{listed:Array Bool}{σ:St}{d:Dm (ops,k)}(i:Nat){o:Oper}(hr:Bo .any ops listed=[i])(ho:ops[i]? = some o)
  (h:OWd P ops [o] σ [] (fun σ' con=>aLl σ' con (fun σ2=>OAd P ops k fuel (listed.setIfInBounds i true) σ2 .mk) .mk) .mk):OAd P ops k (fuel+1) listed σ d:=by
 refine⟨fun e=>(by rw[hr]at e;cases e),fun j hj=>?_⟩
 rw[hr]at hj
 simp only[List.mem_singleton]at hj
 subst hj
 simp only[ho];exact h
theorem aFm{k:St→Prop}{fuel:Nat}{listed:Array Bool}{σ:St}{d:Dm (ops,k)}(i j:Nat){o o':Oper}(hr:Bo .any ops listed=[i,j])(ho:ops[i]? = some o)(ho':ops[j]? = some o')
  (h:OWd P ops [o] σ [] (fun σ' con=>aLl σ' con (fun σ2=>OAd P ops k fuel (listed.setIfInBounds i true) σ2 .mk) .mk) .mk)
  (h':OWd P ops [o'] σ [] (fun σ' con=>aLl σ' con (fun σ2=>OAd P ops k fuel (listed.setIfInBounds j true) σ2 .mk) .mk) .mk):OAd P ops k (fuel+1) listed σ d:=by
 refine⟨fun e=>(by rw[hr]at e;cases e),fun m hm=>?_⟩
 rw[hr]at hm
 simp only[Bq,List.mem_nil_iff,or_false]at hm
 rcases hm with rfl|rfl
 ·simp only[ho];exact h
 ·simp only[ho'];exact h'
theorem vG{k:St→Prop}{listed:Array Bool}{σ:St}{d:Dm (ops,k)}(hr:Bo .any ops listed=[])(h:k σ):OAd P ops k 0 listed σ d:=⟨hr,h⟩
end
end Go.Am
end
section
open List renaming map_map→ζ,mapM_map→ξ
namespace Go.Am
open RowKit (Below)
variable {P:Program} [M:Mch P]
theorem bAl{G:Ctx}{fn:Func}{σ:St}{a:Act}{w:World}{rv:ResultVar}{av:AV}{F:Nat→Prop}{ι:Nat→Option Nat}(hR:HR G F w ι aW σ.H)(hV:∀ t,V F w ι (σ.Γ t) (a.tmps.getD t undef))(hres:fn.results.toList=[rv])(h:jV P σ rv=some av) :
  ∃ v,aH P (results fn a.tmps) w=.ok v w∧V F w ι av v:=by
 cases rv with
 |cell ad t=>exact bKt hR hV hres h
 | tmp t =>
  simp only[jV,At]at h
  subst h
  refine⟨a.tmps.getD t undef,?_,hV t⟩
  have h1':aH P ([ResultVar.tmp t].mapM (m:=Sem) fun|.tmp t=>pure (a.tmps.getD t undef)|.cell ad t=>do loadVar t (←asAddr (a.tmps.getD ad undef))) w=.ok [a.tmps.getD t undef] w:=by
   simp only[List.mapM_cons,List.mapM_nil,Sem.run_bind,AH,Sem.run_pure]
  simp only[results,Array.mapM_eq_mapM_toList,Sem.run_bind,Sem.run_map,hres]
  erw [h1']
  simp
theorem zG {f N:Nat} {fn:Func} {c:Code} {args:List D} {v:Nat→AV} {hs:Nat→List HO} {rv:ResultVar} (hm:P.follows .mixedOrders=true) (hf:P.funcs[f]? = some fn) (hb:fn.body=some c) (hname:(fn.name == "runtime.NumGoroutine")=false)
  (hN:fn.ntmps=N) (hN0:0<N) (hd:bH N c=true) (hl':bK P c=true) (ha:args.length≤N) (hres:fn.results.toList=[rv])
  (h:AWP P c (St0 args N) fun e σ=>(e=.normal∨e=.ret)∧cJ (jV P σ rv) (fun av=>∀ m,0<m→∃ ρ,Wk ⟨upd σ.Γ 0 av,σ.H,σ.n⟩ (iZ v hs m) ρ) .mk):rJ P f args v hs:=by
 intro A W vs hA hl hv
 have hn:¬ fn.name = "runtime.NumGoroutine" := by simpa using hname
 refine⟨fun w=>by simp[callFunc,hf,hn,hb],?_⟩
 refine fS hf hb ?_
 subst hN
 refine(WpR.plain P).okv fun hok=>bQ (cG hm (fun _=>rfl) c _ _ _ _ hd hl' h (SR0 hok hA hl hv ha)) ?_
 rintro e a w0 ⟨σ,⟨he,hr⟩,hs0⟩
 cases hav:jV P σ rv with
 |none=>rw[hav]at hr;exact hr.elim
 |some av =>
 rw[hav]at hr
 simp only[cJ]at hr
 have hend:a.defers=[]∧∀ w,Env w0 w→∃ u,aH P (results fn a.tmps) w=.ok u w∧Below W.heap.size W w∧∀ m,0<m→∃(F:Nat→Prop) (ι:Nat→Option Nat),
   (∀ b,F b→A b∨(W.heap.size≤b∧b<w.heap.size))∧V F w ι (v m) u∧(∀ id,(∃ b,ι id=some b)↔(m≤id∧id<m+(hs m).length)) ∧
   (∀ id b,ι id=some b→W.heap.size≤b∧b<w.heap.size∧¬F b) ∧
   (∀ i o b,(hs m)[i]? = some o→ι (m+i)=some b→∃ ob,w.heap[b]? = some ob∧CR F w ι o ob) ∧
   (∀ id id' b,ι id=some b→ι id'=some b→id=id'):=by
  refine⟨hs0.2.2.2.elim fun _ h=>h.elim fun _ h=>h.2.2.2.2.1,fun w henv=>?_⟩
  have hs1:=hs0.env henv
  obtain⟨htop,hn0,hokw,F,ι,hR,hdom,hV,hN2,hdf,hp⟩:=hs1
  obtain⟨u,hrun,hvu⟩:=bAl hR hV hres hav
  have hput:SR ⟨W,A,aW,fun _=>True,fun _=>none⟩ fn.ntmps [] ⟨upd σ.Γ 0 av,σ.H,σ.n⟩ (a.put (some 0) u) w:=by
   refine⟨htop,hn0,hokw,F,ι,hR,hdom,fun t'=>?_,⟨by simp[C0,hN2.1],fun _ _ h=>by cases h⟩,by simp[C0,hdf],hp⟩
   rw[iU a (some 0) u (fun d hd=>by injection hd with hd;subst hd;rw[hN2.1];exact hN0) t']
   by_cases e0:t'=0
   ·subst e0;rw[Ap rfl];simp only[upd_same];exact hvu
   ·rw[Ah (fun e=>e0 (by injection e with e;exact e.symm))];simp only;rw[upd_ne _ _ e0];exact hV t'
  refine⟨u,hrun,⟨hR.kept.os,hR.kept.tape,hR.kept.output,hR.kept.size,fun k hk=>hR.kept.block k hk (fun h=>h)⟩,fun m hm0=>?_⟩
  obtain⟨ρ,hw⟩:=hr m hm0
  obtain⟨_,_,_,F2,ι2,hR2,hdom2,hV2,_,_,_⟩:=uO hw hput
  have hout:∀ id,((iZ v hs m).H id).isSome=true↔(m≤id∧id<m+(hs m).length):=fun id=>by
   simp only[iZ,gF]
   by_cases hr:m≤id∧id<m+(hs m).length
   ·rw[Ap hr,Ab (by omega)];simp[hr]
   ·rw[Ah hr];simp[hr]
  refine⟨F2,ι2,fun b hb'=>?_,?_,fun id=>by rw[hdom2,hout],fun id b hb'=>?_,fun i o b ho hb'=>?_,fun id id' b e1 e2=>hR2.inj id id' b e1 e2 (fun h=>h) (fun h=>h)⟩
  ·rcases hR2.F_ok b hb' with h|h|h
   ·exact .inl h
   ·exact h.elim
   ·exact .inr ⟨h,hR2.F_lt b hb'⟩
  ·have:=hV2 0
   rw[iU a (some 0) u (fun d hd=>by injection hd with hd;subst hd;rw[hN2.1];exact hN0) 0,Ap rfl]at this
   simpa[iZ,upd_same]using this
  ·obtain⟨q1,q2,q3⟩:=hR2.place id b hb'
   rcases q1 with q1|q1
   ·exact q1.elim
   ·exact⟨q1,q2,q3 (fun h=>h)⟩
  ·have hi:=(Ao.1 ho).1
   refine hR2.obj (m+i) b o hb' ?_
   simp only[iZ,gF]
   rw[Ap ⟨by omega,by omega⟩,show m+i-m=i by omega];exact ho
 rcases he with rfl|rfl<;>exact hend
end Go.Am
end
section
open List renaming map_map→ζ,mapM_map→ξ
namespace Go.Am
variable {P:Program} [Mc:Mch P]
theorem aJh(f:FuncId)(cs:List Operand)(Γ:Nat→AV)(n:Nat):nev P (.makeFunc (.func f) #[] cs.toArray) Γ n=some (.fn f (cs.map (oev Γ)),none):=by
 simp[nev,cT]
theorem bCf(t : TypeId)(x : Tmp)(i : Operand)(Γ : Nat → AV)(n : Nat) : nev P (.index t (.tmp x) i) Γ n = cT ((yI P t).bind fun p => (tsz P p.2).bind fun sz => (cB P p.2).bind fun ag => (eM (oev Γ i)).bind fun k => (vX (oev Γ (.tmp x))).bind fun cs =>
      if 0≤k∧k<p.1 then(if ag then(if k.toNat*sz+sz≤cs.length then some (.ag ((cs.drop (k.toNat*sz)).take sz))else none)else cs[k.toNat*sz]?)else none):=rfl
theorem bUw(f:FuncId)(cs:List D):inj (.fn f cs)=.d (.fn f cs):=rfl
theorem bOc(f:FuncId)(cs:List D):aL (.fn f cs)=.d (.fn f cs):=rfl
theorem bOb(cs:List D):aL (.pt cs)=.fp cs:=rfl
theorem bEb(v:Value):aL (.lit v)=.d (.lit v):=rfl
theorem bDl(H:Hp)(avs:List AV)(f:FuncId)(cs:List D):aX H avs (.fn f cs)=bT H avs:=rfl
theorem bDk(H:Hp)(avs:List AV)(cs:List D):aX H avs (.pt cs)=bT H avs:=rfl
theorem aPj(f:FuncId)(cs:List AV):dM (.fn f cs)=some (f,cs):=rfl
theorem aKt(f:FuncId)(cs:List D):dM (.d (.fn f cs))=some (f,cs.map aL):=rfl
theorem aKs(f:FuncId):dM (.d (.lit (.func (.func f) #[] #[])))=some (f,[]):=rfl
theorem bOr(H:Hp)(n:Nat)(f:FuncId)(cs:List AV):frz H (n+1) (.fn f cs)=(cs.mapM (frz H n)).map (.fn f):=rfl
theorem bOq(H:Hp)(n:Nat)(cs:List D):frz H (n+1) (.fp cs)=some (.pt cs):=rfl
theorem bEq(H : Hp)(n : Nat)(id off : Nat) : frz H (n + 1) (.ptr id off) = match H id with
      |some (.cells _ cs)=>if off≤cs.length then((cs.drop off).mapM (frz H n)).map .pt else none
      |_=>none:=rfl
theorem bJj(H:Hp)(n:Nat)(f:FuncId)(cs:List AV):vis H (n+1) (.fn f cs)=cs.flatMap (vis H n):=rfl
theorem bJi(H:Hp)(n:Nat)(cs:List D):vis H (n+1) (.fp cs)=[]:=rfl
theorem aYk(H : Hp)(n : Nat)(id off : Nat) : vis H (n + 1) (.ptr id off) = match H id with
      |some (.cells _ cs)=>id::(cs.drop off).flatMap (vis H n)
      |_=>[]:=rfl
theorem aWs(f:FuncId)(cs:List AV):dF (.fn f cs)=some [.fn f cs]:=rfl
theorem aPh(f:FuncId)(cs:List D):dF (.d (.fn f cs))=some [.d (.fn f cs)]:=rfl
theorem bAe(l:List Nat)(f:FuncId)(cs:List AV):jD l (.fn f cs)=.fn f (cs.map (aEu l)):=rfl
section
variable (dst:Option Tmp) (ty:TypeId) (pos:String) (after:Array Edge) (guard:Option (Nat×Bool)) (σ:St) (con:List Nat) (k:St→List Nat→Prop)
theorem aB(f:Fn)(x y:Array Operand)(d:Dm ((⟨dst,.makeFunc f x y,ty,pos,after,guard⟩:Oper),k)):O1d P ⟨dst,.makeFunc f x y,ty,pos,after,guard⟩ σ con k d=cJ (nev P (.makeFunc f x y) σ.Γ σ.n) (fun p=>k ⟨bE σ.Γ dst p.1,fZ σ.H σ.n p.2,cnt p.2 σ.n⟩ con) .mk:=bO rfl rfl
theorem aF(t:TypeId)(x y:Operand)(d:Dm ((⟨dst,.index t x y,ty,pos,after,guard⟩:Oper),k)):O1d P ⟨dst,.index t x y,ty,pos,after,guard⟩ σ con k d=cJ (nev P (.index t x y) σ.Γ σ.n) (fun p=>k ⟨bE σ.Γ dst p.1,fZ σ.H σ.n p.2,cnt p.2 σ.n⟩ con) .mk:=bO rfl rfl
def bIe(P:Program)[Mc:Mch P](c:Option (FuncId×List AV))(avs:List AV)(H:Hp)(k:List AV→D→Prop)(_:Dm k):Prop:=match c with
 |some (f,cs)=>∃ ds r,cI H (avs++cs)=some ds∧Spec P f ds r∧k (avs++cs) r
 |none=>False
theorem aKu{f:FuncId}{cs avs:List AV}{H:Hp}{k:List AV→D→Prop}{d:Dm k}{ds:List D}{r:D}(h1:cI H (avs++cs)=some ds)(h2:Spec P f ds r)(h3:k (avs++cs) r):bIe P (some (f,cs)) avs H k d:=⟨ds,r,h1,h2,h3⟩
def bRn(P:Program)[Mc:Mch P](x:AV)(avs:List AV)(H:Hp)(k:List AV→D→Prop)(_:Dm k):Prop:=match x with
 |.d (.fm f d)=>∃ ds r,cI H (.d d::avs)=some ds∧Spec P f ds r∧k (.d d::avs) r
 |_=>False
def bId(P:Program)[Mc:Mch P](c:Option (FuncId×List AV))(x:AV)(avs:List AV)(H:Hp)(k:List AV→D→Prop)(_:Dm k):Prop:=match c with
 |some p=>bIe P (some p) avs H k .mk
 |none=>bRn P x avs H k .mk
theorem aPk(p:FuncId×List AV)(x:AV)(avs:List AV)(H:Hp)(k:List AV→D→Prop)(d:Dm k):bId P (some p) x avs H k d=bIe P (some p) avs H k .mk:=rfl
theorem aG(t:Tmp)(args:List Operand)(ts:Array TypeId)(d:Dm ((⟨dst,.call ⟨.value (.tmp t),args.toArray,ts⟩,ty,pos,after,guard⟩:Oper),k)):O1d P ⟨dst,.call ⟨.value (.tmp t),args.toArray,ts⟩,ty,pos,after,guard⟩ σ con k d =
  bId P (dM (σ.Γ t)) (σ.Γ t) (args.map (oev σ.Γ)) σ.H (fun avs r=>k ⟨bE σ.Γ dst (inj r),kill (aX σ.H avs r) σ.H,σ.n⟩ (aX σ.H avs r++con)) .mk:=by
 unfold O1d;simp only[O1,bId,bRn]
 cases dM (σ.Γ t)with
 |none=>rfl
 |some p=>obtain⟨f,cs⟩:=p;rfl
end
attribute [simp] aPk aJh bCf bUw bOc bOb bEb aPj aKt aKs bOr bOq bEq bJj bJi aYk aWs aPh bAe bDl bDk
end Go.Am
end
section
open List renaming map_map→ζ,mapM_map→ξ
namespace Go.Am
open RowKit (Below)
def aBz(P:Program)[M:Mch P]:List Bool→Code→St→(Exit→St→Prop)→Prop
 |[],c,σ,Q=>AWP P c σ Q
 |false::l,c,σ,Q=>∃ σ2,WkR σ σ2∧aBz P l c σ2 Q
 |true::l,.seq x y,σ,Q=>AWP P x σ fun e σ'=>match e with|.normal=>aBz P l y σ' Q|e=>Q e σ'
 |true::_,_,_,_=>False
section
variable {P:Program} [M:Mch P] {G:Ctx} {N:Nat} {ds:List Deferred}
theorem sO(hm:P.follows .mixedOrders=true)(hZ:∀ d,G.Z d=none):∀(l:List Bool) (c:Code) (Q:Exit→St→Prop) (σ:St) (a:Act) (w:World),bH N c=true→bK P c=true→aBz P l c σ Q→SR G N ds σ a w →
  WC P c (fun e a' w'=>∃ σ',Q e σ'∧SR G N ds σ' a' w') a w
 |[],c,Q,σ,a,w,hd,hl,h,hs=>cG hm hZ c Q σ a w hd hl h hs
 | false::l,c,Q,σ,a,w,hd,hl,h,hs=>by
  obtain⟨σ2,hw,h⟩:=h
  exact sO hm hZ l c Q σ2 a w hd hl h (mX hw hs)
 | true::l,.seq x y,Q,σ,a,w,hd,hl,h,hs=>by
  simp only[bH,bK,AR]at hd hl
  refine eB (bQ (cG hm hZ x _ _ a w hd.1 hl.1 h hs) ?_)
  rintro e a' w' ⟨σ1,hq,hs'⟩
  cases e with
  |normal=>exact sO hm hZ l y Q σ1 a' w' hd.2 hl.2 hq hs'
  |_=>exact⟨σ1,hq,hs'⟩
 |true::l,.skip,_,_,_,_,_,_,h,_|true::l,.region ..,_,_,_,_,_,_,h,_|true::l,.cond ..,_,_,_,_,_,_,h,_|true::l,.block ..,_,_,_,_,_,_,h,_|true::l,.loop ..,_,_,_,_,_,_,h,_
 |true::l,.exit ..,_,_,_,_,_,_,h,_|true::l,.ret,_,_,_,_,_,_,h,_|true::l,.label ..,_,_,_,_,_,_,h,_|true::l,.scope ..,_,_,_,_,_,_,h,_|true::l,.goto ..,_,_,_,_,_,_,h,_
 |true::l,.rangeFunc ..,_,_,_,_,_,_,h,_=>h.elim
theorem aZm {f N:Nat} {fn:Func} {c:Code} {args:List D} {r:D} (l:List Bool) (hm:P.follows .mixedOrders=true) (hf:P.funcs[f]? = some fn) (hb:fn.body=some c) (hname:(fn.name == "runtime.NumGoroutine")=false) (hN:fn.ntmps=N)
  (hd:bH N c=true) (hl':bK P c=true) (ha:args.length≤N) (h:aBz P l c (St0 args N) fun e σ=>(e=.normal∨e=.ret)∧iY P fn.results.toList σ=some r):Spec P f args r:=by
 intro A W vs hA hl hv
 have hn:¬ fn.name = "runtime.NumGoroutine" := by simpa using hname
 refine⟨fun w=>by simp[callFunc,hf,hn,hb],?_⟩
 refine fS hf hb ?_
 subst hN
 refine(WpR.plain P).okv fun hok=>bQ (sO hm (fun _=>rfl) l c _ _ _ _ hd hl' h (SR0 hok hA hl hv ha)) ?_
 rintro e a w ⟨σ,⟨he,hr⟩,hs⟩
 have hend:a.defers=[]∧∀ v1,Env w v1→∃ x,aH P (results fn a.tmps) v1=.ok x v1∧Below W.heap.size W v1∧VD (fun b=>A b∨(W.heap.size≤b∧b<v1.heap.size)) v1 r x:=by
  refine⟨hs.2.2.2.elim fun _ h=>h.elim fun _ h=>h.2.2.2.2.1,fun v1 he=>?_⟩
  have hs1:=hs.env he
  obtain⟨v,hrun,hvd⟩:=dV hs1 hr
  obtain⟨_,_,_,F,ι,hR,_,_,_,hdf,_⟩:=hs1
  refine⟨v,hrun,⟨hR.kept.os,hR.kept.tape,hR.kept.output,hR.kept.size,fun k hk=>hR.kept.block k hk (fun h=>h)⟩,hvd.mono ?_⟩
  rintro b (h|h|h)
  ·exact .inl h
  ·exact h.elim
  ·exact .inr h
 rcases he with rfl|rfl<;>exact hend
end
def WkP(P:Program)[M:Mch P](l:List Bool)(c:Code)(σ:St)(Q:Exit→St→Prop)(_:Dm (c,Q)):Prop:=∃ σ2,WkR σ σ2∧aBz P l c σ2 Q
theorem iD{P:Program}[M:Mch P]{l:List Bool}{c:Code}{σ:St}{Q:Exit→St→Prop}{d:Dm (c,Q)}(σ2:St)(hw:∃ ρ,Wk σ σ2 ρ)(h:aBz P l c σ2 Q):WkP P l c σ Q d:=⟨σ2,.inr hw,h⟩
theorem bC(P:Program)[M:Mch P](c:Code)(σ:St)(Q:Exit→St→Prop):aBz P [] c σ Q=AWP P c σ Q:=rfl
theorem aS(P:Program)[M:Mch P](l:List Bool)(c:Code)(σ:St)(Q:Exit→St→Prop):aBz P (false::l) c σ Q=WkP P l c σ Q .mk:=rfl
theorem aV(P:Program)[M:Mch P](l:List Bool)(x y:Code)(σ:St)(Q:Exit→St→Prop):aBz P (true::l) (.seq x y) σ Q=AWP P x σ fun e σ'=>match e with|.normal=>aBz P l y σ' Q|e=>Q e σ':=rfl
theorem bLd{hs:List HO}{rs:List Nat}{a id:Nat}(hid:(xB 1 hs id).isSome=true)(hl:hs.length≤rs.length)(h:a ∉ rs):wX rs id≠a:=by
 rw[pT]at hid
 cases id with
 |zero=>simp at hid
 | succ i =>
  rw[Ap (by omega),Nat.add_sub_cancel]at hid
  have hi:i<rs.length:=by
   rcases Az i hs.length with h'|h'
   ·omega
   ·rw[AX h']at hid;cases hid
  show rs.getD i 0≠a
  rw[xW hi]
  exact fun e=>h (e ▸ List.getElem_mem hi)
end Go.Am
end
section
open List renaming map_map→ζ,mapM_map→ξ
namespace Go.Am
open Go.Conc
section
variable {P:Program} {main:Bool} {b:Frame} {a:Act} {k:List Item} {cs:List Frame} {w:World}
theorem bJz:stepG P main (G (b.atR a (.code .skip::k)) cs) w=.go (G (b.atR a k) cs) w:=by simp[G,stepG,B7,Ck]
theorem aZg{l:Nat}:stepG P main (G (b.atR a (.code (.label l)::k)) cs) w=.go (G (b.atR a k) cs) w:=by simp[G,stepG,B7,Ck]
theorem aMm{id:Nat}:stepG P main (G (b.atR a (.inBlock id::k)) cs) w=.go (G (b.atR a k) cs) w:=by simp[G,stepG,B7,Ck]
theorem bSt{x y:Code}:stepG P main (G (b.atR a (.code (.seq x y)::k)) cs) w=.go (G (b.atR a (.code x::.code y::k)) cs) w:=by simp[G,stepG,B7,Ck]
theorem bKd{c:Operand}{x y:Code}{t:Bool}(h:a.eval c=.bool t):stepG P main (G (b.atR a (.code (.cond c x y)::k)) cs) w=.go (G (b.atR a (.code (if t then x else y)::k)) cs) w:=by
  have h':(b.atR a (.code (.cond c x y)::k)).eval c=.bool t:=by rw[Frame.eval_atR];exact h
  simp only[Ck]at h'
  simp[G,stepG,B7,Ck,h']
theorem aZi{id:Nat}{c:Code}:stepG P main (G (b.atR a (.code (.block id c)::k)) cs) w=.go (G (b.atR a (.code c::.inBlock id::k)) cs) w:=by simp[G,stepG,B7,Ck]
theorem bKb{c:Code}:stepG P main (G (b.atR a (.code (.loop c)::k)) cs) w=.go (G (b.atR a (.code c::.inLoop c::k)) cs) w:=by simp[G,stepG,B7,Ck]
theorem aTm{c:Code}:stepG P main (G (b.atR a (.inLoop c::k)) cs) w=.go (G (b.atR a (.code c::.inLoop c::k)) cs) w:=by simp[G,stepG,B7,Ck]
theorem bKc{id:Nat}{k':List Item}(h:exitTo id k=some k'):stepG P main (G (b.atR a (.code (.exit id)::k)) cs) w=.go (G (b.atR a k') cs) w:=by simp[G,stepG,B7,Ck,h]
theorem aTl{id:Nat}{ops:Array Oper}:stepG P main (G (b.atR a (.code (.region id ops false)::k)) cs) w=.go (G (b.atR a (.inRegion ops (AK ops.size)::k)) cs) w:=by simp[G,stepG,B7,Ck]
theorem lY{ops:Array Oper}:stepG P main (G (b.atR a (.inRegion ops []::k)) cs) w=.go (G (b.atR a k) cs) w:=by simp[G,stepG,B7,Ck]
theorem aHn{ops:Array Oper}{i:Nat}{rest:List Nat}{o:Oper}(ho:ops[i]? = some o)(hw:Bl o (yielded ops a.tmps)=false) :
    stepG P main (G (b.atR a (.inRegion ops (i::rest)::k)) cs) w=.go (G (b.atR (a.put o.dst undef) (.inRegion ops rest::k)) cs) w #[]:=by
  have hfin:(b.atR a (.inRegion ops (i::rest)::k)).finish undef=b.atR (a.put o.dst undef) (.inRegion ops rest::k):=by rw[Em,ho];rfl
  rw[←hfin]
  simp[G,stepG,B7,Ck,ho,hw]
theorem xK{ops:Array Oper}{i:Nat}{rest:List Nat}{o:Oper}(hnd:∀ c,o.op≠.defer c)(ho:ops[i]? = some o)(hw:Bl o (yielded ops a.tmps)=true) :
    stepG P main (G (b.atR a (.inRegion ops (i::rest)::k)) cs) w=DX P true (b.atR a (.inRegion ops (i::rest)::k)) cs none (execOp a.eval o) w:=by
  have he:=Frame.eval_atR b a (.inRegion ops (i::rest)::k)
  rw[←Oper.semAt_eq b.roundOf a.eval o hnd]
  simp only[Ck]at he
  simp only[G,stepG,B7,stepG.oper,Frame.oper?,Ck,ho,hw,he,Option.map_some,Option.getD_some,AF,Oper.semAt]
  cases b.roundOf<;>cases o.op<;>rfl
theorem aZf{ops:Array Oper}{i:Nat}{rest:List Nat}{o:Oper}{v:Value}{w':World}(hnd:∀ c,o.op≠.defer c)(ho:ops[i]? = some o)(hw:Bl o (yielded ops a.tmps)=true)
    (hk:b.kind≠.early) (hr:(execOp a.eval o).run P w=.ok (.value v) w') :
    stepG P main (G (b.atR a (.inRegion ops (i::rest)::k)) cs) w=.go (G (b.atR (a.put o.dst v) (.inRegion ops rest::k)) cs) w' (listed P b.fn a o w):=by
  have hfin:(b.atR a (.inRegion ops (i::rest)::k)).finish v=b.atR (a.put o.dst v) (.inRegion ops rest::k):=by rw[Em,ho];rfl
  have hk':(b.kind==C9)=false:=by simpa using hk
  rw[xK hnd ho hw,←hfin]
  simp[DX,hr,G,Ck,hk',Cl,listed]
theorem bKa{ops:Array Oper}{i:Nat}{rest:List Nat}{o:Oper}{w':World}(hnd:∀ c,o.op≠.defer c)(ho:ops[i]? = some o)(hw:Bl o (yielded ops a.tmps)=true)
    (hk:b.kind≠.early) (hr:(execOp a.eval o).run P w=.ok .skip w') :
    stepG P main (G (b.atR a (.inRegion ops (i::rest)::k)) cs) w=.go (G (b.atR (a.put o.dst undef) (.inRegion ops rest::k)) cs) w' (listed P b.fn a o w):=by
  have hfin:(b.atR a (.inRegion ops (i::rest)::k)).finish undef=b.atR (a.put o.dst undef) (.inRegion ops rest::k):=by rw[Em,ho];rfl
  have hk':(b.kind==C9)=false:=by simpa using hk
  rw[xK hnd ho hw,←hfin]
  simp[DX,hr,G,Ck,hk',Cl,listed]
theorem aZh{ops:Array Oper}{i:Nat}{rest:List Nat}{o:Oper}{f:FuncId}{args:Array Value}{w':World}(hnd:∀ c,o.op≠.defer c)(ho:ops[i]? = some o)(hw:Bl o (yielded ops a.tmps)=true)
    (hk:b.kind≠.early) (hr:(execOp a.eval o).run P w=.ok (.enter f args) w') :
    stepG P main (G (b.atR a (.inRegion ops (i::rest)::k)) cs) w=.go (G (CZ P f args .normal) (b.atR a (.inRegion ops (i::rest)::k)::cs)) w' (listed P b.fn a o w):=by
  have hk':(b.kind==C9)=false:=by simpa using hk
  rw[xK hnd ho hw]
  simp[DX,hr,G,Ck,hk',Cl,listed]
end
theorem aJk{ops:Array Oper}{i:Nat}{o:Oper}(h:rF ops=true)(ho:ops[i]? = some o):∀ c,o.op≠.defer c:=by
  intro c e
  have:=Array.all_eq_true'.1 h o (BS ho)
  simp[bXj,e]at this
section
variable {P:Program} [M:Mch P] {lp:Nat} {Q:Exit→Act→World→Prop} {a:Act} {v:World}
def wR(Win:Goroutine→World→Prop)(b:Frame)(k:List Item)(cs:List Frame):Exit→Act→World→Prop
  |.normal,a,v=>Win (G (b.atR a k) cs) v
  |.exit id,a,v=>match exitTo id k with|some k'=>Win (G (b.atR a k') cs) v|none=>∀ k1,exitTo id k1=none→Win (G (b.atR a (.code (.exit id)::k1)) cs) v
  |.ret,a,v=>∀ k1,Win (G (b.atR a (.code .ret::k1)) cs) v
  |_,_,_=>False
def WR(P:Program)[M:Mch P](lp:Nat)(c:Code)(Q:Exit→Act→World→Prop)(a:Act)(v:World):Prop :=
  ∀(Win:Goroutine→World→Prop),M.Fam Win→OkV v→∀(b:Frame) (k:List Item) (cs:List Frame),b.kind=.normal→b.roundOf=some lp→(∀ e a' v',OkV v'→Q e a' v'→wR Win b k cs e a' v')→Win (G (b.atR a (.code c::k)) cs) v
theorem bAz{Win:Goroutine→World→Prop}(hW:M.Fam Win){b:Frame}{a:Act}{k:List Item}{cs:List Frame}{v:World}{ops:Array Oper}{i:Nat}{rest:List Nat}{o:Oper}{K:Act→World→Prop}(hnd:∀ c,o.op≠.defer c)(hb:b.kind=.normal)(hro:b.roundOf=some lp)(ho:ops[i]? = some o)(hw:Bl o (yielded ops a.tmps)=true)
    (hv:OkV v) (h:∀ v1,Env v v1→wpX P o a v1 K) (hk:∀ a' v',OkV v'→K a' v'→Win (G (b.atR a' (.inRegion ops rest::k)) cs) v') :
    Win (G (b.atR a (.inRegion ops (i::rest)::k)) cs) v:=by
  have hbk:b.kind≠.early:=by rw[hb];simp
  refine(M.closed hW).step rfl hv fun v1 w he hsim=>?_
  have hu:=h v1 he
  unfold wpX at hu
  have hv1:=he.okV hv
  cases hr:aH P (execOp a.eval o) v1 with
  |halt x v'=>rw[hr]at hu;exact hu.elim
  | ok n v' =>
    obtain⟨w',es',h1,h2,h3,h4,h5,h6⟩:=eW _ v1 w #[] n v' hv1 hsim hr
    rw[hr]at hu
    have hrw:(execOp a.eval o).run P w=.ok n w':=by
      have:=Di P (execOp a.eval o) w #[]
      rw[h1]at this
      exact(congrArg Prod.fst this).symm
    have hev:∀ e∈listed P b.fn a o w,EvV v' e:=fun e hx=>by
      have:=mem_listed hx
      have h7:=Di P (execOp a.eval o) w #[]
      rw[h1]at h7
      have h8:(execOp a.eval o).events P w #[]=#[]++es':=(congrArg Prod.snd h7).symm
      rw[h8]at this
      exact h6 e (by simpa using this)
    have hst:vZ v1 w v' w' (listed P b.fn a o w):=⟨h2,h3,h4,h5,hev⟩
    cases n with
    |value x=>exact⟨_,v',w',_,aZf hnd ho hw hbk hrw,hst,hk _ _ h3 hu⟩
    |skip=>exact⟨_,v',w',_,bKa hnd ho hw hbk hrw,hst,hk _ _ h3 hu⟩
    | enter f args =>
      refine⟨_,v',w',_,aZh hnd ho hw hbk hrw,hst,hu Win hW h3 _ _ fun x v'' ho' hx=>?_⟩
      rw[Em,ho]
      exact hk _ _ ho' hx
    | defer d =>
      refine⟨G (b.atR (C0 { a with defers:=d::a.defers } o.dst undef) (.inRegion ops rest::k)) cs,v',w',_,?_,hst,hk (C0 { a with defers:=d::a.defers } o.dst undef) v' h3 hu⟩
      rw[xK hnd ho hw]
      have hk':(b.kind==C9)=false:=by simp[hb]
      have:({ b.atR a (.inRegion ops (i::rest)::k) with defers:=d::a.defers }:Frame).finish undef =
          b.atR ({ a with defers:=d::a.defers }.put o.dst undef) (.inRegion ops rest::k):=by
        have:=Em b { a with defers:=d::a.defers } ops i rest k undef
        rw[ho]at this;exact this
      rw[←this]
      simp[DX,hrw,G,Ck,hk',Cl,listed]
    |_=>exact hu.elim
theorem aIa{Win:Goroutine→World→Prop}(hW:M.Fam Win){b:Frame}{k:List Item}{cs:List Frame}{ops:Array Oper}{i:Nat}{rest:List Nat}{o:Oper}(ho:ops[i]? = some o)(hw:¬Bl o (yielded ops a.tmps)=true)(hv:OkV v)
    (h:Win (G (b.atR (a.put o.dst undef) (.inRegion ops rest::k)) cs) v):Win (G (b.atR a (.inRegion ops (i::rest)::k)) cs) v :=
  aI hW rfl hv (fun w=>aHn ho (by simpa using hw)) h
theorem yX{Win:Goroutine→World→Prop}(hW:M.Fam Win){ops:Array Oper}(hnd:rF ops=true){b:Frame}{k:List Item}{cs:List Frame}(hb:b.kind=.normal)(hro:b.roundOf=some lp):∀(l:List Oper) (n:Nat) (a:Act) (v:World),OkV v→(∀ j o,l[j]? = some o→ops[n+j]? = some o)→n+l.length=ops.size→gD P ops Q l a v →
    (∀ a' v',OkV v'→Q .normal a' v'→Win (G (b.atR a' k) cs) v')→Win (G (b.atR a (.inRegion ops (Dy n l.length)::k)) cs) v
  |[],n,a,v,hv,_,_,h,hk=>aI hW rfl hv (fun w=>lY) (hk a v hv h)
  | o::l,n,a,v,hv,hl,hn,h,hk=>by
    have ho:ops[n]? = some o:=by simpa using hl 0 o rfl
    have ih:=fun a v hv h=>yX hW hnd hb hro l (n+1) a v hv (fun j o hj=>by have:=hl (j+1) o (by simpa using hj);rw[←this];congr 1;omega) (by simp at hn;omega) h hk
    rw[Aj,DY]
    unfold gD at h
    split at h
    · rename_i hw
      exact bAz hW (aJk hnd ho) hb hro ho hw hv h fun a' v' hv' h'=>ih a' v' hv' h'
    · rename_i hw
      exact aIa hW ho hw hv (ih _ v hv h)
theorem bIu{id:Nat}{ops:Array Oper}(hnd:rF ops=true)(h:gD P ops Q ops.toList a v):WR P lp (.region id ops false) Q a v:=by
  intro Win hW hv b k cs hb hro hk
  refine aI hW rfl hv (fun w=>aTl) ?_
  have:=yX hW hnd (Q:=Q) (b:=b) (k:=k) (cs:=cs) hb hro ops.toList 0 a v hv (fun j o hj=>by simpa using hj) (by simp) h fun a' v' hv' hq=>hk .normal a' v' hv' hq
  rwa [EO,←BA]
theorem bLc{Win:Goroutine→World→Prop}(hW:M.Fam Win){ops:Array Oper}(hnd:rF ops=true){b:Frame}{k:List Item}{cs:List Frame}(hb:b.kind=.normal)(hro:b.roundOf=some lp)(hk:∀ a' v',OkV v'→Q .normal a' v'→Win (G (b.atR a' k) cs) v'):∀(fuel t:Nat) (listed:Array Bool) (a:Act) (v:World),OkV v→wS P ops Q fuel listed a v →
    Win (G (b.atR a (.inRegion ops (Cm .any ops fuel t listed [])::k)) cs) v:=by
  intro fuel
  induction fuel with
  | zero =>
    intro t listed a v hv h
    simp only[Cm,List.reverse_nil]
    exact aI hW rfl hv (fun w=>lY) (hk a v hv h.2)
  | succ fuel ih =>
    intro t listed a v hv h
    obtain⟨h0,h1⟩:=h
    simp only[Cm]
    change Win (G (b.atR a (.inRegion ops (match(Bo .any ops listed)[t%(Bo .any ops listed).length]? with
      |some i=>Cm .any ops fuel (t/(Bo .any ops listed).length) (listed.setIfInBounds i true) [i]
      |none=>[].reverse)::k)) cs) v
    cases hi:(Bo .any ops listed)[t%(Bo .any ops listed).length]? with
    | none =>
      have hnil:Bo .any ops listed=[]:=by
        cases hr:Bo .any ops listed with
        |nil=>rfl
        | cons x xs =>
          rw[hr]at hi
          have hlt:t%(x::xs).length<(x::xs).length:=BL _ (by simp)
          simp at hi
          simp at hlt
          omega
      exact aI hW rfl hv (fun w=>lY) (hk a v hv (h0 hnil))
    | some i =>
      simp only[]
      rw[linearise_go_acc,List.reverse_singleton,Ft]
      have h2:=h1 i (Ai hi)
      cases ho:ops[i]? with
      | none =>
        simp only[ho]at h2
        refine aI hW (g':=G (b.atR a (.inRegion ops (Cm .any ops fuel (t/(Bo .any ops listed).length) (listed.setIfInBounds i true) [])::k)) cs) rfl hv (fun w=>?_) (ih _ _ a v hv h2)
        have hfin:∀ rest,(b.atR a (.inRegion ops (i::rest)::k)).finish undef=b.atR a (.inRegion ops rest::k):=fun rest=>by rw[Em,ho];rfl
        have:∀ rest,stepG P M.main (G (b.atR a (.inRegion ops (i::rest)::k)) cs) w=.go (G ((b.atR a (.inRegion ops (i::rest)::k)).finish undef) cs) w:=fun rest=>by simp[G,stepG,B7,Ck,ho]
        rw[this,hfin]
      | some o =>
        simp only[ho]at h2
        split at h2
        · rename_i hw;exact bAz hW (aJk hnd ho) hb hro ho hw hv h2 fun a' v' hv' h'=>ih _ _ a' v' hv' h'
        · rename_i hw;exact aIa hW ho hw hv (ih _ _ _ v hv h2)
theorem bIv{id:Nat}{ops:Array Oper}(hm:P.follows .mixedOrders=true)(hnd:rF ops=true)(h:∀ d,wS P ops Q ops.size (AU ops.size false) a { v with drawn:=d }):WR P lp (.region id ops true) Q a v:=by
  intro Win hW hv b k cs hb hro hk
  refine(M.closed hW).step rfl hv fun v1 w he hsim=>?_
  have hd:stepG P M.main (G (b.atR a (.code (.region id ops true)::k)) cs) w =
      .go (G (b.atR a (.inRegion ops (FN (P.follows .mixedOrders) ops (w.tape w.drawn (.order b.fn id)))::k)) cs) { w with drawn:=w.drawn+1 }:=by
    simp[G,stepG,B7,Ck,choose,Sem.run,Question.forced,Question.cut]
  have he2:Env { v with drawn:=v1.drawn+1 } { v1 with drawn:=v1.drawn+1 }:=⟨he.tape,he.os,he.output,he.heap⟩
  refine⟨_,{ v1 with drawn:=v1.drawn+1 },_,#[],hd,⟨⟨hsim.tape,by simp[hsim.drawn],hsim.os,hsim.output,hsim.size,hsim.blk⟩,(he.okV hv).congr rfl,⟨rfl,rfl,rfl,AA _,fun _ c _ _ h=>⟨c,h,rfl,fun _=>rfl⟩,fun _ o h h1 h2=>⟨o,h,h1,h2⟩⟩,fun _ _ _ _=>rfl,by simp⟩,(M.closed hW).env ?_ he2⟩
  simp only[FN,hm,Bool.true_or,AF]
  exact bLc hW hnd (Q:=Q) hb hro (fun a' v' hv' hq=>hk .normal a' v' hv' hq) ops.size _ _ a _ (hv.congr rfl) (h _)
theorem bIw{c:Code}{Q':Exit→Act→World→Prop}(h:WR P lp c Q a v)(hq:∀ e a v,Q e a v→Q' e a v):WR P lp c Q' a v :=
  fun Win hW hv b k cs hb hro hk=>h Win hW hv b k cs hb hro fun e a' v' hv' hx=>hk e a' v' hv' (hq _ _ _ hx)
theorem bIt(h:Q .normal a v):WR P lp .skip Q a v:=fun Win hW hv _ _ _ _ _ hk=>aI hW rfl hv (fun _=>bJz) (hk .normal a v hv h)
theorem aXv{l:Nat}(h:Q .normal a v):WR P lp (.label l) Q a v:=fun Win hW hv _ _ _ _ _ hk=>aI hW rfl hv (fun _=>aZg) (hk .normal a v hv h)
theorem bRx(h:Q .ret a v):WR P lp .ret Q a v:=fun Win hW hv _ k _ _ _ hk=>hk .ret a v hv h k
theorem bIy{id:Nat}(h:Q (.exit id) a v):WR P lp (.exit id) Q a v:=by
  intro Win hW hv b k cs _ _ hk
  have:=hk (.exit id) a v hv h
  cases hx:exitTo id k with
  |some k'=>simp only[wR,hx]at this;exact aI hW rfl hv (fun _=>bKc hx) this
  |none=>simp only[wR,hx]at this;exact this k hx
theorem bRw{x y:Code}(h:WR P lp x (Exit.then (WR P lp y Q) Q) a v):WR P lp (.seq x y) Q a v:=by
  intro Win hW hv b k cs hb hro hk
  refine aI hW rfl hv (fun _=>bSt) (h Win hW hv b (.code y::k) cs hb hro fun e a' v' hv' hq=>?_)
  cases e with
  |normal=>exact hq Win hW hv' b k cs hb hro hk
  |exit id=>have:=hk _ a' v' hv' hq;simp only[wR,exitTo]at this ⊢;exact this
  |ret=>exact hk _ a' v' hv' hq
  |goto l=>exact hk _ a' v' hv' hq
  |panic ch=>exact hk _ a' v' hv' hq
  |outgrown=>exact hk _ a' v' hv' hq
theorem bIz{c:Operand}{x y:Code}{t:Bool}(hc:a.eval c=.bool t)(h:WR P lp (if t then x else y) Q a v):WR P lp (.cond c x y) Q a v :=
  fun Win hW hv b k cs hb hro hk=>aI hW rfl hv (fun _=>bKd hc) (h Win hW hv b k cs hb hro hk)
theorem aXw{id:Nat}{c:Code}(h:WR P lp c (DR id Q) a v):WR P lp (.block id c) Q a v:=by
  intro Win hW hv b k cs hb hro hk
  refine aI hW rfl hv (fun _=>aZi) (h Win hW hv b (.inBlock id::k) cs hb hro fun e a' v' hv' hq=>?_)
  cases e with
  |normal=>exact aI hW rfl hv' (fun _=>aMm) (hk .normal a' v' hv' hq)
  | exit id' =>
    simp only[DR]at hq
    simp only[wR,exitTo]
    by_cases he:id'=id
    · rw[Ap he]at hq
      have:=hk .normal a' v' hv' hq
      rw[Ap (by simpa using he.symm)];exact this
    · rw[Ah he]at hq
      have:=hk (.exit id') a' v' hv' hq
      rw[Ah (by simpa using fun x:id=id'=>he x.symm)];exact this
  |ret=>exact hk _ a' v' hv' hq
  |goto l=>exact hk _ a' v' hv' hq
  |panic ch=>exact hk _ a' v' hv' hq
  |outgrown=>exact hk _ a' v' hv' hq
theorem bIx{c:Code}(I:Nat→Act→World→Prop)(h0:∃ n,I n a v)(h:∀ n a v,I n a v→WR P lp c (Exit.then (fun a' v'=>∃ m,m<n∧I m a' v') Q) a v):WR P lp (.loop c) Q a v:=by
  intro Win hW hv b k cs hb hro hk
  have key:∀ n a v,OkV v→I n a v→Win (G (b.atR a (.code c::.inLoop c::k)) cs) v:=by
    intro n
    induction n using Nat.strongRecOn with
    | _ n ih =>
      intro a v hv hI
      refine h n a v hI Win hW hv b (.inLoop c::k) cs hb hro fun e a' v' hv' hq=>?_
      cases e with
      | normal =>
        obtain⟨m,hlt,hI'⟩:=hq
        exact aI hW rfl hv' (fun _=>aTm) (ih m hlt a' v' hv' hI')
      |exit id=>have:=hk _ a' v' hv' hq;simp only[wR,exitTo]at this ⊢;exact this
      |ret=>exact hk _ a' v' hv' hq
      |goto l=>exact hk _ a' v' hv' hq
      |panic ch=>exact hk _ a' v' hv' hq
      |outgrown=>exact hk _ a' v' hv' hq
  obtain⟨n,hn⟩:=h0
  exact aI hW rfl hv (fun _=>bKb) (key n a v hv hn)
theorem WpR.inRound(P:Program)[M:Mch P](lp:Nat):WpR P true (WR P lp) where
  mono h hq:=bIw h hq
  okv h:=fun Win hW hv=>h hv Win hW hv
  skip h:=bIt h
  label h:=aXv h
  exit h:=bIy h
  ret h:=bRx h
  regL hnd h:=bIu (hnd rfl) h
  regA hm hnd h:=bIv hm (hnd rfl) h
  seq h:=bRw h
  cond hc h:=bIz hc h
  block h:=aXw h
  loop I h0 h:=bIx I h0 h
  scope e _:=by cases e
end
end Go.Am
end
section
open List renaming map_map→ζ,mapM_map→ξ
namespace Go.Am
open Go.Conc
section runs
variable {P:Program} {w:World}
theorem wU{l:Nat}{r:Loop}(h:w.heap[l]? = some (.loop r)):aH P (getObj l) w=.ok (.loop r) w:=by simp[getObj,aH,h]
theorem jT{l:Nat}{r r':Loop}(h:w.heap[l]? = some (.loop r)):aH P (setObj l (.loop r')) w=.ok () (w.putObj l (.loop r')):=by simp[setObj,aH,h,World.putObj,okO]
theorem lM{l:Nat}{r:Loop}(h:w.heap[l]? = some (.loop r)):aH P (Instr.getLoop l) w=.ok r w:=by
  simp[Instr.getLoop,Sem.run_bind,wU h,En]
theorem mK(o:Obj)(h:okO o=true):aH P (newObj o) w=.ok w.heap.size (w.alloc o):=lN P w o h
theorem qX(fn:FuncId)(tmps:Array Value)(ps:Array Tmp)(assign body:Code) :
    aH P (Instr.enterLoop fn tmps ps assign body none) w =
      .ok (w.heap.size+1,[{ target:=.collected w.heap.size,args:=#[] }])
        ((w.alloc (.deferred (some []))).alloc (.loop { state:=.ready,pending:=none,fn,tmps,params:=ps,assign,body,defers:=w.heap.size })):=by
  unfold Instr.enterLoop
  simp only[Sem.run_bind,mK (.deferred (some [])) rfl,En,Sem.run_pure]
  rw[mK _ rfl]
  simp only[World.size_alloc]
theorem aTw{l:Nat}{r:Loop}{args:Array Value}(h:w.heap[l]? = some (.loop r))(hs:args.size=r.params.size) :
    aH P (Instr.yield l args) w=.ok (.round l r.fn ((r.params.zip args).foldl (fun tmps (t,a)=>tmps.setIfInBounds t a) r.tmps) r.assign r.body) w:=by
  simp[Instr.yield,Sem.run_bind,lM h,En,hs]
theorem yV{l:Nat}{r:Loop}(h:w.heap[l]? = some (.loop r))(hr:r.state=.ready) :
    aH P (EX l) w=.ok () (w.putObj l (.loop { r with state:=.busy })):=by
  simp[EX,Sem.run_bind,lM h,jT h,En,hr]
theorem aFa{l:Nat}{r:Loop}(jump:Option Code)(h:w.heap[l]? = some (.loop r)) :
    aH P (F0 l jump) w=.ok (.bool jump.isNone) (w.putObj l (.loop { r with state:=if jump.isNone then .ready else .done,pending:=jump })):=by
  simp[F0,Sem.run_bind,lM h,jT h,En]
theorem aHt{l:Nat}{r:Loop}(h:w.heap[l]? = some (.loop r))(hb:r.state≠.busy) :
    aH P (Instr.endLoop l) w=.ok r.pending (w.putObj l (.loop { r with state:=.exhausted })):=by
  simp[Instr.endLoop,Sem.run_bind,lM h,jT h,En,hb]
theorem uX{b:Nat}{ds:List Deferred}(h:w.heap[b]? = some (.deferred (some ds))) :
    aH P (Fa b) w=.ok ds (w.putObj b (.deferred none)):=by
  simp[Fa,Sem.run_bind,getObj,setObj,aH,h,En,World.putObj,okO]
end runs
theorem aHv{α:Type}{s:Sem α}{P:Program}{w w':World}{r:Result α}{es:Array Event}(h:s.runT P w #[]=(r,es)):s.run P w=r:=by
  have:=Di P s w #[]
  rw[h]at this
  exact(congrArg Prod.fst this).symm
def oG(fn:FuncId)(a:Act)(ps:Array Tmp)(assign body:Code)(d:Nat)(st:LoopState)(pe:Option Code):Loop:={ state:=st,pending:=pe,fn,tmps:=a.tmps,params:=ps,assign,body,defers:=d }
theorem aPs{P:Program}{fr:Frame}{cs:List Frame}{s:Sem Next}{w w':World}{es:Array Event}(hk:(fr.kind==C9)=false)(h:s.runT P w #[]=(.ok .skip w',es)) :
    DX P true fr cs none s w=.go { frame:=fr.finish undef,callers:=cs,status:=.running,dying:=none } w' (seen P fr.fn es):=by
  simp only[DX,AF,h,hk,Ae,Av,Cl,Array.append_empty]
section
variable {P:Program} [M:Mch P] {Win:Goroutine→World→Prop} {b:Frame} {a:Act} {k:List Item} {cs:List Frame} {v:World}
theorem aSv(hW:M.Fam Win){g:Operand}{ps:Array Tmp}{assign body:Code}{gf:FuncId}{lb:Array Value}(hb:mI b)(hv:OkV v)(hg:a.eval g=.func (.func gf) #[] lb)
    (hent:∀ args w,aH P (callFunc gf args) w=.ok (.enter gf args) w)
    (h:∀ v1,Env v v1→Win (G (CZ P gf (#[.func (.yield (v1.heap.size+1)) #[] #[]]++lb) .normal)
      (b.at { a with defers:={ target:=.collected v1.heap.size,args:=#[] }::a.defers } (.inRangeFunc (v1.heap.size+1)::k)::cs))
      ((v1.alloc (.deferred (some []))).alloc (.loop (oG b.fn a ps assign body v1.heap.size .ready none)))) :
    Win (G (b.at a (.code (.rangeFunc g ps assign body)::k)) cs) v:=by
  refine(M.closed hW).step rfl hv fun v1 w he hsim=>?_
  have hv1:=he.okV hv
  obtain⟨w1,es1,h1,h2,h3,h4,h5,h6⟩:=eW (P:=P) (Instr.enterLoop b.fn a.tmps ps assign body none) v1 w #[] _ _ hv1 hsim (qX b.fn a.tmps ps assign body)
  obtain⟨v2,hv2⟩:∃ v2,(v1.alloc (.deferred (some []))).alloc (.loop (oG b.fn a ps assign body v1.heap.size .ready none))=v2:=⟨_,rfl⟩
  have hres:aH P (resolve a.eval (rangeCall g (v1.heap.size+1)) 0) v2=.ok { target:=.fn (.func gf) lb,args:=#[.func (.yield (v1.heap.size+1)) #[] #[]] } v2:=by
    simp only[resolve,hg]
    simp[Cq,Act.eval]
  have hinv:aH P (invoke (.fn (.func gf) lb) #[.func (.yield (v1.heap.size+1)) #[] #[]]) v2=.ok (.enter gf (#[.func (.yield (v1.heap.size+1)) #[] #[]]++lb)) v2:=by
    simp only[invoke,hent]
  have hcall:aH P (do let d ←resolve a.eval (rangeCall g (v1.heap.size+1)) 0;invoke d.target d.args) v2=.ok (.enter gf (#[.func (.yield (v1.heap.size+1)) #[] #[]]++lb)) v2:=by
    rw[Sem.run_bind,hres];exact hinv
  change Sim ((v1.alloc (.deferred (some []))).alloc (.loop (oG b.fn a ps assign body v1.heap.size .ready none))) w1 at h2
  change OkV ((v1.alloc (.deferred (some []))).alloc (.loop (oG b.fn a ps assign body v1.heap.size .ready none)))at h3
  change Ext _ ((v1.alloc (.deferred (some []))).alloc (.loop (oG b.fn a ps assign body v1.heap.size .ready none)))at h4
  change ∀ e∈es1,EvV ((v1.alloc (.deferred (some []))).alloc (.loop (oG b.fn a ps assign body v1.heap.size .ready none))) e at h6
  rw[hv2]at h2 h3 h4 h6
  obtain⟨w2,es2,g1,g2,g3,g4,g5,g6⟩:=eW _ v2 w1 #[] _ _ h3 h2 hcall
  have hk':(b.kind==C9)=false:=hb.beq
  have hev:=Frame.eval_at' b { a with defers:={ target:=.collected v1.heap.size,args:=#[] }::a.defers } (.inRangeFunc (v1.heap.size+1)::k)
  have g1':(do let d ←resolve (b.at { a with defers:={ target:=.collected v1.heap.size,args:=#[] }::a.defers } (.inRangeFunc (v1.heap.size+1)::k)).eval (rangeCall g (v1.heap.size+1)) 0;invoke d.target d.args:Sem Next).runT P w1 #[]=(.ok (.enter gf (#[.func (.yield (v1.heap.size+1)) #[] #[]]++lb)) w2,es2):=by
    rw[hev]
    have:(Act.eval { a with defers:={ target:=.collected v1.heap.size,args:=#[] }::a.defers })=a.eval:=by funext x;cases x<;>rfl
    rw[this];simpa using g1
  simp only[Frame.at]at g1'
  refine⟨G (CZ P gf (#[.func (.yield (v1.heap.size+1)) #[] #[]]++lb) .normal) (b.at { a with defers:={ target:=.collected v1.heap.size,args:=#[] }::a.defers } (.inRangeFunc (v1.heap.size+1)::k)::cs),v2,w2,seen P b.fn es1++seen P b.fn es2,?_,⟨g2,g3,h4.trans g4,h5.trans h4 g5,fun e hx=>?_⟩,?_⟩
  · simp only[G,stepG,B7,Frame.at,h1,Cl,Ft,rangeCall]at g1' ⊢
    simp only[DX,g1',AF]
    simp[hk',Cl]
  · rcases Array.mem_append.1 hx with hx|hx
    · exact(h6 e (by simpa using mem_seen hx)).ext g4
    · exact g6 e (by simpa using mem_seen hx)
  · rw[←hv2];exact h v1 he
theorem aSu(hW:M.Fam Win){ops:Array Oper}{i:Nat}{rest:List Nat}{o:Oper}{l:Nat}{f:FuncId}{tmps:Array Value}{assign body:Code}(hb:mI b)(ho:ops[i]? = some o)(hw:Bl o (yielded ops a.tmps)=true)(hv:OkV v)
    (h:∀ v1,Env v v1→aH P (execOp a.eval o) v1=.ok (.round l f tmps assign body) v1∧Win (G (Fb l f tmps assign body .normal) (b.at a (.inRegion ops (i::rest)::k)::cs)) v1) :
    Win (G (b.at a (.inRegion ops (i::rest)::k)) cs) v:=by
  refine(M.closed hW).step rfl hv fun v1 w he hsim=>?_
  obtain⟨hr,hwin⟩:=h v1 he
  obtain⟨w',es',h1,h2,h3,h4,h5,h6⟩:=eW _ v1 w #[] _ _ (he.okV hv) hsim hr
  have hk':(b.kind==C9)=false:=hb.beq
  have hrw:=aHv (w':=w) h1
  have hev:∀ e∈listed P b.fn a o w,EvV v1 e:=fun e hx=>by
    have:=mem_listed hx
    have h7:=Di P (execOp a.eval o) w #[]
    rw[h1]at h7
    have h8:(execOp a.eval o).events P w #[]=#[]++es':=(congrArg Prod.snd h7).symm
    rw[h8]at this
    exact h6 e (by simpa using this)
  refine⟨_,v1,w',listed P b.fn a o w,?_,⟨h2,h3,h4,h5,hev⟩,hwin⟩
  rw[stepG_oper ho hw]
  simp[DX,hrw,G,Frame.at,hk',Cl,listed]
theorem aLv(hW:M.Fam Win){ops:Array Oper}{i:Nat}{rest:List Nat}{o:Oper}(hb:mI b)(ho:ops[i]? = some o)(hw:Bl o (yielded ops a.tmps)=true)(hv:OkV v)
    (h:∀ v1,Env v v1→∃ l f tmps assign body,aH P (execOp a.eval o) v1=.ok (.round l f tmps assign body) v1∧Win (G (Fb l f tmps assign body .normal) (b.at a (.inRegion ops (i::rest)::k)::cs)) v1) :
    Win (G (b.at a (.inRegion ops (i::rest)::k)) cs) v:=by
  refine(M.closed hW).step rfl hv fun v1 w he hsim=>?_
  obtain⟨l,f,tmps,assign,body,hr,hwin⟩:=h v1 he
  obtain⟨w',es',h1,h2,h3,h4,h5,h6⟩:=eW _ v1 w #[] _ _ (he.okV hv) hsim hr
  have hk':(b.kind==C9)=false:=hb.beq
  have hrw:=aHv (w':=w) h1
  have hev:∀ e∈listed P b.fn a o w,EvV v1 e:=fun e hx=>by
    have:=mem_listed hx
    have h7:=Di P (execOp a.eval o) w #[]
    rw[h1]at h7
    have h8:(execOp a.eval o).events P w #[]=#[]++es':=(congrArg Prod.snd h7).symm
    rw[h8]at this
    exact h6 e (by simpa using this)
  refine⟨_,v1,w',listed P b.fn a o w,?_,⟨h2,h3,h4,h5,hev⟩,hwin⟩
  rw[stepG_oper ho hw]
  simp[DX,hrw,G,Frame.at,hk',Cl,listed]
theorem aSw(hW:M.Fam Win){l:Nat}(hb:b.kind=.normal)(hro:b.roundOf=some l)(hv:OkV v)(h:∀ v1,Env v v1→∃ v2,aH P (EX l) v1=.ok () v2∧(OkV v2→Win (G (b.atR a k) cs) v2)) :
    Win (G (b.atR a (.beginRound::k)) cs) v:=by
  refine(M.closed hW).step rfl hv fun v1 w he hsim=>?_
  obtain⟨v2,hr,hwin⟩:=h v1 he
  have hr':aH P (do EX l;pure .skip:Sem Next) v1=.ok .skip v2:=by rw[Sem.run_bind,hr];rfl
  obtain⟨w',es',h1,h2,h3,h4,h5,h6⟩:=eW _ v1 w #[] _ _ (he.okV hv) hsim hr'
  have hk':(b.kind==C9)=false:=by simp[hb]
  refine⟨_,v2,w',seen P b.fn es',?_,⟨h2,h3,h4,h5,fun e hx=>h6 e (by simpa using mem_seen hx)⟩,hwin h3⟩
  have h1':(do (b.roundOf).elim (stuck "beginRound: no round") EX; pure .skip:Sem Next).runT P w #[]=(.ok .skip w',es'):=by rw [hro]; simpa using h1
  have:=aPs (fr:=b.atR a (.beginRound::k)) (cs:=cs) (by exact hk') h1'
  simp only[G,stepG,B7]
  exact this
theorem aYf(hW:M.Fam Win){l:Nat}{c:Frame}{e:Exit}{jump:Option Code}(hb:b.kind=.normal)(hro:b.roundOf=some l)(hv:OkV v)(hj:(e,jump)=(.normal,none)∨(e,jump)=(.ret,some .ret)∨∃ id,(e,jump)=(.exit id,some (.exit id)))
    (h:∀ v1,Env v v1→∃ x v2,aH P (F0 l jump) v1=.ok x v2∧(OkV v2→Win (G (c.finish x) cs) v2)):wR Win b [] (c::cs) e a v:=by
  have key:∀(todo:List Item),(∀ w w' x es,(F0 l jump).runT P w #[]=(.ok x w',es)→stepG P M.main (G (b.atR a todo) (c::cs)) w=.go (G (c.finish x) cs) w' (seen P b.fn es))→Win (G (b.atR a todo) (c::cs)) v:=by
    intro todo hst
    refine(M.closed hW).step rfl hv fun v1 w he hsim=>?_
    obtain⟨x,v2,hr,hwin⟩:=h v1 he
    obtain⟨w',es',h1,h2,h3,h4,h5,h6⟩:=eW _ v1 w #[] _ _ (he.okV hv) hsim hr
    exact⟨_,v2,w',seen P b.fn es',hst _ _ _ _ (by simpa using h1),⟨h2,h3,h4,h5,fun e hx=>h6 e (by simpa using mem_seen hx)⟩,hwin h3⟩
  rcases hj with hj|hj|⟨id,hj⟩
  · injection hj with e1 e2;subst e1;subst e2
    exact key [] fun w w' x es hr=>by simp[-Di,G,stepG,B7,Ck,hro,hb,hr,doReturn,Cl]
  · injection hj with e1 e2;subst e1;subst e2
    exact fun k1=>key _ fun w w' x es hr=>by simp[-Di,G,stepG,B7,Ck,hro,hb,hr,doReturn,Cl]
  · injection hj with e1 e2;subst e1;subst e2
    simp only[wR,exitTo]
    exact fun k1 hk1=>key _ fun w w' x es hr=>by simp[-Di,G,stepG,B7,Ck,hro,hb,hk1,hr,doReturn,Cl]
theorem aEe(hW:M.Fam Win){l:Nat}(hv:OkV v)(h:∀ v1,Env v v1→∃ jump v2,aH P (Instr.endLoop l) v1=.ok jump v2∧(OkV v2→Win (G (b.at a ((jump.map Item.code).toList++k)) cs) v2)) :
    Win (G (b.at a (.endRangeFunc l::k)) cs) v:=by
  refine(M.closed hW).step rfl hv fun v1 w he hsim=>?_
  obtain⟨jump,v2,hr,hwin⟩:=h v1 he
  obtain⟨w',es',h1,h2,h3,h4,h5,h6⟩:=eW _ v1 w #[] _ _ (he.okV hv) hsim hr
  refine⟨_,v2,w',seen P b.fn es',?_,⟨h2,h3,h4,h5,fun e hx=>h6 e (by simpa using mem_seen hx)⟩,hwin h3⟩
  simp only[Ca]at h1
  simp[-Di,G,stepG,B7,Frame.at,h1,Cl]
theorem aYe(hW:M.Fam Win){D:Nat}{ds:List Deferred}{todo:List Item}(hv:OkV v)(hd:a.defers={ target:=.collected D,args:=#[] }::ds)
    (h:∀ v1,Env v v1→∃ v2,aH P (Fa D) v1=.ok [] v2∧(OkV v2→Win (G { b.at { a with defers:=ds } todo with mode:=.returning } cs) v2)) :
    Win (G { b.at a todo with mode:=.returning } cs) v:=by
  refine(M.closed hW).step rfl hv fun v1 w he hsim=>?_
  obtain⟨v2,hr,hwin⟩:=h v1 he
  obtain⟨w',es',h1,h2,h3,h4,h5,h6⟩:=eW _ v1 w #[] _ _ (he.okV hv) hsim hr
  refine⟨_,v2,w',seen P b.fn es',?_,⟨h2,h3,h4,h5,fun e hx=>h6 e (by simpa using mem_seen hx)⟩,hwin h3⟩
  simp only[Ca]at h1
  simp[-Di,G,stepG,unwind,Frame.at,hd,h1,Cl]
end
end Go.Am
end
section
open List renaming map_map→ζ,mapM_map→ξ
namespace Go.Am
open RowKit (Below)
def SRB(F M:Nat→Prop)(N:Nat)(ds:List Deferred)(σ:St)(a:Act)(w:World):Prop :=
  (∀ id,σ.n≤id→σ.H id=none)∧∃ ι,(∀ b,F b→b<w.heap.size)∧(∀ id b,ι id=some b→M b)∧(∀ b,M b→b<w.heap.size∧¬F b) ∧
    (∀ id b o,ι id=some b→σ.H id=some o→∃ ob,w.heap[b]? = some ob∧CR F w ι o ob)∧(∀ id id' b,ι id=some b→ι id'=some b→id=id') ∧
    (∀ id,(∃ b,ι id=some b)↔(σ.H id).isSome=true)∧(∀ t,V F w ι (σ.Γ t) (a.tmps.getD t undef))∧a.tmps.size=N∧a.defers=ds
def aBx:Nat→Prop:=fun _=>True
def noZ:Nat→Option Value:=fun _=>none
section
variable {P:Program} {F M:Nat→Prop} {N:Nat} {ds:List Deferred} {σ:St} {a:Act} {w:World}
theorem SRB.sr(h:SRB F M N ds σ a w)(hok:OkV w)(Z:Nat→Option Value)(hZ:∀ t v,Z t=some v→a.tmps.getD t undef=v):SR ⟨w,F,M,aBx,Z⟩ N ds σ a w:=by
  obtain⟨h1,ι,hF,hM,hMF,ho,hi,hd,hV,hN,hds⟩:=h
  refine⟨h1,fun _ _=>trivial,hok,F,ι,⟨.refl _ _ _,hF,fun b h=>.inl h,fun id b e=>⟨.inl (hM id b e),(hMF b (hM id b e)).1,fun _=>(hMF b (hM id b e)).2⟩,ho,fun id id' b e e' _ _=>hi id id' b e e',fun id id' b o o' e e' _ q q'=>?_⟩,hd,hV,⟨hN,hZ⟩,hds,fun _ _=>trivial⟩
  have:=hi id id' b e e'
  subst this
  rw[q]at q';injection q' with q';subst q'
  exact AA _
theorem SR.srb{G:Ctx}(h:SR G N ds σ a w):∃ F M,SRB F M N ds σ a w∧(∀ b,M b→G.M b∨G.W.heap.size≤b)∧(∀ b,F b→G.A b∨G.M b∨G.W.heap.size≤b)∧Kept G.M G.W.heap.size G.W w ∧
    ∀ t v,G.Z t=some v→a.tmps.getD t undef=v:=by
  obtain⟨h1,h2,_,F,ι,hR,hd,hV,hN,hds,_⟩:=h
  refine⟨F,fun b=>∃ id,ι id=some b,⟨h1,ι,hR.F_lt,fun id b e=>⟨id,e⟩,?_,hR.obj,fun id id' b e e'=>hR.inj id id' b e e' (fun x=>x) (fun x=>x),hd,hV,hN.1,hds⟩,?_,hR.F_ok,hR.kept,hN.2⟩
  · rintro b ⟨id,e⟩;exact⟨(hR.place id b e).2.1,(hR.place id b e).2.2 fun x=>x⟩
  · rintro b ⟨id,e⟩;exact(hR.place id b e).1
theorem SRB.world(h:SRB F M N ds σ a w){w':World}(hsz:w.heap.size≤w'.heap.size)(hb:∀ b,F b∨M b→w'.heap[b]? = w.heap[b]?):SRB F M N ds σ a w':=by
  obtain⟨h1,ι,hF,hM,hMF,ho,hi,hd,hV,hN,hds⟩:=h
  have hs:Step F w ι F w' ι:=⟨fun _ h=>h,fun b h=>hb b (.inl h),fun _ _ h=>h,fun id b cur e hi h=>⟨cur,(hb b (.inr (hM id b hi))).trans h,rfl⟩⟩
  refine⟨h1,ι,fun b h=>A9 (hF b h) hsz,hM,fun b h=>⟨A9 (hMF b h).1 hsz,(hMF b h).2⟩,fun id b o e e'=>?_,hi,hd,fun t=>(hV t).step hs,hN,hds⟩
  obtain⟨ob,q1,q2⟩:=ho id b o e e'
  exact⟨ob,(hb b (.inr (hM id b e))).trans q1,q2.step hs⟩
theorem SRB.more(h:SRB F M N ds σ a w){F':Nat→Prop}(hFF:∀ b,F b→F' b)(hF':∀ b,F' b→b<w.heap.size)(hMF':∀ b,M b→¬F' b):SRB F' M N ds σ a w:=by
  obtain⟨h1,ι,hF,hM,hMF,ho,hi,hd,hV,hN,hds⟩:=h
  have hs:Step F w ι F' w ι:=⟨hFF,fun b h=>rfl,fun _ _ h=>h,fun id b cur e hi h=>⟨cur,h,rfl⟩⟩
  refine⟨h1,ι,hF',hM,fun b h=>⟨(hMF b h).1,hMF' b h⟩,fun id b o e e'=>?_,hi,hd,fun t=>(hV t).step hs,hN,hds⟩
  obtain⟨ob,q1,q2⟩:=ho id b o e e'
  exact⟨ob,q1,q2.step hs⟩
theorem SRB.act(h:SRB F M N ds σ a w){Γ':Nat→AV}{a':Act}{ds':List Deferred}(hN:a'.tmps.size=N)(hds:a'.defers=ds')
    (hV:∀ t,(Γ' t=σ.Γ t∧a'.tmps.getD t undef=a.tmps.getD t undef)∨Γ' t=.any∨∃ d v,Γ' t=aL d∧a'.tmps.getD t undef=v∧VD F w d v):SRB F M N ds' ⟨Γ',σ.H,σ.n⟩ a' w:=by
  obtain⟨h1,ι,hF,hM,hMF,ho,hi,hd,hV0,_,_⟩:=h
  refine⟨h1,ι,hF,hM,hMF,ho,hi,hd,fun t=>?_,hN,hds⟩
  rcases hV t with ⟨e1,e2⟩|e|⟨d,v,e1,e2,e3⟩
  · show V F w ι (Γ' t) _
    rw[e1,e2];exact hV0 t
  · show V F w ι (Γ' t) _
    rw[e];exact .any _
  · show V F w ι (Γ' t) _
    rw[e1,e2];exact mF e3
theorem SRB.defers(h:SRB F M N ds σ a w)(ds':List Deferred):SRB F M N ds' σ { a with defers:=ds' } w:=by
  obtain⟨h1,ι,hF,hM,hMF,ho,hi,hd,hV,hN,hds⟩:=h
  exact⟨h1,ι,hF,hM,hMF,ho,hi,hd,hV,hN,rfl⟩
theorem SRB.weak(h:SRB F M N ds σ a w)(hok:OkV w){σ':St}{ρ:Nat→Nat}(hk:Wk σ σ' ρ):∃ F' M',SRB F' M' N ds σ' a w∧(∀ b,M' b→M b)∧∀ b,F' b→F b∨M b:=by
  obtain⟨F',M',h',hM,hF,_⟩:=(uO hk (h.sr hok noZ fun _ _ e=>by cases e)).srb
  refine⟨F',M',h',fun b hb=>?_,fun b hb=>?_⟩
  · rcases hM b hb with h1|h1
    · exact h1
    · obtain⟨_,_,_,_,q,_⟩:=h'
      have:=(q b hb).1
      simp only at h1;omega
  · rcases hF b hb with h1|h1|h1
    · exact .inl h1
    · exact .inr h1
    · obtain⟨_,_,q,_⟩:=h'
      have:=q b hb
      simp only at h1;omega
def lG(σ:St)(l:List Nat):St:=fin ⟨σ.Γ,kill l σ.H,σ.n⟩ l
theorem SRB.callee(h:SRB F M N ds σ a w){g:Operand}{gf:FuncId}{cs:List AV}{caps:List D}(hg:dM (oev σ.Γ g)=some (gf,cs))(hf:cI σ.H cs=some caps) :
    ∃ lb A M',a.eval g=.func (.func gf) #[] lb∧caps.length=lb.size∧(∀(k:Nat) d v,caps[k]? = some d→lb[k]? = some v→VD A w d v)∧SRB A M' N ds (lG σ (bT σ.H cs)) a w ∧
      (∀ b,A b→F b∨M b)∧(∀ b,M' b→M b):=by
  obtain⟨h1,ι,hF,hM,hMF,ho,hi,hd,hV,hN,hds⟩:=h
  have hR:HR ⟨w,F,M,aBx,noZ⟩ F w ι aW σ.H:=by
    refine⟨.refl _ _ _,hF,fun b h=>.inl h,fun id b e=>⟨.inl (hM id b e),(hMF b (hM id b e)).1,fun _=>(hMF b (hM id b e)).2⟩,ho,fun id id' b e e' _ _=>hi id id' b e e',fun id id' b o o' e e' _ q q'=>?_⟩
    have:=hi id id' b e e'
    subst this
    rw[q]at q';injection q' with q';subst q'
    exact AA _
  have hVg:V F w ι (oev σ.Γ g) (a.eval g):=cE fun t _=>hV t
  obtain⟨lb,e1,e2,e3⟩:=aDq hg hVg
  obtain⟨q1,q2,q3⟩:=lS (vs:=lb.toList) hR (fun _ _ h=>h) hf (by simpa using e2) fun k c u hc hu=>e3 k c u hc (by simpa using hu)
  let l:=bT σ.H cs
  have hAM:∀ b,reach F ι l b→F b∨M b:=by
    rintro b (hb|⟨id,_,e⟩)
    · exact .inl hb
    · exact .inr (hM id b e)
  have hAlt:∀ b,reach F ι l b→b<w.heap.size:=fun b hb=>(hAM b hb).elim (hF b) fun h=>(hMF b h).1
  have hs:Step F w ι (reach F ι l) w ι:=⟨fun b h=>.inl h,fun b h=>rfl,fun _ _ h=>h,fun id b cur e hi h=>⟨cur,h,rfl⟩⟩
  refine⟨lb,reach F ι l,fun b=>M b∧¬reach F ι l b,e1,by simpa using q1,fun k d v hk hv=>q2 k d v hk (by simpa using hv),?_,hAM,fun b h=>h.1⟩
  have hmask:∀ id b,mask ι l id=some b→M b∧¬reach F ι l b:=fun id b e=>by
    obtain⟨m1,m2⟩:=cK e
    refine⟨hM id b m1,?_⟩
    rintro(hb|⟨id',hid',e'⟩)
    · exact(hMF b (hM id b m1)).2 hb
    · exact m2 (hi id id' b m1 e' ▸ hid')
  have hkill:∀ id,kill l σ.H id=if id∈l then none else σ.H id:=fun id=>by
    by_cases hid:id∈l
    · rw[Ap hid,kS hid]
    · rw[Ah hid,mP hid]
  unfold lG
  show SRB (reach F ι l) _ N ds (fin ⟨σ.Γ,kill l σ.H,σ.n⟩ l) a w
  cases hl:l with
  | nil =>
    have hmk:mask ι l=ι:=by funext id;simp[mask,hl]
    rw[←hl]
    have hfin:fin ⟨σ.Γ,kill l σ.H,σ.n⟩ l=σ:=by rw[hl];rfl
    rw[hfin]
    refine⟨h1,ι,hAlt,fun id b e=>hmask id b (by rw[hmk];exact e),fun b h=>⟨(hMF b h.1).1,h.2⟩,fun id b o e e'=>?_,hi,hd,fun t=>(hV t).step hs,hN,hds⟩
    obtain⟨ob,p1,p2⟩:=ho id b o e e'
    exact⟨ob,p1,p2.step hs⟩
  | cons x xs =>
    rw[←hl]
    have hfin:fin ⟨σ.Γ,kill l σ.H,σ.n⟩ l=⟨fun t=>jD l (σ.Γ t),fun id=>(kill l σ.H id).map (gY l),σ.n⟩:=by rw[hl];rfl
    rw[hfin]
    refine⟨fun id h=>by simp only;rw[hkill,h1 id h];simp,mask ι l,hAlt,hmask,fun b h=>⟨(hMF b h.1).1,h.2⟩,fun id b o e e'=>?_,fun id id' b e e'=>hi id id' b (cK e).1 (cK e').1,fun id=>?_,fun t=>aGq ((hV t).step hs),hN,hds⟩
    · obtain⟨m1,m2⟩:=cK e
      simp only[hkill,Ah m2]at e'
      obtain⟨o1,ho1,rfl⟩:=Af.1 e'
      obtain⟨ob,p1,p2⟩:=ho id b o1 m1 ho1
      exact⟨ob,p1,aBi (p2.step hs)⟩
    · constructor
      · rintro⟨b,e⟩
        obtain⟨m1,m2⟩:=cK e
        simp only[hkill,Ah m2,EM]
        exact(hd id).1 ⟨b,m1⟩
      · intro e
        by_cases hid:id∈l
        · simp[hkill,hid]at e
        · simp only[hkill,Ah hid,EM]at e
          obtain⟨b,hb⟩:=(hd id).2 e
          exact⟨b,by unfold mask;rw[Ah hid];exact hb⟩
end
end Go.Am
end
section
open List renaming map_map→ζ,mapM_map→ξ
namespace Go.Am
open Go.Conc (G)
open RowKit (Below)
def YX(P:Program)[M:Mch P](l:Nat)(vals:Array Value)(W1:World)(R:Value→World→Prop):Prop :=
  ∃ f tmps assign body,aH P (Instr.yield l vals) W1=.ok (.round l f tmps assign body) W1 ∧
    ∀(Win:Goroutine→World→Prop),M.Fam Win→OkV W1→∀(c:Frame) (cs:List Frame),(∀ x v',OkV v'→R x v'→Win (Go.Conc.G (c.finish x) cs) v')→Win (Go.Conc.G (Fb l f tmps assign body .normal) (c::cs)) W1
def lW(P:Program)[M:Mch P](g:FuncId)(caps:List D)(xs:List (List D)):Prop :=
  ∀(A:Nat→Prop) (W:World) (l:Nat) (lb:Array Value),(∀ b,A b→b<W.heap.size)→caps.length=lb.size→(∀(k:Nat) d v,caps[k]? = some d→lb[k]? = some v→VD A W d v) →
    (∀ args w,aH P (callFunc g args) w=.ok (.enter g args) w) ∧
    ∀(J:Nat→(Nat→Prop)→(Nat→Prop)→World→Prop),
      (∀ k X O W1 X' O' W2,J k X O W1→Kept O W1.heap.size W1 W2→(∀ b,X b→X' b)→(∀ b,X' b→X b∨(W1.heap.size≤b∧b<W2.heap.size))→(∀ b,O' b→X' b∧(O b∨W1.heap.size≤b))→J k X' O' W2) →
      (∀ k X O W1 ds (vals:Array Value),xs[k]? = some ds→J k X O W1→ds.length=vals.size→(∀(i:Nat) d v,ds[i]? = some d→vals[i]? = some v→VD (fun b=>A b∨(X b∧¬O b)) W1 d v) →
        YX P l vals W1 fun x W2=>x=.bool (decide (k+1≠xs.length))∧J (k+1) X O W2∧W1.heap.size≤W2.heap.size∧W2.os=W1.os∧W2.tape=W1.tape∧W2.output=W1.output∧∀ b,A b∨X b→W2.heap[b]? = W1.heap[b]?) →
      J 0 aW aW W →
      CX P g (#[.func (.yield l) #[] #[]]++lb) W fun _ W'=>∃ X O,J xs.length X O W'
def oI(Ds:List Nat):List Deferred:=Ds.map fun D=>{ target:=.collected D,args:=#[] }
def FR(W:World)(A0:Nat→Prop)(N:Nat)(Ds:List Nat)(σ:St)(a:Act)(w:World):Prop :=
  ∃ F M,SRB F M N (oI Ds) σ a w∧(∀ b,M b→W.heap.size≤b)∧(∀ b,F b→A0 b∨W.heap.size≤b)∧Kept aW W.heap.size W w ∧
    (∀ D∈Ds,W.heap.size≤D∧w.heap[D]? = some (.deferred (some []))∧¬M D∧¬F D)∧Ds.Nodup
def FRx(W:World)(A0:Nat→Prop)(N:Nat)(σ:St)(a:Act)(w:World):Prop:=∃ Ds,FR W A0 N Ds σ a w
theorem dE{w:World}{b:Nat}{o:Obj}(h:w.heap[b]? = some o):b<w.heap.size:=(Array.getElem?_eq_some_iff.1 h).1
section
variable {P:Program} [M:Mch P] {W w:World} {A0:Nat→Prop} {N:Nat} {Ds:List Nat} {σ:St} {a:Act}
theorem SRB.env{F Ms:Nat→Prop}{ds:List Deferred}(h:SRB F Ms N ds σ a w){v1:World}(he:Env w v1):SRB F Ms N ds σ a v1:=by
  have hF:∀ b,F b→b<w.heap.size:=by obtain⟨_,_,q,_⟩:=h;exact q
  have hM:∀ b,Ms b→b<w.heap.size:=by obtain⟨_,_,_,_,q,_⟩:=h;exact fun b hb=>(q b hb).1
  exact h.world he.size fun b hb=>he.get (hb.elim (hF b) (hM b))
theorem Env.kept{v v1:World}(h:Env v v1)(O:Nat→Prop):Kept O v.heap.size v v1 :=
  ⟨h.os,h.tape,h.output,h.size,fun k hk _=>h.get hk,fun k cur e hk hc=>⟨cur,(h.get hk).trans hc,rfl⟩⟩
theorem FRx.env(h:FRx W A0 N σ a w){v1:World}(he:Env w v1):FRx W A0 N σ a v1:=by
  obtain⟨Ds,F,M,hs,hM,hF,hK,hD,hnd⟩:=h
  have hWw:=hK.size
  refine⟨Ds,F,M,hs.env he,hM,hF,hK.trans ⟨he.os,he.tape,he.output,he.size,fun k hk _=>he.get (by omega),fun k cur e hk hc=>⟨cur,(he.get (by omega)).trans hc,rfl⟩⟩,fun D hDm=>?_,hnd⟩
  obtain⟨d1,d2,d3,d4⟩:=hD D hDm
  exact⟨d1,(he.get (dE d2)).trans d2,d3,d4⟩
theorem nO(hm:P.follows .mixedOrders=true){c:Code}{Q:Exit→St→Prop}(hd:bH N c=true)(hl:bK P c=true)(h:AWP P c σ Q)(hs:FRx W A0 N σ a w) :
    WC P c (fun e a' w'=>∃ σ',Q e σ'∧FRx W A0 N σ' a' w') a w:=by
  refine(WpR.plain P).okv fun hok=>?_
  obtain⟨Ds,F,Ms,hs,hM,hF,hK,hD,hnd⟩:=hs
  have hMlt:∀ b,Ms b→b<w.heap.size:=by obtain⟨_,_,_,_,q,_⟩:=hs;exact fun b hb=>(q b hb).1
  refine bQ (cG (G:=⟨w,F,Ms,aBx,noZ⟩) hm (fun _=>rfl) c Q σ a w hd hl h (hs.sr hok noZ fun _ _ e=>by cases e)) ?_
  rintro e a' w' ⟨σ',hq,hs'⟩
  refine⟨σ',hq,?_⟩
  obtain⟨F',M',h',hM',hF',hK',_⟩:=hs'.srb
  simp only at hM' hF' hK'
  have hWw:=hK.size
  refine⟨Ds,F',M',h',fun b hb=>?_,fun b hb=>?_,hK.trans ⟨hK'.os,hK'.tape,hK'.output,hK'.size,fun k hk _=>hK'.block k (by omega) fun hm=>by have:=hM k hm;omega,fun k cur e hk hc=>hK'.shape k cur e (by omega) hc⟩,fun D hDm=>?_,hnd⟩
  · rcases hM' b hb with h|h
    · exact hM b h
    · omega
  · rcases hF' b hb with h|h|h
    · exact hF b h
    · exact .inr (hM b h)
    · exact .inr (by omega)
  · obtain⟨d1,d2,d3,d4⟩:=hD D hDm
    have hlt:=dE d2
    refine⟨d1,(hK'.block D hlt d3).trans d2,fun hm=>?_,fun hf=>?_⟩
    · rcases hM' D hm with h|h
      · exact d3 h
      · omega
    · rcases hF' D hf with h|h|h
      · exact d4 h
      · exact d3 h
      · omega
def aBk:List (Tmp×D)→(Nat→AV)→Nat→AV
  |[],Γ=>Γ
  |(p,d)::l,Γ=>aBk l (upd Γ p (aL d))
theorem aZw{F:Nat→Prop}{w:World}{wr:Nat→Bool}:∀(l:List (Tmp×D)) (vs:List (Tmp×Value)) (Γ0 Γ:Nat→AV) (T0 T:Array Value),T.size=T0.size→l.length=vs.length →
    (∀(k:Nat) p q,l[k]? = some p→vs[k]? = some q→p.1=q.1∧p.1<T0.size∧wr p.1=true∧VD F w p.2 q.2) →
    (∀ t,(Γ t=Γ0 t∧T.getD t undef=T0.getD t undef)∨Γ t=.any∨∃ d v,Γ t=aL d∧T.getD t undef=v∧VD F w d v) →
    (∀ t,wr t=false→T.getD t undef=T0.getD t undef) →
    ((vs.foldl (fun t (p:Tmp×Value)=>t.setIfInBounds p.1 p.2) T).size=T0.size) ∧
    (∀ t,(aBk l Γ t=Γ0 t∧(vs.foldl (fun t (p:Tmp×Value)=>t.setIfInBounds p.1 p.2) T).getD t undef=T0.getD t undef)∨aBk l Γ t=.any∨∃ d v,aBk l Γ t=aL d∧(vs.foldl (fun t (p:Tmp×Value)=>t.setIfInBounds p.1 p.2) T).getD t undef=v∧VD F w d v) ∧
    (∀ t,wr t=false→(vs.foldl (fun t (p:Tmp×Value)=>t.setIfInBounds p.1 p.2) T).getD t undef=T0.getD t undef)
  |[],[],Γ0,Γ,T0,T,hsz,_,_,h,hz=>⟨hsz,h,hz⟩
  |[],_::_,_,_,_,_,_,hl,_,_,_=>by simp at hl
  |_::_,[],_,_,_,_,_,hl,_,_,_=>by simp at hl
  | (p,d)::l,(p',v)::vs,Γ0,Γ,T0,T,hsz,hl,hp,h,hz=>by
    obtain⟨e1,e2,e3,e4⟩:=hp 0 _ _ rfl rfl
    simp only at e1 e2 e3 e4
    subst e1
    have hget:∀ t,(T.setIfInBounds p v).getD t undef=if t=p then v else T.getD t undef:=fun t=>by
      simp only[Array.getD_eq_getD_getElem?]
      by_cases ht:t=p
      · subst ht;rw[Ap rfl,Array.getElem?_setIfInBounds_self_of_lt (by rw[hsz];exact e2)];rfl
      · rw[Ah ht,Array.getElem?_setIfInBounds_ne (Ne.symm ht)]
    refine aZw (wr:=wr) l vs Γ0 (upd Γ p (aL d)) T0 (T.setIfInBounds p v) (by simpa using hsz) (by simpa using hl) (fun k a b ha hb=>hp (k+1) a b (by simpa using ha) (by simpa using hb)) (fun t=>?_) fun t ht=>?_
    · by_cases htp:t=p
      · subst htp
        exact .inr (.inr ⟨d,v,upd_same _ _ _,by rw[hget,Ap rfl],e4⟩)
      · rw[upd_ne _ _ htp,hget,Ah htp];exact h t
    · rw[hget,Ah (fun e=>by subst e;rw[e3]at ht;cases ht)];exact hz t ht
structure aGv(P:Program)[M:Mch P](N:Nat)(ps:Array Tmp)(assign body:Code)(wl:List Nat)(xs:List (List D))(T:Nat→St)(E:Exit):Prop where
  dst:bH N assign=true∧bH N body=true
  lex:bK P assign=true∧bK P body=true
  rd:fT assign=true∧fT body=true
  nz:fF (fun t=>!wl.contains t) assign=true∧fF (fun t=>!wl.contains t) body=true
  psl:∀ p∈ps.toList,p<N∧wl.contains p=true
  ne:0<xs.length
  round:∀ k x,xs[k]? = some x→x.length=ps.size∧AWP P assign ⟨aBk (ps.toList.zip x) (T k).Γ,(T k).H,(T k).n⟩ fun e σ1=>e=.normal ∧
    AWP P body σ1 fun e σ2=>e=(if k+1=xs.length then E else .normal)∧∃ ρ,Wk ⟨fun t=>if wl.contains t then .any else σ2.Γ t,σ2.H,σ2.n⟩ (T (k+1)) ρ
theorem aOn(l:Array (Tmp×Value))(T:Array Value):l.foldl (fun t (x:Tmp×Value)=>match x with|(p,v)=>t.setIfInBounds p v) T=l.toList.foldl (fun t (p:Tmp×Value)=>t.setIfInBounds p.1 p.2) T:=by
  rw[←Array.foldl_toList]
def oW(rec:LoopState→Option Code→Loop)(jc:Code)(n k:Nat):Loop:=if k=n then rec .done (some jc)else rec .ready none
def JR(W:World)(n:Nat)(A0 A:Nat→Prop)(N:Nat)(Ds:List Nat)(T:Nat→St)(a:Act)(rec:Nat→Loop)(k:Nat)(X O:Nat→Prop)(U:World):Prop:=∃ F M,SRB F M N (oI Ds) (T k) a U ∧
    (∀ b,M b→W.heap.size≤b∧¬X b∧¬A b∧b≠n+1∧b≠n∧b ∉ Ds)∧(∀ b,F b→(A0 b∨W.heap.size≤b)∧¬O b∧b≠n+1∧b≠n∧b ∉ Ds) ∧
    Kept aW W.heap.size W U∧(∀ D∈Ds,U.heap[D]? = some (.deferred (some [])))∧U.heap[n+1]? = some (.loop (rec k))∧U.heap[n]? = some (.deferred (some [])) ∧
    (∀ b,X b→n+2≤b∧b<U.heap.size)∧(∀ b,O b→X b)
theorem JR.stab{n:Nat}{A:Nat→Prop}{T:Nat→St}{rec:Nat→Loop}(hWw:W.heap.size≤n)(hDs:∀ D∈Ds,D<n):∀ k X O U1 X' O' U2,JR W n A0 A N Ds T a rec k X O U1→Kept O U1.heap.size U1 U2→(∀ b,X b→X' b) →
    (∀ b,X' b→X b∨(U1.heap.size≤b∧b<U2.heap.size))→(∀ b,O' b→X' b∧(O b∨U1.heap.size≤b))→JR W n A0 A N Ds T a rec k X' O' U2:=by
  rintro k X O U1 X' O' U2 ⟨F,M,hj,hjM,hjF,hjK,hjD,hjl,hjd,hjX,hjO⟩ hk hX1 hX2 hO
  have hFlt:∀ b,F b→b<U1.heap.size:=by obtain⟨_,_,q,_⟩:=hj;exact q
  have hMlt:∀ b,M b→b<U1.heap.size:=by obtain⟨_,_,_,_,q,_⟩:=hj;exact fun b h=>(q b h).1
  have keep:∀ b,b<U1.heap.size→¬O b→U2.heap[b]? = U1.heap[b]? := fun b h1 h2=>hk.block b h1 h2
  have hOge:∀ b,O b→n+2≤b:=fun b hb=>(hjX b (hjO b hb)).1
  have hKs:=hjK.size
  refine⟨F,M,hj.world hk.size fun b hb=>?_,fun b hb=>?_,fun b hb=>?_,?_,fun D hDm=>?_,?_,?_,fun b hb=>?_,fun b hb=>(hO b hb).1⟩
  · rcases hb with h|h
    · exact keep b (hFlt b h) (hjF b h).2.1
    · exact keep b (hMlt b h) fun ho=>(hjM b h).2.1 (hjO b ho)
  · obtain⟨q1,q2,q3⟩:=hjM b hb
    refine⟨q1,fun hx=>?_,q3⟩
    rcases hX2 b hx with h|h
    · exact q2 h
    · have:=hMlt b hb;omega
  · obtain⟨q1,q2,q3⟩:=hjF b hb
    refine⟨q1,fun hx=>?_,q3⟩
    rcases(hO b hx).2 with h|h
    · exact q2 h
    · have:=hFlt b hb;omega
  · exact hjK.trans ⟨hk.os,hk.tape,hk.output,hk.size,fun k hk' _=>keep k (by omega) fun ho=>(by have:=hOge k ho;omega),fun k cur e hk' hc=>⟨cur,(keep k (by omega) fun ho=>(by have:=hOge k ho;omega)).trans hc,rfl⟩⟩
  · have:=hDs D hDm
    exact(keep D (dE (hjD D hDm)) fun ho=>by have:=hOge D ho;omega).trans (hjD D hDm)
  · exact(keep _ (dE hjl) fun ho=>by have:=hOge _ ho;omega).trans hjl
  · exact(keep _ (dE hjd) fun ho=>by have:=hOge _ ho;omega).trans hjd
  · have:=hk.size
    rcases hX2 b hb with h|h
    · have:=hjX b h;omega
    · have:=dE hjl
      refine⟨?_,h.2⟩
      omega
theorem Kept.env{O:Nat→Prop}{n:Nat}{v v1:World}(h:Kept O n W v)(hn:n≤v.heap.size)(he:Env v v1):Kept O n W v1 :=
  h.trans ⟨he.os,he.tape,he.output,he.size,fun k hk _=>he.get (by omega),fun k cur e hk hc=>⟨cur,(he.get (by omega)).trans hc,rfl⟩⟩
theorem JR.round(hm:P.follows .mixedOrders=true){n:Nat}{A:Nat→Prop}{ps:Array Tmp}{assign body:Code}{fn:FuncId}{xs:List (List D)}{T:Nat→St}{wl:List Nat}{E:Exit}{jc:Code}(hE:(E,jc)=(.ret,.ret)∨∃ id,(E,jc)=(.exit id,.exit id))(hWw:W.heap.size≤n)(hDs:∀ D∈Ds,D<n)(hAlt:∀ b,A b→b<n)
    (hA0':∀ b,A b→A0 b∨W.heap.size≤b) (hADs:∀ b,A b→b ∉ Ds) (hadef:a.tmps.size=N) (hadd:a.defers=oI Ds) (hr:aGv P N ps assign body wl xs T E) :
    ∀ k X O U1 ds (vals:Array Value),xs[k]? = some ds→JR W n A0 A N Ds T a (oW (oG fn a ps assign body n) jc xs.length) k X O U1→ds.length=vals.size→(∀(i:Nat) d v,ds[i]? = some d→vals[i]? = some v→VD (fun b=>A b∨(X b∧¬O b)) U1 d v) →
      YX P (n+1) vals U1 fun x W2=>x=.bool (decide (k+1≠xs.length))∧JR W n A0 A N Ds T a (oW (oG fn a ps assign body n) jc xs.length) (k+1) X O W2∧U1.heap.size≤W2.heap.size∧W2.os=U1.os∧W2.tape=U1.tape∧W2.output=U1.output∧∀ b,A b∨X b→W2.heap[b]? = U1.heap[b]? := by
  obtain⟨rec,hrec⟩:∃ rec:LoopState→Option Code→Loop,rec=oG fn a ps assign body n:=⟨_,rfl⟩
  rw[←hrec]
  rintro k X O U1 ds vals hx ⟨F,Ms,hj,hjM,hjF,hjK,hjD,hjl,hjd,hjX,hjO⟩ hlen hvals
  obtain⟨hps,hwalk⟩:=hr.round k ds hx
  have hFlt:∀ b,F b→b<U1.heap.size:=by obtain⟨_,_,q,_⟩:=hj;exact q
  have hMlt:∀ b,Ms b→b<U1.heap.size:=by obtain⟨_,_,_,_,q,_⟩:=hj;exact fun b h=>(q b h).1
  have hsz1:n+1<U1.heap.size:=dE hjl
  have hklt:k<xs.length:=(Ao.1 hx).1
  have hrk:oW rec jc xs.length k=rec .ready none:=by unfold oW;rw[Ah (by omega)]
  rw[hrk]at hjl
  have hy:=aTw (P:=P) (args:=vals) hjl (by rw[hrec];show vals.size=ps.size;omega)
  rw[hrec]at hy
  refine⟨fn,_,assign,body,hy,fun Win hW hok c cs hk=>?_⟩
  let b0:Frame:={ (default:Frame)with fn:=fn,kind:=.normal,roundOf:=some (n+1) }
  -- the frame of the round
  let F1:Nat→Prop:=fun b=>F b∨A b∨(X b∧¬O b)
  have hF1lt:∀ b,F1 b→b<U1.heap.size:=by
    rintro b (h|h|h)
    · exact hFlt b h
    · have:=hAlt b h;omega
    · exact(hjX b h.1).2
  have hj1:SRB F1 Ms N (oI Ds) (T k) a U1:=hj.more (fun b h=>.inl h) hF1lt fun b hb hf=>by
    obtain⟨_,q2,q3,_⟩:=hjM b hb
    rcases hf with h|h|h
    · obtain⟨_,_,_,_,q,_⟩:=hj;exact(q b hb).2 h
    · exact q3 h
    · exact q2 h.1
  obtain⟨s1,s2,s3⟩:=aZw (F:=F1) (w:=U1) (wr:=fun t=>wl.contains t) (ps.toList.zip ds) (ps.zip vals).toList (T k).Γ (T k).Γ a.tmps a.tmps rfl (by simp;omega) (fun i p q hp hq=>by
    rw[Array.toList_zip]at hq
    rw[List.getElem?_zip_eq_some]at hp hq
    obtain⟨p1,p2⟩:=p;obtain⟨q1,q2⟩:=q
    simp only at hp hq ⊢
    have e:p1=q1:=by have:=hp.1.symm.trans hq.1;injection this
    obtain⟨w1,w2⟩:=hr.psl p1 (Ai hp.1)
    exact⟨e,by rw[hadef];exact w1,w2,(hvals i p2 q2 hp.2 (by simpa using hq.2)).mono fun b hb=>.inr hb⟩) (fun t=>.inl ⟨rfl,rfl⟩) fun t _=>rfl
  have hfold:=aOn (ps.zip vals) a.tmps
  obtain⟨tmps',htm⟩:∃ tmps',(ps.zip vals).foldl (fun t (x:Tmp×Value)=>match x with|(p,v)=>t.setIfInBounds p v) a.tmps=tmps':=⟨_,rfl⟩
  rw[←hfold,htm]at s1 s2 s3
  have hb0:Fb (n+1) fn ((ps.zip vals).foldl (fun t (x:Tmp×Value)=>match x with|(p,v)=>t.setIfInBounds p v) a.tmps) assign body .normal=b0.atR { tmps:=tmps',defers:=[] } [.code assign,.beginRound,.code body]:=by
    simp only[Fb,Ck,b0,htm]
  show Win (G (Fb (n+1) fn ((ps.zip vals).foldl (fun t (x:Tmp×Value)=>match x with|(p,v)=>t.setIfInBounds p v) a.tmps) assign body .normal) (c::cs)) U1
  rw[hb0]
  have hj2:SRB F1 Ms N [] ⟨aBk (ps.toList.zip ds) (T k).Γ,(T k).H,(T k).n⟩ { tmps:=tmps',defers:=[] } U1:=hj1.act (by show tmps'.size=N;omega) rfl s2
  let Z:Nat→Option Value:=fun t=>if wl.contains t then none else some (a.tmps.getD t undef)
  have hZ:∀ d v,Z d=some v→(!wl.contains d)=true:=fun d v e=>by
    simp only[Z]at e
    split at e
    · cases e
    · rename_i h;simpa using h
  have hZt:∀(tm:Array Value),(∀ t,wl.contains t=false→tm.getD t undef=a.tmps.getD t undef)→∀ t v,Z t=some v→tm.getD t undef=v:=fun tm h t v e=>by
    simp only[Z]at e
    split at e
    · cases e
    · rename_i hc;injection e with e;rw[h t (by simpa using hc),e]
  refine sN (G:=⟨U1,F1,Ms,aBx,Z⟩) (WpR.inRound P (n+1)) hm hZ assign _ _ _ _ hr.dst.1 hr.lex.1 hr.nz.1 (fun _=>hr.rd.1) hwalk (hj2.sr hok Z (hZt _ s3)) Win hW hok b0 [.beginRound,.code body] (c::cs) rfl rfl ?_
  rintro e a2 U2o hok2 ⟨σ2,⟨rfl,hwalk2⟩,hs2⟩
  refine aSw hW rfl rfl hok2 fun U2 he2=>?_
  obtain⟨F2',M2',h2o,hM2',hF2',hK2o,hZ2⟩:=hs2.srb
  simp only at hM2' hF2' hK2o hZ2
  have h2:=h2o.env he2
  have hK2':=hK2o.env hK2o.size he2
  have hl2:U2.heap[n+1]? = some (.loop (rec .ready none)):=(hK2'.block _ hsz1 fun h=>(hjM _ h).2.2.2.1 rfl).trans hjl
  have hsz2:U1.heap.size≤U2.heap.size:=hK2'.size
  refine⟨_,yV hl2 (by rw[hrec];rfl),?_⟩
  obtain⟨U3,hU3⟩:∃ U3,U2.putObj (n+1) (.loop { rec .ready none with state:=.busy })=U3:=⟨_,rfl⟩
  have hU3s:U3.heap.size=U2.heap.size:=by rw[←hU3];simp
  have hl3:U3.heap[n+1]? = some (.loop { rec .ready none with state:=.busy }):=by rw[←hU3];exact World.putObj_heap_same (by omega)
  have hoth3:∀ b,b≠n+1→U3.heap[b]? = U2.heap[b]? := fun b hb=>by rw[←hU3];exact Eo hb
  have hF1l:∀ b,F1 b→b≠n+1:=by
    rintro b (h|h|h)
    · exact(hjF b h).2.2.1
    · have:=hAlt b h;omega
    · have:=(hjX b h.1).1;omega
  have hM2l:∀ b,M2' b→b≠n+1:=fun b hb=>by
    rcases hM2' b hb with h|h
    · exact(hjM b h).2.2.2.1
    · omega
  have hF2l:∀ b,F2' b→b≠n+1:=fun b hb=>by
    rcases hF2' b hb with h|h|h
    · exact hF1l b h
    · exact(hjM b h).2.2.2.1
    · omega
  have h3:SRB F2' M2' N [] σ2 a2 U3:=h2.world (by omega) fun b hb=>hoth3 b (hb.elim (hF2l b) (hM2l b))
  rw[show U2.putObj (n+1) (.loop { rec .ready none with state:=.busy })=U3 from hU3]
  intro hok3
  refine sN (G:=⟨U3,F2',M2',aBx,Z⟩) (WpR.inRound P (n+1)) hm hZ body _ _ _ _ hr.dst.2 hr.lex.2 hr.nz.2 (fun _=>hr.rd.2) hwalk2 (h3.sr hok3 Z hZ2) Win hW hok3 b0 [] (c::cs) rfl rfl ?_
  rintro e a4 U4o hok4 ⟨σ4,⟨heE,ρ,hwk⟩,hs4⟩
  obtain⟨jump,hjmp,hjump⟩:∃ jump:Option Code,((e,jump)=(.normal,none)∨(e,jump)=(.ret,some .ret)∨∃ id,(e,jump)=(.exit id,some (.exit id)))∧jump=if k+1=xs.length then some jc else none:=by
    by_cases hlast:k+1=xs.length
    · rw[Ap hlast]at heE ⊢
      subst heE
      refine⟨_,?_,rfl⟩
      rcases hE with hE|⟨id,hE⟩
      · injection hE with e1 e2;subst e1;subst e2;exact .inr (.inl rfl)
      · injection hE with e1 e2;subst e1;subst e2;exact .inr (.inr ⟨id,rfl⟩)
    · rw[Ah hlast]at heE ⊢
      subst heE
      exact⟨none,.inl rfl,rfl⟩
  refine aYf hW rfl rfl hok4 hjmp fun U4 he4=>?_
  obtain⟨F4,M4,h4o,hM4,hF4,hK4o,hZ4⟩:=hs4.srb
  simp only at hM4 hF4 hK4o hZ4
  have h4:=h4o.env he4
  have hK4:=hK4o.env hK4o.size he4
  have hok4':=he4.okV hok4
  have hl4:U4.heap[n+1]? = some (.loop { rec .ready none with state:=.busy }):=(hK4.block _ (by omega) fun h=>hM2l _ h rfl).trans hl3
  have hsz4:U3.heap.size≤U4.heap.size:=hK4.size
  have hrr:({ ({ rec .ready none with state:=.busy }:Loop)with state:=if jump.isNone then .ready else .done,pending:=jump }:Loop)=oW rec jc xs.length (k+1):=by
    rw[hjump,hrec]
    unfold oW
    by_cases hlast:k+1=xs.length
    · simp only[Ap hlast];rfl
    · simp only[Ah hlast];rfl
  obtain⟨U5,hU5⟩:∃ U5,U4.putObj (n+1) (.loop (oW rec jc xs.length (k+1)))=U5:=⟨_,rfl⟩
  have hU5s:U5.heap.size=U4.heap.size:=by rw[←hU5];simp
  have hoth5:∀ b,b≠n+1→U5.heap[b]? = U4.heap[b]? := fun b hb=>by rw[←hU5];exact Eo hb
  have hend:=aFa (P:=P) jump hl4
  rw[hrr,hU5]at hend
  have hjb:jump.isNone=decide (k+1≠xs.length):=by
    rw[hjump]
    by_cases hlast:k+1=xs.length
    · simp[hlast]
    · simp[hlast]
  rw[hjb]at hend
  refine⟨_,U5,hend,fun hok5=>hk _ _ hok5 ⟨rfl,?_⟩⟩
  -- what lay there lies there still
  have hkeep:∀ b,b<U1.heap.size→¬Ms b→b≠n+1→U5.heap[b]? = U1.heap[b]? := fun b h1 h2 h3=>by
    rw[hoth5 b h3,hK4.block b (by omega) (fun h=>by rcases hM2' b h with h|h;exact h2 h;omega),hoth3 b h3,hK2'.block b h1 h2]
  have hM4':∀ b,M4 b→Ms b∨U1.heap.size≤b:=fun b hb=>by
    rcases hM4 b hb with h|h
    · exact hM2' b h
    · right;omega
  have hF4':∀ b,F4 b→F1 b∨Ms b∨U1.heap.size≤b:=fun b hb=>by
    rcases hF4 b hb with h|h|h
    · exact hF2' b h
    · exact .inr (hM2' b h)
    · right;right;omega
  have hM4l:∀ b,M4 b→b≠n+1:=fun b hb=>by
    rcases hM4' b hb with h|h
    · exact(hjM b h).2.2.2.1
    · omega
  have hF4l:∀ b,F4 b→b≠n+1:=fun b hb=>by
    rcases hF4' b hb with h|h|h
    · exact hF1l b h
    · exact(hjM b h).2.2.2.1
    · omega
  have h5:SRB F4 M4 N [] σ4 a4 U5:=h4.world (by omega) fun b hb=>hoth5 b (hb.elim (hF4l b) (hM4l b))
  have h6:SRB F4 M4 N (oI Ds) ⟨fun t=>if wl.contains t then .any else σ4.Γ t,σ4.H,σ4.n⟩ a U5:=h5.act hadef hadd fun t=>by
    by_cases ht:wl.contains t=true
    · right;left;simp only[ht,AF]
    · left
      have ht':wl.contains t=false:=by simpa using ht
      refine⟨by simp only[ht',Ae,Av],?_⟩
      exact(hZ4 t (a.tmps.getD t undef) (by simp only[Z,ht',Ae,Av])).symm
  obtain⟨F7,M7,h7,hM7,hF7⟩:=h6.weak hok5 hwk
  have hM7':∀ b,M7 b→Ms b∨U1.heap.size≤b:=fun b hb=>hM4' b (hM7 b hb)
  have hF7':∀ b,F7 b→F1 b∨Ms b∨U1.heap.size≤b:=fun b hb=>(hF7 b hb).elim (hF4' b) fun h=>.inr (hM4' b h)
  have hKs:=hjK.size
  have hDlt:∀ D∈Ds,D<U1.heap.size:=fun D hDm=>dE (hjD D hDm)
  refine⟨⟨F7,M7,h7,fun b hb=>?_,fun b hb=>?_,?_,fun D hDm=>?_,?_,?_,fun b hb=>?_,hjO⟩,by omega,?_,?_,?_,fun b hb=>?_⟩
  · rcases hM7' b hb with h|h
    · exact hjM b h
    · exact⟨by omega,fun hx=>by have:=(hjX b hx).2;omega,fun ha=>by have:=hAlt b ha;omega,by omega,by omega,fun hDm=>by have:=hDlt b hDm;omega⟩
  · rcases hF7' b hb with (h|h|h)|h|h
    · exact hjF b h
    · have:=hAlt b h
      exact⟨hA0' b h,fun ho=>by have:=(hjX b (hjO b ho)).1;omega,by omega,by omega,hADs b h⟩
    · have:=(hjX b h.1).1
      exact⟨.inr (by omega),h.2,by omega,by omega,fun hDm=>by have:=hDs b hDm;omega⟩
    · obtain⟨q1,q2,q3,q4,q5,q6⟩:=hjM b h
      exact⟨.inr q1,fun ho=>q2 (hjO b ho),q4,q5,q6⟩
    · exact⟨.inr (by omega),fun ho=>by have:=(hjX b (hjO b ho)).2;omega,by omega,by omega,fun hDm=>by have:=hDlt b hDm;omega⟩
  · refine hjK.trans ⟨?_,?_,?_,by omega,fun b hb _=>hkeep b (by omega) (fun h=>by have:=(hjM b h).1;omega) (by omega),fun b cur e hb hc=>⟨cur,(hkeep b (by omega) (fun h=>by have:=(hjM b h).1;omega) (by omega)).trans hc,rfl⟩⟩
    · rw[←hU5];show U4.os=U1.os;rw[hK4.os,←hU3];exact hK2'.os
    · rw[←hU5];show U4.tape=U1.tape;rw[hK4.tape,←hU3];exact hK2'.tape
    · rw[←hU5];show U4.output=U1.output;rw[hK4.output,←hU3];exact hK2'.output
  · exact(hkeep D (hDlt D hDm) (fun h=>(hjM D h).2.2.2.2.2 hDm) (by have:=hDs D hDm;omega)).trans (hjD D hDm)
  · rw[←hU5];exact World.putObj_heap_same (by omega)
  · exact(hkeep _ (by omega) (fun h=>(hjM _ h).2.2.2.2.1 rfl) (by omega)).trans hjd
  · have:=hjX b hb;omega
  · rw[←hU5];show U4.os=U1.os;rw[hK4.os,←hU3];exact hK2'.os
  · rw[←hU5];show U4.tape=U1.tape;rw[hK4.tape,←hU3];exact hK2'.tape
  · rw[←hU5];show U4.output=U1.output;rw[hK4.output,←hU3];exact hK2'.output
  · rcases hb with h|h
    · have:=hAlt b h
      exact hkeep b (by omega) (fun hmm=>(hjM b hmm).2.2.1 h) (by omega)
    · have:=hjX b h
      exact hkeep b this.2 (fun hmm=>(hjM b hmm).2.1 h) (by omega)
end
end Go.Am
end
section
open List renaming map_map→ζ,mapM_map→ξ
namespace Go.Am
open Go.Conc (G)
open RowKit (Below)
section
variable {P:Program} [M:Mch P] {W w:World} {A0:Nat→Prop} {N:Nat} {Ds:List Nat} {σ:St} {a:Act}
theorem aKe(hm:P.follows .mixedOrders=true){g:Operand}{ps:Array Tmp}{assign body:Code}{gf:FuncId}{cs:List AV}{caps:List D}{xs:List (List D)}{T:Nat→St}{wl:List Nat}{E:Exit}{jc:Code}(hE:(E,jc)=(.ret,.ret)∨∃ id,(E,jc)=(.exit id,.exit id))
    (hg:dM (oev σ.Γ g)=some (gf,cs)) (hf:cI σ.H cs=some caps) (hseq:lW P gf caps xs) (hr:aGv P N ps assign body wl xs T E) (h0:∃ ρ,Wk (lG σ (bT σ.H cs)) (T 0) ρ) (hs:FRx W A0 N σ a w)
    (hok:OkV w) {Win:Goroutine→World→Prop} (hW:M.Fam Win) {b0:Frame} {k0:List Item} {cs0:List Frame} (hb0:mI b0)
    (hk:∀ e a' v',OkV v'→(e=E∧FRx W A0 N (T xs.length) a' v')→nW Win b0 k0 cs0 e a' v') {lb0:Array Value} (hev0:a.eval g=.func (.func gf) #[] lb0) :
    Win (G (CZ P gf (#[.func (.yield (w.heap.size+1)) #[] #[]]++lb0) .normal) (b0.at { a with defers:={ target:=.collected w.heap.size,args:=#[] }::a.defers } (.inRangeFunc (w.heap.size+1)::k0)::cs0))
      ((w.alloc (.deferred (some []))).alloc (.loop (oG b0.fn a ps assign body w.heap.size .ready none))):=by
  obtain⟨Ds,F,Ms,hs,hM,hF,hK,hD,hnd⟩:=hs
  obtain⟨lb,A,M1,hev,hlb,hV,hs1,hA,hM1⟩:=hs.callee hg hf
  have hlb0:lb=lb0:=by rw[hev]at hev0;injection hev0
  subst hlb0
  obtain⟨ρ0,hw0⟩:=h0
  obtain⟨F2,M2,hs2,hM2,hF2⟩:=hs1.weak hok hw0
  have hWw:=hK.size
  have hAlt:∀ b,A b→b<w.heap.size:=by obtain⟨_,_,q,_⟩:=hs1;exact q
  have hM2A:∀ b,M2 b→¬A b:=fun b hb=>by obtain⟨_,_,_,_,q,_⟩:=hs1;exact(q b (hM2 b hb)).2
  have hadef:a.tmps.size=N:=by obtain⟨_,_,_,_,_,_,_,_,_,q,_⟩:=hs;exact q
  have hadd:a.defers=oI Ds:=by obtain⟨_,_,_,_,_,_,_,_,_,_,q⟩:=hs;exact q
  obtain⟨rec,hrec⟩:∃ rec:LoopState→Option Code→Loop,rec=oG b0.fn a ps assign body w.heap.size:=⟨_,rfl⟩
  rw[←hrec]
  obtain⟨W1,hW1⟩:∃ W1,(w.alloc (.deferred (some []))).alloc (.loop (rec .ready none))=W1:=⟨_,rfl⟩
  rw[hW1]
  have hW1s:W1.heap.size=w.heap.size+2:=by rw[←hW1];simp
  have hL1:W1.heap[w.heap.size+1]? = some (.loop (rec .ready none)):=by
    rw[←hW1];have:=World.alloc_heap_new (w.alloc (.deferred (some []))) (.loop (rec .ready none));rwa [World.size_alloc]at this
  have hold:∀ b,b<w.heap.size→W1.heap[b]? = w.heap[b]? := fun b hb=>by
    rw[←hW1]
    show((w.heap.push _).push _)[b]? = _
    rw[Bm,Ah (by simp;omega),Bm,Ah (by omega)]
  have hK1:W1.heap[w.heap.size]? = some (.deferred (some [])):=by
    rw[←hW1]
    show((w.heap.push _).push _)[w.heap.size]? = _
    rw[Bm,Ah (by simp),Bm,Ap rfl]
  have hstr:W1.os=w.os∧W1.tape=w.tape∧W1.output=w.output:=by rw[←hW1];exact⟨rfl,rfl,rfl⟩
  have hAW1:∀(k:Nat) d v,caps[k]? = some d→lb[k]? = some v→VD A W1 d v:=fun k d v hk hv=>(hV k d v hk hv).step (fun _ h=>h) fun b hb=>hold b (hAlt b hb)
  obtain⟨hent,hseq⟩:=hseq A W1 (w.heap.size+1) lb (fun b hb=>by have:=hAlt b hb;omega) hlb hAW1
  have hDs:∀ D∈Ds,D<w.heap.size:=fun D hDm=>dE (hD D hDm).2.1
  have hA0':∀ b,A b→A0 b∨W.heap.size≤b:=fun b hb=>(hA b hb).elim (hF b) fun h=>.inr (hM b h)
  have hADs:∀ b,A b→b ∉ Ds:=fun b hb hDm=>(hA b hb).elim (hD b hDm).2.2.2 (hD b hDm).2.2.1
  have hcx:=hseq (JR W w.heap.size A0 A N Ds T a (oW rec jc xs.length)) (JR.stab hWw hDs) (by rw[hrec];exact JR.round hm hE hWw hDs hAlt hA0' hADs hadef hadd hr) ?start
  · have hokW1:OkV W1:=by rw[←hW1];exact(hok.alloc rfl).alloc rfl
    refine hcx Win hW hokW1 _ cs0 fun x U0 hokU0 hR=>?_
    obtain⟨X,O,hj0⟩:=hR
    rw[show(b0.at { a with defers:={ target:=.collected w.heap.size,args:=#[] }::a.defers } (.inRangeFunc (w.heap.size+1)::k0)).finish x=b0.at { a with defers:={ target:=.collected w.heap.size,args:=#[] }::a.defers } (.endRangeFunc (w.heap.size+1)::k0)by simp[Frame.finish,Frame.at]]
    refine aEe hW hokU0 fun U heU=>?_
    have hjO0:∀ b,O b→X b:=by obtain⟨_,_,_,_,_,_,_,_,_,_,q⟩:=hj0;exact q
    obtain⟨F,Ms,hj,hjM,hjF,hjK,hjD,hjl,hjd,hjX,hjO⟩:=JR.stab hWw hDs _ X O U0 X O U hj0 (heU.kept O) (fun _ h=>h) (fun _ h=>.inl h) (fun b h=>⟨hjO0 b h,.inl h⟩)
    have hra:oW rec jc xs.length xs.length=rec .done (some jc):=by unfold oW;rw[Ap rfl]
    rw[hra]at hjl
    have hlt:=dE hjl
    obtain⟨U',hU'⟩:∃ U',U.putObj (w.heap.size+1) (.loop { rec .done (some jc)with state:=.exhausted })=U':=⟨_,rfl⟩
    have hoth:∀ b,b≠w.heap.size+1→U'.heap[b]? = U.heap[b]? := fun b hb=>by rw[←hU'];exact Eo hb
    have hUs:U'.heap.size=U.heap.size:=by rw[←hU'];simp
    have hst:U'.os=U.os∧U'.tape=U.tape∧U'.output=U.output:=by rw[←hU'];exact⟨rfl,rfl,rfl⟩
    have hrun:=aHt (P:=P) hjl (by rw[hrec];simp[oG])
    rw[hU',show(rec .done (some jc)).pending=some jc by rw[hrec];rfl]at hrun
    refine⟨some jc,U',hrun,fun hokU'=>?_⟩
    have hfin:FRx W A0 N (T xs.length) { a with defers:={ target:=.collected w.heap.size,args:=#[] }::a.defers } U':=by
      refine⟨w.heap.size::Ds,F,Ms,?_,fun b hb=>(hjM b hb).1,fun b hb=>(hjF b hb).1,?_,?_,?_⟩
      · rw[hadd]
        exact(hj.world (w':=U') (by omega) fun b hb=>hoth b (by
          rcases hb with h|h
          · exact(hjF b h).2.2.1
          · exact(hjM b h).2.2.2.1)).defers (oI (w.heap.size::Ds))
      · exact hjK.trans ⟨hst.1,hst.2.1,hst.2.2,by omega,fun k hk _=>hoth k (by omega),fun k cur e hk hc=>⟨cur,(hoth k (by omega)).trans hc,rfl⟩⟩
      · intro D hDm
        rcases Bq.1 hDm with rfl|hDm
        · exact⟨hWw,(hoth _ (by omega)).trans hjd,fun h=>(hjM _ h).2.2.2.2.1 rfl,fun h=>(hjF _ h).2.2.2.1 rfl⟩
        · have:=hDs D hDm
          exact⟨(hD D hDm).1,(hoth _ (by omega)).trans (hjD D hDm),fun h=>(hjM _ h).2.2.2.2.2 hDm,fun h=>(hjF _ h).2.2.2.2 hDm⟩
      · exact Dz.2 ⟨fun h=>by have:=hDs _ h;omega,hnd⟩
    have hcode:Win (G (b0.at { a with defers:={ target:=.collected w.heap.size,args:=#[] }::a.defers } (.code jc::k0)) cs0) U':=by
      rcases hE with hE|⟨id,hE⟩
      · injection hE with e1 e2;subst e1;subst e2
        exact yC (Q:=fun e a' w'=>e=.ret∧FRx W A0 N (T xs.length) a' w') ⟨rfl,hfin⟩ Win hW hokU' b0 k0 cs0 hb0 hk
      · injection hE with e1 e2;subst e1;subst e2
        exact aQh (Q:=fun e a' w'=>e=.exit id∧FRx W A0 N (T xs.length) a' w') ⟨rfl,hfin⟩ Win hW hokU' b0 k0 cs0 hb0 hk
    exact hcode
  case start =>
    refine⟨F2,M2,hs2.world (by omega) (fun b hb=>hold b ?_),fun b hb=>?_,fun b hb=>?_,?_,fun D hDm=>?_,by unfold oW;rw[Ah (by have:=hr.ne;omega)];exact hL1,hK1,fun b hb=>hb.elim,fun b hb=>hb.elim⟩
    · obtain⟨_,_,q1,_,q2,_⟩:=hs2
      exact hb.elim (q1 b) fun h=>(q2 b h).1
    · have hb2:=hM1 b (hM2 b hb)
      have:b<w.heap.size:=by obtain⟨_,_,_,_,q2,_⟩:=hs2;exact(q2 b hb).1
      exact⟨hM b hb2,fun h=>h.elim,hM2A b hb,by omega,by omega,fun hDm=>(hD b hDm).2.2.1 hb2⟩
    · have:b<w.heap.size:=by obtain⟨_,_,q1,_⟩:=hs2;exact q1 b hb
      have hb2:A0 b∨W.heap.size≤b:=(hF2 b hb).elim (hA0' b) fun h=>.inr (hM b (hM1 b h))
      exact⟨hb2,fun h=>h.elim,by omega,by omega,fun hDm=>(hF2 b hb).elim (fun h=>hADs b h hDm) fun h=>(hD b hDm).2.2.1 (hM1 b h)⟩
    · exact hK.trans ⟨hstr.1,hstr.2.1,hstr.2.2,by omega,fun k hk _=>hold k (by omega),fun k cur e hk hc=>⟨cur,(hold k (by omega)).trans hc,rfl⟩⟩
    · exact(hold D (hDs D hDm)).trans (hD D hDm).2.1
theorem bEu(hm:P.follows .mixedOrders=true){g:Operand}{ps:Array Tmp}{assign body:Code}{gf:FuncId}{cs:List AV}{caps:List D}{xs:List (List D)}{T:Nat→St}{wl:List Nat}{E:Exit}{jc:Code}(hE:(E,jc)=(.ret,.ret)∨∃ id,(E,jc)=(.exit id,.exit id))
    (hg:dM (oev σ.Γ g)=some (gf,cs)) (hf:cI σ.H cs=some caps) (hseq:lW P gf caps xs) (hr:aGv P N ps assign body wl xs T E) (h0:∃ ρ,Wk (lG σ (bT σ.H cs)) (T 0) ρ) (hs:FRx W A0 N σ a w) :
    WC P (.rangeFunc g ps assign body) (fun e a' w'=>e=E∧FRx W A0 N (T xs.length) a' w') a w:=by
  intro Win hW hokw b0 k0 cs0 hb0 hk0
  have hevg:∃ lb,a.eval g=.func (.func gf) #[] lb∧∀ args w,aH P (callFunc gf args) w=.ok (.enter gf args) w:=by
    obtain⟨Ds,F,Ms,hs,_⟩:=hs
    obtain⟨lb,A,M1,hev,hlb,hV,hs1,_⟩:=hs.callee hg hf
    have hAlt:∀ b,A b→b<w.heap.size:=by obtain⟨_,_,q,_⟩:=hs1;exact q
    exact⟨lb,hev,(hseq A w 0 lb hAlt hlb hV).1⟩
  obtain⟨lb0,hev0,hentg⟩:=hevg
  exact aSv hW hb0 hokw hev0 hentg fun w1 he1=>aKe hm hE hg hf hseq hr h0 (hs.env he1) (he1.okV hokw) hW hb0 hk0 hev0
end
end Go.Am
end
section
open List renaming map_map→ζ,mapM_map→ξ
namespace Go.Am
open Go.Conc
open RowKit (Below)
def mY(P:Program)[M:Mch P](N:Nat):Code→St→(Exit→St→Prop)→Prop
  |.seq x y,σ,Q=>mY P N x σ fun e σ'=>match e with|.normal=>mY P N y σ' Q|e=>Q e σ'
  |.block id c,σ,Q=>mY P N c σ fun e σ'=>match e with|.exit id'=>if id'=id then Q .normal σ' else Q (.exit id') σ'|e=>Q e σ'
  |.rangeFunc g ps assign body,σ,Q=>∃ gf cs caps xs T wl E jc,((E,jc)=(Exit.ret,Code.ret)∨∃ id,(E,jc)=(Exit.exit id,Code.exit id))∧dM (oev σ.Γ g)=some (gf,cs)∧cI σ.H cs=some caps∧lW P gf caps xs∧aGv P N ps assign body wl xs T E∧(∃ ρ,Wk (lG σ (bT σ.H cs)) (T 0) ρ)∧Q E (T xs.length)
  |.scope c,σ,Q=>mY P N c σ fun e σ'=>match e with|.goto _=>False|e=>Q e σ'
  |c,σ,Q=>AWP P c σ Q
def lV(p:Code→Bool):Code→Bool
  |.seq x y=>lV p x&&lV p y
  |.block _ c|.scope c=>lV p c
  |.rangeFunc ..=>true
  |c=>p c
section
variable {P:Program} [M:Mch P] {W:World} {A0:Nat→Prop} {N:Nat}
theorem aQa(hm:P.follows .mixedOrders=true)(hA0:∀ b,A0 b→b<W.heap.size):∀(c:Code) (Q:Exit→St→Prop) (σ:St) (a:Act) (w:World),lV (bH N) c=true→lV (bK P) c=true→mY P N c σ Q→FRx W A0 N σ a w →
    WC P c (fun e a' w'=>∃ σ',Q e σ'∧FRx W A0 N σ' a' w') a w:=by
  intro c
  induction c with
  | seq x y ihx ihy =>
    intro Q σ a w hd hl h hs
    simp only[lV,AR]at hd hl
    refine eB (bQ (ihx _ σ a w hd.1 hl.1 h hs) ?_)
    rintro e a' w' ⟨σ',hq,hs'⟩
    cases e with
    |normal=>exact ihy Q σ' a' w' hd.2 hl.2 hq hs'
    |_=>exact⟨σ',hq,hs'⟩
  | block id c ih =>
    intro Q σ a w hd hl h hs
    refine yD (bQ (ih _ σ a w hd hl h hs) ?_)
    rintro e a' w' ⟨σ',hq,hs'⟩
    cases e with
    | exit id' =>
      simp only[DR]at hq ⊢
      split at hq
      · rename_i he;rw[Ap he];exact⟨σ',hq,hs'⟩
      · rename_i he;rw[Ah he];exact⟨σ',hq,hs'⟩
    |_=>exact⟨σ',hq,hs'⟩
  | rangeFunc g ps assign body _ _ =>
    intro Q σ a w _ _ h hs
    obtain⟨gf,cs,caps,xs,T,wl,E,jc,hE,hg,hf,hseq,hr,h0,hq⟩:=h
    refine bQ (bEu hm hE hg hf hseq hr h0 hs) ?_
    rintro e a' w' ⟨rfl,hs'⟩
    exact⟨_,hq,hs'⟩
  |skip=>intro Q σ a w hd hl h hs;exact nO hm hd hl h hs
  |region id ops draw=>intro Q σ a w hd hl h hs;exact nO hm hd hl h hs
  |cond c x y _ _=>intro Q σ a w hd hl h hs;exact nO hm hd hl h hs
  |loop c _=>intro Q σ a w hd hl h hs;exact nO hm hd hl h hs
  |exit id=>intro Q σ a w hd hl h hs;exact nO hm hd hl h hs
  |ret=>intro Q σ a w hd hl h hs;exact nO hm hd hl h hs
  |label l=>intro Q σ a w hd hl h hs;exact nO hm hd hl h hs
  | scope c ih =>
    intro Q σ a w hd hl h hs
    refine aHe (bQ (ih _ σ a w hd hl h hs) ?_)
    rintro e a' w' ⟨σ',hq,hs'⟩
    cases e with
    |goto l=>exact hq.elim
    |_=>exact⟨σ',hq,hs'⟩
  |_=>intro Q σ a w hd hl h;exact h.elim
def LV(P:Program)[M:Mch P](f:FuncId)(R:Value→World→Prop)(a:Act)(v:World):Prop :=
  ∀(Win:Goroutine→World→Prop),M.Fam Win→OkV v→∀(b:Frame) (todo:List Item) (c0:Frame) (cs:List Frame),b.kind=.normal→b.fn=f→(∀ x v',OkV v'→R x v'→Win (G (c0.finish x) cs) v')→Win (G { b.at a todo with mode:=.returning } (c0::cs)) v
theorem wP{f:FuncId}{fn:Func}{c:Code}{args:Array Value}{R:Value→World→Prop}{v:World}(hf:P.funcs[f]? = some fn)(hb:fn.body=some c)
    (h:WC P c (fun e a v=>(e=.normal∨e=.ret)∧LV P f R a v) { tmps:=args++AU (fn.ntmps-args.size) undef,defers:=[] } v):CX P f args v R:=by
  intro Win hW hv c0 cs hk
  rw[enter_at args hf hb]
  refine h Win hW hv (base f) [] (c0::cs) (.inl rfl) fun e a' v' hv' hq=>?_
  obtain⟨he,hl⟩:=hq
  rcases he with rfl|rfl
  · exact aI hW rfl hv' (fun w=>stepG_end) (hl Win hW hv' (base f) [] c0 cs rfl rfl hk)
  · exact fun todo=>hl Win hW hv' (base f) todo c0 cs rfl rfl hk
theorem wJ{f:FuncId}{fn:Func}{R:Value→World→Prop}{a:Act}{v:World}(hf:P.funcs[f]? = some fn)(hd:a.defers=[])(hr:∀ v1,Env v v1→∃ x,aH P (results fn a.tmps) v1=.ok x v1∧R x v1):LV P f R a v:=by
  intro Win hW hv b todo c0 cs hb hfn hk
  refine(M.closed hW).step rfl hv fun v1 w he hsim=>?_
  obtain⟨x,hx,hR⟩:=hr v1 he
  obtain⟨w',es',h1,h2,h3,h4,h5,h6⟩:=eW _ v1 w #[] x v1 (he.okV hv) hsim hx
  exact⟨_,v1,w',_,rO hb hd (by rw[hfn];exact hf) h1,⟨h2,h3,h4,h5,fun e he'=>h6 e (by have:=mem_seen he';simpa using this)⟩,hk x v1 h3 hR⟩
theorem aNz{f:FuncId}{R:Value→World→Prop}{a:Act}{v:World}{D:Nat}{ds:List Deferred}(hd:a.defers={ target:=.collected D,args:=#[] }::ds)
    (h:∀ v1,Env v v1→∃ v2,aH P (Fa D) v1=.ok [] v2∧LV P f R { a with defers:=ds } v2):LV P f R a v:=by
  intro Win hW hv b todo c0 cs hb hfn hk
  refine aYe hW hv hd fun v1 he=>?_
  obtain⟨v2,h1,h2⟩:=h v1 he
  exact⟨v2,h1,fun hok2=>h2 Win hW hok2 b todo c0 cs hb hfn hk⟩
theorem tP{f:FuncId}{fn:Func}{σ:St}{r:D}(hf:P.funcs[f]? = some fn)(hr:iY P fn.results.toList σ=some r):∀(Ds:List Nat) (a:Act) (w:World),a.defers=oI Ds→(∃ F Ms,SRB F Ms N (oI Ds) σ a w∧(∀ b,Ms b→W.heap.size≤b)∧(∀ b,F b→A0 b∨W.heap.size≤b)∧Kept aW W.heap.size W w ∧
    (∀ D∈Ds,W.heap.size≤D∧w.heap[D]? = some (.deferred (some []))∧¬Ms D∧¬F D))→Ds.Nodup→LV P f (fun v W'=>Below W.heap.size W W'∧VD (fun b=>A0 b∨(W.heap.size≤b∧b<W'.heap.size)) W' r v) a w
  | [],a,w,had,⟨F,Ms,hs0,hM,hF,hK0,_⟩,_=>by
    intro Win hW hokw
    refine wJ hf had (fun w1 he=>?_) Win hW hokw
    have hs:=hs0.env he
    have hK:=hK0.env hK0.size he
    obtain⟨v,h1,h2⟩:=dV (hs.sr (he.okV hokw) noZ fun _ _ e=>by cases e) hr
    have hFlt:∀ b,F b→b<w1.heap.size:=by obtain⟨_,_,q,_⟩:=hs;exact q
    have hMlt:∀ b,Ms b→b<w1.heap.size:=by obtain⟨_,_,_,_,q,_⟩:=hs;exact fun b h=>(q b h).1
    refine⟨v,h1,⟨hK.os,hK.tape,hK.output,hK.size,fun k hk=>hK.block k hk fun h=>h⟩,h2.mono ?_⟩
    rintro b (h|h|h)
    · exact(hF b h).imp_right fun q=>⟨q,hFlt b h⟩
    · exact .inr ⟨hM b h,hMlt b h⟩
    · simp only at h;omega
  | D::Ds,a,w0,had,⟨F,Ms,hs0,hM,hF,hK0,hD0⟩,hnd=>by
    refine aNz (ds:=oI Ds) (by rw[had];rfl) fun w he=>?_
    have hs:=hs0.env he
    have hK:=hK0.env hK0.size he
    have hD:∀ D'∈D::Ds,W.heap.size≤D'∧w.heap[D']? = some (.deferred (some []))∧¬Ms D'∧¬F D':=fun D' hD'=>by
      obtain⟨e1,e2,e3,e4⟩:=hD0 D' hD'
      exact⟨e1,(he.get (dE e2)).trans e2,e3,e4⟩
    obtain⟨d1,d2,d3,d4⟩:=hD D (AI ..)
    have hlt:=dE d2
    obtain⟨w',hw'⟩:∃ w',w.putObj D (.deferred none)=w':=⟨_,rfl⟩
    have hoth:∀ b,b≠D→w'.heap[b]? = w.heap[b]? := fun b hb=>by rw[←hw'];exact Eo hb
    have hsz:w'.heap.size=w.heap.size:=by rw[←hw'];simp
    refine⟨w',by rw[←hw'];exact uX d2,tP hf hr Ds _ w' rfl ⟨F,Ms,(hs.world (by omega) fun b hb=>hoth b ?_).defers (oI Ds),hM,hF,?_,fun D' hD'=>?_⟩ (Dz.1 hnd).2⟩
    · rintro rfl;exact hb.elim d4 d3
    · exact hK.trans ⟨by rw[←hw'];rfl,by rw[←hw'];rfl,by rw[←hw'];rfl,by omega,fun k hk _=>hoth k (by omega),fun k cur e hk hc=>⟨cur,(hoth k (by omega)).trans hc,rfl⟩⟩
    · obtain⟨e1,e2,e3,e4⟩:=hD D' (AJ _ hD')
      exact⟨e1,(hoth D' fun e=>by subst e;exact(Dz.1 hnd).1 hD').trans e2,e3,e4⟩
theorem oR {f:Nat} {fn:Func} {c:Code} {args:List D} {r:D} (hm:P.follows .mixedOrders=true) (hf:P.funcs[f]? = some fn) (hb:fn.body=some c) (hname:(fn.name == "runtime.NumGoroutine")=false) (hN:fn.ntmps=N)
    (hd:lV (bH N) c=true) (hl':lV (bK P) c=true) (ha:args.length≤N) (h:mY P N c (St0 args N) fun e σ=>(e=.normal∨e=.ret)∧iY P fn.results.toList σ=some r):Spec P f args r:=by
  intro A W vs hA hl hv
  have hn:¬ fn.name = "runtime.NumGoroutine" := by simpa using hname
  refine⟨fun w=>by simp[callFunc,hf,hn,hb],?_⟩
  refine wP hf hb ?_
  subst hN
  refine(WpR.plain P).okv fun hok=>?_
  obtain⟨F,Ms,h1,hM,hF,hK,_⟩:=(SR0 hok hA hl hv ha).srb
  simp only at hM hF hK
  refine bQ (aQa (W:=W) (A0:=A) hm hA c _ _ _ _ hd hl' h ⟨[],F,Ms,h1,fun b hb=>?_,fun b hb=>?_,hK,(fun D hD=>by cases hD),List.nodup_nil⟩) ?_
  · exact(hM b hb).elim (fun h=>h.elim) fun h=>h
  · rcases hF b hb with h|h|h
    · exact .inl h
    · exact h.elim
    · exact .inr h
  · rintro e a w ⟨σ,⟨he,hr⟩,Ds,F,Ms,hs,hM,hF,hK,hD,hnd⟩
    have hdd:a.defers=oI Ds:=by obtain⟨_,_,_,_,_,_,_,_,_,_,q⟩:=hs;exact q
    exact⟨he,tP (W:=W) (A0:=A) (N:=fn.ntmps) hf hr Ds a w hdd ⟨F,Ms,hs,hM,hF,hK,hD⟩ hnd⟩
end
end Go.Am
end
section
open List renaming map_map→ζ,mapM_map→ξ
namespace Go.Am
open Go.Conc (G stepG_region stepG_region_end)
open RowKit (Below)
section
variable {P:Program} {F M:Nat→Prop} {N:Nat} {ds:List Deferred} {σ:St} {a:Act} {w:World}
theorem SRB.args(h:SRB F M N ds σ a w){args:List Operand}{dd:List D}(hf:cI σ.H (args.map (oev σ.Γ))=some dd) :
    ∃ A M',dd.length=args.length∧(∀(k:Nat) d v,dd[k]? = some d→(args.map a.eval)[k]? = some v→VD A w d v)∧SRB A M' N ds (lG σ (bT σ.H (args.map (oev σ.Γ)))) a w∧(∀ b,A b→F b∨M b)∧(∀ b,M' b→M b):=by
  obtain⟨h1,ι,hF,hM,hMF,ho,hi,hd,hV,hN,hds⟩:=h
  have hR:HR ⟨w,F,M,aBx,noZ⟩ F w ι aW σ.H:=by
    refine⟨.refl _ _ _,hF,fun b h=>.inl h,fun id b e=>⟨.inl (hM id b e),(hMF b (hM id b e)).1,fun _=>(hMF b (hM id b e)).2⟩,ho,fun id id' b e e' _ _=>hi id id' b e e',fun id id' b o o' e e' _ q q'=>?_⟩
    have:=hi id id' b e e'
    subst this
    rw[q]at q';injection q' with q';subst q'
    exact AA _
  obtain⟨q1,q2,q3⟩:=lS (vs:=args.map a.eval) hR (fun _ _ h=>h) hf (by simp) fun k c u hc hu=>by
    rw[Ag]at hc hu
    cases hx:args[k]? with
    |none=>rw[hx]at hc;cases hc
    | some x =>
      rw[hx]at hc hu
      injection hc with hc;injection hu with hu
      subst hc;subst hu
      exact cE fun t _=>hV t
  obtain⟨l,hl⟩:∃ l,bT σ.H (args.map (oev σ.Γ))=l:=⟨_,rfl⟩
  rw[hl]at q2 ⊢
  have hAM:∀ b,reach F ι l b→F b∨M b:=by
    rintro b (hb|⟨id,_,e⟩)
    · exact .inl hb
    · exact .inr (hM id b e)
  have hAlt:∀ b,reach F ι l b→b<w.heap.size:=fun b hb=>(hAM b hb).elim (hF b) fun h=>(hMF b h).1
  have hs:Step F w ι (reach F ι l) w ι:=⟨fun b h=>.inl h,fun b h=>rfl,fun _ _ h=>h,fun id b cur e hi h=>⟨cur,h,rfl⟩⟩
  refine⟨reach F ι l,fun b=>M b∧¬reach F ι l b,by simpa using q1,q2,?_,hAM,fun b h=>h.1⟩
  have hmask:∀ id b,mask ι l id=some b→M b∧¬reach F ι l b:=fun id b e=>by
    obtain⟨m1,m2⟩:=cK e
    refine⟨hM id b m1,?_⟩
    rintro(hb|⟨id',hid',e'⟩)
    · exact(hMF b (hM id b m1)).2 hb
    · exact m2 (hi id id' b m1 e' ▸ hid')
  have hkill:∀ id,kill l σ.H id=if id∈l then none else σ.H id:=fun id=>by
    by_cases hid:id∈l
    · rw[Ap hid,kS hid]
    · rw[Ah hid,mP hid]
  unfold lG
  cases hl:l with
  | nil =>
    have hmk:mask ι l=ι:=by funext id;simp[mask,hl]
    rw[←hl]
    have hfin:fin ⟨σ.Γ,kill l σ.H,σ.n⟩ l=σ:=by rw[hl];rfl
    rw[hfin]
    refine⟨h1,ι,hAlt,fun id b e=>hmask id b (by rw[hmk];exact e),fun b h=>⟨(hMF b h.1).1,h.2⟩,fun id b o e e'=>?_,hi,hd,fun t=>(hV t).step hs,hN,hds⟩
    obtain⟨ob,p1,p2⟩:=ho id b o e e'
    exact⟨ob,p1,p2.step hs⟩
  | cons x xs =>
    rw[←hl]
    have hfin:fin ⟨σ.Γ,kill l σ.H,σ.n⟩ l=⟨fun t=>jD l (σ.Γ t),fun id=>(kill l σ.H id).map (gY l),σ.n⟩:=by rw[hl];rfl
    rw[hfin]
    refine⟨fun id h=>by simp only;rw[hkill,h1 id h];simp,mask ι l,hAlt,hmask,fun b h=>⟨(hMF b h.1).1,h.2⟩,fun id b o e e'=>?_,fun id id' b e e'=>hi id id' b (cK e).1 (cK e').1,fun id=>?_,fun t=>aGq ((hV t).step hs),hN,hds⟩
    · obtain⟨m1,m2⟩:=cK e
      simp only[hkill,Ah m2]at e'
      obtain⟨o1,ho1,rfl⟩:=Af.1 e'
      obtain⟨ob,p1,p2⟩:=ho id b o1 m1 ho1
      exact⟨ob,p1,aBi (p2.step hs)⟩
    · constructor
      · rintro⟨b,e⟩
        obtain⟨m1,m2⟩:=cK e
        simp only[hkill,Ah m2,EM]
        exact(hd id).1 ⟨b,m1⟩
      · intro e
        by_cases hid:id∈l
        · simp[hkill,hid]at e
        · simp only[hkill,Ah hid,EM]at e
          obtain⟨b,hb⟩:=(hd id).2 e
          exact⟨b,by unfold mask;rw[Ah hid];exact hb⟩
end
def isY(o:Oper):Bool:=match o.op with|.call { callee:=.value (.tmp _),args:=_,argTypes:=_ }=>o.guard.isNone|_=>false
def yP:List Oper→Option (List Oper×Oper×List Oper)
  |[]=>none
  |o::l=>if isY o then some ([],o,l)else(yP l).map fun p=>(o::p.1,p.2.1,p.2.2)
def zR:Code→Bool
  |.region _ ops _=>(yP ops.toList).isSome
  |.seq x y|.cond _ x y=>zR x||zR y
  |.block _ c|.loop c|.scope c=>zR c
  |_=>false
def YO(l:Nat)(xs:List (List D))(y:Oper)(k:Nat)(σ:St)(K:St→Prop):Prop :=
  match y.op with
  | .call { callee:=.value (.tmp t),args:=args,argTypes:=_ }=>σ.Γ t=.d (.lit (.func (.yield l) #[] #[]))∧∃ dd,cI σ.H (args.toList.map (oev σ.Γ))=some dd∧xs[k]? = some dd ∧
      K ⟨bE (lG σ (bT σ.H (args.toList.map (oev σ.Γ)))).Γ y.dst (.d (.b (decide (k+1≠xs.length)))),(lG σ (bT σ.H (args.toList.map (oev σ.Γ)))).H,(lG σ (bT σ.H (args.toList.map (oev σ.Γ)))).n⟩
  |_=>False
def YR(P:Program)[Mc:Mch P](l:Nat)(xs:List (List D))(ops:Array Oper)(k:Nat)(σ:St)(K:Nat→St→Prop):Prop :=
  match yP ops.toList with
  |some (pre,y,post)=>OW P ops pre σ [] fun σ1 con1=>YO l xs y k (fin σ1 con1) fun σ2=>OW P ops post σ2 [] fun σ3 con3=>K (k+1) (fin σ3 con3)
  |none=>False
def gW(P:Program)[Mc:Mch P](l:Nat)(xs:List (List D)):Code→Nat→St→(Exit→Nat→St→Prop)→Prop
  |.region id ops draw,k,σ,Q=>if(yP ops.toList).isSome then draw=false∧fM ops.toList=true∧YR P l xs ops k σ (Q .normal)else AWP P (.region id ops draw) σ fun e σ'=>Q e k σ'
  |.seq x y,k,σ,Q=>gW P l xs x k σ fun e k' σ'=>match e with|.normal=>gW P l xs y k' σ' Q|e=>Q e k' σ'
  |.cond c x y,k,σ,Q=>match oev σ.Γ c with|.d (.b t)=>if t then gW P l xs x k σ Q else gW P l xs y k σ Q|.ub=>gW P l xs x k σ Q∧gW P l xs y k σ Q|_=>False
  |.block id c,k,σ,Q=>gW P l xs c k σ fun e k' σ'=>match e with|.exit id'=>if id'=id then Q .normal k' σ' else Q (.exit id') k' σ'|e=>Q e k' σ'
  | .loop c,k,σ,Q=>if zR c then ∃(τ:Type) (S:τ→St) (κ m:τ→Nat) (x0:τ),κ x0=k∧(∃ ρ,Wk σ (S x0) ρ)∧∀ x,gW P l xs c (κ x) (S x) fun e k' σ'=>match e with|.normal=>∃ y,m y<m x∧κ y=k'∧∃ ρ,Wk σ' (S y) ρ|e=>Q e k' σ'
      else AWP P (.loop c) σ fun e σ'=>Q e k σ'
  |c,k,σ,Q=>AWP P c σ fun e σ'=>Q e k σ'
theorem bSi{P:Program}[Mc:Mch P]{c:Code}{Q:Exit→Act→World→Prop}{a:Act}{v:World}(h:WC P c (fun e a v=>OkV v→Q e a v) a v):WC P c Q a v :=
  fun Win hW hv b k cs hb hk=>h Win hW hv b k cs hb fun e a' v' hv' hq=>hk e a' v' hv' (hq hv')
section
variable {P:Program} [Mc:Mch P] {A:Nat→Prop} {W:World} {N l:Nat} {xs:List (List D)}
structure JOk(P:Program)[Mc:Mch P](l:Nat)(A:Nat→Prop)(xs:List (List D))(J:Nat→(Nat→Prop)→(Nat→Prop)→World→Prop):Prop where
  stab:∀ k X O W1 X' O' W2,J k X O W1→Kept O W1.heap.size W1 W2→(∀ b,X b→X' b)→(∀ b,X' b→X b∨(W1.heap.size≤b∧b<W2.heap.size))→(∀ b,O' b→X' b∧(O b∨W1.heap.size≤b))→J k X' O' W2
  round:∀ k X O W1 ds (vals:Array Value),xs[k]? = some ds→J k X O W1→ds.length=vals.size→(∀(i:Nat) d v,ds[i]? = some d→vals[i]? = some v→VD (fun b=>A b∨(X b∧¬O b)) W1 d v) →
    YX P l vals W1 fun x W2=>x=.bool (decide (k+1≠xs.length))∧J (k+1) X O W2∧W1.heap.size≤W2.heap.size∧W2.os=W1.os∧W2.tape=W1.tape∧W2.output=W1.output∧∀ b,A b∨X b→W2.heap[b]? = W1.heap[b]?
variable {J:Nat→(Nat→Prop)→(Nat→Prop)→World→Prop}
def RY(A:Nat→Prop)(N:Nat)(J:Nat→(Nat→Prop)→(Nat→Prop)→World→Prop)(k:Nat)(σ:St)(a:Act)(w:World):Prop :=
  ∃ X F M,J k X M w∧SRB F M N [] σ a w∧(∀ b,M b→X b)∧(∀ b,F b→A b∨(X b∧¬M b))∧(∀ b,X b→b<w.heap.size)
theorem RY.step(hJ:JOk P l A xs J){k:Nat}{X F M:Nat→Prop}{w:World}(hj:J k X M w)(hMX:∀ b,M b→X b)(hFA:∀ b,F b→A b∨(X b∧¬M b)){σ':St}{a':Act}{w':World}
    (h:SR ⟨w,F,M,aBx,noZ⟩ N [] σ' a' w') (hX:∀ b,X b→b<w.heap.size):RY A N J k σ' a' w':=by
  obtain⟨F',M',h',hM',hF',hK,_⟩:=h.srb
  simp only at hM' hF' hK
  have hsz:=hK.size
  have hM'lt:∀ b,M' b→b<w'.heap.size∧¬F' b:=by obtain⟨_,_,_,_,q,_⟩:=h';exact q
  have hF'lt:∀ b,F' b→b<w'.heap.size:=by obtain⟨_,_,q,_⟩:=h';exact q
  have hM'X:∀ b,M' b→X b∨(w.heap.size≤b∧b<w'.heap.size):=fun b hb=>(hM' b hb).imp (hMX b) fun h=>⟨h,(hM'lt b hb).1⟩
  refine⟨fun b=>X b∨(w.heap.size≤b∧b<w'.heap.size),F',M',hJ.stab k X M w _ M' w' hj hK (fun b h=>.inl h) (fun b h=>h) (fun b hb=>⟨hM'X b hb,hM' b hb⟩),h',hM'X,fun b hb=>?_,fun b hb=>?_⟩
  · have hnM:¬M' b:=fun h=>(hM'lt b h).2 hb
    rcases hF' b hb with h|h|h
    · exact(hFA b h).imp_right fun q=>⟨.inl q.1,hnM⟩
    · exact .inr ⟨.inl (hMX b h),hnM⟩
    · exact .inr ⟨.inr ⟨h,hF'lt b hb⟩,hnM⟩
  · rcases hb with h|h
    · have:=hX b h;omega
    · exact h.2
theorem RY.sr{k:Nat}{σ:St}{a:Act}{w:World}(h:RY A N J k σ a w)(hok:OkV w):∃ X F M,J k X M w∧(∀ b,M b→X b)∧(∀ b,F b→A b∨(X b∧¬M b))∧(∀ b,X b→b<w.heap.size)∧SR ⟨w,F,M,aBx,noZ⟩ N [] σ a w:=by
  obtain⟨X,F,M,h1,h2,h3,h4,h5⟩:=h
  exact⟨X,F,M,h1,h3,h4,h5,h2.sr hok noZ fun _ _ e=>by cases e⟩
theorem RY.weak(hJ:JOk P l A xs J){k:Nat}{σ σ':St}{ρ:Nat→Nat}{a:Act}{w:World}(hk:Wk σ σ' ρ)(h:RY A N J k σ a w)(hok:OkV w):RY A N J k σ' a w:=by
  obtain⟨X,F,M,h1,h3,h4,h5,hs⟩:=h.sr hok
  exact RY.step hJ h1 h3 h4 (uO hk hs) h5
theorem bKp(hm:P.follows .mixedOrders=true)(hJ:JOk P l A xs J){c:Code}{k:Nat}{σ:St}{a:Act}{w:World}{Q:Exit→St→Prop}(hd:bH N c=true)(hl:bK P c=true)(h:AWP P c σ Q)(hs:RY A N J k σ a w) :
    WC P c (fun e a' w'=>∃ σ',Q e σ'∧RY A N J k σ' a' w') a w:=by
  refine(WpR.plain P).okv fun hok=>?_
  obtain⟨X,F,M,h1,h3,h4,h5,hsr⟩:=hs.sr hok
  refine bQ (cG hm (fun _=>rfl) c Q σ a w hd hl h hsr) ?_
  rintro e a' w' ⟨σ',hq,hs'⟩
  exact⟨σ',hq,RY.step hJ h1 h3 h4 hs' h5⟩
theorem RY.env(hJ:JOk P l A xs J){k:Nat}{σ:St}{a:Act}{w v1:World}(h:RY A N J k σ a w)(he:Env w v1):RY A N J k σ a v1:=by
  obtain⟨X,F,M,h1,h2,h3,h4,h5⟩:=h
  exact⟨X,F,M,hJ.stab k X M w X M v1 h1 (he.kept M) (fun _ h=>h) (fun _ h=>.inl h) (fun b hb=>⟨h3 b hb,.inl hb⟩),h2.env he,h3,h4,fun b hb=>A9 (h5 b hb) he.size⟩
def WL(P:Program)[Mc:Mch P](ops:Array Oper)(l:List Nat)(K:Act→World→Prop)(a:Act)(v:World):Prop :=
  ∀(Win:Goroutine→World→Prop),Mc.Fam Win→OkV v→∀(b:Frame) (k:List Item) (cs:List Frame),mI b→(∀ a' v',OkV v'→K a' v'→Win (G (b.at a' k) cs) v')→Win (G (b.at a (.inRegion ops l::k)) cs) v
theorem bSa{ops:Array Oper}{K:Act→World→Prop}{a:Act}{v:World}(h:K a v):WL P ops [] K a v :=
  fun Win hW hv b k cs hb hk=>aI hW rfl hv (fun w=>stepG_region_end) (hk a v hv h)
theorem bWl{ops:Array Oper}{i:Nat}{rest:List Nat}{o:Oper}{K:Act→World→Prop}{a:Act}{v:World}(ho:ops[i]? = some o)
    (h:if Bl o (yielded ops a.tmps)then ∀ v1,Env v v1→wpX P o a v1 (WL P ops rest K)else WL P ops rest K (a.put o.dst undef) v):WL P ops (i::rest) K a v:=by
  intro Win hW hv b k cs hb hk
  split at h
  · rename_i hw
    exact aEd hW hb ho hw hv h fun a' v' hv' h'=>h' Win hW hv' b k cs hb hk
  · rename_i hw
    exact sP hW ho hw hv (h Win hW hv b k cs hb hk)
theorem aYd{ops:Array Oper}{i:Nat}{rest:List Nat}{o:Oper}{K:Act→World→Prop}{a:Act}{v:World}(ho:ops[i]? = some o)(hw:Bl o (yielded ops a.tmps)=true)
    (h:OkV v→∀ v1,Env v v1→∃ l f tmps assign body,∃ R:Value→World→Prop,aH P (execOp a.eval o) v1=.ok (.round l f tmps assign body) v1 ∧
      (∀(Win:Goroutine→World→Prop),Mc.Fam Win→OkV v1→∀(c:Frame) (cs:List Frame),(∀ x v',OkV v'→R x v'→Win (G (c.finish x) cs) v')→Win (G (Fb l f tmps assign body .normal) (c::cs)) v1) ∧
      ∀ x v2,OkV v2→R x v2→WL P ops rest K (a.put o.dst x) v2):WL P ops (i::rest) K a v:=by
  intro Win hW hv b k cs hb hk
  by_cases hall:∃ l f tmps assign body,∀ v1,Env v v1→aH P (execOp a.eval o) v1=.ok (.round l f tmps assign body) v1
  · obtain⟨l,f,tmps,assign,body,hall⟩:=hall
    refine aSu hW hb ho hw hv fun v1 he=>⟨hall v1 he,?_⟩
    obtain⟨l',f',tmps',assign',body',R,h1,h2,h3⟩:=h hv v1 he
    rw[hall v1 he]at h1
    injection h1 with h1 _;injection h1 with e1 e2 e3 e4 e5;subst e1;subst e2;subst e3;subst e4;subst e5
    refine h2 Win hW (he.okV hv) _ cs fun x v' hv' hR=>?_
    rw[D6,ho]
    exact h3 x v' hv' hR Win hW hv' b k cs hb hk
  · exact aLv hW hb ho hw hv fun v1 he=>by
      obtain⟨l',f',tmps',assign',body',R,h1,h2,h3⟩:=h hv v1 he
      refine⟨l',f',tmps',assign',body',h1,?_⟩
      refine h2 Win hW (he.okV hv) _ cs fun x v' hv' hR=>?_
      rw[D6,ho]
      exact h3 x v' hv' hR Win hW hv' b k cs hb hk
theorem aYh{id:Nat}{ops:Array Oper}{Q:Exit→Act→World→Prop}{a:Act}{v:World}(h:WL P ops (Dy 0 ops.toList.length) (Q .normal) a v):WC P (.region id ops false) Q a v:=by
  intro Win hW hv b k cs hb hk
  refine aI hW rfl hv (fun w=>stepG_region) ?_
  have:=h Win hW hv b k cs hb fun a' v' hv' hq=>hk .normal a' v' hv' hq
  rwa [EO,←BA]
theorem aVm{G:Ctx}{ops:Array Oper}{ds:List Deferred}{Q:AS→Prop}{K K':Act→World→Prop}(hQ:∀ s a w,Q s→mH G N ds s a w→K a w)(rest:List Nat)(hk:∀ a w,K a w→WL P ops rest K' a w) :
    ∀(l:List Oper) (n:Nat),(∀(j:Nat) o,l[j]? = some o→ops[n+j]? = some o)→(∀ o∈l,∀ d,o.dst=some d→d<N∧G.Z d=none)→∀(s:AS) (a:Act) (w:World),mH G N ds s a w→xC P G ops Q l s→WL P ops (Dy n l.length++rest) K' a w:=by
  intro l
  induction l with
  |nil=>intro n _ _ s a w hr h;exact hk _ _ (hQ s a w h hr)
  | cons o l ih =>
    intro n hn hl s a w hr h
    obtain⟨s',hd,h⟩:=h
    have:=nQ (K:=WL P ops (Dy (n+1) l.length++rest) K') hd (hl o (AI ..)) hr fun a' w' hr'=>ih (n+1) (fun j o hj=>by have:=hn (j+1) o (by simpa using hj);rw[←this];congr 1;omega) (fun o ho=>hl o (AJ _ ho)) s' a' w' hr' h
    rw[Aj,DY,List.cons_append]
    exact bWl (by simpa using hn 0 o rfl) this
theorem aCs{G:Ctx}{ops:Array Oper}{ds:List Deferred}{Q:St→Prop}{K':Act→World→Prop}{os:List Oper}{rest:List Nat}{n:Nat}{σ:St}{a:Act}{w:World}
    (hno:fM os=true) (hn:∀(j:Nat) o,os[j]? = some o→ops[n+j]? = some o)
    (hdst:∀ o∈os,∀ d,o.dst=some d→d<N∧G.Z d=none) (hsr:SR G N ds σ a w) (h:OW P ops os σ [] fun σ' con=>Q (fin σ' con)) (hQ:∀ σ a w,Q σ→SR G N ds σ a w→WL P ops rest K' a w) :
    WL P ops (Dy n os.length++rest) K' a w:=by
  obtain⟨hn0,hwf,hag⟩:=pW hsr
  obtain⟨fb,hfb⟩:=pX (G:=G) os σ [] hno hn0 hwf h
  obtain⟨h1,h2⟩:=hag (fun i=>if i<σ.n then σ.H i else fb i) (fun i o hi=>by
    rcases Az i σ.n with hlt|hge
    · rw[Ap hlt];exact hi
    · rw[hwf.top i hge]at hi;cases hi)
  have h3:=hfb _ h1 (fun i hi=>by simp only;rw[Ah (by omega)])
  refine aVm (K:=fun a w=>∃ σ,Q σ∧SR G N ds σ a w) (Q:=fun s'=>∃ σ' con',Q (fin σ' con')∧(σ'.n=0→∀ b,G.P0 b)∧Wf σ' con'∧dD σ' con' s') ?_ rest ?_ os n hn hdst _ a w h2 h3
  · rintro s a w ⟨σ',con',hq,hn',hwf',hag'⟩ hr
    exact⟨_,hq,aBb hn' hwf' hag' hr⟩
  · rintro a w ⟨σ,hq,hs⟩;exact hQ σ a w hq hs
theorem aHo:∀(os:List Oper) {pre post:List Oper} {y:Oper},yP os=some (pre,y,post)→os=pre++y::post∧isY y=true
  |[],_,_,_,h=>by cases h
  | o::os,pre,post,y,h=>by
    unfold yP at h
    split at h
    · rename_i ho;injection h with h;injection h with h1 h;injection h with h2 h3;subst h1;subst h2;subst h3;exact⟨rfl,ho⟩
    · obtain⟨⟨p1,p2,p3⟩,hp,h⟩:=Af.1 h
      injection h with h1 h;injection h with h2 h3;subst h1;subst h2;subst h3
      obtain⟨e1,e2⟩:=aHo os hp
      exact⟨by rw[e1];rfl,e2⟩
theorem bAj(hJ:JOk P l A xs J){id k:Nat}{ops:Array Oper}{σ:St}{a:Act}{w:World}{Q:Nat→St→Prop}(hno:fM ops.toList=true)(hd:aFk N ops=true)(h:YR P l xs ops k σ Q)(hs:RY A N J k σ a w) :
    WC P (.region id ops false) (fun e a' w'=>e=.normal∧∃ k' σ',Q k' σ'∧RY A N J k' σ' a' w') a w:=by
  refine(WpR.plain P).okv fun hok=>aYh ?_
  unfold YR at h
  split at h
  case h_2=>exact h.elim
  rename_i pre y post hsp
  obtain⟨heq,hy⟩:=aHo _ hsp
  have hdst:∀ o∈ops.toList,∀ d,o.dst=some d→d<N∧(noZ:Nat→Option Value) d=none:=fun o ho d hdd=>by
    have:=Array.all_eq_true_iff_forall_mem.1 hd o (by simpa using ho)
    rw[hdd]at this
    exact⟨by simpa using this,rfl⟩
  have hat:∀(j:Nat) o,ops.toList[j]? = some o→ops[j]? = some o:=fun j o h=>by simpa using h
  rw[heq]at hdst hat hno ⊢
  have hno1:fM pre=true:=by simp only[fM,List.all_append,AR]at hno ⊢;exact hno.1
  have hno2:fM post=true:=by simp only[fM,List.all_append,List.all_cons,AR]at hno ⊢;exact hno.2.2
  obtain⟨X,F,M,hj,hMX,hFA,hXlt,hsr⟩:=hs.sr hok
  rw[show Dy 0 (pre++y::post).length=Dy 0 pre.length++(pre.length::Dy (pre.length+1) post.length)by
    rw[A8,Aj,←List.range'_append_1,Ax,DY]]
  refine aCs (G:=⟨w,F,M,aBx,noZ⟩) (n:=0) hno1 (fun j o hj=>by rw[Ax];exact hat j o (by rw[List.getElem?_append_left (Ao.1 hj).1];exact hj)) (fun o ho=>hdst o (List.mem_append_left _ ho)) hsr (Q:=fun σ1=>YO l xs y k σ1 fun σ2=>OW P ops post σ2 [] fun σ3 con3=>Q (k+1) (fin σ3 con3)) h ?_
  intro σ1 a1 w0 hY hs1
  have hry0:=RY.step hJ hj hMX hFA hs1 hXlt
  unfold YO at hY
  split at hY
  case h_2=>exact hY.elim
  rename_i t args ts hop
  obtain⟨hΓ,dd,hfr,hx,hK⟩:=hY
  have hguard:y.guard=none:=by
    unfold isY at hy
    rw[hop]at hy
    simpa using hy
  have hwant:Bl y (yielded ops a1.tmps)=true:=by simp[Bl,hguard]
  refine aYd (hat pre.length y (by simp)) hwant fun hokw0 w1 he1=>?_
  have hokw1:=he1.okV hokw0
  obtain⟨X1,F1,M1,hj1,hs1',hMX1,hFA1,hX1⟩:=hry0.env hJ he1
  have hev:a1.eval (.tmp t)=.func (.yield l) #[] #[]:=by
    obtain⟨_,ι,_,_,_,_,_,_,hV,_⟩:=hs1'
    have:=hV t
    rw[hΓ]at this
    show a1.tmps.getD t undef=_
    generalize a1.tmps.getD t undef=v at this
    cases this with|d _ _ h=>cases h;rfl
  obtain⟨A2,M2,hlen,hVD,hs2,hA2,hM2⟩:=hs1'.args hfr
  have hs2lt:∀ b,M2 b→b<w1.heap.size∧¬A2 b:=by obtain⟨_,_,_,_,q,_⟩:=hs2;exact q
  have hj2:J k X1 M2 w1:=hJ.stab k X1 M1 w1 X1 M2 w1 hj1 (.refl _ _ _) (fun _ h=>h) (fun _ h=>.inl h) fun b hb=>⟨hMX1 b (hM2 b hb),.inl (hM2 b hb)⟩
  have hAX:∀ b,A2 b→A b∨(X1 b∧¬M2 b):=fun b hb=>by
    have hn:¬M2 b:=fun h=>(hs2lt b h).2 hb
    rcases hA2 b hb with h|h
    · exact(hFA1 b h).imp_right fun q=>⟨q.1,hn⟩
    · exact .inr ⟨hMX1 b h,hn⟩
  obtain⟨fn,tmps,assign,body,hyl,hround⟩:=hJ.round k X1 M2 w1 dd (args.map a1.eval) hx hj2 (by simpa using hlen) fun i d v hi hv =>
    (hVD i d v hi (by have:=Array.getElem?_toList (xs:=args.map a1.eval) (i:=i);rw[hv,Array.toList_map]at this;exact this)).mono hAX
  have hrun:aH P (execOp a1.eval y) w1=.ok (.round l fn tmps assign body) w1:=by
    simp only[execOp,hop,resolve,hev,Sem.run_bind,Cq,Sem.run_pure,AH,Ca,invoke]
    exact hyl
  refine⟨l,fn,tmps,assign,body,_,hrun,hround,?_⟩
  rintro x W2 hokW2 ⟨rfl,hj3,hsz,hos,htp,hou,hkeep⟩
  -- behind the call
  have hs3:SRB A2 M2 N [] (lG σ1 (bT σ1.H (args.toList.map (oev σ1.Γ)))) a1 W2:=hs2.world hsz fun b hb=>hkeep b (by
    rcases hb with h|h
    · exact(hAX b h).imp_right fun q=>q.1
    · exact .inr (hMX1 b (hM2 b h)))
  have hN:a1.tmps.size=N:=by obtain⟨_,_,_,_,_,_,_,_,_,q,_⟩:=hs3;exact q
  have hdf:a1.defers=[]:=by obtain⟨_,_,_,_,_,_,_,_,_,_,q⟩:=hs3;exact q
  have hyd:∀ d,y.dst=some d→d<a1.tmps.size:=fun d h=>by rw[hN];exact(hdst y (by simp) d h).1
  have hs4:SRB A2 M2 N [] ⟨bE (lG σ1 (bT σ1.H (args.toList.map (oev σ1.Γ)))).Γ y.dst (.d (.b (decide (k+1≠xs.length)))),(lG σ1 (bT σ1.H (args.toList.map (oev σ1.Γ)))).H,(lG σ1 (bT σ1.H (args.toList.map (oev σ1.Γ)))).n⟩ (a1.put y.dst (.bool (decide (k+1≠xs.length)))) W2:=by
    refine hs3.act (by cases y.dst<;>simp[C0,hN]) (by cases y.dst<;>simp[C0,hdf]) fun t=>?_
    rw[iU a1 y.dst (.bool (decide (k+1≠xs.length))) hyd t]
    by_cases ht:y.dst=some t
    · rw[ht]
      exact .inr (.inr ⟨.b (decide (k+1≠xs.length)),.bool (decide (k+1≠xs.length)),by simp[bE,upd,aL],by simp,.b _⟩)
    · rw[Ah ht]
      exact .inl ⟨by rw[xN ht],rfl⟩
  have hry:RY A N J (k+1) _ (a1.put y.dst (.bool (decide (k+1≠xs.length)))) W2:=⟨X1,A2,M2,hj3,hs4,fun b hb=>hMX1 b (hM2 b hb),hAX,fun b hb=>by have:=hX1 b hb;omega⟩
  obtain⟨X5,F5,M5,hj5,hMX5,hFA5,hX5,hsr5⟩:=hry.sr hokW2
  have hfin:=aCs (P:=P) (ops:=ops) (G:=⟨W2,F5,M5,aBx,noZ⟩) (n:=pre.length+1) (os:=post) (rest:=[]) (Q:=Q (k+1)) (K':=fun a' w'=>Exit.normal=.normal∧∃ k' σ',Q k' σ'∧RY A N J k' σ' a' w') hno2
    (fun j o hj=>hat (pre.length+1+j) o (by rw[AM (by omega),show pre.length+1+j-pre.length=j+1 by omega,Bt];exact hj))
    (fun o ho=>hdst o (List.mem_append_right _ (AJ _ ho))) hsr5 hK
    fun σ6 a6 w6 hq hs6=>bSa ⟨rfl,k+1,σ6,hq,RY.step hJ hj5 hMX5 hFA5 hs6 hX5⟩
  rw[List.append_nil]at hfin
  exact hfin
theorem aPz(hm:P.follows .mixedOrders=true)(hJ:JOk P l A xs J):∀(c:Code) (Q:Exit→Nat→St→Prop) (k:Nat) (σ:St) (a:Act) (w:World),bH N c=true→bK P c=true→gW P l xs c k σ Q→RY A N J k σ a w →
    WC P c (fun e a' w'=>∃ k' σ',Q e k' σ'∧RY A N J k' σ' a' w') a w:=by
  have plain:∀ (c:Code) (Q:Exit→Nat→St→Prop) (k:Nat) (σ:St) (a:Act) (w:World),bH N c=true→bK P c=true→(AWP P c σ fun e σ'=>Q e k σ')→RY A N J k σ a w →
      WC P c (fun e a' w'=>∃ k' σ',Q e k' σ'∧RY A N J k' σ' a' w') a w:=by
    intro c Q k σ a w hd hl h hs
    refine bQ (bKp hm hJ hd hl h hs) ?_
    rintro e a' w' ⟨σ',hq,hs'⟩
    exact⟨k,σ',hq,hs'⟩
  intro c
  induction c with
  | region id ops draw =>
    intro Q k σ a w hd hl h hs
    unfold gW at h
    split at h
    · obtain⟨rfl,hno,h⟩:=h
      refine bQ (bAj hJ hno hd h hs) ?_
      rintro e a' w' ⟨rfl,k',σ',hq,hs'⟩
      exact⟨k',σ',hq,hs'⟩
    · exact plain _ Q k σ a w hd hl h hs
  | seq x y ihx ihy =>
    intro Q k σ a w hd hl h hs
    simp only[bH,bK,AR]at hd hl
    refine eB (bQ (ihx _ k σ a w hd.1 hl.1 h hs) ?_)
    rintro e a' w' ⟨k',σ',hq,hs'⟩
    cases e with
    |normal=>exact ihy Q k' σ' a' w' hd.2 hl.2 hq hs'
    |_=>exact⟨k',σ',hq,hs'⟩
  | cond c x y ihx ihy =>
    intro Q k σ a w hd hl h hs
    simp only[bH,bK,AR]at hd hl
    have hV:∃ F ι,V F w ι (oev σ.Γ c) (a.eval c):=by
      obtain⟨_,F,_,_,⟨_,ι,_,_,_,_,_,_,hV,_⟩,_⟩:=hs
      exact⟨F,ι,cE fun t _=>hV t⟩
    obtain⟨F,ι,hV⟩:=hV
    unfold gW at h
    split at h
    · rename_i t ht
      have hc:a.eval c=.bool t:=by
        rw[ht]at hV
        generalize a.eval c=v at hV
        cases hV with|d _ _ h=>cases h;rfl
      refine nA hc ?_
      cases t
      · exact ihy Q k σ a w hd.2 hl.2 h hs
      · exact ihx Q k σ a w hd.1 hl.1 h hs
    · rename_i ht
      have hc:∃ t,a.eval c=.bool t:=by
        rw[ht]at hV
        generalize a.eval c=v at hV
        cases hV with|ub t=>exact⟨t,rfl⟩
      obtain⟨t,hc⟩:=hc
      refine nA hc ?_
      cases t
      · exact ihy Q k σ a w hd.2 hl.2 h.2 hs
      · exact ihx Q k σ a w hd.1 hl.1 h.1 hs
    · exact h.elim
  | block id c ih =>
    intro Q k σ a w hd hl h hs
    refine yD (bQ (ih _ k σ a w hd hl h hs) ?_)
    rintro e a' w' ⟨k',σ',hq,hs'⟩
    cases e with
    | exit id' =>
      simp only[DR]at hq ⊢
      split at hq
      · rename_i he;rw[Ap he];exact⟨k',σ',hq,hs'⟩
      · rename_i he;rw[Ah he];exact⟨k',σ',hq,hs'⟩
    |_=>exact⟨k',σ',hq,hs'⟩
  | loop c ih =>
    intro Q k σ a w hd hl h hs
    unfold gW at h
    split at h
    · obtain⟨τ,S,κ,m,x0,hk0,⟨ρ,hk⟩,hround⟩:=h
      refine(WpR.plain P).okv fun hokw=>aQg (fun n a w=>∃ x,m x=n∧RY A N J (κ x) (S x) a w) ⟨m x0,x0,rfl,by rw[hk0];exact hs.weak hJ hk hokw⟩ ?_
      rintro n a w ⟨x,rfl,hsx⟩
      refine bSi (bQ (ih _ (κ x) (S x) a w hd hl (hround x) hsx) ?_)
      rintro e a' w' ⟨k',σ',hq,hs'⟩ hokw'
      cases e with
      | normal =>
        obtain⟨y,hlt,rfl,ρ,hk⟩:=hq
        exact⟨m y,hlt,y,rfl,hs'.weak hJ hk hokw'⟩
      |_=>exact⟨k',σ',hq,hs'⟩
    · exact plain _ Q k σ a w hd hl h hs
  |skip=>intro Q k σ a w hd hl h hs;exact plain _ Q k σ a w hd hl h hs
  |exit id=>intro Q k σ a w hd hl h hs;exact plain _ Q k σ a w hd hl h hs
  |ret=>intro Q k σ a w hd hl h hs;exact plain _ Q k σ a w hd hl h hs
  |label l=>intro Q k σ a w hd hl h hs;exact plain _ Q k σ a w hd hl h hs
  |scope c _=>intro Q k σ a w hd hl h hs;exact plain _ Q k σ a w hd hl h hs
  |_=>intro Q k σ a w hd hl h;exact h.elim
end
theorem aZz {P:Program} [Mc:Mch P] {f N:Nat} {fn:Func} {c:Code} {caps:List D} {xs:List (List D)} (hm:P.follows .mixedOrders=true) (hf:P.funcs[f]? = some fn) (hb:fn.body=some c) (hname:(fn.name == "runtime.NumGoroutine")=false) (hN:fn.ntmps=N)
    (hd:bH N c=true) (hl':bK P c=true) (ha:caps.length+1≤N)
    (h:∀ l,gW P l xs c 0 (St0 (.lit (.func (.yield l) #[] #[])::caps) N) fun e k σ=>(e=.normal∨e=.ret)∧k=xs.length∧∃ r,iY P fn.results.toList σ=some r):lW P f caps xs:=by
  intro A W l lb hA hl hv
  have hn:¬ fn.name = "runtime.NumGoroutine" := by simpa using hname
  refine⟨fun args w=>by simp[callFunc,hf,hn,hb],fun J hstab hround h0=>?_⟩
  have hJ:JOk P l A xs J:=⟨hstab,hround⟩
  refine wP hf hb ?_
  subst hN
  refine(WpR.plain P).okv fun hokW=>?_
  obtain⟨F,M,h1,hM,hF,hK,_⟩:=(SR0 (N:=fn.ntmps) (args:=.lit (.func (.yield l) #[] #[])::caps) (vs:=#[.func (.yield l) #[] #[]]++lb) hokW hA (by simp;omega) (fun k d v hk hv'=>by
    cases k with
    |zero=>rw[Array.getElem?_append_left (by simp)]at hv';simp at hk hv';subst hk;subst hv';exact .lit _
    |succ k=>exact hv k d v (by simpa using hk) (by rw[Array.getElem?_append_right (by simp)]at hv';simpa using hv')) (by simpa using ha)).srb
  simp only at hM hF hK
  have hMlt:∀ b,M b→b<W.heap.size:=by obtain⟨_,_,_,_,q,_⟩:=h1;exact fun b h=>(q b h).1
  have hFlt:∀ b,F b→b<W.heap.size:=by obtain⟨_,_,q,_⟩:=h1;exact q
  have hM0:∀ b,¬M b:=fun b hb=>by
    rcases hM b hb with h|h
    · exact h
    · have:=hMlt b hb;omega
  have hMe:M=aW:=funext fun b=>propext ⟨fun h=>(hM0 b h).elim,fun h=>h.elim⟩
  refine bQ (aPz (A:=A) hm hJ c _ 0 _ _ W hd hl' (h l) ⟨aW,F,M,by rw[hMe];exact h0,h1,fun b hb=>(hM0 b hb).elim,fun b hb=>?_,fun b hb=>hb.elim⟩) ?_
  · rcases hF b hb with h|h|h
    · exact .inl h
    · exact h.elim
    · have:=hFlt b hb;omega
  · rintro e a w ⟨k,σ,⟨he,rfl,r,hr⟩,X,F,M,hj,hs,hMX',_⟩
    have hdf:a.defers=[]:=by obtain⟨_,_,_,_,_,_,_,_,_,_,q⟩:=hs;exact q
    refine⟨he,fun Win hWf hokw=>wJ hf hdf (fun v1 hev=>?_) Win hWf hokw⟩
    have hs2:=hs.env hev
    obtain⟨v,h1,_⟩:=dV (hs2.sr (hev.okV hokw) noZ fun _ _ e=>by cases e) hr
    exact⟨v,h1,X,M,hJ.stab _ X M w X M v1 hj (hev.kept M) (fun _ h=>h) (fun _ h=>.inl h) (fun b hb=>⟨hMX' b hb,.inl hb⟩)⟩
end Go.Am
end
section
open List renaming map_map→ζ,mapM_map→ξ
namespace Go.Am
variable {P:Program} [Mc:Mch P]
/-! ### Iterators -/
theorem iB{l:Nat}{xs:List (List D)}:∀(c:Code) {k:Nat} {σ:St} {Q:Exit→Nat→St→Prop},zR c=false→(AWP P c σ fun e σ'=>Q e k σ')→gW P l xs c k σ Q:=by
  intro c
  induction c with
  | region id ops draw =>
    intro k σ Q hy h
    unfold gW
    simp only[zR]at hy
    rw[hy]
    exact h
  | seq x y ihx ihy =>
    intro k σ Q hy h
    simp only[zR,FL]at hy
    refine ihx hy.1 (eY x (fun e σ h=>?_) h)
    cases e with
    |normal=>exact ihy hy.2 h
    |_=>exact h
  | cond c x y ihx ihy =>
    intro k σ Q hy h
    simp only[zR,FL]at hy
    unfold gW
    unfold AWP at h
    split
    · rename_i t ht
      simp only[ht]at h
      cases t
      · exact ihy hy.2 h
      · exact ihx hy.1 h
    · rename_i ht
      simp only[ht]at h
      exact⟨ihx hy.1 h.1,ihy hy.2 h.2⟩
    · rename_i h1 h2
      split at h
      · rename_i t ht;exact h1 _ ht
      · rename_i ht;exact h2 ht
      · exact h
  | block id c ih =>
    intro k σ Q hy h
    refine ih hy (eY c (fun e σ h=>?_) h)
    cases e<;>exact h
  | loop c ih =>
    intro k σ Q hy h
    simp only[zR]at hy
    unfold gW
    rw[hy]
    exact h
  |_=>intro k σ Q _ h;exact h
@[congr]theorem bVs{l:Nat}{xs:List (List D)}{c:Code}{k:Nat}{σ σ':St}{Q:Exit→Nat→St→Prop}(h:σ=σ'):gW P l xs c k σ Q=gW P l xs c k σ' Q:=by rw[h]
theorem qV{l:Nat}{xs:List (List D)}{x y:Code}{k:Nat}{σ:St}{Q:Exit→Nat→St→Prop}(hy:zR x=false)(h:AWP P x σ fun e σ'=>match e with|.normal=>gW P l xs y k σ' Q|e=>Q e k σ'):gW P l xs (.seq x y) k σ Q:=by
  refine iB (l:=l) (xs:=xs) x (k:=k) hy (eY x (fun e σ h=>?_) h)
  cases e<;>exact h
theorem nU{l:Nat}{xs:List (List D)}{id:Nat}{c:Code}{k:Nat}{σ:St}{Q:Exit→Nat→St→Prop}(h:gW P l xs c k σ fun e k' σ'=>match e with|.exit id'=>if id'=id then Q .normal k' σ' else Q (.exit id') k' σ'|e=>Q e k' σ'):gW P l xs (.block id c) k σ Q:=h
theorem uJ{l:Nat}{xs:List (List D)}{x y:Code}{k:Nat}{σ:St}{Q:Exit→Nat→St→Prop}(h:gW P l xs x k σ fun e k' σ'=>match e with|.normal=>gW P l xs y k' σ' Q|e=>Q e k' σ'):gW P l xs (.seq x y) k σ Q:=h
theorem aAr{l:Nat}{xs:List (List D)}{id:Nat}{ops:Array Oper}{k:Nat}{σ:St}{Q:Exit→Nat→St→Prop}{pre post:List Oper}{y:Oper}(hno:fM ops.toList=true)(hs:yP ops.toList=some (pre,y,post))
    (h:OWd P ops pre σ [] (fun σ1 con1=>YO l xs y k (fin σ1 con1) fun σ2=>OWd P ops post σ2 [] (fun σ3 con3=>aLl σ3 con3 (Q .normal (k+1)) .mk) .mk) .mk):gW P l xs (.region id ops false) k σ Q:=by
  unfold gW
  rw[hs]
  refine⟨rfl,hno,?_⟩
  unfold YR
  rw[hs]
  exact h
@[congr]theorem bWj{l:Nat}{xs:List (List D)}{y:Oper}{k:Nat}{σ σ':St}{K:St→Prop}(h:σ=σ'):YO l xs y k σ K=YO l xs y k σ' K:=by rw[h]
theorem aHa{l:Nat}{xs:List (List D)}{dst:Option Tmp}{t:Tmp}{args:List Operand}{ts:Array TypeId}{ty:TypeId}{pos:String}{after:Array Edge}{guard:Option (Nat×Bool)}{k:Nat}{σ:St}{K:St→Prop}{dd:List D}{l2:List Nat}
    (h1:σ.Γ t=.d (.lit (.func (.yield l) #[] #[]))) (h2:cI σ.H (args.map (oev σ.Γ))=some dd) (h3:xs[k]? = some dd) (h4:bT σ.H (args.map (oev σ.Γ))=l2)
    (h5:K ⟨bE (lG σ l2).Γ dst (.d (.b (decide (k+1≠xs.length)))),(lG σ l2).H,(lG σ l2).n⟩):YO l xs ⟨dst,.call ⟨.value (.tmp t),args.toArray,ts⟩,ty,pos,after,guard⟩ k σ K:=by
  subst h4
  exact⟨h1,dd,h2,h3,h5⟩
def cBa{τ:Type}(I:τ→Prop)(m κ:τ→Nat)(S:τ→St)(x:τ)(k:Nat)(σ':St)(_:Dm (I,m,κ,S,x)):Prop:=∃ y,I y∧m y<m x∧κ y=k∧∃ ρ,Wk σ' (S y) ρ
theorem aDx{τ:Type}{l:Nat}{xs:List (List D)}{c:Code}{k:Nat}{σ:St}{Q:Exit→Nat→St→Prop}(hy:zR c=true)(I:τ→Prop)(S:τ→St)(κ m:τ→Nat)(x0:τ)(hI:I x0)(hk:κ x0=k)(h0:∃ ρ,Wk σ (S x0) ρ)
    (h:∀ x,I x→gW P l xs c (κ x) (S x) fun e k' σ'=>match e with|.normal=>cBa I m κ S x k' σ' .mk|e=>Q e k' σ'):gW P l xs (.loop c) k σ Q:=by
  unfold gW
  rw[Ap hy]
  refine⟨{ x:τ // I x },fun x=>S x.1,fun x=>κ x.1,fun x=>m x.1,⟨x0,hI⟩,hk,h0,fun x=>?_⟩
  refine cast (congrArg (gW P l xs c (κ x.1) (S x.1)) ?_) (h x.1 x.2)
  funext e k' σ'
  cases e with
  |normal=>exact propext ⟨fun⟨y,h1,h2,h3⟩=>⟨⟨y,h1⟩,h2,h3⟩,fun⟨y,h2,h3⟩=>⟨y.1,y.2,h2,h3⟩⟩
  |_=>rfl
/-! ### Functions that range over one -/
def aVu:Code→Bool
  |.seq x y=>aVu x||aVu y
  |.block _ c|.scope c=>aVu c
  |.rangeFunc ..=>true
  |_=>false
theorem aAu{N:Nat}:∀(c:Code) {σ:St} {Q:Exit→St→Prop},aVu c=false→AWP P c σ Q→mY P N c σ Q:=by
  intro c
  induction c with
  | seq x y ihx ihy =>
    intro σ Q hr h
    simp only[aVu,FL]at hr
    refine ihx hr.1 (eY x (fun e σ h=>?_) h)
    cases e with
    |normal=>exact ihy hr.2 h
    |_=>exact h
  |block id c ih=>intro σ Q hr h;exact ih hr h
  |scope c ih=>intro σ Q hr h;exact ih hr h
  |rangeFunc=>intro σ Q hr;cases hr
  |_=>intro σ Q _ h;exact h
@[congr]theorem bVt{N:Nat}{c:Code}{σ σ':St}{Q:Exit→St→Prop}(h:σ=σ'):mY P N c σ Q=mY P N c σ' Q:=by rw[h]
theorem cQ{N:Nat}{x y:Code}{σ:St}{Q:Exit→St→Prop}(hr:aVu x=false)(h:AWP P x σ fun e σ'=>match e with|.normal=>mY P N y σ' Q|e=>Q e σ'):mY P N (.seq x y) σ Q:=by
  refine aAu x hr (eY x (fun e σ h=>?_) h)
  cases e<;>exact h
theorem aAs{N:Nat}{x y:Code}{σ:St}{Q:Exit→St→Prop}(h:mY P N x σ fun e σ'=>match e with|.normal=>mY P N y σ' Q|e=>Q e σ'):mY P N (.seq x y) σ Q:=h
theorem aAt{N:Nat}{c:Code}{σ:St}{Q:Exit→St→Prop}(h:mY P N c σ fun e σ'=>match e with|.goto _=>False|e=>Q e σ'):mY P N (.scope c) σ Q:=h
theorem rZ{N id:Nat}{c:Code}{σ:St}{Q:Exit→St→Prop}(h:mY P N c σ fun e σ'=>match e with|.exit id'=>if id'=id then Q .normal σ' else Q (.exit id') σ'|e=>Q e σ'):mY P N (.block id c) σ Q:=h
def bQn(wl:List Nat)(T:St)(σ2:St)(_:Dm (wl,T)):Prop:=∃ ρ,Wk ⟨fun t=>if wl.contains t then .any else σ2.Γ t,σ2.H,σ2.n⟩ T ρ
theorem aPq{N:Nat}{g:Operand}{ps:Array Tmp}{assign body:Code}{σ:St}{Q:Exit→St→Prop}{gf:FuncId}{cs:List AV}{caps:List D}(xs:List (List D))(T:Nat→St)(wl:List Nat)(E:Exit)(jc:Code)
    (hE:(E,jc)=(Exit.ret,Code.ret)∨∃ id,(E,jc)=(Exit.exit id,Code.exit id))
    (hg:dM (oev σ.Γ g)=some (gf,cs)) (hf:cI σ.H cs=some caps) (hseq:lW P gf caps xs) (h0:∃ ρ,Wk (lG σ (bT σ.H cs)) (T 0) ρ)
    (hc:(bH N assign&&bH N body&&bK P assign&&bK P body&&fT assign&&fT body&&fF (fun t=>!wl.contains t) assign&&fF (fun t=>!wl.contains t) body&&ps.toList.all fun p=>decide (p<N)&&wl.contains p)=true)
    (hne:0<xs.length)
    (hr0:∀ k x,k+1<xs.length→xs[k]? = some x→x.length=ps.size∧AWP P assign ⟨aBk (ps.toList.zip x) (T k).Γ,(T k).H,(T k).n⟩ fun e σ1=>match e with
      |.normal=>AWP P body σ1 fun e σ2=>match e with|.normal=>bQn wl (T (k+1)) σ2 .mk|_=>False
      |_=>False)
    (hr1:∀ k x,k+1=xs.length→xs[k]? = some x→x.length=ps.size∧AWP P assign ⟨aBk (ps.toList.zip x) (T k).Γ,(T k).H,(T k).n⟩ fun e σ1=>match e with
      |.normal=>AWP P body σ1 fun e σ2=>e=E∧bQn wl (T (k+1)) σ2 .mk
      |_=>False)
    (hq:Q E (T xs.length)):mY P N (.rangeFunc g ps assign body) σ Q:=by
  simp only[AR,AW,Bw]at hc
  obtain⟨⟨⟨⟨⟨⟨⟨⟨d1,d2⟩,l1⟩,l2⟩,r1⟩,r2⟩,z1⟩,z2⟩,hps⟩:=hc
  refine⟨gf,cs,caps,xs,T,wl,E,jc,hE,hg,hf,hseq,⟨⟨d1,d2⟩,⟨l1,l2⟩,⟨r1,r2⟩,⟨z1,z2⟩,hps,hne,fun k x hx=>?_⟩,h0,hq⟩
  have hk:=(Ao.1 hx).1
  by_cases hl:k+1=xs.length
  · refine⟨(hr1 k x hl hx).1,eY assign (fun e σ1 h=>?_) (hr1 k x hl hx).2⟩
    cases e with
    | normal =>
      refine⟨rfl,eY body (fun e σ2 h=>?_) h⟩
      rw[Ap hl];exact h
    |_=>exact h.elim
  · refine⟨(hr0 k x (by omega) hx).1,eY assign (fun e σ1 h=>?_) (hr0 k x (by omega) hx).2⟩
    cases e with
    | normal =>
      refine⟨rfl,eY body (fun e σ2 h=>?_) h⟩
      rw[Ah hl]
      cases e with
      |normal=>exact⟨rfl,h⟩
      |_=>exact h.elim
    |_=>exact h.elim
theorem pU{N:Nat}{g:Operand}{ps:Array Tmp}{assign body:Code}{σ:St}{Q:Exit→St→Prop}{gf:FuncId}{cs:List AV}{caps:List D}(xs:List (List D))(T:Nat→St)(wl:List Nat)(E:Exit)(jc:Code)
    (hE:(E,jc)=(Exit.ret,Code.ret)∨∃ id,(E,jc)=(Exit.exit id,Code.exit id))
    (hg:dM (oev σ.Γ g)=some (gf,cs)) (hf:cI σ.H cs=some caps) (hv:bT σ.H cs=[]) (hseq:lW P gf caps xs) (h0:∃ ρ,Wk σ (T 0) ρ)
    (hc:(bH N assign&&bH N body&&bK P assign&&bK P body&&fT assign&&fT body&&fF (fun t=>!wl.contains t) assign&&fF (fun t=>!wl.contains t) body&&ps.toList.all fun p=>decide (p<N)&&wl.contains p)=true)
    (hne:0<xs.length)
    (hr0:∀ k x,k+1<xs.length→xs[k]? = some x→x.length=ps.size∧AWP P assign ⟨aBk (ps.toList.zip x) (T k).Γ,(T k).H,(T k).n⟩ fun e σ1=>match e with
      |.normal=>AWP P body σ1 fun e σ2=>match e with|.normal=>bQn wl (T (k+1)) σ2 .mk|_=>False
      |_=>False)
    (hr1:∀ k x,k+1=xs.length→xs[k]? = some x→x.length=ps.size∧AWP P assign ⟨aBk (ps.toList.zip x) (T k).Γ,(T k).H,(T k).n⟩ fun e σ1=>match e with
      |.normal=>AWP P body σ1 fun e σ2=>e=E∧bQn wl (T (k+1)) σ2 .mk
      |_=>False)
    (hq:Q E (T xs.length)):mY P N (.rangeFunc g ps assign body) σ Q :=
  aPq xs T wl E jc hE hg hf hseq (by rw[hv];exact h0) hc hne hr0 hr1 hq
end Go.Am
end
section
open List renaming map_map→ζ,mapM_map→ξ
open Go Go.Am Go.Proofs
namespace Go.Am
def dnL(n m:Nat):List (List D):=(AK (n-m)).map fun k=>[.i .u64 ((n-1-k:Nat):Int)]
theorem qT(n m:Nat):(dnL n m).length=n-m:=by simp[dnL]
theorem aOy{n m k:Nat}(h:k<n-m):(dnL n m)[k]? = some [.i .u64 ((n-1-k:Nat):Int)]:=by
 simp[dnL,h]
set_option maxHeartbeats 8000000 in
set_option maxRecDepth 10000 in
theorem bPg[M:Mch Aa](n m:Nat)(h:m<n)(hn:n≤2147483648):lW Aa 178 [.pt [.i .u64 n]] (dnL n m):=by
 refine aZz (N:=15) aT Tryz.func178 rfl rfl rfl (by kernel_rfl) (by kernel_rfl) (by simp) fun l=>?_
 refine qV (by kernel_rfl) ?_
 simp[-ζ,-ξ,↓KW,↓aE,↓aB,↓aF,↓aG]
 have hmin:(if(2147483648:Int)<(n:Int)then(2147483648:Int)else(n:Int))=n:=by rw[Ah (by omega)]
 rw[hmin]
 refine nU ?_
 refine aDx (τ:=Nat) (by kernel_rfl) (fun k=>k<n-m) (fun k=>StL [(0,.d (.lit (.func (.yield l) #[] #[]))),(3,.d (.i .u64 ((n-k:Nat):Int)))] none []) (fun k=>k) (fun k=>n-k) 0 (by omega) rfl ?_ ?_
 ·refine wkQ [] ?_ ?_
  ·simp[-ζ,upd,aL,Γ0]
  ·simp[-ζ,upd,aL,Γ0]
 ·intro k hk
  have h1:0<n-k:=by omega
  have h2:AB.wrap (((n-k:Nat):Int)-1)=((n-1-k:Nat):Int):=by
   rw[show(((n-k:Nat):Int)-1)=((n-1-k:Nat):Int)from by omega]
   exact wrap_u64 (by omega) (by omega)
  refine qV (by kernel_rfl) ?_
  simp[-ζ,-ξ,↓KW,↓aE,↓aB,↓aF,↓aG,h1]
  refine uJ (P:=Aa) ?_
  refine nU ?_
  refine uJ ?_
  refine aAr (P:=Aa) (by kernel_rfl) rfl ?_
  simp[-ζ,-ξ,↓KW,↓aE,↓aB,↓aF,↓aG,h1,h2]
  have hnk:n-k-1=n-1-k:=by omega
  refine aHa (dd:=[.i .u64 ((n-1-k:Nat):Int)]) (l2:=[]) (by rfl) (by rfl) (aOy hk) (by rfl) ?_
  rw[qT]
  by_cases hl:k+1=n-m
  ·have e1:decide (k+1≠n-m)=false:=by simp[hl]
   rw[e1]
   simp[-ζ,-ξ,↓KW,↓aE,↓aB,↓aF,↓aG,lG,fin]
   refine iB _ (by kernel_rfl) ?_
   simp[-ζ,-ξ,↓KW,↓aE,↓aB,↓aF,↓aG,qT,hl]
   exact⟨_,rfl⟩
  ·have e1:decide (k+1≠n-m)=true:=by simp[hl]
   have e2:n-(k+1)=n-1-k:=by omega
   rw[e1]
   simp[-ζ,-ξ,↓KW,↓aE,↓aB,↓aF,↓aG,lG,fin]
   refine iB _ (by kernel_rfl) ?_
   simp[-ζ,-ξ,↓KW,↓aE,↓aB,↓aF,↓aG]
   refine iB _ (by kernel_rfl) ?_
   simp[-ζ,-ξ,↓KW,↓aE,↓aB,↓aF,↓aG,h2]
   refine⟨k+1,by omega,by show n-(k+1)<n-k;omega,rfl,wkQ [] ?_ ?_⟩<;>simp[-ζ,upd,aL,Γ0,e2]
theorem bFk[M:Mch Aa](n:Nat):Spec Aa 170 [.i .u64 n] (.fn 178 [.pt [.i .u64 n]]):=by
 refine bD (N:=4) Tryz.func170 ?_
 simp[-ζ,-ξ,↓KW,↓aE,↓aB,↓aF,↓aG]
set_option maxHeartbeats 8000000 in
set_option maxRecDepth 10000 in
theorem aVy[M:Mch Aa](n m:Nat)(h:m<n)(hn:n≤2147483648)(hp:∀ v:Nat,m≤v→v<n→Spec Aa 48 [.i .u64 v] (.b (decide (v=m)))) :
  Spec Aa 169 [.fn 178 [.pt [.i .u64 n]]] (.i .u64 m):=by
 refine oR (N:=9) aT Tryz.func169 rfl rfl rfl (by kernel_rfl) (by kernel_rfl) (by simp) ?_
 refine cQ (by kernel_rfl) ?_
 simp[-ζ,-ξ,↓KW,↓aE,↓aB,↓aF,↓aG]
 refine aAs ?_
 refine cQ (by kernel_rfl) ?_
 simp[-ζ,-ξ,↓KW,↓aE,↓aB,↓aF,↓aG]
 refine rZ ?_
 refine pU (dnL n m) (fun k=>StL [(2,.ptr 1 0)] none [.cells 43 [.d (.i .u64 (if k<n-m then 0 else m))]]) [3,5,6,7,8] .ret .ret (.inl rfl) (gf:=178) (caps:=[.pt [.i .u64 n]]) (by rfl) (by rfl) (by rfl) (bPg n m h hn) ?_ (by kernel_rfl) (by rw[qT];omega) ?_ ?_ ?_
 ·rw[Ap (by omega)]
  refine wkQ [1] ?_ ?_<;>simp[-ζ,upd,aL,Γ0]
 ·intro k x hk hx
  rw[qT]at hk
  rw[aOy (by omega)]at hx
  injection hx with hx;subst hx
  refine⟨rfl,?_⟩
  have hP:=hp (n-1-k) (by omega) (by omega)
  rw[decide_eq_false (by omega)]at hP
  rw[Ap (by omega),Ap (by omega)]
  show AWP _ _ ⟨upd _ 5 (.d (.i .u64 ((n-1-k:Nat):Int))),_,_⟩ _
  simp[-ζ,-ξ,↓KW,↓aE,↓aB,↓aF,↓aG]
  refine aD hP ?_
  simp[-ζ,-ξ,↓KW,↓aE,↓aB,↓aF,↓aG]
  refine wkQ [1] ?_ ?_<;>simp[-ζ,upd,aL,Γ0]
 ·intro k x hk hx
  rw[qT]at hk
  rw[aOy (by omega)]at hx
  injection hx with hx;subst hx
  refine⟨rfl,?_⟩
  have hP:=hp (n-1-k) (by omega) (by omega)
  have hm:n-1-k=m:=by omega
  rw[hm,decide_eq_true rfl]at hP
  rw[Ap (by omega),Ah (by omega),hm]
  show AWP _ _ ⟨upd _ 5 (.d (.i .u64 (m:Int))),_,_⟩ _
  simp[-ζ,-ξ,↓KW,↓aE,↓aB,↓aF,↓aG]
  refine aD hP ?_
  simp[-ζ,-ξ,↓KW,↓aE,↓aB,↓aF,↓aG]
  refine wkQ [1] ?_ ?_<;>simp[-ζ,upd,aL,Γ0]
 ·rw[qT,Ah (by omega)]
  simp[-ζ,-ξ,↓KW,↓aE,↓aB,↓aF,↓aG]
theorem aPp[M:Mch Aa](n m:Nat)(h:m<n)(hn:n≤2147483648)(hp:∀ v:Nat,m≤v→v<n→Spec Aa 48 [.i .u64 v] (.b (decide (v=m)))) :
  Spec Aa 143 [.i .u64 n] (.i .u64 m):=by
 refine bD (N:=6) Tryz.func143 ?_
 simp[-ζ,-ξ,↓KW,↓aE,↓aB,↓aF,↓aG]
 refine aD (bFk n) ?_
 simp[-ζ,-ξ,↓KW,↓aE,↓aB,↓aF,↓aG]
 refine aD (aVy n m h hn hp) ?_
 simp[-ζ,-ξ,↓KW,↓aE,↓aB,↓aF,↓aG]
theorem nZ{raw:List Nat}{n:Nat}(hn:n<raw.length)(h0:raw[n]≠0):strip (raw.take (n+1))=raw.take (n+1):=by
 refine oQ ?_
 rw[BE,Ab hn,lF,EA,List.getLast?_append]
 simp[h0]
theorem nY{raw:List Nat}{n:Nat}(hn:n<raw.length)(h0:raw[n]=0):strip (raw.take (n+1))=strip (raw.take n):=by
 rw[BE,Ab hn,h0]
 exact yM _
set_option maxRecDepth 10000 in
theorem dW[M:Mch Aa](raw:List Nat)(neg:Bool)(hl:raw.length≤1099511627776):Spec Aa 34 [aA raw,.b neg] (encI (neg&&decide (strip raw≠[])) (strip raw)):=by
 refine bD (N:=31) Tryz.func34 ?_
 simp[-ζ,-ξ,↓KW,aA]
 refine lQ (τ:={ n:Nat // n≤raw.length∧strip (raw.take n)=strip raw }) (S:=fun n=>StL [(0,.d (aA raw)),(1,.d (.b neg)),(4,.ptr 1 0),(5,.d (.i .i64 n.1))] none [.cells 40 [.d (.b false),.nil]]) (m:=fun n=>n.1) ⟨raw.length,AA _,by simp⟩ ?_ ?_
 ·refine wkQ [1] ?_ ?_
  ·simp[-ζ,upd,aL,Γ0,aA]
  ·simp[-ζ,upd,aL,Γ0]
 ·rintro⟨n,hn,hs⟩
  rcases n with _|n
  ·have hs':strip raw=[]:=hs.symm
   cases neg<;>simp[-ζ,-ξ,↓KW,aA,encI,hs',chunk]
  ·have hx:raw[n]? = some raw[n]:=Ab hn
   have hw:Al.wrap (n:Int)=n:=aU
   have hp:(0:Int)<(n:Int)+1:=by omega
   by_cases h0:raw[n]=0
   ·simp[-ζ,-ξ,↓KW,aA,hx,hw,h0,hp]
    refine⟨n,by omega,⟨by omega,(nY hn h0).symm.trans hs⟩,.inr (wkQ [1] ?_ ?_)⟩<;>simp[-ζ,upd,aL,Γ0,aA]
   ·have h1:((raw[n]:Int)==0)=false:=by simp;omega
    have he:strip raw=raw.take (n+1):=hs.symm.trans (nZ hn h0)
    have hp2:(0:Int)≤(n:Int)+1:=by omega
    have hn':(n:Int)+1≤raw.length:=by omega
    obtain⟨pre,hpre⟩:∃ pre,raw.take (n+1)=pre:=⟨_,rfl⟩
    have hpl:pre.length=n+1:=by rw[←hpre];simp;omega
    have hp1:∀ f:Nat→List D,(raw.map f).take (n+1)=pre.map f:=fun f=>by rw[←hpre,List.map_take]
    have hpn:pre≠[]:=fun e=>by rw[e]at hpl;cases hpl
    rw[hpre]at he
    have hb:(n+1)*4≤140737488355328:=by omega
    have hb2:n+1≤maxLen:=by unfold maxLen;omega
    cases neg<;>simp[-ζ,-ξ,↓KW,aA,encI,hx,hw,h1,hp,hp2,he,hn',hp1,hpl,hpn,dT hpl,cL hpl,aJu,aRo,jN,hb,hb2]
theorem cM{raw:List Nat}(h:Lim raw)(neg:Bool):encI (neg&&decide (strip raw≠[])) (strip raw)=encZ (sg neg (val raw)):=by
 rw[fI h,←bPe]
 simp[fQ]
set_option maxRecDepth 10000 in
theorem aIk[M:Mch Aa](n:Int)(h1:-9223372036854775808≤n)(h2:n<9223372036854775808):Spec Aa 13 [.i .i64 n] (encZ n):=by
 refine bD (N:=19) Tryz.func13 ?_
 have key:∀(u:Nat),u<18446744073709551616→∃ lo hi:Nat,Lim [lo,hi]∧val [lo,hi]=u∧BR.wrap (u:Int)=lo∧fJ .shr .u64 (u:Int) 32=some (.i .u64 hi)∧BR.wrap (hi:Int)=hi:=fun u hu=>by
  refine⟨u%4294967296,u/4294967296,.cons (by omega) (.one (by omega)),by simp only[val];omega,by rw[eZ];omega,?_,by rw[gJ (by omega) (by omega)]⟩
  simp only[fJ,Dt]
  rw[Ah (by decide)]
  congr 2
  rw[show(2:Int)^(min (32:Int).toNat 64)=4294967296 from by decide,Du _ (by decide)]
  omega
 by_cases hn:n<0
 ·obtain⟨u,hu⟩:∃ u:Nat,n=-(u:Int):=⟨n.natAbs,by omega⟩
  have hu2:u<18446744073709551616:=by omega
  have e1:AB.wrap n=n+18446744073709551616:=by rw[uR];omega
  have e2:AB.wrap (-(n+18446744073709551616))=(u:Int):=by rw[uR];omega
  obtain⟨lo,hi,k1,k2,e3,e4,e5⟩:=key u hu2
  simp[-ζ,-ξ,↓KW,hn,e1,e2,e3,e4,e5]
  have hm:=dW [lo,hi] true (by simp)
  rw[cM k1,k2,show sg true u=n by simp[sg];omega]at hm
  refine aZ (ds:=[aA [lo,hi],.b true]) ?_ hm ?_
  ·simp[-ζ,-ξ,↓KW,aA]
  ·simp[-ζ,-ξ,↓KW,aA,encZ,encI]
 ·obtain⟨u,rfl⟩:∃ u:Nat,n=(u:Int):=⟨n.natAbs,by omega⟩
  have hu2:u<18446744073709551616:=by omega
  have e1:AB.wrap (u:Int)=u:=wrap_u64 (by omega) (by omega)
  obtain⟨lo,hi,k1,k2,e3,e4,e5⟩:=key u hu2
  simp[-ζ,-ξ,↓KW,hn,e1,e3,e4,e5]
  have hm:=dW [lo,hi] false (by simp)
  rw[cM k1,k2,show sg false u=u by simp[sg]]at hm
  refine aZ (ds:=[aA [lo,hi],.b false]) ?_ hm ?_
  ·simp[-ζ,-ξ,↓KW,aA]
  ·simp[-ζ,-ξ,↓KW,aA,encZ,encI]
set_option maxRecDepth 10000 in
theorem bLx[M:Mch Aa](neg:Bool)(m:List Nat):Spec Aa 115 [encI neg m] (.i .i64 (if m=[]then 0 else if neg then -1 else 1)):=by
 refine bD (N:=9) Tryz.func115 ?_
 cases m with
 |nil=>simp[-ζ,-ξ,↓KW,encI,aA]
 | cons x m =>
  have h1:(((m.length:Int)+1==0):Bool)=false:=by simp;omega
  cases neg<;>simp[-ζ,-ξ,↓KW,encI,aA,h1]
theorem oY[M:Mch Aa](z:Int):Spec Aa 115 [encZ z] (.i .i64 z.sign):=by
 have:=bLx (decide (z<0)) (aJ z.natAbs)
 have e:(if aJ z.natAbs=[]then(0:Int)else if(decide (z<0))=true then -1 else 1)=z.sign:=by
  simp only[fQ]
  rcases Fj z 0 with h|h|h
  ·rw[Ah (by omega),Ap (by simpa using h),D1 h]
  ·subst h;rfl
  ·rw[Ah (by omega),Ah (by simp;omega),DU h]
 rwa [e]at this
def mO(a b:List Nat):Bool:=if a.length=b.length then decide (val a<val b)else decide (a.length<b.length)
theorem fO(x y:Nat):mO (aJ x) (aJ y)=decide (x<y):=by
 unfold mO
 by_cases h:(aJ x).length=(aJ y).length
 ·rw[Ap h,cC,cC]
 ·rw[Ah h]
  by_cases h1:(aJ x).length<(aJ y).length
  ·simp[h1,fX h1]
  ·have:=fX (a:=y) (b:=x) (by omega)
   simp only[h1,decide_false]
   simp;omega
set_option maxRecDepth 10000 in
theorem aQq[M:Mch Aa](a b:List Nat)(ha:Lim a)(hb:Lim b)(hla:a.length≤1099511627776)(hlb:b.length≤1099511627776):Spec Aa 102 [aA a,aA b] (.b (mO a b)):=by
 refine bD (N:=41) Tryz.func102 ?_
 by_cases hn:a.length=b.length
 rotate_left
 ·have h1:(((a.length:Int) != b.length):Bool)=true:=by simp;omega
  simp[-ζ,-ξ,↓KW,aA,h1,mO,hn]
 ·have h1:(((a.length:Int) != b.length):Bool)=false:=by simp;omega
  have hw:Al.wrap ((a.length:Int)-1)=(a.length:Int)-1:=aU
  simp[-ζ,-ξ,↓KW,aA,h1,hw]
  refine lQ (τ:={ k:Nat // k≤a.length∧a.drop k=b.drop k }) (S:=fun k=>StL [(0,.d (aA a)),(1,.d (aA b)),(5,.d (.i .i64 ((k.1:Int)-1)))] none []) (m:=fun k=>k.1) ⟨a.length,AA _,by rw[CO (AA _),CO (by omega)]⟩ ?_ ?_
  ·refine wkQ [] ?_ ?_<;>simp[-ζ,upd,aL,Γ0,aA]
  ·rintro⟨k,hk,hd⟩
   rcases k with _|k
   ·have e:a=b:=by simpa using hd
    subst e
    simp[-ζ,-ξ,↓KW,aA,mO]
   ·have hkb:k<b.length:=by omega
    have hxa:a[k]? = some a[k]:=Ab hk
    have hxb:b[k]? = some b[k]:=Ab hkb
    have hw2:Al.wrap ((k:Int)-1)=(k:Int)-1:=aU
    have hp:(0:Int)≤k:=by omega
    by_cases he:a[k]=b[k]
    ·have h2:(((a[k]:Int) != (b[k]:Int)):Bool)=false:=by simp[he]
     simp[-ζ,-ξ,↓KW,aA,hxa,hxb,hw2,hp,h2]
     refine⟨k,by omega,⟨by omega,?_⟩,.inr (wkQ [] ?_ ?_)⟩
     ·rw[Cv hk,Cv hkb,he,hd]
     ·simp[-ζ,upd,aL,Γ0,aA]
     ·trivial
    ·have h2:(((a[k]:Int) != (b[k]:Int)):Bool)=true:=by simp;omega
     simp[-ζ,-ξ,↓KW,aA,hxa,hxb,hw2,hp,h2,mO,hn]
     have ga:a.getD k 0=a[k]:=by rw[Ac,hxa];rfl
     have gb:b.getD k 0=b[k]:=by rw[Ac,hxb];rfl
     rcases Az a[k] b[k]with hlt|hge
     ·have:=qE ha (i:=k) hn hk hd (by rw[ga,gb];exact hlt)
      simp[hlt,this]
     ·have:=qE hb (i:=k) hn.symm hkb hd.symm (by rw[ga,gb];omega)
      omega
def plS(a b:List Nat):Nat→List Nat×Nat
 |0=>([],0)
 |i+1=>((plS a b i).1++[((plS a b i).2+a.getD i 0+b.getD i 0)%4294967296],((plS a b i).2+a.getD i 0+b.getD i 0)/4294967296)
theorem kA{a b:List Nat}(ha:Lim a)(hb:Lim b):∀ i,(plS a b i).1.length=i∧(plS a b i).2≤1∧Lim (plS a b i).1∧val (plS a b i).1+4294967296^i*(plS a b i).2=val (a.take i)+val (b.take i)
 |0=>⟨rfl,A5 _,.nil,by simp[plS,val]⟩
 | i+1=>by
  obtain⟨h1,h2,h3,h4⟩:=kA ha hb i
  have ha':=ha.getD i
  have hb':=hb.getD i
  simp only[plS]
  generalize(plS a b i).1=out at *
  generalize(plS a b i).2=c at *
  refine⟨by simp[h1],by omega,h3.app (.one (by omega)),?_⟩
  rw[jY,bW,bW,h1,BH]
  simp only[val]
  have h5:4294967296^i*((c+a.getD i 0+b.getD i 0)%4294967296)+4294967296^i*4294967296*((c+a.getD i 0+b.getD i 0)/4294967296)=4294967296^i*c+4294967296^i*a.getD i 0+4294967296^i*b.getD i 0:=by
   rw[B0,←Cd,Nat.mod_add_div,Cd,Cd]
  simp only[Dr,B8]
  omega
def plN(a b:List Nat):Nat:=if(plS a b (max a.length b.length)).2=0 then max a.length b.length else max a.length b.length+1
def zB(a b:List Nat):List Nat:=(plS a b (plN a b)).1
theorem getD_none{l:List Nat}{i:Nat}(h:¬i<l.length):l.getD i 0=0:=by rw[Ac,AX (by omega)];rfl
theorem aCr{a b:List Nat}(ha:Lim a)(hb:Lim b){i:Nat}(h1:a.length≤i)(h2:b.length≤i):(plS a b (i+1)).2=0:=by
 have h:=(kA ha hb i).2.1
 show((plS a b i).2+a.getD i 0+b.getD i 0)/4294967296=0
 rw[getD_none (l:=a) (by omega),getD_none (l:=b) (by omega)]
 omega
theorem aIr{a b:List Nat}(ha:Lim a)(hb:Lim b){i:Nat}(h1:a.length≤i)(h2:b.length≤i)(hc:(plS a b i).2=0):val (plS a b i).1=val a+val b:=by
 have h:=(kA ha hb i).2.2.2
 rw[AG h1,AG h2,hc,Dr,B8]at h
 exact h
theorem aUr{a b:List Nat}(ha:Lim a)(hb:Lim b):val (zB a b)=val a+val b∧Lim (zB a b)∧(zB a b).length≤max a.length b.length+1:=by
 unfold zB plN
 have h1:a.length≤max a.length b.length:=by omega
 have h2:b.length≤max a.length b.length:=by omega
 generalize max a.length b.length=M at *
 by_cases hc:(plS a b M).2=0
 ·rw[Ap hc]
  have h:=kA ha hb M
  exact⟨aIr ha hb h1 h2 hc,h.2.2.1,by rw[h.1];omega⟩
 ·rw[Ah hc]
  have h:=kA ha hb (M+1)
  exact⟨aIr ha hb (by omega) (by omega) (aCr ha hb h1 h2),h.2.2.1,by rw[h.1];exact AA _⟩
theorem getD_some{l:List Nat}{i:Nat}(h:i<l.length):l[i]? = some (l.getD i 0):=by rw[Ac,Ab h];rfl
set_option maxRecDepth 10000 in
theorem bLw[M:Mch Aa](a b:List Nat)(ha:Lim a)(hb:Lim b)(hla:a.length≤1099511627776)(hlb:b.length≤1099511627776):Spec Aa 158 [aA a,aA b] (aA (zB a b)):=by
 refine bD (N:=55) Tryz.func158 ?_
 simp[-ζ,-ξ,↓KW,aA]
 refine bX (fun i:Nat=>i≤max a.length b.length∨(i=max a.length b.length+1∧(plS a b (max a.length b.length)).2≠0))
  (fun i=>StL [(0,.d (aA a)),(1,.d (aA b)),(5,.own 1 0 i 1),(6,.d (.i .u64 (plS a b i).2)),(7,.d (.i .i64 i))] none [.cells 72 ((lms (plS a b i).1).map .d)]) (fun i=>max a.length b.length+1-i) 0 (.inl (A5 _)) ?_ ?_
 ·refine wkQ [1] ?_ ?_<;>simp[-ζ,upd,aL,Γ0,aA,plS,lms]
 ·intro i hi
  obtain⟨hlen,hc,_,_⟩:=kA ha hb i
  have hsucc:plS a b (i+1)=((plS a b i).1++[((plS a b i).2+a.getD i 0+b.getD i 0)%4294967296],((plS a b i).2+a.getD i 0+b.getD i 0)/4294967296):=rfl
  have hstop:(i<a.length∨i<b.length∨0<(plS a b i).2)∨i=plN a b:=by
   unfold plN
   rcases hi with hi|⟨hi,hc⟩
   ·by_cases h1:i=max a.length b.length
    ·subst h1
     by_cases h2:(plS a b (max a.length b.length)).2=0
     ·rw[Ap h2];exact .inr rfl
     ·exact .inl (.inr (.inr (by omega)))
    ·exact .inl (by omega)
   ·rw[Ah hc];exact .inr hi
  have hnext:(i<a.length∨i<b.length∨0<(plS a b i).2)→i≤max a.length b.length∧(i+1≤max a.length b.length∨(i+1=max a.length b.length+1∧(plS a b (max a.length b.length)).2≠0)):=by
   intro h
   rcases hi with hi|⟨hi,hc2⟩
   ·refine⟨hi,?_⟩
    by_cases h1:i=max a.length b.length
    ·subst h1;exact .inr ⟨rfl,by omega⟩
    ·exact .inl (by omega)
   ·exfalso
    have e:(plS a b i).2=0:=by
     rw[hi];exact aCr ha hb (by omega) (by omega)
    omega
  have hal:=ha.getD i
  have hbl:=hb.getD i
  have hres:i=plN a b→(plS a b i).1=zB a b:=fun e=>by rw[e];rfl
  generalize hout:(plS a b i).1=out at *
  generalize hcar:(plS a b i).2=c at *
  by_cases hgo:i<a.length∨i<b.length∨0<c
  ·obtain⟨hi1,hi2⟩:=hnext hgo
   have hb1:(i+1)*4≤140737488355328:=by omega
   have hb2:i+1≤maxLen:=by unfold maxLen;omega
   have hw7:Al.wrap ((i:Int)+1)=(i:Int)+1:=aU
   have hpos:(0:Int)≤i:=by omega
   obtain⟨s1,hs1⟩:∃ s1:Nat,c+a.getD i 0=s1:=⟨_,rfl⟩
   obtain⟨s2,hs2⟩:∃ s2:Nat,s1+b.getD i 0=s2:=⟨_,rfl⟩
   rw[hs1,hs2]at hsucc
   have hw1:AB.wrap ((c:Int)+((a.getD i 0:Nat):Int))=s1:=by rw[wrap_u64 (by omega) (by omega)];omega
   have hw2:AB.wrap ((s1:Int)+((b.getD i 0:Nat):Int))=s2:=by rw[wrap_u64 (by omega) (by omega)];omega
   have hwa:AB.wrap ((a.getD i 0:Nat):Int)=((a.getD i 0:Nat):Int):=wrap_u64 (by omega) (by omega)
   have hwb:AB.wrap ((b.getD i 0:Nat):Int)=((b.getD i 0:Nat):Int):=wrap_u64 (by omega) (by omega)
   obtain⟨lo,hlo⟩:∃ lo:Nat,s2%4294967296=lo:=⟨_,rfl⟩
   obtain⟨hi',hhi⟩:∃ hi':Nat,s2/4294967296=hi':=⟨_,rfl⟩
   have hw3:BR.wrap (s2:Int)=lo:=by rw[eZ];omega
   have hw4:AB.wrap ((s2:Int).tdiv 4294967296)=hi':=by
    rw[Int.tdiv_eq_ediv_of_nonneg (by omega),wrap_u64 (by omega) (by omega)];omega
   have hw4':AB.wrap ((s2:Int)/4294967296)=hi':=by rw[wrap_u64 (by omega) (by omega)];omega
   rw[hlo,hhi]at hsucc
   have hcase:(a.getD i 0=0∧¬i<a.length)∨i<a.length:=by
    by_cases h:i<a.length
    ·exact .inr h
    ·exact .inl ⟨getD_none h,h⟩
   have hcase2:(b.getD i 0=0∧¬i<b.length)∨i<b.length:=by
    by_cases h:i<b.length
    ·exact .inr h
    ·exact .inl ⟨getD_none h,h⟩
   rcases hcase with ⟨ha0,han⟩|han<;>rcases hcase2 with ⟨hb0,hbn⟩|hbn
   ·have q1:¬(i:Int)<a.length:=by omega
    have q2:¬(i:Int)<b.length:=by omega
    have q3:0<c:=by omega
    rw[ha0]at hs1;rw[hb0]at hs2
    have e2:s2=c:=by omega
    rw[e2]at hw3 hw4 hw4'
    simp[-ζ,-ξ,↓KW,aA,q1,q2,q3,hw3,hw4,hw7,hb1,hb2,hlen]
    refine aK (i+1) hi2 ?_ (wkQ [3] ?_ ?_)
    ·omega
    ·simp[-ζ,upd,aL,Γ0,aA,hsucc,dY,eH,hw4']
    ·simp[-ζ,upd,aL,Γ0,aA,hsucc,dY,eH]
   ·have q1:¬(i:Int)<a.length:=by omega
    have q2:(i:Int)<b.length:=by omega
    rw[ha0]at hs1
    have e1:s1=c:=by omega
    have g2:=getD_some hbn
    rw[e1]at hw2
    generalize b.getD i 0=y at *
    simp[-ζ,-ξ,↓KW,aA,q1,q2,g2,hwb,hw2,hw3,hw4,hw7,hb1,hb2,hlen]
    refine aK (i+1) hi2 ?_ (wkQ [3] ?_ ?_)
    ·omega
    ·simp[-ζ,upd,aL,Γ0,aA,hsucc,dY,eH,hw4']
    ·simp[-ζ,upd,aL,Γ0,aA,hsucc,dY,eH]
   ·have q1:(i:Int)<a.length:=by omega
    have q2:¬(i:Int)<b.length:=by omega
    rw[hb0]at hs2
    have e2:s2=s1:=by omega
    have g1:=getD_some han
    rw[e2]at hw3 hw4 hw4'
    generalize a.getD i 0=x at *
    simp[-ζ,-ξ,↓KW,aA,q1,q2,g1,hwa,hw1,hw3,hw4,hw7,hb1,hb2,hlen]
    refine aK (i+1) hi2 ?_ (wkQ [3] ?_ ?_)
    ·omega
    ·simp[-ζ,upd,aL,Γ0,aA,hsucc,dY,eH,hw4']
    ·simp[-ζ,upd,aL,Γ0,aA,hsucc,dY,eH]
   ·have q1:(i:Int)<a.length:=by omega
    have q2:(i:Int)<b.length:=by omega
    have g1:=getD_some han
    have g2:=getD_some hbn
    generalize a.getD i 0=x at *
    generalize b.getD i 0=y at *
    simp[-ζ,-ξ,↓KW,aA,q1,q2,g1,g2,hwa,hwb,hw1,hw2,hw3,hw4,hw7,hb1,hb2,hlen]
    refine aK (i+1) hi2 ?_ (wkQ [3] ?_ ?_)
    ·omega
    ·simp[-ζ,upd,aL,Γ0,aA,hsucc,dY,eH,hw4']
    ·simp[-ζ,upd,aL,Γ0,aA,hsucc,dY,eH]
  ·have e:=hstop.resolve_left hgo
   have h1:¬(i:Int)<a.length:=by omega
   have h2:¬(i:Int)<b.length:=by omega
   have h3:c=0:=by omega
   have h4:=hres e
   subst h3
   simp[-ζ,-ξ,↓KW,aA,h1,h2,hlen,dT hlen,cL hlen,←h4]
def miS(a b:List Nat):Nat→List Nat×Nat
 |0=>([],0)
 |i+1=>if(miS a b i).2+b.getD i 0≤a.getD i 0 then((miS a b i).1++[a.getD i 0-((miS a b i).2+b.getD i 0)],0)else((miS a b i).1++[a.getD i 0+4294967296-((miS a b i).2+b.getD i 0)],1)
theorem aDd{p o vb va x y c z:Nat}(h4:o+vb=va+p*c)(hx:x=z+(c+y)):o+p*z+(vb+p*y)=va+p*x:=by
 subst hx;rw[Cd,Cd];omega
theorem aVg{p o vb va x y c z k:Nat}(h4:o+vb=va+p*c)(hx:x+k=z+(c+y)):o+p*z+(vb+p*y)=va+p*x+p*k:=by
 have:=aDd (p:=p) (x:=x+k) h4 hx
 rw[Cd]at this;omega
theorem bNa{p va vb i:Nat}{out:List Nat}{c x y z:Nat}(hz:x=z+(c+y))(hl:z<4294967296)(h1:out.length=i)(hp:4294967296^i=p)(h3:Lim out)(h4:val out+vb=va+p*c) :
  (out++[z]).length=i+1∧Lim (out++[z])∧val (out++[z])+(vb+p*y)=va+p*x:=by
 refine⟨by simp[h1],h3.app (.one hl),?_⟩
 simp only[jY,val,Dr,B8,h1,hp]
 exact aDd h4 hz
theorem bNb{p va vb i:Nat}{out:List Nat}{c x y z k:Nat}(hz:x+k=z+(c+y))(hl:z<4294967296)(h1:out.length=i)(hp:4294967296^i=p)(h3:Lim out)(h4:val out+vb=va+p*c) :
  (out++[z]).length=i+1∧Lim (out++[z])∧val (out++[z])+(vb+p*y)=va+p*x+p*k:=by
 refine⟨by simp[h1],h3.app (.one hl),?_⟩
 simp only[jY,val,Dr,B8,h1,hp]
 exact aVg h4 hz
theorem aJn(a b:List Nat)(i:Nat):miS a b (i+1)=if(miS a b i).2+b.getD i 0≤a.getD i 0 then((miS a b i).1++[a.getD i 0-((miS a b i).2+b.getD i 0)],0)else((miS a b i).1++[a.getD i 0+4294967296-((miS a b i).2+b.getD i 0)],1):=rfl
theorem bHh{a b:Nat}(q:Nat)(h:a=b):a=b+q*0:=by rw[Dr,B8];exact h
theorem bHg{a b:Nat}(q:Nat)(h:a=b+q):a=b+q*1:=by rw[CJ];exact h
theorem aFt{a b:List Nat}(ha:Lim a)(hb:Lim b)(i:Nat):(miS a b i).1.length=i∧(miS a b i).2≤1∧Lim (miS a b i).1∧val (miS a b i).1+val (b.take i)=val (a.take i)+4294967296^i*(miS a b i).2:=by
 induction i with
 |zero=>exact⟨rfl,A5 _,.nil,by simp[miS,val]⟩
 | succ i ih =>
  obtain⟨h1,h2,h3,h4⟩:=ih
  have hx:=ha.getD i
  have hy:=hb.getD i
  rw[bW,bW,BH,aJn]
  generalize(miS a b i).1=out at *
  generalize(miS a b i).2=c at *
  generalize a.getD i 0=x at *
  generalize b.getD i 0=y at *
  generalize hp:4294967296^i=p at *
  by_cases h:c+y≤x
  ·rw[Ap h]
   obtain⟨z,hz,hz'⟩:∃ z,x-(c+y)=z∧x=z+(c+y):=⟨_,rfl,(Nat.sub_add_cancel h).symm⟩
   rw[hz];clear hz
   obtain⟨q1,q2,q3⟩:=bNa hz' (by omega) h1 hp h3 h4
   exact⟨q1,A5 _,q2,bHh _ q3⟩
  ·rw[Ah h]
   obtain⟨z,hz,hz'⟩:∃ z,x+4294967296-(c+y)=z∧x+4294967296=z+(c+y):=⟨_,rfl,(Nat.sub_add_cancel (by omega)).symm⟩
   rw[hz];clear hz
   obtain⟨q1,q2,q3⟩:=bNb hz' (by omega) h1 hp h3 h4
   exact⟨q1,AA _,q2,bHg _ q3⟩
def mC(a b:List Nat):List Nat:=(miS a b a.length).1
theorem nH{a b:List Nat}(ha:Lim a)(hb:Lim b)(hl:b.length≤a.length)(hv:val b≤val a):val (mC a b)=val a-val b∧Lim (mC a b)∧(mC a b).length=a.length:=by
 obtain⟨h1,h2,h3,h4⟩:=aFt ha hb a.length
 rw[AG hl,AG (AA _)]at h4
 refine⟨?_,h3,h1⟩
 have hlt:=oO h3
 rw[h1]at hlt
 unfold mC
 generalize(miS a b a.length).1=out at *
 generalize(miS a b a.length).2=c at *
 rcases Az 0 c with hc|hc
 ·have:c=1:=by omega
  rw[this,CJ]at h4;omega
 ·have:c=0:=by omega
  rw[this,Dr]at h4;omega
set_option maxRecDepth 10000 in
theorem aIi[M:Mch Aa](a b:List Nat)(ha:Lim a)(hb:Lim b)(hla:a.length≤1099511627776)(_hlb:b.length≤1099511627776):Spec Aa 159 [aA a,aA b] (aA (mC a b)):=by
 refine bD (N:=44) Tryz.func159 ?_
 simp[-ζ,-ξ,↓KW,aA]
 refine bX (fun i:Nat=>i≤a.length)
  (fun i=>StL [(0,.d (aA a)),(1,.d (aA b)),(5,.own 1 0 i 1),(6,.d (.i .i64 (miS a b i).2)),(7,.d (.i .i64 i))] none [.cells 72 ((lms (miS a b i).1).map .d)]) (fun i=>a.length-i) 0 (A5 _) ?_ ?_
 ·refine wkQ [1] ?_ ?_<;>simp[-ζ,upd,aL,Γ0,aA,miS,lms]
 ·intro i hi
  obtain⟨hlen,hc,_,_⟩:=aFt ha hb i
  have hsucc:miS a b (i+1)=if(miS a b i).2+b.getD i 0≤a.getD i 0 then((miS a b i).1++[a.getD i 0-((miS a b i).2+b.getD i 0)],0)else((miS a b i).1++[a.getD i 0+4294967296-((miS a b i).2+b.getD i 0)],1):=rfl
  have hal:=ha.getD i
  have hbl:=hb.getD i
  have hres:i=a.length→(miS a b i).1=mC a b:=fun e=>by rw[e];rfl
  generalize hout:(miS a b i).1=out at *
  generalize hcar:(miS a b i).2=c at *
  by_cases hgo:i<a.length
  ·have hb1:(i+1)*4≤140737488355328:=by omega
   have hb2:i+1≤maxLen:=by unfold maxLen;omega
   have hw7:Al.wrap ((i:Int)+1)=(i:Int)+1:=aU
   have q1:(i:Int)<a.length:=by omega
   have g1:=getD_some hgo
   have hb0:¬i<b.length→b.getD i 0=0:=getD_none
   have g2:i<b.length→b[i]? = some (b.getD i 0):=getD_some
   generalize a.getD i 0=x at *
   generalize b.getD i 0=y at *
   have hwx:Al.wrap (x:Int)=x:=aU
   have hwy:Al.wrap (y:Int)=y:=aU
   obtain⟨d1,hd1⟩:∃ d1:Int,(x:Int)-c=d1:=⟨_,rfl⟩
   obtain⟨d,hd⟩:∃ d:Int,d1-y=d:=⟨_,rfl⟩
   have hw1:Al.wrap ((x:Int)-c)=d1:=by rw[aU];exact hd1
   have hw2:Al.wrap (d1-y)=d:=by rw[aU];exact hd
   by_cases hneg:d<0
   ·rw[Ah (by omega)]at hsucc
    obtain⟨lo,hlo⟩:∃ lo:Nat,x+4294967296-(c+y)=lo:=⟨_,rfl⟩
    rw[hlo]at hsucc
    have hw3:Al.wrap (d+4294967296)=lo:=by rw[aU];omega
    have hw4:BR.wrap (lo:Int)=lo:=gJ (by omega) (by omega)
    by_cases hbn:i<b.length
    ·have q2:(i:Int)<b.length:=by omega
     have g3:=g2 hbn
     simp[-ζ,-ξ,↓KW,aA,q1,q2,g1,g3,hwx,hwy,hw1,hw2,hw3,hw4,hneg,hw7,hb1,hb2,hlen]
     refine aK (i+1) hgo ?_ (wkQ [3] ?_ ?_)
     ·omega
     ·simp[-ζ,upd,aL,Γ0,aA,hsucc,dY,eH]
     ·simp[-ζ,upd,aL,Γ0,aA,hsucc,dY,eH]
    ·have q2:¬(i:Int)<b.length:=by omega
     have e1:d1=d:=by have:=hb0 hbn;omega
     rw[e1]at hw1
     simp[-ζ,-ξ,↓KW,aA,q1,q2,g1,hwx,hw1,hw3,hw4,hneg,hw7,hb1,hb2,hlen]
     refine aK (i+1) hgo ?_ (wkQ [3] ?_ ?_)
     ·omega
     ·simp[-ζ,upd,aL,Γ0,aA,hsucc,dY,eH]
     ·simp[-ζ,upd,aL,Γ0,aA,hsucc,dY,eH]
   ·rw[Ap (by omega)]at hsucc
    obtain⟨lo,hlo⟩:∃ lo:Nat,x-(c+y)=lo:=⟨_,rfl⟩
    rw[hlo]at hsucc
    have e0:d=lo:=by omega
    rw[e0]at hw2 hneg
    have hw4:BR.wrap (lo:Int)=lo:=gJ (by omega) (by omega)
    by_cases hbn:i<b.length
    ·have q2:(i:Int)<b.length:=by omega
     have g3:=g2 hbn
     simp[-ζ,-ξ,↓KW,aA,q1,q2,g1,g3,hwx,hwy,hw1,hw2,hw4,hneg,hw7,hb1,hb2,hlen]
     refine aK (i+1) hgo ?_ (wkQ [3] ?_ ?_)
     ·omega
     ·simp[-ζ,upd,aL,Γ0,aA,hsucc,dY,eH]
     ·simp[-ζ,upd,aL,Γ0,aA,hsucc,dY,eH]
    ·have q2:¬(i:Int)<b.length:=by omega
     have e1:d1=lo:=by have:=hb0 hbn;omega
     rw[e1]at hw1
     simp[-ζ,-ξ,↓KW,aA,q1,q2,g1,hwx,hw1,hw4,hneg,hw7,hb1,hb2,hlen]
     refine aK (i+1) hgo ?_ (wkQ [3] ?_ ?_)
     ·omega
     ·simp[-ζ,upd,aL,Γ0,aA,hsucc,dY,eH]
     ·simp[-ζ,upd,aL,Γ0,aA,hsucc,dY,eH]
  ·have e:i=a.length:=by omega
   have h1:¬(i:Int)<a.length:=by omega
   have h4:=hres e
   simp[-ζ,-ξ,↓KW,aA,h1,hlen,dT hlen,cL hlen,←h4]
set_option maxRecDepth 10000 in
theorem xM[M:Mch Aa](x y:Int)(hx:(aJ x.natAbs).length≤549755813888)(hy:(aJ y.natAbs).length≤549755813888):Spec Aa 117 [encZ x,encZ y] (encZ (x+y)):=by
 refine bD (N:=39) Tryz.func117 ?_
 have la:=bU x.natAbs
 have lb:=bU y.natAbs
 have va:=cC x.natAbs
 have vb:=cC y.natAbs
 have hless:(aJ x.natAbs).length<(aJ y.natAbs).length→x.natAbs<y.natAbs:=fX
 have hless2:(aJ y.natAbs).length<(aJ x.natAbs).length→y.natAbs<x.natAbs:=fX
 have hl:=aQq _ _ la lb (by omega) (by omega)
 rw[fO]at hl
 have sx:=fA x
 have sy:=fA y
 have ex:encZ x=.ag [.b (decide (x<0)),aA (aJ x.natAbs)]:=rfl
 have ey:encZ y=.ag [.b (decide (y<0)),aA (aJ y.natAbs)]:=rfl
 rw[ex,ey]
 generalize aJ x.natAbs=a at *
 generalize aJ y.natAbs=b at *
 generalize hbx:decide (x<0)=nx at *
 generalize hby:decide (y<0)=ny at *
 by_cases hn:nx=ny
 ·have h1:(nx==ny)=true:=by simpa using hn
  simp[-ζ,-ξ,↓KW,aA,h1]
  obtain⟨pv,pl,pn⟩:=aUr la lb
  refine aD (bLw a b la lb (by omega) (by omega)) ?_
  simp[-ζ,-ξ,↓KW,aA]
  have hm:=dW (zB a b) nx (by omega)
  rw[cM pl,pv,va,vb]at hm
  refine aD hm ?_
  have e:sg nx (x.natAbs+y.natAbs)=x+y:=by
   rw[←sx,←sy,←hn];cases nx<;>simp[sg]<;>omega
  rw[e]
  simp[-ζ,-ξ,↓KW,aA,encZ,encI]
 ·have h1:(nx==ny)=false:=by simpa using hn
  simp[-ζ,-ξ,↓KW,aA,h1]
  refine aD hl ?_
  by_cases hlt:x.natAbs<y.natAbs
  ·simp[-ζ,-ξ,↓KW,aA,hlt]
   obtain⟨pv,pl,pn⟩:=nH lb la (by omega) (by omega)
   refine aD (aIi b a lb la (by omega) (by omega)) ?_
   simp[-ζ,-ξ,↓KW,aA]
   have hm:=dW (mC b a) ny (by omega)
   rw[cM pl,pv,va,vb]at hm
   refine aD hm ?_
   have e:sg ny (y.natAbs-x.natAbs)=x+y:=by
    rw[←sx,←sy]
    cases nx<;>cases ny<;>simp[sg]at hn ⊢<;>omega
   rw[e]
   simp[-ζ,-ξ,↓KW,aA,encZ,encI]
  ·simp[-ζ,-ξ,↓KW,aA,hlt]
   obtain⟨pv,pl,pn⟩:=nH la lb (by omega) (by omega)
   refine aD (aIi a b la lb (by omega) (by omega)) ?_
   simp[-ζ,-ξ,↓KW,aA]
   have hm:=dW (mC a b) nx (by omega)
   rw[cM pl,pv,va,vb]at hm
   refine aD hm ?_
   have e:sg nx (x.natAbs-y.natAbs)=x+y:=by
    rw[←sx,←sy]
    cases nx<;>cases ny<;>simp[sg]at hn ⊢<;>omega
   rw[e]
   simp[-ζ,-ξ,↓KW,aA,encZ,encI]
theorem aEk{l:List Nat}{j:Nat}(h:j<l.length)(v:Nat):val (l.set j v)+4294967296^j*l.getD j 0=val l+4294967296^j*v:=by
 induction l generalizing j with
 |nil=>simp at h
 | cons x l ih =>
  cases j with
  |zero=>simp only[DG,val,Db,CE,List.getD_cons_zero];omega
  | succ j =>
   have:=ih (j:=j) (by simpa using h)
   simp only[List.set_cons_succ,val,List.getD_cons_succ,BH]
   generalize 4294967296^j=p at *
   generalize l.getD j 0=o at *
   generalize val (l.set j v)=w at *
   rw[BJ p,B0,B0]
   generalize p*o=e1 at *
   generalize p*v=e2 at *
   omega
def muI(out:List Nat)(x:Nat)(b:List Nat)(i:Nat):Nat→List Nat×Nat
 |0=>(out,0)
 |k+1=>((muI out x b i k).1.set (i+k) (((muI out x b i k).2+(muI out x b i k).1.getD (i+k) 0+x*b.getD k 0)%4294967296),((muI out x b i k).2+(muI out x b i k).1.getD (i+k) 0+x*b.getD k 0)/4294967296)
def muN(out:List Nat)(x:Nat)(b:List Nat)(i:Nat):Nat:=if(muI out x b i b.length).2=0 then b.length else b.length+1
def muO(a b:List Nat):Nat→List Nat
 |0=>As (a.length+b.length+1) 0
 |i+1=>(muI (muO a b i) (a.getD i 0) b i (muN (muO a b i) (a.getD i 0) b i)).1
theorem bCo{P v v' o c t q r e w k:Nat}(hs:v'+P*o=v+P*r)(ht:r+k*q=t)(ht2:c+o+e=t)(hv:v+P*c=w):v'+P*k*q=w+P*e:=by
 have h1:P*t=P*r+P*(k*q):=by rw[←ht,Cd]
 have h2:P*t=P*c+P*o+P*e:=by rw[←ht2,Cd,Cd]
 rw[B0]
 omega
theorem aNu{c o x y:Nat}(hc:c<4294967296)(ho:o<4294967296)(hx:x<4294967296)(hy:y<4294967296):c+o+x*y<18446744073709551616:=by
 have:x*y≤4294967295*4294967295:=A3 (by omega) (by omega)
 omega
theorem qM{out b:List Nat}{x i:Nat}(ho:Lim out)(hb:Lim b)(hx:x<4294967296)(hl:i+b.length<out.length)(k:Nat)(hk:k≤b.length+1) :
  (muI out x b i k).1.length=out.length∧(muI out x b i k).2<4294967296∧Lim (muI out x b i k).1∧val (muI out x b i k).1+4294967296^(i+k)*(muI out x b i k).2=val out+4294967296^i*(x*val (b.take k)):=by
 induction k with
 |zero=>exact⟨rfl,Nat.zero_lt_of_lt hx,ho,by simp[muI,val]⟩
 | succ k ih =>
  obtain⟨h1,h2,h3,h4⟩:=ih (by omega)
  have hy:=hb.getD k
  have hoo:=h3.getD (i+k)
  have hset:=aEk (l:=(muI out x b i k).1) (j:=i+k) (by omega) (((muI out x b i k).2+(muI out x b i k).1.getD (i+k) 0+x*b.getD k 0)%4294967296)
  have hlim:=aNu h2 hoo hx hy
  rw[bW]
  simp only[muI]
  generalize(muI out x b i k).1=out' at *
  generalize(muI out x b i k).2=c at *
  generalize out'.getD (i+k) 0=o at *
  generalize b.getD k 0=y at *
  refine⟨by simp[h1],by omega,h3.set _ (by omega),?_⟩
  have:=bCo hset (Nat.mod_add_div _ _) rfl h4
  rw[←DW i k 1,BH,this,Es,Cd,Cd,B0,DW]
  congr 2
  rw[Fl x]
theorem aJl{out b:List Nat}{x i:Nat}(ho:Lim out)(hb:Lim b)(hx:x<4294967296)(hl:i+b.length<out.length)(hv:val out<4294967296^(i+b.length)):(muI out x b i (b.length+1)).2=0:=by
 obtain⟨_,_,_,h4⟩:=qM ho hb hx hl (b.length+1) (AA _)
 rw[AG (by omega)]at h4
 have hbv:=oO hb
 rcases Bb (muI out x b i (b.length+1)).2 with h|h
 ·exact h
 exfalso
 have e1:4294967296^(i+(b.length+1))*1≤4294967296^(i+(b.length+1))*(muI out x b i (b.length+1)).2:=Cn _ h
 have e2:x*val b≤4294967295*4294967296^b.length:=A3 (by omega) (by omega)
 have e3:4294967296^i*(x*val b)≤4294967296^i*(4294967295*4294967296^b.length):=Cn _ e2
 have e4:4294967296^i*(4294967295*4294967296^b.length)=4294967295*4294967296^(i+b.length):=by rw[Es,Fl]
 have e5:4294967296^(i+(b.length+1))=4294967296^(i+b.length)*4294967296:=by rw[←DW,BH]
 rw[CJ,e5]at e1
 rw[e5]at h4
 rw[e4]at e3
 generalize 4294967296^(i+b.length)=p at *
 generalize 4294967296^i*(x*val b)=q at *
 generalize(muI out x b i (b.length+1)).2=c at *
 generalize p*4294967296*c=d at *
 omega
theorem bMx{out b:List Nat}{x i:Nat}(ho:Lim out)(hb:Lim b)(hx:x<4294967296)(hl:i+b.length<out.length)(hv:val out<4294967296^(i+b.length)) :
  (muI out x b i (muN out x b i)).1.length=out.length∧Lim (muI out x b i (muN out x b i)).1∧val (muI out x b i (muN out x b i)).1=val out+4294967296^i*(x*val b):=by
 unfold muN
 have hstop:=aJl ho hb hx hl hv
 by_cases h:(muI out x b i b.length).2=0
 ·rw[Ap h]
  obtain⟨h1,_,h3,h4⟩:=qM ho hb hx hl b.length (by omega)
  rw[AG (by omega),h,Dr,B8]at h4
  exact⟨h1,h3,h4⟩
 ·rw[Ah h]
  obtain⟨h1,_,h3,h4⟩:=qM ho hb hx hl (b.length+1) (AA _)
  rw[AG (by omega),hstop,Dr,B8]at h4
  exact⟨h1,h3,h4⟩
theorem aNv{a b:List Nat}(ha:Lim a)(hb:Lim b){i:Nat}(hi:i≤a.length):val (a.take i)*val b<4294967296^(i+b.length):=by
 have h1:=oO (ha.take i)
 rw[Be,Nat.min_eq_left hi]at h1
 have h2:=oO hb
 rw[Es]
 exact Nat.mul_lt_mul'' h1 h2
theorem bMw{a b:List Nat}(ha:Lim a)(hb:Lim b)(i:Nat)(hi:i≤a.length):(muO a b i).length=a.length+b.length+1∧Lim (muO a b i)∧val (muO a b i)=val (a.take i)*val b:=by
 induction i with
 |zero=>exact⟨by simp[muO],.rep _,by simp[muO,xH,val]⟩
 | succ i ih =>
  obtain⟨h1,h2,h3⟩:=ih (by omega)
  have hv:=aNv ha hb (i:=i) (by omega)
  rw[←h3]at hv
  obtain⟨q1,q2,q3⟩:=bMx (x:=a.getD i 0) (i:=i) h2 hb (ha.getD i) (by omega) hv
  refine⟨q1.trans h1,q2,?_⟩
  show val (muI (muO a b i) (a.getD i 0) b i (muN (muO a b i) (a.getD i 0) b i)).1=_
  rw[q3,h3,bW,BV,B0]
set_option maxRecDepth 10000 in
theorem lP[M:Mch Aa](x y:Int)(hx:(aJ x.natAbs).length≤137438953472)(hy:(aJ y.natAbs).length≤137438953472):Spec Aa 122 [encZ x,encZ y] (encZ (x*y)):=by
 refine bD (N:=81) Tryz.func122 ?_
 have la:=bU x.natAbs
 have lb:=bU y.natAbs
 have va:=cC x.natAbs
 have vb:=cC y.natAbs
 have sx:=fA x
 have sy:=fA y
 have ex:encZ x=.ag [.b (decide (x<0)),aA (aJ x.natAbs)]:=rfl
 have ey:encZ y=.ag [.b (decide (y<0)),aA (aJ y.natAbs)]:=rfl
 rw[ex,ey]
 generalize aJ x.natAbs=a at *
 generalize aJ y.natAbs=b at *
 generalize hbx:decide (x<0)=nx at *
 generalize hby:decide (y<0)=ny at *
 obtain⟨n,hn⟩:∃ n,a.length+b.length+1=n:=⟨_,rfl⟩
 have hw1:Al.wrap ((a.length:Int)+b.length)=(a.length:Int)+b.length:=aU
 have hw2:Al.wrap ((a.length:Int)+b.length+1)=(n:Int):=by rw[aU];omega
 have hm1:(4:Int)*n≤281474976710656:=by omega
 have hm2:(n:Int)≤9223372036854775807:=by omega
 have h00:muO a b 0=As n 0:=by rw[←hn];rfl
 simp[-ζ,-ξ,↓KW,aA,hw1,hw2,hm1,hm2]
 refine bX (fun i:Nat=>i≤a.length)
  (fun i=>StL [(2,.ptr 1 0),(3,.ptr 2 0),(4,.ptr 3 0),(5,.own 4 0 n 1),(6,.d (.i .i64 i))] none
   [.cells 40 [.d (.b nx),.d (aA a)],.cells 40 [.d (.b ny),.d (aA b)],.cells 40 [.d (.b false),.nil],.cells 72 ((lms (muO a b i)).map .d)]) (fun i=>a.length-i) 0 (A5 _) ?_ ?_
 ·refine wkQ [1,2,3,4] ?_ ?_<;>simp[-ζ,upd,aL,Γ0,aA,h00]
 ·intro i hi
  obtain⟨ol,om,ov⟩:=bMw la lb i hi
  rw[hn]at ol
  by_cases hgo:i<a.length
  ·have q1:(i:Int)<a.length:=by omega
   simp[-ζ,-ξ,↓KW,aA,q1]
   have hsucc:muO a b (i+1)=(muI (muO a b i) (a.getD i 0) b i (muN (muO a b i) (a.getD i 0) b i)).1:=rfl
   have g1:=getD_some hgo
   have hlt:=aNv la lb hi
   rw[←ov]at hlt
   generalize hout:muO a b i=out at *
   have hal:=la.getD i
   generalize a.getD i 0=xv at *
   have hwx:AB.wrap (xv:Int)=xv:=wrap_u64 (by omega) (by omega)
   refine bX (fun k:Nat=>k≤b.length∨(k=b.length+1∧(muI out xv b i b.length).2≠0))
    (fun k=>StL [(2,.ptr 1 0),(3,.ptr 2 0),(4,.ptr 3 0),(5,.own 4 0 n 1),(6,.d (.i .i64 i)),(7,.d (.i .u64 (muI out xv b i k).2)),(8,.d (.i .i64 k))] none
     [.cells 40 [.d (.b nx),.d (aA a)],.cells 40 [.d (.b ny),.d (aA b)],.cells 40 [.d (.b false),.nil],.cells 72 ((lms (muI out xv b i k).1).map .d)]) (fun k=>b.length+1-k) 0 (.inl (A5 _)) ?_ ?_
   ·refine wkQ [1,2,3,4] ?_ ?_<;>simp[-ζ,upd,aL,Γ0,aA,muI]
   ·intro k hk
    have hkl:k≤b.length+1:=by omega
    obtain⟨il,ic,im,_⟩:=qM om lb hal (i:=i) (by omega) k hkl
    have isucc:muI out xv b i (k+1)=((muI out xv b i k).1.set (i+k) (((muI out xv b i k).2+(muI out xv b i k).1.getD (i+k) 0+xv*b.getD k 0)%4294967296),((muI out xv b i k).2+(muI out xv b i k).1.getD (i+k) 0+xv*b.getD k 0)/4294967296):=rfl
    have hstop0:=aJl om lb hal (i:=i) (by omega) hlt
    have hres:(k<b.length∨0<(muI out xv b i k).2)∨muO a b (i+1)=(muI out xv b i k).1:=by
     rw[hsucc];unfold muN
     rcases hk with hk|⟨hk,hc⟩
     ·by_cases h1:k=b.length
      ·subst h1
       by_cases h2:(muI out xv b i b.length).2=0
       ·rw[Ap h2];exact .inr rfl
       ·exact .inl (.inr (by omega))
      ·exact .inl (.inl (by omega))
     ·rw[Ah hc,hk];exact .inr rfl
    have hnext:(k<b.length∨0<(muI out xv b i k).2)→k≤b.length∧(k+1≤b.length∨(k+1=b.length+1∧(muI out xv b i b.length).2≠0)):=by
     intro h
     rcases hk with hk|⟨hk,hc⟩
     ·refine⟨hk,?_⟩
      by_cases h1:k=b.length
      ·subst h1;exact .inr ⟨rfl,by omega⟩
      ·exact .inl (by omega)
     ·rw[hk,hstop0]at h;omega
    clear hstop0 hsucc
    have ho:=im.getD (i+k)
    generalize hcar:(muI out xv b i k).2=c at *
    generalize hcur:(muI out xv b i k).1=cur at *
    by_cases hg2:k<b.length∨0<c
    ·obtain⟨n1,n2⟩:=hnext hg2
     obtain⟨j,hj⟩:∃ j,i+k=j:=⟨_,rfl⟩
     rw[hj]at isucc ho
     have hjl:j<cur.length:=by omega
     have g2:=aRn (getD_some hjl)
     have hwj:Al.wrap ((i:Int)+k)=j:=by rw[aU];omega
     have hjn:(j:Int)<n:=by omega
     have hw8:Al.wrap ((k:Int)+1)=(k:Int)+1:=aU
     have hjl2:j<(lms cur).length:=by rw[jN];exact hjl
     have hjl3:j+1≤n:=by omega
     have hyb:=lb.getD k
     have hlim:=aNu ic ho hal hyb
     have hy0:¬k<b.length→b.getD k 0=0:=getD_none
     have g3:k<b.length→b[k]? = some (b.getD k 0):=getD_some
     generalize cur.getD j 0=o at *
     generalize b.getD k 0=yv at *
     obtain⟨s1,hs1⟩:∃ s1:Nat,c+o=s1:=⟨_,rfl⟩
     obtain⟨t,ht⟩:∃ t:Nat,s1+xv*yv=t:=⟨_,rfl⟩
     rw[hs1]at isucc hlim
     rw[ht]at isucc hlim
     obtain⟨lo,hlo⟩:∃ lo:Nat,t%4294967296=lo:=⟨_,rfl⟩
     obtain⟨hi',hhi⟩:∃ hi':Nat,t/4294967296=hi':=⟨_,rfl⟩
     rw[hlo,hhi]at isucc
     have hwo:AB.wrap (o:Int)=o:=wrap_u64 (by omega) (by omega)
     have hws:AB.wrap ((c:Int)+o)=s1:=by rw[wrap_u64 (by omega) (by omega)];omega
     have hwlo:BR.wrap (t:Int)=lo:=by rw[eZ];omega
     have hwhi:AB.wrap ((t:Int)/4294967296)=hi':=by rw[wrap_u64 (by omega) (by omega)];omega
     have hlay:lay (Cs AV.d (lms cur)) j [AV.d (D.i .u32 (lo:Int))]=Cs AV.d (lms (cur.set j lo)):=by
      rw[jO _ _ _ hjl2,tN]
     have hgj:List.length cur=n:=by omega
     by_cases hkb:k<b.length
     ·have q2:(k:Int)<b.length:=by omega
      have g4:=g3 hkb
      have hwy:AB.wrap (yv:Int)=yv:=wrap_u64 (by omega) (by omega)
      obtain⟨e,he⟩:∃ e:Nat,xv*yv=e:=⟨_,rfl⟩
      rw[he]at ht
      have hwm:AB.wrap ((xv:Int)*yv)=e:=by rw[←B9,he,wrap_u64 (by omega) (by omega)]
      have hwt:AB.wrap ((s1:Int)+e)=t:=by rw[wrap_u64 (by omega) (by omega)];omega
      simp[-ζ,-ξ,↓KW,aA,q2,hwj,hjn,g2,hwo,hws,g1,g4,hwx,hwy,hwm,hwt,hwlo,hwhi,hlay,hw8,hjl3,hgj]
      refine aK (k+1) n2 ?_ (wkQ [1,2,3,4] ?_ ?_)
      ·omega
      ·simp[-ζ,upd,aL,Γ0,aA,isucc]
      ·simp[-ζ,upd,aL,Γ0,aA,isucc]
     ·have q2:¬(k:Int)<b.length:=by omega
      have q3:0<c:=by omega
      have e1:t=s1:=by rw[hy0 hkb,Dr]at ht;omega
      rw[e1]at hwlo hwhi
      simp[-ζ,-ξ,↓KW,aA,q2,q3,hwj,hjn,g2,hwo,hws,hwlo,hwhi,hlay,hw8,hjl3,hgj]
      refine aK (k+1) n2 ?_ (wkQ [1,2,3,4] ?_ ?_)
      ·omega
      ·simp[-ζ,upd,aL,Γ0,aA,isucc]
      ·simp[-ζ,upd,aL,Γ0,aA,isucc]
    ·have q2:¬(k:Int)<b.length:=by omega
     have q3:¬0<c:=by omega
     have hfin:=hres.resolve_left hg2
     have hw8:Al.wrap ((i:Int)+1)=(i:Int)+1:=aU
     simp[-ζ,-ξ,↓KW,aA,q2,q3,hw8]
     refine aK (i+1) hgo ?_ (wkQ [1,2,3,4] ?_ ?_)
     ·omega
     ·simp[-ζ,upd,aL,Γ0,aA,hfin]
     ·simp[-ζ,upd,aL,Γ0,aA,hfin]
  ·have q1:¬(i:Int)<a.length:=by omega
   have e:i=a.length:=by omega
   rw[e,AG (AA _),va,vb]at ov
   have hm:=dW (muO a b i) (nx != ny) (by omega)
   rw[cM om,e,ov]at hm
   have e2:sg (nx != ny) (x.natAbs*y.natAbs)=x*y:=by
    rw[←sx,←sy]
    cases nx<;>cases ny<;>simp[sg,DJ,Gm]
   rw[e2]at hm
   rw[e]at ol
   have e':muO a b i=muO a b a.length:=by rw[e]
   generalize muO a b a.length=out at *
   simp[-ζ,-ξ,↓KW,aA,q1,e']
   refine aZ (ds:=[aA out,.b (nx != ny)]) ?_ hm ?_
   ·simp[-ζ,-ξ,↓KW,aA,ol,dT ol,cL ol]
    cases nx<;>cases ny<;>rfl
   ·simp[-ζ,-ξ,↓KW,aA,encZ,encI,ol,dT ol,cL ol]
theorem aXt{n:Nat}(h:n≤9223372036854775807):Al.wrap (n:Int)=n:=aU
set_option maxRecDepth 10000 in
theorem lR[M:Mch Aa](m:List Nat)(hl:m.length≤1099511627776):Spec Aa 82 [aA m] (aA (strip m)):=by
 refine bD (N:=21) Tryz.func82 ?_
 simp[-ζ,-ξ,↓KW,aA]
 refine bX (fun n:Nat=>n≤m.length∧strip (m.take n)=strip m) (fun n=>StL [(0,.d (aA m)),(3,.d (.i .i64 n))] none []) (fun n=>n) m.length ⟨AA _,by simp⟩ ?_ ?_
 ·refine wkQ [] ?_ ?_<;>simp[-ζ,upd,aL,Γ0,aA]
 ·rintro n ⟨hn,hs⟩
  rcases n with _|n
  ·have hs':strip m=[]:=hs.symm
   have h0:fD 1 (m.map fun(x:Nat)=>[D.i .u32 (x:Int)])=true:=pC m _
   simp[-ζ,-ξ,↓KW,aA,hs',h0]
  ·have hx:m[n]? = some m[n]:=Ab hn
   have hw:Al.wrap (n:Int)=n:=aXt (by omega)
   have hp:(0:Int)<(n:Int)+1:=by omega
   have hp2:(0:Int)≤(n:Int)+1:=by omega
   by_cases h0:m[n]=0
   ·simp[-ζ,-ξ,↓KW,aA,hx,hw,h0,hp]
    refine aK n ⟨by omega,(nY hn h0).symm.trans hs⟩ (by omega) (wkQ [] ?_ ?_)<;>simp[-ζ,upd,aL,Γ0,aA]
   ·have h1:((m[n]:Int)==0)=false:=by simp;omega
    have he:strip m=m.take (n+1):=hs.symm.trans (nZ hn h0)
    have hn':(n:Int)+1≤m.length:=by omega
    obtain⟨pre,hpre⟩:∃ pre,m.take (n+1)=pre:=⟨_,rfl⟩
    have hp1:∀ f:Nat→List D,(m.map f).take (n+1)=pre.map f:=fun f=>by rw[←hpre,List.map_take]
    rw[hpre]at he
    simp[-ζ,-ξ,↓KW,aA,hx,hw,h1,hp,hp2,he,hn',hp1,pC]
set_option maxRecDepth 10000 in
theorem bDv[M:Mch Aa](neg:Bool)(m:List Nat)(hl:m.length≤1099511627776):Spec Aa 98 [.b neg,aA m] (encI (neg&&decide (strip m≠[])) (strip m)):=by
 refine bD (N:=14) Tryz.func98 ?_
 simp[-ζ,-ξ,↓KW,aA]
 refine aD (lR m hl) ?_
 cases hm:strip m with
 | nil =>
  cases neg<;>simp[-ζ,-ξ,↓KW,aA,encI]
 | cons x l =>
  have h1:(((l.length:Int)+1==0):Bool)=false:=by simp;omega
  cases neg<;>simp[-ζ,-ξ,↓KW,aA,encI,h1]
theorem qN[M:Mch Aa]{m:List Nat}(h:Lim m)(hl:m.length≤1099511627776)(neg:Bool):Spec Aa 98 [.b neg,aA m] (encZ (sg neg (val m))):=by
 rw[←cM h];exact bDv neg m hl
set_option maxRecDepth 10000 in
theorem bNw[M:Mch Aa](neg:Bool)(m:List Nat)(hl:m.length≤1099511627776):Spec Aa 35 [encI neg m] (.i .i64 (if strip m=[]then 0 else if neg then -1 else 1)):=by
 refine bD (N:=12) Tryz.func35 ?_
 simp[-ζ,-ξ,↓KW,encI,aA]
 refine aD (lR m hl) ?_
 cases hm:strip m with
 |nil=>simp[-ζ,-ξ,↓KW,aA,encI]
 | cons x l =>
  have h1:(((l.length:Int)+1==0):Bool)=false:=by simp;omega
  cases neg<;>simp[-ζ,-ξ,↓KW,aA,encI,h1]
set_option maxRecDepth 10000 in
theorem bDw[M:Mch Aa](neg:Bool)(m:List Nat)(hl:m.length≤1099511627776):Spec Aa 51 [encI neg m] (.b (match m.getLast? with|some x=>x != 0|none=>!neg)):=by
 refine bD (N:=19) Tryz.func51 ?_
 rcases List.eq_nil_or_concat m with rfl|⟨m',x,rfl⟩
 ·simp[-ζ,-ξ,↓KW,encI,aA]
 ·have hw:Al.wrap (m'.length:Int)=m'.length:=by simp at hl;rw[wrap_i64]<;>omega
  have h1:(0:Int)<(m'.length:Int)+1:=by omega
  have hg:(Cs (fun(x:Nat)=>[D.i .u32 (x:Int)]) m'++[[D.i .u32 (x:Int)]])[m'.length]? = some [D.i .u32 (x:Int)]:=by
   rw[AM (by simp)];simp
  simp[-ζ,-ξ,↓KW,encI,aA,hw,h1,hg]
  rw[Bool.eq_iff_iff];simp
set_option maxRecDepth 10000 in
theorem bXl[M:Mch Aa](x:Int):Spec Aa 140 [.i .i64 x] (.b false):=by
 refine bD (N:=6) Tryz.func140 ?_
 simp[-ζ,-ξ,↓KW]
set_option maxRecDepth 10000 in
theorem bXk[M:Mch Aa](x:Int):Spec Aa 168 [.i .u32 x] (.b false):=by
 refine bD (N:=6) Tryz.func168 ?_
 simp[-ζ,-ξ,↓KW]
def mE(x y:Int):Int:=if x<y then -1 else if y<x then 1 else 0
set_option maxRecDepth 10000 in
theorem bGf[M:Mch Aa](x y:Int):Spec Aa 96 [.i .i64 x,.i .i64 y] (.i .i64 (mE x y)):=by
 refine bD (N:=20) Tryz.func96 ?_
 simp[-ζ,-ξ,↓KW]
 refine aD (bXl x) ?_
 simp[-ζ,-ξ,↓KW]
 refine aD (bXl y) ?_
 by_cases h1:x<y
 ·simp[-ζ,-ξ,↓KW,h1,mE]
 ·by_cases h2:y<x<;>simp[-ζ,-ξ,↓KW,h1,h2,mE]
set_option maxRecDepth 10000 in
theorem cAx[M:Mch Aa](x y:Int):Spec Aa 141 [.i .u32 x,.i .u32 y] (.i .i64 (mE x y)):=by
 refine bD (N:=20) Tryz.func141 ?_
 simp[-ζ,-ξ,↓KW]
 refine aD (bXk x) ?_
 simp[-ζ,-ξ,↓KW]
 refine aD (bXk y) ?_
 by_cases h1:x<y
 ·simp[-ζ,-ξ,↓KW,h1,mE]
 ·by_cases h2:y<x<;>simp[-ζ,-ξ,↓KW,h1,h2,mE]
def kY(a b:List Nat):Int:=if mO a b then -1 else if mO b a then 1 else 0
set_option maxRecDepth 10000 in
theorem zP[M:Mch Aa](a b:List Nat)(ha:Lim a)(hb:Lim b)(hla:a.length≤1099511627776)(hlb:b.length≤1099511627776):Spec Aa 97 [aA a,aA b] (.i .i64 (kY a b)):=by
 refine bD (N:=35) Tryz.func97 ?_
 simp[-ζ,-ξ,↓KW,aA]
 refine aD (bGf _ _) ?_
 by_cases hn:a.length=b.length
 rotate_left
 ·rcases Nat.lt_or_gt_of_ne hn with h|h
  ·have h1:mE a.length b.length=-1:=by unfold mE;rw[Ap (by omega)]
   have h2:kY a b=-1:=by simp[kY,mO,hn,h]
   simp[-ζ,-ξ,↓KW,aA,h1,h2]
  ·have h1:mE a.length b.length=1:=by unfold mE;rw[Ah (by omega),Ap (by omega)]
   have h2:kY a b=1:=by
    have h3:¬a.length<b.length:=by omega
    have h4:¬b.length=a.length:=fun e=>hn e.symm
    simp[kY,mO,hn,h,h3,h4]
   simp[-ζ,-ξ,↓KW,aA,h1,h2]
 ·have h1:mE a.length b.length=0:=by simp[mE,hn]
  have hw:Al.wrap ((a.length:Int)-1)=(a.length:Int)-1:=aU
  simp[-ζ,-ξ,↓KW,aA,h1,hw]
  refine bX (fun k:Nat=>k≤a.length∧a.drop k=b.drop k) (fun k=>StL [(0,.d (aA a)),(1,.d (aA b)),(6,.d (.i .i64 ((k:Int)-1)))] none []) (fun k=>k) a.length ⟨AA _,by rw[CO (AA _),CO (by omega)]⟩ ?_ ?_
  ·refine wkQ [] ?_ ?_<;>simp[-ζ,upd,aL,Γ0,aA]
  ·rintro k ⟨hk,hd⟩
   rcases k with _|k
   ·have e:a=b:=by simpa using hd
    subst e
    simp[-ζ,-ξ,↓KW,aA,mO,kY]
   ·have hkb:k<b.length:=by omega
    have hxa:a[k]? = some a[k]:=Ab hk
    have hxb:b[k]? = some b[k]:=Ab hkb
    have hw2:Al.wrap ((k:Int)-1)=(k:Int)-1:=aU
    have hp:(0:Int)≤k:=by omega
    simp[-ζ,-ξ,↓KW,aA,hxa,hxb,hp]
    refine aD (cAx _ _) ?_
    by_cases he:a[k]=b[k]
    ·have h2:mE a[k] b[k]=0:=by simp[mE,he]
     simp[-ζ,-ξ,↓KW,aA,h2,hw2]
     refine aK k ⟨by omega,?_⟩ (by omega) (wkQ [] ?_ ?_)
     ·rw[Cv hk,Cv hkb,he,hd]
     ·simp[-ζ,upd,aL,Γ0,aA]
     ·trivial
    ·have ga:a.getD k 0=a[k]:=by rw[Ac,hxa];rfl
     have gb:b.getD k 0=b[k]:=by rw[Ac,hxb];rfl
     rcases Az a[k] b[k]with hlt|hge
     ·have h3:=qE ha (i:=k) hn hk hd (by rw[ga,gb];exact hlt)
      have h4:mE a[k] b[k]=-1:=by unfold mE;rw[Ap (by omega)]
      have h5:kY a b=-1:=by simp[kY,mO,hn,h3]
      simp[-ζ,-ξ,↓KW,aA,h4,h5]
     ·have h3:=qE hb (i:=k) hn.symm hkb hd.symm (by rw[ga,gb];omega)
      have h4:mE a[k] b[k]=1:=by unfold mE;rw[Ah (by omega),Ap (by omega)]
      have h6:¬val a<val b:=by omega
      have h5:kY a b=1:=by simp[kY,mO,hn,h3,h6]
      simp[-ζ,-ξ,↓KW,aA,h4,h5]
def zp(out:List Nat)(n:Nat):List Nat:=out++As (n-out.length) 0
theorem aEa{out:List Nat}{n:Nat}(h:out.length≤n):(zp out n).length=n:=by simp[zp];omega
theorem aEb{out:List Nat}{n:Nat}(h:out.length=n):zp out n=out:=by subst h;simp[zp]
theorem aLo(n:Nat):zp [] n=As n 0:=by simp[zp]
theorem bRt{out:List Nat}{n i:Nat}(h:out.length=i)(hi:i<n)(v:Nat):(zp out n).set i v=zp (out++[v]) n:=by
 subst h
 unfold zp
 obtain⟨k,hk⟩:∃ k,n-out.length=k+1:=⟨n-out.length-1,by omega⟩
 rw[hk,List.set_append_right _ _ (AA _),CN,List.replicate_succ,DG,A8,List.length_singleton,show n-(out.length+1)=k from by omega,List.append_assoc]
 rfl
theorem xZ{out:List Nat}{n i:Nat}(h:out.length=i)(hi:i<n)(v:Nat):lay (Cs AV.d (lms (zp out n))) i [AV.d (D.i .u32 (v:Int))]=Cs AV.d (lms (zp (out++[v]) n)):=by
 rw[jO _ _ _ (by rw[jN,aEa (by omega)];exact hi),tN,bRt h hi]
theorem aZq{t:Nat}:fJ .shr .u64 (t:Int) 32=some (.i .u64 ((t/4294967296:Nat):Int)):=by
 simp only[fJ,Dt]
 rw[Ah (by decide)]
 congr 2
 rw[show(2:Int)^(min (32:Int).toNat 64)=4294967296 from by decide,Du _ (by decide)]
 omega
theorem bQt{t:Int}(_h0:0≤t):fJ .shr .u64 t 63=some (.i .u64 (t/9223372036854775808)):=by
 simp only[fJ,Dt]
 rw[Ah (by decide)]
 congr 2
 rw[show(2:Int)^(min (63:Int).toNat 64)=9223372036854775808 from by decide,Du _ (by decide)]
def ip(p q:List Nat):List Nat:=(plS p q p.length).1++[(plS p q p.length).2]
theorem bDt{p q:List Nat}(lp:Lim p)(lq:Lim q)(h:q.length≤p.length):val (ip p q)=val p+val q∧Lim (ip p q)∧(ip p q).length=p.length+1:=by
 obtain⟨h1,h2,h3,h4⟩:=kA lp lq p.length
 rw[AG (AA _),AG h]at h4
 unfold ip
 refine⟨?_,h3.app (.one (by omega)),by simp[h1]⟩
 rw[jY,h1]
 simp only[val,Dr,B8]
 exact h4
def pI(a b:List Nat):List Nat:=if a.length<b.length then ip b a else ip a b
theorem aOd{a b:List Nat}(ha:Lim a)(hb:Lim b):val (pI a b)=val a+val b∧Lim (pI a b)∧(pI a b).length≤a.length+b.length+1:=by
 unfold pI
 by_cases h:a.length<b.length
 ·rw[Ap h]
  obtain⟨h1,h2,h3⟩:=bDt hb ha (by omega)
  exact⟨by omega,h2,by omega⟩
 ·rw[Ah h]
  obtain⟨h1,h2,h3⟩:=bDt ha hb (by omega)
  exact⟨h1,h2,by omega⟩
set_option maxRecDepth 10000 in
theorem bNx[M:Mch Aa](a b:List Nat)(ha:Lim a)(hb:Lim b)(hla:a.length≤274877906944)(hlb:b.length≤274877906944):Spec Aa 138 [aA a,aA b] (aA (pI a b)):=by
 refine bD (N:=57) Tryz.func138 ?_
 obtain⟨p,q,lp,lq,hqp,hpl,hr,hc⟩:∃ p q:List Nat,Lim p∧Lim q∧q.length≤p.length∧p.length≤274877906944∧pI a b=ip p q∧((a.length<b.length∧p=b∧q=a)∨(¬a.length<b.length∧p=a∧q=b)):=by
  by_cases h:a.length<b.length
  ·exact⟨b,a,hb,ha,by omega,hlb,by simp[pI,h],.inl ⟨h,rfl,rfl⟩⟩
  ·exact⟨a,b,ha,hb,by omega,hla,by simp[pI,h],.inr ⟨h,rfl,rfl⟩⟩
 rw[hr]
 obtain⟨n,hn⟩:∃ n,p.length+1=n:=⟨_,rfl⟩
 have hw2:Al.wrap ((p.length:Int)+1)=(n:Int):=by rw[aU];omega
 have hm1:(4:Int)*n≤281474976710656:=by omega
 have hm2:(n:Int)≤9223372036854775807:=by omega
 rcases hc with ⟨h,hp,hq⟩|⟨h,hp,hq⟩<;>subst hp<;>subst hq
 ·have h1:(q.length:Int)<p.length:=by omega
  simp[-ζ,-ξ,↓KW,aA,h1,hw2,hm1,hm2]
  refine bX (fun i:Nat=>i≤p.length) (fun i=>StL [(0,.d (aA p)),(1,.d (aA q)),(5,.own 1 0 n 1),(6,.d (.i .u64 (plS p q i).2)),(20,.d (.i .i64 p.length)),(21,.d (.i .i64 i))] none [.cells 72 ((lms (zp (plS p q i).1 n)).map .d)]) (fun i=>p.length-i) 0 (A5 _) ?_ ?_
  ·refine wkQ [1] ?_ ?_<;>simp[-ζ,upd,aL,Γ0,aA,plS,aLo]
  ·intro i hi
   obtain⟨hlen,hc,_,_⟩:=kA lp lq i
   have hsucc:plS p q (i+1)=((plS p q i).1++[((plS p q i).2+p.getD i 0+q.getD i 0)%4294967296],((plS p q i).2+p.getD i 0+q.getD i 0)/4294967296):=rfl
   have hal:=lp.getD i
   have hbl:=lq.getD i
   have hres:i=p.length→(plS p q i).1++[(plS p q i).2]=ip p q:=fun e=>by rw[e];rfl
   generalize hout:(plS p q i).1=out at *
   generalize hcar:(plS p q i).2=c at *
   have hzl:(zp out n).length=n:=aEa (by omega)
   by_cases hgo:i<p.length
   ·have hw7:Al.wrap ((i:Int)+1)=(i:Int)+1:=aU
    have q1:(i:Int)<p.length:=by omega
    have q3:(i:Int)<n:=by omega
    have q4:i+1≤n:=by omega
    have g1:=getD_some hgo
    have hb0:¬i<q.length→q.getD i 0=0:=getD_none
    have g2:i<q.length→q[i]? = some (q.getD i 0):=getD_some
    generalize p.getD i 0=x at *
    generalize q.getD i 0=y at *
    obtain⟨s1,hs1⟩:∃ s1:Nat,c+x=s1:=⟨_,rfl⟩
    obtain⟨s2,hs2⟩:∃ s2:Nat,s1+y=s2:=⟨_,rfl⟩
    rw[hs1,hs2]at hsucc
    have hwx:AB.wrap (x:Int)=x:=wrap_u64 (by omega) (by omega)
    have hwy:AB.wrap (y:Int)=y:=wrap_u64 (by omega) (by omega)
    have hw1:AB.wrap ((c:Int)+x)=s1:=by rw[wrap_u64 (by omega) (by omega)];omega
    have hw2':AB.wrap ((s1:Int)+y)=s2:=by rw[wrap_u64 (by omega) (by omega)];omega
    obtain⟨lo,hlo⟩:∃ lo:Nat,s2%4294967296=lo:=⟨_,rfl⟩
    have hsh:=aZq (t:=s2)
    obtain⟨hi',hhi⟩:∃ hi':Nat,s2/4294967296=hi':=⟨_,rfl⟩
    rw[hhi]at hsh
    have hw3:BR.wrap (s2:Int)=lo:=by rw[eZ];omega
    rw[hlo,hhi]at hsucc
    have hlay:=xZ hlen (show i<n by omega) lo
    by_cases hbn:i<q.length
    ·have q2:(i:Int)<q.length:=by omega
     have g3:=g2 hbn
     simp[-ζ,-ξ,↓KW,aA,q1,q2,q3,q4,g1,g3,hwx,hwy,hw1,hw2',hw3,hsh,hlay,hw7,hzl]
     refine aK (i+1) hgo ?_ (wkQ [1] ?_ ?_)
     ·omega
     ·simp[-ζ,upd,aL,Γ0,aA,hsucc]
     ·simp[-ζ,upd,aL,Γ0,aA,hsucc]
    ·have q2:¬(i:Int)<q.length:=by omega
     have e2:s2=s1:=by have:=hb0 hbn;omega
     rw[e2]at hw3 hsh
     simp[-ζ,-ξ,↓KW,aA,q1,q2,q3,q4,g1,hwx,hw1,hw3,hsh,hlay,hw7,hzl]
     refine aK (i+1) hgo ?_ (wkQ [1] ?_ ?_)
     ·omega
     ·simp[-ζ,upd,aL,Γ0,aA,hsucc]
     ·simp[-ζ,upd,aL,Γ0,aA,hsucc]
   ·have e:i=p.length:=by omega
    have h1:¬(i:Int)<p.length:=by omega
    have h4:=hres e
    have hn':(p.length:Int)<n:=by omega
    have hn2:p.length+1≤n:=by omega
    have hw3:BR.wrap (c:Int)=c:=gJ (by omega) (by omega)
    have hlay:=xZ (hlen.trans e) (show p.length<n by omega) c
    have hfl:(out++[c]).length=n:=by simp;omega
    have h5:zp (out++[c]) n=out++[c]:=aEb hfl
    rw[h5,h4]at hlay
    rw[h4]at hfl
    simp[-ζ,-ξ,↓KW,aA,h1,hn',hn2,hw3,hlay,hzl,hfl,dT hfl,cL hfl]
 ·have h1:¬(p.length:Int)<q.length:=by omega
  simp[-ζ,-ξ,↓KW,aA,h1,hw2,hm1,hm2]
  refine bX (fun i:Nat=>i≤p.length) (fun i=>StL [(0,.d (aA p)),(1,.d (aA q)),(5,.own 1 0 n 1),(6,.d (.i .u64 (plS p q i).2)),(20,.d (.i .i64 p.length)),(21,.d (.i .i64 i))] none [.cells 72 ((lms (zp (plS p q i).1 n)).map .d)]) (fun i=>p.length-i) 0 (A5 _) ?_ ?_
  ·refine wkQ [1] ?_ ?_<;>simp[-ζ,upd,aL,Γ0,aA,plS,aLo]
  ·intro i hi
   obtain⟨hlen,hc,_,_⟩:=kA lp lq i
   have hsucc:plS p q (i+1)=((plS p q i).1++[((plS p q i).2+p.getD i 0+q.getD i 0)%4294967296],((plS p q i).2+p.getD i 0+q.getD i 0)/4294967296):=rfl
   have hal:=lp.getD i
   have hbl:=lq.getD i
   have hres:i=p.length→(plS p q i).1++[(plS p q i).2]=ip p q:=fun e=>by rw[e];rfl
   generalize hout:(plS p q i).1=out at *
   generalize hcar:(plS p q i).2=c at *
   have hzl:(zp out n).length=n:=aEa (by omega)
   by_cases hgo:i<p.length
   ·have hw7:Al.wrap ((i:Int)+1)=(i:Int)+1:=aU
    have q1:(i:Int)<p.length:=by omega
    have q3:(i:Int)<n:=by omega
    have q4:i+1≤n:=by omega
    have g1:=getD_some hgo
    have hb0:¬i<q.length→q.getD i 0=0:=getD_none
    have g2:i<q.length→q[i]? = some (q.getD i 0):=getD_some
    generalize p.getD i 0=x at *
    generalize q.getD i 0=y at *
    obtain⟨s1,hs1⟩:∃ s1:Nat,c+x=s1:=⟨_,rfl⟩
    obtain⟨s2,hs2⟩:∃ s2:Nat,s1+y=s2:=⟨_,rfl⟩
    rw[hs1,hs2]at hsucc
    have hwx:AB.wrap (x:Int)=x:=wrap_u64 (by omega) (by omega)
    have hwy:AB.wrap (y:Int)=y:=wrap_u64 (by omega) (by omega)
    have hw1:AB.wrap ((c:Int)+x)=s1:=by rw[wrap_u64 (by omega) (by omega)];omega
    have hw2':AB.wrap ((s1:Int)+y)=s2:=by rw[wrap_u64 (by omega) (by omega)];omega
    obtain⟨lo,hlo⟩:∃ lo:Nat,s2%4294967296=lo:=⟨_,rfl⟩
    have hsh:=aZq (t:=s2)
    obtain⟨hi',hhi⟩:∃ hi':Nat,s2/4294967296=hi':=⟨_,rfl⟩
    rw[hhi]at hsh
    have hw3:BR.wrap (s2:Int)=lo:=by rw[eZ];omega
    rw[hlo,hhi]at hsucc
    have hlay:=xZ hlen (show i<n by omega) lo
    by_cases hbn:i<q.length
    ·have q2:(i:Int)<q.length:=by omega
     have g3:=g2 hbn
     simp[-ζ,-ξ,↓KW,aA,q1,q2,q3,q4,g1,g3,hwx,hwy,hw1,hw2',hw3,hsh,hlay,hw7,hzl]
     refine aK (i+1) hgo ?_ (wkQ [1] ?_ ?_)
     ·omega
     ·simp[-ζ,upd,aL,Γ0,aA,hsucc]
     ·simp[-ζ,upd,aL,Γ0,aA,hsucc]
    ·have q2:¬(i:Int)<q.length:=by omega
     have e2:s2=s1:=by have:=hb0 hbn;omega
     rw[e2]at hw3 hsh
     simp[-ζ,-ξ,↓KW,aA,q1,q2,q3,q4,g1,hwx,hw1,hw3,hsh,hlay,hw7,hzl]
     refine aK (i+1) hgo ?_ (wkQ [1] ?_ ?_)
     ·omega
     ·simp[-ζ,upd,aL,Γ0,aA,hsucc]
     ·simp[-ζ,upd,aL,Γ0,aA,hsucc]
   ·have e:i=p.length:=by omega
    have h1:¬(i:Int)<p.length:=by omega
    have h4:=hres e
    have hn':(p.length:Int)<n:=by omega
    have hn2:p.length+1≤n:=by omega
    have hw3:BR.wrap (c:Int)=c:=gJ (by omega) (by omega)
    have hlay:=xZ (hlen.trans e) (show p.length<n by omega) c
    have hfl:(out++[c]).length=n:=by simp;omega
    have h5:zp (out++[c]) n=out++[c]:=aEb hfl
    rw[h5,h4]at hlay
    rw[h4]at hfl
    simp[-ζ,-ξ,↓KW,aA,h1,hn',hn2,hw3,hlay,hzl,hfl,dT hfl,cL hfl]
set_option maxRecDepth 10000 in
theorem aJy[M:Mch Aa](a b:List Nat)(ha:Lim a)(hb:Lim b)(hla:a.length≤274877906944):Spec Aa 139 [aA a,aA b] (aA (mC a b)):=by
 refine bD (N:=44) Tryz.func139 ?_
 obtain⟨n,hn⟩:∃ n,a.length=n:=⟨_,rfl⟩
 have hm1:(4:Int)*n≤281474976710656:=by omega
 have hm2:(n:Int)≤9223372036854775807:=by omega
 simp[-ζ,-ξ,↓KW,aA,hn,hm1,hm2]
 refine bX (fun i:Nat=>i≤n) (fun i=>StL [(0,.d (aA a)),(1,.d (aA b)),(5,.own 1 0 n 1),(6,.d (.i .u64 (miS a b i).2)),(13,.d (.i .i64 n)),(14,.d (.i .i64 i))] none [.cells 72 ((lms (zp (miS a b i).1 n)).map .d)]) (fun i=>n-i) 0 (A5 _) ?_ ?_
 ·refine wkQ [1] ?_ ?_<;>simp[-ζ,upd,aL,Γ0,aA,miS,aLo,hn]
 ·intro i hi
  obtain⟨hlen,hc,_,_⟩:=aFt ha hb i
  have hsucc:=aJn a b i
  have hal:=ha.getD i
  have hbl:=hb.getD i
  have hres:i=n→(miS a b i).1=mC a b:=fun e=>by rw[e,←hn];rfl
  generalize hout:(miS a b i).1=out at *
  generalize hcar:(miS a b i).2=c at *
  have hzl:(zp out n).length=n:=aEa (by omega)
  by_cases hgo:i<n
  ·have hw7:Al.wrap ((i:Int)+1)=(i:Int)+1:=aU
   have q1:(i:Int)<n:=by omega
   have q4:i+1≤n:=hgo
   have g1:=getD_some (l:=a) (i:=i) (by omega)
   have hb0:¬i<b.length→b.getD i 0=0:=getD_none
   have g2:i<b.length→b[i]? = some (b.getD i 0):=getD_some
   generalize a.getD i 0=x at *
   generalize b.getD i 0=y at *
   have hwx:AB.wrap (x:Int)=x:=wrap_u64 (by omega) (by omega)
   have hwy:AB.wrap (y:Int)=y:=wrap_u64 (by omega) (by omega)
   obtain⟨d1,hd1⟩:∃ d1:Int,AB.wrap ((x:Int)-c)=d1:=⟨_,rfl⟩
   obtain⟨d,hd⟩:∃ d:Int,AB.wrap (d1-y)=d:=⟨_,rfl⟩
   have hd1':=hd1
   have hd':=hd
   rw[uR]at hd1' hd'
   have hfin:∃(lo bw:Nat),miS a b (i+1)=(out++[lo],bw)∧BR.wrap d=lo∧fJ .shr .u64 d 63=some (.i .u64 (bw:Int)):=by
    by_cases hle:c+y≤x
    ·rw[Ap hle]at hsucc
     refine⟨_,_,hsucc,?_,?_⟩
     ·rw[eZ];omega
     ·rw[bQt (by omega)];congr 2;omega
    ·rw[Ah hle]at hsucc
     refine⟨_,_,hsucc,?_,?_⟩
     ·rw[eZ];omega
     ·rw[bQt (by omega)];congr 2;omega
   obtain⟨lo,bw,hs,hlo,hbw⟩:=hfin
   have hlay:=xZ hlen hgo lo
   by_cases hbn:i<b.length
   ·have q2:(i:Int)<b.length:=by omega
    have g3:=g2 hbn
    simp[-ζ,-ξ,↓KW,aA,q1,q2,g1,g3,hwx,hwy,hd1,hd,hlo,hbw,hlay,hw7,hzl,q4]
    refine aK (i+1) hgo ?_ (wkQ [1] ?_ ?_)
    ·omega
    ·simp[-ζ,upd,aL,Γ0,aA,hs]
    ·simp[-ζ,upd,aL,Γ0,aA,hs]
   ·have q2:¬(i:Int)<b.length:=by omega
    have e1:d1=d:=by have:=hb0 hbn;omega
    rw[e1]at hd1
    simp[-ζ,-ξ,↓KW,aA,q1,q2,g1,hwx,hd1,hlo,hbw,hlay,hw7,hzl,q4]
    refine aK (i+1) hgo ?_ (wkQ [1] ?_ ?_)
    ·omega
    ·simp[-ζ,upd,aL,Γ0,aA,hs]
    ·simp[-ζ,upd,aL,Γ0,aA,hs]
  ·have e:i=n:=by omega
   have h1:¬(i:Int)<n:=by omega
   have h4:=hres e
   have h5:zp out n=out:=aEb (by omega)
   have hlen':out.length=n:=by omega
   simp[-ζ,-ξ,↓KW,aA,h1,h5,hlen',dT hlen',cL hlen',←h4]
theorem bSm(l:List Nat)(j:Nat):4294967296^j*l.getD j 0≤val l:=by
 have h:=bW l j
 have e:val l=val (l.take (j+1))+4294967296^(l.take (j+1)).length*val (l.drop (j+1)):=by rw[←jY,List.take_append_drop]
 have h2:val (l.take (j+1))≤val l:=by rw[e];exact Nat.le_add_right _ _
 rw[h]at h2
 exact AY (Nat.le_add_left _ _) h2
theorem xA{l:List Nat}{j:Nat}(h:val l<4294967296^j):l.getD j 0=0:=by
 have h1:=bSm l j
 rcases Bb (l.getD j 0)with h2|h2
 ·exact h2
 ·exfalso
  have:4294967296^j*1≤4294967296^j*l.getD j 0:=Cn _ h2
  rw[CJ]at this
  omega
theorem aVe{out b:List Nat}{x i:Nat}(k j:Nat)(h:i+k≤j):(muI out x b i k).1.getD j 0=out.getD j 0:=by
 induction k with
 |zero=>rfl
 | succ k ih =>
  have:=ih (by omega)
  rw[←this]
  simp only[muI,Ac]
  rw[D9 (by omega)]
def tmO(a b:List Nat):Nat→List Nat
 |0=>As (a.length+b.length) 0
 |i+1=>(muI (tmO a b i) (a.getD i 0) b i b.length).1.set (i+b.length) (muI (tmO a b i) (a.getD i 0) b i b.length).2
theorem aQl{a b:List Nat}(ha:Lim a)(hb:Lim b)(i:Nat)(hi:i≤a.length):(tmO a b i).length=a.length+b.length∧Lim (tmO a b i)∧val (tmO a b i)=val (a.take i)*val b:=by
 induction i with
 |zero=>exact⟨by simp[tmO],.rep _,by simp[tmO,xH,val]⟩
 | succ i ih =>
  obtain⟨h1,h2,h3⟩:=ih (by omega)
  have hv:=aNv ha hb (i:=i) (by omega)
  rw[←h3]at hv
  have hx:=ha.getD i
  obtain⟨q1,q2,q3,q4⟩:=qM (x:=a.getD i 0) (i:=i) h2 hb hx (by omega) b.length (by omega)
  have habove:=aVe (out:=tmO a b i) (b:=b) (x:=a.getD i 0) (i:=i) b.length (i+b.length) (AA _)
  rw[xA hv]at habove
  rw[AG (AA _)]at q4
  have hset:=aEk (l:=(muI (tmO a b i) (a.getD i 0) b i b.length).1) (j:=i+b.length) (by omega) (muI (tmO a b i) (a.getD i 0) b i b.length).2
  rw[habove,Dr,B8,q4]at hset
  refine⟨?_,q3.set _ q2,?_⟩
  ·show(List.set _ _ _).length=_
   rw[List.length_set,q1,h1]
  ·show val (List.set _ _ _)=_
   rw[hset,h3,bW,BV,B0]
def yG(a b:List Nat):List Nat:=tmO a b a.length
theorem aMc{a b:List Nat}(ha:Lim a)(hb:Lim b):val (yG a b)=val a*val b∧Lim (yG a b)∧(yG a b).length=a.length+b.length:=by
 obtain⟨h1,h2,h3⟩:=aQl ha hb a.length (AA _)
 rw[AG (AA _)]at h3
 exact⟨h3,h2,h1⟩
set_option maxHeartbeats 1000000 in
set_option maxRecDepth 10000 in
theorem bDx[M:Mch Aa](a b:List Nat)(la:Lim a)(lb:Lim b)(hla:a.length≤137438953472)(hlb:b.length≤137438953472):Spec Aa 137 [aA a,aA b] (aA (yG a b)):=by
 refine bD (N:=66) Tryz.func137 ?_
 obtain⟨n,hn⟩:∃ n,a.length+b.length=n:=⟨_,rfl⟩
 have hw1:Al.wrap ((a.length:Int)+b.length)=(n:Int):=by rw[aU];omega
 have hm1:(4:Int)*n≤281474976710656:=by omega
 have hm2:(n:Int)≤9223372036854775807:=by omega
 have h00:tmO a b 0=As n 0:=by rw[←hn];rfl
 simp[-ζ,-ξ,↓KW,aA,hw1,hm1,hm2]
 refine bX (fun i:Nat=>i≤a.length)
  (fun i=>StL [(0,.d (aA a)),(1,.d (aA b)),(5,.own 1 0 n 1),(17,.d (aA a)),(18,.d (.i .i64 a.length)),(19,.d (.i .i64 i))] none [.cells 72 ((lms (tmO a b i)).map .d)]) (fun i=>a.length-i) 0 (A5 _) ?_ ?_
 ·refine wkQ [1] ?_ ?_<;>simp[-ζ,upd,aL,Γ0,aA,h00]
 ·intro i hi
  obtain⟨ol,om,ov⟩:=aQl la lb i hi
  rw[hn]at ol
  by_cases hgo:i<a.length
  ·have q1:(i:Int)<a.length:=by omega
   have g1:=getD_some hgo
   have hsucc:tmO a b (i+1)=(muI (tmO a b i) (a.getD i 0) b i b.length).1.set (i+b.length) (muI (tmO a b i) (a.getD i 0) b i b.length).2:=rfl
   have hal:=la.getD i
   generalize hout:tmO a b i=out at *
   generalize a.getD i 0=xv at *
   simp[-ζ,-ξ,↓KW,aA,q1,g1]
   have hwx:AB.wrap (xv:Int)=xv:=wrap_u64 (by omega) (by omega)
   refine bX (fun k:Nat=>k≤b.length)
    (fun k=>StL [(0,.d (aA a)),(1,.d (aA b)),(5,.own 1 0 n 1),(17,.d (aA a)),(18,.d (.i .i64 a.length)),(19,.d (.i .i64 i)),(6,.d (.i .i64 i)),(7,.d (.i .u32 xv)),(8,.d (.i .u64 (muI out xv b i k).2)),(24,.d (aA b)),(25,.d (.i .i64 b.length)),(26,.d (.i .i64 k))] none
     [.cells 72 ((lms (muI out xv b i k).1).map .d)]) (fun k=>b.length-k) 0 (A5 _) ?_ ?_
   ·refine wkQ [1] ?_ ?_<;>simp[-ζ,upd,aL,Γ0,aA,muI]
   ·intro k hk
    obtain⟨il,ic,im,_⟩:=qM om lb hal (i:=i) (by omega) k (by omega)
    have isucc:muI out xv b i (k+1)=((muI out xv b i k).1.set (i+k) (((muI out xv b i k).2+(muI out xv b i k).1.getD (i+k) 0+xv*b.getD k 0)%4294967296),((muI out xv b i k).2+(muI out xv b i k).1.getD (i+k) 0+xv*b.getD k 0)/4294967296):=rfl
    have hres:k=b.length→tmO a b (i+1)=(muI out xv b i k).1.set (i+b.length) (muI out xv b i k).2:=fun e=>by rw[e];exact hsucc
    clear hsucc
    have ho:=im.getD (i+k)
    generalize hcar:(muI out xv b i k).2=c at *
    generalize hcur:(muI out xv b i k).1=cur at *
    have hgj:List.length cur=n:=by omega
    by_cases hkb:k<b.length
    ·obtain⟨j,hj⟩:∃ j,i+k=j:=⟨_,rfl⟩
     rw[hj]at isucc ho
     have hjl:j<cur.length:=by omega
     have g2:=aRn (getD_some hjl)
     have hwj:Al.wrap ((i:Int)+k)=j:=by rw[aU];omega
     have hjn:(j:Int)<n:=by omega
     have hw8:Al.wrap ((k:Int)+1)=(k:Int)+1:=aU
     have hjl2:j<(lms cur).length:=by rw[jN];exact hjl
     have hjl3:j+1≤n:=by omega
     have hyb:=lb.getD k
     have hlim:=aNu ic ho hal hyb
     have g4:=getD_some hkb
     have q2:(k:Int)<b.length:=by omega
     generalize cur.getD j 0=o at *
     generalize b.getD k 0=yv at *
     obtain⟨e,he⟩:∃ e:Nat,xv*yv=e:=⟨_,rfl⟩
     rw[he]at isucc hlim
     obtain⟨s1,hs1⟩:∃ s1:Nat,e+o=s1:=⟨_,rfl⟩
     obtain⟨t,ht⟩:∃ t:Nat,c+o+e=t:=⟨_,rfl⟩
     rw[ht]at isucc hlim
     obtain⟨lo,hlo⟩:∃ lo:Nat,t%4294967296=lo:=⟨_,rfl⟩
     have hsh:=aZq (t:=t)
     obtain⟨hi',hhi⟩:∃ hi':Nat,t/4294967296=hi':=⟨_,rfl⟩
     rw[hlo,hhi]at isucc
     rw[hhi]at hsh
     have hwo:AB.wrap (o:Int)=o:=wrap_u64 (by omega) (by omega)
     have hwy:AB.wrap (yv:Int)=yv:=wrap_u64 (by omega) (by omega)
     have hwm:AB.wrap ((xv:Int)*yv)=e:=by rw[←B9,he,wrap_u64 (by omega) (by omega)]
     have hws:AB.wrap ((e:Int)+o)=s1:=by rw[wrap_u64 (by omega) (by omega)];omega
     have hwt:AB.wrap ((c:Int)+s1)=t:=by rw[wrap_u64 (by omega) (by omega)];omega
     have hwlo:BR.wrap (t:Int)=lo:=by rw[eZ];omega
     have hlay:lay (Cs AV.d (lms cur)) j [AV.d (D.i .u32 (lo:Int))]=Cs AV.d (lms (cur.set j lo)):=by
      rw[jO _ _ _ hjl2,tN]
     simp[-ζ,-ξ,↓KW,aA,q2,hwj,hjn,g2,hwo,hws,g1,g4,hwx,hwy,hwm,hwt,hwlo,hsh,hlay,hw8,hjl3,hgj]
     refine aK (k+1) hkb ?_ (wkQ [1] ?_ ?_)
     ·omega
     ·simp[-ζ,upd,aL,Γ0,aA,isucc]
     ·simp[-ζ,upd,aL,Γ0,aA,isucc]
    ·have q2:¬(k:Int)<b.length:=by omega
     have hfin:=hres (by omega)
     have hw8:Al.wrap ((i:Int)+1)=(i:Int)+1:=aU
     obtain⟨j,hj⟩:∃ j,i+b.length=j:=⟨_,rfl⟩
     rw[hj]at hfin
     have hwj:Al.wrap ((i:Int)+b.length)=j:=by rw[aU];omega
     have hjn:(j:Int)<n:=by omega
     have hjl3:j+1≤n:=by omega
     have hjl2:j<(lms cur).length:=by rw[jN];omega
     have hwc:BR.wrap (c:Int)=c:=gJ (by omega) (by omega)
     have hlay:lay (Cs AV.d (lms cur)) j [AV.d (D.i .u32 (c:Int))]=Cs AV.d (lms (cur.set j c)):=by
      rw[jO _ _ _ hjl2,tN]
     simp[-ζ,-ξ,↓KW,aA,q2,hw8,hwj,hjn,hjl3,hwc,hlay,hgj]
     refine aK (i+1) hgo ?_ (wkQ [1] ?_ ?_)
     ·omega
     ·simp[-ζ,upd,aL,Γ0,aA,hfin]
     ·simp[-ζ,upd,aL,Γ0,aA,hfin]
  ·have q1:¬(i:Int)<a.length:=by omega
   have e:i=a.length:=by omega
   have e':tmO a b i=yG a b:=by rw[e];rfl
   rw[e']at ol
   simp[-ζ,-ξ,↓KW,aA,q1,e',ol,dT ol,cL ol]
set_option maxHeartbeats 1000000 in
set_option maxRecDepth 10000 in
theorem bNy[M:Mch Aa](x y:Int)(hx:(aJ x.natAbs).length≤137438953472)(hy:(aJ y.natAbs).length≤137438953472):Spec Aa 86 [encZ x,encZ y] (encZ (x*y)):=by
 refine bD (N:=18) Tryz.func86 ?_
 have la:=bU x.natAbs
 have lb:=bU y.natAbs
 have va:=cC x.natAbs
 have vb:=cC y.natAbs
 have ta:=lR (aJ x.natAbs) (by omega)
 have tb:=lR (aJ y.natAbs) (by omega)
 rw[fI la,va]at ta
 rw[fI lb,vb]at tb
 have sx:=fA x
 have sy:=fA y
 have ex:encZ x=.ag [.b (decide (x<0)),aA (aJ x.natAbs)]:=rfl
 have ey:encZ y=.ag [.b (decide (y<0)),aA (aJ y.natAbs)]:=rfl
 rw[ex,ey]
 generalize aJ x.natAbs=a at *
 generalize aJ y.natAbs=b at *
 generalize hbx:decide (x<0)=nx at *
 generalize hby:decide (y<0)=ny at *
 obtain⟨tv,tl,tn⟩:=aMc la lb
 simp[-ζ,-ξ,↓KW,aA]
 refine aD ta ?_
 simp[-ζ,-ξ,↓KW,aA]
 refine aD tb ?_
 simp[-ζ,-ξ,↓KW,aA]
 refine aD (bDx a b la lb hx hy) ?_
 simp[-ζ,-ξ,↓KW,aA]
 have hm:=qN tl (by omega) (!(nx==ny))
 rw[tv,va,vb]at hm
 have e2:sg (!(nx==ny)) (x.natAbs*y.natAbs)=x*y:=by
  rw[←sx,←sy]
  cases nx<;>cases ny<;>simp[sg,DJ,Gm]
 rw[e2]at hm
 refine aD hm ?_
 simp[-ζ,-ξ,↓KW,aA,encZ,encI]
set_option maxHeartbeats 1000000 in
set_option maxRecDepth 10000 in
theorem aRr[M:Mch Aa](x y:Int)(hx:(aJ x.natAbs).length≤137438953472)(hy:(aJ y.natAbs).length≤137438953472):Spec Aa 88 [encZ x,encZ y] (encZ (x+y)):=by
 refine bD (N:=42) Tryz.func88 ?_
 have la:=bU x.natAbs
 have lb:=bU y.natAbs
 have va:=cC x.natAbs
 have vb:=cC y.natAbs
 have ta:=lR (aJ x.natAbs) (by omega)
 have tb:=lR (aJ y.natAbs) (by omega)
 rw[fI la,va]at ta
 rw[fI lb,vb]at tb
 have hless:(aJ x.natAbs).length<(aJ y.natAbs).length→x.natAbs<y.natAbs:=fX
 have hless2:(aJ y.natAbs).length<(aJ x.natAbs).length→y.natAbs<x.natAbs:=fX
 have hl:=zP _ _ la lb (by omega) (by omega)
 have hcmp:(x.natAbs<y.natAbs→kY (aJ x.natAbs) (aJ y.natAbs)<0)∧(¬x.natAbs<y.natAbs→¬kY (aJ x.natAbs) (aJ y.natAbs)<0):=by
  unfold kY
  rw[fO,fO]
  constructor
  ·intro h;rw[Ap (by simpa using h)];decide
  ·intro h
   rw[Ah (by simpa using h)]
   split<;>decide
 have sx:=fA x
 have sy:=fA y
 have ex:encZ x=.ag [.b (decide (x<0)),aA (aJ x.natAbs)]:=rfl
 have ey:encZ y=.ag [.b (decide (y<0)),aA (aJ y.natAbs)]:=rfl
 rw[ex,ey]
 generalize aJ x.natAbs=a at *
 generalize aJ y.natAbs=b at *
 generalize hbx:decide (x<0)=nx at *
 generalize hby:decide (y<0)=ny at *
 simp[-ζ,-ξ,↓KW,aA]
 refine aD ta ?_
 simp[-ζ,-ξ,↓KW,aA]
 refine aD tb ?_
 by_cases hn:nx=ny
 ·have h1:(nx==ny)=true:=by simpa using hn
  simp[-ζ,-ξ,↓KW,aA,h1]
  obtain⟨pv,pl,pn⟩:=aOd la lb
  refine aD (bNx a b la lb (by omega) (by omega)) ?_
  simp[-ζ,-ξ,↓KW,aA]
  have hm:=qN pl (by omega) nx
  rw[pv,va,vb]at hm
  have e:sg nx (x.natAbs+y.natAbs)=x+y:=by
   rw[←sx,←sy,←hn];cases nx<;>simp[sg]<;>omega
  rw[e]at hm
  refine aD hm ?_
  simp[-ζ,-ξ,↓KW,aA,encZ,encI]
 ·have h1:(nx==ny)=false:=by simpa using hn
  simp[-ζ,-ξ,↓KW,aA,h1]
  refine aD hl ?_
  by_cases hlt:x.natAbs<y.natAbs
  ·have h2:=hcmp.1 hlt
   simp[-ζ,-ξ,↓KW,aA,h2]
   obtain⟨pv,pl,pn⟩:=nH lb la (by omega) (by omega)
   refine aD (aJy b a lb la (by omega)) ?_
   simp[-ζ,-ξ,↓KW,aA]
   have hm:=qN pl (by omega) ny
   rw[pv,va,vb]at hm
   have e:sg ny (y.natAbs-x.natAbs)=x+y:=by
    rw[←sx,←sy]
    cases nx<;>cases ny<;>simp[sg]at hn ⊢<;>omega
   rw[e]at hm
   refine aD hm ?_
   simp[-ζ,-ξ,↓KW,aA,encZ,encI]
  ·have h2:=hcmp.2 hlt
   simp[-ζ,-ξ,↓KW,aA,h2]
   obtain⟨pv,pl,pn⟩:=nH la lb (by omega) (by omega)
   refine aD (aJy a b la lb (by omega)) ?_
   simp[-ζ,-ξ,↓KW,aA]
   have hm:=qN pl (by omega) nx
   rw[pv,va,vb]at hm
   have e:sg nx (x.natAbs-y.natAbs)=x+y:=by
    rw[←sx,←sy]
    cases nx<;>cases ny<;>simp[sg]at hn ⊢<;>omega
   rw[e]at hm
   refine aD hm ?_
   simp[-ζ,-ξ,↓KW,aA,encZ,encI]
theorem kN(m:List Nat):one (.d (aA m))=true:=rfl
theorem fU(m:List Nat):dF (.d (aA m))=some [.d (aA m)]:=rfl
theorem vJ(m:List Nat):aL (aA m)=.d (aA m):=rfl
theorem bY{n:Nat}(h:n≤1099511627776):n≤maxLen:=AY h (by decide)
def Sz(z:Int):Prop:=(aJ z.natAbs).length≤137438953472
theorem zQ(m:List Nat):inj (aA m)=.d (aA m):=rfl
theorem zN(H:Hp)(avs:List AV)(m:List Nat):aX H avs (aA m)=bT H avs:=rfl
theorem aR:type_of% (AN @fU (AN @kN (AN @vJ (AN @zQ @zN)))):=AN @fU (AN @kN (AN @vJ (AN @zQ @zN)))
theorem bB(z:Int):encZ z=.ag [.b (decide (z<0)),aA (aJ z.natAbs)]:=rfl
theorem aWe:encZ 0=.ag [.b false,.sl []]:=by
 unfold encZ encI
 rw[show(0:Int).natAbs=0 from rfl,cA];rfl
theorem yL(z:Int):strip (aJ z.natAbs)=[]↔z=0:=by
 rw[fI (bU _),cC,fQ];omega
theorem aJx[M:Mch Aa](z:Int)(hz:Sz z):Spec Aa 35 [encZ z] (.i .i64 z.sign):=by
 have:=bNw (decide (z<0)) (aJ z.natAbs) (AY hz (by decide))
 have e:(if strip (aJ z.natAbs)=[]then(0:Int)else if(decide (z<0))=true then -1 else 1)=z.sign:=by
  simp only[yL]
  rcases Fj z 0 with h|h|h
  ·rw[Ah (by omega),Ap (by simpa using h),D1 h]
  ·subst h;rfl
  ·rw[Ah (by omega),Ah (by simp;omega),DU h]
 rwa [e]at this
def jB[M:Mch Aa]:Nat→List Nat→Prop
 |_,[]=>True
 |n,p::l=>0<p∧p<2147483648∧Spec Aa 143 [.i .u64 n] (.i .u64 p)∧jB p l
def psL(ps:List Nat):List (List D):=ps.map fun(p:Nat)=>[.i .u64 (p:Int)]
theorem jB.at[M:Mch Aa]:∀{n:Nat} {ps:List Nat} {k p q:Nat},jB n ps→ps[k]? = some p→ps[k+1]? = some q→Spec Aa 143 [.i .u64 p] (.i .u64 q)
 |n,[],k,p,q,_,h,_=>by simp at h
 | n,x::l,0,p,q,hd,h,h2=>by
  simp only[BP,At]at h;subst h
  simp only[Bt]at h2
  cases l with
  |nil=>simp at h2
  |cons y l=>simp only[BP,At]at h2;subst h2;exact hd.2.2.2.2.2.1
 |n,x::l,k+1,p,q,hd,h,h2=>jB.at (k:=k) hd.2.2.2 (by simpa using h) (by simpa using h2)
theorem jB.pos[M:Mch Aa]:∀{n:Nat} {ps:List Nat} {k p:Nat},jB n ps→ps[k]? = some p→0<p∧p<2147483648
 |n,[],k,p,_,h=>by simp at h
 | n,x::l,0,p,hd,h=>by
  simp only[BP,At]at h;subst h;exact⟨hd.1,hd.2.1⟩
 |n,x::l,k+1,p,hd,h=>jB.pos (k:=k) hd.2.2.2 (by simpa using h)
set_option maxHeartbeats 8000000 in
set_option maxRecDepth 10000 in
theorem aKw[M:Mch Aa](n p0:Nat)(ps:List Nat)(hd:jB n (p0::ps)):lW Aa 142 [.pt [.i .u64 n]] (psL (p0::ps)):=by
 refine aZz (N:=14) aT Tryz.func142 rfl rfl rfl (by kernel_rfl) (by kernel_rfl) (by simp) fun l=>?_
 refine qV (by kernel_rfl) ?_
 simp[-ζ,-ξ,↓KW,↓aE,↓aB,↓aF,↓aG]
 refine aD hd.2.2.1 ?_
 simp[-ζ,-ξ,↓KW,↓aE,↓aB,↓aF,↓aG]
 refine nU ?_
 refine aDx (τ:=Nat×Nat) (by kernel_rfl) (fun x=>(p0::ps)[x.1]? = some x.2) (fun x=>StL [(0,.d (.lit (.func (.yield l) #[] #[]))),(3,.d (.i .u64 (x.2:Int)))] none []) (fun x=>x.1) (fun x=>(p0::ps).length-x.1) (0,p0) (by rfl) rfl ?_ ?_
 ·refine wkQ [] ?_ ?_
  ·simp[-ζ,upd,aL,Γ0]
  ·simp[-ζ,upd,aL,Γ0]
 ·rintro⟨k,p⟩ hk
  simp only at hk ⊢
  obtain⟨hp0,hp1⟩:=jB.pos hd hk
  have hlt:=(Ao.1 hk).1
  have hx:(psL (p0::ps))[k]? = some [.i .u64 (p:Int)]:=by
   unfold psL;rw[Ag,hk];rfl
  have hlen:(psL (p0::ps)).length=(p0::ps).length:=by simp[psL]
  generalize hL:(p0::ps)=L at *
  refine qV (by kernel_rfl) ?_
  simp[-ζ,-ξ,↓KW,↓aE,↓aB,↓aF,↓aG,hp0]
  refine uJ (P:=Aa) ?_
  refine nU ?_
  refine uJ ?_
  refine aAr (P:=Aa) (by kernel_rfl) rfl ?_
  simp[-ζ,-ξ,↓KW,↓aE,↓aB,↓aF,↓aG,hp0]
  refine aHa (dd:=[.i .u64 (p:Int)]) (l2:=[]) (by rfl) (by rfl) hx (by rfl) ?_
  rw[hlen]
  by_cases hl:k+1=L.length
  ·have e1:decide (k+1≠L.length)=false:=by simp[hl]
   rw[e1]
   simp[-ζ,-ξ,↓KW,↓aE,↓aB,↓aF,↓aG,lG,fin]
   refine iB _ (by kernel_rfl) ?_
   simp[-ζ,-ξ,↓KW,↓aE,↓aB,↓aF,↓aG,hlen,hl]
   exact⟨_,rfl⟩
  ·have e1:decide (k+1≠L.length)=true:=by simp[hl]
   rw[e1]
   obtain⟨q,hq⟩:∃ q,L[k+1]? = some q:=⟨_,Ab (by omega)⟩
   have hB:=jB.at hd hk hq
   simp[-ζ,-ξ,↓KW,↓aE,↓aB,↓aF,↓aG,lG,fin]
   refine iB _ (by kernel_rfl) ?_
   simp[-ζ,-ξ,↓KW,↓aE,↓aB,↓aF,↓aG]
   refine iB _ (by kernel_rfl) ?_
   simp[-ζ,-ξ,↓KW,↓aE,↓aB,↓aF,↓aG]
   refine aD hB ?_
   simp[-ζ,-ξ,↓KW,↓aE,↓aB,↓aF,↓aG]
   refine⟨(k+1,q),hq,by show L.length-(k+1)<L.length-k;omega,rfl,wkQ [] ?_ ?_⟩<;>simp[-ζ,upd,aL,Γ0]
theorem aDr[M:Mch Aa](n:Nat):Spec Aa 100 [.i .u64 n] (.fn 142 [.pt [.i .u64 n]]):=by
 refine bD (N:=4) Tryz.func100 ?_
 simp[-ζ,-ξ,↓KW,↓aE,↓aB,↓aF,↓aG]
theorem lA{n:Nat}(h:n≤2147483648):(n+1)*8≤140737488355328∧n+1≤1099511627776∧(n+1+1)*8≤140737488355328∧n+1+1≤1099511627776:=by
 refine⟨by omega,by omega,by omega,by omega⟩
def bL(l:List Nat):D:=.sl (l.map fun(p:Nat)=>[.i .u64 (p:Int)])
def dU(l:List Nat):List D:=l.map fun(p:Nat)=>.i .u64 (p:Int)
theorem eN(l:List Nat):(dU l).length=l.length:=by simp[dU]
theorem lU(x:Nat)(a b:List Nat):dU (x::(a++b))=dU (x::a)++dU b:=by simp[dU]
theorem pQ(x:Nat):dU [x]=[.i .u64 (x:Int)]:=rfl
theorem pS{l:List Nat}{n:Nat}(h:l.length=n):chunk 1 n (dU l)=l.map fun(p:Nat)=>[D.i .u64 (p:Int)]:=by
 rw[mS _ _ (by rw[eN];exact h.symm)];simp[dU]
theorem iK{l:List Nat}{n:Nat}(h:l.length=n):List.take n ((dU l).map AV.d)=(dU l).map AV.d:=AG (by simp[eN,h])
theorem cF{H H':Hp}{ρ:Nat→Nat}{a o l s b o' l' s':Nat}:mG H H' ρ (.own a o l s) (.own b o' l' s')↔(a=ρ b∧o=o'∧l=l'∧s=s'∧(H' b).isSome=true):=Iff.rfl
def prS(n:Int):List Nat→St
 |[]=>StL [(3,.ptr 1 0),(5,.ptr 2 0)] none [.cells 3 [.d (.i .i64 n)],.cells 25 [.nil]]
 |x::l=>StL [(3,.ptr 1 0),(5,.ptr 2 0)] none [.cells 3 [.d (.i .i64 n)],.cells 25 [.own 3 0 (l.length+1) 1],.cells 43 ((dU (x::l)).map .d)]
set_option maxHeartbeats 8000000 in
set_option maxRecDepth 10000 in
theorem rR[M:Mch Aa](n p0:Nat)(ps:List Nat)(hd:jB n (p0::ps))(hl:ps.length≤1000000) :
  Spec Aa 44 [.i .u64 n,.i .i64 ((ps.length+1:Nat):Int)] (bL (p0::ps)):=by
 have hx0:∀ k:Nat,(psL (p0::ps))[k]? = ((p0::ps)[k]?).map (fun(p:Nat)=>[D.i .u64 (p:Int)]):=fun k=>by simp only[psL,Ag]
 have hlen:(psL (p0::ps)).length=ps.length+1:=by simp[psL]
 have hseq:=aKw n p0 ps hd
 obtain⟨K,hK⟩:∃ K,K=ps.length+1:=⟨_,rfl⟩
 rw[←hK]at hlen ⊢
 have hLl:(p0::ps).length=K:=by rw[hK];rfl
 generalize hL:p0::ps=L at hx0 hlen hseq hLl hd ⊢
 have hK0:0<K:=by omega
 have hK1:¬(K=0):=by omega
 refine oR (N:=22) aT Tryz.func44 rfl rfl rfl (by kernel_rfl) (by kernel_rfl) (by simp) ?_
 refine cQ (by kernel_rfl) ?_
 simp[-ζ,-ξ,↓KW,↓aE,↓aB,↓aF,↓aG]
 refine aAt ?_
 refine cQ (by kernel_rfl) ?_
 simp[-ζ,-ξ,↓KW,↓aE,↓aB,↓aF,↓aG,hK1]
 refine cQ (by kernel_rfl) ?_
 simp[-ζ,-ξ,↓KW,↓aE,↓aB,↓aF,↓aG]
 refine cQ (by kernel_rfl) ?_
 simp[-ζ,-ξ,↓KW,↓aE,↓aB,↓aF,↓aG]
 refine aAs (P:=Aa) ?_
 refine cQ (by kernel_rfl) ?_
 simp[-ζ,-ξ,↓KW,↓aE,↓aB,↓aF,↓aG]
 refine aD (aDr n) ?_
 simp[-ζ,-ξ,↓KW,↓aE,↓aB,↓aF,↓aG]
 refine rZ ?_
 refine pU (psL L) (fun k=>prS K (L.take k)) [6,11,12,13,14,15,16,17,18,19,20] (.exit 0) (.exit 0) (.inr ⟨0,rfl⟩) (gf:=142) (caps:=[.pt [.i .u64 n]]) (by rfl) (by rfl) (by rfl) hseq ?_ (by kernel_rfl) (by rw[hlen];omega) ?_ ?_ ?_
 ·rw[Cx]
  refine wkQ [1,2] ?_ ?_<;>simp[-ζ,upd,aL,Γ0]
 ·intro k x hk hx
  rw[hlen]at hk
  rw[hx0,Af]at hx
  obtain⟨p,hp,rfl⟩:=hx
  refine⟨rfl,?_⟩
  rw[BE,hp,EA]
  have htl:(L.take k).length=k:=by rw[Be];omega
  generalize L.take k=T at htl ⊢
  cases T with
  | nil =>
   have hk0:k=0:=htl.symm
   have hKk:((1:Int)==(K:Int))=false:=by simp;omega
   show AWP _ _ ⟨upd (prS K []).Γ 11 (.d (.i .u64 (p:Int))),(prS K []).H,(prS K []).n⟩ _
   have hm1:(1:Nat)≤maxLen:=bY (by decide)
   simp[-ζ,-ξ,↓KW,↓aE,↓aB,↓aF,↓aG,prS,hKk,hm1]
   refine wkQ [1,2,4] ?_ ?_<;>simp[-ζ,upd,aL,Γ0,B6,cF,lU,pQ]
  | cons y T =>
   have hk0:T.length+1=k:=htl
   have hKk:((T.length:Int)+1+1==(K:Int))=false:=by simp;omega
   have hbb:=lA (n:=T.length+1) (by omega)
   show AWP _ _ ⟨upd (prS K (y::T)).Γ 11 (.d (.i .u64 (p:Int))),(prS K (y::T)).H,(prS K (y::T)).n⟩ _
   simp[-ζ,-ξ,↓KW,↓aE,↓aB,↓aF,↓aG,prS,hKk,eN,hbb,bY]
   refine wkQ [1,2,5] ?_ ?_<;>simp[-ζ,upd,aL,Γ0,B6,cF,lU,pQ]
 ·intro k x hk hx
  rw[hlen]at hk
  rw[hx0,Af]at hx
  obtain⟨p,hp,rfl⟩:=hx
  refine⟨rfl,?_⟩
  rw[BE,hp,EA]
  have htl:(L.take k).length=k:=by rw[Be];omega
  generalize L.take k=T at htl ⊢
  cases T with
  | nil =>
   have hk0:k=0:=htl.symm
   have hKk:((1:Int)==(K:Int))=true:=by simp;omega
   show AWP _ _ ⟨upd (prS K []).Γ 11 (.d (.i .u64 (p:Int))),(prS K []).H,(prS K []).n⟩ _
   have hm1:(1:Nat)≤maxLen:=bY (by decide)
   simp[-ζ,-ξ,↓KW,↓aE,↓aB,↓aF,↓aG,prS,hKk,hm1]
   refine wkQ [1,2,4] ?_ ?_<;>simp[-ζ,upd,aL,Γ0,B6,cF,lU,pQ]
  | cons y T =>
   have hk0:T.length+1=k:=htl
   have hKk:((T.length:Int)+1+1==(K:Int))=true:=by simp;omega
   have hbb:=lA (n:=T.length+1) (by omega)
   show AWP _ _ ⟨upd (prS K (y::T)).Γ 11 (.d (.i .u64 (p:Int))),(prS K (y::T)).H,(prS K (y::T)).n⟩ _
   simp[-ζ,-ξ,↓KW,↓aE,↓aB,↓aF,↓aG,prS,hKk,eN,hbb,bY]
   refine wkQ [1,2,5] ?_ ?_<;>simp[-ζ,upd,aL,Γ0,B6,cF,lU,pQ]
 ·rw[hlen,←hLl,List.take_length,←hL]
  simp[-ζ,-ξ,↓KW,↓aE,↓aB,↓aF,↓aG,prS]
  refine aAu _ (by kernel_rfl) ?_
  have hln2:(p0::ps).length=ps.length+1:=rfl
  have hfl:=eN (p0::ps)
  rw[hln2]at hfl
  simp[-ζ,-ξ,↓KW,↓aE,↓aB,↓aF,↓aG,prS,bL,hfl,pS hln2,iK hln2]
set_option maxRecDepth 10000 in
theorem aIm[M:Mch Aa](n:Nat):Spec Aa 44 [.i .u64 n,.i .i64 0] (bL []):=by
 refine oR (N:=22) aT Tryz.func44 rfl rfl rfl (by kernel_rfl) (by kernel_rfl) (by simp) ?_
 refine cQ (by kernel_rfl) ?_
 simp[-ζ,-ξ,↓KW,↓aE,↓aB,↓aF,↓aG]
 refine aAt ?_
 refine cQ (by kernel_rfl) ?_
 simp[-ζ,-ξ,↓KW,↓aE,↓aB,↓aF,↓aG,bL]
end Go.Am
end
section
open List renaming map_map→ζ,mapM_map→ξ
namespace Go.Am
open Go.Conc
open RowKit (Below)
section
variable {P:Program} [M:Mch P]
theorem aIv {f N:Nat} {fn:Func} {c:Code} {h:AV} {o o':HO} {args:List D} (hf:P.funcs[f]? = some fn) (hb:fn.body=some c) (hname:(fn.name == "runtime.NumGoroutine")=false) (hN:fn.ntmps=N)
    (ha:args.length+1≤N) (hno':qZ o'=true)
    (hA:∀(G:Ctx) (a:Act) (w:World),(∀ d,G.Z d=none)→SR G N [] (St1 h o args N) a w→WC P c (fun e a' w'=>∃ σ,((e=.normal∨e=.ret)∧iY P fn.results.toList σ=some (.tp [])∧σ.H 0=some o')∧SR G N [] σ a' w') a w):aBc P f h o args o' (.tp []):=by
  intro A W vs b hAl hAb hbl hob hl hv0 hv
  have hn:¬ fn.name = "runtime.NumGoroutine" := by simpa using hname
  refine⟨fun w=>by simp[callFunc,hf,hn,hb],?_⟩
  refine fS hf hb ?_
  subst hN
  refine(WpR.plain P).okv fun hok=>?_
  have hsr:=SR1 (N:=fn.ntmps) hok hAl hAb hbl hob hl hv0 hv ha
  refine bQ (hA _ _ _ (fun _=>rfl) hsr) ?_
  rintro e a w0 ⟨σ,⟨he,hr,hH0⟩,hs0⟩
  have hend:a.defers=[]∧∀ w,Env w0 w→∃ v,aH P (results fn a.tmps) w=.ok v w∧∃ ob',Kept (·=b) W.heap.size W w∧w.heap[b]? = some ob' ∧
      (∀ cur e,W.heap[b]? = some (.cells cur e (0,0))→∃ cur',ob'=.cells cur' e (0,0)∧cur'.size=cur.size) ∧
      CR (fun k=>A k∨(W.heap.size≤k∧k<w.heap.size)) w (ι1 b) o' ob'∧VD (fun k=>A k∨(W.heap.size≤k∧k<w.heap.size)) w (.tp []) v:=by
   refine⟨hs0.2.2.2.elim fun _ h=>h.elim fun _ h=>h.2.2.2.2.1,fun w henv=>?_⟩
   have hs:=hs0.env henv
   obtain⟨_,_,_,F,ι,hR,hdom,hVs,_,hdf,hp⟩:=hs
   obtain⟨v,hrun,hvd⟩:=jZ hR hVs hr
   obtain⟨b',hb'⟩:=(hdom 0).2 (by rw[hH0];rfl)
   have hbb:=hp b' hb'
   simp only at hbb
   subst hbb
   obtain⟨ob',hob',hcr⟩:=hR.obj 0 b' o' hb' hH0
   have hnF:¬F b':=(hR.place 0 b' hb').2.2 (fun x=>x)
   have hFA:∀ k,F k→A k∨(W.heap.size≤k∧k<w.heap.size):=fun k hk=>by
     rcases hR.F_ok k hk with h|h|h
     · exact .inl h
     · simp only at h;subst h;exact(hnF hk).elim
     · exact .inr ⟨h,hR.F_lt k hk⟩
   refine⟨v,hrun,ob',hR.kept,hob',fun cur e he=>?_,(wB hno' hcr).step ⟨hFA,fun _ _=>rfl,fun _ _ h=>h,fun _ _ cur _ _ h=>⟨cur,h,rfl⟩⟩,?_⟩
   · obtain⟨cur',h1,h2⟩:=hR.kept.shape b' cur e hbl he
     rw[hob']at h1;injection h1 with h1
     exact⟨cur',h1,h2⟩
   · cases hvd with|tp ds vs hl hh=>exact .tp _ _ hl fun k d v hk=>by simp at hk
  rcases he with rfl|rfl<;>exact hend
def bAs(P:Program)(E:Kn)(fuel:Nat)(f:FuncId)(h:AV)(o:HO)(args:List D):Option (HO×D) :=
  match P.funcs[f]? with
  |none=>none
  | some fn=>match fn.body with
    | some c=>if aVx P fn c&&decide (args.length+1≤fn.ntmps)then match ex P E fuel c (St1 h o args fn.ntmps)with
      | some (e,σ)=>match σ.H 0,bPb P fn (some (e,σ))with
        |some o',some (.tp [])=>if qZ o' then some (o',.tp [])else none
        |_,_=>none
      |none=>none
      else none
    |_=>none
theorem aHw{E:Kn}{fuel:Nat}(hm:P.follows .mixedOrders=true)(hE:aGx P E){f:FuncId}{h0:AV}{o o':HO}{args:List D}{r:D}(h:bAs P E fuel f h0 o args=some (o',r)):aBc P f h0 o args o' r:=by
  unfold bAs at h
  split at h
  · cases h
  rename_i fn hfn
  split at h
  case h_2=>cases h
  rename_i c hc
  split at h
  case isFalse=>cases h
  rename_i hok
  simp only[aVx,AR,Bool.not_eq_true',Bw]at hok
  obtain⟨⟨⟨h1,h2⟩,h3⟩,h4⟩:=hok
  split at h
  case h_2=>cases h
  rename_i e σ hex
  split at h
  case h_2=>cases h
  rename_i o1 hH hr
  split at h
  case isFalse=>cases h
  rename_i hfl
  injection h with h;injection h with e1 e2;subst e1;subst e2
  obtain⟨he,hr3⟩:=vR hr
  refine aIv hfn hc h3 rfl h4 hfl fun G a w hZ hs=>bQ (aAd hE hm hZ fuel c _ a w _ _ h1 h2 hex hs) ?_
  rintro e' a' w' ⟨rfl,hs'⟩
  exact⟨σ,⟨he,hr3,hH⟩,hs'⟩
def mL(P:Program)(E:Kn)(fuel:Nat):Nat→Kn
  |0=>{ E with call:=fun _ _=>none,ocall:=fun _ _ _ _=>none }
  | n+1=>{ E with
      call:=fun f args=>match E.call f args with|some r=>some r|none=>bTh P (mL P E fuel n) fuel f args
      ocall:=fun f h o args=>match E.ocall f h o args with|some r=>some r|none=>match o with
        |.cells _ _=>bAs P (mL P E fuel n) fuel f h o args
        |_=>bAt P (mL P E fuel n) fuel f h o args }
theorem oV{E:Kn}{fuel:Nat}(hm:P.follows .mixedOrders=true)(hE:aGx P E):∀ n,aGx P (mL P E fuel n)
  |0=>⟨(fun _ _ _ h=>by cases h),(fun _ _ _ _ _ _ h=>by cases h),hE.keys,hE.sorted⟩
  | n+1=>by
    have ih:=oV (fuel:=fuel) hm hE n
    refine⟨fun f ds r h=>?_,fun f h0 o ds o' r h=>?_,hE.keys,hE.sorted⟩
    · unfold mL at h
      simp only at h
      split at h
      · rename_i r' hr';injection h with h;subst h;exact hE.call _ _ _ hr'
      · exact aMz hm ih h
    · unfold mL at h
      simp only at h
      split at h
      · rename_i r' hr';injection h with h;subst h;exact hE.ocall _ _ _ _ _ _ hr'
      · split at h
        · exact aHw hm ih h
        · exact aHx hm ih h
def E00:Kn:=⟨fun _ _=>none,fun _ _ _ _=>none,fun _=>none,fun _ _=>false⟩
end
end Go.Am
end
section
open List renaming map_map→ζ,mapM_map→ξ
open Go Go.Am Go.Proofs
namespace Go.Am
theorem sY[M:Mch Aa](x p:Nat)(hp:0<p):Spec Aa 104 [.i .u64 x,.i .u64 p] (.i .u64 (x%p:Nat)):=by
 refine bD (N:=10) Tryz.func104 ?_
 have h0:((p:Int)==0)=false:=by simp;omega
 have ht:((x:Int).tmod (p:Int))=(x:Int)%(p:Int):=Int.tmod_eq_emod_of_nonneg (by omega)
 have h1:¬p=0:=by omega
 simp[-ζ,-ξ,↓KW,h0,h1,ht]
theorem nG[M:Mch Aa](p a b:Nat)(hp:0<p)(hab:a*b<18446744073709551616):Spec Aa 92 [.i .u64 p,.i .u64 a,.i .u64 b] (.i .u64 (a*b%p:Nat)):=by
 refine bD (N:=12) Tryz.func92 ?_
 have hw:AB.wrap ((a:Int)*(b:Int))=((a*b:Nat):Int):=by rw[←B9];exact wrap_u64 (by omega) (by omega)
 have hR:=sY (a*b) p hp
 generalize a*b%p=r at *
 generalize a*b=z at *
 simp[-ζ,-ξ,↓KW,hw]
 refine aD hR ?_
 simp[-ζ,-ξ,↓KW]
def rU(p:Nat):Nat→Nat→Nat→Nat→Nat
 |0,r,_,_=>r
 |n+1,r,a,e=>if e=0 then r else rU p n (if e%2=1 then r*a%p else r) (a*a%p) (e/2)
theorem aUq(p n r a:Nat):rU p n r a 0=r:=by cases n<;>simp[rU]
set_option maxHeartbeats 4000000 in
set_option maxRecDepth 10000 in
theorem aFh[M:Mch Aa](p a e:Nat)(hp:0<p)(hp1:p≤2147483648)(ha:a≤2147483648)(he:e<18446744073709551616) :
  Spec Aa 103 [.i .u64 p,.i .u64 a,.i .u64 e] (.i .u64 (rU p 64 (1%p) a e:Nat)):=by
 refine bD (N:=26) Tryz.func103 ?_
 have hR:=sY 1 p hp
 simp[-ζ,-ξ,↓KW]
 refine aD hR ?_
 simp[-ζ,-ξ,↓KW]
 have hm:∀ x:Nat,x%p≤2147483648:=fun x=>by have:=BL x hp;omega
 have hmm:∀ x y:Nat,x≤2147483648→y≤2147483648→x*y<18446744073709551616:=fun x y h1 h2=>Nat.lt_of_le_of_lt (A3 h1 h2) (by decide)
 obtain⟨R,hRR⟩:∃ R,rU p 64 (1%p) a e=R:=⟨_,rfl⟩
 have hc1:((1:Int)%(p:Int))=((1%p:Nat):Int):=by simp
 rw[hRR,hc1]
 have hr0:=hm 1
 generalize 1%p=r0 at *
 refine lQ (τ:={ x:Nat×Nat×Nat×Nat // rU p x.1 x.2.1 x.2.2.1 x.2.2.2=R∧x.2.2.2<2^x.1∧x.1≤64∧x.2.1≤2147483648∧x.2.2.1≤2147483648 })
  (S:=fun x=>StL [(0,.d (.i .u64 p)),(1,.d (.i .u64 (x.1.2.2.1:Nat))),(2,.d (.i .u64 (x.1.2.2.2:Nat))),(7,.d (.i .u64 (x.1.2.1:Nat)))] none []) (m:=fun x=>x.1.1) ⟨(64,r0,a,e),hRR,by simpa using he,AA _,hr0,ha⟩ ?_ ?_
 ·refine wkQ [] ?_ ?_<;>simp[-ζ,upd,aL,Γ0]
 ·rintro⟨⟨n,r,a,e⟩,h1,h2,h3,h4,h5⟩
  simp only at h1 h2 h3 h4 h5 ⊢
  rcases Bb e with he0|he0
  ·subst he0
   rw[aUq]at h1
   subst h1
   simp[-ζ,-ξ,↓KW]
  ·obtain⟨n,rfl⟩:∃ k,n=k+1:=by
    cases n with
    |zero=>simp at h2;omega
    |succ n=>exact⟨n,rfl⟩
   have hsh:fJ .shr .u64 (e:Int) 1=some (.i .u64 ((e/2:Nat):Int)):=by
    simp only[fJ,Dt]
    rw[Ah (by decide)]
    congr 2
    rw[show(2:Int)^(min (1:Int).toNat 64)=2 from by decide,Du _ (by decide)]
    simp
   have heb:e<18446744073709551616:=A9 h2 (AY (Nat.pow_le_pow_right (by decide) h3) (by decide))
   have hbt:bits .and .u64 (e:Int) 1=((e%2:Nat):Int):=by
    have:=bits_and_u64_nat e 1 heb (by decide)
    rw[Nat.and_one_is_mod]at this
    exact this
   have hn2:e/2<2^n:=by rw[BH]at h2;omega
   unfold rU at h1
   rw[Ah (by omega)]at h1
   have hM2:=nG p a a hp (hmm a a h5 h5)
   have hm2:=hm (a*a)
   generalize a*a%p=a2 at *
   generalize e/2=e2 at *
   by_cases hodd:e%2=1
   ·have hM1:=nG p r a hp (hmm r a h4 h5)
    have hm1:=hm (r*a)
    rw[Ap hodd]at h1
    generalize r*a%p=r2 at *
    rw[hodd]at hbt
    replace hbt:dK .and false (.d (.i .u64 (e:Int))) (.d (.i .u64 1))=some (.i .u64 1):=by show some (D.i .u64 (bits .and .u64 (e:Int) 1))=_;rw[hbt];rfl
    simp[-ζ,-ξ,↓KW,he0,hbt]
    refine aD hM1 ?_
    simp[-ζ,-ξ,↓KW]
    refine aD hM2 ?_
    simp[-ζ,-ξ,↓KW,hsh]
    refine⟨n,Cr _,r2,a2,e2,⟨h1,hn2,by omega,hm1,hm2⟩,.inr (wkQ [] ?_ ?_)⟩<;>simp[-ζ,upd,aL,Γ0]
   ·have hz:e%2=0:=by omega
    rw[Ah hodd]at h1
    rw[hz]at hbt
    replace hbt:dK .and false (.d (.i .u64 (e:Int))) (.d (.i .u64 1))=some (.i .u64 0):=by show some (D.i .u64 (bits .and .u64 (e:Int) 1))=_;rw[hbt];rfl
    simp[-ζ,-ξ,↓KW,he0,hbt]
    refine aD hM2 ?_
    simp[-ζ,-ξ,↓KW,hsh]
    refine⟨n,Cr _,r,a2,e2,⟨h1,hn2,by omega,h4,hm2⟩,.inr (wkQ [] ?_ ?_)⟩<;>simp[-ζ,upd,aL,Γ0]
def EPc(f:FuncId)(ds:List D):Option D :=
 if f=103 then match ds with
  |[.i .u64 p,.i .u64 a,.i .u64 e]=>if 0<p∧p≤2147483648∧0≤a∧a≤2147483648∧0≤e∧e<18446744073709551616 then some (.i .u64 (rU p.toNat 64 (1%p.toNat) a.toNat e.toNat:Nat))else none
  |_=>none
 else if f=92 then match ds with
  |[.i .u64 p,.i .u64 a,.i .u64 b]=>if 0<p∧0≤a∧0≤b∧a*b<18446744073709551616 then some (.i .u64 (a.toNat*b.toNat%p.toNat:Nat))else none
  |_=>none
 else none
theorem bVz[M:Mch Aa]{f:FuncId}{ds:List D}{r:D}(h:EPc f ds=some r):Spec Aa f ds r:=by
 unfold EPc at h
 split at h
 ·rename_i hf;subst hf
  split at h
  ·rename_i p a e
   split at h
   ·rename_i hc
    injection h with h;subst h
    obtain⟨h1,h2,h3,h4,h5,h6⟩:=hc
    have:=aFh p.toNat a.toNat e.toNat (by omega) (by omega) (by omega) (by omega)
    rwa [BN (by omega),BN h3,BN h5]at this
   ·cases h
  ·cases h
 ·split at h
  ·rename_i hf;subst hf
   split at h
   ·rename_i p a b
    split at h
    ·rename_i hc
     injection h with h;subst h
     obtain⟨h1,h2,h3,h4⟩:=hc
     have:=nG p.toNat a.toNat b.toNat (by omega) (by
      have:((a.toNat*b.toNat:Nat):Int)=a*b:=by rw[B9,BN h2,BN h3]
      omega)
     rwa [BN (by omega),BN h2,BN h3]at this
    ·cases h
   ·cases h
  ·cases h
def EP:Kn:={ E00 with call:=EPc }
theorem aSm[M:Mch Aa]:aGx Aa EP:=⟨fun f ds r h=>bVz h,fun _ _ _ _ _ _ h=>by(cases h),fun _ _ h=>by(cases h),fun _ _ h=>by(cases h)⟩
noncomputable def prB(n:Nat):Nat:=match(mL Aa EP 100 20).call 48 [.i .u64 n]with
 |some (.b true)=>1
 |some (.b false)=>2
 |_=>0
theorem bTt[M:Mch Aa]{n:Nat}{b:Bool}(h:prB n=if b then 1 else 2):Spec Aa 48 [.i .u64 n] (.b b):=by
 refine(oV (fuel:=100) aT aSm 20).call _ _ _ ?_
 unfold prB at h
 split at h
 ·rename_i he;rw[he];cases b<;>first|rfl|cases h
 ·rename_i he;rw[he];cases b<;>first|rfl|cases h
 ·cases b<;>cases h
noncomputable def zT(n m:Nat):Bool:=(AK (n-m)).all fun k=>prB (m+k)==if k==0 then 1 else 2
theorem fC[M:Mch Aa]{n m:Nat}(h:m<n)(hn:n≤2147483648)(hg:zT n m=true):Spec Aa 143 [.i .u64 n] (.i .u64 m):=by
 refine aPp n m h hn fun v h1 h2=>bTt ?_
 have:=AW.1 hg (v-m) (List.mem_range.2 (by omega))
 rw[show m+(v-m)=v from by omega,beq_iff_eq]at this
 rw[this]
 by_cases hv:v=m
 ·subst hv;simp
 ·have:v-m≠0:=by omega
  simp[hv,this]
theorem cAq:zT 2147483648 2147483647=true:=by kernel_rfl
theorem cAp:zT 2147483647 2147483629=true:=by kernel_rfl
theorem cAo:zT 2147483629 2147483587=true:=by kernel_rfl
theorem cAn:zT 2147483587 2147483579=true:=by kernel_rfl
theorem cAm:zT 2147483579 2147483563=true:=by kernel_rfl
theorem cAl:zT 2147483563 2147483549=true:=by kernel_rfl
theorem cAk:zT 2147483549 2147483543=true:=by kernel_rfl
theorem cAj:zT 2147483543 2147483497=true:=by kernel_rfl
theorem cAi:zT 2147483497 2147483489=true:=by kernel_rfl
theorem cAh:zT 2147483489 2147483477=true:=by kernel_rfl
def P10:List Nat:=[2147483647,2147483629,2147483587,2147483579,2147483563,2147483549,2147483543,2147483497,2147483489,2147483477]
theorem bFs[M:Mch Aa]:jB 2147483648 P10 :=
 ⟨by decide,by decide,fC (by decide) (by decide) cAq,by decide,by decide,fC (by decide) (by decide) cAp,by decide,by decide,fC (by decide) (by decide) cAo,by decide,by decide,fC (by decide) (by decide) cAn,by decide,by decide,fC (by decide) (by decide) cAm,by decide,by decide,fC (by decide) (by decide) cAl,by decide,by decide,fC (by decide) (by decide) cAk,by decide,by decide,fC (by decide) (by decide) cAj,by decide,by decide,fC (by decide) (by decide) cAi,by decide,by decide,fC (by decide) (by decide) cAh,trivial⟩
theorem jB.drop[M:Mch Aa]:∀{k n:Nat} {l:List Nat},jB n l→k<l.length→jB (if k=0 then n else l[k-1]!) (l.drop k)
 |0,n,l,h,_=>h
 |k+1,n,[],h,hk=>by simp at hk
 |1,n,x::l,h,hk=>h.2.2.2
 | k+2,n,x::l,h,hk=>by
  have:=jB.drop (k:=k+1) h.2.2.2 (by simp only[Aj]at hk;omega)
  simpa using this
theorem jB.take[M:Mch Aa]:∀{k n:Nat} {l:List Nat},jB n l→jB n (l.take k)
 |0,n,l,h=>trivial
 |k+1,n,[],h=>trivial
 |k+1,n,x::l,h=>⟨h.1,h.2.1,h.2.2.1,jB.take h.2.2.2⟩
theorem aWj(m n:Nat):kY (aJ m) (aJ n)=0↔m=n:=by
 unfold kY
 rw[fO,fO]
 by_cases h1:m<n
 ·simp[h1];omega
 ·by_cases h2:n<m
  ·simp[h1,h2];omega
  ·simp[h1,h2];omega
theorem bGe(a b:List Nat):-1≤kY a b∧kY a b≤1:=by
 unfold kY
 split
 ·exact⟨by decide,by decide⟩
 ·split<;>exact⟨by decide,by decide⟩
theorem bGd(m n:Nat):kY (aJ m) (aJ n)=if m<n then -1 else if n<m then 1 else 0:=by
 unfold kY
 rw[fO,fO]
 by_cases h1:m<n
 ·simp[h1]
 ·by_cases h2:n<m
  ·simp[h1,h2]
  ·simp[h1,h2]
theorem nC(x:Int):x.sign=if x<0 then -1 else if x=0 then 0 else 1:=by
 rcases Fj x 0 with h|h|h
 ·rw[D1 h,Ap h]
 ·subst h;rfl
 ·rw[DU h,Ah (by omega),Ah (by omega)]
theorem bKh{x y:Int}(hs:x.sign=y.sign):0<x.sign*kY (aJ x.natAbs) (aJ y.natAbs)↔y<x:=by
 rw[bGd]
 rw[nC,nC]at hs
 rw[nC]
 split at hs<;>(try split at hs)<;>(try split at hs)<;>(try split at hs)<;>simp_all<;>(try omega)
 all_goals (split<;>(try split)<;>omega)
theorem aZs{x y:Int}(hs:¬x.sign=y.sign):0<mE x.sign y.sign↔y<x:=by
 unfold mE
 rw[nC,nC]at hs ⊢
 split at hs<;>(try split at hs)<;>(try split at hs)<;>(try split at hs)<;>simp_all<;>(try omega)
theorem aRq[M:Mch Aa](x y:Int)(hx:Sz x)(hy:Sz y):∃ r:Int,Spec Aa 42 [encZ x,encZ y] (.i .i64 r)∧(0<r↔y<x):=by
 have hSx:=aJx x hx
 have hSy:=aJx y hy
 have hTx:=lR (aJ x.natAbs) (AY hx (by decide))
 have hTy:=lR (aJ y.natAbs) (AY hy (by decide))
 rw[oQ (kZ _)]at hTx hTy
 have hC:=zP (aJ x.natAbs) (aJ y.natAbs) (bU _) (bU _) (AY hx (by decide)) (AY hy (by decide))
 have hc0:=aWj x.natAbs y.natAbs
 have hcb:=bGe (aJ x.natAbs) (aJ y.natAbs)
 have hI:=bGf x.sign y.sign
 by_cases hs:x.sign=y.sign
 ·refine⟨x.sign*kY (aJ x.natAbs) (aJ y.natAbs),?_,?_⟩
  rotate_left
  ·exact bKh hs
  ·refine bD (N:=26) Tryz.func42 ?_
   have hne:((x.sign != y.sign):Bool)=false:=by simp[hs]
   have hsb:-1≤x.sign∧x.sign≤1:=by
    rcases Fj x 0 with h|h|h
    ·rw[D1 h];decide
    ·subst h;decide
    ·rw[DU h];decide
   generalize kY (aJ x.natAbs) (aJ y.natAbs)=r at *
   generalize y.sign=sy at *
   generalize x.sign=sx at *
   have hw:Al.wrap (sx*r)=sx*r:=by
    have h1:sx=-1∨sx=0∨sx=1:=by omega
    rcases h1 with rfl|rfl|rfl<;>exact aU
   simp[-ζ,-ξ,↓KW,bB,aR]
   refine aD hSx ?_
   simp[-ζ,-ξ,↓KW,bB,aR]
   refine aD hSy ?_
   simp[-ζ,-ξ,↓KW,hne,aR]
   refine aD hTx ?_
   simp[-ζ,-ξ,↓KW,aR]
   refine aD hTy ?_
   simp[-ζ,-ξ,↓KW,aR]
   refine aD hC ?_
   simp[-ζ,-ξ,↓KW,hw,aR]
 ·refine⟨mE x.sign y.sign,?_,?_⟩
  rotate_left
  ·exact aZs hs
  ·refine bD (N:=26) Tryz.func42 ?_
   have hne:((x.sign != y.sign):Bool)=true:=by simpa using hs
   generalize y.sign=sy at *
   generalize x.sign=sx at *
   simp[-ζ,-ξ,↓KW,bB,aR]
   refine aD hSx ?_
   simp[-ζ,-ξ,↓KW,bB,aR]
   refine aD hSy ?_
   simp[-ζ,-ξ,↓KW,hne,aR]
   refine aD hI ?_
   simp[-ζ,-ξ,↓KW]
theorem eJ{P:Program}(σ:St)(x y:ResultVar):iY P [x,y] σ=(jV P σ x).bind fun a=>(jV P σ y).bind fun b=>(frz σ.H 8 a).bind fun u=>(frz σ.H 8 b).bind fun v=>some (.tp [u,v]):=by
 unfold iY
 cases h1:jV P σ x<;>cases h2:jV P σ y<;>simp[cI,h1,h2]
 rename_i a b
 cases frz σ.H 8 a<;>cases frz σ.H 8 b<;>simp
theorem aNc{P:Program}(σ:St)(x y z:ResultVar):iY P [x,y,z] σ=(jV P σ x).bind fun a=>(jV P σ y).bind fun b=>(jV P σ z).bind fun c=>(frz σ.H 8 a).bind fun u=>(frz σ.H 8 b).bind fun v=>(frz σ.H 8 c).bind fun w=>some (.tp [u,v,w]):=by
 unfold iY
 cases h1:jV P σ x<;>cases h2:jV P σ y<;>cases h3:jV P σ z<;>simp[cI,h1,h2,h3]
 rename_i a b c
 cases frz σ.H 8 a<;>cases frz σ.H 8 b<;>cases frz σ.H 8 c<;>simp
def shS(a:List Nat)(d:Nat):Nat→List Nat×Nat
 |0=>(As a.length 0,0)
 |k+1=>((shS a d k).1.set (a.length-1-k) (((shS a d k).2*4294967296+a.getD (a.length-1-k) 0)/d),((shS a d k).2*4294967296+a.getD (a.length-1-k) 0)%d)
theorem aZr{o v v' p q d r r' x t t' w:Nat}(hs:v'+p*o=v+p*q)(ho:o=0)(ht:r*4294967296+x=t)(hq:r'+d*q=t)(hv:v*d+p*4294967296*r+(t'+p*x)=w):v'*d+p*r'+t'=w:=by
 subst ho
 have h1:v'=v+p*q:=by omega
 have h2:p*t=p*(r*4294967296)+p*x:=by rw[←ht,Cd]
 have h3:p*t=p*r'+p*(d*q):=by rw[←hq,Cd]
 have h4:p*q*d=p*(d*q):=by rw[B0,BJ q]
 have h5:p*4294967296*r=p*(r*4294967296):=by rw[B0,BJ r]
 rw[h1,BV,h4]
 omega
theorem bQu{r x d:Nat}(hr:r<d)(hx:x<4294967296):(r*4294967296+x)/d<4294967296:=by
 rw[Nat.div_lt_iff_lt_mul (by omega)]
 have:r*4294967296+4294967296≤d*4294967296:=by
  have:=Nat.mul_le_mul_right 4294967296 (Nat.succ_le_of_lt hr)
  rw[Nat.succ_mul]at this;exact this
 rw[BJ 4294967296]
 omega
theorem aQo{a:List Nat}{d:Nat}(ha:Lim a)(hd:0<d)(k:Nat)(hk:k≤a.length) :
  (shS a d k).1.length=a.length∧(shS a d k).2<d∧Lim (shS a d k).1∧(∀ i,i<a.length-k→(shS a d k).1.getD i 0=0) ∧
  val (shS a d k).1*d+4294967296^(a.length-k)*(shS a d k).2+val (a.take (a.length-k))=val a:=by
 induction k with
 |zero=>exact⟨by simp[shS],hd,.rep _,fun i _=>by simp[shS,List.getElem?_replicate];split<;>rfl,by simp[shS,xH]⟩
 | succ k ih =>
  obtain⟨h1,h2,h3,h4,h5⟩:=ih (by omega)
  obtain⟨j,hj⟩:∃ j,a.length-1-k=j:=⟨_,rfl⟩
  have hj1:a.length-k=j+1:=by omega
  have hj2:a.length-(k+1)=j:=by omega
  have hx:=ha.getD j
  have hset:=aEk (l:=(shS a d k).1) (j:=j) (by omega) (((shS a d k).2*4294967296+a.getD j 0)/d)
  have hoj:=h4 j (by omega)
  simp only[shS,hj,hj2]
  rw[hj1,bW,BH]at h5
  have hlt:=bQu h2 hx
  refine⟨by simp[h1],BL _ hd,h3.set _ hlt,fun i hi=>?_,?_⟩
  ·rw[Ac,D9 (by omega),←Ac]
   exact h4 i (by omega)
  ·exact aZr hset hoj rfl (Nat.mod_add_div _ _) h5
def shQ(a:List Nat)(d:Nat):List Nat:=(shS a d a.length).1
theorem aEt{a:List Nat}{d:Nat}(ha:Lim a)(hd:0<d):(shQ a d).length=a.length∧Lim (shQ a d)∧val (shQ a d)=val a/d∧(shS a d a.length).2=val a%d:=by
 obtain⟨h1,h2,h3,_,h5⟩:=aQo ha hd a.length (AA _)
 rw[CN,Db,CE,Cx,val,B8]at h5
 have:=(Nat.div_mod_unique hd).2 ⟨show(shS a d a.length).2+d*val (shQ a d)=val a by rw[BJ,Nat.add_comm];exact h5,h2⟩
 exact⟨h1,h3,this.1.symm,this.2.symm⟩
set_option maxRecDepth 10000 in
theorem aIh[M:Mch Aa](a:List Nat)(d:Nat)(ha:Lim a)(hd:0<d)(hd2:d<4294967296)(hla:a.length≤1099511627776):Spec Aa 156 [aA a,.i .u32 d] (.tp [aA (shQ a d),.i .u32 ((val a%d:Nat):Int)]):=by
 refine bD (N:=42) Tryz.func156 ?_
 obtain⟨n,hn⟩:∃ n,a.length=n:=⟨_,rfl⟩
 have hm1:(4:Int)*n≤281474976710656:=by omega
 have hm2:(n:Int)≤9223372036854775807:=by omega
 have hw1:Al.wrap ((n:Int)-1)=(n:Int)-1:=aU
 have hwd:AB.wrap (d:Int)=d:=wrap_u64 (by omega) (by omega)
 have hdz:¬d=0:=by omega
 have h00:(shS a d 0).1=As n 0:=by rw[←hn];rfl
 have h01:(shS a d 0).2=0:=rfl
 simp[-ζ,-ξ,↓KW,aA,hn,hw1,hm1,hm2]
 refine bX (fun k:Nat=>k≤n)
  (fun k=>StL [(0,.d (aA a)),(1,.d (.i .u32 d)),(6,.own 1 0 n 1),(7,.d (.i .u64 (shS a d k).2)),(8,.d (.i .i64 ((n:Int)-1-k)))] none
   [.cells 72 ((lms (shS a d k).1).map .d)]) (fun k=>n-k) 0 (A5 _) ?_ ?_
 ·refine wkQ [1] ?_ ?_<;>simp[-ζ,upd,aL,Γ0,aA,h00,h01]
 ·intro k hk
  obtain⟨ol,oc,om,_,_⟩:=aQo ha hd k (by omega)
  rw[hn]at ol
  by_cases hgo:k<n
  ·have q1:(0:Int)≤(n:Int)-1-k:=by omega
   obtain⟨j,hj⟩:∃ j,a.length-1-k=j:=⟨_,rfl⟩
   have hji:(n:Int)-1-k=j:=by omega
   have hsucc:shS a d (k+1)=((shS a d k).1.set j (((shS a d k).2*4294967296+a.getD j 0)/d),((shS a d k).2*4294967296+a.getD j 0)%d):=by rw[←hj];rfl
   have g1:=getD_some (l:=a) (i:=j) (by omega)
   have hx:=ha.getD j
   have hlt:=bQu oc hx
   generalize hout:(shS a d k).1=out at *
   generalize hcar:(shS a d k).2=r at *
   generalize a.getD j 0=x at *
   obtain⟨t,ht⟩:∃ t,r*4294967296+x=t:=⟨_,rfl⟩
   rw[ht]at hsucc hlt
   obtain⟨q,hq⟩:∃ q,t/d=q:=⟨_,rfl⟩
   obtain⟨r',hr'⟩:∃ r',t%d=r':=⟨_,rfl⟩
   rw[hq,hr']at hsucc
   rw[hq]at hlt
   have hr'd:r'<d:=by rw[←hr'];exact BL _ hd
   have hwx:AB.wrap (x:Int)=x:=wrap_u64 (by omega) (by omega)
   have hwr:AB.wrap ((r:Int)*4294967296)=(r:Int)*4294967296:=wrap_u64 (by omega) (by omega)
   have hwt:AB.wrap ((r:Int)*4294967296+x)=t:=by rw[wrap_u64 (by omega) (by omega)];omega
   have hwq:AB.wrap ((t:Int)/d)=q:=by rw[←Int.natCast_ediv,hq,wrap_u64 (by omega) (by omega)]
   have hwq2:BR.wrap (q:Int)=q:=gJ (by omega) (by omega)
   have hwm:Int.tmod (t:Int) d=r':=by rw[←Int.ofNat_tmod,hr']
   have hw8:Al.wrap ((j:Int)-1)=(j:Int)-1:=aU
   have hjn:j<n:=by omega
   have hjl3:j+1≤n:=by omega
   have hlay:lay (Cs AV.d (lms out)) j [AV.d (D.i .u32 (q:Int))]=Cs AV.d (lms (out.set j q)):=by
    rw[jO _ _ _ (by rw[jN];omega),tN]
   have he:(n:Int)-1-((k:Int)+1)=(j:Int)-1:=by omega
   rw[hji]
   simp[-ζ,-ξ,↓KW,aA,g1,hwx,hwr,hwt,hwd,hdz,hwq,hwq2,hwm,hw8,hjn,hjl3,hlay,ol]
   refine aK (k+1) hgo ?_ (wkQ [1] ?_ ?_)
   ·omega
   ·simp[-ζ,upd,aL,Γ0,aA,hsucc,he]
   ·simp[-ζ,upd,aL,Γ0,aA,hsucc,he]
  ·have e:k=n:=by omega
   have q1:¬(k:Int)≤(n:Int)-1:=by omega
   obtain⟨s1,s2,s3,s4⟩:=aEt ha hd
   have e1:(shS a d k).1=shQ a d:=by rw[e,←hn];rfl
   have e2:(shS a d k).2=val a%d:=by rw[e,←hn];exact s4
   rw[hn]at s1
   have hrd:val a%d<d:=BL _ hd
   have e3:(val a:Int)%d=((val a%d:Nat):Int):=by rw[Int.natCast_emod]
   rw[e1,e2]
   generalize val a%d=r at *
   have hwr:BR.wrap (r:Int)=r:=gJ (by omega) (by omega)
   simp[-ζ,-ξ,↓KW,aA,q1,s1,dT s1,cL s1,hwr,e3,eJ]
end Go.Am
end
