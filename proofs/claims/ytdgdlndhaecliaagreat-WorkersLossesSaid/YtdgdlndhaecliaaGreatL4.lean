/- Arguments of chapter 20's laws opened. No condition. -/
import Derived.Test.YtdgdlndhaecliaaGreatL3
import Derived.Test.YtdgdlndhaecliaaGreatRows
import Derived.AtR
import Derived.RangeFuncIn
import Derived.RangeFuncRecord
import Derived.Conc.Beside
import Derived.Conc.Fork
import Derived.Conc.LeavingOf
import Derived.Conc.Holds
import Derived.ProofKit
import Derived.OpenShut
open And renaming intro→AP
open Array renaming empty_append→Cf,getElem?_eq_getElem→Ak,getElem?_eq_some_iff→AQ,getElem?_map→BN,getElem?_push→Bu,getElem?_setIfInBounds_ne→AF,getElem?_setIfInBounds_self_of_lt→BM,length_toList→BE,mem_of_getElem?→BQ,replicate→AX
open Bool renaming and_eq_true→A1,false_eq_true→Ad,or_eq_false_iff→FD
open Go.Act renaming put→CQ
open Go.CallKind renaming early→C0
open Go.Conc renaming mem_ofEvents→BA
open Go.ConcN renaming upd→Bb
open Go.Deferred renaming ofValue→Cu
open Go.Exit renaming inBlock→DC
open Go.Frame renaming atR→Co,enter→CP,finish_at→DU,finish_atR→Ef,round→E5
open Go.GStep renaming after→Cp
open Go.Instr renaming beginRound→EM,endRound→FT,takeDeferred→E2
open Go.IntKind renaming bits→Cz,i64→Ag,u32→BC,u64→Az
open Go.MemAct renaming ofEvent→Bc,touch?→Bx
open Go.MemOp renaming ofEvents→BK
open Go.Obj renaming cells→CZ
open Go.Program renaming underlying→Al
open Go.Proofs.Tryz renaming prog→Aa,prog→Dd
open Go.Region renaming ready→Bt,schedule→FF,wanted→Bs
open Go.Region.linearise renaming go→Cr
open Go.Result renaming andThen→Eg,andThen_ok→AJ
open Go.Sem renaming runT_eq→C3
open Go.World renaming cell?→Bw,putObj_heap_other→Eh
open Go.stepG renaming apply→DI,exec→Cd
open Int renaming fdiv_eq_ediv_of_nonneg→CL,lt_trichotomy→Ff,mul_neg→D3,natCast_mul→CB,sign_eq_neg_one_of_neg→DN,sign_eq_one_of_pos→DG
open List renaming all_eq_true→A4,drop_eq_getElem_cons→Cx,drop_eq_nil_of_le→C8,getD_eq_getElem?_getD→Af,getElem?_append_left→AR,getElem?_append_right→AM,getElem?_eq_getElem→Ab,getElem?_eq_none→A6,getElem?_eq_some_iff→Aq,getElem?_map→Ai,length_append→A9,length_cons→Ah,map→CI,map_take→Gq,mem_cons→BB,mem_cons_of_mem→AD,mem_cons_self→AH,mem_iff_getElem→BP,mem_of_getElem?→Ao,nodup_cons→Dv,range'→De,range'_succ→DK,range_eq_range'→EE,replicate→Aw,set_cons_zero→DO,singleton_append→Fl,take_add_one→A7,take_of_length_le→Ax
open Nat renaming add_assoc→DH,add_mul→B2,add_zero→B6,eq_zero_or_pos→Be,le_refl→AE,le_trans→AO,lt_of_lt_of_le→A3,lt_or_ge→AY,mod_lt→BY,mul_add→Cq,mul_assoc→BT,mul_comm→BV,mul_le_mul→Bg,mul_le_mul_left→Cc,mul_left_comm→Fg,mul_one→DJ,mul_zero→C1,pow_add→E6,pow_succ→BJ,zero_add→AB,zero_le→A8
open Option renaming getD_some→AU,isSome_map→ED,map_eq_some_iff→Ae,map_some→AW
open Option.some renaming inj→Bj,injEq→Au
open _root_ renaming decide_eq_true_eq→BO,if_false→Ay,if_neg→Aj,if_pos→Ar,if_true→AI
set_option linter.unusedSectionVars false
set_option linter.unusedVariables false
set_option linter.unusedSimpArgs false
section
open Go Go.Proofs
namespace Go.Am
@[simp]theorem cAg:tsz Aa 2=some 1∧tby Aa 2=some 8∧tz Aa 2=some (.int .i64 0)∧cB Aa 2=some false∧tel Aa 2=none∧bO Aa 2=false∧(Al Aa 2).isSome=true∧fB Aa 2=some .i64∧tsz Aa 3=some 1∧tby Aa 3=some 8∧tz Aa 3=some (.int .i64 0)∧cB Aa 3=some false∧tel Aa 3=none∧bO Aa 3=false∧(Al Aa 3).isSome=true∧fB Aa 3=some .i64∧tsz Aa 4=some 1∧tby Aa 4=some 1∧tz Aa 4=some (.bool false)∧cB Aa 4=some false∧tel Aa 4=none∧bO Aa 4=true∧(Al Aa 4).isSome=true∧tsz Aa 5=some 1∧tby Aa 5=some 1∧tz Aa 5=some (.int .u8 0)∧cB Aa 5=some false∧tel Aa 5=none∧bO Aa 5=false∧(Al Aa 5).isSome=true∧fB Aa 5=some .u8∧tsz Aa 6=some 1∧tby Aa 6=some 1∧tz Aa 6=some (.int .u8 0)∧cB Aa 6=some false∧tel Aa 6=none∧bO Aa 6=false∧(Al Aa 6).isSome=true∧fB Aa 6=some .u8∧tsz Aa 7=some 4:=by and_intros<;>kernel_rfl
@[simp]theorem cAh:tby Aa 7=some 24∧tz Aa 7=some (.agg #[.int .i64 0,.int .i64 0,.bool false,.int .u8 0])∧cB Aa 7=some true∧tel Aa 7=none∧bO Aa 7=false∧(Al Aa 7).isSome=true∧eL Aa 7=some [(0,1),(1,1),(2,1),(3,1)]∧tsz Aa 8=some 4∧tby Aa 8=some 24∧tz Aa 8=some (.agg #[.int .i64 0,.int .i64 0,.bool false,.int .u8 0])∧cB Aa 8=some true∧tel Aa 8=none∧bO Aa 8=false∧(Al Aa 8).isSome=true∧eL Aa 8=some [(0,1),(1,1),(2,1),(3,1)]∧tsz Aa 12=some 1∧tby Aa 12=some 8∧tz Aa 12=some (.int .u64 0)∧cB Aa 12=some false∧tel Aa 12=none∧bO Aa 12=false∧(Al Aa 12).isSome=true∧fB Aa 12=some .u64∧tsz Aa 21=some 1∧tby Aa 21=some 4∧tz Aa 21=some (.int .i32 0)∧cB Aa 21=some false∧tel Aa 21=none∧bO Aa 21=false∧(Al Aa 21).isSome=true∧fB Aa 21=some .i32∧tsz Aa 22=some 1∧tby Aa 22=some 24∧tz Aa 22=some (.slice none 0 0)∧cB Aa 22=some false∧tel Aa 22=some 84∧bO Aa 22=false∧(Al Aa 22).isSome=true∧tsz Aa 23=some 1∧tby Aa 23=some 24:=by and_intros<;>kernel_rfl
@[simp]theorem cAf:tz Aa 23=some (.agg #[.slice none 0 0])∧cB Aa 23=some true∧tel Aa 23=none∧bO Aa 23=false∧(Al Aa 23).isSome=true∧eL Aa 23=some [(0,1)]∧tsz Aa 24=some 1∧tby Aa 24=some 24∧tz Aa 24=some (.agg #[.slice none 0 0])∧cB Aa 24=some true∧tel Aa 24=none∧bO Aa 24=false∧(Al Aa 24).isSome=true∧eL Aa 24=some [(0,1)]∧tsz Aa 25=some 1∧tby Aa 25=some 1∧tz Aa 25=some (.int .i8 0)∧cB Aa 25=some false∧tel Aa 25=none∧bO Aa 25=false∧(Al Aa 25).isSome=true∧fB Aa 25=some .i8∧tsz Aa 27=some 1∧tby Aa 27=some 24∧tz Aa 27=some (.slice none 0 0)∧cB Aa 27=some false∧tel Aa 27=some 78∧bO Aa 27=false∧(Al Aa 27).isSome=true∧tsz Aa 29=some 1∧tby Aa 29=some 24∧tz Aa 29=some (.slice none 0 0)∧cB Aa 29=some false∧tel Aa 29=some 89∧bO Aa 29=false∧(Al Aa 29).isSome=true∧tsz Aa 30=some 2∧tby Aa 30=some 32∧tz Aa 30=some (.agg #[.bool false,.slice none 0 0])∧cB Aa 30=some true:=by and_intros<;>kernel_rfl
@[simp]theorem bYp:tel Aa 30=none∧bO Aa 30=false∧(Al Aa 30).isSome=true∧eL Aa 30=some [(0,1),(1,1)]∧tsz Aa 31=some 2∧tby Aa 31=some 32∧tz Aa 31=some (.agg #[.bool false,.slice none 0 0])∧cB Aa 31=some true∧tel Aa 31=none∧bO Aa 31=false∧(Al Aa 31).isSome=true∧eL Aa 31=some [(0,1),(1,1)]∧tsz Aa 32=some 1∧tby Aa 32=some 24∧tz Aa 32=some (.slice none 0 0)∧cB Aa 32=some false∧tel Aa 32=some 3∧bO Aa 32=false∧(Al Aa 32).isSome=true∧tsz Aa 33=some 3∧tby Aa 33=some 56∧tz Aa 33=some (.agg #[.bool false,.slice none 0 0,.slice none 0 0])∧cB Aa 33=some true∧tel Aa 33=none∧bO Aa 33=false∧(Al Aa 33).isSome=true∧eL Aa 33=some [(0,2),(2,1)]∧tsz Aa 34=some 3∧tby Aa 34=some 56∧tz Aa 34=some (.agg #[.bool false,.slice none 0 0,.slice none 0 0])∧cB Aa 34=some true∧tel Aa 34=none∧bO Aa 34=false∧(Al Aa 34).isSome=true∧eL Aa 34=some [(0,2),(2,1)]∧tsz Aa 35=some 1∧tby Aa 35=some 8∧tz Aa 35=some (.int .i64 0)∧cB Aa 35=some false∧tel Aa 35=none:=by and_intros<;>kernel_rfl
@[simp]theorem bWb:bO Aa 35=false∧(Al Aa 35).isSome=true∧fB Aa 35=some .i64∧tsz Aa 46=some 1∧tby Aa 46=some 24∧tz Aa 46=some (.slice none 0 0)∧cB Aa 46=some false∧tel Aa 46=some 51∧bO Aa 46=false∧(Al Aa 46).isSome=true∧tsz Aa 51=some 1∧tby Aa 51=some 8∧tz Aa 51=some (.int .u64 0)∧cB Aa 51=some false∧tel Aa 51=none∧bO Aa 51=false∧(Al Aa 51).isSome=true∧fB Aa 51=some .u64∧tsz Aa 53=some 1∧tby Aa 53=some 24∧tz Aa 53=some (.slice none 0 0)∧cB Aa 53=some false∧tel Aa 53=some 25∧bO Aa 53=false∧(Al Aa 53).isSome=true∧tsz Aa 54=some 3∧tby Aa 54=some 32∧tz Aa 54=some (.agg #[.int .u8 0,.int .u8 0,.slice none 0 0])∧cB Aa 54=some true∧tel Aa 54=none∧bO Aa 54=false∧(Al Aa 54).isSome=true∧eL Aa 54=some [(0,1),(1,1),(2,1)]∧tsz Aa 55=some 3∧tby Aa 55=some 32∧tz Aa 55=some (.agg #[.int .u8 0,.int .u8 0,.slice none 0 0])∧cB Aa 55=some true∧tel Aa 55=none∧bO Aa 55=false∧(Al Aa 55).isSome=true:=by and_intros<;>kernel_rfl
@[simp]theorem bYk:eL Aa 55=some [(0,1),(1,1),(2,1)]∧tsz Aa 56=some 1∧tby Aa 56=some 24∧tz Aa 56=some (.slice none 0 0)∧cB Aa 56=some false∧tel Aa 56=some 5∧bO Aa 56=false∧(Al Aa 56).isSome=true∧tsz Aa 57=some 4∧tby Aa 57=some 64∧tz Aa 57=some (.agg #[.int .u8 0,.slice none 0 0,.slice none 0 0,.int .u8 0])∧cB Aa 57=some true∧tel Aa 57=none∧bO Aa 57=false∧(Al Aa 57).isSome=true∧eL Aa 57=some [(0,1),(1,1),(2,1),(3,1)]∧tsz Aa 58=some 4∧tby Aa 58=some 64∧tz Aa 58=some (.agg #[.int .u8 0,.slice none 0 0,.slice none 0 0,.int .u8 0])∧cB Aa 58=some true∧tel Aa 58=none∧bO Aa 58=false∧(Al Aa 58).isSome=true∧eL Aa 58=some [(0,1),(1,1),(2,1),(3,1)]∧tsz Aa 59=some 1∧tby Aa 59=some 24∧tz Aa 59=some (.slice none 0 0)∧cB Aa 59=some false∧tel Aa 59=some 110∧bO Aa 59=false∧(Al Aa 59).isSome=true∧tsz Aa 60=some 3∧tby Aa 60=some 40∧tz Aa 60=some (.agg #[.int .i64 0,.int .i64 0,.slice none 0 0])∧cB Aa 60=some true∧tel Aa 60=none∧bO Aa 60=false∧(Al Aa 60).isSome=true∧eL Aa 60=some [(0,1),(1,1),(2,1)]∧tsz Aa 61=some 3:=by and_intros<;>kernel_rfl
@[simp]theorem bYr:tby Aa 61=some 40∧tz Aa 61=some (.agg #[.int .i64 0,.int .i64 0,.slice none 0 0])∧cB Aa 61=some true∧tel Aa 61=none∧bO Aa 61=false∧(Al Aa 61).isSome=true∧eL Aa 61=some [(0,1),(1,1),(2,1)]∧tsz Aa 75=some 2∧tby Aa 75=some 16∧tz Aa 75=some (.agg #[.int .u64 0,.int .u64 0])∧cB Aa 75=some true∧tel Aa 75=none∧bO Aa 75=false∧(Al Aa 75).isSome=true∧eL Aa 75=some [(0,1),(1,1)]∧tsz Aa 76=some 2∧tby Aa 76=some 16∧tz Aa 76=some (.agg #[.int .u64 0,.int .u64 0])∧cB Aa 76=some true∧tel Aa 76=none∧bO Aa 76=false∧(Al Aa 76).isSome=true∧eL Aa 76=some [(0,1),(1,1)]∧tsz Aa 77=some 3∧tby Aa 77=some 24∧tz Aa 77=some (.agg #[.int .i64 0,.int .u64 0,.int .u64 0])∧cB Aa 77=some true∧tel Aa 77=none∧bO Aa 77=false∧(Al Aa 77).isSome=true∧eL Aa 77=some [(0,1),(1,2)]∧tsz Aa 78=some 3∧tby Aa 78=some 24∧tz Aa 78=some (.agg #[.int .i64 0,.int .u64 0,.int .u64 0])∧cB Aa 78=some true∧tel Aa 78=none∧bO Aa 78=false∧(Al Aa 78).isSome=true∧eL Aa 78=some [(0,1),(1,2)]∧tsz Aa 81=some 1:=by and_intros<;>kernel_rfl
@[simp]theorem bYq:tby Aa 81=some 24∧tz Aa 81=some (.slice none 0 0)∧cB Aa 81=some false∧tel Aa 81=some 2∧bO Aa 81=false∧(Al Aa 81).isSome=true∧tsz Aa 84=some 3∧tby Aa 84=some 3∧tz Aa 84=some (.agg #[.int .u8 0,.int .u8 0,.int .u8 0])∧cB Aa 84=some true∧tel Aa 84=none∧bO Aa 84=false∧(Al Aa 84).isSome=true∧eL Aa 84=none∧wT Aa 84=some (3,5)∧tsz Aa 89=some 1∧tby Aa 89=some 4∧tz Aa 89=some (.int .u32 0)∧cB Aa 89=some false∧tel Aa 89=none∧bO Aa 89=false∧(Al Aa 89).isSome=true∧fB Aa 89=some .u32∧tsz Aa 92=some 1∧tby Aa 92=some 24∧tz Aa 92=some (.slice none 0 0)∧cB Aa 92=some false∧tel Aa 92=some 76∧bO Aa 92=false∧(Al Aa 92).isSome=true∧tsz Aa 94=some 1∧tby Aa 94=some 8∧tz Aa 94=some (.int .u64 0)∧cB Aa 94=some false∧tel Aa 94=none∧bO Aa 94=false∧(Al Aa 94).isSome=true∧fB Aa 94=some .u64∧tsz Aa 110=some 1∧tby Aa 110=some 24:=by and_intros<;>kernel_rfl
@[simp]theorem bYo:tz Aa 110=some (.slice none 0 0)∧cB Aa 110=some false∧tel Aa 110=some 31∧bO Aa 110=false∧(Al Aa 110).isSome=true∧tsz Aa 112=some 0∧tby Aa 112=some 0∧tz Aa 112=some (.agg #[])∧cB Aa 112=some true∧tel Aa 112=none∧bO Aa 112=false∧(Al Aa 112).isSome=true∧eL Aa 112=some []∧tsz Aa 113=some 0∧tby Aa 113=some 0∧tz Aa 113=some (.agg #[])∧cB Aa 113=some true∧tel Aa 113=none∧bO Aa 113=false∧(Al Aa 113).isSome=true∧eL Aa 113=some []∧tsz Aa 114=some 0∧tby Aa 114=some 0∧tz Aa 114=some (.agg #[])∧cB Aa 114=some true∧tel Aa 114=none∧bO Aa 114=false∧(Al Aa 114).isSome=true∧eL Aa 114=some []∧tsz Aa 115=some 0∧tby Aa 115=some 0∧tz Aa 115=some (.agg #[])∧cB Aa 115=some true∧tel Aa 115=none∧bO Aa 115=false∧(Al Aa 115).isSome=true∧eL Aa 115=some []∧tsz Aa 116=some 1∧tby Aa 116=some 8∧tz Aa 116=some (.agg #[.int .u64 0]):=by and_intros<;>kernel_rfl
@[simp]theorem bWc:cB Aa 116=some true∧tel Aa 116=none∧bO Aa 116=false∧(Al Aa 116).isSome=true∧eL Aa 116=some [(0,0),(0,0),(0,1)]∧tsz Aa 117=some 1∧tby Aa 117=some 8∧tz Aa 117=some (.agg #[.int .u64 0])∧cB Aa 117=some true∧tel Aa 117=none∧bO Aa 117=false∧(Al Aa 117).isSome=true∧eL Aa 117=some [(0,0),(0,0),(0,1)]∧tsz Aa 118=some 2∧tby Aa 118=some 16∧tz Aa 118=some (.agg #[.int .u64 0,.int .u32 0])∧cB Aa 118=some true∧tel Aa 118=none∧bO Aa 118=false∧(Al Aa 118).isSome=true∧eL Aa 118=some [(0,0),(0,1),(1,1)]∧tsz Aa 119=some 2∧tby Aa 119=some 16∧tz Aa 119=some (.agg #[.int .u64 0,.int .u32 0])∧cB Aa 119=some true∧tel Aa 119=none∧bO Aa 119=false∧(Al Aa 119).isSome=true∧eL Aa 119=some [(0,0),(0,1),(1,1)]∧tsz Aa 125=some 1∧tby Aa 125=some 8∧cB Aa 125=some false∧tel Aa 125=none∧bO Aa 125=false∧(Al Aa 125).isSome=true∧tmp Aa 125=some (3,4)∧tsz Aa 131=some 1∧tby Aa 131=some 24∧tz Aa 131=some (.slice none 0 0)∧cB Aa 131=some false:=by and_intros<;>kernel_rfl
@[simp]theorem bYf:tel Aa 131=some 76∧bO Aa 131=false∧(Al Aa 131).isSome=true∧tsz Aa 138=some 4∧tby Aa 138=some 32∧tz Aa 138=some (.agg #[.int .u64 0,.int .u64 0,.int .u64 0,.int .u64 0])∧cB Aa 138=some true∧tel Aa 138=none∧bO Aa 138=false∧(Al Aa 138).isSome=true∧eL Aa 138=none∧wT Aa 138=some (4,51)∧tsz Aa 144=some 1∧tby Aa 144=some 24∧tz Aa 144=some (.slice none 0 0)∧cB Aa 144=some false∧tel Aa 144=some 46∧bO Aa 144=false∧(Al Aa 144).isSome=true∧tsz Aa 146=some 1∧tby Aa 146=some 24∧tz Aa 146=some (.slice none 0 0)∧cB Aa 146=some false∧tel Aa 146=some 31∧bO Aa 146=false∧(Al Aa 146).isSome=true∧tsz Aa 148=some 1∧tby Aa 148=some 8∧cB Aa 148=some false∧tel Aa 148=none∧bO Aa 148=false∧(Al Aa 148).isSome=true∧tmp Aa 148=some (51,4)∧tsz Aa 152=some 1∧tby Aa 152=some 8∧tz Aa 152=some (.int .i64 0)∧cB Aa 152=some false∧tel Aa 152=none∧bO Aa 152=false∧(Al Aa 152).isSome=true:=by and_intros<;>kernel_rfl
@[simp]theorem bWa:fB Aa 152=some .i64∧tsz Aa 161=some 3∧tby Aa 161=some 40∧tz Aa 161=some (.agg #[.int .u64 0,.int .i64 0,.slice none 0 0])∧cB Aa 161=some true∧tel Aa 161=none∧bO Aa 161=false∧(Al Aa 161).isSome=true∧eL Aa 161=some [(0,1),(1,1),(2,1)]∧tsz Aa 162=some 3∧tby Aa 162=some 40∧tz Aa 162=some (.agg #[.int .u64 0,.int .i64 0,.slice none 0 0])∧cB Aa 162=some true∧tel Aa 162=none∧bO Aa 162=false∧(Al Aa 162).isSome=true∧eL Aa 162=some [(0,1),(1,1),(2,1)]∧tsz Aa 167=some 1∧tby Aa 167=some 24∧tz Aa 167=some (.slice none 0 0)∧cB Aa 167=some false∧tel Aa 167=some 171∧bO Aa 167=false∧(Al Aa 167).isSome=true∧tsz Aa 168=some 4∧tby Aa 168=some 64∧tz Aa 168=some (.agg #[.bool false,.slice none 0 0,.bool false,.slice none 0 0])∧cB Aa 168=some true∧tel Aa 168=none∧bO Aa 168=false∧(Al Aa 168).isSome=true∧eL Aa 168=some [(0,2),(2,2)]∧tsz Aa 169=some 4∧tby Aa 169=some 64∧tz Aa 169=some (.agg #[.bool false,.slice none 0 0,.bool false,.slice none 0 0])∧cB Aa 169=some true∧tel Aa 169=none∧bO Aa 169=false∧(Al Aa 169).isSome=true∧eL Aa 169=some [(0,2),(2,2)]:=by and_intros<;>kernel_rfl
@[simp]theorem bYe:tsz Aa 171=some 1∧tby Aa 171=some 24∧tz Aa 171=some (.slice none 0 0)∧cB Aa 171=some false∧tel Aa 171=some 169∧bO Aa 171=false∧(Al Aa 171).isSome=true∧tsz Aa 182=some 1∧tby Aa 182=some 8∧tz Aa 182=some (.int .i64 0)∧cB Aa 182=some false∧tel Aa 182=none∧bO Aa 182=false∧(Al Aa 182).isSome=true∧fB Aa 182=some .i64∧tsz Aa 215=some 1∧tby Aa 215=some 8∧tz Aa 215=some (.int .u64 0)∧cB Aa 215=some false∧tel Aa 215=none∧bO Aa 215=false∧(Al Aa 215).isSome=true∧fB Aa 215=some .u64∧tsz Aa 239=some 0∧tby Aa 239=some 0∧tz Aa 239=some (.agg #[])∧cB Aa 239=some true∧tel Aa 239=none∧bO Aa 239=false∧(Al Aa 239).isSome=true∧eL Aa 239=none∧wT Aa 239=some (0,16)∧tsz Aa 240=some 0∧tby Aa 240=some 0∧tz Aa 240=some (.agg #[])∧cB Aa 240=some true∧tel Aa 240=none∧bO Aa 240=false∧(Al Aa 240).isSome=true∧eL Aa 240=some [(0,0)]:=by and_intros<;>kernel_rfl
@[simp]theorem bYd:tsz Aa 241=some 0∧tby Aa 241=some 0∧tz Aa 241=some (.agg #[])∧cB Aa 241=some true∧tel Aa 241=none∧bO Aa 241=false∧(Al Aa 241).isSome=true∧eL Aa 241=some [(0,0)]∧tsz Aa 243=some 1∧tby Aa 243=some 1∧tz Aa 243=some (.int .u8 0)∧cB Aa 243=some false∧tel Aa 243=none∧bO Aa 243=false∧(Al Aa 243).isSome=true∧fB Aa 243=some .u8∧tsz Aa 244=some 1∧tby Aa 244=some 1∧tz Aa 244=some (.int .u8 0)∧cB Aa 244=some false∧tel Aa 244=none∧bO Aa 244=false∧(Al Aa 244).isSome=true∧fB Aa 244=some .u8∧tsz Aa 247=some 1∧tby Aa 247=some 4∧tz Aa 247=some (.int .i32 0)∧cB Aa 247=some false∧tel Aa 247=none∧bO Aa 247=false∧(Al Aa 247).isSome=true∧fB Aa 247=some .i32∧tsz Aa 248=some 1∧tby Aa 248=some 4∧tz Aa 248=some (.int .i32 0)∧cB Aa 248=some false∧tel Aa 248=none∧bO Aa 248=false∧(Al Aa 248).isSome=true∧fB Aa 248=some .i32:=by and_intros<;>kernel_rfl
@[simp]theorem aW:Go.Tables.follows Dd.toTables .mixedOrders=true:=by kernel_rfl
theorem bI [M:Mch Dd] {f N:Nat} {fn:Func} {c:Code} {args:List D} {r:D} (hf:Dd.funcs[f]? = some fn) (h:AWP Dd c (St0 args N) fun e σ=>(e=.normal∨e=.ret)∧iX Dd fn.results.toList σ=some r) (hb:fn.body=some c:=by exact rfl) (hN:fn.ntmps=N:=by exact rfl) (hname:(fn.name == "runtime.NumGoroutine")=false:=by exact rfl) (hd:bT N c=true:=by kernel_rfl) (hl:bV Dd c=true:=by kernel_rfl) (ha:args.length≤N:=by simp):Spec Dd f args r:=bKb aW hf hb hname hN hd hl ha h
@[simp]theorem bZi:aS Aa 0=false∧aR Aa 0=true∧aS Aa 1=false∧aR Aa 1=true∧aS Aa 2=false∧aR Aa 2=true∧aS Aa 3=false∧aR Aa 3=false∧aS Aa 4=false∧aR Aa 4=false∧aS Aa 5=false∧aR Aa 5=false∧aS Aa 6=false∧aR Aa 6=false∧aS Aa 7=false∧aR Aa 7=false∧aS Aa 8=false∧aR Aa 8=false∧aS Aa 9=false∧aR Aa 9=false∧aS Aa 10=false∧aR Aa 10=false∧aS Aa 11=false∧aR Aa 11=false∧aS Aa 12=false∧aR Aa 12=false∧aS Aa 13=false∧aR Aa 13=false∧aS Aa 14=false∧aR Aa 14=false∧aS Aa 15=false∧aR Aa 15=false∧aS Aa 16=false∧aR Aa 16=false∧aS Aa 17=false∧aR Aa 17=false∧aS Aa 18=false∧aR Aa 18=false∧aS Aa 19=false∧aR Aa 19=false:=by and_intros<;>kernel_rfl
@[simp]theorem bYj:aS Aa 20=false∧aR Aa 20=false∧aS Aa 21=false∧aR Aa 21=false∧aS Aa 22=false∧aR Aa 22=false∧aS Aa 23=false∧aR Aa 23=false∧aS Aa 24=false∧aR Aa 24=false∧aS Aa 25=false∧aR Aa 25=false∧aS Aa 26=false∧aR Aa 26=false∧aS Aa 27=false∧aR Aa 27=false∧aS Aa 28=false∧aR Aa 28=false∧aS Aa 29=false∧aR Aa 29=false∧aS Aa 30=false∧aR Aa 30=false∧aS Aa 31=false∧aR Aa 31=false∧aS Aa 32=false∧aR Aa 32=false∧aS Aa 33=false∧aR Aa 33=false∧aS Aa 34=false∧aR Aa 34=false∧aS Aa 35=false∧aR Aa 35=false∧aS Aa 36=false∧aR Aa 36=false∧aS Aa 37=false∧aR Aa 37=false∧aS Aa 38=true∧aR Aa 38=false∧aS Aa 39=false∧aR Aa 39=false:=by and_intros<;>kernel_rfl
@[simp]theorem bYi:aS Aa 40=false∧aR Aa 40=false∧aS Aa 41=false∧aR Aa 41=false∧aS Aa 42=false∧aR Aa 42=false∧aS Aa 43=false∧aR Aa 43=true∧aS Aa 44=false∧aR Aa 44=false∧aS Aa 45=false∧aR Aa 45=false∧aS Aa 46=false∧aR Aa 46=false∧aS Aa 47=false∧aR Aa 47=false∧aS Aa 48=false∧aR Aa 48=false∧aS Aa 49=false∧aR Aa 49=false∧aS Aa 50=false∧aR Aa 50=false∧aS Aa 51=false∧aR Aa 51=false∧aS Aa 52=false∧aR Aa 52=false∧aS Aa 53=false∧aR Aa 53=false∧aS Aa 54=false∧aR Aa 54=true∧aS Aa 55=false∧aR Aa 55=false∧aS Aa 56=false∧aR Aa 56=false∧aS Aa 57=false∧aR Aa 57=false∧aS Aa 58=false∧aR Aa 58=false∧aS Aa 59=false∧aR Aa 59=false:=by and_intros<;>kernel_rfl
@[simp]theorem bYh:aS Aa 60=false∧aR Aa 60=false∧aS Aa 61=false∧aR Aa 61=false∧aS Aa 62=false∧aR Aa 62=false∧aS Aa 63=false∧aR Aa 63=false∧aS Aa 64=false∧aR Aa 64=false∧aS Aa 65=false∧aR Aa 65=false∧aS Aa 66=false∧aR Aa 66=false∧aS Aa 67=false∧aR Aa 67=false∧aS Aa 68=false∧aR Aa 68=false∧aS Aa 69=false∧aR Aa 69=false∧aS Aa 70=false∧aR Aa 70=false∧aS Aa 71=false∧aR Aa 71=true∧aS Aa 72=false∧aR Aa 72=true∧aS Aa 73=false∧aR Aa 73=true∧aS Aa 74=false∧aR Aa 74=false∧aS Aa 75=false∧aR Aa 75=true∧aS Aa 76=false∧aR Aa 76=false∧aS Aa 77=false∧aR Aa 77=false∧aS Aa 78=false∧aR Aa 78=false∧aS Aa 79=false∧aR Aa 79=false:=by and_intros<;>kernel_rfl
@[simp]theorem bYg:aS Aa 80=false∧aR Aa 80=true∧aS Aa 81=false∧aR Aa 81=false∧aS Aa 82=false∧aR Aa 82=false∧aS Aa 83=false∧aR Aa 83=false∧aS Aa 84=false∧aR Aa 84=false∧aS Aa 85=false∧aR Aa 85=false∧aS Aa 86=false∧aR Aa 86=false∧aS Aa 87=false∧aR Aa 87=false∧aS Aa 88=false∧aR Aa 88=false∧aS Aa 89=false∧aR Aa 89=false∧aS Aa 90=false∧aR Aa 90=false∧aS Aa 91=false∧aR Aa 91=false∧aS Aa 92=false∧aR Aa 92=false∧aS Aa 93=false∧aR Aa 93=false∧aS Aa 94=false∧aR Aa 94=false∧aS Aa 95=false∧aR Aa 95=false∧aS Aa 96=false∧aR Aa 96=false∧aS Aa 97=false∧aR Aa 97=false∧aS Aa 98=false∧aR Aa 98=false∧aS Aa 99=false∧aR Aa 99=false:=by and_intros<;>kernel_rfl
@[simp]theorem bWt:aS Aa 100=false∧aR Aa 100=false∧aS Aa 101=false∧aR Aa 101=true∧aS Aa 102=false∧aR Aa 102=false∧aS Aa 103=true∧aR Aa 103=false∧aS Aa 104=false∧aR Aa 104=false∧aS Aa 105=false∧aR Aa 105=false∧aS Aa 106=false∧aR Aa 106=false∧aS Aa 107=false∧aR Aa 107=true∧aS Aa 108=false∧aR Aa 108=true∧aS Aa 109=false∧aR Aa 109=true∧aS Aa 110=false∧aR Aa 110=false∧aS Aa 111=false∧aR Aa 111=false∧aS Aa 112=false∧aR Aa 112=true∧aS Aa 113=false∧aR Aa 113=false∧aS Aa 114=false∧aR Aa 114=false∧aS Aa 115=false∧aR Aa 115=true∧aS Aa 116=false∧aR Aa 116=false∧aS Aa 117=false∧aR Aa 117=true∧aS Aa 118=false∧aR Aa 118=true∧aS Aa 119=false∧aR Aa 119=true:=by and_intros<;>kernel_rfl
@[simp]theorem bWs:aS Aa 120=false∧aR Aa 120=false∧aS Aa 121=false∧aR Aa 121=false∧aS Aa 122=false∧aR Aa 122=true∧aS Aa 123=false∧aR Aa 123=false∧aS Aa 124=false∧aR Aa 124=false∧aS Aa 125=false∧aR Aa 125=true∧aS Aa 126=false∧aR Aa 126=true∧aS Aa 127=false∧aR Aa 127=false∧aS Aa 128=false∧aR Aa 128=false∧aS Aa 129=false∧aR Aa 129=false∧aS Aa 130=false∧aR Aa 130=false∧aS Aa 131=false∧aR Aa 131=false∧aS Aa 132=false∧aR Aa 132=false∧aS Aa 133=false∧aR Aa 133=false∧aS Aa 134=false∧aR Aa 134=false∧aS Aa 135=false∧aR Aa 135=false∧aS Aa 136=false∧aR Aa 136=true∧aS Aa 137=false∧aR Aa 137=true∧aS Aa 138=false∧aR Aa 138=true∧aS Aa 139=false∧aR Aa 139=false:=by and_intros<;>kernel_rfl
@[simp]theorem bWr:aS Aa 140=false∧aR Aa 140=true∧aS Aa 141=false∧aR Aa 141=false∧aS Aa 142=false∧aR Aa 142=false∧aS Aa 143=false∧aR Aa 143=false∧aS Aa 144=false∧aR Aa 144=false∧aS Aa 145=false∧aR Aa 145=false∧aS Aa 146=false∧aR Aa 146=false∧aS Aa 147=false∧aR Aa 147=false∧aS Aa 148=false∧aR Aa 148=false∧aS Aa 149=false∧aR Aa 149=false∧aS Aa 150=false∧aR Aa 150=false∧aS Aa 151=false∧aR Aa 151=false∧aS Aa 152=false∧aR Aa 152=false∧aS Aa 153=false∧aR Aa 153=true∧aS Aa 154=false∧aR Aa 154=true∧aS Aa 155=false∧aR Aa 155=true∧aS Aa 156=false∧aR Aa 156=false∧aS Aa 157=false∧aR Aa 157=true∧aS Aa 158=false∧aR Aa 158=false∧aS Aa 159=false∧aR Aa 159=false:=by and_intros<;>kernel_rfl
@[simp]theorem bWq:aS Aa 160=false∧aR Aa 160=false∧aS Aa 161=false∧aR Aa 161=false∧aS Aa 162=false∧aR Aa 162=true∧aS Aa 163=false∧aR Aa 163=false∧aS Aa 164=false∧aR Aa 164=false∧aS Aa 165=false∧aR Aa 165=false∧aS Aa 166=false∧aR Aa 166=false∧aS Aa 167=false∧aR Aa 167=false∧aS Aa 168=false∧aR Aa 168=true∧aS Aa 169=false∧aR Aa 169=false∧aS Aa 170=true∧aR Aa 170=false∧aS Aa 171=false∧aR Aa 171=false∧aS Aa 172=false∧aR Aa 172=true∧aS Aa 173=false∧aR Aa 173=false∧aS Aa 174=false∧aR Aa 174=false∧aS Aa 175=false∧aR Aa 175=false∧aS Aa 176=false∧aR Aa 176=false∧aS Aa 177=false∧aR Aa 177=false∧aS Aa 178=false∧aR Aa 178=false∧aS Aa 179=false∧aR Aa 179=true:=by and_intros<;>kernel_rfl
@[simp]theorem bWp:aS Aa 180=false∧aR Aa 180=false∧aS Aa 181=false∧aR Aa 181=false∧aS Aa 182=false∧aR Aa 182=false∧aS Aa 183=false∧aR Aa 183=false∧aS Aa 184=false∧aR Aa 184=false∧aS Aa 185=false∧aR Aa 185=false∧aS Aa 186=false∧aR Aa 186=true∧aS Aa 187=false∧aR Aa 187=false∧aS Aa 188=false∧aR Aa 188=false∧aS Aa 189=false∧aR Aa 189=false∧aS Aa 190=false∧aR Aa 190=false∧aS Aa 191=false∧aR Aa 191=false∧aS Aa 192=true∧aR Aa 192=false∧aS Aa 193=false∧aR Aa 193=false∧aS Aa 194=false∧aR Aa 194=false∧aS Aa 195=false∧aR Aa 195=false∧aS Aa 196=false∧aR Aa 196=false∧aS Aa 197=false∧aR Aa 197=false∧aS Aa 198=false∧aR Aa 198=false∧aS Aa 199=false∧aR Aa 199=false:=by and_intros<;>kernel_rfl
@[simp]theorem bWo:aS Aa 200=false∧aR Aa 200=true∧aS Aa 201=false∧aR Aa 201=false∧aS Aa 202=false∧aR Aa 202=false∧aS Aa 203=false∧aR Aa 203=false∧aS Aa 204=false∧aR Aa 204=false∧aS Aa 205=false∧aR Aa 205=false∧aS Aa 206=false∧aR Aa 206=true∧aS Aa 207=false∧aR Aa 207=false∧aS Aa 208=false∧aR Aa 208=true∧aS Aa 209=false∧aR Aa 209=false∧aS Aa 210=false∧aR Aa 210=true∧aS Aa 211=false∧aR Aa 211=false∧aS Aa 212=false∧aR Aa 212=true∧aS Aa 213=false∧aR Aa 213=false∧aS Aa 214=false∧aR Aa 214=true∧aS Aa 215=false∧aR Aa 215=false∧aS Aa 216=false∧aR Aa 216=true∧aS Aa 217=false∧aR Aa 217=false∧aS Aa 218=false∧aR Aa 218=false∧aS Aa 219=false∧aR Aa 219=true:=by and_intros<;>kernel_rfl
@[simp]theorem bWn:aS Aa 220=false∧aR Aa 220=false∧aS Aa 221=false∧aR Aa 221=false:=by and_intros<;>kernel_rfl
end Go.Am
end
section
open List renaming map_map→ζ,mapM_map→ξ
namespace Go.Am
attribute [simp] bOy bFy bXl aPt aU aWg bUa bMd zO St0 bDd bBh bMv bKy bEa aVz cO aPy aLv bMp bPb bPa bOz aOl bNa bMz bDe
   bDi bDf aYw aTh bPx bJc bRw bRx aYy bJb aMn List.flatMap_nil aCv bMq aKi aRu bCu jJ aJw bGf bPc bMb aVi bMa bCk bTq bCi bLk aBy
   aFv bCj bLz aOb aFx aFw aOa bCf bTp aKj bCq bTv bTt bTo bTn bCh aNz aNr bXy bYa bVi bXz bKc bAa bPh bGk aFt bWl bWm
   bLx bLy bXr bXs bOt aWx bPd bPe bGh bTk bTl bLu bTj bTi bLt bLs bLr bLq bTf bTh bTg aXc aXb aPm aPl aPk aPj aWy
   aXa aXd aPo bPn bHm bJo aZg bDs aXg aVe aVd bDb bMx bDa bCz aOw aWi aOo aVx aOn aOq aVy bVc bHa bGo
   bGu bGs bGr bGz bGt bGv bGw bGx bGy bGq bGp aXj bJl bJm aVk bCm bUg bUf bNl bNo bXn bXm bUc bUe bUb bKh aTy bAj
   aTz aTx aTw bAl bAm bAo bAp bAk bAq aNh aUa aNi aNg aNf aIh aZp aZq bJv aZo aFb aNx aJp bHk bBt bPm
   aVb aVc bHi bHh aVs aVw bCt aMw aTs bBg aUi bBf bDk bDj aXo aXn bGa bFz aUu aUv aMp aWh aOv aOu
   aNd aTv aEu bRc pD sW aGl aRz bNt bUp bUs kC vQ wY aCq aIa aHz aMt bJp bSc fW fG oS aZm bJt aLh
   aHd
theorem KW:type_of% (AP @aLp (AP @wO (AP @aSp (AP @aEk (AP @aLq (AP @aSq (AP @aEi (AP @aEg (AP @aEj (AP @aEh (AP @aRg (AP @aJj (AP @aJi (AP @aRl (AP @wD (AP @aDi (AP @aRk (AP @aJv (AP @bCe (AP @aJt (AP @rI (AP @tG (AP @zG (AP @aJu (AP @aRj (AP @zI (AP @tJ (AP @aJs (AP @tI (AP @zH (AP @aJr (AP @bCd (AP @aRn (AP @bCc (AP @bCb (AP @aRm (AP @aDf (AP @aJq (AP @tF (AP @aDg (AP @aDj (AP @aDh (@aRo))))))))))))))))))))))))))))))))))))))))))) :=
  AP @aLp (AP @wO (AP @aSp (AP @aEk (AP @aLq (AP @aSq (AP @aEi (AP @aEg (AP @aEj (AP @aEh (AP @aRg (AP @aJj (AP @aJi (AP @aRl (AP @wD (AP @aDi (AP @aRk (AP @aJv (AP @bCe (AP @aJt (AP @rI (AP @tG (AP @zG (AP @aJu (AP @aRj (AP @zI (AP @tJ (AP @aJs (AP @tI (AP @zH (AP @aJr (AP @bCd (AP @aRn (AP @bCc (AP @bCb (AP @aRm (AP @aDf (AP @aJq (AP @tF (AP @aDg (AP @aDj (AP @aDh (@aRo))))))))))))))))))))))))))))))))))))))))))
end Go.Am
end
section
open List renaming map_map→ζ,mapM_map→ξ
namespace Go.Am
open RowKit (Below)
def OA(P:Program)[M:Mch P](ops:Array Oper)(k:St→Prop):Nat→Array Bool→St→Prop
 |0,listed,σ=>Bt .any ops listed=[]∧k σ
 | fuel+1,listed,σ=>(Bt .any ops listed=[]→k σ)∧∀ i∈Bt .any ops listed,match ops[i]? with
   |none=>OA P ops k fuel (listed.setIfInBounds i true) σ
   |some o=>OW P ops [o] σ [] fun σ' con=>OA P ops k fuel (listed.setIfInBounds i true) (fin σ' con)
section
variable {P:Program} [M:Mch P] {G:Ctx} {N:Nat} {ds:List Deferred} {ops:Array Oper}
theorem uM{Q:St→Prop}{Q':Exit→Act→World→Prop}(hno:fP ops.toList=true)(hdst:∀(i:Nat) (o:Oper) (d:Tmp),ops[i]? = some o→o.dst=some d→d<N∧G.Z d=none)(hQ:∀ σ a w,Q σ→SR G N ds σ a w→Q' .normal a w) :
  ∀(fuel:Nat) (listed:Array Bool) (σ:St) (a:Act) (w:World),SR G N ds σ a w→OA P ops Q fuel listed σ→wS P ops Q' fuel listed a w
 |0,_,σ,a,w,hs,h=>⟨h.1,hQ σ a w h.2 hs⟩
 | fuel+1,listed,σ,a,w,hs,h=>by
  refine⟨fun h0=>hQ σ a w (h.1 h0) hs,fun i hi=>?_⟩
  have h1:=h.2 i hi
  split
  ·rename_i ho
   simp only[ho]at h1
   exact uM hno hdst hQ fuel _ σ a w hs h1
  ·rename_i o ho
   simp only[ho]at h1
   obtain⟨hn0,hwf,hag⟩:=pW hs
   obtain⟨fb,hfb⟩:=pX (G:=G) [o] σ [] (by
    have h0:o∈ops.toList:=by rw[Array.mem_toList_iff];exact BQ ho
    have:=A4.1 hno o h0
    simpa[fP]using this) hn0 hwf h1
   obtain⟨g1,g2⟩:=hag (fun i=>if i<σ.n then σ.H i else fb i) (fun i o hi=>by
    rcases AY i σ.n with hlt|hge
    ·rw[Ar hlt];exact hi
    ·rw[hwf.top i hge]at hi;cases hi)
   obtain⟨s',hd,σ',con',hoa,hn',hwf',hag'⟩:=hfb _ g1 (fun i hi=>by simp only;rw[Aj (by omega)])
   exact nO (K:=wS P ops Q' fuel (listed.setIfInBounds i true)) hd (fun d h=>hdst i o d ho h) g2 fun a' w' hr'=>uM hno hdst hQ fuel _ _ a' w' (aBi hn' hwf' hag' hr') hoa
def bXx(P:Program)[M:Mch P]:Code→St→(St→Prop)→Prop
 |.region _ ops true,σ,k=>OA P ops k ops.size (AX ops.size false) σ
 |_,_,_=>False
def aXw(P:Program)[M:Mch P]:Code→St→(Exit→St→Prop)→Prop
 |.seq x (.seq y z),σ,Q=>AWP P x σ fun e σ'=>match e with|.normal=>aXw P (.seq y z) σ' Q|e=>Q e σ'
 |.seq x .ret,σ,Q=>bXx P x σ (Q .ret)
 |_,_,_=>False
def pO(P:Program):Code→Bool
 |.seq x (.seq y z)=>bV P x&&pO P (.seq y z)
 |.seq (.region _ ops true) .ret=>fP ops.toList
 |_=>false
theorem aQg(hm:P.follows .mixedOrders=true)(hZ:∀ d,G.Z d=none):∀(c:Code) (Q:Exit→St→Prop) (σ:St) (a:Act) (w:World),bT N c=true→pO P c=true→aXw P c σ Q→SR G N ds σ a w →
  WC P c (fun e a' w'=>∃ σ',Q e σ'∧SR G N ds σ' a' w') a w:=by
 intro c
 induction c with
 | seq x y ihx ihy =>
  intro Q σ a w hd hl h hs
  simp only[bT,A1]at hd
  cases y with
  | seq y z =>
   simp only[pO,A1]at hl
   refine eF (cD (cJ hm hZ x _ σ a w hd.1 hl.1 h hs) ?_)
   rintro e a' w' ⟨σ',hq,hs'⟩
   cases e with
   |normal=>exact ihy Q σ' a' w' hd.2 hl.2 hq hs'
   |_=>exact⟨σ',hq,hs'⟩
  | ret =>
   unfold pO at hl
   split at hl
   ·rename_i he;cases he
   ·rename_i id ops he
    injection he with he1 _;subst he1
    have h':OA P ops (Q .ret) ops.size (AX ops.size false) σ:=h
    refine eF ((WpR.plain P).regA hm (fun e=>by cases e) fun d=>uM (Q:=Q .ret) (N:=N) (ds:=ds) (G:=G) hl (fun i o d hi hd'=>⟨pB hd.1 i o d hi hd',hZ d⟩) (fun σ' a' w' hq hs'=>?_) _ _ σ _ _ ?_ h')
    ·exact yI ⟨σ',hq,hs'⟩
    ·exact hs.env ⟨rfl,rfl,rfl,0,by simp⟩
   ·cases hl
  |_=>exact h.elim
 |_=>intro Q σ a w _ _ h;exact h.elim
theorem aZy {f N:Nat} {fn:Func} {c:Code} {args:List D} {r:D} (hm:P.follows .mixedOrders=true) (hf:P.funcs[f]? = some fn) (hb:fn.body=some c) (hname:(fn.name == "runtime.NumGoroutine")=false) (hN:fn.ntmps=N)
  (hd:bT N c=true) (hl':pO P c=true) (ha:args.length≤N) (h:aXw P c (St0 args N) fun e σ=>(e=.normal∨e=.ret)∧iX P fn.results.toList σ=some r):Spec P f args r:=by
 intro A W vs hA hl hv
 have hn:¬ fn.name = "runtime.NumGoroutine" := by simpa using hname
 refine⟨fun w=>by simp[callFunc,hf,hn,hb],?_⟩
 refine gX hf hb ?_
 subst hN
 refine(WpR.plain P).okv fun hok=>cD (aQg hm (fun _=>rfl) c _ _ _ _ hd hl' h (SR0 hok hA hl hv ha)) ?_
 rintro e a w ⟨σ,⟨he,hr⟩,hs⟩
 have hend:a.defers=[]∧∀ v1,Env w v1→∃ x,aO P (results fn a.tmps) v1=.ok x v1∧Below W.heap.size W v1∧VD (fun b=>A b∨(W.heap.size≤b∧b<v1.heap.size)) v1 r x:=by
  refine⟨hs.2.2.2.elim fun _ h=>h.elim fun _ h=>h.2.2.2.2.1,fun v1 he=>?_⟩
  have hs1:=hs.env he
  obtain⟨v,hrun,hvd⟩:=dZ hs1 hr
  obtain⟨_,_,_,F,ι,hR,_,_,_,hdf,_⟩:=hs1
  refine⟨v,hrun,⟨hR.kept.os,hR.kept.tape,hR.kept.output,hR.kept.size,fun k hk=>hR.kept.block k hk (fun h=>h)⟩,hvd.mono ?_⟩
  rintro b (h|h|h)
  ·exact .inl h
  ·exact h.elim
  ·exact .inr h
 rcases he with rfl|rfl<;>exact hend
def OAd(P:Program)[M:Mch P](ops:Array Oper)(k:St→Prop)(fuel:Nat)(listed:Array Bool)(σ:St)(_:Dm (ops,k)):Prop:=OA P ops k fuel listed σ
theorem aX(x y z:Code)(σ:St)(Q:Exit→St→Prop):aXw P (.seq x (.seq y z)) σ Q=AWP P x σ fun e σ'=>match e with|.normal=>aXw P (.seq y z) σ' Q|e=>Q e σ':=rfl
theorem aY(id:Nat)(l:List Oper)(σ:St)(Q:Exit→St→Prop):aXw P (.seq (.region id l.toArray true) .ret) σ Q=OAd P l.toArray (Q .ret) l.length (AX l.length false) σ .mk:=rfl
theorem fX{k:St→Prop}{fuel:Nat}{listed:Array Bool}{σ:St}{d:Dm (ops,k)}(i:Nat){o:Oper}(hr:Bt .any ops listed=[i])(ho:ops[i]? = some o)
  (h:OWd P ops [o] σ [] (fun σ' con=>aCh σ' con (fun σ2=>OAd P ops k fuel (listed.setIfInBounds i true) σ2 .mk) .mk) .mk):OAd P ops k (fuel+1) listed σ d:=by
 refine⟨fun e=>(by rw[hr]at e;cases e),fun j hj=>?_⟩
 rw[hr]at hj
 simp only[List.mem_singleton]at hj
 subst hj
 simp only[ho];exact h
theorem aFu{k:St→Prop}{fuel:Nat}{listed:Array Bool}{σ:St}{d:Dm (ops,k)}(i j:Nat){o o':Oper}(hr:Bt .any ops listed=[i,j])(ho:ops[i]? = some o)(ho':ops[j]? = some o')
  (h:OWd P ops [o] σ [] (fun σ' con=>aCh σ' con (fun σ2=>OAd P ops k fuel (listed.setIfInBounds i true) σ2 .mk) .mk) .mk)
  (h':OWd P ops [o'] σ [] (fun σ' con=>aCh σ' con (fun σ2=>OAd P ops k fuel (listed.setIfInBounds j true) σ2 .mk) .mk) .mk):OAd P ops k (fuel+1) listed σ d:=by
 refine⟨fun e=>(by rw[hr]at e;cases e),fun m hm=>?_⟩
 rw[hr]at hm
 simp only[BB,List.mem_nil_iff,or_false]at hm
 rcases hm with rfl|rfl
 ·simp only[ho];exact h
 ·simp only[ho'];exact h'
theorem vE{k:St→Prop}{listed:Array Bool}{σ:St}{d:Dm (ops,k)}(hr:Bt .any ops listed=[])(h:k σ):OAd P ops k 0 listed σ d:=⟨hr,h⟩
end
end Go.Am
end
section
open List renaming map_map→ζ,mapM_map→ξ
namespace Go.Am
open RowKit (Below)
variable {P:Program} [M:Mch P]
theorem bAt{G:Ctx}{fn:Func}{σ:St}{a:Act}{w:World}{rv:ResultVar}{av:AV}{F:Nat→Prop}{ι:Nat→Option Nat}(hR:HR G F w ι bD σ.H)(hV:∀ t,V F w ι (σ.Γ t) (a.tmps.getD t undef))(hres:fn.results.toList=[rv])(h:jT P σ rv=some av) :
  ∃ v,aO P (results fn a.tmps) w=.ok v w∧V F w ι av v:=by
 cases rv with
 |cell ad t=>exact bKm hR hV hres h
 | tmp t =>
  simp only[jT,Au]at h
  subst h
  refine⟨a.tmps.getD t undef,?_,hV t⟩
  have h1':aO P ([ResultVar.tmp t].mapM (m:=Sem) fun|.tmp t=>pure (a.tmps.getD t undef)|.cell ad t=>do loadVar t (←asAddr (a.tmps.getD ad undef))) w=.ok [a.tmps.getD t undef] w:=by
   simp only[List.mapM_cons,List.mapM_nil,Sem.run_bind,AJ,Sem.run_pure]
  simp only[results,Array.mapM_eq_mapM_toList,Sem.run_bind,Sem.run_map,hres]
  erw [h1']
  simp
theorem bCl {f N:Nat} {fn:Func} {c:Code} {args:List D} {v:Nat→AV} {hs:Nat→List HO} {rv:ResultVar} (hm:P.follows .mixedOrders=true) (hf:P.funcs[f]? = some fn) (hb:fn.body=some c) (hname:(fn.name == "runtime.NumGoroutine")=false)
  (hN:fn.ntmps=N) (hN0:0<N) (hd:bT N c=true) (hl':bV P c=true) (ha:args.length≤N) (hres:fn.results.toList=[rv])
  (h:AWP P c (St0 args N) fun e σ=>(e=.normal∨e=.ret)∧cP (jT P σ rv) (fun av=>∀ m,0<m→∃ ρ,Wk ⟨upd σ.Γ 0 av,σ.H,σ.n⟩ (tC v hs m) ρ) .mk):wQ P f args v hs:=by
 intro A W vs hA hl hv
 have hn:¬ fn.name = "runtime.NumGoroutine" := by simpa using hname
 refine⟨fun w=>by simp[callFunc,hf,hn,hb],?_⟩
 refine gX hf hb ?_
 subst hN
 refine(WpR.plain P).okv fun hok=>cD (cJ hm (fun _=>rfl) c _ _ _ _ hd hl' h (SR0 hok hA hl hv ha)) ?_
 rintro e a w0 ⟨σ,⟨he,hr⟩,hs0⟩
 cases hav:jT P σ rv with
 |none=>rw[hav]at hr;exact hr.elim
 |some av =>
 rw[hav]at hr
 simp only[cP]at hr
 have hend:a.defers=[]∧∀ w,Env w0 w→∃ u,aO P (results fn a.tmps) w=.ok u w∧Below W.heap.size W w∧∀ m,0<m→∃(F:Nat→Prop) (ι:Nat→Option Nat),
   (∀ b,F b→A b∨(W.heap.size≤b∧b<w.heap.size))∧V F w ι (v m) u∧(∀ id,(∃ b,ι id=some b)↔(m≤id∧id<m+(hs m).length)) ∧
   (∀ id b,ι id=some b→W.heap.size≤b∧b<w.heap.size∧¬F b) ∧
   (∀ i o b,(hs m)[i]? = some o→ι (m+i)=some b→∃ ob,w.heap[b]? = some ob∧CR F w ι o ob) ∧
   (∀ id id' b,ι id=some b→ι id'=some b→id=id'):=by
  refine⟨hs0.2.2.2.elim fun _ h=>h.elim fun _ h=>h.2.2.2.2.1,fun w henv=>?_⟩
  have hs1:=hs0.env henv
  obtain⟨htop,hn0,hokw,F,ι,hR,hdom,hV,hN2,hdf,hp⟩:=hs1
  obtain⟨u,hrun,hvu⟩:=bAt hR hV hres hav
  have hput:SR ⟨W,A,bD,fun _=>True,fun _=>none⟩ fn.ntmps [] ⟨upd σ.Γ 0 av,σ.H,σ.n⟩ (a.put (some 0) u) w:=by
   refine⟨htop,hn0,hokw,F,ι,hR,hdom,fun t'=>?_,⟨by simp[CQ,hN2.1],fun _ _ h=>by cases h⟩,by simp[CQ,hdf],hp⟩
   rw[iV a (some 0) u (fun d hd=>by injection hd with hd;subst hd;rw[hN2.1];exact hN0) t']
   by_cases e0:t'=0
   ·subst e0;rw[Ar rfl];simp only[upd_same];exact hvu
   ·rw[Aj (fun e=>e0 (by injection e with e;exact e.symm))];simp only;rw[upd_ne _ _ e0];exact hV t'
  refine⟨u,hrun,⟨hR.kept.os,hR.kept.tape,hR.kept.output,hR.kept.size,fun k hk=>hR.kept.block k hk (fun h=>h)⟩,fun m hm0=>?_⟩
  obtain⟨ρ,hw⟩:=hr m hm0
  obtain⟨_,_,_,F2,ι2,hR2,hdom2,hV2,_,_,_⟩:=uL hw hput
  have hout:∀ id,((tC v hs m).H id).isSome=true↔(m≤id∧id<m+(hs m).length):=fun id=>by
   simp only[tC,iZ]
   by_cases hr:m≤id∧id<m+(hs m).length
   ·rw[Ar hr,Ab (by omega)];simp[hr]
   ·rw[Aj hr];simp[hr]
  refine⟨F2,ι2,fun b hb'=>?_,?_,fun id=>by rw[hdom2,hout],fun id b hb'=>?_,fun i o b ho hb'=>?_,fun id id' b e1 e2=>hR2.inj id id' b e1 e2 (fun h=>h) (fun h=>h)⟩
  ·rcases hR2.F_ok b hb' with h|h|h
   ·exact .inl h
   ·exact h.elim
   ·exact .inr ⟨h,hR2.F_lt b hb'⟩
  ·have:=hV2 0
   rw[iV a (some 0) u (fun d hd=>by injection hd with hd;subst hd;rw[hN2.1];exact hN0) 0,Ar rfl]at this
   simpa[tC,upd_same]using this
  ·obtain⟨q1,q2,q3⟩:=hR2.place id b hb'
   rcases q1 with q1|q1
   ·exact q1.elim
   ·exact⟨q1,q2,q3 (fun h=>h)⟩
  ·have hi:=(Aq.1 ho).1
   refine hR2.obj (m+i) b o hb' ?_
   simp only[tC,iZ]
   rw[Ar ⟨by omega,by omega⟩,show m+i-m=i by omega];exact ho
 rcases he with rfl|rfl<;>exact hend
end Go.Am
end
section
open List renaming map_map→ζ,mapM_map→ξ
namespace Go.Am
open RowKit (Below)
def aCi(P:Program)[M:Mch P]:List Bool→Code→St→(Exit→St→Prop)→Prop
 |[],c,σ,Q=>AWP P c σ Q
 |false::l,c,σ,Q=>∃ σ2,WkR σ σ2∧aCi P l c σ2 Q
 |true::l,.seq x y,σ,Q=>AWP P x σ fun e σ'=>match e with|.normal=>aCi P l y σ' Q|e=>Q e σ'
 |true::_,_,_,_=>False
section
variable {P:Program} [M:Mch P] {G:Ctx} {N:Nat} {ds:List Deferred}
theorem sP(hm:P.follows .mixedOrders=true)(hZ:∀ d,G.Z d=none):∀(l:List Bool) (c:Code) (Q:Exit→St→Prop) (σ:St) (a:Act) (w:World),bT N c=true→bV P c=true→aCi P l c σ Q→SR G N ds σ a w →
  WC P c (fun e a' w'=>∃ σ',Q e σ'∧SR G N ds σ' a' w') a w
 |[],c,Q,σ,a,w,hd,hl,h,hs=>cJ hm hZ c Q σ a w hd hl h hs
 | false::l,c,Q,σ,a,w,hd,hl,h,hs=>by
  obtain⟨σ2,hw,h⟩:=h
  exact sP hm hZ l c Q σ2 a w hd hl h (kZ hw hs)
 | true::l,.seq x y,Q,σ,a,w,hd,hl,h,hs=>by
  simp only[bT,bV,A1]at hd hl
  refine eF (cD (cJ hm hZ x _ _ a w hd.1 hl.1 h hs) ?_)
  rintro e a' w' ⟨σ1,hq,hs'⟩
  cases e with
  |normal=>exact sP hm hZ l y Q σ1 a' w' hd.2 hl.2 hq hs'
  |_=>exact⟨σ1,hq,hs'⟩
 |true::l,.skip,_,_,_,_,_,_,h,_|true::l,.region ..,_,_,_,_,_,_,h,_|true::l,.cond ..,_,_,_,_,_,_,h,_|true::l,.block ..,_,_,_,_,_,_,h,_|true::l,.loop ..,_,_,_,_,_,_,h,_
 |true::l,.exit ..,_,_,_,_,_,_,h,_|true::l,.ret,_,_,_,_,_,_,h,_|true::l,.label ..,_,_,_,_,_,_,h,_|true::l,.scope ..,_,_,_,_,_,_,h,_|true::l,.goto ..,_,_,_,_,_,_,h,_
 |true::l,.rangeFunc ..,_,_,_,_,_,_,h,_=>h.elim
theorem aZx {f N:Nat} {fn:Func} {c:Code} {args:List D} {r:D} (l:List Bool) (hm:P.follows .mixedOrders=true) (hf:P.funcs[f]? = some fn) (hb:fn.body=some c) (hname:(fn.name == "runtime.NumGoroutine")=false) (hN:fn.ntmps=N)
  (hd:bT N c=true) (hl':bV P c=true) (ha:args.length≤N) (h:aCi P l c (St0 args N) fun e σ=>(e=.normal∨e=.ret)∧iX P fn.results.toList σ=some r):Spec P f args r:=by
 intro A W vs hA hl hv
 have hn:¬ fn.name = "runtime.NumGoroutine" := by simpa using hname
 refine⟨fun w=>by simp[callFunc,hf,hn,hb],?_⟩
 refine gX hf hb ?_
 subst hN
 refine(WpR.plain P).okv fun hok=>cD (sP hm (fun _=>rfl) l c _ _ _ _ hd hl' h (SR0 hok hA hl hv ha)) ?_
 rintro e a w ⟨σ,⟨he,hr⟩,hs⟩
 have hend:a.defers=[]∧∀ v1,Env w v1→∃ x,aO P (results fn a.tmps) v1=.ok x v1∧Below W.heap.size W v1∧VD (fun b=>A b∨(W.heap.size≤b∧b<v1.heap.size)) v1 r x:=by
  refine⟨hs.2.2.2.elim fun _ h=>h.elim fun _ h=>h.2.2.2.2.1,fun v1 he=>?_⟩
  have hs1:=hs.env he
  obtain⟨v,hrun,hvd⟩:=dZ hs1 hr
  obtain⟨_,_,_,F,ι,hR,_,_,_,hdf,_⟩:=hs1
  refine⟨v,hrun,⟨hR.kept.os,hR.kept.tape,hR.kept.output,hR.kept.size,fun k hk=>hR.kept.block k hk (fun h=>h)⟩,hvd.mono ?_⟩
  rintro b (h|h|h)
  ·exact .inl h
  ·exact h.elim
  ·exact .inr h
 rcases he with rfl|rfl<;>exact hend
end
def WkP(P:Program)[M:Mch P](l:List Bool)(c:Code)(σ:St)(Q:Exit→St→Prop)(_:Dm (c,Q)):Prop:=∃ σ2,WkR σ σ2∧aCi P l c σ2 Q
theorem iF{P:Program}[M:Mch P]{l:List Bool}{c:Code}{σ:St}{Q:Exit→St→Prop}{d:Dm (c,Q)}(σ2:St)(hw:∃ ρ,Wk σ σ2 ρ)(h:aCi P l c σ2 Q):WkP P l c σ Q d:=⟨σ2,.inr hw,h⟩
theorem bK(P:Program)[M:Mch P](c:Code)(σ:St)(Q:Exit→St→Prop):aCi P [] c σ Q=AWP P c σ Q:=rfl
theorem aZ(P:Program)[M:Mch P](l:List Bool)(c:Code)(σ:St)(Q:Exit→St→Prop):aCi P (false::l) c σ Q=WkP P l c σ Q .mk:=rfl
theorem bB(P:Program)[M:Mch P](l:List Bool)(x y:Code)(σ:St)(Q:Exit→St→Prop):aCi P (true::l) (.seq x y) σ Q=AWP P x σ fun e σ'=>match e with|.normal=>aCi P l y σ' Q|e=>Q e σ':=rfl
theorem aQv{hs:List HO}{rs:List Nat}{a id:Nat}(hid:(xD 1 hs id).isSome=true)(hl:hs.length≤rs.length)(h:a ∉ rs):wY rs id≠a:=by
 rw[pQ]at hid
 cases id with
 |zero=>simp at hid
 | succ i =>
  rw[Ar (by omega),Nat.add_sub_cancel]at hid
  have hi:i<rs.length:=by
   rcases AY i hs.length with h'|h'
   ·omega
   ·rw[A6 h']at hid;cases hid
  show rs.getD i 0≠a
  rw[yA hi]
  exact fun e=>h (e ▸ List.getElem_mem hi)
end Go.Am
end
section
open List renaming map_map→ζ,mapM_map→ξ
namespace Go.Am
open Go.Conc
section
variable {P:Program} {main:Bool} {b:Frame} {a:Act} {k:List Item} {cs:List Frame} {w:World}
theorem bJw:stepG P main (G (b.atR a (.code .skip::k)) cs) w=.go (G (b.atR a k) cs) w:=by simp[G,stepG,Cd,Co]
theorem aZt{l:Nat}:stepG P main (G (b.atR a (.code (.label l)::k)) cs) w=.go (G (b.atR a k) cs) w:=by simp[G,stepG,Cd,Co]
theorem aNb{id:Nat}:stepG P main (G (b.atR a (.inBlock id::k)) cs) w=.go (G (b.atR a k) cs) w:=by simp[G,stepG,Cd,Co]
theorem bSe{x y:Code}:stepG P main (G (b.atR a (.code (.seq x y)::k)) cs) w=.go (G (b.atR a (.code x::.code y::k)) cs) w:=by simp[G,stepG,Cd,Co]
theorem bKa{c:Operand}{x y:Code}{t:Bool}(h:a.eval c=.bool t):stepG P main (G (b.atR a (.code (.cond c x y)::k)) cs) w=.go (G (b.atR a (.code (if t then x else y)::k)) cs) w:=by
  have h':(b.atR a (.code (.cond c x y)::k)).eval c=.bool t:=by rw[Frame.eval_atR];exact h
  simp only[Co]at h'
  simp[G,stepG,Cd,Co,h']
theorem aZv{id:Nat}{c:Code}:stepG P main (G (b.atR a (.code (.block id c)::k)) cs) w=.go (G (b.atR a (.code c::.inBlock id::k)) cs) w:=by simp[G,stepG,Cd,Co]
theorem bJy{c:Code}:stepG P main (G (b.atR a (.code (.loop c)::k)) cs) w=.go (G (b.atR a (.code c::.inLoop c::k)) cs) w:=by simp[G,stepG,Cd,Co]
theorem aTu{c:Code}:stepG P main (G (b.atR a (.inLoop c::k)) cs) w=.go (G (b.atR a (.code c::.inLoop c::k)) cs) w:=by simp[G,stepG,Cd,Co]
theorem bJz{id:Nat}{k':List Item}(h:exitTo id k=some k'):stepG P main (G (b.atR a (.code (.exit id)::k)) cs) w=.go (G (b.atR a k') cs) w:=by simp[G,stepG,Cd,Co,h]
theorem aTt{id:Nat}{ops:Array Oper}:stepG P main (G (b.atR a (.code (.region id ops false)::k)) cs) w=.go (G (b.atR a (.inRegion ops (List.range ops.size)::k)) cs) w:=by simp[G,stepG,Cd,Co]
theorem lU{ops:Array Oper}:stepG P main (G (b.atR a (.inRegion ops []::k)) cs) w=.go (G (b.atR a k) cs) w:=by simp[G,stepG,Cd,Co]
theorem aId{ops:Array Oper}{i:Nat}{rest:List Nat}{o:Oper}(ho:ops[i]? = some o)(hw:Bs o (yielded ops a.tmps)=false) :
    stepG P main (G (b.atR a (.inRegion ops (i::rest)::k)) cs) w=.go (G (b.atR (a.put o.dst undef) (.inRegion ops rest::k)) cs) w #[]:=by
  have hfin:(b.atR a (.inRegion ops (i::rest)::k)).finish undef=b.atR (a.put o.dst undef) (.inRegion ops rest::k):=by rw[Ef,ho];rfl
  rw[←hfin]
  simp[G,stepG,Cd,Co,ho,hw]
theorem xN{ops:Array Oper}{i:Nat}{rest:List Nat}{o:Oper}(hnd:∀ c,o.op≠.defer c)(ho:ops[i]? = some o)(hw:Bs o (yielded ops a.tmps)=true) :
    stepG P main (G (b.atR a (.inRegion ops (i::rest)::k)) cs) w=DI P true (b.atR a (.inRegion ops (i::rest)::k)) cs none (execOp a.eval o) w:=by
  have he:=Frame.eval_atR b a (.inRegion ops (i::rest)::k)
  rw[←Oper.semAt_eq b.roundOf a.eval o hnd]
  simp only[Co]at he
  simp only[G,stepG,Cd,stepG.oper,Frame.oper?,Co,ho,hw,he,AW,AU,AI,Oper.semAt]
  cases b.roundOf<;>cases o.op<;>rfl
theorem aZs{ops:Array Oper}{i:Nat}{rest:List Nat}{o:Oper}{v:Value}{w':World}(hnd:∀ c,o.op≠.defer c)(ho:ops[i]? = some o)(hw:Bs o (yielded ops a.tmps)=true)
    (hk:b.kind≠.early) (hr:(execOp a.eval o).run P w=.ok (.value v) w') :
    stepG P main (G (b.atR a (.inRegion ops (i::rest)::k)) cs) w=.go (G (b.atR (a.put o.dst v) (.inRegion ops rest::k)) cs) w' (listed P b.fn a o w):=by
  have hfin:(b.atR a (.inRegion ops (i::rest)::k)).finish v=b.atR (a.put o.dst v) (.inRegion ops rest::k):=by rw[Ef,ho];rfl
  have hk':(b.kind==C0)=false:=by simpa using hk
  rw[xN hnd ho hw,←hfin]
  simp[DI,hr,G,Co,hk',Cp,listed]
theorem bJx{ops:Array Oper}{i:Nat}{rest:List Nat}{o:Oper}{w':World}(hnd:∀ c,o.op≠.defer c)(ho:ops[i]? = some o)(hw:Bs o (yielded ops a.tmps)=true)
    (hk:b.kind≠.early) (hr:(execOp a.eval o).run P w=.ok .skip w') :
    stepG P main (G (b.atR a (.inRegion ops (i::rest)::k)) cs) w=.go (G (b.atR (a.put o.dst undef) (.inRegion ops rest::k)) cs) w' (listed P b.fn a o w):=by
  have hfin:(b.atR a (.inRegion ops (i::rest)::k)).finish undef=b.atR (a.put o.dst undef) (.inRegion ops rest::k):=by rw[Ef,ho];rfl
  have hk':(b.kind==C0)=false:=by simpa using hk
  rw[xN hnd ho hw,←hfin]
  simp[DI,hr,G,Co,hk',Cp,listed]
theorem aZu{ops:Array Oper}{i:Nat}{rest:List Nat}{o:Oper}{f:FuncId}{args:Array Value}{w':World}(hnd:∀ c,o.op≠.defer c)(ho:ops[i]? = some o)(hw:Bs o (yielded ops a.tmps)=true)
    (hk:b.kind≠.early) (hr:(execOp a.eval o).run P w=.ok (.enter f args) w') :
    stepG P main (G (b.atR a (.inRegion ops (i::rest)::k)) cs) w=.go (G (CP P f args .normal) (b.atR a (.inRegion ops (i::rest)::k)::cs)) w' (listed P b.fn a o w):=by
  have hk':(b.kind==C0)=false:=by simpa using hk
  rw[xN hnd ho hw]
  simp[DI,hr,G,Co,hk',Cp,listed]
end
theorem aKa{ops:Array Oper}{i:Nat}{o:Oper}(h:rJ ops=true)(ho:ops[i]? = some o):∀ c,o.op≠.defer c:=by
  intro c e
  have:=Array.all_eq_true'.1 h o (BQ ho)
  simp[bWu,e]at this
section
variable {P:Program} [M:Mch P] {lp:Nat} {Q:Exit→Act→World→Prop} {a:Act} {v:World}
def wP(Win:Goroutine→World→Prop)(b:Frame)(k:List Item)(cs:List Frame):Exit→Act→World→Prop
  |.normal,a,v=>Win (G (b.atR a k) cs) v
  |.exit id,a,v=>match exitTo id k with|some k'=>Win (G (b.atR a k') cs) v|none=>∀ k1,exitTo id k1=none→Win (G (b.atR a (.code (.exit id)::k1)) cs) v
  |.ret,a,v=>∀ k1,Win (G (b.atR a (.code .ret::k1)) cs) v
  |_,_,_=>False
def WR(P:Program)[M:Mch P](lp:Nat)(c:Code)(Q:Exit→Act→World→Prop)(a:Act)(v:World):Prop :=
  ∀(Win:Goroutine→World→Prop),M.Fam Win→OkV v→∀(b:Frame) (k:List Item) (cs:List Frame),b.kind=.normal→b.roundOf=some lp→(∀ e a' v',OkV v'→Q e a' v'→wP Win b k cs e a' v')→Win (G (b.atR a (.code c::k)) cs) v
theorem bBe{Win:Goroutine→World→Prop}(hW:M.Fam Win){b:Frame}{a:Act}{k:List Item}{cs:List Frame}{v:World}{ops:Array Oper}{i:Nat}{rest:List Nat}{o:Oper}{K:Act→World→Prop}(hnd:∀ c,o.op≠.defer c)(hb:b.kind=.normal)(hro:b.roundOf=some lp)(ho:ops[i]? = some o)(hw:Bs o (yielded ops a.tmps)=true)
    (hv:OkV v) (h:∀ v1,Env v v1→wpX P o a v1 K) (hk:∀ a' v',OkV v'→K a' v'→Win (G (b.atR a' (.inRegion ops rest::k)) cs) v') :
    Win (G (b.atR a (.inRegion ops (i::rest)::k)) cs) v:=by
  have hbk:b.kind≠.early:=by rw[hb];simp
  refine(M.closed hW).step rfl hv fun v1 w he hsim=>?_
  have hu:=h v1 he
  unfold wpX at hu
  have hv1:=he.okV hv
  cases hr:aO P (execOp a.eval o) v1 with
  |halt x v'=>rw[hr]at hu;exact hu.elim
  | ok n v' =>
    obtain⟨w',es',h1,h2,h3,h4,h5,h6⟩:=fE _ v1 w #[] n v' hv1 hsim hr
    rw[hr]at hu
    have hrw:(execOp a.eval o).run P w=.ok n w':=by
      have:=C3 P (execOp a.eval o) w #[]
      rw[h1]at this
      exact(congrArg Prod.fst this).symm
    have hev:∀ e∈listed P b.fn a o w,EvV v' e:=fun e hx=>by
      have:=mem_listed hx
      have h7:=C3 P (execOp a.eval o) w #[]
      rw[h1]at h7
      have h8:(execOp a.eval o).events P w #[]=#[]++es':=(congrArg Prod.snd h7).symm
      rw[h8]at this
      exact h6 e (by simpa using this)
    have hst:vW v1 w v' w' (listed P b.fn a o w):=⟨h2,h3,h4,h5,hev⟩
    cases n with
    |value x=>exact⟨_,v',w',_,aZs hnd ho hw hbk hrw,hst,hk _ _ h3 hu⟩
    |skip=>exact⟨_,v',w',_,bJx hnd ho hw hbk hrw,hst,hk _ _ h3 hu⟩
    | enter f args =>
      refine⟨_,v',w',_,aZu hnd ho hw hbk hrw,hst,hu Win hW h3 _ _ fun x v'' ho' hx=>?_⟩
      rw[Ef,ho]
      exact hk _ _ ho' hx
    | defer d =>
      refine⟨G (b.atR (CQ { a with defers:=d::a.defers } o.dst undef) (.inRegion ops rest::k)) cs,v',w',_,?_,hst,hk (CQ { a with defers:=d::a.defers } o.dst undef) v' h3 hu⟩
      rw[xN hnd ho hw]
      have hk':(b.kind==C0)=false:=by simp[hb]
      have:({ b.atR a (.inRegion ops (i::rest)::k) with defers:=d::a.defers }:Frame).finish undef =
          b.atR ({ a with defers:=d::a.defers }.put o.dst undef) (.inRegion ops rest::k):=by
        have:=Ef b { a with defers:=d::a.defers } ops i rest k undef
        rw[ho]at this;exact this
      rw[←this]
      simp[DI,hrw,G,Co,hk',Cp,listed]
    |_=>exact hu.elim
theorem aIq{Win:Goroutine→World→Prop}(hW:M.Fam Win){b:Frame}{k:List Item}{cs:List Frame}{ops:Array Oper}{i:Nat}{rest:List Nat}{o:Oper}(ho:ops[i]? = some o)(hw:¬Bs o (yielded ops a.tmps)=true)(hv:OkV v)
    (h:Win (G (b.atR (a.put o.dst undef) (.inRegion ops rest::k)) cs) v):Win (G (b.atR a (.inRegion ops (i::rest)::k)) cs) v :=
  aQ hW rfl hv (fun w=>aId ho (by simpa using hw)) h
theorem zA{Win:Goroutine→World→Prop}(hW:M.Fam Win){ops:Array Oper}(hnd:rJ ops=true){b:Frame}{k:List Item}{cs:List Frame}(hb:b.kind=.normal)(hro:b.roundOf=some lp):∀(l:List Oper) (n:Nat) (a:Act) (v:World),OkV v→(∀ j o,l[j]? = some o→ops[n+j]? = some o)→n+l.length=ops.size→gR P ops Q l a v →
    (∀ a' v',OkV v'→Q .normal a' v'→Win (G (b.atR a' k) cs) v')→Win (G (b.atR a (.inRegion ops (De n l.length)::k)) cs) v
  |[],n,a,v,hv,_,_,h,hk=>aQ hW rfl hv (fun w=>lU) (hk a v hv h)
  | o::l,n,a,v,hv,hl,hn,h,hk=>by
    have ho:ops[n]? = some o:=by simpa using hl 0 o rfl
    have ih:=fun a v hv h=>zA hW hnd hb hro l (n+1) a v hv (fun j o hj=>by have:=hl (j+1) o (by simpa using hj);rw[←this];congr 1;omega) (by simp at hn;omega) h hk
    rw[Ah,DK]
    unfold gR at h
    split at h
    · rename_i hw
      exact bBe hW (aKa hnd ho) hb hro ho hw hv h fun a' v' hv' h'=>ih a' v' hv' h'
    · rename_i hw
      exact aIq hW ho hw hv (ih _ v hv h)
theorem bIn{id:Nat}{ops:Array Oper}(hnd:rJ ops=true)(h:gR P ops Q ops.toList a v):WR P lp (.region id ops false) Q a v:=by
  intro Win hW hv b k cs hb hro hk
  refine aQ hW rfl hv (fun w=>aTt) ?_
  have:=zA hW hnd (Q:=Q) (b:=b) (k:=k) (cs:=cs) hb hro ops.toList 0 a v hv (fun j o hj=>by simpa using hj) (by simp) h fun a' v' hv' hq=>hk .normal a' v' hv' hq
  rwa [EE,←BE]
theorem bKu{Win:Goroutine→World→Prop}(hW:M.Fam Win){ops:Array Oper}(hnd:rJ ops=true){b:Frame}{k:List Item}{cs:List Frame}(hb:b.kind=.normal)(hro:b.roundOf=some lp)(hk:∀ a' v',OkV v'→Q .normal a' v'→Win (G (b.atR a' k) cs) v'):∀(fuel t:Nat) (listed:Array Bool) (a:Act) (v:World),OkV v→wS P ops Q fuel listed a v →
    Win (G (b.atR a (.inRegion ops (Cr .any ops fuel t listed [])::k)) cs) v:=by
  intro fuel
  induction fuel with
  | zero =>
    intro t listed a v hv h
    simp only[Cr,List.reverse_nil]
    exact aQ hW rfl hv (fun w=>lU) (hk a v hv h.2)
  | succ fuel ih =>
    intro t listed a v hv h
    obtain⟨h0,h1⟩:=h
    simp only[Cr]
    change Win (G (b.atR a (.inRegion ops (match(Bt .any ops listed)[t%(Bt .any ops listed).length]? with
      |some i=>Cr .any ops fuel (t/(Bt .any ops listed).length) (listed.setIfInBounds i true) [i]
      |none=>[].reverse)::k)) cs) v
    cases hi:(Bt .any ops listed)[t%(Bt .any ops listed).length]? with
    | none =>
      have hnil:Bt .any ops listed=[]:=by
        cases hr:Bt .any ops listed with
        |nil=>rfl
        | cons x xs =>
          rw[hr]at hi
          have hlt:t%(x::xs).length<(x::xs).length:=BY _ (by simp)
          simp at hi
          simp at hlt
          omega
      exact aQ hW rfl hv (fun w=>lU) (hk a v hv (h0 hnil))
    | some i =>
      simp only[]
      rw[linearise_go_acc,List.reverse_singleton,Fl]
      have h2:=h1 i (Ao hi)
      cases ho:ops[i]? with
      | none =>
        simp only[ho]at h2
        refine aQ hW (g':=G (b.atR a (.inRegion ops (Cr .any ops fuel (t/(Bt .any ops listed).length) (listed.setIfInBounds i true) [])::k)) cs) rfl hv (fun w=>?_) (ih _ _ a v hv h2)
        have hfin:∀ rest,(b.atR a (.inRegion ops (i::rest)::k)).finish undef=b.atR a (.inRegion ops rest::k):=fun rest=>by rw[Ef,ho];rfl
        have:∀ rest,stepG P M.main (G (b.atR a (.inRegion ops (i::rest)::k)) cs) w=.go (G ((b.atR a (.inRegion ops (i::rest)::k)).finish undef) cs) w:=fun rest=>by simp[G,stepG,Cd,Co,ho]
        rw[this,hfin]
      | some o =>
        simp only[ho]at h2
        split at h2
        · rename_i hw;exact bBe hW (aKa hnd ho) hb hro ho hw hv h2 fun a' v' hv' h'=>ih _ _ a' v' hv' h'
        · rename_i hw;exact aIq hW ho hw hv (ih _ _ _ v hv h2)
theorem bIo{id:Nat}{ops:Array Oper}(hm:P.follows .mixedOrders=true)(hnd:rJ ops=true)(h:∀ d,wS P ops Q ops.size (AX ops.size false) a { v with drawn:=d }):WR P lp (.region id ops true) Q a v:=by
  intro Win hW hv b k cs hb hro hk
  refine(M.closed hW).step rfl hv fun v1 w he hsim=>?_
  have hd:stepG P M.main (G (b.atR a (.code (.region id ops true)::k)) cs) w =
      .go (G (b.atR a (.inRegion ops (FF (P.follows .mixedOrders) ops (w.tape w.drawn (.order b.fn id)))::k)) cs) { w with drawn:=w.drawn+1 }:=by
    simp[G,stepG,Cd,Co,choose,Sem.run,Question.forced,Question.cut]
  have he2:Env { v with drawn:=v1.drawn+1 } { v1 with drawn:=v1.drawn+1 }:=⟨he.tape,he.os,he.output,he.heap⟩
  refine⟨_,{ v1 with drawn:=v1.drawn+1 },_,#[],hd,⟨⟨hsim.tape,by simp[hsim.drawn],hsim.os,hsim.output,hsim.size,hsim.blk⟩,(he.okV hv).congr rfl,⟨rfl,rfl,rfl,AE _,fun _ c _ _ h=>⟨c,h,rfl,fun _=>rfl⟩,fun _ o h h1 h2=>⟨o,h,h1,h2⟩⟩,fun _ _ _ _=>rfl,by simp⟩,(M.closed hW).env ?_ he2⟩
  simp only[FF,hm,Bool.true_or,AI]
  exact bKu hW hnd (Q:=Q) hb hro (fun a' v' hv' hq=>hk .normal a' v' hv' hq) ops.size _ _ a _ (hv.congr rfl) (h _)
theorem bIp{c:Code}{Q':Exit→Act→World→Prop}(h:WR P lp c Q a v)(hq:∀ e a v,Q e a v→Q' e a v):WR P lp c Q' a v :=
  fun Win hW hv b k cs hb hro hk=>h Win hW hv b k cs hb hro fun e a' v' hv' hx=>hk e a' v' hv' (hq _ _ _ hx)
theorem bIm(h:Q .normal a v):WR P lp .skip Q a v:=fun Win hW hv _ _ _ _ _ hk=>aQ hW rfl hv (fun _=>bJw) (hk .normal a v hv h)
theorem aYe{l:Nat}(h:Q .normal a v):WR P lp (.label l) Q a v:=fun Win hW hv _ _ _ _ _ hk=>aQ hW rfl hv (fun _=>aZt) (hk .normal a v hv h)
theorem bRk(h:Q .ret a v):WR P lp .ret Q a v:=fun Win hW hv _ k _ _ _ hk=>hk .ret a v hv h k
theorem bIr{id:Nat}(h:Q (.exit id) a v):WR P lp (.exit id) Q a v:=by
  intro Win hW hv b k cs _ _ hk
  have:=hk (.exit id) a v hv h
  cases hx:exitTo id k with
  |some k'=>simp only[wP,hx]at this;exact aQ hW rfl hv (fun _=>bJz hx) this
  |none=>simp only[wP,hx]at this;exact this k hx
theorem bRj{x y:Code}(h:WR P lp x (Exit.then (WR P lp y Q) Q) a v):WR P lp (.seq x y) Q a v:=by
  intro Win hW hv b k cs hb hro hk
  refine aQ hW rfl hv (fun _=>bSe) (h Win hW hv b (.code y::k) cs hb hro fun e a' v' hv' hq=>?_)
  cases e with
  |normal=>exact hq Win hW hv' b k cs hb hro hk
  |exit id=>have:=hk _ a' v' hv' hq;simp only[wP,exitTo]at this ⊢;exact this
  |ret=>exact hk _ a' v' hv' hq
  |goto l=>exact hk _ a' v' hv' hq
  |panic ch=>exact hk _ a' v' hv' hq
  |outgrown=>exact hk _ a' v' hv' hq
theorem bIs{c:Operand}{x y:Code}{t:Bool}(hc:a.eval c=.bool t)(h:WR P lp (if t then x else y) Q a v):WR P lp (.cond c x y) Q a v :=
  fun Win hW hv b k cs hb hro hk=>aQ hW rfl hv (fun _=>bKa hc) (h Win hW hv b k cs hb hro hk)
theorem aYf{id:Nat}{c:Code}(h:WR P lp c (DC id Q) a v):WR P lp (.block id c) Q a v:=by
  intro Win hW hv b k cs hb hro hk
  refine aQ hW rfl hv (fun _=>aZv) (h Win hW hv b (.inBlock id::k) cs hb hro fun e a' v' hv' hq=>?_)
  cases e with
  |normal=>exact aQ hW rfl hv' (fun _=>aNb) (hk .normal a' v' hv' hq)
  | exit id' =>
    simp only[DC]at hq
    simp only[wP,exitTo]
    by_cases he:id'=id
    · rw[Ar he]at hq
      have:=hk .normal a' v' hv' hq
      rw[Ar (by simpa using he.symm)];exact this
    · rw[Aj he]at hq
      have:=hk (.exit id') a' v' hv' hq
      rw[Aj (by simpa using fun x:id=id'=>he x.symm)];exact this
  |ret=>exact hk _ a' v' hv' hq
  |goto l=>exact hk _ a' v' hv' hq
  |panic ch=>exact hk _ a' v' hv' hq
  |outgrown=>exact hk _ a' v' hv' hq
theorem bIq{c:Code}(I:Nat→Act→World→Prop)(h0:∃ n,I n a v)(h:∀ n a v,I n a v→WR P lp c (Exit.then (fun a' v'=>∃ m,m<n∧I m a' v') Q) a v):WR P lp (.loop c) Q a v:=by
  intro Win hW hv b k cs hb hro hk
  have key:∀ n a v,OkV v→I n a v→Win (G (b.atR a (.code c::.inLoop c::k)) cs) v:=by
    intro n
    induction n using Nat.strongRecOn with
    | _ n ih =>
      intro a v hv hI
      refine h n a v hI Win hW hv b (.inLoop c::k) cs hb hro fun e a' v' hv' hq=>?_
      cases e with
      | normal =>
        obtain⟨m,hlt,hI'⟩:=hq
        exact aQ hW rfl hv' (fun _=>aTu) (ih m hlt a' v' hv' hI')
      |exit id=>have:=hk _ a' v' hv' hq;simp only[wP,exitTo]at this ⊢;exact this
      |ret=>exact hk _ a' v' hv' hq
      |goto l=>exact hk _ a' v' hv' hq
      |panic ch=>exact hk _ a' v' hv' hq
      |outgrown=>exact hk _ a' v' hv' hq
  obtain⟨n,hn⟩:=h0
  exact aQ hW rfl hv (fun _=>bJy) (key n a v hv hn)
theorem WpR.inRound(P:Program)[M:Mch P](lp:Nat):WpR P true (WR P lp) where
  mono h hq:=bIp h hq
  okv h:=fun Win hW hv=>h hv Win hW hv
  skip h:=bIm h
  label h:=aYe h
  exit h:=bIr h
  ret h:=bRk h
  regL hnd h:=bIn (hnd rfl) h
  regA hm hnd h:=bIo hm (hnd rfl) h
  seq h:=bRj h
  cond hc h:=bIs hc h
  block h:=aYf h
  loop I h0 h:=bIq I h0 h
  scope e _:=by cases e
end
end Go.Am
end
section
open List renaming map_map→ζ,mapM_map→ξ
namespace Go.Am
open Go.Conc
section runs
variable {P:Program} {w:World}
theorem wV{l:Nat}{r:Loop}(h:w.heap[l]? = some (.loop r)):aO P (getObj l) w=.ok (.loop r) w:=by simp[getObj,aO,h]
theorem jR{l:Nat}{r r':Loop}(h:w.heap[l]? = some (.loop r)):aO P (setObj l (.loop r')) w=.ok () (w.putObj l (.loop r')):=by simp[setObj,aO,h,World.putObj,okO]
theorem lJ{l:Nat}{r:Loop}(h:w.heap[l]? = some (.loop r)):aO P (Instr.getLoop l) w=.ok r w:=by
  simp[Instr.getLoop,Sem.run_bind,wV h,Eg]
theorem mH(o:Obj)(h:okO o=true):aO P (newObj o) w=.ok w.heap.size (w.alloc o):=lK P w o h
theorem rB(fn:FuncId)(tmps:Array Value)(ps:Array Tmp)(assign body:Code) :
    aO P (Instr.enterLoop fn tmps ps assign body none) w =
      .ok (w.heap.size+1,[{ target:=.collected w.heap.size,args:=#[] }])
        ((w.alloc (.deferred (some []))).alloc (.loop { state:=.ready,pending:=none,fn,tmps,params:=ps,assign,body,defers:=w.heap.size })):=by
  unfold Instr.enterLoop
  simp only[Sem.run_bind,mH (.deferred (some [])) rfl,Eg,Sem.run_pure]
  rw[mH _ rfl]
  simp only[World.size_alloc]
theorem aUc{l:Nat}{r:Loop}{args:Array Value}(h:w.heap[l]? = some (.loop r))(hs:args.size=r.params.size) :
    aO P (Instr.yield l args) w=.ok (.round l r.fn ((r.params.zip args).foldl (fun tmps (t,a)=>tmps.setIfInBounds t a) r.tmps) r.assign r.body) w:=by
  simp[Instr.yield,Sem.run_bind,lJ h,Eg,hs]
theorem yY{l:Nat}{r:Loop}(h:w.heap[l]? = some (.loop r))(hr:r.state=.ready) :
    aO P (EM l) w=.ok () (w.putObj l (.loop { r with state:=.busy })):=by
  simp[EM,Sem.run_bind,lJ h,jR h,Eg,hr]
theorem aFk{l:Nat}{r:Loop}(jump:Option Code)(h:w.heap[l]? = some (.loop r)) :
    aO P (FT l jump) w=.ok (.bool jump.isNone) (w.putObj l (.loop { r with state:=if jump.isNone then .ready else .done,pending:=jump })):=by
  simp[FT,Sem.run_bind,lJ h,jR h,Eg]
theorem aIk{l:Nat}{r:Loop}(h:w.heap[l]? = some (.loop r))(hb:r.state≠.busy) :
    aO P (Instr.endLoop l) w=.ok r.pending (w.putObj l (.loop { r with state:=.exhausted })):=by
  simp[Instr.endLoop,Sem.run_bind,lJ h,jR h,Eg,hb]
theorem uV{b:Nat}{ds:List Deferred}(h:w.heap[b]? = some (.deferred (some ds))) :
    aO P (E2 b) w=.ok ds (w.putObj b (.deferred none)):=by
  simp[E2,Sem.run_bind,getObj,setObj,aO,h,Eg,World.putObj,okO]
end runs
theorem aIm{α:Type}{s:Sem α}{P:Program}{w w':World}{r:Result α}{es:Array Event}(h:s.runT P w #[]=(r,es)):s.run P w=r:=by
  have:=C3 P s w #[]
  rw[h]at this
  exact(congrArg Prod.fst this).symm
def oI(fn:FuncId)(a:Act)(ps:Array Tmp)(assign body:Code)(d:Nat)(st:LoopState)(pe:Option Code):Loop:={ state:=st,pending:=pe,fn,tmps:=a.tmps,params:=ps,assign,body,defers:=d }
theorem aPx{P:Program}{fr:Frame}{cs:List Frame}{s:Sem Next}{w w':World}{es:Array Event}(hk:(fr.kind==C0)=false)(h:s.runT P w #[]=(.ok .skip w',es)) :
    DI P true fr cs none s w=.go { frame:=fr.finish undef,callers:=cs,status:=.running,dying:=none } w' (seen P fr.fn es):=by
  simp only[DI,AI,h,hk,Ad,Ay,Cp,Array.append_empty]
section
variable {P:Program} [M:Mch P] {Win:Goroutine→World→Prop} {b:Frame} {a:Act} {k:List Item} {cs:List Frame} {v:World}
theorem aTd(hW:M.Fam Win){g:Operand}{ps:Array Tmp}{assign body:Code}{gf:FuncId}{lb:Array Value}(hb:mG b)(hv:OkV v)(hg:a.eval g=.func (.func gf) #[] lb)
    (hent:∀ args w,aO P (callFunc gf args) w=.ok (.enter gf args) w)
    (h:∀ v1,Env v v1→Win (G (CP P gf (#[.func (.yield (v1.heap.size+1)) #[] #[]]++lb) .normal)
      (b.at { a with defers:={ target:=.collected v1.heap.size,args:=#[] }::a.defers } (.inRangeFunc (v1.heap.size+1)::k)::cs))
      ((v1.alloc (.deferred (some []))).alloc (.loop (oI b.fn a ps assign body v1.heap.size .ready none)))) :
    Win (G (b.at a (.code (.rangeFunc g ps assign body)::k)) cs) v:=by
  refine(M.closed hW).step rfl hv fun v1 w he hsim=>?_
  have hv1:=he.okV hv
  obtain⟨w1,es1,h1,h2,h3,h4,h5,h6⟩:=fE (P:=P) (Instr.enterLoop b.fn a.tmps ps assign body none) v1 w #[] _ _ hv1 hsim (rB b.fn a.tmps ps assign body)
  obtain⟨v2,hv2⟩:∃ v2,(v1.alloc (.deferred (some []))).alloc (.loop (oI b.fn a ps assign body v1.heap.size .ready none))=v2:=⟨_,rfl⟩
  have hres:aO P (resolve a.eval (rangeCall g (v1.heap.size+1)) 0) v2=.ok { target:=.fn (.func gf) lb,args:=#[.func (.yield (v1.heap.size+1)) #[] #[]] } v2:=by
    simp only[resolve,hg]
    simp[Cu,Act.eval]
  have hinv:aO P (invoke (.fn (.func gf) lb) #[.func (.yield (v1.heap.size+1)) #[] #[]]) v2=.ok (.enter gf (#[.func (.yield (v1.heap.size+1)) #[] #[]]++lb)) v2:=by
    simp only[invoke,hent]
  have hcall:aO P (do let d ←resolve a.eval (rangeCall g (v1.heap.size+1)) 0;invoke d.target d.args) v2=.ok (.enter gf (#[.func (.yield (v1.heap.size+1)) #[] #[]]++lb)) v2:=by
    rw[Sem.run_bind,hres];exact hinv
  change Sim ((v1.alloc (.deferred (some []))).alloc (.loop (oI b.fn a ps assign body v1.heap.size .ready none))) w1 at h2
  change OkV ((v1.alloc (.deferred (some []))).alloc (.loop (oI b.fn a ps assign body v1.heap.size .ready none)))at h3
  change Ext _ ((v1.alloc (.deferred (some []))).alloc (.loop (oI b.fn a ps assign body v1.heap.size .ready none)))at h4
  change ∀ e∈es1,EvV ((v1.alloc (.deferred (some []))).alloc (.loop (oI b.fn a ps assign body v1.heap.size .ready none))) e at h6
  rw[hv2]at h2 h3 h4 h6
  obtain⟨w2,es2,g1,g2,g3,g4,g5,g6⟩:=fE _ v2 w1 #[] _ _ h3 h2 hcall
  have hk':(b.kind==C0)=false:=hb.beq
  have hev:=Frame.eval_at' b { a with defers:={ target:=.collected v1.heap.size,args:=#[] }::a.defers } (.inRangeFunc (v1.heap.size+1)::k)
  have g1':(do let d ←resolve (b.at { a with defers:={ target:=.collected v1.heap.size,args:=#[] }::a.defers } (.inRangeFunc (v1.heap.size+1)::k)).eval (rangeCall g (v1.heap.size+1)) 0;invoke d.target d.args:Sem Next).runT P w1 #[]=(.ok (.enter gf (#[.func (.yield (v1.heap.size+1)) #[] #[]]++lb)) w2,es2):=by
    rw[hev]
    have:(Act.eval { a with defers:={ target:=.collected v1.heap.size,args:=#[] }::a.defers })=a.eval:=by funext x;cases x<;>rfl
    rw[this];simpa using g1
  simp only[Frame.at]at g1'
  refine⟨G (CP P gf (#[.func (.yield (v1.heap.size+1)) #[] #[]]++lb) .normal) (b.at { a with defers:={ target:=.collected v1.heap.size,args:=#[] }::a.defers } (.inRangeFunc (v1.heap.size+1)::k)::cs),v2,w2,seen P b.fn es1++seen P b.fn es2,?_,⟨g2,g3,h4.trans g4,h5.trans h4 g5,fun e hx=>?_⟩,?_⟩
  · simp only[G,stepG,Cd,Frame.at,h1,Cp,Fl,rangeCall]at g1' ⊢
    simp only[DI,g1',AI]
    simp[hk',Cp]
  · rcases Array.mem_append.1 hx with hx|hx
    · exact(h6 e (by simpa using mem_seen hx)).ext g4
    · exact g6 e (by simpa using mem_seen hx)
  · rw[←hv2];exact h v1 he
theorem aTc(hW:M.Fam Win){ops:Array Oper}{i:Nat}{rest:List Nat}{o:Oper}{l:Nat}{f:FuncId}{tmps:Array Value}{assign body:Code}(hb:mG b)(ho:ops[i]? = some o)(hw:Bs o (yielded ops a.tmps)=true)(hv:OkV v)
    (h:∀ v1,Env v v1→aO P (execOp a.eval o) v1=.ok (.round l f tmps assign body) v1∧Win (G (E5 l f tmps assign body .normal) (b.at a (.inRegion ops (i::rest)::k)::cs)) v1) :
    Win (G (b.at a (.inRegion ops (i::rest)::k)) cs) v:=by
  refine(M.closed hW).step rfl hv fun v1 w he hsim=>?_
  obtain⟨hr,hwin⟩:=h v1 he
  obtain⟨w',es',h1,h2,h3,h4,h5,h6⟩:=fE _ v1 w #[] _ _ (he.okV hv) hsim hr
  have hk':(b.kind==C0)=false:=hb.beq
  have hrw:=aIm (w':=w) h1
  have hev:∀ e∈listed P b.fn a o w,EvV v1 e:=fun e hx=>by
    have:=mem_listed hx
    have h7:=C3 P (execOp a.eval o) w #[]
    rw[h1]at h7
    have h8:(execOp a.eval o).events P w #[]=#[]++es':=(congrArg Prod.snd h7).symm
    rw[h8]at this
    exact h6 e (by simpa using this)
  refine⟨_,v1,w',listed P b.fn a o w,?_,⟨h2,h3,h4,h5,hev⟩,hwin⟩
  rw[stepG_oper ho hw]
  simp[DI,hrw,G,Frame.at,hk',Cp,listed]
theorem aMk(hW:M.Fam Win){ops:Array Oper}{i:Nat}{rest:List Nat}{o:Oper}(hb:mG b)(ho:ops[i]? = some o)(hw:Bs o (yielded ops a.tmps)=true)(hv:OkV v)
    (h:∀ v1,Env v v1→∃ l f tmps assign body,aO P (execOp a.eval o) v1=.ok (.round l f tmps assign body) v1∧Win (G (E5 l f tmps assign body .normal) (b.at a (.inRegion ops (i::rest)::k)::cs)) v1) :
    Win (G (b.at a (.inRegion ops (i::rest)::k)) cs) v:=by
  refine(M.closed hW).step rfl hv fun v1 w he hsim=>?_
  obtain⟨l,f,tmps,assign,body,hr,hwin⟩:=h v1 he
  obtain⟨w',es',h1,h2,h3,h4,h5,h6⟩:=fE _ v1 w #[] _ _ (he.okV hv) hsim hr
  have hk':(b.kind==C0)=false:=hb.beq
  have hrw:=aIm (w':=w) h1
  have hev:∀ e∈listed P b.fn a o w,EvV v1 e:=fun e hx=>by
    have:=mem_listed hx
    have h7:=C3 P (execOp a.eval o) w #[]
    rw[h1]at h7
    have h8:(execOp a.eval o).events P w #[]=#[]++es':=(congrArg Prod.snd h7).symm
    rw[h8]at this
    exact h6 e (by simpa using this)
  refine⟨_,v1,w',listed P b.fn a o w,?_,⟨h2,h3,h4,h5,hev⟩,hwin⟩
  rw[stepG_oper ho hw]
  simp[DI,hrw,G,Frame.at,hk',Cp,listed]
theorem aTe(hW:M.Fam Win){l:Nat}(hb:b.kind=.normal)(hro:b.roundOf=some l)(hv:OkV v)(h:∀ v1,Env v v1→∃ v2,aO P (EM l) v1=.ok () v2∧(OkV v2→Win (G (b.atR a k) cs) v2)) :
    Win (G (b.atR a (.beginRound::k)) cs) v:=by
  refine(M.closed hW).step rfl hv fun v1 w he hsim=>?_
  obtain⟨v2,hr,hwin⟩:=h v1 he
  have hr':aO P (do EM l;pure .skip:Sem Next) v1=.ok .skip v2:=by rw[Sem.run_bind,hr];rfl
  obtain⟨w',es',h1,h2,h3,h4,h5,h6⟩:=fE _ v1 w #[] _ _ (he.okV hv) hsim hr'
  have hk':(b.kind==C0)=false:=by simp[hb]
  refine⟨_,v2,w',seen P b.fn es',?_,⟨h2,h3,h4,h5,fun e hx=>h6 e (by simpa using mem_seen hx)⟩,hwin h3⟩
  have h1':(do (b.roundOf).elim (stuck "beginRound: no round") EM; pure .skip:Sem Next).runT P w #[]=(.ok .skip w',es'):=by rw [hro]; simpa using h1
  have:=aPx (fr:=b.atR a (.beginRound::k)) (cs:=cs) (by exact hk') h1'
  simp only[G,stepG,Cd]
  exact this
theorem aYp(hW:M.Fam Win){l:Nat}{c:Frame}{e:Exit}{jump:Option Code}(hb:b.kind=.normal)(hro:b.roundOf=some l)(hv:OkV v)(hj:(e,jump)=(.normal,none)∨(e,jump)=(.ret,some .ret)∨∃ id,(e,jump)=(.exit id,some (.exit id)))
    (h:∀ v1,Env v v1→∃ x v2,aO P (FT l jump) v1=.ok x v2∧(OkV v2→Win (G (c.finish x) cs) v2)):wP Win b [] (c::cs) e a v:=by
  have key:∀(todo:List Item),(∀ w w' x es,(FT l jump).runT P w #[]=(.ok x w',es)→stepG P M.main (G (b.atR a todo) (c::cs)) w=.go (G (c.finish x) cs) w' (seen P b.fn es))→Win (G (b.atR a todo) (c::cs)) v:=by
    intro todo hst
    refine(M.closed hW).step rfl hv fun v1 w he hsim=>?_
    obtain⟨x,v2,hr,hwin⟩:=h v1 he
    obtain⟨w',es',h1,h2,h3,h4,h5,h6⟩:=fE _ v1 w #[] _ _ (he.okV hv) hsim hr
    exact⟨_,v2,w',seen P b.fn es',hst _ _ _ _ (by simpa using h1),⟨h2,h3,h4,h5,fun e hx=>h6 e (by simpa using mem_seen hx)⟩,hwin h3⟩
  rcases hj with hj|hj|⟨id,hj⟩
  · injection hj with e1 e2;subst e1;subst e2
    exact key [] fun w w' x es hr=>by simp[-C3,G,stepG,Cd,Co,hro,hb,hr,doReturn,Cp]
  · injection hj with e1 e2;subst e1;subst e2
    exact fun k1=>key _ fun w w' x es hr=>by simp[-C3,G,stepG,Cd,Co,hro,hb,hr,doReturn,Cp]
  · injection hj with e1 e2;subst e1;subst e2
    simp only[wP,exitTo]
    exact fun k1 hk1=>key _ fun w w' x es hr=>by simp[-C3,G,stepG,Cd,Co,hro,hb,hk1,hr,doReturn,Cp]
theorem aEs(hW:M.Fam Win){l:Nat}(hv:OkV v)(h:∀ v1,Env v v1→∃ jump v2,aO P (Instr.endLoop l) v1=.ok jump v2∧(OkV v2→Win (G (b.at a ((jump.map Item.code).toList++k)) cs) v2)) :
    Win (G (b.at a (.endRangeFunc l::k)) cs) v:=by
  refine(M.closed hW).step rfl hv fun v1 w he hsim=>?_
  obtain⟨jump,v2,hr,hwin⟩:=h v1 he
  obtain⟨w',es',h1,h2,h3,h4,h5,h6⟩:=fE _ v1 w #[] _ _ (he.okV hv) hsim hr
  refine⟨_,v2,w',seen P b.fn es',?_,⟨h2,h3,h4,h5,fun e hx=>h6 e (by simpa using mem_seen hx)⟩,hwin h3⟩
  simp only[Cf]at h1
  simp[-C3,G,stepG,Cd,Frame.at,h1,Cp]
theorem aYo(hW:M.Fam Win){D:Nat}{ds:List Deferred}{todo:List Item}(hv:OkV v)(hd:a.defers={ target:=.collected D,args:=#[] }::ds)
    (h:∀ v1,Env v v1→∃ v2,aO P (E2 D) v1=.ok [] v2∧(OkV v2→Win (G { b.at { a with defers:=ds } todo with mode:=.returning } cs) v2)) :
    Win (G { b.at a todo with mode:=.returning } cs) v:=by
  refine(M.closed hW).step rfl hv fun v1 w he hsim=>?_
  obtain⟨v2,hr,hwin⟩:=h v1 he
  obtain⟨w',es',h1,h2,h3,h4,h5,h6⟩:=fE _ v1 w #[] _ _ (he.okV hv) hsim hr
  refine⟨_,v2,w',seen P b.fn es',?_,⟨h2,h3,h4,h5,fun e hx=>h6 e (by simpa using mem_seen hx)⟩,hwin h3⟩
  simp only[Cf]at h1
  simp[-C3,G,stepG,unwind,Frame.at,hd,h1,Cp]
end
end Go.Am
end
section
open List renaming map_map→ζ,mapM_map→ξ
namespace Go.Am
open RowKit (Below)
def SRB(F M:Nat→Prop)(N:Nat)(ds:List Deferred)(σ:St)(a:Act)(w:World):Prop :=
  (∀ id,σ.n≤id→σ.H id=none)∧∃ ι,(∀ b,F b→b<w.heap.size)∧(∀ id b,ι id=some b→M b)∧(∀ b,M b→b<w.heap.size∧¬F b) ∧
    (∀ id b o,ι id=some b→σ.H id=some o→∃ ob,w.heap[b]? = some ob∧CR F w ι o ob)∧(∀ id id' b,ι id=some b→ι id'=some b→id=id') ∧
    (∀ id,(∃ b,ι id=some b)↔(σ.H id).isSome=true)∧(∀ t,V F w ι (σ.Γ t) (a.tmps.getD t undef))∧a.tmps.size=N∧a.defers=ds
def aCf:Nat→Prop:=fun _=>True
def noZ:Nat→Option Value:=fun _=>none
section
variable {P:Program} {F M:Nat→Prop} {N:Nat} {ds:List Deferred} {σ:St} {a:Act} {w:World}
theorem SRB.sr(h:SRB F M N ds σ a w)(hok:OkV w)(Z:Nat→Option Value)(hZ:∀ t v,Z t=some v→a.tmps.getD t undef=v):SR ⟨w,F,M,aCf,Z⟩ N ds σ a w:=by
  obtain⟨h1,ι,hF,hM,hMF,ho,hi,hd,hV,hN,hds⟩:=h
  refine⟨h1,fun _ _=>trivial,hok,F,ι,⟨.refl _ _ _,hF,fun b h=>.inl h,fun id b e=>⟨.inl (hM id b e),(hMF b (hM id b e)).1,fun _=>(hMF b (hM id b e)).2⟩,ho,fun id id' b e e' _ _=>hi id id' b e e',fun id id' b o o' e e' _ q q'=>?_⟩,hd,hV,⟨hN,hZ⟩,hds,fun _ _=>trivial⟩
  have:=hi id id' b e e'
  subst this
  rw[q]at q';injection q' with q';subst q'
  exact AE _
theorem SR.srb{G:Ctx}(h:SR G N ds σ a w):∃ F M,SRB F M N ds σ a w∧(∀ b,M b→G.M b∨G.W.heap.size≤b)∧(∀ b,F b→G.A b∨G.M b∨G.W.heap.size≤b)∧Kept G.M G.W.heap.size G.W w ∧
    ∀ t v,G.Z t=some v→a.tmps.getD t undef=v:=by
  obtain⟨h1,h2,_,F,ι,hR,hd,hV,hN,hds,_⟩:=h
  refine⟨F,fun b=>∃ id,ι id=some b,⟨h1,ι,hR.F_lt,fun id b e=>⟨id,e⟩,?_,hR.obj,fun id id' b e e'=>hR.inj id id' b e e' (fun x=>x) (fun x=>x),hd,hV,hN.1,hds⟩,?_,hR.F_ok,hR.kept,hN.2⟩
  · rintro b ⟨id,e⟩;exact⟨(hR.place id b e).2.1,(hR.place id b e).2.2 fun x=>x⟩
  · rintro b ⟨id,e⟩;exact(hR.place id b e).1
theorem SRB.world(h:SRB F M N ds σ a w){w':World}(hsz:w.heap.size≤w'.heap.size)(hb:∀ b,F b∨M b→w'.heap[b]? = w.heap[b]?):SRB F M N ds σ a w':=by
  obtain⟨h1,ι,hF,hM,hMF,ho,hi,hd,hV,hN,hds⟩:=h
  have hs:Step F w ι F w' ι:=⟨fun _ h=>h,fun b h=>hb b (.inl h),fun _ _ h=>h,fun id b cur e hi h=>⟨cur,(hb b (.inr (hM id b hi))).trans h,rfl⟩⟩
  refine⟨h1,ι,fun b h=>A3 (hF b h) hsz,hM,fun b h=>⟨A3 (hMF b h).1 hsz,(hMF b h).2⟩,fun id b o e e'=>?_,hi,hd,fun t=>(hV t).step hs,hN,hds⟩
  obtain⟨ob,q1,q2⟩:=ho id b o e e'
  exact⟨ob,(hb b (.inr (hM id b e))).trans q1,q2.step hs⟩
theorem SRB.more(h:SRB F M N ds σ a w){F':Nat→Prop}(hFF:∀ b,F b→F' b)(hF':∀ b,F' b→b<w.heap.size)(hMF':∀ b,M b→¬F' b):SRB F' M N ds σ a w:=by
  obtain⟨h1,ι,hF,hM,hMF,ho,hi,hd,hV,hN,hds⟩:=h
  have hs:Step F w ι F' w ι:=⟨hFF,fun b h=>rfl,fun _ _ h=>h,fun id b cur e hi h=>⟨cur,h,rfl⟩⟩
  refine⟨h1,ι,hF',hM,fun b h=>⟨(hMF b h).1,hMF' b h⟩,fun id b o e e'=>?_,hi,hd,fun t=>(hV t).step hs,hN,hds⟩
  obtain⟨ob,q1,q2⟩:=ho id b o e e'
  exact⟨ob,q1,q2.step hs⟩
theorem SRB.act(h:SRB F M N ds σ a w){Γ':Nat→AV}{a':Act}{ds':List Deferred}(hN:a'.tmps.size=N)(hds:a'.defers=ds')
    (hV:∀ t,(Γ' t=σ.Γ t∧a'.tmps.getD t undef=a.tmps.getD t undef)∨Γ' t=.any∨∃ d v,Γ' t=aT d∧a'.tmps.getD t undef=v∧VD F w d v):SRB F M N ds' ⟨Γ',σ.H,σ.n⟩ a' w:=by
  obtain⟨h1,ι,hF,hM,hMF,ho,hi,hd,hV0,_,_⟩:=h
  refine⟨h1,ι,hF,hM,hMF,ho,hi,hd,fun t=>?_,hN,hds⟩
  rcases hV t with ⟨e1,e2⟩|e|⟨d,v,e1,e2,e3⟩
  · show V F w ι (Γ' t) _
    rw[e1,e2];exact hV0 t
  · show V F w ι (Γ' t) _
    rw[e];exact .any _
  · show V F w ι (Γ' t) _
    rw[e1,e2];exact pU e3
theorem SRB.defers(h:SRB F M N ds σ a w)(ds':List Deferred):SRB F M N ds' σ { a with defers:=ds' } w:=by
  obtain⟨h1,ι,hF,hM,hMF,ho,hi,hd,hV,hN,hds⟩:=h
  exact⟨h1,ι,hF,hM,hMF,ho,hi,hd,hV,hN,rfl⟩
theorem SRB.weak(h:SRB F M N ds σ a w)(hok:OkV w){σ':St}{ρ:Nat→Nat}(hk:Wk σ σ' ρ):∃ F' M',SRB F' M' N ds σ' a w∧(∀ b,M' b→M b)∧∀ b,F' b→F b∨M b:=by
  obtain⟨F',M',h',hM,hF,_⟩:=(uL hk (h.sr hok noZ fun _ _ e=>by cases e)).srb
  refine⟨F',M',h',fun b hb=>?_,fun b hb=>?_⟩
  · rcases hM b hb with h1|h1
    · exact h1
    · obtain⟨_,_,_,_,q,_⟩:=h'
      have:=(q b hb).1
      simp only at h1;omega
  · rcases hF b hb with h1|h1|h1
    · exact .inl h1
    · exact .inr h1
    · obtain⟨_,_,q,_⟩:=h'
      have:=q b hb
      simp only at h1;omega
def lA(σ:St)(l:List Nat):St:=fin ⟨σ.Γ,kill l σ.H,σ.n⟩ l
theorem SRB.callee(h:SRB F M N ds σ a w){g:Operand}{gf:FuncId}{cs:List AV}{caps:List D}(hg:dS (oev σ.Γ g)=some (gf,cs))(hf:cO σ.H cs=some caps) :
    ∃ lb A M',a.eval g=.func (.func gf) #[] lb∧caps.length=lb.size∧(∀(k:Nat) d v,caps[k]? = some d→lb[k]? = some v→VD A w d v)∧SRB A M' N ds (lA σ (cC σ.H cs)) a w ∧
      (∀ b,A b→F b∨M b)∧(∀ b,M' b→M b):=by
  obtain⟨h1,ι,hF,hM,hMF,ho,hi,hd,hV,hN,hds⟩:=h
  have hR:HR ⟨w,F,M,aCf,noZ⟩ F w ι bD σ.H:=by
    refine⟨.refl _ _ _,hF,fun b h=>.inl h,fun id b e=>⟨.inl (hM id b e),(hMF b (hM id b e)).1,fun _=>(hMF b (hM id b e)).2⟩,ho,fun id id' b e e' _ _=>hi id id' b e e',fun id id' b o o' e e' _ q q'=>?_⟩
    have:=hi id id' b e e'
    subst this
    rw[q]at q';injection q' with q';subst q'
    exact AE _
  have hVg:V F w ι (oev σ.Γ g) (a.eval g):=cI fun t _=>hV t
  obtain⟨lb,e1,e2,e3⟩:=aEc hg hVg
  obtain⟨q1,q2,q3⟩:=lO (vs:=lb.toList) hR (fun _ _ h=>h) hf (by simpa using e2) fun k c u hc hu=>e3 k c u hc (by simpa using hu)
  let l:=cC σ.H cs
  have hAM:∀ b,reach F ι l b→F b∨M b:=by
    rintro b (hb|⟨id,_,e⟩)
    · exact .inl hb
    · exact .inr (hM id b e)
  have hAlt:∀ b,reach F ι l b→b<w.heap.size:=fun b hb=>(hAM b hb).elim (hF b) fun h=>(hMF b h).1
  have hs:Step F w ι (reach F ι l) w ι:=⟨fun b h=>.inl h,fun b h=>rfl,fun _ _ h=>h,fun id b cur e hi h=>⟨cur,h,rfl⟩⟩
  refine⟨lb,reach F ι l,fun b=>M b∧¬reach F ι l b,e1,by simpa using q1,fun k d v hk hv=>q2 k d v hk (by simpa using hv),?_,hAM,fun b h=>h.1⟩
  have hmask:∀ id b,mask ι l id=some b→M b∧¬reach F ι l b:=fun id b e=>by
    obtain⟨m1,m2⟩:=cQ e
    refine⟨hM id b m1,?_⟩
    rintro(hb|⟨id',hid',e'⟩)
    · exact(hMF b (hM id b m1)).2 hb
    · exact m2 (hi id id' b m1 e' ▸ hid')
  have hkill:∀ id,kill l σ.H id=if id∈l then none else σ.H id:=fun id=>by
    by_cases hid:id∈l
    · rw[Ar hid,kR hid]
    · rw[Aj hid,mM hid]
  unfold lA
  show SRB (reach F ι l) _ N ds (fin ⟨σ.Γ,kill l σ.H,σ.n⟩ l) a w
  cases hl:l with
  | nil =>
    have hmk:mask ι l=ι:=by funext id;simp[mask,hl]
    rw[←hl]
    have hfin:fin ⟨σ.Γ,kill l σ.H,σ.n⟩ l=σ:=by rw[hl];rfl
    rw[hfin]
    refine⟨h1,ι,hAlt,fun id b e=>hmask id b (by rw[hmk];exact e),fun b h=>⟨(hMF b h.1).1,h.2⟩,fun id b o e e'=>?_,hi,hd,fun t=>(hV t).step hs,hN,hds⟩
    obtain⟨ob,p1,p2⟩:=ho id b o e e'
    exact⟨ob,p1,p2.step hs⟩
  | cons x xs =>
    rw[←hl]
    have hfin:fin ⟨σ.Γ,kill l σ.H,σ.n⟩ l=⟨fun t=>jB l (σ.Γ t),fun id=>(kill l σ.H id).map (gT l),σ.n⟩:=by rw[hl];rfl
    rw[hfin]
    refine⟨fun id h=>by simp only;rw[hkill,h1 id h];simp,mask ι l,hAlt,hmask,fun b h=>⟨(hMF b h.1).1,h.2⟩,fun id b o e e'=>?_,fun id id' b e e'=>hi id id' b (cQ e).1 (cQ e').1,fun id=>?_,fun t=>aHf ((hV t).step hs),hN,hds⟩
    · obtain⟨m1,m2⟩:=cQ e
      simp only[hkill,Aj m2]at e'
      obtain⟨o1,ho1,rfl⟩:=Ae.1 e'
      obtain⟨ob,p1,p2⟩:=ho id b o1 m1 ho1
      exact⟨ob,p1,aBo (p2.step hs)⟩
    · constructor
      · rintro⟨b,e⟩
        obtain⟨m1,m2⟩:=cQ e
        simp only[hkill,Aj m2,ED]
        exact(hd id).1 ⟨b,m1⟩
      · intro e
        by_cases hid:id∈l
        · simp[hkill,hid]at e
        · simp only[hkill,Aj hid,ED]at e
          obtain⟨b,hb⟩:=(hd id).2 e
          exact⟨b,by unfold mask;rw[Aj hid];exact hb⟩
end
end Go.Am
end
section
open List renaming map_map→ζ,mapM_map→ξ
namespace Go.Am
open Go.Conc (G)
open RowKit (Below)
def YX(P:Program)[M:Mch P](l:Nat)(vals:Array Value)(W1:World)(R:Value→World→Prop):Prop :=
  ∃ f tmps assign body,aO P (Instr.yield l vals) W1=.ok (.round l f tmps assign body) W1 ∧
    ∀(Win:Goroutine→World→Prop),M.Fam Win→OkV W1→∀(c:Frame) (cs:List Frame),(∀ x v',OkV v'→R x v'→Win (Go.Conc.G (c.finish x) cs) v')→Win (Go.Conc.G (E5 l f tmps assign body .normal) (c::cs)) W1
def lR(P:Program)[M:Mch P](g:FuncId)(caps:List D)(xs:List (List D)):Prop :=
  ∀(A:Nat→Prop) (W:World) (l:Nat) (lb:Array Value),(∀ b,A b→b<W.heap.size)→caps.length=lb.size→(∀(k:Nat) d v,caps[k]? = some d→lb[k]? = some v→VD A W d v) →
    (∀ args w,aO P (callFunc g args) w=.ok (.enter g args) w) ∧
    ∀(J:Nat→(Nat→Prop)→(Nat→Prop)→World→Prop),
      (∀ k X O W1 X' O' W2,J k X O W1→Kept O W1.heap.size W1 W2→(∀ b,X b→X' b)→(∀ b,X' b→X b∨(W1.heap.size≤b∧b<W2.heap.size))→(∀ b,O' b→X' b∧(O b∨W1.heap.size≤b))→J k X' O' W2) →
      (∀ k X O W1 ds (vals:Array Value),xs[k]? = some ds→J k X O W1→ds.length=vals.size→(∀(i:Nat) d v,ds[i]? = some d→vals[i]? = some v→VD (fun b=>A b∨(X b∧¬O b)) W1 d v) →
        YX P l vals W1 fun x W2=>x=.bool (decide (k+1≠xs.length))∧J (k+1) X O W2∧W1.heap.size≤W2.heap.size∧W2.os=W1.os∧W2.tape=W1.tape∧W2.output=W1.output∧∀ b,A b∨X b→W2.heap[b]? = W1.heap[b]?) →
      J 0 bD bD W →
      CX P g (#[.func (.yield l) #[] #[]]++lb) W fun _ W'=>∃ X O,J xs.length X O W'
def oK(Ds:List Nat):List Deferred:=Ds.map fun D=>{ target:=.collected D,args:=#[] }
def FR(W:World)(A0:Nat→Prop)(N:Nat)(Ds:List Nat)(σ:St)(a:Act)(w:World):Prop :=
  ∃ F M,SRB F M N (oK Ds) σ a w∧(∀ b,M b→W.heap.size≤b)∧(∀ b,F b→A0 b∨W.heap.size≤b)∧Kept bD W.heap.size W w ∧
    (∀ D∈Ds,W.heap.size≤D∧w.heap[D]? = some (.deferred (some []))∧¬M D∧¬F D)∧Ds.Nodup
def FRx(W:World)(A0:Nat→Prop)(N:Nat)(σ:St)(a:Act)(w:World):Prop:=∃ Ds,FR W A0 N Ds σ a w
theorem dM{w:World}{b:Nat}{o:Obj}(h:w.heap[b]? = some o):b<w.heap.size:=(AQ.1 h).1
section
variable {P:Program} [M:Mch P] {W w:World} {A0:Nat→Prop} {N:Nat} {Ds:List Nat} {σ:St} {a:Act}
theorem SRB.env{F Ms:Nat→Prop}{ds:List Deferred}(h:SRB F Ms N ds σ a w){v1:World}(he:Env w v1):SRB F Ms N ds σ a v1:=by
  have hF:∀ b,F b→b<w.heap.size:=by obtain⟨_,_,q,_⟩:=h;exact q
  have hM:∀ b,Ms b→b<w.heap.size:=by obtain⟨_,_,_,_,q,_⟩:=h;exact fun b hb=>(q b hb).1
  exact h.world he.size fun b hb=>he.get (hb.elim (hF b) (hM b))
theorem Env.kept{v v1:World}(h:Env v v1)(O:Nat→Prop):Kept O v.heap.size v v1 :=
  ⟨h.os,h.tape,h.output,h.size,fun k hk _=>h.get hk,fun k cur e hk hc=>⟨cur,(h.get hk).trans hc,rfl⟩⟩
theorem FRx.env(h:FRx W A0 N σ a w){v1:World}(he:Env w v1):FRx W A0 N σ a v1:=by
  obtain⟨Ds,F,M,hs,hM,hF,hK,hD,hnd⟩:=h
  have hWw:=hK.size
  refine⟨Ds,F,M,hs.env he,hM,hF,hK.trans ⟨he.os,he.tape,he.output,he.size,fun k hk _=>he.get (by omega),fun k cur e hk hc=>⟨cur,(he.get (by omega)).trans hc,rfl⟩⟩,fun D hDm=>?_,hnd⟩
  obtain⟨d1,d2,d3,d4⟩:=hD D hDm
  exact⟨d1,(he.get (dM d2)).trans d2,d3,d4⟩
theorem nM(hm:P.follows .mixedOrders=true){c:Code}{Q:Exit→St→Prop}(hd:bT N c=true)(hl:bV P c=true)(h:AWP P c σ Q)(hs:FRx W A0 N σ a w) :
    WC P c (fun e a' w'=>∃ σ',Q e σ'∧FRx W A0 N σ' a' w') a w:=by
  refine(WpR.plain P).okv fun hok=>?_
  obtain⟨Ds,F,Ms,hs,hM,hF,hK,hD,hnd⟩:=hs
  have hMlt:∀ b,Ms b→b<w.heap.size:=by obtain⟨_,_,_,_,q,_⟩:=hs;exact fun b hb=>(q b hb).1
  refine cD (cJ (G:=⟨w,F,Ms,aCf,noZ⟩) hm (fun _=>rfl) c Q σ a w hd hl h (hs.sr hok noZ fun _ _ e=>by cases e)) ?_
  rintro e a' w' ⟨σ',hq,hs'⟩
  refine⟨σ',hq,?_⟩
  obtain⟨F',M',h',hM',hF',hK',_⟩:=hs'.srb
  simp only at hM' hF' hK'
  have hWw:=hK.size
  refine⟨Ds,F',M',h',fun b hb=>?_,fun b hb=>?_,hK.trans ⟨hK'.os,hK'.tape,hK'.output,hK'.size,fun k hk _=>hK'.block k (by omega) fun hm=>by have:=hM k hm;omega,fun k cur e hk hc=>hK'.shape k cur e (by omega) hc⟩,fun D hDm=>?_,hnd⟩
  · rcases hM' b hb with h|h
    · exact hM b h
    · omega
  · rcases hF' b hb with h|h|h
    · exact hF b h
    · exact .inr (hM b h)
    · exact .inr (by omega)
  · obtain⟨d1,d2,d3,d4⟩:=hD D hDm
    have hlt:=dM d2
    refine⟨d1,(hK'.block D hlt d3).trans d2,fun hm=>?_,fun hf=>?_⟩
    · rcases hM' D hm with h|h
      · exact d3 h
      · omega
    · rcases hF' D hf with h|h|h
      · exact d4 h
      · exact d3 h
      · omega
def aBs:List (Tmp×D)→(Nat→AV)→Nat→AV
  |[],Γ=>Γ
  |(p,d)::l,Γ=>aBs l (upd Γ p (aT d))
theorem bAf{F:Nat→Prop}{w:World}{wr:Nat→Bool}:∀(l:List (Tmp×D)) (vs:List (Tmp×Value)) (Γ0 Γ:Nat→AV) (T0 T:Array Value),T.size=T0.size→l.length=vs.length →
    (∀(k:Nat) p q,l[k]? = some p→vs[k]? = some q→p.1=q.1∧p.1<T0.size∧wr p.1=true∧VD F w p.2 q.2) →
    (∀ t,(Γ t=Γ0 t∧T.getD t undef=T0.getD t undef)∨Γ t=.any∨∃ d v,Γ t=aT d∧T.getD t undef=v∧VD F w d v) →
    (∀ t,wr t=false→T.getD t undef=T0.getD t undef) →
    ((vs.foldl (fun t (p:Tmp×Value)=>t.setIfInBounds p.1 p.2) T).size=T0.size) ∧
    (∀ t,(aBs l Γ t=Γ0 t∧(vs.foldl (fun t (p:Tmp×Value)=>t.setIfInBounds p.1 p.2) T).getD t undef=T0.getD t undef)∨aBs l Γ t=.any∨∃ d v,aBs l Γ t=aT d∧(vs.foldl (fun t (p:Tmp×Value)=>t.setIfInBounds p.1 p.2) T).getD t undef=v∧VD F w d v) ∧
    (∀ t,wr t=false→(vs.foldl (fun t (p:Tmp×Value)=>t.setIfInBounds p.1 p.2) T).getD t undef=T0.getD t undef)
  |[],[],Γ0,Γ,T0,T,hsz,_,_,h,hz=>⟨hsz,h,hz⟩
  |[],_::_,_,_,_,_,_,hl,_,_,_=>by simp at hl
  |_::_,[],_,_,_,_,_,hl,_,_,_=>by simp at hl
  | (p,d)::l,(p',v)::vs,Γ0,Γ,T0,T,hsz,hl,hp,h,hz=>by
    obtain⟨e1,e2,e3,e4⟩:=hp 0 _ _ rfl rfl
    simp only at e1 e2 e3 e4
    subst e1
    have hget:∀ t,(T.setIfInBounds p v).getD t undef=if t=p then v else T.getD t undef:=fun t=>by
      simp only[Array.getD_eq_getD_getElem?]
      by_cases ht:t=p
      · subst ht;rw[Ar rfl,BM (by rw[hsz];exact e2)];rfl
      · rw[Aj ht,AF (Ne.symm ht)]
    refine bAf (wr:=wr) l vs Γ0 (upd Γ p (aT d)) T0 (T.setIfInBounds p v) (by simpa using hsz) (by simpa using hl) (fun k a b ha hb=>hp (k+1) a b (by simpa using ha) (by simpa using hb)) (fun t=>?_) fun t ht=>?_
    · by_cases htp:t=p
      · subst htp
        exact .inr (.inr ⟨d,v,upd_same _ _ _,by rw[hget,Ar rfl],e4⟩)
      · rw[upd_ne _ _ htp,hget,Aj htp];exact h t
    · rw[hget,Aj (fun e=>by subst e;rw[e3]at ht;cases ht)];exact hz t ht
structure aHk(P:Program)[M:Mch P](N:Nat)(ps:Array Tmp)(assign body:Code)(wl:List Nat)(xs:List (List D))(T:Nat→St)(E:Exit):Prop where
  dst:bT N assign=true∧bT N body=true
  lex:bV P assign=true∧bV P body=true
  rd:gD assign=true∧gD body=true
  nz:fQ (fun t=>!wl.contains t) assign=true∧fQ (fun t=>!wl.contains t) body=true
  psl:∀ p∈ps.toList,p<N∧wl.contains p=true
  ne:0<xs.length
  round:∀ k x,xs[k]? = some x→x.length=ps.size∧AWP P assign ⟨aBs (ps.toList.zip x) (T k).Γ,(T k).H,(T k).n⟩ fun e σ1=>e=.normal ∧
    AWP P body σ1 fun e σ2=>e=(if k+1=xs.length then E else .normal)∧∃ ρ,Wk ⟨fun t=>if wl.contains t then .any else σ2.Γ t,σ2.H,σ2.n⟩ (T (k+1)) ρ
theorem aOt(l:Array (Tmp×Value))(T:Array Value):l.foldl (fun t (x:Tmp×Value)=>match x with|(p,v)=>t.setIfInBounds p v) T=l.toList.foldl (fun t (p:Tmp×Value)=>t.setIfInBounds p.1 p.2) T:=by
  rw[←Array.foldl_toList]
def oZ(rec:LoopState→Option Code→Loop)(jc:Code)(n k:Nat):Loop:=if k=n then rec .done (some jc)else rec .ready none
def JR(W:World)(n:Nat)(A0 A:Nat→Prop)(N:Nat)(Ds:List Nat)(T:Nat→St)(a:Act)(rec:Nat→Loop)(k:Nat)(X O:Nat→Prop)(U:World):Prop:=∃ F M,SRB F M N (oK Ds) (T k) a U ∧
    (∀ b,M b→W.heap.size≤b∧¬X b∧¬A b∧b≠n+1∧b≠n∧b ∉ Ds)∧(∀ b,F b→(A0 b∨W.heap.size≤b)∧¬O b∧b≠n+1∧b≠n∧b ∉ Ds) ∧
    Kept bD W.heap.size W U∧(∀ D∈Ds,U.heap[D]? = some (.deferred (some [])))∧U.heap[n+1]? = some (.loop (rec k))∧U.heap[n]? = some (.deferred (some [])) ∧
    (∀ b,X b→n+2≤b∧b<U.heap.size)∧(∀ b,O b→X b)
theorem JR.stab{n:Nat}{A:Nat→Prop}{T:Nat→St}{rec:Nat→Loop}(hWw:W.heap.size≤n)(hDs:∀ D∈Ds,D<n):∀ k X O U1 X' O' U2,JR W n A0 A N Ds T a rec k X O U1→Kept O U1.heap.size U1 U2→(∀ b,X b→X' b) →
    (∀ b,X' b→X b∨(U1.heap.size≤b∧b<U2.heap.size))→(∀ b,O' b→X' b∧(O b∨U1.heap.size≤b))→JR W n A0 A N Ds T a rec k X' O' U2:=by
  rintro k X O U1 X' O' U2 ⟨F,M,hj,hjM,hjF,hjK,hjD,hjl,hjd,hjX,hjO⟩ hk hX1 hX2 hO
  have hFlt:∀ b,F b→b<U1.heap.size:=by obtain⟨_,_,q,_⟩:=hj;exact q
  have hMlt:∀ b,M b→b<U1.heap.size:=by obtain⟨_,_,_,_,q,_⟩:=hj;exact fun b h=>(q b h).1
  have keep:∀ b,b<U1.heap.size→¬O b→U2.heap[b]? = U1.heap[b]? := fun b h1 h2=>hk.block b h1 h2
  have hOge:∀ b,O b→n+2≤b:=fun b hb=>(hjX b (hjO b hb)).1
  have hKs:=hjK.size
  refine⟨F,M,hj.world hk.size fun b hb=>?_,fun b hb=>?_,fun b hb=>?_,?_,fun D hDm=>?_,?_,?_,fun b hb=>?_,fun b hb=>(hO b hb).1⟩
  · rcases hb with h|h
    · exact keep b (hFlt b h) (hjF b h).2.1
    · exact keep b (hMlt b h) fun ho=>(hjM b h).2.1 (hjO b ho)
  · obtain⟨q1,q2,q3⟩:=hjM b hb
    refine⟨q1,fun hx=>?_,q3⟩
    rcases hX2 b hx with h|h
    · exact q2 h
    · have:=hMlt b hb;omega
  · obtain⟨q1,q2,q3⟩:=hjF b hb
    refine⟨q1,fun hx=>?_,q3⟩
    rcases(hO b hx).2 with h|h
    · exact q2 h
    · have:=hFlt b hb;omega
  · exact hjK.trans ⟨hk.os,hk.tape,hk.output,hk.size,fun k hk' _=>keep k (by omega) fun ho=>(by have:=hOge k ho;omega),fun k cur e hk' hc=>⟨cur,(keep k (by omega) fun ho=>(by have:=hOge k ho;omega)).trans hc,rfl⟩⟩
  · have:=hDs D hDm
    exact(keep D (dM (hjD D hDm)) fun ho=>by have:=hOge D ho;omega).trans (hjD D hDm)
  · exact(keep _ (dM hjl) fun ho=>by have:=hOge _ ho;omega).trans hjl
  · exact(keep _ (dM hjd) fun ho=>by have:=hOge _ ho;omega).trans hjd
  · have:=hk.size
    rcases hX2 b hb with h|h
    · have:=hjX b h;omega
    · have:=dM hjl
      refine⟨?_,h.2⟩
      omega
theorem Kept.env{O:Nat→Prop}{n:Nat}{v v1:World}(h:Kept O n W v)(hn:n≤v.heap.size)(he:Env v v1):Kept O n W v1 :=
  h.trans ⟨he.os,he.tape,he.output,he.size,fun k hk _=>he.get (by omega),fun k cur e hk hc=>⟨cur,(he.get (by omega)).trans hc,rfl⟩⟩
theorem JR.round(hm:P.follows .mixedOrders=true){n:Nat}{A:Nat→Prop}{ps:Array Tmp}{assign body:Code}{fn:FuncId}{xs:List (List D)}{T:Nat→St}{wl:List Nat}{E:Exit}{jc:Code}(hE:(E,jc)=(.ret,.ret)∨∃ id,(E,jc)=(.exit id,.exit id))(hWw:W.heap.size≤n)(hDs:∀ D∈Ds,D<n)(hAlt:∀ b,A b→b<n)
    (hA0':∀ b,A b→A0 b∨W.heap.size≤b) (hADs:∀ b,A b→b ∉ Ds) (hadef:a.tmps.size=N) (hadd:a.defers=oK Ds) (hr:aHk P N ps assign body wl xs T E) :
    ∀ k X O U1 ds (vals:Array Value),xs[k]? = some ds→JR W n A0 A N Ds T a (oZ (oI fn a ps assign body n) jc xs.length) k X O U1→ds.length=vals.size→(∀(i:Nat) d v,ds[i]? = some d→vals[i]? = some v→VD (fun b=>A b∨(X b∧¬O b)) U1 d v) →
      YX P (n+1) vals U1 fun x W2=>x=.bool (decide (k+1≠xs.length))∧JR W n A0 A N Ds T a (oZ (oI fn a ps assign body n) jc xs.length) (k+1) X O W2∧U1.heap.size≤W2.heap.size∧W2.os=U1.os∧W2.tape=U1.tape∧W2.output=U1.output∧∀ b,A b∨X b→W2.heap[b]? = U1.heap[b]? := by
  obtain⟨rec,hrec⟩:∃ rec:LoopState→Option Code→Loop,rec=oI fn a ps assign body n:=⟨_,rfl⟩
  rw[←hrec]
  rintro k X O U1 ds vals hx ⟨F,Ms,hj,hjM,hjF,hjK,hjD,hjl,hjd,hjX,hjO⟩ hlen hvals
  obtain⟨hps,hwalk⟩:=hr.round k ds hx
  have hFlt:∀ b,F b→b<U1.heap.size:=by obtain⟨_,_,q,_⟩:=hj;exact q
  have hMlt:∀ b,Ms b→b<U1.heap.size:=by obtain⟨_,_,_,_,q,_⟩:=hj;exact fun b h=>(q b h).1
  have hsz1:n+1<U1.heap.size:=dM hjl
  have hklt:k<xs.length:=(Aq.1 hx).1
  have hrk:oZ rec jc xs.length k=rec .ready none:=by unfold oZ;rw[Aj (by omega)]
  rw[hrk]at hjl
  have hy:=aUc (P:=P) (args:=vals) hjl (by rw[hrec];show vals.size=ps.size;omega)
  rw[hrec]at hy
  refine⟨fn,_,assign,body,hy,fun Win hW hok c cs hk=>?_⟩
  let b0:Frame:={ (default:Frame)with fn:=fn,kind:=.normal,roundOf:=some (n+1) }
  -- the frame of the round
  let F1:Nat→Prop:=fun b=>F b∨A b∨(X b∧¬O b)
  have hF1lt:∀ b,F1 b→b<U1.heap.size:=by
    rintro b (h|h|h)
    · exact hFlt b h
    · have:=hAlt b h;omega
    · exact(hjX b h.1).2
  have hj1:SRB F1 Ms N (oK Ds) (T k) a U1:=hj.more (fun b h=>.inl h) hF1lt fun b hb hf=>by
    obtain⟨_,q2,q3,_⟩:=hjM b hb
    rcases hf with h|h|h
    · obtain⟨_,_,_,_,q,_⟩:=hj;exact(q b hb).2 h
    · exact q3 h
    · exact q2 h.1
  obtain⟨s1,s2,s3⟩:=bAf (F:=F1) (w:=U1) (wr:=fun t=>wl.contains t) (ps.toList.zip ds) (ps.zip vals).toList (T k).Γ (T k).Γ a.tmps a.tmps rfl (by simp;omega) (fun i p q hp hq=>by
    rw[Array.toList_zip]at hq
    rw[List.getElem?_zip_eq_some]at hp hq
    obtain⟨p1,p2⟩:=p;obtain⟨q1,q2⟩:=q
    simp only at hp hq ⊢
    have e:p1=q1:=by have:=hp.1.symm.trans hq.1;injection this
    obtain⟨w1,w2⟩:=hr.psl p1 (Ao hp.1)
    exact⟨e,by rw[hadef];exact w1,w2,(hvals i p2 q2 hp.2 (by simpa using hq.2)).mono fun b hb=>.inr hb⟩) (fun t=>.inl ⟨rfl,rfl⟩) fun t _=>rfl
  have hfold:=aOt (ps.zip vals) a.tmps
  obtain⟨tmps',htm⟩:∃ tmps',(ps.zip vals).foldl (fun t (x:Tmp×Value)=>match x with|(p,v)=>t.setIfInBounds p v) a.tmps=tmps':=⟨_,rfl⟩
  rw[←hfold,htm]at s1 s2 s3
  have hb0:E5 (n+1) fn ((ps.zip vals).foldl (fun t (x:Tmp×Value)=>match x with|(p,v)=>t.setIfInBounds p v) a.tmps) assign body .normal=b0.atR { tmps:=tmps',defers:=[] } [.code assign,.beginRound,.code body]:=by
    simp only[E5,Co,b0,htm]
  show Win (G (E5 (n+1) fn ((ps.zip vals).foldl (fun t (x:Tmp×Value)=>match x with|(p,v)=>t.setIfInBounds p v) a.tmps) assign body .normal) (c::cs)) U1
  rw[hb0]
  have hj2:SRB F1 Ms N [] ⟨aBs (ps.toList.zip ds) (T k).Γ,(T k).H,(T k).n⟩ { tmps:=tmps',defers:=[] } U1:=hj1.act (by show tmps'.size=N;omega) rfl s2
  let Z:Nat→Option Value:=fun t=>if wl.contains t then none else some (a.tmps.getD t undef)
  have hZ:∀ d v,Z d=some v→(!wl.contains d)=true:=fun d v e=>by
    simp only[Z]at e
    split at e
    · cases e
    · rename_i h;simpa using h
  have hZt:∀(tm:Array Value),(∀ t,wl.contains t=false→tm.getD t undef=a.tmps.getD t undef)→∀ t v,Z t=some v→tm.getD t undef=v:=fun tm h t v e=>by
    simp only[Z]at e
    split at e
    · cases e
    · rename_i hc;injection e with e;rw[h t (by simpa using hc),e]
  refine sO (G:=⟨U1,F1,Ms,aCf,Z⟩) (WpR.inRound P (n+1)) hm hZ assign _ _ _ _ hr.dst.1 hr.lex.1 hr.nz.1 (fun _=>hr.rd.1) hwalk (hj2.sr hok Z (hZt _ s3)) Win hW hok b0 [.beginRound,.code body] (c::cs) rfl rfl ?_
  rintro e a2 U2o hok2 ⟨σ2,⟨rfl,hwalk2⟩,hs2⟩
  refine aTe hW rfl rfl hok2 fun U2 he2=>?_
  obtain⟨F2',M2',h2o,hM2',hF2',hK2o,hZ2⟩:=hs2.srb
  simp only at hM2' hF2' hK2o hZ2
  have h2:=h2o.env he2
  have hK2':=hK2o.env hK2o.size he2
  have hl2:U2.heap[n+1]? = some (.loop (rec .ready none)):=(hK2'.block _ hsz1 fun h=>(hjM _ h).2.2.2.1 rfl).trans hjl
  have hsz2:U1.heap.size≤U2.heap.size:=hK2'.size
  refine⟨_,yY hl2 (by rw[hrec];rfl),?_⟩
  obtain⟨U3,hU3⟩:∃ U3,U2.putObj (n+1) (.loop { rec .ready none with state:=.busy })=U3:=⟨_,rfl⟩
  have hU3s:U3.heap.size=U2.heap.size:=by rw[←hU3];simp
  have hl3:U3.heap[n+1]? = some (.loop { rec .ready none with state:=.busy }):=by rw[←hU3];exact World.putObj_heap_same (by omega)
  have hoth3:∀ b,b≠n+1→U3.heap[b]? = U2.heap[b]? := fun b hb=>by rw[←hU3];exact Eh hb
  have hF1l:∀ b,F1 b→b≠n+1:=by
    rintro b (h|h|h)
    · exact(hjF b h).2.2.1
    · have:=hAlt b h;omega
    · have:=(hjX b h.1).1;omega
  have hM2l:∀ b,M2' b→b≠n+1:=fun b hb=>by
    rcases hM2' b hb with h|h
    · exact(hjM b h).2.2.2.1
    · omega
  have hF2l:∀ b,F2' b→b≠n+1:=fun b hb=>by
    rcases hF2' b hb with h|h|h
    · exact hF1l b h
    · exact(hjM b h).2.2.2.1
    · omega
  have h3:SRB F2' M2' N [] σ2 a2 U3:=h2.world (by omega) fun b hb=>hoth3 b (hb.elim (hF2l b) (hM2l b))
  rw[show U2.putObj (n+1) (.loop { rec .ready none with state:=.busy })=U3 from hU3]
  intro hok3
  refine sO (G:=⟨U3,F2',M2',aCf,Z⟩) (WpR.inRound P (n+1)) hm hZ body _ _ _ _ hr.dst.2 hr.lex.2 hr.nz.2 (fun _=>hr.rd.2) hwalk2 (h3.sr hok3 Z hZ2) Win hW hok3 b0 [] (c::cs) rfl rfl ?_
  rintro e a4 U4o hok4 ⟨σ4,⟨heE,ρ,hwk⟩,hs4⟩
  obtain⟨jump,hjmp,hjump⟩:∃ jump:Option Code,((e,jump)=(.normal,none)∨(e,jump)=(.ret,some .ret)∨∃ id,(e,jump)=(.exit id,some (.exit id)))∧jump=if k+1=xs.length then some jc else none:=by
    by_cases hlast:k+1=xs.length
    · rw[Ar hlast]at heE ⊢
      subst heE
      refine⟨_,?_,rfl⟩
      rcases hE with hE|⟨id,hE⟩
      · injection hE with e1 e2;subst e1;subst e2;exact .inr (.inl rfl)
      · injection hE with e1 e2;subst e1;subst e2;exact .inr (.inr ⟨id,rfl⟩)
    · rw[Aj hlast]at heE ⊢
      subst heE
      exact⟨none,.inl rfl,rfl⟩
  refine aYp hW rfl rfl hok4 hjmp fun U4 he4=>?_
  obtain⟨F4,M4,h4o,hM4,hF4,hK4o,hZ4⟩:=hs4.srb
  simp only at hM4 hF4 hK4o hZ4
  have h4:=h4o.env he4
  have hK4:=hK4o.env hK4o.size he4
  have hok4':=he4.okV hok4
  have hl4:U4.heap[n+1]? = some (.loop { rec .ready none with state:=.busy }):=(hK4.block _ (by omega) fun h=>hM2l _ h rfl).trans hl3
  have hsz4:U3.heap.size≤U4.heap.size:=hK4.size
  have hrr:({ ({ rec .ready none with state:=.busy }:Loop)with state:=if jump.isNone then .ready else .done,pending:=jump }:Loop)=oZ rec jc xs.length (k+1):=by
    rw[hjump,hrec]
    unfold oZ
    by_cases hlast:k+1=xs.length
    · simp only[Ar hlast];rfl
    · simp only[Aj hlast];rfl
  obtain⟨U5,hU5⟩:∃ U5,U4.putObj (n+1) (.loop (oZ rec jc xs.length (k+1)))=U5:=⟨_,rfl⟩
  have hU5s:U5.heap.size=U4.heap.size:=by rw[←hU5];simp
  have hoth5:∀ b,b≠n+1→U5.heap[b]? = U4.heap[b]? := fun b hb=>by rw[←hU5];exact Eh hb
  have hend:=aFk (P:=P) jump hl4
  rw[hrr,hU5]at hend
  have hjb:jump.isNone=decide (k+1≠xs.length):=by
    rw[hjump]
    by_cases hlast:k+1=xs.length
    · simp[hlast]
    · simp[hlast]
  rw[hjb]at hend
  refine⟨_,U5,hend,fun hok5=>hk _ _ hok5 ⟨rfl,?_⟩⟩
  -- what lay there lies there still
  have hkeep:∀ b,b<U1.heap.size→¬Ms b→b≠n+1→U5.heap[b]? = U1.heap[b]? := fun b h1 h2 h3=>by
    rw[hoth5 b h3,hK4.block b (by omega) (fun h=>by rcases hM2' b h with h|h;exact h2 h;omega),hoth3 b h3,hK2'.block b h1 h2]
  have hM4':∀ b,M4 b→Ms b∨U1.heap.size≤b:=fun b hb=>by
    rcases hM4 b hb with h|h
    · exact hM2' b h
    · right;omega
  have hF4':∀ b,F4 b→F1 b∨Ms b∨U1.heap.size≤b:=fun b hb=>by
    rcases hF4 b hb with h|h|h
    · exact hF2' b h
    · exact .inr (hM2' b h)
    · right;right;omega
  have hM4l:∀ b,M4 b→b≠n+1:=fun b hb=>by
    rcases hM4' b hb with h|h
    · exact(hjM b h).2.2.2.1
    · omega
  have hF4l:∀ b,F4 b→b≠n+1:=fun b hb=>by
    rcases hF4' b hb with h|h|h
    · exact hF1l b h
    · exact(hjM b h).2.2.2.1
    · omega
  have h5:SRB F4 M4 N [] σ4 a4 U5:=h4.world (by omega) fun b hb=>hoth5 b (hb.elim (hF4l b) (hM4l b))
  have h6:SRB F4 M4 N (oK Ds) ⟨fun t=>if wl.contains t then .any else σ4.Γ t,σ4.H,σ4.n⟩ a U5:=h5.act hadef hadd fun t=>by
    by_cases ht:wl.contains t=true
    · right;left;simp only[ht,AI]
    · left
      have ht':wl.contains t=false:=by simpa using ht
      refine⟨by simp only[ht',Ad,Ay],?_⟩
      exact(hZ4 t (a.tmps.getD t undef) (by simp only[Z,ht',Ad,Ay])).symm
  obtain⟨F7,M7,h7,hM7,hF7⟩:=h6.weak hok5 hwk
  have hM7':∀ b,M7 b→Ms b∨U1.heap.size≤b:=fun b hb=>hM4' b (hM7 b hb)
  have hF7':∀ b,F7 b→F1 b∨Ms b∨U1.heap.size≤b:=fun b hb=>(hF7 b hb).elim (hF4' b) fun h=>.inr (hM4' b h)
  have hKs:=hjK.size
  have hDlt:∀ D∈Ds,D<U1.heap.size:=fun D hDm=>dM (hjD D hDm)
  refine⟨⟨F7,M7,h7,fun b hb=>?_,fun b hb=>?_,?_,fun D hDm=>?_,?_,?_,fun b hb=>?_,hjO⟩,by omega,?_,?_,?_,fun b hb=>?_⟩
  · rcases hM7' b hb with h|h
    · exact hjM b h
    · exact⟨by omega,fun hx=>by have:=(hjX b hx).2;omega,fun ha=>by have:=hAlt b ha;omega,by omega,by omega,fun hDm=>by have:=hDlt b hDm;omega⟩
  · rcases hF7' b hb with (h|h|h)|h|h
    · exact hjF b h
    · have:=hAlt b h
      exact⟨hA0' b h,fun ho=>by have:=(hjX b (hjO b ho)).1;omega,by omega,by omega,hADs b h⟩
    · have:=(hjX b h.1).1
      exact⟨.inr (by omega),h.2,by omega,by omega,fun hDm=>by have:=hDs b hDm;omega⟩
    · obtain⟨q1,q2,q3,q4,q5,q6⟩:=hjM b h
      exact⟨.inr q1,fun ho=>q2 (hjO b ho),q4,q5,q6⟩
    · exact⟨.inr (by omega),fun ho=>by have:=(hjX b (hjO b ho)).2;omega,by omega,by omega,fun hDm=>by have:=hDlt b hDm;omega⟩
  · refine hjK.trans ⟨?_,?_,?_,by omega,fun b hb _=>hkeep b (by omega) (fun h=>by have:=(hjM b h).1;omega) (by omega),fun b cur e hb hc=>⟨cur,(hkeep b (by omega) (fun h=>by have:=(hjM b h).1;omega) (by omega)).trans hc,rfl⟩⟩
    · rw[←hU5];show U4.os=U1.os;rw[hK4.os,←hU3];exact hK2'.os
    · rw[←hU5];show U4.tape=U1.tape;rw[hK4.tape,←hU3];exact hK2'.tape
    · rw[←hU5];show U4.output=U1.output;rw[hK4.output,←hU3];exact hK2'.output
  · exact(hkeep D (hDlt D hDm) (fun h=>(hjM D h).2.2.2.2.2 hDm) (by have:=hDs D hDm;omega)).trans (hjD D hDm)
  · rw[←hU5];exact World.putObj_heap_same (by omega)
  · exact(hkeep _ (by omega) (fun h=>(hjM _ h).2.2.2.2.1 rfl) (by omega)).trans hjd
  · have:=hjX b hb;omega
  · rw[←hU5];show U4.os=U1.os;rw[hK4.os,←hU3];exact hK2'.os
  · rw[←hU5];show U4.tape=U1.tape;rw[hK4.tape,←hU3];exact hK2'.tape
  · rw[←hU5];show U4.output=U1.output;rw[hK4.output,←hU3];exact hK2'.output
  · rcases hb with h|h
    · have:=hAlt b h
      exact hkeep b (by omega) (fun hmm=>(hjM b hmm).2.2.1 h) (by omega)
    · have:=hjX b h
      exact hkeep b this.2 (fun hmm=>(hjM b hmm).2.1 h) (by omega)
end
end Go.Am
end
section
open List renaming map_map→ζ,mapM_map→ξ
namespace Go.Am
open Go.Conc (G)
open RowKit (Below)
section
variable {P:Program} [M:Mch P] {W w:World} {A0:Nat→Prop} {N:Nat} {Ds:List Nat} {σ:St} {a:Act}
theorem aKt(hm:P.follows .mixedOrders=true){g:Operand}{ps:Array Tmp}{assign body:Code}{gf:FuncId}{cs:List AV}{caps:List D}{xs:List (List D)}{T:Nat→St}{wl:List Nat}{E:Exit}{jc:Code}(hE:(E,jc)=(.ret,.ret)∨∃ id,(E,jc)=(.exit id,.exit id))
    (hg:dS (oev σ.Γ g)=some (gf,cs)) (hf:cO σ.H cs=some caps) (hseq:lR P gf caps xs) (hr:aHk P N ps assign body wl xs T E) (h0:∃ ρ,Wk (lA σ (cC σ.H cs)) (T 0) ρ) (hs:FRx W A0 N σ a w)
    (hok:OkV w) {Win:Goroutine→World→Prop} (hW:M.Fam Win) {b0:Frame} {k0:List Item} {cs0:List Frame} (hb0:mG b0)
    (hk:∀ e a' v',OkV v'→(e=E∧FRx W A0 N (T xs.length) a' v')→nY Win b0 k0 cs0 e a' v') {lb0:Array Value} (hev0:a.eval g=.func (.func gf) #[] lb0) :
    Win (G (CP P gf (#[.func (.yield (w.heap.size+1)) #[] #[]]++lb0) .normal) (b0.at { a with defers:={ target:=.collected w.heap.size,args:=#[] }::a.defers } (.inRangeFunc (w.heap.size+1)::k0)::cs0))
      ((w.alloc (.deferred (some []))).alloc (.loop (oI b0.fn a ps assign body w.heap.size .ready none))):=by
  obtain⟨Ds,F,Ms,hs,hM,hF,hK,hD,hnd⟩:=hs
  obtain⟨lb,A,M1,hev,hlb,hV,hs1,hA,hM1⟩:=hs.callee hg hf
  have hlb0:lb=lb0:=by rw[hev]at hev0;injection hev0
  subst hlb0
  obtain⟨ρ0,hw0⟩:=h0
  obtain⟨F2,M2,hs2,hM2,hF2⟩:=hs1.weak hok hw0
  have hWw:=hK.size
  have hAlt:∀ b,A b→b<w.heap.size:=by obtain⟨_,_,q,_⟩:=hs1;exact q
  have hM2A:∀ b,M2 b→¬A b:=fun b hb=>by obtain⟨_,_,_,_,q,_⟩:=hs1;exact(q b (hM2 b hb)).2
  have hadef:a.tmps.size=N:=by obtain⟨_,_,_,_,_,_,_,_,_,q,_⟩:=hs;exact q
  have hadd:a.defers=oK Ds:=by obtain⟨_,_,_,_,_,_,_,_,_,_,q⟩:=hs;exact q
  obtain⟨rec,hrec⟩:∃ rec:LoopState→Option Code→Loop,rec=oI b0.fn a ps assign body w.heap.size:=⟨_,rfl⟩
  rw[←hrec]
  obtain⟨W1,hW1⟩:∃ W1,(w.alloc (.deferred (some []))).alloc (.loop (rec .ready none))=W1:=⟨_,rfl⟩
  rw[hW1]
  have hW1s:W1.heap.size=w.heap.size+2:=by rw[←hW1];simp
  have hL1:W1.heap[w.heap.size+1]? = some (.loop (rec .ready none)):=by
    rw[←hW1];have:=World.alloc_heap_new (w.alloc (.deferred (some []))) (.loop (rec .ready none));rwa [World.size_alloc]at this
  have hold:∀ b,b<w.heap.size→W1.heap[b]? = w.heap[b]? := fun b hb=>by
    rw[←hW1]
    show((w.heap.push _).push _)[b]? = _
    rw[Bu,Aj (by simp;omega),Bu,Aj (by omega)]
  have hK1:W1.heap[w.heap.size]? = some (.deferred (some [])):=by
    rw[←hW1]
    show((w.heap.push _).push _)[w.heap.size]? = _
    rw[Bu,Aj (by simp),Bu,Ar rfl]
  have hstr:W1.os=w.os∧W1.tape=w.tape∧W1.output=w.output:=by rw[←hW1];exact⟨rfl,rfl,rfl⟩
  have hAW1:∀(k:Nat) d v,caps[k]? = some d→lb[k]? = some v→VD A W1 d v:=fun k d v hk hv=>(hV k d v hk hv).step (fun _ h=>h) fun b hb=>hold b (hAlt b hb)
  obtain⟨hent,hseq⟩:=hseq A W1 (w.heap.size+1) lb (fun b hb=>by have:=hAlt b hb;omega) hlb hAW1
  have hDs:∀ D∈Ds,D<w.heap.size:=fun D hDm=>dM (hD D hDm).2.1
  have hA0':∀ b,A b→A0 b∨W.heap.size≤b:=fun b hb=>(hA b hb).elim (hF b) fun h=>.inr (hM b h)
  have hADs:∀ b,A b→b ∉ Ds:=fun b hb hDm=>(hA b hb).elim (hD b hDm).2.2.2 (hD b hDm).2.2.1
  have hcx:=hseq (JR W w.heap.size A0 A N Ds T a (oZ rec jc xs.length)) (JR.stab hWw hDs) (by rw[hrec];exact JR.round hm hE hWw hDs hAlt hA0' hADs hadef hadd hr) ?start
  · have hokW1:OkV W1:=by rw[←hW1];exact(hok.alloc rfl).alloc rfl
    refine hcx Win hW hokW1 _ cs0 fun x U0 hokU0 hR=>?_
    obtain⟨X,O,hj0⟩:=hR
    rw[show(b0.at { a with defers:={ target:=.collected w.heap.size,args:=#[] }::a.defers } (.inRangeFunc (w.heap.size+1)::k0)).finish x=b0.at { a with defers:={ target:=.collected w.heap.size,args:=#[] }::a.defers } (.endRangeFunc (w.heap.size+1)::k0)by simp[Frame.finish,Frame.at]]
    refine aEs hW hokU0 fun U heU=>?_
    have hjO0:∀ b,O b→X b:=by obtain⟨_,_,_,_,_,_,_,_,_,_,q⟩:=hj0;exact q
    obtain⟨F,Ms,hj,hjM,hjF,hjK,hjD,hjl,hjd,hjX,hjO⟩:=JR.stab hWw hDs _ X O U0 X O U hj0 (heU.kept O) (fun _ h=>h) (fun _ h=>.inl h) (fun b h=>⟨hjO0 b h,.inl h⟩)
    have hra:oZ rec jc xs.length xs.length=rec .done (some jc):=by unfold oZ;rw[Ar rfl]
    rw[hra]at hjl
    have hlt:=dM hjl
    obtain⟨U',hU'⟩:∃ U',U.putObj (w.heap.size+1) (.loop { rec .done (some jc)with state:=.exhausted })=U':=⟨_,rfl⟩
    have hoth:∀ b,b≠w.heap.size+1→U'.heap[b]? = U.heap[b]? := fun b hb=>by rw[←hU'];exact Eh hb
    have hUs:U'.heap.size=U.heap.size:=by rw[←hU'];simp
    have hst:U'.os=U.os∧U'.tape=U.tape∧U'.output=U.output:=by rw[←hU'];exact⟨rfl,rfl,rfl⟩
    have hrun:=aIk (P:=P) hjl (by rw[hrec];simp[oI])
    rw[hU',show(rec .done (some jc)).pending=some jc by rw[hrec];rfl]at hrun
    refine⟨some jc,U',hrun,fun hokU'=>?_⟩
    have hfin:FRx W A0 N (T xs.length) { a with defers:={ target:=.collected w.heap.size,args:=#[] }::a.defers } U':=by
      refine⟨w.heap.size::Ds,F,Ms,?_,fun b hb=>(hjM b hb).1,fun b hb=>(hjF b hb).1,?_,?_,?_⟩
      · rw[hadd]
        exact(hj.world (w':=U') (by omega) fun b hb=>hoth b (by
          rcases hb with h|h
          · exact(hjF b h).2.2.1
          · exact(hjM b h).2.2.2.1)).defers (oK (w.heap.size::Ds))
      · exact hjK.trans ⟨hst.1,hst.2.1,hst.2.2,by omega,fun k hk _=>hoth k (by omega),fun k cur e hk hc=>⟨cur,(hoth k (by omega)).trans hc,rfl⟩⟩
      · intro D hDm
        rcases BB.1 hDm with rfl|hDm
        · exact⟨hWw,(hoth _ (by omega)).trans hjd,fun h=>(hjM _ h).2.2.2.2.1 rfl,fun h=>(hjF _ h).2.2.2.1 rfl⟩
        · have:=hDs D hDm
          exact⟨(hD D hDm).1,(hoth _ (by omega)).trans (hjD D hDm),fun h=>(hjM _ h).2.2.2.2.2 hDm,fun h=>(hjF _ h).2.2.2.2 hDm⟩
      · exact Dv.2 ⟨fun h=>by have:=hDs _ h;omega,hnd⟩
    have hcode:Win (G (b0.at { a with defers:={ target:=.collected w.heap.size,args:=#[] }::a.defers } (.code jc::k0)) cs0) U':=by
      rcases hE with hE|⟨id,hE⟩
      · injection hE with e1 e2;subst e1;subst e2
        exact yI (Q:=fun e a' w'=>e=.ret∧FRx W A0 N (T xs.length) a' w') ⟨rfl,hfin⟩ Win hW hokU' b0 k0 cs0 hb0 hk
      · injection hE with e1 e2;subst e1;subst e2
        exact aQl (Q:=fun e a' w'=>e=.exit id∧FRx W A0 N (T xs.length) a' w') ⟨rfl,hfin⟩ Win hW hokU' b0 k0 cs0 hb0 hk
    exact hcode
  case start =>
    refine⟨F2,M2,hs2.world (by omega) (fun b hb=>hold b ?_),fun b hb=>?_,fun b hb=>?_,?_,fun D hDm=>?_,by unfold oZ;rw[Aj (by have:=hr.ne;omega)];exact hL1,hK1,fun b hb=>hb.elim,fun b hb=>hb.elim⟩
    · obtain⟨_,_,q1,_,q2,_⟩:=hs2
      exact hb.elim (q1 b) fun h=>(q2 b h).1
    · have hb2:=hM1 b (hM2 b hb)
      have:b<w.heap.size:=by obtain⟨_,_,_,_,q2,_⟩:=hs2;exact(q2 b hb).1
      exact⟨hM b hb2,fun h=>h.elim,hM2A b hb,by omega,by omega,fun hDm=>(hD b hDm).2.2.1 hb2⟩
    · have:b<w.heap.size:=by obtain⟨_,_,q1,_⟩:=hs2;exact q1 b hb
      have hb2:A0 b∨W.heap.size≤b:=(hF2 b hb).elim (hA0' b) fun h=>.inr (hM b (hM1 b h))
      exact⟨hb2,fun h=>h.elim,by omega,by omega,fun hDm=>(hF2 b hb).elim (fun h=>hADs b h hDm) fun h=>(hD b hDm).2.2.1 (hM1 b h)⟩
    · exact hK.trans ⟨hstr.1,hstr.2.1,hstr.2.2,by omega,fun k hk _=>hold k (by omega),fun k cur e hk hc=>⟨cur,(hold k (by omega)).trans hc,rfl⟩⟩
    · exact(hold D (hDs D hDm)).trans (hD D hDm).2.1
theorem bEm(hm:P.follows .mixedOrders=true){g:Operand}{ps:Array Tmp}{assign body:Code}{gf:FuncId}{cs:List AV}{caps:List D}{xs:List (List D)}{T:Nat→St}{wl:List Nat}{E:Exit}{jc:Code}(hE:(E,jc)=(.ret,.ret)∨∃ id,(E,jc)=(.exit id,.exit id))
    (hg:dS (oev σ.Γ g)=some (gf,cs)) (hf:cO σ.H cs=some caps) (hseq:lR P gf caps xs) (hr:aHk P N ps assign body wl xs T E) (h0:∃ ρ,Wk (lA σ (cC σ.H cs)) (T 0) ρ) (hs:FRx W A0 N σ a w) :
    WC P (.rangeFunc g ps assign body) (fun e a' w'=>e=E∧FRx W A0 N (T xs.length) a' w') a w:=by
  intro Win hW hokw b0 k0 cs0 hb0 hk0
  have hevg:∃ lb,a.eval g=.func (.func gf) #[] lb∧∀ args w,aO P (callFunc gf args) w=.ok (.enter gf args) w:=by
    obtain⟨Ds,F,Ms,hs,_⟩:=hs
    obtain⟨lb,A,M1,hev,hlb,hV,hs1,_⟩:=hs.callee hg hf
    have hAlt:∀ b,A b→b<w.heap.size:=by obtain⟨_,_,q,_⟩:=hs1;exact q
    exact⟨lb,hev,(hseq A w 0 lb hAlt hlb hV).1⟩
  obtain⟨lb0,hev0,hentg⟩:=hevg
  exact aTd hW hb0 hokw hev0 hentg fun w1 he1=>aKt hm hE hg hf hseq hr h0 (hs.env he1) (he1.okV hokw) hW hb0 hk0 hev0
end
end Go.Am
end
section
open List renaming map_map→ζ,mapM_map→ξ
namespace Go.Am
open Go.Conc
open RowKit (Below)
def mV(P:Program)[M:Mch P](N:Nat):Code→St→(Exit→St→Prop)→Prop
  |.seq x y,σ,Q=>mV P N x σ fun e σ'=>match e with|.normal=>mV P N y σ' Q|e=>Q e σ'
  |.block id c,σ,Q=>mV P N c σ fun e σ'=>match e with|.exit id'=>if id'=id then Q .normal σ' else Q (.exit id') σ'|e=>Q e σ'
  |.rangeFunc g ps assign body,σ,Q=>∃ gf cs caps xs T wl E jc,((E,jc)=(Exit.ret,Code.ret)∨∃ id,(E,jc)=(Exit.exit id,Code.exit id))∧dS (oev σ.Γ g)=some (gf,cs)∧cO σ.H cs=some caps∧lR P gf caps xs∧aHk P N ps assign body wl xs T E∧(∃ ρ,Wk (lA σ (cC σ.H cs)) (T 0) ρ)∧Q E (T xs.length)
  |.scope c,σ,Q=>mV P N c σ fun e σ'=>match e with|.goto _=>False|e=>Q e σ'
  |c,σ,Q=>AWP P c σ Q
def lQ(p:Code→Bool):Code→Bool
  |.seq x y=>lQ p x&&lQ p y
  |.block _ c|.scope c=>lQ p c
  |.rangeFunc ..=>true
  |c=>p c
section
variable {P:Program} [M:Mch P] {W:World} {A0:Nat→Prop} {N:Nat}
theorem aQf(hm:P.follows .mixedOrders=true)(hA0:∀ b,A0 b→b<W.heap.size):∀(c:Code) (Q:Exit→St→Prop) (σ:St) (a:Act) (w:World),lQ (bT N) c=true→lQ (bV P) c=true→mV P N c σ Q→FRx W A0 N σ a w →
    WC P c (fun e a' w'=>∃ σ',Q e σ'∧FRx W A0 N σ' a' w') a w:=by
  intro c
  induction c with
  | seq x y ihx ihy =>
    intro Q σ a w hd hl h hs
    simp only[lQ,A1]at hd hl
    refine eF (cD (ihx _ σ a w hd.1 hl.1 h hs) ?_)
    rintro e a' w' ⟨σ',hq,hs'⟩
    cases e with
    |normal=>exact ihy Q σ' a' w' hd.2 hl.2 hq hs'
    |_=>exact⟨σ',hq,hs'⟩
  | block id c ih =>
    intro Q σ a w hd hl h hs
    refine yJ (cD (ih _ σ a w hd hl h hs) ?_)
    rintro e a' w' ⟨σ',hq,hs'⟩
    cases e with
    | exit id' =>
      simp only[DC]at hq ⊢
      split at hq
      · rename_i he;rw[Ar he];exact⟨σ',hq,hs'⟩
      · rename_i he;rw[Aj he];exact⟨σ',hq,hs'⟩
    |_=>exact⟨σ',hq,hs'⟩
  | rangeFunc g ps assign body _ _ =>
    intro Q σ a w _ _ h hs
    obtain⟨gf,cs,caps,xs,T,wl,E,jc,hE,hg,hf,hseq,hr,h0,hq⟩:=h
    refine cD (bEm hm hE hg hf hseq hr h0 hs) ?_
    rintro e a' w' ⟨rfl,hs'⟩
    exact⟨_,hq,hs'⟩
  |skip=>intro Q σ a w hd hl h hs;exact nM hm hd hl h hs
  |region id ops draw=>intro Q σ a w hd hl h hs;exact nM hm hd hl h hs
  |cond c x y _ _=>intro Q σ a w hd hl h hs;exact nM hm hd hl h hs
  |loop c _=>intro Q σ a w hd hl h hs;exact nM hm hd hl h hs
  |exit id=>intro Q σ a w hd hl h hs;exact nM hm hd hl h hs
  |ret=>intro Q σ a w hd hl h hs;exact nM hm hd hl h hs
  |label l=>intro Q σ a w hd hl h hs;exact nM hm hd hl h hs
  | scope c ih =>
    intro Q σ a w hd hl h hs
    refine aHq (cD (ih _ σ a w hd hl h hs) ?_)
    rintro e a' w' ⟨σ',hq,hs'⟩
    cases e with
    |goto l=>exact hq.elim
    |_=>exact⟨σ',hq,hs'⟩
  |_=>intro Q σ a w hd hl h;exact h.elim
def LV(P:Program)[M:Mch P](f:FuncId)(R:Value→World→Prop)(a:Act)(v:World):Prop :=
  ∀(Win:Goroutine→World→Prop),M.Fam Win→OkV v→∀(b:Frame) (todo:List Item) (c0:Frame) (cs:List Frame),b.kind=.normal→b.fn=f→(∀ x v',OkV v'→R x v'→Win (G (c0.finish x) cs) v')→Win (G { b.at a todo with mode:=.returning } (c0::cs)) v
theorem wL{f:FuncId}{fn:Func}{c:Code}{args:Array Value}{R:Value→World→Prop}{v:World}(hf:P.funcs[f]? = some fn)(hb:fn.body=some c)
    (h:WC P c (fun e a v=>(e=.normal∨e=.ret)∧LV P f R a v) { tmps:=args++AX (fn.ntmps-args.size) undef,defers:=[] } v):CX P f args v R:=by
  intro Win hW hv c0 cs hk
  rw[enter_at args hf hb]
  refine h Win hW hv (base f) [] (c0::cs) (.inl rfl) fun e a' v' hv' hq=>?_
  obtain⟨he,hl⟩:=hq
  rcases he with rfl|rfl
  · exact aQ hW rfl hv' (fun w=>stepG_end) (hl Win hW hv' (base f) [] c0 cs rfl rfl hk)
  · exact fun todo=>hl Win hW hv' (base f) todo c0 cs rfl rfl hk
theorem wF{f:FuncId}{fn:Func}{R:Value→World→Prop}{a:Act}{v:World}(hf:P.funcs[f]? = some fn)(hd:a.defers=[])(hr:∀ v1,Env v v1→∃ x,aO P (results fn a.tmps) v1=.ok x v1∧R x v1):LV P f R a v:=by
  intro Win hW hv b todo c0 cs hb hfn hk
  refine(M.closed hW).step rfl hv fun v1 w he hsim=>?_
  obtain⟨x,hx,hR⟩:=hr v1 he
  obtain⟨w',es',h1,h2,h3,h4,h5,h6⟩:=fE _ v1 w #[] x v1 (he.okV hv) hsim hx
  exact⟨_,v1,w',_,rO hb hd (by rw[hfn];exact hf) h1,⟨h2,h3,h4,h5,fun e he'=>h6 e (by have:=mem_seen he';simpa using this)⟩,hk x v1 h3 hR⟩
theorem aOk{f:FuncId}{R:Value→World→Prop}{a:Act}{v:World}{D:Nat}{ds:List Deferred}(hd:a.defers={ target:=.collected D,args:=#[] }::ds)
    (h:∀ v1,Env v v1→∃ v2,aO P (E2 D) v1=.ok [] v2∧LV P f R { a with defers:=ds } v2):LV P f R a v:=by
  intro Win hW hv b todo c0 cs hb hfn hk
  refine aYo hW hv hd fun v1 he=>?_
  obtain⟨v2,h1,h2⟩:=h v1 he
  exact⟨v2,h1,fun hok2=>h2 Win hW hok2 b todo c0 cs hb hfn hk⟩
theorem tQ{f:FuncId}{fn:Func}{σ:St}{r:D}(hf:P.funcs[f]? = some fn)(hr:iX P fn.results.toList σ=some r):∀(Ds:List Nat) (a:Act) (w:World),a.defers=oK Ds→(∃ F Ms,SRB F Ms N (oK Ds) σ a w∧(∀ b,Ms b→W.heap.size≤b)∧(∀ b,F b→A0 b∨W.heap.size≤b)∧Kept bD W.heap.size W w ∧
    (∀ D∈Ds,W.heap.size≤D∧w.heap[D]? = some (.deferred (some []))∧¬Ms D∧¬F D))→Ds.Nodup→LV P f (fun v W'=>Below W.heap.size W W'∧VD (fun b=>A0 b∨(W.heap.size≤b∧b<W'.heap.size)) W' r v) a w
  | [],a,w,had,⟨F,Ms,hs0,hM,hF,hK0,_⟩,_=>by
    intro Win hW hokw
    refine wF hf had (fun w1 he=>?_) Win hW hokw
    have hs:=hs0.env he
    have hK:=hK0.env hK0.size he
    obtain⟨v,h1,h2⟩:=dZ (hs.sr (he.okV hokw) noZ fun _ _ e=>by cases e) hr
    have hFlt:∀ b,F b→b<w1.heap.size:=by obtain⟨_,_,q,_⟩:=hs;exact q
    have hMlt:∀ b,Ms b→b<w1.heap.size:=by obtain⟨_,_,_,_,q,_⟩:=hs;exact fun b h=>(q b h).1
    refine⟨v,h1,⟨hK.os,hK.tape,hK.output,hK.size,fun k hk=>hK.block k hk fun h=>h⟩,h2.mono ?_⟩
    rintro b (h|h|h)
    · exact(hF b h).imp_right fun q=>⟨q,hFlt b h⟩
    · exact .inr ⟨hM b h,hMlt b h⟩
    · simp only at h;omega
  | D::Ds,a,w0,had,⟨F,Ms,hs0,hM,hF,hK0,hD0⟩,hnd=>by
    refine aOk (ds:=oK Ds) (by rw[had];rfl) fun w he=>?_
    have hs:=hs0.env he
    have hK:=hK0.env hK0.size he
    have hD:∀ D'∈D::Ds,W.heap.size≤D'∧w.heap[D']? = some (.deferred (some []))∧¬Ms D'∧¬F D':=fun D' hD'=>by
      obtain⟨e1,e2,e3,e4⟩:=hD0 D' hD'
      exact⟨e1,(he.get (dM e2)).trans e2,e3,e4⟩
    obtain⟨d1,d2,d3,d4⟩:=hD D (AH ..)
    have hlt:=dM d2
    obtain⟨w',hw'⟩:∃ w',w.putObj D (.deferred none)=w':=⟨_,rfl⟩
    have hoth:∀ b,b≠D→w'.heap[b]? = w.heap[b]? := fun b hb=>by rw[←hw'];exact Eh hb
    have hsz:w'.heap.size=w.heap.size:=by rw[←hw'];simp
    refine⟨w',by rw[←hw'];exact uV d2,tQ hf hr Ds _ w' rfl ⟨F,Ms,(hs.world (by omega) fun b hb=>hoth b ?_).defers (oK Ds),hM,hF,?_,fun D' hD'=>?_⟩ (Dv.1 hnd).2⟩
    · rintro rfl;exact hb.elim d4 d3
    · exact hK.trans ⟨by rw[←hw'];rfl,by rw[←hw'];rfl,by rw[←hw'];rfl,by omega,fun k hk _=>hoth k (by omega),fun k cur e hk hc=>⟨cur,(hoth k (by omega)).trans hc,rfl⟩⟩
    · obtain⟨e1,e2,e3,e4⟩:=hD D' (AD _ hD')
      exact⟨e1,(hoth D' fun e=>by subst e;exact(Dv.1 hnd).1 hD').trans e2,e3,e4⟩
theorem oU {f:Nat} {fn:Func} {c:Code} {args:List D} {r:D} (hm:P.follows .mixedOrders=true) (hf:P.funcs[f]? = some fn) (hb:fn.body=some c) (hname:(fn.name == "runtime.NumGoroutine")=false) (hN:fn.ntmps=N)
    (hd:lQ (bT N) c=true) (hl':lQ (bV P) c=true) (ha:args.length≤N) (h:mV P N c (St0 args N) fun e σ=>(e=.normal∨e=.ret)∧iX P fn.results.toList σ=some r):Spec P f args r:=by
  intro A W vs hA hl hv
  have hn:¬ fn.name = "runtime.NumGoroutine" := by simpa using hname
  refine⟨fun w=>by simp[callFunc,hf,hn,hb],?_⟩
  refine wL hf hb ?_
  subst hN
  refine(WpR.plain P).okv fun hok=>?_
  obtain⟨F,Ms,h1,hM,hF,hK,_⟩:=(SR0 hok hA hl hv ha).srb
  simp only at hM hF hK
  refine cD (aQf (W:=W) (A0:=A) hm hA c _ _ _ _ hd hl' h ⟨[],F,Ms,h1,fun b hb=>?_,fun b hb=>?_,hK,(fun D hD=>by cases hD),List.nodup_nil⟩) ?_
  · exact(hM b hb).elim (fun h=>h.elim) fun h=>h
  · rcases hF b hb with h|h|h
    · exact .inl h
    · exact h.elim
    · exact .inr h
  · rintro e a w ⟨σ,⟨he,hr⟩,Ds,F,Ms,hs,hM,hF,hK,hD,hnd⟩
    have hdd:a.defers=oK Ds:=by obtain⟨_,_,_,_,_,_,_,_,_,_,q⟩:=hs;exact q
    exact⟨he,tQ (W:=W) (A0:=A) (N:=fn.ntmps) hf hr Ds a w hdd ⟨F,Ms,hs,hM,hF,hK,hD⟩ hnd⟩
end
end Go.Am
end
section
open List renaming map_map→ζ,mapM_map→ξ
namespace Go.Am
open Go.Conc (G stepG_region stepG_region_end)
open RowKit (Below)
section
variable {P:Program} {F M:Nat→Prop} {N:Nat} {ds:List Deferred} {σ:St} {a:Act} {w:World}
theorem SRB.args(h:SRB F M N ds σ a w){args:List Operand}{dd:List D}(hf:cO σ.H (args.map (oev σ.Γ))=some dd) :
    ∃ A M',dd.length=args.length∧(∀(k:Nat) d v,dd[k]? = some d→(args.map a.eval)[k]? = some v→VD A w d v)∧SRB A M' N ds (lA σ (cC σ.H (args.map (oev σ.Γ)))) a w∧(∀ b,A b→F b∨M b)∧(∀ b,M' b→M b):=by
  obtain⟨h1,ι,hF,hM,hMF,ho,hi,hd,hV,hN,hds⟩:=h
  have hR:HR ⟨w,F,M,aCf,noZ⟩ F w ι bD σ.H:=by
    refine⟨.refl _ _ _,hF,fun b h=>.inl h,fun id b e=>⟨.inl (hM id b e),(hMF b (hM id b e)).1,fun _=>(hMF b (hM id b e)).2⟩,ho,fun id id' b e e' _ _=>hi id id' b e e',fun id id' b o o' e e' _ q q'=>?_⟩
    have:=hi id id' b e e'
    subst this
    rw[q]at q';injection q' with q';subst q'
    exact AE _
  obtain⟨q1,q2,q3⟩:=lO (vs:=args.map a.eval) hR (fun _ _ h=>h) hf (by simp) fun k c u hc hu=>by
    rw[Ai]at hc hu
    cases hx:args[k]? with
    |none=>rw[hx]at hc;cases hc
    | some x =>
      rw[hx]at hc hu
      injection hc with hc;injection hu with hu
      subst hc;subst hu
      exact cI fun t _=>hV t
  obtain⟨l,hl⟩:∃ l,cC σ.H (args.map (oev σ.Γ))=l:=⟨_,rfl⟩
  rw[hl]at q2 ⊢
  have hAM:∀ b,reach F ι l b→F b∨M b:=by
    rintro b (hb|⟨id,_,e⟩)
    · exact .inl hb
    · exact .inr (hM id b e)
  have hAlt:∀ b,reach F ι l b→b<w.heap.size:=fun b hb=>(hAM b hb).elim (hF b) fun h=>(hMF b h).1
  have hs:Step F w ι (reach F ι l) w ι:=⟨fun b h=>.inl h,fun b h=>rfl,fun _ _ h=>h,fun id b cur e hi h=>⟨cur,h,rfl⟩⟩
  refine⟨reach F ι l,fun b=>M b∧¬reach F ι l b,by simpa using q1,q2,?_,hAM,fun b h=>h.1⟩
  have hmask:∀ id b,mask ι l id=some b→M b∧¬reach F ι l b:=fun id b e=>by
    obtain⟨m1,m2⟩:=cQ e
    refine⟨hM id b m1,?_⟩
    rintro(hb|⟨id',hid',e'⟩)
    · exact(hMF b (hM id b m1)).2 hb
    · exact m2 (hi id id' b m1 e' ▸ hid')
  have hkill:∀ id,kill l σ.H id=if id∈l then none else σ.H id:=fun id=>by
    by_cases hid:id∈l
    · rw[Ar hid,kR hid]
    · rw[Aj hid,mM hid]
  unfold lA
  cases hl:l with
  | nil =>
    have hmk:mask ι l=ι:=by funext id;simp[mask,hl]
    rw[←hl]
    have hfin:fin ⟨σ.Γ,kill l σ.H,σ.n⟩ l=σ:=by rw[hl];rfl
    rw[hfin]
    refine⟨h1,ι,hAlt,fun id b e=>hmask id b (by rw[hmk];exact e),fun b h=>⟨(hMF b h.1).1,h.2⟩,fun id b o e e'=>?_,hi,hd,fun t=>(hV t).step hs,hN,hds⟩
    obtain⟨ob,p1,p2⟩:=ho id b o e e'
    exact⟨ob,p1,p2.step hs⟩
  | cons x xs =>
    rw[←hl]
    have hfin:fin ⟨σ.Γ,kill l σ.H,σ.n⟩ l=⟨fun t=>jB l (σ.Γ t),fun id=>(kill l σ.H id).map (gT l),σ.n⟩:=by rw[hl];rfl
    rw[hfin]
    refine⟨fun id h=>by simp only;rw[hkill,h1 id h];simp,mask ι l,hAlt,hmask,fun b h=>⟨(hMF b h.1).1,h.2⟩,fun id b o e e'=>?_,fun id id' b e e'=>hi id id' b (cQ e).1 (cQ e').1,fun id=>?_,fun t=>aHf ((hV t).step hs),hN,hds⟩
    · obtain⟨m1,m2⟩:=cQ e
      simp only[hkill,Aj m2]at e'
      obtain⟨o1,ho1,rfl⟩:=Ae.1 e'
      obtain⟨ob,p1,p2⟩:=ho id b o1 m1 ho1
      exact⟨ob,p1,aBo (p2.step hs)⟩
    · constructor
      · rintro⟨b,e⟩
        obtain⟨m1,m2⟩:=cQ e
        simp only[hkill,Aj m2,ED]
        exact(hd id).1 ⟨b,m1⟩
      · intro e
        by_cases hid:id∈l
        · simp[hkill,hid]at e
        · simp only[hkill,Aj hid,ED]at e
          obtain⟨b,hb⟩:=(hd id).2 e
          exact⟨b,by unfold mask;rw[Aj hid];exact hb⟩
end
def isY(o:Oper):Bool:=match o.op with|.call { callee:=.value (.tmp _),args:=_,argTypes:=_ }=>o.guard.isNone|_=>false
def yR:List Oper→Option (List Oper×Oper×List Oper)
  |[]=>none
  |o::l=>if isY o then some ([],o,l)else(yR l).map fun p=>(o::p.1,p.2.1,p.2.2)
def zU:Code→Bool
  |.region _ ops _=>(yR ops.toList).isSome
  |.seq x y|.cond _ x y=>zU x||zU y
  |.block _ c|.loop c|.scope c=>zU c
  |_=>false
def YO(l:Nat)(xs:List (List D))(y:Oper)(k:Nat)(σ:St)(K:St→Prop):Prop :=
  match y.op with
  | .call { callee:=.value (.tmp t),args:=args,argTypes:=_ }=>σ.Γ t=.d (.lit (.func (.yield l) #[] #[]))∧∃ dd,cO σ.H (args.toList.map (oev σ.Γ))=some dd∧xs[k]? = some dd ∧
      K ⟨bM (lA σ (cC σ.H (args.toList.map (oev σ.Γ)))).Γ y.dst (.d (.b (decide (k+1≠xs.length)))),(lA σ (cC σ.H (args.toList.map (oev σ.Γ)))).H,(lA σ (cC σ.H (args.toList.map (oev σ.Γ)))).n⟩
  |_=>False
def YR(P:Program)[Mc:Mch P](l:Nat)(xs:List (List D))(ops:Array Oper)(k:Nat)(σ:St)(K:Nat→St→Prop):Prop :=
  match yR ops.toList with
  |some (pre,y,post)=>OW P ops pre σ [] fun σ1 con1=>YO l xs y k (fin σ1 con1) fun σ2=>OW P ops post σ2 [] fun σ3 con3=>K (k+1) (fin σ3 con3)
  |none=>False
def gZ(P:Program)[Mc:Mch P](l:Nat)(xs:List (List D)):Code→Nat→St→(Exit→Nat→St→Prop)→Prop
  |.region id ops draw,k,σ,Q=>if(yR ops.toList).isSome then draw=false∧fP ops.toList=true∧YR P l xs ops k σ (Q .normal)else AWP P (.region id ops draw) σ fun e σ'=>Q e k σ'
  |.seq x y,k,σ,Q=>gZ P l xs x k σ fun e k' σ'=>match e with|.normal=>gZ P l xs y k' σ' Q|e=>Q e k' σ'
  |.cond c x y,k,σ,Q=>match oev σ.Γ c with|.d (.b t)=>if t then gZ P l xs x k σ Q else gZ P l xs y k σ Q|.ub=>gZ P l xs x k σ Q∧gZ P l xs y k σ Q|_=>False
  |.block id c,k,σ,Q=>gZ P l xs c k σ fun e k' σ'=>match e with|.exit id'=>if id'=id then Q .normal k' σ' else Q (.exit id') k' σ'|e=>Q e k' σ'
  | .loop c,k,σ,Q=>if zU c then ∃(τ:Type) (S:τ→St) (κ m:τ→Nat) (x0:τ),κ x0=k∧(∃ ρ,Wk σ (S x0) ρ)∧∀ x,gZ P l xs c (κ x) (S x) fun e k' σ'=>match e with|.normal=>∃ y,m y<m x∧κ y=k'∧∃ ρ,Wk σ' (S y) ρ|e=>Q e k' σ'
      else AWP P (.loop c) σ fun e σ'=>Q e k σ'
  |c,k,σ,Q=>AWP P c σ fun e σ'=>Q e k σ'
theorem bRv{P:Program}[Mc:Mch P]{c:Code}{Q:Exit→Act→World→Prop}{a:Act}{v:World}(h:WC P c (fun e a v=>OkV v→Q e a v) a v):WC P c Q a v :=
  fun Win hW hv b k cs hb hk=>h Win hW hv b k cs hb fun e a' v' hv' hq=>hk e a' v' hv' (hq hv')
section
variable {P:Program} [Mc:Mch P] {A:Nat→Prop} {W:World} {N l:Nat} {xs:List (List D)}
structure JOk(P:Program)[Mc:Mch P](l:Nat)(A:Nat→Prop)(xs:List (List D))(J:Nat→(Nat→Prop)→(Nat→Prop)→World→Prop):Prop where
  stab:∀ k X O W1 X' O' W2,J k X O W1→Kept O W1.heap.size W1 W2→(∀ b,X b→X' b)→(∀ b,X' b→X b∨(W1.heap.size≤b∧b<W2.heap.size))→(∀ b,O' b→X' b∧(O b∨W1.heap.size≤b))→J k X' O' W2
  round:∀ k X O W1 ds (vals:Array Value),xs[k]? = some ds→J k X O W1→ds.length=vals.size→(∀(i:Nat) d v,ds[i]? = some d→vals[i]? = some v→VD (fun b=>A b∨(X b∧¬O b)) W1 d v) →
    YX P l vals W1 fun x W2=>x=.bool (decide (k+1≠xs.length))∧J (k+1) X O W2∧W1.heap.size≤W2.heap.size∧W2.os=W1.os∧W2.tape=W1.tape∧W2.output=W1.output∧∀ b,A b∨X b→W2.heap[b]? = W1.heap[b]?
variable {J:Nat→(Nat→Prop)→(Nat→Prop)→World→Prop}
def RY(A:Nat→Prop)(N:Nat)(J:Nat→(Nat→Prop)→(Nat→Prop)→World→Prop)(k:Nat)(σ:St)(a:Act)(w:World):Prop :=
  ∃ X F M,J k X M w∧SRB F M N [] σ a w∧(∀ b,M b→X b)∧(∀ b,F b→A b∨(X b∧¬M b))∧(∀ b,X b→b<w.heap.size)
theorem RY.step(hJ:JOk P l A xs J){k:Nat}{X F M:Nat→Prop}{w:World}(hj:J k X M w)(hMX:∀ b,M b→X b)(hFA:∀ b,F b→A b∨(X b∧¬M b)){σ':St}{a':Act}{w':World}
    (h:SR ⟨w,F,M,aCf,noZ⟩ N [] σ' a' w') (hX:∀ b,X b→b<w.heap.size):RY A N J k σ' a' w':=by
  obtain⟨F',M',h',hM',hF',hK,_⟩:=h.srb
  simp only at hM' hF' hK
  have hsz:=hK.size
  have hM'lt:∀ b,M' b→b<w'.heap.size∧¬F' b:=by obtain⟨_,_,_,_,q,_⟩:=h';exact q
  have hF'lt:∀ b,F' b→b<w'.heap.size:=by obtain⟨_,_,q,_⟩:=h';exact q
  have hM'X:∀ b,M' b→X b∨(w.heap.size≤b∧b<w'.heap.size):=fun b hb=>(hM' b hb).imp (hMX b) fun h=>⟨h,(hM'lt b hb).1⟩
  refine⟨fun b=>X b∨(w.heap.size≤b∧b<w'.heap.size),F',M',hJ.stab k X M w _ M' w' hj hK (fun b h=>.inl h) (fun b h=>h) (fun b hb=>⟨hM'X b hb,hM' b hb⟩),h',hM'X,fun b hb=>?_,fun b hb=>?_⟩
  · have hnM:¬M' b:=fun h=>(hM'lt b h).2 hb
    rcases hF' b hb with h|h|h
    · exact(hFA b h).imp_right fun q=>⟨.inl q.1,hnM⟩
    · exact .inr ⟨.inl (hMX b h),hnM⟩
    · exact .inr ⟨.inr ⟨h,hF'lt b hb⟩,hnM⟩
  · rcases hb with h|h
    · have:=hX b h;omega
    · exact h.2
theorem RY.sr{k:Nat}{σ:St}{a:Act}{w:World}(h:RY A N J k σ a w)(hok:OkV w):∃ X F M,J k X M w∧(∀ b,M b→X b)∧(∀ b,F b→A b∨(X b∧¬M b))∧(∀ b,X b→b<w.heap.size)∧SR ⟨w,F,M,aCf,noZ⟩ N [] σ a w:=by
  obtain⟨X,F,M,h1,h2,h3,h4,h5⟩:=h
  exact⟨X,F,M,h1,h3,h4,h5,h2.sr hok noZ fun _ _ e=>by cases e⟩
theorem RY.weak(hJ:JOk P l A xs J){k:Nat}{σ σ':St}{ρ:Nat→Nat}{a:Act}{w:World}(hk:Wk σ σ' ρ)(h:RY A N J k σ a w)(hok:OkV w):RY A N J k σ' a w:=by
  obtain⟨X,F,M,h1,h3,h4,h5,hs⟩:=h.sr hok
  exact RY.step hJ h1 h3 h4 (uL hk hs) h5
theorem bKi(hm:P.follows .mixedOrders=true)(hJ:JOk P l A xs J){c:Code}{k:Nat}{σ:St}{a:Act}{w:World}{Q:Exit→St→Prop}(hd:bT N c=true)(hl:bV P c=true)(h:AWP P c σ Q)(hs:RY A N J k σ a w) :
    WC P c (fun e a' w'=>∃ σ',Q e σ'∧RY A N J k σ' a' w') a w:=by
  refine(WpR.plain P).okv fun hok=>?_
  obtain⟨X,F,M,h1,h3,h4,h5,hsr⟩:=hs.sr hok
  refine cD (cJ hm (fun _=>rfl) c Q σ a w hd hl h hsr) ?_
  rintro e a' w' ⟨σ',hq,hs'⟩
  exact⟨σ',hq,RY.step hJ h1 h3 h4 hs' h5⟩
theorem RY.env(hJ:JOk P l A xs J){k:Nat}{σ:St}{a:Act}{w v1:World}(h:RY A N J k σ a w)(he:Env w v1):RY A N J k σ a v1:=by
  obtain⟨X,F,M,h1,h2,h3,h4,h5⟩:=h
  exact⟨X,F,M,hJ.stab k X M w X M v1 h1 (he.kept M) (fun _ h=>h) (fun _ h=>.inl h) (fun b hb=>⟨h3 b hb,.inl hb⟩),h2.env he,h3,h4,fun b hb=>A3 (h5 b hb) he.size⟩
def WL(P:Program)[Mc:Mch P](ops:Array Oper)(l:List Nat)(K:Act→World→Prop)(a:Act)(v:World):Prop :=
  ∀(Win:Goroutine→World→Prop),Mc.Fam Win→OkV v→∀(b:Frame) (k:List Item) (cs:List Frame),mG b→(∀ a' v',OkV v'→K a' v'→Win (G (b.at a' k) cs) v')→Win (G (b.at a (.inRegion ops l::k)) cs) v
theorem bRo{ops:Array Oper}{K:Act→World→Prop}{a:Act}{v:World}(h:K a v):WL P ops [] K a v :=
  fun Win hW hv b k cs hb hk=>aQ hW rfl hv (fun w=>stepG_region_end) (hk a v hv h)
theorem bVy{ops:Array Oper}{i:Nat}{rest:List Nat}{o:Oper}{K:Act→World→Prop}{a:Act}{v:World}(ho:ops[i]? = some o)
    (h:if Bs o (yielded ops a.tmps)then ∀ v1,Env v v1→wpX P o a v1 (WL P ops rest K)else WL P ops rest K (a.put o.dst undef) v):WL P ops (i::rest) K a v:=by
  intro Win hW hv b k cs hb hk
  split at h
  · rename_i hw
    exact aEr hW hb ho hw hv h fun a' v' hv' h'=>h' Win hW hv' b k cs hb hk
  · rename_i hw
    exact sQ hW ho hw hv (h Win hW hv b k cs hb hk)
theorem aYm{ops:Array Oper}{i:Nat}{rest:List Nat}{o:Oper}{K:Act→World→Prop}{a:Act}{v:World}(ho:ops[i]? = some o)(hw:Bs o (yielded ops a.tmps)=true)
    (h:OkV v→∀ v1,Env v v1→∃ l f tmps assign body,∃ R:Value→World→Prop,aO P (execOp a.eval o) v1=.ok (.round l f tmps assign body) v1 ∧
      (∀(Win:Goroutine→World→Prop),Mc.Fam Win→OkV v1→∀(c:Frame) (cs:List Frame),(∀ x v',OkV v'→R x v'→Win (G (c.finish x) cs) v')→Win (G (E5 l f tmps assign body .normal) (c::cs)) v1) ∧
      ∀ x v2,OkV v2→R x v2→WL P ops rest K (a.put o.dst x) v2):WL P ops (i::rest) K a v:=by
  intro Win hW hv b k cs hb hk
  by_cases hall:∃ l f tmps assign body,∀ v1,Env v v1→aO P (execOp a.eval o) v1=.ok (.round l f tmps assign body) v1
  · obtain⟨l,f,tmps,assign,body,hall⟩:=hall
    refine aTc hW hb ho hw hv fun v1 he=>⟨hall v1 he,?_⟩
    obtain⟨l',f',tmps',assign',body',R,h1,h2,h3⟩:=h hv v1 he
    rw[hall v1 he]at h1
    injection h1 with h1 _;injection h1 with e1 e2 e3 e4 e5;subst e1;subst e2;subst e3;subst e4;subst e5
    refine h2 Win hW (he.okV hv) _ cs fun x v' hv' hR=>?_
    rw[DU,ho]
    exact h3 x v' hv' hR Win hW hv' b k cs hb hk
  · exact aMk hW hb ho hw hv fun v1 he=>by
      obtain⟨l',f',tmps',assign',body',R,h1,h2,h3⟩:=h hv v1 he
      refine⟨l',f',tmps',assign',body',h1,?_⟩
      refine h2 Win hW (he.okV hv) _ cs fun x v' hv' hR=>?_
      rw[DU,ho]
      exact h3 x v' hv' hR Win hW hv' b k cs hb hk
theorem aYs{id:Nat}{ops:Array Oper}{Q:Exit→Act→World→Prop}{a:Act}{v:World}(h:WL P ops (De 0 ops.toList.length) (Q .normal) a v):WC P (.region id ops false) Q a v:=by
  intro Win hW hv b k cs hb hk
  refine aQ hW rfl hv (fun w=>stepG_region) ?_
  have:=h Win hW hv b k cs hb fun a' v' hv' hq=>hk .normal a' v' hv' hq
  rwa [EE,←BE]
theorem aVt{G:Ctx}{ops:Array Oper}{ds:List Deferred}{Q:AS→Prop}{K K':Act→World→Prop}(hQ:∀ s a w,Q s→mF G N ds s a w→K a w)(rest:List Nat)(hk:∀ a w,K a w→WL P ops rest K' a w) :
    ∀(l:List Oper) (n:Nat),(∀(j:Nat) o,l[j]? = some o→ops[n+j]? = some o)→(∀ o∈l,∀ d,o.dst=some d→d<N∧G.Z d=none)→∀(s:AS) (a:Act) (w:World),mF G N ds s a w→xF P G ops Q l s→WL P ops (De n l.length++rest) K' a w:=by
  intro l
  induction l with
  |nil=>intro n _ _ s a w hr h;exact hk _ _ (hQ s a w h hr)
  | cons o l ih =>
    intro n hn hl s a w hr h
    obtain⟨s',hd,h⟩:=h
    have:=nO (K:=WL P ops (De (n+1) l.length++rest) K') hd (hl o (AH ..)) hr fun a' w' hr'=>ih (n+1) (fun j o hj=>by have:=hn (j+1) o (by simpa using hj);rw[←this];congr 1;omega) (fun o ho=>hl o (AD _ ho)) s' a' w' hr' h
    rw[Ah,DK,List.cons_append]
    exact bVy (by simpa using hn 0 o rfl) this
theorem aDc{G:Ctx}{ops:Array Oper}{ds:List Deferred}{Q:St→Prop}{K':Act→World→Prop}{os:List Oper}{rest:List Nat}{n:Nat}{σ:St}{a:Act}{w:World}
    (hno:fP os=true) (hn:∀(j:Nat) o,os[j]? = some o→ops[n+j]? = some o)
    (hdst:∀ o∈os,∀ d,o.dst=some d→d<N∧G.Z d=none) (hsr:SR G N ds σ a w) (h:OW P ops os σ [] fun σ' con=>Q (fin σ' con)) (hQ:∀ σ a w,Q σ→SR G N ds σ a w→WL P ops rest K' a w) :
    WL P ops (De n os.length++rest) K' a w:=by
  obtain⟨hn0,hwf,hag⟩:=pW hsr
  obtain⟨fb,hfb⟩:=pX (G:=G) os σ [] hno hn0 hwf h
  obtain⟨h1,h2⟩:=hag (fun i=>if i<σ.n then σ.H i else fb i) (fun i o hi=>by
    rcases AY i σ.n with hlt|hge
    · rw[Ar hlt];exact hi
    · rw[hwf.top i hge]at hi;cases hi)
  have h3:=hfb _ h1 (fun i hi=>by simp only;rw[Aj (by omega)])
  refine aVt (K:=fun a w=>∃ σ,Q σ∧SR G N ds σ a w) (Q:=fun s'=>∃ σ' con',Q (fin σ' con')∧(σ'.n=0→∀ b,G.P0 b)∧Wf σ' con'∧dL σ' con' s') ?_ rest ?_ os n hn hdst _ a w h2 h3
  · rintro s a w ⟨σ',con',hq,hn',hwf',hag'⟩ hr
    exact⟨_,hq,aBi hn' hwf' hag' hr⟩
  · rintro a w ⟨σ,hq,hs⟩;exact hQ σ a w hq hs
theorem aIf:∀(os:List Oper) {pre post:List Oper} {y:Oper},yR os=some (pre,y,post)→os=pre++y::post∧isY y=true
  |[],_,_,_,h=>by cases h
  | o::os,pre,post,y,h=>by
    unfold yR at h
    split at h
    · rename_i ho;injection h with h;injection h with h1 h;injection h with h2 h3;subst h1;subst h2;subst h3;exact⟨rfl,ho⟩
    · obtain⟨⟨p1,p2,p3⟩,hp,h⟩:=Ae.1 h
      injection h with h1 h;injection h with h2 h3;subst h1;subst h2;subst h3
      obtain⟨e1,e2⟩:=aIf os hp
      exact⟨by rw[e1];rfl,e2⟩
theorem bAs(hJ:JOk P l A xs J){id k:Nat}{ops:Array Oper}{σ:St}{a:Act}{w:World}{Q:Nat→St→Prop}(hno:fP ops.toList=true)(hd:aFr N ops=true)(h:YR P l xs ops k σ Q)(hs:RY A N J k σ a w) :
    WC P (.region id ops false) (fun e a' w'=>e=.normal∧∃ k' σ',Q k' σ'∧RY A N J k' σ' a' w') a w:=by
  refine(WpR.plain P).okv fun hok=>aYs ?_
  unfold YR at h
  split at h
  case h_2=>exact h.elim
  rename_i pre y post hsp
  obtain⟨heq,hy⟩:=aIf _ hsp
  have hdst:∀ o∈ops.toList,∀ d,o.dst=some d→d<N∧(noZ:Nat→Option Value) d=none:=fun o ho d hdd=>by
    have:=Array.all_eq_true_iff_forall_mem.1 hd o (by simpa using ho)
    rw[hdd]at this
    exact⟨by simpa using this,rfl⟩
  have hat:∀(j:Nat) o,ops.toList[j]? = some o→ops[j]? = some o:=fun j o h=>by simpa using h
  rw[heq]at hdst hat hno ⊢
  have hno1:fP pre=true:=by simp only[fP,List.all_append,A1]at hno ⊢;exact hno.1
  have hno2:fP post=true:=by simp only[fP,List.all_append,List.all_cons,A1]at hno ⊢;exact hno.2.2
  obtain⟨X,F,M,hj,hMX,hFA,hXlt,hsr⟩:=hs.sr hok
  rw[show De 0 (pre++y::post).length=De 0 pre.length++(pre.length::De (pre.length+1) post.length)by
    rw[A9,Ah,←List.range'_append_1,AB,DK]]
  refine aDc (G:=⟨w,F,M,aCf,noZ⟩) (n:=0) hno1 (fun j o hj=>by rw[AB];exact hat j o (by rw[AR (Aq.1 hj).1];exact hj)) (fun o ho=>hdst o (List.mem_append_left _ ho)) hsr (Q:=fun σ1=>YO l xs y k σ1 fun σ2=>OW P ops post σ2 [] fun σ3 con3=>Q (k+1) (fin σ3 con3)) h ?_
  intro σ1 a1 w0 hY hs1
  have hry0:=RY.step hJ hj hMX hFA hs1 hXlt
  unfold YO at hY
  split at hY
  case h_2=>exact hY.elim
  rename_i t args ts hop
  obtain⟨hΓ,dd,hfr,hx,hK⟩:=hY
  have hguard:y.guard=none:=by
    unfold isY at hy
    rw[hop]at hy
    simpa using hy
  have hwant:Bs y (yielded ops a1.tmps)=true:=by simp[Bs,hguard]
  refine aYm (hat pre.length y (by simp)) hwant fun hokw0 w1 he1=>?_
  have hokw1:=he1.okV hokw0
  obtain⟨X1,F1,M1,hj1,hs1',hMX1,hFA1,hX1⟩:=hry0.env hJ he1
  have hev:a1.eval (.tmp t)=.func (.yield l) #[] #[]:=by
    obtain⟨_,ι,_,_,_,_,_,_,hV,_⟩:=hs1'
    have:=hV t
    rw[hΓ]at this
    show a1.tmps.getD t undef=_
    generalize a1.tmps.getD t undef=v at this
    cases this with|d _ _ h=>cases h;rfl
  obtain⟨A2,M2,hlen,hVD,hs2,hA2,hM2⟩:=hs1'.args hfr
  have hs2lt:∀ b,M2 b→b<w1.heap.size∧¬A2 b:=by obtain⟨_,_,_,_,q,_⟩:=hs2;exact q
  have hj2:J k X1 M2 w1:=hJ.stab k X1 M1 w1 X1 M2 w1 hj1 (.refl _ _ _) (fun _ h=>h) (fun _ h=>.inl h) fun b hb=>⟨hMX1 b (hM2 b hb),.inl (hM2 b hb)⟩
  have hAX:∀ b,A2 b→A b∨(X1 b∧¬M2 b):=fun b hb=>by
    have hn:¬M2 b:=fun h=>(hs2lt b h).2 hb
    rcases hA2 b hb with h|h
    · exact(hFA1 b h).imp_right fun q=>⟨q.1,hn⟩
    · exact .inr ⟨hMX1 b h,hn⟩
  obtain⟨fn,tmps,assign,body,hyl,hround⟩:=hJ.round k X1 M2 w1 dd (args.map a1.eval) hx hj2 (by simpa using hlen) fun i d v hi hv =>
    (hVD i d v hi (by have:=Array.getElem?_toList (xs:=args.map a1.eval) (i:=i);rw[hv,Array.toList_map]at this;exact this)).mono hAX
  have hrun:aO P (execOp a1.eval y) w1=.ok (.round l fn tmps assign body) w1:=by
    simp only[execOp,hop,resolve,hev,Sem.run_bind,Cu,Sem.run_pure,AJ,Cf,invoke]
    exact hyl
  refine⟨l,fn,tmps,assign,body,_,hrun,hround,?_⟩
  rintro x W2 hokW2 ⟨rfl,hj3,hsz,hos,htp,hou,hkeep⟩
  -- behind the call
  have hs3:SRB A2 M2 N [] (lA σ1 (cC σ1.H (args.toList.map (oev σ1.Γ)))) a1 W2:=hs2.world hsz fun b hb=>hkeep b (by
    rcases hb with h|h
    · exact(hAX b h).imp_right fun q=>q.1
    · exact .inr (hMX1 b (hM2 b h)))
  have hN:a1.tmps.size=N:=by obtain⟨_,_,_,_,_,_,_,_,_,q,_⟩:=hs3;exact q
  have hdf:a1.defers=[]:=by obtain⟨_,_,_,_,_,_,_,_,_,_,q⟩:=hs3;exact q
  have hyd:∀ d,y.dst=some d→d<a1.tmps.size:=fun d h=>by rw[hN];exact(hdst y (by simp) d h).1
  have hs4:SRB A2 M2 N [] ⟨bM (lA σ1 (cC σ1.H (args.toList.map (oev σ1.Γ)))).Γ y.dst (.d (.b (decide (k+1≠xs.length)))),(lA σ1 (cC σ1.H (args.toList.map (oev σ1.Γ)))).H,(lA σ1 (cC σ1.H (args.toList.map (oev σ1.Γ)))).n⟩ (a1.put y.dst (.bool (decide (k+1≠xs.length)))) W2:=by
    refine hs3.act (by cases y.dst<;>simp[CQ,hN]) (by cases y.dst<;>simp[CQ,hdf]) fun t=>?_
    rw[iV a1 y.dst (.bool (decide (k+1≠xs.length))) hyd t]
    by_cases ht:y.dst=some t
    · rw[ht]
      exact .inr (.inr ⟨.b (decide (k+1≠xs.length)),.bool (decide (k+1≠xs.length)),by simp[bM,upd,aT],by simp,.b _⟩)
    · rw[Aj ht]
      exact .inl ⟨by rw[xT ht],rfl⟩
  have hry:RY A N J (k+1) _ (a1.put y.dst (.bool (decide (k+1≠xs.length)))) W2:=⟨X1,A2,M2,hj3,hs4,fun b hb=>hMX1 b (hM2 b hb),hAX,fun b hb=>by have:=hX1 b hb;omega⟩
  obtain⟨X5,F5,M5,hj5,hMX5,hFA5,hX5,hsr5⟩:=hry.sr hokW2
  have hfin:=aDc (P:=P) (ops:=ops) (G:=⟨W2,F5,M5,aCf,noZ⟩) (n:=pre.length+1) (os:=post) (rest:=[]) (Q:=Q (k+1)) (K':=fun a' w'=>Exit.normal=.normal∧∃ k' σ',Q k' σ'∧RY A N J k' σ' a' w') hno2
    (fun j o hj=>hat (pre.length+1+j) o (by rw[AM (by omega),show pre.length+1+j-pre.length=j+1 by omega,List.getElem?_cons_succ];exact hj))
    (fun o ho=>hdst o (List.mem_append_right _ (AD _ ho))) hsr5 hK
    fun σ6 a6 w6 hq hs6=>bRo ⟨rfl,k+1,σ6,hq,RY.step hJ hj5 hMX5 hFA5 hs6 hX5⟩
  rw[List.append_nil]at hfin
  exact hfin
theorem aQe(hm:P.follows .mixedOrders=true)(hJ:JOk P l A xs J):∀(c:Code) (Q:Exit→Nat→St→Prop) (k:Nat) (σ:St) (a:Act) (w:World),bT N c=true→bV P c=true→gZ P l xs c k σ Q→RY A N J k σ a w →
    WC P c (fun e a' w'=>∃ k' σ',Q e k' σ'∧RY A N J k' σ' a' w') a w:=by
  have plain:∀ (c:Code) (Q:Exit→Nat→St→Prop) (k:Nat) (σ:St) (a:Act) (w:World),bT N c=true→bV P c=true→(AWP P c σ fun e σ'=>Q e k σ')→RY A N J k σ a w →
      WC P c (fun e a' w'=>∃ k' σ',Q e k' σ'∧RY A N J k' σ' a' w') a w:=by
    intro c Q k σ a w hd hl h hs
    refine cD (bKi hm hJ hd hl h hs) ?_
    rintro e a' w' ⟨σ',hq,hs'⟩
    exact⟨k,σ',hq,hs'⟩
  intro c
  induction c with
  | region id ops draw =>
    intro Q k σ a w hd hl h hs
    unfold gZ at h
    split at h
    · obtain⟨rfl,hno,h⟩:=h
      refine cD (bAs hJ hno hd h hs) ?_
      rintro e a' w' ⟨rfl,k',σ',hq,hs'⟩
      exact⟨k',σ',hq,hs'⟩
    · exact plain _ Q k σ a w hd hl h hs
  | seq x y ihx ihy =>
    intro Q k σ a w hd hl h hs
    simp only[bT,bV,A1]at hd hl
    refine eF (cD (ihx _ k σ a w hd.1 hl.1 h hs) ?_)
    rintro e a' w' ⟨k',σ',hq,hs'⟩
    cases e with
    |normal=>exact ihy Q k' σ' a' w' hd.2 hl.2 hq hs'
    |_=>exact⟨k',σ',hq,hs'⟩
  | cond c x y ihx ihy =>
    intro Q k σ a w hd hl h hs
    simp only[bT,bV,A1]at hd hl
    have hV:∃ F ι,V F w ι (oev σ.Γ c) (a.eval c):=by
      obtain⟨_,F,_,_,⟨_,ι,_,_,_,_,_,_,hV,_⟩,_⟩:=hs
      exact⟨F,ι,cI fun t _=>hV t⟩
    obtain⟨F,ι,hV⟩:=hV
    unfold gZ at h
    split at h
    · rename_i t ht
      have hc:a.eval c=.bool t:=by
        rw[ht]at hV
        generalize a.eval c=v at hV
        cases hV with|d _ _ h=>cases h;rfl
      refine mX hc ?_
      cases t
      · exact ihy Q k σ a w hd.2 hl.2 h hs
      · exact ihx Q k σ a w hd.1 hl.1 h hs
    · rename_i ht
      have hc:∃ t,a.eval c=.bool t:=by
        rw[ht]at hV
        generalize a.eval c=v at hV
        cases hV with|ub t=>exact⟨t,rfl⟩
      obtain⟨t,hc⟩:=hc
      refine mX hc ?_
      cases t
      · exact ihy Q k σ a w hd.2 hl.2 h.2 hs
      · exact ihx Q k σ a w hd.1 hl.1 h.1 hs
    · exact h.elim
  | block id c ih =>
    intro Q k σ a w hd hl h hs
    refine yJ (cD (ih _ k σ a w hd hl h hs) ?_)
    rintro e a' w' ⟨k',σ',hq,hs'⟩
    cases e with
    | exit id' =>
      simp only[DC]at hq ⊢
      split at hq
      · rename_i he;rw[Ar he];exact⟨k',σ',hq,hs'⟩
      · rename_i he;rw[Aj he];exact⟨k',σ',hq,hs'⟩
    |_=>exact⟨k',σ',hq,hs'⟩
  | loop c ih =>
    intro Q k σ a w hd hl h hs
    unfold gZ at h
    split at h
    · obtain⟨τ,S,κ,m,x0,hk0,⟨ρ,hk⟩,hround⟩:=h
      refine(WpR.plain P).okv fun hokw=>aQk (fun n a w=>∃ x,m x=n∧RY A N J (κ x) (S x) a w) ⟨m x0,x0,rfl,by rw[hk0];exact hs.weak hJ hk hokw⟩ ?_
      rintro n a w ⟨x,rfl,hsx⟩
      refine bRv (cD (ih _ (κ x) (S x) a w hd hl (hround x) hsx) ?_)
      rintro e a' w' ⟨k',σ',hq,hs'⟩ hokw'
      cases e with
      | normal =>
        obtain⟨y,hlt,rfl,ρ,hk⟩:=hq
        exact⟨m y,hlt,y,rfl,hs'.weak hJ hk hokw'⟩
      |_=>exact⟨k',σ',hq,hs'⟩
    · exact plain _ Q k σ a w hd hl h hs
  |skip=>intro Q k σ a w hd hl h hs;exact plain _ Q k σ a w hd hl h hs
  |exit id=>intro Q k σ a w hd hl h hs;exact plain _ Q k σ a w hd hl h hs
  |ret=>intro Q k σ a w hd hl h hs;exact plain _ Q k σ a w hd hl h hs
  |label l=>intro Q k σ a w hd hl h hs;exact plain _ Q k σ a w hd hl h hs
  |scope c _=>intro Q k σ a w hd hl h hs;exact plain _ Q k σ a w hd hl h hs
  |_=>intro Q k σ a w hd hl h;exact h.elim
end
theorem bAi {P:Program} [Mc:Mch P] {f N:Nat} {fn:Func} {c:Code} {caps:List D} {xs:List (List D)} (hm:P.follows .mixedOrders=true) (hf:P.funcs[f]? = some fn) (hb:fn.body=some c) (hname:(fn.name == "runtime.NumGoroutine")=false) (hN:fn.ntmps=N)
    (hd:bT N c=true) (hl':bV P c=true) (ha:caps.length+1≤N)
    (h:∀ l,gZ P l xs c 0 (St0 (.lit (.func (.yield l) #[] #[])::caps) N) fun e k σ=>(e=.normal∨e=.ret)∧k=xs.length∧∃ r,iX P fn.results.toList σ=some r):lR P f caps xs:=by
  intro A W l lb hA hl hv
  have hn:¬ fn.name = "runtime.NumGoroutine" := by simpa using hname
  refine⟨fun args w=>by simp[callFunc,hf,hn,hb],fun J hstab hround h0=>?_⟩
  have hJ:JOk P l A xs J:=⟨hstab,hround⟩
  refine wL hf hb ?_
  subst hN
  refine(WpR.plain P).okv fun hokW=>?_
  obtain⟨F,M,h1,hM,hF,hK,_⟩:=(SR0 (N:=fn.ntmps) (args:=.lit (.func (.yield l) #[] #[])::caps) (vs:=#[.func (.yield l) #[] #[]]++lb) hokW hA (by simp;omega) (fun k d v hk hv'=>by
    cases k with
    |zero=>rw[Array.getElem?_append_left (by simp)]at hv';simp at hk hv';subst hk;subst hv';exact .lit _
    |succ k=>exact hv k d v (by simpa using hk) (by rw[Array.getElem?_append_right (by simp)]at hv';simpa using hv')) (by simpa using ha)).srb
  simp only at hM hF hK
  have hMlt:∀ b,M b→b<W.heap.size:=by obtain⟨_,_,_,_,q,_⟩:=h1;exact fun b h=>(q b h).1
  have hFlt:∀ b,F b→b<W.heap.size:=by obtain⟨_,_,q,_⟩:=h1;exact q
  have hM0:∀ b,¬M b:=fun b hb=>by
    rcases hM b hb with h|h
    · exact h
    · have:=hMlt b hb;omega
  have hMe:M=bD:=funext fun b=>propext ⟨fun h=>(hM0 b h).elim,fun h=>h.elim⟩
  refine cD (aQe (A:=A) hm hJ c _ 0 _ _ W hd hl' (h l) ⟨bD,F,M,by rw[hMe];exact h0,h1,fun b hb=>(hM0 b hb).elim,fun b hb=>?_,fun b hb=>hb.elim⟩) ?_
  · rcases hF b hb with h|h|h
    · exact .inl h
    · exact h.elim
    · have:=hFlt b hb;omega
  · rintro e a w ⟨k,σ,⟨he,rfl,r,hr⟩,X,F,M,hj,hs,hMX',_⟩
    have hdf:a.defers=[]:=by obtain⟨_,_,_,_,_,_,_,_,_,_,q⟩:=hs;exact q
    refine⟨he,fun Win hWf hokw=>wF hf hdf (fun v1 hev=>?_) Win hWf hokw⟩
    have hs2:=hs.env hev
    obtain⟨v,h1,_⟩:=dZ (hs2.sr (hev.okV hokw) noZ fun _ _ e=>by cases e) hr
    exact⟨v,h1,X,M,hJ.stab _ X M w X M v1 hj (hev.kept M) (fun _ h=>h) (fun _ h=>.inl h) (fun b hb=>⟨hMX' b hb,.inl hb⟩)⟩
end Go.Am
end
section
open List renaming map_map→ζ,mapM_map→ξ
namespace Go.Am
variable {P:Program} [Mc:Mch P]
/-! ### Iterators -/
theorem iE{l:Nat}{xs:List (List D)}:∀(c:Code) {k:Nat} {σ:St} {Q:Exit→Nat→St→Prop},zU c=false→(AWP P c σ fun e σ'=>Q e k σ')→gZ P l xs c k σ Q:=by
  intro c
  induction c with
  | region id ops draw =>
    intro k σ Q hy h
    unfold gZ
    simp only[zU]at hy
    rw[hy]
    exact h
  | seq x y ihx ihy =>
    intro k σ Q hy h
    simp only[zU,FD]at hy
    refine ihx hy.1 (fK x (fun e σ h=>?_) h)
    cases e with
    |normal=>exact ihy hy.2 h
    |_=>exact h
  | cond c x y ihx ihy =>
    intro k σ Q hy h
    simp only[zU,FD]at hy
    unfold gZ
    unfold AWP at h
    split
    · rename_i t ht
      simp only[ht]at h
      cases t
      · exact ihy hy.2 h
      · exact ihx hy.1 h
    · rename_i ht
      simp only[ht]at h
      exact⟨ihx hy.1 h.1,ihy hy.2 h.2⟩
    · rename_i h1 h2
      split at h
      · rename_i t ht;exact h1 _ ht
      · rename_i ht;exact h2 ht
      · exact h
  | block id c ih =>
    intro k σ Q hy h
    refine ih hy (fK c (fun e σ h=>?_) h)
    cases e<;>exact h
  | loop c ih =>
    intro k σ Q hy h
    simp only[zU]at hy
    unfold gZ
    rw[hy]
    exact h
  |_=>intro k σ Q _ h;exact h
@[congr]theorem bVd{l:Nat}{xs:List (List D)}{c:Code}{k:Nat}{σ σ':St}{Q:Exit→Nat→St→Prop}(h:σ=σ'):gZ P l xs c k σ Q=gZ P l xs c k σ' Q:=by rw[h]
theorem qY{l:Nat}{xs:List (List D)}{x y:Code}{k:Nat}{σ:St}{Q:Exit→Nat→St→Prop}(hy:zU x=false)(h:AWP P x σ fun e σ'=>match e with|.normal=>gZ P l xs y k σ' Q|e=>Q e k σ'):gZ P l xs (.seq x y) k σ Q:=by
  refine iE (l:=l) (xs:=xs) x (k:=k) hy (fK x (fun e σ h=>?_) h)
  cases e<;>exact h
theorem nW{l:Nat}{xs:List (List D)}{id:Nat}{c:Code}{k:Nat}{σ:St}{Q:Exit→Nat→St→Prop}(h:gZ P l xs c k σ fun e k' σ'=>match e with|.exit id'=>if id'=id then Q .normal k' σ' else Q (.exit id') k' σ'|e=>Q e k' σ'):gZ P l xs (.block id c) k σ Q:=h
theorem uG{l:Nat}{xs:List (List D)}{x y:Code}{k:Nat}{σ:St}{Q:Exit→Nat→St→Prop}(h:gZ P l xs x k σ fun e k' σ'=>match e with|.normal=>gZ P l xs y k' σ' Q|e=>Q e k' σ'):gZ P l xs (.seq x y) k σ Q:=h
theorem aAy{l:Nat}{xs:List (List D)}{id:Nat}{ops:Array Oper}{k:Nat}{σ:St}{Q:Exit→Nat→St→Prop}{pre post:List Oper}{y:Oper}(hno:fP ops.toList=true)(hs:yR ops.toList=some (pre,y,post))
    (h:OWd P ops pre σ [] (fun σ1 con1=>YO l xs y k (fin σ1 con1) fun σ2=>OWd P ops post σ2 [] (fun σ3 con3=>aCh σ3 con3 (Q .normal (k+1)) .mk) .mk) .mk):gZ P l xs (.region id ops false) k σ Q:=by
  unfold gZ
  rw[hs]
  refine⟨rfl,hno,?_⟩
  unfold YR
  rw[hs]
  exact h
@[congr]theorem bVv{l:Nat}{xs:List (List D)}{y:Oper}{k:Nat}{σ σ':St}{K:St→Prop}(h:σ=σ'):YO l xs y k σ K=YO l xs y k σ' K:=by rw[h]
theorem aHp{l:Nat}{xs:List (List D)}{dst:Option Tmp}{t:Tmp}{args:List Operand}{ts:Array TypeId}{ty:TypeId}{pos:String}{after:Array Edge}{guard:Option (Nat×Bool)}{k:Nat}{σ:St}{K:St→Prop}{dd:List D}{l2:List Nat}
    (h1:σ.Γ t=.d (.lit (.func (.yield l) #[] #[]))) (h2:cO σ.H (args.map (oev σ.Γ))=some dd) (h3:xs[k]? = some dd) (h4:cC σ.H (args.map (oev σ.Γ))=l2)
    (h5:K ⟨bM (lA σ l2).Γ dst (.d (.b (decide (k+1≠xs.length)))),(lA σ l2).H,(lA σ l2).n⟩):YO l xs ⟨dst,.call ⟨.value (.tmp t),args.toArray,ts⟩,ty,pos,after,guard⟩ k σ K:=by
  subst h4
  exact⟨h1,dd,h2,h3,h5⟩
def cAe{τ:Type}(I:τ→Prop)(m κ:τ→Nat)(S:τ→St)(x:τ)(k:Nat)(σ':St)(_:Dm (I,m,κ,S,x)):Prop:=∃ y,I y∧m y<m x∧κ y=k∧∃ ρ,Wk σ' (S y) ρ
theorem aEl{τ:Type}{l:Nat}{xs:List (List D)}{c:Code}{k:Nat}{σ:St}{Q:Exit→Nat→St→Prop}(hy:zU c=true)(I:τ→Prop)(S:τ→St)(κ m:τ→Nat)(x0:τ)(hI:I x0)(hk:κ x0=k)(h0:∃ ρ,Wk σ (S x0) ρ)
    (h:∀ x,I x→gZ P l xs c (κ x) (S x) fun e k' σ'=>match e with|.normal=>cAe I m κ S x k' σ' .mk|e=>Q e k' σ'):gZ P l xs (.loop c) k σ Q:=by
  unfold gZ
  rw[Ar hy]
  refine⟨{ x:τ // I x },fun x=>S x.1,fun x=>κ x.1,fun x=>m x.1,⟨x0,hI⟩,hk,h0,fun x=>?_⟩
  refine cast (congrArg (gZ P l xs c (κ x.1) (S x.1)) ?_) (h x.1 x.2)
  funext e k' σ'
  cases e with
  |normal=>exact propext ⟨fun⟨y,h1,h2,h3⟩=>⟨⟨y,h1⟩,h2,h3⟩,fun⟨y,h2,h3⟩=>⟨y.1,y.2,h2,h3⟩⟩
  |_=>rfl
/-! ### Functions that range over one -/
def aWa:Code→Bool
  |.seq x y=>aWa x||aWa y
  |.block _ c|.scope c=>aWa c
  |.rangeFunc ..=>true
  |_=>false
theorem aBb{N:Nat}:∀(c:Code) {σ:St} {Q:Exit→St→Prop},aWa c=false→AWP P c σ Q→mV P N c σ Q:=by
  intro c
  induction c with
  | seq x y ihx ihy =>
    intro σ Q hr h
    simp only[aWa,FD]at hr
    refine ihx hr.1 (fK x (fun e σ h=>?_) h)
    cases e with
    |normal=>exact ihy hr.2 h
    |_=>exact h
  |block id c ih=>intro σ Q hr h;exact ih hr h
  |scope c ih=>intro σ Q hr h;exact ih hr h
  |rangeFunc=>intro σ Q hr;cases hr
  |_=>intro σ Q _ h;exact h
@[congr]theorem bVe{N:Nat}{c:Code}{σ σ':St}{Q:Exit→St→Prop}(h:σ=σ'):mV P N c σ Q=mV P N c σ' Q:=by rw[h]
theorem cY{N:Nat}{x y:Code}{σ:St}{Q:Exit→St→Prop}(hr:aWa x=false)(h:AWP P x σ fun e σ'=>match e with|.normal=>mV P N y σ' Q|e=>Q e σ'):mV P N (.seq x y) σ Q:=by
  refine aBb x hr (fK x (fun e σ h=>?_) h)
  cases e<;>exact h
theorem aAz{N:Nat}{x y:Code}{σ:St}{Q:Exit→St→Prop}(h:mV P N x σ fun e σ'=>match e with|.normal=>mV P N y σ' Q|e=>Q e σ'):mV P N (.seq x y) σ Q:=h
theorem aBa{N:Nat}{c:Code}{σ:St}{Q:Exit→St→Prop}(h:mV P N c σ fun e σ'=>match e with|.goto _=>False|e=>Q e σ'):mV P N (.scope c) σ Q:=h
theorem sK{N id:Nat}{c:Code}{σ:St}{Q:Exit→St→Prop}(h:mV P N c σ fun e σ'=>match e with|.exit id'=>if id'=id then Q .normal σ' else Q (.exit id') σ'|e=>Q e σ'):mV P N (.block id c) σ Q:=h
def bPs(wl:List Nat)(T:St)(σ2:St)(_:Dm (wl,T)):Prop:=∃ ρ,Wk ⟨fun t=>if wl.contains t then .any else σ2.Γ t,σ2.H,σ2.n⟩ T ρ
theorem aPv{N:Nat}{g:Operand}{ps:Array Tmp}{assign body:Code}{σ:St}{Q:Exit→St→Prop}{gf:FuncId}{cs:List AV}{caps:List D}(xs:List (List D))(T:Nat→St)(wl:List Nat)(E:Exit)(jc:Code)
    (hE:(E,jc)=(Exit.ret,Code.ret)∨∃ id,(E,jc)=(Exit.exit id,Code.exit id))
    (hg:dS (oev σ.Γ g)=some (gf,cs)) (hf:cO σ.H cs=some caps) (hseq:lR P gf caps xs) (h0:∃ ρ,Wk (lA σ (cC σ.H cs)) (T 0) ρ)
    (hc:(bT N assign&&bT N body&&bV P assign&&bV P body&&gD assign&&gD body&&fQ (fun t=>!wl.contains t) assign&&fQ (fun t=>!wl.contains t) body&&ps.toList.all fun p=>decide (p<N)&&wl.contains p)=true)
    (hne:0<xs.length)
    (hr0:∀ k x,k+1<xs.length→xs[k]? = some x→x.length=ps.size∧AWP P assign ⟨aBs (ps.toList.zip x) (T k).Γ,(T k).H,(T k).n⟩ fun e σ1=>match e with
      |.normal=>AWP P body σ1 fun e σ2=>match e with|.normal=>bPs wl (T (k+1)) σ2 .mk|_=>False
      |_=>False)
    (hr1:∀ k x,k+1=xs.length→xs[k]? = some x→x.length=ps.size∧AWP P assign ⟨aBs (ps.toList.zip x) (T k).Γ,(T k).H,(T k).n⟩ fun e σ1=>match e with
      |.normal=>AWP P body σ1 fun e σ2=>e=E∧bPs wl (T (k+1)) σ2 .mk
      |_=>False)
    (hq:Q E (T xs.length)):mV P N (.rangeFunc g ps assign body) σ Q:=by
  simp only[A1,A4,BO]at hc
  obtain⟨⟨⟨⟨⟨⟨⟨⟨d1,d2⟩,l1⟩,l2⟩,r1⟩,r2⟩,z1⟩,z2⟩,hps⟩:=hc
  refine⟨gf,cs,caps,xs,T,wl,E,jc,hE,hg,hf,hseq,⟨⟨d1,d2⟩,⟨l1,l2⟩,⟨r1,r2⟩,⟨z1,z2⟩,hps,hne,fun k x hx=>?_⟩,h0,hq⟩
  have hk:=(Aq.1 hx).1
  by_cases hl:k+1=xs.length
  · refine⟨(hr1 k x hl hx).1,fK assign (fun e σ1 h=>?_) (hr1 k x hl hx).2⟩
    cases e with
    | normal =>
      refine⟨rfl,fK body (fun e σ2 h=>?_) h⟩
      rw[Ar hl];exact h
    |_=>exact h.elim
  · refine⟨(hr0 k x (by omega) hx).1,fK assign (fun e σ1 h=>?_) (hr0 k x (by omega) hx).2⟩
    cases e with
    | normal =>
      refine⟨rfl,fK body (fun e σ2 h=>?_) h⟩
      rw[Aj hl]
      cases e with
      |normal=>exact⟨rfl,h⟩
      |_=>exact h.elim
    |_=>exact h.elim
theorem pS{N:Nat}{g:Operand}{ps:Array Tmp}{assign body:Code}{σ:St}{Q:Exit→St→Prop}{gf:FuncId}{cs:List AV}{caps:List D}(xs:List (List D))(T:Nat→St)(wl:List Nat)(E:Exit)(jc:Code)
    (hE:(E,jc)=(Exit.ret,Code.ret)∨∃ id,(E,jc)=(Exit.exit id,Code.exit id))
    (hg:dS (oev σ.Γ g)=some (gf,cs)) (hf:cO σ.H cs=some caps) (hv:cC σ.H cs=[]) (hseq:lR P gf caps xs) (h0:∃ ρ,Wk σ (T 0) ρ)
    (hc:(bT N assign&&bT N body&&bV P assign&&bV P body&&gD assign&&gD body&&fQ (fun t=>!wl.contains t) assign&&fQ (fun t=>!wl.contains t) body&&ps.toList.all fun p=>decide (p<N)&&wl.contains p)=true)
    (hne:0<xs.length)
    (hr0:∀ k x,k+1<xs.length→xs[k]? = some x→x.length=ps.size∧AWP P assign ⟨aBs (ps.toList.zip x) (T k).Γ,(T k).H,(T k).n⟩ fun e σ1=>match e with
      |.normal=>AWP P body σ1 fun e σ2=>match e with|.normal=>bPs wl (T (k+1)) σ2 .mk|_=>False
      |_=>False)
    (hr1:∀ k x,k+1=xs.length→xs[k]? = some x→x.length=ps.size∧AWP P assign ⟨aBs (ps.toList.zip x) (T k).Γ,(T k).H,(T k).n⟩ fun e σ1=>match e with
      |.normal=>AWP P body σ1 fun e σ2=>e=E∧bPs wl (T (k+1)) σ2 .mk
      |_=>False)
    (hq:Q E (T xs.length)):mV P N (.rangeFunc g ps assign body) σ Q :=
  aPv xs T wl E jc hE hg hf hseq (by rw[hv];exact h0) hc hne hr0 hr1 hq
end Go.Am
end
section
open List renaming map_map→ζ,mapM_map→ξ
namespace Go.Am
open Go.Conc
open Go.ConcN (sumTo sumTo_upd)
def dH(S:Nat→Prop):Loc→Prop
  |.cell a=>S a.block
  |_=>False
def dI(P:Program)(Post:Value→World→Prop)(m:Machine)(t:Trace):Prop :=
  ∃ N last o w' t',runNT P (N+1) m t=(.ended o w',t')∧runN P N m=.next last∧step P last=.ended o w'∧Conc.Good P Post last o w' t'
theorem dI.step{P:Program}{Post:Value→World→Prop}{m m':Machine}{t:Trace}{ops:Trace}(h:stepT P m=(.next m',ops))(hg:dI P Post m' (t++ops)):dI P Post m t:=by
  obtain⟨N,last,o,w',t',h1,h2,h3,h4⟩:=hg
  exact⟨N+1,last,o,w',t',by rw[runNT_succ_next h];exact h1,by rw[runN_succ_next h];exact h2,h3,h4⟩
def stO:Obj→Bool
  |CZ c _ f=>f==(0,c.size)
  |o=>!okO o
def Kp(W0 v w:World):Prop:=∀(b:Nat) (o:Obj),W0.heap[b]? = some o→stO o=true→w.heap[b]? = some o∧∃(c:Array Value) (t:TypeId),v.heap[b]? = some (CZ c t (0,c.size))
theorem Kp.step{W0 v w v' w':World}(h:Kp W0 v w)(hx:Ext v v')(hr:vX v w w'):Kp W0 v' w':=fun b o hb ho=>by
  obtain⟨h1,c,t,h2⟩:=h b o hb ho
  refine⟨(hr b c t h2).trans h1,?_⟩
  obtain⟨c',g1,_,g3⟩:=hx.cells b c t _ h2
  have:=g3 rfl;subst this
  exact⟨c',t,g1⟩
theorem Kp.congr{W0 v w v' w':World}(h:Kp W0 v w)(hv:v'.heap=v.heap)(hw:w'.heap=w.heap):Kp W0 v' w':=fun b o hb ho=>by rw[hv,hw];exact h b o hb ho
structure aHi(Sh:Loc→Prop)(N:Nat)(t:Trace):Prop where
  quiet:Quiet Sh t
  mem:∀ i a,touchAt t i=some a→a.loc.isMemory=true
  num:∀(i:Nat) (op:MemOp),t[i]? = some op→op.g<N
theorem aHi.app{Sh:Loc→Prop}{N:Nat}{t u:Trace}(h:aHi Sh N t)(hq:∀ op∈u,∀ x,op.act.touch? = some x→Sh x.loc→x.kind≠.plain∧(x.kind=.said→op.g=0))(hm:∀ op∈u,∀ x,op.act.touch? = some x→x.loc.isMemory=true)(hn:∀ op∈u,op.g<N):aHi Sh N (t++u):=by
  refine⟨h.quiet.app hq,fun i a ha=>?_,fun i op hi=>?_⟩
  · obtain⟨x,hx,hxa⟩:=touch_of ha
    rcases getElem?_append_cases hx with ⟨_,hx'⟩|⟨_,hxu⟩
    · exact h.mem i a (by rw[touchAt_of hx'];exact hxa)
    · exact hm x hxu a hxa
  · rcases getElem?_append_cases hi with ⟨_,hi'⟩|⟨_,hiu⟩
    · exact h.num i op hi'
    · exact hn op hiu
theorem aHi.mute{Sh:Loc→Prop}{N:Nat}{t:Trace}(h:aHi Sh N t){g:Nat}(hg:g<N){fn:FuncId}{pos:String}{es:Array Event}(hm:∀ e∈es,e.mute=true):aHi Sh N (t++BK g fn pos es):=by
  refine h.app (fun op hop x hx=>?_) (fun op hop x hx=>?_) (fun op hop=>?_)<;>obtain⟨e,he,rfl⟩:=BA hop
  · rw[touch_mute (hm e he)]at hx;cases hx
  · rw[touch_mute (hm e he)]at hx;cases hx
  · exact hg
def dY(P:Program)(W0:World)(Post:Value→World→Prop)(g:Goroutine)(v:World):Prop :=
  ∀ v1,Env v v1→OkV v1→∀(S:Nat→Prop) (gs:Array Goroutine) (w:World) (sl:Option (Nat×Nat)) (t:Trace) (q:Nat→Nat),(∀ b,S b→v1.heap[b]? = some hole)→Sim v1 w→gs[0]? = some g→Leavers P t gs q→Past (dH S) w.heap.size t→aHi (dH S) gs.size t→Kp W0 v1 w →
    dI P Post (crowd gs w sl) t
theorem nN{v:World}{S:Nat→Prop}{B:Nat}(hS:∀ b,S b→v.heap[b]? = some hole)(hB:v.heap.size≤B){e:Event}(h:EvV v e):EvL (dH S) B e:=by
  obtain⟨loc,wr,sy⟩:=e
  rcases h with ⟨a,c,t,f,h1,h2,h3,h4,h5⟩|⟨r,o,h1,h2,h3,h4,h5⟩|h
  · simp only at h1 h2;subst h1;subst h2
    have hlt:=bG h3
    refine evL_cell a wr (fun hs=>?_) (by omega)
    have:=hS a.block hs
    rw[h3]at this;injection this with this;injection this with e1 _ _;subst e1;simp at h4
  · simp only at h1 h2;subst h1;subst h2
    have hlt:=bG h3
    refine⟨fun x hx hs=>?_,by simp,by simp,?_⟩
    · simp[Bc,Bx]at hx
      subst hx;exact hs.elim
    · have:r<B:=by omega
      simpa[Bc,MemAct.low,Loc.low]using this
  · injection h with e1 e2 e3;subst e1;subst e2;subst e3
    exact⟨fun x hx=>by simp[Bc,Bx]at hx,by simp,by simp,trivial⟩
theorem bEb{v v':World}{b:Nat}(h:Ext v v')(hb:v.heap[b]? = some hole):v'.heap[b]? = some hole:=by
  obtain⟨c',h1,h2,h3⟩:=h.cells b #[] 0 (0,0) hb
  have:=h3 rfl
  subst this;exact h1
theorem aGt{v:World}{e:Event}(h:EvV v e){x:Touch}(hx:(Bc e).touch? = some x):x.loc.isMemory=true∧x.kind≠.said:=by
  obtain⟨loc,wr,sy⟩:=e
  rcases h with ⟨a,c,t,f,h1,h2,_⟩|⟨r,o,h1,h2,_⟩|h
  · simp only at h1 h2;subst h1;subst h2
    simp[Bc,Bx]at hx;subst hx;exact⟨rfl,by simp⟩
  · simp only at h1 h2;subst h1;subst h2
    simp[Bc,Bx]at hx;subst hx;exact⟨rfl,by simp⟩
  · injection h with e1 e2 e3;subst e1;subst e2;subst e3
    simp[Bc,Bx]at hx
section
variable {P:Program} {W0:World} {Post:Value→World→Prop}
theorem zL{g : Goroutine}{v : World}(hrun : g.status = .running) (hstep : ∀ v1 w, Env v v1 → OkV v1 → Sim v1 w → Kp W0 v1 w →
      (∃ g' w' es,stepG P true g w=.go g' w' es∧∀(S:Nat→Prop) (gs:Array Goroutine) (sl:Option (Nat×Nat)) (t:Trace) (q:Nat→Nat),(∀ b,S b→v1.heap[b]? = some hole)→gs[0]? = some g'→Leavers P (t++BK 0 g.frame.fn g.frame.place es) gs q →
        Past (dH S) w.heap.size t→aHi (dH S) gs.size t→dI P Post (crowd gs w' sl) (t++BK 0 g.frame.fn g.frame.place es)) ∨
      ∃ x w' es,stepG P true g w=.ended (.done x) w' es∧(∀ e∈es,EvV v1 e)∧Post x w'):dY P W0 Post g v:=by
  have key:∀ (M:Nat) (v1:World),Env v v1→OkV v1→∀ (S:Nat→Prop) (gs:Array Goroutine) (w:World) (sl:Option (Nat × Nat)) (t:Trace) (q:Nat→Nat),sumTo gs.size q≤M→(∀ b,S b→v1.heap[b]? = some hole)→Sim v1 w→gs[0]? = some g→Leavers P t gs q→Past (dH S) w.heap.size t→aHi (dH S) gs.size t→Kp W0 v1 w →
      dI P Post (crowd gs w sl) t:=by
    intro M
    induction M with
    | zero|succ M ih =>
      intro v1 he hok S gs w sl t q hM hS hsim h0 hL hP hTd hKp
      have haw:∀ g∈gs,awake g:=by
        intro g1 hg
        obtain⟨i,hi,rfl⟩:=Array.mem_iff_getElem.1 hg
        rcases Be i with rfl|hpos
        · have:gs[0]=g:=by simpa[Ak hi]using h0
          rw[this];exact awake_of (.inl hrun)
        · exact awake_of ((hL.old i _ hpos (Ak hi)).status.elim .inl fun x=>.inr (.inr x))
      obtain⟨i,g1,d,sl',hi,hg,hst⟩:=crowd_pick (P:=P) (w:=w) (sl:=sl) haw ⟨0,g,h0,hrun⟩
      have hed:Env v1 { v1 with drawn:=d }:=⟨rfl,rfl,rfl,0,by simp⟩
      have hokd:OkV { v1 with drawn:=d }:=hok.congr rfl
      have hsimd:Sim { v1 with drawn:=d } (w.at d):=⟨hsim.tape,rfl,hsim.os,hsim.output,hsim.size,hsim.blk⟩
      rcases Be i with rfl|hpos
      · obtain rfl:g1=g:=by rw[h0]at hi;exact(Bj hi).symm
        rcases hstep _ (w.at d) (he.trans hed) hokd hsimd (hKp.congr rfl rfl)with ⟨g',w',es,hgo,hwin⟩|⟨x,w'',es,hend,hev,hpost⟩
        · have hrunT:=runT_crowd_go (P:=P) (sl:=sl') (i:=0) hi (show stepG P (0==0) g1 (w.at d)=_ from hgo)
          have hlt:0<gs.size:=(AQ.1 h0).1
          refine dI.step (hst.trans hrunT) (hwin S _ sl' t q hS (by simp[hlt]) ⟨fun j x hj hx=>?_,fun j hj=>?_⟩ hP (by simpa using hTd))
          · have hne:0≠j:=by omega
            rw[AF hne,BN]at hx
            obtain⟨y,hy,rfl⟩:=Ae.1 hx
            have hq:=hL.old j y hj hy
            rw[woken_quitsD hq,Deaf_other t (by omega) _ (fun op hop=>by obtain⟨e,_,rfl⟩:=BA hop;rfl)]
            exact hq
          · rw[Deaf_other t (g':=0) (by simp at hj;omega) _ (fun op hop=>by obtain⟨e,_,rfl⟩:=BA hop;rfl)]
            exact hL.above j (by simpa using hj)
        · have hrunT:=runT_many_ended (P:=P) (sl:=sl') (i:=0) hi (show stepG P (0==0) g1 (w.at d)=_ from hend)
          have hsz0:v1.heap.size=w.heap.size:=hsim.size
          have hP':=hP.own (fn:=g1.frame.fn) (pos:=g1.frame.place) (es:=es) fun e hx=>nN (v:={ v1 with drawn:=d }) hS (by simp only;omega) (hev e hx)
          have hsT:=hst.trans hrunT
          refine⟨0,_,_,_,_,?_,rfl,?_,x,rfl,hpost,hP'.clean,hP'.over,⟨fun y hy=>?_,rfl⟩,fun j y hy hj=>?_⟩
          · simp[runNT,hsT]
          · simp[Go.step,hsT]
          · obtain⟨j,hj⟩:=List.mem_iff_getElem?.1 hy
            rw[List.getElem?_drop]at hj
            exact⟨_,(hL.old (1+j) y (by omega) (by simpa[crowd]using hj)).leaves⟩
          · have hq:=hL.old j y (by omega) hy
            refine⟨q j,?_⟩
            have e:(t++BK 0 g1.frame.fn g1.frame.place es).deaf j (t++BK 0 g1.frame.fn g1.frame.place es).size=Deaf t j :=
              Deaf_other t (g:=j) (g':=0) (by omega) _ (fun op hop=>by obtain⟨e,_,rfl⟩:=BA hop;rfl)
            rw[e]
            exact hq.hears _
      · have hq:=hL.old i g1 hpos hi
        have hi0:(i==0)=false:=by simp;omega
        have hlt:i<gs.size:=(AQ.1 hi).1
        cases hqi:q i with
        |zero=>rw[hqi]at hq;rw[hq.1]at hg;cases hg
        | succ k =>
          rw[hqi]at hq
          rcases hq with ⟨hf,_⟩|⟨_,g',es,hm,hstp,hq'⟩
          · rw[hf]at hg;cases hg
          have hrunT:=runT_crowd_go (P:=P) (sl:=sl') (i:=i) hi (by rw[hi0];exact hstp (w.at d))
          have hsz:((gs.map (woken P g1 g' (w.at d))).setIfInBounds i g').size=gs.size:=by simp
          have hsum:sumTo gs.size (Bb q i k)+(k+1)=sumTo gs.size q+k:=by
            have:=sumTo_upd q k id hlt
            simpa[hqi]using this
          first
          |exact absurd hM (by omega)
          | refine dI.step (hst.trans hrunT) (ih _ (he.trans hed) hokd S _ (w.at d) sl' _ (Bb q i k) (by rw[hsz];omega) hS hsimd ?_ ⟨fun j x hj hx=>?_,fun j hj=>?_⟩ (hP.mute (by omega) hm) (by rw[hsz];exact hTd.mute hlt hm) (hKp.congr rfl rfl))
            · have hne:i≠0:=by omega
              rw[AF hne,BN,h0]
              simp[woken_run hrun]
            · by_cases hji:i=j
              · subst hji
                rw[BM (by simpa using hlt)]at hx
                obtain rfl:=Bj hx
                rw[ConcN.upd_same,Deaf_own]
                exact hq'
              · rw[AF hji,BN]at hx
                obtain⟨y,hy,rfl⟩:=Ae.1 hx
                have hqj:=hL.old j y hj hy
                rw[woken_quitsD hqj,ConcN.upd_ne q k (Ne.symm hji),Deaf_other t hji _ (fun op hop=>by obtain⟨e,_,rfl⟩:=BA hop;rfl)]
                exact hqj
            · rw[Deaf_other t (g':=i) (by simp at hj;omega) _ (fun op hop=>by obtain⟨e,_,rfl⟩:=BA hop;rfl)]
              exact hL.above j (by simpa using hj)
  intro v1 he hok S gs w sl t q hS hsim h0 hL hP hTd hKp
  exact key _ v1 he hok S gs w sl t q (AE _) hS hsim h0 hL hP hTd hKp
theorem aDn{g : Goroutine}{v : World}(hrun : g.status = .running) (hstep : ∀ v1 w, Env v v1 → OkV v1 → Sim v1 w → Kp W0 v1 w →
      (∃ g' v' w' es,stepG P true g w=.go g' w' es∧vW v1 w v' w' es∧dY P W0 Post g' v')∨∃ x w' es,stepG P true g w=.ended (.done x) w' es∧(∀ e∈es,EvV v1 e)∧Post x w'):dY P W0 Post g v:=by
  refine zL hrun fun v1 w he hok hsim hKp=>?_
  rcases hstep v1 w he hok hsim hKp with ⟨g',v',w',es,hgo,hso,hwin⟩|h
  · have hsz:v'.heap.size=w'.heap.size:=hso.sim.size
    have hsz0:v1.heap.size=w.heap.size:=hsim.size
    have hge:v1.heap.size≤v'.heap.size:=hso.ext.size
    refine .inl ⟨g',w',es,hgo,fun S gs sl t q hS h0 hL hP hTd=>?_⟩
    have hS':∀ b,S b→v'.heap[b]? = some hole:=fun b hb=>bEb hso.ext (hS b hb)
    have hlt:0<gs.size:=(AQ.1 h0).1
    refine hwin v' (.refl _) hso.ok S gs w' sl _ q hS' hso.sim h0 hL ?_ ?_ (hKp.step hso.ext hso.rest)
    · exact(hP.mono (by omega)).own fun e hx=>nN hS' (by omega) (hso.evs e hx)
    · refine hTd.app (fun op hop x hx hs=>?_) (fun op hop x hx=>?_) (fun op hop=>?_)<;>obtain⟨e,he',rfl⟩:=BA hop
      · exact⟨(nN (B:=w'.heap.size) hS' (by omega) (hso.evs e he')).1 x hx hs,fun _=>rfl⟩
      · exact(aGt (hso.evs e he') hx).1
      · exact hlt
  · exact .inr h
theorem aKg(W0:World)(Post:Value→World→Prop):aHn P true (dY P W0 Post) where
  env h he:=fun v1 he1=>h v1 (he.trans he1)
  step hr hv h:=aDn hr fun v1 w he _ hsim _=>by
    obtain⟨g',v',w',es,h1,h2,h3⟩:=h v1 w he hsim
    exact .inl ⟨g',v',w',es,h1,h2,h3⟩
theorem wE(main:Bool):aHn P main (fun _ _=>False) where
  env h _:=h
  step hr hv h:=by
    obtain⟨_,_,_,_,_,_,h3⟩:=h _ _ (.refl _) (.refl _)
    exact h3
end
@[instance_reducible]def cT(P:Program):Mch P where
  main:=true
  Fam Win:=(∃ W0 Post,Win=dY P W0 Post)∨Win=fun _ _=>False
  closed h:=by
    rcases h with ⟨W0,Post,rfl⟩|rfl
    · exact aKg W0 Post
    · exact wE true
  none:=.inr rfl
end Go.Am
end
section
open List renaming map_map→ζ,mapM_map→ξ
namespace Go.Am
open Go.Conc
open RowKit (Below)
def strike(W:World):World:={ W with heap:=W.heap.map fun o=>if okO o then o else hole }
theorem jD(W:World)(b:Nat):(strike W).heap[b]? = (W.heap[b]?).map fun o=>if okO o then o else hole:=by simp[strike]
theorem lF(W:World):(strike W).heap.size=W.heap.size:=by simp[strike]
theorem uS(W:World):OkV (strike W):=fun b o hb=>by
  rw[jD]at hb
  cases h:W.heap[b]? with
  |none=>rw[h]at hb;cases hb
  | some x =>
    rw[h]at hb
    simp only[AW,Au]at hb
    subst hb
    split
    · assumption
    · rfl
theorem aMv(W:World):Sim (strike W) W:=⟨rfl,rfl,rfl,rfl,lF W,fun b o hb=>by
  rw[jD]at hb
  cases h:W.heap[b]? with
  |none=>rw[h]at hb;cases hb
  | some x =>
    rw[h]at hb
    simp only[AW,Au]at hb
    subst hb
    by_cases hx:okO x=true
    · rw[Ar hx];exact .inr (.inl rfl)
    · rw[Aj hx];exact .inl rfl⟩
theorem aTq(W:World):Kp W (strike W) W:=fun b o hb ho=>by
  refine⟨hb,?_⟩
  rw[jD,hb,AW]
  by_cases hx:okO o=true
  · rw[Ar hx]
    cases o with
    |cells c t f=>simp only[stO,beq_iff_eq]at ho;exact⟨c,t,by rw[ho]⟩
    |_=>simp[stO,hx]at ho
  · rw[Aj hx];exact⟨#[],0,rfl⟩
def qZ(W:World)(r:D)(x:Value)(w':World):Prop :=
  (∀ b,b<W.heap.size→w'.heap[b]? = W.heap[b]?)∧w'.os=W.os∧w'.tape=W.tape∧w'.output=W.output∧W.heap.size≤w'.heap.size∧∃ v':World,VD (fun b=>b<v'.heap.size) v' r x
theorem aOz{W v' w':World}{r:D}{x:Value}(hs:Sim v' w')(hk:Kp W v' w')(hb:Below (strike W).heap.size (strike W) v')(hv:VD (fun b=>b<v'.heap.size) v' r x):qZ W r x w':=by
  refine⟨fun b hlt=>?_,?_,?_,?_,?_,v',hv⟩
  · obtain⟨o,ho⟩:∃ o,W.heap[b]? = some o:=⟨_,Ak hlt⟩
    by_cases hst:stO o=true
    · rw[(hk b o ho hst).1,ho]
    · have hbl:=hb.block b (by rw[lF];exact hlt)
      have hok:okO o=true:=by
        cases o<;>simp[stO]at hst<;>first|rfl|exact hst
      rw[jD,ho,AW,Ar hok]at hbl
      rcases hs.blk b o hbl with e|e|⟨c,t,_,e,_⟩
      · subst e;exact absurd rfl hst
      · rw[e,ho]
      · subst e;exact absurd (by simp[stO]) hst
  · rw[←hs.os];exact hb.os
  · rw[←hs.tape];exact hb.tape
  · rw[←hs.output];exact hb.output
  · have:=hb.size;rw[lF]at this;rw[←hs.size];exact this
theorem aMy{P:Program}{b:Frame}{a:Act}{fn:Func}{todo:List Item}{x:Value}{w w':World}{es:Array Event}(hn:b.kind=.normal)(hi:P.inits.idxOf? b.fn=none)(hd:a.defers=[])(hf:P.funcs[b.fn]? = some fn)(hr:(results fn a.tmps).runT P w #[]=(.ok x w',es)) :
    stepG P true (G { b.at a todo with mode:=.returning } []) w=.ended (.done x) w' (seen P b.fn es):=by
  simp only[G,stepG,unwind,Frame.at,hd,hf,hr,doReturn,Cp,hn,hi]
  simp
section
variable {P:Program}
theorem aNl{f:FuncId}{fn:Func}{c:Code}{args:Array Value}{W:World}{r:D}(hf:P.funcs[f]? = some fn)(hb:fn.body=some c)(hi:P.inits.idxOf? f=none)
    (h:letI:=cT P;WC P c (aSo P fn fun x v'=>Below (strike W).heap.size (strike W) v'∧VD (fun b=>b<v'.heap.size) v' r x) { tmps:=args++AX (fn.ntmps-args.size) undef,defers:=[] } (strike W)) :
    dI P (qZ W r) (solo (G (CP P f args .normal) []) W) #[]:=by
  letI:=cT P
  have hW:(cT P).Fam (dY P W (qZ W r)):=.inl ⟨W,_,rfl⟩
  have hwin:dY P W (qZ W r) (G (CP P f args .normal) []) (strike W):=by
    rw[enter_at args hf hb]
    have back:∀(a':Act) (v':World) (todo:List Item),aSo P fn (fun x v'=>Below (strike W).heap.size (strike W) v'∧VD (fun b=>b<v'.heap.size) v' r x) .ret a' v'→dY P W (qZ W r) (G { (base f).at a' todo with mode:=.returning } []) v':=by
      intro a' v' todo hq
      obtain⟨hd,hr⟩:=hq
      refine aDn rfl fun v1 w he hok hsim hk=>.inr ?_
      obtain⟨x,hx,hb1,hb2⟩:=hr v1 he
      obtain⟨w',es',h1,h2,h3,h4,h5,h6⟩:=fE _ v1 w #[] x v1 hok hsim hx
      have hK':Kp W v1 w':=hk.step h4 h5
      exact⟨x,w',_,aMy rfl hi hd hf h1,fun e he'=>h6 e (by have:=mem_seen he';simpa using this),aOz h2 hK' hb1 hb2⟩
    refine h _ hW (uS W) (base f) [] [] (.inl rfl) fun e a' v' hv' hq=>?_
    cases e with
    | normal =>
      refine aQ hW rfl hv' (fun w=>stepG_end) ?_
      exact back a' v' [] hq
    |ret=>exact fun todo=>back a' v' todo hq
    |exit id=>exact hq.elim
    |goto l=>exact hq.elim
    |panic ch=>exact hq.elim
    |outgrown=>exact hq.elim
  refine hwin _ (.refl _) (uS W) (fun _=>False) #[G (CP P f args .normal) []] W none #[] (fun _=>0) (fun b h=>h.elim) (aMv W) rfl (leavers_one P _) ?_ ?_ (aTq W)
  have h0:dH (fun _=>False)=fun _=>False:=by funext l;cases l<;>rfl
  · rw[h0]
    exact past_nil.mono (A8 _)
  · exact⟨fun i op x hi=>by simp at hi,fun i a ha=>by simp[touchAt,Trace.act?]at ha,fun i op hi=>by simp at hi⟩
end
end Go.Am
end
section
open List renaming map_map→ζ,mapM_map→ξ
namespace Go.Am
open RowKit (Below)
def Wal(P:Program)[M:Mch P](c:Code)(σ:St)(Q:Exit→St→Prop):Prop :=
 ∀(G:Ctx) (N:Nat) (ds:List Deferred) (a:Act) (w:World),P.follows .mixedOrders=true→(∀ d,G.Z d=none)→bT N c=true→SR G N ds σ a w→WC P c (fun e a' w'=>∃ σ',Q e σ'∧SR G N ds σ' a' w') a w
section
variable {P:Program} [M:Mch P] {σ:St} {Q:Exit→St→Prop} {x y c:Code}
theorem xJ(hl:bV P c=true)(h:AWP P c σ Q):Wal P c σ Q:=fun G N ds a w hm hZ hd hs=>cJ hm hZ c Q σ a w hd hl h hs
theorem xI(h:Wal P x σ fun e σ'=>match e with|.normal=>Wal P y σ' Q|e=>Q e σ'):Wal P (.seq x y) σ Q:=fun G N ds a w hm hZ hd hs=>by
 simp only[bT,A1]at hd
 refine eF (cD (h G N ds a w hm hZ hd.1 hs) ?_)
 rintro e a' w' ⟨σ',hq,hs'⟩
 cases e with
 |normal=>exact hq G N ds a' w' hm hZ hd.2 hs'
 |_=>exact⟨σ',hq,hs'⟩
theorem fV(hl:bV P x=true)(h:AWP P x σ fun e σ'=>match e with|.normal=>Wal P y σ' Q|e=>Q e σ'):Wal P (.seq x y) σ Q:=xI (xJ hl h)
theorem aCn{id:Nat}(h:Wal P c σ fun e σ'=>match e with|.exit id'=>if id'=id then Q .normal σ' else Q (.exit id') σ'|e=>Q e σ'):Wal P (.block id c) σ Q:=fun G N ds a w hm hZ hd hs=>by
 refine(WpR.plain P).block (cD (h G N ds a w hm hZ hd hs) ?_)
 rintro e a' w' ⟨σ',hq,hs'⟩
 cases e with
 | exit id' =>
  simp only[DC]at hq ⊢
  split at hq
  ·rename_i he;rw[Ar he];exact⟨σ',hq,hs'⟩
  ·rename_i he;rw[Aj he];exact⟨σ',hq,hs'⟩
 |_=>exact⟨σ',hq,hs'⟩
theorem aYv{τ:Type}(Good:τ→Prop)(S:τ→St)(m:τ→Nat)(x0:τ)(h0:Good x0)(hk:∃ ρ,Wk σ (S x0) ρ)
  (h:∀ x,Good x→Wal P c (S x) fun e σ'=>match e with|.normal=>∃ y,Good y∧m y<m x∧∃ ρ,Wk σ' (S y) ρ|e=>Q e σ'):Wal P (.loop c) σ Q:=fun G N ds a w hm hZ hd hs=>by
 refine(WpR.plain P).loop (fun n a w=>∃ x,Good x∧m x=n∧SR G N ds (S x) a w) ⟨m x0,x0,h0,rfl,kZ (.inr hk) hs⟩ ?_
 rintro n a w ⟨x,hg,rfl,hsx⟩
 refine cD (h x hg G N ds a w hm hZ hd hsx) ?_
 rintro e a' w' ⟨σ',hq,hs'⟩
 cases e with
 | normal =>
  obtain⟨y,hgy,hlt,hk⟩:=hq
  exact⟨m y,hlt,y,hgy,rfl,kZ (.inr hk) hs'⟩
 |_=>exact⟨σ',hq,hs'⟩
theorem aYu{id:Nat}{l:List Oper}(hno:fP l=true)(h:OAd P l.toArray (Q .normal) l.length (AX l.length false) σ .mk):Wal P (.region id l.toArray true) σ Q:=fun G N ds a w hm hZ hd hs =>
 (WpR.plain P).regA hm (fun e=>by cases e) fun d=>uM (Q:=Q .normal) (N:=N) (ds:=ds) (G:=G) (by simpa using hno) (fun i o d hi hd'=>⟨pB hd i o d hi hd',hZ d⟩) (fun σ' a' w' hq hs'=>⟨σ',hq,hs'⟩) _ _ σ _ _ (hs.env ⟨rfl,rfl,rfl,0,by simp⟩) h
theorem aHr{σ2:St}(hk:∃ ρ,Wk σ σ2 ρ)(h:Wal P c σ2 Q):Wal P c σ Q:=fun G N ds a w hm hZ hd hs=>h G N ds a w hm hZ hd (kZ (.inr hk) hs)
theorem aZw {f N:Nat} {fn:Func} {args:List D} {r:D} (hm:P.follows .mixedOrders=true) (hf:P.funcs[f]? = some fn) (hb:fn.body=some c) (hname:(fn.name == "runtime.NumGoroutine")=false) (hN:fn.ntmps=N)
  (hd:bT N c=true) (ha:args.length≤N) (h:Wal P c (St0 args N) fun e σ=>(e=.normal∨e=.ret)∧iX P fn.results.toList σ=some r):Spec P f args r:=by
 intro A W vs hA hl hv
 have hn:¬ fn.name = "runtime.NumGoroutine" := by simpa using hname
 refine⟨fun w=>by simp[callFunc,hf,hn,hb],?_⟩
 refine gX hf hb ?_
 subst hN
 refine(WpR.plain P).okv fun hok=>cD (h _ _ _ _ _ hm (fun _=>rfl) hd (SR0 hok hA hl hv ha)) ?_
 rintro e a w ⟨σ,⟨he,hr⟩,hs⟩
 have hend:a.defers=[]∧∀ v1,Env w v1→∃ x,aO P (results fn a.tmps) v1=.ok x v1∧Below W.heap.size W v1∧VD (fun b=>A b∨(W.heap.size≤b∧b<v1.heap.size)) v1 r x:=by
  refine⟨hs.2.2.2.elim fun _ h=>h.elim fun _ h=>h.2.2.2.2.1,fun v1 he=>?_⟩
  have hs1:=hs.env he
  obtain⟨v,hrun,hvd⟩:=dZ hs1 hr
  obtain⟨_,_,_,F,ι,hR,_,_,_,hdf,_⟩:=hs1
  refine⟨v,hrun,⟨hR.kept.os,hR.kept.tape,hR.kept.output,hR.kept.size,fun k hk=>hR.kept.block k hk (fun h=>h)⟩,hvd.mono ?_⟩
  rintro b (h|h|h)
  ·exact .inl h
  ·exact h.elim
  ·exact .inr h
 rcases he with rfl|rfl<;>exact hend
end
end Go.Am
end
section
open List renaming map_map→ζ,mapM_map→ξ
namespace Go.Am
open Go.Conc
open RowKit (Below)
theorem bKk{P:Program}{f N:Nat}{fn:Func}{c:Code}{args:List D}{r:D}(hm:P.follows .mixedOrders=true)(hf:P.funcs[f]? = some fn)(hb:fn.body=some c)(hi:P.inits.idxOf? f=none)(hN:fn.ntmps=N)
    (hd:bT N c=true) (ha:args.length≤N) (h:letI:=cT P;Wal P c (St0 args N) fun e σ=>(e=.normal∨e=.ret)∧iX P fn.results.toList σ=some r)
    {W:World} {vs:Array Value} (hl:args.length=vs.size) (hv:∀(k:Nat) d v,args[k]? = some d→vs[k]? = some v→VD (fun b=>b<(strike W).heap.size) (strike W) d v) :
    dI P (qZ W r) (solo (G (CP P f vs .normal) []) W) #[]:=by
  refine aNl hf hb hi ?_
  letI:=cT P
  subst hN
  refine cD (h _ _ _ _ _ hm (fun _=>rfl) hd (SR0 (A:=fun b=>b<(strike W).heap.size) (uS W) (fun _ h=>h) hl hv ha)) ?_
  rintro e a w ⟨σ,⟨he,hr⟩,hs⟩
  have hend:a.defers=[]∧∀ v1,Env w v1→∃ x,aO P (results fn a.tmps) v1=.ok x v1∧Below (strike W).heap.size (strike W) v1∧VD (fun b=>b<v1.heap.size) v1 r x:=by
    refine⟨hs.2.2.2.elim fun _ h=>h.elim fun _ h=>h.2.2.2.2.1,fun v1 he=>?_⟩
    have hs1:=hs.env he
    obtain⟨v,hrun,hvd⟩:=dZ hs1 hr
    obtain⟨_,_,_,F,ι,hR,_,_,_,hdf,_⟩:=hs1
    have hsz:=hR.kept.size
    refine⟨v,hrun,⟨hR.kept.os,hR.kept.tape,hR.kept.output,hR.kept.size,fun k hk=>hR.kept.block k hk (fun h=>h)⟩,hvd.mono ?_⟩
    rintro b (h|h|h)
    · exact A3 h hsz
    · exact h.elim
    · exact h.2
  rcases he with rfl|rfl<;>exact hend
end Go.Am
end
section
open List renaming map_map→ζ,mapM_map→ξ
namespace Go.Am
open Go.Conc
open RowKit (Below)
def bVk(P:Program)[M:Mch P](fn:Func)(N:Nat)(args:List D)(r:D):Prop :=
  ∃ c,fn.body=some c∧fn.ntmps=N∧bT N c=true∧args.length≤N∧Wal P c (St0 args N) fun e σ=>(e=.normal∨e=.ret)∧iX P fn.results.toList σ=some r
theorem aKl{P:Program}[M:Mch P]{fn:Func}{N:Nat}{c:Code}{args:List D}{r:D}(hb:fn.body=some c)(hN:fn.ntmps=N)(hd:bT N c=true)(ha:args.length≤N)
    (h:Wal P c (St0 args N) fun e σ=>(e=.normal∨e=.ret)∧iX P fn.results.toList σ=some r):bVk P fn N args r:=⟨c,hb,hN,hd,ha,h⟩
theorem wA{W:World}{a:Addr}{x:Value}(h:W.cell? a=some x):(strike W).cell? a=some x:=by
  obtain⟨c,t,f,hb,hlt,hs⟩:=nT h
  have:(strike W).heap[a.block]? = some (.cells c t f):=by rw[jD,hb];rfl
  simp only[Bw,hb,this]at h ⊢
  exact h
theorem VD.strike{F:Nat→Prop}{W:World}{d:D}{x:Value}(h:VD F W d x):VD F (strike W) d x:=by
  induction h with
  |b x=>exact .b x
  |i k n=>exact .i k n
  |sl0 ad c=>exact .sl0 ad c
  |sl els ad n c sz f hn hc hsz hFb hcell hel ih=>exact .sl els ad n c sz f hn hc hsz hFb (fun j hj=>wA (hcell j hj)) ih
  |ag cs vs hl h ih=>exact .ag cs vs hl ih
  |tp cs vs hl h ih=>exact .tp cs vs hl ih
  |lit v=>exact .lit v
  |pt cs ad f hFb hcell hel ih=>exact .pt cs ad f hFb (fun j hj=>wA (hcell j hj)) ih
  |fn g cs vs hl h ih=>exact .fn g cs vs hl ih
  |mp k ks ds b ents clock hFb hb' hst hl hl' hk hv ih=>exact .mp k ks ds b ents clock hFb (by rw[jD,hb'];rfl) hst hl hl' hk ih
  |iff t x v h ih=>exact .iff t x v ih
  |fm g x u h ih=>exact .fm g x u ih
theorem bKn{P:Program}{f N:Nat}{fn:Func}{args:List D}{r:D}(hm:P.follows .mixedOrders=true)(hf:P.funcs[f]? = some fn)(hi:P.inits.idxOf? f=none)(h:letI:=cT P;bVk P fn N args r)
    {W:World} {vs:Array Value} {Q:Value→World→Prop} (hl:args.length=vs.size) (hv:∀(k:Nat) d v,args[k]? = some d→vs[k]? = some v→VD (fun b=>b<W.heap.size) W d v)
    (hQ:∀ x W',Below W.heap.size W W'→(∃(F:Nat→Prop) (v':World),VD F v' r x)→Q x W') :
    ∃ M last o w' t',runNT P (M+1) (solo (G (CP P f vs .normal) []) W) #[]=(.ended o w',t')∧runN P M (solo (G (CP P f vs .normal) []) W)=.next last∧step P last=.ended o w'∧Conc.Good P Q last o w' t':=by
  obtain⟨c,hb,hN,hd,ha,hw⟩:=h
  obtain⟨M,last,o,w',t',h1,h2,h3,h4⟩:=bKk hm hf hb hi hN hd ha hw (W:=W) (vs:=vs) hl fun k d v hk hv'=>by
    have:=(hv k d v hk hv').strike
    simpa[lF]using this
  refine⟨M,last,o,w',t',h1,h2,h3,h4.mono fun x hx=>?_⟩
  obtain⟨q1,q2,q3,q4,q5,v',q6⟩:=hx
  exact hQ x w' ⟨q2,q3,q4,q5,fun k hk=>q1 k hk⟩ ⟨_,v',q6⟩
end Go.Am
end
section
open List renaming map_map→ζ,mapM_map→ξ
namespace Go.Am
variable {P:Program} [Mc:Mch P]
theorem aJx(f:FuncId)(cs:List Operand)(Γ:Nat→AV)(n:Nat):nev P (.makeFunc (.func f) #[] cs.toArray) Γ n=some (.fn f (cs.map (oev Γ)),none):=by
 simp[nev,cZ]
theorem bCg(t : TypeId)(x : Tmp)(i : Operand)(Γ : Nat → AV)(n : Nat) : nev P (.index t (.tmp x) i) Γ n = cZ ((wT P t).bind fun p => (tsz P p.2).bind fun sz => (cB P p.2).bind fun ag => (eY (oev Γ i)).bind fun k => (xE (oev Γ (.tmp x))).bind fun cs =>
      if 0≤k∧k<p.1 then(if ag then(if k.toNat*sz+sz≤cs.length then some (.ag ((cs.drop (k.toNat*sz)).take sz))else none)else cs[k.toNat*sz]?)else none):=rfl
theorem bUd(f:FuncId)(cs:List D):inj (.fn f cs)=.d (.fn f cs):=rfl
theorem bNn(f:FuncId)(cs:List D):aT (.fn f cs)=.d (.fn f cs):=rfl
theorem bNm(cs:List D):aT (.pt cs)=.fp cs:=rfl
theorem bDv(v:Value):aT (.lit v)=.d (.lit v):=rfl
theorem bDh(H:Hp)(avs:List AV)(f:FuncId)(cs:List D):bC H avs (.fn f cs)=cC H avs:=rfl
theorem bDg(H:Hp)(avs:List AV)(cs:List D):bC H avs (.pt cs)=cC H avs:=rfl
theorem aPp(f:FuncId)(cs:List AV):dS (.fn f cs)=some (f,cs):=rfl
theorem aLj(f:FuncId)(cs:List D):dS (.d (.fn f cs))=some (f,cs.map aT):=rfl
theorem aLi(f:FuncId):dS (.d (.lit (.func (.func f) #[] #[])))=some (f,[]):=rfl
theorem bNv(H:Hp)(n:Nat)(f:FuncId)(cs:List AV):frz H (n+1) (.fn f cs)=(cs.mapM (frz H n)).map (.fn f):=rfl
theorem bNu(H:Hp)(n:Nat)(cs:List D):frz H (n+1) (.fp cs)=some (.pt cs):=rfl
theorem bEk(H : Hp)(n : Nat)(id off : Nat) : frz H (n + 1) (.ptr id off) = match H id with
      |some (.cells _ cs)=>if off≤cs.length then((cs.drop off).mapM (frz H n)).map .pt else none
      |_=>none:=rfl
theorem bJe(H:Hp)(n:Nat)(f:FuncId)(cs:List AV):vis H (n+1) (.fn f cs)=cs.flatMap (vis H n):=rfl
theorem bJd(H:Hp)(n:Nat)(cs:List D):vis H (n+1) (.fp cs)=[]:=rfl
theorem aYx(H : Hp)(n : Nat)(id off : Nat) : vis H (n + 1) (.ptr id off) = match H id with
      |some (.cells _ cs)=>id::(cs.drop off).flatMap (vis H n)
      |_=>[]:=rfl
theorem aWz(f:FuncId)(cs:List AV):dG (.fn f cs)=some [.fn f cs]:=rfl
theorem aPn(f:FuncId)(cs:List D):dG (.d (.fn f cs))=some [.d (.fn f cs)]:=rfl
theorem bAn(l:List Nat)(f:FuncId)(cs:List AV):jB l (.fn f cs)=.fn f (cs.map (aFe l)):=rfl
section
variable (dst:Option Tmp) (ty:TypeId) (pos:String) (after:Array Edge) (guard:Option (Nat×Bool)) (σ:St) (con:List Nat) (k:St→List Nat→Prop)
theorem aF(f:Fn)(x y:Array Operand)(d:Dm ((⟨dst,.makeFunc f x y,ty,pos,after,guard⟩:Oper),k)):O1d P ⟨dst,.makeFunc f x y,ty,pos,after,guard⟩ σ con k d=cP (nev P (.makeFunc f x y) σ.Γ σ.n) (fun p=>k ⟨bM σ.Γ dst p.1,gM σ.H σ.n p.2,cnt p.2 σ.n⟩ con) .mk:=bZ rfl rfl
theorem aJ(t:TypeId)(x y:Operand)(d:Dm ((⟨dst,.index t x y,ty,pos,after,guard⟩:Oper),k)):O1d P ⟨dst,.index t x y,ty,pos,after,guard⟩ σ con k d=cP (nev P (.index t x y) σ.Γ σ.n) (fun p=>k ⟨bM σ.Γ dst p.1,gM σ.H σ.n p.2,cnt p.2 σ.n⟩ con) .mk:=bZ rfl rfl
def bQv(P:Program)[Mc:Mch P](c:Option (FuncId×List AV))(avs:List AV)(H:Hp)(k:List AV→D→Prop)(_:Dm k):Prop:=match c with
 |some (f,cs)=>∃ ds r,cO H (avs++cs)=some ds∧Spec P f ds r∧k (avs++cs) r
 |none=>False
def aSw(P:Program)[Mc:Mch P](x:AV)(avs:List AV)(H:Hp)(k:List AV→D→Prop)(_:Dm k):Prop:=match x with
 |.d (.fm f d)=>∃ ds r,cO H (.d d::avs)=some ds∧Spec P f ds r∧k (.d d::avs) r
 |_=>False
def aSu(P:Program)[Mc:Mch P](c:Option (FuncId×List AV))(x:AV)(avs:List AV)(H:Hp)(k:List AV→D→Prop)(_:Dm k):Prop:=match c with
 |some p=>bQv P (some p) avs H k .mk
 |none=>aSw P x avs H k .mk
theorem aPq(p:FuncId×List AV)(x:AV)(avs:List AV)(H:Hp)(k:List AV→D→Prop)(d:Dm k):aSu P (some p) x avs H k d=bQv P (some p) avs H k .mk:=rfl
theorem aK(t:Tmp)(args:List Operand)(ts:Array TypeId)(d:Dm ((⟨dst,.call ⟨.value (.tmp t),args.toArray,ts⟩,ty,pos,after,guard⟩:Oper),k)):O1d P ⟨dst,.call ⟨.value (.tmp t),args.toArray,ts⟩,ty,pos,after,guard⟩ σ con k d =
  aSu P (dS (σ.Γ t)) (σ.Γ t) (args.map (oev σ.Γ)) σ.H (fun avs r=>k ⟨bM σ.Γ dst (inj r),kill (bC σ.H avs r) σ.H,σ.n⟩ (bC σ.H avs r++con)) .mk:=by
 unfold O1d;simp only[O1,aSu,aSw]
 cases dS (σ.Γ t)with
 |none=>rfl
 |some p=>obtain⟨f,cs⟩:=p;rfl
end
attribute [simp] aPq aJx bCg bUd bNn bNm bDv aPp aLj aLi bNv bNu bEk bJe bJd aYx aWz aPn bAn bDh bDg
end Go.Am
end
section
open List renaming map_map→ζ,mapM_map→ξ
open Go Go.Am Go.Proofs
namespace Go.Am
theorem oB{raw:List Nat}{n:Nat}(hn:n<raw.length)(h0:raw[n]≠0):strip (raw.take (n+1))=raw.take (n+1):=by
 refine oT ?_
 rw[A7,Ab hn,lS,Option.toList_some,List.getLast?_append]
 simp[h0]
theorem oA{raw:List Nat}{n:Nat}(hn:n<raw.length)(h0:raw[n]=0):strip (raw.take (n+1))=strip (raw.take n):=by
 rw[A7,Ab hn,h0]
 exact yP _
set_option maxRecDepth 10000 in
theorem eB[M:Mch Aa](raw:List Nat)(neg:Bool)(hl:raw.length≤1099511627776):Spec Aa 18 [aG raw,.b neg] (encI (neg&&decide (strip raw≠[])) (strip raw)):=by
 refine bI (N:=31) Tryz.func18 ?_
 simp[-ζ,-ξ,↓KW,aG]
 refine lL (τ:={ n:Nat // n≤raw.length∧strip (raw.take n)=strip raw }) (S:=fun n=>StL [(0,.d (aG raw)),(1,.d (.b neg)),(4,.ptr 1 0),(5,.d (.i .i64 n.1))] none [.cells 31 [.d (.b false),.nil]]) (m:=fun n=>n.1) ⟨raw.length,AE _,by simp⟩ ?_ ?_
 ·refine wkQ [1] ?_ ?_
  ·simp[-ζ,upd,aT,Γ0,aG]
  ·simp[-ζ,upd,aT,Γ0]
 ·rintro⟨n,hn,hs⟩
  rcases n with _|n
  ·have hs':strip raw=[]:=hs.symm
   cases neg<;>simp[-ζ,-ξ,↓KW,aG,encI,hs',chunk]
  ·have hx:raw[n]? = some raw[n]:=Ab hn
   have hw:Ag.wrap (n:Int)=n:=aV
   have hp:(0:Int)<(n:Int)+1:=by omega
   by_cases h0:raw[n]=0
   ·simp[-ζ,-ξ,↓KW,aG,hx,hw,h0,hp]
    refine⟨n,by omega,⟨by omega,(oA hn h0).symm.trans hs⟩,.inr (wkQ [1] ?_ ?_)⟩<;>simp[-ζ,upd,aT,Γ0,aG]
   ·have h1:((raw[n]:Int)==0)=false:=by simp;omega
    have he:strip raw=raw.take (n+1):=hs.symm.trans (oB hn h0)
    have hp2:(0:Int)≤(n:Int)+1:=by omega
    have hn':(n:Int)+1≤raw.length:=by omega
    obtain⟨pre,hpre⟩:∃ pre,raw.take (n+1)=pre:=⟨_,rfl⟩
    have hpl:pre.length=n+1:=by rw[←hpre];simp;omega
    have hp1:∀ f:Nat→List D,(raw.map f).take (n+1)=pre.map f:=fun f=>by rw[←hpre,Gq]
    have hpn:pre≠[]:=fun e=>by rw[e]at hpl;cases hpl
    rw[hpre]at he
    have hb:(n+1)*4≤140737488355328:=by omega
    have hb2:n+1≤maxLen:=by unfold maxLen;omega
    cases neg<;>simp[-ζ,-ξ,↓KW,aG,encI,hx,hw,h1,hp,hp2,he,hn',hp1,hpl,hpn,dT hpl,cR hpl,aKi,aRu,jJ,hb,hb2]
theorem cS{raw:List Nat}(h:Lim raw)(neg:Bool):encI (neg&&decide (strip raw≠[])) (strip raw)=encZ (sg neg (val raw)):=by
 rw[fD h,←bOi]
 simp[iL]
set_option maxRecDepth 10000 in
theorem aIz[M:Mch Aa](n:Int)(h1:-9223372036854775808≤n)(h2:n<9223372036854775808):Spec Aa 11 [.i .i64 n] (encZ n):=by
 refine bI (N:=19) Tryz.func11 ?_
 have key:∀(u:Nat),u<18446744073709551616→∃ lo hi:Nat,Lim [lo,hi]∧val [lo,hi]=u∧BC.wrap (u:Int)=lo∧dW .shr .u64 (u:Int) 32=some (.i .u64 hi)∧BC.wrap (hi:Int)=hi:=fun u hu=>by
  refine⟨u%4294967296,u/4294967296,.cons (by omega) (.one (by omega)),by simp only[val];omega,by rw[fL];omega,?_,by rw[wrap_u32 (by omega) (by omega)]⟩
  simp only[dW,Cz]
  rw[Aj (by decide)]
  congr 2
  rw[show(2:Int)^(min (32:Int).toNat 64)=4294967296 from by decide,CL _ (by decide)]
  omega
 by_cases hn:n<0
 ·obtain⟨u,hu⟩:∃ u:Nat,n=-(u:Int):=⟨n.natAbs,by omega⟩
  have hu2:u<18446744073709551616:=by omega
  have e1:Az.wrap n=n+18446744073709551616:=by rw[uO];omega
  have e2:Az.wrap (-(n+18446744073709551616))=(u:Int):=by rw[uO];omega
  obtain⟨lo,hi,k1,k2,e3,e4,e5⟩:=key u hu2
  simp[-ζ,-ξ,↓KW,hn,e1,e2,e3,e4,e5]
  have hm:=eB [lo,hi] true (by simp)
  rw[cS k1,k2,show sg true u=n by simp[sg];omega]at hm
  refine bJ (ds:=[aG [lo,hi],.b true]) ?_ hm ?_
  ·simp[-ζ,-ξ,↓KW,aG]
  ·simp[-ζ,-ξ,↓KW,aG,encZ,encI]
 ·obtain⟨u,rfl⟩:∃ u:Nat,n=(u:Int):=⟨n.natAbs,by omega⟩
  have hu2:u<18446744073709551616:=by omega
  have e1:Az.wrap (u:Int)=u:=wrap_u64 (by omega) (by omega)
  obtain⟨lo,hi,k1,k2,e3,e4,e5⟩:=key u hu2
  simp[-ζ,-ξ,↓KW,hn,e1,e3,e4,e5]
  have hm:=eB [lo,hi] false (by simp)
  rw[cS k1,k2,show sg false u=u by simp[sg]]at hm
  refine bJ (ds:=[aG [lo,hi],.b false]) ?_ hm ?_
  ·simp[-ζ,-ξ,↓KW,aG]
  ·simp[-ζ,-ξ,↓KW,aG,encZ,encI]
set_option maxRecDepth 10000 in
theorem bLg[M:Mch Aa](neg:Bool)(m:List Nat):Spec Aa 64 [encI neg m] (.i .i64 (if m=[]then 0 else if neg then -1 else 1)):=by
 refine bI (N:=9) Tryz.func64 ?_
 cases m with
 |nil=>simp[-ζ,-ξ,↓KW,encI,aG]
 | cons x m =>
  have h1:(((m.length:Int)+1==0):Bool)=false:=by simp;omega
  cases neg<;>simp[-ζ,-ξ,↓KW,encI,aG,h1]
theorem kN[M:Mch Aa](z:Int):Spec Aa 64 [encZ z] (.i .i64 z.sign):=by
 have:=bLg (decide (z<0)) (aM z.natAbs)
 have e:(if aM z.natAbs=[]then(0:Int)else if(decide (z<0))=true then -1 else 1)=z.sign:=by
  simp only[iL]
  rcases Ff z 0 with h|h|h
  ·rw[Aj (by omega),Ar (by simpa using h),DN h]
  ·subst h;rfl
  ·rw[Aj (by omega),Aj (by simp;omega),DG h]
 rwa [e]at this
def mL(a b:List Nat):Bool:=if a.length=b.length then decide (val a<val b)else decide (a.length<b.length)
theorem fF(x y:Nat):mL (aM x) (aM y)=decide (x<y):=by
 unfold mL
 by_cases h:(aM x).length=(aM y).length
 ·rw[Ar h,cE,cE]
 ·rw[Aj h]
  by_cases h1:(aM x).length<(aM y).length
  ·simp[h1,gK h1]
  ·have:=gK (a:=y) (b:=x) (by omega)
   simp only[h1,decide_false]
   simp;omega
set_option maxRecDepth 10000 in
theorem xQ[M:Mch Aa](a b:List Nat)(ha:Lim a)(hb:Lim b)(hla:a.length≤1099511627776)(hlb:b.length≤1099511627776):Spec Aa 62 [aG a,aG b] (.b (mL a b)):=by
 refine bI (N:=41) Tryz.func62 ?_
 by_cases hn:a.length=b.length
 rotate_left
 ·have h1:(((a.length:Int) != b.length):Bool)=true:=by simp;omega
  simp[-ζ,-ξ,↓KW,aG,h1,mL,hn]
 ·have h1:(((a.length:Int) != b.length):Bool)=false:=by simp;omega
  have hw:Ag.wrap ((a.length:Int)-1)=(a.length:Int)-1:=aV
  simp[-ζ,-ξ,↓KW,aG,h1,hw]
  refine lL (τ:={ k:Nat // k≤a.length∧a.drop k=b.drop k }) (S:=fun k=>StL [(0,.d (aG a)),(1,.d (aG b)),(5,.d (.i .i64 ((k.1:Int)-1)))] none []) (m:=fun k=>k.1) ⟨a.length,AE _,by rw[C8 (AE _),C8 (by omega)]⟩ ?_ ?_
  ·refine wkQ [] ?_ ?_<;>simp[-ζ,upd,aT,Γ0,aG]
  ·rintro⟨k,hk,hd⟩
   rcases k with _|k
   ·have e:a=b:=by simpa using hd
    subst e
    simp[-ζ,-ξ,↓KW,aG,mL]
   ·have hkb:k<b.length:=by omega
    have hxa:a[k]? = some a[k]:=Ab hk
    have hxb:b[k]? = some b[k]:=Ab hkb
    have hw2:Ag.wrap ((k:Int)-1)=(k:Int)-1:=aV
    have hp:(0:Int)≤k:=by omega
    by_cases he:a[k]=b[k]
    ·have h2:(((a[k]:Int) != (b[k]:Int)):Bool)=false:=by simp[he]
     simp[-ζ,-ξ,↓KW,aG,hxa,hxb,hw2,hp,h2]
     refine⟨k,by omega,⟨by omega,?_⟩,.inr (wkQ [] ?_ ?_)⟩
     ·rw[Cx hk,Cx hkb,he,hd]
     ·simp[-ζ,upd,aT,Γ0,aG]
     ·trivial
    ·have h2:(((a[k]:Int) != (b[k]:Int)):Bool)=true:=by simp;omega
     simp[-ζ,-ξ,↓KW,aG,hxa,hxb,hw2,hp,h2,mL,hn]
     have ga:a.getD k 0=a[k]:=by rw[Af,hxa];rfl
     have gb:b.getD k 0=b[k]:=by rw[Af,hxb];rfl
     rcases AY a[k] b[k]with hlt|hge
     ·have:=qF ha (i:=k) hn hk hd (by rw[ga,gb];exact hlt)
      simp[hlt,this]
     ·have:=qF hb (i:=k) hn.symm hkb hd.symm (by rw[ga,gb];omega)
      omega
set_option maxRecDepth 10000 in
theorem bBn[M:Mch Aa](x y:Int)(hx:(aM x.natAbs).length≤1099511627776)(hy:(aM y.natAbs).length≤1099511627776):Spec Aa 31 [encZ x,encZ y] (.b (decide (x=y))):=by
 refine bI (N:=26) Tryz.func31 ?_
 have l1:=xQ _ _ (bW x.natAbs) (bW y.natAbs) hx hy
 have l2:=xQ _ _ (bW y.natAbs) (bW x.natAbs) hy hx
 rw[fF]at l1 l2
 unfold encZ encI
 generalize aM x.natAbs=a at *
 generalize aM y.natAbs=b at *
 by_cases hs:decide (x<0)=decide (y<0)
 rotate_left
 ·have h1:(decide (x<0)==decide (y<0))=false:=by simpa using hs
  have h2:¬x=y:=fun e=>hs (by rw[e])
  simp[-ζ,-ξ,↓KW,aG,h1,h2]
 ·have h1:(decide (x<0)==decide (y<0))=true:=by simpa using hs
  simp[-ζ,-ξ,↓KW,aG,h1]
  refine aH l1 ?_
  by_cases h3:x.natAbs<y.natAbs
  ·have h2:¬x=y:=fun e=>by rw[e]at h3;omega
   simp[-ζ,-ξ,↓KW,aG,h3,h2]
  ·simp[-ζ,-ξ,↓KW,aG,h3]
   refine aH l2 ?_
   simp[-ζ,-ξ,↓KW,aG]
   have hs':x<0↔y<0:=by simpa using hs
   rw[Bool.eq_iff_iff]
   simp
   omega
def plS(a b:List Nat):Nat→List Nat×Nat
 |0=>([],0)
 |i+1=>((plS a b i).1++[((plS a b i).2+a.getD i 0+b.getD i 0)%4294967296],((plS a b i).2+a.getD i 0+b.getD i 0)/4294967296)
theorem kD{a b:List Nat}(ha:Lim a)(hb:Lim b):∀ i,(plS a b i).1.length=i∧(plS a b i).2≤1∧Lim (plS a b i).1∧val (plS a b i).1+4294967296^i*(plS a b i).2=val (a.take i)+val (b.take i)
 |0=>⟨rfl,A8 _,.nil,by simp[plS,val]⟩
 | i+1=>by
  obtain⟨h1,h2,h3,h4⟩:=kD ha hb i
  have ha':=ha.getD i
  have hb':=hb.getD i
  simp only[plS]
  generalize(plS a b i).1=out at *
  generalize(plS a b i).2=c at *
  refine⟨by simp[h1],by omega,h3.app (.one (by omega)),?_⟩
  rw[jY,cF,cF,h1,BJ]
  simp only[val]
  have h5:4294967296^i*((c+a.getD i 0+b.getD i 0)%4294967296)+4294967296^i*4294967296*((c+a.getD i 0+b.getD i 0)/4294967296)=4294967296^i*c+4294967296^i*a.getD i 0+4294967296^i*b.getD i 0:=by
   rw[BT,←Cq,Nat.mod_add_div,Cq,Cq]
  simp only[C1,B6]
  omega
def plN(a b:List Nat):Nat:=if(plS a b (max a.length b.length)).2=0 then max a.length b.length else max a.length b.length+1
def zF(a b:List Nat):List Nat:=(plS a b (plN a b)).1
theorem getD_none{l:List Nat}{i:Nat}(h:¬i<l.length):l.getD i 0=0:=by rw[Af,A6 (by omega)];rfl
theorem aDb{a b:List Nat}(ha:Lim a)(hb:Lim b){i:Nat}(h1:a.length≤i)(h2:b.length≤i):(plS a b (i+1)).2=0:=by
 have h:=(kD ha hb i).2.1
 show((plS a b i).2+a.getD i 0+b.getD i 0)/4294967296=0
 rw[getD_none (l:=a) (by omega),getD_none (l:=b) (by omega)]
 omega
theorem aJh{a b:List Nat}(ha:Lim a)(hb:Lim b){i:Nat}(h1:a.length≤i)(h2:b.length≤i)(hc:(plS a b i).2=0):val (plS a b i).1=val a+val b:=by
 have h:=(kD ha hb i).2.2.2
 rw[Ax h1,Ax h2,hc,C1,B6]at h
 exact h
theorem aUx{a b:List Nat}(ha:Lim a)(hb:Lim b):val (zF a b)=val a+val b∧Lim (zF a b)∧(zF a b).length≤max a.length b.length+1:=by
 unfold zF plN
 have h1:a.length≤max a.length b.length:=by omega
 have h2:b.length≤max a.length b.length:=by omega
 generalize max a.length b.length=M at *
 by_cases hc:(plS a b M).2=0
 ·rw[Ar hc]
  have h:=kD ha hb M
  exact⟨aJh ha hb h1 h2 hc,h.2.2.1,by rw[h.1];omega⟩
 ·rw[Aj hc]
  have h:=kD ha hb (M+1)
  exact⟨aJh ha hb (by omega) (by omega) (aDb ha hb h1 h2),h.2.2.1,by rw[h.1];exact AE _⟩
theorem getD_some{l:List Nat}{i:Nat}(h:i<l.length):l[i]? = some (l.getD i 0):=by rw[Af,Ab h];rfl
set_option maxRecDepth 10000 in
theorem bLf[M:Mch Aa](a b:List Nat)(ha:Lim a)(hb:Lim b)(hla:a.length≤1099511627776)(hlb:b.length≤1099511627776):Spec Aa 61 [aG a,aG b] (aG (zF a b)):=by
 refine bI (N:=55) Tryz.func61 ?_
 simp[-ζ,-ξ,↓KW,aG]
 refine cL (fun i:Nat=>i≤max a.length b.length∨(i=max a.length b.length+1∧(plS a b (max a.length b.length)).2≠0))
  (fun i=>StL [(0,.d (aG a)),(1,.d (aG b)),(5,.own 1 0 i 1),(6,.d (.i .u64 (plS a b i).2)),(7,.d (.i .i64 i))] none [.cells 89 ((lms (plS a b i).1).map .d)]) (fun i=>max a.length b.length+1-i) 0 (.inl (A8 _)) ?_ ?_
 ·refine wkQ [1] ?_ ?_<;>simp[-ζ,upd,aT,Γ0,aG,plS,lms]
 ·intro i hi
  obtain⟨hlen,hc,_,_⟩:=kD ha hb i
  have hsucc:plS a b (i+1)=((plS a b i).1++[((plS a b i).2+a.getD i 0+b.getD i 0)%4294967296],((plS a b i).2+a.getD i 0+b.getD i 0)/4294967296):=rfl
  have hstop:(i<a.length∨i<b.length∨0<(plS a b i).2)∨i=plN a b:=by
   unfold plN
   rcases hi with hi|⟨hi,hc⟩
   ·by_cases h1:i=max a.length b.length
    ·subst h1
     by_cases h2:(plS a b (max a.length b.length)).2=0
     ·rw[Ar h2];exact .inr rfl
     ·exact .inl (.inr (.inr (by omega)))
    ·exact .inl (by omega)
   ·rw[Aj hc];exact .inr hi
  have hnext:(i<a.length∨i<b.length∨0<(plS a b i).2)→i≤max a.length b.length∧(i+1≤max a.length b.length∨(i+1=max a.length b.length+1∧(plS a b (max a.length b.length)).2≠0)):=by
   intro h
   rcases hi with hi|⟨hi,hc2⟩
   ·refine⟨hi,?_⟩
    by_cases h1:i=max a.length b.length
    ·subst h1;exact .inr ⟨rfl,by omega⟩
    ·exact .inl (by omega)
   ·exfalso
    have e:(plS a b i).2=0:=by
     rw[hi];exact aDb ha hb (by omega) (by omega)
    omega
  have hal:=ha.getD i
  have hbl:=hb.getD i
  have hres:i=plN a b→(plS a b i).1=zF a b:=fun e=>by rw[e];rfl
  generalize hout:(plS a b i).1=out at *
  generalize hcar:(plS a b i).2=c at *
  by_cases hgo:i<a.length∨i<b.length∨0<c
  ·obtain⟨hi1,hi2⟩:=hnext hgo
   have hb1:(i+1)*4≤140737488355328:=by omega
   have hb2:i+1≤maxLen:=by unfold maxLen;omega
   have hw7:Ag.wrap ((i:Int)+1)=(i:Int)+1:=aV
   have hpos:(0:Int)≤i:=by omega
   obtain⟨s1,hs1⟩:∃ s1:Nat,c+a.getD i 0=s1:=⟨_,rfl⟩
   obtain⟨s2,hs2⟩:∃ s2:Nat,s1+b.getD i 0=s2:=⟨_,rfl⟩
   rw[hs1,hs2]at hsucc
   have hw1:Az.wrap ((c:Int)+((a.getD i 0:Nat):Int))=s1:=by rw[wrap_u64 (by omega) (by omega)];omega
   have hw2:Az.wrap ((s1:Int)+((b.getD i 0:Nat):Int))=s2:=by rw[wrap_u64 (by omega) (by omega)];omega
   have hwa:Az.wrap ((a.getD i 0:Nat):Int)=((a.getD i 0:Nat):Int):=wrap_u64 (by omega) (by omega)
   have hwb:Az.wrap ((b.getD i 0:Nat):Int)=((b.getD i 0:Nat):Int):=wrap_u64 (by omega) (by omega)
   obtain⟨lo,hlo⟩:∃ lo:Nat,s2%4294967296=lo:=⟨_,rfl⟩
   obtain⟨hi',hhi⟩:∃ hi':Nat,s2/4294967296=hi':=⟨_,rfl⟩
   have hw3:BC.wrap (s2:Int)=lo:=by rw[fL];omega
   have hw4:Az.wrap ((s2:Int).tdiv 4294967296)=hi':=by
    rw[Int.tdiv_eq_ediv_of_nonneg (by omega),wrap_u64 (by omega) (by omega)];omega
   have hw4':Az.wrap ((s2:Int)/4294967296)=hi':=by rw[wrap_u64 (by omega) (by omega)];omega
   rw[hlo,hhi]at hsucc
   have hcase:(a.getD i 0=0∧¬i<a.length)∨i<a.length:=by
    by_cases h:i<a.length
    ·exact .inr h
    ·exact .inl ⟨getD_none h,h⟩
   have hcase2:(b.getD i 0=0∧¬i<b.length)∨i<b.length:=by
    by_cases h:i<b.length
    ·exact .inr h
    ·exact .inl ⟨getD_none h,h⟩
   rcases hcase with ⟨ha0,han⟩|han<;>rcases hcase2 with ⟨hb0,hbn⟩|hbn
   ·have q1:¬(i:Int)<a.length:=by omega
    have q2:¬(i:Int)<b.length:=by omega
    have q3:0<c:=by omega
    rw[ha0]at hs1;rw[hb0]at hs2
    have e2:s2=c:=by omega
    rw[e2]at hw3 hw4 hw4'
    simp[-ζ,-ξ,↓KW,aG,q1,q2,q3,hw3,hw4,hw7,hb1,hb2,hlen]
    refine aN (i+1) hi2 ?_ (wkQ [3] ?_ ?_)
    ·omega
    ·simp[-ζ,upd,aT,Γ0,aG,hsucc,eC,eO,hw4']
    ·simp[-ζ,upd,aT,Γ0,aG,hsucc,eC,eO]
   ·have q1:¬(i:Int)<a.length:=by omega
    have q2:(i:Int)<b.length:=by omega
    rw[ha0]at hs1
    have e1:s1=c:=by omega
    have g2:=getD_some hbn
    rw[e1]at hw2
    generalize b.getD i 0=y at *
    simp[-ζ,-ξ,↓KW,aG,q1,q2,g2,hwb,hw2,hw3,hw4,hw7,hb1,hb2,hlen]
    refine aN (i+1) hi2 ?_ (wkQ [3] ?_ ?_)
    ·omega
    ·simp[-ζ,upd,aT,Γ0,aG,hsucc,eC,eO,hw4']
    ·simp[-ζ,upd,aT,Γ0,aG,hsucc,eC,eO]
   ·have q1:(i:Int)<a.length:=by omega
    have q2:¬(i:Int)<b.length:=by omega
    rw[hb0]at hs2
    have e2:s2=s1:=by omega
    have g1:=getD_some han
    rw[e2]at hw3 hw4 hw4'
    generalize a.getD i 0=x at *
    simp[-ζ,-ξ,↓KW,aG,q1,q2,g1,hwa,hw1,hw3,hw4,hw7,hb1,hb2,hlen]
    refine aN (i+1) hi2 ?_ (wkQ [3] ?_ ?_)
    ·omega
    ·simp[-ζ,upd,aT,Γ0,aG,hsucc,eC,eO,hw4']
    ·simp[-ζ,upd,aT,Γ0,aG,hsucc,eC,eO]
   ·have q1:(i:Int)<a.length:=by omega
    have q2:(i:Int)<b.length:=by omega
    have g1:=getD_some han
    have g2:=getD_some hbn
    generalize a.getD i 0=x at *
    generalize b.getD i 0=y at *
    simp[-ζ,-ξ,↓KW,aG,q1,q2,g1,g2,hwa,hwb,hw1,hw2,hw3,hw4,hw7,hb1,hb2,hlen]
    refine aN (i+1) hi2 ?_ (wkQ [3] ?_ ?_)
    ·omega
    ·simp[-ζ,upd,aT,Γ0,aG,hsucc,eC,eO,hw4']
    ·simp[-ζ,upd,aT,Γ0,aG,hsucc,eC,eO]
  ·have e:=hstop.resolve_left hgo
   have h1:¬(i:Int)<a.length:=by omega
   have h2:¬(i:Int)<b.length:=by omega
   have h3:c=0:=by omega
   have h4:=hres e
   subst h3
   simp[-ζ,-ξ,↓KW,aG,h1,h2,hlen,dT hlen,cR hlen,←h4]
def miS(a b:List Nat):Nat→List Nat×Nat
 |0=>([],0)
 |i+1=>if(miS a b i).2+b.getD i 0≤a.getD i 0 then((miS a b i).1++[a.getD i 0-((miS a b i).2+b.getD i 0)],0)else((miS a b i).1++[a.getD i 0+4294967296-((miS a b i).2+b.getD i 0)],1)
theorem aDm{p o vb va x y c z:Nat}(h4:o+vb=va+p*c)(hx:x=z+(c+y)):o+p*z+(vb+p*y)=va+p*x:=by
 subst hx;rw[Cq,Cq];omega
theorem aVo{p o vb va x y c z k:Nat}(h4:o+vb=va+p*c)(hx:x+k=z+(c+y)):o+p*z+(vb+p*y)=va+p*x+p*k:=by
 have:=aDm (p:=p) (x:=x+k) h4 hx
 rw[Cq]at this;omega
theorem bMk{p va vb i:Nat}{out:List Nat}{c x y z:Nat}(hz:x=z+(c+y))(hl:z<4294967296)(h1:out.length=i)(hp:4294967296^i=p)(h3:Lim out)(h4:val out+vb=va+p*c) :
  (out++[z]).length=i+1∧Lim (out++[z])∧val (out++[z])+(vb+p*y)=va+p*x:=by
 refine⟨by simp[h1],h3.app (.one hl),?_⟩
 simp only[jY,val,C1,B6,h1,hp]
 exact aDm h4 hz
theorem bMl{p va vb i:Nat}{out:List Nat}{c x y z k:Nat}(hz:x+k=z+(c+y))(hl:z<4294967296)(h1:out.length=i)(hp:4294967296^i=p)(h3:Lim out)(h4:val out+vb=va+p*c) :
  (out++[z]).length=i+1∧Lim (out++[z])∧val (out++[z])+(vb+p*y)=va+p*x+p*k:=by
 refine⟨by simp[h1],h3.app (.one hl),?_⟩
 simp only[jY,val,C1,B6,h1,hp]
 exact aVo h4 hz
theorem aKd(a b:List Nat)(i:Nat):miS a b (i+1)=if(miS a b i).2+b.getD i 0≤a.getD i 0 then((miS a b i).1++[a.getD i 0-((miS a b i).2+b.getD i 0)],0)else((miS a b i).1++[a.getD i 0+4294967296-((miS a b i).2+b.getD i 0)],1):=rfl
theorem bHf{a b:Nat}(q:Nat)(h:a=b):a=b+q*0:=by rw[C1,B6];exact h
theorem bHe{a b:Nat}(q:Nat)(h:a=b+q):a=b+q*1:=by rw[DJ];exact h
theorem aGd{a b:List Nat}(ha:Lim a)(hb:Lim b)(i:Nat):(miS a b i).1.length=i∧(miS a b i).2≤1∧Lim (miS a b i).1∧val (miS a b i).1+val (b.take i)=val (a.take i)+4294967296^i*(miS a b i).2:=by
 induction i with
 |zero=>exact⟨rfl,A8 _,.nil,by simp[miS,val]⟩
 | succ i ih =>
  obtain⟨h1,h2,h3,h4⟩:=ih
  have hx:=ha.getD i
  have hy:=hb.getD i
  rw[cF,cF,BJ,aKd]
  generalize(miS a b i).1=out at *
  generalize(miS a b i).2=c at *
  generalize a.getD i 0=x at *
  generalize b.getD i 0=y at *
  generalize hp:4294967296^i=p at *
  by_cases h:c+y≤x
  ·rw[Ar h]
   obtain⟨z,hz,hz'⟩:∃ z,x-(c+y)=z∧x=z+(c+y):=⟨_,rfl,(Nat.sub_add_cancel h).symm⟩
   rw[hz];clear hz
   obtain⟨q1,q2,q3⟩:=bMk hz' (by omega) h1 hp h3 h4
   exact⟨q1,A8 _,q2,bHf _ q3⟩
  ·rw[Aj h]
   obtain⟨z,hz,hz'⟩:∃ z,x+4294967296-(c+y)=z∧x+4294967296=z+(c+y):=⟨_,rfl,(Nat.sub_add_cancel (by omega)).symm⟩
   rw[hz];clear hz
   obtain⟨q1,q2,q3⟩:=bMl hz' (by omega) h1 hp h3 h4
   exact⟨q1,AE _,q2,bHe _ q3⟩
def lY(a b:List Nat):List Nat:=(miS a b a.length).1
theorem nF{a b:List Nat}(ha:Lim a)(hb:Lim b)(hl:b.length≤a.length)(hv:val b≤val a):val (lY a b)=val a-val b∧Lim (lY a b)∧(lY a b).length=a.length:=by
 obtain⟨h1,h2,h3,h4⟩:=aGd ha hb a.length
 rw[Ax hl,Ax (AE _)]at h4
 refine⟨?_,h3,h1⟩
 have hlt:=oQ h3
 rw[h1]at hlt
 unfold lY
 generalize(miS a b a.length).1=out at *
 generalize(miS a b a.length).2=c at *
 rcases AY 0 c with hc|hc
 ·have:c=1:=by omega
  rw[this,DJ]at h4;omega
 ·have:c=0:=by omega
  rw[this,C1]at h4;omega
set_option maxRecDepth 10000 in
theorem aIx[M:Mch Aa](a b:List Nat)(ha:Lim a)(hb:Lim b)(hla:a.length≤1099511627776)(_hlb:b.length≤1099511627776):Spec Aa 63 [aG a,aG b] (aG (lY a b)):=by
 refine bI (N:=44) Tryz.func63 ?_
 simp[-ζ,-ξ,↓KW,aG]
 refine cL (fun i:Nat=>i≤a.length)
  (fun i=>StL [(0,.d (aG a)),(1,.d (aG b)),(5,.own 1 0 i 1),(6,.d (.i .i64 (miS a b i).2)),(7,.d (.i .i64 i))] none [.cells 89 ((lms (miS a b i).1).map .d)]) (fun i=>a.length-i) 0 (A8 _) ?_ ?_
 ·refine wkQ [1] ?_ ?_<;>simp[-ζ,upd,aT,Γ0,aG,miS,lms]
 ·intro i hi
  obtain⟨hlen,hc,_,_⟩:=aGd ha hb i
  have hsucc:miS a b (i+1)=if(miS a b i).2+b.getD i 0≤a.getD i 0 then((miS a b i).1++[a.getD i 0-((miS a b i).2+b.getD i 0)],0)else((miS a b i).1++[a.getD i 0+4294967296-((miS a b i).2+b.getD i 0)],1):=rfl
  have hal:=ha.getD i
  have hbl:=hb.getD i
  have hres:i=a.length→(miS a b i).1=lY a b:=fun e=>by rw[e];rfl
  generalize hout:(miS a b i).1=out at *
  generalize hcar:(miS a b i).2=c at *
  by_cases hgo:i<a.length
  ·have hb1:(i+1)*4≤140737488355328:=by omega
   have hb2:i+1≤maxLen:=by unfold maxLen;omega
   have hw7:Ag.wrap ((i:Int)+1)=(i:Int)+1:=aV
   have q1:(i:Int)<a.length:=by omega
   have g1:=getD_some hgo
   have hb0:¬i<b.length→b.getD i 0=0:=getD_none
   have g2:i<b.length→b[i]? = some (b.getD i 0):=getD_some
   generalize a.getD i 0=x at *
   generalize b.getD i 0=y at *
   have hwx:Ag.wrap (x:Int)=x:=aV
   have hwy:Ag.wrap (y:Int)=y:=aV
   obtain⟨d1,hd1⟩:∃ d1:Int,(x:Int)-c=d1:=⟨_,rfl⟩
   obtain⟨d,hd⟩:∃ d:Int,d1-y=d:=⟨_,rfl⟩
   have hw1:Ag.wrap ((x:Int)-c)=d1:=by rw[aV];exact hd1
   have hw2:Ag.wrap (d1-y)=d:=by rw[aV];exact hd
   by_cases hneg:d<0
   ·rw[Aj (by omega)]at hsucc
    obtain⟨lo,hlo⟩:∃ lo:Nat,x+4294967296-(c+y)=lo:=⟨_,rfl⟩
    rw[hlo]at hsucc
    have hw3:Ag.wrap (d+4294967296)=lo:=by rw[aV];omega
    have hw4:BC.wrap (lo:Int)=lo:=wrap_u32 (by omega) (by omega)
    by_cases hbn:i<b.length
    ·have q2:(i:Int)<b.length:=by omega
     have g3:=g2 hbn
     simp[-ζ,-ξ,↓KW,aG,q1,q2,g1,g3,hwx,hwy,hw1,hw2,hw3,hw4,hneg,hw7,hb1,hb2,hlen]
     refine aN (i+1) hgo ?_ (wkQ [3] ?_ ?_)
     ·omega
     ·simp[-ζ,upd,aT,Γ0,aG,hsucc,eC,eO]
     ·simp[-ζ,upd,aT,Γ0,aG,hsucc,eC,eO]
    ·have q2:¬(i:Int)<b.length:=by omega
     have e1:d1=d:=by have:=hb0 hbn;omega
     rw[e1]at hw1
     simp[-ζ,-ξ,↓KW,aG,q1,q2,g1,hwx,hw1,hw3,hw4,hneg,hw7,hb1,hb2,hlen]
     refine aN (i+1) hgo ?_ (wkQ [3] ?_ ?_)
     ·omega
     ·simp[-ζ,upd,aT,Γ0,aG,hsucc,eC,eO]
     ·simp[-ζ,upd,aT,Γ0,aG,hsucc,eC,eO]
   ·rw[Ar (by omega)]at hsucc
    obtain⟨lo,hlo⟩:∃ lo:Nat,x-(c+y)=lo:=⟨_,rfl⟩
    rw[hlo]at hsucc
    have e0:d=lo:=by omega
    rw[e0]at hw2 hneg
    have hw4:BC.wrap (lo:Int)=lo:=wrap_u32 (by omega) (by omega)
    by_cases hbn:i<b.length
    ·have q2:(i:Int)<b.length:=by omega
     have g3:=g2 hbn
     simp[-ζ,-ξ,↓KW,aG,q1,q2,g1,g3,hwx,hwy,hw1,hw2,hw4,hneg,hw7,hb1,hb2,hlen]
     refine aN (i+1) hgo ?_ (wkQ [3] ?_ ?_)
     ·omega
     ·simp[-ζ,upd,aT,Γ0,aG,hsucc,eC,eO]
     ·simp[-ζ,upd,aT,Γ0,aG,hsucc,eC,eO]
    ·have q2:¬(i:Int)<b.length:=by omega
     have e1:d1=lo:=by have:=hb0 hbn;omega
     rw[e1]at hw1
     simp[-ζ,-ξ,↓KW,aG,q1,q2,g1,hwx,hw1,hw4,hneg,hw7,hb1,hb2,hlen]
     refine aN (i+1) hgo ?_ (wkQ [3] ?_ ?_)
     ·omega
     ·simp[-ζ,upd,aT,Γ0,aG,hsucc,eC,eO]
     ·simp[-ζ,upd,aT,Γ0,aG,hsucc,eC,eO]
  ·have e:i=a.length:=by omega
   have h1:¬(i:Int)<a.length:=by omega
   have h4:=hres e
   simp[-ζ,-ξ,↓KW,aG,h1,hlen,dT hlen,cR hlen,←h4]
set_option maxRecDepth 10000 in
theorem sZ[M:Mch Aa](x y:Int)(hx:(aM x.natAbs).length≤549755813888)(hy:(aM y.natAbs).length≤549755813888):Spec Aa 22 [encZ x,encZ y] (encZ (x+y)):=by
 refine bI (N:=39) Tryz.func22 ?_
 have la:=bW x.natAbs
 have lb:=bW y.natAbs
 have va:=cE x.natAbs
 have vb:=cE y.natAbs
 have hless:(aM x.natAbs).length<(aM y.natAbs).length→x.natAbs<y.natAbs:=gK
 have hless2:(aM y.natAbs).length<(aM x.natAbs).length→y.natAbs<x.natAbs:=gK
 have hl:=xQ _ _ la lb (by omega) (by omega)
 rw[fF]at hl
 have sx:=fM x
 have sy:=fM y
 have ex:encZ x=.ag [.b (decide (x<0)),aG (aM x.natAbs)]:=rfl
 have ey:encZ y=.ag [.b (decide (y<0)),aG (aM y.natAbs)]:=rfl
 rw[ex,ey]
 generalize aM x.natAbs=a at *
 generalize aM y.natAbs=b at *
 generalize hbx:decide (x<0)=nx at *
 generalize hby:decide (y<0)=ny at *
 by_cases hn:nx=ny
 ·have h1:(nx==ny)=true:=by simpa using hn
  simp[-ζ,-ξ,↓KW,aG,h1]
  obtain⟨pv,pl,pn⟩:=aUx la lb
  refine aH (bLf a b la lb (by omega) (by omega)) ?_
  simp[-ζ,-ξ,↓KW,aG]
  have hm:=eB (zF a b) nx (by omega)
  rw[cS pl,pv,va,vb]at hm
  refine aH hm ?_
  have e:sg nx (x.natAbs+y.natAbs)=x+y:=by
   rw[←sx,←sy,←hn];cases nx<;>simp[sg]<;>omega
  rw[e]
  simp[-ζ,-ξ,↓KW,aG,encZ,encI]
 ·have h1:(nx==ny)=false:=by simpa using hn
  simp[-ζ,-ξ,↓KW,aG,h1]
  refine aH hl ?_
  by_cases hlt:x.natAbs<y.natAbs
  ·simp[-ζ,-ξ,↓KW,aG,hlt]
   obtain⟨pv,pl,pn⟩:=nF lb la (by omega) (by omega)
   refine aH (aIx b a lb la (by omega) (by omega)) ?_
   simp[-ζ,-ξ,↓KW,aG]
   have hm:=eB (lY b a) ny (by omega)
   rw[cS pl,pv,va,vb]at hm
   refine aH hm ?_
   have e:sg ny (y.natAbs-x.natAbs)=x+y:=by
    rw[←sx,←sy]
    cases nx<;>cases ny<;>simp[sg]at hn ⊢<;>omega
   rw[e]
   simp[-ζ,-ξ,↓KW,aG,encZ,encI]
  ·simp[-ζ,-ξ,↓KW,aG,hlt]
   obtain⟨pv,pl,pn⟩:=nF la lb (by omega) (by omega)
   refine aH (aIx a b la lb (by omega) (by omega)) ?_
   simp[-ζ,-ξ,↓KW,aG]
   have hm:=eB (lY a b) nx (by omega)
   rw[cS pl,pv,va,vb]at hm
   refine aH hm ?_
   have e:sg nx (x.natAbs-y.natAbs)=x+y:=by
    rw[←sx,←sy]
    cases nx<;>cases ny<;>simp[sg]at hn ⊢<;>omega
   rw[e]
   simp[-ζ,-ξ,↓KW,aG,encZ,encI]
theorem aEy{l:List Nat}{j:Nat}(h:j<l.length)(v:Nat):val (l.set j v)+4294967296^j*l.getD j 0=val l+4294967296^j*v:=by
 induction l generalizing j with
 |nil=>simp at h
 | cons x l ih =>
  cases j with
  |zero=>simp only[DO,val,Nat.pow_zero,Nat.one_mul,List.getD_cons_zero];omega
  | succ j =>
   have:=ih (j:=j) (by simpa using h)
   simp only[List.set_cons_succ,val,List.getD_cons_succ,BJ]
   generalize 4294967296^j=p at *
   generalize l.getD j 0=o at *
   generalize val (l.set j v)=w at *
   rw[BV p,BT,BT]
   generalize p*o=e1 at *
   generalize p*v=e2 at *
   omega
def muI(out:List Nat)(x:Nat)(b:List Nat)(i:Nat):Nat→List Nat×Nat
 |0=>(out,0)
 |k+1=>((muI out x b i k).1.set (i+k) (((muI out x b i k).2+(muI out x b i k).1.getD (i+k) 0+x*b.getD k 0)%4294967296),((muI out x b i k).2+(muI out x b i k).1.getD (i+k) 0+x*b.getD k 0)/4294967296)
def muN(out:List Nat)(x:Nat)(b:List Nat)(i:Nat):Nat:=if(muI out x b i b.length).2=0 then b.length else b.length+1
def muO(a b:List Nat):Nat→List Nat
 |0=>Aw (a.length+b.length+1) 0
 |i+1=>(muI (muO a b i) (a.getD i 0) b i (muN (muO a b i) (a.getD i 0) b i)).1
theorem bCp{P v v' o c t q r e w k:Nat}(hs:v'+P*o=v+P*r)(ht:r+k*q=t)(ht2:c+o+e=t)(hv:v+P*c=w):v'+P*k*q=w+P*e:=by
 have h1:P*t=P*r+P*(k*q):=by rw[←ht,Cq]
 have h2:P*t=P*c+P*o+P*e:=by rw[←ht2,Cq,Cq]
 rw[BT]
 omega
theorem aOe{c o x y:Nat}(hc:c<4294967296)(ho:o<4294967296)(hx:x<4294967296)(hy:y<4294967296):c+o+x*y<18446744073709551616:=by
 have:x*y≤4294967295*4294967295:=Bg (by omega) (by omega)
 omega
theorem qS{out b:List Nat}{x i:Nat}(ho:Lim out)(hb:Lim b)(hx:x<4294967296)(hl:i+b.length<out.length)(k:Nat)(hk:k≤b.length+1) :
  (muI out x b i k).1.length=out.length∧(muI out x b i k).2<4294967296∧Lim (muI out x b i k).1∧val (muI out x b i k).1+4294967296^(i+k)*(muI out x b i k).2=val out+4294967296^i*(x*val (b.take k)):=by
 induction k with
 |zero=>exact⟨rfl,Nat.zero_lt_of_lt hx,ho,by simp[muI,val]⟩
 | succ k ih =>
  obtain⟨h1,h2,h3,h4⟩:=ih (by omega)
  have hy:=hb.getD k
  have hoo:=h3.getD (i+k)
  have hset:=aEy (l:=(muI out x b i k).1) (j:=i+k) (by omega) (((muI out x b i k).2+(muI out x b i k).1.getD (i+k) 0+x*b.getD k 0)%4294967296)
  have hlim:=aOe h2 hoo hx hy
  rw[cF]
  simp only[muI]
  generalize(muI out x b i k).1=out' at *
  generalize(muI out x b i k).2=c at *
  generalize out'.getD (i+k) 0=o at *
  generalize b.getD k 0=y at *
  refine⟨by simp[h1],by omega,h3.set _ (by omega),?_⟩
  have:=bCp hset (Nat.mod_add_div _ _) rfl h4
  rw[←DH i k 1,BJ,this,E6,Cq,Cq,BT,DH]
  congr 2
  rw[Fg x]
theorem aKb{out b:List Nat}{x i:Nat}(ho:Lim out)(hb:Lim b)(hx:x<4294967296)(hl:i+b.length<out.length)(hv:val out<4294967296^(i+b.length)):(muI out x b i (b.length+1)).2=0:=by
 obtain⟨_,_,_,h4⟩:=qS ho hb hx hl (b.length+1) (AE _)
 rw[Ax (by omega)]at h4
 have hbv:=oQ hb
 rcases Be (muI out x b i (b.length+1)).2 with h|h
 ·exact h
 exfalso
 have e1:4294967296^(i+(b.length+1))*1≤4294967296^(i+(b.length+1))*(muI out x b i (b.length+1)).2:=Cc _ h
 have e2:x*val b≤4294967295*4294967296^b.length:=Bg (by omega) (by omega)
 have e3:4294967296^i*(x*val b)≤4294967296^i*(4294967295*4294967296^b.length):=Cc _ e2
 have e4:4294967296^i*(4294967295*4294967296^b.length)=4294967295*4294967296^(i+b.length):=by rw[E6,Fg]
 have e5:4294967296^(i+(b.length+1))=4294967296^(i+b.length)*4294967296:=by rw[←DH,BJ]
 rw[DJ,e5]at e1
 rw[e5]at h4
 rw[e4]at e3
 generalize 4294967296^(i+b.length)=p at *
 generalize 4294967296^i*(x*val b)=q at *
 generalize(muI out x b i (b.length+1)).2=c at *
 generalize p*4294967296*c=d at *
 omega
theorem bMh{out b:List Nat}{x i:Nat}(ho:Lim out)(hb:Lim b)(hx:x<4294967296)(hl:i+b.length<out.length)(hv:val out<4294967296^(i+b.length)) :
  (muI out x b i (muN out x b i)).1.length=out.length∧Lim (muI out x b i (muN out x b i)).1∧val (muI out x b i (muN out x b i)).1=val out+4294967296^i*(x*val b):=by
 unfold muN
 have hstop:=aKb ho hb hx hl hv
 by_cases h:(muI out x b i b.length).2=0
 ·rw[Ar h]
  obtain⟨h1,_,h3,h4⟩:=qS ho hb hx hl b.length (by omega)
  rw[Ax (by omega),h,C1,B6]at h4
  exact⟨h1,h3,h4⟩
 ·rw[Aj h]
  obtain⟨h1,_,h3,h4⟩:=qS ho hb hx hl (b.length+1) (AE _)
  rw[Ax (by omega),hstop,C1,B6]at h4
  exact⟨h1,h3,h4⟩
theorem aOf{a b:List Nat}(ha:Lim a)(hb:Lim b){i:Nat}(hi:i≤a.length):val (a.take i)*val b<4294967296^(i+b.length):=by
 have h1:=oQ (ha.take i)
 rw[List.length_take,Nat.min_eq_left hi]at h1
 have h2:=oQ hb
 rw[E6]
 exact Nat.mul_lt_mul'' h1 h2
theorem bMg{a b:List Nat}(ha:Lim a)(hb:Lim b)(i:Nat)(hi:i≤a.length):(muO a b i).length=a.length+b.length+1∧Lim (muO a b i)∧val (muO a b i)=val (a.take i)*val b:=by
 induction i with
 |zero=>exact⟨by simp[muO],.rep _,by simp[muO,xK,val]⟩
 | succ i ih =>
  obtain⟨h1,h2,h3⟩:=ih (by omega)
  have hv:=aOf ha hb (i:=i) (by omega)
  rw[←h3]at hv
  obtain⟨q1,q2,q3⟩:=bMh (x:=a.getD i 0) (i:=i) h2 hb (ha.getD i) (by omega) hv
  refine⟨q1.trans h1,q2,?_⟩
  show val (muI (muO a b i) (a.getD i 0) b i (muN (muO a b i) (a.getD i 0) b i)).1=_
  rw[q3,h3,cF,B2,BT]
set_option maxRecDepth 10000 in
theorem jI[M:Mch Aa](x y:Int)(hx:(aM x.natAbs).length≤137438953472)(hy:(aM y.natAbs).length≤137438953472):Spec Aa 24 [encZ x,encZ y] (encZ (x*y)):=by
 refine bI (N:=81) Tryz.func24 ?_
 have la:=bW x.natAbs
 have lb:=bW y.natAbs
 have va:=cE x.natAbs
 have vb:=cE y.natAbs
 have sx:=fM x
 have sy:=fM y
 have ex:encZ x=.ag [.b (decide (x<0)),aG (aM x.natAbs)]:=rfl
 have ey:encZ y=.ag [.b (decide (y<0)),aG (aM y.natAbs)]:=rfl
 rw[ex,ey]
 generalize aM x.natAbs=a at *
 generalize aM y.natAbs=b at *
 generalize hbx:decide (x<0)=nx at *
 generalize hby:decide (y<0)=ny at *
 obtain⟨n,hn⟩:∃ n,a.length+b.length+1=n:=⟨_,rfl⟩
 have hw1:Ag.wrap ((a.length:Int)+b.length)=(a.length:Int)+b.length:=aV
 have hw2:Ag.wrap ((a.length:Int)+b.length+1)=(n:Int):=by rw[aV];omega
 have hm1:(4:Int)*n≤281474976710656:=by omega
 have hm2:(n:Int)≤9223372036854775807:=by omega
 have h00:muO a b 0=Aw n 0:=by rw[←hn];rfl
 simp[-ζ,-ξ,↓KW,aG,hw1,hw2,hm1,hm2]
 refine cL (fun i:Nat=>i≤a.length)
  (fun i=>StL [(2,.ptr 1 0),(3,.ptr 2 0),(4,.ptr 3 0),(5,.own 4 0 n 1),(6,.d (.i .i64 i))] none
   [.cells 31 [.d (.b nx),.d (aG a)],.cells 31 [.d (.b ny),.d (aG b)],.cells 31 [.d (.b false),.nil],.cells 89 ((lms (muO a b i)).map .d)]) (fun i=>a.length-i) 0 (A8 _) ?_ ?_
 ·refine wkQ [1,2,3,4] ?_ ?_<;>simp[-ζ,upd,aT,Γ0,aG,h00]
 ·intro i hi
  obtain⟨ol,om,ov⟩:=bMg la lb i hi
  rw[hn]at ol
  by_cases hgo:i<a.length
  ·have q1:(i:Int)<a.length:=by omega
   simp[-ζ,-ξ,↓KW,aG,q1]
   have hsucc:muO a b (i+1)=(muI (muO a b i) (a.getD i 0) b i (muN (muO a b i) (a.getD i 0) b i)).1:=rfl
   have g1:=getD_some hgo
   have hlt:=aOf la lb hi
   rw[←ov]at hlt
   generalize hout:muO a b i=out at *
   have hal:=la.getD i
   generalize a.getD i 0=xv at *
   have hwx:Az.wrap (xv:Int)=xv:=wrap_u64 (by omega) (by omega)
   refine cL (fun k:Nat=>k≤b.length∨(k=b.length+1∧(muI out xv b i b.length).2≠0))
    (fun k=>StL [(2,.ptr 1 0),(3,.ptr 2 0),(4,.ptr 3 0),(5,.own 4 0 n 1),(6,.d (.i .i64 i)),(7,.d (.i .u64 (muI out xv b i k).2)),(8,.d (.i .i64 k))] none
     [.cells 31 [.d (.b nx),.d (aG a)],.cells 31 [.d (.b ny),.d (aG b)],.cells 31 [.d (.b false),.nil],.cells 89 ((lms (muI out xv b i k).1).map .d)]) (fun k=>b.length+1-k) 0 (.inl (A8 _)) ?_ ?_
   ·refine wkQ [1,2,3,4] ?_ ?_<;>simp[-ζ,upd,aT,Γ0,aG,muI]
   ·intro k hk
    have hkl:k≤b.length+1:=by omega
    obtain⟨il,ic,im,_⟩:=qS om lb hal (i:=i) (by omega) k hkl
    have isucc:muI out xv b i (k+1)=((muI out xv b i k).1.set (i+k) (((muI out xv b i k).2+(muI out xv b i k).1.getD (i+k) 0+xv*b.getD k 0)%4294967296),((muI out xv b i k).2+(muI out xv b i k).1.getD (i+k) 0+xv*b.getD k 0)/4294967296):=rfl
    have hstop0:=aKb om lb hal (i:=i) (by omega) hlt
    have hres:(k<b.length∨0<(muI out xv b i k).2)∨muO a b (i+1)=(muI out xv b i k).1:=by
     rw[hsucc];unfold muN
     rcases hk with hk|⟨hk,hc⟩
     ·by_cases h1:k=b.length
      ·subst h1
       by_cases h2:(muI out xv b i b.length).2=0
       ·rw[Ar h2];exact .inr rfl
       ·exact .inl (.inr (by omega))
      ·exact .inl (.inl (by omega))
     ·rw[Aj hc,hk];exact .inr rfl
    have hnext:(k<b.length∨0<(muI out xv b i k).2)→k≤b.length∧(k+1≤b.length∨(k+1=b.length+1∧(muI out xv b i b.length).2≠0)):=by
     intro h
     rcases hk with hk|⟨hk,hc⟩
     ·refine⟨hk,?_⟩
      by_cases h1:k=b.length
      ·subst h1;exact .inr ⟨rfl,by omega⟩
      ·exact .inl (by omega)
     ·rw[hk,hstop0]at h;omega
    clear hstop0 hsucc
    have ho:=im.getD (i+k)
    generalize hcar:(muI out xv b i k).2=c at *
    generalize hcur:(muI out xv b i k).1=cur at *
    by_cases hg2:k<b.length∨0<c
    ·obtain⟨n1,n2⟩:=hnext hg2
     obtain⟨j,hj⟩:∃ j,i+k=j:=⟨_,rfl⟩
     rw[hj]at isucc ho
     have hjl:j<cur.length:=by omega
     have g2:=aRt (getD_some hjl)
     have hwj:Ag.wrap ((i:Int)+k)=j:=by rw[aV];omega
     have hjn:(j:Int)<n:=by omega
     have hw8:Ag.wrap ((k:Int)+1)=(k:Int)+1:=aV
     have hjl2:j<(lms cur).length:=by rw[jJ];exact hjl
     have hjl3:j+1≤n:=by omega
     have hyb:=lb.getD k
     have hlim:=aOe ic ho hal hyb
     have hy0:¬k<b.length→b.getD k 0=0:=getD_none
     have g3:k<b.length→b[k]? = some (b.getD k 0):=getD_some
     generalize cur.getD j 0=o at *
     generalize b.getD k 0=yv at *
     obtain⟨s1,hs1⟩:∃ s1:Nat,c+o=s1:=⟨_,rfl⟩
     obtain⟨t,ht⟩:∃ t:Nat,s1+xv*yv=t:=⟨_,rfl⟩
     rw[hs1]at isucc hlim
     rw[ht]at isucc hlim
     obtain⟨lo,hlo⟩:∃ lo:Nat,t%4294967296=lo:=⟨_,rfl⟩
     obtain⟨hi',hhi⟩:∃ hi':Nat,t/4294967296=hi':=⟨_,rfl⟩
     rw[hlo,hhi]at isucc
     have hwo:Az.wrap (o:Int)=o:=wrap_u64 (by omega) (by omega)
     have hws:Az.wrap ((c:Int)+o)=s1:=by rw[wrap_u64 (by omega) (by omega)];omega
     have hwlo:BC.wrap (t:Int)=lo:=by rw[fL];omega
     have hwhi:Az.wrap ((t:Int)/4294967296)=hi':=by rw[wrap_u64 (by omega) (by omega)];omega
     have hlay:lay (CI AV.d (lms cur)) j [AV.d (D.i .u32 (lo:Int))]=CI AV.d (lms (cur.set j lo)):=by
      rw[fR _ _ _ hjl2,tO]
     have hgj:List.length cur=n:=by omega
     by_cases hkb:k<b.length
     ·have q2:(k:Int)<b.length:=by omega
      have g4:=g3 hkb
      have hwy:Az.wrap (yv:Int)=yv:=wrap_u64 (by omega) (by omega)
      obtain⟨e,he⟩:∃ e:Nat,xv*yv=e:=⟨_,rfl⟩
      rw[he]at ht
      have hwm:Az.wrap ((xv:Int)*yv)=e:=by rw[←CB,he,wrap_u64 (by omega) (by omega)]
      have hwt:Az.wrap ((s1:Int)+e)=t:=by rw[wrap_u64 (by omega) (by omega)];omega
      simp[-ζ,-ξ,↓KW,aG,q2,hwj,hjn,g2,hwo,hws,g1,g4,hwx,hwy,hwm,hwt,hwlo,hwhi,hlay,hw8,hjl3,hgj]
      refine aN (k+1) n2 ?_ (wkQ [1,2,3,4] ?_ ?_)
      ·omega
      ·simp[-ζ,upd,aT,Γ0,aG,isucc]
      ·simp[-ζ,upd,aT,Γ0,aG,isucc]
     ·have q2:¬(k:Int)<b.length:=by omega
      have q3:0<c:=by omega
      have e1:t=s1:=by rw[hy0 hkb,C1]at ht;omega
      rw[e1]at hwlo hwhi
      simp[-ζ,-ξ,↓KW,aG,q2,q3,hwj,hjn,g2,hwo,hws,hwlo,hwhi,hlay,hw8,hjl3,hgj]
      refine aN (k+1) n2 ?_ (wkQ [1,2,3,4] ?_ ?_)
      ·omega
      ·simp[-ζ,upd,aT,Γ0,aG,isucc]
      ·simp[-ζ,upd,aT,Γ0,aG,isucc]
    ·have q2:¬(k:Int)<b.length:=by omega
     have q3:¬0<c:=by omega
     have hfin:=hres.resolve_left hg2
     have hw8:Ag.wrap ((i:Int)+1)=(i:Int)+1:=aV
     simp[-ζ,-ξ,↓KW,aG,q2,q3,hw8]
     refine aN (i+1) hgo ?_ (wkQ [1,2,3,4] ?_ ?_)
     ·omega
     ·simp[-ζ,upd,aT,Γ0,aG,hfin]
     ·simp[-ζ,upd,aT,Γ0,aG,hfin]
  ·have q1:¬(i:Int)<a.length:=by omega
   have e:i=a.length:=by omega
   rw[e,Ax (AE _),va,vb]at ov
   have hm:=eB (muO a b i) (nx != ny) (by omega)
   rw[cS om,e,ov]at hm
   have e2:sg (nx != ny) (x.natAbs*y.natAbs)=x*y:=by
    rw[←sx,←sy]
    cases nx<;>cases ny<;>simp[sg,D3,Int.neg_mul]
   rw[e2]at hm
   rw[e]at ol
   have e':muO a b i=muO a b a.length:=by rw[e]
   generalize muO a b a.length=out at *
   simp[-ζ,-ξ,↓KW,aG,q1,e']
   refine bJ (ds:=[aG out,.b (nx != ny)]) ?_ hm ?_
   ·simp[-ζ,-ξ,↓KW,aG,ol,dT ol,cR ol]
    cases nx<;>cases ny<;>rfl
   ·simp[-ζ,-ξ,↓KW,aG,encZ,encI,ol,dT ol,cR ol]
theorem aYc{n:Nat}(h:n≤9223372036854775807):Ag.wrap (n:Int)=n:=aV
set_option maxRecDepth 10000 in
theorem lM[M:Mch Aa](m:List Nat)(hl:m.length≤1099511627776):Spec Aa 79 [aG m] (aG (strip m)):=by
 refine bI (N:=21) Tryz.func79 ?_
 simp[-ζ,-ξ,↓KW,aG]
 refine cL (fun n:Nat=>n≤m.length∧strip (m.take n)=strip m) (fun n=>StL [(0,.d (aG m)),(3,.d (.i .i64 n))] none []) (fun n=>n) m.length ⟨AE _,by simp⟩ ?_ ?_
 ·refine wkQ [] ?_ ?_<;>simp[-ζ,upd,aT,Γ0,aG]
 ·rintro n ⟨hn,hs⟩
  rcases n with _|n
  ·have hs':strip m=[]:=hs.symm
   have h0:eW 1 (m.map fun(x:Nat)=>[D.i .u32 (x:Int)])=true:=pD m _
   simp[-ζ,-ξ,↓KW,aG,hs',h0]
  ·have hx:m[n]? = some m[n]:=Ab hn
   have hw:Ag.wrap (n:Int)=n:=aYc (by omega)
   have hp:(0:Int)<(n:Int)+1:=by omega
   have hp2:(0:Int)≤(n:Int)+1:=by omega
   by_cases h0:m[n]=0
   ·simp[-ζ,-ξ,↓KW,aG,hx,hw,h0,hp]
    refine aN n ⟨by omega,(oA hn h0).symm.trans hs⟩ (by omega) (wkQ [] ?_ ?_)<;>simp[-ζ,upd,aT,Γ0,aG]
   ·have h1:((m[n]:Int)==0)=false:=by simp;omega
    have he:strip m=m.take (n+1):=hs.symm.trans (oB hn h0)
    have hn':(n:Int)+1≤m.length:=by omega
    obtain⟨pre,hpre⟩:∃ pre,m.take (n+1)=pre:=⟨_,rfl⟩
    have hp1:∀ f:Nat→List D,(m.map f).take (n+1)=pre.map f:=fun f=>by rw[←hpre,Gq]
    rw[hpre]at he
    simp[-ζ,-ξ,↓KW,aG,hx,hw,h1,hp,hp2,he,hn',hp1,pD]
set_option maxRecDepth 10000 in
theorem aKn[M:Mch Aa](neg:Bool)(m:List Nat)(hl:m.length≤1099511627776):Spec Aa 95 [.b neg,aG m] (encI (neg&&decide (strip m≠[])) (strip m)):=by
 refine bI (N:=14) Tryz.func95 ?_
 simp[-ζ,-ξ,↓KW,aG]
 refine aH (lM m hl) ?_
 cases hm:strip m with
 | nil =>
  cases neg<;>simp[-ζ,-ξ,↓KW,aG,encI]
 | cons x l =>
  have h1:(((l.length:Int)+1==0):Bool)=false:=by simp;omega
  cases neg<;>simp[-ζ,-ξ,↓KW,aG,encI,h1]
theorem mN[M:Mch Aa]{m:List Nat}(h:Lim m)(hl:m.length≤1099511627776)(neg:Bool):Spec Aa 95 [.b neg,aG m] (encZ (sg neg (val m))):=by
 rw[←cS h];exact aKn neg m hl
set_option maxRecDepth 10000 in
theorem bNg[M:Mch Aa](neg:Bool)(m:List Nat)(hl:m.length≤1099511627776):Spec Aa 41 [encI neg m] (.i .i64 (if strip m=[]then 0 else if neg then -1 else 1)):=by
 refine bI (N:=12) Tryz.func41 ?_
 simp[-ζ,-ξ,↓KW,encI,aG]
 refine aH (lM m hl) ?_
 cases hm:strip m with
 |nil=>simp[-ζ,-ξ,↓KW,aG,encI]
 | cons x l =>
  have h1:(((l.length:Int)+1==0):Bool)=false:=by simp;omega
  cases neg<;>simp[-ζ,-ξ,↓KW,aG,encI,h1]
set_option maxRecDepth 10000 in
theorem bWx[M:Mch Aa](x:Int):Spec Aa 151 [.i .i64 x] (.b false):=by
 refine bI (N:=6) Tryz.func151 ?_
 simp[-ζ,-ξ,↓KW]
set_option maxRecDepth 10000 in
theorem bWw[M:Mch Aa](x:Int):Spec Aa 185 [.i .u32 x] (.b false):=by
 refine bI (N:=6) Tryz.func185 ?_
 simp[-ζ,-ξ,↓KW]
def mD(x y:Int):Int:=if x<y then -1 else if y<x then 1 else 0
set_option maxRecDepth 10000 in
theorem bGe[M:Mch Aa](x y:Int):Spec Aa 93 [.i .i64 x,.i .i64 y] (.i .i64 (mD x y)):=by
 refine bI (N:=20) Tryz.func93 ?_
 simp[-ζ,-ξ,↓KW]
 refine aH (bWx x) ?_
 simp[-ζ,-ξ,↓KW]
 refine aH (bWx y) ?_
 by_cases h1:x<y
 ·simp[-ζ,-ξ,↓KW,h1,mD]
 ·by_cases h2:y<x<;>simp[-ζ,-ξ,↓KW,h1,h2,mD]
set_option maxRecDepth 10000 in
theorem cAd[M:Mch Aa](x y:Int):Spec Aa 152 [.i .u32 x,.i .u32 y] (.i .i64 (mD x y)):=by
 refine bI (N:=20) Tryz.func152 ?_
 simp[-ζ,-ξ,↓KW]
 refine aH (bWw x) ?_
 simp[-ζ,-ξ,↓KW]
 refine aH (bWw y) ?_
 by_cases h1:x<y
 ·simp[-ζ,-ξ,↓KW,h1,mD]
 ·by_cases h2:y<x<;>simp[-ζ,-ξ,↓KW,h1,h2,mD]
def kX(a b:List Nat):Int:=if mL a b then -1 else if mL b a then 1 else 0
set_option maxRecDepth 10000 in
theorem zQ[M:Mch Aa](a b:List Nat)(ha:Lim a)(hb:Lim b)(hla:a.length≤1099511627776)(hlb:b.length≤1099511627776):Spec Aa 94 [aG a,aG b] (.i .i64 (kX a b)):=by
 refine bI (N:=35) Tryz.func94 ?_
 simp[-ζ,-ξ,↓KW,aG]
 refine aH (bGe _ _) ?_
 by_cases hn:a.length=b.length
 rotate_left
 ·rcases Nat.lt_or_gt_of_ne hn with h|h
  ·have h1:mD a.length b.length=-1:=by unfold mD;rw[Ar (by omega)]
   have h2:kX a b=-1:=by simp[kX,mL,hn,h]
   simp[-ζ,-ξ,↓KW,aG,h1,h2]
  ·have h1:mD a.length b.length=1:=by unfold mD;rw[Aj (by omega),Ar (by omega)]
   have h2:kX a b=1:=by
    have h3:¬a.length<b.length:=by omega
    have h4:¬b.length=a.length:=fun e=>hn e.symm
    simp[kX,mL,hn,h,h3,h4]
   simp[-ζ,-ξ,↓KW,aG,h1,h2]
 ·have h1:mD a.length b.length=0:=by simp[mD,hn]
  have hw:Ag.wrap ((a.length:Int)-1)=(a.length:Int)-1:=aV
  simp[-ζ,-ξ,↓KW,aG,h1,hw]
  refine cL (fun k:Nat=>k≤a.length∧a.drop k=b.drop k) (fun k=>StL [(0,.d (aG a)),(1,.d (aG b)),(6,.d (.i .i64 ((k:Int)-1)))] none []) (fun k=>k) a.length ⟨AE _,by rw[C8 (AE _),C8 (by omega)]⟩ ?_ ?_
  ·refine wkQ [] ?_ ?_<;>simp[-ζ,upd,aT,Γ0,aG]
  ·rintro k ⟨hk,hd⟩
   rcases k with _|k
   ·have e:a=b:=by simpa using hd
    subst e
    simp[-ζ,-ξ,↓KW,aG,mL,kX]
   ·have hkb:k<b.length:=by omega
    have hxa:a[k]? = some a[k]:=Ab hk
    have hxb:b[k]? = some b[k]:=Ab hkb
    have hw2:Ag.wrap ((k:Int)-1)=(k:Int)-1:=aV
    have hp:(0:Int)≤k:=by omega
    simp[-ζ,-ξ,↓KW,aG,hxa,hxb,hp]
    refine aH (cAd _ _) ?_
    by_cases he:a[k]=b[k]
    ·have h2:mD a[k] b[k]=0:=by simp[mD,he]
     simp[-ζ,-ξ,↓KW,aG,h2,hw2]
     refine aN k ⟨by omega,?_⟩ (by omega) (wkQ [] ?_ ?_)
     ·rw[Cx hk,Cx hkb,he,hd]
     ·simp[-ζ,upd,aT,Γ0,aG]
     ·trivial
    ·have ga:a.getD k 0=a[k]:=by rw[Af,hxa];rfl
     have gb:b.getD k 0=b[k]:=by rw[Af,hxb];rfl
     rcases AY a[k] b[k]with hlt|hge
     ·have h3:=qF ha (i:=k) hn hk hd (by rw[ga,gb];exact hlt)
      have h4:mD a[k] b[k]=-1:=by unfold mD;rw[Ar (by omega)]
      have h5:kX a b=-1:=by simp[kX,mL,hn,h3]
      simp[-ζ,-ξ,↓KW,aG,h4,h5]
     ·have h3:=qF hb (i:=k) hn.symm hkb hd.symm (by rw[ga,gb];omega)
      have h4:mD a[k] b[k]=1:=by unfold mD;rw[Aj (by omega),Ar (by omega)]
      have h6:¬val a<val b:=by omega
      have h5:kX a b=1:=by simp[kX,mL,hn,h3,h6]
      simp[-ζ,-ξ,↓KW,aG,h4,h5]
def zp(out:List Nat)(n:Nat):List Nat:=out++Aw (n-out.length) 0
theorem aEo{out:List Nat}{n:Nat}(h:out.length≤n):(zp out n).length=n:=by simp[zp];omega
theorem aEp{out:List Nat}{n:Nat}(h:out.length=n):zp out n=out:=by subst h;simp[zp]
theorem aMe(n:Nat):zp [] n=Aw n 0:=by simp[zp]
theorem bRd{out:List Nat}{n i:Nat}(h:out.length=i)(hi:i<n)(v:Nat):(zp out n).set i v=zp (out++[v]) n:=by
 subst h
 unfold zp
 obtain⟨k,hk⟩:∃ k,n-out.length=k+1:=⟨n-out.length-1,by omega⟩
 rw[hk,List.set_append_right _ _ (AE _),Nat.sub_self,List.replicate_succ,DO,A9,List.length_singleton,show n-(out.length+1)=k from by omega,List.append_assoc]
 rfl
theorem yF{out:List Nat}{n i:Nat}(h:out.length=i)(hi:i<n)(v:Nat):lay (CI AV.d (lms (zp out n))) i [AV.d (D.i .u32 (v:Int))]=CI AV.d (lms (zp (out++[v]) n)):=by
 rw[fR _ _ _ (by rw[jJ,aEo (by omega)];exact hi),tO,bRd h hi]
theorem aCu{t:Nat}:dW .shr .u64 (t:Int) 32=some (.i .u64 ((t/4294967296:Nat):Int)):=by
 simp only[dW,Cz]
 rw[Aj (by decide)]
 congr 2
 rw[show(2:Int)^(min (32:Int).toNat 64)=4294967296 from by decide,CL _ (by decide)]
 omega
theorem bPz{t:Int}(_h0:0≤t):dW .shr .u64 t 63=some (.i .u64 (t/9223372036854775808)):=by
 simp only[dW,Cz]
 rw[Aj (by decide)]
 congr 2
 rw[show(2:Int)^(min (63:Int).toNat 64)=9223372036854775808 from by decide,CL _ (by decide)]
def ip(p q:List Nat):List Nat:=(plS p q p.length).1++[(plS p q p.length).2]
theorem bDp{p q:List Nat}(lp:Lim p)(lq:Lim q)(h:q.length≤p.length):val (ip p q)=val p+val q∧Lim (ip p q)∧(ip p q).length=p.length+1:=by
 obtain⟨h1,h2,h3,h4⟩:=kD lp lq p.length
 rw[Ax (AE _),Ax h]at h4
 unfold ip
 refine⟨?_,h3.app (.one (by omega)),by simp[h1]⟩
 rw[jY,h1]
 simp only[val,C1,B6]
 exact h4
def pJ(a b:List Nat):List Nat:=if a.length<b.length then ip b a else ip a b
theorem aOm{a b:List Nat}(ha:Lim a)(hb:Lim b):val (pJ a b)=val a+val b∧Lim (pJ a b)∧(pJ a b).length≤a.length+b.length+1:=by
 unfold pJ
 by_cases h:a.length<b.length
 ·rw[Ar h]
  obtain⟨h1,h2,h3⟩:=bDp hb ha (by omega)
  exact⟨by omega,h2,by omega⟩
 ·rw[Aj h]
  obtain⟨h1,h2,h3⟩:=bDp ha hb (by omega)
  exact⟨h1,h2,by omega⟩
set_option maxRecDepth 10000 in
theorem bNh[M:Mch Aa](a b:List Nat)(ha:Lim a)(hb:Lim b)(hla:a.length≤274877906944)(hlb:b.length≤274877906944):Spec Aa 149 [aG a,aG b] (aG (pJ a b)):=by
 refine bI (N:=57) Tryz.func149 ?_
 obtain⟨p,q,lp,lq,hqp,hpl,hr,hc⟩:∃ p q:List Nat,Lim p∧Lim q∧q.length≤p.length∧p.length≤274877906944∧pJ a b=ip p q∧((a.length<b.length∧p=b∧q=a)∨(¬a.length<b.length∧p=a∧q=b)):=by
  by_cases h:a.length<b.length
  ·exact⟨b,a,hb,ha,by omega,hlb,by simp[pJ,h],.inl ⟨h,rfl,rfl⟩⟩
  ·exact⟨a,b,ha,hb,by omega,hla,by simp[pJ,h],.inr ⟨h,rfl,rfl⟩⟩
 rw[hr]
 obtain⟨n,hn⟩:∃ n,p.length+1=n:=⟨_,rfl⟩
 have hw2:Ag.wrap ((p.length:Int)+1)=(n:Int):=by rw[aV];omega
 have hm1:(4:Int)*n≤281474976710656:=by omega
 have hm2:(n:Int)≤9223372036854775807:=by omega
 rcases hc with ⟨h,hp,hq⟩|⟨h,hp,hq⟩<;>subst hp<;>subst hq
 ·have h1:(q.length:Int)<p.length:=by omega
  simp[-ζ,-ξ,↓KW,aG,h1,hw2,hm1,hm2]
  refine cL (fun i:Nat=>i≤p.length) (fun i=>StL [(0,.d (aG p)),(1,.d (aG q)),(5,.own 1 0 n 1),(6,.d (.i .u64 (plS p q i).2)),(20,.d (.i .i64 p.length)),(21,.d (.i .i64 i))] none [.cells 89 ((lms (zp (plS p q i).1 n)).map .d)]) (fun i=>p.length-i) 0 (A8 _) ?_ ?_
  ·refine wkQ [1] ?_ ?_<;>simp[-ζ,upd,aT,Γ0,aG,plS,aMe]
  ·intro i hi
   obtain⟨hlen,hc,_,_⟩:=kD lp lq i
   have hsucc:plS p q (i+1)=((plS p q i).1++[((plS p q i).2+p.getD i 0+q.getD i 0)%4294967296],((plS p q i).2+p.getD i 0+q.getD i 0)/4294967296):=rfl
   have hal:=lp.getD i
   have hbl:=lq.getD i
   have hres:i=p.length→(plS p q i).1++[(plS p q i).2]=ip p q:=fun e=>by rw[e];rfl
   generalize hout:(plS p q i).1=out at *
   generalize hcar:(plS p q i).2=c at *
   have hzl:(zp out n).length=n:=aEo (by omega)
   by_cases hgo:i<p.length
   ·have hw7:Ag.wrap ((i:Int)+1)=(i:Int)+1:=aV
    have q1:(i:Int)<p.length:=by omega
    have q3:(i:Int)<n:=by omega
    have q4:i+1≤n:=by omega
    have g1:=getD_some hgo
    have hb0:¬i<q.length→q.getD i 0=0:=getD_none
    have g2:i<q.length→q[i]? = some (q.getD i 0):=getD_some
    generalize p.getD i 0=x at *
    generalize q.getD i 0=y at *
    obtain⟨s1,hs1⟩:∃ s1:Nat,c+x=s1:=⟨_,rfl⟩
    obtain⟨s2,hs2⟩:∃ s2:Nat,s1+y=s2:=⟨_,rfl⟩
    rw[hs1,hs2]at hsucc
    have hwx:Az.wrap (x:Int)=x:=wrap_u64 (by omega) (by omega)
    have hwy:Az.wrap (y:Int)=y:=wrap_u64 (by omega) (by omega)
    have hw1:Az.wrap ((c:Int)+x)=s1:=by rw[wrap_u64 (by omega) (by omega)];omega
    have hw2':Az.wrap ((s1:Int)+y)=s2:=by rw[wrap_u64 (by omega) (by omega)];omega
    obtain⟨lo,hlo⟩:∃ lo:Nat,s2%4294967296=lo:=⟨_,rfl⟩
    have hsh:=aCu (t:=s2)
    obtain⟨hi',hhi⟩:∃ hi':Nat,s2/4294967296=hi':=⟨_,rfl⟩
    rw[hhi]at hsh
    have hw3:BC.wrap (s2:Int)=lo:=by rw[fL];omega
    rw[hlo,hhi]at hsucc
    have hlay:=yF hlen (show i<n by omega) lo
    by_cases hbn:i<q.length
    ·have q2:(i:Int)<q.length:=by omega
     have g3:=g2 hbn
     simp[-ζ,-ξ,↓KW,aG,q1,q2,q3,q4,g1,g3,hwx,hwy,hw1,hw2',hw3,hsh,hlay,hw7,hzl]
     refine aN (i+1) hgo ?_ (wkQ [1] ?_ ?_)
     ·omega
     ·simp[-ζ,upd,aT,Γ0,aG,hsucc]
     ·simp[-ζ,upd,aT,Γ0,aG,hsucc]
    ·have q2:¬(i:Int)<q.length:=by omega
     have e2:s2=s1:=by have:=hb0 hbn;omega
     rw[e2]at hw3 hsh
     simp[-ζ,-ξ,↓KW,aG,q1,q2,q3,q4,g1,hwx,hw1,hw3,hsh,hlay,hw7,hzl]
     refine aN (i+1) hgo ?_ (wkQ [1] ?_ ?_)
     ·omega
     ·simp[-ζ,upd,aT,Γ0,aG,hsucc]
     ·simp[-ζ,upd,aT,Γ0,aG,hsucc]
   ·have e:i=p.length:=by omega
    have h1:¬(i:Int)<p.length:=by omega
    have h4:=hres e
    have hn':(p.length:Int)<n:=by omega
    have hn2:p.length+1≤n:=by omega
    have hw3:BC.wrap (c:Int)=c:=wrap_u32 (by omega) (by omega)
    have hlay:=yF (hlen.trans e) (show p.length<n by omega) c
    have hfl:(out++[c]).length=n:=by simp;omega
    have h5:zp (out++[c]) n=out++[c]:=aEp hfl
    rw[h5,h4]at hlay
    rw[h4]at hfl
    simp[-ζ,-ξ,↓KW,aG,h1,hn',hn2,hw3,hlay,hzl,hfl,dT hfl,cR hfl]
 ·have h1:¬(p.length:Int)<q.length:=by omega
  simp[-ζ,-ξ,↓KW,aG,h1,hw2,hm1,hm2]
  refine cL (fun i:Nat=>i≤p.length) (fun i=>StL [(0,.d (aG p)),(1,.d (aG q)),(5,.own 1 0 n 1),(6,.d (.i .u64 (plS p q i).2)),(20,.d (.i .i64 p.length)),(21,.d (.i .i64 i))] none [.cells 89 ((lms (zp (plS p q i).1 n)).map .d)]) (fun i=>p.length-i) 0 (A8 _) ?_ ?_
  ·refine wkQ [1] ?_ ?_<;>simp[-ζ,upd,aT,Γ0,aG,plS,aMe]
  ·intro i hi
   obtain⟨hlen,hc,_,_⟩:=kD lp lq i
   have hsucc:plS p q (i+1)=((plS p q i).1++[((plS p q i).2+p.getD i 0+q.getD i 0)%4294967296],((plS p q i).2+p.getD i 0+q.getD i 0)/4294967296):=rfl
   have hal:=lp.getD i
   have hbl:=lq.getD i
   have hres:i=p.length→(plS p q i).1++[(plS p q i).2]=ip p q:=fun e=>by rw[e];rfl
   generalize hout:(plS p q i).1=out at *
   generalize hcar:(plS p q i).2=c at *
   have hzl:(zp out n).length=n:=aEo (by omega)
   by_cases hgo:i<p.length
   ·have hw7:Ag.wrap ((i:Int)+1)=(i:Int)+1:=aV
    have q1:(i:Int)<p.length:=by omega
    have q3:(i:Int)<n:=by omega
    have q4:i+1≤n:=by omega
    have g1:=getD_some hgo
    have hb0:¬i<q.length→q.getD i 0=0:=getD_none
    have g2:i<q.length→q[i]? = some (q.getD i 0):=getD_some
    generalize p.getD i 0=x at *
    generalize q.getD i 0=y at *
    obtain⟨s1,hs1⟩:∃ s1:Nat,c+x=s1:=⟨_,rfl⟩
    obtain⟨s2,hs2⟩:∃ s2:Nat,s1+y=s2:=⟨_,rfl⟩
    rw[hs1,hs2]at hsucc
    have hwx:Az.wrap (x:Int)=x:=wrap_u64 (by omega) (by omega)
    have hwy:Az.wrap (y:Int)=y:=wrap_u64 (by omega) (by omega)
    have hw1:Az.wrap ((c:Int)+x)=s1:=by rw[wrap_u64 (by omega) (by omega)];omega
    have hw2':Az.wrap ((s1:Int)+y)=s2:=by rw[wrap_u64 (by omega) (by omega)];omega
    obtain⟨lo,hlo⟩:∃ lo:Nat,s2%4294967296=lo:=⟨_,rfl⟩
    have hsh:=aCu (t:=s2)
    obtain⟨hi',hhi⟩:∃ hi':Nat,s2/4294967296=hi':=⟨_,rfl⟩
    rw[hhi]at hsh
    have hw3:BC.wrap (s2:Int)=lo:=by rw[fL];omega
    rw[hlo,hhi]at hsucc
    have hlay:=yF hlen (show i<n by omega) lo
    by_cases hbn:i<q.length
    ·have q2:(i:Int)<q.length:=by omega
     have g3:=g2 hbn
     simp[-ζ,-ξ,↓KW,aG,q1,q2,q3,q4,g1,g3,hwx,hwy,hw1,hw2',hw3,hsh,hlay,hw7,hzl]
     refine aN (i+1) hgo ?_ (wkQ [1] ?_ ?_)
     ·omega
     ·simp[-ζ,upd,aT,Γ0,aG,hsucc]
     ·simp[-ζ,upd,aT,Γ0,aG,hsucc]
    ·have q2:¬(i:Int)<q.length:=by omega
     have e2:s2=s1:=by have:=hb0 hbn;omega
     rw[e2]at hw3 hsh
     simp[-ζ,-ξ,↓KW,aG,q1,q2,q3,q4,g1,hwx,hw1,hw3,hsh,hlay,hw7,hzl]
     refine aN (i+1) hgo ?_ (wkQ [1] ?_ ?_)
     ·omega
     ·simp[-ζ,upd,aT,Γ0,aG,hsucc]
     ·simp[-ζ,upd,aT,Γ0,aG,hsucc]
   ·have e:i=p.length:=by omega
    have h1:¬(i:Int)<p.length:=by omega
    have h4:=hres e
    have hn':(p.length:Int)<n:=by omega
    have hn2:p.length+1≤n:=by omega
    have hw3:BC.wrap (c:Int)=c:=wrap_u32 (by omega) (by omega)
    have hlay:=yF (hlen.trans e) (show p.length<n by omega) c
    have hfl:(out++[c]).length=n:=by simp;omega
    have h5:zp (out++[c]) n=out++[c]:=aEp hfl
    rw[h5,h4]at hlay
    rw[h4]at hfl
    simp[-ζ,-ξ,↓KW,aG,h1,hn',hn2,hw3,hlay,hzl,hfl,dT hfl,cR hfl]
set_option maxRecDepth 10000 in
theorem aKo[M:Mch Aa](a b:List Nat)(ha:Lim a)(hb:Lim b)(hla:a.length≤274877906944):Spec Aa 150 [aG a,aG b] (aG (lY a b)):=by
 refine bI (N:=44) Tryz.func150 ?_
 obtain⟨n,hn⟩:∃ n,a.length=n:=⟨_,rfl⟩
 have hm1:(4:Int)*n≤281474976710656:=by omega
 have hm2:(n:Int)≤9223372036854775807:=by omega
 simp[-ζ,-ξ,↓KW,aG,hn,hm1,hm2]
 refine cL (fun i:Nat=>i≤n) (fun i=>StL [(0,.d (aG a)),(1,.d (aG b)),(5,.own 1 0 n 1),(6,.d (.i .u64 (miS a b i).2)),(13,.d (.i .i64 n)),(14,.d (.i .i64 i))] none [.cells 89 ((lms (zp (miS a b i).1 n)).map .d)]) (fun i=>n-i) 0 (A8 _) ?_ ?_
 ·refine wkQ [1] ?_ ?_<;>simp[-ζ,upd,aT,Γ0,aG,miS,aMe,hn]
 ·intro i hi
  obtain⟨hlen,hc,_,_⟩:=aGd ha hb i
  have hsucc:=aKd a b i
  have hal:=ha.getD i
  have hbl:=hb.getD i
  have hres:i=n→(miS a b i).1=lY a b:=fun e=>by rw[e,←hn];rfl
  generalize hout:(miS a b i).1=out at *
  generalize hcar:(miS a b i).2=c at *
  have hzl:(zp out n).length=n:=aEo (by omega)
  by_cases hgo:i<n
  ·have hw7:Ag.wrap ((i:Int)+1)=(i:Int)+1:=aV
   have q1:(i:Int)<n:=by omega
   have q4:i+1≤n:=hgo
   have g1:=getD_some (l:=a) (i:=i) (by omega)
   have hb0:¬i<b.length→b.getD i 0=0:=getD_none
   have g2:i<b.length→b[i]? = some (b.getD i 0):=getD_some
   generalize a.getD i 0=x at *
   generalize b.getD i 0=y at *
   have hwx:Az.wrap (x:Int)=x:=wrap_u64 (by omega) (by omega)
   have hwy:Az.wrap (y:Int)=y:=wrap_u64 (by omega) (by omega)
   obtain⟨d1,hd1⟩:∃ d1:Int,Az.wrap ((x:Int)-c)=d1:=⟨_,rfl⟩
   obtain⟨d,hd⟩:∃ d:Int,Az.wrap (d1-y)=d:=⟨_,rfl⟩
   have hd1':=hd1
   have hd':=hd
   rw[uO]at hd1' hd'
   have hfin:∃(lo bw:Nat),miS a b (i+1)=(out++[lo],bw)∧BC.wrap d=lo∧dW .shr .u64 d 63=some (.i .u64 (bw:Int)):=by
    by_cases hle:c+y≤x
    ·rw[Ar hle]at hsucc
     refine⟨_,_,hsucc,?_,?_⟩
     ·rw[fL];omega
     ·rw[bPz (by omega)];congr 2;omega
    ·rw[Aj hle]at hsucc
     refine⟨_,_,hsucc,?_,?_⟩
     ·rw[fL];omega
     ·rw[bPz (by omega)];congr 2;omega
   obtain⟨lo,bw,hs,hlo,hbw⟩:=hfin
   have hlay:=yF hlen hgo lo
   by_cases hbn:i<b.length
   ·have q2:(i:Int)<b.length:=by omega
    have g3:=g2 hbn
    simp[-ζ,-ξ,↓KW,aG,q1,q2,g1,g3,hwx,hwy,hd1,hd,hlo,hbw,hlay,hw7,hzl,q4]
    refine aN (i+1) hgo ?_ (wkQ [1] ?_ ?_)
    ·omega
    ·simp[-ζ,upd,aT,Γ0,aG,hs]
    ·simp[-ζ,upd,aT,Γ0,aG,hs]
   ·have q2:¬(i:Int)<b.length:=by omega
    have e1:d1=d:=by have:=hb0 hbn;omega
    rw[e1]at hd1
    simp[-ζ,-ξ,↓KW,aG,q1,q2,g1,hwx,hd1,hlo,hbw,hlay,hw7,hzl,q4]
    refine aN (i+1) hgo ?_ (wkQ [1] ?_ ?_)
    ·omega
    ·simp[-ζ,upd,aT,Γ0,aG,hs]
    ·simp[-ζ,upd,aT,Γ0,aG,hs]
  ·have e:i=n:=by omega
   have h1:¬(i:Int)<n:=by omega
   have h4:=hres e
   have h5:zp out n=out:=aEp (by omega)
   have hlen':out.length=n:=by omega
   simp[-ζ,-ξ,↓KW,aG,h1,h5,hlen',dT hlen',cR hlen',←h4]
theorem bRy(l:List Nat)(j:Nat):4294967296^j*l.getD j 0≤val l:=by
 have h:=cF l j
 have e:val l=val (l.take (j+1))+4294967296^(l.take (j+1)).length*val (l.drop (j+1)):=by rw[←jY,List.take_append_drop]
 have h2:val (l.take (j+1))≤val l:=by rw[e];exact Nat.le_add_right _ _
 rw[h]at h2
 exact AO (Nat.le_add_left _ _) h2
theorem xA{l:List Nat}{j:Nat}(h:val l<4294967296^j):l.getD j 0=0:=by
 have h1:=bRy l j
 rcases Be (l.getD j 0)with h2|h2
 ·exact h2
 ·exfalso
  have:4294967296^j*1≤4294967296^j*l.getD j 0:=Cc _ h2
  rw[DJ]at this
  omega
theorem aVn{out b:List Nat}{x i:Nat}(k j:Nat)(h:i+k≤j):(muI out x b i k).1.getD j 0=out.getD j 0:=by
 induction k with
 |zero=>rfl
 | succ k ih =>
  have:=ih (by omega)
  rw[←this]
  simp only[muI,Af]
  rw[List.getElem?_set_ne (by omega)]
def tmO(a b:List Nat):Nat→List Nat
 |0=>Aw (a.length+b.length) 0
 |i+1=>(muI (tmO a b i) (a.getD i 0) b i b.length).1.set (i+b.length) (muI (tmO a b i) (a.getD i 0) b i b.length).2
theorem aQo{a b:List Nat}(ha:Lim a)(hb:Lim b)(i:Nat)(hi:i≤a.length):(tmO a b i).length=a.length+b.length∧Lim (tmO a b i)∧val (tmO a b i)=val (a.take i)*val b:=by
 induction i with
 |zero=>exact⟨by simp[tmO],.rep _,by simp[tmO,xK,val]⟩
 | succ i ih =>
  obtain⟨h1,h2,h3⟩:=ih (by omega)
  have hv:=aOf ha hb (i:=i) (by omega)
  rw[←h3]at hv
  have hx:=ha.getD i
  obtain⟨q1,q2,q3,q4⟩:=qS (x:=a.getD i 0) (i:=i) h2 hb hx (by omega) b.length (by omega)
  have habove:=aVn (out:=tmO a b i) (b:=b) (x:=a.getD i 0) (i:=i) b.length (i+b.length) (AE _)
  rw[xA hv]at habove
  rw[Ax (AE _)]at q4
  have hset:=aEy (l:=(muI (tmO a b i) (a.getD i 0) b i b.length).1) (j:=i+b.length) (by omega) (muI (tmO a b i) (a.getD i 0) b i b.length).2
  rw[habove,C1,B6,q4]at hset
  refine⟨?_,q3.set _ q2,?_⟩
  ·show(List.set _ _ _).length=_
   rw[List.length_set,q1,h1]
  ·show val (List.set _ _ _)=_
   rw[hset,h3,cF,B2,BT]
def yM(a b:List Nat):List Nat:=tmO a b a.length
theorem aMs{a b:List Nat}(ha:Lim a)(hb:Lim b):val (yM a b)=val a*val b∧Lim (yM a b)∧(yM a b).length=a.length+b.length:=by
 obtain⟨h1,h2,h3⟩:=aQo ha hb a.length (AE _)
 rw[Ax (AE _)]at h3
 exact⟨h3,h2,h1⟩
set_option maxHeartbeats 1000000 in
set_option maxRecDepth 10000 in
theorem bDr[M:Mch Aa](a b:List Nat)(la:Lim a)(lb:Lim b)(hla:a.length≤137438953472)(hlb:b.length≤137438953472):Spec Aa 148 [aG a,aG b] (aG (yM a b)):=by
 refine bI (N:=66) Tryz.func148 ?_
 obtain⟨n,hn⟩:∃ n,a.length+b.length=n:=⟨_,rfl⟩
 have hw1:Ag.wrap ((a.length:Int)+b.length)=(n:Int):=by rw[aV];omega
 have hm1:(4:Int)*n≤281474976710656:=by omega
 have hm2:(n:Int)≤9223372036854775807:=by omega
 have h00:tmO a b 0=Aw n 0:=by rw[←hn];rfl
 simp[-ζ,-ξ,↓KW,aG,hw1,hm1,hm2]
 refine cL (fun i:Nat=>i≤a.length)
  (fun i=>StL [(0,.d (aG a)),(1,.d (aG b)),(5,.own 1 0 n 1),(17,.d (aG a)),(18,.d (.i .i64 a.length)),(19,.d (.i .i64 i))] none [.cells 89 ((lms (tmO a b i)).map .d)]) (fun i=>a.length-i) 0 (A8 _) ?_ ?_
 ·refine wkQ [1] ?_ ?_<;>simp[-ζ,upd,aT,Γ0,aG,h00]
 ·intro i hi
  obtain⟨ol,om,ov⟩:=aQo la lb i hi
  rw[hn]at ol
  by_cases hgo:i<a.length
  ·have q1:(i:Int)<a.length:=by omega
   have g1:=getD_some hgo
   have hsucc:tmO a b (i+1)=(muI (tmO a b i) (a.getD i 0) b i b.length).1.set (i+b.length) (muI (tmO a b i) (a.getD i 0) b i b.length).2:=rfl
   have hal:=la.getD i
   generalize hout:tmO a b i=out at *
   generalize a.getD i 0=xv at *
   simp[-ζ,-ξ,↓KW,aG,q1,g1]
   have hwx:Az.wrap (xv:Int)=xv:=wrap_u64 (by omega) (by omega)
   refine cL (fun k:Nat=>k≤b.length)
    (fun k=>StL [(0,.d (aG a)),(1,.d (aG b)),(5,.own 1 0 n 1),(17,.d (aG a)),(18,.d (.i .i64 a.length)),(19,.d (.i .i64 i)),(6,.d (.i .i64 i)),(7,.d (.i .u32 xv)),(8,.d (.i .u64 (muI out xv b i k).2)),(24,.d (aG b)),(25,.d (.i .i64 b.length)),(26,.d (.i .i64 k))] none
     [.cells 89 ((lms (muI out xv b i k).1).map .d)]) (fun k=>b.length-k) 0 (A8 _) ?_ ?_
   ·refine wkQ [1] ?_ ?_<;>simp[-ζ,upd,aT,Γ0,aG,muI]
   ·intro k hk
    obtain⟨il,ic,im,_⟩:=qS om lb hal (i:=i) (by omega) k (by omega)
    have isucc:muI out xv b i (k+1)=((muI out xv b i k).1.set (i+k) (((muI out xv b i k).2+(muI out xv b i k).1.getD (i+k) 0+xv*b.getD k 0)%4294967296),((muI out xv b i k).2+(muI out xv b i k).1.getD (i+k) 0+xv*b.getD k 0)/4294967296):=rfl
    have hres:k=b.length→tmO a b (i+1)=(muI out xv b i k).1.set (i+b.length) (muI out xv b i k).2:=fun e=>by rw[e];exact hsucc
    clear hsucc
    have ho:=im.getD (i+k)
    generalize hcar:(muI out xv b i k).2=c at *
    generalize hcur:(muI out xv b i k).1=cur at *
    have hgj:List.length cur=n:=by omega
    by_cases hkb:k<b.length
    ·obtain⟨j,hj⟩:∃ j,i+k=j:=⟨_,rfl⟩
     rw[hj]at isucc ho
     have hjl:j<cur.length:=by omega
     have g2:=aRt (getD_some hjl)
     have hwj:Ag.wrap ((i:Int)+k)=j:=by rw[aV];omega
     have hjn:(j:Int)<n:=by omega
     have hw8:Ag.wrap ((k:Int)+1)=(k:Int)+1:=aV
     have hjl2:j<(lms cur).length:=by rw[jJ];exact hjl
     have hjl3:j+1≤n:=by omega
     have hyb:=lb.getD k
     have hlim:=aOe ic ho hal hyb
     have g4:=getD_some hkb
     have q2:(k:Int)<b.length:=by omega
     generalize cur.getD j 0=o at *
     generalize b.getD k 0=yv at *
     obtain⟨e,he⟩:∃ e:Nat,xv*yv=e:=⟨_,rfl⟩
     rw[he]at isucc hlim
     obtain⟨s1,hs1⟩:∃ s1:Nat,e+o=s1:=⟨_,rfl⟩
     obtain⟨t,ht⟩:∃ t:Nat,c+o+e=t:=⟨_,rfl⟩
     rw[ht]at isucc hlim
     obtain⟨lo,hlo⟩:∃ lo:Nat,t%4294967296=lo:=⟨_,rfl⟩
     have hsh:=aCu (t:=t)
     obtain⟨hi',hhi⟩:∃ hi':Nat,t/4294967296=hi':=⟨_,rfl⟩
     rw[hlo,hhi]at isucc
     rw[hhi]at hsh
     have hwo:Az.wrap (o:Int)=o:=wrap_u64 (by omega) (by omega)
     have hwy:Az.wrap (yv:Int)=yv:=wrap_u64 (by omega) (by omega)
     have hwm:Az.wrap ((xv:Int)*yv)=e:=by rw[←CB,he,wrap_u64 (by omega) (by omega)]
     have hws:Az.wrap ((e:Int)+o)=s1:=by rw[wrap_u64 (by omega) (by omega)];omega
     have hwt:Az.wrap ((c:Int)+s1)=t:=by rw[wrap_u64 (by omega) (by omega)];omega
     have hwlo:BC.wrap (t:Int)=lo:=by rw[fL];omega
     have hlay:lay (CI AV.d (lms cur)) j [AV.d (D.i .u32 (lo:Int))]=CI AV.d (lms (cur.set j lo)):=by
      rw[fR _ _ _ hjl2,tO]
     simp[-ζ,-ξ,↓KW,aG,q2,hwj,hjn,g2,hwo,hws,g1,g4,hwx,hwy,hwm,hwt,hwlo,hsh,hlay,hw8,hjl3,hgj]
     refine aN (k+1) hkb ?_ (wkQ [1] ?_ ?_)
     ·omega
     ·simp[-ζ,upd,aT,Γ0,aG,isucc]
     ·simp[-ζ,upd,aT,Γ0,aG,isucc]
    ·have q2:¬(k:Int)<b.length:=by omega
     have hfin:=hres (by omega)
     have hw8:Ag.wrap ((i:Int)+1)=(i:Int)+1:=aV
     obtain⟨j,hj⟩:∃ j,i+b.length=j:=⟨_,rfl⟩
     rw[hj]at hfin
     have hwj:Ag.wrap ((i:Int)+b.length)=j:=by rw[aV];omega
     have hjn:(j:Int)<n:=by omega
     have hjl3:j+1≤n:=by omega
     have hjl2:j<(lms cur).length:=by rw[jJ];omega
     have hwc:BC.wrap (c:Int)=c:=wrap_u32 (by omega) (by omega)
     have hlay:lay (CI AV.d (lms cur)) j [AV.d (D.i .u32 (c:Int))]=CI AV.d (lms (cur.set j c)):=by
      rw[fR _ _ _ hjl2,tO]
     simp[-ζ,-ξ,↓KW,aG,q2,hw8,hwj,hjn,hjl3,hwc,hlay,hgj]
     refine aN (i+1) hgo ?_ (wkQ [1] ?_ ?_)
     ·omega
     ·simp[-ζ,upd,aT,Γ0,aG,hfin]
     ·simp[-ζ,upd,aT,Γ0,aG,hfin]
  ·have q1:¬(i:Int)<a.length:=by omega
   have e:i=a.length:=by omega
   have e':tmO a b i=yM a b:=by rw[e];rfl
   rw[e']at ol
   simp[-ζ,-ξ,↓KW,aG,q1,e',ol,dT ol,cR ol]
set_option maxHeartbeats 1000000 in
set_option maxRecDepth 10000 in
theorem bNi[M:Mch Aa](x y:Int)(hx:(aM x.natAbs).length≤137438953472)(hy:(aM y.natAbs).length≤137438953472):Spec Aa 83 [encZ x,encZ y] (encZ (x*y)):=by
 refine bI (N:=18) Tryz.func83 ?_
 have la:=bW x.natAbs
 have lb:=bW y.natAbs
 have va:=cE x.natAbs
 have vb:=cE y.natAbs
 have ta:=lM (aM x.natAbs) (by omega)
 have tb:=lM (aM y.natAbs) (by omega)
 rw[fD la,va]at ta
 rw[fD lb,vb]at tb
 have sx:=fM x
 have sy:=fM y
 have ex:encZ x=.ag [.b (decide (x<0)),aG (aM x.natAbs)]:=rfl
 have ey:encZ y=.ag [.b (decide (y<0)),aG (aM y.natAbs)]:=rfl
 rw[ex,ey]
 generalize aM x.natAbs=a at *
 generalize aM y.natAbs=b at *
 generalize hbx:decide (x<0)=nx at *
 generalize hby:decide (y<0)=ny at *
 obtain⟨tv,tl,tn⟩:=aMs la lb
 simp[-ζ,-ξ,↓KW,aG]
 refine aH ta ?_
 simp[-ζ,-ξ,↓KW,aG]
 refine aH tb ?_
 simp[-ζ,-ξ,↓KW,aG]
 refine aH (bDr a b la lb hx hy) ?_
 simp[-ζ,-ξ,↓KW,aG]
 have hm:=mN tl (by omega) (!(nx==ny))
 rw[tv,va,vb]at hm
 have e2:sg (!(nx==ny)) (x.natAbs*y.natAbs)=x*y:=by
  rw[←sx,←sy]
  cases nx<;>cases ny<;>simp[sg,D3,Int.neg_mul]
 rw[e2]at hm
 refine aH hm ?_
 simp[-ζ,-ξ,↓KW,aG,encZ,encI]
set_option maxHeartbeats 1000000 in
set_option maxRecDepth 10000 in
theorem aGj[M:Mch Aa](x y:Int)(hx:(aM x.natAbs).length≤137438953472)(hy:(aM y.natAbs).length≤137438953472):Spec Aa 85 [encZ x,encZ y] (encZ (x+y)):=by
 refine bI (N:=42) Tryz.func85 ?_
 have la:=bW x.natAbs
 have lb:=bW y.natAbs
 have va:=cE x.natAbs
 have vb:=cE y.natAbs
 have ta:=lM (aM x.natAbs) (by omega)
 have tb:=lM (aM y.natAbs) (by omega)
 rw[fD la,va]at ta
 rw[fD lb,vb]at tb
 have hless:(aM x.natAbs).length<(aM y.natAbs).length→x.natAbs<y.natAbs:=gK
 have hless2:(aM y.natAbs).length<(aM x.natAbs).length→y.natAbs<x.natAbs:=gK
 have hl:=zQ _ _ la lb (by omega) (by omega)
 have hcmp:(x.natAbs<y.natAbs→kX (aM x.natAbs) (aM y.natAbs)<0)∧(¬x.natAbs<y.natAbs→¬kX (aM x.natAbs) (aM y.natAbs)<0):=by
  unfold kX
  rw[fF,fF]
  constructor
  ·intro h;rw[Ar (by simpa using h)];decide
  ·intro h
   rw[Aj (by simpa using h)]
   split<;>decide
 have sx:=fM x
 have sy:=fM y
 have ex:encZ x=.ag [.b (decide (x<0)),aG (aM x.natAbs)]:=rfl
 have ey:encZ y=.ag [.b (decide (y<0)),aG (aM y.natAbs)]:=rfl
 rw[ex,ey]
 generalize aM x.natAbs=a at *
 generalize aM y.natAbs=b at *
 generalize hbx:decide (x<0)=nx at *
 generalize hby:decide (y<0)=ny at *
 simp[-ζ,-ξ,↓KW,aG]
 refine aH ta ?_
 simp[-ζ,-ξ,↓KW,aG]
 refine aH tb ?_
 by_cases hn:nx=ny
 ·have h1:(nx==ny)=true:=by simpa using hn
  simp[-ζ,-ξ,↓KW,aG,h1]
  obtain⟨pv,pl,pn⟩:=aOm la lb
  refine aH (bNh a b la lb (by omega) (by omega)) ?_
  simp[-ζ,-ξ,↓KW,aG]
  have hm:=mN pl (by omega) nx
  rw[pv,va,vb]at hm
  have e:sg nx (x.natAbs+y.natAbs)=x+y:=by
   rw[←sx,←sy,←hn];cases nx<;>simp[sg]<;>omega
  rw[e]at hm
  refine aH hm ?_
  simp[-ζ,-ξ,↓KW,aG,encZ,encI]
 ·have h1:(nx==ny)=false:=by simpa using hn
  simp[-ζ,-ξ,↓KW,aG,h1]
  refine aH hl ?_
  by_cases hlt:x.natAbs<y.natAbs
  ·have h2:=hcmp.1 hlt
   simp[-ζ,-ξ,↓KW,aG,h2]
   obtain⟨pv,pl,pn⟩:=nF lb la (by omega) (by omega)
   refine aH (aKo b a lb la (by omega)) ?_
   simp[-ζ,-ξ,↓KW,aG]
   have hm:=mN pl (by omega) ny
   rw[pv,va,vb]at hm
   have e:sg ny (y.natAbs-x.natAbs)=x+y:=by
    rw[←sx,←sy]
    cases nx<;>cases ny<;>simp[sg]at hn ⊢<;>omega
   rw[e]at hm
   refine aH hm ?_
   simp[-ζ,-ξ,↓KW,aG,encZ,encI]
  ·have h2:=hcmp.2 hlt
   simp[-ζ,-ξ,↓KW,aG,h2]
   obtain⟨pv,pl,pn⟩:=nF la lb (by omega) (by omega)
   refine aH (aKo a b la lb (by omega)) ?_
   simp[-ζ,-ξ,↓KW,aG]
   have hm:=mN pl (by omega) nx
   rw[pv,va,vb]at hm
   have e:sg nx (x.natAbs-y.natAbs)=x+y:=by
    rw[←sx,←sy]
    cases nx<;>cases ny<;>simp[sg]at hn ⊢<;>omega
   rw[e]at hm
   refine aH hm ?_
   simp[-ζ,-ξ,↓KW,aG,encZ,encI]
theorem aD(m:List Nat):one (.d (aG m))=true:=rfl
theorem aA(m:List Nat):dG (.d (aG m))=some [.d (aG m)]:=rfl
theorem aC(m:List Nat):aT (aG m)=.d (aG m):=rfl
theorem bU{n:Nat}(h:n≤1099511627776):n≤maxLen:=AO h (by decide)
def Sz(z:Int):Prop:=(aM z.natAbs).length≤137438953472
theorem aE(m:List Nat):inj (aG m)=.d (aG m):=rfl
theorem aB(H:Hp)(avs:List AV)(m:List Nat):bC H avs (aG m)=cC H avs:=rfl
theorem bF(z:Int):encZ z=.ag [.b (decide (z<0)),aG (aM z.natAbs)]:=rfl
theorem aWl:encZ 0=.ag [.b false,.sl []]:=by
 unfold encZ encI
 rw[show(0:Int).natAbs=0 from rfl,cA];rfl
theorem yO(z:Int):strip (aM z.natAbs)=[]↔z=0:=by
 rw[fD (bW _),cE,iL];omega
theorem zP[M:Mch Aa](z:Int)(hz:Sz z):Spec Aa 41 [encZ z] (.i .i64 z.sign):=by
 have:=bNg (decide (z<0)) (aM z.natAbs) (AO hz (by decide))
 have e:(if strip (aM z.natAbs)=[]then(0:Int)else if(decide (z<0))=true then -1 else 1)=z.sign:=by
  simp only[yO]
  rcases Ff z 0 with h|h|h
  ·rw[Aj (by omega),Ar (by simpa using h),DN h]
  ·subst h;rfl
  ·rw[Aj (by omega),Aj (by simp;omega),DG h]
 rwa [e]at this
end Go.Am
end
section
open List renaming map_map→ζ,mapM_map→ξ
open Go Go.Am Go.Proofs
namespace Go.Am
open Go.ChangeShapes Go.WideShapes Go.ChangeAt Go.RowKit
theorem bGi{w:World}{a:Addr}{v:Value}(h:w.cell? a=some v):a.block<w.heap.size:=by
 unfold Bw at h
 cases hb:w.heap[a.block]? with
 |none=>rw[hb]at h;cases h
 |some o=>exact(AQ.1 hb).1
theorem bCw{α:Type}{Q:Nat→α→Prop}:∀{n:Nat},(∀ i,i<n→∃ y,Q i y)→∃ l:List α,l.length=n∧∀(i:Nat) (y:α),l[i]? = some y→Q i y
 |0,_=>⟨[],rfl,fun i y h=>by simp at h⟩
 | n+1,h=>by
  obtain⟨l,hl,hq⟩:=bCw (n:=n) fun i hi=>h i (Nat.lt_succ_of_lt hi)
  obtain⟨y,hy⟩:=h n (Nat.lt_succ_self n)
  refine⟨l++[y],by simp[hl],fun i z hz=>?_⟩
  rcases AY i l.length with h1|h1
  ·rw[AR h1]at hz;exact hq i z hz
  ·rw[AM h1]at hz
   have h2:i-l.length=0:=by
    rcases Be (i-l.length)with h3|h3
    ·exact h3
    ·rw[A6 (by simp;omega)]at hz;cases hz
   rw[h2]at hz
   simp at hz
   subst hz
   rwa [show i=n by omega]
theorem aWw{w:World}{n:Nat}{a:Addr}{cs:List Value}(h:w.cells? 0 a n=some cs):∀ k,k<n→w.cell? (a.add k)=cs[k]? := by
 intro k hk
 unfold World.cells? at h
 rw[Ar (A8 _)]at h
 have:=mapM_some_get h k k (by simp[hk])
 exact this
theorem aVf{α:Type}{P:Program}{H:Type}{enc:TypeId×Value→H}{w:World}{sp:Nat→Bool}{held:Bool}{t e:TypeId}{cs:List Value}{x:DataW H×List MemPlace}{fuel:Nat}(ht:P.underlying t=some (.slice e))(hc:0<P.cellsOf e)(E:α→List D)(good:α→Prop)
  (hE:∀(fuel:Nat) (cs:List Value) (x:DataW H×List MemPlace),DataW.trod enc P w 0 sp held fuel e cs=some x→∃ y:α,good y∧(E y).length=P.cellsOf e∧∀(k:Nat) (c:D) (v:Value),(E y)[k]? = some c→cs[k]? = some v→VD (fun b=>b<w.heap.size) w c v)
  (hf:DataW.trod enc P w 0 sp held fuel t cs=some x):∃(v:Value) (l:List α),cs=[v]∧VD (fun b=>b<w.heap.size) w (.sl (l.map E)) v∧(∀ y∈l,good y)∧l.length≤9223372036854775807:=by
 rcases DataW.trod_slice ht hf with ⟨hcs,_⟩|⟨a,len,cap,elems,rest,n,_,hcs,_,_,hlc,hcm,hel,hEl,_⟩
 ·exact⟨_,[],hcs,.sl0 _ _,(fun p hp=>by cases hp),A8 _⟩
 ·have each:∀ i,i<len→∃ y:α,good y∧(E y).length=P.cellsOf e∧∀(k:Nat),k<P.cellsOf e→∃ v,w.cell? (a.add (i*P.cellsOf e+k))=some v∧∀ c:D,(E y)[k]? = some c→VD (fun b=>b<w.heap.size) w c v:=by
   intro i hi
   have h1:=hEl i hi
   rw[Ab (by omega)]at h1
   obtain⟨vs,h2,h3⟩:=Option.bind_eq_some_iff.1 h1
   obtain⟨y,g,hy,hv⟩:=hE _ _ _ h3
   refine⟨y,g,hy,fun k hk=>?_⟩
   have h4:=aWw h2 k hk
   rw[add_add]at h4
   have h5:k<vs.length:=by
    unfold World.cells? at h2
    rw[Ar (A8 _)]at h2
    have:=mapM_some_length h2
    simp at this;omega
   rw[Ab h5]at h4
   exact⟨_,h4,fun c hc=>hv k c _ hc (Ab h5)⟩
  obtain⟨l,hl,hq⟩:=bCw each
  have hgood:∀ y∈l,good y:=fun y hy=>by
   obtain⟨i,hi,rfl⟩:=BP.1 hy
   exact(hq i _ (Ab hi)).1
  refine⟨_,l,hcs,?_,hgood,by rw[hl];exact AO hlc hcm⟩
  rcases Be len with h0|hpos
  ·have:l=[]:=List.eq_nil_of_length_eq_zero (by omega)
   subst this;subst h0;exact .sl0 _ _
  ·have hab:a.block<w.heap.size:=by
    obtain⟨y,_,_,hy⟩:=each 0 hpos
    obtain⟨v,hv,_⟩:=hy 0 hc
    have:=bGi hv
    rwa [block_add]at this
   refine .sl _ a len cap (P.cellsOf e) (fun j=>(w.cell? (a.add j)).getD undef) (by simp[hl]) hlc (fun cs hcs=>?_) hab (fun j hj=>?_) (fun j k cs c hj hk=>?_)
   ·obtain⟨y,hy,rfl⟩:=List.mem_map.1 hcs
    obtain⟨i,hi,rfl⟩:=BP.1 hy
    exact(hq i _ (Ab hi)).2.1
   ·have hd:j/P.cellsOf e<len:=Nat.div_lt_of_lt_mul (by rwa [BV]at hj)
    obtain⟨y,_,_,hy⟩:=each _ hd
    obtain⟨v,hv,_⟩:=hy (j%P.cellsOf e) (BY _ hc)
    rw[BV,Nat.div_add_mod]at hv
    simp[hv]
   ·rw[Ai,Ae]at hj
    obtain⟨y,hy,rfl⟩:=hj
    obtain⟨_,h6,h7⟩:=hq j y hy
    obtain⟨v,hv,hvc⟩:=h7 k (by rw[←h6];exact(Aq.1 hk).1)
    simp only[hv,AU]
    exact hvc c hk
end Go.Am
end
section
open List renaming map_map→ζ,mapM_map→ξ
open Go Go.Am Go.Proofs
namespace Go.Am
theorem aYr{n:Int}(h:(Lit.int .u8 n).wf=true):0≤n∧n≤255:=by
 have h1:IntKind.u8.min=0:=rfl
 have h2:IntKind.u8.max=255:=rfl
 simp only[Lit.wf,A1,BO]at h
 omega
theorem bZg:ownKnob Aa.godebug=none:=by kernel_rfl
theorem bQl:laidOutB Aa=true:=by kernel_rfl
end Go.Am
end
