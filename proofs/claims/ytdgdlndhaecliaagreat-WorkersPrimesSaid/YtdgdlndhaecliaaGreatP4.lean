/- Rows of columns with numbers, as they lie. No condition. -/
import Derived.Test.YtdgdlndhaecliaaGreatP3
import Derived.Test.YtdgdlndhaecliaaGreatRows
import Derived.AtR
import Derived.RangeFuncIn
import Derived.RangeFuncRecord
import Derived.Conc.Beside
import Derived.Conc.Fork
import Derived.Conc.LeavingOf
import Derived.Conc.Holds
set_option linter.unusedSectionVars false
set_option linter.unusedVariables false
set_option linter.unusedSimpArgs false
section
open Go Go.Proofs
namespace Go.Am
@[simp] theorem tsz_2:tsz Tryz.prog 2=some 1∧tby Tryz.prog 2=some 8∧tz Tryz.prog 2=some (.int .i64 0)∧tagg Tryz.prog 2=some false∧tel Tryz.prog 2=none∧tbool Tryz.prog 2=false∧(Program.underlying Tryz.prog 2).isSome=true∧tint Tryz.prog 2=some .i64∧tsz Tryz.prog 3=some 1∧tby Tryz.prog 3=some 8∧tz Tryz.prog 3=some (.int .i64 0)∧tagg Tryz.prog 3=some false∧tel Tryz.prog 3=none∧tbool Tryz.prog 3=false∧(Program.underlying Tryz.prog 3).isSome=true∧tint Tryz.prog 3=some .i64∧tsz Tryz.prog 4=some 1∧tby Tryz.prog 4=some 1∧tz Tryz.prog 4=some (.bool false)∧tagg Tryz.prog 4=some false∧tel Tryz.prog 4=none∧tbool Tryz.prog 4=true∧(Program.underlying Tryz.prog 4).isSome=true∧tsz Tryz.prog 5=some 1∧tby Tryz.prog 5=some 1∧tz Tryz.prog 5=some (.int .u8 0)∧tagg Tryz.prog 5=some false∧tel Tryz.prog 5=none∧tbool Tryz.prog 5=false∧(Program.underlying Tryz.prog 5).isSome=true∧tint Tryz.prog 5=some .u8∧tsz Tryz.prog 6=some 1∧tby Tryz.prog 6=some 1∧tz Tryz.prog 6=some (.int .u8 0)∧tagg Tryz.prog 6=some false∧tel Tryz.prog 6=none∧tbool Tryz.prog 6=false∧(Program.underlying Tryz.prog 6).isSome=true∧tint Tryz.prog 6=some .u8∧tsz Tryz.prog 7=some 4:=by and_intros <;> kernel_rfl
@[simp] theorem tby_7:tby Tryz.prog 7=some 24∧tz Tryz.prog 7=some (.agg #[.int .i64 0,.int .i64 0,.bool false,.int .u8 0])∧tagg Tryz.prog 7=some true∧tel Tryz.prog 7=none∧tbool Tryz.prog 7=false∧(Program.underlying Tryz.prog 7).isSome=true∧flds Tryz.prog 7=some [(0,1),(1,1),(2,1),(3,1)]∧tsz Tryz.prog 8=some 4∧tby Tryz.prog 8=some 24∧tz Tryz.prog 8=some (.agg #[.int .i64 0,.int .i64 0,.bool false,.int .u8 0])∧tagg Tryz.prog 8=some true∧tel Tryz.prog 8=none∧tbool Tryz.prog 8=false∧(Program.underlying Tryz.prog 8).isSome=true∧flds Tryz.prog 8=some [(0,1),(1,1),(2,1),(3,1)]∧tsz Tryz.prog 12=some 1∧tby Tryz.prog 12=some 8∧tz Tryz.prog 12=some (.int .u64 0)∧tagg Tryz.prog 12=some false∧tel Tryz.prog 12=none∧tbool Tryz.prog 12=false∧(Program.underlying Tryz.prog 12).isSome=true∧tint Tryz.prog 12=some .u64∧tsz Tryz.prog 21=some 1∧tby Tryz.prog 21=some 4∧tz Tryz.prog 21=some (.int .i32 0)∧tagg Tryz.prog 21=some false∧tel Tryz.prog 21=none∧tbool Tryz.prog 21=false∧(Program.underlying Tryz.prog 21).isSome=true∧tint Tryz.prog 21=some .i32∧tsz Tryz.prog 22=some 1∧tby Tryz.prog 22=some 24∧tz Tryz.prog 22=some (.slice none 0 0)∧tagg Tryz.prog 22=some false∧tel Tryz.prog 22=some 84∧tbool Tryz.prog 22=false∧(Program.underlying Tryz.prog 22).isSome=true∧tsz Tryz.prog 23=some 1∧tby Tryz.prog 23=some 24:=by and_intros <;> kernel_rfl
@[simp] theorem tz_23:tz Tryz.prog 23=some (.agg #[.slice none 0 0])∧tagg Tryz.prog 23=some true∧tel Tryz.prog 23=none∧tbool Tryz.prog 23=false∧(Program.underlying Tryz.prog 23).isSome=true∧flds Tryz.prog 23=some [(0,1)]∧tsz Tryz.prog 24=some 1∧tby Tryz.prog 24=some 24∧tz Tryz.prog 24=some (.agg #[.slice none 0 0])∧tagg Tryz.prog 24=some true∧tel Tryz.prog 24=none∧tbool Tryz.prog 24=false∧(Program.underlying Tryz.prog 24).isSome=true∧flds Tryz.prog 24=some [(0,1)]∧tsz Tryz.prog 25=some 1∧tby Tryz.prog 25=some 1∧tz Tryz.prog 25=some (.int .i8 0)∧tagg Tryz.prog 25=some false∧tel Tryz.prog 25=none∧tbool Tryz.prog 25=false∧(Program.underlying Tryz.prog 25).isSome=true∧tint Tryz.prog 25=some .i8∧tsz Tryz.prog 27=some 1∧tby Tryz.prog 27=some 24∧tz Tryz.prog 27=some (.slice none 0 0)∧tagg Tryz.prog 27=some false∧tel Tryz.prog 27=some 78∧tbool Tryz.prog 27=false∧(Program.underlying Tryz.prog 27).isSome=true∧tsz Tryz.prog 29=some 1∧tby Tryz.prog 29=some 24∧tz Tryz.prog 29=some (.slice none 0 0)∧tagg Tryz.prog 29=some false∧tel Tryz.prog 29=some 89∧tbool Tryz.prog 29=false∧(Program.underlying Tryz.prog 29).isSome=true∧tsz Tryz.prog 30=some 2∧tby Tryz.prog 30=some 32∧tz Tryz.prog 30=some (.agg #[.bool false,.slice none 0 0])∧tagg Tryz.prog 30=some true:=by and_intros <;> kernel_rfl
@[simp] theorem tel_30:tel Tryz.prog 30=none∧tbool Tryz.prog 30=false∧(Program.underlying Tryz.prog 30).isSome=true∧flds Tryz.prog 30=some [(0,1),(1,1)]∧tsz Tryz.prog 31=some 2∧tby Tryz.prog 31=some 32∧tz Tryz.prog 31=some (.agg #[.bool false,.slice none 0 0])∧tagg Tryz.prog 31=some true∧tel Tryz.prog 31=none∧tbool Tryz.prog 31=false∧(Program.underlying Tryz.prog 31).isSome=true∧flds Tryz.prog 31=some [(0,1),(1,1)]∧tsz Tryz.prog 32=some 1∧tby Tryz.prog 32=some 24∧tz Tryz.prog 32=some (.slice none 0 0)∧tagg Tryz.prog 32=some false∧tel Tryz.prog 32=some 3∧tbool Tryz.prog 32=false∧(Program.underlying Tryz.prog 32).isSome=true∧tsz Tryz.prog 33=some 3∧tby Tryz.prog 33=some 56∧tz Tryz.prog 33=some (.agg #[.bool false,.slice none 0 0,.slice none 0 0])∧tagg Tryz.prog 33=some true∧tel Tryz.prog 33=none∧tbool Tryz.prog 33=false∧(Program.underlying Tryz.prog 33).isSome=true∧flds Tryz.prog 33=some [(0,2),(2,1)]∧tsz Tryz.prog 34=some 3∧tby Tryz.prog 34=some 56∧tz Tryz.prog 34=some (.agg #[.bool false,.slice none 0 0,.slice none 0 0])∧tagg Tryz.prog 34=some true∧tel Tryz.prog 34=none∧tbool Tryz.prog 34=false∧(Program.underlying Tryz.prog 34).isSome=true∧flds Tryz.prog 34=some [(0,2),(2,1)]∧tsz Tryz.prog 35=some 1∧tby Tryz.prog 35=some 8∧tz Tryz.prog 35=some (.int .i64 0)∧tagg Tryz.prog 35=some false∧tel Tryz.prog 35=none:=by and_intros <;> kernel_rfl
@[simp] theorem tbool_35:tbool Tryz.prog 35=false∧(Program.underlying Tryz.prog 35).isSome=true∧tint Tryz.prog 35=some .i64∧tsz Tryz.prog 46=some 1∧tby Tryz.prog 46=some 24∧tz Tryz.prog 46=some (.slice none 0 0)∧tagg Tryz.prog 46=some false∧tel Tryz.prog 46=some 51∧tbool Tryz.prog 46=false∧(Program.underlying Tryz.prog 46).isSome=true∧tsz Tryz.prog 51=some 1∧tby Tryz.prog 51=some 8∧tz Tryz.prog 51=some (.int .u64 0)∧tagg Tryz.prog 51=some false∧tel Tryz.prog 51=none∧tbool Tryz.prog 51=false∧(Program.underlying Tryz.prog 51).isSome=true∧tint Tryz.prog 51=some .u64∧tsz Tryz.prog 53=some 1∧tby Tryz.prog 53=some 24∧tz Tryz.prog 53=some (.slice none 0 0)∧tagg Tryz.prog 53=some false∧tel Tryz.prog 53=some 25∧tbool Tryz.prog 53=false∧(Program.underlying Tryz.prog 53).isSome=true∧tsz Tryz.prog 54=some 3∧tby Tryz.prog 54=some 32∧tz Tryz.prog 54=some (.agg #[.int .u8 0,.int .u8 0,.slice none 0 0])∧tagg Tryz.prog 54=some true∧tel Tryz.prog 54=none∧tbool Tryz.prog 54=false∧(Program.underlying Tryz.prog 54).isSome=true∧flds Tryz.prog 54=some [(0,1),(1,1),(2,1)]∧tsz Tryz.prog 55=some 3∧tby Tryz.prog 55=some 32∧tz Tryz.prog 55=some (.agg #[.int .u8 0,.int .u8 0,.slice none 0 0])∧tagg Tryz.prog 55=some true∧tel Tryz.prog 55=none∧tbool Tryz.prog 55=false∧(Program.underlying Tryz.prog 55).isSome=true:=by and_intros <;> kernel_rfl
@[simp] theorem flds_55:flds Tryz.prog 55=some [(0,1),(1,1),(2,1)]∧tsz Tryz.prog 56=some 1∧tby Tryz.prog 56=some 24∧tz Tryz.prog 56=some (.slice none 0 0)∧tagg Tryz.prog 56=some false∧tel Tryz.prog 56=some 5∧tbool Tryz.prog 56=false∧(Program.underlying Tryz.prog 56).isSome=true∧tsz Tryz.prog 57=some 4∧tby Tryz.prog 57=some 64∧tz Tryz.prog 57=some (.agg #[.int .u8 0,.slice none 0 0,.slice none 0 0,.int .u8 0])∧tagg Tryz.prog 57=some true∧tel Tryz.prog 57=none∧tbool Tryz.prog 57=false∧(Program.underlying Tryz.prog 57).isSome=true∧flds Tryz.prog 57=some [(0,1),(1,1),(2,1),(3,1)]∧tsz Tryz.prog 58=some 4∧tby Tryz.prog 58=some 64∧tz Tryz.prog 58=some (.agg #[.int .u8 0,.slice none 0 0,.slice none 0 0,.int .u8 0])∧tagg Tryz.prog 58=some true∧tel Tryz.prog 58=none∧tbool Tryz.prog 58=false∧(Program.underlying Tryz.prog 58).isSome=true∧flds Tryz.prog 58=some [(0,1),(1,1),(2,1),(3,1)]∧tsz Tryz.prog 59=some 1∧tby Tryz.prog 59=some 24∧tz Tryz.prog 59=some (.slice none 0 0)∧tagg Tryz.prog 59=some false∧tel Tryz.prog 59=some 110∧tbool Tryz.prog 59=false∧(Program.underlying Tryz.prog 59).isSome=true∧tsz Tryz.prog 60=some 3∧tby Tryz.prog 60=some 40∧tz Tryz.prog 60=some (.agg #[.int .i64 0,.int .i64 0,.slice none 0 0])∧tagg Tryz.prog 60=some true∧tel Tryz.prog 60=none∧tbool Tryz.prog 60=false∧(Program.underlying Tryz.prog 60).isSome=true∧flds Tryz.prog 60=some [(0,1),(1,1),(2,1)]∧tsz Tryz.prog 61=some 3:=by and_intros <;> kernel_rfl
@[simp] theorem tby_61:tby Tryz.prog 61=some 40∧tz Tryz.prog 61=some (.agg #[.int .i64 0,.int .i64 0,.slice none 0 0])∧tagg Tryz.prog 61=some true∧tel Tryz.prog 61=none∧tbool Tryz.prog 61=false∧(Program.underlying Tryz.prog 61).isSome=true∧flds Tryz.prog 61=some [(0,1),(1,1),(2,1)]∧tsz Tryz.prog 75=some 2∧tby Tryz.prog 75=some 16∧tz Tryz.prog 75=some (.agg #[.int .u64 0,.int .u64 0])∧tagg Tryz.prog 75=some true∧tel Tryz.prog 75=none∧tbool Tryz.prog 75=false∧(Program.underlying Tryz.prog 75).isSome=true∧flds Tryz.prog 75=some [(0,1),(1,1)]∧tsz Tryz.prog 76=some 2∧tby Tryz.prog 76=some 16∧tz Tryz.prog 76=some (.agg #[.int .u64 0,.int .u64 0])∧tagg Tryz.prog 76=some true∧tel Tryz.prog 76=none∧tbool Tryz.prog 76=false∧(Program.underlying Tryz.prog 76).isSome=true∧flds Tryz.prog 76=some [(0,1),(1,1)]∧tsz Tryz.prog 77=some 3∧tby Tryz.prog 77=some 24∧tz Tryz.prog 77=some (.agg #[.int .i64 0,.int .u64 0,.int .u64 0])∧tagg Tryz.prog 77=some true∧tel Tryz.prog 77=none∧tbool Tryz.prog 77=false∧(Program.underlying Tryz.prog 77).isSome=true∧flds Tryz.prog 77=some [(0,1),(1,2)]∧tsz Tryz.prog 78=some 3∧tby Tryz.prog 78=some 24∧tz Tryz.prog 78=some (.agg #[.int .i64 0,.int .u64 0,.int .u64 0])∧tagg Tryz.prog 78=some true∧tel Tryz.prog 78=none∧tbool Tryz.prog 78=false∧(Program.underlying Tryz.prog 78).isSome=true∧flds Tryz.prog 78=some [(0,1),(1,2)]∧tsz Tryz.prog 81=some 1:=by and_intros <;> kernel_rfl
@[simp] theorem tby_81:tby Tryz.prog 81=some 24∧tz Tryz.prog 81=some (.slice none 0 0)∧tagg Tryz.prog 81=some false∧tel Tryz.prog 81=some 2∧tbool Tryz.prog 81=false∧(Program.underlying Tryz.prog 81).isSome=true∧tsz Tryz.prog 84=some 3∧tby Tryz.prog 84=some 3∧tz Tryz.prog 84=some (.agg #[.int .u8 0,.int .u8 0,.int .u8 0])∧tagg Tryz.prog 84=some true∧tel Tryz.prog 84=none∧tbool Tryz.prog 84=false∧(Program.underlying Tryz.prog 84).isSome=true∧flds Tryz.prog 84=none∧tarr Tryz.prog 84=some (3,5)∧tsz Tryz.prog 89=some 1∧tby Tryz.prog 89=some 4∧tz Tryz.prog 89=some (.int .u32 0)∧tagg Tryz.prog 89=some false∧tel Tryz.prog 89=none∧tbool Tryz.prog 89=false∧(Program.underlying Tryz.prog 89).isSome=true∧tint Tryz.prog 89=some .u32∧tsz Tryz.prog 92=some 1∧tby Tryz.prog 92=some 24∧tz Tryz.prog 92=some (.slice none 0 0)∧tagg Tryz.prog 92=some false∧tel Tryz.prog 92=some 76∧tbool Tryz.prog 92=false∧(Program.underlying Tryz.prog 92).isSome=true∧tsz Tryz.prog 94=some 1∧tby Tryz.prog 94=some 8∧tz Tryz.prog 94=some (.int .u64 0)∧tagg Tryz.prog 94=some false∧tel Tryz.prog 94=none∧tbool Tryz.prog 94=false∧(Program.underlying Tryz.prog 94).isSome=true∧tint Tryz.prog 94=some .u64∧tsz Tryz.prog 110=some 1∧tby Tryz.prog 110=some 24:=by and_intros <;> kernel_rfl
@[simp] theorem tz_110:tz Tryz.prog 110=some (.slice none 0 0)∧tagg Tryz.prog 110=some false∧tel Tryz.prog 110=some 31∧tbool Tryz.prog 110=false∧(Program.underlying Tryz.prog 110).isSome=true∧tsz Tryz.prog 112=some 0∧tby Tryz.prog 112=some 0∧tz Tryz.prog 112=some (.agg #[])∧tagg Tryz.prog 112=some true∧tel Tryz.prog 112=none∧tbool Tryz.prog 112=false∧(Program.underlying Tryz.prog 112).isSome=true∧flds Tryz.prog 112=some []∧tsz Tryz.prog 113=some 0∧tby Tryz.prog 113=some 0∧tz Tryz.prog 113=some (.agg #[])∧tagg Tryz.prog 113=some true∧tel Tryz.prog 113=none∧tbool Tryz.prog 113=false∧(Program.underlying Tryz.prog 113).isSome=true∧flds Tryz.prog 113=some []∧tsz Tryz.prog 114=some 0∧tby Tryz.prog 114=some 0∧tz Tryz.prog 114=some (.agg #[])∧tagg Tryz.prog 114=some true∧tel Tryz.prog 114=none∧tbool Tryz.prog 114=false∧(Program.underlying Tryz.prog 114).isSome=true∧flds Tryz.prog 114=some []∧tsz Tryz.prog 115=some 0∧tby Tryz.prog 115=some 0∧tz Tryz.prog 115=some (.agg #[])∧tagg Tryz.prog 115=some true∧tel Tryz.prog 115=none∧tbool Tryz.prog 115=false∧(Program.underlying Tryz.prog 115).isSome=true∧flds Tryz.prog 115=some []∧tsz Tryz.prog 116=some 1∧tby Tryz.prog 116=some 8∧tz Tryz.prog 116=some (.agg #[.int .u64 0]):=by and_intros <;> kernel_rfl
@[simp] theorem tagg_116:tagg Tryz.prog 116=some true∧tel Tryz.prog 116=none∧tbool Tryz.prog 116=false∧(Program.underlying Tryz.prog 116).isSome=true∧flds Tryz.prog 116=some [(0,0),(0,0),(0,1)]∧tsz Tryz.prog 117=some 1∧tby Tryz.prog 117=some 8∧tz Tryz.prog 117=some (.agg #[.int .u64 0])∧tagg Tryz.prog 117=some true∧tel Tryz.prog 117=none∧tbool Tryz.prog 117=false∧(Program.underlying Tryz.prog 117).isSome=true∧flds Tryz.prog 117=some [(0,0),(0,0),(0,1)]∧tsz Tryz.prog 118=some 2∧tby Tryz.prog 118=some 16∧tz Tryz.prog 118=some (.agg #[.int .u64 0,.int .u32 0])∧tagg Tryz.prog 118=some true∧tel Tryz.prog 118=none∧tbool Tryz.prog 118=false∧(Program.underlying Tryz.prog 118).isSome=true∧flds Tryz.prog 118=some [(0,0),(0,1),(1,1)]∧tsz Tryz.prog 119=some 2∧tby Tryz.prog 119=some 16∧tz Tryz.prog 119=some (.agg #[.int .u64 0,.int .u32 0])∧tagg Tryz.prog 119=some true∧tel Tryz.prog 119=none∧tbool Tryz.prog 119=false∧(Program.underlying Tryz.prog 119).isSome=true∧flds Tryz.prog 119=some [(0,0),(0,1),(1,1)]∧tsz Tryz.prog 125=some 1∧tby Tryz.prog 125=some 8∧tagg Tryz.prog 125=some false∧tel Tryz.prog 125=none∧tbool Tryz.prog 125=false∧(Program.underlying Tryz.prog 125).isSome=true∧tmp Tryz.prog 125=some (3,4)∧tsz Tryz.prog 131=some 1∧tby Tryz.prog 131=some 24∧tz Tryz.prog 131=some (.slice none 0 0)∧tagg Tryz.prog 131=some false:=by and_intros <;> kernel_rfl
@[simp] theorem tel_131:tel Tryz.prog 131=some 76∧tbool Tryz.prog 131=false∧(Program.underlying Tryz.prog 131).isSome=true∧tsz Tryz.prog 138=some 4∧tby Tryz.prog 138=some 32∧tz Tryz.prog 138=some (.agg #[.int .u64 0,.int .u64 0,.int .u64 0,.int .u64 0])∧tagg Tryz.prog 138=some true∧tel Tryz.prog 138=none∧tbool Tryz.prog 138=false∧(Program.underlying Tryz.prog 138).isSome=true∧flds Tryz.prog 138=none∧tarr Tryz.prog 138=some (4,51)∧tsz Tryz.prog 144=some 1∧tby Tryz.prog 144=some 24∧tz Tryz.prog 144=some (.slice none 0 0)∧tagg Tryz.prog 144=some false∧tel Tryz.prog 144=some 46∧tbool Tryz.prog 144=false∧(Program.underlying Tryz.prog 144).isSome=true∧tsz Tryz.prog 146=some 1∧tby Tryz.prog 146=some 24∧tz Tryz.prog 146=some (.slice none 0 0)∧tagg Tryz.prog 146=some false∧tel Tryz.prog 146=some 31∧tbool Tryz.prog 146=false∧(Program.underlying Tryz.prog 146).isSome=true∧tsz Tryz.prog 148=some 1∧tby Tryz.prog 148=some 8∧tagg Tryz.prog 148=some false∧tel Tryz.prog 148=none∧tbool Tryz.prog 148=false∧(Program.underlying Tryz.prog 148).isSome=true∧tmp Tryz.prog 148=some (51,4)∧tsz Tryz.prog 152=some 1∧tby Tryz.prog 152=some 8∧tz Tryz.prog 152=some (.int .i64 0)∧tagg Tryz.prog 152=some false∧tel Tryz.prog 152=none∧tbool Tryz.prog 152=false∧(Program.underlying Tryz.prog 152).isSome=true:=by and_intros <;> kernel_rfl
@[simp] theorem tint_152:tint Tryz.prog 152=some .i64∧tsz Tryz.prog 161=some 3∧tby Tryz.prog 161=some 40∧tz Tryz.prog 161=some (.agg #[.int .u64 0,.int .i64 0,.slice none 0 0])∧tagg Tryz.prog 161=some true∧tel Tryz.prog 161=none∧tbool Tryz.prog 161=false∧(Program.underlying Tryz.prog 161).isSome=true∧flds Tryz.prog 161=some [(0,1),(1,1),(2,1)]∧tsz Tryz.prog 162=some 3∧tby Tryz.prog 162=some 40∧tz Tryz.prog 162=some (.agg #[.int .u64 0,.int .i64 0,.slice none 0 0])∧tagg Tryz.prog 162=some true∧tel Tryz.prog 162=none∧tbool Tryz.prog 162=false∧(Program.underlying Tryz.prog 162).isSome=true∧flds Tryz.prog 162=some [(0,1),(1,1),(2,1)]∧tsz Tryz.prog 167=some 1∧tby Tryz.prog 167=some 24∧tz Tryz.prog 167=some (.slice none 0 0)∧tagg Tryz.prog 167=some false∧tel Tryz.prog 167=some 171∧tbool Tryz.prog 167=false∧(Program.underlying Tryz.prog 167).isSome=true∧tsz Tryz.prog 168=some 4∧tby Tryz.prog 168=some 64∧tz Tryz.prog 168=some (.agg #[.bool false,.slice none 0 0,.bool false,.slice none 0 0])∧tagg Tryz.prog 168=some true∧tel Tryz.prog 168=none∧tbool Tryz.prog 168=false∧(Program.underlying Tryz.prog 168).isSome=true∧flds Tryz.prog 168=some [(0,2),(2,2)]∧tsz Tryz.prog 169=some 4∧tby Tryz.prog 169=some 64∧tz Tryz.prog 169=some (.agg #[.bool false,.slice none 0 0,.bool false,.slice none 0 0])∧tagg Tryz.prog 169=some true∧tel Tryz.prog 169=none∧tbool Tryz.prog 169=false∧(Program.underlying Tryz.prog 169).isSome=true∧flds Tryz.prog 169=some [(0,2),(2,2)]:=by and_intros <;> kernel_rfl
@[simp] theorem tsz_171:tsz Tryz.prog 171=some 1∧tby Tryz.prog 171=some 24∧tz Tryz.prog 171=some (.slice none 0 0)∧tagg Tryz.prog 171=some false∧tel Tryz.prog 171=some 169∧tbool Tryz.prog 171=false∧(Program.underlying Tryz.prog 171).isSome=true∧tsz Tryz.prog 182=some 1∧tby Tryz.prog 182=some 8∧tz Tryz.prog 182=some (.int .i64 0)∧tagg Tryz.prog 182=some false∧tel Tryz.prog 182=none∧tbool Tryz.prog 182=false∧(Program.underlying Tryz.prog 182).isSome=true∧tint Tryz.prog 182=some .i64∧tsz Tryz.prog 215=some 1∧tby Tryz.prog 215=some 8∧tz Tryz.prog 215=some (.int .u64 0)∧tagg Tryz.prog 215=some false∧tel Tryz.prog 215=none∧tbool Tryz.prog 215=false∧(Program.underlying Tryz.prog 215).isSome=true∧tint Tryz.prog 215=some .u64∧tsz Tryz.prog 239=some 0∧tby Tryz.prog 239=some 0∧tz Tryz.prog 239=some (.agg #[])∧tagg Tryz.prog 239=some true∧tel Tryz.prog 239=none∧tbool Tryz.prog 239=false∧(Program.underlying Tryz.prog 239).isSome=true∧flds Tryz.prog 239=none∧tarr Tryz.prog 239=some (0,16)∧tsz Tryz.prog 240=some 0∧tby Tryz.prog 240=some 0∧tz Tryz.prog 240=some (.agg #[])∧tagg Tryz.prog 240=some true∧tel Tryz.prog 240=none∧tbool Tryz.prog 240=false∧(Program.underlying Tryz.prog 240).isSome=true∧flds Tryz.prog 240=some [(0,0)]:=by and_intros <;> kernel_rfl
@[simp] theorem tsz_241:tsz Tryz.prog 241=some 0∧tby Tryz.prog 241=some 0∧tz Tryz.prog 241=some (.agg #[])∧tagg Tryz.prog 241=some true∧tel Tryz.prog 241=none∧tbool Tryz.prog 241=false∧(Program.underlying Tryz.prog 241).isSome=true∧flds Tryz.prog 241=some [(0,0)]∧tsz Tryz.prog 243=some 1∧tby Tryz.prog 243=some 1∧tz Tryz.prog 243=some (.int .u8 0)∧tagg Tryz.prog 243=some false∧tel Tryz.prog 243=none∧tbool Tryz.prog 243=false∧(Program.underlying Tryz.prog 243).isSome=true∧tint Tryz.prog 243=some .u8∧tsz Tryz.prog 244=some 1∧tby Tryz.prog 244=some 1∧tz Tryz.prog 244=some (.int .u8 0)∧tagg Tryz.prog 244=some false∧tel Tryz.prog 244=none∧tbool Tryz.prog 244=false∧(Program.underlying Tryz.prog 244).isSome=true∧tint Tryz.prog 244=some .u8∧tsz Tryz.prog 247=some 1∧tby Tryz.prog 247=some 4∧tz Tryz.prog 247=some (.int .i32 0)∧tagg Tryz.prog 247=some false∧tel Tryz.prog 247=none∧tbool Tryz.prog 247=false∧(Program.underlying Tryz.prog 247).isSome=true∧tint Tryz.prog 247=some .i32∧tsz Tryz.prog 248=some 1∧tby Tryz.prog 248=some 4∧tz Tryz.prog 248=some (.int .i32 0)∧tagg Tryz.prog 248=some false∧tel Tryz.prog 248=none∧tbool Tryz.prog 248=false∧(Program.underlying Tryz.prog 248).isSome=true∧tint Tryz.prog 248=some .i32:=by and_intros <;> kernel_rfl
@[simp] theorem follows_mixed:Go.Tables.follows Go.Proofs.Tryz.prog.toTables .mixedOrders=true:=by kernel_rfl
theorem specQ [M:Mch Go.Proofs.Tryz.prog] {f N:Nat} {fn:Func} {c:Code} {args:List D} {r:D} (hf:Go.Proofs.Tryz.prog.funcs[f]? = some fn) (h:AWP Go.Proofs.Tryz.prog c (St0 args N) fun e σ=>(e=.normal∨e=.ret)∧resD Go.Proofs.Tryz.prog fn.results.toList σ=some r) (hb:fn.body=some c:=by exact rfl) (hN:fn.ntmps=N:=by exact rfl) (hname:(fn.name == "runtime.NumGoroutine")=false:=by exact rfl) (hd:codeDst N c=true:=by kernel_rfl) (hl:codeLex Go.Proofs.Tryz.prog c=true:=by kernel_rfl) (ha:args.length≤N:=by simp):Spec Go.Proofs.Tryz.prog f args r:=spec_of follows_mixed hf hb hname hN hd hl ha h
@[simp] theorem newF_0:newF Tryz.prog 0=false∧mutF Tryz.prog 0=true∧newF Tryz.prog 1=false∧mutF Tryz.prog 1=true∧newF Tryz.prog 2=false∧mutF Tryz.prog 2=true∧newF Tryz.prog 3=false∧mutF Tryz.prog 3=false∧newF Tryz.prog 4=false∧mutF Tryz.prog 4=false∧newF Tryz.prog 5=false∧mutF Tryz.prog 5=false∧newF Tryz.prog 6=false∧mutF Tryz.prog 6=false∧newF Tryz.prog 7=false∧mutF Tryz.prog 7=false∧newF Tryz.prog 8=false∧mutF Tryz.prog 8=false∧newF Tryz.prog 9=false∧mutF Tryz.prog 9=false∧newF Tryz.prog 10=false∧mutF Tryz.prog 10=false∧newF Tryz.prog 11=false∧mutF Tryz.prog 11=false∧newF Tryz.prog 12=false∧mutF Tryz.prog 12=false∧newF Tryz.prog 13=false∧mutF Tryz.prog 13=false∧newF Tryz.prog 14=false∧mutF Tryz.prog 14=false∧newF Tryz.prog 15=false∧mutF Tryz.prog 15=false∧newF Tryz.prog 16=false∧mutF Tryz.prog 16=false∧newF Tryz.prog 17=false∧mutF Tryz.prog 17=false∧newF Tryz.prog 18=false∧mutF Tryz.prog 18=false∧newF Tryz.prog 19=false∧mutF Tryz.prog 19=false:=by and_intros <;> kernel_rfl
@[simp] theorem newF_20:newF Tryz.prog 20=false∧mutF Tryz.prog 20=false∧newF Tryz.prog 21=false∧mutF Tryz.prog 21=false∧newF Tryz.prog 22=false∧mutF Tryz.prog 22=false∧newF Tryz.prog 23=false∧mutF Tryz.prog 23=false∧newF Tryz.prog 24=false∧mutF Tryz.prog 24=false∧newF Tryz.prog 25=false∧mutF Tryz.prog 25=false∧newF Tryz.prog 26=false∧mutF Tryz.prog 26=false∧newF Tryz.prog 27=false∧mutF Tryz.prog 27=false∧newF Tryz.prog 28=false∧mutF Tryz.prog 28=false∧newF Tryz.prog 29=false∧mutF Tryz.prog 29=false∧newF Tryz.prog 30=false∧mutF Tryz.prog 30=false∧newF Tryz.prog 31=false∧mutF Tryz.prog 31=false∧newF Tryz.prog 32=false∧mutF Tryz.prog 32=false∧newF Tryz.prog 33=false∧mutF Tryz.prog 33=false∧newF Tryz.prog 34=false∧mutF Tryz.prog 34=false∧newF Tryz.prog 35=false∧mutF Tryz.prog 35=false∧newF Tryz.prog 36=false∧mutF Tryz.prog 36=false∧newF Tryz.prog 37=false∧mutF Tryz.prog 37=false∧newF Tryz.prog 38=true∧mutF Tryz.prog 38=false∧newF Tryz.prog 39=false∧mutF Tryz.prog 39=false:=by and_intros <;> kernel_rfl
@[simp] theorem newF_40:newF Tryz.prog 40=false∧mutF Tryz.prog 40=false∧newF Tryz.prog 41=false∧mutF Tryz.prog 41=false∧newF Tryz.prog 42=false∧mutF Tryz.prog 42=false∧newF Tryz.prog 43=false∧mutF Tryz.prog 43=true∧newF Tryz.prog 44=false∧mutF Tryz.prog 44=false∧newF Tryz.prog 45=false∧mutF Tryz.prog 45=false∧newF Tryz.prog 46=false∧mutF Tryz.prog 46=false∧newF Tryz.prog 47=false∧mutF Tryz.prog 47=false∧newF Tryz.prog 48=false∧mutF Tryz.prog 48=false∧newF Tryz.prog 49=false∧mutF Tryz.prog 49=false∧newF Tryz.prog 50=false∧mutF Tryz.prog 50=false∧newF Tryz.prog 51=false∧mutF Tryz.prog 51=false∧newF Tryz.prog 52=false∧mutF Tryz.prog 52=false∧newF Tryz.prog 53=false∧mutF Tryz.prog 53=false∧newF Tryz.prog 54=false∧mutF Tryz.prog 54=true∧newF Tryz.prog 55=false∧mutF Tryz.prog 55=false∧newF Tryz.prog 56=false∧mutF Tryz.prog 56=false∧newF Tryz.prog 57=false∧mutF Tryz.prog 57=false∧newF Tryz.prog 58=false∧mutF Tryz.prog 58=false∧newF Tryz.prog 59=false∧mutF Tryz.prog 59=false:=by and_intros <;> kernel_rfl
@[simp] theorem newF_60:newF Tryz.prog 60=false∧mutF Tryz.prog 60=false∧newF Tryz.prog 61=false∧mutF Tryz.prog 61=false∧newF Tryz.prog 62=false∧mutF Tryz.prog 62=false∧newF Tryz.prog 63=false∧mutF Tryz.prog 63=false∧newF Tryz.prog 64=false∧mutF Tryz.prog 64=false∧newF Tryz.prog 65=false∧mutF Tryz.prog 65=false∧newF Tryz.prog 66=false∧mutF Tryz.prog 66=false∧newF Tryz.prog 67=false∧mutF Tryz.prog 67=false∧newF Tryz.prog 68=false∧mutF Tryz.prog 68=false∧newF Tryz.prog 69=false∧mutF Tryz.prog 69=false∧newF Tryz.prog 70=false∧mutF Tryz.prog 70=false∧newF Tryz.prog 71=false∧mutF Tryz.prog 71=true∧newF Tryz.prog 72=false∧mutF Tryz.prog 72=true∧newF Tryz.prog 73=false∧mutF Tryz.prog 73=true∧newF Tryz.prog 74=false∧mutF Tryz.prog 74=false∧newF Tryz.prog 75=false∧mutF Tryz.prog 75=true∧newF Tryz.prog 76=false∧mutF Tryz.prog 76=false∧newF Tryz.prog 77=false∧mutF Tryz.prog 77=false∧newF Tryz.prog 78=false∧mutF Tryz.prog 78=false∧newF Tryz.prog 79=false∧mutF Tryz.prog 79=false:=by and_intros <;> kernel_rfl
@[simp] theorem newF_80:newF Tryz.prog 80=false∧mutF Tryz.prog 80=true∧newF Tryz.prog 81=false∧mutF Tryz.prog 81=false∧newF Tryz.prog 82=false∧mutF Tryz.prog 82=false∧newF Tryz.prog 83=false∧mutF Tryz.prog 83=false∧newF Tryz.prog 84=false∧mutF Tryz.prog 84=false∧newF Tryz.prog 85=false∧mutF Tryz.prog 85=false∧newF Tryz.prog 86=false∧mutF Tryz.prog 86=false∧newF Tryz.prog 87=false∧mutF Tryz.prog 87=false∧newF Tryz.prog 88=false∧mutF Tryz.prog 88=false∧newF Tryz.prog 89=false∧mutF Tryz.prog 89=false∧newF Tryz.prog 90=false∧mutF Tryz.prog 90=false∧newF Tryz.prog 91=false∧mutF Tryz.prog 91=false∧newF Tryz.prog 92=false∧mutF Tryz.prog 92=false∧newF Tryz.prog 93=false∧mutF Tryz.prog 93=false∧newF Tryz.prog 94=false∧mutF Tryz.prog 94=false∧newF Tryz.prog 95=false∧mutF Tryz.prog 95=false∧newF Tryz.prog 96=false∧mutF Tryz.prog 96=false∧newF Tryz.prog 97=false∧mutF Tryz.prog 97=false∧newF Tryz.prog 98=false∧mutF Tryz.prog 98=false∧newF Tryz.prog 99=false∧mutF Tryz.prog 99=false:=by and_intros <;> kernel_rfl
@[simp] theorem newF_100:newF Tryz.prog 100=false∧mutF Tryz.prog 100=false∧newF Tryz.prog 101=false∧mutF Tryz.prog 101=true∧newF Tryz.prog 102=false∧mutF Tryz.prog 102=false∧newF Tryz.prog 103=true∧mutF Tryz.prog 103=false∧newF Tryz.prog 104=false∧mutF Tryz.prog 104=false∧newF Tryz.prog 105=false∧mutF Tryz.prog 105=false∧newF Tryz.prog 106=false∧mutF Tryz.prog 106=false∧newF Tryz.prog 107=false∧mutF Tryz.prog 107=true∧newF Tryz.prog 108=false∧mutF Tryz.prog 108=true∧newF Tryz.prog 109=false∧mutF Tryz.prog 109=true∧newF Tryz.prog 110=false∧mutF Tryz.prog 110=false∧newF Tryz.prog 111=false∧mutF Tryz.prog 111=false∧newF Tryz.prog 112=false∧mutF Tryz.prog 112=true∧newF Tryz.prog 113=false∧mutF Tryz.prog 113=false∧newF Tryz.prog 114=false∧mutF Tryz.prog 114=false∧newF Tryz.prog 115=false∧mutF Tryz.prog 115=true∧newF Tryz.prog 116=false∧mutF Tryz.prog 116=false∧newF Tryz.prog 117=false∧mutF Tryz.prog 117=true∧newF Tryz.prog 118=false∧mutF Tryz.prog 118=true∧newF Tryz.prog 119=false∧mutF Tryz.prog 119=true:=by and_intros <;> kernel_rfl
@[simp] theorem newF_120:newF Tryz.prog 120=false∧mutF Tryz.prog 120=false∧newF Tryz.prog 121=false∧mutF Tryz.prog 121=false∧newF Tryz.prog 122=false∧mutF Tryz.prog 122=true∧newF Tryz.prog 123=false∧mutF Tryz.prog 123=false∧newF Tryz.prog 124=false∧mutF Tryz.prog 124=false∧newF Tryz.prog 125=false∧mutF Tryz.prog 125=true∧newF Tryz.prog 126=false∧mutF Tryz.prog 126=true∧newF Tryz.prog 127=false∧mutF Tryz.prog 127=false∧newF Tryz.prog 128=false∧mutF Tryz.prog 128=false∧newF Tryz.prog 129=false∧mutF Tryz.prog 129=false∧newF Tryz.prog 130=false∧mutF Tryz.prog 130=false∧newF Tryz.prog 131=false∧mutF Tryz.prog 131=false∧newF Tryz.prog 132=false∧mutF Tryz.prog 132=false∧newF Tryz.prog 133=false∧mutF Tryz.prog 133=false∧newF Tryz.prog 134=false∧mutF Tryz.prog 134=false∧newF Tryz.prog 135=false∧mutF Tryz.prog 135=false∧newF Tryz.prog 136=false∧mutF Tryz.prog 136=true∧newF Tryz.prog 137=false∧mutF Tryz.prog 137=true∧newF Tryz.prog 138=false∧mutF Tryz.prog 138=true∧newF Tryz.prog 139=false∧mutF Tryz.prog 139=false:=by and_intros <;> kernel_rfl
@[simp] theorem newF_140:newF Tryz.prog 140=false∧mutF Tryz.prog 140=true∧newF Tryz.prog 141=false∧mutF Tryz.prog 141=false∧newF Tryz.prog 142=false∧mutF Tryz.prog 142=false∧newF Tryz.prog 143=false∧mutF Tryz.prog 143=false∧newF Tryz.prog 144=false∧mutF Tryz.prog 144=false∧newF Tryz.prog 145=false∧mutF Tryz.prog 145=false∧newF Tryz.prog 146=false∧mutF Tryz.prog 146=false∧newF Tryz.prog 147=false∧mutF Tryz.prog 147=false∧newF Tryz.prog 148=false∧mutF Tryz.prog 148=false∧newF Tryz.prog 149=false∧mutF Tryz.prog 149=false∧newF Tryz.prog 150=false∧mutF Tryz.prog 150=false∧newF Tryz.prog 151=false∧mutF Tryz.prog 151=false∧newF Tryz.prog 152=false∧mutF Tryz.prog 152=false∧newF Tryz.prog 153=false∧mutF Tryz.prog 153=true∧newF Tryz.prog 154=false∧mutF Tryz.prog 154=true∧newF Tryz.prog 155=false∧mutF Tryz.prog 155=true∧newF Tryz.prog 156=false∧mutF Tryz.prog 156=false∧newF Tryz.prog 157=false∧mutF Tryz.prog 157=true∧newF Tryz.prog 158=false∧mutF Tryz.prog 158=false∧newF Tryz.prog 159=false∧mutF Tryz.prog 159=false:=by and_intros <;> kernel_rfl
@[simp] theorem newF_160:newF Tryz.prog 160=false∧mutF Tryz.prog 160=false∧newF Tryz.prog 161=false∧mutF Tryz.prog 161=false∧newF Tryz.prog 162=false∧mutF Tryz.prog 162=true∧newF Tryz.prog 163=false∧mutF Tryz.prog 163=false∧newF Tryz.prog 164=false∧mutF Tryz.prog 164=false∧newF Tryz.prog 165=false∧mutF Tryz.prog 165=false∧newF Tryz.prog 166=false∧mutF Tryz.prog 166=false∧newF Tryz.prog 167=false∧mutF Tryz.prog 167=false∧newF Tryz.prog 168=false∧mutF Tryz.prog 168=true∧newF Tryz.prog 169=false∧mutF Tryz.prog 169=false∧newF Tryz.prog 170=false∧mutF Tryz.prog 170=false∧newF Tryz.prog 171=false∧mutF Tryz.prog 171=false∧newF Tryz.prog 172=false∧mutF Tryz.prog 172=true∧newF Tryz.prog 173=false∧mutF Tryz.prog 173=false∧newF Tryz.prog 174=false∧mutF Tryz.prog 174=false∧newF Tryz.prog 175=false∧mutF Tryz.prog 175=false∧newF Tryz.prog 176=false∧mutF Tryz.prog 176=false∧newF Tryz.prog 177=false∧mutF Tryz.prog 177=false∧newF Tryz.prog 178=false∧mutF Tryz.prog 178=false∧newF Tryz.prog 179=false∧mutF Tryz.prog 179=true:=by and_intros <;> kernel_rfl
@[simp] theorem newF_180:newF Tryz.prog 180=false∧mutF Tryz.prog 180=false∧newF Tryz.prog 181=false∧mutF Tryz.prog 181=false∧newF Tryz.prog 182=false∧mutF Tryz.prog 182=false∧newF Tryz.prog 183=false∧mutF Tryz.prog 183=false∧newF Tryz.prog 184=false∧mutF Tryz.prog 184=false∧newF Tryz.prog 185=false∧mutF Tryz.prog 185=false∧newF Tryz.prog 186=false∧mutF Tryz.prog 186=true∧newF Tryz.prog 187=false∧mutF Tryz.prog 187=false∧newF Tryz.prog 188=false∧mutF Tryz.prog 188=false∧newF Tryz.prog 189=false∧mutF Tryz.prog 189=false∧newF Tryz.prog 190=false∧mutF Tryz.prog 190=false∧newF Tryz.prog 191=false∧mutF Tryz.prog 191=false∧newF Tryz.prog 192=false∧mutF Tryz.prog 192=false∧newF Tryz.prog 193=false∧mutF Tryz.prog 193=false∧newF Tryz.prog 194=false∧mutF Tryz.prog 194=false∧newF Tryz.prog 195=false∧mutF Tryz.prog 195=false∧newF Tryz.prog 196=false∧mutF Tryz.prog 196=false∧newF Tryz.prog 197=false∧mutF Tryz.prog 197=false∧newF Tryz.prog 198=false∧mutF Tryz.prog 198=false∧newF Tryz.prog 199=false∧mutF Tryz.prog 199=false:=by and_intros <;> kernel_rfl
@[simp] theorem newF_200:newF Tryz.prog 200=false∧mutF Tryz.prog 200=true∧newF Tryz.prog 201=false∧mutF Tryz.prog 201=false∧newF Tryz.prog 202=false∧mutF Tryz.prog 202=false∧newF Tryz.prog 203=false∧mutF Tryz.prog 203=false∧newF Tryz.prog 204=false∧mutF Tryz.prog 204=false∧newF Tryz.prog 205=false∧mutF Tryz.prog 205=false∧newF Tryz.prog 206=false∧mutF Tryz.prog 206=true∧newF Tryz.prog 207=false∧mutF Tryz.prog 207=false∧newF Tryz.prog 208=false∧mutF Tryz.prog 208=true∧newF Tryz.prog 209=false∧mutF Tryz.prog 209=false∧newF Tryz.prog 210=false∧mutF Tryz.prog 210=true∧newF Tryz.prog 211=false∧mutF Tryz.prog 211=false∧newF Tryz.prog 212=false∧mutF Tryz.prog 212=true∧newF Tryz.prog 213=false∧mutF Tryz.prog 213=false∧newF Tryz.prog 214=false∧mutF Tryz.prog 214=true∧newF Tryz.prog 215=false∧mutF Tryz.prog 215=false∧newF Tryz.prog 216=false∧mutF Tryz.prog 216=true∧newF Tryz.prog 217=false∧mutF Tryz.prog 217=false∧newF Tryz.prog 218=false∧mutF Tryz.prog 218=false∧newF Tryz.prog 219=false∧mutF Tryz.prog 219=true:=by and_intros <;> kernel_rfl
@[simp] theorem newF_220:newF Tryz.prog 220=false∧mutF Tryz.prog 220=false∧newF Tryz.prog 221=false∧mutF Tryz.prog 221=false:=by and_intros <;> kernel_rfl
end Go.Am
end
section
open List renaming map_map→ζ,mapM_map→ξ
namespace Go.Am
attribute [simp] condP_b condP_ub isKf bindP_some finP_nil finP_cons ite_db nilB isNilA St0 lay_cons rep_flat lms_rep rep_lms ifD_true ifD_false frzs allOne_nil allOne_cons mapM_d7 chunk_0 chunk_1 chunk_2 kills_none kills_b kills_i kills_tp
   kills_ag kills_sl viss_nil viss_cons vis_d vis_nil vis_fd vis_ag vis_data vis_own visC_cells List.flatMap_nil scrub_map mapM_d6 lms_flat lms_all lms_all' lms_len nv_nilCheck chkA_ptr chkA_fp nv_move nv_assign nv_pick nv_alloc nv_box nv_build plc_def nv_buildSlice
   nv_makeSlice nv_binOp nv_unOp nv_convert nv_fieldAddr nv_indexAddr nv_extract nv_slice nv_len lenM_one mlenA_mp maxC_i minC_i nv_max nv_min nv_field nv_makeMap pureA_some StL_Γ StL_H StL_HO StL_n sltF_ap sltF_nil blkF_ap blkF_nil oev_tmp oev_i oev_b
   oev_nil oev_agg cv1_i cv1_b cv1_nil cells_agg cells_i cells_b cells_sl oneC_i oneC_b oneC_sl one_db one_di one_dsl one_nil one_own one_ptr one_mp one_fd one_fp cellsA_db cellsA_di cellsA_dsl cellsA_nil cellsA_own cellsA_ptr cellsA_mp
   cellsA_fd cellsA_ag cellsA_dag agOf_ag agOf_dag tpOf_tp tpOf_dtp intOfA_i boolOfA_b optI_none optI_some lenA_dsl lenA_fd lenA_nil lenA_own fieldA_ptr fieldA_fp indexS_dsl indexS_fd indexS_own indexP_ptr indexP_fp binA_b binA_add binA_sub
   binA_mul binA_quo binA_rem binA_eql binA_neq binA_lss binA_leq binA_gtr binA_geq binA_shl binA_shr binA_nilr unA_not unA_neg nilA_none nilA_nil inj1_b inj1_i inj1_sl inj1_ag inj_b inj_i inj_sl inj_ag inj_tp scrub_d scrub_nil scrub_un
   scrub_any scrub_own scrub_ptr scrub_mp scrub_fp scrub_fd scrub_ag scrub_tp scrub0_d scrub0_nil scrub0_un scrub0_any scrub0_own scrub0_ptr scrubO_data srcA_nil srcA_dsl srcA_fd srcA_own srcOwn_cells okHead_nil okHead_cons appA_def ownOf_fd appC_fd
   ownOf_own ownOf_nil appC_nil appC_own loadA_ptr ldC_cells loadA_fp storeA_ptr stC_cells res1_tmp res1_cell resD_one kill_nil kill_one addB_none addB_some cnt_none cnt_some putA_some putA_none upd_ap fillA_nil fillA_cons fillC_some
   sliceA_dsl sliceA_fd wantedA_some Γ0_get okHead_encM scrubO_cells frz_own frz_d frz_nil frz_fd frz_ag slotsOk blksOk rhoL sub_d_iff sub_own_iff sub_ptr_iff sub_mp_iff sub_nil sub_un subO_cells cellsOk subL_d subL_nil subL_un cellsOk_map
   cellsOk_same
theorem KW:type_of% (And.intro @awp_skip (And.intro @awp_regionB (And.intro @awp_seq (And.intro @awp_block (And.intro @awp_exit (And.intro @awp_ret (And.intro @awp_label (And.intro @awp_scope (And.intro @awp_condB (And.intro @awp_loopB (And.intro @ow_nil' (And.intro @ow_cons0 (And.intro @ow_cons1 (And.intro @o1_move (And.intro @o1_nilCheck (And.intro @o1_assign (And.intro @o1_pick (And.intro @o1_alloc (And.intro @o1_box (And.intro @o1_build (And.intro @o1_buildSlice (And.intro @o1_makeSlice (And.intro @o1_makeMap (And.intro @o1_binOp (And.intro @o1_unOp (And.intro @o1_convert (And.intro @o1_fieldAddr (And.intro @o1_field (And.intro @o1_indexAddr (And.intro @o1_extract (And.intro @o1_slice (And.intro @o1_len (And.intro @o1_lenM (And.intro @o1_max (And.intro @o1_min (And.intro @o1_load (And.intro @o1_lookup (And.intro @o1_store (And.intro @o1_mapUpdate (And.intro @o1_insert (And.intro @o1_append (And.intro @o1_delete (@o1_call))))))))))))))))))))))))))))))))))))))))))) :=
  And.intro @awp_skip (And.intro @awp_regionB (And.intro @awp_seq (And.intro @awp_block (And.intro @awp_exit (And.intro @awp_ret (And.intro @awp_label (And.intro @awp_scope (And.intro @awp_condB (And.intro @awp_loopB (And.intro @ow_nil' (And.intro @ow_cons0 (And.intro @ow_cons1 (And.intro @o1_move (And.intro @o1_nilCheck (And.intro @o1_assign (And.intro @o1_pick (And.intro @o1_alloc (And.intro @o1_box (And.intro @o1_build (And.intro @o1_buildSlice (And.intro @o1_makeSlice (And.intro @o1_makeMap (And.intro @o1_binOp (And.intro @o1_unOp (And.intro @o1_convert (And.intro @o1_fieldAddr (And.intro @o1_field (And.intro @o1_indexAddr (And.intro @o1_extract (And.intro @o1_slice (And.intro @o1_len (And.intro @o1_lenM (And.intro @o1_max (And.intro @o1_min (And.intro @o1_load (And.intro @o1_lookup (And.intro @o1_store (And.intro @o1_mapUpdate (And.intro @o1_insert (And.intro @o1_append (And.intro @o1_delete (@o1_call))))))))))))))))))))))))))))))))))))))))))
end Go.Am
end
section
open List renaming map_map→ζ,mapM_map→ξ
namespace Go.Am
open RowKit (Below)
variable {P:Program} [M:Mch P]
theorem run_oneG {G:Ctx} {fn:Func} {σ:St} {a:Act} {w:World} {rv:ResultVar} {av:AV} {F:Nat→Prop} {ι:Nat→Option Nat} (hR:HR G F w ι none' σ.H) (hV:∀ t,V F w ι (σ.Γ t) (a.tmps.getD t undef)) (hres:fn.results.toList=[rv]) (h:res1 P σ rv=some av) :
    ∃ v,runC P (results fn a.tmps) w=.ok v w∧V F w ι av v:=by
  cases rv with
  | cell ad t=>exact run_one hR hV hres h
  | tmp t =>
    simp only [res1,Option.some.injEq] at h
    subst h
    refine ⟨a.tmps.getD t undef,?_,hV t⟩
    have h1':runC P ([ResultVar.tmp t].mapM (m:=Sem) fun | .tmp t=>pure (a.tmps.getD t undef) | .cell ad t=>do loadVar t (← asAddr (a.tmps.getD ad undef))) w=.ok [a.tmps.getD t undef] w:=by
      simp only [List.mapM_cons,List.mapM_nil,Sem.run_bind,Result.andThen_ok,Sem.run_pure]
    simp only [results,Array.mapM_eq_mapM_toList,Sem.run_bind,Sem.run_map,hres]
    erw [h1']
    simp
theorem nspec_of {f N:Nat} {fn:Func} {c:Code} {args:List D} {v:Nat→AV} {hs:Nat→List HO} {rv:ResultVar} (hm:P.follows .mixedOrders=true) (hf:P.funcs[f]? = some fn) (hb:fn.body=some c) (hname:(fn.name == "runtime.NumGoroutine")=false)
    (hN:fn.ntmps=N) (hN0:0<N) (hd:codeDst N c=true) (hl':codeLex P c=true) (ha:args.length≤N) (hres:fn.results.toList=[rv])
    (h:AWP P c (St0 args N) fun e σ=>(e=.normal∨e=.ret)∧BindP (res1 P σ rv) (fun av=>∀ m,0<m→∃ ρ,Wk ⟨upd σ.Γ 0 av,σ.H,σ.n⟩ (outS v hs m) ρ) .mk):NSpec P f args v hs:=by
  intro A W vs hA hl hv
  have hn:¬ fn.name = "runtime.NumGoroutine" := by simpa using hname
  refine ⟨fun w=>by simp [callFunc,hf,hn,hb],?_⟩
  refine cx_of_wc hf hb ?_
  subst hN
  refine (WpR.plain P).okv fun hok=>wc_mono (AWP_sound hm (fun _=>rfl) c _ _ _ _ hd hl' h (SR0 hok hA hl hv ha)) ?_
  rintro e a w0 ⟨σ,⟨he,hr⟩,hs0⟩
  cases hav:res1 P σ rv with
  | none=>rw [hav] at hr; exact hr.elim
  | some av =>
  rw [hav] at hr
  simp only [BindP] at hr
  have hend:a.defers=[]∧∀ w,Env w0 w→∃ u,runC P (results fn a.tmps) w=.ok u w∧Below W.heap.size W w∧∀ m,0<m→∃ (F:Nat→Prop) (ι:Nat→Option Nat),
      (∀ b,F b→A b∨(W.heap.size≤b∧b<w.heap.size))∧V F w ι (v m) u∧(∀ id,(∃ b,ι id=some b)↔(m≤id∧id<m+(hs m).length)) ∧
      (∀ id b,ι id=some b→W.heap.size≤b∧b<w.heap.size∧¬ F b) ∧
      (∀ i o b,(hs m)[i]? = some o→ι (m+i)=some b→∃ ob,w.heap[b]? = some ob∧CR F w ι o ob) ∧
      (∀ id id' b,ι id=some b→ι id'=some b→id=id'):=by
    refine ⟨hs0.2.2.2.elim fun _ h=>h.elim fun _ h=>h.2.2.2.2.1,fun w henv=>?_⟩
    have hs1:=hs0.env henv
    obtain ⟨htop,hn0,hokw,F,ι,hR,hdom,hV,hN2,hdf,hp⟩:=hs1
    obtain ⟨u,hrun,hvu⟩:=run_oneG hR hV hres hav
    have hput:SR ⟨W,A,none',fun _=>True,fun _=>none⟩ fn.ntmps [] ⟨upd σ.Γ 0 av,σ.H,σ.n⟩ (a.put (some 0) u) w:=by
      refine ⟨htop,hn0,hokw,F,ι,hR,hdom,fun t'=>?_,⟨by simp [Act.put,hN2.1],fun _ _ h=>by cases h⟩,by simp [Act.put,hdf],hp⟩
      rw [getD_put a (some 0) u (fun d hd=>by injection hd with hd; subst hd; rw [hN2.1]; exact hN0) t']
      by_cases e0:t'=0
      · subst e0; rw [if_pos rfl]; simp only [upd_same]; exact hvu
      · rw [if_neg (fun e=>e0 (by injection e with e; exact e.symm))]; simp only; rw [upd_ne _ _ e0]; exact hV t'
    refine ⟨u,hrun,⟨hR.kept.os,hR.kept.tape,hR.kept.output,hR.kept.size,fun k hk=>hR.kept.block k hk (fun h=>h)⟩,fun m hm0=>?_⟩
    obtain ⟨ρ,hw⟩:=hr m hm0
    obtain ⟨_,_,_,F2,ι2,hR2,hdom2,hV2,_,_,_⟩:=SR_weak hw hput
    have hout:∀ id,((outS v hs m).H id).isSome=true↔(m≤id∧id<m+(hs m).length):=fun id=>by
      simp only [outS,extB]
      by_cases hr:m≤id∧id<m+(hs m).length
      · rw [if_pos hr,List.getElem?_eq_getElem (by omega)]; simp [hr]
      · rw [if_neg hr]; simp [hr]
    refine ⟨F2,ι2,fun b hb'=>?_,?_,fun id=>by rw [hdom2,hout],fun id b hb'=>?_,fun i o b ho hb'=>?_,fun id id' b e1 e2=>hR2.inj id id' b e1 e2 (fun h=>h) (fun h=>h)⟩
    · rcases hR2.F_ok b hb' with h | h | h
      · exact .inl h
      · exact h.elim
      · exact .inr ⟨h,hR2.F_lt b hb'⟩
    · have:=hV2 0
      rw [getD_put a (some 0) u (fun d hd=>by injection hd with hd; subst hd; rw [hN2.1]; exact hN0) 0,if_pos rfl] at this
      simpa [outS,upd_same] using this
    · obtain ⟨q1,q2,q3⟩:=hR2.place id b hb'
      rcases q1 with q1 | q1
      · exact q1.elim
      · exact ⟨q1,q2,q3 (fun h=>h)⟩
    · have hi:=(List.getElem?_eq_some_iff.1 ho).1
      refine hR2.obj (m+i) b o hb' ?_
      simp only [outS,extB]
      rw [if_pos ⟨by omega,by omega⟩,show m+i - m=i by omega]; exact ho
  rcases he with rfl | rfl <;> exact hend
end Go.Am
end
section
open List renaming map_map→ζ,mapM_map→ξ
namespace Go.Am
open RowKit (Below)
def AWPN (P:Program) [M:Mch P]:List Bool→Code→St→(Exit→St→Prop)→Prop
  | [],c,σ,Q=>AWP P c σ Q
  | false::l,c,σ,Q=>∃ σ2,WkR σ σ2∧AWPN P l c σ2 Q
  | true::l,.seq x y,σ,Q=>AWP P x σ fun e σ'=>match e with | .normal=>AWPN P l y σ' Q | e=>Q e σ'
  | true::_,_,_,_=>False
section
variable {P:Program} [M:Mch P] {G:Ctx} {N:Nat} {ds:List Deferred}
theorem AWPN_sound (hm:P.follows .mixedOrders=true) (hZ:∀ d,G.Z d=none):∀ (l:List Bool) (c:Code) (Q:Exit→St→Prop) (σ:St) (a:Act) (w:World),codeDst N c=true→codeLex P c=true→AWPN P l c σ Q→SR G N ds σ a w →
    WC P c (fun e a' w'=>∃ σ',Q e σ'∧SR G N ds σ' a' w') a w
  | [],c,Q,σ,a,w,hd,hl,h,hs=>AWP_sound hm hZ c Q σ a w hd hl h hs
  | false::l,c,Q,σ,a,w,hd,hl,h,hs=>by
    obtain ⟨σ2,hw,h⟩:=h
    exact AWPN_sound hm hZ l c Q σ2 a w hd hl h (SR_weakR hw hs)
  | true::l,.seq x y,Q,σ,a,w,hd,hl,h,hs=>by
    simp only [codeDst,codeLex,Bool.and_eq_true] at hd hl
    refine wc_seq (wc_mono (AWP_sound hm hZ x _ _ a w hd.1 hl.1 h hs) ?_)
    rintro e a' w' ⟨σ1,hq,hs'⟩
    cases e with
    | normal=>exact AWPN_sound hm hZ l y Q σ1 a' w' hd.2 hl.2 hq hs'
    | _=>exact ⟨σ1,hq,hs'⟩
  | true::l,.skip,_,_,_,_,_,_,h,_ | true::l,.region ..,_,_,_,_,_,_,h,_ | true::l,.cond ..,_,_,_,_,_,_,h,_ | true::l,.block ..,_,_,_,_,_,_,h,_ | true::l,.loop ..,_,_,_,_,_,_,h,_
  | true::l,.exit ..,_,_,_,_,_,_,h,_ | true::l,.ret,_,_,_,_,_,_,h,_ | true::l,.label ..,_,_,_,_,_,_,h,_ | true::l,.scope ..,_,_,_,_,_,_,h,_ | true::l,.goto ..,_,_,_,_,_,_,h,_
  | true::l,.rangeFunc ..,_,_,_,_,_,_,h,_=>h.elim
theorem spec_ofN {f N:Nat} {fn:Func} {c:Code} {args:List D} {r:D} (l:List Bool) (hm:P.follows .mixedOrders=true) (hf:P.funcs[f]? = some fn) (hb:fn.body=some c) (hname:(fn.name == "runtime.NumGoroutine")=false) (hN:fn.ntmps=N)
    (hd:codeDst N c=true) (hl':codeLex P c=true) (ha:args.length≤N) (h:AWPN P l c (St0 args N) fun e σ=>(e=.normal∨e=.ret)∧resD P fn.results.toList σ=some r):Spec P f args r:=by
  intro A W vs hA hl hv
  have hn:¬ fn.name = "runtime.NumGoroutine" := by simpa using hname
  refine ⟨fun w=>by simp [callFunc,hf,hn,hb],?_⟩
  refine cx_of_wc hf hb ?_
  subst hN
  refine (WpR.plain P).okv fun hok=>wc_mono (AWPN_sound hm (fun _=>rfl) l c _ _ _ _ hd hl' h (SR0 hok hA hl hv ha)) ?_
  rintro e a w ⟨σ,⟨he,hr⟩,hs⟩
  have hend:a.defers=[]∧∀ v1,Env w v1→∃ x,runC P (results fn a.tmps) v1=.ok x v1∧Below W.heap.size W v1∧VD (fun b=>A b∨(W.heap.size≤b∧b<v1.heap.size)) v1 r x:=by
    refine ⟨hs.2.2.2.elim fun _ h=>h.elim fun _ h=>h.2.2.2.2.1,fun v1 he=>?_⟩
    have hs1:=hs.env he
    obtain ⟨v,hrun,hvd⟩:=run_results hs1 hr
    obtain ⟨_,_,_,F,ι,hR,_,_,_,hdf,_⟩:=hs1
    refine ⟨v,hrun,⟨hR.kept.os,hR.kept.tape,hR.kept.output,hR.kept.size,fun k hk=>hR.kept.block k hk (fun h=>h)⟩,hvd.mono ?_⟩
    rintro b (h | h | h)
    · exact .inl h
    · exact h.elim
    · exact .inr h
  rcases he with rfl | rfl <;> exact hend
end
def WkP (P:Program) [M:Mch P] (l:List Bool) (c:Code) (σ:St) (Q:Exit→St→Prop) (_:Dm (c,Q)):Prop:=∃ σ2,WkR σ σ2∧AWPN P l c σ2 Q
theorem wkP_intro {P:Program} [M:Mch P] {l:List Bool} {c:Code} {σ:St} {Q:Exit→St→Prop} {d:Dm (c,Q)} (σ2:St) (hw:∃ ρ,Wk σ σ2 ρ) (h:AWPN P l c σ2 Q):WkP P l c σ Q d:=⟨σ2,.inr hw,h⟩
theorem awpn_nil (P:Program) [M:Mch P] (c:Code) (σ:St) (Q:Exit→St→Prop):AWPN P [] c σ Q=AWP P c σ Q:=rfl
theorem awpn_false (P:Program) [M:Mch P] (l:List Bool) (c:Code) (σ:St) (Q:Exit→St→Prop):AWPN P (false::l) c σ Q=WkP P l c σ Q .mk:=rfl
theorem awpn_true (P:Program) [M:Mch P] (l:List Bool) (x y:Code) (σ:St) (Q:Exit→St→Prop):AWPN P (true::l) (.seq x y) σ Q=AWP P x σ fun e σ'=>match e with | .normal=>AWPN P l y σ' Q | e=>Q e σ':=rfl
theorem rhoL_ne {hs:List HO} {rs:List Nat} {a id:Nat} (hid:(blkF 1 hs id).isSome=true) (hl:hs.length≤rs.length) (h:a ∉ rs):rhoL rs id≠a:=by
  rw [blkF_get] at hid
  cases id with
  | zero=>simp at hid
  | succ i =>
    rw [if_pos (by omega),Nat.add_sub_cancel] at hid
    have hi:i<rs.length:=by
      rcases Nat.lt_or_ge i hs.length with h' | h'
      · omega
      · rw [List.getElem?_eq_none h'] at hid; cases hid
    show rs.getD i 0≠a
    rw [getD_of hi]
    exact fun e=>h (e ▸ List.getElem_mem hi)
end Go.Am
end
section
open List renaming map_map→ζ,mapM_map→ξ
namespace Go.Am
open Go.Conc
section
variable {P:Program} {main:Bool} {b:Frame} {a:Act} {k:List Item} {cs:List Frame} {w:World}
theorem sr_skip:stepG P main (G (b.atR a (.code .skip::k)) cs) w=.go (G (b.atR a k) cs) w:=by simp [G,stepG,stepG.exec,Frame.atR]
theorem sr_label {l:Nat}:stepG P main (G (b.atR a (.code (.label l)::k)) cs) w=.go (G (b.atR a k) cs) w:=by simp [G,stepG,stepG.exec,Frame.atR]
theorem sr_inBlock {id:Nat}:stepG P main (G (b.atR a (.inBlock id::k)) cs) w=.go (G (b.atR a k) cs) w:=by simp [G,stepG,stepG.exec,Frame.atR]
theorem sr_seq {x y:Code}:stepG P main (G (b.atR a (.code (.seq x y)::k)) cs) w=.go (G (b.atR a (.code x::.code y::k)) cs) w:=by simp [G,stepG,stepG.exec,Frame.atR]
theorem sr_cond {c:Operand} {x y:Code} {t:Bool} (h:a.eval c=.bool t):stepG P main (G (b.atR a (.code (.cond c x y)::k)) cs) w=.go (G (b.atR a (.code (if t then x else y)::k)) cs) w:=by
  have h':(b.atR a (.code (.cond c x y)::k)).eval c=.bool t:=by rw [Frame.eval_atR]; exact h
  simp only [Frame.atR] at h'
  simp [G,stepG,stepG.exec,Frame.atR,h']
theorem sr_block {id:Nat} {c:Code}:stepG P main (G (b.atR a (.code (.block id c)::k)) cs) w=.go (G (b.atR a (.code c::.inBlock id::k)) cs) w:=by simp [G,stepG,stepG.exec,Frame.atR]
theorem sr_loop {c:Code}:stepG P main (G (b.atR a (.code (.loop c)::k)) cs) w=.go (G (b.atR a (.code c::.inLoop c::k)) cs) w:=by simp [G,stepG,stepG.exec,Frame.atR]
theorem sr_inLoop {c:Code}:stepG P main (G (b.atR a (.inLoop c::k)) cs) w=.go (G (b.atR a (.code c::.inLoop c::k)) cs) w:=by simp [G,stepG,stepG.exec,Frame.atR]
theorem sr_exit {id:Nat} {k':List Item} (h:exitTo id k=some k'):stepG P main (G (b.atR a (.code (.exit id)::k)) cs) w=.go (G (b.atR a k') cs) w:=by simp [G,stepG,stepG.exec,Frame.atR,h]
theorem sr_region {id:Nat} {ops:Array Oper}:stepG P main (G (b.atR a (.code (.region id ops false)::k)) cs) w=.go (G (b.atR a (.inRegion ops (List.range ops.size)::k)) cs) w:=by simp [G,stepG,stepG.exec,Frame.atR]
theorem sr_region_end {ops:Array Oper}:stepG P main (G (b.atR a (.inRegion ops []::k)) cs) w=.go (G (b.atR a k) cs) w:=by simp [G,stepG,stepG.exec,Frame.atR]
theorem sr_unwanted {ops:Array Oper} {i:Nat} {rest:List Nat} {o:Oper} (ho:ops[i]? = some o) (hw:Region.wanted o (yielded ops a.tmps)=false) :
    stepG P main (G (b.atR a (.inRegion ops (i::rest)::k)) cs) w=.go (G (b.atR (a.put o.dst undef) (.inRegion ops rest::k)) cs) w #[]:=by
  have hfin:(b.atR a (.inRegion ops (i::rest)::k)).finish undef=b.atR (a.put o.dst undef) (.inRegion ops rest::k):=by rw [Frame.finish_atR,ho]; rfl
  rw [← hfin]
  simp [G,stepG,stepG.exec,Frame.atR,ho,hw]
theorem sr_oper {ops:Array Oper} {i:Nat} {rest:List Nat} {o:Oper} (hnd:∀ c,o.op≠.defer c) (ho:ops[i]? = some o) (hw:Region.wanted o (yielded ops a.tmps)=true) :
    stepG P main (G (b.atR a (.inRegion ops (i::rest)::k)) cs) w=stepG.apply P true (b.atR a (.inRegion ops (i::rest)::k)) cs none (execOp a.eval o) w:=by
  have he:=Frame.eval_atR b a (.inRegion ops (i::rest)::k)
  rw [← Oper.semAt_eq b.roundOf a.eval o hnd]
  simp only [Frame.atR] at he
  simp only [G,stepG,stepG.exec,stepG.oper,Frame.oper?,Frame.atR,ho,hw,he,Option.map_some,Option.getD_some,if_true,Oper.semAt]
  cases b.roundOf <;> cases o.op <;> rfl
theorem sr_value {ops:Array Oper} {i:Nat} {rest:List Nat} {o:Oper} {v:Value} {w':World} (hnd:∀ c,o.op≠.defer c) (ho:ops[i]? = some o) (hw:Region.wanted o (yielded ops a.tmps)=true)
    (hk:b.kind≠.early) (hr:(execOp a.eval o).run P w=.ok (.value v) w') :
    stepG P main (G (b.atR a (.inRegion ops (i::rest)::k)) cs) w=.go (G (b.atR (a.put o.dst v) (.inRegion ops rest::k)) cs) w' (listed P b.fn a o w):=by
  have hfin:(b.atR a (.inRegion ops (i::rest)::k)).finish v=b.atR (a.put o.dst v) (.inRegion ops rest::k):=by rw [Frame.finish_atR,ho]; rfl
  have hk':(b.kind == CallKind.early)=false:=by simpa using hk
  rw [sr_oper hnd ho hw,← hfin]
  simp [stepG.apply,hr,G,Frame.atR,hk',GStep.after,listed]
theorem sr_none {ops:Array Oper} {i:Nat} {rest:List Nat} {o:Oper} {w':World} (hnd:∀ c,o.op≠.defer c) (ho:ops[i]? = some o) (hw:Region.wanted o (yielded ops a.tmps)=true)
    (hk:b.kind≠.early) (hr:(execOp a.eval o).run P w=.ok .skip w') :
    stepG P main (G (b.atR a (.inRegion ops (i::rest)::k)) cs) w=.go (G (b.atR (a.put o.dst undef) (.inRegion ops rest::k)) cs) w' (listed P b.fn a o w):=by
  have hfin:(b.atR a (.inRegion ops (i::rest)::k)).finish undef=b.atR (a.put o.dst undef) (.inRegion ops rest::k):=by rw [Frame.finish_atR,ho]; rfl
  have hk':(b.kind == CallKind.early)=false:=by simpa using hk
  rw [sr_oper hnd ho hw,← hfin]
  simp [stepG.apply,hr,G,Frame.atR,hk',GStep.after,listed]
theorem sr_enter {ops:Array Oper} {i:Nat} {rest:List Nat} {o:Oper} {f:FuncId} {args:Array Value} {w':World} (hnd:∀ c,o.op≠.defer c) (ho:ops[i]? = some o) (hw:Region.wanted o (yielded ops a.tmps)=true)
    (hk:b.kind≠.early) (hr:(execOp a.eval o).run P w=.ok (.enter f args) w') :
    stepG P main (G (b.atR a (.inRegion ops (i::rest)::k)) cs) w=.go (G (Frame.enter P f args .normal) (b.atR a (.inRegion ops (i::rest)::k)::cs)) w' (listed P b.fn a o w):=by
  have hk':(b.kind == CallKind.early)=false:=by simpa using hk
  rw [sr_oper hnd ho hw]
  simp [stepG.apply,hr,G,Frame.atR,hk',GStep.after,listed]
end
theorem ndOps_at {ops:Array Oper} {i:Nat} {o:Oper} (h:ndOps ops=true) (ho:ops[i]? = some o):∀ c,o.op≠.defer c:=by
  intro c e
  have:=Array.all_eq_true'.1 h o (Array.mem_of_getElem? ho)
  simp [ndOp,e] at this
section
variable {P:Program} [M:Mch P] {lp:Nat} {Q:Exit→Act→World→Prop} {a:Act} {v:World}
def OwesR (Win:Goroutine→World→Prop) (b:Frame) (k:List Item) (cs:List Frame):Exit→Act→World→Prop
  | .normal,a,v=>Win (G (b.atR a k) cs) v
  | .exit id,a,v=>match exitTo id k with | some k'=>Win (G (b.atR a k') cs) v | none=>∀ k1,exitTo id k1=none→Win (G (b.atR a (.code (.exit id)::k1)) cs) v
  | .ret,a,v=>∀ k1,Win (G (b.atR a (.code .ret::k1)) cs) v
  | _,_,_=>False
def WR (P:Program) [M:Mch P] (lp:Nat) (c:Code) (Q:Exit→Act→World→Prop) (a:Act) (v:World):Prop :=
  ∀ (Win:Goroutine→World→Prop),M.Fam Win→OkV v→∀ (b:Frame) (k:List Item) (cs:List Frame),b.kind=.normal→b.roundOf=some lp→(∀ e a' v',OkV v'→Q e a' v'→OwesR Win b k cs e a' v')→Win (G (b.atR a (.code c::k)) cs) v
theorem rin_op {Win:Goroutine→World→Prop} (hW:M.Fam Win) {b:Frame} {a:Act} {k:List Item} {cs:List Frame} {v:World} {ops:Array Oper} {i:Nat} {rest:List Nat} {o:Oper} {K:Act→World→Prop} (hnd:∀ c,o.op≠.defer c) (hb:b.kind=.normal) (hro:b.roundOf=some lp) (ho:ops[i]? = some o) (hw:Region.wanted o (yielded ops a.tmps)=true)
    (hv:OkV v) (h:∀ v1,Env v v1→wpX P o a v1 K) (hk:∀ a' v',OkV v'→K a' v'→Win (G (b.atR a' (.inRegion ops rest::k)) cs) v') :
    Win (G (b.atR a (.inRegion ops (i::rest)::k)) cs) v:=by
  have hbk:b.kind≠.early:=by rw [hb]; simp
  refine (M.closed hW).step rfl hv fun v1 w he hsim=>?_
  have hu:=h v1 he
  unfold wpX at hu
  have hv1:=he.okV hv
  cases hr:runC P (execOp a.eval o) v1 with
  | halt x v'=>rw [hr] at hu; exact hu.elim
  | ok n v' =>
    obtain ⟨w',es',h1,h2,h3,h4,h5,h6⟩:=sim_run _ v1 w #[] n v' hv1 hsim hr
    rw [hr] at hu
    have hrw:(execOp a.eval o).run P w=.ok n w':=by
      have:=Sem.runT_eq P (execOp a.eval o) w #[]
      rw [h1] at this
      exact (congrArg Prod.fst this).symm
    have hev:∀ e∈listed P b.fn a o w,EvV v' e:=fun e hx=>by
      have:=mem_listed hx
      have h7:=Sem.runT_eq P (execOp a.eval o) w #[]
      rw [h1] at h7
      have h8:(execOp a.eval o).events P w #[]=#[]++es':=(congrArg Prod.snd h7).symm
      rw [h8] at this
      exact h6 e (by simpa using this)
    have hst:StepOk v1 w v' w' (listed P b.fn a o w):=⟨h2,h3,h4,h5,hev⟩
    cases n with
    | value x=>exact ⟨_,v',w',_,sr_value hnd ho hw hbk hrw,hst,hk _ _ h3 hu⟩
    | skip=>exact ⟨_,v',w',_,sr_none hnd ho hw hbk hrw,hst,hk _ _ h3 hu⟩
    | enter f args =>
      refine ⟨_,v',w',_,sr_enter hnd ho hw hbk hrw,hst,hu Win hW h3 _ _ fun x v'' ho' hx=>?_⟩
      rw [Frame.finish_atR,ho]
      exact hk _ _ ho' hx
    | defer d =>
      refine ⟨G (b.atR (Act.put { a with defers:=d::a.defers } o.dst undef) (.inRegion ops rest::k)) cs,v',w',_,?_,hst,hk (Act.put { a with defers:=d::a.defers } o.dst undef) v' h3 hu⟩
      rw [sr_oper hnd ho hw]
      have hk':(b.kind == CallKind.early)=false:=by simp [hb]
      have:({ b.atR a (.inRegion ops (i::rest)::k) with defers:=d::a.defers }:Frame).finish undef =
          b.atR ({ a with defers:=d::a.defers }.put o.dst undef) (.inRegion ops rest::k):=by
        have:=Frame.finish_atR b { a with defers:=d::a.defers } ops i rest k undef
        rw [ho] at this; exact this
      rw [← this]
      simp [stepG.apply,hrw,G,Frame.atR,hk',GStep.after,listed]
    | _=>exact hu.elim
theorem rin_skip {Win:Goroutine→World→Prop} (hW:M.Fam Win) {b:Frame} {k:List Item} {cs:List Frame} {ops:Array Oper} {i:Nat} {rest:List Nat} {o:Oper} (ho:ops[i]? = some o) (hw:¬ Region.wanted o (yielded ops a.tmps)=true) (hv:OkV v)
    (h:Win (G (b.atR (a.put o.dst undef) (.inRegion ops rest::k)) cs) v):Win (G (b.atR a (.inRegion ops (i::rest)::k)) cs) v :=
  win_move hW rfl hv (fun w=>sr_unwanted ho (by simpa using hw)) h
theorem rin_listed {Win:Goroutine→World→Prop} (hW:M.Fam Win) {ops:Array Oper} (hnd:ndOps ops=true) {b:Frame} {k:List Item} {cs:List Frame} (hb:b.kind=.normal) (hro:b.roundOf=some lp):∀ (l:List Oper) (n:Nat) (a:Act) (v:World),OkV v→(∀ j o,l[j]? = some o→ops[n+j]? = some o)→n+l.length=ops.size→wpLX P ops Q l a v →
    (∀ a' v',OkV v'→Q .normal a' v'→Win (G (b.atR a' k) cs) v')→Win (G (b.atR a (.inRegion ops (List.range' n l.length)::k)) cs) v
  | [],n,a,v,hv,_,_,h,hk=>win_move hW rfl hv (fun w=>sr_region_end) (hk a v hv h)
  | o::l,n,a,v,hv,hl,hn,h,hk=>by
    have ho:ops[n]? = some o:=by simpa using hl 0 o rfl
    have ih:=fun a v hv h=>rin_listed hW hnd hb hro l (n+1) a v hv (fun j o hj=>by have:=hl (j+1) o (by simpa using hj); rw [← this]; congr 1; omega) (by simp at hn; omega) h hk
    rw [List.length_cons,List.range'_succ]
    unfold wpLX at h
    split at h
    · rename_i hw
      exact rin_op hW (ndOps_at hnd ho) hb hro ho hw hv h fun a' v' hv' h'=>ih a' v' hv' h'
    · rename_i hw
      exact rin_skip hW ho hw hv (ih _ v hv h)
theorem wr_regL {id:Nat} {ops:Array Oper} (hnd:ndOps ops=true) (h:wpLX P ops Q ops.toList a v):WR P lp (.region id ops false) Q a v:=by
  intro Win hW hv b k cs hb hro hk
  refine win_move hW rfl hv (fun w=>sr_region) ?_
  have:=rin_listed hW hnd (Q:=Q) (b:=b) (k:=k) (cs:=cs) hb hro ops.toList 0 a v hv (fun j o hj=>by simpa using hj) (by simp) h fun a' v' hv' hq=>hk .normal a' v' hv' hq
  rwa [List.range_eq_range',← Array.length_toList]
theorem rin_any {Win:Goroutine→World→Prop} (hW:M.Fam Win) {ops:Array Oper} (hnd:ndOps ops=true) {b:Frame} {k:List Item} {cs:List Frame} (hb:b.kind=.normal) (hro:b.roundOf=some lp) (hk:∀ a' v',OkV v'→Q .normal a' v'→Win (G (b.atR a' k) cs) v'):∀ (fuel t:Nat) (listed:Array Bool) (a:Act) (v:World),OkV v→wpAX P ops Q fuel listed a v →
    Win (G (b.atR a (.inRegion ops (Region.linearise.go .any ops fuel t listed [])::k)) cs) v:=by
  intro fuel
  induction fuel with
  | zero =>
    intro t listed a v hv h
    simp only [Region.linearise.go,List.reverse_nil]
    exact win_move hW rfl hv (fun w=>sr_region_end) (hk a v hv h.2)
  | succ fuel ih =>
    intro t listed a v hv h
    obtain ⟨h0,h1⟩:=h
    simp only [Region.linearise.go]
    change Win (G (b.atR a (.inRegion ops (match (Region.ready .any ops listed)[t % (Region.ready .any ops listed).length]? with
      | some i=>Region.linearise.go .any ops fuel (t / (Region.ready .any ops listed).length) (listed.setIfInBounds i true) [i]
      | none=>[].reverse)::k)) cs) v
    cases hi:(Region.ready .any ops listed)[t % (Region.ready .any ops listed).length]? with
    | none =>
      have hnil:Region.ready .any ops listed=[]:=by
        cases hr:Region.ready .any ops listed with
        | nil=>rfl
        | cons x xs =>
          rw [hr] at hi
          have hlt:t % (x::xs).length<(x::xs).length:=Nat.mod_lt _ (by simp)
          simp at hi
          simp at hlt
          omega
      exact win_move hW rfl hv (fun w=>sr_region_end) (hk a v hv (h0 hnil))
    | some i =>
      simp only []
      rw [linearise_go_acc,List.reverse_singleton,List.singleton_append]
      have h2:=h1 i (List.mem_of_getElem? hi)
      cases ho:ops[i]? with
      | none =>
        simp only [ho] at h2
        refine win_move hW (g':=G (b.atR a (.inRegion ops (Region.linearise.go .any ops fuel (t / (Region.ready .any ops listed).length) (listed.setIfInBounds i true) [])::k)) cs) rfl hv (fun w=>?_) (ih _ _ a v hv h2)
        have hfin:∀ rest,(b.atR a (.inRegion ops (i::rest)::k)).finish undef=b.atR a (.inRegion ops rest::k):=fun rest=>by rw [Frame.finish_atR,ho]; rfl
        have:∀ rest,stepG P M.main (G (b.atR a (.inRegion ops (i::rest)::k)) cs) w=.go (G ((b.atR a (.inRegion ops (i::rest)::k)).finish undef) cs) w:=fun rest=>by simp [G,stepG,stepG.exec,Frame.atR,ho]
        rw [this,hfin]
      | some o =>
        simp only [ho] at h2
        split at h2
        · rename_i hw; exact rin_op hW (ndOps_at hnd ho) hb hro ho hw hv h2 fun a' v' hv' h'=>ih _ _ a' v' hv' h'
        · rename_i hw; exact rin_skip hW ho hw hv (ih _ _ _ v hv h2)
theorem wr_regA {id:Nat} {ops:Array Oper} (hm:P.follows .mixedOrders=true) (hnd:ndOps ops=true) (h:∀ d,wpAX P ops Q ops.size (Array.replicate ops.size false) a { v with drawn:=d }):WR P lp (.region id ops true) Q a v:=by
  intro Win hW hv b k cs hb hro hk
  refine (M.closed hW).step rfl hv fun v1 w he hsim=>?_
  have hd:stepG P M.main (G (b.atR a (.code (.region id ops true)::k)) cs) w =
      .go (G (b.atR a (.inRegion ops (Region.schedule (P.follows .mixedOrders) ops (w.tape w.drawn (.order b.fn id)))::k)) cs) { w with drawn:=w.drawn+1 }:=by
    simp [G,stepG,stepG.exec,Frame.atR,choose,Sem.run,Question.forced,Question.cut]
  have he2:Env { v with drawn:=v1.drawn+1 } { v1 with drawn:=v1.drawn+1 }:=⟨he.tape,he.os,he.output,he.heap⟩
  refine ⟨_,{ v1 with drawn:=v1.drawn+1 },_,#[],hd,⟨⟨hsim.tape,by simp [hsim.drawn],hsim.os,hsim.output,hsim.size,hsim.blk⟩,(he.okV hv).congr rfl,⟨rfl,rfl,rfl,Nat.le_refl _,fun _ c _ _ h=>⟨c,h,rfl,fun _=>rfl⟩,fun _ o h h1 h2=>⟨o,h,h1,h2⟩⟩,fun _ _ _ _=>rfl,by simp⟩,(M.closed hW).env ?_ he2⟩
  simp only [Region.schedule,hm,Bool.true_or,if_true]
  exact rin_any hW hnd (Q:=Q) hb hro (fun a' v' hv' hq=>hk .normal a' v' hv' hq) ops.size _ _ a _ (hv.congr rfl) (h _)
theorem wr_mono {c:Code} {Q':Exit→Act→World→Prop} (h:WR P lp c Q a v) (hq:∀ e a v,Q e a v→Q' e a v):WR P lp c Q' a v :=
  fun Win hW hv b k cs hb hro hk=>h Win hW hv b k cs hb hro fun e a' v' hv' hx=>hk e a' v' hv' (hq _ _ _ hx)
theorem wr_skip (h:Q .normal a v):WR P lp .skip Q a v:=fun Win hW hv _ _ _ _ _ hk=>win_move hW rfl hv (fun _=>sr_skip) (hk .normal a v hv h)
theorem wr_label {l:Nat} (h:Q .normal a v):WR P lp (.label l) Q a v:=fun Win hW hv _ _ _ _ _ hk=>win_move hW rfl hv (fun _=>sr_label) (hk .normal a v hv h)
theorem wr_ret (h:Q .ret a v):WR P lp .ret Q a v:=fun Win hW hv _ k _ _ _ hk=>hk .ret a v hv h k
theorem wr_exit {id:Nat} (h:Q (.exit id) a v):WR P lp (.exit id) Q a v:=by
  intro Win hW hv b k cs _ _ hk
  have:=hk (.exit id) a v hv h
  cases hx:exitTo id k with
  | some k'=>simp only [OwesR,hx] at this; exact win_move hW rfl hv (fun _=>sr_exit hx) this
  | none=>simp only [OwesR,hx] at this; exact this k hx
theorem wr_seq {x y:Code} (h:WR P lp x (Exit.then (WR P lp y Q) Q) a v):WR P lp (.seq x y) Q a v:=by
  intro Win hW hv b k cs hb hro hk
  refine win_move hW rfl hv (fun _=>sr_seq) (h Win hW hv b (.code y::k) cs hb hro fun e a' v' hv' hq=>?_)
  cases e with
  | normal=>exact hq Win hW hv' b k cs hb hro hk
  | exit id=>have:=hk _ a' v' hv' hq; simp only [OwesR,exitTo] at this ⊢; exact this
  | ret=>exact hk _ a' v' hv' hq
  | goto l=>exact hk _ a' v' hv' hq
  | panic ch=>exact hk _ a' v' hv' hq
  | outgrown=>exact hk _ a' v' hv' hq
theorem wr_cond {c:Operand} {x y:Code} {t:Bool} (hc:a.eval c=.bool t) (h:WR P lp (if t then x else y) Q a v):WR P lp (.cond c x y) Q a v :=
  fun Win hW hv b k cs hb hro hk=>win_move hW rfl hv (fun _=>sr_cond hc) (h Win hW hv b k cs hb hro hk)
theorem wr_block {id:Nat} {c:Code} (h:WR P lp c (Exit.inBlock id Q) a v):WR P lp (.block id c) Q a v:=by
  intro Win hW hv b k cs hb hro hk
  refine win_move hW rfl hv (fun _=>sr_block) (h Win hW hv b (.inBlock id::k) cs hb hro fun e a' v' hv' hq=>?_)
  cases e with
  | normal=>exact win_move hW rfl hv' (fun _=>sr_inBlock) (hk .normal a' v' hv' hq)
  | exit id' =>
    simp only [Exit.inBlock] at hq
    simp only [OwesR,exitTo]
    by_cases he:id'=id
    · rw [if_pos he] at hq
      have:=hk .normal a' v' hv' hq
      rw [if_pos (by simpa using he.symm)]; exact this
    · rw [if_neg he] at hq
      have:=hk (.exit id') a' v' hv' hq
      rw [if_neg (by simpa using fun x:id=id'=>he x.symm)]; exact this
  | ret=>exact hk _ a' v' hv' hq
  | goto l=>exact hk _ a' v' hv' hq
  | panic ch=>exact hk _ a' v' hv' hq
  | outgrown=>exact hk _ a' v' hv' hq
theorem wr_loop {c:Code} (I:Nat→Act→World→Prop) (h0:∃ n,I n a v) (h:∀ n a v,I n a v→WR P lp c (Exit.then (fun a' v'=>∃ m,m<n∧I m a' v') Q) a v):WR P lp (.loop c) Q a v:=by
  intro Win hW hv b k cs hb hro hk
  have key:∀ n a v,OkV v→I n a v→Win (G (b.atR a (.code c::.inLoop c::k)) cs) v:=by
    intro n
    induction n using Nat.strongRecOn with
    | _ n ih =>
      intro a v hv hI
      refine h n a v hI Win hW hv b (.inLoop c::k) cs hb hro fun e a' v' hv' hq=>?_
      cases e with
      | normal =>
        obtain ⟨m,hlt,hI'⟩:=hq
        exact win_move hW rfl hv' (fun _=>sr_inLoop) (ih m hlt a' v' hv' hI')
      | exit id=>have:=hk _ a' v' hv' hq; simp only [OwesR,exitTo] at this ⊢; exact this
      | ret=>exact hk _ a' v' hv' hq
      | goto l=>exact hk _ a' v' hv' hq
      | panic ch=>exact hk _ a' v' hv' hq
      | outgrown=>exact hk _ a' v' hv' hq
  obtain ⟨n,hn⟩:=h0
  exact win_move hW rfl hv (fun _=>sr_loop) (key n a v hv hn)
theorem WpR.inRound (P:Program) [M:Mch P] (lp:Nat):WpR P true (WR P lp) where
  mono h hq:=wr_mono h hq
  okv h:=fun Win hW hv=>h hv Win hW hv
  skip h:=wr_skip h
  label h:=wr_label h
  exit h:=wr_exit h
  ret h:=wr_ret h
  regL hnd h:=wr_regL (hnd rfl) h
  regA hm hnd h:=wr_regA hm (hnd rfl) h
  seq h:=wr_seq h
  cond hc h:=wr_cond hc h
  block h:=wr_block h
  loop I h0 h:=wr_loop I h0 h
  scope e _:=by cases e
end
end Go.Am
end
section
open List renaming map_map→ζ,mapM_map→ξ
namespace Go.Am
open Go.Conc
section runs
variable {P:Program} {w:World}
theorem run_getObj_loop {l:Nat} {r:Loop} (h:w.heap[l]? = some (.loop r)):runC P (getObj l) w=.ok (.loop r) w:=by simp [getObj,runC,h]
theorem run_setObj_loop {l:Nat} {r r':Loop} (h:w.heap[l]? = some (.loop r)):runC P (setObj l (.loop r')) w=.ok () (w.putObj l (.loop r')):=by simp [setObj,runC,h,World.putObj,okO]
theorem run_getLoop {l:Nat} {r:Loop} (h:w.heap[l]? = some (.loop r)):runC P (Instr.getLoop l) w=.ok r w:=by
  simp [Instr.getLoop,Sem.run_bind,run_getObj_loop h,Result.andThen]
theorem run_newObj_alloc (o:Obj) (h:okO o=true):runC P (newObj o) w=.ok w.heap.size (w.alloc o):=runC_newObj P w o h
theorem run_enterLoop_outer (fn:FuncId) (tmps:Array Value) (ps:Array Tmp) (assign body:Code) :
    runC P (Instr.enterLoop fn tmps ps assign body none) w =
      .ok (w.heap.size+1,[{ target:=.collected w.heap.size,args:=#[] }])
        ((w.alloc (.deferred (some []))).alloc (.loop { state:=.ready,pending:=none,fn,tmps,params:=ps,assign,body,defers:=w.heap.size })):=by
  unfold Instr.enterLoop
  simp only [Sem.run_bind,run_newObj_alloc (.deferred (some [])) rfl,Result.andThen,Sem.run_pure]
  rw [run_newObj_alloc _ rfl]
  simp only [World.size_alloc]
theorem run_yield {l:Nat} {r:Loop} {args:Array Value} (h:w.heap[l]? = some (.loop r)) (hs:args.size=r.params.size) :
    runC P (Instr.yield l args) w=.ok (.round l r.fn ((r.params.zip args).foldl (fun tmps (t,a)=>tmps.setIfInBounds t a) r.tmps) r.assign r.body) w:=by
  simp [Instr.yield,Sem.run_bind,run_getLoop h,Result.andThen,hs]
theorem run_beginRound {l:Nat} {r:Loop} (h:w.heap[l]? = some (.loop r)) (hr:r.state=.ready) :
    runC P (Instr.beginRound l) w=.ok () (w.putObj l (.loop { r with state:=.busy })):=by
  simp [Instr.beginRound,Sem.run_bind,run_getLoop h,run_setObj_loop h,Result.andThen,hr]
theorem run_endRound {l:Nat} {r:Loop} (jump:Option Code) (h:w.heap[l]? = some (.loop r)) :
    runC P (Instr.endRound l jump) w=.ok (.bool jump.isNone) (w.putObj l (.loop { r with state:=if jump.isNone then .ready else .done,pending:=jump })):=by
  simp [Instr.endRound,Sem.run_bind,run_getLoop h,run_setObj_loop h,Result.andThen]
theorem run_endLoop {l:Nat} {r:Loop} (h:w.heap[l]? = some (.loop r)) (hb:r.state≠.busy) :
    runC P (Instr.endLoop l) w=.ok r.pending (w.putObj l (.loop { r with state:=.exhausted })):=by
  simp [Instr.endLoop,Sem.run_bind,run_getLoop h,run_setObj_loop h,Result.andThen,hb]
theorem run_takeDeferred {b:Nat} {ds:List Deferred} (h:w.heap[b]? = some (.deferred (some ds))) :
    runC P (Instr.takeDeferred b) w=.ok ds (w.putObj b (.deferred none)):=by
  simp [Instr.takeDeferred,Sem.run_bind,getObj,setObj,runC,h,Result.andThen,World.putObj,okO]
end runs
theorem runT_run {α:Type} {s:Sem α} {P:Program} {w w':World} {r:Result α} {es:Array Event} (h:s.runT P w #[]=(r,es)):s.run P w=r:=by
  have:=Sem.runT_eq P s w #[]
  rw [h] at this
  exact (congrArg Prod.fst this).symm
def recOf (fn:FuncId) (a:Act) (ps:Array Tmp) (assign body:Code) (d:Nat) (st:LoopState) (pe:Option Code):Loop:={ state:=st,pending:=pe,fn,tmps:=a.tmps,params:=ps,assign,body,defers:=d }
theorem apply_skip {P:Program} {fr:Frame} {cs:List Frame} {s:Sem Next} {w w':World} {es:Array Event} (hk:(fr.kind == CallKind.early)=false) (h:s.runT P w #[]=(.ok .skip w',es)) :
    stepG.apply P true fr cs none s w=.go { frame:=fr.finish undef,callers:=cs,status:=.running,dying:=none } w' (seen P fr.fn es):=by
  simp only [stepG.apply,if_true,h,hk,Bool.false_eq_true,if_false,GStep.after,Array.append_empty]
section
variable {P:Program} [M:Mch P] {Win:Goroutine→World→Prop} {b:Frame} {a:Act} {k:List Item} {cs:List Frame} {v:World}
theorem win_range (hW:M.Fam Win) {g:Operand} {ps:Array Tmp} {assign body:Code} {gf:FuncId} {lb:Array Value} (hb:Calm b) (hv:OkV v) (hg:a.eval g=.func (.func gf) #[] lb)
    (hent:∀ args w,runC P (callFunc gf args) w=.ok (.enter gf args) w)
    (h:∀ v1,Env v v1→Win (G (Frame.enter P gf (#[.func (.yield (v1.heap.size+1)) #[] #[]]++lb) .normal)
      (b.at { a with defers:={ target:=.collected v1.heap.size,args:=#[] }::a.defers } (.inRangeFunc (v1.heap.size+1)::k)::cs))
      ((v1.alloc (.deferred (some []))).alloc (.loop (recOf b.fn a ps assign body v1.heap.size .ready none)))) :
    Win (G (b.at a (.code (.rangeFunc g ps assign body)::k)) cs) v:=by
  refine (M.closed hW).step rfl hv fun v1 w he hsim=>?_
  have hv1:=he.okV hv
  obtain ⟨w1,es1,h1,h2,h3,h4,h5,h6⟩:=sim_run (P:=P) (Instr.enterLoop b.fn a.tmps ps assign body none) v1 w #[] _ _ hv1 hsim (run_enterLoop_outer b.fn a.tmps ps assign body)
  obtain ⟨v2,hv2⟩:∃ v2,(v1.alloc (.deferred (some []))).alloc (.loop (recOf b.fn a ps assign body v1.heap.size .ready none))=v2:=⟨_,rfl⟩
  have hres:runC P (resolve a.eval (rangeCall g (v1.heap.size+1)) 0) v2=.ok { target:=.fn (.func gf) lb,args:=#[.func (.yield (v1.heap.size+1)) #[] #[]] } v2:=by
    simp only [resolve,hg]
    simp [Deferred.ofValue,Act.eval]
  have hinv:runC P (invoke (.fn (.func gf) lb) #[.func (.yield (v1.heap.size+1)) #[] #[]]) v2=.ok (.enter gf (#[.func (.yield (v1.heap.size+1)) #[] #[]]++lb)) v2:=by
    simp only [invoke,hent]
  have hcall:runC P (do let d ← resolve a.eval (rangeCall g (v1.heap.size+1)) 0; invoke d.target d.args) v2=.ok (.enter gf (#[.func (.yield (v1.heap.size+1)) #[] #[]]++lb)) v2:=by
    rw [Sem.run_bind,hres]; exact hinv
  change Sim ((v1.alloc (.deferred (some []))).alloc (.loop (recOf b.fn a ps assign body v1.heap.size .ready none))) w1 at h2
  change OkV ((v1.alloc (.deferred (some []))).alloc (.loop (recOf b.fn a ps assign body v1.heap.size .ready none))) at h3
  change Ext _ ((v1.alloc (.deferred (some []))).alloc (.loop (recOf b.fn a ps assign body v1.heap.size .ready none))) at h4
  change ∀ e∈es1,EvV ((v1.alloc (.deferred (some []))).alloc (.loop (recOf b.fn a ps assign body v1.heap.size .ready none))) e at h6
  rw [hv2] at h2 h3 h4 h6
  obtain ⟨w2,es2,g1,g2,g3,g4,g5,g6⟩:=sim_run _ v2 w1 #[] _ _ h3 h2 hcall
  have hk':(b.kind == CallKind.early)=false:=hb.beq
  have hev:=Frame.eval_at' b { a with defers:={ target:=.collected v1.heap.size,args:=#[] }::a.defers } (.inRangeFunc (v1.heap.size+1)::k)
  have g1':(do let d ← resolve (b.at { a with defers:={ target:=.collected v1.heap.size,args:=#[] }::a.defers } (.inRangeFunc (v1.heap.size+1)::k)).eval (rangeCall g (v1.heap.size+1)) 0; invoke d.target d.args:Sem Next).runT P w1 #[]=(.ok (.enter gf (#[.func (.yield (v1.heap.size+1)) #[] #[]]++lb)) w2,es2):=by
    rw [hev]
    have:(Act.eval { a with defers:={ target:=.collected v1.heap.size,args:=#[] }::a.defers })=a.eval:=by funext x; cases x <;> rfl
    rw [this]; simpa using g1
  simp only [Frame.at] at g1'
  refine ⟨G (Frame.enter P gf (#[.func (.yield (v1.heap.size+1)) #[] #[]]++lb) .normal) (b.at { a with defers:={ target:=.collected v1.heap.size,args:=#[] }::a.defers } (.inRangeFunc (v1.heap.size+1)::k)::cs),v2,w2,seen P b.fn es1++seen P b.fn es2,?_,⟨g2,g3,h4.trans g4,h5.trans h4 g5,fun e hx=>?_⟩,?_⟩
  · simp only [G,stepG,stepG.exec,Frame.at,h1,GStep.after,List.singleton_append,rangeCall] at g1' ⊢
    simp only [stepG.apply,g1',if_true]
    simp [hk',GStep.after]
  · rcases Array.mem_append.1 hx with hx | hx
    · exact (h6 e (by simpa using mem_seen hx)).ext g4
    · exact g6 e (by simpa using mem_seen hx)
  · rw [← hv2]; exact h v1 he
theorem win_yield (hW:M.Fam Win) {ops:Array Oper} {i:Nat} {rest:List Nat} {o:Oper} {l:Nat} {f:FuncId} {tmps:Array Value} {assign body:Code} (hb:Calm b) (ho:ops[i]? = some o) (hw:Region.wanted o (yielded ops a.tmps)=true) (hv:OkV v)
    (h:∀ v1,Env v v1→runC P (execOp a.eval o) v1=.ok (.round l f tmps assign body) v1∧Win (G (Frame.round l f tmps assign body .normal) (b.at a (.inRegion ops (i::rest)::k)::cs)) v1) :
    Win (G (b.at a (.inRegion ops (i::rest)::k)) cs) v:=by
  refine (M.closed hW).step rfl hv fun v1 w he hsim=>?_
  obtain ⟨hr,hwin⟩:=h v1 he
  obtain ⟨w',es',h1,h2,h3,h4,h5,h6⟩:=sim_run _ v1 w #[] _ _ (he.okV hv) hsim hr
  have hk':(b.kind == CallKind.early)=false:=hb.beq
  have hrw:=runT_run (w':=w) h1
  have hev:∀ e∈listed P b.fn a o w,EvV v1 e:=fun e hx=>by
    have:=mem_listed hx
    have h7:=Sem.runT_eq P (execOp a.eval o) w #[]
    rw [h1] at h7
    have h8:(execOp a.eval o).events P w #[]=#[]++es':=(congrArg Prod.snd h7).symm
    rw [h8] at this
    exact h6 e (by simpa using this)
  refine ⟨_,v1,w',listed P b.fn a o w,?_,⟨h2,h3,h4,h5,hev⟩,hwin⟩
  rw [stepG_oper ho hw]
  simp [stepG.apply,hrw,G,Frame.at,hk',GStep.after,listed]
theorem win_yield' (hW:M.Fam Win) {ops:Array Oper} {i:Nat} {rest:List Nat} {o:Oper} (hb:Calm b) (ho:ops[i]? = some o) (hw:Region.wanted o (yielded ops a.tmps)=true) (hv:OkV v)
    (h:∀ v1,Env v v1→∃ l f tmps assign body,runC P (execOp a.eval o) v1=.ok (.round l f tmps assign body) v1∧Win (G (Frame.round l f tmps assign body .normal) (b.at a (.inRegion ops (i::rest)::k)::cs)) v1) :
    Win (G (b.at a (.inRegion ops (i::rest)::k)) cs) v:=by
  refine (M.closed hW).step rfl hv fun v1 w he hsim=>?_
  obtain ⟨l,f,tmps,assign,body,hr,hwin⟩:=h v1 he
  obtain ⟨w',es',h1,h2,h3,h4,h5,h6⟩:=sim_run _ v1 w #[] _ _ (he.okV hv) hsim hr
  have hk':(b.kind == CallKind.early)=false:=hb.beq
  have hrw:=runT_run (w':=w) h1
  have hev:∀ e∈listed P b.fn a o w,EvV v1 e:=fun e hx=>by
    have:=mem_listed hx
    have h7:=Sem.runT_eq P (execOp a.eval o) w #[]
    rw [h1] at h7
    have h8:(execOp a.eval o).events P w #[]=#[]++es':=(congrArg Prod.snd h7).symm
    rw [h8] at this
    exact h6 e (by simpa using this)
  refine ⟨_,v1,w',listed P b.fn a o w,?_,⟨h2,h3,h4,h5,hev⟩,hwin⟩
  rw [stepG_oper ho hw]
  simp [stepG.apply,hrw,G,Frame.at,hk',GStep.after,listed]
theorem win_begin (hW:M.Fam Win) {l:Nat} (hb:b.kind=.normal) (hro:b.roundOf=some l) (hv:OkV v) (h:∀ v1,Env v v1→∃ v2,runC P (Instr.beginRound l) v1=.ok () v2∧(OkV v2→Win (G (b.atR a k) cs) v2)) :
    Win (G (b.atR a (.beginRound::k)) cs) v:=by
  refine (M.closed hW).step rfl hv fun v1 w he hsim=>?_
  obtain ⟨v2,hr,hwin⟩:=h v1 he
  have hr':runC P (do Instr.beginRound l; pure .skip:Sem Next) v1=.ok .skip v2:=by rw [Sem.run_bind,hr]; rfl
  obtain ⟨w',es',h1,h2,h3,h4,h5,h6⟩:=sim_run _ v1 w #[] _ _ (he.okV hv) hsim hr'
  have hk':(b.kind == CallKind.early)=false:=by simp [hb]
  refine ⟨_,v2,w',seen P b.fn es',?_,⟨h2,h3,h4,h5,fun e hx=>h6 e (by simpa using mem_seen hx)⟩,hwin h3⟩
  have h1':(do (b.roundOf).elim (stuck "beginRound: no round") Instr.beginRound; pure .skip:Sem Next).runT P w #[]=(.ok .skip w',es'):=by rw [hro]; simpa using h1
  have:=apply_skip (fr:=b.atR a (.beginRound::k)) (cs:=cs) (by exact hk') h1'
  simp only [G,stepG,stepG.exec]
  exact this
theorem win_endR (hW:M.Fam Win) {l:Nat} {c:Frame} {e:Exit} {jump:Option Code} (hb:b.kind=.normal) (hro:b.roundOf=some l) (hv:OkV v) (hj:(e,jump)=(.normal,none)∨(e,jump)=(.ret,some .ret)∨∃ id,(e,jump)=(.exit id,some (.exit id)))
    (h:∀ v1,Env v v1→∃ x v2,runC P (Instr.endRound l jump) v1=.ok x v2∧(OkV v2→Win (G (c.finish x) cs) v2)):OwesR Win b [] (c::cs) e a v:=by
  have key:∀ (todo:List Item),(∀ w w' x es,(Instr.endRound l jump).runT P w #[]=(.ok x w',es)→stepG P M.main (G (b.atR a todo) (c::cs)) w=.go (G (c.finish x) cs) w' (seen P b.fn es))→Win (G (b.atR a todo) (c::cs)) v:=by
    intro todo hst
    refine (M.closed hW).step rfl hv fun v1 w he hsim=>?_
    obtain ⟨x,v2,hr,hwin⟩:=h v1 he
    obtain ⟨w',es',h1,h2,h3,h4,h5,h6⟩:=sim_run _ v1 w #[] _ _ (he.okV hv) hsim hr
    exact ⟨_,v2,w',seen P b.fn es',hst _ _ _ _ (by simpa using h1),⟨h2,h3,h4,h5,fun e hx=>h6 e (by simpa using mem_seen hx)⟩,hwin h3⟩
  rcases hj with hj | hj | ⟨id,hj⟩
  · injection hj with e1 e2; subst e1; subst e2
    exact key [] fun w w' x es hr=>by simp [-Sem.runT_eq,G,stepG,stepG.exec,Frame.atR,hro,hb,hr,doReturn,GStep.after]
  · injection hj with e1 e2; subst e1; subst e2
    exact fun k1=>key _ fun w w' x es hr=>by simp [-Sem.runT_eq,G,stepG,stepG.exec,Frame.atR,hro,hb,hr,doReturn,GStep.after]
  · injection hj with e1 e2; subst e1; subst e2
    simp only [OwesR,exitTo]
    exact fun k1 hk1=>key _ fun w w' x es hr=>by simp [-Sem.runT_eq,G,stepG,stepG.exec,Frame.atR,hro,hb,hk1,hr,doReturn,GStep.after]
theorem win_endRange (hW:M.Fam Win) {l:Nat} (hv:OkV v) (h:∀ v1,Env v v1→∃ jump v2,runC P (Instr.endLoop l) v1=.ok jump v2∧(OkV v2→Win (G (b.at a ((jump.map Item.code).toList++k)) cs) v2)) :
    Win (G (b.at a (.endRangeFunc l::k)) cs) v:=by
  refine (M.closed hW).step rfl hv fun v1 w he hsim=>?_
  obtain ⟨jump,v2,hr,hwin⟩:=h v1 he
  obtain ⟨w',es',h1,h2,h3,h4,h5,h6⟩:=sim_run _ v1 w #[] _ _ (he.okV hv) hsim hr
  refine ⟨_,v2,w',seen P b.fn es',?_,⟨h2,h3,h4,h5,fun e hx=>h6 e (by simpa using mem_seen hx)⟩,hwin h3⟩
  simp only [Array.empty_append] at h1
  simp [-Sem.runT_eq,G,stepG,stepG.exec,Frame.at,h1,GStep.after]
theorem win_mark (hW:M.Fam Win) {D:Nat} {ds:List Deferred} {todo:List Item} (hv:OkV v) (hd:a.defers={ target:=.collected D,args:=#[] }::ds)
    (h:∀ v1,Env v v1→∃ v2,runC P (Instr.takeDeferred D) v1=.ok [] v2∧(OkV v2→Win (G { b.at { a with defers:=ds } todo with mode:=.returning } cs) v2)) :
    Win (G { b.at a todo with mode:=.returning } cs) v:=by
  refine (M.closed hW).step rfl hv fun v1 w he hsim=>?_
  obtain ⟨v2,hr,hwin⟩:=h v1 he
  obtain ⟨w',es',h1,h2,h3,h4,h5,h6⟩:=sim_run _ v1 w #[] _ _ (he.okV hv) hsim hr
  refine ⟨_,v2,w',seen P b.fn es',?_,⟨h2,h3,h4,h5,fun e hx=>h6 e (by simpa using mem_seen hx)⟩,hwin h3⟩
  simp only [Array.empty_append] at h1
  simp [-Sem.runT_eq,G,stepG,unwind,Frame.at,hd,h1,GStep.after]
end
end Go.Am
end
section
open List renaming map_map→ζ,mapM_map→ξ
namespace Go.Am
open RowKit (Below)
def SRB (F M:Nat→Prop) (N:Nat) (ds:List Deferred) (σ:St) (a:Act) (w:World):Prop :=
  (∀ id,σ.n≤id→σ.H id=none)∧∃ ι,(∀ b,F b→b<w.heap.size)∧(∀ id b,ι id=some b→M b)∧(∀ b,M b→b<w.heap.size∧¬ F b) ∧
    (∀ id b o,ι id=some b→σ.H id=some o→∃ ob,w.heap[b]? = some ob∧CR F w ι o ob)∧(∀ id id' b,ι id=some b→ι id'=some b→id=id') ∧
    (∀ id,(∃ b,ι id=some b)↔(σ.H id).isSome=true)∧(∀ t,V F w ι (σ.Γ t) (a.tmps.getD t undef))∧a.tmps.size=N∧a.defers=ds
def allP:Nat→Prop:=fun _=>True
def noZ:Nat→Option Value:=fun _=>none
section
variable {P:Program} {F M:Nat→Prop} {N:Nat} {ds:List Deferred} {σ:St} {a:Act} {w:World}
theorem SRB.sr (h:SRB F M N ds σ a w) (hok:OkV w) (Z:Nat→Option Value) (hZ:∀ t v,Z t=some v→a.tmps.getD t undef=v):SR ⟨w,F,M,allP,Z⟩ N ds σ a w:=by
  obtain ⟨h1,ι,hF,hM,hMF,ho,hi,hd,hV,hN,hds⟩:=h
  refine ⟨h1,fun _ _=>trivial,hok,F,ι,⟨.refl _ _ _,hF,fun b h=>.inl h,fun id b e=>⟨.inl (hM id b e),(hMF b (hM id b e)).1,fun _=>(hMF b (hM id b e)).2⟩,ho,fun id id' b e e' _ _=>hi id id' b e e',fun id id' b o o' e e' _ q q'=>?_⟩,hd,hV,⟨hN,hZ⟩,hds,fun _ _=>trivial⟩
  have:=hi id id' b e e'
  subst this
  rw [q] at q'; injection q' with q'; subst q'
  exact Nat.le_refl _
theorem SR.srb {G:Ctx} (h:SR G N ds σ a w):∃ F M,SRB F M N ds σ a w∧(∀ b,M b→G.M b∨G.W.heap.size≤b)∧(∀ b,F b→G.A b∨G.M b∨G.W.heap.size≤b)∧Kept G.M G.W.heap.size G.W w ∧
    ∀ t v,G.Z t=some v→a.tmps.getD t undef=v:=by
  obtain ⟨h1,h2,_,F,ι,hR,hd,hV,hN,hds,_⟩:=h
  refine ⟨F,fun b=>∃ id,ι id=some b,⟨h1,ι,hR.F_lt,fun id b e=>⟨id,e⟩,?_,hR.obj,fun id id' b e e'=>hR.inj id id' b e e' (fun x=>x) (fun x=>x),hd,hV,hN.1,hds⟩,?_,hR.F_ok,hR.kept,hN.2⟩
  · rintro b ⟨id,e⟩; exact ⟨(hR.place id b e).2.1,(hR.place id b e).2.2 fun x=>x⟩
  · rintro b ⟨id,e⟩; exact (hR.place id b e).1
theorem SRB.world (h:SRB F M N ds σ a w) {w':World} (hsz:w.heap.size≤w'.heap.size) (hb:∀ b,F b∨M b→w'.heap[b]? = w.heap[b]?):SRB F M N ds σ a w':=by
  obtain ⟨h1,ι,hF,hM,hMF,ho,hi,hd,hV,hN,hds⟩:=h
  have hs:Step F w ι F w' ι:=⟨fun _ h=>h,fun b h=>hb b (.inl h),fun _ _ h=>h,fun id b cur e hi h=>⟨cur,(hb b (.inr (hM id b hi))).trans h,rfl⟩⟩
  refine ⟨h1,ι,fun b h=>Nat.lt_of_lt_of_le (hF b h) hsz,hM,fun b h=>⟨Nat.lt_of_lt_of_le (hMF b h).1 hsz,(hMF b h).2⟩,fun id b o e e'=>?_,hi,hd,fun t=>(hV t).step hs,hN,hds⟩
  obtain ⟨ob,q1,q2⟩:=ho id b o e e'
  exact ⟨ob,(hb b (.inr (hM id b e))).trans q1,q2.step hs⟩
theorem SRB.more (h:SRB F M N ds σ a w) {F':Nat→Prop} (hFF:∀ b,F b→F' b) (hF':∀ b,F' b→b<w.heap.size) (hMF':∀ b,M b→¬ F' b):SRB F' M N ds σ a w:=by
  obtain ⟨h1,ι,hF,hM,hMF,ho,hi,hd,hV,hN,hds⟩:=h
  have hs:Step F w ι F' w ι:=⟨hFF,fun b h=>rfl,fun _ _ h=>h,fun id b cur e hi h=>⟨cur,h,rfl⟩⟩
  refine ⟨h1,ι,hF',hM,fun b h=>⟨(hMF b h).1,hMF' b h⟩,fun id b o e e'=>?_,hi,hd,fun t=>(hV t).step hs,hN,hds⟩
  obtain ⟨ob,q1,q2⟩:=ho id b o e e'
  exact ⟨ob,q1,q2.step hs⟩
theorem SRB.act (h:SRB F M N ds σ a w) {Γ':Nat→AV} {a':Act} {ds':List Deferred} (hN:a'.tmps.size=N) (hds:a'.defers=ds')
    (hV:∀ t,(Γ' t=σ.Γ t∧a'.tmps.getD t undef=a.tmps.getD t undef)∨Γ' t=.any∨∃ d v,Γ' t=inj1 d∧a'.tmps.getD t undef=v∧VD F w d v):SRB F M N ds' ⟨Γ',σ.H,σ.n⟩ a' w:=by
  obtain ⟨h1,ι,hF,hM,hMF,ho,hi,hd,hV0,_,_⟩:=h
  refine ⟨h1,ι,hF,hM,hMF,ho,hi,hd,fun t=>?_,hN,hds⟩
  rcases hV t with ⟨e1,e2⟩ | e | ⟨d,v,e1,e2,e3⟩
  · show V F w ι (Γ' t) _
    rw [e1,e2]; exact hV0 t
  · show V F w ι (Γ' t) _
    rw [e]; exact .any _
  · show V F w ι (Γ' t) _
    rw [e1,e2]; exact V_inj1 e3
theorem SRB.defers (h:SRB F M N ds σ a w) (ds':List Deferred):SRB F M N ds' σ { a with defers:=ds' } w:=by
  obtain ⟨h1,ι,hF,hM,hMF,ho,hi,hd,hV,hN,hds⟩:=h
  exact ⟨h1,ι,hF,hM,hMF,ho,hi,hd,hV,hN,rfl⟩
theorem SRB.weak (h:SRB F M N ds σ a w) (hok:OkV w) {σ':St} {ρ:Nat→Nat} (hk:Wk σ σ' ρ):∃ F' M',SRB F' M' N ds σ' a w∧(∀ b,M' b→M b)∧∀ b,F' b→F b∨M b:=by
  obtain ⟨F',M',h',hM,hF,_⟩:=(SR_weak hk (h.sr hok noZ fun _ _ e=>by cases e)).srb
  refine ⟨F',M',h',fun b hb=>?_,fun b hb=>?_⟩
  · rcases hM b hb with h1 | h1
    · exact h1
    · obtain ⟨_,_,_,_,q,_⟩:=h'
      have:=(q b hb).1
      simp only at h1; omega
  · rcases hF b hb with h1 | h1 | h1
    · exact .inl h1
    · exact .inr h1
    · obtain ⟨_,_,q,_⟩:=h'
      have:=q b hb
      simp only at h1; omega
def used (σ:St) (l:List Nat):St:=fin ⟨σ.Γ,kill l σ.H,σ.n⟩ l
theorem SRB.callee (h:SRB F M N ds σ a w) {g:Operand} {gf:FuncId} {cs:List AV} {caps:List D} (hg:calleeA (oev σ.Γ g)=some (gf,cs)) (hf:frzs σ.H cs=some caps) :
    ∃ lb A M',a.eval g=.func (.func gf) #[] lb∧caps.length=lb.size∧(∀ (k:Nat) d v,caps[k]? = some d→lb[k]? = some v→VD A w d v)∧SRB A M' N ds (used σ (viss σ.H cs)) a w ∧
      (∀ b,A b→F b∨M b)∧(∀ b,M' b→M b):=by
  obtain ⟨h1,ι,hF,hM,hMF,ho,hi,hd,hV,hN,hds⟩:=h
  have hR:HR ⟨w,F,M,allP,noZ⟩ F w ι none' σ.H:=by
    refine ⟨.refl _ _ _,hF,fun b h=>.inl h,fun id b e=>⟨.inl (hM id b e),(hMF b (hM id b e)).1,fun _=>(hMF b (hM id b e)).2⟩,ho,fun id id' b e e' _ _=>hi id id' b e e',fun id id' b o o' e e' _ q q'=>?_⟩
    have:=hi id id' b e e'
    subst this
    rw [q] at q'; injection q' with q'; subst q'
    exact Nat.le_refl _
  have hVg:V F w ι (oev σ.Γ g) (a.eval g):=V_oev fun t _=>hV t
  obtain ⟨lb,e1,e2,e3⟩:=calleeA_V hg hVg
  obtain ⟨q1,q2,q3⟩:=frzs_VL (vs:=lb.toList) hR (fun _ _ h=>h) hf (by simpa using e2) fun k c u hc hu=>e3 k c u hc (by simpa using hu)
  let l:=viss σ.H cs
  have hAM:∀ b,reach F ι l b→F b∨M b:=by
    rintro b (hb | ⟨id,_,e⟩)
    · exact .inl hb
    · exact .inr (hM id b e)
  have hAlt:∀ b,reach F ι l b→b<w.heap.size:=fun b hb=>(hAM b hb).elim (hF b) fun h=>(hMF b h).1
  have hs:Step F w ι (reach F ι l) w ι:=⟨fun b h=>.inl h,fun b h=>rfl,fun _ _ h=>h,fun id b cur e hi h=>⟨cur,h,rfl⟩⟩
  refine ⟨lb,reach F ι l,fun b=>M b∧¬ reach F ι l b,e1,by simpa using q1,fun k d v hk hv=>q2 k d v hk (by simpa using hv),?_,hAM,fun b h=>h.1⟩
  have hmask:∀ id b,mask ι l id=some b→M b∧¬ reach F ι l b:=fun id b e=>by
    obtain ⟨m1,m2⟩:=mask_some e
    refine ⟨hM id b m1,?_⟩
    rintro (hb | ⟨id',hid',e'⟩)
    · exact (hMF b (hM id b m1)).2 hb
    · exact m2 (hi id id' b m1 e' ▸ hid')
  have hkill:∀ id,kill l σ.H id=if id∈l then none else σ.H id:=fun id=>by
    by_cases hid:id∈l
    · rw [if_pos hid,kill_mem hid]
    · rw [if_neg hid,kill_not hid]
  unfold used
  show SRB (reach F ι l) _ N ds (fin ⟨σ.Γ,kill l σ.H,σ.n⟩ l) a w
  cases hl:l with
  | nil =>
    have hmk:mask ι l=ι:=by funext id; simp [mask,hl]
    rw [← hl]
    have hfin:fin ⟨σ.Γ,kill l σ.H,σ.n⟩ l=σ:=by rw [hl]; rfl
    rw [hfin]
    refine ⟨h1,ι,hAlt,fun id b e=>hmask id b (by rw [hmk]; exact e),fun b h=>⟨(hMF b h.1).1,h.2⟩,fun id b o e e'=>?_,hi,hd,fun t=>(hV t).step hs,hN,hds⟩
    obtain ⟨ob,p1,p2⟩:=ho id b o e e'
    exact ⟨ob,p1,p2.step hs⟩
  | cons x xs =>
    rw [← hl]
    have hfin:fin ⟨σ.Γ,kill l σ.H,σ.n⟩ l=⟨fun t=>scrub l (σ.Γ t),fun id=>(kill l σ.H id).map (scrubO l),σ.n⟩:=by rw [hl]; rfl
    rw [hfin]
    refine ⟨fun id h=>by simp only; rw [hkill,h1 id h]; simp,mask ι l,hAlt,hmask,fun b h=>⟨(hMF b h.1).1,h.2⟩,fun id b o e e'=>?_,fun id id' b e e'=>hi id id' b (mask_some e).1 (mask_some e').1,fun id=>?_,fun t=>V_scrub ((hV t).step hs),hN,hds⟩
    · obtain ⟨m1,m2⟩:=mask_some e
      simp only [hkill,if_neg m2] at e'
      obtain ⟨o1,ho1,rfl⟩:=Option.map_eq_some_iff.1 e'
      obtain ⟨ob,p1,p2⟩:=ho id b o1 m1 ho1
      exact ⟨ob,p1,CR_scrub (p2.step hs)⟩
    · constructor
      · rintro ⟨b,e⟩
        obtain ⟨m1,m2⟩:=mask_some e
        simp only [hkill,if_neg m2,Option.isSome_map]
        exact (hd id).1 ⟨b,m1⟩
      · intro e
        by_cases hid:id∈l
        · simp [hkill,hid] at e
        · simp only [hkill,if_neg hid,Option.isSome_map] at e
          obtain ⟨b,hb⟩:=(hd id).2 e
          exact ⟨b,by unfold mask; rw [if_neg hid]; exact hb⟩
end
end Go.Am
end
section
open List renaming map_map→ζ,mapM_map→ξ
namespace Go.Am
open Go.Conc (G)
open RowKit (Below)
def YX (P:Program) [M:Mch P] (l:Nat) (vals:Array Value) (W1:World) (R:Value→World→Prop):Prop :=
  ∃ f tmps assign body,runC P (Instr.yield l vals) W1=.ok (.round l f tmps assign body) W1 ∧
    ∀ (Win:Goroutine→World→Prop),M.Fam Win→OkV W1→∀ (c:Frame) (cs:List Frame),(∀ x v',OkV v'→R x v'→Win (Go.Conc.G (c.finish x) cs) v')→Win (Go.Conc.G (Frame.round l f tmps assign body .normal) (c::cs)) W1
def SeqSpec (P:Program) [M:Mch P] (g:FuncId) (caps:List D) (xs:List (List D)):Prop :=
  ∀ (A:Nat→Prop) (W:World) (l:Nat) (lb:Array Value),(∀ b,A b→b<W.heap.size)→caps.length=lb.size→(∀ (k:Nat) d v,caps[k]? = some d→lb[k]? = some v→VD A W d v) →
    (∀ args w,runC P (callFunc g args) w=.ok (.enter g args) w) ∧
    ∀ (J:Nat→(Nat→Prop)→(Nat→Prop)→World→Prop),
      (∀ k X O W1 X' O' W2,J k X O W1→Kept O W1.heap.size W1 W2→(∀ b,X b→X' b)→(∀ b,X' b→X b∨(W1.heap.size≤b∧b<W2.heap.size))→(∀ b,O' b→X' b∧(O b∨W1.heap.size≤b))→J k X' O' W2) →
      (∀ k X O W1 ds (vals:Array Value),xs[k]? = some ds→J k X O W1→ds.length=vals.size→(∀ (i:Nat) d v,ds[i]? = some d→vals[i]? = some v→VD (fun b=>A b∨(X b∧¬ O b)) W1 d v) →
        YX P l vals W1 fun x W2=>x=.bool (decide (k+1≠xs.length))∧J (k+1) X O W2∧W1.heap.size≤W2.heap.size∧W2.os=W1.os∧W2.tape=W1.tape∧W2.output=W1.output∧∀ b,A b∨X b→W2.heap[b]? = W1.heap[b]?) →
      J 0 none' none' W →
      CX P g (#[.func (.yield l) #[] #[]]++lb) W fun _ W'=>∃ X O,J xs.length X O W'
def marks (Ds:List Nat):List Deferred:=Ds.map fun D=>{ target:=.collected D,args:=#[] }
def FR (W:World) (A0:Nat→Prop) (N:Nat) (Ds:List Nat) (σ:St) (a:Act) (w:World):Prop :=
  ∃ F M,SRB F M N (marks Ds) σ a w∧(∀ b,M b→W.heap.size≤b)∧(∀ b,F b→A0 b∨W.heap.size≤b)∧Kept none' W.heap.size W w ∧
    (∀ D∈Ds,W.heap.size≤D∧w.heap[D]? = some (.deferred (some []))∧¬ M D∧¬ F D)∧Ds.Nodup
def FRx (W:World) (A0:Nat→Prop) (N:Nat) (σ:St) (a:Act) (w:World):Prop:=∃ Ds,FR W A0 N Ds σ a w
theorem lt_of_some {w:World} {b:Nat} {o:Obj} (h:w.heap[b]? = some o):b<w.heap.size:=(Array.getElem?_eq_some_iff.1 h).1
section
variable {P:Program} [M:Mch P] {W w:World} {A0:Nat→Prop} {N:Nat} {Ds:List Nat} {σ:St} {a:Act}
theorem SRB.env {F Ms:Nat→Prop} {ds:List Deferred} (h:SRB F Ms N ds σ a w) {v1:World} (he:Env w v1):SRB F Ms N ds σ a v1:=by
  have hF:∀ b,F b→b<w.heap.size:=by obtain ⟨_,_,q,_⟩:=h; exact q
  have hM:∀ b,Ms b→b<w.heap.size:=by obtain ⟨_,_,_,_,q,_⟩:=h; exact fun b hb=>(q b hb).1
  exact h.world he.size fun b hb=>he.get (hb.elim (hF b) (hM b))
theorem Env.kept {v v1:World} (h:Env v v1) (O:Nat→Prop):Kept O v.heap.size v v1 :=
  ⟨h.os,h.tape,h.output,h.size,fun k hk _=>h.get hk,fun k cur e hk hc=>⟨cur,(h.get hk).trans hc,rfl⟩⟩
theorem FRx.env (h:FRx W A0 N σ a w) {v1:World} (he:Env w v1):FRx W A0 N σ a v1:=by
  obtain ⟨Ds,F,M,hs,hM,hF,hK,hD,hnd⟩:=h
  have hWw:=hK.size
  refine ⟨Ds,F,M,hs.env he,hM,hF,hK.trans ⟨he.os,he.tape,he.output,he.size,fun k hk _=>he.get (by omega),fun k cur e hk hc=>⟨cur,(he.get (by omega)).trans hc,rfl⟩⟩,fun D hDm=>?_,hnd⟩
  obtain ⟨d1,d2,d3,d4⟩:=hD D hDm
  exact ⟨d1,(he.get (lt_of_some d2)).trans d2,d3,d4⟩
theorem fr_code (hm:P.follows .mixedOrders=true) {c:Code} {Q:Exit→St→Prop} (hd:codeDst N c=true) (hl:codeLex P c=true) (h:AWP P c σ Q) (hs:FRx W A0 N σ a w) :
    WC P c (fun e a' w'=>∃ σ',Q e σ'∧FRx W A0 N σ' a' w') a w:=by
  refine (WpR.plain P).okv fun hok=>?_
  obtain ⟨Ds,F,Ms,hs,hM,hF,hK,hD,hnd⟩:=hs
  have hMlt:∀ b,Ms b→b<w.heap.size:=by obtain ⟨_,_,_,_,q,_⟩:=hs; exact fun b hb=>(q b hb).1
  refine wc_mono (AWP_sound (G:=⟨w,F,Ms,allP,noZ⟩) hm (fun _=>rfl) c Q σ a w hd hl h (hs.sr hok noZ fun _ _ e=>by cases e)) ?_
  rintro e a' w' ⟨σ',hq,hs'⟩
  refine ⟨σ',hq,?_⟩
  obtain ⟨F',M',h',hM',hF',hK',_⟩:=hs'.srb
  simp only at hM' hF' hK'
  have hWw:=hK.size
  refine ⟨Ds,F',M',h',fun b hb=>?_,fun b hb=>?_,hK.trans ⟨hK'.os,hK'.tape,hK'.output,hK'.size,fun k hk _=>hK'.block k (by omega) fun hm=>by have:=hM k hm; omega,fun k cur e hk hc=>hK'.shape k cur e (by omega) hc⟩,fun D hDm=>?_,hnd⟩
  · rcases hM' b hb with h | h
    · exact hM b h
    · omega
  · rcases hF' b hb with h | h | h
    · exact hF b h
    · exact .inr (hM b h)
    · exact .inr (by omega)
  · obtain ⟨d1,d2,d3,d4⟩:=hD D hDm
    have hlt:=lt_of_some d2
    refine ⟨d1,(hK'.block D hlt d3).trans d2,fun hm=>?_,fun hf=>?_⟩
    · rcases hM' D hm with h | h
      · exact d3 h
      · omega
    · rcases hF' D hf with h | h | h
      · exact d4 h
      · exact d3 h
      · omega
def setΓ:List (Tmp × D)→(Nat→AV)→Nat→AV
  | [],Γ=>Γ
  | (p,d)::l,Γ=>setΓ l (upd Γ p (inj1 d))
theorem setΓ_V {F:Nat→Prop} {w:World} {wr:Nat→Bool}:∀ (l:List (Tmp × D)) (vs:List (Tmp × Value)) (Γ0 Γ:Nat→AV) (T0 T:Array Value),T.size=T0.size→l.length=vs.length →
    (∀ (k:Nat) p q,l[k]? = some p→vs[k]? = some q→p.1=q.1∧p.1<T0.size∧wr p.1=true∧VD F w p.2 q.2) →
    (∀ t,(Γ t=Γ0 t∧T.getD t undef=T0.getD t undef)∨Γ t=.any∨∃ d v,Γ t=inj1 d∧T.getD t undef=v∧VD F w d v) →
    (∀ t,wr t=false→T.getD t undef=T0.getD t undef) →
    ((vs.foldl (fun t (p:Tmp × Value)=>t.setIfInBounds p.1 p.2) T).size=T0.size) ∧
    (∀ t,(setΓ l Γ t=Γ0 t∧(vs.foldl (fun t (p:Tmp × Value)=>t.setIfInBounds p.1 p.2) T).getD t undef=T0.getD t undef)∨setΓ l Γ t=.any∨∃ d v,setΓ l Γ t=inj1 d∧(vs.foldl (fun t (p:Tmp × Value)=>t.setIfInBounds p.1 p.2) T).getD t undef=v∧VD F w d v) ∧
    (∀ t,wr t=false→(vs.foldl (fun t (p:Tmp × Value)=>t.setIfInBounds p.1 p.2) T).getD t undef=T0.getD t undef)
  | [],[],Γ0,Γ,T0,T,hsz,_,_,h,hz=>⟨hsz,h,hz⟩
  | [],_::_,_,_,_,_,_,hl,_,_,_=>by simp at hl
  | _::_,[],_,_,_,_,_,hl,_,_,_=>by simp at hl
  | (p,d)::l,(p',v)::vs,Γ0,Γ,T0,T,hsz,hl,hp,h,hz=>by
    obtain ⟨e1,e2,e3,e4⟩:=hp 0 _ _ rfl rfl
    simp only at e1 e2 e3 e4
    subst e1
    have hget:∀ t,(T.setIfInBounds p v).getD t undef=if t=p then v else T.getD t undef:=fun t=>by
      simp only [Array.getD_eq_getD_getElem?]
      by_cases ht:t=p
      · subst ht; rw [if_pos rfl,Array.getElem?_setIfInBounds_self_of_lt (by rw [hsz]; exact e2)]; rfl
      · rw [if_neg ht,Array.getElem?_setIfInBounds_ne (Ne.symm ht)]
    refine setΓ_V (wr:=wr) l vs Γ0 (upd Γ p (inj1 d)) T0 (T.setIfInBounds p v) (by simpa using hsz) (by simpa using hl) (fun k a b ha hb=>hp (k+1) a b (by simpa using ha) (by simpa using hb)) (fun t=>?_) fun t ht=>?_
    · by_cases htp:t=p
      · subst htp
        exact .inr (.inr ⟨d,v,upd_same _ _ _,by rw [hget,if_pos rfl],e4⟩)
      · rw [upd_ne _ _ htp,hget,if_neg htp]; exact h t
    · rw [hget,if_neg (fun e=>by subst e; rw [e3] at ht; cases ht)]; exact hz t ht
structure Rounds (P:Program) [M:Mch P] (N:Nat) (ps:Array Tmp) (assign body:Code) (wl:List Nat) (xs:List (List D)) (T:Nat→St) (E:Exit):Prop where
  dst:codeDst N assign=true∧codeDst N body=true
  lex:codeLex P assign=true∧codeLex P body=true
  rd:codeRd assign=true∧codeRd body=true
  nz:codeNZ (fun t=>!wl.contains t) assign=true∧codeNZ (fun t=>!wl.contains t) body=true
  psl:∀ p∈ps.toList,p<N∧wl.contains p=true
  ne:0<xs.length
  round:∀ k x,xs[k]? = some x→x.length=ps.size∧AWP P assign ⟨setΓ (ps.toList.zip x) (T k).Γ,(T k).H,(T k).n⟩ fun e σ1=>e=.normal ∧
    AWP P body σ1 fun e σ2=>e=(if k+1=xs.length then E else .normal)∧∃ ρ,Wk ⟨fun t=>if wl.contains t then .any else σ2.Γ t,σ2.H,σ2.n⟩ (T (k+1)) ρ
theorem foldl_pair (l:Array (Tmp × Value)) (T:Array Value):l.foldl (fun t (x:Tmp × Value)=>match x with | (p,v)=>t.setIfInBounds p v) T=l.toList.foldl (fun t (p:Tmp × Value)=>t.setIfInBounds p.1 p.2) T:=by
  rw [← Array.foldl_toList]
def recAt (rec:LoopState→Option Code→Loop) (jc:Code) (n k:Nat):Loop:=if k=n then rec .done (some jc) else rec .ready none
def JR (W:World) (n:Nat) (A0 A:Nat→Prop) (N:Nat) (Ds:List Nat) (T:Nat→St) (a:Act) (rec:Nat→Loop) (k:Nat) (X O:Nat→Prop) (U:World):Prop:=∃ F M,SRB F M N (marks Ds) (T k) a U ∧
    (∀ b,M b→W.heap.size≤b∧¬ X b∧¬ A b∧b≠n+1∧b≠n∧b ∉ Ds)∧(∀ b,F b→(A0 b∨W.heap.size≤b)∧¬ O b∧b≠n+1∧b≠n∧b ∉ Ds) ∧
    Kept none' W.heap.size W U∧(∀ D∈Ds,U.heap[D]? = some (.deferred (some [])))∧U.heap[n+1]? = some (.loop (rec k))∧U.heap[n]? = some (.deferred (some [])) ∧
    (∀ b,X b→n+2≤b∧b<U.heap.size)∧(∀ b,O b→X b)
theorem JR.stab {n:Nat} {A:Nat→Prop} {T:Nat→St} {rec:Nat→Loop} (hWw:W.heap.size≤n) (hDs:∀ D∈Ds,D<n):∀ k X O U1 X' O' U2,JR W n A0 A N Ds T a rec k X O U1→Kept O U1.heap.size U1 U2→(∀ b,X b→X' b) →
    (∀ b,X' b→X b∨(U1.heap.size≤b∧b<U2.heap.size))→(∀ b,O' b→X' b∧(O b∨U1.heap.size≤b))→JR W n A0 A N Ds T a rec k X' O' U2:=by
  rintro k X O U1 X' O' U2 ⟨F,M,hj,hjM,hjF,hjK,hjD,hjl,hjd,hjX,hjO⟩ hk hX1 hX2 hO
  have hFlt:∀ b,F b→b<U1.heap.size:=by obtain ⟨_,_,q,_⟩:=hj; exact q
  have hMlt:∀ b,M b→b<U1.heap.size:=by obtain ⟨_,_,_,_,q,_⟩:=hj; exact fun b h=>(q b h).1
  have keep:∀ b,b<U1.heap.size→¬ O b→U2.heap[b]? = U1.heap[b]? := fun b h1 h2=>hk.block b h1 h2
  have hOge:∀ b,O b→n+2≤b:=fun b hb=>(hjX b (hjO b hb)).1
  have hKs:=hjK.size
  refine ⟨F,M,hj.world hk.size fun b hb=>?_,fun b hb=>?_,fun b hb=>?_,?_,fun D hDm=>?_,?_,?_,fun b hb=>?_,fun b hb=>(hO b hb).1⟩
  · rcases hb with h | h
    · exact keep b (hFlt b h) (hjF b h).2.1
    · exact keep b (hMlt b h) fun ho=>(hjM b h).2.1 (hjO b ho)
  · obtain ⟨q1,q2,q3⟩:=hjM b hb
    refine ⟨q1,fun hx=>?_,q3⟩
    rcases hX2 b hx with h | h
    · exact q2 h
    · have:=hMlt b hb; omega
  · obtain ⟨q1,q2,q3⟩:=hjF b hb
    refine ⟨q1,fun hx=>?_,q3⟩
    rcases (hO b hx).2 with h | h
    · exact q2 h
    · have:=hFlt b hb; omega
  · exact hjK.trans ⟨hk.os,hk.tape,hk.output,hk.size,fun k hk' _=>keep k (by omega) fun ho=>(by have:=hOge k ho; omega),fun k cur e hk' hc=>⟨cur,(keep k (by omega) fun ho=>(by have:=hOge k ho; omega)).trans hc,rfl⟩⟩
  · have:=hDs D hDm
    exact (keep D (lt_of_some (hjD D hDm)) fun ho=>by have:=hOge D ho; omega).trans (hjD D hDm)
  · exact (keep _ (lt_of_some hjl) fun ho=>by have:=hOge _ ho; omega).trans hjl
  · exact (keep _ (lt_of_some hjd) fun ho=>by have:=hOge _ ho; omega).trans hjd
  · have:=hk.size
    rcases hX2 b hb with h | h
    · have:=hjX b h; omega
    · have:=lt_of_some hjl
      refine ⟨?_,h.2⟩
      omega
theorem Kept.env {O:Nat→Prop} {n:Nat} {v v1:World} (h:Kept O n W v) (hn:n≤v.heap.size) (he:Env v v1):Kept O n W v1 :=
  h.trans ⟨he.os,he.tape,he.output,he.size,fun k hk _=>he.get (by omega),fun k cur e hk hc=>⟨cur,(he.get (by omega)).trans hc,rfl⟩⟩
theorem JR.round (hm:P.follows .mixedOrders=true) {n:Nat} {A:Nat→Prop} {ps:Array Tmp} {assign body:Code} {fn:FuncId} {xs:List (List D)} {T:Nat→St} {wl:List Nat} {E:Exit} {jc:Code} (hE:(E,jc)=(.ret,.ret)∨∃ id,(E,jc)=(.exit id,.exit id)) (hWw:W.heap.size≤n) (hDs:∀ D∈Ds,D<n) (hAlt:∀ b,A b→b<n)
    (hA0':∀ b,A b→A0 b∨W.heap.size≤b) (hADs:∀ b,A b→b ∉ Ds) (hadef:a.tmps.size=N) (hadd:a.defers=marks Ds) (hr:Rounds P N ps assign body wl xs T E) :
    ∀ k X O U1 ds (vals:Array Value),xs[k]? = some ds→JR W n A0 A N Ds T a (recAt (recOf fn a ps assign body n) jc xs.length) k X O U1→ds.length=vals.size→(∀ (i:Nat) d v,ds[i]? = some d→vals[i]? = some v→VD (fun b=>A b∨(X b∧¬ O b)) U1 d v) →
      YX P (n+1) vals U1 fun x W2=>x=.bool (decide (k+1≠xs.length))∧JR W n A0 A N Ds T a (recAt (recOf fn a ps assign body n) jc xs.length) (k+1) X O W2∧U1.heap.size≤W2.heap.size∧W2.os=U1.os∧W2.tape=U1.tape∧W2.output=U1.output∧∀ b,A b∨X b→W2.heap[b]? = U1.heap[b]? := by
  obtain ⟨rec,hrec⟩:∃ rec:LoopState→Option Code→Loop,rec=recOf fn a ps assign body n:=⟨_,rfl⟩
  rw [← hrec]
  rintro k X O U1 ds vals hx ⟨F,Ms,hj,hjM,hjF,hjK,hjD,hjl,hjd,hjX,hjO⟩ hlen hvals
  obtain ⟨hps,hwalk⟩:=hr.round k ds hx
  have hFlt:∀ b,F b→b<U1.heap.size:=by obtain ⟨_,_,q,_⟩:=hj; exact q
  have hMlt:∀ b,Ms b→b<U1.heap.size:=by obtain ⟨_,_,_,_,q,_⟩:=hj; exact fun b h=>(q b h).1
  have hsz1:n+1<U1.heap.size:=lt_of_some hjl
  have hklt:k<xs.length:=(List.getElem?_eq_some_iff.1 hx).1
  have hrk:recAt rec jc xs.length k=rec .ready none:=by unfold recAt; rw [if_neg (by omega)]
  rw [hrk] at hjl
  have hy:=run_yield (P:=P) (args:=vals) hjl (by rw [hrec]; show vals.size=ps.size; omega)
  rw [hrec] at hy
  refine ⟨fn,_,assign,body,hy,fun Win hW hok c cs hk=>?_⟩
  let b0:Frame:={ (default:Frame) with fn:=fn,kind:=.normal,roundOf:=some (n+1) }
  -- the frame of the round
  let F1:Nat→Prop:=fun b=>F b∨A b∨(X b∧¬ O b)
  have hF1lt:∀ b,F1 b→b<U1.heap.size:=by
    rintro b (h | h | h)
    · exact hFlt b h
    · have:=hAlt b h; omega
    · exact (hjX b h.1).2
  have hj1:SRB F1 Ms N (marks Ds) (T k) a U1:=hj.more (fun b h=>.inl h) hF1lt fun b hb hf=>by
    obtain ⟨_,q2,q3,_⟩:=hjM b hb
    rcases hf with h | h | h
    · obtain ⟨_,_,_,_,q,_⟩:=hj; exact (q b hb).2 h
    · exact q3 h
    · exact q2 h.1
  obtain ⟨s1,s2,s3⟩:=setΓ_V (F:=F1) (w:=U1) (wr:=fun t=>wl.contains t) (ps.toList.zip ds) (ps.zip vals).toList (T k).Γ (T k).Γ a.tmps a.tmps rfl (by simp; omega) (fun i p q hp hq=>by
    rw [Array.toList_zip] at hq
    rw [List.getElem?_zip_eq_some] at hp hq
    obtain ⟨p1,p2⟩:=p; obtain ⟨q1,q2⟩:=q
    simp only at hp hq ⊢
    have e:p1=q1:=by have:=hp.1.symm.trans hq.1; injection this
    obtain ⟨w1,w2⟩:=hr.psl p1 (List.mem_of_getElem? hp.1)
    exact ⟨e,by rw [hadef]; exact w1,w2,(hvals i p2 q2 hp.2 (by simpa using hq.2)).mono fun b hb=>.inr hb⟩) (fun t=>.inl ⟨rfl,rfl⟩) fun t _=>rfl
  have hfold:=foldl_pair (ps.zip vals) a.tmps
  obtain ⟨tmps',htm⟩:∃ tmps',(ps.zip vals).foldl (fun t (x:Tmp × Value)=>match x with | (p,v)=>t.setIfInBounds p v) a.tmps=tmps':=⟨_,rfl⟩
  rw [← hfold,htm] at s1 s2 s3
  have hb0:Frame.round (n+1) fn ((ps.zip vals).foldl (fun t (x:Tmp × Value)=>match x with | (p,v)=>t.setIfInBounds p v) a.tmps) assign body .normal=b0.atR { tmps:=tmps',defers:=[] } [.code assign,.beginRound,.code body]:=by
    simp only [Frame.round,Frame.atR,b0,htm]
  show Win (G (Frame.round (n+1) fn ((ps.zip vals).foldl (fun t (x:Tmp × Value)=>match x with | (p,v)=>t.setIfInBounds p v) a.tmps) assign body .normal) (c::cs)) U1
  rw [hb0]
  have hj2:SRB F1 Ms N [] ⟨setΓ (ps.toList.zip ds) (T k).Γ,(T k).H,(T k).n⟩ { tmps:=tmps',defers:=[] } U1:=hj1.act (by show tmps'.size=N; omega) rfl s2
  let Z:Nat→Option Value:=fun t=>if wl.contains t then none else some (a.tmps.getD t undef)
  have hZ:∀ d v,Z d=some v→(!wl.contains d)=true:=fun d v e=>by
    simp only [Z] at e
    split at e
    · cases e
    · rename_i h; simpa using h
  have hZt:∀ (tm:Array Value),(∀ t,wl.contains t=false→tm.getD t undef=a.tmps.getD t undef)→∀ t v,Z t=some v→tm.getD t undef=v:=fun tm h t v e=>by
    simp only [Z] at e
    split at e
    · cases e
    · rename_i hc; injection e with e; rw [h t (by simpa using hc),e]
  refine AWP_soundR (G:=⟨U1,F1,Ms,allP,Z⟩) (WpR.inRound P (n+1)) hm hZ assign _ _ _ _ hr.dst.1 hr.lex.1 hr.nz.1 (fun _=>hr.rd.1) hwalk (hj2.sr hok Z (hZt _ s3)) Win hW hok b0 [.beginRound,.code body] (c::cs) rfl rfl ?_
  rintro e a2 U2o hok2 ⟨σ2,⟨rfl,hwalk2⟩,hs2⟩
  refine win_begin hW rfl rfl hok2 fun U2 he2=>?_
  obtain ⟨F2',M2',h2o,hM2',hF2',hK2o,hZ2⟩:=hs2.srb
  simp only at hM2' hF2' hK2o hZ2
  have h2:=h2o.env he2
  have hK2':=hK2o.env hK2o.size he2
  have hl2:U2.heap[n+1]? = some (.loop (rec .ready none)):=(hK2'.block _ hsz1 fun h=>(hjM _ h).2.2.2.1 rfl).trans hjl
  have hsz2:U1.heap.size≤U2.heap.size:=hK2'.size
  refine ⟨_,run_beginRound hl2 (by rw [hrec]; rfl),?_⟩
  obtain ⟨U3,hU3⟩:∃ U3,U2.putObj (n+1) (.loop { rec .ready none with state:=.busy })=U3:=⟨_,rfl⟩
  have hU3s:U3.heap.size=U2.heap.size:=by rw [← hU3]; simp
  have hl3:U3.heap[n+1]? = some (.loop { rec .ready none with state:=.busy }):=by rw [← hU3]; exact World.putObj_heap_same (by omega)
  have hoth3:∀ b,b≠n+1→U3.heap[b]? = U2.heap[b]? := fun b hb=>by rw [← hU3]; exact World.putObj_heap_other hb
  have hF1l:∀ b,F1 b→b≠n+1:=by
    rintro b (h | h | h)
    · exact (hjF b h).2.2.1
    · have:=hAlt b h; omega
    · have:=(hjX b h.1).1; omega
  have hM2l:∀ b,M2' b→b≠n+1:=fun b hb=>by
    rcases hM2' b hb with h | h
    · exact (hjM b h).2.2.2.1
    · omega
  have hF2l:∀ b,F2' b→b≠n+1:=fun b hb=>by
    rcases hF2' b hb with h | h | h
    · exact hF1l b h
    · exact (hjM b h).2.2.2.1
    · omega
  have h3:SRB F2' M2' N [] σ2 a2 U3:=h2.world (by omega) fun b hb=>hoth3 b (hb.elim (hF2l b) (hM2l b))
  rw [show U2.putObj (n+1) (.loop { rec .ready none with state:=.busy })=U3 from hU3]
  intro hok3
  refine AWP_soundR (G:=⟨U3,F2',M2',allP,Z⟩) (WpR.inRound P (n+1)) hm hZ body _ _ _ _ hr.dst.2 hr.lex.2 hr.nz.2 (fun _=>hr.rd.2) hwalk2 (h3.sr hok3 Z hZ2) Win hW hok3 b0 [] (c::cs) rfl rfl ?_
  rintro e a4 U4o hok4 ⟨σ4,⟨heE,ρ,hwk⟩,hs4⟩
  obtain ⟨jump,hjmp,hjump⟩:∃ jump:Option Code,((e,jump)=(.normal,none)∨(e,jump)=(.ret,some .ret)∨∃ id,(e,jump)=(.exit id,some (.exit id)))∧jump=if k+1=xs.length then some jc else none:=by
    by_cases hlast:k+1=xs.length
    · rw [if_pos hlast] at heE ⊢
      subst heE
      refine ⟨_,?_,rfl⟩
      rcases hE with hE | ⟨id,hE⟩
      · injection hE with e1 e2; subst e1; subst e2; exact .inr (.inl rfl)
      · injection hE with e1 e2; subst e1; subst e2; exact .inr (.inr ⟨id,rfl⟩)
    · rw [if_neg hlast] at heE ⊢
      subst heE
      exact ⟨none,.inl rfl,rfl⟩
  refine win_endR hW rfl rfl hok4 hjmp fun U4 he4=>?_
  obtain ⟨F4,M4,h4o,hM4,hF4,hK4o,hZ4⟩:=hs4.srb
  simp only at hM4 hF4 hK4o hZ4
  have h4:=h4o.env he4
  have hK4:=hK4o.env hK4o.size he4
  have hok4':=he4.okV hok4
  have hl4:U4.heap[n+1]? = some (.loop { rec .ready none with state:=.busy }):=(hK4.block _ (by omega) fun h=>hM2l _ h rfl).trans hl3
  have hsz4:U3.heap.size≤U4.heap.size:=hK4.size
  have hrr:({ ({ rec .ready none with state:=.busy }:Loop) with state:=if jump.isNone then .ready else .done,pending:=jump }:Loop)=recAt rec jc xs.length (k+1):=by
    rw [hjump,hrec]
    unfold recAt
    by_cases hlast:k+1=xs.length
    · simp only [if_pos hlast]; rfl
    · simp only [if_neg hlast]; rfl
  obtain ⟨U5,hU5⟩:∃ U5,U4.putObj (n+1) (.loop (recAt rec jc xs.length (k+1)))=U5:=⟨_,rfl⟩
  have hU5s:U5.heap.size=U4.heap.size:=by rw [← hU5]; simp
  have hoth5:∀ b,b≠n+1→U5.heap[b]? = U4.heap[b]? := fun b hb=>by rw [← hU5]; exact World.putObj_heap_other hb
  have hend:=run_endRound (P:=P) jump hl4
  rw [hrr,hU5] at hend
  have hjb:jump.isNone=decide (k+1≠xs.length):=by
    rw [hjump]
    by_cases hlast:k+1=xs.length
    · simp [hlast]
    · simp [hlast]
  rw [hjb] at hend
  refine ⟨_,U5,hend,fun hok5=>hk _ _ hok5 ⟨rfl,?_⟩⟩
  -- what lay there lies there still
  have hkeep:∀ b,b<U1.heap.size→¬ Ms b→b≠n+1→U5.heap[b]? = U1.heap[b]? := fun b h1 h2 h3=>by
    rw [hoth5 b h3,hK4.block b (by omega) (fun h=>by rcases hM2' b h with h | h; exact h2 h; omega),hoth3 b h3,hK2'.block b h1 h2]
  have hM4':∀ b,M4 b→Ms b∨U1.heap.size≤b:=fun b hb=>by
    rcases hM4 b hb with h | h
    · exact hM2' b h
    · right; omega
  have hF4':∀ b,F4 b→F1 b∨Ms b∨U1.heap.size≤b:=fun b hb=>by
    rcases hF4 b hb with h | h | h
    · exact hF2' b h
    · exact .inr (hM2' b h)
    · right; right; omega
  have hM4l:∀ b,M4 b→b≠n+1:=fun b hb=>by
    rcases hM4' b hb with h | h
    · exact (hjM b h).2.2.2.1
    · omega
  have hF4l:∀ b,F4 b→b≠n+1:=fun b hb=>by
    rcases hF4' b hb with h | h | h
    · exact hF1l b h
    · exact (hjM b h).2.2.2.1
    · omega
  have h5:SRB F4 M4 N [] σ4 a4 U5:=h4.world (by omega) fun b hb=>hoth5 b (hb.elim (hF4l b) (hM4l b))
  have h6:SRB F4 M4 N (marks Ds) ⟨fun t=>if wl.contains t then .any else σ4.Γ t,σ4.H,σ4.n⟩ a U5:=h5.act hadef hadd fun t=>by
    by_cases ht:wl.contains t=true
    · right; left; simp only [ht,if_true]
    · left
      have ht':wl.contains t=false:=by simpa using ht
      refine ⟨by simp only [ht',Bool.false_eq_true,if_false],?_⟩
      exact (hZ4 t (a.tmps.getD t undef) (by simp only [Z,ht',Bool.false_eq_true,if_false])).symm
  obtain ⟨F7,M7,h7,hM7,hF7⟩:=h6.weak hok5 hwk
  have hM7':∀ b,M7 b→Ms b∨U1.heap.size≤b:=fun b hb=>hM4' b (hM7 b hb)
  have hF7':∀ b,F7 b→F1 b∨Ms b∨U1.heap.size≤b:=fun b hb=>(hF7 b hb).elim (hF4' b) fun h=>.inr (hM4' b h)
  have hKs:=hjK.size
  have hDlt:∀ D∈Ds,D<U1.heap.size:=fun D hDm=>lt_of_some (hjD D hDm)
  refine ⟨⟨F7,M7,h7,fun b hb=>?_,fun b hb=>?_,?_,fun D hDm=>?_,?_,?_,fun b hb=>?_,hjO⟩,by omega,?_,?_,?_,fun b hb=>?_⟩
  · rcases hM7' b hb with h | h
    · exact hjM b h
    · exact ⟨by omega,fun hx=>by have:=(hjX b hx).2; omega,fun ha=>by have:=hAlt b ha; omega,by omega,by omega,fun hDm=>by have:=hDlt b hDm; omega⟩
  · rcases hF7' b hb with (h | h | h) | h | h
    · exact hjF b h
    · have:=hAlt b h
      exact ⟨hA0' b h,fun ho=>by have:=(hjX b (hjO b ho)).1; omega,by omega,by omega,hADs b h⟩
    · have:=(hjX b h.1).1
      exact ⟨.inr (by omega),h.2,by omega,by omega,fun hDm=>by have:=hDs b hDm; omega⟩
    · obtain ⟨q1,q2,q3,q4,q5,q6⟩:=hjM b h
      exact ⟨.inr q1,fun ho=>q2 (hjO b ho),q4,q5,q6⟩
    · exact ⟨.inr (by omega),fun ho=>by have:=(hjX b (hjO b ho)).2; omega,by omega,by omega,fun hDm=>by have:=hDlt b hDm; omega⟩
  · refine hjK.trans ⟨?_,?_,?_,by omega,fun b hb _=>hkeep b (by omega) (fun h=>by have:=(hjM b h).1; omega) (by omega),fun b cur e hb hc=>⟨cur,(hkeep b (by omega) (fun h=>by have:=(hjM b h).1; omega) (by omega)).trans hc,rfl⟩⟩
    · rw [← hU5]; show U4.os=U1.os; rw [hK4.os,← hU3]; exact hK2'.os
    · rw [← hU5]; show U4.tape=U1.tape; rw [hK4.tape,← hU3]; exact hK2'.tape
    · rw [← hU5]; show U4.output=U1.output; rw [hK4.output,← hU3]; exact hK2'.output
  · exact (hkeep D (hDlt D hDm) (fun h=>(hjM D h).2.2.2.2.2 hDm) (by have:=hDs D hDm; omega)).trans (hjD D hDm)
  · rw [← hU5]; exact World.putObj_heap_same (by omega)
  · exact (hkeep _ (by omega) (fun h=>(hjM _ h).2.2.2.2.1 rfl) (by omega)).trans hjd
  · have:=hjX b hb; omega
  · rw [← hU5]; show U4.os=U1.os; rw [hK4.os,← hU3]; exact hK2'.os
  · rw [← hU5]; show U4.tape=U1.tape; rw [hK4.tape,← hU3]; exact hK2'.tape
  · rw [← hU5]; show U4.output=U1.output; rw [hK4.output,← hU3]; exact hK2'.output
  · rcases hb with h | h
    · have:=hAlt b h
      exact hkeep b (by omega) (fun hmm=>(hjM b hmm).2.2.1 h) (by omega)
    · have:=hjX b h
      exact hkeep b this.2 (fun hmm=>(hjM b hmm).2.1 h) (by omega)
end
end Go.Am
end
section
open List renaming map_map→ζ,mapM_map→ξ
namespace Go.Am
open Go.Conc (G)
open RowKit (Below)
section
variable {P:Program} [M:Mch P] {W w:World} {A0:Nat→Prop} {N:Nat} {Ds:List Nat} {σ:St} {a:Act}
theorem fr_range_at (hm:P.follows .mixedOrders=true) {g:Operand} {ps:Array Tmp} {assign body:Code} {gf:FuncId} {cs:List AV} {caps:List D} {xs:List (List D)} {T:Nat→St} {wl:List Nat} {E:Exit} {jc:Code} (hE:(E,jc)=(.ret,.ret)∨∃ id,(E,jc)=(.exit id,.exit id))
    (hg:calleeA (oev σ.Γ g)=some (gf,cs)) (hf:frzs σ.H cs=some caps) (hseq:SeqSpec P gf caps xs) (hr:Rounds P N ps assign body wl xs T E) (h0:∃ ρ,Wk (used σ (viss σ.H cs)) (T 0) ρ) (hs:FRx W A0 N σ a w)
    (hok:OkV w) {Win:Goroutine→World→Prop} (hW:M.Fam Win) {b0:Frame} {k0:List Item} {cs0:List Frame} (hb0:Calm b0)
    (hk:∀ e a' v',OkV v'→(e=E∧FRx W A0 N (T xs.length) a' v')→Owes Win b0 k0 cs0 e a' v') {lb0:Array Value} (hev0:a.eval g=.func (.func gf) #[] lb0) :
    Win (G (Frame.enter P gf (#[.func (.yield (w.heap.size+1)) #[] #[]]++lb0) .normal) (b0.at { a with defers:={ target:=.collected w.heap.size,args:=#[] }::a.defers } (.inRangeFunc (w.heap.size+1)::k0)::cs0))
      ((w.alloc (.deferred (some []))).alloc (.loop (recOf b0.fn a ps assign body w.heap.size .ready none))):=by
  obtain ⟨Ds,F,Ms,hs,hM,hF,hK,hD,hnd⟩:=hs
  obtain ⟨lb,A,M1,hev,hlb,hV,hs1,hA,hM1⟩:=hs.callee hg hf
  have hlb0:lb=lb0:=by rw [hev] at hev0; injection hev0
  subst hlb0
  obtain ⟨ρ0,hw0⟩:=h0
  obtain ⟨F2,M2,hs2,hM2,hF2⟩:=hs1.weak hok hw0
  have hWw:=hK.size
  have hAlt:∀ b,A b→b<w.heap.size:=by obtain ⟨_,_,q,_⟩:=hs1; exact q
  have hM2A:∀ b,M2 b→¬ A b:=fun b hb=>by obtain ⟨_,_,_,_,q,_⟩:=hs1; exact (q b (hM2 b hb)).2
  have hadef:a.tmps.size=N:=by obtain ⟨_,_,_,_,_,_,_,_,_,q,_⟩:=hs; exact q
  have hadd:a.defers=marks Ds:=by obtain ⟨_,_,_,_,_,_,_,_,_,_,q⟩:=hs; exact q
  obtain ⟨rec,hrec⟩:∃ rec:LoopState→Option Code→Loop,rec=recOf b0.fn a ps assign body w.heap.size:=⟨_,rfl⟩
  rw [← hrec]
  obtain ⟨W1,hW1⟩:∃ W1,(w.alloc (.deferred (some []))).alloc (.loop (rec .ready none))=W1:=⟨_,rfl⟩
  rw [hW1]
  have hW1s:W1.heap.size=w.heap.size+2:=by rw [← hW1]; simp
  have hL1:W1.heap[w.heap.size+1]? = some (.loop (rec .ready none)):=by
    rw [← hW1]; have:=World.alloc_heap_new (w.alloc (.deferred (some []))) (.loop (rec .ready none)); rwa [World.size_alloc] at this
  have hold:∀ b,b<w.heap.size→W1.heap[b]? = w.heap[b]? := fun b hb=>by
    rw [← hW1]
    show ((w.heap.push _).push _)[b]? = _
    rw [Array.getElem?_push,if_neg (by simp; omega),Array.getElem?_push,if_neg (by omega)]
  have hK1:W1.heap[w.heap.size]? = some (.deferred (some [])):=by
    rw [← hW1]
    show ((w.heap.push _).push _)[w.heap.size]? = _
    rw [Array.getElem?_push,if_neg (by simp),Array.getElem?_push,if_pos rfl]
  have hstr:W1.os=w.os∧W1.tape=w.tape∧W1.output=w.output:=by rw [← hW1]; exact ⟨rfl,rfl,rfl⟩
  have hAW1:∀ (k:Nat) d v,caps[k]? = some d→lb[k]? = some v→VD A W1 d v:=fun k d v hk hv=>(hV k d v hk hv).step (fun _ h=>h) fun b hb=>hold b (hAlt b hb)
  obtain ⟨hent,hseq⟩:=hseq A W1 (w.heap.size+1) lb (fun b hb=>by have:=hAlt b hb; omega) hlb hAW1
  have hDs:∀ D∈Ds,D<w.heap.size:=fun D hDm=>lt_of_some (hD D hDm).2.1
  have hA0':∀ b,A b→A0 b∨W.heap.size≤b:=fun b hb=>(hA b hb).elim (hF b) fun h=>.inr (hM b h)
  have hADs:∀ b,A b→b ∉ Ds:=fun b hb hDm=>(hA b hb).elim (hD b hDm).2.2.2 (hD b hDm).2.2.1
  have hcx:=hseq (JR W w.heap.size A0 A N Ds T a (recAt rec jc xs.length)) (JR.stab hWw hDs) (by rw [hrec]; exact JR.round hm hE hWw hDs hAlt hA0' hADs hadef hadd hr) ?start
  · have hokW1:OkV W1:=by rw [← hW1]; exact (hok.alloc rfl).alloc rfl
    refine hcx Win hW hokW1 _ cs0 fun x U0 hokU0 hR=>?_
    obtain ⟨X,O,hj0⟩:=hR
    rw [show (b0.at { a with defers:={ target:=.collected w.heap.size,args:=#[] }::a.defers } (.inRangeFunc (w.heap.size+1)::k0)).finish x=b0.at { a with defers:={ target:=.collected w.heap.size,args:=#[] }::a.defers } (.endRangeFunc (w.heap.size+1)::k0) by simp [Frame.finish,Frame.at]]
    refine win_endRange hW hokU0 fun U heU=>?_
    have hjO0:∀ b,O b→X b:=by obtain ⟨_,_,_,_,_,_,_,_,_,_,q⟩:=hj0; exact q
    obtain ⟨F,Ms,hj,hjM,hjF,hjK,hjD,hjl,hjd,hjX,hjO⟩:=JR.stab hWw hDs _ X O U0 X O U hj0 (heU.kept O) (fun _ h=>h) (fun _ h=>.inl h) (fun b h=>⟨hjO0 b h,.inl h⟩)
    have hra:recAt rec jc xs.length xs.length=rec .done (some jc):=by unfold recAt; rw [if_pos rfl]
    rw [hra] at hjl
    have hlt:=lt_of_some hjl
    obtain ⟨U',hU'⟩:∃ U',U.putObj (w.heap.size+1) (.loop { rec .done (some jc) with state:=.exhausted })=U':=⟨_,rfl⟩
    have hoth:∀ b,b≠w.heap.size+1→U'.heap[b]? = U.heap[b]? := fun b hb=>by rw [← hU']; exact World.putObj_heap_other hb
    have hUs:U'.heap.size=U.heap.size:=by rw [← hU']; simp
    have hst:U'.os=U.os∧U'.tape=U.tape∧U'.output=U.output:=by rw [← hU']; exact ⟨rfl,rfl,rfl⟩
    have hrun:=run_endLoop (P:=P) hjl (by rw [hrec]; simp [recOf])
    rw [hU',show (rec .done (some jc)).pending=some jc by rw [hrec]; rfl] at hrun
    refine ⟨some jc,U',hrun,fun hokU'=>?_⟩
    have hfin:FRx W A0 N (T xs.length) { a with defers:={ target:=.collected w.heap.size,args:=#[] }::a.defers } U':=by
      refine ⟨w.heap.size::Ds,F,Ms,?_,fun b hb=>(hjM b hb).1,fun b hb=>(hjF b hb).1,?_,?_,?_⟩
      · rw [hadd]
        exact (hj.world (w':=U') (by omega) fun b hb=>hoth b (by
          rcases hb with h | h
          · exact (hjF b h).2.2.1
          · exact (hjM b h).2.2.2.1)).defers (marks (w.heap.size::Ds))
      · exact hjK.trans ⟨hst.1,hst.2.1,hst.2.2,by omega,fun k hk _=>hoth k (by omega),fun k cur e hk hc=>⟨cur,(hoth k (by omega)).trans hc,rfl⟩⟩
      · intro D hDm
        rcases List.mem_cons.1 hDm with rfl | hDm
        · exact ⟨hWw,(hoth _ (by omega)).trans hjd,fun h=>(hjM _ h).2.2.2.2.1 rfl,fun h=>(hjF _ h).2.2.2.1 rfl⟩
        · have:=hDs D hDm
          exact ⟨(hD D hDm).1,(hoth _ (by omega)).trans (hjD D hDm),fun h=>(hjM _ h).2.2.2.2.2 hDm,fun h=>(hjF _ h).2.2.2.2 hDm⟩
      · exact List.nodup_cons.2 ⟨fun h=>by have:=hDs _ h; omega,hnd⟩
    have hcode:Win (G (b0.at { a with defers:={ target:=.collected w.heap.size,args:=#[] }::a.defers } (.code jc::k0)) cs0) U':=by
      rcases hE with hE | ⟨id,hE⟩
      · injection hE with e1 e2; subst e1; subst e2
        exact wc_ret (Q:=fun e a' w'=>e=.ret∧FRx W A0 N (T xs.length) a' w') ⟨rfl,hfin⟩ Win hW hokU' b0 k0 cs0 hb0 hk
      · injection hE with e1 e2; subst e1; subst e2
        exact wc_exit (Q:=fun e a' w'=>e=.exit id∧FRx W A0 N (T xs.length) a' w') ⟨rfl,hfin⟩ Win hW hokU' b0 k0 cs0 hb0 hk
    exact hcode
  case start =>
    refine ⟨F2,M2,hs2.world (by omega) (fun b hb=>hold b ?_),fun b hb=>?_,fun b hb=>?_,?_,fun D hDm=>?_,by unfold recAt; rw [if_neg (by have:=hr.ne; omega)]; exact hL1,hK1,fun b hb=>hb.elim,fun b hb=>hb.elim⟩
    · obtain ⟨_,_,q1,_,q2,_⟩:=hs2
      exact hb.elim (q1 b) fun h=>(q2 b h).1
    · have hb2:=hM1 b (hM2 b hb)
      have:b<w.heap.size:=by obtain ⟨_,_,_,_,q2,_⟩:=hs2; exact (q2 b hb).1
      exact ⟨hM b hb2,fun h=>h.elim,hM2A b hb,by omega,by omega,fun hDm=>(hD b hDm).2.2.1 hb2⟩
    · have:b<w.heap.size:=by obtain ⟨_,_,q1,_⟩:=hs2; exact q1 b hb
      have hb2:A0 b∨W.heap.size≤b:=(hF2 b hb).elim (hA0' b) fun h=>.inr (hM b (hM1 b h))
      exact ⟨hb2,fun h=>h.elim,by omega,by omega,fun hDm=>(hF2 b hb).elim (fun h=>hADs b h hDm) fun h=>(hD b hDm).2.2.1 (hM1 b h)⟩
    · exact hK.trans ⟨hstr.1,hstr.2.1,hstr.2.2,by omega,fun k hk _=>hold k (by omega),fun k cur e hk hc=>⟨cur,(hold k (by omega)).trans hc,rfl⟩⟩
    · exact (hold D (hDs D hDm)).trans (hD D hDm).2.1
theorem fr_range (hm:P.follows .mixedOrders=true) {g:Operand} {ps:Array Tmp} {assign body:Code} {gf:FuncId} {cs:List AV} {caps:List D} {xs:List (List D)} {T:Nat→St} {wl:List Nat} {E:Exit} {jc:Code} (hE:(E,jc)=(.ret,.ret)∨∃ id,(E,jc)=(.exit id,.exit id))
    (hg:calleeA (oev σ.Γ g)=some (gf,cs)) (hf:frzs σ.H cs=some caps) (hseq:SeqSpec P gf caps xs) (hr:Rounds P N ps assign body wl xs T E) (h0:∃ ρ,Wk (used σ (viss σ.H cs)) (T 0) ρ) (hs:FRx W A0 N σ a w) :
    WC P (.rangeFunc g ps assign body) (fun e a' w'=>e=E∧FRx W A0 N (T xs.length) a' w') a w:=by
  intro Win hW hokw b0 k0 cs0 hb0 hk0
  have hevg:∃ lb,a.eval g=.func (.func gf) #[] lb∧∀ args w,runC P (callFunc gf args) w=.ok (.enter gf args) w:=by
    obtain ⟨Ds,F,Ms,hs,_⟩:=hs
    obtain ⟨lb,A,M1,hev,hlb,hV,hs1,_⟩:=hs.callee hg hf
    have hAlt:∀ b,A b→b<w.heap.size:=by obtain ⟨_,_,q,_⟩:=hs1; exact q
    exact ⟨lb,hev,(hseq A w 0 lb hAlt hlb hV).1⟩
  obtain ⟨lb0,hev0,hentg⟩:=hevg
  exact win_range hW hb0 hokw hev0 hentg fun w1 he1=>fr_range_at hm hE hg hf hseq hr h0 (hs.env he1) (he1.okV hokw) hW hb0 hk0 hev0
end
end Go.Am
end
section
open List renaming map_map→ζ,mapM_map→ξ
namespace Go.Am
open Go.Conc
open RowKit (Below)
def AWPR (P:Program) [M:Mch P] (N:Nat):Code→St→(Exit→St→Prop)→Prop
  | .seq x y,σ,Q=>AWPR P N x σ fun e σ'=>match e with | .normal=>AWPR P N y σ' Q | e=>Q e σ'
  | .block id c,σ,Q=>AWPR P N c σ fun e σ'=>match e with | .exit id'=>if id'=id then Q .normal σ' else Q (.exit id') σ' | e=>Q e σ'
  | .rangeFunc g ps assign body,σ,Q=>∃ gf cs caps xs T wl E jc,((E,jc)=(Exit.ret,Code.ret)∨∃ id,(E,jc)=(Exit.exit id,Code.exit id))∧calleeA (oev σ.Γ g)=some (gf,cs)∧frzs σ.H cs=some caps∧SeqSpec P gf caps xs∧Rounds P N ps assign body wl xs T E∧(∃ ρ,Wk (used σ (viss σ.H cs)) (T 0) ρ)∧Q E (T xs.length)
  | .scope c,σ,Q=>AWPR P N c σ fun e σ'=>match e with | .goto _=>False | e=>Q e σ'
  | c,σ,Q=>AWP P c σ Q
def codeOut (p:Code→Bool):Code→Bool
  | .seq x y=>codeOut p x && codeOut p y
  | .block _ c | .scope c=>codeOut p c
  | .rangeFunc ..=>true
  | c=>p c
section
variable {P:Program} [M:Mch P] {W:World} {A0:Nat→Prop} {N:Nat}
theorem AWPR_sound (hm:P.follows .mixedOrders=true) (hA0:∀ b,A0 b→b<W.heap.size):∀ (c:Code) (Q:Exit→St→Prop) (σ:St) (a:Act) (w:World),codeOut (codeDst N) c=true→codeOut (codeLex P) c=true→AWPR P N c σ Q→FRx W A0 N σ a w →
    WC P c (fun e a' w'=>∃ σ',Q e σ'∧FRx W A0 N σ' a' w') a w:=by
  intro c
  induction c with
  | seq x y ihx ihy =>
    intro Q σ a w hd hl h hs
    simp only [codeOut,Bool.and_eq_true] at hd hl
    refine wc_seq (wc_mono (ihx _ σ a w hd.1 hl.1 h hs) ?_)
    rintro e a' w' ⟨σ',hq,hs'⟩
    cases e with
    | normal=>exact ihy Q σ' a' w' hd.2 hl.2 hq hs'
    | _=>exact ⟨σ',hq,hs'⟩
  | block id c ih =>
    intro Q σ a w hd hl h hs
    refine wc_block (wc_mono (ih _ σ a w hd hl h hs) ?_)
    rintro e a' w' ⟨σ',hq,hs'⟩
    cases e with
    | exit id' =>
      simp only [Exit.inBlock] at hq ⊢
      split at hq
      · rename_i he; rw [if_pos he]; exact ⟨σ',hq,hs'⟩
      · rename_i he; rw [if_neg he]; exact ⟨σ',hq,hs'⟩
    | _=>exact ⟨σ',hq,hs'⟩
  | rangeFunc g ps assign body _ _ =>
    intro Q σ a w _ _ h hs
    obtain ⟨gf,cs,caps,xs,T,wl,E,jc,hE,hg,hf,hseq,hr,h0,hq⟩:=h
    refine wc_mono (fr_range hm hE hg hf hseq hr h0 hs) ?_
    rintro e a' w' ⟨rfl,hs'⟩
    exact ⟨_,hq,hs'⟩
  | skip=>intro Q σ a w hd hl h hs; exact fr_code hm hd hl h hs
  | region id ops draw=>intro Q σ a w hd hl h hs; exact fr_code hm hd hl h hs
  | cond c x y _ _=>intro Q σ a w hd hl h hs; exact fr_code hm hd hl h hs
  | loop c _=>intro Q σ a w hd hl h hs; exact fr_code hm hd hl h hs
  | exit id=>intro Q σ a w hd hl h hs; exact fr_code hm hd hl h hs
  | ret=>intro Q σ a w hd hl h hs; exact fr_code hm hd hl h hs
  | label l=>intro Q σ a w hd hl h hs; exact fr_code hm hd hl h hs
  | scope c ih =>
    intro Q σ a w hd hl h hs
    refine wc_scope (wc_mono (ih _ σ a w hd hl h hs) ?_)
    rintro e a' w' ⟨σ',hq,hs'⟩
    cases e with
    | goto l=>exact hq.elim
    | _=>exact ⟨σ',hq,hs'⟩
  | _=>intro Q σ a w hd hl h; exact h.elim
def LV (P:Program) [M:Mch P] (f:FuncId) (R:Value→World→Prop) (a:Act) (v:World):Prop :=
  ∀ (Win:Goroutine→World→Prop),M.Fam Win→OkV v→∀ (b:Frame) (todo:List Item) (c0:Frame) (cs:List Frame),b.kind=.normal→b.fn=f→(∀ x v',OkV v'→R x v'→Win (G (c0.finish x) cs) v')→Win (G { b.at a todo with mode:=.returning } (c0::cs)) v
theorem cx_of_leave {f:FuncId} {fn:Func} {c:Code} {args:Array Value} {R:Value→World→Prop} {v:World} (hf:P.funcs[f]? = some fn) (hb:fn.body=some c)
    (h:WC P c (fun e a v=>(e=.normal∨e=.ret)∧LV P f R a v) { tmps:=args++Array.replicate (fn.ntmps - args.size) undef,defers:=[] } v):CX P f args v R:=by
  intro Win hW hv c0 cs hk
  rw [enter_at args hf hb]
  refine h Win hW hv (base f) [] (c0::cs) (.inl rfl) fun e a' v' hv' hq=>?_
  obtain ⟨he,hl⟩:=hq
  rcases he with rfl | rfl
  · exact win_move hW rfl hv' (fun w=>stepG_end) (hl Win hW hv' (base f) [] c0 cs rfl rfl hk)
  · exact fun todo=>hl Win hW hv' (base f) todo c0 cs rfl rfl hk
theorem leave_plain {f:FuncId} {fn:Func} {R:Value→World→Prop} {a:Act} {v:World} (hf:P.funcs[f]? = some fn) (hd:a.defers=[]) (hr:∀ v1,Env v v1→∃ x,runC P (results fn a.tmps) v1=.ok x v1∧R x v1):LV P f R a v:=by
  intro Win hW hv b todo c0 cs hb hfn hk
  refine (M.closed hW).step rfl hv fun v1 w he hsim=>?_
  obtain ⟨x,hx,hR⟩:=hr v1 he
  obtain ⟨w',es',h1,h2,h3,h4,h5,h6⟩:=sim_run _ v1 w #[] x v1 (he.okV hv) hsim hx
  exact ⟨_,v1,w',_,stepG_back hb hd (by rw [hfn]; exact hf) h1,⟨h2,h3,h4,h5,fun e he'=>h6 e (by have:=mem_seen he'; simpa using this)⟩,hk x v1 h3 hR⟩
theorem leave_mark {f:FuncId} {R:Value→World→Prop} {a:Act} {v:World} {D:Nat} {ds:List Deferred} (hd:a.defers={ target:=.collected D,args:=#[] }::ds)
    (h:∀ v1,Env v v1→∃ v2,runC P (Instr.takeDeferred D) v1=.ok [] v2∧LV P f R { a with defers:=ds } v2):LV P f R a v:=by
  intro Win hW hv b todo c0 cs hb hfn hk
  refine win_mark hW hv hd fun v1 he=>?_
  obtain ⟨v2,h1,h2⟩:=h v1 he
  exact ⟨v2,h1,fun hok2=>h2 Win hW hok2 b todo c0 cs hb hfn hk⟩
theorem leaves_marks {f:FuncId} {fn:Func} {σ:St} {r:D} (hf:P.funcs[f]? = some fn) (hr:resD P fn.results.toList σ=some r):∀ (Ds:List Nat) (a:Act) (w:World),a.defers=marks Ds→(∃ F Ms,SRB F Ms N (marks Ds) σ a w∧(∀ b,Ms b→W.heap.size≤b)∧(∀ b,F b→A0 b∨W.heap.size≤b)∧Kept none' W.heap.size W w ∧
    (∀ D∈Ds,W.heap.size≤D∧w.heap[D]? = some (.deferred (some []))∧¬ Ms D∧¬ F D))→Ds.Nodup→LV P f (fun v W'=>Below W.heap.size W W'∧VD (fun b=>A0 b∨(W.heap.size≤b∧b<W'.heap.size)) W' r v) a w
  | [],a,w,had,⟨F,Ms,hs0,hM,hF,hK0,_⟩,_=>by
    intro Win hW hokw
    refine leave_plain hf had (fun w1 he=>?_) Win hW hokw
    have hs:=hs0.env he
    have hK:=hK0.env hK0.size he
    obtain ⟨v,h1,h2⟩:=run_results (hs.sr (he.okV hokw) noZ fun _ _ e=>by cases e) hr
    have hFlt:∀ b,F b→b<w1.heap.size:=by obtain ⟨_,_,q,_⟩:=hs; exact q
    have hMlt:∀ b,Ms b→b<w1.heap.size:=by obtain ⟨_,_,_,_,q,_⟩:=hs; exact fun b h=>(q b h).1
    refine ⟨v,h1,⟨hK.os,hK.tape,hK.output,hK.size,fun k hk=>hK.block k hk fun h=>h⟩,h2.mono ?_⟩
    rintro b (h | h | h)
    · exact (hF b h).imp_right fun q=>⟨q,hFlt b h⟩
    · exact .inr ⟨hM b h,hMlt b h⟩
    · simp only at h; omega
  | D::Ds,a,w0,had,⟨F,Ms,hs0,hM,hF,hK0,hD0⟩,hnd=>by
    refine leave_mark (ds:=marks Ds) (by rw [had]; rfl) fun w he=>?_
    have hs:=hs0.env he
    have hK:=hK0.env hK0.size he
    have hD:∀ D'∈D::Ds,W.heap.size≤D'∧w.heap[D']? = some (.deferred (some []))∧¬ Ms D'∧¬ F D':=fun D' hD'=>by
      obtain ⟨e1,e2,e3,e4⟩:=hD0 D' hD'
      exact ⟨e1,(he.get (lt_of_some e2)).trans e2,e3,e4⟩
    obtain ⟨d1,d2,d3,d4⟩:=hD D (List.mem_cons_self ..)
    have hlt:=lt_of_some d2
    obtain ⟨w',hw'⟩:∃ w',w.putObj D (.deferred none)=w':=⟨_,rfl⟩
    have hoth:∀ b,b≠D→w'.heap[b]? = w.heap[b]? := fun b hb=>by rw [← hw']; exact World.putObj_heap_other hb
    have hsz:w'.heap.size=w.heap.size:=by rw [← hw']; simp
    refine ⟨w',by rw [← hw']; exact run_takeDeferred d2,leaves_marks hf hr Ds _ w' rfl ⟨F,Ms,(hs.world (by omega) fun b hb=>hoth b ?_).defers (marks Ds),hM,hF,?_,fun D' hD'=>?_⟩ (List.nodup_cons.1 hnd).2⟩
    · rintro rfl; exact hb.elim d4 d3
    · exact hK.trans ⟨by rw [← hw']; rfl,by rw [← hw']; rfl,by rw [← hw']; rfl,by omega,fun k hk _=>hoth k (by omega),fun k cur e hk hc=>⟨cur,(hoth k (by omega)).trans hc,rfl⟩⟩
    · obtain ⟨e1,e2,e3,e4⟩:=hD D' (List.mem_cons_of_mem _ hD')
      exact ⟨e1,(hoth D' fun e=>by subst e; exact (List.nodup_cons.1 hnd).1 hD').trans e2,e3,e4⟩
theorem spec_ofR {f:Nat} {fn:Func} {c:Code} {args:List D} {r:D} (hm:P.follows .mixedOrders=true) (hf:P.funcs[f]? = some fn) (hb:fn.body=some c) (hname:(fn.name == "runtime.NumGoroutine")=false) (hN:fn.ntmps=N)
    (hd:codeOut (codeDst N) c=true) (hl':codeOut (codeLex P) c=true) (ha:args.length≤N) (h:AWPR P N c (St0 args N) fun e σ=>(e=.normal∨e=.ret)∧resD P fn.results.toList σ=some r):Spec P f args r:=by
  intro A W vs hA hl hv
  have hn:¬ fn.name = "runtime.NumGoroutine" := by simpa using hname
  refine ⟨fun w=>by simp [callFunc,hf,hn,hb],?_⟩
  refine cx_of_leave hf hb ?_
  subst hN
  refine (WpR.plain P).okv fun hok=>?_
  obtain ⟨F,Ms,h1,hM,hF,hK,_⟩:=(SR0 hok hA hl hv ha).srb
  simp only at hM hF hK
  refine wc_mono (AWPR_sound (W:=W) (A0:=A) hm hA c _ _ _ _ hd hl' h ⟨[],F,Ms,h1,fun b hb=>?_,fun b hb=>?_,hK,(fun D hD=>by cases hD),List.nodup_nil⟩) ?_
  · exact (hM b hb).elim (fun h=>h.elim) fun h=>h
  · rcases hF b hb with h | h | h
    · exact .inl h
    · exact h.elim
    · exact .inr h
  · rintro e a w ⟨σ,⟨he,hr⟩,Ds,F,Ms,hs,hM,hF,hK,hD,hnd⟩
    have hdd:a.defers=marks Ds:=by obtain ⟨_,_,_,_,_,_,_,_,_,_,q⟩:=hs; exact q
    exact ⟨he,leaves_marks (W:=W) (A0:=A) (N:=fn.ntmps) hf hr Ds a w hdd ⟨F,Ms,hs,hM,hF,hK,hD⟩ hnd⟩
end
end Go.Am
end
section
open List renaming map_map→ζ,mapM_map→ξ
namespace Go.Am
open Go.Conc (G stepG_region stepG_region_end)
open RowKit (Below)
section
variable {P:Program} {F M:Nat→Prop} {N:Nat} {ds:List Deferred} {σ:St} {a:Act} {w:World}
theorem SRB.args (h:SRB F M N ds σ a w) {args:List Operand} {dd:List D} (hf:frzs σ.H (args.map (oev σ.Γ))=some dd) :
    ∃ A M',dd.length=args.length∧(∀ (k:Nat) d v,dd[k]? = some d→(args.map a.eval)[k]? = some v→VD A w d v)∧SRB A M' N ds (used σ (viss σ.H (args.map (oev σ.Γ)))) a w∧(∀ b,A b→F b∨M b)∧(∀ b,M' b→M b):=by
  obtain ⟨h1,ι,hF,hM,hMF,ho,hi,hd,hV,hN,hds⟩:=h
  have hR:HR ⟨w,F,M,allP,noZ⟩ F w ι none' σ.H:=by
    refine ⟨.refl _ _ _,hF,fun b h=>.inl h,fun id b e=>⟨.inl (hM id b e),(hMF b (hM id b e)).1,fun _=>(hMF b (hM id b e)).2⟩,ho,fun id id' b e e' _ _=>hi id id' b e e',fun id id' b o o' e e' _ q q'=>?_⟩
    have:=hi id id' b e e'
    subst this
    rw [q] at q'; injection q' with q'; subst q'
    exact Nat.le_refl _
  obtain ⟨q1,q2,q3⟩:=frzs_VL (vs:=args.map a.eval) hR (fun _ _ h=>h) hf (by simp) fun k c u hc hu=>by
    rw [List.getElem?_map] at hc hu
    cases hx:args[k]? with
    | none=>rw [hx] at hc; cases hc
    | some x =>
      rw [hx] at hc hu
      injection hc with hc; injection hu with hu
      subst hc; subst hu
      exact V_oev fun t _=>hV t
  obtain ⟨l,hl⟩:∃ l,viss σ.H (args.map (oev σ.Γ))=l:=⟨_,rfl⟩
  rw [hl] at q2 ⊢
  have hAM:∀ b,reach F ι l b→F b∨M b:=by
    rintro b (hb | ⟨id,_,e⟩)
    · exact .inl hb
    · exact .inr (hM id b e)
  have hAlt:∀ b,reach F ι l b→b<w.heap.size:=fun b hb=>(hAM b hb).elim (hF b) fun h=>(hMF b h).1
  have hs:Step F w ι (reach F ι l) w ι:=⟨fun b h=>.inl h,fun b h=>rfl,fun _ _ h=>h,fun id b cur e hi h=>⟨cur,h,rfl⟩⟩
  refine ⟨reach F ι l,fun b=>M b∧¬ reach F ι l b,by simpa using q1,q2,?_,hAM,fun b h=>h.1⟩
  have hmask:∀ id b,mask ι l id=some b→M b∧¬ reach F ι l b:=fun id b e=>by
    obtain ⟨m1,m2⟩:=mask_some e
    refine ⟨hM id b m1,?_⟩
    rintro (hb | ⟨id',hid',e'⟩)
    · exact (hMF b (hM id b m1)).2 hb
    · exact m2 (hi id id' b m1 e' ▸ hid')
  have hkill:∀ id,kill l σ.H id=if id∈l then none else σ.H id:=fun id=>by
    by_cases hid:id∈l
    · rw [if_pos hid,kill_mem hid]
    · rw [if_neg hid,kill_not hid]
  unfold used
  cases hl:l with
  | nil =>
    have hmk:mask ι l=ι:=by funext id; simp [mask,hl]
    rw [← hl]
    have hfin:fin ⟨σ.Γ,kill l σ.H,σ.n⟩ l=σ:=by rw [hl]; rfl
    rw [hfin]
    refine ⟨h1,ι,hAlt,fun id b e=>hmask id b (by rw [hmk]; exact e),fun b h=>⟨(hMF b h.1).1,h.2⟩,fun id b o e e'=>?_,hi,hd,fun t=>(hV t).step hs,hN,hds⟩
    obtain ⟨ob,p1,p2⟩:=ho id b o e e'
    exact ⟨ob,p1,p2.step hs⟩
  | cons x xs =>
    rw [← hl]
    have hfin:fin ⟨σ.Γ,kill l σ.H,σ.n⟩ l=⟨fun t=>scrub l (σ.Γ t),fun id=>(kill l σ.H id).map (scrubO l),σ.n⟩:=by rw [hl]; rfl
    rw [hfin]
    refine ⟨fun id h=>by simp only; rw [hkill,h1 id h]; simp,mask ι l,hAlt,hmask,fun b h=>⟨(hMF b h.1).1,h.2⟩,fun id b o e e'=>?_,fun id id' b e e'=>hi id id' b (mask_some e).1 (mask_some e').1,fun id=>?_,fun t=>V_scrub ((hV t).step hs),hN,hds⟩
    · obtain ⟨m1,m2⟩:=mask_some e
      simp only [hkill,if_neg m2] at e'
      obtain ⟨o1,ho1,rfl⟩:=Option.map_eq_some_iff.1 e'
      obtain ⟨ob,p1,p2⟩:=ho id b o1 m1 ho1
      exact ⟨ob,p1,CR_scrub (p2.step hs)⟩
    · constructor
      · rintro ⟨b,e⟩
        obtain ⟨m1,m2⟩:=mask_some e
        simp only [hkill,if_neg m2,Option.isSome_map]
        exact (hd id).1 ⟨b,m1⟩
      · intro e
        by_cases hid:id∈l
        · simp [hkill,hid] at e
        · simp only [hkill,if_neg hid,Option.isSome_map] at e
          obtain ⟨b,hb⟩:=(hd id).2 e
          exact ⟨b,by unfold mask; rw [if_neg hid]; exact hb⟩
end
def isY (o:Oper):Bool:=match o.op with | .call { callee:=.value (.tmp _),args:=_,argTypes:=_ }=>o.guard.isNone | _=>false
def spanY:List Oper→Option (List Oper × Oper × List Oper)
  | []=>none
  | o::l=>if isY o then some ([],o,l) else (spanY l).map fun p=>(o::p.1,p.2.1,p.2.2)
def hasY:Code→Bool
  | .region _ ops _=>(spanY ops.toList).isSome
  | .seq x y | .cond _ x y=>hasY x || hasY y
  | .block _ c | .loop c | .scope c=>hasY c
  | _=>false
def YO (l:Nat) (xs:List (List D)) (y:Oper) (k:Nat) (σ:St) (K:St→Prop):Prop :=
  match y.op with
  | .call { callee:=.value (.tmp t),args:=args,argTypes:=_ }=>σ.Γ t=.d (.lit (.func (.yield l) #[] #[]))∧∃ dd,frzs σ.H (args.toList.map (oev σ.Γ))=some dd∧xs[k]? = some dd ∧
      K ⟨putA (used σ (viss σ.H (args.toList.map (oev σ.Γ)))).Γ y.dst (.d (.b (decide (k+1≠xs.length)))),(used σ (viss σ.H (args.toList.map (oev σ.Γ)))).H,(used σ (viss σ.H (args.toList.map (oev σ.Γ)))).n⟩
  | _=>False
def YR (P:Program) [Mc:Mch P] (l:Nat) (xs:List (List D)) (ops:Array Oper) (k:Nat) (σ:St) (K:Nat→St→Prop):Prop :=
  match spanY ops.toList with
  | some (pre,y,post)=>OW P ops pre σ [] fun σ1 con1=>YO l xs y k (fin σ1 con1) fun σ2=>OW P ops post σ2 [] fun σ3 con3=>K (k+1) (fin σ3 con3)
  | none=>False
def AWPY (P:Program) [Mc:Mch P] (l:Nat) (xs:List (List D)):Code→Nat→St→(Exit→Nat→St→Prop)→Prop
  | .region id ops draw,k,σ,Q=>if (spanY ops.toList).isSome then draw=false∧noNext ops.toList=true∧YR P l xs ops k σ (Q .normal) else AWP P (.region id ops draw) σ fun e σ'=>Q e k σ'
  | .seq x y,k,σ,Q=>AWPY P l xs x k σ fun e k' σ'=>match e with | .normal=>AWPY P l xs y k' σ' Q | e=>Q e k' σ'
  | .cond c x y,k,σ,Q=>match oev σ.Γ c with | .d (.b t)=>if t then AWPY P l xs x k σ Q else AWPY P l xs y k σ Q | .ub=>AWPY P l xs x k σ Q∧AWPY P l xs y k σ Q | _=>False
  | .block id c,k,σ,Q=>AWPY P l xs c k σ fun e k' σ'=>match e with | .exit id'=>if id'=id then Q .normal k' σ' else Q (.exit id') k' σ' | e=>Q e k' σ'
  | .loop c,k,σ,Q=>if hasY c then ∃ (τ:Type) (S:τ→St) (κ m:τ→Nat) (x0:τ),κ x0=k∧(∃ ρ,Wk σ (S x0) ρ)∧∀ x,AWPY P l xs c (κ x) (S x) fun e k' σ'=>match e with | .normal=>∃ y,m y<m x∧κ y=k'∧∃ ρ,Wk σ' (S y) ρ | e=>Q e k' σ'
      else AWP P (.loop c) σ fun e σ'=>Q e k σ'
  | c,k,σ,Q=>AWP P c σ fun e σ'=>Q e k σ'
theorem wc_okv {P:Program} [Mc:Mch P] {c:Code} {Q:Exit→Act→World→Prop} {a:Act} {v:World} (h:WC P c (fun e a v=>OkV v→Q e a v) a v):WC P c Q a v :=
  fun Win hW hv b k cs hb hk=>h Win hW hv b k cs hb fun e a' v' hv' hq=>hk e a' v' hv' (hq hv')
section
variable {P:Program} [Mc:Mch P] {A:Nat→Prop} {W:World} {N l:Nat} {xs:List (List D)}
structure JOk (P:Program) [Mc:Mch P] (l:Nat) (A:Nat→Prop) (xs:List (List D)) (J:Nat→(Nat→Prop)→(Nat→Prop)→World→Prop):Prop where
  stab:∀ k X O W1 X' O' W2,J k X O W1→Kept O W1.heap.size W1 W2→(∀ b,X b→X' b)→(∀ b,X' b→X b∨(W1.heap.size≤b∧b<W2.heap.size))→(∀ b,O' b→X' b∧(O b∨W1.heap.size≤b))→J k X' O' W2
  round:∀ k X O W1 ds (vals:Array Value),xs[k]? = some ds→J k X O W1→ds.length=vals.size→(∀ (i:Nat) d v,ds[i]? = some d→vals[i]? = some v→VD (fun b=>A b∨(X b∧¬ O b)) W1 d v) →
    YX P l vals W1 fun x W2=>x=.bool (decide (k+1≠xs.length))∧J (k+1) X O W2∧W1.heap.size≤W2.heap.size∧W2.os=W1.os∧W2.tape=W1.tape∧W2.output=W1.output∧∀ b,A b∨X b→W2.heap[b]? = W1.heap[b]?
variable {J:Nat→(Nat→Prop)→(Nat→Prop)→World→Prop}
def RY (A:Nat→Prop) (N:Nat) (J:Nat→(Nat→Prop)→(Nat→Prop)→World→Prop) (k:Nat) (σ:St) (a:Act) (w:World):Prop :=
  ∃ X F M,J k X M w∧SRB F M N [] σ a w∧(∀ b,M b→X b)∧(∀ b,F b→A b∨(X b∧¬ M b))∧(∀ b,X b→b<w.heap.size)
theorem RY.step (hJ:JOk P l A xs J) {k:Nat} {X F M:Nat→Prop} {w:World} (hj:J k X M w) (hMX:∀ b,M b→X b) (hFA:∀ b,F b→A b∨(X b∧¬ M b)) {σ':St} {a':Act} {w':World}
    (h:SR ⟨w,F,M,allP,noZ⟩ N [] σ' a' w') (hX:∀ b,X b→b<w.heap.size):RY A N J k σ' a' w':=by
  obtain ⟨F',M',h',hM',hF',hK,_⟩:=h.srb
  simp only at hM' hF' hK
  have hsz:=hK.size
  have hM'lt:∀ b,M' b→b<w'.heap.size∧¬ F' b:=by obtain ⟨_,_,_,_,q,_⟩:=h'; exact q
  have hF'lt:∀ b,F' b→b<w'.heap.size:=by obtain ⟨_,_,q,_⟩:=h'; exact q
  have hM'X:∀ b,M' b→X b∨(w.heap.size≤b∧b<w'.heap.size):=fun b hb=>(hM' b hb).imp (hMX b) fun h=>⟨h,(hM'lt b hb).1⟩
  refine ⟨fun b=>X b∨(w.heap.size≤b∧b<w'.heap.size),F',M',hJ.stab k X M w _ M' w' hj hK (fun b h=>.inl h) (fun b h=>h) (fun b hb=>⟨hM'X b hb,hM' b hb⟩),h',hM'X,fun b hb=>?_,fun b hb=>?_⟩
  · have hnM:¬ M' b:=fun h=>(hM'lt b h).2 hb
    rcases hF' b hb with h | h | h
    · exact (hFA b h).imp_right fun q=>⟨.inl q.1,hnM⟩
    · exact .inr ⟨.inl (hMX b h),hnM⟩
    · exact .inr ⟨.inr ⟨h,hF'lt b hb⟩,hnM⟩
  · rcases hb with h | h
    · have:=hX b h; omega
    · exact h.2
theorem RY.sr {k:Nat} {σ:St} {a:Act} {w:World} (h:RY A N J k σ a w) (hok:OkV w):∃ X F M,J k X M w∧(∀ b,M b→X b)∧(∀ b,F b→A b∨(X b∧¬ M b))∧(∀ b,X b→b<w.heap.size)∧SR ⟨w,F,M,allP,noZ⟩ N [] σ a w:=by
  obtain ⟨X,F,M,h1,h2,h3,h4,h5⟩:=h
  exact ⟨X,F,M,h1,h3,h4,h5,h2.sr hok noZ fun _ _ e=>by cases e⟩
theorem RY.weak (hJ:JOk P l A xs J) {k:Nat} {σ σ':St} {ρ:Nat→Nat} {a:Act} {w:World} (hk:Wk σ σ' ρ) (h:RY A N J k σ a w) (hok:OkV w):RY A N J k σ' a w:=by
  obtain ⟨X,F,M,h1,h3,h4,h5,hs⟩:=h.sr hok
  exact RY.step hJ h1 h3 h4 (SR_weak hk hs) h5
theorem ry_code (hm:P.follows .mixedOrders=true) (hJ:JOk P l A xs J) {c:Code} {k:Nat} {σ:St} {a:Act} {w:World} {Q:Exit→St→Prop} (hd:codeDst N c=true) (hl:codeLex P c=true) (h:AWP P c σ Q) (hs:RY A N J k σ a w) :
    WC P c (fun e a' w'=>∃ σ',Q e σ'∧RY A N J k σ' a' w') a w:=by
  refine (WpR.plain P).okv fun hok=>?_
  obtain ⟨X,F,M,h1,h3,h4,h5,hsr⟩:=hs.sr hok
  refine wc_mono (AWP_sound hm (fun _=>rfl) c Q σ a w hd hl h hsr) ?_
  rintro e a' w' ⟨σ',hq,hs'⟩
  exact ⟨σ',hq,RY.step hJ h1 h3 h4 hs' h5⟩
theorem RY.env (hJ:JOk P l A xs J) {k:Nat} {σ:St} {a:Act} {w v1:World} (h:RY A N J k σ a w) (he:Env w v1):RY A N J k σ a v1:=by
  obtain ⟨X,F,M,h1,h2,h3,h4,h5⟩:=h
  exact ⟨X,F,M,hJ.stab k X M w X M v1 h1 (he.kept M) (fun _ h=>h) (fun _ h=>.inl h) (fun b hb=>⟨h3 b hb,.inl hb⟩),h2.env he,h3,h4,fun b hb=>Nat.lt_of_lt_of_le (h5 b hb) he.size⟩
def WL (P:Program) [Mc:Mch P] (ops:Array Oper) (l:List Nat) (K:Act→World→Prop) (a:Act) (v:World):Prop :=
  ∀ (Win:Goroutine→World→Prop),Mc.Fam Win→OkV v→∀ (b:Frame) (k:List Item) (cs:List Frame),Calm b→(∀ a' v',OkV v'→K a' v'→Win (G (b.at a' k) cs) v')→Win (G (b.at a (.inRegion ops l::k)) cs) v
theorem wl_nil {ops:Array Oper} {K:Act→World→Prop} {a:Act} {v:World} (h:K a v):WL P ops [] K a v :=
  fun Win hW hv b k cs hb hk=>win_move hW rfl hv (fun w=>stepG_region_end) (hk a v hv h)
theorem wl_op {ops:Array Oper} {i:Nat} {rest:List Nat} {o:Oper} {K:Act→World→Prop} {a:Act} {v:World} (ho:ops[i]? = some o)
    (h:if Region.wanted o (yielded ops a.tmps) then ∀ v1,Env v v1→wpX P o a v1 (WL P ops rest K) else WL P ops rest K (a.put o.dst undef) v):WL P ops (i::rest) K a v:=by
  intro Win hW hv b k cs hb hk
  split at h
  · rename_i hw
    exact win_op hW hb ho hw hv h fun a' v' hv' h'=>h' Win hW hv' b k cs hb hk
  · rename_i hw
    exact win_skip hW ho hw hv (h Win hW hv b k cs hb hk)
theorem wl_yield {ops:Array Oper} {i:Nat} {rest:List Nat} {o:Oper} {K:Act→World→Prop} {a:Act} {v:World} (ho:ops[i]? = some o) (hw:Region.wanted o (yielded ops a.tmps)=true)
    (h:OkV v→∀ v1,Env v v1→∃ l f tmps assign body,∃ R:Value→World→Prop,runC P (execOp a.eval o) v1=.ok (.round l f tmps assign body) v1 ∧
      (∀ (Win:Goroutine→World→Prop),Mc.Fam Win→OkV v1→∀ (c:Frame) (cs:List Frame),(∀ x v',OkV v'→R x v'→Win (G (c.finish x) cs) v')→Win (G (Frame.round l f tmps assign body .normal) (c::cs)) v1) ∧
      ∀ x v2,OkV v2→R x v2→WL P ops rest K (a.put o.dst x) v2):WL P ops (i::rest) K a v:=by
  intro Win hW hv b k cs hb hk
  by_cases hall:∃ l f tmps assign body,∀ v1,Env v v1→runC P (execOp a.eval o) v1=.ok (.round l f tmps assign body) v1
  · obtain ⟨l,f,tmps,assign,body,hall⟩:=hall
    refine win_yield hW hb ho hw hv fun v1 he=>⟨hall v1 he,?_⟩
    obtain ⟨l',f',tmps',assign',body',R,h1,h2,h3⟩:=h hv v1 he
    rw [hall v1 he] at h1
    injection h1 with h1 _; injection h1 with e1 e2 e3 e4 e5; subst e1; subst e2; subst e3; subst e4; subst e5
    refine h2 Win hW (he.okV hv) _ cs fun x v' hv' hR=>?_
    rw [Frame.finish_at,ho]
    exact h3 x v' hv' hR Win hW hv' b k cs hb hk
  · exact win_yield' hW hb ho hw hv fun v1 he=>by
      obtain ⟨l',f',tmps',assign',body',R,h1,h2,h3⟩:=h hv v1 he
      refine ⟨l',f',tmps',assign',body',h1,?_⟩
      refine h2 Win hW (he.okV hv) _ cs fun x v' hv' hR=>?_
      rw [Frame.finish_at,ho]
      exact h3 x v' hv' hR Win hW hv' b k cs hb hk
theorem wc_of_wl {id:Nat} {ops:Array Oper} {Q:Exit→Act→World→Prop} {a:Act} {v:World} (h:WL P ops (List.range' 0 ops.toList.length) (Q .normal) a v):WC P (.region id ops false) Q a v:=by
  intro Win hW hv b k cs hb hk
  refine win_move hW rfl hv (fun w=>stepG_region) ?_
  have:=h Win hW hv b k cs hb fun a' v' hv' hq=>hk .normal a' v' hv' hq
  rwa [List.range_eq_range',← Array.length_toList]
theorem list_seqL {G:Ctx} {ops:Array Oper} {ds:List Deferred} {Q:AS→Prop} {K K':Act→World→Prop} (hQ:∀ s a w,Q s→RelS G N ds s a w→K a w) (rest:List Nat) (hk:∀ a w,K a w→WL P ops rest K' a w) :
    ∀ (l:List Oper) (n:Nat),(∀ (j:Nat) o,l[j]? = some o→ops[n+j]? = some o)→(∀ o∈l,∀ d,o.dst=some d→d<N∧G.Z d=none)→∀ (s:AS) (a:Act) (w:World),RelS G N ds s a w→aLex P G ops Q l s→WL P ops (List.range' n l.length++rest) K' a w:=by
  intro l
  induction l with
  | nil=>intro n _ _ s a w hr h; exact hk _ _ (hQ s a w h hr)
  | cons o l ih =>
    intro n hn hl s a w hr h
    obtain ⟨s',hd,h⟩:=h
    have:=does_sound (K:=WL P ops (List.range' (n+1) l.length++rest) K') hd (hl o (List.mem_cons_self ..)) hr fun a' w' hr'=>ih (n+1) (fun j o hj=>by have:=hn (j+1) o (by simpa using hj); rw [← this]; congr 1; omega) (fun o ho=>hl o (List.mem_cons_of_mem _ ho)) s' a' w' hr' h
    rw [List.length_cons,List.range'_succ,List.cons_append]
    exact wl_op (by simpa using hn 0 o rfl) this
theorem ops_sound {G:Ctx} {ops:Array Oper} {ds:List Deferred} {Q:St→Prop} {K':Act→World→Prop} {os:List Oper} {rest:List Nat} {n:Nat} {σ:St} {a:Act} {w:World}
    (hno:noNext os=true) (hn:∀ (j:Nat) o,os[j]? = some o→ops[n+j]? = some o)
    (hdst:∀ o∈os,∀ d,o.dst=some d→d<N∧G.Z d=none) (hsr:SR G N ds σ a w) (h:OW P ops os σ [] fun σ' con=>Q (fin σ' con)) (hQ:∀ σ a w,Q σ→SR G N ds σ a w→WL P ops rest K' a w) :
    WL P ops (List.range' n os.length++rest) K' a w:=by
  obtain ⟨hn0,hwf,hag⟩:=SR_agree hsr
  obtain ⟨fb,hfb⟩:=OW_sound (G:=G) os σ [] hno hn0 hwf h
  obtain ⟨h1,h2⟩:=hag (fun i=>if i<σ.n then σ.H i else fb i) (fun i o hi=>by
    rcases Nat.lt_or_ge i σ.n with hlt | hge
    · rw [if_pos hlt]; exact hi
    · rw [hwf.top i hge] at hi; cases hi)
  have h3:=hfb _ h1 (fun i hi=>by simp only; rw [if_neg (by omega)])
  refine list_seqL (K:=fun a w=>∃ σ,Q σ∧SR G N ds σ a w) (Q:=fun s'=>∃ σ' con',Q (fin σ' con')∧(σ'.n=0→∀ b,G.P0 b)∧Wf σ' con'∧Agree σ' con' s') ?_ rest ?_ os n hn hdst _ a w h2 h3
  · rintro s a w ⟨σ',con',hq,hn',hwf',hag'⟩ hr
    exact ⟨_,hq,SR_fin hn' hwf' hag' hr⟩
  · rintro a w ⟨σ,hq,hs⟩; exact hQ σ a w hq hs
theorem spanY_eq:∀ (os:List Oper) {pre post:List Oper} {y:Oper},spanY os=some (pre,y,post)→os=pre++y::post∧isY y=true
  | [],_,_,_,h=>by cases h
  | o::os,pre,post,y,h=>by
    unfold spanY at h
    split at h
    · rename_i ho; injection h with h; injection h with h1 h; injection h with h2 h3; subst h1; subst h2; subst h3; exact ⟨rfl,ho⟩
    · obtain ⟨⟨p1,p2,p3⟩,hp,h⟩:=Option.map_eq_some_iff.1 h
      injection h with h1 h; injection h with h2 h3; subst h1; subst h2; subst h3
      obtain ⟨e1,e2⟩:=spanY_eq os hp
      exact ⟨by rw [e1]; rfl,e2⟩
theorem ry_yield (hJ:JOk P l A xs J) {id k:Nat} {ops:Array Oper} {σ:St} {a:Act} {w:World} {Q:Nat→St→Prop} (hno:noNext ops.toList=true) (hd:opsDst N ops=true) (h:YR P l xs ops k σ Q) (hs:RY A N J k σ a w) :
    WC P (.region id ops false) (fun e a' w'=>e=.normal∧∃ k' σ',Q k' σ'∧RY A N J k' σ' a' w') a w:=by
  refine (WpR.plain P).okv fun hok=>wc_of_wl ?_
  unfold YR at h
  split at h
  case h_2=>exact h.elim
  rename_i pre y post hsp
  obtain ⟨heq,hy⟩:=spanY_eq _ hsp
  have hdst:∀ o∈ops.toList,∀ d,o.dst=some d→d<N∧(noZ:Nat→Option Value) d=none:=fun o ho d hdd=>by
    have:=Array.all_eq_true_iff_forall_mem.1 hd o (by simpa using ho)
    rw [hdd] at this
    exact ⟨by simpa using this,rfl⟩
  have hat:∀ (j:Nat) o,ops.toList[j]? = some o→ops[j]? = some o:=fun j o h=>by simpa using h
  rw [heq] at hdst hat hno ⊢
  have hno1:noNext pre=true:=by simp only [noNext,List.all_append,Bool.and_eq_true] at hno ⊢; exact hno.1
  have hno2:noNext post=true:=by simp only [noNext,List.all_append,List.all_cons,Bool.and_eq_true] at hno ⊢; exact hno.2.2
  obtain ⟨X,F,M,hj,hMX,hFA,hXlt,hsr⟩:=hs.sr hok
  rw [show List.range' 0 (pre++y::post).length=List.range' 0 pre.length++(pre.length::List.range' (pre.length+1) post.length) by
    rw [List.length_append,List.length_cons,← List.range'_append_1,Nat.zero_add,List.range'_succ]]
  refine ops_sound (G:=⟨w,F,M,allP,noZ⟩) (n:=0) hno1 (fun j o hj=>by rw [Nat.zero_add]; exact hat j o (by rw [List.getElem?_append_left (List.getElem?_eq_some_iff.1 hj).1]; exact hj)) (fun o ho=>hdst o (List.mem_append_left _ ho)) hsr (Q:=fun σ1=>YO l xs y k σ1 fun σ2=>OW P ops post σ2 [] fun σ3 con3=>Q (k+1) (fin σ3 con3)) h ?_
  intro σ1 a1 w0 hY hs1
  have hry0:=RY.step hJ hj hMX hFA hs1 hXlt
  unfold YO at hY
  split at hY
  case h_2=>exact hY.elim
  rename_i t args ts hop
  obtain ⟨hΓ,dd,hfr,hx,hK⟩:=hY
  have hguard:y.guard=none:=by
    unfold isY at hy
    rw [hop] at hy
    simpa using hy
  have hwant:Region.wanted y (yielded ops a1.tmps)=true:=by simp [Region.wanted,hguard]
  refine wl_yield (hat pre.length y (by simp)) hwant fun hokw0 w1 he1=>?_
  have hokw1:=he1.okV hokw0
  obtain ⟨X1,F1,M1,hj1,hs1',hMX1,hFA1,hX1⟩:=hry0.env hJ he1
  have hev:a1.eval (.tmp t)=.func (.yield l) #[] #[]:=by
    obtain ⟨_,ι,_,_,_,_,_,_,hV,_⟩:=hs1'
    have:=hV t
    rw [hΓ] at this
    show a1.tmps.getD t undef=_
    generalize a1.tmps.getD t undef=v at this
    cases this with | d _ _ h=>cases h; rfl
  obtain ⟨A2,M2,hlen,hVD,hs2,hA2,hM2⟩:=hs1'.args hfr
  have hs2lt:∀ b,M2 b→b<w1.heap.size∧¬ A2 b:=by obtain ⟨_,_,_,_,q,_⟩:=hs2; exact q
  have hj2:J k X1 M2 w1:=hJ.stab k X1 M1 w1 X1 M2 w1 hj1 (.refl _ _ _) (fun _ h=>h) (fun _ h=>.inl h) fun b hb=>⟨hMX1 b (hM2 b hb),.inl (hM2 b hb)⟩
  have hAX:∀ b,A2 b→A b∨(X1 b∧¬ M2 b):=fun b hb=>by
    have hn:¬ M2 b:=fun h=>(hs2lt b h).2 hb
    rcases hA2 b hb with h | h
    · exact (hFA1 b h).imp_right fun q=>⟨q.1,hn⟩
    · exact .inr ⟨hMX1 b h,hn⟩
  obtain ⟨fn,tmps,assign,body,hyl,hround⟩:=hJ.round k X1 M2 w1 dd (args.map a1.eval) hx hj2 (by simpa using hlen) fun i d v hi hv =>
    (hVD i d v hi (by have:=Array.getElem?_toList (xs:=args.map a1.eval) (i:=i); rw [hv,Array.toList_map] at this; exact this)).mono hAX
  have hrun:runC P (execOp a1.eval y) w1=.ok (.round l fn tmps assign body) w1:=by
    simp only [execOp,hop,resolve,hev,Sem.run_bind,Deferred.ofValue,Sem.run_pure,Result.andThen_ok,Array.empty_append,invoke]
    exact hyl
  refine ⟨l,fn,tmps,assign,body,_,hrun,hround,?_⟩
  rintro x W2 hokW2 ⟨rfl,hj3,hsz,hos,htp,hou,hkeep⟩
  -- behind the call
  have hs3:SRB A2 M2 N [] (used σ1 (viss σ1.H (args.toList.map (oev σ1.Γ)))) a1 W2:=hs2.world hsz fun b hb=>hkeep b (by
    rcases hb with h | h
    · exact (hAX b h).imp_right fun q=>q.1
    · exact .inr (hMX1 b (hM2 b h)))
  have hN:a1.tmps.size=N:=by obtain ⟨_,_,_,_,_,_,_,_,_,q,_⟩:=hs3; exact q
  have hdf:a1.defers=[]:=by obtain ⟨_,_,_,_,_,_,_,_,_,_,q⟩:=hs3; exact q
  have hyd:∀ d,y.dst=some d→d<a1.tmps.size:=fun d h=>by rw [hN]; exact (hdst y (by simp) d h).1
  have hs4:SRB A2 M2 N [] ⟨putA (used σ1 (viss σ1.H (args.toList.map (oev σ1.Γ)))).Γ y.dst (.d (.b (decide (k+1≠xs.length)))),(used σ1 (viss σ1.H (args.toList.map (oev σ1.Γ)))).H,(used σ1 (viss σ1.H (args.toList.map (oev σ1.Γ)))).n⟩ (a1.put y.dst (.bool (decide (k+1≠xs.length)))) W2:=by
    refine hs3.act (by cases y.dst <;> simp [Act.put,hN]) (by cases y.dst <;> simp [Act.put,hdf]) fun t=>?_
    rw [getD_put a1 y.dst (.bool (decide (k+1≠xs.length))) hyd t]
    by_cases ht:y.dst=some t
    · rw [ht]
      exact .inr (.inr ⟨.b (decide (k+1≠xs.length)),.bool (decide (k+1≠xs.length)),by simp [putA,upd,inj1],by simp,.b _⟩)
    · rw [if_neg ht]
      exact .inl ⟨by rw [putA_eq ht],rfl⟩
  have hry:RY A N J (k+1) _ (a1.put y.dst (.bool (decide (k+1≠xs.length)))) W2:=⟨X1,A2,M2,hj3,hs4,fun b hb=>hMX1 b (hM2 b hb),hAX,fun b hb=>by have:=hX1 b hb; omega⟩
  obtain ⟨X5,F5,M5,hj5,hMX5,hFA5,hX5,hsr5⟩:=hry.sr hokW2
  have hfin:=ops_sound (P:=P) (ops:=ops) (G:=⟨W2,F5,M5,allP,noZ⟩) (n:=pre.length+1) (os:=post) (rest:=[]) (Q:=Q (k+1)) (K':=fun a' w'=>Exit.normal=.normal∧∃ k' σ',Q k' σ'∧RY A N J k' σ' a' w') hno2
    (fun j o hj=>hat (pre.length+1+j) o (by rw [List.getElem?_append_right (by omega),show pre.length+1+j - pre.length=j+1 by omega,List.getElem?_cons_succ]; exact hj))
    (fun o ho=>hdst o (List.mem_append_right _ (List.mem_cons_of_mem _ ho))) hsr5 hK
    fun σ6 a6 w6 hq hs6=>wl_nil ⟨rfl,k+1,σ6,hq,RY.step hJ hj5 hMX5 hFA5 hs6 hX5⟩
  rw [List.append_nil] at hfin
  exact hfin
theorem AWPY_sound (hm:P.follows .mixedOrders=true) (hJ:JOk P l A xs J):∀ (c:Code) (Q:Exit→Nat→St→Prop) (k:Nat) (σ:St) (a:Act) (w:World),codeDst N c=true→codeLex P c=true→AWPY P l xs c k σ Q→RY A N J k σ a w →
    WC P c (fun e a' w'=>∃ k' σ',Q e k' σ'∧RY A N J k' σ' a' w') a w:=by
  have plain:∀ (c:Code) (Q:Exit→Nat→St→Prop) (k:Nat) (σ:St) (a:Act) (w:World),codeDst N c=true→codeLex P c=true→(AWP P c σ fun e σ'=>Q e k σ')→RY A N J k σ a w →
      WC P c (fun e a' w'=>∃ k' σ',Q e k' σ'∧RY A N J k' σ' a' w') a w:=by
    intro c Q k σ a w hd hl h hs
    refine wc_mono (ry_code hm hJ hd hl h hs) ?_
    rintro e a' w' ⟨σ',hq,hs'⟩
    exact ⟨k,σ',hq,hs'⟩
  intro c
  induction c with
  | region id ops draw =>
    intro Q k σ a w hd hl h hs
    unfold AWPY at h
    split at h
    · obtain ⟨rfl,hno,h⟩:=h
      refine wc_mono (ry_yield hJ hno hd h hs) ?_
      rintro e a' w' ⟨rfl,k',σ',hq,hs'⟩
      exact ⟨k',σ',hq,hs'⟩
    · exact plain _ Q k σ a w hd hl h hs
  | seq x y ihx ihy =>
    intro Q k σ a w hd hl h hs
    simp only [codeDst,codeLex,Bool.and_eq_true] at hd hl
    refine wc_seq (wc_mono (ihx _ k σ a w hd.1 hl.1 h hs) ?_)
    rintro e a' w' ⟨k',σ',hq,hs'⟩
    cases e with
    | normal=>exact ihy Q k' σ' a' w' hd.2 hl.2 hq hs'
    | _=>exact ⟨k',σ',hq,hs'⟩
  | cond c x y ihx ihy =>
    intro Q k σ a w hd hl h hs
    simp only [codeDst,codeLex,Bool.and_eq_true] at hd hl
    have hV:∃ F ι,V F w ι (oev σ.Γ c) (a.eval c):=by
      obtain ⟨_,F,_,_,⟨_,ι,_,_,_,_,_,_,hV,_⟩,_⟩:=hs
      exact ⟨F,ι,V_oev fun t _=>hV t⟩
    obtain ⟨F,ι,hV⟩:=hV
    unfold AWPY at h
    split at h
    · rename_i t ht
      have hc:a.eval c=.bool t:=by
        rw [ht] at hV
        generalize a.eval c=v at hV
        cases hV with | d _ _ h=>cases h; rfl
      refine wc_cond hc ?_
      cases t
      · exact ihy Q k σ a w hd.2 hl.2 h hs
      · exact ihx Q k σ a w hd.1 hl.1 h hs
    · rename_i ht
      have hc:∃ t,a.eval c=.bool t:=by
        rw [ht] at hV
        generalize a.eval c=v at hV
        cases hV with | ub t=>exact ⟨t,rfl⟩
      obtain ⟨t,hc⟩:=hc
      refine wc_cond hc ?_
      cases t
      · exact ihy Q k σ a w hd.2 hl.2 h.2 hs
      · exact ihx Q k σ a w hd.1 hl.1 h.1 hs
    · exact h.elim
  | block id c ih =>
    intro Q k σ a w hd hl h hs
    refine wc_block (wc_mono (ih _ k σ a w hd hl h hs) ?_)
    rintro e a' w' ⟨k',σ',hq,hs'⟩
    cases e with
    | exit id' =>
      simp only [Exit.inBlock] at hq ⊢
      split at hq
      · rename_i he; rw [if_pos he]; exact ⟨k',σ',hq,hs'⟩
      · rename_i he; rw [if_neg he]; exact ⟨k',σ',hq,hs'⟩
    | _=>exact ⟨k',σ',hq,hs'⟩
  | loop c ih =>
    intro Q k σ a w hd hl h hs
    unfold AWPY at h
    split at h
    · obtain ⟨τ,S,κ,m,x0,hk0,⟨ρ,hk⟩,hround⟩:=h
      refine (WpR.plain P).okv fun hokw=>wc_loop (fun n a w=>∃ x,m x=n∧RY A N J (κ x) (S x) a w) ⟨m x0,x0,rfl,by rw [hk0]; exact hs.weak hJ hk hokw⟩ ?_
      rintro n a w ⟨x,rfl,hsx⟩
      refine wc_okv (wc_mono (ih _ (κ x) (S x) a w hd hl (hround x) hsx) ?_)
      rintro e a' w' ⟨k',σ',hq,hs'⟩ hokw'
      cases e with
      | normal =>
        obtain ⟨y,hlt,rfl,ρ,hk⟩:=hq
        exact ⟨m y,hlt,y,rfl,hs'.weak hJ hk hokw'⟩
      | _=>exact ⟨k',σ',hq,hs'⟩
    · exact plain _ Q k σ a w hd hl h hs
  | skip=>intro Q k σ a w hd hl h hs; exact plain _ Q k σ a w hd hl h hs
  | exit id=>intro Q k σ a w hd hl h hs; exact plain _ Q k σ a w hd hl h hs
  | ret=>intro Q k σ a w hd hl h hs; exact plain _ Q k σ a w hd hl h hs
  | label l=>intro Q k σ a w hd hl h hs; exact plain _ Q k σ a w hd hl h hs
  | scope c _=>intro Q k σ a w hd hl h hs; exact plain _ Q k σ a w hd hl h hs
  | _=>intro Q k σ a w hd hl h; exact h.elim
end
theorem seq_of {P:Program} [Mc:Mch P] {f N:Nat} {fn:Func} {c:Code} {caps:List D} {xs:List (List D)} (hm:P.follows .mixedOrders=true) (hf:P.funcs[f]? = some fn) (hb:fn.body=some c) (hname:(fn.name == "runtime.NumGoroutine")=false) (hN:fn.ntmps=N)
    (hd:codeDst N c=true) (hl':codeLex P c=true) (ha:caps.length+1≤N)
    (h:∀ l,AWPY P l xs c 0 (St0 (.lit (.func (.yield l) #[] #[])::caps) N) fun e k σ=>(e=.normal∨e=.ret)∧k=xs.length∧∃ r,resD P fn.results.toList σ=some r):SeqSpec P f caps xs:=by
  intro A W l lb hA hl hv
  have hn:¬ fn.name = "runtime.NumGoroutine" := by simpa using hname
  refine ⟨fun args w=>by simp [callFunc,hf,hn,hb],fun J hstab hround h0=>?_⟩
  have hJ:JOk P l A xs J:=⟨hstab,hround⟩
  refine cx_of_leave hf hb ?_
  subst hN
  refine (WpR.plain P).okv fun hokW=>?_
  obtain ⟨F,M,h1,hM,hF,hK,_⟩:=(SR0 (N:=fn.ntmps) (args:=.lit (.func (.yield l) #[] #[])::caps) (vs:=#[.func (.yield l) #[] #[]]++lb) hokW hA (by simp; omega) (fun k d v hk hv'=>by
    cases k with
    | zero=>rw [Array.getElem?_append_left (by simp)] at hv'; simp at hk hv'; subst hk; subst hv'; exact .lit _
    | succ k=>exact hv k d v (by simpa using hk) (by rw [Array.getElem?_append_right (by simp)] at hv'; simpa using hv')) (by simpa using ha)).srb
  simp only at hM hF hK
  have hMlt:∀ b,M b→b<W.heap.size:=by obtain ⟨_,_,_,_,q,_⟩:=h1; exact fun b h=>(q b h).1
  have hFlt:∀ b,F b→b<W.heap.size:=by obtain ⟨_,_,q,_⟩:=h1; exact q
  have hM0:∀ b,¬ M b:=fun b hb=>by
    rcases hM b hb with h | h
    · exact h
    · have:=hMlt b hb; omega
  have hMe:M=none':=funext fun b=>propext ⟨fun h=>(hM0 b h).elim,fun h=>h.elim⟩
  refine wc_mono (AWPY_sound (A:=A) hm hJ c _ 0 _ _ W hd hl' (h l) ⟨none',F,M,by rw [hMe]; exact h0,h1,fun b hb=>(hM0 b hb).elim,fun b hb=>?_,fun b hb=>hb.elim⟩) ?_
  · rcases hF b hb with h | h | h
    · exact .inl h
    · exact h.elim
    · have:=hFlt b hb; omega
  · rintro e a w ⟨k,σ,⟨he,rfl,r,hr⟩,X,F,M,hj,hs,hMX',_⟩
    have hdf:a.defers=[]:=by obtain ⟨_,_,_,_,_,_,_,_,_,_,q⟩:=hs; exact q
    refine ⟨he,fun Win hWf hokw=>leave_plain hf hdf (fun v1 hev=>?_) Win hWf hokw⟩
    have hs2:=hs.env hev
    obtain ⟨v,h1,_⟩:=run_results (hs2.sr (hev.okV hokw) noZ fun _ _ e=>by cases e) hr
    exact ⟨v,h1,X,M,hJ.stab _ X M w X M v1 hj (hev.kept M) (fun _ h=>h) (fun _ h=>.inl h) (fun b hb=>⟨hMX' b hb,.inl hb⟩)⟩
end Go.Am
end
section
open List renaming map_map→ζ,mapM_map→ξ
namespace Go.Am
variable {P:Program} [Mc:Mch P]
/-! ### Iterators -/
theorem awpY_plain {l:Nat} {xs:List (List D)}:∀ (c:Code) {k:Nat} {σ:St} {Q:Exit→Nat→St→Prop},hasY c=false→(AWP P c σ fun e σ'=>Q e k σ')→AWPY P l xs c k σ Q:=by
  intro c
  induction c with
  | region id ops draw =>
    intro k σ Q hy h
    unfold AWPY
    simp only [hasY] at hy
    rw [hy]
    exact h
  | seq x y ihx ihy =>
    intro k σ Q hy h
    simp only [hasY,Bool.or_eq_false_iff] at hy
    refine ihx hy.1 (AWP_mono x (fun e σ h=>?_) h)
    cases e with
    | normal=>exact ihy hy.2 h
    | _=>exact h
  | cond c x y ihx ihy =>
    intro k σ Q hy h
    simp only [hasY,Bool.or_eq_false_iff] at hy
    unfold AWPY
    unfold AWP at h
    split
    · rename_i t ht
      simp only [ht] at h
      cases t
      · exact ihy hy.2 h
      · exact ihx hy.1 h
    · rename_i ht
      simp only [ht] at h
      exact ⟨ihx hy.1 h.1,ihy hy.2 h.2⟩
    · rename_i h1 h2
      split at h
      · rename_i t ht; exact h1 _ ht
      · rename_i ht; exact h2 ht
      · exact h
  | block id c ih =>
    intro k σ Q hy h
    refine ih hy (AWP_mono c (fun e σ h=>?_) h)
    cases e <;> exact h
  | loop c ih =>
    intro k σ Q hy h
    simp only [hasY] at hy
    unfold AWPY
    rw [hy]
    exact h
  | _=>intro k σ Q _ h; exact h
@[congr] theorem awpY_congr {l:Nat} {xs:List (List D)} {c:Code} {k:Nat} {σ σ':St} {Q:Exit→Nat→St→Prop} (h:σ=σ'):AWPY P l xs c k σ Q=AWPY P l xs c k σ' Q:=by rw [h]
theorem awpY_seqL {l:Nat} {xs:List (List D)} {x y:Code} {k:Nat} {σ:St} {Q:Exit→Nat→St→Prop} (hy:hasY x=false) (h:AWP P x σ fun e σ'=>match e with | .normal=>AWPY P l xs y k σ' Q | e=>Q e k σ'):AWPY P l xs (.seq x y) k σ Q:=by
  refine awpY_plain (l:=l) (xs:=xs) x (k:=k) hy (AWP_mono x (fun e σ h=>?_) h)
  cases e <;> exact h
theorem awpY_block {l:Nat} {xs:List (List D)} {id:Nat} {c:Code} {k:Nat} {σ:St} {Q:Exit→Nat→St→Prop} (h:AWPY P l xs c k σ fun e k' σ'=>match e with | .exit id'=>if id'=id then Q .normal k' σ' else Q (.exit id') k' σ' | e=>Q e k' σ'):AWPY P l xs (.block id c) k σ Q:=h
theorem awpY_seq {l:Nat} {xs:List (List D)} {x y:Code} {k:Nat} {σ:St} {Q:Exit→Nat→St→Prop} (h:AWPY P l xs x k σ fun e k' σ'=>match e with | .normal=>AWPY P l xs y k' σ' Q | e=>Q e k' σ'):AWPY P l xs (.seq x y) k σ Q:=h
theorem awpY_yield {l:Nat} {xs:List (List D)} {id:Nat} {ops:Array Oper} {k:Nat} {σ:St} {Q:Exit→Nat→St→Prop} {pre post:List Oper} {y:Oper} (hno:noNext ops.toList=true) (hs:spanY ops.toList=some (pre,y,post))
    (h:OWd P ops pre σ [] (fun σ1 con1=>YO l xs y k (fin σ1 con1) fun σ2=>OWd P ops post σ2 [] (fun σ3 con3=>FinP σ3 con3 (Q .normal (k+1)) .mk) .mk) .mk):AWPY P l xs (.region id ops false) k σ Q:=by
  unfold AWPY
  rw [hs]
  refine ⟨rfl,hno,?_⟩
  unfold YR
  rw [hs]
  exact h
@[congr] theorem yO_congr {l:Nat} {xs:List (List D)} {y:Oper} {k:Nat} {σ σ':St} {K:St→Prop} (h:σ=σ'):YO l xs y k σ K=YO l xs y k σ' K:=by rw [h]
theorem yO_intro {l:Nat} {xs:List (List D)} {dst:Option Tmp} {t:Tmp} {args:List Operand} {ts:Array TypeId} {ty:TypeId} {pos:String} {after:Array Edge} {guard:Option (Nat × Bool)} {k:Nat} {σ:St} {K:St→Prop} {dd:List D} {l2:List Nat}
    (h1:σ.Γ t=.d (.lit (.func (.yield l) #[] #[]))) (h2:frzs σ.H (args.map (oev σ.Γ))=some dd) (h3:xs[k]? = some dd) (h4:viss σ.H (args.map (oev σ.Γ))=l2)
    (h5:K ⟨putA (used σ l2).Γ dst (.d (.b (decide (k+1≠xs.length)))),(used σ l2).H,(used σ l2).n⟩):YO l xs ⟨dst,.call ⟨.value (.tmp t),args.toArray,ts⟩,ty,pos,after,guard⟩ k σ K:=by
  subst h4
  exact ⟨h1,dd,h2,h3,h5⟩
def NxtY {τ:Type} (I:τ→Prop) (m κ:τ→Nat) (S:τ→St) (x:τ) (k:Nat) (σ':St) (_:Dm (I,m,κ,S,x)):Prop:=∃ y,I y∧m y<m x∧κ y=k∧∃ ρ,Wk σ' (S y) ρ
theorem awpY_loop {τ:Type} {l:Nat} {xs:List (List D)} {c:Code} {k:Nat} {σ:St} {Q:Exit→Nat→St→Prop} (hy:hasY c=true) (I:τ→Prop) (S:τ→St) (κ m:τ→Nat) (x0:τ) (hI:I x0) (hk:κ x0=k) (h0:∃ ρ,Wk σ (S x0) ρ)
    (h:∀ x,I x→AWPY P l xs c (κ x) (S x) fun e k' σ'=>match e with | .normal=>NxtY I m κ S x k' σ' .mk | e=>Q e k' σ'):AWPY P l xs (.loop c) k σ Q:=by
  unfold AWPY
  rw [if_pos hy]
  refine ⟨{ x:τ // I x },fun x=>S x.1,fun x=>κ x.1,fun x=>m x.1,⟨x0,hI⟩,hk,h0,fun x=>?_⟩
  refine cast (congrArg (AWPY P l xs c (κ x.1) (S x.1)) ?_) (h x.1 x.2)
  funext e k' σ'
  cases e with
  | normal=>exact propext ⟨fun ⟨y,h1,h2,h3⟩=>⟨⟨y,h1⟩,h2,h3⟩,fun ⟨y,h2,h3⟩=>⟨y.1,y.2,h2,h3⟩⟩
  | _=>rfl
/-! ### Functions that range over one -/
def hasR:Code→Bool
  | .seq x y=>hasR x || hasR y
  | .block _ c | .scope c=>hasR c
  | .rangeFunc ..=>true
  | _=>false
theorem awpR_plain {N:Nat}:∀ (c:Code) {σ:St} {Q:Exit→St→Prop},hasR c=false→AWP P c σ Q→AWPR P N c σ Q:=by
  intro c
  induction c with
  | seq x y ihx ihy =>
    intro σ Q hr h
    simp only [hasR,Bool.or_eq_false_iff] at hr
    refine ihx hr.1 (AWP_mono x (fun e σ h=>?_) h)
    cases e with
    | normal=>exact ihy hr.2 h
    | _=>exact h
  | block id c ih=>intro σ Q hr h; exact ih hr h
  | scope c ih=>intro σ Q hr h; exact ih hr h
  | rangeFunc=>intro σ Q hr; cases hr
  | _=>intro σ Q _ h; exact h
@[congr] theorem awpR_congr {N:Nat} {c:Code} {σ σ':St} {Q:Exit→St→Prop} (h:σ=σ'):AWPR P N c σ Q=AWPR P N c σ' Q:=by rw [h]
theorem awpR_seqL {N:Nat} {x y:Code} {σ:St} {Q:Exit→St→Prop} (hr:hasR x=false) (h:AWP P x σ fun e σ'=>match e with | .normal=>AWPR P N y σ' Q | e=>Q e σ'):AWPR P N (.seq x y) σ Q:=by
  refine awpR_plain x hr (AWP_mono x (fun e σ h=>?_) h)
  cases e <;> exact h
theorem awpR_seq {N:Nat} {x y:Code} {σ:St} {Q:Exit→St→Prop} (h:AWPR P N x σ fun e σ'=>match e with | .normal=>AWPR P N y σ' Q | e=>Q e σ'):AWPR P N (.seq x y) σ Q:=h
theorem awpR_scope {N:Nat} {c:Code} {σ:St} {Q:Exit→St→Prop} (h:AWPR P N c σ fun e σ'=>match e with | .goto _=>False | e=>Q e σ'):AWPR P N (.scope c) σ Q:=h
theorem awpR_block {N id:Nat} {c:Code} {σ:St} {Q:Exit→St→Prop} (h:AWPR P N c σ fun e σ'=>match e with | .exit id'=>if id'=id then Q .normal σ' else Q (.exit id') σ' | e=>Q e σ'):AWPR P N (.block id c) σ Q:=h
def NxtR (wl:List Nat) (T:St) (σ2:St) (_:Dm (wl,T)):Prop:=∃ ρ,Wk ⟨fun t=>if wl.contains t then .any else σ2.Γ t,σ2.H,σ2.n⟩ T ρ
theorem awpR_range {N:Nat} {g:Operand} {ps:Array Tmp} {assign body:Code} {σ:St} {Q:Exit→St→Prop} {gf:FuncId} {cs:List AV} {caps:List D} (xs:List (List D)) (T:Nat→St) (wl:List Nat) (E:Exit) (jc:Code)
    (hE:(E,jc)=(Exit.ret,Code.ret)∨∃ id,(E,jc)=(Exit.exit id,Code.exit id))
    (hg:calleeA (oev σ.Γ g)=some (gf,cs)) (hf:frzs σ.H cs=some caps) (hseq:SeqSpec P gf caps xs) (h0:∃ ρ,Wk (used σ (viss σ.H cs)) (T 0) ρ)
    (hc:(codeDst N assign && codeDst N body && codeLex P assign && codeLex P body && codeRd assign && codeRd body && codeNZ (fun t=>!wl.contains t) assign && codeNZ (fun t=>!wl.contains t) body && ps.toList.all fun p=>decide (p<N) && wl.contains p)=true)
    (hne:0<xs.length)
    (hr0:∀ k x,k+1<xs.length→xs[k]? = some x→x.length=ps.size∧AWP P assign ⟨setΓ (ps.toList.zip x) (T k).Γ,(T k).H,(T k).n⟩ fun e σ1=>match e with
      | .normal=>AWP P body σ1 fun e σ2=>match e with | .normal=>NxtR wl (T (k+1)) σ2 .mk | _=>False
      | _=>False)
    (hr1:∀ k x,k+1=xs.length→xs[k]? = some x→x.length=ps.size∧AWP P assign ⟨setΓ (ps.toList.zip x) (T k).Γ,(T k).H,(T k).n⟩ fun e σ1=>match e with
      | .normal=>AWP P body σ1 fun e σ2=>e=E∧NxtR wl (T (k+1)) σ2 .mk
      | _=>False)
    (hq:Q E (T xs.length)):AWPR P N (.rangeFunc g ps assign body) σ Q:=by
  simp only [Bool.and_eq_true,List.all_eq_true,decide_eq_true_eq] at hc
  obtain ⟨⟨⟨⟨⟨⟨⟨⟨d1,d2⟩,l1⟩,l2⟩,r1⟩,r2⟩,z1⟩,z2⟩,hps⟩:=hc
  refine ⟨gf,cs,caps,xs,T,wl,E,jc,hE,hg,hf,hseq,⟨⟨d1,d2⟩,⟨l1,l2⟩,⟨r1,r2⟩,⟨z1,z2⟩,hps,hne,fun k x hx=>?_⟩,h0,hq⟩
  have hk:=(List.getElem?_eq_some_iff.1 hx).1
  by_cases hl:k+1=xs.length
  · refine ⟨(hr1 k x hl hx).1,AWP_mono assign (fun e σ1 h=>?_) (hr1 k x hl hx).2⟩
    cases e with
    | normal =>
      refine ⟨rfl,AWP_mono body (fun e σ2 h=>?_) h⟩
      rw [if_pos hl]; exact h
    | _=>exact h.elim
  · refine ⟨(hr0 k x (by omega) hx).1,AWP_mono assign (fun e σ1 h=>?_) (hr0 k x (by omega) hx).2⟩
    cases e with
    | normal =>
      refine ⟨rfl,AWP_mono body (fun e σ2 h=>?_) h⟩
      rw [if_neg hl]
      cases e with
      | normal=>exact ⟨rfl,h⟩
      | _=>exact h.elim
    | _=>exact h.elim
theorem awpR_range0 {N:Nat} {g:Operand} {ps:Array Tmp} {assign body:Code} {σ:St} {Q:Exit→St→Prop} {gf:FuncId} {cs:List AV} {caps:List D} (xs:List (List D)) (T:Nat→St) (wl:List Nat) (E:Exit) (jc:Code)
    (hE:(E,jc)=(Exit.ret,Code.ret)∨∃ id,(E,jc)=(Exit.exit id,Code.exit id))
    (hg:calleeA (oev σ.Γ g)=some (gf,cs)) (hf:frzs σ.H cs=some caps) (hv:viss σ.H cs=[]) (hseq:SeqSpec P gf caps xs) (h0:∃ ρ,Wk σ (T 0) ρ)
    (hc:(codeDst N assign && codeDst N body && codeLex P assign && codeLex P body && codeRd assign && codeRd body && codeNZ (fun t=>!wl.contains t) assign && codeNZ (fun t=>!wl.contains t) body && ps.toList.all fun p=>decide (p<N) && wl.contains p)=true)
    (hne:0<xs.length)
    (hr0:∀ k x,k+1<xs.length→xs[k]? = some x→x.length=ps.size∧AWP P assign ⟨setΓ (ps.toList.zip x) (T k).Γ,(T k).H,(T k).n⟩ fun e σ1=>match e with
      | .normal=>AWP P body σ1 fun e σ2=>match e with | .normal=>NxtR wl (T (k+1)) σ2 .mk | _=>False
      | _=>False)
    (hr1:∀ k x,k+1=xs.length→xs[k]? = some x→x.length=ps.size∧AWP P assign ⟨setΓ (ps.toList.zip x) (T k).Γ,(T k).H,(T k).n⟩ fun e σ1=>match e with
      | .normal=>AWP P body σ1 fun e σ2=>e=E∧NxtR wl (T (k+1)) σ2 .mk
      | _=>False)
    (hq:Q E (T xs.length)):AWPR P N (.rangeFunc g ps assign body) σ Q :=
  awpR_range xs T wl E jc hE hg hf hseq (by rw [hv]; exact h0) hc hne hr0 hr1 hq
end Go.Am
end
section
open List renaming map_map→ζ,mapM_map→ξ
namespace Go.Am
open Go.Conc
open Go.ConcN (sumTo sumTo_upd)
def ShunS (S:Nat→Prop):Loc→Prop
  | .cell a=>S a.block
  | _=>False
def EndsGood (P:Program) (Post:Value→World→Prop) (m:Machine) (t:Trace):Prop :=
  ∃ N last o w' t',runNT P (N+1) m t=(.ended o w',t')∧runN P N m=.next last∧step P last=.ended o w'∧Conc.Good P Post last o w' t'
theorem EndsGood.step {P:Program} {Post:Value→World→Prop} {m m':Machine} {t:Trace} {ops:Trace} (h:stepT P m=(.next m',ops)) (hg:EndsGood P Post m' (t++ops)):EndsGood P Post m t:=by
  obtain ⟨N,last,o,w',t',h1,h2,h3,h4⟩:=hg
  exact ⟨N+1,last,o,w',t',by rw [runNT_succ_next h]; exact h1,by rw [runN_succ_next h]; exact h2,h3,h4⟩
def stO:Obj→Bool
  | Obj.cells c _ f=>f == (0,c.size)
  | o=>!okO o
def Kp (W0 v w:World):Prop:=∀ (b:Nat) (o:Obj),W0.heap[b]? = some o→stO o=true→w.heap[b]? = some o∧∃ (c:Array Value) (t:TypeId),v.heap[b]? = some (Obj.cells c t (0,c.size))
theorem Kp.step {W0 v w v' w':World} (h:Kp W0 v w) (hx:Ext v v') (hr:Rest v w w'):Kp W0 v' w':=fun b o hb ho=>by
  obtain ⟨h1,c,t,h2⟩:=h b o hb ho
  refine ⟨(hr b c t h2).trans h1,?_⟩
  obtain ⟨c',g1,_,g3⟩:=hx.cells b c t _ h2
  have:=g3 rfl; subst this
  exact ⟨c',t,g1⟩
theorem Kp.congr {W0 v w v' w':World} (h:Kp W0 v w) (hv:v'.heap=v.heap) (hw:w'.heap=w.heap):Kp W0 v' w':=fun b o hb ho=>by rw [hv,hw]; exact h b o hb ho
structure Tidy (Sh:Loc→Prop) (N:Nat) (t:Trace):Prop where
  quiet:Quiet Sh t
  mem:∀ i a,touchAt t i=some a→a.loc.isMemory=true
  num:∀ (i:Nat) (op:MemOp),t[i]? = some op→op.g<N
theorem Tidy.app {Sh:Loc→Prop} {N:Nat} {t u:Trace} (h:Tidy Sh N t) (hq:∀ op∈u,∀ x,op.act.touch? = some x→Sh x.loc→x.kind≠.plain∧(x.kind=.said→op.g=0)) (hm:∀ op∈u,∀ x,op.act.touch? = some x→x.loc.isMemory=true) (hn:∀ op∈u,op.g<N):Tidy Sh N (t++u):=by
  refine ⟨h.quiet.app hq,fun i a ha=>?_,fun i op hi=>?_⟩
  · obtain ⟨x,hx,hxa⟩:=touch_of ha
    rcases getElem?_append_cases hx with ⟨_,hx'⟩ | ⟨_,hxu⟩
    · exact h.mem i a (by rw [touchAt_of hx']; exact hxa)
    · exact hm x hxu a hxa
  · rcases getElem?_append_cases hi with ⟨_,hi'⟩ | ⟨_,hiu⟩
    · exact h.num i op hi'
    · exact hn op hiu
theorem Tidy.mute {Sh:Loc→Prop} {N:Nat} {t:Trace} (h:Tidy Sh N t) {g:Nat} (hg:g<N) {fn:FuncId} {pos:String} {es:Array Event} (hm:∀ e∈es,e.mute=true):Tidy Sh N (t++MemOp.ofEvents g fn pos es):=by
  refine h.app (fun op hop x hx=>?_) (fun op hop x hx=>?_) (fun op hop=>?_) <;> obtain ⟨e,he,rfl⟩:=Conc.mem_ofEvents hop
  · rw [touch_mute (hm e he)] at hx; cases hx
  · rw [touch_mute (hm e he)] at hx; cases hx
  · exact hg
def MainWin (P:Program) (W0:World) (Post:Value→World→Prop) (g:Goroutine) (v:World):Prop :=
  ∀ v1,Env v v1→OkV v1→∀ (S:Nat→Prop) (gs:Array Goroutine) (w:World) (sl:Option (Nat × Nat)) (t:Trace) (q:Nat→Nat),(∀ b,S b→v1.heap[b]? = some hole)→Sim v1 w→gs[0]? = some g→Leavers P t gs q→Past (ShunS S) w.heap.size t→Tidy (ShunS S) gs.size t→Kp W0 v1 w →
    EndsGood P Post (crowd gs w sl) t
theorem evL_of_evV {v:World} {S:Nat→Prop} {B:Nat} (hS:∀ b,S b→v.heap[b]? = some hole) (hB:v.heap.size≤B) {e:Event} (h:EvV v e):EvL (ShunS S) B e:=by
  obtain ⟨loc,wr,sy⟩:=e
  rcases h with ⟨a,c,t,f,h1,h2,h3,h4,h5⟩ | ⟨r,o,h1,h2,h3,h4,h5⟩ | h
  · simp only at h1 h2; subst h1; subst h2
    have hlt:=lt_of_get h3
    refine evL_cell a wr (fun hs=>?_) (by omega)
    have:=hS a.block hs
    rw [h3] at this; injection this with this; injection this with e1 _ _; subst e1; simp at h4
  · simp only at h1 h2; subst h1; subst h2
    have hlt:=lt_of_get h3
    refine ⟨fun x hx hs=>?_,by simp,by simp,?_⟩
    · simp [MemAct.ofEvent,MemAct.touch?] at hx
      subst hx; exact hs.elim
    · have:r<B:=by omega
      simpa [MemAct.ofEvent,MemAct.low,Loc.low] using this
  · injection h with e1 e2 e3; subst e1; subst e2; subst e3
    exact ⟨fun x hx=>by simp [MemAct.ofEvent,MemAct.touch?] at hx,by simp,by simp,trivial⟩
theorem hole_ext {v v':World} {b:Nat} (h:Ext v v') (hb:v.heap[b]? = some hole):v'.heap[b]? = some hole:=by
  obtain ⟨c',h1,h2,h3⟩:=h.cells b #[] 0 (0,0) hb
  have:=h3 rfl
  subst this; exact h1
theorem evV_mem {v:World} {e:Event} (h:EvV v e) {x:Touch} (hx:(MemAct.ofEvent e).touch? = some x):x.loc.isMemory=true∧x.kind≠.said:=by
  obtain ⟨loc,wr,sy⟩:=e
  rcases h with ⟨a,c,t,f,h1,h2,_⟩ | ⟨r,o,h1,h2,_⟩ | h
  · simp only at h1 h2; subst h1; subst h2
    simp [MemAct.ofEvent,MemAct.touch?] at hx; subst hx; exact ⟨rfl,by simp⟩
  · simp only at h1 h2; subst h1; subst h2
    simp [MemAct.ofEvent,MemAct.touch?] at hx; subst hx; exact ⟨rfl,by simp⟩
  · injection h with e1 e2 e3; subst e1; subst e2; subst e3
    simp [MemAct.ofEvent,MemAct.touch?] at hx
section
variable {P:Program} {W0:World} {Post:Value→World→Prop}
theorem main_stepE {g : Goroutine} {v : World} (hrun : g.status = .running) (hstep : ∀ v1 w, Env v v1 → OkV v1 → Sim v1 w → Kp W0 v1 w →
      (∃ g' w' es,stepG P true g w=.go g' w' es∧∀ (S:Nat→Prop) (gs:Array Goroutine) (sl:Option (Nat × Nat)) (t:Trace) (q:Nat→Nat),(∀ b,S b→v1.heap[b]? = some hole)→gs[0]? = some g'→Leavers P (t++MemOp.ofEvents 0 g.frame.fn g.frame.place es) gs q →
        Past (ShunS S) w.heap.size t→Tidy (ShunS S) gs.size t→EndsGood P Post (crowd gs w' sl) (t++MemOp.ofEvents 0 g.frame.fn g.frame.place es)) ∨
      ∃ x w' es,stepG P true g w=.ended (.done x) w' es∧(∀ e∈es,EvV v1 e)∧Post x w'):MainWin P W0 Post g v:=by
  have key:∀ (M:Nat) (v1:World),Env v v1→OkV v1→∀ (S:Nat→Prop) (gs:Array Goroutine) (w:World) (sl:Option (Nat × Nat)) (t:Trace) (q:Nat→Nat),sumTo gs.size q≤M→(∀ b,S b→v1.heap[b]? = some hole)→Sim v1 w→gs[0]? = some g→Leavers P t gs q→Past (ShunS S) w.heap.size t→Tidy (ShunS S) gs.size t→Kp W0 v1 w →
      EndsGood P Post (crowd gs w sl) t:=by
    intro M
    induction M with
    | zero | succ M ih =>
      intro v1 he hok S gs w sl t q hM hS hsim h0 hL hP hTd hKp
      have haw:∀ g∈gs,awake g:=by
        intro g1 hg
        obtain ⟨i,hi,rfl⟩:=Array.mem_iff_getElem.1 hg
        rcases Nat.eq_zero_or_pos i with rfl | hpos
        · have:gs[0]=g:=by simpa [Array.getElem?_eq_getElem hi] using h0
          rw [this]; exact awake_of (.inl hrun)
        · exact awake_of ((hL.old i _ hpos (Array.getElem?_eq_getElem hi)).status.elim .inl fun x=>.inr (.inr x))
      obtain ⟨i,g1,d,sl',hi,hg,hst⟩:=crowd_pick (P:=P) (w:=w) (sl:=sl) haw ⟨0,g,h0,hrun⟩
      have hed:Env v1 { v1 with drawn:=d }:=⟨rfl,rfl,rfl,0,by simp⟩
      have hokd:OkV { v1 with drawn:=d }:=hok.congr rfl
      have hsimd:Sim { v1 with drawn:=d } (w.at d):=⟨hsim.tape,rfl,hsim.os,hsim.output,hsim.size,hsim.blk⟩
      rcases Nat.eq_zero_or_pos i with rfl | hpos
      · obtain rfl:g1=g:=by rw [h0] at hi; exact (Option.some.inj hi).symm
        rcases hstep _ (w.at d) (he.trans hed) hokd hsimd (hKp.congr rfl rfl) with ⟨g',w',es,hgo,hwin⟩ | ⟨x,w'',es,hend,hev,hpost⟩
        · have hrunT:=runT_crowd_go (P:=P) (sl:=sl') (i:=0) hi (show stepG P (0 == 0) g1 (w.at d)=_ from hgo)
          have hlt:0<gs.size:=(Array.getElem?_eq_some_iff.1 h0).1
          refine EndsGood.step (hst.trans hrunT) (hwin S _ sl' t q hS (by simp [hlt]) ⟨fun j x hj hx=>?_,fun j hj=>?_⟩ hP (by simpa using hTd))
          · have hne:0≠j:=by omega
            rw [Array.getElem?_setIfInBounds_ne hne,Array.getElem?_map] at hx
            obtain ⟨y,hy,rfl⟩:=Option.map_eq_some_iff.1 hx
            have hq:=hL.old j y hj hy
            rw [woken_quitsD hq,Deaf_other t (by omega) _ (fun op hop=>by obtain ⟨e,_,rfl⟩:=Conc.mem_ofEvents hop; rfl)]
            exact hq
          · rw [Deaf_other t (g':=0) (by simp at hj; omega) _ (fun op hop=>by obtain ⟨e,_,rfl⟩:=Conc.mem_ofEvents hop; rfl)]
            exact hL.above j (by simpa using hj)
        · have hrunT:=runT_many_ended (P:=P) (sl:=sl') (i:=0) hi (show stepG P (0 == 0) g1 (w.at d)=_ from hend)
          have hsz0:v1.heap.size=w.heap.size:=hsim.size
          have hP':=hP.own (fn:=g1.frame.fn) (pos:=g1.frame.place) (es:=es) fun e hx=>evL_of_evV (v:={ v1 with drawn:=d }) hS (by simp only; omega) (hev e hx)
          have hsT:=hst.trans hrunT
          refine ⟨0,_,_,_,_,?_,rfl,?_,x,rfl,hpost,hP'.clean,hP'.over,⟨fun y hy=>?_,rfl⟩,fun j y hy hj=>?_⟩
          · simp [runNT,hsT]
          · simp [Go.step,hsT]
          · obtain ⟨j,hj⟩:=List.mem_iff_getElem?.1 hy
            rw [List.getElem?_drop] at hj
            exact ⟨_,(hL.old (1+j) y (by omega) (by simpa [crowd] using hj)).leaves⟩
          · have hq:=hL.old j y (by omega) hy
            refine ⟨q j,?_⟩
            have e:(t++MemOp.ofEvents 0 g1.frame.fn g1.frame.place es).deaf j (t++MemOp.ofEvents 0 g1.frame.fn g1.frame.place es).size=Deaf t j :=
              Deaf_other t (g:=j) (g':=0) (by omega) _ (fun op hop=>by obtain ⟨e,_,rfl⟩:=Conc.mem_ofEvents hop; rfl)
            rw [e]
            exact hq.hears _
      · have hq:=hL.old i g1 hpos hi
        have hi0:(i == 0)=false:=by simp; omega
        have hlt:i<gs.size:=(Array.getElem?_eq_some_iff.1 hi).1
        cases hqi:q i with
        | zero=>rw [hqi] at hq; rw [hq.1] at hg; cases hg
        | succ k =>
          rw [hqi] at hq
          rcases hq with ⟨hf,_⟩ | ⟨_,g',es,hm,hstp,hq'⟩
          · rw [hf] at hg; cases hg
          have hrunT:=runT_crowd_go (P:=P) (sl:=sl') (i:=i) hi (by rw [hi0]; exact hstp (w.at d))
          have hsz:((gs.map (woken P g1 g' (w.at d))).setIfInBounds i g').size=gs.size:=by simp
          have hsum:sumTo gs.size (ConcN.upd q i k)+(k+1)=sumTo gs.size q+k:=by
            have:=sumTo_upd q k id hlt
            simpa [hqi] using this
          first
          | exact absurd hM (by omega)
          | refine EndsGood.step (hst.trans hrunT) (ih _ (he.trans hed) hokd S _ (w.at d) sl' _ (ConcN.upd q i k) (by rw [hsz]; omega) hS hsimd ?_ ⟨fun j x hj hx=>?_,fun j hj=>?_⟩ (hP.mute (by omega) hm) (by rw [hsz]; exact hTd.mute hlt hm) (hKp.congr rfl rfl))
            · have hne:i≠0:=by omega
              rw [Array.getElem?_setIfInBounds_ne hne,Array.getElem?_map,h0]
              simp [woken_run hrun]
            · by_cases hji:i=j
              · subst hji
                rw [Array.getElem?_setIfInBounds_self_of_lt (by simpa using hlt)] at hx
                obtain rfl:=Option.some.inj hx
                rw [ConcN.upd_same,Deaf_own]
                exact hq'
              · rw [Array.getElem?_setIfInBounds_ne hji,Array.getElem?_map] at hx
                obtain ⟨y,hy,rfl⟩:=Option.map_eq_some_iff.1 hx
                have hqj:=hL.old j y hj hy
                rw [woken_quitsD hqj,ConcN.upd_ne q k (Ne.symm hji),Deaf_other t hji _ (fun op hop=>by obtain ⟨e,_,rfl⟩:=Conc.mem_ofEvents hop; rfl)]
                exact hqj
            · rw [Deaf_other t (g':=i) (by simp at hj; omega) _ (fun op hop=>by obtain ⟨e,_,rfl⟩:=Conc.mem_ofEvents hop; rfl)]
              exact hL.above j (by simpa using hj)
  intro v1 he hok S gs w sl t q hS hsim h0 hL hP hTd hKp
  exact key _ v1 he hok S gs w sl t q (Nat.le_refl _) hS hsim h0 hL hP hTd hKp
theorem main_step {g : Goroutine} {v : World} (hrun : g.status = .running) (hstep : ∀ v1 w, Env v v1 → OkV v1 → Sim v1 w → Kp W0 v1 w →
      (∃ g' v' w' es,stepG P true g w=.go g' w' es∧StepOk v1 w v' w' es∧MainWin P W0 Post g' v')∨∃ x w' es,stepG P true g w=.ended (.done x) w' es∧(∀ e∈es,EvV v1 e)∧Post x w'):MainWin P W0 Post g v:=by
  refine main_stepE hrun fun v1 w he hok hsim hKp=>?_
  rcases hstep v1 w he hok hsim hKp with ⟨g',v',w',es,hgo,hso,hwin⟩ | h
  · have hsz:v'.heap.size=w'.heap.size:=hso.sim.size
    have hsz0:v1.heap.size=w.heap.size:=hsim.size
    have hge:v1.heap.size≤v'.heap.size:=hso.ext.size
    refine .inl ⟨g',w',es,hgo,fun S gs sl t q hS h0 hL hP hTd=>?_⟩
    have hS':∀ b,S b→v'.heap[b]? = some hole:=fun b hb=>hole_ext hso.ext (hS b hb)
    have hlt:0<gs.size:=(Array.getElem?_eq_some_iff.1 h0).1
    refine hwin v' (.refl _) hso.ok S gs w' sl _ q hS' hso.sim h0 hL ?_ ?_ (hKp.step hso.ext hso.rest)
    · exact (hP.mono (by omega)).own fun e hx=>evL_of_evV hS' (by omega) (hso.evs e hx)
    · refine hTd.app (fun op hop x hx hs=>?_) (fun op hop x hx=>?_) (fun op hop=>?_) <;> obtain ⟨e,he',rfl⟩:=Conc.mem_ofEvents hop
      · exact ⟨(evL_of_evV (B:=w'.heap.size) hS' (by omega) (hso.evs e he')).1 x hx hs,fun _=>rfl⟩
      · exact (evV_mem (hso.evs e he') hx).1
      · exact hlt
  · exact .inr h
theorem main_closed (W0:World) (Post:Value→World→Prop):Closed P true (MainWin P W0 Post) where
  env h he:=fun v1 he1=>h v1 (he.trans he1)
  step hr hv h:=main_step hr fun v1 w he _ hsim _=>by
    obtain ⟨g',v',w',es,h1,h2,h3⟩:=h v1 w he hsim
    exact .inl ⟨g',v',w',es,h1,h2,h3⟩
theorem none_closed (main:Bool):Closed P main (fun _ _=>False) where
  env h _:=h
  step hr hv h:=by
    obtain ⟨_,_,_,_,_,_,h3⟩:=h _ _ (.refl _) (.refl _)
    exact h3
end
@[instance_reducible] def mainMch (P:Program):Mch P where
  main:=true
  Fam Win:=(∃ W0 Post,Win=MainWin P W0 Post)∨Win=fun _ _=>False
  closed h:=by
    rcases h with ⟨W0,Post,rfl⟩ | rfl
    · exact main_closed W0 Post
    · exact none_closed true
  none:=.inr rfl
end Go.Am
end
section
open List renaming map_map→ζ,mapM_map→ξ
namespace Go.Am
open Go.Conc
open RowKit (Below)
def strike (W:World):World:={ W with heap:=W.heap.map fun o=>if okO o then o else hole }
theorem strike_get (W:World) (b:Nat):(strike W).heap[b]? = (W.heap[b]?).map fun o=>if okO o then o else hole:=by simp [strike]
theorem strike_size (W:World):(strike W).heap.size=W.heap.size:=by simp [strike]
theorem strike_ok (W:World):OkV (strike W):=fun b o hb=>by
  rw [strike_get] at hb
  cases h:W.heap[b]? with
  | none=>rw [h] at hb; cases hb
  | some x =>
    rw [h] at hb
    simp only [Option.map_some,Option.some.injEq] at hb
    subst hb
    split
    · assumption
    · rfl
theorem strike_sim (W:World):Sim (strike W) W:=⟨rfl,rfl,rfl,rfl,strike_size W,fun b o hb=>by
  rw [strike_get] at hb
  cases h:W.heap[b]? with
  | none=>rw [h] at hb; cases hb
  | some x =>
    rw [h] at hb
    simp only [Option.map_some,Option.some.injEq] at hb
    subst hb
    by_cases hx:okO x=true
    · rw [if_pos hx]; exact .inr (.inl rfl)
    · rw [if_neg hx]; exact .inl rfl⟩
theorem strike_kp (W:World):Kp W (strike W) W:=fun b o hb ho=>by
  refine ⟨hb,?_⟩
  rw [strike_get,hb,Option.map_some]
  by_cases hx:okO o=true
  · rw [if_pos hx]
    cases o with
    | cells c t f=>simp only [stO,beq_iff_eq] at ho; exact ⟨c,t,by rw [ho]⟩
    | _=>simp [stO,hx] at ho
  · rw [if_neg hx]; exact ⟨#[],0,rfl⟩
def EndPost (W:World) (r:D) (x:Value) (w':World):Prop :=
  (∀ b,b<W.heap.size→w'.heap[b]? = W.heap[b]?)∧w'.os=W.os∧w'.tape=W.tape∧w'.output=W.output∧W.heap.size≤w'.heap.size∧∃ v':World,VD (fun b=>b<v'.heap.size) v' r x
theorem endPost_of {W v' w':World} {r:D} {x:Value} (hs:Sim v' w') (hk:Kp W v' w') (hb:Below (strike W).heap.size (strike W) v') (hv:VD (fun b=>b<v'.heap.size) v' r x):EndPost W r x w':=by
  refine ⟨fun b hlt=>?_,?_,?_,?_,?_,v',hv⟩
  · obtain ⟨o,ho⟩:∃ o,W.heap[b]? = some o:=⟨_,Array.getElem?_eq_getElem hlt⟩
    by_cases hst:stO o=true
    · rw [(hk b o ho hst).1,ho]
    · have hbl:=hb.block b (by rw [strike_size]; exact hlt)
      have hok:okO o=true:=by
        cases o <;> simp [stO] at hst <;> first | rfl | exact hst
      rw [strike_get,ho,Option.map_some,if_pos hok] at hbl
      rcases hs.blk b o hbl with e | e | ⟨c,t,_,e,_⟩
      · subst e; exact absurd rfl hst
      · rw [e,ho]
      · subst e; exact absurd (by simp [stO]) hst
  · rw [← hs.os]; exact hb.os
  · rw [← hs.tape]; exact hb.tape
  · rw [← hs.output]; exact hb.output
  · have:=hb.size; rw [strike_size] at this; rw [← hs.size]; exact this
theorem stepG_done {P:Program} {b:Frame} {a:Act} {fn:Func} {todo:List Item} {x:Value} {w w':World} {es:Array Event} (hn:b.kind=.normal) (hi:P.inits.idxOf? b.fn=none) (hd:a.defers=[]) (hf:P.funcs[b.fn]? = some fn) (hr:(results fn a.tmps).runT P w #[]=(.ok x w',es)) :
    stepG P true (G { b.at a todo with mode:=.returning } []) w=.ended (.done x) w' (seen P b.fn es):=by
  simp only [G,stepG,unwind,Frame.at,hd,hf,hr,doReturn,GStep.after,hn,hi]
  simp
section
variable {P:Program}
theorem runs_of_wc {f:FuncId} {fn:Func} {c:Code} {args:Array Value} {W:World} {r:D} (hf:P.funcs[f]? = some fn) (hb:fn.body=some c) (hi:P.inits.idxOf? f=none)
    (h:letI:=mainMch P; WC P c (bodyX P fn fun x v'=>Below (strike W).heap.size (strike W) v'∧VD (fun b=>b<v'.heap.size) v' r x) { tmps:=args++Array.replicate (fn.ntmps - args.size) undef,defers:=[] } (strike W)) :
    EndsGood P (EndPost W r) (solo (G (Frame.enter P f args .normal) []) W) #[]:=by
  letI:=mainMch P
  have hW:(mainMch P).Fam (MainWin P W (EndPost W r)):=.inl ⟨W,_,rfl⟩
  have hwin:MainWin P W (EndPost W r) (G (Frame.enter P f args .normal) []) (strike W):=by
    rw [enter_at args hf hb]
    have back:∀ (a':Act) (v':World) (todo:List Item),bodyX P fn (fun x v'=>Below (strike W).heap.size (strike W) v'∧VD (fun b=>b<v'.heap.size) v' r x) .ret a' v'→MainWin P W (EndPost W r) (G { (base f).at a' todo with mode:=.returning } []) v':=by
      intro a' v' todo hq
      obtain ⟨hd,hr⟩:=hq
      refine main_step rfl fun v1 w he hok hsim hk=>.inr ?_
      obtain ⟨x,hx,hb1,hb2⟩:=hr v1 he
      obtain ⟨w',es',h1,h2,h3,h4,h5,h6⟩:=sim_run _ v1 w #[] x v1 hok hsim hx
      have hK':Kp W v1 w':=hk.step h4 h5
      exact ⟨x,w',_,stepG_done rfl hi hd hf h1,fun e he'=>h6 e (by have:=mem_seen he'; simpa using this),endPost_of h2 hK' hb1 hb2⟩
    refine h _ hW (strike_ok W) (base f) [] [] (.inl rfl) fun e a' v' hv' hq=>?_
    cases e with
    | normal =>
      refine win_move hW rfl hv' (fun w=>stepG_end) ?_
      exact back a' v' [] hq
    | ret=>exact fun todo=>back a' v' todo hq
    | exit id=>exact hq.elim
    | goto l=>exact hq.elim
    | panic ch=>exact hq.elim
    | outgrown=>exact hq.elim
  refine hwin _ (.refl _) (strike_ok W) (fun _=>False) #[G (Frame.enter P f args .normal) []] W none #[] (fun _=>0) (fun b h=>h.elim) (strike_sim W) rfl (leavers_one P _) ?_ ?_ (strike_kp W)
  have h0:ShunS (fun _=>False)=fun _=>False:=by funext l; cases l <;> rfl
  · rw [h0]
    exact past_nil.mono (Nat.zero_le _)
  · exact ⟨fun i op x hi=>by simp at hi,fun i a ha=>by simp [touchAt,Trace.act?] at ha,fun i op hi=>by simp at hi⟩
end
end Go.Am
end
section
open List renaming map_map→ζ,mapM_map→ξ
namespace Go.Am
open Go.Conc
open RowKit (Below)
theorem runs_of {P:Program} {f N:Nat} {fn:Func} {c:Code} {args:List D} {r:D} (hm:P.follows .mixedOrders=true) (hf:P.funcs[f]? = some fn) (hb:fn.body=some c) (hi:P.inits.idxOf? f=none) (hN:fn.ntmps=N)
    (hd:codeDst N c=true) (hl':codeLex P c=true) (ha:args.length≤N) (h:letI:=mainMch P; AWP P c (St0 args N) fun e σ=>(e=.normal∨e=.ret)∧resD P fn.results.toList σ=some r)
    {W:World} {vs:Array Value} (hl:args.length=vs.size) (hv:∀ (k:Nat) d v,args[k]? = some d→vs[k]? = some v→VD (fun b=>b<(strike W).heap.size) (strike W) d v) :
    EndsGood P (EndPost W r) (solo (G (Frame.enter P f vs .normal) []) W) #[]:=by
  refine runs_of_wc hf hb hi ?_
  letI:=mainMch P
  subst hN
  refine wc_mono (AWP_sound hm (fun _=>rfl) c _ _ _ _ hd hl' h (SR0 (A:=fun b=>b<(strike W).heap.size) (strike_ok W) (fun _ h=>h) hl hv ha)) ?_
  rintro e a w ⟨σ,⟨he,hr⟩,hs⟩
  have hend:a.defers=[]∧∀ v1,Env w v1→∃ x,runC P (results fn a.tmps) v1=.ok x v1∧Below (strike W).heap.size (strike W) v1∧VD (fun b=>b<v1.heap.size) v1 r x:=by
    refine ⟨hs.2.2.2.elim fun _ h=>h.elim fun _ h=>h.2.2.2.2.1,fun v1 he=>?_⟩
    have hs1:=hs.env he
    obtain ⟨v,hrun,hvd⟩:=run_results hs1 hr
    obtain ⟨_,_,_,F,ι,hR,_,_,_,hdf,_⟩:=hs1
    have hsz:=hR.kept.size
    refine ⟨v,hrun,⟨hR.kept.os,hR.kept.tape,hR.kept.output,hR.kept.size,fun k hk=>hR.kept.block k hk (fun h=>h)⟩,hvd.mono ?_⟩
    rintro b (h | h | h)
    · exact Nat.lt_of_lt_of_le h hsz
    · exact h.elim
    · exact h.2
  rcases he with rfl | rfl <;> exact hend
end Go.Am
end
section
open List renaming map_map→ζ,mapM_map→ξ
namespace Go.Am
open Go.Conc
open RowKit (Below)
def LawS (P:Program) [M:Mch P] (fn:Func) (N:Nat) (args:List D) (r:D):Prop :=
  ∃ c,fn.body=some c∧fn.ntmps=N∧codeDst N c=true∧codeLex P c=true∧args.length≤N∧AWP P c (St0 args N) fun e σ=>(e=.normal∨e=.ret)∧resD P fn.results.toList σ=some r
theorem lawS_intro {P:Program} [M:Mch P] {fn:Func} {N:Nat} {c:Code} {args:List D} {r:D} (hb:fn.body=some c) (hN:fn.ntmps=N) (hd:codeDst N c=true) (hl:codeLex P c=true) (ha:args.length≤N)
    (h:AWP P c (St0 args N) fun e σ=>(e=.normal∨e=.ret)∧resD P fn.results.toList σ=some r):LawS P fn N args r:=⟨c,hb,hN,hd,hl,ha,h⟩
theorem strike_cell {W:World} {a:Addr} {x:Value} (h:W.cell? a=some x):(strike W).cell? a=some x:=by
  obtain ⟨c,t,f,hb,hlt,hs⟩:=cell_shape h
  have:(strike W).heap[a.block]? = some (.cells c t f):=by rw [strike_get,hb]; rfl
  simp only [World.cell?,hb,this] at h ⊢
  exact h
theorem VD.strike {F:Nat→Prop} {W:World} {d:D} {x:Value} (h:VD F W d x):VD F (strike W) d x:=by
  induction h with
  | b x=>exact .b x
  | i k n=>exact .i k n
  | sl0 ad c=>exact .sl0 ad c
  | sl els ad n c sz f hn hc hsz hFb hcell hel ih=>exact .sl els ad n c sz f hn hc hsz hFb (fun j hj=>strike_cell (hcell j hj)) ih
  | ag cs vs hl h ih=>exact .ag cs vs hl ih
  | tp cs vs hl h ih=>exact .tp cs vs hl ih
  | lit v=>exact .lit v
  | pt cs ad f hFb hcell hel ih=>exact .pt cs ad f hFb (fun j hj=>strike_cell (hcell j hj)) ih
  | fn g cs vs hl h ih=>exact .fn g cs vs hl ih
  | mp k ks ds b ents clock hFb hb' hst hl hl' hk hv ih=>exact .mp k ks ds b ents clock hFb (by rw [strike_get,hb']; rfl) hst hl hl' hk ih
  | iff t x v h ih=>exact .iff t x v ih
  | fm g x u h ih=>exact .fm g x u ih
theorem run_law {P:Program} {f N:Nat} {fn:Func} {args:List D} {r:D} (hm:P.follows .mixedOrders=true) (hf:P.funcs[f]? = some fn) (hi:P.inits.idxOf? f=none) (h:letI:=mainMch P; LawS P fn N args r)
    {W:World} {vs:Array Value} {Q:Value→World→Prop} (hl:args.length=vs.size) (hv:∀ (k:Nat) d v,args[k]? = some d→vs[k]? = some v→VD (fun b=>b<W.heap.size) W d v)
    (hQ:∀ x W',Below W.heap.size W W'→(∃ (F:Nat→Prop) (v':World),VD F v' r x)→Q x W') :
    ∃ M last o w' t',runNT P (M+1) (solo (G (Frame.enter P f vs .normal) []) W) #[]=(.ended o w',t')∧runN P M (solo (G (Frame.enter P f vs .normal) []) W)=.next last∧step P last=.ended o w'∧Conc.Good P Q last o w' t':=by
  obtain ⟨c,hb,hN,hd,hl',ha,hw⟩:=h
  obtain ⟨M,last,o,w',t',h1,h2,h3,h4⟩:=runs_of hm hf hb hi hN hd hl' ha hw (W:=W) (vs:=vs) hl fun k d v hk hv'=>by
    have:=(hv k d v hk hv').strike
    simpa [strike_size] using this
  refine ⟨M,last,o,w',t',h1,h2,h3,h4.mono fun x hx=>?_⟩
  obtain ⟨q1,q2,q3,q4,q5,v',q6⟩:=hx
  exact hQ x w' ⟨q2,q3,q4,q5,fun k hk=>q1 k hk⟩ ⟨_,v',q6⟩
end Go.Am
end
section
open List renaming map_map→ζ,mapM_map→ξ
namespace Go.Am
variable {P:Program} [Mc:Mch P]
theorem nv_makeFunc (f:FuncId) (cs:List Operand) (Γ:Nat→AV) (n:Nat):nev P (.makeFunc (.func f) #[] cs.toArray) Γ n=some (.fn f (cs.map (oev Γ)),none):=by
  simp [nev,pureA]
theorem nv_index (t : TypeId) (x : Tmp) (i : Operand) (Γ : Nat → AV) (n : Nat) : nev P (.index t (.tmp x) i) Γ n = pureA ((tarr P t).bind fun p => (tsz P p.2).bind fun sz => (tagg P p.2).bind fun ag => (intOfA (oev Γ i)).bind fun k => (agOf (oev Γ (.tmp x))).bind fun cs =>
      if 0≤k∧k<p.1 then (if ag then (if k.toNat * sz+sz≤cs.length then some (.ag ((cs.drop (k.toNat * sz)).take sz)) else none) else cs[k.toNat * sz]?) else none):=rfl
theorem inj_fn (f:FuncId) (cs:List D):inj (.fn f cs)=.d (.fn f cs):=rfl
theorem inj1_fn (f:FuncId) (cs:List D):inj1 (.fn f cs)=.d (.fn f cs):=rfl
theorem inj1_pt (cs:List D):inj1 (.pt cs)=.fp cs:=rfl
theorem inj1_lit (v:Value):inj1 (.lit v)=.d (.lit v):=rfl
theorem kills_fn (H:Hp) (avs:List AV) (f:FuncId) (cs:List D):killsOf H avs (.fn f cs)=viss H avs:=rfl
theorem kills_pt (H:Hp) (avs:List AV) (cs:List D):killsOf H avs (.pt cs)=viss H avs:=rfl
theorem calleeA_fn (f:FuncId) (cs:List AV):calleeA (.fn f cs)=some (f,cs):=rfl
theorem calleeA_dfn (f:FuncId) (cs:List D):calleeA (.d (.fn f cs))=some (f,cs.map inj1):=rfl
theorem calleeA_lit (f:FuncId):calleeA (.d (.lit (.func (.func f) #[] #[])))=some (f,[]):=rfl
theorem frz_fnA (H:Hp) (n:Nat) (f:FuncId) (cs:List AV):frz H (n+1) (.fn f cs)=(cs.mapM (frz H n)).map (.fn f):=rfl
theorem frz_fpA (H:Hp) (n:Nat) (cs:List D):frz H (n+1) (.fp cs)=some (.pt cs):=rfl
theorem frz_ptrA (H : Hp) (n : Nat) (id off : Nat) : frz H (n + 1) (.ptr id off) = match H id with
      | some (.cells _ cs)=>if off≤cs.length then ((cs.drop off).mapM (frz H n)).map .pt else none
      | _=>none:=rfl
theorem vis_fnA (H:Hp) (n:Nat) (f:FuncId) (cs:List AV):vis H (n+1) (.fn f cs)=cs.flatMap (vis H n):=rfl
theorem vis_fpA (H:Hp) (n:Nat) (cs:List D):vis H (n+1) (.fp cs)=[]:=rfl
theorem vis_ptrA (H : Hp) (n : Nat) (id off : Nat) : vis H (n + 1) (.ptr id off) = match H id with
      | some (.cells _ cs)=>id::(cs.drop off).flatMap (vis H n)
      | _=>[]:=rfl
theorem cellsA_fn (f:FuncId) (cs:List AV):cellsA (.fn f cs)=some [.fn f cs]:=rfl
theorem cellsA_dfn (f:FuncId) (cs:List D):cellsA (.d (.fn f cs))=some [.d (.fn f cs)]:=rfl
theorem scrub_fn (l:List Nat) (f:FuncId) (cs:List AV):scrub l (.fn f cs)=.fn f (cs.map (scrubP l)):=rfl
section
variable (dst:Option Tmp) (ty:TypeId) (pos:String) (after:Array Edge) (guard:Option (Nat × Bool)) (σ:St) (con:List Nat) (k:St→List Nat→Prop)
theorem o1_makeFunc (f:Fn) (x y:Array Operand) (d:Dm ((⟨dst,.makeFunc f x y,ty,pos,after,guard⟩:Oper),k)):O1d P ⟨dst,.makeFunc f x y,ty,pos,after,guard⟩ σ con k d=BindP (nev P (.makeFunc f x y) σ.Γ σ.n) (fun p=>k ⟨putA σ.Γ dst p.1,addB σ.H σ.n p.2,cnt p.2 σ.n⟩ con) .mk:=o1_of_nev rfl rfl
theorem o1_index (t:TypeId) (x y:Operand) (d:Dm ((⟨dst,.index t x y,ty,pos,after,guard⟩:Oper),k)):O1d P ⟨dst,.index t x y,ty,pos,after,guard⟩ σ con k d=BindP (nev P (.index t x y) σ.Γ σ.n) (fun p=>k ⟨putA σ.Γ dst p.1,addB σ.H σ.n p.2,cnt p.2 σ.n⟩ con) .mk:=o1_of_nev rfl rfl
def CallV (P:Program) [Mc:Mch P] (c:Option (FuncId × List AV)) (avs:List AV) (H:Hp) (k:List AV→D→Prop) (_:Dm k):Prop:=match c with
  | some (f,cs)=>∃ ds r,frzs H (avs++cs)=some ds∧Spec P f ds r∧k (avs++cs) r
  | none=>False
def CallM (P:Program) [Mc:Mch P] (x:AV) (avs:List AV) (H:Hp) (k:List AV→D→Prop) (_:Dm k):Prop:=match x with
  | .d (.fm f d)=>∃ ds r,frzs H (.d d::avs)=some ds∧Spec P f ds r∧k (.d d::avs) r
  | _=>False
def CallX (P:Program) [Mc:Mch P] (c:Option (FuncId × List AV)) (x:AV) (avs:List AV) (H:Hp) (k:List AV→D→Prop) (_:Dm k):Prop:=match c with
  | some p=>CallV P (some p) avs H k .mk
  | none=>CallM P x avs H k .mk
theorem callX_some (p:FuncId × List AV) (x:AV) (avs:List AV) (H:Hp) (k:List AV→D→Prop) (d:Dm k):CallX P (some p) x avs H k d=CallV P (some p) avs H k .mk:=rfl
theorem o1_callV (t:Tmp) (args:List Operand) (ts:Array TypeId) (d:Dm ((⟨dst,.call ⟨.value (.tmp t),args.toArray,ts⟩,ty,pos,after,guard⟩:Oper),k)):O1d P ⟨dst,.call ⟨.value (.tmp t),args.toArray,ts⟩,ty,pos,after,guard⟩ σ con k d =
    CallX P (calleeA (σ.Γ t)) (σ.Γ t) (args.map (oev σ.Γ)) σ.H (fun avs r=>k ⟨putA σ.Γ dst (inj r),kill (killsOf σ.H avs r) σ.H,σ.n⟩ (killsOf σ.H avs r++con)) .mk:=by
  unfold O1d; simp only [O1,CallX,CallM]
  cases calleeA (σ.Γ t) with
  | none=>rfl
  | some p=>obtain ⟨f,cs⟩:=p; rfl
end
attribute [simp] callX_some nv_makeFunc nv_index inj_fn inj1_fn inj1_pt inj1_lit calleeA_fn calleeA_dfn calleeA_lit frz_fnA frz_fpA frz_ptrA vis_fnA vis_fpA vis_ptrA cellsA_fn cellsA_dfn scrub_fn kills_fn kills_pt
end Go.Am
end
section
open List renaming map_map→ζ,mapM_map→ξ
open Go Go.Am Go.Proofs
namespace Go.Am
theorem strip_take_last {raw:List Nat} {n:Nat} (hn:n<raw.length) (h0:raw[n]≠0):strip (raw.take (n+1))=raw.take (n+1):=by
  refine strip_canon ?_
  rw [List.take_add_one,List.getElem?_eq_getElem hn,Canon,Option.toList_some,List.getLast?_append]
  simp [h0]
theorem strip_take_zero {raw:List Nat} {n:Nat} (hn:n<raw.length) (h0:raw[n]=0):strip (raw.take (n+1))=strip (raw.take n):=by
  rw [List.take_add_one,List.getElem?_eq_getElem hn,h0]
  exact strip_app_zero _
set_option maxRecDepth 10000 in
theorem r01Made [M:Mch Tryz.prog] (raw:List Nat) (neg:Bool) (hl:raw.length≤1099511627776):Spec Tryz.prog 18 [encM raw,.b neg] (encI (neg && decide (strip raw≠[])) (strip raw)):=by
  refine specQ (N:=31) Tryz.func18 ?_
  simp [-ζ,-ξ,↓KW,encM]
  refine loopP_intro (τ:={ n:Nat // n≤raw.length∧strip (raw.take n)=strip raw }) (S:=fun n=>StL [(0,.d (encM raw)),(1,.d (.b neg)),(4,.ptr 1 0),(5,.d (.i .i64 n.1))] none [.cells 31 [.d (.b false),.nil]]) (m:=fun n=>n.1) ⟨raw.length,Nat.le_refl _,by simp⟩ ?_ ?_
  · refine wkQ [1] ?_ ?_
    · simp [-ζ,upd,inj1,Γ0,encM]
    · simp [-ζ,upd,inj1,Γ0]
  · rintro ⟨n,hn,hs⟩
    rcases n with _ | n
    · have hs':strip raw=[]:=hs.symm
      cases neg <;> simp [-ζ,-ξ,↓KW,encM,encI,hs',chunk]
    · have hx:raw[n]? = some raw[n]:=List.getElem?_eq_getElem hn
      have hw:IntKind.i64.wrap (n:Int)=n:=wrapQ
      have hp:(0:Int)<(n:Int)+1:=by omega
      by_cases h0:raw[n]=0
      · simp [-ζ,-ξ,↓KW,encM,hx,hw,h0,hp]
        refine ⟨n,by omega,⟨by omega,(strip_take_zero hn h0).symm.trans hs⟩,.inr (wkQ [1] ?_ ?_)⟩ <;> simp [-ζ,upd,inj1,Γ0,encM]
      · have h1:((raw[n]:Int) == 0)=false:=by simp; omega
        have he:strip raw=raw.take (n+1):=hs.symm.trans (strip_take_last hn h0)
        have hp2:(0:Int)≤(n:Int)+1:=by omega
        have hn':(n:Int)+1≤raw.length:=by omega
        obtain ⟨pre,hpre⟩:∃ pre,raw.take (n+1)=pre:=⟨_,rfl⟩
        have hpl:pre.length=n+1:=by rw [← hpre]; simp; omega
        have hp1:∀ f:Nat→List D,(raw.map f).take (n+1)=pre.map f:=fun f=>by rw [← hpre,List.map_take]
        have hpn:pre≠[]:=fun e=>by rw [e] at hpl; cases hpl
        rw [hpre] at he
        have hb:(n+1) * 4≤140737488355328:=by omega
        have hb2:n+1≤maxLen:=by unfold maxLen; omega
        cases neg <;> simp [-ζ,-ξ,↓KW,encM,encI,hx,hw,h1,hp,hp2,he,hn',hp1,hpl,hpn,chunk_lms hpl,lms_take_all hpl,lms_flat,lms_all,lms_len,hb,hb2]
theorem made_encZ {raw:List Nat} (h:Lim raw) (neg:Bool):encI (neg && decide (strip raw≠[])) (strip raw)=encZ (sg neg (val raw)):=by
  rw [strip_digs h,← encI_sg]
  simp [digs_eq_nil]
set_option maxRecDepth 10000 in
theorem r01Of [M:Mch Tryz.prog] (n:Int) (h1:-9223372036854775808≤n) (h2:n<9223372036854775808):Spec Tryz.prog 11 [.i .i64 n] (encZ n):=by
  refine specQ (N:=19) Tryz.func11 ?_
  have key:∀ (u:Nat),u<18446744073709551616→∃ lo hi:Nat,Lim [lo,hi]∧val [lo,hi]=u∧IntKind.u32.wrap (u:Int)=lo∧shiftA .shr .u64 (u:Int) 32=some (.i .u64 hi)∧IntKind.u32.wrap (hi:Int)=hi:=fun u hu=>by
    refine ⟨u % 4294967296,u / 4294967296,.cons (by omega) (.one (by omega)),by simp only [val]; omega,by rw [wrap_u32m]; omega,?_,by rw [wrap_u32 (by omega) (by omega)]⟩
    simp only [shiftA,IntKind.bits]
    rw [if_neg (by decide)]
    congr 2
    rw [show (2:Int) ^ (min (32:Int).toNat 64)=4294967296 from by decide,Int.fdiv_eq_ediv_of_nonneg _ (by decide)]
    omega
  by_cases hn:n<0
  · obtain ⟨u,hu⟩:∃ u:Nat,n=-(u:Int):=⟨n.natAbs,by omega⟩
    have hu2:u<18446744073709551616:=by omega
    have e1:IntKind.u64.wrap n=n+18446744073709551616:=by rw [wrap_u64m]; omega
    have e2:IntKind.u64.wrap (-(n+18446744073709551616))=(u:Int):=by rw [wrap_u64m]; omega
    obtain ⟨lo,hi,k1,k2,e3,e4,e5⟩:=key u hu2
    simp [-ζ,-ξ,↓KW,hn,e1,e2,e3,e4,e5]
    have hm:=r01Made [lo,hi] true (by simp)
    rw [made_encZ k1,k2,show sg true u=n by simp [sg]; omega] at hm
    refine callP_intro (ds:=[encM [lo,hi],.b true]) ?_ hm ?_
    · simp [-ζ,-ξ,↓KW,encM]
    · simp [-ζ,-ξ,↓KW,encM,encZ,encI]
  · obtain ⟨u,rfl⟩:∃ u:Nat,n=(u:Int):=⟨n.natAbs,by omega⟩
    have hu2:u<18446744073709551616:=by omega
    have e1:IntKind.u64.wrap (u:Int)=u:=wrap_u64 (by omega) (by omega)
    obtain ⟨lo,hi,k1,k2,e3,e4,e5⟩:=key u hu2
    simp [-ζ,-ξ,↓KW,hn,e1,e3,e4,e5]
    have hm:=r01Made [lo,hi] false (by simp)
    rw [made_encZ k1,k2,show sg false u=u by simp [sg]] at hm
    refine callP_intro (ds:=[encM [lo,hi],.b false]) ?_ hm ?_
    · simp [-ζ,-ξ,↓KW,encM]
    · simp [-ζ,-ξ,↓KW,encM,encZ,encI]
set_option maxRecDepth 10000 in
theorem r01Sign [M:Mch Tryz.prog] (neg:Bool) (m:List Nat):Spec Tryz.prog 64 [encI neg m] (.i .i64 (if m=[] then 0 else if neg then -1 else 1)):=by
  refine specQ (N:=9) Tryz.func64 ?_
  cases m with
  | nil=>simp [-ζ,-ξ,↓KW,encI,encM]
  | cons x m =>
    have h1:(((m.length:Int)+1 == 0):Bool)=false:=by simp; omega
    cases neg <;> simp [-ζ,-ξ,↓KW,encI,encM,h1]
theorem r01SignZ [M:Mch Tryz.prog] (z:Int):Spec Tryz.prog 64 [encZ z] (.i .i64 z.sign):=by
  have:=r01Sign (decide (z<0)) (digs z.natAbs)
  have e:(if digs z.natAbs=[] then (0:Int) else if (decide (z<0))=true then -1 else 1)=z.sign:=by
    simp only [digs_eq_nil]
    rcases Int.lt_trichotomy z 0 with h | h | h
    · rw [if_neg (by omega),if_pos (by simpa using h),Int.sign_eq_neg_one_of_neg h]
    · subst h; rfl
    · rw [if_neg (by omega),if_neg (by simp; omega),Int.sign_eq_one_of_pos h]
  rwa [e] at this
def lessL (a b:List Nat):Bool:=if a.length=b.length then decide (val a<val b) else decide (a.length<b.length)
theorem lessL_digs (x y:Nat):lessL (digs x) (digs y)=decide (x<y):=by
  unfold lessL
  by_cases h:(digs x).length=(digs y).length
  · rw [if_pos h,val_digs,val_digs]
  · rw [if_neg h]
    by_cases h1:(digs x).length<(digs y).length
    · simp [h1,lt_of_len_lt h1]
    · have:=lt_of_len_lt (a:=y) (b:=x) (by omega)
      simp only [h1,decide_false]
      simp; omega
set_option maxRecDepth 10000 in
theorem r01less [M:Mch Tryz.prog] (a b:List Nat) (ha:Lim a) (hb:Lim b) (hla:a.length≤1099511627776) (hlb:b.length≤1099511627776):Spec Tryz.prog 62 [encM a,encM b] (.b (lessL a b)):=by
  refine specQ (N:=41) Tryz.func62 ?_
  by_cases hn:a.length=b.length
  rotate_left
  · have h1:(((a.length:Int) != b.length):Bool)=true:=by simp; omega
    simp [-ζ,-ξ,↓KW,encM,h1,lessL,hn]
  · have h1:(((a.length:Int) != b.length):Bool)=false:=by simp; omega
    have hw:IntKind.i64.wrap ((a.length:Int) - 1)=(a.length:Int) - 1:=wrapQ
    simp [-ζ,-ξ,↓KW,encM,h1,hw]
    refine loopP_intro (τ:={ k:Nat // k≤a.length∧a.drop k=b.drop k }) (S:=fun k=>StL [(0,.d (encM a)),(1,.d (encM b)),(5,.d (.i .i64 ((k.1:Int) - 1)))] none []) (m:=fun k=>k.1) ⟨a.length,Nat.le_refl _,by rw [List.drop_eq_nil_of_le (Nat.le_refl _),List.drop_eq_nil_of_le (by omega)]⟩ ?_ ?_
    · refine wkQ [] ?_ ?_ <;> simp [-ζ,upd,inj1,Γ0,encM]
    · rintro ⟨k,hk,hd⟩
      rcases k with _ | k
      · have e:a=b:=by simpa using hd
        subst e
        simp [-ζ,-ξ,↓KW,encM,lessL]
      · have hkb:k<b.length:=by omega
        have hxa:a[k]? = some a[k]:=List.getElem?_eq_getElem hk
        have hxb:b[k]? = some b[k]:=List.getElem?_eq_getElem hkb
        have hw2:IntKind.i64.wrap ((k:Int) - 1)=(k:Int) - 1:=wrapQ
        have hp:(0:Int)≤k:=by omega
        by_cases he:a[k]=b[k]
        · have h2:(((a[k]:Int) != (b[k]:Int)):Bool)=false:=by simp [he]
          simp [-ζ,-ξ,↓KW,encM,hxa,hxb,hw2,hp,h2]
          refine ⟨k,by omega,⟨by omega,?_⟩,.inr (wkQ [] ?_ ?_)⟩
          · rw [List.drop_eq_getElem_cons hk,List.drop_eq_getElem_cons hkb,he,hd]
          · simp [-ζ,upd,inj1,Γ0,encM]
          · trivial
        · have h2:(((a[k]:Int) != (b[k]:Int)):Bool)=true:=by simp; omega
          simp [-ζ,-ξ,↓KW,encM,hxa,hxb,hw2,hp,h2,lessL,hn]
          have ga:a.getD k 0=a[k]:=by rw [List.getD_eq_getElem?_getD,hxa]; rfl
          have gb:b.getD k 0=b[k]:=by rw [List.getD_eq_getElem?_getD,hxb]; rfl
          rcases Nat.lt_or_ge a[k] b[k] with hlt | hge
          · have:=val_lt_of ha (i:=k) hn hk hd (by rw [ga,gb]; exact hlt)
            simp [hlt,this]
          · have:=val_lt_of hb (i:=k) hn.symm hkb hd.symm (by rw [ga,gb]; omega)
            omega
def plS (a b:List Nat):Nat→List Nat × Nat
  | 0=>([],0)
  | i+1=>((plS a b i).1++[((plS a b i).2+a.getD i 0+b.getD i 0) % 4294967296],((plS a b i).2+a.getD i 0+b.getD i 0) / 4294967296)
theorem plS_inv {a b:List Nat} (ha:Lim a) (hb:Lim b):∀ i,(plS a b i).1.length=i∧(plS a b i).2≤1∧Lim (plS a b i).1∧val (plS a b i).1+4294967296 ^ i * (plS a b i).2=val (a.take i)+val (b.take i)
  | 0=>⟨rfl,Nat.zero_le _,.nil,by simp [plS,val]⟩
  | i+1=>by
    obtain ⟨h1,h2,h3,h4⟩:=plS_inv ha hb i
    have ha':=ha.getD i
    have hb':=hb.getD i
    simp only [plS]
    generalize (plS a b i).1=out at *
    generalize (plS a b i).2=c at *
    refine ⟨by simp [h1],by omega,h3.app (.one (by omega)),?_⟩
    rw [val_app,val_take_succ,val_take_succ,h1,Nat.pow_succ]
    simp only [val]
    have h5:4294967296 ^ i * ((c+a.getD i 0+b.getD i 0) % 4294967296)+4294967296 ^ i * 4294967296 * ((c+a.getD i 0+b.getD i 0) / 4294967296)=4294967296 ^ i * c+4294967296 ^ i * a.getD i 0+4294967296 ^ i * b.getD i 0:=by
      rw [Nat.mul_assoc,← Nat.mul_add,Nat.mod_add_div,Nat.mul_add,Nat.mul_add]
    simp only [Nat.mul_zero,Nat.add_zero]
    omega
def plN (a b:List Nat):Nat:=if (plS a b (max a.length b.length)).2=0 then max a.length b.length else max a.length b.length+1
def plusR (a b:List Nat):List Nat:=(plS a b (plN a b)).1
theorem getD_none {l:List Nat} {i:Nat} (h:¬ i<l.length):l.getD i 0=0:=by rw [List.getD_eq_getElem?_getD,List.getElem?_eq_none (by omega)]; rfl
theorem plS_carry {a b:List Nat} (ha:Lim a) (hb:Lim b) {i:Nat} (h1:a.length≤i) (h2:b.length≤i):(plS a b (i+1)).2=0:=by
  have h:=(plS_inv ha hb i).2.1
  show ((plS a b i).2+a.getD i 0+b.getD i 0) / 4294967296=0
  rw [getD_none (l:=a) (by omega),getD_none (l:=b) (by omega)]
  omega
theorem plS_done {a b:List Nat} (ha:Lim a) (hb:Lim b) {i:Nat} (h1:a.length≤i) (h2:b.length≤i) (hc:(plS a b i).2=0):val (plS a b i).1=val a+val b:=by
  have h:=(plS_inv ha hb i).2.2.2
  rw [List.take_of_length_le h1,List.take_of_length_le h2,hc,Nat.mul_zero,Nat.add_zero] at h
  exact h
theorem plusR_val {a b:List Nat} (ha:Lim a) (hb:Lim b):val (plusR a b)=val a+val b∧Lim (plusR a b)∧(plusR a b).length≤max a.length b.length+1:=by
  unfold plusR plN
  have h1:a.length≤max a.length b.length:=by omega
  have h2:b.length≤max a.length b.length:=by omega
  generalize max a.length b.length=M at *
  by_cases hc:(plS a b M).2=0
  · rw [if_pos hc]
    have h:=plS_inv ha hb M
    exact ⟨plS_done ha hb h1 h2 hc,h.2.2.1,by rw [h.1]; omega⟩
  · rw [if_neg hc]
    have h:=plS_inv ha hb (M+1)
    exact ⟨plS_done ha hb (by omega) (by omega) (plS_carry ha hb h1 h2),h.2.2.1,by rw [h.1]; exact Nat.le_refl _⟩
theorem getD_some {l:List Nat} {i:Nat} (h:i<l.length):l[i]? = some (l.getD i 0):=by rw [List.getD_eq_getElem?_getD,List.getElem?_eq_getElem h]; rfl
set_option maxRecDepth 10000 in
theorem r01plus [M:Mch Tryz.prog] (a b:List Nat) (ha:Lim a) (hb:Lim b) (hla:a.length≤1099511627776) (hlb:b.length≤1099511627776):Spec Tryz.prog 61 [encM a,encM b] (encM (plusR a b)):=by
  refine specQ (N:=55) Tryz.func61 ?_
  simp [-ζ,-ξ,↓KW,encM]
  refine loopP_inv (fun i:Nat=>i≤max a.length b.length∨(i=max a.length b.length+1∧(plS a b (max a.length b.length)).2≠0))
    (fun i=>StL [(0,.d (encM a)),(1,.d (encM b)),(5,.own 1 0 i 1),(6,.d (.i .u64 (plS a b i).2)),(7,.d (.i .i64 i))] none [.cells 89 ((lms (plS a b i).1).map .d)]) (fun i=>max a.length b.length+1 - i) 0 (.inl (Nat.zero_le _)) ?_ ?_
  · refine wkQ [1] ?_ ?_ <;> simp [-ζ,upd,inj1,Γ0,encM,plS,lms]
  · intro i hi
    obtain ⟨hlen,hc,_,_⟩:=plS_inv ha hb i
    have hsucc:plS a b (i+1)=((plS a b i).1++[((plS a b i).2+a.getD i 0+b.getD i 0) % 4294967296],((plS a b i).2+a.getD i 0+b.getD i 0) / 4294967296):=rfl
    have hstop:(i<a.length∨i<b.length∨0<(plS a b i).2)∨i=plN a b:=by
      unfold plN
      rcases hi with hi | ⟨hi,hc⟩
      · by_cases h1:i=max a.length b.length
        · subst h1
          by_cases h2:(plS a b (max a.length b.length)).2=0
          · rw [if_pos h2]; exact .inr rfl
          · exact .inl (.inr (.inr (by omega)))
        · exact .inl (by omega)
      · rw [if_neg hc]; exact .inr hi
    have hnext:(i<a.length∨i<b.length∨0<(plS a b i).2)→i≤max a.length b.length∧(i+1≤max a.length b.length∨(i+1=max a.length b.length+1∧(plS a b (max a.length b.length)).2≠0)):=by
      intro h
      rcases hi with hi | ⟨hi,hc2⟩
      · refine ⟨hi,?_⟩
        by_cases h1:i=max a.length b.length
        · subst h1; exact .inr ⟨rfl,by omega⟩
        · exact .inl (by omega)
      · exfalso
        have e:(plS a b i).2=0:=by
          rw [hi]; exact plS_carry ha hb (by omega) (by omega)
        omega
    have hal:=ha.getD i
    have hbl:=hb.getD i
    have hres:i=plN a b→(plS a b i).1=plusR a b:=fun e=>by rw [e]; rfl
    generalize hout:(plS a b i).1=out at *
    generalize hcar:(plS a b i).2=c at *
    by_cases hgo:i<a.length∨i<b.length∨0<c
    · obtain ⟨hi1,hi2⟩:=hnext hgo
      have hb1:(i+1) * 4≤140737488355328:=by omega
      have hb2:i+1≤maxLen:=by unfold maxLen; omega
      have hw7:IntKind.i64.wrap ((i:Int)+1)=(i:Int)+1:=wrapQ
      have hpos:(0:Int)≤i:=by omega
      obtain ⟨s1,hs1⟩:∃ s1:Nat,c+a.getD i 0=s1:=⟨_,rfl⟩
      obtain ⟨s2,hs2⟩:∃ s2:Nat,s1+b.getD i 0=s2:=⟨_,rfl⟩
      rw [hs1,hs2] at hsucc
      have hw1:IntKind.u64.wrap ((c:Int)+((a.getD i 0:Nat):Int))=s1:=by rw [wrap_u64 (by omega) (by omega)]; omega
      have hw2:IntKind.u64.wrap ((s1:Int)+((b.getD i 0:Nat):Int))=s2:=by rw [wrap_u64 (by omega) (by omega)]; omega
      have hwa:IntKind.u64.wrap ((a.getD i 0:Nat):Int)=((a.getD i 0:Nat):Int):=wrap_u64 (by omega) (by omega)
      have hwb:IntKind.u64.wrap ((b.getD i 0:Nat):Int)=((b.getD i 0:Nat):Int):=wrap_u64 (by omega) (by omega)
      obtain ⟨lo,hlo⟩:∃ lo:Nat,s2 % 4294967296=lo:=⟨_,rfl⟩
      obtain ⟨hi',hhi⟩:∃ hi':Nat,s2 / 4294967296=hi':=⟨_,rfl⟩
      have hw3:IntKind.u32.wrap (s2:Int)=lo:=by rw [wrap_u32m]; omega
      have hw4:IntKind.u64.wrap ((s2:Int).tdiv 4294967296)=hi':=by
        rw [Int.tdiv_eq_ediv_of_nonneg (by omega),wrap_u64 (by omega) (by omega)]; omega
      have hw4':IntKind.u64.wrap ((s2:Int) / 4294967296)=hi':=by rw [wrap_u64 (by omega) (by omega)]; omega
      rw [hlo,hhi] at hsucc
      have hcase:(a.getD i 0=0∧¬ i<a.length)∨i<a.length:=by
        by_cases h:i<a.length
        · exact .inr h
        · exact .inl ⟨getD_none h,h⟩
      have hcase2:(b.getD i 0=0∧¬ i<b.length)∨i<b.length:=by
        by_cases h:i<b.length
        · exact .inr h
        · exact .inl ⟨getD_none h,h⟩
      rcases hcase with ⟨ha0,han⟩ | han <;> rcases hcase2 with ⟨hb0,hbn⟩ | hbn
      · have q1:¬ (i:Int)<a.length:=by omega
        have q2:¬ (i:Int)<b.length:=by omega
        have q3:0<c:=by omega
        rw [ha0] at hs1; rw [hb0] at hs2
        have e2:s2=c:=by omega
        rw [e2] at hw3 hw4 hw4'
        simp [-ζ,-ξ,↓KW,encM,q1,q2,q3,hw3,hw4,hw7,hb1,hb2,hlen]
        refine nxt_intro (i+1) hi2 ?_ (wkQ [3] ?_ ?_)
        · omega
        · simp [-ζ,upd,inj1,Γ0,encM,hsucc,lms_app,lms_one,hw4']
        · simp [-ζ,upd,inj1,Γ0,encM,hsucc,lms_app,lms_one]
      · have q1:¬ (i:Int)<a.length:=by omega
        have q2:(i:Int)<b.length:=by omega
        rw [ha0] at hs1
        have e1:s1=c:=by omega
        have g2:=getD_some hbn
        rw [e1] at hw2
        generalize b.getD i 0=y at *
        simp [-ζ,-ξ,↓KW,encM,q1,q2,g2,hwb,hw2,hw3,hw4,hw7,hb1,hb2,hlen]
        refine nxt_intro (i+1) hi2 ?_ (wkQ [3] ?_ ?_)
        · omega
        · simp [-ζ,upd,inj1,Γ0,encM,hsucc,lms_app,lms_one,hw4']
        · simp [-ζ,upd,inj1,Γ0,encM,hsucc,lms_app,lms_one]
      · have q1:(i:Int)<a.length:=by omega
        have q2:¬ (i:Int)<b.length:=by omega
        rw [hb0] at hs2
        have e2:s2=s1:=by omega
        have g1:=getD_some han
        rw [e2] at hw3 hw4 hw4'
        generalize a.getD i 0=x at *
        simp [-ζ,-ξ,↓KW,encM,q1,q2,g1,hwa,hw1,hw3,hw4,hw7,hb1,hb2,hlen]
        refine nxt_intro (i+1) hi2 ?_ (wkQ [3] ?_ ?_)
        · omega
        · simp [-ζ,upd,inj1,Γ0,encM,hsucc,lms_app,lms_one,hw4']
        · simp [-ζ,upd,inj1,Γ0,encM,hsucc,lms_app,lms_one]
      · have q1:(i:Int)<a.length:=by omega
        have q2:(i:Int)<b.length:=by omega
        have g1:=getD_some han
        have g2:=getD_some hbn
        generalize a.getD i 0=x at *
        generalize b.getD i 0=y at *
        simp [-ζ,-ξ,↓KW,encM,q1,q2,g1,g2,hwa,hwb,hw1,hw2,hw3,hw4,hw7,hb1,hb2,hlen]
        refine nxt_intro (i+1) hi2 ?_ (wkQ [3] ?_ ?_)
        · omega
        · simp [-ζ,upd,inj1,Γ0,encM,hsucc,lms_app,lms_one,hw4']
        · simp [-ζ,upd,inj1,Γ0,encM,hsucc,lms_app,lms_one]
    · have e:=hstop.resolve_left hgo
      have h1:¬ (i:Int)<a.length:=by omega
      have h2:¬ (i:Int)<b.length:=by omega
      have h3:c=0:=by omega
      have h4:=hres e
      subst h3
      simp [-ζ,-ξ,↓KW,encM,h1,h2,hlen,chunk_lms hlen,lms_take_all hlen,← h4]
def miS (a b:List Nat):Nat→List Nat × Nat
  | 0=>([],0)
  | i+1=>if (miS a b i).2+b.getD i 0≤a.getD i 0 then ((miS a b i).1++[a.getD i 0 - ((miS a b i).2+b.getD i 0)],0) else ((miS a b i).1++[a.getD i 0+4294967296 - ((miS a b i).2+b.getD i 0)],1)
theorem mi_arith1 {p o vb va x y c z:Nat} (h4:o+vb=va+p * c) (hx:x=z+(c+y)):o+p * z+(vb+p * y)=va+p * x:=by
  subst hx; rw [Nat.mul_add,Nat.mul_add]; omega
theorem mi_arith2 {p o vb va x y c z k:Nat} (h4:o+vb=va+p * c) (hx:x+k=z+(c+y)):o+p * z+(vb+p * y)=va+p * x+p * k:=by
  have:=mi_arith1 (p:=p) (x:=x+k) h4 hx
  rw [Nat.mul_add] at this; omega
theorem miS_pos {p va vb i:Nat} {out:List Nat} {c x y z:Nat} (hz:x=z+(c+y)) (hl:z<4294967296) (h1:out.length=i) (hp:4294967296 ^ i=p) (h3:Lim out) (h4:val out+vb=va+p * c) :
    (out++[z]).length=i+1∧Lim (out++[z])∧val (out++[z])+(vb+p * y)=va+p * x:=by
  refine ⟨by simp [h1],h3.app (.one hl),?_⟩
  simp only [val_app,val,Nat.mul_zero,Nat.add_zero,h1,hp]
  exact mi_arith1 h4 hz
theorem miS_neg {p va vb i:Nat} {out:List Nat} {c x y z k:Nat} (hz:x+k=z+(c+y)) (hl:z<4294967296) (h1:out.length=i) (hp:4294967296 ^ i=p) (h3:Lim out) (h4:val out+vb=va+p * c) :
    (out++[z]).length=i+1∧Lim (out++[z])∧val (out++[z])+(vb+p * y)=va+p * x+p * k:=by
  refine ⟨by simp [h1],h3.app (.one hl),?_⟩
  simp only [val_app,val,Nat.mul_zero,Nat.add_zero,h1,hp]
  exact mi_arith2 h4 hz
theorem miS_succ (a b:List Nat) (i:Nat):miS a b (i+1)=if (miS a b i).2+b.getD i 0≤a.getD i 0 then ((miS a b i).1++[a.getD i 0 - ((miS a b i).2+b.getD i 0)],0) else ((miS a b i).1++[a.getD i 0+4294967296 - ((miS a b i).2+b.getD i 0)],1):=rfl
theorem aux_mul0 {a b:Nat} (q:Nat) (h:a=b):a=b+q * 0:=by rw [Nat.mul_zero,Nat.add_zero]; exact h
theorem aux_mul1 {a b:Nat} (q:Nat) (h:a=b+q):a=b+q * 1:=by rw [Nat.mul_one]; exact h
theorem miS_inv {a b:List Nat} (ha:Lim a) (hb:Lim b) (i:Nat):(miS a b i).1.length=i∧(miS a b i).2≤1∧Lim (miS a b i).1∧val (miS a b i).1+val (b.take i)=val (a.take i)+4294967296 ^ i * (miS a b i).2:=by
  induction i with
  | zero=>exact ⟨rfl,Nat.zero_le _,.nil,by simp [miS,val]⟩
  | succ i ih =>
    obtain ⟨h1,h2,h3,h4⟩:=ih
    have hx:=ha.getD i
    have hy:=hb.getD i
    rw [val_take_succ,val_take_succ,Nat.pow_succ,miS_succ]
    generalize (miS a b i).1=out at *
    generalize (miS a b i).2=c at *
    generalize a.getD i 0=x at *
    generalize b.getD i 0=y at *
    generalize hp:4294967296 ^ i=p at *
    by_cases h:c+y≤x
    · rw [if_pos h]
      obtain ⟨z,hz,hz'⟩:∃ z,x - (c+y)=z∧x=z+(c+y):=⟨_,rfl,(Nat.sub_add_cancel h).symm⟩
      rw [hz]; clear hz
      obtain ⟨q1,q2,q3⟩:=miS_pos hz' (by omega) h1 hp h3 h4
      exact ⟨q1,Nat.zero_le _,q2,aux_mul0 _ q3⟩
    · rw [if_neg h]
      obtain ⟨z,hz,hz'⟩:∃ z,x+4294967296 - (c+y)=z∧x+4294967296=z+(c+y):=⟨_,rfl,(Nat.sub_add_cancel (by omega)).symm⟩
      rw [hz]; clear hz
      obtain ⟨q1,q2,q3⟩:=miS_neg hz' (by omega) h1 hp h3 h4
      exact ⟨q1,Nat.le_refl _,q2,aux_mul1 _ q3⟩
def minusR (a b:List Nat):List Nat:=(miS a b a.length).1
theorem minusR_val {a b:List Nat} (ha:Lim a) (hb:Lim b) (hl:b.length≤a.length) (hv:val b≤val a):val (minusR a b)=val a - val b∧Lim (minusR a b)∧(minusR a b).length=a.length:=by
  obtain ⟨h1,h2,h3,h4⟩:=miS_inv ha hb a.length
  rw [List.take_of_length_le hl,List.take_of_length_le (Nat.le_refl _)] at h4
  refine ⟨?_,h3,h1⟩
  have hlt:=val_lt h3
  rw [h1] at hlt
  unfold minusR
  generalize (miS a b a.length).1=out at *
  generalize (miS a b a.length).2=c at *
  rcases Nat.lt_or_ge 0 c with hc | hc
  · have:c=1:=by omega
    rw [this,Nat.mul_one] at h4; omega
  · have:c=0:=by omega
    rw [this,Nat.mul_zero] at h4; omega
set_option maxRecDepth 10000 in
theorem r01minus [M:Mch Tryz.prog] (a b:List Nat) (ha:Lim a) (hb:Lim b) (hla:a.length≤1099511627776) (_hlb:b.length≤1099511627776):Spec Tryz.prog 63 [encM a,encM b] (encM (minusR a b)):=by
  refine specQ (N:=44) Tryz.func63 ?_
  simp [-ζ,-ξ,↓KW,encM]
  refine loopP_inv (fun i:Nat=>i≤a.length)
    (fun i=>StL [(0,.d (encM a)),(1,.d (encM b)),(5,.own 1 0 i 1),(6,.d (.i .i64 (miS a b i).2)),(7,.d (.i .i64 i))] none [.cells 89 ((lms (miS a b i).1).map .d)]) (fun i=>a.length - i) 0 (Nat.zero_le _) ?_ ?_
  · refine wkQ [1] ?_ ?_ <;> simp [-ζ,upd,inj1,Γ0,encM,miS,lms]
  · intro i hi
    obtain ⟨hlen,hc,_,_⟩:=miS_inv ha hb i
    have hsucc:miS a b (i+1)=if (miS a b i).2+b.getD i 0≤a.getD i 0 then ((miS a b i).1++[a.getD i 0 - ((miS a b i).2+b.getD i 0)],0) else ((miS a b i).1++[a.getD i 0+4294967296 - ((miS a b i).2+b.getD i 0)],1):=rfl
    have hal:=ha.getD i
    have hbl:=hb.getD i
    have hres:i=a.length→(miS a b i).1=minusR a b:=fun e=>by rw [e]; rfl
    generalize hout:(miS a b i).1=out at *
    generalize hcar:(miS a b i).2=c at *
    by_cases hgo:i<a.length
    · have hb1:(i+1) * 4≤140737488355328:=by omega
      have hb2:i+1≤maxLen:=by unfold maxLen; omega
      have hw7:IntKind.i64.wrap ((i:Int)+1)=(i:Int)+1:=wrapQ
      have q1:(i:Int)<a.length:=by omega
      have g1:=getD_some hgo
      have hb0:¬ i<b.length→b.getD i 0=0:=getD_none
      have g2:i<b.length→b[i]? = some (b.getD i 0):=getD_some
      generalize a.getD i 0=x at *
      generalize b.getD i 0=y at *
      have hwx:IntKind.i64.wrap (x:Int)=x:=wrapQ
      have hwy:IntKind.i64.wrap (y:Int)=y:=wrapQ
      obtain ⟨d1,hd1⟩:∃ d1:Int,(x:Int) - c=d1:=⟨_,rfl⟩
      obtain ⟨d,hd⟩:∃ d:Int,d1 - y=d:=⟨_,rfl⟩
      have hw1:IntKind.i64.wrap ((x:Int) - c)=d1:=by rw [wrapQ]; exact hd1
      have hw2:IntKind.i64.wrap (d1 - y)=d:=by rw [wrapQ]; exact hd
      by_cases hneg:d<0
      · rw [if_neg (by omega)] at hsucc
        obtain ⟨lo,hlo⟩:∃ lo:Nat,x+4294967296 - (c+y)=lo:=⟨_,rfl⟩
        rw [hlo] at hsucc
        have hw3:IntKind.i64.wrap (d+4294967296)=lo:=by rw [wrapQ]; omega
        have hw4:IntKind.u32.wrap (lo:Int)=lo:=wrap_u32 (by omega) (by omega)
        by_cases hbn:i<b.length
        · have q2:(i:Int)<b.length:=by omega
          have g3:=g2 hbn
          simp [-ζ,-ξ,↓KW,encM,q1,q2,g1,g3,hwx,hwy,hw1,hw2,hw3,hw4,hneg,hw7,hb1,hb2,hlen]
          refine nxt_intro (i+1) hgo ?_ (wkQ [3] ?_ ?_)
          · omega
          · simp [-ζ,upd,inj1,Γ0,encM,hsucc,lms_app,lms_one]
          · simp [-ζ,upd,inj1,Γ0,encM,hsucc,lms_app,lms_one]
        · have q2:¬ (i:Int)<b.length:=by omega
          have e1:d1=d:=by have:=hb0 hbn; omega
          rw [e1] at hw1
          simp [-ζ,-ξ,↓KW,encM,q1,q2,g1,hwx,hw1,hw3,hw4,hneg,hw7,hb1,hb2,hlen]
          refine nxt_intro (i+1) hgo ?_ (wkQ [3] ?_ ?_)
          · omega
          · simp [-ζ,upd,inj1,Γ0,encM,hsucc,lms_app,lms_one]
          · simp [-ζ,upd,inj1,Γ0,encM,hsucc,lms_app,lms_one]
      · rw [if_pos (by omega)] at hsucc
        obtain ⟨lo,hlo⟩:∃ lo:Nat,x - (c+y)=lo:=⟨_,rfl⟩
        rw [hlo] at hsucc
        have e0:d=lo:=by omega
        rw [e0] at hw2 hneg
        have hw4:IntKind.u32.wrap (lo:Int)=lo:=wrap_u32 (by omega) (by omega)
        by_cases hbn:i<b.length
        · have q2:(i:Int)<b.length:=by omega
          have g3:=g2 hbn
          simp [-ζ,-ξ,↓KW,encM,q1,q2,g1,g3,hwx,hwy,hw1,hw2,hw4,hneg,hw7,hb1,hb2,hlen]
          refine nxt_intro (i+1) hgo ?_ (wkQ [3] ?_ ?_)
          · omega
          · simp [-ζ,upd,inj1,Γ0,encM,hsucc,lms_app,lms_one]
          · simp [-ζ,upd,inj1,Γ0,encM,hsucc,lms_app,lms_one]
        · have q2:¬ (i:Int)<b.length:=by omega
          have e1:d1=lo:=by have:=hb0 hbn; omega
          rw [e1] at hw1
          simp [-ζ,-ξ,↓KW,encM,q1,q2,g1,hwx,hw1,hw4,hneg,hw7,hb1,hb2,hlen]
          refine nxt_intro (i+1) hgo ?_ (wkQ [3] ?_ ?_)
          · omega
          · simp [-ζ,upd,inj1,Γ0,encM,hsucc,lms_app,lms_one]
          · simp [-ζ,upd,inj1,Γ0,encM,hsucc,lms_app,lms_one]
    · have e:i=a.length:=by omega
      have h1:¬ (i:Int)<a.length:=by omega
      have h4:=hres e
      simp [-ζ,-ξ,↓KW,encM,h1,hlen,chunk_lms hlen,lms_take_all hlen,← h4]
set_option maxRecDepth 10000 in
theorem r01AddZ [M:Mch Tryz.prog] (x y:Int) (hx:(digs x.natAbs).length≤549755813888) (hy:(digs y.natAbs).length≤549755813888):Spec Tryz.prog 22 [encZ x,encZ y] (encZ (x+y)):=by
  refine specQ (N:=39) Tryz.func22 ?_
  have la:=lim_digs x.natAbs
  have lb:=lim_digs y.natAbs
  have va:=val_digs x.natAbs
  have vb:=val_digs y.natAbs
  have hless:(digs x.natAbs).length<(digs y.natAbs).length→x.natAbs<y.natAbs:=lt_of_len_lt
  have hless2:(digs y.natAbs).length<(digs x.natAbs).length→y.natAbs<x.natAbs:=lt_of_len_lt
  have hl:=r01less _ _ la lb (by omega) (by omega)
  rw [lessL_digs] at hl
  have sx:=sg_natAbs x
  have sy:=sg_natAbs y
  have ex:encZ x=.ag [.b (decide (x<0)),encM (digs x.natAbs)]:=rfl
  have ey:encZ y=.ag [.b (decide (y<0)),encM (digs y.natAbs)]:=rfl
  rw [ex,ey]
  generalize digs x.natAbs=a at *
  generalize digs y.natAbs=b at *
  generalize hbx:decide (x<0)=nx at *
  generalize hby:decide (y<0)=ny at *
  by_cases hn:nx=ny
  · have h1:(nx == ny)=true:=by simpa using hn
    simp [-ζ,-ξ,↓KW,encM,h1]
    obtain ⟨pv,pl,pn⟩:=plusR_val la lb
    refine callQ (r01plus a b la lb (by omega) (by omega)) ?_
    simp [-ζ,-ξ,↓KW,encM]
    have hm:=r01Made (plusR a b) nx (by omega)
    rw [made_encZ pl,pv,va,vb] at hm
    refine callQ hm ?_
    have e:sg nx (x.natAbs+y.natAbs)=x+y:=by
      rw [← sx,← sy,← hn]; cases nx <;> simp [sg] <;> omega
    rw [e]
    simp [-ζ,-ξ,↓KW,encM,encZ,encI]
  · have h1:(nx == ny)=false:=by simpa using hn
    simp [-ζ,-ξ,↓KW,encM,h1]
    refine callQ hl ?_
    by_cases hlt:x.natAbs<y.natAbs
    · simp [-ζ,-ξ,↓KW,encM,hlt]
      obtain ⟨pv,pl,pn⟩:=minusR_val lb la (by omega) (by omega)
      refine callQ (r01minus b a lb la (by omega) (by omega)) ?_
      simp [-ζ,-ξ,↓KW,encM]
      have hm:=r01Made (minusR b a) ny (by omega)
      rw [made_encZ pl,pv,va,vb] at hm
      refine callQ hm ?_
      have e:sg ny (y.natAbs - x.natAbs)=x+y:=by
        rw [← sx,← sy]
        cases nx <;> cases ny <;> simp [sg] at hn ⊢ <;> omega
      rw [e]
      simp [-ζ,-ξ,↓KW,encM,encZ,encI]
    · simp [-ζ,-ξ,↓KW,encM,hlt]
      obtain ⟨pv,pl,pn⟩:=minusR_val la lb (by omega) (by omega)
      refine callQ (r01minus a b la lb (by omega) (by omega)) ?_
      simp [-ζ,-ξ,↓KW,encM]
      have hm:=r01Made (minusR a b) nx (by omega)
      rw [made_encZ pl,pv,va,vb] at hm
      refine callQ hm ?_
      have e:sg nx (x.natAbs - y.natAbs)=x+y:=by
        rw [← sx,← sy]
        cases nx <;> cases ny <;> simp [sg] at hn ⊢ <;> omega
      rw [e]
      simp [-ζ,-ξ,↓KW,encM,encZ,encI]
theorem val_set {l:List Nat} {j:Nat} (h:j<l.length) (v:Nat):val (l.set j v)+4294967296 ^ j * l.getD j 0=val l+4294967296 ^ j * v:=by
  induction l generalizing j with
  | nil=>simp at h
  | cons x l ih =>
    cases j with
    | zero=>simp only [List.set_cons_zero,val,Nat.pow_zero,Nat.one_mul,List.getD_cons_zero]; omega
    | succ j =>
      have:=ih (j:=j) (by simpa using h)
      simp only [List.set_cons_succ,val,List.getD_cons_succ,Nat.pow_succ]
      generalize 4294967296 ^ j=p at *
      generalize l.getD j 0=o at *
      generalize val (l.set j v)=w at *
      rw [Nat.mul_comm p,Nat.mul_assoc,Nat.mul_assoc]
      generalize p * o=e1 at *
      generalize p * v=e2 at *
      omega
def muI (out:List Nat) (x:Nat) (b:List Nat) (i:Nat):Nat→List Nat × Nat
  | 0=>(out,0)
  | k+1=>((muI out x b i k).1.set (i+k) (((muI out x b i k).2+(muI out x b i k).1.getD (i+k) 0+x * b.getD k 0) % 4294967296),((muI out x b i k).2+(muI out x b i k).1.getD (i+k) 0+x * b.getD k 0) / 4294967296)
def muN (out:List Nat) (x:Nat) (b:List Nat) (i:Nat):Nat:=if (muI out x b i b.length).2=0 then b.length else b.length+1
def muO (a b:List Nat):Nat→List Nat
  | 0=>List.replicate (a.length+b.length+1) 0
  | i+1=>(muI (muO a b i) (a.getD i 0) b i (muN (muO a b i) (a.getD i 0) b i)).1
theorem mu_arith {P v v' o c t q r e w k:Nat} (hs:v'+P * o=v+P * r) (ht:r+k * q=t) (ht2:c+o+e=t) (hv:v+P * c=w):v'+P * k * q=w+P * e:=by
  have h1:P * t=P * r+P * (k * q):=by rw [← ht,Nat.mul_add]
  have h2:P * t=P * c+P * o+P * e:=by rw [← ht2,Nat.mul_add,Nat.mul_add]
  rw [Nat.mul_assoc]
  omega
theorem mu_lim {c o x y:Nat} (hc:c<4294967296) (ho:o<4294967296) (hx:x<4294967296) (hy:y<4294967296):c+o+x * y<18446744073709551616:=by
  have:x * y≤4294967295 * 4294967295:=Nat.mul_le_mul (by omega) (by omega)
  omega
theorem muI_inv {out b:List Nat} {x i:Nat} (ho:Lim out) (hb:Lim b) (hx:x<4294967296) (hl:i+b.length<out.length) (k:Nat) (hk:k≤b.length+1) :
    (muI out x b i k).1.length=out.length∧(muI out x b i k).2<4294967296∧Lim (muI out x b i k).1∧val (muI out x b i k).1+4294967296 ^ (i+k) * (muI out x b i k).2=val out+4294967296 ^ i * (x * val (b.take k)):=by
  induction k with
  | zero=>exact ⟨rfl,Nat.zero_lt_of_lt hx,ho,by simp [muI,val]⟩
  | succ k ih =>
    obtain ⟨h1,h2,h3,h4⟩:=ih (by omega)
    have hy:=hb.getD k
    have hoo:=h3.getD (i+k)
    have hset:=val_set (l:=(muI out x b i k).1) (j:=i+k) (by omega) (((muI out x b i k).2+(muI out x b i k).1.getD (i+k) 0+x * b.getD k 0) % 4294967296)
    have hlim:=mu_lim h2 hoo hx hy
    rw [val_take_succ]
    simp only [muI]
    generalize (muI out x b i k).1=out' at *
    generalize (muI out x b i k).2=c at *
    generalize out'.getD (i+k) 0=o at *
    generalize b.getD k 0=y at *
    refine ⟨by simp [h1],by omega,h3.set _ (by omega),?_⟩
    have:=mu_arith hset (Nat.mod_add_div _ _) rfl h4
    rw [← Nat.add_assoc i k 1,Nat.pow_succ,this,Nat.pow_add,Nat.mul_add,Nat.mul_add,Nat.mul_assoc,Nat.add_assoc]
    congr 2
    rw [Nat.mul_left_comm x]
theorem muI_stop {out b:List Nat} {x i:Nat} (ho:Lim out) (hb:Lim b) (hx:x<4294967296) (hl:i+b.length<out.length) (hv:val out<4294967296 ^ (i+b.length)):(muI out x b i (b.length+1)).2=0:=by
  obtain ⟨_,_,_,h4⟩:=muI_inv ho hb hx hl (b.length+1) (Nat.le_refl _)
  rw [List.take_of_length_le (by omega)] at h4
  have hbv:=val_lt hb
  rcases Nat.eq_zero_or_pos (muI out x b i (b.length+1)).2 with h | h
  · exact h
  exfalso
  have e1:4294967296 ^ (i+(b.length+1)) * 1≤4294967296 ^ (i+(b.length+1)) * (muI out x b i (b.length+1)).2:=Nat.mul_le_mul_left _ h
  have e2:x * val b≤4294967295 * 4294967296 ^ b.length:=Nat.mul_le_mul (by omega) (by omega)
  have e3:4294967296 ^ i * (x * val b)≤4294967296 ^ i * (4294967295 * 4294967296 ^ b.length):=Nat.mul_le_mul_left _ e2
  have e4:4294967296 ^ i * (4294967295 * 4294967296 ^ b.length)=4294967295 * 4294967296 ^ (i+b.length):=by rw [Nat.pow_add,Nat.mul_left_comm]
  have e5:4294967296 ^ (i+(b.length+1))=4294967296 ^ (i+b.length) * 4294967296:=by rw [← Nat.add_assoc,Nat.pow_succ]
  rw [Nat.mul_one,e5] at e1
  rw [e5] at h4
  rw [e4] at e3
  generalize 4294967296 ^ (i+b.length)=p at *
  generalize 4294967296 ^ i * (x * val b)=q at *
  generalize (muI out x b i (b.length+1)).2=c at *
  generalize p * 4294967296 * c=d at *
  omega
theorem muN_val {out b:List Nat} {x i:Nat} (ho:Lim out) (hb:Lim b) (hx:x<4294967296) (hl:i+b.length<out.length) (hv:val out<4294967296 ^ (i+b.length)) :
    (muI out x b i (muN out x b i)).1.length=out.length∧Lim (muI out x b i (muN out x b i)).1∧val (muI out x b i (muN out x b i)).1=val out+4294967296 ^ i * (x * val b):=by
  unfold muN
  have hstop:=muI_stop ho hb hx hl hv
  by_cases h:(muI out x b i b.length).2=0
  · rw [if_pos h]
    obtain ⟨h1,_,h3,h4⟩:=muI_inv ho hb hx hl b.length (by omega)
    rw [List.take_of_length_le (by omega),h,Nat.mul_zero,Nat.add_zero] at h4
    exact ⟨h1,h3,h4⟩
  · rw [if_neg h]
    obtain ⟨h1,_,h3,h4⟩:=muI_inv ho hb hx hl (b.length+1) (Nat.le_refl _)
    rw [List.take_of_length_le (by omega),hstop,Nat.mul_zero,Nat.add_zero] at h4
    exact ⟨h1,h3,h4⟩
theorem muO_lt {a b:List Nat} (ha:Lim a) (hb:Lim b) {i:Nat} (hi:i≤a.length):val (a.take i) * val b<4294967296 ^ (i+b.length):=by
  have h1:=val_lt (ha.take i)
  rw [List.length_take,Nat.min_eq_left hi] at h1
  have h2:=val_lt hb
  rw [Nat.pow_add]
  exact Nat.mul_lt_mul'' h1 h2
theorem muO_inv {a b:List Nat} (ha:Lim a) (hb:Lim b) (i:Nat) (hi:i≤a.length):(muO a b i).length=a.length+b.length+1∧Lim (muO a b i)∧val (muO a b i)=val (a.take i) * val b:=by
  induction i with
  | zero=>exact ⟨by simp [muO],.rep _,by simp [muO,val_rep,val]⟩
  | succ i ih =>
    obtain ⟨h1,h2,h3⟩:=ih (by omega)
    have hv:=muO_lt ha hb (i:=i) (by omega)
    rw [← h3] at hv
    obtain ⟨q1,q2,q3⟩:=muN_val (x:=a.getD i 0) (i:=i) h2 hb (ha.getD i) (by omega) hv
    refine ⟨q1.trans h1,q2,?_⟩
    show val (muI (muO a b i) (a.getD i 0) b i (muN (muO a b i) (a.getD i 0) b i)).1=_
    rw [q3,h3,val_take_succ,Nat.add_mul,Nat.mul_assoc]
set_option maxRecDepth 10000 in
theorem r01MulZ [M:Mch Tryz.prog] (x y:Int) (hx:(digs x.natAbs).length≤137438953472) (hy:(digs y.natAbs).length≤137438953472):Spec Tryz.prog 24 [encZ x,encZ y] (encZ (x * y)):=by
  refine specQ (N:=81) Tryz.func24 ?_
  have la:=lim_digs x.natAbs
  have lb:=lim_digs y.natAbs
  have va:=val_digs x.natAbs
  have vb:=val_digs y.natAbs
  have sx:=sg_natAbs x
  have sy:=sg_natAbs y
  have ex:encZ x=.ag [.b (decide (x<0)),encM (digs x.natAbs)]:=rfl
  have ey:encZ y=.ag [.b (decide (y<0)),encM (digs y.natAbs)]:=rfl
  rw [ex,ey]
  generalize digs x.natAbs=a at *
  generalize digs y.natAbs=b at *
  generalize hbx:decide (x<0)=nx at *
  generalize hby:decide (y<0)=ny at *
  obtain ⟨n,hn⟩:∃ n,a.length+b.length+1=n:=⟨_,rfl⟩
  have hw1:IntKind.i64.wrap ((a.length:Int)+b.length)=(a.length:Int)+b.length:=wrapQ
  have hw2:IntKind.i64.wrap ((a.length:Int)+b.length+1)=(n:Int):=by rw [wrapQ]; omega
  have hm1:(4:Int) * n≤281474976710656:=by omega
  have hm2:(n:Int)≤9223372036854775807:=by omega
  have h00:muO a b 0=List.replicate n 0:=by rw [← hn]; rfl
  simp [-ζ,-ξ,↓KW,encM,hw1,hw2,hm1,hm2]
  refine loopP_inv (fun i:Nat=>i≤a.length)
    (fun i=>StL [(2,.ptr 1 0),(3,.ptr 2 0),(4,.ptr 3 0),(5,.own 4 0 n 1),(6,.d (.i .i64 i))] none
      [.cells 31 [.d (.b nx),.d (encM a)],.cells 31 [.d (.b ny),.d (encM b)],.cells 31 [.d (.b false),.nil],.cells 89 ((lms (muO a b i)).map .d)]) (fun i=>a.length - i) 0 (Nat.zero_le _) ?_ ?_
  · refine wkQ [1,2,3,4] ?_ ?_ <;> simp [-ζ,upd,inj1,Γ0,encM,h00]
  · intro i hi
    obtain ⟨ol,om,ov⟩:=muO_inv la lb i hi
    rw [hn] at ol
    by_cases hgo:i<a.length
    · have q1:(i:Int)<a.length:=by omega
      simp [-ζ,-ξ,↓KW,encM,q1]
      have hsucc:muO a b (i+1)=(muI (muO a b i) (a.getD i 0) b i (muN (muO a b i) (a.getD i 0) b i)).1:=rfl
      have g1:=getD_some hgo
      have hlt:=muO_lt la lb hi
      rw [← ov] at hlt
      generalize hout:muO a b i=out at *
      have hal:=la.getD i
      generalize a.getD i 0=xv at *
      have hwx:IntKind.u64.wrap (xv:Int)=xv:=wrap_u64 (by omega) (by omega)
      refine loopP_inv (fun k:Nat=>k≤b.length∨(k=b.length+1∧(muI out xv b i b.length).2≠0))
        (fun k=>StL [(2,.ptr 1 0),(3,.ptr 2 0),(4,.ptr 3 0),(5,.own 4 0 n 1),(6,.d (.i .i64 i)),(7,.d (.i .u64 (muI out xv b i k).2)),(8,.d (.i .i64 k))] none
          [.cells 31 [.d (.b nx),.d (encM a)],.cells 31 [.d (.b ny),.d (encM b)],.cells 31 [.d (.b false),.nil],.cells 89 ((lms (muI out xv b i k).1).map .d)]) (fun k=>b.length+1 - k) 0 (.inl (Nat.zero_le _)) ?_ ?_
      · refine wkQ [1,2,3,4] ?_ ?_ <;> simp [-ζ,upd,inj1,Γ0,encM,muI]
      · intro k hk
        have hkl:k≤b.length+1:=by omega
        obtain ⟨il,ic,im,_⟩:=muI_inv om lb hal (i:=i) (by omega) k hkl
        have isucc:muI out xv b i (k+1)=((muI out xv b i k).1.set (i+k) (((muI out xv b i k).2+(muI out xv b i k).1.getD (i+k) 0+xv * b.getD k 0) % 4294967296),((muI out xv b i k).2+(muI out xv b i k).1.getD (i+k) 0+xv * b.getD k 0) / 4294967296):=rfl
        have hstop0:=muI_stop om lb hal (i:=i) (by omega) hlt
        have hres:(k<b.length∨0<(muI out xv b i k).2)∨muO a b (i+1)=(muI out xv b i k).1:=by
          rw [hsucc]; unfold muN
          rcases hk with hk | ⟨hk,hc⟩
          · by_cases h1:k=b.length
            · subst h1
              by_cases h2:(muI out xv b i b.length).2=0
              · rw [if_pos h2]; exact .inr rfl
              · exact .inl (.inr (by omega))
            · exact .inl (.inl (by omega))
          · rw [if_neg hc,hk]; exact .inr rfl
        have hnext:(k<b.length∨0<(muI out xv b i k).2)→k≤b.length∧(k+1≤b.length∨(k+1=b.length+1∧(muI out xv b i b.length).2≠0)):=by
          intro h
          rcases hk with hk | ⟨hk,hc⟩
          · refine ⟨hk,?_⟩
            by_cases h1:k=b.length
            · subst h1; exact .inr ⟨rfl,by omega⟩
            · exact .inl (by omega)
          · rw [hk,hstop0] at h; omega
        clear hstop0 hsucc
        have ho:=im.getD (i+k)
        generalize hcar:(muI out xv b i k).2=c at *
        generalize hcur:(muI out xv b i k).1=cur at *
        by_cases hg2:k<b.length∨0<c
        · obtain ⟨n1,n2⟩:=hnext hg2
          obtain ⟨j,hj⟩:∃ j,i+k=j:=⟨_,rfl⟩
          rw [hj] at isucc ho
          have hjl:j<cur.length:=by omega
          have g2:=lms_get (getD_some hjl)
          have hwj:IntKind.i64.wrap ((i:Int)+k)=j:=by rw [wrapQ]; omega
          have hjn:(j:Int)<n:=by omega
          have hw8:IntKind.i64.wrap ((k:Int)+1)=(k:Int)+1:=wrapQ
          have hjl2:j<(lms cur).length:=by rw [lms_len]; exact hjl
          have hjl3:j+1≤n:=by omega
          have hyb:=lb.getD k
          have hlim:=mu_lim ic ho hal hyb
          have hy0:¬ k<b.length→b.getD k 0=0:=getD_none
          have g3:k<b.length→b[k]? = some (b.getD k 0):=getD_some
          generalize cur.getD j 0=o at *
          generalize b.getD k 0=yv at *
          obtain ⟨s1,hs1⟩:∃ s1:Nat,c+o=s1:=⟨_,rfl⟩
          obtain ⟨t,ht⟩:∃ t:Nat,s1+xv * yv=t:=⟨_,rfl⟩
          rw [hs1] at isucc hlim
          rw [ht] at isucc hlim
          obtain ⟨lo,hlo⟩:∃ lo:Nat,t % 4294967296=lo:=⟨_,rfl⟩
          obtain ⟨hi',hhi⟩:∃ hi':Nat,t / 4294967296=hi':=⟨_,rfl⟩
          rw [hlo,hhi] at isucc
          have hwo:IntKind.u64.wrap (o:Int)=o:=wrap_u64 (by omega) (by omega)
          have hws:IntKind.u64.wrap ((c:Int)+o)=s1:=by rw [wrap_u64 (by omega) (by omega)]; omega
          have hwlo:IntKind.u32.wrap (t:Int)=lo:=by rw [wrap_u32m]; omega
          have hwhi:IntKind.u64.wrap ((t:Int) / 4294967296)=hi':=by rw [wrap_u64 (by omega) (by omega)]; omega
          have hlay:lay (List.map AV.d (lms cur)) j [AV.d (D.i .u32 (lo:Int))]=List.map AV.d (lms (cur.set j lo)):=by
            rw [lay_one _ _ _ hjl2,lms_set]
          have hgj:List.length cur=n:=by omega
          by_cases hkb:k<b.length
          · have q2:(k:Int)<b.length:=by omega
            have g4:=g3 hkb
            have hwy:IntKind.u64.wrap (yv:Int)=yv:=wrap_u64 (by omega) (by omega)
            obtain ⟨e,he⟩:∃ e:Nat,xv * yv=e:=⟨_,rfl⟩
            rw [he] at ht
            have hwm:IntKind.u64.wrap ((xv:Int) * yv)=e:=by rw [← Int.natCast_mul,he,wrap_u64 (by omega) (by omega)]
            have hwt:IntKind.u64.wrap ((s1:Int)+e)=t:=by rw [wrap_u64 (by omega) (by omega)]; omega
            simp [-ζ,-ξ,↓KW,encM,q2,hwj,hjn,g2,hwo,hws,g1,g4,hwx,hwy,hwm,hwt,hwlo,hwhi,hlay,hw8,hjl3,hgj]
            refine nxt_intro (k+1) n2 ?_ (wkQ [1,2,3,4] ?_ ?_)
            · omega
            · simp [-ζ,upd,inj1,Γ0,encM,isucc]
            · simp [-ζ,upd,inj1,Γ0,encM,isucc]
          · have q2:¬ (k:Int)<b.length:=by omega
            have q3:0<c:=by omega
            have e1:t=s1:=by rw [hy0 hkb,Nat.mul_zero] at ht; omega
            rw [e1] at hwlo hwhi
            simp [-ζ,-ξ,↓KW,encM,q2,q3,hwj,hjn,g2,hwo,hws,hwlo,hwhi,hlay,hw8,hjl3,hgj]
            refine nxt_intro (k+1) n2 ?_ (wkQ [1,2,3,4] ?_ ?_)
            · omega
            · simp [-ζ,upd,inj1,Γ0,encM,isucc]
            · simp [-ζ,upd,inj1,Γ0,encM,isucc]
        · have q2:¬ (k:Int)<b.length:=by omega
          have q3:¬ 0<c:=by omega
          have hfin:=hres.resolve_left hg2
          have hw8:IntKind.i64.wrap ((i:Int)+1)=(i:Int)+1:=wrapQ
          simp [-ζ,-ξ,↓KW,encM,q2,q3,hw8]
          refine nxt_intro (i+1) hgo ?_ (wkQ [1,2,3,4] ?_ ?_)
          · omega
          · simp [-ζ,upd,inj1,Γ0,encM,hfin]
          · simp [-ζ,upd,inj1,Γ0,encM,hfin]
    · have q1:¬ (i:Int)<a.length:=by omega
      have e:i=a.length:=by omega
      rw [e,List.take_of_length_le (Nat.le_refl _),va,vb] at ov
      have hm:=r01Made (muO a b i) (nx != ny) (by omega)
      rw [made_encZ om,e,ov] at hm
      have e2:sg (nx != ny) (x.natAbs * y.natAbs)=x * y:=by
        rw [← sx,← sy]
        cases nx <;> cases ny <;> simp [sg,Int.mul_neg,Int.neg_mul]
      rw [e2] at hm
      rw [e] at ol
      have e':muO a b i=muO a b a.length:=by rw [e]
      generalize muO a b a.length=out at *
      simp [-ζ,-ξ,↓KW,encM,q1,e']
      refine callP_intro (ds:=[encM out,.b (nx != ny)]) ?_ hm ?_
      · simp [-ζ,-ξ,↓KW,encM,ol,chunk_lms ol,lms_take_all ol]
        cases nx <;> cases ny <;> rfl
      · simp [-ζ,-ξ,↓KW,encM,encZ,encI,ol,chunk_lms ol,lms_take_all ol]
theorem wrap_nat {n:Nat} (h:n≤9223372036854775807):IntKind.i64.wrap (n:Int)=n:=wrapQ
set_option maxRecDepth 10000 in
theorem intTrim [M:Mch Tryz.prog] (m:List Nat) (hl:m.length≤1099511627776):Spec Tryz.prog 79 [encM m] (encM (strip m)):=by
  refine specQ (N:=21) Tryz.func79 ?_
  simp [-ζ,-ξ,↓KW,encM]
  refine loopP_inv (fun n:Nat=>n≤m.length∧strip (m.take n)=strip m) (fun n=>StL [(0,.d (encM m)),(3,.d (.i .i64 n))] none []) (fun n=>n) m.length ⟨Nat.le_refl _,by simp⟩ ?_ ?_
  · refine wkQ [] ?_ ?_ <;> simp [-ζ,upd,inj1,Γ0,encM]
  · rintro n ⟨hn,hs⟩
    rcases n with _ | n
    · have hs':strip m=[]:=hs.symm
      have h0:okHead 1 (m.map fun (x:Nat)=>[D.i .u32 (x:Int)])=true:=okHead_encM m _
      simp [-ζ,-ξ,↓KW,encM,hs',h0]
    · have hx:m[n]? = some m[n]:=List.getElem?_eq_getElem hn
      have hw:IntKind.i64.wrap (n:Int)=n:=wrap_nat (by omega)
      have hp:(0:Int)<(n:Int)+1:=by omega
      have hp2:(0:Int)≤(n:Int)+1:=by omega
      by_cases h0:m[n]=0
      · simp [-ζ,-ξ,↓KW,encM,hx,hw,h0,hp]
        refine nxt_intro n ⟨by omega,(strip_take_zero hn h0).symm.trans hs⟩ (by omega) (wkQ [] ?_ ?_) <;> simp [-ζ,upd,inj1,Γ0,encM]
      · have h1:((m[n]:Int) == 0)=false:=by simp; omega
        have he:strip m=m.take (n+1):=hs.symm.trans (strip_take_last hn h0)
        have hn':(n:Int)+1≤m.length:=by omega
        obtain ⟨pre,hpre⟩:∃ pre,m.take (n+1)=pre:=⟨_,rfl⟩
        have hp1:∀ f:Nat→List D,(m.map f).take (n+1)=pre.map f:=fun f=>by rw [← hpre,List.map_take]
        rw [hpre] at he
        simp [-ζ,-ξ,↓KW,encM,hx,hw,h1,hp,hp2,he,hn',hp1,okHead_encM]
set_option maxRecDepth 10000 in
theorem intValue [M:Mch Tryz.prog] (neg:Bool) (m:List Nat) (hl:m.length≤1099511627776):Spec Tryz.prog 95 [.b neg,encM m] (encI (neg && decide (strip m≠[])) (strip m)):=by
  refine specQ (N:=14) Tryz.func95 ?_
  simp [-ζ,-ξ,↓KW,encM]
  refine callQ (intTrim m hl) ?_
  cases hm:strip m with
  | nil =>
    cases neg <;> simp [-ζ,-ξ,↓KW,encM,encI]
  | cons x l =>
    have h1:(((l.length:Int)+1 == 0):Bool)=false:=by simp; omega
    cases neg <;> simp [-ζ,-ξ,↓KW,encM,encI,h1]
theorem intValueZ [M:Mch Tryz.prog] {m:List Nat} (h:Lim m) (hl:m.length≤1099511627776) (neg:Bool):Spec Tryz.prog 95 [.b neg,encM m] (encZ (sg neg (val m))):=by
  rw [← made_encZ h]; exact intValue neg m hl
set_option maxRecDepth 10000 in
theorem intSign [M:Mch Tryz.prog] (neg:Bool) (m:List Nat) (hl:m.length≤1099511627776):Spec Tryz.prog 41 [encI neg m] (.i .i64 (if strip m=[] then 0 else if neg then -1 else 1)):=by
  refine specQ (N:=12) Tryz.func41 ?_
  simp [-ζ,-ξ,↓KW,encI,encM]
  refine callQ (intTrim m hl) ?_
  cases hm:strip m with
  | nil=>simp [-ζ,-ξ,↓KW,encM,encI]
  | cons x l =>
    have h1:(((l.length:Int)+1 == 0):Bool)=false:=by simp; omega
    cases neg <;> simp [-ζ,-ξ,↓KW,encM,encI,h1]
set_option maxRecDepth 10000 in
theorem nanI [M:Mch Tryz.prog] (x:Int):Spec Tryz.prog 151 [.i .i64 x] (.b false):=by
  refine specQ (N:=6) Tryz.func151 ?_
  simp [-ζ,-ξ,↓KW]
set_option maxRecDepth 10000 in
theorem nanU [M:Mch Tryz.prog] (x:Int):Spec Tryz.prog 185 [.i .u32 x] (.b false):=by
  refine specQ (N:=6) Tryz.func185 ?_
  simp [-ζ,-ξ,↓KW]
def cmpI (x y:Int):Int:=if x<y then -1 else if y<x then 1 else 0
set_option maxRecDepth 10000 in
theorem cmpInt [M:Mch Tryz.prog] (x y:Int):Spec Tryz.prog 93 [.i .i64 x,.i .i64 y] (.i .i64 (cmpI x y)):=by
  refine specQ (N:=20) Tryz.func93 ?_
  simp [-ζ,-ξ,↓KW]
  refine callQ (nanI x) ?_
  simp [-ζ,-ξ,↓KW]
  refine callQ (nanI y) ?_
  by_cases h1:x<y
  · simp [-ζ,-ξ,↓KW,h1,cmpI]
  · by_cases h2:y<x <;> simp [-ζ,-ξ,↓KW,h1,h2,cmpI]
set_option maxRecDepth 10000 in
theorem cmpU [M:Mch Tryz.prog] (x y:Int):Spec Tryz.prog 152 [.i .u32 x,.i .u32 y] (.i .i64 (cmpI x y)):=by
  refine specQ (N:=20) Tryz.func152 ?_
  simp [-ζ,-ξ,↓KW]
  refine callQ (nanU x) ?_
  simp [-ζ,-ξ,↓KW]
  refine callQ (nanU y) ?_
  by_cases h1:x<y
  · simp [-ζ,-ξ,↓KW,h1,cmpI]
  · by_cases h2:y<x <;> simp [-ζ,-ξ,↓KW,h1,h2,cmpI]
def cmpL (a b:List Nat):Int:=if lessL a b then -1 else if lessL b a then 1 else 0
set_option maxRecDepth 10000 in
theorem intCompare [M:Mch Tryz.prog] (a b:List Nat) (ha:Lim a) (hb:Lim b) (hla:a.length≤1099511627776) (hlb:b.length≤1099511627776):Spec Tryz.prog 94 [encM a,encM b] (.i .i64 (cmpL a b)):=by
  refine specQ (N:=35) Tryz.func94 ?_
  simp [-ζ,-ξ,↓KW,encM]
  refine callQ (cmpInt _ _) ?_
  by_cases hn:a.length=b.length
  rotate_left
  · rcases Nat.lt_or_gt_of_ne hn with h | h
    · have h1:cmpI a.length b.length=-1:=by unfold cmpI; rw [if_pos (by omega)]
      have h2:cmpL a b=-1:=by simp [cmpL,lessL,hn,h]
      simp [-ζ,-ξ,↓KW,encM,h1,h2]
    · have h1:cmpI a.length b.length=1:=by unfold cmpI; rw [if_neg (by omega),if_pos (by omega)]
      have h2:cmpL a b=1:=by
        have h3:¬ a.length<b.length:=by omega
        have h4:¬ b.length=a.length:=fun e=>hn e.symm
        simp [cmpL,lessL,hn,h,h3,h4]
      simp [-ζ,-ξ,↓KW,encM,h1,h2]
  · have h1:cmpI a.length b.length=0:=by simp [cmpI,hn]
    have hw:IntKind.i64.wrap ((a.length:Int) - 1)=(a.length:Int) - 1:=wrapQ
    simp [-ζ,-ξ,↓KW,encM,h1,hw]
    refine loopP_inv (fun k:Nat=>k≤a.length∧a.drop k=b.drop k) (fun k=>StL [(0,.d (encM a)),(1,.d (encM b)),(6,.d (.i .i64 ((k:Int) - 1)))] none []) (fun k=>k) a.length ⟨Nat.le_refl _,by rw [List.drop_eq_nil_of_le (Nat.le_refl _),List.drop_eq_nil_of_le (by omega)]⟩ ?_ ?_
    · refine wkQ [] ?_ ?_ <;> simp [-ζ,upd,inj1,Γ0,encM]
    · rintro k ⟨hk,hd⟩
      rcases k with _ | k
      · have e:a=b:=by simpa using hd
        subst e
        simp [-ζ,-ξ,↓KW,encM,lessL,cmpL]
      · have hkb:k<b.length:=by omega
        have hxa:a[k]? = some a[k]:=List.getElem?_eq_getElem hk
        have hxb:b[k]? = some b[k]:=List.getElem?_eq_getElem hkb
        have hw2:IntKind.i64.wrap ((k:Int) - 1)=(k:Int) - 1:=wrapQ
        have hp:(0:Int)≤k:=by omega
        simp [-ζ,-ξ,↓KW,encM,hxa,hxb,hp]
        refine callQ (cmpU _ _) ?_
        by_cases he:a[k]=b[k]
        · have h2:cmpI a[k] b[k]=0:=by simp [cmpI,he]
          simp [-ζ,-ξ,↓KW,encM,h2,hw2]
          refine nxt_intro k ⟨by omega,?_⟩ (by omega) (wkQ [] ?_ ?_)
          · rw [List.drop_eq_getElem_cons hk,List.drop_eq_getElem_cons hkb,he,hd]
          · simp [-ζ,upd,inj1,Γ0,encM]
          · trivial
        · have ga:a.getD k 0=a[k]:=by rw [List.getD_eq_getElem?_getD,hxa]; rfl
          have gb:b.getD k 0=b[k]:=by rw [List.getD_eq_getElem?_getD,hxb]; rfl
          rcases Nat.lt_or_ge a[k] b[k] with hlt | hge
          · have h3:=val_lt_of ha (i:=k) hn hk hd (by rw [ga,gb]; exact hlt)
            have h4:cmpI a[k] b[k]=-1:=by unfold cmpI; rw [if_pos (by omega)]
            have h5:cmpL a b=-1:=by simp [cmpL,lessL,hn,h3]
            simp [-ζ,-ξ,↓KW,encM,h4,h5]
          · have h3:=val_lt_of hb (i:=k) hn.symm hkb hd.symm (by rw [ga,gb]; omega)
            have h4:cmpI a[k] b[k]=1:=by unfold cmpI; rw [if_neg (by omega),if_pos (by omega)]
            have h6:¬ val a<val b:=by omega
            have h5:cmpL a b=1:=by simp [cmpL,lessL,hn,h3,h6]
            simp [-ζ,-ξ,↓KW,encM,h4,h5]
def zp (out:List Nat) (n:Nat):List Nat:=out++List.replicate (n - out.length) 0
theorem zp_len {out:List Nat} {n:Nat} (h:out.length≤n):(zp out n).length=n:=by simp [zp]; omega
theorem zp_full {out:List Nat} {n:Nat} (h:out.length=n):zp out n=out:=by subst h; simp [zp]
theorem zp_nil (n:Nat):zp [] n=List.replicate n 0:=by simp [zp]
theorem zp_set {out:List Nat} {n i:Nat} (h:out.length=i) (hi:i<n) (v:Nat):(zp out n).set i v=zp (out++[v]) n:=by
  subst h
  unfold zp
  obtain ⟨k,hk⟩:∃ k,n - out.length=k+1:=⟨n - out.length - 1,by omega⟩
  rw [hk,List.set_append_right _ _ (Nat.le_refl _),Nat.sub_self,List.replicate_succ,List.set_cons_zero,List.length_append,List.length_singleton,show n - (out.length+1)=k from by omega,List.append_assoc]
  rfl
theorem zp_lay {out:List Nat} {n i:Nat} (h:out.length=i) (hi:i<n) (v:Nat):lay (List.map AV.d (lms (zp out n))) i [AV.d (D.i .u32 (v:Int))]=List.map AV.d (lms (zp (out++[v]) n)):=by
  rw [lay_one _ _ _ (by rw [lms_len,zp_len (by omega)]; exact hi),lms_set,zp_set h hi]
theorem shr32 {t:Nat}:shiftA .shr .u64 (t:Int) 32=some (.i .u64 ((t / 4294967296:Nat):Int)):=by
  simp only [shiftA,IntKind.bits]
  rw [if_neg (by decide)]
  congr 2
  rw [show (2:Int) ^ (min (32:Int).toNat 64)=4294967296 from by decide,Int.fdiv_eq_ediv_of_nonneg _ (by decide)]
  omega
theorem shr63 {t:Int} (_h0:0≤t):shiftA .shr .u64 t 63=some (.i .u64 (t / 9223372036854775808)):=by
  simp only [shiftA,IntKind.bits]
  rw [if_neg (by decide)]
  congr 2
  rw [show (2:Int) ^ (min (63:Int).toNat 64)=9223372036854775808 from by decide,Int.fdiv_eq_ediv_of_nonneg _ (by decide)]
def ip (p q:List Nat):List Nat:=(plS p q p.length).1++[(plS p q p.length).2]
theorem ip_val {p q:List Nat} (lp:Lim p) (lq:Lim q) (h:q.length≤p.length):val (ip p q)=val p+val q∧Lim (ip p q)∧(ip p q).length=p.length+1:=by
  obtain ⟨h1,h2,h3,h4⟩:=plS_inv lp lq p.length
  rw [List.take_of_length_le (Nat.le_refl _),List.take_of_length_le h] at h4
  unfold ip
  refine ⟨?_,h3.app (.one (by omega)),by simp [h1]⟩
  rw [val_app,h1]
  simp only [val,Nat.mul_zero,Nat.add_zero]
  exact h4
def iplusR (a b:List Nat):List Nat:=if a.length<b.length then ip b a else ip a b
theorem iplusR_val {a b:List Nat} (ha:Lim a) (hb:Lim b):val (iplusR a b)=val a+val b∧Lim (iplusR a b)∧(iplusR a b).length≤a.length+b.length+1:=by
  unfold iplusR
  by_cases h:a.length<b.length
  · rw [if_pos h]
    obtain ⟨h1,h2,h3⟩:=ip_val hb ha (by omega)
    exact ⟨by omega,h2,by omega⟩
  · rw [if_neg h]
    obtain ⟨h1,h2,h3⟩:=ip_val ha hb (by omega)
    exact ⟨h1,h2,by omega⟩
set_option maxRecDepth 10000 in
theorem intPlus [M:Mch Tryz.prog] (a b:List Nat) (ha:Lim a) (hb:Lim b) (hla:a.length≤274877906944) (hlb:b.length≤274877906944):Spec Tryz.prog 149 [encM a,encM b] (encM (iplusR a b)):=by
  refine specQ (N:=57) Tryz.func149 ?_
  obtain ⟨p,q,lp,lq,hqp,hpl,hr,hc⟩:∃ p q:List Nat,Lim p∧Lim q∧q.length≤p.length∧p.length≤274877906944∧iplusR a b=ip p q∧((a.length<b.length∧p=b∧q=a)∨(¬ a.length<b.length∧p=a∧q=b)):=by
    by_cases h:a.length<b.length
    · exact ⟨b,a,hb,ha,by omega,hlb,by simp [iplusR,h],.inl ⟨h,rfl,rfl⟩⟩
    · exact ⟨a,b,ha,hb,by omega,hla,by simp [iplusR,h],.inr ⟨h,rfl,rfl⟩⟩
  rw [hr]
  obtain ⟨n,hn⟩:∃ n,p.length+1=n:=⟨_,rfl⟩
  have hw2:IntKind.i64.wrap ((p.length:Int)+1)=(n:Int):=by rw [wrapQ]; omega
  have hm1:(4:Int) * n≤281474976710656:=by omega
  have hm2:(n:Int)≤9223372036854775807:=by omega
  rcases hc with ⟨h,hp,hq⟩ | ⟨h,hp,hq⟩ <;> subst hp <;> subst hq
  · have h1:(q.length:Int)<p.length:=by omega
    simp [-ζ,-ξ,↓KW,encM,h1,hw2,hm1,hm2]
    refine loopP_inv (fun i:Nat=>i≤p.length) (fun i=>StL [(0,.d (encM p)),(1,.d (encM q)),(5,.own 1 0 n 1),(6,.d (.i .u64 (plS p q i).2)),(20,.d (.i .i64 p.length)),(21,.d (.i .i64 i))] none [.cells 89 ((lms (zp (plS p q i).1 n)).map .d)]) (fun i=>p.length - i) 0 (Nat.zero_le _) ?_ ?_
    · refine wkQ [1] ?_ ?_ <;> simp [-ζ,upd,inj1,Γ0,encM,plS,zp_nil]
    · intro i hi
      obtain ⟨hlen,hc,_,_⟩:=plS_inv lp lq i
      have hsucc:plS p q (i+1)=((plS p q i).1++[((plS p q i).2+p.getD i 0+q.getD i 0) % 4294967296],((plS p q i).2+p.getD i 0+q.getD i 0) / 4294967296):=rfl
      have hal:=lp.getD i
      have hbl:=lq.getD i
      have hres:i=p.length→(plS p q i).1++[(plS p q i).2]=ip p q:=fun e=>by rw [e]; rfl
      generalize hout:(plS p q i).1=out at *
      generalize hcar:(plS p q i).2=c at *
      have hzl:(zp out n).length=n:=zp_len (by omega)
      by_cases hgo:i<p.length
      · have hw7:IntKind.i64.wrap ((i:Int)+1)=(i:Int)+1:=wrapQ
        have q1:(i:Int)<p.length:=by omega
        have q3:(i:Int)<n:=by omega
        have q4:i+1≤n:=by omega
        have g1:=getD_some hgo
        have hb0:¬ i<q.length→q.getD i 0=0:=getD_none
        have g2:i<q.length→q[i]? = some (q.getD i 0):=getD_some
        generalize p.getD i 0=x at *
        generalize q.getD i 0=y at *
        obtain ⟨s1,hs1⟩:∃ s1:Nat,c+x=s1:=⟨_,rfl⟩
        obtain ⟨s2,hs2⟩:∃ s2:Nat,s1+y=s2:=⟨_,rfl⟩
        rw [hs1,hs2] at hsucc
        have hwx:IntKind.u64.wrap (x:Int)=x:=wrap_u64 (by omega) (by omega)
        have hwy:IntKind.u64.wrap (y:Int)=y:=wrap_u64 (by omega) (by omega)
        have hw1:IntKind.u64.wrap ((c:Int)+x)=s1:=by rw [wrap_u64 (by omega) (by omega)]; omega
        have hw2':IntKind.u64.wrap ((s1:Int)+y)=s2:=by rw [wrap_u64 (by omega) (by omega)]; omega
        obtain ⟨lo,hlo⟩:∃ lo:Nat,s2 % 4294967296=lo:=⟨_,rfl⟩
        have hsh:=shr32 (t:=s2)
        obtain ⟨hi',hhi⟩:∃ hi':Nat,s2 / 4294967296=hi':=⟨_,rfl⟩
        rw [hhi] at hsh
        have hw3:IntKind.u32.wrap (s2:Int)=lo:=by rw [wrap_u32m]; omega
        rw [hlo,hhi] at hsucc
        have hlay:=zp_lay hlen (show i<n by omega) lo
        by_cases hbn:i<q.length
        · have q2:(i:Int)<q.length:=by omega
          have g3:=g2 hbn
          simp [-ζ,-ξ,↓KW,encM,q1,q2,q3,q4,g1,g3,hwx,hwy,hw1,hw2',hw3,hsh,hlay,hw7,hzl]
          refine nxt_intro (i+1) hgo ?_ (wkQ [1] ?_ ?_)
          · omega
          · simp [-ζ,upd,inj1,Γ0,encM,hsucc]
          · simp [-ζ,upd,inj1,Γ0,encM,hsucc]
        · have q2:¬ (i:Int)<q.length:=by omega
          have e2:s2=s1:=by have:=hb0 hbn; omega
          rw [e2] at hw3 hsh
          simp [-ζ,-ξ,↓KW,encM,q1,q2,q3,q4,g1,hwx,hw1,hw3,hsh,hlay,hw7,hzl]
          refine nxt_intro (i+1) hgo ?_ (wkQ [1] ?_ ?_)
          · omega
          · simp [-ζ,upd,inj1,Γ0,encM,hsucc]
          · simp [-ζ,upd,inj1,Γ0,encM,hsucc]
      · have e:i=p.length:=by omega
        have h1:¬ (i:Int)<p.length:=by omega
        have h4:=hres e
        have hn':(p.length:Int)<n:=by omega
        have hn2:p.length+1≤n:=by omega
        have hw3:IntKind.u32.wrap (c:Int)=c:=wrap_u32 (by omega) (by omega)
        have hlay:=zp_lay (hlen.trans e) (show p.length<n by omega) c
        have hfl:(out++[c]).length=n:=by simp; omega
        have h5:zp (out++[c]) n=out++[c]:=zp_full hfl
        rw [h5,h4] at hlay
        rw [h4] at hfl
        simp [-ζ,-ξ,↓KW,encM,h1,hn',hn2,hw3,hlay,hzl,hfl,chunk_lms hfl,lms_take_all hfl]
  · have h1:¬ (p.length:Int)<q.length:=by omega
    simp [-ζ,-ξ,↓KW,encM,h1,hw2,hm1,hm2]
    refine loopP_inv (fun i:Nat=>i≤p.length) (fun i=>StL [(0,.d (encM p)),(1,.d (encM q)),(5,.own 1 0 n 1),(6,.d (.i .u64 (plS p q i).2)),(20,.d (.i .i64 p.length)),(21,.d (.i .i64 i))] none [.cells 89 ((lms (zp (plS p q i).1 n)).map .d)]) (fun i=>p.length - i) 0 (Nat.zero_le _) ?_ ?_
    · refine wkQ [1] ?_ ?_ <;> simp [-ζ,upd,inj1,Γ0,encM,plS,zp_nil]
    · intro i hi
      obtain ⟨hlen,hc,_,_⟩:=plS_inv lp lq i
      have hsucc:plS p q (i+1)=((plS p q i).1++[((plS p q i).2+p.getD i 0+q.getD i 0) % 4294967296],((plS p q i).2+p.getD i 0+q.getD i 0) / 4294967296):=rfl
      have hal:=lp.getD i
      have hbl:=lq.getD i
      have hres:i=p.length→(plS p q i).1++[(plS p q i).2]=ip p q:=fun e=>by rw [e]; rfl
      generalize hout:(plS p q i).1=out at *
      generalize hcar:(plS p q i).2=c at *
      have hzl:(zp out n).length=n:=zp_len (by omega)
      by_cases hgo:i<p.length
      · have hw7:IntKind.i64.wrap ((i:Int)+1)=(i:Int)+1:=wrapQ
        have q1:(i:Int)<p.length:=by omega
        have q3:(i:Int)<n:=by omega
        have q4:i+1≤n:=by omega
        have g1:=getD_some hgo
        have hb0:¬ i<q.length→q.getD i 0=0:=getD_none
        have g2:i<q.length→q[i]? = some (q.getD i 0):=getD_some
        generalize p.getD i 0=x at *
        generalize q.getD i 0=y at *
        obtain ⟨s1,hs1⟩:∃ s1:Nat,c+x=s1:=⟨_,rfl⟩
        obtain ⟨s2,hs2⟩:∃ s2:Nat,s1+y=s2:=⟨_,rfl⟩
        rw [hs1,hs2] at hsucc
        have hwx:IntKind.u64.wrap (x:Int)=x:=wrap_u64 (by omega) (by omega)
        have hwy:IntKind.u64.wrap (y:Int)=y:=wrap_u64 (by omega) (by omega)
        have hw1:IntKind.u64.wrap ((c:Int)+x)=s1:=by rw [wrap_u64 (by omega) (by omega)]; omega
        have hw2':IntKind.u64.wrap ((s1:Int)+y)=s2:=by rw [wrap_u64 (by omega) (by omega)]; omega
        obtain ⟨lo,hlo⟩:∃ lo:Nat,s2 % 4294967296=lo:=⟨_,rfl⟩
        have hsh:=shr32 (t:=s2)
        obtain ⟨hi',hhi⟩:∃ hi':Nat,s2 / 4294967296=hi':=⟨_,rfl⟩
        rw [hhi] at hsh
        have hw3:IntKind.u32.wrap (s2:Int)=lo:=by rw [wrap_u32m]; omega
        rw [hlo,hhi] at hsucc
        have hlay:=zp_lay hlen (show i<n by omega) lo
        by_cases hbn:i<q.length
        · have q2:(i:Int)<q.length:=by omega
          have g3:=g2 hbn
          simp [-ζ,-ξ,↓KW,encM,q1,q2,q3,q4,g1,g3,hwx,hwy,hw1,hw2',hw3,hsh,hlay,hw7,hzl]
          refine nxt_intro (i+1) hgo ?_ (wkQ [1] ?_ ?_)
          · omega
          · simp [-ζ,upd,inj1,Γ0,encM,hsucc]
          · simp [-ζ,upd,inj1,Γ0,encM,hsucc]
        · have q2:¬ (i:Int)<q.length:=by omega
          have e2:s2=s1:=by have:=hb0 hbn; omega
          rw [e2] at hw3 hsh
          simp [-ζ,-ξ,↓KW,encM,q1,q2,q3,q4,g1,hwx,hw1,hw3,hsh,hlay,hw7,hzl]
          refine nxt_intro (i+1) hgo ?_ (wkQ [1] ?_ ?_)
          · omega
          · simp [-ζ,upd,inj1,Γ0,encM,hsucc]
          · simp [-ζ,upd,inj1,Γ0,encM,hsucc]
      · have e:i=p.length:=by omega
        have h1:¬ (i:Int)<p.length:=by omega
        have h4:=hres e
        have hn':(p.length:Int)<n:=by omega
        have hn2:p.length+1≤n:=by omega
        have hw3:IntKind.u32.wrap (c:Int)=c:=wrap_u32 (by omega) (by omega)
        have hlay:=zp_lay (hlen.trans e) (show p.length<n by omega) c
        have hfl:(out++[c]).length=n:=by simp; omega
        have h5:zp (out++[c]) n=out++[c]:=zp_full hfl
        rw [h5,h4] at hlay
        rw [h4] at hfl
        simp [-ζ,-ξ,↓KW,encM,h1,hn',hn2,hw3,hlay,hzl,hfl,chunk_lms hfl,lms_take_all hfl]
set_option maxRecDepth 10000 in
theorem intMinus [M:Mch Tryz.prog] (a b:List Nat) (ha:Lim a) (hb:Lim b) (hla:a.length≤274877906944):Spec Tryz.prog 150 [encM a,encM b] (encM (minusR a b)):=by
  refine specQ (N:=44) Tryz.func150 ?_
  obtain ⟨n,hn⟩:∃ n,a.length=n:=⟨_,rfl⟩
  have hm1:(4:Int) * n≤281474976710656:=by omega
  have hm2:(n:Int)≤9223372036854775807:=by omega
  simp [-ζ,-ξ,↓KW,encM,hn,hm1,hm2]
  refine loopP_inv (fun i:Nat=>i≤n) (fun i=>StL [(0,.d (encM a)),(1,.d (encM b)),(5,.own 1 0 n 1),(6,.d (.i .u64 (miS a b i).2)),(13,.d (.i .i64 n)),(14,.d (.i .i64 i))] none [.cells 89 ((lms (zp (miS a b i).1 n)).map .d)]) (fun i=>n - i) 0 (Nat.zero_le _) ?_ ?_
  · refine wkQ [1] ?_ ?_ <;> simp [-ζ,upd,inj1,Γ0,encM,miS,zp_nil,hn]
  · intro i hi
    obtain ⟨hlen,hc,_,_⟩:=miS_inv ha hb i
    have hsucc:=miS_succ a b i
    have hal:=ha.getD i
    have hbl:=hb.getD i
    have hres:i=n→(miS a b i).1=minusR a b:=fun e=>by rw [e,← hn]; rfl
    generalize hout:(miS a b i).1=out at *
    generalize hcar:(miS a b i).2=c at *
    have hzl:(zp out n).length=n:=zp_len (by omega)
    by_cases hgo:i<n
    · have hw7:IntKind.i64.wrap ((i:Int)+1)=(i:Int)+1:=wrapQ
      have q1:(i:Int)<n:=by omega
      have q4:i+1≤n:=hgo
      have g1:=getD_some (l:=a) (i:=i) (by omega)
      have hb0:¬ i<b.length→b.getD i 0=0:=getD_none
      have g2:i<b.length→b[i]? = some (b.getD i 0):=getD_some
      generalize a.getD i 0=x at *
      generalize b.getD i 0=y at *
      have hwx:IntKind.u64.wrap (x:Int)=x:=wrap_u64 (by omega) (by omega)
      have hwy:IntKind.u64.wrap (y:Int)=y:=wrap_u64 (by omega) (by omega)
      obtain ⟨d1,hd1⟩:∃ d1:Int,IntKind.u64.wrap ((x:Int) - c)=d1:=⟨_,rfl⟩
      obtain ⟨d,hd⟩:∃ d:Int,IntKind.u64.wrap (d1 - y)=d:=⟨_,rfl⟩
      have hd1':=hd1
      have hd':=hd
      rw [wrap_u64m] at hd1' hd'
      have hfin:∃ (lo bw:Nat),miS a b (i+1)=(out++[lo],bw)∧IntKind.u32.wrap d=lo∧shiftA .shr .u64 d 63=some (.i .u64 (bw:Int)):=by
        by_cases hle:c+y≤x
        · rw [if_pos hle] at hsucc
          refine ⟨_,_,hsucc,?_,?_⟩
          · rw [wrap_u32m]; omega
          · rw [shr63 (by omega)]; congr 2; omega
        · rw [if_neg hle] at hsucc
          refine ⟨_,_,hsucc,?_,?_⟩
          · rw [wrap_u32m]; omega
          · rw [shr63 (by omega)]; congr 2; omega
      obtain ⟨lo,bw,hs,hlo,hbw⟩:=hfin
      have hlay:=zp_lay hlen hgo lo
      by_cases hbn:i<b.length
      · have q2:(i:Int)<b.length:=by omega
        have g3:=g2 hbn
        simp [-ζ,-ξ,↓KW,encM,q1,q2,g1,g3,hwx,hwy,hd1,hd,hlo,hbw,hlay,hw7,hzl,q4]
        refine nxt_intro (i+1) hgo ?_ (wkQ [1] ?_ ?_)
        · omega
        · simp [-ζ,upd,inj1,Γ0,encM,hs]
        · simp [-ζ,upd,inj1,Γ0,encM,hs]
      · have q2:¬ (i:Int)<b.length:=by omega
        have e1:d1=d:=by have:=hb0 hbn; omega
        rw [e1] at hd1
        simp [-ζ,-ξ,↓KW,encM,q1,q2,g1,hwx,hd1,hlo,hbw,hlay,hw7,hzl,q4]
        refine nxt_intro (i+1) hgo ?_ (wkQ [1] ?_ ?_)
        · omega
        · simp [-ζ,upd,inj1,Γ0,encM,hs]
        · simp [-ζ,upd,inj1,Γ0,encM,hs]
    · have e:i=n:=by omega
      have h1:¬ (i:Int)<n:=by omega
      have h4:=hres e
      have h5:zp out n=out:=zp_full (by omega)
      have hlen':out.length=n:=by omega
      simp [-ζ,-ξ,↓KW,encM,h1,h5,hlen',chunk_lms hlen',lms_take_all hlen',← h4]
theorem val_ge (l:List Nat) (j:Nat):4294967296 ^ j * l.getD j 0≤val l:=by
  have h:=val_take_succ l j
  have e:val l=val (l.take (j+1))+4294967296 ^ (l.take (j+1)).length * val (l.drop (j+1)):=by rw [← val_app,List.take_append_drop]
  have h2:val (l.take (j+1))≤val l:=by rw [e]; exact Nat.le_add_right _ _
  rw [h] at h2
  exact Nat.le_trans (Nat.le_add_left _ _) h2
theorem getD_zero_of_lt {l:List Nat} {j:Nat} (h:val l<4294967296 ^ j):l.getD j 0=0:=by
  have h1:=val_ge l j
  rcases Nat.eq_zero_or_pos (l.getD j 0) with h2 | h2
  · exact h2
  · exfalso
    have:4294967296 ^ j * 1≤4294967296 ^ j * l.getD j 0:=Nat.mul_le_mul_left _ h2
    rw [Nat.mul_one] at this
    omega
theorem muI_above {out b:List Nat} {x i:Nat} (k j:Nat) (h:i+k≤j):(muI out x b i k).1.getD j 0=out.getD j 0:=by
  induction k with
  | zero=>rfl
  | succ k ih =>
    have:=ih (by omega)
    rw [← this]
    simp only [muI,List.getD_eq_getElem?_getD]
    rw [List.getElem?_set_ne (by omega)]
def tmO (a b:List Nat):Nat→List Nat
  | 0=>List.replicate (a.length+b.length) 0
  | i+1=>(muI (tmO a b i) (a.getD i 0) b i b.length).1.set (i+b.length) (muI (tmO a b i) (a.getD i 0) b i b.length).2
theorem tmO_inv {a b:List Nat} (ha:Lim a) (hb:Lim b) (i:Nat) (hi:i≤a.length):(tmO a b i).length=a.length+b.length∧Lim (tmO a b i)∧val (tmO a b i)=val (a.take i) * val b:=by
  induction i with
  | zero=>exact ⟨by simp [tmO],.rep _,by simp [tmO,val_rep,val]⟩
  | succ i ih =>
    obtain ⟨h1,h2,h3⟩:=ih (by omega)
    have hv:=muO_lt ha hb (i:=i) (by omega)
    rw [← h3] at hv
    have hx:=ha.getD i
    obtain ⟨q1,q2,q3,q4⟩:=muI_inv (x:=a.getD i 0) (i:=i) h2 hb hx (by omega) b.length (by omega)
    have habove:=muI_above (out:=tmO a b i) (b:=b) (x:=a.getD i 0) (i:=i) b.length (i+b.length) (Nat.le_refl _)
    rw [getD_zero_of_lt hv] at habove
    rw [List.take_of_length_le (Nat.le_refl _)] at q4
    have hset:=val_set (l:=(muI (tmO a b i) (a.getD i 0) b i b.length).1) (j:=i+b.length) (by omega) (muI (tmO a b i) (a.getD i 0) b i b.length).2
    rw [habove,Nat.mul_zero,Nat.add_zero,q4] at hset
    refine ⟨?_,q3.set _ q2,?_⟩
    · show (List.set _ _ _).length=_
      rw [List.length_set,q1,h1]
    · show val (List.set _ _ _)=_
      rw [hset,h3,val_take_succ,Nat.add_mul,Nat.mul_assoc]
def timesR (a b:List Nat):List Nat:=tmO a b a.length
theorem timesR_val {a b:List Nat} (ha:Lim a) (hb:Lim b):val (timesR a b)=val a * val b∧Lim (timesR a b)∧(timesR a b).length=a.length+b.length:=by
  obtain ⟨h1,h2,h3⟩:=tmO_inv ha hb a.length (Nat.le_refl _)
  rw [List.take_of_length_le (Nat.le_refl _)] at h3
  exact ⟨h3,h2,h1⟩
set_option maxHeartbeats 1000000 in
set_option maxRecDepth 10000 in
theorem intTimes [M:Mch Tryz.prog] (a b:List Nat) (la:Lim a) (lb:Lim b) (hla:a.length≤137438953472) (hlb:b.length≤137438953472):Spec Tryz.prog 148 [encM a,encM b] (encM (timesR a b)):=by
  refine specQ (N:=66) Tryz.func148 ?_
  obtain ⟨n,hn⟩:∃ n,a.length+b.length=n:=⟨_,rfl⟩
  have hw1:IntKind.i64.wrap ((a.length:Int)+b.length)=(n:Int):=by rw [wrapQ]; omega
  have hm1:(4:Int) * n≤281474976710656:=by omega
  have hm2:(n:Int)≤9223372036854775807:=by omega
  have h00:tmO a b 0=List.replicate n 0:=by rw [← hn]; rfl
  simp [-ζ,-ξ,↓KW,encM,hw1,hm1,hm2]
  refine loopP_inv (fun i:Nat=>i≤a.length)
    (fun i=>StL [(0,.d (encM a)),(1,.d (encM b)),(5,.own 1 0 n 1),(17,.d (encM a)),(18,.d (.i .i64 a.length)),(19,.d (.i .i64 i))] none [.cells 89 ((lms (tmO a b i)).map .d)]) (fun i=>a.length - i) 0 (Nat.zero_le _) ?_ ?_
  · refine wkQ [1] ?_ ?_ <;> simp [-ζ,upd,inj1,Γ0,encM,h00]
  · intro i hi
    obtain ⟨ol,om,ov⟩:=tmO_inv la lb i hi
    rw [hn] at ol
    by_cases hgo:i<a.length
    · have q1:(i:Int)<a.length:=by omega
      have g1:=getD_some hgo
      have hsucc:tmO a b (i+1)=(muI (tmO a b i) (a.getD i 0) b i b.length).1.set (i+b.length) (muI (tmO a b i) (a.getD i 0) b i b.length).2:=rfl
      have hal:=la.getD i
      generalize hout:tmO a b i=out at *
      generalize a.getD i 0=xv at *
      simp [-ζ,-ξ,↓KW,encM,q1,g1]
      have hwx:IntKind.u64.wrap (xv:Int)=xv:=wrap_u64 (by omega) (by omega)
      refine loopP_inv (fun k:Nat=>k≤b.length)
        (fun k=>StL [(0,.d (encM a)),(1,.d (encM b)),(5,.own 1 0 n 1),(17,.d (encM a)),(18,.d (.i .i64 a.length)),(19,.d (.i .i64 i)),(6,.d (.i .i64 i)),(7,.d (.i .u32 xv)),(8,.d (.i .u64 (muI out xv b i k).2)),(24,.d (encM b)),(25,.d (.i .i64 b.length)),(26,.d (.i .i64 k))] none
          [.cells 89 ((lms (muI out xv b i k).1).map .d)]) (fun k=>b.length - k) 0 (Nat.zero_le _) ?_ ?_
      · refine wkQ [1] ?_ ?_ <;> simp [-ζ,upd,inj1,Γ0,encM,muI]
      · intro k hk
        obtain ⟨il,ic,im,_⟩:=muI_inv om lb hal (i:=i) (by omega) k (by omega)
        have isucc:muI out xv b i (k+1)=((muI out xv b i k).1.set (i+k) (((muI out xv b i k).2+(muI out xv b i k).1.getD (i+k) 0+xv * b.getD k 0) % 4294967296),((muI out xv b i k).2+(muI out xv b i k).1.getD (i+k) 0+xv * b.getD k 0) / 4294967296):=rfl
        have hres:k=b.length→tmO a b (i+1)=(muI out xv b i k).1.set (i+b.length) (muI out xv b i k).2:=fun e=>by rw [e]; exact hsucc
        clear hsucc
        have ho:=im.getD (i+k)
        generalize hcar:(muI out xv b i k).2=c at *
        generalize hcur:(muI out xv b i k).1=cur at *
        have hgj:List.length cur=n:=by omega
        by_cases hkb:k<b.length
        · obtain ⟨j,hj⟩:∃ j,i+k=j:=⟨_,rfl⟩
          rw [hj] at isucc ho
          have hjl:j<cur.length:=by omega
          have g2:=lms_get (getD_some hjl)
          have hwj:IntKind.i64.wrap ((i:Int)+k)=j:=by rw [wrapQ]; omega
          have hjn:(j:Int)<n:=by omega
          have hw8:IntKind.i64.wrap ((k:Int)+1)=(k:Int)+1:=wrapQ
          have hjl2:j<(lms cur).length:=by rw [lms_len]; exact hjl
          have hjl3:j+1≤n:=by omega
          have hyb:=lb.getD k
          have hlim:=mu_lim ic ho hal hyb
          have g4:=getD_some hkb
          have q2:(k:Int)<b.length:=by omega
          generalize cur.getD j 0=o at *
          generalize b.getD k 0=yv at *
          obtain ⟨e,he⟩:∃ e:Nat,xv * yv=e:=⟨_,rfl⟩
          rw [he] at isucc hlim
          obtain ⟨s1,hs1⟩:∃ s1:Nat,e+o=s1:=⟨_,rfl⟩
          obtain ⟨t,ht⟩:∃ t:Nat,c+o+e=t:=⟨_,rfl⟩
          rw [ht] at isucc hlim
          obtain ⟨lo,hlo⟩:∃ lo:Nat,t % 4294967296=lo:=⟨_,rfl⟩
          have hsh:=shr32 (t:=t)
          obtain ⟨hi',hhi⟩:∃ hi':Nat,t / 4294967296=hi':=⟨_,rfl⟩
          rw [hlo,hhi] at isucc
          rw [hhi] at hsh
          have hwo:IntKind.u64.wrap (o:Int)=o:=wrap_u64 (by omega) (by omega)
          have hwy:IntKind.u64.wrap (yv:Int)=yv:=wrap_u64 (by omega) (by omega)
          have hwm:IntKind.u64.wrap ((xv:Int) * yv)=e:=by rw [← Int.natCast_mul,he,wrap_u64 (by omega) (by omega)]
          have hws:IntKind.u64.wrap ((e:Int)+o)=s1:=by rw [wrap_u64 (by omega) (by omega)]; omega
          have hwt:IntKind.u64.wrap ((c:Int)+s1)=t:=by rw [wrap_u64 (by omega) (by omega)]; omega
          have hwlo:IntKind.u32.wrap (t:Int)=lo:=by rw [wrap_u32m]; omega
          have hlay:lay (List.map AV.d (lms cur)) j [AV.d (D.i .u32 (lo:Int))]=List.map AV.d (lms (cur.set j lo)):=by
            rw [lay_one _ _ _ hjl2,lms_set]
          simp [-ζ,-ξ,↓KW,encM,q2,hwj,hjn,g2,hwo,hws,g1,g4,hwx,hwy,hwm,hwt,hwlo,hsh,hlay,hw8,hjl3,hgj]
          refine nxt_intro (k+1) hkb ?_ (wkQ [1] ?_ ?_)
          · omega
          · simp [-ζ,upd,inj1,Γ0,encM,isucc]
          · simp [-ζ,upd,inj1,Γ0,encM,isucc]
        · have q2:¬ (k:Int)<b.length:=by omega
          have hfin:=hres (by omega)
          have hw8:IntKind.i64.wrap ((i:Int)+1)=(i:Int)+1:=wrapQ
          obtain ⟨j,hj⟩:∃ j,i+b.length=j:=⟨_,rfl⟩
          rw [hj] at hfin
          have hwj:IntKind.i64.wrap ((i:Int)+b.length)=j:=by rw [wrapQ]; omega
          have hjn:(j:Int)<n:=by omega
          have hjl3:j+1≤n:=by omega
          have hjl2:j<(lms cur).length:=by rw [lms_len]; omega
          have hwc:IntKind.u32.wrap (c:Int)=c:=wrap_u32 (by omega) (by omega)
          have hlay:lay (List.map AV.d (lms cur)) j [AV.d (D.i .u32 (c:Int))]=List.map AV.d (lms (cur.set j c)):=by
            rw [lay_one _ _ _ hjl2,lms_set]
          simp [-ζ,-ξ,↓KW,encM,q2,hw8,hwj,hjn,hjl3,hwc,hlay,hgj]
          refine nxt_intro (i+1) hgo ?_ (wkQ [1] ?_ ?_)
          · omega
          · simp [-ζ,upd,inj1,Γ0,encM,hfin]
          · simp [-ζ,upd,inj1,Γ0,encM,hfin]
    · have q1:¬ (i:Int)<a.length:=by omega
      have e:i=a.length:=by omega
      have e':tmO a b i=timesR a b:=by rw [e]; rfl
      rw [e'] at ol
      simp [-ζ,-ξ,↓KW,encM,q1,e',ol,chunk_lms ol,lms_take_all ol]
set_option maxHeartbeats 1000000 in
set_option maxRecDepth 10000 in
theorem intMulZ [M:Mch Tryz.prog] (x y:Int) (hx:(digs x.natAbs).length≤137438953472) (hy:(digs y.natAbs).length≤137438953472):Spec Tryz.prog 83 [encZ x,encZ y] (encZ (x * y)):=by
  refine specQ (N:=18) Tryz.func83 ?_
  have la:=lim_digs x.natAbs
  have lb:=lim_digs y.natAbs
  have va:=val_digs x.natAbs
  have vb:=val_digs y.natAbs
  have ta:=intTrim (digs x.natAbs) (by omega)
  have tb:=intTrim (digs y.natAbs) (by omega)
  rw [strip_digs la,va] at ta
  rw [strip_digs lb,vb] at tb
  have sx:=sg_natAbs x
  have sy:=sg_natAbs y
  have ex:encZ x=.ag [.b (decide (x<0)),encM (digs x.natAbs)]:=rfl
  have ey:encZ y=.ag [.b (decide (y<0)),encM (digs y.natAbs)]:=rfl
  rw [ex,ey]
  generalize digs x.natAbs=a at *
  generalize digs y.natAbs=b at *
  generalize hbx:decide (x<0)=nx at *
  generalize hby:decide (y<0)=ny at *
  obtain ⟨tv,tl,tn⟩:=timesR_val la lb
  simp [-ζ,-ξ,↓KW,encM]
  refine callQ ta ?_
  simp [-ζ,-ξ,↓KW,encM]
  refine callQ tb ?_
  simp [-ζ,-ξ,↓KW,encM]
  refine callQ (intTimes a b la lb hx hy) ?_
  simp [-ζ,-ξ,↓KW,encM]
  have hm:=intValueZ tl (by omega) (!(nx == ny))
  rw [tv,va,vb] at hm
  have e2:sg (!(nx == ny)) (x.natAbs * y.natAbs)=x * y:=by
    rw [← sx,← sy]
    cases nx <;> cases ny <;> simp [sg,Int.mul_neg,Int.neg_mul]
  rw [e2] at hm
  refine callQ hm ?_
  simp [-ζ,-ξ,↓KW,encM,encZ,encI]
set_option maxHeartbeats 1000000 in
set_option maxRecDepth 10000 in
theorem intAddZ [M:Mch Tryz.prog] (x y:Int) (hx:(digs x.natAbs).length≤137438953472) (hy:(digs y.natAbs).length≤137438953472):Spec Tryz.prog 85 [encZ x,encZ y] (encZ (x+y)):=by
  refine specQ (N:=42) Tryz.func85 ?_
  have la:=lim_digs x.natAbs
  have lb:=lim_digs y.natAbs
  have va:=val_digs x.natAbs
  have vb:=val_digs y.natAbs
  have ta:=intTrim (digs x.natAbs) (by omega)
  have tb:=intTrim (digs y.natAbs) (by omega)
  rw [strip_digs la,va] at ta
  rw [strip_digs lb,vb] at tb
  have hless:(digs x.natAbs).length<(digs y.natAbs).length→x.natAbs<y.natAbs:=lt_of_len_lt
  have hless2:(digs y.natAbs).length<(digs x.natAbs).length→y.natAbs<x.natAbs:=lt_of_len_lt
  have hl:=intCompare _ _ la lb (by omega) (by omega)
  have hcmp:(x.natAbs<y.natAbs→cmpL (digs x.natAbs) (digs y.natAbs)<0)∧(¬ x.natAbs<y.natAbs→¬ cmpL (digs x.natAbs) (digs y.natAbs)<0):=by
    unfold cmpL
    rw [lessL_digs,lessL_digs]
    constructor
    · intro h; rw [if_pos (by simpa using h)]; decide
    · intro h
      rw [if_neg (by simpa using h)]
      split <;> decide
  have sx:=sg_natAbs x
  have sy:=sg_natAbs y
  have ex:encZ x=.ag [.b (decide (x<0)),encM (digs x.natAbs)]:=rfl
  have ey:encZ y=.ag [.b (decide (y<0)),encM (digs y.natAbs)]:=rfl
  rw [ex,ey]
  generalize digs x.natAbs=a at *
  generalize digs y.natAbs=b at *
  generalize hbx:decide (x<0)=nx at *
  generalize hby:decide (y<0)=ny at *
  simp [-ζ,-ξ,↓KW,encM]
  refine callQ ta ?_
  simp [-ζ,-ξ,↓KW,encM]
  refine callQ tb ?_
  by_cases hn:nx=ny
  · have h1:(nx == ny)=true:=by simpa using hn
    simp [-ζ,-ξ,↓KW,encM,h1]
    obtain ⟨pv,pl,pn⟩:=iplusR_val la lb
    refine callQ (intPlus a b la lb (by omega) (by omega)) ?_
    simp [-ζ,-ξ,↓KW,encM]
    have hm:=intValueZ pl (by omega) nx
    rw [pv,va,vb] at hm
    have e:sg nx (x.natAbs+y.natAbs)=x+y:=by
      rw [← sx,← sy,← hn]; cases nx <;> simp [sg] <;> omega
    rw [e] at hm
    refine callQ hm ?_
    simp [-ζ,-ξ,↓KW,encM,encZ,encI]
  · have h1:(nx == ny)=false:=by simpa using hn
    simp [-ζ,-ξ,↓KW,encM,h1]
    refine callQ hl ?_
    by_cases hlt:x.natAbs<y.natAbs
    · have h2:=hcmp.1 hlt
      simp [-ζ,-ξ,↓KW,encM,h2]
      obtain ⟨pv,pl,pn⟩:=minusR_val lb la (by omega) (by omega)
      refine callQ (intMinus b a lb la (by omega)) ?_
      simp [-ζ,-ξ,↓KW,encM]
      have hm:=intValueZ pl (by omega) ny
      rw [pv,va,vb] at hm
      have e:sg ny (y.natAbs - x.natAbs)=x+y:=by
        rw [← sx,← sy]
        cases nx <;> cases ny <;> simp [sg] at hn ⊢ <;> omega
      rw [e] at hm
      refine callQ hm ?_
      simp [-ζ,-ξ,↓KW,encM,encZ,encI]
    · have h2:=hcmp.2 hlt
      simp [-ζ,-ξ,↓KW,encM,h2]
      obtain ⟨pv,pl,pn⟩:=minusR_val la lb (by omega) (by omega)
      refine callQ (intMinus a b la lb (by omega)) ?_
      simp [-ζ,-ξ,↓KW,encM]
      have hm:=intValueZ pl (by omega) nx
      rw [pv,va,vb] at hm
      have e:sg nx (x.natAbs - y.natAbs)=x+y:=by
        rw [← sx,← sy]
        cases nx <;> cases ny <;> simp [sg] at hn ⊢ <;> omega
      rw [e] at hm
      refine callQ hm ?_
      simp [-ζ,-ξ,↓KW,encM,encZ,encI]
theorem one_encM (m:List Nat):one (.d (encM m))=true:=rfl
theorem cellsA_encM (m:List Nat):cellsA (.d (encM m))=some [.d (encM m)]:=rfl
theorem inj1_encM (m:List Nat):inj1 (encM m)=.d (encM m):=rfl
theorem le_maxLen {n:Nat} (h:n≤1099511627776):n≤maxLen:=Nat.le_trans h (by decide)
def Sz (z:Int):Prop:=(digs z.natAbs).length≤137438953472
theorem inj_encM (m:List Nat):inj (encM m)=.d (encM m):=rfl
theorem kills_encM (H:Hp) (avs:List AV) (m:List Nat):killsOf H avs (encM m)=viss H avs:=rfl
theorem encZ_eq (z:Int):encZ z=.ag [.b (decide (z<0)),encM (digs z.natAbs)]:=rfl
theorem encZ_zero:encZ 0=.ag [.b false,.sl []]:=by
  unfold encZ encI
  rw [show (0:Int).natAbs=0 from rfl,digs_zero]; rfl
theorem strip_zero_iff (z:Int):strip (digs z.natAbs)=[]↔z=0:=by
  rw [strip_digs (lim_digs _),val_digs,digs_eq_nil]; omega
theorem intSignZ [M:Mch Tryz.prog] (z:Int) (hz:Sz z):Spec Tryz.prog 41 [encZ z] (.i .i64 z.sign):=by
  have:=intSign (decide (z<0)) (digs z.natAbs) (Nat.le_trans hz (by decide))
  have e:(if strip (digs z.natAbs)=[] then (0:Int) else if (decide (z<0))=true then -1 else 1)=z.sign:=by
    simp only [strip_zero_iff]
    rcases Int.lt_trichotomy z 0 with h | h | h
    · rw [if_neg (by omega),if_pos (by simpa using h),Int.sign_eq_neg_one_of_neg h]
    · subst h; rfl
    · rw [if_neg (by omega),if_neg (by simp; omega),Int.sign_eq_one_of_pos h]
  rwa [e] at this
end Go.Am
end
