/- The reference's integers: the opposite, the difference. No condition. -/
import Derived.Test.YthjopmmgepejkaaGreatI3
import Derived.Test.YthjopmmgepejkaaGreatRows
import Derived.Shelf.SlIterI.Nil
import Derived.Shelf.SortM.Plain
import Derived.Shelf.SortM.SortNone
import Derived.Ground.GgzProg
import Derived.Ground.SlgmProg
import Derived.Test.YthjopmmgepejkaaGreatProg
import Derived.Recover
import Derived.ProofKit
import Derived.OpenShut
section
set_option linter.unusedVariables false
set_option linter.unusedSimpArgs false
open Go Go.Proofs
namespace Go.Am
@[simp] theorem tsz_2:tsz Tryz.prog 2=some 1∧tby Tryz.prog 2=some 8∧tz Tryz.prog 2=some (.int .i64 0)∧tagg Tryz.prog 2=some false∧tel Tryz.prog 2=none∧tbool Tryz.prog 2=false∧(Program.underlying Tryz.prog 2).isSome=true∧tint Tryz.prog 2=some .i64:=by and_intros <;> kernel_rfl
@[simp] theorem tsz_3:tsz Tryz.prog 3=some 1∧tby Tryz.prog 3=some 8∧tz Tryz.prog 3=some (.int .i64 0)∧tagg Tryz.prog 3=some false∧tel Tryz.prog 3=none∧tbool Tryz.prog 3=false∧(Program.underlying Tryz.prog 3).isSome=true∧tint Tryz.prog 3=some .i64:=by and_intros <;> kernel_rfl
@[simp] theorem tsz_4:tsz Tryz.prog 4=some 1∧tby Tryz.prog 4=some 1∧tz Tryz.prog 4=some (.bool false)∧tagg Tryz.prog 4=some false∧tel Tryz.prog 4=none∧tbool Tryz.prog 4=true∧(Program.underlying Tryz.prog 4).isSome=true:=by and_intros <;> kernel_rfl
@[simp] theorem tsz_5:tsz Tryz.prog 5=some 1∧tby Tryz.prog 5=some 1∧tz Tryz.prog 5=some (.int .u8 0)∧tagg Tryz.prog 5=some false∧tel Tryz.prog 5=none∧tbool Tryz.prog 5=false∧(Program.underlying Tryz.prog 5).isSome=true∧tint Tryz.prog 5=some .u8:=by and_intros <;> kernel_rfl
@[simp] theorem tsz_6:tsz Tryz.prog 6=some 1∧tby Tryz.prog 6=some 1∧tz Tryz.prog 6=some (.int .u8 0)∧tagg Tryz.prog 6=some false∧tel Tryz.prog 6=none∧tbool Tryz.prog 6=false∧(Program.underlying Tryz.prog 6).isSome=true∧tint Tryz.prog 6=some .u8:=by and_intros <;> kernel_rfl
@[simp] theorem tsz_7:tsz Tryz.prog 7=some 4∧tby Tryz.prog 7=some 24∧tz Tryz.prog 7=some (.agg #[.int .i64 0,.int .i64 0,.bool false,.int .u8 0])∧tagg Tryz.prog 7=some true∧tel Tryz.prog 7=none∧tbool Tryz.prog 7=false∧(Program.underlying Tryz.prog 7).isSome=true∧flds Tryz.prog 7=some [(0,1),(1,1),(2,1),(3,1)]:=by and_intros <;> kernel_rfl
@[simp] theorem tsz_8:tsz Tryz.prog 8=some 4∧tby Tryz.prog 8=some 24∧tz Tryz.prog 8=some (.agg #[.int .i64 0,.int .i64 0,.bool false,.int .u8 0])∧tagg Tryz.prog 8=some true∧tel Tryz.prog 8=none∧tbool Tryz.prog 8=false∧(Program.underlying Tryz.prog 8).isSome=true∧flds Tryz.prog 8=some [(0,1),(1,1),(2,1),(3,1)]:=by and_intros <;> kernel_rfl
@[simp] theorem tsz_12:tsz Tryz.prog 12=some 1∧tby Tryz.prog 12=some 8∧tz Tryz.prog 12=some (.int .u64 0)∧tagg Tryz.prog 12=some false∧tel Tryz.prog 12=none∧tbool Tryz.prog 12=false∧(Program.underlying Tryz.prog 12).isSome=true∧tint Tryz.prog 12=some .u64:=by and_intros <;> kernel_rfl
@[simp] theorem tsz_21:tsz Tryz.prog 21=some 1∧tby Tryz.prog 21=some 4∧tz Tryz.prog 21=some (.int .i32 0)∧tagg Tryz.prog 21=some false∧tel Tryz.prog 21=none∧tbool Tryz.prog 21=false∧(Program.underlying Tryz.prog 21).isSome=true∧tint Tryz.prog 21=some .i32:=by and_intros <;> kernel_rfl
@[simp] theorem tsz_22:tsz Tryz.prog 22=some 1∧tby Tryz.prog 22=some 24∧tz Tryz.prog 22=some (.slice none 0 0)∧tagg Tryz.prog 22=some false∧tel Tryz.prog 22=some 80∧tbool Tryz.prog 22=false∧(Program.underlying Tryz.prog 22).isSome=true:=by and_intros <;> kernel_rfl
@[simp] theorem tsz_23:tsz Tryz.prog 23=some 2∧tby Tryz.prog 23=some 32∧tz Tryz.prog 23=some (.agg #[.int .u8 0,.slice none 0 0])∧tagg Tryz.prog 23=some true∧tel Tryz.prog 23=none∧tbool Tryz.prog 23=false∧(Program.underlying Tryz.prog 23).isSome=true∧flds Tryz.prog 23=some [(0,1),(1,1)]:=by and_intros <;> kernel_rfl
@[simp] theorem tsz_24:tsz Tryz.prog 24=some 2∧tby Tryz.prog 24=some 32∧tz Tryz.prog 24=some (.agg #[.int .u8 0,.slice none 0 0])∧tagg Tryz.prog 24=some true∧tel Tryz.prog 24=none∧tbool Tryz.prog 24=false∧(Program.underlying Tryz.prog 24).isSome=true∧flds Tryz.prog 24=some [(0,1),(1,1)]:=by and_intros <;> kernel_rfl
@[simp] theorem tsz_26:tsz Tryz.prog 26=some 1∧tby Tryz.prog 26=some 24∧tz Tryz.prog 26=some (.slice none 0 0)∧tagg Tryz.prog 26=some false∧tel Tryz.prog 26=some 47∧tbool Tryz.prog 26=false∧(Program.underlying Tryz.prog 26).isSome=true:=by and_intros <;> kernel_rfl
@[simp] theorem tsz_27:tsz Tryz.prog 27=some 1∧tby Tryz.prog 27=some 24∧tz Tryz.prog 27=some (.slice none 0 0)∧tagg Tryz.prog 27=some false∧tel Tryz.prog 27=some 47∧tbool Tryz.prog 27=false∧(Program.underlying Tryz.prog 27).isSome=true:=by and_intros <;> kernel_rfl
@[simp] theorem tsz_29:tsz Tryz.prog 29=some 1∧tby Tryz.prog 29=some 24∧tz Tryz.prog 29=some (.slice none 0 0)∧tagg Tryz.prog 29=some false∧tel Tryz.prog 29=some 3∧tbool Tryz.prog 29=false∧(Program.underlying Tryz.prog 29).isSome=true:=by and_intros <;> kernel_rfl
@[simp] theorem tsz_31:tsz Tryz.prog 31=some 1∧tby Tryz.prog 31=some 24∧tz Tryz.prog 31=some (.slice none 0 0)∧tagg Tryz.prog 31=some false∧tel Tryz.prog 31=some 97∧tbool Tryz.prog 31=false∧(Program.underlying Tryz.prog 31).isSome=true:=by and_intros <;> kernel_rfl
@[simp] theorem tsz_32:tsz Tryz.prog 32=some 1∧tby Tryz.prog 32=some 24∧tz Tryz.prog 32=some (.slice none 0 0)∧tagg Tryz.prog 32=some false∧tel Tryz.prog 32=some 97∧tbool Tryz.prog 32=false∧(Program.underlying Tryz.prog 32).isSome=true:=by and_intros <;> kernel_rfl
@[simp] theorem tsz_33:tsz Tryz.prog 33=some 1∧tby Tryz.prog 33=some 8∧tz Tryz.prog 33=some (.int .i64 0)∧tagg Tryz.prog 33=some false∧tel Tryz.prog 33=none∧tbool Tryz.prog 33=false∧(Program.underlying Tryz.prog 33).isSome=true∧tint Tryz.prog 33=some .i64:=by and_intros <;> kernel_rfl
@[simp] theorem tsz_34:tsz Tryz.prog 34=some 3∧tby Tryz.prog 34=some 56∧tz Tryz.prog 34=some (.agg #[.slice none 0 0,.slice none 0 0,.int .i64 0])∧tagg Tryz.prog 34=some true∧tel Tryz.prog 34=none∧tbool Tryz.prog 34=false∧(Program.underlying Tryz.prog 34).isSome=true∧flds Tryz.prog 34=some [(0,1),(1,1),(2,1)]:=by and_intros <;> kernel_rfl
@[simp] theorem tsz_35:tsz Tryz.prog 35=some 3∧tby Tryz.prog 35=some 56∧tz Tryz.prog 35=some (.agg #[.slice none 0 0,.slice none 0 0,.int .i64 0])∧tagg Tryz.prog 35=some true∧tel Tryz.prog 35=none∧tbool Tryz.prog 35=false∧(Program.underlying Tryz.prog 35).isSome=true∧flds Tryz.prog 35=some [(0,1),(1,1),(2,1)]:=by and_intros <;> kernel_rfl
@[simp] theorem tsz_44:tsz Tryz.prog 44=some 1∧tby Tryz.prog 44=some 24∧tz Tryz.prog 44=some (.slice none 0 0)∧tagg Tryz.prog 44=some false∧tel Tryz.prog 44=some 89∧tbool Tryz.prog 44=false∧(Program.underlying Tryz.prog 44).isSome=true:=by and_intros <;> kernel_rfl
@[simp] theorem tsz_45:tsz Tryz.prog 45=some 1∧tby Tryz.prog 45=some 24∧tz Tryz.prog 45=some (.slice none 0 0)∧tagg Tryz.prog 45=some false∧tel Tryz.prog 45=some 89∧tbool Tryz.prog 45=false∧(Program.underlying Tryz.prog 45).isSome=true:=by and_intros <;> kernel_rfl
@[simp] theorem tsz_46:tsz Tryz.prog 46=some 3∧tby Tryz.prog 46=some 40∧tz Tryz.prog 46=some (.agg #[.int .i64 0,.int .i64 0,.slice none 0 0])∧tagg Tryz.prog 46=some true∧tel Tryz.prog 46=none∧tbool Tryz.prog 46=false∧(Program.underlying Tryz.prog 46).isSome=true∧flds Tryz.prog 46=some [(0,1),(1,1),(2,1)]:=by and_intros <;> kernel_rfl
@[simp] theorem tsz_47:tsz Tryz.prog 47=some 3∧tby Tryz.prog 47=some 40∧tz Tryz.prog 47=some (.agg #[.int .i64 0,.int .i64 0,.slice none 0 0])∧tagg Tryz.prog 47=some true∧tel Tryz.prog 47=none∧tbool Tryz.prog 47=false∧(Program.underlying Tryz.prog 47).isSome=true∧flds Tryz.prog 47=some [(0,1),(1,1),(2,1)]:=by and_intros <;> kernel_rfl
@[simp] theorem tsz_55:tsz Tryz.prog 55=some 1∧tby Tryz.prog 55=some 24∧tz Tryz.prog 55=some (.slice none 0 0)∧tagg Tryz.prog 55=some false∧tel Tryz.prog 55=some 59∧tbool Tryz.prog 55=false∧(Program.underlying Tryz.prog 55).isSome=true:=by and_intros <;> kernel_rfl
@[simp] theorem tsz_57:tsz Tryz.prog 57=some 1∧tby Tryz.prog 57=some 1∧tz Tryz.prog 57=some (.int .i8 0)∧tagg Tryz.prog 57=some false∧tel Tryz.prog 57=none∧tbool Tryz.prog 57=false∧(Program.underlying Tryz.prog 57).isSome=true∧tint Tryz.prog 57=some .i8:=by and_intros <;> kernel_rfl
@[simp] theorem tsz_58:tsz Tryz.prog 58=some 2∧tby Tryz.prog 58=some 2∧tz Tryz.prog 58=some (.agg #[.int .i8 0,.int .i8 0])∧tagg Tryz.prog 58=some true∧tel Tryz.prog 58=none∧tbool Tryz.prog 58=false∧(Program.underlying Tryz.prog 58).isSome=true∧flds Tryz.prog 58=none∧tarr Tryz.prog 58=some (2,57):=by and_intros <;> kernel_rfl
@[simp] theorem tsz_59:tsz Tryz.prog 59=some 2∧tby Tryz.prog 59=some 16∧tz Tryz.prog 59=some (.agg #[.int .i64 0,.int .i64 0])∧tagg Tryz.prog 59=some true∧tel Tryz.prog 59=none∧tbool Tryz.prog 59=false∧(Program.underlying Tryz.prog 59).isSome=true∧flds Tryz.prog 59=none∧tarr Tryz.prog 59=some (2,3):=by and_intros <;> kernel_rfl
@[simp] theorem tsz_63:tsz Tryz.prog 63=some 1∧tby Tryz.prog 63=some 24∧tz Tryz.prog 63=some (.slice none 0 0)∧tagg Tryz.prog 63=some false∧tel Tryz.prog 63=some 57∧tbool Tryz.prog 63=false∧(Program.underlying Tryz.prog 63).isSome=true:=by and_intros <;> kernel_rfl
@[simp] theorem tsz_67:tsz Tryz.prog 67=some 1∧tby Tryz.prog 67=some 24∧tz Tryz.prog 67=some (.slice none 0 0)∧tagg Tryz.prog 67=some false∧tel Tryz.prog 67=some 121∧tbool Tryz.prog 67=false∧(Program.underlying Tryz.prog 67).isSome=true:=by and_intros <;> kernel_rfl
@[simp] theorem tsz_68:tsz Tryz.prog 68=some 2∧tby Tryz.prog 68=some 32∧tz Tryz.prog 68=some (.agg #[.bool false,.slice none 0 0])∧tagg Tryz.prog 68=some true∧tel Tryz.prog 68=none∧tbool Tryz.prog 68=false∧(Program.underlying Tryz.prog 68).isSome=true∧flds Tryz.prog 68=some [(0,1),(1,1)]:=by and_intros <;> kernel_rfl
@[simp] theorem tsz_69:tsz Tryz.prog 69=some 2∧tby Tryz.prog 69=some 32∧tz Tryz.prog 69=some (.agg #[.bool false,.slice none 0 0])∧tagg Tryz.prog 69=some true∧tel Tryz.prog 69=none∧tbool Tryz.prog 69=false∧(Program.underlying Tryz.prog 69).isSome=true∧flds Tryz.prog 69=some [(0,1),(1,1)]:=by and_intros <;> kernel_rfl
@[simp] theorem tsz_72:tsz Tryz.prog 72=some 1∧tby Tryz.prog 72=some 24∧tz Tryz.prog 72=some (.slice none 0 0)∧tagg Tryz.prog 72=some false∧tel Tryz.prog 72=some 125∧tbool Tryz.prog 72=false∧(Program.underlying Tryz.prog 72).isSome=true:=by and_intros <;> kernel_rfl
@[simp] theorem tsz_80:tsz Tryz.prog 80=some 4∧tby Tryz.prog 80=some 4∧tz Tryz.prog 80=some (.agg #[.int .i8 0,.int .i8 0,.int .i8 0,.int .i8 0])∧tagg Tryz.prog 80=some true∧tel Tryz.prog 80=none∧tbool Tryz.prog 80=false∧(Program.underlying Tryz.prog 80).isSome=true∧flds Tryz.prog 80=none∧tarr Tryz.prog 80=some (4,57):=by and_intros <;> kernel_rfl
@[simp] theorem tsz_88:tsz Tryz.prog 88=some 3∧tby Tryz.prog 88=some 40∧tz Tryz.prog 88=some (.agg #[.int .i64 0,.bool false,.slice none 0 0])∧tagg Tryz.prog 88=some true∧tel Tryz.prog 88=none∧tbool Tryz.prog 88=false∧(Program.underlying Tryz.prog 88).isSome=true∧flds Tryz.prog 88=some [(0,1),(1,2)]:=by and_intros <;> kernel_rfl
@[simp] theorem tsz_89:tsz Tryz.prog 89=some 3∧tby Tryz.prog 89=some 40∧tz Tryz.prog 89=some (.agg #[.int .i64 0,.bool false,.slice none 0 0])∧tagg Tryz.prog 89=some true∧tel Tryz.prog 89=none∧tbool Tryz.prog 89=false∧(Program.underlying Tryz.prog 89).isSome=true∧flds Tryz.prog 89=some [(0,1),(1,2)]:=by and_intros <;> kernel_rfl
@[simp] theorem tsz_92:tsz Tryz.prog 92=some 1∧tby Tryz.prog 92=some 8∧tagg Tryz.prog 92=some false∧tel Tryz.prog 92=none∧tbool Tryz.prog 92=false∧(Program.underlying Tryz.prog 92).isSome=true∧tmp Tryz.prog 92=some (3,45):=by and_intros <;> kernel_rfl
@[simp] theorem tsz_96:tsz Tryz.prog 96=some 2∧tby Tryz.prog 96=some 32∧tz Tryz.prog 96=some (.agg #[.int .i64 0,.slice none 0 0])∧tagg Tryz.prog 96=some true∧tel Tryz.prog 96=none∧tbool Tryz.prog 96=false∧(Program.underlying Tryz.prog 96).isSome=true∧flds Tryz.prog 96=some [(0,1),(1,1)]:=by and_intros <;> kernel_rfl
@[simp] theorem tsz_97:tsz Tryz.prog 97=some 2∧tby Tryz.prog 97=some 32∧tz Tryz.prog 97=some (.agg #[.int .i64 0,.slice none 0 0])∧tagg Tryz.prog 97=some true∧tel Tryz.prog 97=none∧tbool Tryz.prog 97=false∧(Program.underlying Tryz.prog 97).isSome=true∧flds Tryz.prog 97=some [(0,1),(1,1)]:=by and_intros <;> kernel_rfl
@[simp] theorem tsz_99:tsz Tryz.prog 99=some 1∧tby Tryz.prog 99=some 24∧tz Tryz.prog 99=some (.slice none 0 0)∧tagg Tryz.prog 99=some false∧tel Tryz.prog 99=some 2∧tbool Tryz.prog 99=false∧(Program.underlying Tryz.prog 99).isSome=true:=by and_intros <;> kernel_rfl
@[simp] theorem tsz_101:tsz Tryz.prog 101=some 1∧tby Tryz.prog 101=some 8∧tagg Tryz.prog 101=some false∧tel Tryz.prog 101=none∧tbool Tryz.prog 101=false∧(Program.underlying Tryz.prog 101).isSome=true∧tmp Tryz.prog 101=some (3,3):=by and_intros <;> kernel_rfl
@[simp] theorem tsz_102:tsz Tryz.prog 102=some 1∧tby Tryz.prog 102=some 8∧tagg Tryz.prog 102=some false∧tel Tryz.prog 102=none∧tbool Tryz.prog 102=false∧(Program.underlying Tryz.prog 102).isSome=true∧tmp Tryz.prog 102=some (3,4):=by and_intros <;> kernel_rfl
@[simp] theorem tsz_112:tsz Tryz.prog 112=some 1∧tby Tryz.prog 112=some 24∧tz Tryz.prog 112=some (.slice none 0 0)∧tagg Tryz.prog 112=some false∧tel Tryz.prog 112=some 69∧tbool Tryz.prog 112=false∧(Program.underlying Tryz.prog 112).isSome=true:=by and_intros <;> kernel_rfl
@[simp] theorem tsz_113:tsz Tryz.prog 113=some 1∧tby Tryz.prog 113=some 24∧tz Tryz.prog 113=some (.slice none 0 0)∧tagg Tryz.prog 113=some false∧tel Tryz.prog 113=some 69∧tbool Tryz.prog 113=false∧(Program.underlying Tryz.prog 113).isSome=true:=by and_intros <;> kernel_rfl
@[simp] theorem tsz_119:tsz Tryz.prog 119=some 1∧tby Tryz.prog 119=some 8∧tz Tryz.prog 119=some (.int .u64 0)∧tagg Tryz.prog 119=some false∧tel Tryz.prog 119=none∧tbool Tryz.prog 119=false∧(Program.underlying Tryz.prog 119).isSome=true∧tint Tryz.prog 119=some .u64:=by and_intros <;> kernel_rfl
@[simp] theorem tsz_121:tsz Tryz.prog 121=some 1∧tby Tryz.prog 121=some 4∧tz Tryz.prog 121=some (.int .u32 0)∧tagg Tryz.prog 121=some false∧tel Tryz.prog 121=none∧tbool Tryz.prog 121=false∧(Program.underlying Tryz.prog 121).isSome=true∧tint Tryz.prog 121=some .u32:=by and_intros <;> kernel_rfl
@[simp] theorem tsz_122:tsz Tryz.prog 122=some 1∧tby Tryz.prog 122=some 8∧tz Tryz.prog 122=some (.int .u64 0)∧tagg Tryz.prog 122=some false∧tel Tryz.prog 122=none∧tbool Tryz.prog 122=false∧(Program.underlying Tryz.prog 122).isSome=true∧tint Tryz.prog 122=some .u64:=by and_intros <;> kernel_rfl
@[simp] theorem tsz_124:tsz Tryz.prog 124=some 2∧tby Tryz.prog 124=some 32∧tz Tryz.prog 124=some (.agg #[.int .i64 0,.slice none 0 0])∧tagg Tryz.prog 124=some true∧tel Tryz.prog 124=none∧tbool Tryz.prog 124=false∧(Program.underlying Tryz.prog 124).isSome=true∧flds Tryz.prog 124=some [(0,1),(1,1)]:=by and_intros <;> kernel_rfl
@[simp] theorem tsz_125:tsz Tryz.prog 125=some 2∧tby Tryz.prog 125=some 32∧tz Tryz.prog 125=some (.agg #[.int .i64 0,.slice none 0 0])∧tagg Tryz.prog 125=some true∧tel Tryz.prog 125=none∧tbool Tryz.prog 125=false∧(Program.underlying Tryz.prog 125).isSome=true∧flds Tryz.prog 125=some [(0,1),(1,1)]:=by and_intros <;> kernel_rfl
@[simp] theorem tsz_130:tsz Tryz.prog 130=some 1∧tby Tryz.prog 130=some 24∧tz Tryz.prog 130=some (.slice none 0 0)∧tagg Tryz.prog 130=some false∧tel Tryz.prog 130=some 45∧tbool Tryz.prog 130=false∧(Program.underlying Tryz.prog 130).isSome=true:=by and_intros <;> kernel_rfl
@[simp] theorem tsz_137:tsz Tryz.prog 137=some 1∧tby Tryz.prog 137=some 8∧tagg Tryz.prog 137=some false∧tel Tryz.prog 137=none∧tbool Tryz.prog 137=false∧(Program.underlying Tryz.prog 137).isSome=true∧tmp Tryz.prog 137=some (3,69):=by and_intros <;> kernel_rfl
@[simp] theorem tsz_138:tsz Tryz.prog 138=some 1∧tby Tryz.prog 138=some 8∧tagg Tryz.prog 138=some false∧tel Tryz.prog 138=none∧tbool Tryz.prog 138=false∧(Program.underlying Tryz.prog 138).isSome=true∧tmp Tryz.prog 138=some (3,69):=by and_intros <;> kernel_rfl
@[simp] theorem tsz_153:tsz Tryz.prog 153=some 1∧tby Tryz.prog 153=some 24∧tz Tryz.prog 153=some (.slice none 0 0)∧tagg Tryz.prog 153=some false∧tel Tryz.prog 153=some 112∧tbool Tryz.prog 153=false∧(Program.underlying Tryz.prog 153).isSome=true:=by and_intros <;> kernel_rfl
@[simp] theorem tsz_154:tsz Tryz.prog 154=some 3∧tby Tryz.prog 154=some 40∧tz Tryz.prog 154=some (.agg #[.int .i64 0,.int .i64 0,.slice none 0 0])∧tagg Tryz.prog 154=some true∧tel Tryz.prog 154=none∧tbool Tryz.prog 154=false∧(Program.underlying Tryz.prog 154).isSome=true∧flds Tryz.prog 154=some [(0,1),(1,1),(2,1)]:=by and_intros <;> kernel_rfl
@[simp] theorem tsz_155:tsz Tryz.prog 155=some 3∧tby Tryz.prog 155=some 40∧tz Tryz.prog 155=some (.agg #[.int .i64 0,.int .i64 0,.slice none 0 0])∧tagg Tryz.prog 155=some true∧tel Tryz.prog 155=none∧tbool Tryz.prog 155=false∧(Program.underlying Tryz.prog 155).isSome=true∧flds Tryz.prog 155=some [(0,1),(1,1),(2,1)]:=by and_intros <;> kernel_rfl
@[simp] theorem tsz_174:tsz Tryz.prog 174=some 1∧tby Tryz.prog 174=some 8∧tz Tryz.prog 174=some (.int .i64 0)∧tagg Tryz.prog 174=some false∧tel Tryz.prog 174=none∧tbool Tryz.prog 174=false∧(Program.underlying Tryz.prog 174).isSome=true∧tint Tryz.prog 174=some .i64:=by and_intros <;> kernel_rfl
@[simp] theorem tsz_185:tsz Tryz.prog 185=some 15∧tby Tryz.prog 185=some 200∧tz Tryz.prog 185=some (.agg #[.int .i64 0,.int .i64 0,.slice none 0 0,.int .i64 0,.int .i64 0,.slice none 0 0,.int .i64 0,.int .i64 0,.slice none 0 0,.int .i64 0,.int .i64 0,.slice none 0 0,.int .i64 0,.int .i64 0,.slice none 0 0])∧tagg Tryz.prog 185=some true∧tel Tryz.prog 185=none∧tbool Tryz.prog 185=false∧(Program.underlying Tryz.prog 185).isSome=true∧flds Tryz.prog 185=some [(0,3),(3,3),(6,3),(9,3),(12,3)]:=by and_intros <;> kernel_rfl
@[simp] theorem tsz_186:tsz Tryz.prog 186=some 15∧tby Tryz.prog 186=some 200∧tz Tryz.prog 186=some (.agg #[.int .i64 0,.int .i64 0,.slice none 0 0,.int .i64 0,.int .i64 0,.slice none 0 0,.int .i64 0,.int .i64 0,.slice none 0 0,.int .i64 0,.int .i64 0,.slice none 0 0,.int .i64 0,.int .i64 0,.slice none 0 0])∧tagg Tryz.prog 186=some true∧tel Tryz.prog 186=none∧tbool Tryz.prog 186=false∧(Program.underlying Tryz.prog 186).isSome=true∧flds Tryz.prog 186=some [(0,3),(3,3),(6,3),(9,3),(12,3)]:=by and_intros <;> kernel_rfl
@[simp] theorem tsz_188:tsz Tryz.prog 188=some 9∧tby Tryz.prog 188=some 120∧tz Tryz.prog 188=some (.agg #[.int .i64 0,.int .i64 0,.slice none 0 0,.int .i64 0,.int .i64 0,.slice none 0 0,.int .i64 0,.int .i64 0,.slice none 0 0])∧tagg Tryz.prog 188=some true∧tel Tryz.prog 188=none∧tbool Tryz.prog 188=false∧(Program.underlying Tryz.prog 188).isSome=true∧flds Tryz.prog 188=some [(0,3),(3,3),(6,3)]:=by and_intros <;> kernel_rfl
@[simp] theorem tsz_189:tsz Tryz.prog 189=some 9∧tby Tryz.prog 189=some 120∧tz Tryz.prog 189=some (.agg #[.int .i64 0,.int .i64 0,.slice none 0 0,.int .i64 0,.int .i64 0,.slice none 0 0,.int .i64 0,.int .i64 0,.slice none 0 0])∧tagg Tryz.prog 189=some true∧tel Tryz.prog 189=none∧tbool Tryz.prog 189=false∧(Program.underlying Tryz.prog 189).isSome=true∧flds Tryz.prog 189=some [(0,3),(3,3),(6,3)]:=by and_intros <;> kernel_rfl
@[simp] theorem tsz_194:tsz Tryz.prog 194=some 1∧tby Tryz.prog 194=some 8∧tz Tryz.prog 194=some (.int .u64 0)∧tagg Tryz.prog 194=some false∧tel Tryz.prog 194=none∧tbool Tryz.prog 194=false∧(Program.underlying Tryz.prog 194).isSome=true∧tint Tryz.prog 194=some .u64:=by and_intros <;> kernel_rfl
@[simp] theorem tsz_211:tsz Tryz.prog 211=some 9∧tby Tryz.prog 211=some 120∧tz Tryz.prog 211=some (.agg #[.int .i64 0,.int .i64 0,.slice none 0 0,.int .i64 0,.int .i64 0,.slice none 0 0,.int .i64 0,.int .i64 0,.slice none 0 0])∧tagg Tryz.prog 211=some true∧tel Tryz.prog 211=none∧tbool Tryz.prog 211=false∧(Program.underlying Tryz.prog 211).isSome=true∧flds Tryz.prog 211=some [(0,3),(3,3),(6,3)]:=by and_intros <;> kernel_rfl
@[simp] theorem tsz_212:tsz Tryz.prog 212=some 9∧tby Tryz.prog 212=some 120∧tz Tryz.prog 212=some (.agg #[.int .i64 0,.int .i64 0,.slice none 0 0,.int .i64 0,.int .i64 0,.slice none 0 0,.int .i64 0,.int .i64 0,.slice none 0 0])∧tagg Tryz.prog 212=some true∧tel Tryz.prog 212=none∧tbool Tryz.prog 212=false∧(Program.underlying Tryz.prog 212).isSome=true∧flds Tryz.prog 212=some [(0,3),(3,3),(6,3)]:=by and_intros <;> kernel_rfl
@[simp] theorem tsz_242:tsz Tryz.prog 242=some 0∧tby Tryz.prog 242=some 0∧tz Tryz.prog 242=some (.agg #[])∧tagg Tryz.prog 242=some true∧tel Tryz.prog 242=none∧tbool Tryz.prog 242=false∧(Program.underlying Tryz.prog 242).isSome=true∧flds Tryz.prog 242=none∧tarr Tryz.prog 242=some (0,16):=by and_intros <;> kernel_rfl
@[simp] theorem tsz_243:tsz Tryz.prog 243=some 0∧tby Tryz.prog 243=some 0∧tz Tryz.prog 243=some (.agg #[])∧tagg Tryz.prog 243=some true∧tel Tryz.prog 243=none∧tbool Tryz.prog 243=false∧(Program.underlying Tryz.prog 243).isSome=true∧flds Tryz.prog 243=some [(0,0)]:=by and_intros <;> kernel_rfl
@[simp] theorem tsz_244:tsz Tryz.prog 244=some 0∧tby Tryz.prog 244=some 0∧tz Tryz.prog 244=some (.agg #[])∧tagg Tryz.prog 244=some true∧tel Tryz.prog 244=none∧tbool Tryz.prog 244=false∧(Program.underlying Tryz.prog 244).isSome=true∧flds Tryz.prog 244=some [(0,0)]:=by and_intros <;> kernel_rfl
@[simp] theorem tsz_246:tsz Tryz.prog 246=some 1∧tby Tryz.prog 246=some 1∧tz Tryz.prog 246=some (.int .u8 0)∧tagg Tryz.prog 246=some false∧tel Tryz.prog 246=none∧tbool Tryz.prog 246=false∧(Program.underlying Tryz.prog 246).isSome=true∧tint Tryz.prog 246=some .u8:=by and_intros <;> kernel_rfl
@[simp] theorem tsz_247:tsz Tryz.prog 247=some 1∧tby Tryz.prog 247=some 1∧tz Tryz.prog 247=some (.int .u8 0)∧tagg Tryz.prog 247=some false∧tel Tryz.prog 247=none∧tbool Tryz.prog 247=false∧(Program.underlying Tryz.prog 247).isSome=true∧tint Tryz.prog 247=some .u8:=by and_intros <;> kernel_rfl
@[simp] theorem tsz_250:tsz Tryz.prog 250=some 1∧tby Tryz.prog 250=some 4∧tz Tryz.prog 250=some (.int .i32 0)∧tagg Tryz.prog 250=some false∧tel Tryz.prog 250=none∧tbool Tryz.prog 250=false∧(Program.underlying Tryz.prog 250).isSome=true∧tint Tryz.prog 250=some .i32:=by and_intros <;> kernel_rfl
@[simp] theorem tsz_251:tsz Tryz.prog 251=some 1∧tby Tryz.prog 251=some 4∧tz Tryz.prog 251=some (.int .i32 0)∧tagg Tryz.prog 251=some false∧tel Tryz.prog 251=none∧tbool Tryz.prog 251=false∧(Program.underlying Tryz.prog 251).isSome=true∧tint Tryz.prog 251=some .i32:=by and_intros <;> kernel_rfl
@[simp] theorem follows_mixed:Go.Tables.follows Go.Proofs.Tryz.prog.toTables .mixedOrders=true:=by kernel_rfl
end Go.Am
end

section
set_option linter.unusedVariables false
set_option linter.unusedSimpArgs false
open Go Go.Proofs
namespace Go.Am
@[simp] theorem newF_0:newF Tryz.prog 0=false∧mutF Tryz.prog 0=true∧newF Tryz.prog 1=false∧mutF Tryz.prog 1=true∧newF Tryz.prog 2=false∧mutF Tryz.prog 2=true∧newF Tryz.prog 3=false∧mutF Tryz.prog 3=false∧newF Tryz.prog 4=false∧mutF Tryz.prog 4=false∧newF Tryz.prog 5=false∧mutF Tryz.prog 5=false∧newF Tryz.prog 6=false∧mutF Tryz.prog 6=false∧newF Tryz.prog 7=false∧mutF Tryz.prog 7=false∧newF Tryz.prog 8=false∧mutF Tryz.prog 8=false∧newF Tryz.prog 9=false∧mutF Tryz.prog 9=false:=by and_intros <;> kernel_rfl
@[simp] theorem newF_10:newF Tryz.prog 10=false∧mutF Tryz.prog 10=false∧newF Tryz.prog 11=false∧mutF Tryz.prog 11=false∧newF Tryz.prog 12=false∧mutF Tryz.prog 12=false∧newF Tryz.prog 13=false∧mutF Tryz.prog 13=false∧newF Tryz.prog 14=false∧mutF Tryz.prog 14=false∧newF Tryz.prog 15=false∧mutF Tryz.prog 15=false∧newF Tryz.prog 16=false∧mutF Tryz.prog 16=false∧newF Tryz.prog 17=false∧mutF Tryz.prog 17=false∧newF Tryz.prog 18=false∧mutF Tryz.prog 18=false∧newF Tryz.prog 19=false∧mutF Tryz.prog 19=false:=by and_intros <;> kernel_rfl
@[simp] theorem newF_20:newF Tryz.prog 20=false∧mutF Tryz.prog 20=false∧newF Tryz.prog 21=false∧mutF Tryz.prog 21=false∧newF Tryz.prog 22=false∧mutF Tryz.prog 22=false∧newF Tryz.prog 23=false∧mutF Tryz.prog 23=false∧newF Tryz.prog 24=false∧mutF Tryz.prog 24=false∧newF Tryz.prog 25=false∧mutF Tryz.prog 25=false∧newF Tryz.prog 26=false∧mutF Tryz.prog 26=false∧newF Tryz.prog 27=false∧mutF Tryz.prog 27=false∧newF Tryz.prog 28=false∧mutF Tryz.prog 28=false∧newF Tryz.prog 29=false∧mutF Tryz.prog 29=false:=by and_intros <;> kernel_rfl
@[simp] theorem newF_30:newF Tryz.prog 30=false∧mutF Tryz.prog 30=false∧newF Tryz.prog 31=false∧mutF Tryz.prog 31=false∧newF Tryz.prog 32=false∧mutF Tryz.prog 32=false∧newF Tryz.prog 33=false∧mutF Tryz.prog 33=false∧newF Tryz.prog 34=false∧mutF Tryz.prog 34=false∧newF Tryz.prog 35=false∧mutF Tryz.prog 35=false∧newF Tryz.prog 36=false∧mutF Tryz.prog 36=false∧newF Tryz.prog 37=false∧mutF Tryz.prog 37=false∧newF Tryz.prog 38=false∧mutF Tryz.prog 38=false∧newF Tryz.prog 39=false∧mutF Tryz.prog 39=false:=by and_intros <;> kernel_rfl
@[simp] theorem newF_40:newF Tryz.prog 40=false∧mutF Tryz.prog 40=false∧newF Tryz.prog 41=false∧mutF Tryz.prog 41=false∧newF Tryz.prog 42=false∧mutF Tryz.prog 42=false∧newF Tryz.prog 43=false∧mutF Tryz.prog 43=true∧newF Tryz.prog 44=false∧mutF Tryz.prog 44=false∧newF Tryz.prog 45=false∧mutF Tryz.prog 45=false∧newF Tryz.prog 46=false∧mutF Tryz.prog 46=false∧newF Tryz.prog 47=false∧mutF Tryz.prog 47=false∧newF Tryz.prog 48=false∧mutF Tryz.prog 48=false∧newF Tryz.prog 49=false∧mutF Tryz.prog 49=false:=by and_intros <;> kernel_rfl
@[simp] theorem newF_50:newF Tryz.prog 50=false∧mutF Tryz.prog 50=false∧newF Tryz.prog 51=false∧mutF Tryz.prog 51=false∧newF Tryz.prog 52=false∧mutF Tryz.prog 52=false∧newF Tryz.prog 53=false∧mutF Tryz.prog 53=false∧newF Tryz.prog 54=false∧mutF Tryz.prog 54=true∧newF Tryz.prog 55=false∧mutF Tryz.prog 55=false∧newF Tryz.prog 56=false∧mutF Tryz.prog 56=false∧newF Tryz.prog 57=false∧mutF Tryz.prog 57=false∧newF Tryz.prog 58=false∧mutF Tryz.prog 58=false∧newF Tryz.prog 59=false∧mutF Tryz.prog 59=true:=by and_intros <;> kernel_rfl
@[simp] theorem newF_60:newF Tryz.prog 60=false∧mutF Tryz.prog 60=false∧newF Tryz.prog 61=false∧mutF Tryz.prog 61=false∧newF Tryz.prog 62=false∧mutF Tryz.prog 62=false∧newF Tryz.prog 63=false∧mutF Tryz.prog 63=false∧newF Tryz.prog 64=false∧mutF Tryz.prog 64=false∧newF Tryz.prog 65=false∧mutF Tryz.prog 65=true∧newF Tryz.prog 66=false∧mutF Tryz.prog 66=false∧newF Tryz.prog 67=true∧mutF Tryz.prog 67=false∧newF Tryz.prog 68=false∧mutF Tryz.prog 68=true∧newF Tryz.prog 69=false∧mutF Tryz.prog 69=false:=by and_intros <;> kernel_rfl
@[simp] theorem newF_70:newF Tryz.prog 70=false∧mutF Tryz.prog 70=false∧newF Tryz.prog 71=false∧mutF Tryz.prog 71=false∧newF Tryz.prog 72=false∧mutF Tryz.prog 72=false∧newF Tryz.prog 73=false∧mutF Tryz.prog 73=false∧newF Tryz.prog 74=false∧mutF Tryz.prog 74=false∧newF Tryz.prog 75=false∧mutF Tryz.prog 75=false∧newF Tryz.prog 76=false∧mutF Tryz.prog 76=false∧newF Tryz.prog 77=false∧mutF Tryz.prog 77=false∧newF Tryz.prog 78=false∧mutF Tryz.prog 78=false∧newF Tryz.prog 79=false∧mutF Tryz.prog 79=true:=by and_intros <;> kernel_rfl
@[simp] theorem newF_80:newF Tryz.prog 80=false∧mutF Tryz.prog 80=false∧newF Tryz.prog 81=false∧mutF Tryz.prog 81=false∧newF Tryz.prog 82=false∧mutF Tryz.prog 82=false∧newF Tryz.prog 83=false∧mutF Tryz.prog 83=false∧newF Tryz.prog 84=false∧mutF Tryz.prog 84=false∧newF Tryz.prog 85=false∧mutF Tryz.prog 85=false∧newF Tryz.prog 86=false∧mutF Tryz.prog 86=false∧newF Tryz.prog 87=false∧mutF Tryz.prog 87=false∧newF Tryz.prog 88=false∧mutF Tryz.prog 88=false∧newF Tryz.prog 89=false∧mutF Tryz.prog 89=false:=by and_intros <;> kernel_rfl
@[simp] theorem newF_90:newF Tryz.prog 90=false∧mutF Tryz.prog 90=false∧newF Tryz.prog 91=false∧mutF Tryz.prog 91=false∧newF Tryz.prog 92=false∧mutF Tryz.prog 92=false∧newF Tryz.prog 93=false∧mutF Tryz.prog 93=true∧newF Tryz.prog 94=false∧mutF Tryz.prog 94=true∧newF Tryz.prog 95=false∧mutF Tryz.prog 95=true∧newF Tryz.prog 96=false∧mutF Tryz.prog 96=false∧newF Tryz.prog 97=false∧mutF Tryz.prog 97=false∧newF Tryz.prog 98=false∧mutF Tryz.prog 98=false∧newF Tryz.prog 99=false∧mutF Tryz.prog 99=false:=by and_intros <;> kernel_rfl
@[simp] theorem newF_100:newF Tryz.prog 100=false∧mutF Tryz.prog 100=false∧newF Tryz.prog 101=false∧mutF Tryz.prog 101=false∧newF Tryz.prog 102=false∧mutF Tryz.prog 102=false∧newF Tryz.prog 103=false∧mutF Tryz.prog 103=false∧newF Tryz.prog 104=false∧mutF Tryz.prog 104=false∧newF Tryz.prog 105=false∧mutF Tryz.prog 105=true∧newF Tryz.prog 106=false∧mutF Tryz.prog 106=false∧newF Tryz.prog 107=false∧mutF Tryz.prog 107=false∧newF Tryz.prog 108=false∧mutF Tryz.prog 108=true∧newF Tryz.prog 109=false∧mutF Tryz.prog 109=false:=by and_intros <;> kernel_rfl
@[simp] theorem newF_110:newF Tryz.prog 110=false∧mutF Tryz.prog 110=false∧newF Tryz.prog 111=false∧mutF Tryz.prog 111=false∧newF Tryz.prog 112=false∧mutF Tryz.prog 112=false∧newF Tryz.prog 113=false∧mutF Tryz.prog 113=false∧newF Tryz.prog 114=false∧mutF Tryz.prog 114=false∧newF Tryz.prog 115=false∧mutF Tryz.prog 115=false∧newF Tryz.prog 116=false∧mutF Tryz.prog 116=false∧newF Tryz.prog 117=false∧mutF Tryz.prog 117=false∧newF Tryz.prog 118=false∧mutF Tryz.prog 118=false∧newF Tryz.prog 119=false∧mutF Tryz.prog 119=false:=by and_intros <;> kernel_rfl
@[simp] theorem newF_120:newF Tryz.prog 120=false∧mutF Tryz.prog 120=false∧newF Tryz.prog 121=false∧mutF Tryz.prog 121=false∧newF Tryz.prog 122=false∧mutF Tryz.prog 122=false∧newF Tryz.prog 123=false∧mutF Tryz.prog 123=false∧newF Tryz.prog 124=false∧mutF Tryz.prog 124=false∧newF Tryz.prog 125=false∧mutF Tryz.prog 125=false∧newF Tryz.prog 126=false∧mutF Tryz.prog 126=false∧newF Tryz.prog 127=false∧mutF Tryz.prog 127=true∧newF Tryz.prog 128=false∧mutF Tryz.prog 128=false∧newF Tryz.prog 129=false∧mutF Tryz.prog 129=false:=by and_intros <;> kernel_rfl
@[simp] theorem newF_130:newF Tryz.prog 130=false∧mutF Tryz.prog 130=true∧newF Tryz.prog 131=false∧mutF Tryz.prog 131=true∧newF Tryz.prog 132=false∧mutF Tryz.prog 132=true∧newF Tryz.prog 133=false∧mutF Tryz.prog 133=false∧newF Tryz.prog 134=false∧mutF Tryz.prog 134=true∧newF Tryz.prog 135=false∧mutF Tryz.prog 135=false∧newF Tryz.prog 136=false∧mutF Tryz.prog 136=false∧newF Tryz.prog 137=false∧mutF Tryz.prog 137=false∧newF Tryz.prog 138=false∧mutF Tryz.prog 138=false∧newF Tryz.prog 139=false∧mutF Tryz.prog 139=false:=by and_intros <;> kernel_rfl
@[simp] theorem newF_140:newF Tryz.prog 140=true∧mutF Tryz.prog 140=false∧newF Tryz.prog 141=false∧mutF Tryz.prog 141=false∧newF Tryz.prog 142=false∧mutF Tryz.prog 142=false∧newF Tryz.prog 143=false∧mutF Tryz.prog 143=false∧newF Tryz.prog 144=false∧mutF Tryz.prog 144=false∧newF Tryz.prog 145=false∧mutF Tryz.prog 145=false∧newF Tryz.prog 146=false∧mutF Tryz.prog 146=false∧newF Tryz.prog 147=false∧mutF Tryz.prog 147=false∧newF Tryz.prog 148=false∧mutF Tryz.prog 148=false∧newF Tryz.prog 149=false∧mutF Tryz.prog 149=false:=by and_intros <;> kernel_rfl
@[simp] theorem newF_150:newF Tryz.prog 150=false∧mutF Tryz.prog 150=false∧newF Tryz.prog 151=false∧mutF Tryz.prog 151=false∧newF Tryz.prog 152=false∧mutF Tryz.prog 152=true∧newF Tryz.prog 153=false∧mutF Tryz.prog 153=true∧newF Tryz.prog 154=false∧mutF Tryz.prog 154=false∧newF Tryz.prog 155=false∧mutF Tryz.prog 155=true∧newF Tryz.prog 156=false∧mutF Tryz.prog 156=false∧newF Tryz.prog 157=false∧mutF Tryz.prog 157=false∧newF Tryz.prog 158=false∧mutF Tryz.prog 158=false∧newF Tryz.prog 159=false∧mutF Tryz.prog 159=false:=by and_intros <;> kernel_rfl
@[simp] theorem newF_160:newF Tryz.prog 160=false∧mutF Tryz.prog 160=false∧newF Tryz.prog 161=true∧mutF Tryz.prog 161=false∧newF Tryz.prog 162=true∧mutF Tryz.prog 162=false∧newF Tryz.prog 163=false∧mutF Tryz.prog 163=false∧newF Tryz.prog 164=false∧mutF Tryz.prog 164=true∧newF Tryz.prog 165=false∧mutF Tryz.prog 165=true∧newF Tryz.prog 166=false∧mutF Tryz.prog 166=false∧newF Tryz.prog 167=false∧mutF Tryz.prog 167=false∧newF Tryz.prog 168=false∧mutF Tryz.prog 168=true∧newF Tryz.prog 169=false∧mutF Tryz.prog 169=true:=by and_intros <;> kernel_rfl
@[simp] theorem newF_170:newF Tryz.prog 170=true∧mutF Tryz.prog 170=false∧newF Tryz.prog 171=false∧mutF Tryz.prog 171=false∧newF Tryz.prog 172=false∧mutF Tryz.prog 172=true∧newF Tryz.prog 173=false∧mutF Tryz.prog 173=true∧newF Tryz.prog 174=false∧mutF Tryz.prog 174=true∧newF Tryz.prog 175=false∧mutF Tryz.prog 175=false∧newF Tryz.prog 176=false∧mutF Tryz.prog 176=false∧newF Tryz.prog 177=false∧mutF Tryz.prog 177=false∧newF Tryz.prog 178=false∧mutF Tryz.prog 178=true∧newF Tryz.prog 179=false∧mutF Tryz.prog 179=false:=by and_intros <;> kernel_rfl
@[simp] theorem newF_180:newF Tryz.prog 180=true∧mutF Tryz.prog 180=false∧newF Tryz.prog 181=false∧mutF Tryz.prog 181=true∧newF Tryz.prog 182=false∧mutF Tryz.prog 182=false∧newF Tryz.prog 183=false∧mutF Tryz.prog 183=true∧newF Tryz.prog 184=false∧mutF Tryz.prog 184=true∧newF Tryz.prog 185=false∧mutF Tryz.prog 185=false∧newF Tryz.prog 186=false∧mutF Tryz.prog 186=true∧newF Tryz.prog 187=false∧mutF Tryz.prog 187=true∧newF Tryz.prog 188=false∧mutF Tryz.prog 188=true∧newF Tryz.prog 189=false∧mutF Tryz.prog 189=false:=by and_intros <;> kernel_rfl
@[simp] theorem newF_190:newF Tryz.prog 190=false∧mutF Tryz.prog 190=true∧newF Tryz.prog 191=false∧mutF Tryz.prog 191=false∧newF Tryz.prog 192=false∧mutF Tryz.prog 192=false∧newF Tryz.prog 193=false∧mutF Tryz.prog 193=false∧newF Tryz.prog 194=false∧mutF Tryz.prog 194=false∧newF Tryz.prog 195=false∧mutF Tryz.prog 195=false∧newF Tryz.prog 196=false∧mutF Tryz.prog 196=false∧newF Tryz.prog 197=false∧mutF Tryz.prog 197=true∧newF Tryz.prog 198=false∧mutF Tryz.prog 198=false∧newF Tryz.prog 199=false∧mutF Tryz.prog 199=false:=by and_intros <;> kernel_rfl
@[simp] theorem newF_200:newF Tryz.prog 200=false∧mutF Tryz.prog 200=false∧newF Tryz.prog 201=false∧mutF Tryz.prog 201=false∧newF Tryz.prog 202=false∧mutF Tryz.prog 202=true∧newF Tryz.prog 203=false∧mutF Tryz.prog 203=false∧newF Tryz.prog 204=false∧mutF Tryz.prog 204=true∧newF Tryz.prog 205=false∧mutF Tryz.prog 205=false:=by and_intros <;> kernel_rfl
end Go.Am
end

section
set_option linter.unusedVariables false
set_option linter.unusedSimpArgs false
namespace Go.Proofs
open Go.RowKit Go.Maps Go.Sort Go.Shelf
def Tryz.keysB_ren:Go.Shelf.Ren:=⟨fun | 7=>127 | 10=>153 | n=>n,fun | 23=>138 | 26=>3 | 3=>69 | 28=>170 | 0=>0 | 27=>169 | 33=>151 | 4=>4 | n=>n,fun | n=>n⟩
theorem Tryz.keysB:Go.Proofs.SlLaysZI.n7 Tryz.prog Tryz.keysB_ren:={
 mixed:=by kernel_rfl,
 f7:=⟨Tryz.f127.name,by decide,Tryz.func127.trans (congrArg some (by kernel_rfl))⟩,
 f10:=⟨Tryz.f153.name,by decide,Tryz.func153.trans (congrArg some (by kernel_rfl))⟩,
 t0:=Tryz.underlying0,
 a0:=Tryz.isAgg0,
 z0:=Tryz.sizeOf0,
 v0:=Tryz.zeroValue0,
 t4:=Tryz.underlying4,
 a4:=Tryz.isAgg4,
 z4:=Tryz.sizeOf4,
 v4:=Tryz.zeroValue4,
 t23:=Tryz.underlying138,
 a23:=Tryz.isAgg138,
 z23:=Tryz.sizeOf138,
 v23:=Tryz.zeroValue138,
 t26:=Tryz.underlying3,
 a26:=Tryz.isAgg3,
 z26:=Tryz.sizeOf3,
 v26:=Tryz.zeroValue3,
 t27:=Tryz.underlying169,
 a27:=Tryz.isAgg169,
 z27:=Tryz.sizeOf169,
 v27:=Tryz.zeroValue169,
 t28:=Tryz.underlying170,
 a28:=Tryz.isAgg170,
 z28:=Tryz.sizeOf170,
 v28:=Tryz.zeroValue170,
 t33:=Tryz.underlying151,
 a33:=Tryz.isAgg151,
 z33:=Tryz.sizeOf151,
 v33:=Tryz.zeroValue151 }
def Tryz.sortedA_ren:Go.Shelf.Ren:=⟨fun | 6=>126 | 8=>151 | 9=>152 | 11=>177 | 13=>106 | 12=>178 | 23=>138 | 24=>139 | 14=>186 | 15=>187 | 16=>188 | 17=>189 | 18=>190 | 19=>191 | 20=>192 | 21=>193 | 22=>194 | 25=>197 | 26=>156 | 27=>157 | 28=>198 | 29=>199 | 30=>107 | 31=>200 | n=>n,fun | 26=>3 | 28=>170 | 24=>29 | 0=>0 | 3=>3 | 37=>122 | 48=>121 | 50=>119 | 4=>4 | 40=>175 | 39=>174 | 45=>133 | 5=>5 | 9=>9 | 51=>194 | 55=>198 | 57=>221 | 58=>202 | 33=>151 | n=>n,fun | n=>n⟩
theorem Tryz.sortedA:Go.Proofs.SlLaysZI.n6 Tryz.prog Tryz.sortedA_ren:={
 mixed:=by kernel_rfl,
 f6:=⟨Tryz.f126.name,by decide,Tryz.func126.trans (congrArg some (by kernel_rfl))⟩,
 f8:=⟨Tryz.f151.name,by decide,Tryz.func151.trans (congrArg some (by kernel_rfl))⟩,
 f11:=⟨Tryz.f177.name,by decide,Tryz.func177.trans (congrArg some (by kernel_rfl))⟩,
 t0:=Tryz.underlying0,
 a0:=Tryz.isAgg0,
 z0:=Tryz.sizeOf0,
 v0:=Tryz.zeroValue0,
 t24:=Tryz.underlying29,
 a24:=Tryz.isAgg29,
 z24:=Tryz.sizeOf29,
 v24:=Tryz.zeroValue29,
 t26:=Tryz.underlying3,
 a26:=Tryz.isAgg3,
 z26:=Tryz.sizeOf3,
 v26:=Tryz.zeroValue3,
 t28:=Tryz.underlying170,
 a28:=Tryz.isAgg170,
 z28:=Tryz.sizeOf170,
 v28:=Tryz.zeroValue170,
 i26:=by kernel_rfl }
def Tryz.sortA_ren:Go.Shelf.Ren:=⟨fun | 5=>152 | 8=>106 | 7=>178 | 19=>138 | 20=>139 | 10=>186 | 11=>187 | 12=>188 | 13=>189 | 14=>190 | 15=>191 | 16=>192 | 17=>193 | 18=>194 | 30=>197 | 31=>156 | 32=>157 | 33=>198 | 34=>199 | 35=>107 | 40=>200 | n=>n,fun | 23=>29 | 25=>3 | 3=>3 | 32=>122 | 22=>29 | 0=>0 | 44=>121 | 46=>119 | 4=>4 | 36=>175 | 35=>174 | 41=>133 | 5=>5 | 9=>9 | 53=>194 | 57=>198 | 63=>221 | 64=>202 | n=>n,fun | n=>n⟩
theorem Tryz.sortA:Go.Proofs.SlLaysM.n5 Tryz.prog Tryz.sortA_ren:={
 mixed:=by kernel_rfl,
 f5:=⟨Tryz.f152.name,by decide,Tryz.func152.trans (congrArg some (by kernel_rfl))⟩,
 f7:=⟨Tryz.f178.name,by decide,Tryz.func178.trans (congrArg some (by kernel_rfl))⟩,
 f8:=Tryz.func106.trans (congrArg some (by kernel_rfl)),
 f10:=⟨Tryz.f186.name,by decide,Tryz.func186.trans (congrArg some (by kernel_rfl))⟩,
 f11:=⟨Tryz.f187.name,by decide,Tryz.func187.trans (congrArg some (by kernel_rfl))⟩,
 f12:=⟨Tryz.f188.name,by decide,Tryz.func188.trans (congrArg some (by kernel_rfl))⟩,
 f13:=⟨Tryz.f189.name,by decide,Tryz.func189.trans (congrArg some (by kernel_rfl))⟩,
 f14:=⟨Tryz.f190.name,by decide,Tryz.func190.trans (congrArg some (by kernel_rfl))⟩,
 f15:=⟨Tryz.f191.name,by decide,Tryz.func191.trans (congrArg some (by kernel_rfl))⟩,
 f16:=⟨Tryz.f192.name,by decide,Tryz.func192.trans (congrArg some (by kernel_rfl))⟩,
 f17:=⟨Tryz.f193.name,by decide,Tryz.func193.trans (congrArg some (by kernel_rfl))⟩,
 f18:=⟨Tryz.f194.name,by decide,Tryz.func194.trans (congrArg some (by kernel_rfl))⟩,
 f19:=Tryz.func138.trans (congrArg some (by kernel_rfl)),
 f20:=Tryz.func139.trans (congrArg some (by kernel_rfl)),
 f30:=⟨Tryz.f197.name,by decide,Tryz.func197.trans (congrArg some (by kernel_rfl))⟩,
 f31:=Tryz.func156.trans (congrArg some (by kernel_rfl)),
 f32:=Tryz.func157.trans (congrArg some (by kernel_rfl)),
 f33:=⟨Tryz.f198.name,by decide,Tryz.func198.trans (congrArg some (by kernel_rfl))⟩,
 f34:=⟨Tryz.f199.name,by decide,Tryz.func199.trans (congrArg some (by kernel_rfl))⟩,
 f35:=⟨Tryz.f107.name,by decide,Tryz.func107.trans (congrArg some (by kernel_rfl))⟩,
 f40:=⟨Tryz.f200.name,by decide,Tryz.func200.trans (congrArg some (by kernel_rfl))⟩,
 t0:=Tryz.underlying0,
 a0:=Tryz.isAgg0,
 z0:=Tryz.sizeOf0,
 v0:=Tryz.zeroValue0,
 t3:=Tryz.underlying3,
 a3:=Tryz.isAgg3,
 z3:=Tryz.sizeOf3,
 v3:=Tryz.zeroValue3,
 t4:=Tryz.underlying4,
 a4:=Tryz.isAgg4,
 z4:=Tryz.sizeOf4,
 v4:=Tryz.zeroValue4,
 t5:=Tryz.underlying5,
 a5:=Tryz.isAgg5,
 z5:=Tryz.sizeOf5,
 v5:=Tryz.zeroValue5,
 t9:=Tryz.underlying9,
 a9:=Tryz.isAgg9,
 z9:=Tryz.sizeOf9,
 v9:=Tryz.zeroValue9,
 t22:=Tryz.underlying29,
 a22:=Tryz.isAgg29,
 z22:=Tryz.sizeOf29,
 v22:=Tryz.zeroValue29,
 t23:=Tryz.underlying29,
 a23:=Tryz.isAgg29,
 z23:=Tryz.sizeOf29,
 v23:=Tryz.zeroValue29,
 t25:=Tryz.underlying3,
 a25:=Tryz.isAgg3,
 z25:=Tryz.sizeOf3,
 v25:=Tryz.zeroValue3,
 t32:=Tryz.underlying122,
 a32:=Tryz.isAgg122,
 z32:=Tryz.sizeOf122,
 v32:=Tryz.zeroValue122,
 t35:=Tryz.underlying174,
 a35:=Tryz.isAgg174,
 z35:=Tryz.sizeOf174,
 v35:=Tryz.zeroValue174,
 t36:=Tryz.underlying175,
 a36:=Tryz.isAgg175,
 z36:=Tryz.sizeOf175,
 v36:=Tryz.zeroValue175,
 t41:=Tryz.underlying133,
 a41:=Tryz.isAgg133,
 z41:=Tryz.sizeOf133,
 v41:=Tryz.zeroValue133,
 t44:=Tryz.underlying121,
 a44:=Tryz.isAgg121,
 z44:=Tryz.sizeOf121,
 v44:=Tryz.zeroValue121,
 t46:=Tryz.underlying119,
 a46:=Tryz.isAgg119,
 z46:=Tryz.sizeOf119,
 v46:=Tryz.zeroValue119,
 t53:=Tryz.underlying194,
 a53:=Tryz.isAgg194,
 z53:=Tryz.sizeOf194,
 v53:=Tryz.zeroValue194,
 t57:=Tryz.underlying198,
 a57:=Tryz.isAgg198,
 z57:=Tryz.sizeOf198,
 v57:=Tryz.zeroValue198,
 t63:=Tryz.underlying221,
 a63:=Tryz.isAgg221,
 z63:=Tryz.sizeOf221,
 v63:=Tryz.zeroValue221,
 t64:=Tryz.underlying202,
 a64:=Tryz.isAgg202,
 z64:=Tryz.sizeOf202,
 v64:=Tryz.zeroValue202 }
theorem Tryz.sortsA (m:Nat):AnyZI.SortsIn Tryz.prog Tryz.sortedA_ren Fence.wide m :=
 ⟨fun blk off cap ss W hH hblk hsz=>callsIn_wide.2 (AnyM.slices_Sort_int Tryz.sortA blk off cap ss W hH hblk hsz),
 fun p cap W=>callsIn_wide.2 (AnyM.slices_Sort_int_none Tryz.sortA p cap W)⟩
theorem Tryz.keys106:Am.KeysSpec Tryz.prog 127 153:=fun W b =>
 ⟨fun w=>enters_of Tryz.func127 (by kernel_rfl) rfl _ w,(callsIn_wide (n:=5)).1 ((AnyZI.keys_in Tryz.keysB Fence.wide 5 trivial rfl (some b) W).mono (by rintro e w' ⟨rfl,rfl⟩; exact ⟨_,rfl,rfl⟩))⟩
theorem isort_perm:∀ l:List Int,(Am.isort l).Perm l
 | []=>.nil
 | n::l=>by
  have h1:∀ (m:List Int),(Am.ins n m).Perm (n::m):=by
   intro m
   induction m with
   | nil=>exact .refl _
   | cons x m ih =>
    unfold Am.ins
    split
    ·exact .refl _
    ·exact (ih.cons x).trans (.swap n x m)
  exact (h1 _).trans ((isort_perm l).cons n)
theorem isort_sorted:∀ l:List Int,(Am.isort l).Pairwise (fun a b=>a≤b)
 | []=>.nil
 | n::l=>by
  have h1:∀ (m:List Int),m.Pairwise (fun a b=>a≤b)→(Am.ins n m).Pairwise (fun a b=>a≤b):=by
   intro m
   induction m with
   | nil=>intro _; simp [Am.ins]
   | cons x m ih =>
    intro h
    unfold Am.ins
    have h':=List.pairwise_cons.1 h
    split
    ·rename_i hx
     exact List.pairwise_cons.2 ⟨fun a ha=>by
      rcases List.mem_cons.1 ha with rfl | ha
      ·exact hx
      ·exact Int.le_trans hx (h'.1 a ha),h⟩
    ·rename_i hx
     refine List.pairwise_cons.2 ⟨fun a ha=>?_,ih h'.2⟩
     have hp:(Am.ins n m).Perm (n::m):=by
      clear ih h h' ha
      induction m with
      | nil=>exact .refl _
      | cons y m ih =>
       unfold Am.ins
       split
       ·exact .refl _
       ·exact (ih.cons y).trans (.swap n y m)
     rcases List.mem_cons.1 (hp.mem_iff.1 ha) with rfl | ha
     ·omega
     ·exact h'.1 a ha
  exact h1 _ (isort_sorted l)
theorem mergeSort_isort (ss ks:List Int) (h:ss.Perm ks):ss.mergeSort (fun x y=>decide (x≤y))=Am.isort ks:=by
 have tr:∀ a b c:Int,decide (a≤b)=true→decide (b≤c)=true→decide (a≤c)=true:=fun a b c h1 h2=>by simp only [decide_eq_true_eq] at *; exact Int.le_trans h1 h2
 have to:∀ a b:Int,(decide (a≤b) || decide (b≤a))=true:=fun a b=>by simp only [Bool.or_eq_true,decide_eq_true_eq]; exact Int.le_total a b
 refine List.Perm.eq_of_pairwise (le:=fun a b=>decide (a≤b)=true) (fun a b _ _ h1 h2=>?_) (List.pairwise_mergeSort tr to ss) ((isort_sorted ks).imp fun h=>by simpa using h) (((List.mergeSort_perm ss _).trans h).trans (isort_perm ks).symm)
 simp only [decide_eq_true_eq] at h1 h2
 exact Int.le_antisymm h1 h2
theorem keyOf_ok {P:Program} {k:TypeId} (hk:P.underlying k=some (.int .i64)) {n:Int} (hn:Am.inr n=true):keyOf P k (.int .i64 n)=some (.int .i64 n):=by
 have hw:(Lit.int .i64 n).wf=true:=by
  have hmin:IntKind.i64.min=-9223372036854775808:=rfl
  have hmax:IntKind.i64.max=9223372036854775807:=rfl
  simp only [Am.inr,decide_eq_true_eq] at hn
  simp only [Lit.wf,Bool.and_eq_true,decide_eq_true_eq]
  omega
 simp [keyOf,hk,mapKey,hw]
set_option maxRecDepth 20000 in
theorem sorted_core (f g:FuncId) (T3:TypeId) (hk3:Tryz.prog.underlying T3=some (.int .i64)) (hent:∀ args w,(callFunc f args).run Tryz.prog w=.ok (.enter f args) w)
  (hS:∀ (lb:Array Value) (S:List Int→Prop) (N:Nat),N≤maxLen→N * 8≤140737488355328→∀ w,SeqGives Fence.wide 2 Tryz.prog g lb encZ S N w→CallsIn Fence.wide 5 Tryz.prog f #[.func (.func g) #[] lb] w fun e w' =>
   ∃ v ss,e=.returned v∧S ss∧w'.ownsRow w.heap.size T3 1 v ss.length ((ss.mergeSort fun x y=>decide (x≤y)).map encZ)∧(v=.slice none 0 0↔ss=[])∧Below w.heap.size w w')
  (hG:∀ (Bm b nn:Nat) (D0:DataW Unit) (R:Value→Option (DataW Unit × List MemPlace)) (w:World),Bm<w.heap.size→w.cell? ⟨Bm,0,none⟩=some (.map (some b))→w.ownsMap Tryz.prog T3 R b nn D0 →
   SeqGives Fence.wide 2 Tryz.prog g #[.pointer (some ⟨Bm,0,none⟩)] encZ (fun ss=>ss.Perm (intKeys D0)) (Maps.size D0) w):Am.SortedSpec Tryz.prog f g:=by
 intro W b p e ks ents clock hb hst hkeys hp hlen hr
 refine ⟨fun w=>hent _ w,(callsIn_wide (n:=5)).1 ?_⟩
 have hpl:p<W.heap.size:=(Array.getElem?_eq_some_iff.1 hp).1
 have hcell:W.cell? ⟨p,0,none⟩=some (.map (some b)):=by
  rw [show W.cell? ⟨p,0,none⟩=(#[Value.map (some b)]:Array Value)[0]? from cell_of_row W p 0 _ e (0,0) hp]; rfl
 have hsz:ents.size=ks.length:=by have:=congrArg List.length hkeys; simpa using this
 let R:Value→Option (DataW Unit × List MemPlace):=fun _=>some (.nil,[])
 have hrd:∀ x∈ents.toList,∃ n,n∈ks∧x.key=.int .i64 n∧WideElems.rd Tryz.prog T3 R x=some (.int .i64 n,.nil):=by
  intro x hx
  have:x.key∈ks.map (.int .i64 ·):=by rw [← hkeys]; exact List.mem_map_of_mem hx
  obtain ⟨n,hn,he⟩:=List.mem_map.1 this
  refine ⟨n,hn,he.symm,?_⟩
  simp [WideElems.rd,← he,keyOf_ok hk3 (List.all_eq_true.1 hr n hn),R]
 have hfit:WideElems.Fit Tryz.prog T3 R ents clock:=⟨by rw [hsz]; simp only [maxLen]; omega,hst,fun x hx=>let ⟨n,_,_,h⟩:=hrd x hx; ⟨_,h⟩⟩
 have hks2:∀ (l:List MapEntry) (k:List Int),l.map (·.key)=k.map (.int .i64 ·)→(∀ x∈l,∃ n,n∈ks∧x.key=.int .i64 n∧WideElems.rd Tryz.prog T3 R x=some (.int .i64 n,.nil))→(l.map (WideElems.rg Tryz.prog T3 R)).map (fun q=>Go.intOf q.1)=k:=by
  intro l
  induction l with
  | nil=>intro k hk _; cases k with
   | nil=>rfl
   | cons=>simp at hk
  | cons x l ih =>
   intro k hk h
   cases k with
   | nil=>simp at hk
   | cons m k =>
    simp only [List.map_cons,List.cons.injEq] at hk ⊢
    refine ⟨?_,ih k hk.2 fun y hy=>h y (List.mem_cons_of_mem _ hy)⟩
    obtain ⟨n,_,hxn,hxr⟩:=h x (List.mem_cons_self ..)
    rw [hxn] at hk
    have:=hk.1
    injection this with _ this
    simp [WideElems.rg,hxr,Go.intOf,this]
 have hD:(intKeys (.map ((ents.toList.map (WideElems.rg Tryz.prog T3 R)).foldr DataW.insert []))).Perm ks:=by
  show (((ents.toList.map (WideElems.rg Tryz.prog T3 R)).foldr DataW.insert []).map fun q=>Go.intOf q.1).Perm ks
  have h1:=(WideShapes.sorted_perm (ents.toList.map (WideElems.rg Tryz.prog T3 R))).map (fun q:Lit × DataW Unit=>Go.intOf q.1)
  rwa [hks2 _ ks hkeys hrd] at h1
 have hN:Maps.size (.map ((ents.toList.map (WideElems.rg Tryz.prog T3 R)).foldr DataW.insert []):DataW Unit)=ks.length:=by
  have:=hD.length_eq
  simpa [intKeys,Maps.size] using this
 have hseq:=hG p b ents.size (.map ((ents.toList.map (WideElems.rg Tryz.prog T3 R)).foldr DataW.insert [])) R W hpl hcell ⟨ents,clock,hb,hfit,Nat.le_refl _,rfl⟩
 rw [hN] at hseq
 refine (hS _ _ _ (by simp only [maxLen]; omega) (by omega) W hseq).mono ?_
 rintro e' w' ⟨v,ss,rfl,hperm,hrow,hnil,hbl⟩
 refine ⟨v,rfl,hbl,?_⟩
 rw [mergeSort_isort ss ks (hperm.trans hD)] at hrow
 have hssl:ss.length=ks.length:=(hperm.trans hD).length_eq
 obtain ⟨hl,⟨rfl,h0⟩ | ⟨gg,cap,cur,rfl,hg,hheap,h1,h2,h3,h4⟩⟩:=hrow
 ·have:Am.isort ks=[]:=by
   apply List.eq_nil_of_length_eq_zero
   simp at hl; omega
  rw [this]
  exact .sl0 _ _
 ·have hil:(Am.isort ks).length=ss.length:=by simpa using hl
  refine .sl _ ⟨gg,0,none⟩ _ _ 1 (fun j=>.int .i64 ((Am.isort ks).getD j 0)) (by simp [hil]) h1 (fun cs hcs=>by obtain ⟨n,_,rfl⟩:=List.mem_map.1 hcs; rfl) ⟨hg,(Array.getElem?_eq_some_iff.1 hheap).1⟩ (fun j hj=>?_) (fun j k cs c hj hk=>?_)
  ·rw [Am.add_mk,cell_of_row w' gg _ cur T3 (0,0) hheap,Nat.zero_add]
   have:cur.toList[j]? = ((Am.isort ks).map encZ)[j]? := by
    rw [← h4,List.getElem?_take,if_pos (by omega)]
   rw [← Array.getElem?_toList,this,List.getElem?_map]
   have hj2:j<(Am.isort ks).length:=by omega
   simp [List.getElem?_eq_getElem hj2,List.getD_eq_getElem?_getD]
  ·rw [List.getElem?_map] at hj
   obtain ⟨n,hn,rfl⟩:=Option.map_eq_some_iff.1 hj
   rcases k with _ | k
   ·simp at hk; subst hk
    simp only [Nat.mul_one,Nat.add_zero,List.getD_eq_getElem?_getD,hn,Option.getD_some]
    exact .i _ _
   ·simp at hk
set_option maxRecDepth 20000 in
set_option maxRecDepth 20000 in
theorem Tryz.sorted122:Am.SortedSpec Tryz.prog 126 153 :=
 sorted_core 126 153 3 (by kernel_rfl) (fun args w=>enters_of Tryz.func126 (by kernel_rfl) rfl args w)
  (fun lb S N h1 h2 w hs=>AnyZI.sorted_in Tryz.sortedA Fence.wide 5 trivial trivial trivial trivial rfl (by omega) (Tryz.sortsA _) (enters_of Tryz.func152 (by kernel_rfl) rfl) 153 lb trivial (enters_of Tryz.func153 (by kernel_rfl) rfl) S N h1 h2 w hs)
  (fun Bm b nn D0 R w h1 h2 h3=>AnyZI.keys_gives (ρ:=Tryz.keysB_ren) { Tryz.keysB with } Fence.wide _ trivial rfl (by omega) Bm b nn D0 w h1 h2 h3)
end Go.Proofs
end

section
set_option linter.unusedVariables false
set_option linter.unusedSimpArgs false
open Go Go.Am Go.Proofs
namespace Go.Am
def clOk (els:List (List D)):Bool:=els.all (fun cs=>match cs with | [d]=>one (.d d) | _=>false) && decide (els.length≤1099511627776)
set_option maxRecDepth 10000 in
theorem clone_any (els:List (List D)) (h:clOk els=true):Spec Tryz.prog 103 [.sl els] (.sl els):=by
 have hone:∀ els:List (List D),els.all (fun cs=>match cs with | [d]=>one (.d d) | _=>false)=true→(els.flatten.map AV.d).all one=true∧els.flatten.length=els.length∧okHead 1 els=true ∧
   chunk 1 els.length els.flatten=els:=by
  intro els h
  have key:∃ ds:List D,els=ds.map (fun d=>[d])∧(ds.map AV.d).all one=true:=by
   induction els with
   | nil=>exact ⟨[],rfl,rfl⟩
   | cons c l ih =>
    simp only [List.all_cons,Bool.and_eq_true] at h
    obtain ⟨ds,hds,hd1⟩:=ih h.2
    have h1:=h.1
    split at h1
    ·rename_i d; exact ⟨d::ds,by rw [hds]; rfl,by simp only [List.map_cons,List.all_cons,Bool.and_eq_true]; exact ⟨h1,hd1⟩⟩
    ·cases h1
  obtain ⟨ds,rfl,hd1⟩:=key
  have hfl:(ds.map (fun d=>[d])).flatten=ds:=by simp [← List.flatMap_def]
  rw [hfl]
  refine ⟨hd1,by simp,by cases ds <;> simp [okHead],?_⟩
  simp only [chunk,List.length_map]
  refine List.ext_getElem (by simp) fun i h1 h2=>?_
  simp at h1 h2
  simp [List.take_one,List.head?_drop,h1]
 simp only [clOk,Bool.and_eq_true,decide_eq_true_eq] at h
 obtain ⟨q1,q2,q3,q4⟩:=hone els h.1
 refine spec_of (N:=8) follows_mixed Tryz.func103 rfl rfl rfl (by kernel_rfl) (by kernel_rfl) (by simp) ?_
 show AWP Tryz.prog (.seq _ (.seq (.seq _ (.cond _ _ _)) (.seq (.region _ _ _) _))) _ _
 have hb:∀ b,isNilA (.d (.sl els))=some b→b=none∧els=[]∨b=some false:=by
  intro b hb
  cases els with
  | nil=>simp [isNilA] at hb; exact .inl ⟨hb.symm,rfl⟩
  | cons=>simp [isNilA] at hb; exact .inr hb.symm
 have hl:els.length≤1099511627776:=h.2
 have e1:(els.flatten.map AV.d).length=els.length:=by rw [List.length_map]; exact q2
 cases els with
 | nil =>
  simp [AWP,OW,O1,wantedA,kind,nev,oev,St0,cv,cv1,putA,upd,addB,cnt,fin,Γ0,nilA,pureA,isNilA,nilB,inj1,appA,srcA,okHead,fillA,resD,res1,frzs,Tryz.f103,Option.bind,kill,chunk,Value.cells,Value.oneCell',scrub,scrub1,scrub0,scrubO,maxLen,frz]
 | cons x l =>
  generalize hE:x::l=els at *
  have hn:isNilA (.d (.sl els))=some (some false):=by rw [← hE]; rfl
  have m1:∀ (H:Nat→Option HO) n,(els.flatten.map AV.d).mapM (frz H (n+1))=some els.flatten:=fun H n=>mapM_d H n _
  have m2:∀ l,(els.flatten.map AV.d).map (scrub0 l)=els.flatten.map AV.d:=fun l=>scrub_map l _
  have hsrc:∀ H,srcA H 1 (.d (.sl els))=some (els.length,els.flatten.map AV.d):=fun H=>by
   simp only [srcA]; rw [if_pos ⟨q3,q1⟩]
  generalize els.flatten.map AV.d=cs at *
  generalize els.flatten=fl at *
  have m3:cs.map (fun x=>scrub0 [1] x)=cs:=m2 [1]
  have p1:els.length * 4≤140737488355328:=by omega
  have p2:els.length≤9223372036854775807:=by omega
  have e2:cs.take els.length=cs:=by rw [← e1]; exact List.take_length
  simp [AWP,OW,O1,wantedA,kind,nev,oev,St0,cv,cv1,putA,upd,addB,cnt,fin,Γ0,nilA,pureA,hn,nilB,inj1,appA,hsrc,fillA,resD,res1,frzs,Tryz.f103,kill,Value.cells,Value.oneCell',scrub,scrub1,maxLen,p1,p2]
  simp [scrub0,frz_own,scrubO,e1,e2,m2,m1,q4]
theorem rec93:RecSpec Tryz.prog 93:=by
 refine ⟨fun w=>enters_of Tryz.func93 (by kernel_rfl) rfl _ w,fun w=>?_⟩
 refine callsD_of_wpS Tryz.func93 rfl fun c₀ cs hu=>?_
 apply wpS_region
 simp [wpOpsS,go_sem,recoverD,hu,Tryz.ntmps93,bodyPostS,results,Tryz.results93]
 cases c₀; simp only at hu; subst hu; rfl
theorem rec108:RecSpec Tryz.prog 108:=by
 refine ⟨fun w=>enters_of Tryz.func108 (by kernel_rfl) rfl _ w,fun w=>?_⟩
 refine callsD_of_wpS Tryz.func108 rfl fun c₀ cs hu=>?_
 apply wpS_region
 simp [wpOpsS,go_sem,recoverD,hu,Tryz.ntmps108,bodyPostS,results,Tryz.results108]
 cases c₀; simp only at hu; subst hu; rfl
def E0:Kn where
 call:=fun f ds=>if f=103 then (match ds with | [.sl els]=>if clOk els then some (.sl els) else none | _=>none) else none
 ocall:=fun _ _ _ _=>none
 keys:=fun f=>if f=127 then some 153 else none
 sorted:=fun f g=>f == 126 && g == 153
 recs:=fun g=>[
  93,
  108,
  ].contains g
theorem E0_ok:KnOk Tryz.prog E0:=by
 refine ⟨fun f ds r h=>?_,fun f h o ds o' r h'=>(by cases h'),fun f g h=>?_,fun f g h=>?_,fun g h=>?_⟩
 ·simp only [E0] at h
  split at h
  ·rename_i hf; subst hf
   split at h
   ·split at h
    ·rename_i hc; injection h with h; subst h; exact clone_any _ hc
    ·cases h
   ·cases h
  ·cases h
 ·simp only [E0] at h
  split at h
  ·rename_i hf; subst hf; injection h with h; subst h; exact Tryz.keys106
  ·cases h
 ·simp only [E0,Bool.and_eq_true,beq_iff_eq] at h
  obtain ⟨rfl,rfl⟩:=h
  exact Tryz.sorted122
 ·simp only [E0,List.contains_eq_mem,decide_eq_true_eq] at h
  simp only [List.mem_cons,List.not_mem_nil,or_false] at h
  rcases h with rfl | rfl | rfl | rfl | rfl | rfl | rfl | rfl
  ·exact rec93
  ·exact rec108
end Go.Am
end

section
set_option linter.unusedVariables false
set_option linter.unusedSimpArgs false
namespace Go.Am
attribute [simp] condP_b condP_ub isKf bindP_some finP_nil finP_cons ite_db nilB isNilA St0 lay_cons rep_flat lms_rep rep_lms ifD_true ifD_false frzs allOne_nil allOne_cons mapM_d7 chunk_0 chunk_1 chunk_2 kills_none kills_b kills_i kills_tp
 kills_ag kills_sl viss_nil viss_cons vis_d vis_nil vis_fd vis_ag vis_data vis_own visC_cells List.flatMap_nil scrub_map mapM_d6 lms_flat lms_all lms_all' lms_len nv_nilCheck chkA_ptr chkA_fp nv_move nv_assign nv_pick nv_alloc nv_box nv_build plc_def nv_buildSlice
 nv_makeSlice nv_binOp nv_unOp nv_convert nv_fieldAddr nv_indexAddr nv_extract nv_slice nv_len maxC_i minC_i nv_max nv_min nv_field nv_makeMap pureA_some StL_Γ StL_H StL_HO StL_n sltF_ap sltF_nil blkF_ap blkF_nil oev_tmp oev_i oev_b
 oev_nil oev_agg cv1_i cv1_b cv1_nil cells_agg cells_i cells_b cells_sl oneC_i oneC_b oneC_sl one_db one_di one_dsl one_nil one_own one_ptr one_mp one_fd one_fp cellsA_db cellsA_di cellsA_dsl cellsA_nil cellsA_own cellsA_ptr cellsA_mp
 cellsA_fd cellsA_ag cellsA_dag agOf_ag agOf_dag tpOf_tp tpOf_dtp intOfA_i boolOfA_b optI_none optI_some lenA_dsl lenA_fd lenA_nil lenA_own fieldA_ptr fieldA_fp indexS_dsl indexS_fd indexS_own indexP_ptr indexP_fp binA_b binA_add binA_sub
 binA_mul binA_quo binA_rem binA_eql binA_neq binA_lss binA_leq binA_gtr binA_geq binA_shl binA_shr binA_nilr unA_not unA_neg nilA_none nilA_nil inj1_b inj1_i inj1_sl inj1_ag inj_b inj_i inj_sl inj_ag inj_tp scrub_d scrub_nil scrub_un
 scrub_any scrub_own scrub_ptr scrub_mp scrub_fp scrub_fd scrub_ag scrub_tp scrub0_d scrub0_nil scrub0_un scrub0_any scrub0_own scrub0_ptr scrubO_data srcA_nil srcA_dsl srcA_fd srcA_own srcOwn_cells okHead_nil okHead_cons appA_def ownOf_fd appC_fd
 ownOf_own ownOf_nil appC_nil appC_own loadA_ptr ldC_cells loadA_fp storeA_ptr stC_cells res1_tmp res1_cell resD_one kill_nil kill_one addB_none addB_some cnt_none cnt_some putA_some putA_none upd_ap fillA_nil fillA_cons fillC_some
 sliceA_dsl sliceA_fd wantedA_some Γ0_get okHead_encM scrubO_cells frz_own frz_d frz_nil frz_fd frz_ag slotsOk blksOk rhoL sub_d_iff sub_own_iff sub_ptr_iff sub_mp_iff sub_nil sub_un subO_cells cellsOk subL_d subL_nil subL_un cellsOk_map
 cellsOk_same
theorem KW:type_of% (And.intro @awp_skip (And.intro @awp_regionB (And.intro @awp_seq (And.intro @awp_block (And.intro @awp_exit (And.intro @awp_ret (And.intro @awp_label (And.intro @awp_scope (And.intro @awp_condB (And.intro @awp_loopB (And.intro @ow_nil' (And.intro @ow_cons0 (And.intro @ow_cons1 (And.intro @o1_move (And.intro @o1_nilCheck (And.intro @o1_assign (And.intro @o1_pick (And.intro @o1_alloc (And.intro @o1_box (And.intro @o1_build (And.intro @o1_buildSlice (And.intro @o1_makeSlice (And.intro @o1_makeMap (And.intro @o1_binOp (And.intro @o1_unOp (And.intro @o1_convert (And.intro @o1_fieldAddr (And.intro @o1_field (And.intro @o1_indexAddr (And.intro @o1_extract (And.intro @o1_slice (And.intro @o1_len (And.intro @o1_max (And.intro @o1_min (And.intro @o1_load (And.intro @o1_lookup (And.intro @o1_store (And.intro @o1_mapUpdate (And.intro @o1_insert (And.intro @o1_append (And.intro @o1_delete (@o1_call)))))))))))))))))))))))))))))))))))))))))) :=
 And.intro @awp_skip (And.intro @awp_regionB (And.intro @awp_seq (And.intro @awp_block (And.intro @awp_exit (And.intro @awp_ret (And.intro @awp_label (And.intro @awp_scope (And.intro @awp_condB (And.intro @awp_loopB (And.intro @ow_nil' (And.intro @ow_cons0 (And.intro @ow_cons1 (And.intro @o1_move (And.intro @o1_nilCheck (And.intro @o1_assign (And.intro @o1_pick (And.intro @o1_alloc (And.intro @o1_box (And.intro @o1_build (And.intro @o1_buildSlice (And.intro @o1_makeSlice (And.intro @o1_makeMap (And.intro @o1_binOp (And.intro @o1_unOp (And.intro @o1_convert (And.intro @o1_fieldAddr (And.intro @o1_field (And.intro @o1_indexAddr (And.intro @o1_extract (And.intro @o1_slice (And.intro @o1_len (And.intro @o1_max (And.intro @o1_min (And.intro @o1_load (And.intro @o1_lookup (And.intro @o1_store (And.intro @o1_mapUpdate (And.intro @o1_insert (And.intro @o1_append (And.intro @o1_delete (@o1_call)))))))))))))))))))))))))))))))))))))))))
end Go.Am
end

section
set_option linter.unusedVariables false
set_option linter.unusedSimpArgs false
namespace Go.Am
open RowKit (Below)
def OA (P:Program) (ops:Array Oper) (k:St→Prop):Nat→Array Bool→St→Prop
 | 0,listed,σ=>Region.ready .any ops listed=[]∧k σ
 | fuel+1,listed,σ=>(Region.ready .any ops listed=[]→k σ)∧∀ i∈Region.ready .any ops listed,match ops[i]? with
   | none=>OA P ops k fuel (listed.setIfInBounds i true) σ
   | some o=>OW P ops [o] σ [] fun σ' con=>OA P ops k fuel (listed.setIfInBounds i true) (fin σ' con)
section
variable {P:Program} {G:Ctx} {N:Nat} {ds:List Deferred} {ops:Array Oper}
theorem OA_sound {Q:St→Prop} {Q':Exit→Act→World→Prop} (hno:noNext ops.toList=true) (hdst:∀ (i:Nat) (o:Oper) (d:Tmp),ops[i]? = some o→o.dst=some d→d<N∧G.Z d=none) (hQ:∀ σ a w,Q σ→SR G N ds σ a w→Q' .normal a w) :
  ∀ (fuel:Nat) (listed:Array Bool) (σ:St) (a:Act) (w:World),SR G N ds σ a w→OA P ops Q fuel listed σ→wpA P ops Q' fuel listed a w
 | 0,_,σ,a,w,hs,h=>⟨h.1,hQ σ a w h.2 hs⟩
 | fuel+1,listed,σ,a,w,hs,h=>by
  refine ⟨fun h0=>hQ σ a w (h.1 h0) hs,fun i hi=>?_⟩
  have h1:=h.2 i hi
  split
  ·rename_i ho
   simp only [ho] at h1
   exact OA_sound hno hdst hQ fuel _ σ a w hs h1
  ·rename_i o ho
   simp only [ho] at h1
   obtain ⟨hn0,hwf,hag⟩:=SR_agree hs
   obtain ⟨fb,hfb⟩:=OW_sound (G:=G) [o] σ [] (by
    have h0:o∈ops.toList:=by rw [Array.mem_toList_iff]; exact Array.mem_of_getElem? ho
    have:=List.all_eq_true.1 hno o h0
    simpa [noNext] using this) hn0 hwf h1
   obtain ⟨g1,g2⟩:=hag (fun i=>if i<σ.n then σ.H i else fb i) (fun i o hi=>by
    rcases Nat.lt_or_ge i σ.n with hlt | hge
    ·rw [if_pos hlt]; exact hi
    ·rw [hwf.top i hge] at hi; cases hi)
   obtain ⟨s',hd,σ',con',hoa,hn',hwf',hag'⟩:=hfb _ g1 (fun i hi=>by simp only; rw [if_neg (by omega)])
   exact does_sound (K:=wpA P ops Q' fuel (listed.setIfInBounds i true)) (Q':=Q') hd (fun d h=>hdst i o d ho h) g2 fun a' w' hr'=>OA_sound hno hdst hQ fuel _ _ a' w' (SR_fin hn' hwf' hag' hr') hoa
def TailP (P:Program):Code→St→(St→Prop)→Prop
 | .region _ ops true,σ,k=>OA P ops k ops.size (Array.replicate ops.size false) σ
 | _,_,_=>False
def AWPL (P:Program):Code→St→(Exit→St→Prop)→Prop
 | .seq x (.seq y z),σ,Q=>AWP P x σ fun e σ'=>match e with | .normal=>AWPL P (.seq y z) σ' Q | e=>Q e σ'
 | .seq x .ret,σ,Q=>TailP P x σ (Q .ret)
 | _,_,_=>False
def codeLexL (P:Program):Code→Bool
 | .seq x (.seq y z)=>codeLex P x && codeLexL P (.seq y z)
 | .seq (.region _ ops true) .ret=>noNext ops.toList
 | _=>false
theorem AWPL_sound (hm:P.follows .mixedOrders=true) (hZ:∀ d,G.Z d=none):∀ (c:Code) (Q:Exit→St→Prop) (σ:St) (a:Act) (w:World),codeDst N c=true→codeLexL P c=true→AWPL P c σ Q→SR G N ds σ a w →
  c.wp P (fun e a' w'=>∃ σ',Q e σ'∧SR G N ds σ' a' w') a w:=by
 intro c
 induction c with
 | seq x y ihx ihy =>
  intro Q σ a w hd hl h hs
  simp only [codeDst,Bool.and_eq_true] at hd
  cases y with
  | seq y z =>
   simp only [codeLexL,Bool.and_eq_true] at hl
   refine wp_seq (wp_mono (AWP_sound hm hZ x _ σ a w hd.1 hl.1 h hs) ?_)
   rintro e a' w' ⟨σ',hq,hs'⟩
   cases e with
   | normal=>exact ihy Q σ' a' w' hd.2 hl.2 hq hs'
   | _=>exact ⟨σ',hq,hs'⟩
  | ret =>
   unfold codeLexL at hl
   split at hl
   ·rename_i he; cases he
   ·rename_i id ops he
    injection he with he1 _; subst he1
    have h':OA P ops (Q .ret) ops.size (Array.replicate ops.size false) σ:=h
    refine wp_seq ((WpR.plain P).regA hm (fun e=>by cases e) (OA_sound (Q:=Q .ret) (N:=N) (ds:=ds) (G:=G) hl (fun i o d hi hd'=>⟨opsDst_spec hd.1 i o d hi hd',hZ d⟩) (fun σ' a' w' hq hs'=>?_) _ _ σ _ _ ?_ h'))
    ·exact wp_ret ⟨σ',hq,hs'⟩
    ·obtain ⟨q1,q2,F,ι,hR,hdom,hV,hN,hds,hp⟩:=hs
     have hs:Step F w ι F { w with drawn:=w.drawn+1 } ι:=⟨fun _ h=>h,fun _ _=>rfl,fun _ _ h=>h,fun _ _ cur _ _ h=>⟨cur,h,rfl⟩⟩
     refine ⟨q1,q2,F,ι,⟨hR.kept.trans ⟨rfl,rfl,rfl,Nat.le_refl _,fun _ _ _=>rfl,fun _ cur _ _ h=>⟨cur,h,rfl⟩⟩,hR.F_lt,hR.F_ok,hR.place,fun id b o h1 h2=>?_,hR.inj,hR.len⟩,hdom,fun t=>(hV t).step hs,hN,hds,hp⟩
     obtain ⟨ob,h3,h4⟩:=hR.obj id b o h1 h2
     exact ⟨ob,h3,h4.step hs⟩
   ·cases hl
  | _=>exact h.elim
 | _=>intro Q σ a w _ _ h; exact h.elim
theorem spec_ofL {f N:Nat} {fn:Func} {c:Code} {args:List D} {r:D} (hm:P.follows .mixedOrders=true) (hf:P.funcs[f]? = some fn) (hb:fn.body=some c) (hname:(fn.name == "runtime.NumGoroutine")=false) (hN:fn.ntmps=N)
  (hd:codeDst N c=true) (hl':codeLexL P c=true) (ha:args.length≤N) (h:AWPL P c (St0 args N) fun e σ=>(e=.normal∨e=.ret)∧resD P fn.results.toList σ=some r):Spec P f args r:=by
 intro A W vs hA hl hv
 have hn:¬ fn.name = "runtime.NumGoroutine" := by simpa using hname
 refine ⟨fun w=>by simp [callFunc,hf,hn,hb],?_⟩
 refine calls_of_wp hf hb ?_
 subst hN
 refine wp_mono (AWPL_sound hm (fun _=>rfl) c _ _ _ _ hd hl' h (SR0 hA hl hv ha)) ?_
 rintro e a w ⟨σ,⟨he,hr⟩,hs⟩
 obtain ⟨v,hrun,hvd⟩:=run_results hs hr
 obtain ⟨_,_,F,ι,hR,_,_,_,hdf,_⟩:=hs
 have hend:a.defers=[]∧∃ v,(results fn a.tmps).run P w=.ok v w∧∃ v',Ending.returned v=.returned v'∧Below W.heap.size W w∧VD (fun b=>A b∨(W.heap.size≤b∧b<w.heap.size)) w r v':=by
  refine ⟨hdf,v,hrun,v,rfl,⟨hR.kept.os,hR.kept.tape,hR.kept.output,hR.kept.size,fun k hk=>hR.kept.block k hk (fun h=>h)⟩,hvd.mono ?_⟩
  rintro b (h | h | h)
  ·exact .inl h
  ·exact h.elim
  ·exact .inr h
 rcases he with rfl | rfl <;> exact hend
def OAd (P:Program) (ops:Array Oper) (k:St→Prop) (fuel:Nat) (listed:Array Bool) (σ:St) (_:Dm (ops,k)):Prop:=OA P ops k fuel listed σ
theorem awpl_seqB (x y z:Code) (σ:St) (Q:Exit→St→Prop):AWPL P (.seq x (.seq y z)) σ Q=AWP P x σ fun e σ'=>match e with | .normal=>AWPL P (.seq y z) σ' Q | e=>Q e σ':=rfl
theorem awpl_retB (id:Nat) (l:List Oper) (σ:St) (Q:Exit→St→Prop):AWPL P (.seq (.region id l.toArray true) .ret) σ Q=OAd P l.toArray (Q .ret) l.length (Array.replicate l.length false) σ .mk:=rfl
theorem oa_one {k:St→Prop} {fuel:Nat} {listed:Array Bool} {σ:St} {d:Dm (ops,k)} (i:Nat) {o:Oper} (hr:Region.ready .any ops listed=[i]) (ho:ops[i]? = some o)
  (h:OWd P ops [o] σ [] (fun σ' con=>FinP σ' con (fun σ2=>OAd P ops k fuel (listed.setIfInBounds i true) σ2 .mk) .mk) .mk):OAd P ops k (fuel+1) listed σ d:=by
 refine ⟨fun e=>(by rw [hr] at e; cases e),fun j hj=>?_⟩
 rw [hr] at hj
 simp only [List.mem_singleton] at hj
 subst hj
 simp only [ho]; exact h
theorem oa_two {k:St→Prop} {fuel:Nat} {listed:Array Bool} {σ:St} {d:Dm (ops,k)} (i j:Nat) {o o':Oper} (hr:Region.ready .any ops listed=[i,j]) (ho:ops[i]? = some o) (ho':ops[j]? = some o')
  (h:OWd P ops [o] σ [] (fun σ' con=>FinP σ' con (fun σ2=>OAd P ops k fuel (listed.setIfInBounds i true) σ2 .mk) .mk) .mk)
  (h':OWd P ops [o'] σ [] (fun σ' con=>FinP σ' con (fun σ2=>OAd P ops k fuel (listed.setIfInBounds j true) σ2 .mk) .mk) .mk):OAd P ops k (fuel+1) listed σ d:=by
 refine ⟨fun e=>(by rw [hr] at e; cases e),fun m hm=>?_⟩
 rw [hr] at hm
 simp only [List.mem_cons,List.mem_nil_iff,or_false] at hm
 rcases hm with rfl | rfl
 ·simp only [ho]; exact h
 ·simp only [ho']; exact h'
theorem oa_end {k:St→Prop} {listed:Array Bool} {σ:St} {d:Dm (ops,k)} (hr:Region.ready .any ops listed=[]) (h:k σ):OAd P ops k 0 listed σ d:=⟨hr,h⟩
end
end Go.Am
end

section
set_option linter.unusedVariables false
set_option linter.unusedSimpArgs false
namespace Go.Am
open RowKit (Below)
variable {P:Program}
theorem run_oneG {G:Ctx} {fn:Func} {σ:St} {a:Act} {w:World} {rv:ResultVar} {av:AV} {F:Nat→Prop} {ι:Nat→Option Nat} (hR:HR G F w ι none' σ.H) (hV:∀ t,V F w ι (σ.Γ t) (a.tmps.getD t undef)) (hres:fn.results.toList=[rv]) (h:res1 P σ rv=some av) :
  ∃ v,(results fn a.tmps).run P w=.ok v w∧V F w ι av v:=by
 cases rv with
 | cell ad t=>exact run_one hR hV hres h
 | tmp t =>
  simp only [res1,Option.some.injEq] at h
  subst h
  refine ⟨a.tmps.getD t undef,?_,hV t⟩
  have h1':([ResultVar.tmp t].mapM (m:=Sem) fun | .tmp t=>pure (a.tmps.getD t undef) | .cell ad t=>do loadVar t (← asAddr (a.tmps.getD ad undef))).run P w=.ok [a.tmps.getD t undef] w:=by
   simp only [List.mapM_cons,List.mapM_nil,Sem.run_bind,Result.andThen_ok,Sem.run_pure]
  simp only [results,Array.mapM_eq_mapM_toList,Sem.run_bind,Sem.run_map,hres]
  erw [h1']
  simp
theorem nspec_of {f N:Nat} {fn:Func} {c:Code} {args:List D} {v:Nat→AV} {hs:Nat→List HO} {rv:ResultVar} (hm:P.follows .mixedOrders=true) (hf:P.funcs[f]? = some fn) (hb:fn.body=some c) (hname:(fn.name == "runtime.NumGoroutine")=false)
  (hN:fn.ntmps=N) (hN0:0<N) (hd:codeDst N c=true) (hl':codeLex P c=true) (ha:args.length≤N) (hres:fn.results.toList=[rv])
  (h:AWP P c (St0 args N) fun e σ=>(e=.normal∨e=.ret)∧BindP (res1 P σ rv) (fun av=>∀ m,0<m→∃ ρ,Wk ⟨upd σ.Γ 0 av,σ.H,σ.n⟩ (outS v hs m) ρ) .mk):NSpec P f args v hs:=by
 intro A W vs hA hl hv
 have hn:¬ fn.name = "runtime.NumGoroutine" := by simpa using hname
 refine ⟨fun w=>by simp [callFunc,hf,hn,hb],?_⟩
 refine calls_of_wp hf hb ?_
 subst hN
 refine wp_mono (AWP_sound hm (fun _=>rfl) c _ _ _ _ hd hl' h (SR0 hA hl hv ha)) ?_
 rintro e a w ⟨σ,⟨he,hr⟩,hs1⟩
 obtain ⟨htop,hn0,F,ι,hR,hdom,hV,hN2,hdf,hp⟩:=hs1
 cases hav:res1 P σ rv with
 | none=>rw [hav] at hr; exact hr.elim
 | some av =>
 rw [hav] at hr
 simp only [BindP] at hr
 obtain ⟨u,hrun,hvu⟩:=run_oneG hR hV hres hav
 have hput:SR ⟨W,A,none',fun _=>True,fun _=>none⟩ fn.ntmps [] ⟨upd σ.Γ 0 av,σ.H,σ.n⟩ (a.put (some 0) u) w:=by
  refine ⟨htop,hn0,F,ι,hR,hdom,fun t'=>?_,⟨by simp [Act.put,hN2.1],fun _ _ h=>by cases h⟩,by simp [Act.put,hdf],hp⟩
  rw [getD_put a (some 0) u (fun d hd=>by injection hd with hd; subst hd; rw [hN2.1]; exact hN0) t']
  by_cases e0:t'=0
  ·subst e0; rw [if_pos rfl]; simp only [upd_same]; exact hvu
  ·rw [if_neg (fun e=>e0 (by injection e with e; exact e.symm))]; simp only; rw [upd_ne _ _ e0]; exact hV t'
 have hend:a.defers=[]∧∃ u,(results fn a.tmps).run P w=.ok u w∧∃ u',Ending.returned u=.returned u'∧Below W.heap.size W w∧∀ m,0<m→∃ (F:Nat→Prop) (ι:Nat→Option Nat),
   (∀ b,F b→A b∨(W.heap.size≤b∧b<w.heap.size))∧V F w ι (v m) u'∧(∀ id,(∃ b,ι id=some b)↔(m≤id∧id<m+(hs m).length)) ∧
   (∀ id b,ι id=some b→W.heap.size≤b∧b<w.heap.size∧¬ F b) ∧
   (∀ i o b,(hs m)[i]? = some o→ι (m+i)=some b→∃ ob,w.heap[b]? = some ob∧CR F w ι o ob) ∧
   (∀ id id' b,ι id=some b→ι id'=some b→id=id'):=by
  refine ⟨hdf,u,hrun,u,rfl,⟨hR.kept.os,hR.kept.tape,hR.kept.output,hR.kept.size,fun k hk=>hR.kept.block k hk (fun h=>h)⟩,fun m hm0=>?_⟩
  obtain ⟨ρ,hw⟩:=hr m hm0
  obtain ⟨_,_,F2,ι2,hR2,hdom2,hV2,_,_,_⟩:=SR_weak hw hput
  have hout:∀ id,((outS v hs m).H id).isSome=true↔(m≤id∧id<m+(hs m).length):=fun id=>by
   simp only [outS,extB]
   by_cases hr:m≤id∧id<m+(hs m).length
   ·rw [if_pos hr,List.getElem?_eq_getElem (by omega)]; simp [hr]
   ·rw [if_neg hr]; simp [hr]
  refine ⟨F2,ι2,fun b hb'=>?_,?_,fun id=>by rw [hdom2,hout],fun id b hb'=>?_,fun i o b ho hb'=>?_,fun id id' b e1 e2=>hR2.inj id id' b e1 e2 (fun h=>h) (fun h=>h)⟩
  ·rcases hR2.F_ok b hb' with h | h | h
   ·exact .inl h
   ·exact h.elim
   ·exact .inr ⟨h,hR2.F_lt b hb'⟩
  ·have:=hV2 0
   rw [getD_put a (some 0) u (fun d hd=>by injection hd with hd; subst hd; rw [hN2.1]; exact hN0) 0,if_pos rfl] at this
   simpa [outS,upd_same] using this
  ·obtain ⟨q1,q2,q3⟩:=hR2.place id b hb'
   rcases q1 with q1 | q1
   ·exact q1.elim
   ·exact ⟨q1,q2,q3 (fun h=>h)⟩
  ·have hi:=(List.getElem?_eq_some_iff.1 ho).1
   refine hR2.obj (m+i) b o hb' ?_
   simp only [outS,extB]
   rw [if_pos ⟨by omega,by omega⟩,show m+i - m=i by omega]; exact ho
 rcases he with rfl | rfl <;> exact hend
end Go.Am
end

section
set_option linter.unusedVariables false
set_option linter.unusedSimpArgs false
open List (map_map mapM_map)
open Go Go.Am Go.Proofs
namespace Go.Am
theorem strip_take_last {raw:List Nat} {n:Nat} (hn:n<raw.length) (h0:raw[n]≠0):strip (raw.take (n+1))=raw.take (n+1):=by
 refine strip_canon ?_
 rw [List.take_add_one,List.getElem?_eq_getElem hn,Canon,Option.toList_some,List.getLast?_append]
 simp [h0]
theorem strip_take_zero {raw:List Nat} {n:Nat} (hn:n<raw.length) (h0:raw[n]=0):strip (raw.take (n+1))=strip (raw.take n):=by
 rw [List.take_add_one,List.getElem?_eq_getElem hn,h0]
 exact strip_app_zero _
set_option maxRecDepth 10000 in
theorem r01Made (raw:List Nat) (neg:Bool) (hl:raw.length≤1099511627776):Spec Tryz.prog 78 [encM raw,.b neg] (encI (neg && decide (strip raw≠[])) (strip raw)):=by
 refine spec_of (N:=31) follows_mixed Tryz.func78 rfl rfl rfl (by kernel_rfl) (by kernel_rfl) (by simp) ?_
 simp (maxSteps:=1000000) [-map_map,-mapM_map,↓KW,encM]
 refine loopP_intro (τ:={ n:Nat // n≤raw.length∧strip (raw.take n)=strip raw }) (S:=fun n=>StL [(0,.d (encM raw)),(1,.d (.b neg)),(4,.ptr 1 0),(5,.d (.i .i64 n.1))] none [.cells 69 [.d (.b false),.nil]]) (m:=fun n=>n.1) ⟨raw.length,Nat.le_refl _,by simp⟩ ?_ ?_
 ·refine wk_l [1] (by simp) ?_ ?_
  ·simp [-map_map,upd,inj1,Γ0,encM]
  ·simp [-map_map,upd,inj1,Γ0]
 ·rintro ⟨n,hn,hs⟩
  rcases n with _ | n
  ·have hs':strip raw=[]:=hs.symm
   cases neg <;> simp (maxSteps:=1000000) [-map_map,-mapM_map,↓KW,encM,encI,hs',chunk]
  ·have hx:raw[n]? = some raw[n]:=List.getElem?_eq_getElem hn
   have hw:IntKind.i64.wrap (n:Int)=n:=wrap_i64 (by omega) (by omega)
   have hp:(0:Int)<(n:Int)+1:=by omega
   by_cases h0:raw[n]=0
   ·simp (maxSteps:=1000000) [-map_map,-mapM_map,↓KW,encM,hx,hw,h0,hp]
    refine ⟨n,by omega,⟨by omega,(strip_take_zero hn h0).symm.trans hs⟩,.inr (wk_l [1] (by simp) ?_ ?_)⟩ <;> simp [-map_map,upd,inj1,Γ0,encM]
   ·have h1:((raw[n]:Int) == 0)=false:=by simp; omega
    have he:strip raw=raw.take (n+1):=hs.symm.trans (strip_take_last hn h0)
    have hp2:(0:Int)≤(n:Int)+1:=by omega
    have hn':(n:Int)+1≤raw.length:=by omega
    obtain ⟨pre,hpre⟩:∃ pre,raw.take (n+1)=pre:=⟨_,rfl⟩
    have hpl:pre.length=n+1:=by rw [← hpre]; simp; omega
    have hp1:∀ f:Nat→List D,(raw.map f).take (n+1)=pre.map f:=fun f=>by rw [← hpre,List.map_take]
    have hpn:pre≠[]:=fun e=>by rw [e] at hpl; cases hpl
    rw [hpre] at he
    have hb:(n+1) * 4≤140737488355328:=by omega
    have hb2:n+1≤maxLen:=by unfold maxLen; omega
    cases neg <;> simp (maxSteps:=1000000) [-map_map,-mapM_map,↓KW,encM,encI,hx,hw,h1,hp,hp2,he,hn',hp1,hpl,hpn,chunk_lms hpl,lms_take_all hpl,lms_flat,lms_all,lms_len,hb,hb2]
theorem made_encZ {raw:List Nat} (h:Lim raw) (neg:Bool):encI (neg && decide (strip raw≠[])) (strip raw)=encZ (sg neg (val raw)):=by
 rw [strip_digs h,← encI_sg]
 simp [digs_eq_nil]
set_option maxRecDepth 10000 in
theorem r01Of (n:Int) (h1:-9223372036854775808≤n) (h2:n<9223372036854775808):Spec Tryz.prog 28 [.i .i64 n] (encZ n):=by
 refine spec_of (N:=19) follows_mixed Tryz.func28 rfl rfl rfl (by kernel_rfl) (by kernel_rfl) (by simp) ?_
 have key:∀ (u:Nat),u<18446744073709551616→∃ lo hi:Nat,Lim [lo,hi]∧val [lo,hi]=u∧IntKind.u32.wrap (u:Int)=lo∧shiftA .shr .u64 (u:Int) 32=some (.i .u64 hi)∧IntKind.u32.wrap (hi:Int)=hi:=fun u hu=>by
  refine ⟨u % 4294967296,u / 4294967296,.cons (by omega) (.one (by omega)),by simp only [val]; omega,by rw [wrap_u32m]; omega,?_,by rw [wrap_u32 (by omega) (by omega)]⟩
  simp only [shiftA,IntKind.bits]
  rw [if_neg (by decide)]
  congr 2
  rw [show (2:Int) ^ (min (32:Int).toNat 64)=4294967296 from by decide,Int.fdiv_eq_ediv_of_nonneg _ (by decide)]
  omega
 by_cases hn:n<0
 ·obtain ⟨u,hu⟩:∃ u:Nat,n=-(u:Int):=⟨n.natAbs,by omega⟩
  have hu2:u<18446744073709551616:=by omega
  have e1:IntKind.u64.wrap n=n+18446744073709551616:=by rw [wrap_u64m]; omega
  have e2:IntKind.u64.wrap (-(n+18446744073709551616))=(u:Int):=by rw [wrap_u64m]; omega
  obtain ⟨lo,hi,k1,k2,e3,e4,e5⟩:=key u hu2
  simp (maxSteps:=1000000) [-map_map,-mapM_map,↓KW,hn,e1,e2,e3,e4,e5]
  have hm:=r01Made [lo,hi] true (by simp)
  rw [made_encZ k1,k2,show sg true u=n by simp [sg]; omega] at hm
  refine callP_intro (ds:=[encM [lo,hi],.b true]) ?_ hm ?_
  ·simp (maxSteps:=1000000) [-map_map,-mapM_map,↓KW,encM]
  ·simp (maxSteps:=1000000) [-map_map,-mapM_map,↓KW,encM,encZ,encI]
 ·obtain ⟨u,rfl⟩:∃ u:Nat,n=(u:Int):=⟨n.natAbs,by omega⟩
  have hu2:u<18446744073709551616:=by omega
  have e1:IntKind.u64.wrap (u:Int)=u:=wrap_u64 (by omega) (by omega)
  obtain ⟨lo,hi,k1,k2,e3,e4,e5⟩:=key u hu2
  simp (maxSteps:=1000000) [-map_map,-mapM_map,↓KW,hn,e1,e3,e4,e5]
  have hm:=r01Made [lo,hi] false (by simp)
  rw [made_encZ k1,k2,show sg false u=u by simp [sg]] at hm
  refine callP_intro (ds:=[encM [lo,hi],.b false]) ?_ hm ?_
  ·simp (maxSteps:=1000000) [-map_map,-mapM_map,↓KW,encM]
  ·simp (maxSteps:=1000000) [-map_map,-mapM_map,↓KW,encM,encZ,encI]
end Go.Am
end

section
set_option linter.unusedVariables false
set_option linter.unusedSimpArgs false
open List (map_map mapM_map)
open Go Go.Am Go.Proofs
namespace Go.Am
set_option maxRecDepth 10000 in
theorem r01Sign (neg:Bool) (m:List Nat):Spec Tryz.prog 63 [encI neg m] (.i .i64 (if m=[] then 0 else if neg then -1 else 1)):=by
 refine spec_of (N:=9) follows_mixed Tryz.func63 rfl rfl rfl (by kernel_rfl) (by kernel_rfl) (by simp) ?_
 cases m with
 | nil=>simp (maxSteps:=1000000) [-map_map,-mapM_map,↓KW,encI,encM]
 | cons x m =>
  have h1:(((m.length:Int)+1 == 0):Bool)=false:=by simp; omega
  cases neg <;> simp (maxSteps:=1000000) [-map_map,-mapM_map,↓KW,encI,encM,h1]
theorem r01SignZ (z:Int):Spec Tryz.prog 63 [encZ z] (.i .i64 z.sign):=by
 have:=r01Sign (decide (z<0)) (digs z.natAbs)
 have e:(if digs z.natAbs=[] then (0:Int) else if (decide (z<0))=true then -1 else 1)=z.sign:=by
  simp only [digs_eq_nil]
  rcases Int.lt_trichotomy z 0 with h | h | h
  ·rw [if_neg (by omega),if_pos (by simpa using h),Int.sign_eq_neg_one_of_neg h]
  ·subst h; rfl
  ·rw [if_neg (by omega),if_neg (by simp; omega),Int.sign_eq_one_of_pos h]
 rwa [e] at this
set_option maxRecDepth 10000 in
theorem r01Valid (neg:Bool) (m:List Nat) (hl:m.length≤1099511627776):Spec Tryz.prog 96 [encI neg m] (.b (match m.getLast? with | some x=>x != 0 | none=>!neg)):=by
 refine spec_of (N:=19) follows_mixed Tryz.func96 rfl rfl rfl (by kernel_rfl) (by kernel_rfl) (by simp) ?_
 rcases List.eq_nil_or_concat m with rfl | ⟨m',x,rfl⟩
 ·simp (maxSteps:=1000000) [-map_map,-mapM_map,↓KW,encI,encM]
 ·have hw:IntKind.i64.wrap (m'.length:Int)=m'.length:=by simp at hl; rw [wrap_i64] <;> omega
  have h1:(((m'.length:Int)+1 == 0):Bool)=false:=by simp; omega
  have hg:(List.map (fun (x:Nat)=>[D.i .u32 (x:Int)]) m'++[[D.i .u32 (x:Int)]])[m'.length]? = some [D.i .u32 (x:Int)]:=by
   rw [List.getElem?_append_right (by simp)]; simp
  simp (maxSteps:=1000000) [-map_map,-mapM_map,↓KW,encI,encM,hw,h1,hg]
  rw [Bool.eq_iff_iff]; simp
theorem r01ValidZ (z:Int) (hl:(digs z.natAbs).length≤1099511627776):Spec Tryz.prog 96 [encZ z] (.b true):=by
 have:=r01Valid (decide (z<0)) (digs z.natAbs) hl
 have e:(match (digs z.natAbs).getLast? with | some x=>x != 0 | none=>!(decide (z<0)))=true:=by
  have hc:=canon_digs z.natAbs
  unfold Canon at hc
  cases h:(digs z.natAbs).getLast? with
  | none =>
   have:=digs_eq_nil.1 (List.getLast?_eq_none_iff.1 h)
   simp; omega
  | some x=>rw [h] at hc; simpa using hc
 rwa [e] at this
def lessL (a b:List Nat):Bool:=if a.length=b.length then decide (val a<val b) else decide (a.length<b.length)
theorem lessL_digs (x y:Nat):lessL (digs x) (digs y)=decide (x<y):=by
 unfold lessL
 by_cases h:(digs x).length=(digs y).length
 ·rw [if_pos h,val_digs,val_digs]
 ·rw [if_neg h]
  by_cases h1:(digs x).length<(digs y).length
  ·simp [h1,lt_of_len_lt h1]
  ·have:=lt_of_len_lt (a:=y) (b:=x) (by omega)
   simp only [h1,decide_false]
   simp; omega
set_option maxRecDepth 10000 in
theorem r01less (a b:List Nat) (ha:Lim a) (hb:Lim b) (hla:a.length≤1099511627776) (hlb:b.length≤1099511627776):Spec Tryz.prog 97 [encM a,encM b] (.b (lessL a b)):=by
 refine spec_of (N:=41) follows_mixed Tryz.func97 rfl rfl rfl (by kernel_rfl) (by kernel_rfl) (by simp) ?_
 by_cases hn:a.length=b.length
 rotate_left
 ·have h1:(((a.length:Int) != b.length):Bool)=true:=by simp; omega
  simp (maxSteps:=1000000) [-map_map,-mapM_map,↓KW,encM,h1,lessL,hn]
 ·have h1:(((a.length:Int) != b.length):Bool)=false:=by simp; omega
  have hw:IntKind.i64.wrap ((a.length:Int) - 1)=(a.length:Int) - 1:=wrap_i64 (by omega) (by omega)
  simp (maxSteps:=1000000) [-map_map,-mapM_map,↓KW,encM,h1,hw]
  refine loopP_intro (τ:={ k:Nat // k≤a.length∧a.drop k=b.drop k }) (S:=fun k=>StL [(0,.d (encM a)),(1,.d (encM b)),(5,.d (.i .i64 ((k.1:Int) - 1)))] none []) (m:=fun k=>k.1) ⟨a.length,Nat.le_refl _,by rw [List.drop_eq_nil_of_le (Nat.le_refl _),List.drop_eq_nil_of_le (by omega)]⟩ ?_ ?_
  ·refine wk_l [] (by simp) ?_ ?_ <;> simp [-map_map,upd,inj1,Γ0,encM]
  ·rintro ⟨k,hk,hd⟩
   rcases k with _ | k
   ·have e:a=b:=by simpa using hd
    subst e
    simp (maxSteps:=1000000) [-map_map,-mapM_map,↓KW,encM,lessL]
   ·have hkb:k<b.length:=by omega
    have hxa:a[k]? = some a[k]:=List.getElem?_eq_getElem hk
    have hxb:b[k]? = some b[k]:=List.getElem?_eq_getElem hkb
    have hw2:IntKind.i64.wrap ((k:Int) - 1)=(k:Int) - 1:=wrap_i64 (by omega) (by omega)
    have hp:(0:Int)≤k:=by omega
    by_cases he:a[k]=b[k]
    ·have h2:(((a[k]:Int) != (b[k]:Int)):Bool)=false:=by simp [he]
     simp (maxSteps:=1000000) [-map_map,-mapM_map,↓KW,encM,hxa,hxb,hw2,hp,h2]
     refine ⟨k,by omega,⟨by omega,?_⟩,.inr (wk_l [] (by simp) ?_ ?_)⟩
     ·rw [List.drop_eq_getElem_cons hk,List.drop_eq_getElem_cons hkb,he,hd]
     ·simp [-map_map,upd,inj1,Γ0,encM]
     ·trivial
    ·have h2:(((a[k]:Int) != (b[k]:Int)):Bool)=true:=by simp; omega
     simp (maxSteps:=1000000) [-map_map,-mapM_map,↓KW,encM,hxa,hxb,hw2,hp,h2,lessL,hn]
     have ga:a.getD k 0=a[k]:=by rw [List.getD_eq_getElem?_getD,hxa]; rfl
     have gb:b.getD k 0=b[k]:=by rw [List.getD_eq_getElem?_getD,hxb]; rfl
     rcases Nat.lt_or_ge a[k] b[k] with hlt | hge
     ·have:=val_lt_of ha (i:=k) hn hk hd (by rw [ga,gb]; exact hlt)
      simp [hlt,this]
     ·have:=val_lt_of hb (i:=k) hn.symm hkb hd.symm (by rw [ga,gb]; omega)
      omega
set_option maxRecDepth 10000 in
theorem r01SameZ (x y:Int) (hx:(digs x.natAbs).length≤1099511627776) (hy:(digs y.natAbs).length≤1099511627776):Spec Tryz.prog 53 [encZ x,encZ y] (.b (decide (x=y))):=by
 refine spec_of (N:=26) follows_mixed Tryz.func53 rfl rfl rfl (by kernel_rfl) (by kernel_rfl) (by simp) ?_
 have l1:=r01less _ _ (lim_digs x.natAbs) (lim_digs y.natAbs) hx hy
 have l2:=r01less _ _ (lim_digs y.natAbs) (lim_digs x.natAbs) hy hx
 rw [lessL_digs] at l1 l2
 unfold encZ encI
 generalize digs x.natAbs=a at *
 generalize digs y.natAbs=b at *
 by_cases hs:decide (x<0)=decide (y<0)
 rotate_left
 ·have h1:(decide (x<0) == decide (y<0))=false:=by simpa using hs
  have h2:¬ x=y:=fun e=>hs (by rw [e])
  simp (maxSteps:=1000000) [-map_map,-mapM_map,↓KW,encM,h1,h2]
 ·have h1:(decide (x<0) == decide (y<0))=true:=by simpa using hs
  simp (maxSteps:=1000000) [-map_map,-mapM_map,↓KW,encM,h1]
  refine callP_intro (ds:=[encM a,encM b]) (by rfl) l1 ?_
  by_cases h3:x.natAbs<y.natAbs
  ·have h2:¬ x=y:=fun e=>by rw [e] at h3; omega
   simp (maxSteps:=1000000) [-map_map,-mapM_map,↓KW,encM,h3,h2]
  ·simp (maxSteps:=1000000) [-map_map,-mapM_map,↓KW,encM,h3]
   refine callP_intro (ds:=[encM b,encM a]) (by rfl) l2 ?_
   simp (maxSteps:=1000000) [-map_map,-mapM_map,↓KW,encM]
   have hs':x<0↔y<0:=by simpa using hs
   rw [Bool.eq_iff_iff]
   simp
   omega
end Go.Am
end

section
set_option linter.unusedVariables false
set_option linter.unusedSimpArgs false
open List (map_map mapM_map)
open Go Go.Am Go.Proofs
namespace Go.Am
def plS (a b:List Nat):Nat→List Nat × Nat
 | 0=>([],0)
 | i+1=>((plS a b i).1++[((plS a b i).2+a.getD i 0+b.getD i 0) % 4294967296],((plS a b i).2+a.getD i 0+b.getD i 0) / 4294967296)
theorem plS_inv {a b:List Nat} (ha:Lim a) (hb:Lim b):∀ i,(plS a b i).1.length=i∧(plS a b i).2≤1∧Lim (plS a b i).1∧val (plS a b i).1+4294967296 ^ i * (plS a b i).2=val (a.take i)+val (b.take i)
 | 0=>⟨rfl,Nat.zero_le _,.nil,by simp [plS,val]⟩
 | i+1=>by
  obtain ⟨h1,h2,h3,h4⟩:=plS_inv ha hb i
  have ha':=ha.getD i
  have hb':=hb.getD i
  simp only [plS]
  generalize (plS a b i).1=out at *
  generalize (plS a b i).2=c at *
  refine ⟨by simp [h1],by omega,h3.app (.one (by omega)),?_⟩
  rw [val_app,val_take_succ,val_take_succ,h1,Nat.pow_succ]
  simp only [val]
  have h5:4294967296 ^ i * ((c+a.getD i 0+b.getD i 0) % 4294967296)+4294967296 ^ i * 4294967296 * ((c+a.getD i 0+b.getD i 0) / 4294967296)=4294967296 ^ i * c+4294967296 ^ i * a.getD i 0+4294967296 ^ i * b.getD i 0:=by
   rw [Nat.mul_assoc,← Nat.mul_add,Nat.mod_add_div,Nat.mul_add,Nat.mul_add]
  simp only [Nat.mul_zero,Nat.add_zero]
  omega
def plN (a b:List Nat):Nat:=if (plS a b (max a.length b.length)).2=0 then max a.length b.length else max a.length b.length+1
def plusR (a b:List Nat):List Nat:=(plS a b (plN a b)).1
theorem getD_none {l:List Nat} {i:Nat} (h:¬ i<l.length):l.getD i 0=0:=by rw [List.getD_eq_getElem?_getD,List.getElem?_eq_none (by omega)]; rfl
theorem plS_carry {a b:List Nat} (ha:Lim a) (hb:Lim b) {i:Nat} (h1:a.length≤i) (h2:b.length≤i):(plS a b (i+1)).2=0:=by
 have h:=(plS_inv ha hb i).2.1
 show ((plS a b i).2+a.getD i 0+b.getD i 0) / 4294967296=0
 rw [getD_none (l:=a) (by omega),getD_none (l:=b) (by omega)]
 omega
theorem plS_done {a b:List Nat} (ha:Lim a) (hb:Lim b) {i:Nat} (h1:a.length≤i) (h2:b.length≤i) (hc:(plS a b i).2=0):val (plS a b i).1=val a+val b:=by
 have h:=(plS_inv ha hb i).2.2.2
 rw [List.take_of_length_le h1,List.take_of_length_le h2,hc,Nat.mul_zero,Nat.add_zero] at h
 exact h
theorem plusR_val {a b:List Nat} (ha:Lim a) (hb:Lim b):val (plusR a b)=val a+val b∧Lim (plusR a b)∧(plusR a b).length≤max a.length b.length+1:=by
 unfold plusR plN
 have h1:a.length≤max a.length b.length:=by omega
 have h2:b.length≤max a.length b.length:=by omega
 generalize max a.length b.length=M at *
 by_cases hc:(plS a b M).2=0
 ·rw [if_pos hc]
  have h:=plS_inv ha hb M
  exact ⟨plS_done ha hb h1 h2 hc,h.2.2.1,by rw [h.1]; omega⟩
 ·rw [if_neg hc]
  have h:=plS_inv ha hb (M+1)
  exact ⟨plS_done ha hb (by omega) (by omega) (plS_carry ha hb h1 h2),h.2.2.1,by rw [h.1]; exact Nat.le_refl _⟩
theorem getD_some {l:List Nat} {i:Nat} (h:i<l.length):l[i]? = some (l.getD i 0):=by rw [List.getD_eq_getElem?_getD,List.getElem?_eq_getElem h]; rfl
set_option maxRecDepth 10000 in
theorem r01plus (a b:List Nat) (ha:Lim a) (hb:Lim b) (hla:a.length≤1099511627776) (hlb:b.length≤1099511627776):Spec Tryz.prog 112 [encM a,encM b] (encM (plusR a b)):=by
 refine spec_of (N:=55) follows_mixed Tryz.func112 rfl rfl rfl (by kernel_rfl) (by kernel_rfl) (by simp) ?_
 simp (maxSteps:=1000000) [-map_map,-mapM_map,↓KW,encM]
 refine loopP_inv (fun i:Nat=>i≤max a.length b.length∨(i=max a.length b.length+1∧(plS a b (max a.length b.length)).2≠0))
  (fun i=>StL [(0,.d (encM a)),(1,.d (encM b)),(5,.own 1 0 i 1),(6,.d (.i .u64 (plS a b i).2)),(7,.d (.i .i64 i))] none [.cells 121 ((lms (plS a b i).1).map .d)]) (fun i=>max a.length b.length+1 - i) 0 (.inl (Nat.zero_le _)) ?_ ?_
 ·refine wk_l [1] (by simp) ?_ ?_ <;> simp [-map_map,upd,inj1,Γ0,encM,plS,lms]
 ·intro i hi
  obtain ⟨hlen,hc,_,_⟩:=plS_inv ha hb i
  have hsucc:plS a b (i+1)=((plS a b i).1++[((plS a b i).2+a.getD i 0+b.getD i 0) % 4294967296],((plS a b i).2+a.getD i 0+b.getD i 0) / 4294967296):=rfl
  have hstop:(i<a.length∨i<b.length∨0<(plS a b i).2)∨i=plN a b:=by
   unfold plN
   rcases hi with hi | ⟨hi,hc⟩
   ·by_cases h1:i=max a.length b.length
    ·subst h1
     by_cases h2:(plS a b (max a.length b.length)).2=0
     ·rw [if_pos h2]; exact .inr rfl
     ·exact .inl (.inr (.inr (by omega)))
    ·exact .inl (by omega)
   ·rw [if_neg hc]; exact .inr hi
  have hnext:(i<a.length∨i<b.length∨0<(plS a b i).2)→i≤max a.length b.length∧(i+1≤max a.length b.length∨(i+1=max a.length b.length+1∧(plS a b (max a.length b.length)).2≠0)):=by
   intro h
   rcases hi with hi | ⟨hi,hc2⟩
   ·refine ⟨hi,?_⟩
    by_cases h1:i=max a.length b.length
    ·subst h1; exact .inr ⟨rfl,by omega⟩
    ·exact .inl (by omega)
   ·exfalso
    have e:(plS a b i).2=0:=by
     rw [hi]; exact plS_carry ha hb (by omega) (by omega)
    omega
  have hal:=ha.getD i
  have hbl:=hb.getD i
  have hres:i=plN a b→(plS a b i).1=plusR a b:=fun e=>by rw [e]; rfl
  generalize hout:(plS a b i).1=out at *
  generalize hcar:(plS a b i).2=c at *
  by_cases hgo:i<a.length∨i<b.length∨0<c
  ·obtain ⟨hi1,hi2⟩:=hnext hgo
   have hb1:(i+1) * 4≤140737488355328:=by omega
   have hb2:i+1≤maxLen:=by unfold maxLen; omega
   have hw7:IntKind.i64.wrap ((i:Int)+1)=(i:Int)+1:=wrap_i64 (by omega) (by omega)
   have hpos:(0:Int)≤i:=by omega
   obtain ⟨s1,hs1⟩:∃ s1:Nat,c+a.getD i 0=s1:=⟨_,rfl⟩
   obtain ⟨s2,hs2⟩:∃ s2:Nat,s1+b.getD i 0=s2:=⟨_,rfl⟩
   rw [hs1,hs2] at hsucc
   have hw1:IntKind.u64.wrap ((c:Int)+((a.getD i 0:Nat):Int))=s1:=by rw [wrap_u64 (by omega) (by omega)]; omega
   have hw2:IntKind.u64.wrap ((s1:Int)+((b.getD i 0:Nat):Int))=s2:=by rw [wrap_u64 (by omega) (by omega)]; omega
   have hwa:IntKind.u64.wrap ((a.getD i 0:Nat):Int)=((a.getD i 0:Nat):Int):=wrap_u64 (by omega) (by omega)
   have hwb:IntKind.u64.wrap ((b.getD i 0:Nat):Int)=((b.getD i 0:Nat):Int):=wrap_u64 (by omega) (by omega)
   obtain ⟨lo,hlo⟩:∃ lo:Nat,s2 % 4294967296=lo:=⟨_,rfl⟩
   obtain ⟨hi',hhi⟩:∃ hi':Nat,s2 / 4294967296=hi':=⟨_,rfl⟩
   have hw3:IntKind.u32.wrap (s2:Int)=lo:=by rw [wrap_u32m]; omega
   have hw4:IntKind.u64.wrap ((s2:Int).tdiv 4294967296)=hi':=by
    rw [Int.tdiv_eq_ediv_of_nonneg (by omega),wrap_u64 (by omega) (by omega)]; omega
   have hw4':IntKind.u64.wrap ((s2:Int) / 4294967296)=hi':=by rw [wrap_u64 (by omega) (by omega)]; omega
   rw [hlo,hhi] at hsucc
   have hcase:(a.getD i 0=0∧¬ i<a.length)∨i<a.length:=by
    by_cases h:i<a.length
    ·exact .inr h
    ·exact .inl ⟨getD_none h,h⟩
   have hcase2:(b.getD i 0=0∧¬ i<b.length)∨i<b.length:=by
    by_cases h:i<b.length
    ·exact .inr h
    ·exact .inl ⟨getD_none h,h⟩
   rcases hcase with ⟨ha0,han⟩ | han <;> rcases hcase2 with ⟨hb0,hbn⟩ | hbn
   ·have q1:¬ (i:Int)<a.length:=by omega
    have q2:¬ (i:Int)<b.length:=by omega
    have q3:0<c:=by omega
    rw [ha0] at hs1; rw [hb0] at hs2
    have e2:s2=c:=by omega
    rw [e2] at hw3 hw4 hw4'
    simp (maxSteps:=1000000) [-map_map,-mapM_map,↓KW,encM,q1,q2,q3,hw3,hw4,hw7,hb1,hb2,hlen]
    refine nxt_intro (i+1) hi2 ?_ (wk_l [3] (by simp) ?_ ?_)
    ·omega
    ·simp [-map_map,upd,inj1,Γ0,encM,hsucc,lms_app,lms_one,hw4']
    ·simp [-map_map,upd,inj1,Γ0,encM,hsucc,lms_app,lms_one]
   ·have q1:¬ (i:Int)<a.length:=by omega
    have q2:(i:Int)<b.length:=by omega
    rw [ha0] at hs1
    have e1:s1=c:=by omega
    have g2:=getD_some hbn
    rw [e1] at hw2
    generalize b.getD i 0=y at *
    simp (maxSteps:=1000000) [-map_map,-mapM_map,↓KW,encM,q1,q2,g2,hwb,hw2,hw3,hw4,hw7,hb1,hb2,hlen]
    refine nxt_intro (i+1) hi2 ?_ (wk_l [3] (by simp) ?_ ?_)
    ·omega
    ·simp [-map_map,upd,inj1,Γ0,encM,hsucc,lms_app,lms_one,hw4']
    ·simp [-map_map,upd,inj1,Γ0,encM,hsucc,lms_app,lms_one]
   ·have q1:(i:Int)<a.length:=by omega
    have q2:¬ (i:Int)<b.length:=by omega
    rw [hb0] at hs2
    have e2:s2=s1:=by omega
    have g1:=getD_some han
    rw [e2] at hw3 hw4 hw4'
    generalize a.getD i 0=x at *
    simp (maxSteps:=1000000) [-map_map,-mapM_map,↓KW,encM,q1,q2,g1,hwa,hw1,hw3,hw4,hw7,hb1,hb2,hlen]
    refine nxt_intro (i+1) hi2 ?_ (wk_l [3] (by simp) ?_ ?_)
    ·omega
    ·simp [-map_map,upd,inj1,Γ0,encM,hsucc,lms_app,lms_one,hw4']
    ·simp [-map_map,upd,inj1,Γ0,encM,hsucc,lms_app,lms_one]
   ·have q1:(i:Int)<a.length:=by omega
    have q2:(i:Int)<b.length:=by omega
    have g1:=getD_some han
    have g2:=getD_some hbn
    generalize a.getD i 0=x at *
    generalize b.getD i 0=y at *
    simp (maxSteps:=1000000) [-map_map,-mapM_map,↓KW,encM,q1,q2,g1,g2,hwa,hwb,hw1,hw2,hw3,hw4,hw7,hb1,hb2,hlen]
    refine nxt_intro (i+1) hi2 ?_ (wk_l [3] (by simp) ?_ ?_)
    ·omega
    ·simp [-map_map,upd,inj1,Γ0,encM,hsucc,lms_app,lms_one,hw4']
    ·simp [-map_map,upd,inj1,Γ0,encM,hsucc,lms_app,lms_one]
  ·have e:=hstop.resolve_left hgo
   have h1:¬ (i:Int)<a.length:=by omega
   have h2:¬ (i:Int)<b.length:=by omega
   have h3:c=0:=by omega
   have h4:=hres e
   subst h3
   simp (maxSteps:=1000000) [-map_map,-mapM_map,↓KW,encM,h1,h2,hlen,chunk_lms hlen,lms_take_all hlen,← h4]
end Go.Am
end

section
set_option linter.unusedVariables false
set_option linter.unusedSimpArgs false
open List (map_map mapM_map)
open Go Go.Am Go.Proofs
namespace Go.Am
def miS (a b:List Nat):Nat→List Nat × Nat
 | 0=>([],0)
 | i+1=>if (miS a b i).2+b.getD i 0≤a.getD i 0 then ((miS a b i).1++[a.getD i 0 - ((miS a b i).2+b.getD i 0)],0) else ((miS a b i).1++[a.getD i 0+4294967296 - ((miS a b i).2+b.getD i 0)],1)
theorem mi_arith1 {p o vb va x y c z:Nat} (h4:o+vb=va+p * c) (hx:x=z+(c+y)):o+p * z+(vb+p * y)=va+p * x:=by
 subst hx; rw [Nat.mul_add,Nat.mul_add]; omega
theorem mi_arith2 {p o vb va x y c z k:Nat} (h4:o+vb=va+p * c) (hx:x+k=z+(c+y)):o+p * z+(vb+p * y)=va+p * x+p * k:=by
 have:=mi_arith1 (p:=p) (x:=x+k) h4 hx
 rw [Nat.mul_add] at this; omega
theorem miS_pos {p va vb i:Nat} {out:List Nat} {c x y z:Nat} (hz:x=z+(c+y)) (hl:z<4294967296) (h1:out.length=i) (hp:4294967296 ^ i=p) (h3:Lim out) (h4:val out+vb=va+p * c) :
  (out++[z]).length=i+1∧Lim (out++[z])∧val (out++[z])+(vb+p * y)=va+p * x:=by
 refine ⟨by simp [h1],h3.app (.one hl),?_⟩
 simp only [val_app,val,Nat.mul_zero,Nat.add_zero,h1,hp]
 exact mi_arith1 h4 hz
theorem miS_neg {p va vb i:Nat} {out:List Nat} {c x y z k:Nat} (hz:x+k=z+(c+y)) (hl:z<4294967296) (h1:out.length=i) (hp:4294967296 ^ i=p) (h3:Lim out) (h4:val out+vb=va+p * c) :
  (out++[z]).length=i+1∧Lim (out++[z])∧val (out++[z])+(vb+p * y)=va+p * x+p * k:=by
 refine ⟨by simp [h1],h3.app (.one hl),?_⟩
 simp only [val_app,val,Nat.mul_zero,Nat.add_zero,h1,hp]
 exact mi_arith2 h4 hz
theorem miS_succ (a b:List Nat) (i:Nat):miS a b (i+1)=if (miS a b i).2+b.getD i 0≤a.getD i 0 then ((miS a b i).1++[a.getD i 0 - ((miS a b i).2+b.getD i 0)],0) else ((miS a b i).1++[a.getD i 0+4294967296 - ((miS a b i).2+b.getD i 0)],1):=rfl
theorem aux_mul0 {a b:Nat} (q:Nat) (h:a=b):a=b+q * 0:=by rw [Nat.mul_zero,Nat.add_zero]; exact h
theorem aux_mul1 {a b:Nat} (q:Nat) (h:a=b+q):a=b+q * 1:=by rw [Nat.mul_one]; exact h
theorem miS_inv {a b:List Nat} (ha:Lim a) (hb:Lim b) (i:Nat):(miS a b i).1.length=i∧(miS a b i).2≤1∧Lim (miS a b i).1∧val (miS a b i).1+val (b.take i)=val (a.take i)+4294967296 ^ i * (miS a b i).2:=by
 induction i with
 | zero=>exact ⟨rfl,Nat.zero_le _,.nil,by simp [miS,val]⟩
 | succ i ih =>
  obtain ⟨h1,h2,h3,h4⟩:=ih
  have hx:=ha.getD i
  have hy:=hb.getD i
  rw [val_take_succ,val_take_succ,Nat.pow_succ,miS_succ]
  generalize (miS a b i).1=out at *
  generalize (miS a b i).2=c at *
  generalize a.getD i 0=x at *
  generalize b.getD i 0=y at *
  generalize hp:4294967296 ^ i=p at *
  by_cases h:c+y≤x
  ·rw [if_pos h]
   obtain ⟨z,hz,hz'⟩:∃ z,x - (c+y)=z∧x=z+(c+y):=⟨_,rfl,(Nat.sub_add_cancel h).symm⟩
   rw [hz]; clear hz
   obtain ⟨q1,q2,q3⟩:=miS_pos hz' (by omega) h1 hp h3 h4
   exact ⟨q1,Nat.zero_le _,q2,aux_mul0 _ q3⟩
  ·rw [if_neg h]
   obtain ⟨z,hz,hz'⟩:∃ z,x+4294967296 - (c+y)=z∧x+4294967296=z+(c+y):=⟨_,rfl,(Nat.sub_add_cancel (by omega)).symm⟩
   rw [hz]; clear hz
   obtain ⟨q1,q2,q3⟩:=miS_neg hz' (by omega) h1 hp h3 h4
   exact ⟨q1,Nat.le_refl _,q2,aux_mul1 _ q3⟩
def minusR (a b:List Nat):List Nat:=(miS a b a.length).1
theorem minusR_val {a b:List Nat} (ha:Lim a) (hb:Lim b) (hl:b.length≤a.length) (hv:val b≤val a):val (minusR a b)=val a - val b∧Lim (minusR a b)∧(minusR a b).length=a.length:=by
 obtain ⟨h1,h2,h3,h4⟩:=miS_inv ha hb a.length
 rw [List.take_of_length_le hl,List.take_of_length_le (Nat.le_refl _)] at h4
 refine ⟨?_,h3,h1⟩
 have hlt:=val_lt h3
 rw [h1] at hlt
 unfold minusR
 generalize (miS a b a.length).1=out at *
 generalize (miS a b a.length).2=c at *
 rcases Nat.lt_or_ge 0 c with hc | hc
 ·have:c=1:=by omega
  rw [this,Nat.mul_one] at h4; omega
 ·have:c=0:=by omega
  rw [this,Nat.mul_zero] at h4; omega
set_option maxRecDepth 10000 in
theorem r01minus (a b:List Nat) (ha:Lim a) (hb:Lim b) (hla:a.length≤1099511627776) (_hlb:b.length≤1099511627776):Spec Tryz.prog 113 [encM a,encM b] (encM (minusR a b)):=by
 refine spec_of (N:=44) follows_mixed Tryz.func113 rfl rfl rfl (by kernel_rfl) (by kernel_rfl) (by simp) ?_
 simp (maxSteps:=1000000) [-map_map,-mapM_map,↓KW,encM]
 refine loopP_inv (fun i:Nat=>i≤a.length)
  (fun i=>StL [(0,.d (encM a)),(1,.d (encM b)),(5,.own 1 0 i 1),(6,.d (.i .i64 (miS a b i).2)),(7,.d (.i .i64 i))] none [.cells 121 ((lms (miS a b i).1).map .d)]) (fun i=>a.length - i) 0 (Nat.zero_le _) ?_ ?_
 ·refine wk_l [1] (by simp) ?_ ?_ <;> simp [-map_map,upd,inj1,Γ0,encM,miS,lms]
 ·intro i hi
  obtain ⟨hlen,hc,_,_⟩:=miS_inv ha hb i
  have hsucc:miS a b (i+1)=if (miS a b i).2+b.getD i 0≤a.getD i 0 then ((miS a b i).1++[a.getD i 0 - ((miS a b i).2+b.getD i 0)],0) else ((miS a b i).1++[a.getD i 0+4294967296 - ((miS a b i).2+b.getD i 0)],1):=rfl
  have hal:=ha.getD i
  have hbl:=hb.getD i
  have hres:i=a.length→(miS a b i).1=minusR a b:=fun e=>by rw [e]; rfl
  generalize hout:(miS a b i).1=out at *
  generalize hcar:(miS a b i).2=c at *
  by_cases hgo:i<a.length
  ·have hb1:(i+1) * 4≤140737488355328:=by omega
   have hb2:i+1≤maxLen:=by unfold maxLen; omega
   have hw7:IntKind.i64.wrap ((i:Int)+1)=(i:Int)+1:=wrap_i64 (by omega) (by omega)
   have q1:(i:Int)<a.length:=by omega
   have g1:=getD_some hgo
   have hb0:¬ i<b.length→b.getD i 0=0:=getD_none
   have g2:i<b.length→b[i]? = some (b.getD i 0):=getD_some
   generalize a.getD i 0=x at *
   generalize b.getD i 0=y at *
   have hwx:IntKind.i64.wrap (x:Int)=x:=wrap_i64 (by omega) (by omega)
   have hwy:IntKind.i64.wrap (y:Int)=y:=wrap_i64 (by omega) (by omega)
   obtain ⟨d1,hd1⟩:∃ d1:Int,(x:Int) - c=d1:=⟨_,rfl⟩
   obtain ⟨d,hd⟩:∃ d:Int,d1 - y=d:=⟨_,rfl⟩
   have hw1:IntKind.i64.wrap ((x:Int) - c)=d1:=by rw [wrap_i64 (by omega) (by omega)]; exact hd1
   have hw2:IntKind.i64.wrap (d1 - y)=d:=by rw [wrap_i64 (by omega) (by omega)]; exact hd
   by_cases hneg:d<0
   ·rw [if_neg (by omega)] at hsucc
    obtain ⟨lo,hlo⟩:∃ lo:Nat,x+4294967296 - (c+y)=lo:=⟨_,rfl⟩
    rw [hlo] at hsucc
    have hw3:IntKind.i64.wrap (d+4294967296)=lo:=by rw [wrap_i64 (by omega) (by omega)]; omega
    have hw4:IntKind.u32.wrap (lo:Int)=lo:=wrap_u32 (by omega) (by omega)
    by_cases hbn:i<b.length
    ·have q2:(i:Int)<b.length:=by omega
     have g3:=g2 hbn
     simp (maxSteps:=1000000) [-map_map,-mapM_map,↓KW,encM,q1,q2,g1,g3,hwx,hwy,hw1,hw2,hw3,hw4,hneg,hw7,hb1,hb2,hlen]
     refine nxt_intro (i+1) hgo ?_ (wk_l [3] (by simp) ?_ ?_)
     ·omega
     ·simp [-map_map,upd,inj1,Γ0,encM,hsucc,lms_app,lms_one]
     ·simp [-map_map,upd,inj1,Γ0,encM,hsucc,lms_app,lms_one]
    ·have q2:¬ (i:Int)<b.length:=by omega
     have e1:d1=d:=by have:=hb0 hbn; omega
     rw [e1] at hw1
     simp (maxSteps:=1000000) [-map_map,-mapM_map,↓KW,encM,q1,q2,g1,hwx,hw1,hw3,hw4,hneg,hw7,hb1,hb2,hlen]
     refine nxt_intro (i+1) hgo ?_ (wk_l [3] (by simp) ?_ ?_)
     ·omega
     ·simp [-map_map,upd,inj1,Γ0,encM,hsucc,lms_app,lms_one]
     ·simp [-map_map,upd,inj1,Γ0,encM,hsucc,lms_app,lms_one]
   ·rw [if_pos (by omega)] at hsucc
    obtain ⟨lo,hlo⟩:∃ lo:Nat,x - (c+y)=lo:=⟨_,rfl⟩
    rw [hlo] at hsucc
    have e0:d=lo:=by omega
    rw [e0] at hw2 hneg
    have hw4:IntKind.u32.wrap (lo:Int)=lo:=wrap_u32 (by omega) (by omega)
    by_cases hbn:i<b.length
    ·have q2:(i:Int)<b.length:=by omega
     have g3:=g2 hbn
     simp (maxSteps:=1000000) [-map_map,-mapM_map,↓KW,encM,q1,q2,g1,g3,hwx,hwy,hw1,hw2,hw4,hneg,hw7,hb1,hb2,hlen]
     refine nxt_intro (i+1) hgo ?_ (wk_l [3] (by simp) ?_ ?_)
     ·omega
     ·simp [-map_map,upd,inj1,Γ0,encM,hsucc,lms_app,lms_one]
     ·simp [-map_map,upd,inj1,Γ0,encM,hsucc,lms_app,lms_one]
    ·have q2:¬ (i:Int)<b.length:=by omega
     have e1:d1=lo:=by have:=hb0 hbn; omega
     rw [e1] at hw1
     simp (maxSteps:=1000000) [-map_map,-mapM_map,↓KW,encM,q1,q2,g1,hwx,hw1,hw4,hneg,hw7,hb1,hb2,hlen]
     refine nxt_intro (i+1) hgo ?_ (wk_l [3] (by simp) ?_ ?_)
     ·omega
     ·simp [-map_map,upd,inj1,Γ0,encM,hsucc,lms_app,lms_one]
     ·simp [-map_map,upd,inj1,Γ0,encM,hsucc,lms_app,lms_one]
  ·have e:i=a.length:=by omega
   have h1:¬ (i:Int)<a.length:=by omega
   have h4:=hres e
   simp (maxSteps:=1000000) [-map_map,-mapM_map,↓KW,encM,h1,hlen,chunk_lms hlen,lms_take_all hlen,← h4]
set_option maxRecDepth 10000 in
theorem r01AddZ (x y:Int) (hx:(digs x.natAbs).length≤549755813888) (hy:(digs y.natAbs).length≤549755813888):Spec Tryz.prog 77 [encZ x,encZ y] (encZ (x+y)):=by
 refine spec_of (N:=39) follows_mixed Tryz.func77 rfl rfl rfl (by kernel_rfl) (by kernel_rfl) (by simp) ?_
 have la:=lim_digs x.natAbs
 have lb:=lim_digs y.natAbs
 have va:=val_digs x.natAbs
 have vb:=val_digs y.natAbs
 have hless:(digs x.natAbs).length<(digs y.natAbs).length→x.natAbs<y.natAbs:=lt_of_len_lt
 have hless2:(digs y.natAbs).length<(digs x.natAbs).length→y.natAbs<x.natAbs:=lt_of_len_lt
 have hl:=r01less _ _ la lb (by omega) (by omega)
 rw [lessL_digs] at hl
 have sx:=sg_natAbs x
 have sy:=sg_natAbs y
 have ex:encZ x=.ag [.b (decide (x<0)),encM (digs x.natAbs)]:=rfl
 have ey:encZ y=.ag [.b (decide (y<0)),encM (digs y.natAbs)]:=rfl
 rw [ex,ey]
 generalize digs x.natAbs=a at *
 generalize digs y.natAbs=b at *
 generalize hbx:decide (x<0)=nx at *
 generalize hby:decide (y<0)=ny at *
 by_cases hn:nx=ny
 ·have h1:(nx == ny)=true:=by simpa using hn
  simp (maxSteps:=1000000) [-map_map,-mapM_map,↓KW,encM,h1]
  obtain ⟨pv,pl,pn⟩:=plusR_val la lb
  refine callP_intro (ds:=[encM a,encM b]) (by rfl) (r01plus a b la lb (by omega) (by omega)) ?_
  simp (maxSteps:=1000000) [-map_map,-mapM_map,↓KW,encM]
  have hm:=r01Made (plusR a b) nx (by omega)
  rw [made_encZ pl,pv,va,vb] at hm
  refine callP_intro (ds:=[encM (plusR a b),.b nx]) (by rfl) hm ?_
  have e:sg nx (x.natAbs+y.natAbs)=x+y:=by
   rw [← sx,← sy,← hn]; cases nx <;> simp [sg] <;> omega
  rw [e]
  simp (maxSteps:=1000000) [-map_map,-mapM_map,↓KW,encM,encZ,encI]
 ·have h1:(nx == ny)=false:=by simpa using hn
  simp (maxSteps:=1000000) [-map_map,-mapM_map,↓KW,encM,h1]
  refine callP_intro (ds:=[encM a,encM b]) (by rfl) hl ?_
  by_cases hlt:x.natAbs<y.natAbs
  ·simp (maxSteps:=1000000) [-map_map,-mapM_map,↓KW,encM,hlt]
   obtain ⟨pv,pl,pn⟩:=minusR_val lb la (by omega) (by omega)
   refine callP_intro (ds:=[encM b,encM a]) (by rfl) (r01minus b a lb la (by omega) (by omega)) ?_
   simp (maxSteps:=1000000) [-map_map,-mapM_map,↓KW,encM]
   have hm:=r01Made (minusR b a) ny (by omega)
   rw [made_encZ pl,pv,va,vb] at hm
   refine callP_intro (ds:=[encM (minusR b a),.b ny]) (by rfl) hm ?_
   have e:sg ny (y.natAbs - x.natAbs)=x+y:=by
    rw [← sx,← sy]
    cases nx <;> cases ny <;> simp [sg] at hn ⊢ <;> omega
   rw [e]
   simp (maxSteps:=1000000) [-map_map,-mapM_map,↓KW,encM,encZ,encI]
  ·simp (maxSteps:=1000000) [-map_map,-mapM_map,↓KW,encM,hlt]
   obtain ⟨pv,pl,pn⟩:=minusR_val la lb (by omega) (by omega)
   refine callP_intro (ds:=[encM a,encM b]) (by rfl) (r01minus a b la lb (by omega) (by omega)) ?_
   simp (maxSteps:=1000000) [-map_map,-mapM_map,↓KW,encM]
   have hm:=r01Made (minusR a b) nx (by omega)
   rw [made_encZ pl,pv,va,vb] at hm
   refine callP_intro (ds:=[encM (minusR a b),.b nx]) (by rfl) hm ?_
   have e:sg nx (x.natAbs - y.natAbs)=x+y:=by
    rw [← sx,← sy]
    cases nx <;> cases ny <;> simp [sg] at hn ⊢ <;> omega
   rw [e]
   simp (maxSteps:=1000000) [-map_map,-mapM_map,↓KW,encM,encZ,encI]
end Go.Am
end

section
set_option linter.unusedVariables false
set_option linter.unusedSimpArgs false
open Go Go.Am Go.Proofs
namespace Go.Am
theorem val_set {l:List Nat} {j:Nat} (h:j<l.length) (v:Nat):val (l.set j v)+4294967296 ^ j * l.getD j 0=val l+4294967296 ^ j * v:=by
 induction l generalizing j with
 | nil=>simp at h
 | cons x l ih =>
  cases j with
  | zero=>simp only [List.set_cons_zero,val,Nat.pow_zero,Nat.one_mul,List.getD_cons_zero]; omega
  | succ j =>
   have:=ih (j:=j) (by simpa using h)
   simp only [List.set_cons_succ,val,List.getD_cons_succ,Nat.pow_succ]
   generalize 4294967296 ^ j=p at *
   generalize l.getD j 0=o at *
   generalize val (l.set j v)=w at *
   rw [Nat.mul_comm p,Nat.mul_assoc,Nat.mul_assoc]
   generalize p * o=e1 at *
   generalize p * v=e2 at *
   omega
def muI (out:List Nat) (x:Nat) (b:List Nat) (i:Nat):Nat→List Nat × Nat
 | 0=>(out,0)
 | k+1=>((muI out x b i k).1.set (i+k) (((muI out x b i k).2+(muI out x b i k).1.getD (i+k) 0+x * b.getD k 0) % 4294967296),((muI out x b i k).2+(muI out x b i k).1.getD (i+k) 0+x * b.getD k 0) / 4294967296)
def muN (out:List Nat) (x:Nat) (b:List Nat) (i:Nat):Nat:=if (muI out x b i b.length).2=0 then b.length else b.length+1
def muO (a b:List Nat):Nat→List Nat
 | 0=>List.replicate (a.length+b.length+1) 0
 | i+1=>(muI (muO a b i) (a.getD i 0) b i (muN (muO a b i) (a.getD i 0) b i)).1
theorem mu_arith {P v v' o c t q r e w k:Nat} (hs:v'+P * o=v+P * r) (ht:r+k * q=t) (ht2:c+o+e=t) (hv:v+P * c=w):v'+P * k * q=w+P * e:=by
 have h1:P * t=P * r+P * (k * q):=by rw [← ht,Nat.mul_add]
 have h2:P * t=P * c+P * o+P * e:=by rw [← ht2,Nat.mul_add,Nat.mul_add]
 rw [Nat.mul_assoc]
 omega
theorem mu_lim {c o x y:Nat} (hc:c<4294967296) (ho:o<4294967296) (hx:x<4294967296) (hy:y<4294967296):c+o+x * y<18446744073709551616:=by
 have:x * y≤4294967295 * 4294967295:=Nat.mul_le_mul (by omega) (by omega)
 omega
theorem muI_inv {out b:List Nat} {x i:Nat} (ho:Lim out) (hb:Lim b) (hx:x<4294967296) (hl:i+b.length<out.length) (k:Nat) (hk:k≤b.length+1) :
  (muI out x b i k).1.length=out.length∧(muI out x b i k).2<4294967296∧Lim (muI out x b i k).1∧val (muI out x b i k).1+4294967296 ^ (i+k) * (muI out x b i k).2=val out+4294967296 ^ i * (x * val (b.take k)):=by
 induction k with
 | zero=>exact ⟨rfl,Nat.zero_lt_of_lt hx,ho,by simp [muI,val]⟩
 | succ k ih =>
  obtain ⟨h1,h2,h3,h4⟩:=ih (by omega)
  have hy:=hb.getD k
  have hoo:=h3.getD (i+k)
  have hset:=val_set (l:=(muI out x b i k).1) (j:=i+k) (by omega) (((muI out x b i k).2+(muI out x b i k).1.getD (i+k) 0+x * b.getD k 0) % 4294967296)
  have hlim:=mu_lim h2 hoo hx hy
  rw [val_take_succ]
  simp only [muI]
  generalize (muI out x b i k).1=out' at *
  generalize (muI out x b i k).2=c at *
  generalize out'.getD (i+k) 0=o at *
  generalize b.getD k 0=y at *
  refine ⟨by simp [h1],by omega,h3.set _ (by omega),?_⟩
  have:=mu_arith hset (Nat.mod_add_div _ _) rfl h4
  rw [← Nat.add_assoc i k 1,Nat.pow_succ,this,Nat.pow_add,Nat.mul_add,Nat.mul_add,Nat.mul_assoc,Nat.add_assoc]
  congr 2
  rw [Nat.mul_left_comm x]
theorem muI_stop {out b:List Nat} {x i:Nat} (ho:Lim out) (hb:Lim b) (hx:x<4294967296) (hl:i+b.length<out.length) (hv:val out<4294967296 ^ (i+b.length)):(muI out x b i (b.length+1)).2=0:=by
 obtain ⟨_,_,_,h4⟩:=muI_inv ho hb hx hl (b.length+1) (Nat.le_refl _)
 rw [List.take_of_length_le (by omega)] at h4
 have hbv:=val_lt hb
 rcases Nat.eq_zero_or_pos (muI out x b i (b.length+1)).2 with h | h
 ·exact h
 exfalso
 have e1:4294967296 ^ (i+(b.length+1)) * 1≤4294967296 ^ (i+(b.length+1)) * (muI out x b i (b.length+1)).2:=Nat.mul_le_mul_left _ h
 have e2:x * val b≤4294967295 * 4294967296 ^ b.length:=Nat.mul_le_mul (by omega) (by omega)
 have e3:4294967296 ^ i * (x * val b)≤4294967296 ^ i * (4294967295 * 4294967296 ^ b.length):=Nat.mul_le_mul_left _ e2
 have e4:4294967296 ^ i * (4294967295 * 4294967296 ^ b.length)=4294967295 * 4294967296 ^ (i+b.length):=by rw [Nat.pow_add,Nat.mul_left_comm]
 have e5:4294967296 ^ (i+(b.length+1))=4294967296 ^ (i+b.length) * 4294967296:=by rw [← Nat.add_assoc,Nat.pow_succ]
 rw [Nat.mul_one,e5] at e1
 rw [e5] at h4
 rw [e4] at e3
 generalize 4294967296 ^ (i+b.length)=p at *
 generalize 4294967296 ^ i * (x * val b)=q at *
 generalize (muI out x b i (b.length+1)).2=c at *
 generalize p * 4294967296 * c=d at *
 omega
theorem muN_val {out b:List Nat} {x i:Nat} (ho:Lim out) (hb:Lim b) (hx:x<4294967296) (hl:i+b.length<out.length) (hv:val out<4294967296 ^ (i+b.length)) :
  (muI out x b i (muN out x b i)).1.length=out.length∧Lim (muI out x b i (muN out x b i)).1∧val (muI out x b i (muN out x b i)).1=val out+4294967296 ^ i * (x * val b):=by
 unfold muN
 have hstop:=muI_stop ho hb hx hl hv
 by_cases h:(muI out x b i b.length).2=0
 ·rw [if_pos h]
  obtain ⟨h1,_,h3,h4⟩:=muI_inv ho hb hx hl b.length (by omega)
  rw [List.take_of_length_le (by omega),h,Nat.mul_zero,Nat.add_zero] at h4
  exact ⟨h1,h3,h4⟩
 ·rw [if_neg h]
  obtain ⟨h1,_,h3,h4⟩:=muI_inv ho hb hx hl (b.length+1) (Nat.le_refl _)
  rw [List.take_of_length_le (by omega),hstop,Nat.mul_zero,Nat.add_zero] at h4
  exact ⟨h1,h3,h4⟩
theorem muO_lt {a b:List Nat} (ha:Lim a) (hb:Lim b) {i:Nat} (hi:i≤a.length):val (a.take i) * val b<4294967296 ^ (i+b.length):=by
 have h1:=val_lt (ha.take i)
 rw [List.length_take,Nat.min_eq_left hi] at h1
 have h2:=val_lt hb
 rw [Nat.pow_add]
 exact Nat.mul_lt_mul'' h1 h2
theorem muO_inv {a b:List Nat} (ha:Lim a) (hb:Lim b) (i:Nat) (hi:i≤a.length):(muO a b i).length=a.length+b.length+1∧Lim (muO a b i)∧val (muO a b i)=val (a.take i) * val b:=by
 induction i with
 | zero=>exact ⟨by simp [muO],.rep _,by simp [muO,val_rep,val]⟩
 | succ i ih =>
  obtain ⟨h1,h2,h3⟩:=ih (by omega)
  have hv:=muO_lt ha hb (i:=i) (by omega)
  rw [← h3] at hv
  obtain ⟨q1,q2,q3⟩:=muN_val (x:=a.getD i 0) (i:=i) h2 hb (ha.getD i) (by omega) hv
  refine ⟨q1.trans h1,q2,?_⟩
  show val (muI (muO a b i) (a.getD i 0) b i (muN (muO a b i) (a.getD i 0) b i)).1=_
  rw [q3,h3,val_take_succ,Nat.add_mul,Nat.mul_assoc]
end Go.Am
end

section
set_option linter.unusedVariables false
set_option linter.unusedSimpArgs false
open List (map_map mapM_map)
open Go Go.Am Go.Proofs
namespace Go.Am
set_option maxRecDepth 10000 in
theorem r01MulZ (x y:Int) (hx:(digs x.natAbs).length≤137438953472) (hy:(digs y.natAbs).length≤137438953472):Spec Tryz.prog 76 [encZ x,encZ y] (encZ (x * y)):=by
 refine spec_of (N:=81) follows_mixed Tryz.func76 rfl rfl rfl (by kernel_rfl) (by kernel_rfl) (by simp) ?_
 have la:=lim_digs x.natAbs
 have lb:=lim_digs y.natAbs
 have va:=val_digs x.natAbs
 have vb:=val_digs y.natAbs
 have sx:=sg_natAbs x
 have sy:=sg_natAbs y
 have ex:encZ x=.ag [.b (decide (x<0)),encM (digs x.natAbs)]:=rfl
 have ey:encZ y=.ag [.b (decide (y<0)),encM (digs y.natAbs)]:=rfl
 rw [ex,ey]
 generalize digs x.natAbs=a at *
 generalize digs y.natAbs=b at *
 generalize hbx:decide (x<0)=nx at *
 generalize hby:decide (y<0)=ny at *
 obtain ⟨n,hn⟩:∃ n,a.length+b.length+1=n:=⟨_,rfl⟩
 have hw1:IntKind.i64.wrap ((a.length:Int)+b.length)=(a.length:Int)+b.length:=wrap_i64 (by omega) (by omega)
 have hw2:IntKind.i64.wrap ((a.length:Int)+b.length+1)=(n:Int):=by rw [wrap_i64 (by omega) (by omega)]; omega
 have hm1:(4:Int) * n≤281474976710656:=by omega
 have hm2:(n:Int)≤9223372036854775807:=by omega
 have h00:muO a b 0=List.replicate n 0:=by rw [← hn]; rfl
 simp (maxSteps:=1000000) [-map_map,-mapM_map,↓KW,encM,hw1,hw2,hm1,hm2]
 refine loopP_inv (fun i:Nat=>i≤a.length)
  (fun i=>StL [(2,.ptr 1 0),(3,.ptr 2 0),(4,.ptr 3 0),(5,.own 4 0 n 1),(6,.d (.i .i64 i))] none
   [.cells 69 [.d (.b nx),.d (encM a)],.cells 69 [.d (.b ny),.d (encM b)],.cells 69 [.d (.b false),.nil],.cells 121 ((lms (muO a b i)).map .d)]) (fun i=>a.length - i) 0 (Nat.zero_le _) ?_ ?_
 ·refine wk_l [1,2,3,4] (by simp) ?_ ?_ <;> simp [-map_map,upd,inj1,Γ0,encM,h00]
 ·intro i hi
  obtain ⟨ol,om,ov⟩:=muO_inv la lb i hi
  rw [hn] at ol
  by_cases hgo:i<a.length
  ·have q1:(i:Int)<a.length:=by omega
   simp (maxSteps:=1000000) [-map_map,-mapM_map,↓KW,encM,q1]
   have hsucc:muO a b (i+1)=(muI (muO a b i) (a.getD i 0) b i (muN (muO a b i) (a.getD i 0) b i)).1:=rfl
   have g1:=getD_some hgo
   have hlt:=muO_lt la lb hi
   rw [← ov] at hlt
   generalize hout:muO a b i=out at *
   have hal:=la.getD i
   generalize a.getD i 0=xv at *
   have hwx:IntKind.u64.wrap (xv:Int)=xv:=wrap_u64 (by omega) (by omega)
   refine loopP_inv (fun k:Nat=>k≤b.length∨(k=b.length+1∧(muI out xv b i b.length).2≠0))
    (fun k=>StL [(2,.ptr 1 0),(3,.ptr 2 0),(4,.ptr 3 0),(5,.own 4 0 n 1),(6,.d (.i .i64 i)),(7,.d (.i .u64 (muI out xv b i k).2)),(8,.d (.i .i64 k))] none
     [.cells 69 [.d (.b nx),.d (encM a)],.cells 69 [.d (.b ny),.d (encM b)],.cells 69 [.d (.b false),.nil],.cells 121 ((lms (muI out xv b i k).1).map .d)]) (fun k=>b.length+1 - k) 0 (.inl (Nat.zero_le _)) ?_ ?_
   ·refine wk_l [1,2,3,4] (by simp) ?_ ?_ <;> simp [-map_map,upd,inj1,Γ0,encM,muI]
   ·intro k hk
    have hkl:k≤b.length+1:=by omega
    obtain ⟨il,ic,im,_⟩:=muI_inv om lb hal (i:=i) (by omega) k hkl
    have isucc:muI out xv b i (k+1)=((muI out xv b i k).1.set (i+k) (((muI out xv b i k).2+(muI out xv b i k).1.getD (i+k) 0+xv * b.getD k 0) % 4294967296),((muI out xv b i k).2+(muI out xv b i k).1.getD (i+k) 0+xv * b.getD k 0) / 4294967296):=rfl
    have hstop0:=muI_stop om lb hal (i:=i) (by omega) hlt
    have hres:(k<b.length∨0<(muI out xv b i k).2)∨muO a b (i+1)=(muI out xv b i k).1:=by
     rw [hsucc]; unfold muN
     rcases hk with hk | ⟨hk,hc⟩
     ·by_cases h1:k=b.length
      ·subst h1
       by_cases h2:(muI out xv b i b.length).2=0
       ·rw [if_pos h2]; exact .inr rfl
       ·exact .inl (.inr (by omega))
      ·exact .inl (.inl (by omega))
     ·rw [if_neg hc,hk]; exact .inr rfl
    have hnext:(k<b.length∨0<(muI out xv b i k).2)→k≤b.length∧(k+1≤b.length∨(k+1=b.length+1∧(muI out xv b i b.length).2≠0)):=by
     intro h
     rcases hk with hk | ⟨hk,hc⟩
     ·refine ⟨hk,?_⟩
      by_cases h1:k=b.length
      ·subst h1; exact .inr ⟨rfl,by omega⟩
      ·exact .inl (by omega)
     ·rw [hk,hstop0] at h; omega
    clear hstop0 hsucc
    have ho:=im.getD (i+k)
    generalize hcar:(muI out xv b i k).2=c at *
    generalize hcur:(muI out xv b i k).1=cur at *
    by_cases hg2:k<b.length∨0<c
    ·obtain ⟨n1,n2⟩:=hnext hg2
     obtain ⟨j,hj⟩:∃ j,i+k=j:=⟨_,rfl⟩
     rw [hj] at isucc ho
     have hjl:j<cur.length:=by omega
     have g2:=lms_get (getD_some hjl)
     have hwj:IntKind.i64.wrap ((i:Int)+k)=j:=by rw [wrap_i64 (by omega) (by omega)]; omega
     have hjn:(j:Int)<n:=by omega
     have hw8:IntKind.i64.wrap ((k:Int)+1)=(k:Int)+1:=wrap_i64 (by omega) (by omega)
     have hjl2:j<(lms cur).length:=by rw [lms_len]; exact hjl
     have hjl3:j+1≤n:=by omega
     have hyb:=lb.getD k
     have hlim:=mu_lim ic ho hal hyb
     have hy0:¬ k<b.length→b.getD k 0=0:=getD_none
     have g3:k<b.length→b[k]? = some (b.getD k 0):=getD_some
     generalize cur.getD j 0=o at *
     generalize b.getD k 0=yv at *
     obtain ⟨s1,hs1⟩:∃ s1:Nat,c+o=s1:=⟨_,rfl⟩
     obtain ⟨t,ht⟩:∃ t:Nat,s1+xv * yv=t:=⟨_,rfl⟩
     rw [hs1] at isucc hlim
     rw [ht] at isucc hlim
     obtain ⟨lo,hlo⟩:∃ lo:Nat,t % 4294967296=lo:=⟨_,rfl⟩
     obtain ⟨hi',hhi⟩:∃ hi':Nat,t / 4294967296=hi':=⟨_,rfl⟩
     rw [hlo,hhi] at isucc
     have hwo:IntKind.u64.wrap (o:Int)=o:=wrap_u64 (by omega) (by omega)
     have hws:IntKind.u64.wrap ((c:Int)+o)=s1:=by rw [wrap_u64 (by omega) (by omega)]; omega
     have hwlo:IntKind.u32.wrap (t:Int)=lo:=by rw [wrap_u32m]; omega
     have hwhi:IntKind.u64.wrap ((t:Int) / 4294967296)=hi':=by rw [wrap_u64 (by omega) (by omega)]; omega
     have hlay:lay (List.map AV.d (lms cur)) j [AV.d (D.i .u32 (lo:Int))]=List.map AV.d (lms (cur.set j lo)):=by
      rw [lay_one _ _ _ hjl2,lms_set]
     have hgj:List.length cur=n:=by omega
     by_cases hkb:k<b.length
     ·have q2:(k:Int)<b.length:=by omega
      have g4:=g3 hkb
      have hwy:IntKind.u64.wrap (yv:Int)=yv:=wrap_u64 (by omega) (by omega)
      obtain ⟨e,he⟩:∃ e:Nat,xv * yv=e:=⟨_,rfl⟩
      rw [he] at ht
      have hwm:IntKind.u64.wrap ((xv:Int) * yv)=e:=by rw [← Int.natCast_mul,he,wrap_u64 (by omega) (by omega)]
      have hwt:IntKind.u64.wrap ((s1:Int)+e)=t:=by rw [wrap_u64 (by omega) (by omega)]; omega
      simp (maxSteps:=1000000) [-map_map,-mapM_map,↓KW,encM,q2,hwj,hjn,g2,hwo,hws,g1,g4,hwx,hwy,hwm,hwt,hwlo,hwhi,hlay,hw8,hjl3,hgj]
      refine nxt_intro (k+1) n2 ?_ (wk_l [1,2,3,4] (by simp) ?_ ?_)
      ·omega
      ·simp [-map_map,upd,inj1,Γ0,encM,isucc]
      ·simp [-map_map,upd,inj1,Γ0,encM,isucc]
     ·have q2:¬ (k:Int)<b.length:=by omega
      have q3:0<c:=by omega
      have e1:t=s1:=by rw [hy0 hkb,Nat.mul_zero] at ht; omega
      rw [e1] at hwlo hwhi
      simp (maxSteps:=1000000) [-map_map,-mapM_map,↓KW,encM,q2,q3,hwj,hjn,g2,hwo,hws,hwlo,hwhi,hlay,hw8,hjl3,hgj]
      refine nxt_intro (k+1) n2 ?_ (wk_l [1,2,3,4] (by simp) ?_ ?_)
      ·omega
      ·simp [-map_map,upd,inj1,Γ0,encM,isucc]
      ·simp [-map_map,upd,inj1,Γ0,encM,isucc]
    ·have q2:¬ (k:Int)<b.length:=by omega
     have q3:¬ 0<c:=by omega
     have hfin:=hres.resolve_left hg2
     have hw8:IntKind.i64.wrap ((i:Int)+1)=(i:Int)+1:=wrap_i64 (by omega) (by omega)
     simp (maxSteps:=1000000) [-map_map,-mapM_map,↓KW,encM,q2,q3,hw8]
     refine nxt_intro (i+1) hgo ?_ (wk_l [1,2,3,4] (by simp) ?_ ?_)
     ·omega
     ·simp [-map_map,upd,inj1,Γ0,encM,hfin]
     ·simp [-map_map,upd,inj1,Γ0,encM,hfin]
  ·have q1:¬ (i:Int)<a.length:=by omega
   have e:i=a.length:=by omega
   rw [e,List.take_of_length_le (Nat.le_refl _),va,vb] at ov
   have hm:=r01Made (muO a b i) (nx != ny) (by omega)
   rw [made_encZ om,e,ov] at hm
   have e2:sg (nx != ny) (x.natAbs * y.natAbs)=x * y:=by
    rw [← sx,← sy]
    cases nx <;> cases ny <;> simp [sg,Int.mul_neg,Int.neg_mul]
   rw [e2] at hm
   rw [e] at ol
   have e':muO a b i=muO a b a.length:=by rw [e]
   generalize muO a b a.length=out at *
   simp (maxSteps:=1000000) [-map_map,-mapM_map,↓KW,encM,q1,e']
   refine callP_intro (ds:=[encM out,.b (nx != ny)]) ?_ hm ?_
   ·simp (maxSteps:=1000000) [-map_map,-mapM_map,↓KW,encM,ol,chunk_lms ol,lms_take_all ol]
    cases nx <;> cases ny <;> rfl
   ·simp (maxSteps:=1000000) [-map_map,-mapM_map,↓KW,encM,encZ,encI,ol,chunk_lms ol,lms_take_all ol]
end Go.Am
end

section
set_option linter.unusedVariables false
set_option linter.unusedSimpArgs false
open List (map_map mapM_map)
open Go Go.Am Go.Proofs
namespace Go.Am
theorem wrap_nat {n:Nat} (h:n≤9223372036854775807):IntKind.i64.wrap (n:Int)=n:=wrap_i64 (by omega) (by omega)
set_option maxRecDepth 10000 in
theorem intTrim (m:List Nat) (hl:m.length≤1099511627776):Spec Tryz.prog 101 [encM m] (encM (strip m)):=by
 refine spec_of (N:=21) follows_mixed Tryz.func101 rfl rfl rfl (by kernel_rfl) (by kernel_rfl) (by simp) ?_
 simp (maxSteps:=1000000) [-map_map,-mapM_map,↓KW,encM]
 refine loopP_inv (fun n:Nat=>n≤m.length∧strip (m.take n)=strip m) (fun n=>StL [(0,.d (encM m)),(3,.d (.i .i64 n))] none []) (fun n=>n) m.length ⟨Nat.le_refl _,by simp⟩ ?_ ?_
 ·refine wk_l [] (by simp) ?_ ?_ <;> simp [-map_map,upd,inj1,Γ0,encM]
 ·rintro n ⟨hn,hs⟩
  rcases n with _ | n
  ·have hs':strip m=[]:=hs.symm
   have h0:okHead 1 (m.map fun (x:Nat)=>[D.i .u32 (x:Int)])=true:=okHead_encM m _
   simp (maxSteps:=1000000) [-map_map,-mapM_map,↓KW,encM,hs',h0]
  ·have hx:m[n]? = some m[n]:=List.getElem?_eq_getElem hn
   have hw:IntKind.i64.wrap (n:Int)=n:=wrap_nat (by omega)
   have hp:(0:Int)<(n:Int)+1:=by omega
   have hp2:(0:Int)≤(n:Int)+1:=by omega
   by_cases h0:m[n]=0
   ·simp (maxSteps:=1000000) [-map_map,-mapM_map,↓KW,encM,hx,hw,h0,hp]
    refine nxt_intro n ⟨by omega,(strip_take_zero hn h0).symm.trans hs⟩ (by omega) (wk_l [] (by simp) ?_ ?_) <;> simp [-map_map,upd,inj1,Γ0,encM]
   ·have h1:((m[n]:Int) == 0)=false:=by simp; omega
    have he:strip m=m.take (n+1):=hs.symm.trans (strip_take_last hn h0)
    have hn':(n:Int)+1≤m.length:=by omega
    obtain ⟨pre,hpre⟩:∃ pre,m.take (n+1)=pre:=⟨_,rfl⟩
    have hp1:∀ f:Nat→List D,(m.map f).take (n+1)=pre.map f:=fun f=>by rw [← hpre,List.map_take]
    rw [hpre] at he
    simp (maxSteps:=1000000) [-map_map,-mapM_map,↓KW,encM,hx,hw,h1,hp,hp2,he,hn',hp1,okHead_encM]
set_option maxRecDepth 10000 in
theorem intValue (neg:Bool) (m:List Nat) (hl:m.length≤1099511627776):Spec Tryz.prog 102 [.b neg,encM m] (encI (neg && decide (strip m≠[])) (strip m)):=by
 refine spec_of (N:=14) follows_mixed Tryz.func102 rfl rfl rfl (by kernel_rfl) (by kernel_rfl) (by simp) ?_
 simp (maxSteps:=1000000) [-map_map,-mapM_map,↓KW,encM]
 refine callP_intro (ds:=[encM m]) (by rfl) (intTrim m hl) ?_
 cases hm:strip m with
 | nil =>
  cases neg <;> simp (maxSteps:=1000000) [-map_map,-mapM_map,↓KW,encM,encI]
 | cons x l =>
  have h1:(((l.length:Int)+1 == 0):Bool)=false:=by simp; omega
  cases neg <;> simp (maxSteps:=1000000) [-map_map,-mapM_map,↓KW,encM,encI,h1]
theorem intValueZ {m:List Nat} (h:Lim m) (hl:m.length≤1099511627776) (neg:Bool):Spec Tryz.prog 102 [.b neg,encM m] (encZ (sg neg (val m))):=by
 rw [← made_encZ h]; exact intValue neg m hl
set_option maxRecDepth 10000 in
theorem intSign (neg:Bool) (m:List Nat) (hl:m.length≤1099511627776):Spec Tryz.prog 66 [encI neg m] (.i .i64 (if strip m=[] then 0 else if neg then -1 else 1)):=by
 refine spec_of (N:=12) follows_mixed Tryz.func66 rfl rfl rfl (by kernel_rfl) (by kernel_rfl) (by simp) ?_
 simp (maxSteps:=1000000) [-map_map,-mapM_map,↓KW,encI,encM]
 refine callP_intro (ds:=[encM m]) (by rfl) (intTrim m hl) ?_
 cases hm:strip m with
 | nil=>simp (maxSteps:=1000000) [-map_map,-mapM_map,↓KW,encM,encI]
 | cons x l =>
  have h1:(((l.length:Int)+1 == 0):Bool)=false:=by simp; omega
  cases neg <;> simp (maxSteps:=1000000) [-map_map,-mapM_map,↓KW,encM,encI,h1]
set_option maxRecDepth 10000 in
theorem nanI (x:Int):Spec Tryz.prog 107 [.i .i64 x] (.b false):=by
 refine spec_of (N:=6) follows_mixed Tryz.func107 rfl rfl rfl (by kernel_rfl) (by kernel_rfl) (by simp) ?_
 simp (maxSteps:=1000000) [-map_map,-mapM_map,↓KW]
set_option maxRecDepth 10000 in
theorem nanU (x:Int):Spec Tryz.prog 154 [.i .u32 x] (.b false):=by
 refine spec_of (N:=6) follows_mixed Tryz.func154 rfl rfl rfl (by kernel_rfl) (by kernel_rfl) (by simp) ?_
 simp (maxSteps:=1000000) [-map_map,-mapM_map,↓KW]
def cmpI (x y:Int):Int:=if x<y then -1 else if y<x then 1 else 0
set_option maxRecDepth 10000 in
theorem cmpInt (x y:Int):Spec Tryz.prog 70 [.i .i64 x,.i .i64 y] (.i .i64 (cmpI x y)):=by
 refine spec_of (N:=20) follows_mixed Tryz.func70 rfl rfl rfl (by kernel_rfl) (by kernel_rfl) (by simp) ?_
 simp (maxSteps:=1000000) [-map_map,-mapM_map,↓KW]
 refine callP_intro (ds:=[.i .i64 x]) (by rfl) (nanI x) ?_
 simp (maxSteps:=1000000) [-map_map,-mapM_map,↓KW]
 refine callP_intro (ds:=[.i .i64 y]) (by rfl) (nanI y) ?_
 by_cases h1:x<y
 ·simp (maxSteps:=1000000) [-map_map,-mapM_map,↓KW,h1,cmpI]
 ·by_cases h2:y<x <;> simp (maxSteps:=1000000) [-map_map,-mapM_map,↓KW,h1,h2,cmpI]
set_option maxRecDepth 10000 in
theorem cmpU (x y:Int):Spec Tryz.prog 129 [.i .u32 x,.i .u32 y] (.i .i64 (cmpI x y)):=by
 refine spec_of (N:=20) follows_mixed Tryz.func129 rfl rfl rfl (by kernel_rfl) (by kernel_rfl) (by simp) ?_
 simp (maxSteps:=1000000) [-map_map,-mapM_map,↓KW]
 refine callP_intro (ds:=[.i .u32 x]) (by rfl) (nanU x) ?_
 simp (maxSteps:=1000000) [-map_map,-mapM_map,↓KW]
 refine callP_intro (ds:=[.i .u32 y]) (by rfl) (nanU y) ?_
 by_cases h1:x<y
 ·simp (maxSteps:=1000000) [-map_map,-mapM_map,↓KW,h1,cmpI]
 ·by_cases h2:y<x <;> simp (maxSteps:=1000000) [-map_map,-mapM_map,↓KW,h1,h2,cmpI]
def cmpL (a b:List Nat):Int:=if lessL a b then -1 else if lessL b a then 1 else 0
set_option maxRecDepth 10000 in
theorem intCompare (a b:List Nat) (ha:Lim a) (hb:Lim b) (hla:a.length≤1099511627776) (hlb:b.length≤1099511627776):Spec Tryz.prog 100 [encM a,encM b] (.i .i64 (cmpL a b)):=by
 refine spec_of (N:=35) follows_mixed Tryz.func100 rfl rfl rfl (by kernel_rfl) (by kernel_rfl) (by simp) ?_
 simp (maxSteps:=1000000) [-map_map,-mapM_map,↓KW,encM]
 refine callP_intro (ds:=[.i .i64 a.length,.i .i64 b.length]) (by rfl) (cmpInt _ _) ?_
 by_cases hn:a.length=b.length
 rotate_left
 ·rcases Nat.lt_or_gt_of_ne hn with h | h
  ·have h1:cmpI a.length b.length=-1:=by unfold cmpI; rw [if_pos (by omega)]
   have h2:cmpL a b=-1:=by simp [cmpL,lessL,hn,h]
   simp (maxSteps:=1000000) [-map_map,-mapM_map,↓KW,encM,h1,h2]
  ·have h1:cmpI a.length b.length=1:=by unfold cmpI; rw [if_neg (by omega),if_pos (by omega)]
   have h2:cmpL a b=1:=by
    have h3:¬ a.length<b.length:=by omega
    have h4:¬ b.length=a.length:=fun e=>hn e.symm
    simp [cmpL,lessL,hn,h,h3,h4]
   simp (maxSteps:=1000000) [-map_map,-mapM_map,↓KW,encM,h1,h2]
 ·have h1:cmpI a.length b.length=0:=by simp [cmpI,hn]
  have hw:IntKind.i64.wrap ((a.length:Int) - 1)=(a.length:Int) - 1:=wrap_i64 (by omega) (by omega)
  simp (maxSteps:=1000000) [-map_map,-mapM_map,↓KW,encM,h1,hw]
  refine loopP_inv (fun k:Nat=>k≤a.length∧a.drop k=b.drop k) (fun k=>StL [(0,.d (encM a)),(1,.d (encM b)),(6,.d (.i .i64 ((k:Int) - 1)))] none []) (fun k=>k) a.length ⟨Nat.le_refl _,by rw [List.drop_eq_nil_of_le (Nat.le_refl _),List.drop_eq_nil_of_le (by omega)]⟩ ?_ ?_
  ·refine wk_l [] (by simp) ?_ ?_ <;> simp [-map_map,upd,inj1,Γ0,encM]
  ·rintro k ⟨hk,hd⟩
   rcases k with _ | k
   ·have e:a=b:=by simpa using hd
    subst e
    simp (maxSteps:=1000000) [-map_map,-mapM_map,↓KW,encM,lessL,cmpL]
   ·have hkb:k<b.length:=by omega
    have hxa:a[k]? = some a[k]:=List.getElem?_eq_getElem hk
    have hxb:b[k]? = some b[k]:=List.getElem?_eq_getElem hkb
    have hw2:IntKind.i64.wrap ((k:Int) - 1)=(k:Int) - 1:=wrap_i64 (by omega) (by omega)
    have hp:(0:Int)≤k:=by omega
    simp (maxSteps:=1000000) [-map_map,-mapM_map,↓KW,encM,hxa,hxb,hp]
    refine callP_intro (ds:=[.i .u32 a[k],.i .u32 b[k]]) (by rfl) (cmpU _ _) ?_
    by_cases he:a[k]=b[k]
    ·have h2:cmpI a[k] b[k]=0:=by simp [cmpI,he]
     simp (maxSteps:=1000000) [-map_map,-mapM_map,↓KW,encM,h2,hw2]
     refine nxt_intro k ⟨by omega,?_⟩ (by omega) (wk_l [] (by simp) ?_ ?_)
     ·rw [List.drop_eq_getElem_cons hk,List.drop_eq_getElem_cons hkb,he,hd]
     ·simp [-map_map,upd,inj1,Γ0,encM]
     ·trivial
    ·have ga:a.getD k 0=a[k]:=by rw [List.getD_eq_getElem?_getD,hxa]; rfl
     have gb:b.getD k 0=b[k]:=by rw [List.getD_eq_getElem?_getD,hxb]; rfl
     rcases Nat.lt_or_ge a[k] b[k] with hlt | hge
     ·have h3:=val_lt_of ha (i:=k) hn hk hd (by rw [ga,gb]; exact hlt)
      have h4:cmpI a[k] b[k]=-1:=by unfold cmpI; rw [if_pos (by omega)]
      have h5:cmpL a b=-1:=by simp [cmpL,lessL,hn,h3]
      simp (maxSteps:=1000000) [-map_map,-mapM_map,↓KW,encM,h4,h5]
     ·have h3:=val_lt_of hb (i:=k) hn.symm hkb hd.symm (by rw [ga,gb]; omega)
      have h4:cmpI a[k] b[k]=1:=by unfold cmpI; rw [if_neg (by omega),if_pos (by omega)]
      have h6:¬ val a<val b:=by omega
      have h5:cmpL a b=1:=by simp [cmpL,lessL,hn,h3,h6]
      simp (maxSteps:=1000000) [-map_map,-mapM_map,↓KW,encM,h4,h5]
end Go.Am
end

section
set_option linter.unusedVariables false
set_option linter.unusedSimpArgs false
open List (map_map mapM_map)
open Go Go.Am Go.Proofs
namespace Go.Am
def zp (out:List Nat) (n:Nat):List Nat:=out++List.replicate (n - out.length) 0
theorem zp_len {out:List Nat} {n:Nat} (h:out.length≤n):(zp out n).length=n:=by simp [zp]; omega
theorem zp_full {out:List Nat} {n:Nat} (h:out.length=n):zp out n=out:=by subst h; simp [zp]
theorem zp_nil (n:Nat):zp [] n=List.replicate n 0:=by simp [zp]
theorem zp_set {out:List Nat} {n i:Nat} (h:out.length=i) (hi:i<n) (v:Nat):(zp out n).set i v=zp (out++[v]) n:=by
 subst h
 unfold zp
 obtain ⟨k,hk⟩:∃ k,n - out.length=k+1:=⟨n - out.length - 1,by omega⟩
 rw [hk,List.set_append_right _ _ (Nat.le_refl _),Nat.sub_self,List.replicate_succ,List.set_cons_zero,List.length_append,List.length_singleton,show n - (out.length+1)=k from by omega,List.append_assoc]
 rfl
theorem zp_lay {out:List Nat} {n i:Nat} (h:out.length=i) (hi:i<n) (v:Nat):lay (List.map AV.d (lms (zp out n))) i [AV.d (D.i .u32 (v:Int))]=List.map AV.d (lms (zp (out++[v]) n)):=by
 rw [lay_one _ _ _ (by rw [lms_len,zp_len (by omega)]; exact hi),lms_set,zp_set h hi]
theorem shr32 {t:Nat}:shiftA .shr .u64 (t:Int) 32=some (.i .u64 ((t / 4294967296:Nat):Int)):=by
 simp only [shiftA,IntKind.bits]
 rw [if_neg (by decide)]
 congr 2
 rw [show (2:Int) ^ (min (32:Int).toNat 64)=4294967296 from by decide,Int.fdiv_eq_ediv_of_nonneg _ (by decide)]
 omega
theorem shr63 {t:Int} (_h0:0≤t):shiftA .shr .u64 t 63=some (.i .u64 (t / 9223372036854775808)):=by
 simp only [shiftA,IntKind.bits]
 rw [if_neg (by decide)]
 congr 2
 rw [show (2:Int) ^ (min (63:Int).toNat 64)=9223372036854775808 from by decide,Int.fdiv_eq_ediv_of_nonneg _ (by decide)]
def ip (p q:List Nat):List Nat:=(plS p q p.length).1++[(plS p q p.length).2]
theorem ip_val {p q:List Nat} (lp:Lim p) (lq:Lim q) (h:q.length≤p.length):val (ip p q)=val p+val q∧Lim (ip p q)∧(ip p q).length=p.length+1:=by
 obtain ⟨h1,h2,h3,h4⟩:=plS_inv lp lq p.length
 rw [List.take_of_length_le (Nat.le_refl _),List.take_of_length_le h] at h4
 unfold ip
 refine ⟨?_,h3.app (.one (by omega)),by simp [h1]⟩
 rw [val_app,h1]
 simp only [val,Nat.mul_zero,Nat.add_zero]
 exact h4
def iplusR (a b:List Nat):List Nat:=if a.length<b.length then ip b a else ip a b
theorem iplusR_val {a b:List Nat} (ha:Lim a) (hb:Lim b):val (iplusR a b)=val a+val b∧Lim (iplusR a b)∧(iplusR a b).length≤a.length+b.length+1:=by
 unfold iplusR
 by_cases h:a.length<b.length
 ·rw [if_pos h]
  obtain ⟨h1,h2,h3⟩:=ip_val hb ha (by omega)
  exact ⟨by omega,h2,by omega⟩
 ·rw [if_neg h]
  obtain ⟨h1,h2,h3⟩:=ip_val ha hb (by omega)
  exact ⟨h1,h2,by omega⟩
set_option maxRecDepth 10000 in
theorem intPlus (a b:List Nat) (ha:Lim a) (hb:Lim b) (hla:a.length≤274877906944) (hlb:b.length≤274877906944):Spec Tryz.prog 149 [encM a,encM b] (encM (iplusR a b)):=by
 refine spec_of (N:=57) follows_mixed Tryz.func149 rfl rfl rfl (by kernel_rfl) (by kernel_rfl) (by simp) ?_
 obtain ⟨p,q,lp,lq,hqp,hpl,hr,hc⟩:∃ p q:List Nat,Lim p∧Lim q∧q.length≤p.length∧p.length≤274877906944∧iplusR a b=ip p q∧((a.length<b.length∧p=b∧q=a)∨(¬ a.length<b.length∧p=a∧q=b)):=by
  by_cases h:a.length<b.length
  ·exact ⟨b,a,hb,ha,by omega,hlb,by simp [iplusR,h],.inl ⟨h,rfl,rfl⟩⟩
  ·exact ⟨a,b,ha,hb,by omega,hla,by simp [iplusR,h],.inr ⟨h,rfl,rfl⟩⟩
 rw [hr]
 obtain ⟨n,hn⟩:∃ n,p.length+1=n:=⟨_,rfl⟩
 have hw2:IntKind.i64.wrap ((p.length:Int)+1)=(n:Int):=by rw [wrap_i64 (by omega) (by omega)]; omega
 have hm1:(4:Int) * n≤281474976710656:=by omega
 have hm2:(n:Int)≤9223372036854775807:=by omega
 rcases hc with ⟨h,hp,hq⟩ | ⟨h,hp,hq⟩ <;> subst hp <;> subst hq
 ·have h1:(q.length:Int)<p.length:=by omega
  simp (maxSteps:=1000000) [-map_map,-mapM_map,↓KW,encM,h1,hw2,hm1,hm2]
  refine loopP_inv (fun i:Nat=>i≤p.length) (fun i=>StL [(0,.d (encM p)),(1,.d (encM q)),(5,.own 1 0 n 1),(6,.d (.i .u64 (plS p q i).2)),(20,.d (.i .i64 p.length)),(21,.d (.i .i64 i))] none [.cells 121 ((lms (zp (plS p q i).1 n)).map .d)]) (fun i=>p.length - i) 0 (Nat.zero_le _) ?_ ?_
  ·refine wk_l [1] (by simp) ?_ ?_ <;> simp [-map_map,upd,inj1,Γ0,encM,plS,zp_nil]
  ·intro i hi
   obtain ⟨hlen,hc,_,_⟩:=plS_inv lp lq i
   have hsucc:plS p q (i+1)=((plS p q i).1++[((plS p q i).2+p.getD i 0+q.getD i 0) % 4294967296],((plS p q i).2+p.getD i 0+q.getD i 0) / 4294967296):=rfl
   have hal:=lp.getD i
   have hbl:=lq.getD i
   have hres:i=p.length→(plS p q i).1++[(plS p q i).2]=ip p q:=fun e=>by rw [e]; rfl
   generalize hout:(plS p q i).1=out at *
   generalize hcar:(plS p q i).2=c at *
   have hzl:(zp out n).length=n:=zp_len (by omega)
   by_cases hgo:i<p.length
   ·have hw7:IntKind.i64.wrap ((i:Int)+1)=(i:Int)+1:=wrap_i64 (by omega) (by omega)
    have q1:(i:Int)<p.length:=by omega
    have q3:(i:Int)<n:=by omega
    have q4:i+1≤n:=by omega
    have g1:=getD_some hgo
    have hb0:¬ i<q.length→q.getD i 0=0:=getD_none
    have g2:i<q.length→q[i]? = some (q.getD i 0):=getD_some
    generalize p.getD i 0=x at *
    generalize q.getD i 0=y at *
    obtain ⟨s1,hs1⟩:∃ s1:Nat,c+x=s1:=⟨_,rfl⟩
    obtain ⟨s2,hs2⟩:∃ s2:Nat,s1+y=s2:=⟨_,rfl⟩
    rw [hs1,hs2] at hsucc
    have hwx:IntKind.u64.wrap (x:Int)=x:=wrap_u64 (by omega) (by omega)
    have hwy:IntKind.u64.wrap (y:Int)=y:=wrap_u64 (by omega) (by omega)
    have hw1:IntKind.u64.wrap ((c:Int)+x)=s1:=by rw [wrap_u64 (by omega) (by omega)]; omega
    have hw2':IntKind.u64.wrap ((s1:Int)+y)=s2:=by rw [wrap_u64 (by omega) (by omega)]; omega
    obtain ⟨lo,hlo⟩:∃ lo:Nat,s2 % 4294967296=lo:=⟨_,rfl⟩
    have hsh:=shr32 (t:=s2)
    obtain ⟨hi',hhi⟩:∃ hi':Nat,s2 / 4294967296=hi':=⟨_,rfl⟩
    rw [hhi] at hsh
    have hw3:IntKind.u32.wrap (s2:Int)=lo:=by rw [wrap_u32m]; omega
    rw [hlo,hhi] at hsucc
    have hlay:=zp_lay hlen (show i<n by omega) lo
    by_cases hbn:i<q.length
    ·have q2:(i:Int)<q.length:=by omega
     have g3:=g2 hbn
     simp (maxSteps:=1000000) [-map_map,-mapM_map,↓KW,encM,q1,q2,q3,q4,g1,g3,hwx,hwy,hw1,hw2',hw3,hsh,hlay,hw7,hzl]
     refine nxt_intro (i+1) hgo ?_ (wk_l [1] (by simp) ?_ ?_)
     ·omega
     ·simp [-map_map,upd,inj1,Γ0,encM,hsucc]
     ·simp [-map_map,upd,inj1,Γ0,encM,hsucc]
    ·have q2:¬ (i:Int)<q.length:=by omega
     have e2:s2=s1:=by have:=hb0 hbn; omega
     rw [e2] at hw3 hsh
     simp (maxSteps:=1000000) [-map_map,-mapM_map,↓KW,encM,q1,q2,q3,q4,g1,hwx,hw1,hw3,hsh,hlay,hw7,hzl]
     refine nxt_intro (i+1) hgo ?_ (wk_l [1] (by simp) ?_ ?_)
     ·omega
     ·simp [-map_map,upd,inj1,Γ0,encM,hsucc]
     ·simp [-map_map,upd,inj1,Γ0,encM,hsucc]
   ·have e:i=p.length:=by omega
    have h1:¬ (i:Int)<p.length:=by omega
    have h4:=hres e
    have hn':(p.length:Int)<n:=by omega
    have hn2:p.length+1≤n:=by omega
    have hw3:IntKind.u32.wrap (c:Int)=c:=wrap_u32 (by omega) (by omega)
    have hlay:=zp_lay (hlen.trans e) (show p.length<n by omega) c
    have hfl:(out++[c]).length=n:=by simp; omega
    have h5:zp (out++[c]) n=out++[c]:=zp_full hfl
    rw [h5,h4] at hlay
    rw [h4] at hfl
    simp (maxSteps:=1000000) [-map_map,-mapM_map,↓KW,encM,h1,hn',hn2,hw3,hlay,hzl,hfl,chunk_lms hfl,lms_take_all hfl]
 ·have h1:¬ (p.length:Int)<q.length:=by omega
  simp (maxSteps:=1000000) [-map_map,-mapM_map,↓KW,encM,h1,hw2,hm1,hm2]
  refine loopP_inv (fun i:Nat=>i≤p.length) (fun i=>StL [(0,.d (encM p)),(1,.d (encM q)),(5,.own 1 0 n 1),(6,.d (.i .u64 (plS p q i).2)),(20,.d (.i .i64 p.length)),(21,.d (.i .i64 i))] none [.cells 121 ((lms (zp (plS p q i).1 n)).map .d)]) (fun i=>p.length - i) 0 (Nat.zero_le _) ?_ ?_
  ·refine wk_l [1] (by simp) ?_ ?_ <;> simp [-map_map,upd,inj1,Γ0,encM,plS,zp_nil]
  ·intro i hi
   obtain ⟨hlen,hc,_,_⟩:=plS_inv lp lq i
   have hsucc:plS p q (i+1)=((plS p q i).1++[((plS p q i).2+p.getD i 0+q.getD i 0) % 4294967296],((plS p q i).2+p.getD i 0+q.getD i 0) / 4294967296):=rfl
   have hal:=lp.getD i
   have hbl:=lq.getD i
   have hres:i=p.length→(plS p q i).1++[(plS p q i).2]=ip p q:=fun e=>by rw [e]; rfl
   generalize hout:(plS p q i).1=out at *
   generalize hcar:(plS p q i).2=c at *
   have hzl:(zp out n).length=n:=zp_len (by omega)
   by_cases hgo:i<p.length
   ·have hw7:IntKind.i64.wrap ((i:Int)+1)=(i:Int)+1:=wrap_i64 (by omega) (by omega)
    have q1:(i:Int)<p.length:=by omega
    have q3:(i:Int)<n:=by omega
    have q4:i+1≤n:=by omega
    have g1:=getD_some hgo
    have hb0:¬ i<q.length→q.getD i 0=0:=getD_none
    have g2:i<q.length→q[i]? = some (q.getD i 0):=getD_some
    generalize p.getD i 0=x at *
    generalize q.getD i 0=y at *
    obtain ⟨s1,hs1⟩:∃ s1:Nat,c+x=s1:=⟨_,rfl⟩
    obtain ⟨s2,hs2⟩:∃ s2:Nat,s1+y=s2:=⟨_,rfl⟩
    rw [hs1,hs2] at hsucc
    have hwx:IntKind.u64.wrap (x:Int)=x:=wrap_u64 (by omega) (by omega)
    have hwy:IntKind.u64.wrap (y:Int)=y:=wrap_u64 (by omega) (by omega)
    have hw1:IntKind.u64.wrap ((c:Int)+x)=s1:=by rw [wrap_u64 (by omega) (by omega)]; omega
    have hw2':IntKind.u64.wrap ((s1:Int)+y)=s2:=by rw [wrap_u64 (by omega) (by omega)]; omega
    obtain ⟨lo,hlo⟩:∃ lo:Nat,s2 % 4294967296=lo:=⟨_,rfl⟩
    have hsh:=shr32 (t:=s2)
    obtain ⟨hi',hhi⟩:∃ hi':Nat,s2 / 4294967296=hi':=⟨_,rfl⟩
    rw [hhi] at hsh
    have hw3:IntKind.u32.wrap (s2:Int)=lo:=by rw [wrap_u32m]; omega
    rw [hlo,hhi] at hsucc
    have hlay:=zp_lay hlen (show i<n by omega) lo
    by_cases hbn:i<q.length
    ·have q2:(i:Int)<q.length:=by omega
     have g3:=g2 hbn
     simp (maxSteps:=1000000) [-map_map,-mapM_map,↓KW,encM,q1,q2,q3,q4,g1,g3,hwx,hwy,hw1,hw2',hw3,hsh,hlay,hw7,hzl]
     refine nxt_intro (i+1) hgo ?_ (wk_l [1] (by simp) ?_ ?_)
     ·omega
     ·simp [-map_map,upd,inj1,Γ0,encM,hsucc]
     ·simp [-map_map,upd,inj1,Γ0,encM,hsucc]
    ·have q2:¬ (i:Int)<q.length:=by omega
     have e2:s2=s1:=by have:=hb0 hbn; omega
     rw [e2] at hw3 hsh
     simp (maxSteps:=1000000) [-map_map,-mapM_map,↓KW,encM,q1,q2,q3,q4,g1,hwx,hw1,hw3,hsh,hlay,hw7,hzl]
     refine nxt_intro (i+1) hgo ?_ (wk_l [1] (by simp) ?_ ?_)
     ·omega
     ·simp [-map_map,upd,inj1,Γ0,encM,hsucc]
     ·simp [-map_map,upd,inj1,Γ0,encM,hsucc]
   ·have e:i=p.length:=by omega
    have h1:¬ (i:Int)<p.length:=by omega
    have h4:=hres e
    have hn':(p.length:Int)<n:=by omega
    have hn2:p.length+1≤n:=by omega
    have hw3:IntKind.u32.wrap (c:Int)=c:=wrap_u32 (by omega) (by omega)
    have hlay:=zp_lay (hlen.trans e) (show p.length<n by omega) c
    have hfl:(out++[c]).length=n:=by simp; omega
    have h5:zp (out++[c]) n=out++[c]:=zp_full hfl
    rw [h5,h4] at hlay
    rw [h4] at hfl
    simp (maxSteps:=1000000) [-map_map,-mapM_map,↓KW,encM,h1,hn',hn2,hw3,hlay,hzl,hfl,chunk_lms hfl,lms_take_all hfl]
set_option maxRecDepth 10000 in
theorem intMinus (a b:List Nat) (ha:Lim a) (hb:Lim b) (hla:a.length≤274877906944):Spec Tryz.prog 150 [encM a,encM b] (encM (minusR a b)):=by
 refine spec_of (N:=44) follows_mixed Tryz.func150 rfl rfl rfl (by kernel_rfl) (by kernel_rfl) (by simp) ?_
 obtain ⟨n,hn⟩:∃ n,a.length=n:=⟨_,rfl⟩
 have hm1:(4:Int) * n≤281474976710656:=by omega
 have hm2:(n:Int)≤9223372036854775807:=by omega
 simp (maxSteps:=1000000) [-map_map,-mapM_map,↓KW,encM,hn,hm1,hm2]
 refine loopP_inv (fun i:Nat=>i≤n) (fun i=>StL [(0,.d (encM a)),(1,.d (encM b)),(5,.own 1 0 n 1),(6,.d (.i .u64 (miS a b i).2)),(13,.d (.i .i64 n)),(14,.d (.i .i64 i))] none [.cells 121 ((lms (zp (miS a b i).1 n)).map .d)]) (fun i=>n - i) 0 (Nat.zero_le _) ?_ ?_
 ·refine wk_l [1] (by simp) ?_ ?_ <;> simp [-map_map,upd,inj1,Γ0,encM,miS,zp_nil,hn]
 ·intro i hi
  obtain ⟨hlen,hc,_,_⟩:=miS_inv ha hb i
  have hsucc:=miS_succ a b i
  have hal:=ha.getD i
  have hbl:=hb.getD i
  have hres:i=n→(miS a b i).1=minusR a b:=fun e=>by rw [e,← hn]; rfl
  generalize hout:(miS a b i).1=out at *
  generalize hcar:(miS a b i).2=c at *
  have hzl:(zp out n).length=n:=zp_len (by omega)
  by_cases hgo:i<n
  ·have hw7:IntKind.i64.wrap ((i:Int)+1)=(i:Int)+1:=wrap_i64 (by omega) (by omega)
   have q1:(i:Int)<n:=by omega
   have q4:i+1≤n:=hgo
   have g1:=getD_some (l:=a) (i:=i) (by omega)
   have hb0:¬ i<b.length→b.getD i 0=0:=getD_none
   have g2:i<b.length→b[i]? = some (b.getD i 0):=getD_some
   generalize a.getD i 0=x at *
   generalize b.getD i 0=y at *
   have hwx:IntKind.u64.wrap (x:Int)=x:=wrap_u64 (by omega) (by omega)
   have hwy:IntKind.u64.wrap (y:Int)=y:=wrap_u64 (by omega) (by omega)
   obtain ⟨d1,hd1⟩:∃ d1:Int,IntKind.u64.wrap ((x:Int) - c)=d1:=⟨_,rfl⟩
   obtain ⟨d,hd⟩:∃ d:Int,IntKind.u64.wrap (d1 - y)=d:=⟨_,rfl⟩
   have hd1':=hd1
   have hd':=hd
   rw [wrap_u64m] at hd1' hd'
   have hfin:∃ (lo bw:Nat),miS a b (i+1)=(out++[lo],bw)∧IntKind.u32.wrap d=lo∧shiftA .shr .u64 d 63=some (.i .u64 (bw:Int)):=by
    by_cases hle:c+y≤x
    ·rw [if_pos hle] at hsucc
     refine ⟨_,_,hsucc,?_,?_⟩
     ·rw [wrap_u32m]; omega
     ·rw [shr63 (by omega)]; congr 2; omega
    ·rw [if_neg hle] at hsucc
     refine ⟨_,_,hsucc,?_,?_⟩
     ·rw [wrap_u32m]; omega
     ·rw [shr63 (by omega)]; congr 2; omega
   obtain ⟨lo,bw,hs,hlo,hbw⟩:=hfin
   have hlay:=zp_lay hlen hgo lo
   by_cases hbn:i<b.length
   ·have q2:(i:Int)<b.length:=by omega
    have g3:=g2 hbn
    simp (maxSteps:=1000000) [-map_map,-mapM_map,↓KW,encM,q1,q2,g1,g3,hwx,hwy,hd1,hd,hlo,hbw,hlay,hw7,hzl,q4]
    refine nxt_intro (i+1) hgo ?_ (wk_l [1] (by simp) ?_ ?_)
    ·omega
    ·simp [-map_map,upd,inj1,Γ0,encM,hs]
    ·simp [-map_map,upd,inj1,Γ0,encM,hs]
   ·have q2:¬ (i:Int)<b.length:=by omega
    have e1:d1=d:=by have:=hb0 hbn; omega
    rw [e1] at hd1
    simp (maxSteps:=1000000) [-map_map,-mapM_map,↓KW,encM,q1,q2,g1,hwx,hd1,hlo,hbw,hlay,hw7,hzl,q4]
    refine nxt_intro (i+1) hgo ?_ (wk_l [1] (by simp) ?_ ?_)
    ·omega
    ·simp [-map_map,upd,inj1,Γ0,encM,hs]
    ·simp [-map_map,upd,inj1,Γ0,encM,hs]
  ·have e:i=n:=by omega
   have h1:¬ (i:Int)<n:=by omega
   have h4:=hres e
   have h5:zp out n=out:=zp_full (by omega)
   have hlen':out.length=n:=by omega
   simp (maxSteps:=1000000) [-map_map,-mapM_map,↓KW,encM,h1,h5,hlen',chunk_lms hlen',lms_take_all hlen',← h4]
end Go.Am
end

section
set_option linter.unusedVariables false
set_option linter.unusedSimpArgs false
open List (map_map mapM_map)
open Go Go.Am Go.Proofs
namespace Go.Am
theorem val_ge (l:List Nat) (j:Nat):4294967296 ^ j * l.getD j 0≤val l:=by
 have h:=val_take_succ l j
 have e:val l=val (l.take (j+1))+4294967296 ^ (l.take (j+1)).length * val (l.drop (j+1)):=by rw [← val_app,List.take_append_drop]
 have h2:val (l.take (j+1))≤val l:=by rw [e]; exact Nat.le_add_right _ _
 rw [h] at h2
 exact Nat.le_trans (Nat.le_add_left _ _) h2
theorem getD_zero_of_lt {l:List Nat} {j:Nat} (h:val l<4294967296 ^ j):l.getD j 0=0:=by
 have h1:=val_ge l j
 rcases Nat.eq_zero_or_pos (l.getD j 0) with h2 | h2
 ·exact h2
 ·exfalso
  have:4294967296 ^ j * 1≤4294967296 ^ j * l.getD j 0:=Nat.mul_le_mul_left _ h2
  rw [Nat.mul_one] at this
  omega
theorem muI_above {out b:List Nat} {x i:Nat} (k j:Nat) (h:i+k≤j):(muI out x b i k).1.getD j 0=out.getD j 0:=by
 induction k with
 | zero=>rfl
 | succ k ih =>
  have:=ih (by omega)
  rw [← this]
  simp only [muI,List.getD_eq_getElem?_getD]
  rw [List.getElem?_set_ne (by omega)]
def tmO (a b:List Nat):Nat→List Nat
 | 0=>List.replicate (a.length+b.length) 0
 | i+1=>(muI (tmO a b i) (a.getD i 0) b i b.length).1.set (i+b.length) (muI (tmO a b i) (a.getD i 0) b i b.length).2
theorem tmO_inv {a b:List Nat} (ha:Lim a) (hb:Lim b) (i:Nat) (hi:i≤a.length):(tmO a b i).length=a.length+b.length∧Lim (tmO a b i)∧val (tmO a b i)=val (a.take i) * val b:=by
 induction i with
 | zero=>exact ⟨by simp [tmO],.rep _,by simp [tmO,val_rep,val]⟩
 | succ i ih =>
  obtain ⟨h1,h2,h3⟩:=ih (by omega)
  have hv:=muO_lt ha hb (i:=i) (by omega)
  rw [← h3] at hv
  have hx:=ha.getD i
  obtain ⟨q1,q2,q3,q4⟩:=muI_inv (x:=a.getD i 0) (i:=i) h2 hb hx (by omega) b.length (by omega)
  have habove:=muI_above (out:=tmO a b i) (b:=b) (x:=a.getD i 0) (i:=i) b.length (i+b.length) (Nat.le_refl _)
  rw [getD_zero_of_lt hv] at habove
  rw [List.take_of_length_le (Nat.le_refl _)] at q4
  have hset:=val_set (l:=(muI (tmO a b i) (a.getD i 0) b i b.length).1) (j:=i+b.length) (by omega) (muI (tmO a b i) (a.getD i 0) b i b.length).2
  rw [habove,Nat.mul_zero,Nat.add_zero,q4] at hset
  refine ⟨?_,q3.set _ q2,?_⟩
  ·show (List.set _ _ _).length=_
   rw [List.length_set,q1,h1]
  ·show val (List.set _ _ _)=_
   rw [hset,h3,val_take_succ,Nat.add_mul,Nat.mul_assoc]
def timesR (a b:List Nat):List Nat:=tmO a b a.length
theorem timesR_val {a b:List Nat} (ha:Lim a) (hb:Lim b):val (timesR a b)=val a * val b∧Lim (timesR a b)∧(timesR a b).length=a.length+b.length:=by
 obtain ⟨h1,h2,h3⟩:=tmO_inv ha hb a.length (Nat.le_refl _)
 rw [List.take_of_length_le (Nat.le_refl _)] at h3
 exact ⟨h3,h2,h1⟩
set_option maxHeartbeats 1000000 in
set_option maxRecDepth 10000 in
theorem intTimes (a b:List Nat) (la:Lim a) (lb:Lim b) (hla:a.length≤137438953472) (hlb:b.length≤137438953472):Spec Tryz.prog 115 [encM a,encM b] (encM (timesR a b)):=by
 refine spec_of (N:=66) follows_mixed Tryz.func115 rfl rfl rfl (by kernel_rfl) (by kernel_rfl) (by simp) ?_
 obtain ⟨n,hn⟩:∃ n,a.length+b.length=n:=⟨_,rfl⟩
 have hw1:IntKind.i64.wrap ((a.length:Int)+b.length)=(n:Int):=by rw [wrap_i64 (by omega) (by omega)]; omega
 have hm1:(4:Int) * n≤281474976710656:=by omega
 have hm2:(n:Int)≤9223372036854775807:=by omega
 have h00:tmO a b 0=List.replicate n 0:=by rw [← hn]; rfl
 simp (maxSteps:=1000000) [-map_map,-mapM_map,↓KW,encM,hw1,hm1,hm2]
 refine loopP_inv (fun i:Nat=>i≤a.length)
  (fun i=>StL [(0,.d (encM a)),(1,.d (encM b)),(5,.own 1 0 n 1),(17,.d (encM a)),(18,.d (.i .i64 a.length)),(19,.d (.i .i64 i))] none [.cells 121 ((lms (tmO a b i)).map .d)]) (fun i=>a.length - i) 0 (Nat.zero_le _) ?_ ?_
 ·refine wk_l [1] (by simp) ?_ ?_ <;> simp [-map_map,upd,inj1,Γ0,encM,h00]
 ·intro i hi
  obtain ⟨ol,om,ov⟩:=tmO_inv la lb i hi
  rw [hn] at ol
  by_cases hgo:i<a.length
  ·have q1:(i:Int)<a.length:=by omega
   have g1:=getD_some hgo
   have hsucc:tmO a b (i+1)=(muI (tmO a b i) (a.getD i 0) b i b.length).1.set (i+b.length) (muI (tmO a b i) (a.getD i 0) b i b.length).2:=rfl
   have hal:=la.getD i
   generalize hout:tmO a b i=out at *
   generalize a.getD i 0=xv at *
   simp (maxSteps:=1000000) [-map_map,-mapM_map,↓KW,encM,q1,g1]
   have hwx:IntKind.u64.wrap (xv:Int)=xv:=wrap_u64 (by omega) (by omega)
   refine loopP_inv (fun k:Nat=>k≤b.length)
    (fun k=>StL [(0,.d (encM a)),(1,.d (encM b)),(5,.own 1 0 n 1),(17,.d (encM a)),(18,.d (.i .i64 a.length)),(19,.d (.i .i64 i)),(6,.d (.i .i64 i)),(7,.d (.i .u32 xv)),(8,.d (.i .u64 (muI out xv b i k).2)),(24,.d (encM b)),(25,.d (.i .i64 b.length)),(26,.d (.i .i64 k))] none
     [.cells 121 ((lms (muI out xv b i k).1).map .d)]) (fun k=>b.length - k) 0 (Nat.zero_le _) ?_ ?_
   ·refine wk_l [1] (by simp) ?_ ?_ <;> simp [-map_map,upd,inj1,Γ0,encM,muI]
   ·intro k hk
    obtain ⟨il,ic,im,_⟩:=muI_inv om lb hal (i:=i) (by omega) k (by omega)
    have isucc:muI out xv b i (k+1)=((muI out xv b i k).1.set (i+k) (((muI out xv b i k).2+(muI out xv b i k).1.getD (i+k) 0+xv * b.getD k 0) % 4294967296),((muI out xv b i k).2+(muI out xv b i k).1.getD (i+k) 0+xv * b.getD k 0) / 4294967296):=rfl
    have hres:k=b.length→tmO a b (i+1)=(muI out xv b i k).1.set (i+b.length) (muI out xv b i k).2:=fun e=>by rw [e]; exact hsucc
    clear hsucc
    have ho:=im.getD (i+k)
    generalize hcar:(muI out xv b i k).2=c at *
    generalize hcur:(muI out xv b i k).1=cur at *
    have hgj:List.length cur=n:=by omega
    by_cases hkb:k<b.length
    ·obtain ⟨j,hj⟩:∃ j,i+k=j:=⟨_,rfl⟩
     rw [hj] at isucc ho
     have hjl:j<cur.length:=by omega
     have g2:=lms_get (getD_some hjl)
     have hwj:IntKind.i64.wrap ((i:Int)+k)=j:=by rw [wrap_i64 (by omega) (by omega)]; omega
     have hjn:(j:Int)<n:=by omega
     have hw8:IntKind.i64.wrap ((k:Int)+1)=(k:Int)+1:=wrap_i64 (by omega) (by omega)
     have hjl2:j<(lms cur).length:=by rw [lms_len]; exact hjl
     have hjl3:j+1≤n:=by omega
     have hyb:=lb.getD k
     have hlim:=mu_lim ic ho hal hyb
     have g4:=getD_some hkb
     have q2:(k:Int)<b.length:=by omega
     generalize cur.getD j 0=o at *
     generalize b.getD k 0=yv at *
     obtain ⟨e,he⟩:∃ e:Nat,xv * yv=e:=⟨_,rfl⟩
     rw [he] at isucc hlim
     obtain ⟨s1,hs1⟩:∃ s1:Nat,e+o=s1:=⟨_,rfl⟩
     obtain ⟨t,ht⟩:∃ t:Nat,c+o+e=t:=⟨_,rfl⟩
     rw [ht] at isucc hlim
     obtain ⟨lo,hlo⟩:∃ lo:Nat,t % 4294967296=lo:=⟨_,rfl⟩
     have hsh:=shr32 (t:=t)
     obtain ⟨hi',hhi⟩:∃ hi':Nat,t / 4294967296=hi':=⟨_,rfl⟩
     rw [hlo,hhi] at isucc
     rw [hhi] at hsh
     have hwo:IntKind.u64.wrap (o:Int)=o:=wrap_u64 (by omega) (by omega)
     have hwy:IntKind.u64.wrap (yv:Int)=yv:=wrap_u64 (by omega) (by omega)
     have hwm:IntKind.u64.wrap ((xv:Int) * yv)=e:=by rw [← Int.natCast_mul,he,wrap_u64 (by omega) (by omega)]
     have hws:IntKind.u64.wrap ((e:Int)+o)=s1:=by rw [wrap_u64 (by omega) (by omega)]; omega
     have hwt:IntKind.u64.wrap ((c:Int)+s1)=t:=by rw [wrap_u64 (by omega) (by omega)]; omega
     have hwlo:IntKind.u32.wrap (t:Int)=lo:=by rw [wrap_u32m]; omega
     have hlay:lay (List.map AV.d (lms cur)) j [AV.d (D.i .u32 (lo:Int))]=List.map AV.d (lms (cur.set j lo)):=by
      rw [lay_one _ _ _ hjl2,lms_set]
     simp (maxSteps:=1000000) [-map_map,-mapM_map,↓KW,encM,q2,hwj,hjn,g2,hwo,hws,g1,g4,hwx,hwy,hwm,hwt,hwlo,hsh,hlay,hw8,hjl3,hgj]
     refine nxt_intro (k+1) hkb ?_ (wk_l [1] (by simp) ?_ ?_)
     ·omega
     ·simp [-map_map,upd,inj1,Γ0,encM,isucc]
     ·simp [-map_map,upd,inj1,Γ0,encM,isucc]
    ·have q2:¬ (k:Int)<b.length:=by omega
     have hfin:=hres (by omega)
     have hw8:IntKind.i64.wrap ((i:Int)+1)=(i:Int)+1:=wrap_i64 (by omega) (by omega)
     obtain ⟨j,hj⟩:∃ j,i+b.length=j:=⟨_,rfl⟩
     rw [hj] at hfin
     have hwj:IntKind.i64.wrap ((i:Int)+b.length)=j:=by rw [wrap_i64 (by omega) (by omega)]; omega
     have hjn:(j:Int)<n:=by omega
     have hjl3:j+1≤n:=by omega
     have hjl2:j<(lms cur).length:=by rw [lms_len]; omega
     have hwc:IntKind.u32.wrap (c:Int)=c:=wrap_u32 (by omega) (by omega)
     have hlay:lay (List.map AV.d (lms cur)) j [AV.d (D.i .u32 (c:Int))]=List.map AV.d (lms (cur.set j c)):=by
      rw [lay_one _ _ _ hjl2,lms_set]
     simp (maxSteps:=1000000) [-map_map,-mapM_map,↓KW,encM,q2,hw8,hwj,hjn,hjl3,hwc,hlay,hgj]
     refine nxt_intro (i+1) hgo ?_ (wk_l [1] (by simp) ?_ ?_)
     ·omega
     ·simp [-map_map,upd,inj1,Γ0,encM,hfin]
     ·simp [-map_map,upd,inj1,Γ0,encM,hfin]
  ·have q1:¬ (i:Int)<a.length:=by omega
   have e:i=a.length:=by omega
   have e':tmO a b i=timesR a b:=by rw [e]; rfl
   rw [e'] at ol
   simp (maxSteps:=1000000) [-map_map,-mapM_map,↓KW,encM,q1,e',ol,chunk_lms ol,lms_take_all ol]
set_option maxHeartbeats 1000000 in
set_option maxRecDepth 10000 in
theorem intMulZ (x y:Int) (hx:(digs x.natAbs).length≤137438953472) (hy:(digs y.natAbs).length≤137438953472):Spec Tryz.prog 81 [encZ x,encZ y] (encZ (x * y)):=by
 refine spec_of (N:=18) follows_mixed Tryz.func81 rfl rfl rfl (by kernel_rfl) (by kernel_rfl) (by simp) ?_
 have la:=lim_digs x.natAbs
 have lb:=lim_digs y.natAbs
 have va:=val_digs x.natAbs
 have vb:=val_digs y.natAbs
 have ta:=intTrim (digs x.natAbs) (by omega)
 have tb:=intTrim (digs y.natAbs) (by omega)
 rw [strip_digs la,va] at ta
 rw [strip_digs lb,vb] at tb
 have sx:=sg_natAbs x
 have sy:=sg_natAbs y
 have ex:encZ x=.ag [.b (decide (x<0)),encM (digs x.natAbs)]:=rfl
 have ey:encZ y=.ag [.b (decide (y<0)),encM (digs y.natAbs)]:=rfl
 rw [ex,ey]
 generalize digs x.natAbs=a at *
 generalize digs y.natAbs=b at *
 generalize hbx:decide (x<0)=nx at *
 generalize hby:decide (y<0)=ny at *
 obtain ⟨tv,tl,tn⟩:=timesR_val la lb
 simp (maxSteps:=1000000) [-map_map,-mapM_map,↓KW,encM]
 refine callP_intro (ds:=[encM a]) (by rfl) ta ?_
 simp (maxSteps:=1000000) [-map_map,-mapM_map,↓KW,encM]
 refine callP_intro (ds:=[encM b]) (by rfl) tb ?_
 simp (maxSteps:=1000000) [-map_map,-mapM_map,↓KW,encM]
 refine callP_intro (ds:=[encM a,encM b]) (by rfl) (intTimes a b la lb hx hy) ?_
 simp (maxSteps:=1000000) [-map_map,-mapM_map,↓KW,encM]
 have hm:=intValueZ tl (by omega) (!(nx == ny))
 rw [tv,va,vb] at hm
 have e2:sg (!(nx == ny)) (x.natAbs * y.natAbs)=x * y:=by
  rw [← sx,← sy]
  cases nx <;> cases ny <;> simp [sg,Int.mul_neg,Int.neg_mul]
 rw [e2] at hm
 refine callP_intro (ds:=[.b (!(nx == ny)),encM (timesR a b)]) (by rfl) hm ?_
 simp (maxSteps:=1000000) [-map_map,-mapM_map,↓KW,encM,encZ,encI]
set_option maxHeartbeats 1000000 in
set_option maxRecDepth 10000 in
theorem intAddZ (x y:Int) (hx:(digs x.natAbs).length≤137438953472) (hy:(digs y.natAbs).length≤137438953472):Spec Tryz.prog 125 [encZ x,encZ y] (encZ (x+y)):=by
 refine spec_of (N:=42) follows_mixed Tryz.func125 rfl rfl rfl (by kernel_rfl) (by kernel_rfl) (by simp) ?_
 have la:=lim_digs x.natAbs
 have lb:=lim_digs y.natAbs
 have va:=val_digs x.natAbs
 have vb:=val_digs y.natAbs
 have ta:=intTrim (digs x.natAbs) (by omega)
 have tb:=intTrim (digs y.natAbs) (by omega)
 rw [strip_digs la,va] at ta
 rw [strip_digs lb,vb] at tb
 have hless:(digs x.natAbs).length<(digs y.natAbs).length→x.natAbs<y.natAbs:=lt_of_len_lt
 have hless2:(digs y.natAbs).length<(digs x.natAbs).length→y.natAbs<x.natAbs:=lt_of_len_lt
 have hl:=intCompare _ _ la lb (by omega) (by omega)
 have hcmp:(x.natAbs<y.natAbs→cmpL (digs x.natAbs) (digs y.natAbs)<0)∧(¬ x.natAbs<y.natAbs→¬ cmpL (digs x.natAbs) (digs y.natAbs)<0):=by
  unfold cmpL
  rw [lessL_digs,lessL_digs]
  constructor
  ·intro h; rw [if_pos (by simpa using h)]; decide
  ·intro h
   rw [if_neg (by simpa using h)]
   split <;> decide
 have sx:=sg_natAbs x
 have sy:=sg_natAbs y
 have ex:encZ x=.ag [.b (decide (x<0)),encM (digs x.natAbs)]:=rfl
 have ey:encZ y=.ag [.b (decide (y<0)),encM (digs y.natAbs)]:=rfl
 rw [ex,ey]
 generalize digs x.natAbs=a at *
 generalize digs y.natAbs=b at *
 generalize hbx:decide (x<0)=nx at *
 generalize hby:decide (y<0)=ny at *
 simp (maxSteps:=1000000) [-map_map,-mapM_map,↓KW,encM]
 refine callP_intro (ds:=[encM a]) (by rfl) ta ?_
 simp (maxSteps:=1000000) [-map_map,-mapM_map,↓KW,encM]
 refine callP_intro (ds:=[encM b]) (by rfl) tb ?_
 by_cases hn:nx=ny
 ·have h1:(nx == ny)=true:=by simpa using hn
  simp (maxSteps:=1000000) [-map_map,-mapM_map,↓KW,encM,h1]
  obtain ⟨pv,pl,pn⟩:=iplusR_val la lb
  refine callP_intro (ds:=[encM a,encM b]) (by rfl) (intPlus a b la lb (by omega) (by omega)) ?_
  simp (maxSteps:=1000000) [-map_map,-mapM_map,↓KW,encM]
  have hm:=intValueZ pl (by omega) nx
  rw [pv,va,vb] at hm
  have e:sg nx (x.natAbs+y.natAbs)=x+y:=by
   rw [← sx,← sy,← hn]; cases nx <;> simp [sg] <;> omega
  rw [e] at hm
  refine callP_intro (ds:=[.b nx,encM (iplusR a b)]) (by rfl) hm ?_
  simp (maxSteps:=1000000) [-map_map,-mapM_map,↓KW,encM,encZ,encI]
 ·have h1:(nx == ny)=false:=by simpa using hn
  simp (maxSteps:=1000000) [-map_map,-mapM_map,↓KW,encM,h1]
  refine callP_intro (ds:=[encM a,encM b]) (by rfl) hl ?_
  by_cases hlt:x.natAbs<y.natAbs
  ·have h2:=hcmp.1 hlt
   simp (maxSteps:=1000000) [-map_map,-mapM_map,↓KW,encM,h2]
   obtain ⟨pv,pl,pn⟩:=minusR_val lb la (by omega) (by omega)
   refine callP_intro (ds:=[encM b,encM a]) (by rfl) (intMinus b a lb la (by omega)) ?_
   simp (maxSteps:=1000000) [-map_map,-mapM_map,↓KW,encM]
   have hm:=intValueZ pl (by omega) ny
   rw [pv,va,vb] at hm
   have e:sg ny (y.natAbs - x.natAbs)=x+y:=by
    rw [← sx,← sy]
    cases nx <;> cases ny <;> simp [sg] at hn ⊢ <;> omega
   rw [e] at hm
   refine callP_intro (ds:=[.b ny,encM (minusR b a)]) (by rfl) hm ?_
   simp (maxSteps:=1000000) [-map_map,-mapM_map,↓KW,encM,encZ,encI]
  ·have h2:=hcmp.2 hlt
   simp (maxSteps:=1000000) [-map_map,-mapM_map,↓KW,encM,h2]
   obtain ⟨pv,pl,pn⟩:=minusR_val la lb (by omega) (by omega)
   refine callP_intro (ds:=[encM a,encM b]) (by rfl) (intMinus a b la lb (by omega)) ?_
   simp (maxSteps:=1000000) [-map_map,-mapM_map,↓KW,encM]
   have hm:=intValueZ pl (by omega) nx
   rw [pv,va,vb] at hm
   have e:sg nx (x.natAbs - y.natAbs)=x+y:=by
    rw [← sx,← sy]
    cases nx <;> cases ny <;> simp [sg] at hn ⊢ <;> omega
   rw [e] at hm
   refine callP_intro (ds:=[.b nx,encM (minusR a b)]) (by rfl) hm ?_
   simp (maxSteps:=1000000) [-map_map,-mapM_map,↓KW,encM,encZ,encI]
end Go.Am
end

section
set_option linter.unusedVariables false
set_option linter.unusedSimpArgs false
open Go Go.Am Go.Proofs
namespace Go.Am
def encF (f:Int × Int):List D:=[.i .i64 f.1,.b (decide (f.2<0)),encM (digs f.2.natAbs)]
def encC (l:List (Int × Int)):D:=.sl (l.map encF)
def fcs (l:List (Int × Int)):List D:=(l.map encF).flatten
theorem fcs_len (l:List (Int × Int)):(fcs l).length=l.length * 3:=by
 unfold fcs
 induction l with
 | nil=>rfl
 | cons x l ih=>simp only [List.map_cons,List.flatten_cons,List.length_append,ih,encF,List.length_cons,List.length_nil]; omega
theorem fcs_nil:fcs []=[]:=rfl
theorem fcs_app (a b:List (Int × Int)):fcs (a++b)=fcs a++fcs b:=by simp [fcs]
theorem fcs_one (f:Int × Int):fcs [f]=[.i .i64 f.1,.b (decide (f.2<0)),encM (digs f.2.natAbs)]:=rfl
theorem fcs_two (f g:Int × Int):fcs [f,g]=[.i .i64 f.1,.b (decide (f.2<0)),encM (digs f.2.natAbs),.i .i64 g.1,.b (decide (g.2<0)),encM (digs g.2.natAbs)]:=rfl
theorem one_encM (m:List Nat):one (.d (encM m))=true:=rfl
theorem cellsA_encM (m:List Nat):cellsA (.d (encM m))=some [.d (encM m)]:=rfl
theorem inj1_encM (m:List Nat):inj1 (encM m)=.d (encM m):=rfl
theorem fcs_all (l:List (Int × Int)):((fcs l).map AV.d).all one=true:=by
 unfold fcs
 induction l with
 | nil=>rfl
 | cons x l ih =>
  simp only [List.map_cons,List.flatten_cons,List.map_append,List.all_append,ih,Bool.and_true]
  rfl
theorem fcs_all' (l:List (Int × Int)):(∀ x,x∈fcs l→one (AV.d x)=true)↔True:=⟨fun _=>trivial,fun _ _ hx=>List.all_eq_true.1 (fcs_all l) _ (List.mem_map_of_mem hx)⟩
theorem chunk_fcs {l:List (Int × Int)} {n:Nat} (h:l.length=n):chunk 3 n (fcs l)=l.map encF:=by
 subst h
 have:=chunk_three (l.map encF) (fun x hx=>by obtain ⟨y,_,rfl⟩:=List.mem_map.1 hx; rfl)
 rwa [List.length_map] at this
theorem fcs_take_all {l:List (Int × Int)} {n:Nat} (h:l.length=n):List.take (n * 3) ((fcs l).map AV.d)=(fcs l).map AV.d:=List.take_of_length_le (by simp [fcs_len,h])
theorem encF_eq (f:Int × Int):encF f=[.i .i64 f.1,.b (decide (f.2<0)),encM (digs f.2.natAbs)]:=rfl
theorem le_maxLen {n:Nat} (h:n≤1099511627776):n≤maxLen:=Nat.le_trans h (by decide)
theorem app_bounds {n:Nat} (h:n≤2147483648):(n+1) * 40≤140737488355328∧n+1≤1099511627776∧(n+1+1) * 40≤140737488355328∧n+1+1≤1099511627776:=by
 refine ⟨by omega,by omega,by omega,by omega⟩
def Sz (z:Int):Prop:=(digs z.natAbs).length≤137438953472
theorem inj_encM (m:List Nat):inj (encM m)=.d (encM m):=rfl
theorem kills_encM (H:Nat→Option HO) (avs:List AV) (m:List Nat):killsOf H avs (encM m)=viss H avs:=rfl
theorem encZ_eq (z:Int):encZ z=.ag [.b (decide (z<0)),encM (digs z.natAbs)]:=rfl
theorem encZ_zero:encZ 0=.ag [.b false,.sl []]:=by
 unfold encZ encI
 rw [show (0:Int).natAbs=0 from rfl,digs_zero]; rfl
theorem strip_zero_iff (z:Int):strip (digs z.natAbs)=[]↔z=0:=by
 rw [strip_digs (lim_digs _),val_digs,digs_eq_nil]; omega
theorem intSignZ (z:Int) (hz:Sz z):Spec Tryz.prog 66 [encZ z] (.i .i64 z.sign):=by
 have:=intSign (decide (z<0)) (digs z.natAbs) (Nat.le_trans hz (by decide))
 have e:(if strip (digs z.natAbs)=[] then (0:Int) else if (decide (z<0))=true then -1 else 1)=z.sign:=by
  simp only [strip_zero_iff]
  rcases Int.lt_trichotomy z 0 with h | h | h
  ·rw [if_neg (by omega),if_pos (by simpa using h),Int.sign_eq_neg_one_of_neg h]
  ·subst h; rfl
  ·rw [if_neg (by omega),if_neg (by simp; omega),Int.sign_eq_one_of_pos h]
 rwa [e] at this
end Go.Am
end

section
set_option linter.unusedVariables false
set_option linter.unusedSimpArgs false
open Go Go.Am Go.Proofs
namespace Go.Am
open Go.ChangeShapes Go.WideShapes Go.ChangeAt Go.RowKit
theorem cell_ltO {w:World} {a:Addr} {v:Value} (h:w.cell? a=some v):a.block<w.heap.size:=by
 unfold World.cell? at h
 cases hb:w.heap[a.block]? with
 | none=>rw [hb] at h; cases h
 | some o=>exact (Array.getElem?_eq_some_iff.1 hb).1
theorem listOf {α:Type} {Q:Nat→α→Prop}:∀ {n:Nat},(∀ i,i<n→∃ y,Q i y)→∃ l:List α,l.length=n∧∀ (i:Nat) (y:α),l[i]? = some y→Q i y
 | 0,_=>⟨[],rfl,fun i y h=>by simp at h⟩
 | n+1,h=>by
  obtain ⟨l,hl,hq⟩:=listOf (n:=n) fun i hi=>h i (Nat.lt_succ_of_lt hi)
  obtain ⟨y,hy⟩:=h n (Nat.lt_succ_self n)
  refine ⟨l++[y],by simp [hl],fun i z hz=>?_⟩
  rcases Nat.lt_or_ge i l.length with h1 | h1
  ·rw [List.getElem?_append_left h1] at hz; exact hq i z hz
  ·rw [List.getElem?_append_right h1] at hz
   have h2:i - l.length=0:=by
    rcases Nat.eq_zero_or_pos (i - l.length) with h3 | h3
    ·exact h3
    ·rw [List.getElem?_eq_none (by simp; omega)] at hz; cases hz
   rw [h2] at hz
   simp at hz
   subst hz
   rwa [show i=n by omega]
theorem cells_get {w:World} {n:Nat} {a:Addr} {cs:List Value} (h:w.cells? 0 a n=some cs):∀ k,k<n→w.cell? (a.add k)=cs[k]? := by
 intro k hk
 unfold World.cells? at h
 rw [if_pos (Nat.zero_le _)] at h
 have:=mapM_some_get h k k (by simp [hk])
 exact this
theorem openSlice {α:Type} {P:Program} {H:Type} {enc:TypeId × Value→H} {w:World} {sp:Nat→Bool} {held:Bool} {t e:TypeId} {cs:List Value} {x:DataW H × List MemPlace} {fuel:Nat} (ht:P.underlying t=some (.slice e)) (hc:0<P.cellsOf e) (E:α→List D) (good:α→Prop)
  (hE:∀ (fuel:Nat) (cs:List Value) (x:DataW H × List MemPlace),DataW.trod enc P w 0 sp held fuel e cs=some x→∃ y:α,good y∧(E y).length=P.cellsOf e∧∀ (k:Nat) (c:D) (v:Value),(E y)[k]? = some c→cs[k]? = some v→VD (fun b=>b<w.heap.size) w c v)
  (hf:DataW.trod enc P w 0 sp held fuel t cs=some x):∃ (v:Value) (l:List α),cs=[v]∧VD (fun b=>b<w.heap.size) w (.sl (l.map E)) v∧(∀ y∈l,good y)∧l.length≤9223372036854775807:=by
 rcases DataW.trod_slice ht hf with ⟨hcs,_⟩ | ⟨a,len,cap,elems,rest,n,_,hcs,_,_,hlc,hcm,hel,hEl,_⟩
 ·exact ⟨_,[],hcs,.sl0 _ _,(fun p hp=>by cases hp),Nat.zero_le _⟩
 ·have each:∀ i,i<len→∃ y:α,good y∧(E y).length=P.cellsOf e∧∀ (k:Nat),k<P.cellsOf e→∃ v,w.cell? (a.add (i * P.cellsOf e+k))=some v∧∀ c:D,(E y)[k]? = some c→VD (fun b=>b<w.heap.size) w c v:=by
   intro i hi
   have h1:=hEl i hi
   rw [List.getElem?_eq_getElem (by omega)] at h1
   obtain ⟨vs,h2,h3⟩:=Option.bind_eq_some_iff.1 h1
   obtain ⟨y,g,hy,hv⟩:=hE _ _ _ h3
   refine ⟨y,g,hy,fun k hk=>?_⟩
   have h4:=cells_get h2 k hk
   rw [add_add] at h4
   have h5:k<vs.length:=by
    unfold World.cells? at h2
    rw [if_pos (Nat.zero_le _)] at h2
    have:=mapM_some_length h2
    simp at this; omega
   rw [List.getElem?_eq_getElem h5] at h4
   exact ⟨_,h4,fun c hc=>hv k c _ hc (List.getElem?_eq_getElem h5)⟩
  obtain ⟨l,hl,hq⟩:=listOf each
  have hgood:∀ y∈l,good y:=fun y hy=>by
   obtain ⟨i,hi,rfl⟩:=List.mem_iff_getElem.1 hy
   exact (hq i _ (List.getElem?_eq_getElem hi)).1
  refine ⟨_,l,hcs,?_,hgood,by rw [hl]; exact Nat.le_trans hlc hcm⟩
  rcases Nat.eq_zero_or_pos len with h0 | hpos
  ·have:l=[]:=List.eq_nil_of_length_eq_zero (by omega)
   subst this; subst h0; exact .sl0 _ _
  ·have hab:a.block<w.heap.size:=by
    obtain ⟨y,_,_,hy⟩:=each 0 hpos
    obtain ⟨v,hv,_⟩:=hy 0 hc
    have:=cell_ltO hv
    rwa [block_add] at this
   refine .sl _ a len cap (P.cellsOf e) (fun j=>(w.cell? (a.add j)).getD undef) (by simp [hl]) hlc (fun cs hcs=>?_) hab (fun j hj=>?_) (fun j k cs c hj hk=>?_)
   ·obtain ⟨y,hy,rfl⟩:=List.mem_map.1 hcs
    obtain ⟨i,hi,rfl⟩:=List.mem_iff_getElem.1 hy
    exact (hq i _ (List.getElem?_eq_getElem hi)).2.1
   ·have hd:j / P.cellsOf e<len:=Nat.div_lt_of_lt_mul (by rwa [Nat.mul_comm] at hj)
    obtain ⟨y,_,_,hy⟩:=each _ hd
    obtain ⟨v,hv,_⟩:=hy (j % P.cellsOf e) (Nat.mod_lt _ hc)
    rw [Nat.mul_comm,Nat.div_add_mod] at hv
    simp [hv]
   ·rw [List.getElem?_map,Option.map_eq_some_iff] at hj
    obtain ⟨y,hy,rfl⟩:=hj
    obtain ⟨_,h6,h7⟩:=hq j y hy
    obtain ⟨v,hv,hvc⟩:=h7 k (by rw [← h6]; exact (List.getElem?_eq_some_iff.1 hk).1)
    simp only [hv,Option.getD_some]
    exact hvc c hk
end Go.Am
end

section
set_option linter.unusedVariables false
set_option linter.unusedSimpArgs false
open List (map_map mapM_map)
open Go Go.Am Go.Proofs
namespace Go.Am
def insS (id z:Int) (s:List (Int × Int) × Bool) (x:Int × Int):List (Int × Int) × Bool :=
 if s.2 then (s.1++[x],true)
 else if x.1 > id then (s.1++[(id,z),x],true)
 else if x.1=id then (if x.2+z=0 then s.1 else s.1++[(id,x.2+z)],true)
 else (s.1++[x],false)
def insR (l:List (Int × Int)) (f:Int × Int):List (Int × Int) :=
 let s:=l.foldl (insS f.1 f.2) ([],decide (f.2=0))
 if s.2 then s.1 else s.1++[f]
theorem insS_len (id z:Int) (s:List (Int × Int) × Bool) (x:Int × Int):(insS id z s x).1.length≤s.1.length+2:=by
 unfold insS
 split
 ·simp
 ·split
  ·simp
  ·split
   ·split <;> simp
   ·simp
theorem foldl_insS_len (id z:Int):∀ (l:List (Int × Int)) (s:List (Int × Int) × Bool),(l.foldl (insS id z) s).1.length≤s.1.length+2 * l.length
 | [],s=>by simp
 | x::l,s=>by
  have h1:=foldl_insS_len id z l (insS id z s x)
  have h2:=insS_len id z s x
  simp only [List.foldl_cons,List.length_cons]
  omega
set_option maxHeartbeats 2000000 in
set_option maxRecDepth 10000 in
theorem r26insert (l:List (Int × Int)) (id z:Int) (hz:Sz z) (hs:∀ x∈l,Sz x.2) (hl:l.length≤1073741824):Spec Tryz.prog 120 [encC l,.ag (encF (id,z))] (encC (insR l (id,z))):=by
 refine spec_of (N:=80) follows_mixed Tryz.func120 rfl rfl rfl (by kernel_rfl) (by kernel_rfl) (by simp) ?_
 simp (maxSteps:=1000000) [-map_map,-mapM_map,↓KW,encC,encF_eq,one_encM,cellsA_encM]
 refine callP_intro (ds:=[encZ z]) (by rfl) (r01SignZ z) ?_
 have e0:((z.sign:Int) == 0)=decide (z=0):=by
  rw [Bool.eq_iff_iff]; simp
 simp (maxSteps:=1000000) [-map_map,-mapM_map,↓KW,e0,encF_eq,one_encM,cellsA_encM]
 refine loopP_inv (fun i:Nat=>i≤l.length)
  (fun i=>StL [(0,.d (encC l)),(3,.ptr 1 0),(5,.own 2 0 ((l.take i).foldl (insS id z) ([],decide (z=0))).1.length 3),(6,.d (.b ((l.take i).foldl (insS id z) ([],decide (z=0))).2)),(7,.d (.i .i64 i))] none
   [.cells 89 ((fcs [(id,z)]).map .d),.cells 89 ((fcs ((l.take i).foldl (insS id z) ([],decide (z=0))).1).map .d)]) (fun i=>l.length - i) 0 (Nat.zero_le _) ?_ ?_
 ·refine wk_l [1,2] (by simp) ?_ ?_ <;> simp [-map_map,upd,inj1,Γ0,encC,encF_eq,fcs_one,fcs_nil]
 ·intro i hi
  have hlen:=foldl_insS_len id z (l.take i) ([],decide (z=0))
  simp only [List.length_nil,List.length_take] at hlen
  have hfin:i=l.length→insR l (id,z)=if ((l.take i).foldl (insS id z) ([],decide (z=0))).2 then ((l.take i).foldl (insS id z) ([],decide (z=0))).1 else ((l.take i).foldl (insS id z) ([],decide (z=0))).1++[(id,z)]:=fun e=>by
   rw [List.take_of_length_le (by omega)]; rfl
  have hsucc:∀ h:i<l.length,(l.take (i+1)).foldl (insS id z) ([],decide (z=0))=insS id z ((l.take i).foldl (insS id z) ([],decide (z=0))) l[i]:=fun h=>by
   rw [List.take_add_one,List.getElem?_eq_getElem h,List.foldl_append]; rfl
  generalize hst:(l.take i).foldl (insS id z) ([],decide (z=0))=st at *
  obtain ⟨out,done⟩:=st
  simp only at hlen hfin hsucc
  obtain ⟨n,hn⟩:∃ n,out.length=n:=⟨_,rfl⟩
  have hn':n≤2147483648:=by rw [← hn]; exact Nat.le_trans hlen (by omega)
  clear hlen
  have hfl:=fcs_len out
  rw [hn] at hfl
  by_cases hgo:i<l.length
  ·have q1:(i:Int)<l.length:=by omega
   have hw7:IntKind.i64.wrap ((i:Int)+1)=(i:Int)+1:=wrap_i64 (by omega) (by omega)
   have hsu:=hsucc hgo
   have g1:l[i]? = some l[i]:=List.getElem?_eq_getElem hgo
   have hsx:=hs _ (List.getElem_mem hgo)
   generalize l[i]=x at *
   obtain ⟨xi,xc⟩:=x
   simp only at hsx
   have hb:=app_bounds hn'
   cases done with
   | true =>
    replace hsu:=hsu.trans (show insS id z (out,true) (xi,xc)=(out++[(xi,xc)],true) from rfl)
    simp (maxSteps:=1000000) [-map_map,-mapM_map,↓KW,encC,q1,g1,encF_eq,one_encM,cellsA_encM,fcs_one,fcs_all',hn,hfl,hb,le_maxLen,hw7]
    refine nxt_intro (i+1) hgo (Nat.sub_lt_sub_left hgo (Nat.lt_succ_self i)) (wk_l [1,4] (by simp) ?_ ?_)
    ·simp [-map_map,upd,inj1,Γ0,encC,hsu,encF_eq,fcs_one,fcs_app,hn]
    ·simp [-map_map,upd,inj1,Γ0,encC,hsu,encF_eq,fcs_one,fcs_app,hn]
   | false =>
    by_cases hgt:xi > id
    ·have hgt':id<xi:=hgt
     replace hsu:=hsu.trans (show insS id z (out,false) (xi,xc)=(out++[(id,z),(xi,xc)],true) by simp [insS,hgt])
     have h33:n * 3+3=(n+1) * 3:=by omega
     simp (maxSteps:=1000000) [-map_map,-mapM_map,↓KW,encC,q1,g1,hgt',encF_eq,one_encM,cellsA_encM,fcs_one,fcs_all',hn,hfl,hb,le_maxLen,hw7,h33]
     refine nxt_intro (i+1) hgo (Nat.sub_lt_sub_left hgo (Nat.lt_succ_self i)) (wk_l [1,6] (by simp) ?_ ?_)
     ·simp [-map_map,upd,inj1,Γ0,encC,hsu,encF_eq,fcs_one,fcs_app,hn]
     ·simp [-map_map,upd,inj1,Γ0,encC,hsu,encF_eq,fcs_one,fcs_app,hn,fcs_two]
    ·have hgt':¬ id<xi:=hgt
     by_cases heq:xi=id
     ·have he:(xi == id)=true:=by simpa using heq
      simp (maxSteps:=1000000) [-map_map,-mapM_map,↓KW,encC,q1,g1,hgt',he,encF_eq,one_encM,cellsA_encM,fcs_one,fcs_all',hn,hfl,hb,le_maxLen,hw7]
      refine callP_intro (ds:=[encZ xc,encZ z]) (by rfl) (r01AddZ xc z (Nat.le_trans hsx (by decide)) (Nat.le_trans hz (by decide))) ?_
      simp (maxSteps:=1000000) [-map_map,-mapM_map,↓KW,encZ,encI,one_encM,cellsA_encM]
      refine callP_intro (ds:=[encZ (xc+z)]) (by rfl) (r01SignZ (xc+z)) ?_
      by_cases h0:xc+z=0
      ·have h0':((xc+z).sign != 0)=false:=by simp [h0]
       replace hsu:=hsu.trans (show insS id z (out,false) (xi,xc)=(out,true) by simp [insS,hgt,heq,h0])
       simp (maxSteps:=1000000) [-map_map,-mapM_map,↓KW,h0',hn,hw7]
       refine nxt_intro (i+1) hgo (Nat.sub_lt_sub_left hgo (Nat.lt_succ_self i)) (wk_l [1,2] (by simp) ?_ ?_)
       ·simp [-map_map,upd,inj1,Γ0,encC,hsu,encF_eq,fcs_one,fcs_app,hn]
       ·simp [-map_map,upd,inj1,Γ0,encC,hsu,encF_eq,fcs_one,fcs_app,hn]
      ·have h0':((xc+z).sign != 0)=true:=by simp [h0]
       replace hsu:=hsu.trans (show insS id z (out,false) (xi,xc)=(out++[(id,xc+z)],true) by simp [insS,hgt,heq,h0])
       simp (maxSteps:=1000000) [-map_map,-mapM_map,↓KW,h0',encF_eq,one_encM,cellsA_encM,fcs_one,fcs_all',hn,hfl,hb,le_maxLen,hw7]
       refine nxt_intro (i+1) hgo (Nat.sub_lt_sub_left hgo (Nat.lt_succ_self i)) (wk_l [1,5] (by simp) ?_ ?_)
       ·simp [-map_map,upd,inj1,Γ0,encC,hsu,encF_eq,fcs_one,fcs_app,hn]
       ·simp [-map_map,upd,inj1,Γ0,encC,hsu,encF_eq,fcs_one,fcs_app,hn]
     ·have he:(xi == id)=false:=by simpa using heq
      replace hsu:=hsu.trans (show insS id z (out,false) (xi,xc)=(out++[(xi,xc)],false) by simp [insS,hgt,heq])
      simp (maxSteps:=1000000) [-map_map,-mapM_map,↓KW,encC,q1,g1,hgt',he,encF_eq,one_encM,cellsA_encM,fcs_one,fcs_all',hn,hfl,hb,le_maxLen,hw7]
      refine nxt_intro (i+1) hgo (Nat.sub_lt_sub_left hgo (Nat.lt_succ_self i)) (wk_l [1,4] (by simp) ?_ ?_)
      ·simp [-map_map,upd,inj1,Γ0,encC,hsu,encF_eq,fcs_one,fcs_app,hn]
      ·simp [-map_map,upd,inj1,Γ0,encC,hsu,encF_eq,fcs_one,fcs_app,hn]
  ·have q1:¬ (i:Int)<l.length:=by omega
   have hfi:=hfin (by omega)
   have hb:=app_bounds hn'
   cases done with
   | true =>
    have e:insR l (id,z)=out:=by rw [hfi]; rfl
    simp (maxSteps:=1000000) [-map_map,-mapM_map,↓KW,encC,q1,hn,hfl,chunk_fcs hn,fcs_take_all hn,e]
   | false =>
    have e:insR l (id,z)=out++[(id,z)]:=by rw [hfi]; rfl
    have hn2:(out++[(id,z)]).length=n+1:=by simp [hn]
    have e2:List.map AV.d (fcs out)++[AV.d (D.i .i64 id),AV.d (D.b (decide (z<0))),AV.d (encM (digs z.natAbs))]=List.map AV.d (fcs (out++[(id,z)])):=by
     rw [fcs_app,List.map_append]; rfl
    have hfl2:=fcs_len (out++[(id,z)])
    rw [hn2] at hfl2
    simp (maxSteps:=1000000) [-map_map,-mapM_map,↓KW,encC,q1,encF_eq,one_encM,cellsA_encM,fcs_one,fcs_all',hn,hfl,hb,le_maxLen,e2,hfl2,chunk_fcs hn2,fcs_take_all hn2,e]
end Go.Am
end

section
set_option linter.unusedVariables false
set_option linter.unusedSimpArgs false
open List (map_map mapM_map)
open Go Go.Am Go.Proofs
namespace Go.Am
def b2n (b:Bool):Nat:=if b then 1 else 0
theorem foldl_insS_len2 (id z:Int):∀ (l:List (Int × Int)) (s:List (Int × Int) × Bool) (n:Nat),s.1.length≤n+b2n s.2→(l.foldl (insS id z) s).1.length≤n+l.length+b2n (l.foldl (insS id z) s).2
 | [],s,n,h=>by simpa using h
 | x::l,s,n,h=>by
  have h2:(insS id z s x).1.length≤n+1+b2n (insS id z s x).2:=by
   obtain ⟨out,done⟩:=s
   cases done
   ·simp only [b2n,Bool.false_eq_true,if_false,Nat.add_zero] at h
    unfold insS
    simp only [Bool.false_eq_true,if_false]
    split
    ·simp [b2n]; omega
    ·split
     ·split <;> simp [b2n] <;> omega
     ·simp [b2n]; omega
   ·simp only [b2n,if_true] at h
    unfold insS
    simp [b2n]; omega
  have h1:=foldl_insS_len2 id z l _ (n+1) h2
  simp only [List.foldl_cons,List.length_cons]
  omega
theorem insR_len1 (l:List (Int × Int)) (f:Int × Int):(insR l f).length≤l.length+1:=by
 have h:=foldl_insS_len2 f.1 f.2 l ([],decide (f.2=0)) 0 (Nat.zero_le _)
 have e:insR l f=if (l.foldl (insS f.1 f.2) ([],decide (f.2=0))).2 then (l.foldl (insS f.1 f.2) ([],decide (f.2=0))).1 else (l.foldl (insS f.1 f.2) ([],decide (f.2=0))).1++[f]:=rfl
 rw [e]
 generalize l.foldl (insS f.1 f.2) ([],decide (f.2=0))=s at *
 obtain ⟨out,done⟩:=s
 cases done
 ·simp only [b2n,Bool.false_eq_true,if_false] at h ⊢
  simp; omega
 ·simp only [b2n,if_true] at h ⊢
  omega
def Bnd (M:Nat) (l:List (Int × Int)):Prop:=∀ x∈l,x.2.natAbs≤M
theorem Bnd.nil (M:Nat):Bnd M []:=fun _ h=>by cases h
theorem Bnd.mono {M N:Nat} {l:List (Int × Int)} (h:Bnd M l) (k:M≤N):Bnd N l:=fun x hx=>Nat.le_trans (h x hx) k
theorem Bnd.app {M:Nat} {a b:List (Int × Int)} (h:Bnd M a) (k:Bnd M b):Bnd M (a++b):=fun x hx=>by
 rcases List.mem_append.1 hx with hx | hx
 ·exact h x hx
 ·exact k x hx
theorem Bnd.one {M:Nat} {x:Int × Int} (h:x.2.natAbs≤M):Bnd M [x]:=fun y hy=>by
 rcases List.mem_cons.1 hy with rfl | hy
 ·exact h
 ·cases hy
theorem insS_bnd {id z:Int} {s:List (Int × Int) × Bool} {x:Int × Int} {M K:Nat} (hs:Bnd (M+K) s.1) (hx:x.2.natAbs≤M) (hz:z.natAbs≤K):Bnd (M+K) (insS id z s x).1:=by
 unfold insS
 split
 ·exact hs.app (.one (by omega))
 ·split
  ·exact hs.app (.app (.one (x:=(id,z)) (by simp only; omega)) (.one (by omega)))
  ·split
   ·split
    ·exact hs
    ·exact hs.app (.one (by simp only; omega))
   ·exact hs.app (.one (by omega))
theorem foldl_insS_bnd {id z:Int} {M K:Nat} (hz:z.natAbs≤K):∀ (l:List (Int × Int)) (s:List (Int × Int) × Bool),Bnd M l→Bnd (M+K) s.1→Bnd (M+K) (l.foldl (insS id z) s).1
 | [],s,_,h=>h
 | x::l,s,hl,h=>foldl_insS_bnd hz l _ (fun y hy=>hl y (List.mem_cons_of_mem _ hy)) (insS_bnd h (hl x (List.mem_cons_self ..)) hz)
theorem insR_bnd {l:List (Int × Int)} {f:Int × Int} {M K:Nat} (hl:Bnd M l) (hz:f.2.natAbs≤K):Bnd (M+K) (insR l f):=by
 have h:=foldl_insS_bnd (id:=f.1) hz l ([],decide (f.2=0)) hl (.nil _)
 have e:insR l f=if (l.foldl (insS f.1 f.2) ([],decide (f.2=0))).2 then (l.foldl (insS f.1 f.2) ([],decide (f.2=0))).1 else (l.foldl (insS f.1 f.2) ([],decide (f.2=0))).1++[f]:=rfl
 rw [e]
 split
 ·exact h
 ·exact h.app (.one (by omega))
theorem sz_of_lt {z:Int} {M:Nat} (h:z.natAbs≤M) (hM:(digs M).length≤137438953472):Sz z:=Nat.le_trans (digs_len_mono h) hM
def addR (a b:List (Int × Int)):List (Int × Int):=b.foldl insR a
theorem addR_len (a:List (Int × Int)):∀ b:List (Int × Int),(addR a b).length≤a.length+b.length:=by
 intro b
 unfold addR
 induction b generalizing a with
 | nil=>simp
 | cons x b ih =>
  have h1:=ih (insR a x)
  have h2:=insR_len1 a x
  simp only [List.foldl_cons,List.length_cons]; omega
theorem addR_bnd {M K:Nat}:∀ (b a:List (Int × Int)),Bnd M a→Bnd K b→Bnd (M+b.length * K) (addR a b)
 | [],a,ha,_=>by simpa [addR] using ha
 | x::b,a,ha,hb=>by
  have h1:=insR_bnd (f:=x) ha (hb x (List.mem_cons_self ..))
  have h2:=addR_bnd b (insR a x) h1 (fun y hy=>hb y (List.mem_cons_of_mem _ hy))
  refine (show Bnd _ (addR (insR a x) b) from h2).mono ?_
  rw [List.length_cons,Nat.add_mul,Nat.one_mul]; omega
theorem addR_take (a b:List (Int × Int)) (i:Nat) (h:i<b.length):addR a (b.take (i+1))=insR (addR a (b.take i)) b[i]:=by
 unfold addR
 rw [List.take_add_one,List.getElem?_eq_getElem h,List.foldl_append]; rfl
def mulR (k:Int) (b:List (Int × Int)):List (Int × Int):=b.map fun f=>(f.1,k * f.2)
theorem mulR_bnd {k:Int} {M K:Nat} {b:List (Int × Int)} (hk:k.natAbs≤K) (hb:Bnd M b):Bnd (K * M) (mulR k b):=fun x hx=>by
 obtain ⟨y,hy,rfl⟩:=List.mem_map.1 hx
 simp only [Int.natAbs_mul]
 exact Nat.mul_le_mul hk (hb y hy)
set_option maxHeartbeats 1000000 in
set_option maxRecDepth 10000 in
theorem r26Add (a b:List (Int × Int)) (k:Int) (A M K:Nat) (ha:Bnd A a) (hb:Bnd M b) (hk:k.natAbs≤K) (hA:(digs (A+b.length * (K * M))).length≤137438953472) (hKM:(digs (K * M)).length≤137438953472) (hK:(digs K).length≤137438953472)
  (hM:(digs M).length≤137438953472) (hl:a.length+b.length≤1073741824):Spec Tryz.prog 88 [encC a,encC b,encZ k] (encC (addR a (mulR k b))):=by
 refine spec_of (N:=32) follows_mixed Tryz.func88 rfl rfl rfl (by kernel_rfl) (by kernel_rfl) (by simp) ?_
 simp (maxSteps:=1000000) [-map_map,-mapM_map,↓KW,encC,encZ,encI,one_encM,cellsA_encM]
 refine loopP_inv (fun i:Nat=>i≤b.length) (fun i=>StL [(1,.d (encC b)),(5,.ptr 1 0),(7,.d (encC (addR a ((mulR k b).take i)))),(8,.d (.i .i64 i))] none [.cells 69 [.d (.b (decide (k<0))),.d (encM (digs k.natAbs))]]) (fun i=>b.length - i) 0 (Nat.zero_le _) ?_ ?_
 ·refine wk_l [1] (by simp) ?_ ?_ <;> simp [-map_map,upd,inj1,Γ0,encC,addR]
 ·intro i hi
  have hlm:(mulR k b).length=b.length:=by simp [mulR]
  by_cases hgo:i<b.length
  ·have q1:(i:Int)<b.length:=by omega
   have hw7:IntKind.i64.wrap ((i:Int)+1)=(i:Int)+1:=wrap_i64 (by omega) (by omega)
   have g1:b[i]? = some b[i]:=List.getElem?_eq_getElem hgo
   have hsu:=addR_take a (mulR k b) i (by omega)
   have hgm:(mulR k b)[i]'(by omega)=(b[i].1,k * b[i].2):=by simp [mulR]
   rw [hgm] at hsu
   have hbx:=hb _ (List.getElem_mem hgo)
   have hbt:Bnd (K * M) ((mulR k b).take i):=fun x hx=>mulR_bnd hk hb x (List.mem_of_mem_take hx)
   have hbo:=addR_bnd ((mulR k b).take i) a ha hbt
   have hlo:=addR_len a ((mulR k b).take i)
   have hti:((mulR k b).take i).length=i:=by simp; omega
   rw [hti] at hbo hlo
   have hle:A+i * (K * M)≤A+b.length * (K * M):=Nat.add_le_add_left (Nat.mul_le_mul_right _ (by omega)) _
   generalize hxe:b[i]=x at *
   obtain ⟨xi,xc⟩:=x
   generalize addR a ((mulR k b).take i)=out at *
   simp only at hbx hsu
   have hkx:(k * xc).natAbs≤K * M:=by rw [Int.natAbs_mul]; exact Nat.mul_le_mul hk hbx
   simp (maxSteps:=1000000) [-map_map,-mapM_map,↓KW,encC,q1,g1,encF_eq,one_encM,cellsA_encM]
   refine callP_intro (ds:=[encZ k,encZ xc]) (by rfl) (r01MulZ k xc (sz_of_lt hk hK) (sz_of_lt hbx hM)) ?_
   simp (maxSteps:=1000000) [-map_map,-mapM_map,↓KW,encC,encZ,encI,one_encM,cellsA_encM]
   have hins:=r26insert out xi (k * xc) (sz_of_lt hkx hKM) (fun y hy=>sz_of_lt (Nat.le_trans (hbo y hy) hle) hA) (by omega)
   refine callP_intro (ds:=[encC out,.ag (encF (xi,k * xc))]) (by rfl) hins ?_
   simp (maxSteps:=1000000) [-map_map,-mapM_map,↓KW,encC,hw7]
   refine nxt_intro (i+1) hgo (Nat.sub_lt_sub_left hgo (Nat.lt_succ_self i)) (wk_l [1] (by simp) ?_ ?_)
   ·simp [-map_map,upd,inj1,Γ0,encC,hsu]
   ·simp [-map_map,upd,inj1,Γ0]
  ·have q1:¬ (i:Int)<b.length:=by omega
   have e:(mulR k b).take i=mulR k b:=List.take_of_length_le (by omega)
   simp (maxSteps:=1000000) [-map_map,-mapM_map,↓KW,encC,q1,e]
end Go.Am
end

section
set_option linter.unusedVariables false
set_option linter.unusedSimpArgs false
open Go Go.Am Go.Proofs
namespace Go.Am
def okAt (l:List (Int × Int)) (i:Nat):Bool:=decide ((l.getD i (0,0)).2≠0) && (decide (i=0) || decide ((l.getD (i - 1) (0,0)).1<(l.getD i (0,0)).1))
def validR (l:List (Int × Int)):Bool:=(List.range l.length).all (okAt l)
theorem validR_true {l:List (Int × Int)} (h:∀ j,j<l.length→okAt l j=true):validR l=true:=by
 unfold validR; rw [List.all_eq_true]; intro j hj; exact h j (List.mem_range.1 hj)
theorem validR_false {l:List (Int × Int)} {j:Nat} (hj:j<l.length) (h:okAt l j=false):validR l=false:=by
 unfold validR
 rw [List.all_eq_false]
 exact ⟨j,List.mem_range.2 hj,by rw [h]; decide⟩
theorem getDp {l:List (Int × Int)} {i:Nat} (h:i<l.length):l[i]? = some (l.getD i (0,0)):=by rw [List.getD_eq_getElem?_getD,List.getElem?_eq_getElem h]; rfl
end Go.Am
end

section
set_option linter.unusedVariables false
set_option linter.unusedSimpArgs false
open Go Go.Am Go.Proofs
namespace Go.Am
theorem o1_keys {P:Program} {dst:Option Tmp} {ty:TypeId} {pos:String} {after:Array Edge} {guard:Option (Nat × Bool)} {σ:St} {con:List Nat} {k:St→List Nat→Prop} {f g:FuncId} {x:Operand} {ts:Array TypeId}
  {d:Dm ((⟨dst,.call ⟨.value (.func f),[x].toArray,ts⟩,ty,pos,after,guard⟩:Oper),k)} {id:Nat} {ho:HO} (hs:KeysSpec P f g) (hm:mutF P f=true)
  (hx:oev σ.Γ x=.mp id) (hH:σ.H id=some ho) (hk:k ⟨putA σ.Γ dst (.kf g id),σ.H,σ.n⟩ con):O1d P ⟨dst,.call ⟨.value (.func f),[x].toArray,ts⟩,ty,pos,after,guard⟩ σ con k d:=by
 show OC P f [x].toArray dst σ con k
 unfold OC
 have e:hd1 (oev σ.Γ x)=some (id,.mp 0):=by rw [hx]; rfl
 simp only [hm,if_true,e,hH]
 exact .inl ⟨g,trivial,trivial,hs,hk⟩
theorem o1_sorted {P:Program} {dst:Option Tmp} {ty:TypeId} {pos:String} {after:Array Edge} {guard:Option (Nat × Bool)} {σ:St} {con:List Nat} {k:St→List Nat→Prop} {f g:FuncId} {x:Operand} {ts:Array TypeId}
  {d:Dm ((⟨dst,.call ⟨.value (.func f),[x].toArray,ts⟩,ty,pos,after,guard⟩:Oper),k)} {id:Nat} {es:List (Int × AV)} (hs:SortedSpec P f g) (hm:mutF P f=false)
  (hx:oev σ.Γ x=.kf g id) (hH:σ.H id=some (.map .i64 es)) (hl:es.length≤1099511627776) (hr:(es.map (·.1)).all inr=true)
  (hk:k ⟨putA σ.Γ dst (.d (.sl ((isort (es.map (·.1))).map fun n=>[.i .i64 n]))),σ.H,σ.n⟩ con):O1d P ⟨dst,.call ⟨.value (.func f),[x].toArray,ts⟩,ty,pos,after,guard⟩ σ con k d:=by
 show OC P f [x].toArray dst σ con k
 unfold OC
 have e:([x].toArray.toList.map (oev σ.Γ))=[.kf g id]:=by show [oev σ.Γ x]=_; rw [hx]
 simp only [hm,Bool.false_eq_true,if_false]
 refine .inr ?_
 split
 ·rename_i g' id' hx'
  rw [e] at hx'
  injection hx' with hx' _
  injection hx' with h1 h2
  subst h1; subst h2
  rw [hH]
  exact ⟨hl,hr,hs,hk⟩
 ·rename_i hne
  exact (hne _ _ e).elim
/-! Sums, as association lists -/
def fnd (n:Int):List (Int × Int)→Option Nat
 | []=>none
 | x::es=>if x.1=n then some 0 else (fnd n es).map (·+1)
def encV (z:Int):AV:=.ag [.d (.b (decide (z<0))),.d (encM (digs z.natAbs))]
def encE (m:List (Int × Int)):List (Int × AV):=m.map fun p=>(p.1,encV p.2)
theorem mfind_encE (n:Int) (m:List (Int × Int)):mfind n (encE m)=fnd n m:=by
 induction m with
 | nil=>rfl
 | cons x m ih =>
  show (if x.1=n then some 0 else (mfind n (encE m)).map (·+1))=if x.1=n then some 0 else (fnd n m).map (·+1)
  rw [ih]
theorem fnd_some {n:Int} {m:List (Int × Int)} {j:Nat} (h:fnd n m=some j):∃ z,m[j]? = some (n,z):=by
 induction m generalizing j with
 | nil=>cases h
 | cons x m ih =>
  unfold fnd at h
  by_cases hx:x.1=n
  ·rw [if_pos hx] at h; injection h with h; subst h; exact ⟨x.2,by rw [← hx]; rfl⟩
  ·rw [if_neg hx] at h
   obtain ⟨i,hi,rfl⟩:=Option.map_eq_some_iff.1 h
   obtain ⟨z,hz⟩:=ih hi
   exact ⟨z,by simpa using hz⟩
def getM (m:List (Int × Int)) (n:Int):Int:=match fnd n m with
 | some j=>(m.getD j (0,0)).2
 | none=>0
def putM (m:List (Int × Int)) (n v:Int):List (Int × Int):=match fnd n m with
 | some j=>m.set j (n,v)
 | none=>m++[(n,v)]
def delM (m:List (Int × Int)) (n:Int):List (Int × Int):=match fnd n m with
 | some j=>m.eraseIdx j
 | none=>m
def addM (m:List (Int × Int)) (n k:Int):List (Int × Int):=if getM m n+k=0 then delM m n else putM m n (getM m n+k)
theorem mput_encE (m:List (Int × Int)) (n v:Int):mput (encE m) n (encV v)=encE (putM m n v):=by
 unfold mput putM
 rw [mfind_encE]
 cases fnd n m with
 | none=>simp [encE]
 | some j=>simp [encE,List.map_set]
theorem eraseIdx_map' {α β:Type} (f:α→β):∀ (l:List α) (j:Nat),(l.map f).eraseIdx j=(l.eraseIdx j).map f
 | [],_=>rfl
 | _::_,0=>rfl
 | x::l,j+1=>by
  show f x::(l.map f).eraseIdx j=f x::(l.eraseIdx j).map f
  rw [eraseIdx_map' f l j]
theorem mdel_encE (m:List (Int × Int)) (n:Int):mdel (encE m) n=encE (delM m n):=by
 unfold mdel delM
 rw [mfind_encE]
 cases fnd n m with
 | none=>rfl
 | some j=>simp [encE,eraseIdx_map']
theorem mlook_encE (m:List (Int × Int)) (n:Int):mlook (encE m) n=if (fnd n m).isSome then some (encV (getM m n)) else none:=by
 unfold mlook getM
 rw [mfind_encE]
 cases h:fnd n m with
 | none=>rfl
 | some j =>
  obtain ⟨z,hz⟩:=fnd_some h
  simp [encE,hz,List.getD_eq_getElem?_getD]
theorem noh_encE (m:List (Int × Int)):nohO (.map .i64 (encE m))=true:=by
 simp only [nohO,encE,List.all_map,List.all_eq_true]
 intro x _; rfl
theorem lookA_mp {P:Program} (H:Nat→Option HO) (t:TypeId) (id:Nat) (x:AV) (ok:Bool):lookA P H t (.mp id) x ok=match H id with
  | some (.map k es)=>(tmp P t).bind fun p=>match x with
   | .d (.i k' n)=>if k'=k∧tint P p.1=some k then
     match mlook es n with
     | some v=>some (if ok then .tp [v,.d (.b true)] else v)
     | none=>(tz P p.2).map fun z=>if ok then .tp [cv z,.d (.b false)] else cv z
    else none
   | _=>none
  | _=>none:=rfl
theorem mapW_mp {P:Program} (H:Nat→Option HO) (t:TypeId) (id:Nat) (x:AV) (v:Option AV):mapW P H t (.mp id) x v=match H id with
  | some (.map k es)=>(tmp P t).bind fun p=>match x with
   | .d (.i k' n)=>if k'=k∧tint P p.1=some k then some (id,.map k (match v with | some v=>mput es n v | none=>mdel es n)) else none
   | _=>none
  | _=>none:=rfl
def chainM (m:List (Int × Int)):List (Int × Int):=(isort (m.map (·.1))).map fun n=>(n,getM m n)
theorem ins_len (n:Int):∀ l:List Int,(ins n l).length=l.length+1
 | []=>rfl
 | m::l=>by
  unfold ins
  split
  ·rfl
  ·simp [ins_len n l]
theorem isort_len:∀ l:List Int,(isort l).length=l.length
 | []=>rfl
 | n::l=>by rw [isort,ins_len,isort_len l]; rfl
theorem ins_mem (n x:Int):∀ l:List Int,x∈ins n l↔x=n∨x∈l
 | []=>by simp [ins]
 | m::l=>by
  unfold ins
  split
  ·simp
  ·simp [ins_mem n x l]
   constructor
   ·rintro (h | h | h) <;> simp [h]
   ·rintro (h | h | h) <;> simp [h]
theorem isort_mem (x:Int):∀ l:List Int,x∈isort l↔x∈l
 | []=>by simp [isort]
 | n::l=>by rw [isort,ins_mem,isort_mem x l]; simp
theorem fnd_isSome {n:Int} {m:List (Int × Int)} (h:n∈m.map (·.1)):(fnd n m).isSome=true:=by
 induction m with
 | nil=>simp at h
 | cons x m ih =>
  unfold fnd
  by_cases hx:x.1=n
  ·rw [if_pos hx]; rfl
  ·rw [if_neg hx,Option.isSome_map]
   exact ih (by
    rcases List.mem_cons.1 h with h | h
    ·exact (hx h.symm).elim
    ·exact h)
theorem encE_keys (m:List (Int × Int)):(encE m).map (·.1)=m.map (·.1):=by simp [encE]
theorem scrubO_encE (l:List Nat) (m:List (Int × Int)):scrubO l (.map .i64 (encE m))=.map .i64 (encE m):=by
 simp [scrubO,encE,encV,scrub1,scrub0]
end Go.Am
end

section
set_option linter.unusedVariables false
set_option linter.unusedSimpArgs false
open List (map_map mapM_map)
open Go Go.Am Go.Proofs
namespace Go.Am
theorem ospec_awp {P:Program} {f N:Nat} {fn:Func} {c:Code} {h:AV} {o o':HO} {args:List D} {r:D} (hm:P.follows .mixedOrders=true) (hf:P.funcs[f]? = some fn) (hb:fn.body=some c) (hname:(fn.name == "runtime.NumGoroutine")=false) (hN:fn.ntmps=N)
  (hd:codeDst N c=true) (hl:codeLex P c=true) (ha:args.length+1≤N) (hmap:∃ k es,o=.map k es) (hmap':∃ k es,o'=.map k es) (hno':nohO o'=true) (hnm:NM r)
  (hA:AWP P c (St1 h o args N) fun e σ=>(e=.normal∨e=.ret)∧resD P fn.results.toList σ=some r∧σ.H 0=some o'):OSpec P f h o args o' r :=
 ospec_of hf hb hname hN ha hmap hmap' hno' hnm fun G a w hZ hs=>AWP_sound hm hZ c _ _ a w hd hl hA hs
theorem o1_callM {P:Program} {dst:Option Tmp} {ty:TypeId} {pos:String} {after:Array Edge} {guard:Option (Nat × Bool)} {σ:St} {con:List Nat} {k:St→List Nat→Prop} {f:FuncId} {x:Operand} {rest:List Operand} {ts:Array TypeId}
  {d:Dm ((⟨dst,.call ⟨.value (.func f),(x::rest).toArray,ts⟩,ty,pos,after,guard⟩:Oper),k)} {id:Nat} {ho ho':HO} {ds:List D} {r:D} (hs:OSpec P f (.mp 0) ho ds ho' r) (hm:mutF P f=true)
  (hx:oev σ.Γ x=.mp id) (hH:σ.H id=some ho) (hno:nohO ho=true) (hvis:viss σ.H (rest.map (oev σ.Γ))=[]) (hfr:frzs σ.H (rest.map (oev σ.Γ))=some ds) (hlen:ho'.len=ho.len) (hno':nohO ho'=true)
  (hk:k ⟨putA σ.Γ dst (inj r),upd σ.H id (some ho'),σ.n⟩ con):O1d P ⟨dst,.call ⟨.value (.func f),(x::rest).toArray,ts⟩,ty,pos,after,guard⟩ σ con k d:=by
 refine o1_callO hm ?_
 rw [hx]
 exact callO_intro (id:=id) (h:=.mp 0) hH hno hvis hfr hs hlen hno' hk
theorem digs_len_add {x y:Int} (hx:Sz x) (hy:Sz y):(digs (x+y).natAbs).length≤1099511627776:=by
 have h1:=lt_of_digs_len (Nat.le_refl (digs x.natAbs).length)
 have h2:=lt_of_digs_len (Nat.le_refl (digs y.natAbs).length)
 have h:(x+y).natAbs<4294967296 ^ ((digs x.natAbs).length+(digs y.natAbs).length+1):=by
  have e1:4294967296 ^ (digs x.natAbs).length≤4294967296 ^ ((digs x.natAbs).length+(digs y.natAbs).length):=Nat.pow_le_pow_right (by decide) (by omega)
  have e2:4294967296 ^ (digs y.natAbs).length≤4294967296 ^ ((digs x.natAbs).length+(digs y.natAbs).length):=Nat.pow_le_pow_right (by decide) (by omega)
  rw [Nat.pow_succ]
  generalize 4294967296 ^ ((digs x.natAbs).length+(digs y.natAbs).length)=p at *
  omega
 have:=digs_len_le h
 unfold Sz at hx hy
 omega
theorem nm_encM (m:List Nat):NM (encM m):=.sl _ (fun cs h=>by obtain ⟨x,_,rfl⟩:=List.mem_map.1 h; simp) fun cs h c hc=>by
 obtain ⟨x,_,rfl⟩:=List.mem_map.1 h
 rw [List.mem_singleton] at hc; subst hc; exact .i _ _
theorem nm_encC (l:List (Int × Int)):NM (encC l):=.sl _ (fun cs h=>by obtain ⟨x,_,rfl⟩:=List.mem_map.1 h; simp [encF]) fun cs h c hc=>by
 obtain ⟨x,_,rfl⟩:=List.mem_map.1 h
 simp only [encF,List.mem_cons,List.mem_nil_iff,or_false] at hc
 rcases hc with rfl | rfl | rfl
 ·exact .i _ _
 ·exact .b _
 ·exact nm_encM _
theorem resD_nil {P:Program} (σ:St):resD P [] σ=some (.tp []):=rfl
set_option maxHeartbeats 1000000 in
set_option maxRecDepth 10000 in
theorem sumAdd (m:List (Int × Int)) (id k:Int) (hm:Sz (getM m id)) (hk:Sz k):OSpec Tryz.prog 94 (.mp 0) (.map .i64 (encE m)) [.i .i64 id,encZ k] (.map .i64 (encE (addM m id k))) (.tp []):=by
 refine ospec_awp (N:=20) follows_mixed Tryz.func94 rfl rfl rfl (by kernel_rfl) (by kernel_rfl) (by simp) ⟨_,_,rfl⟩ ⟨_,_,rfl⟩ (noh_encE _) (nmB_NM 8 _ rfl) ?_
 have hml:=mlook_encE m id
 have hz0:¬ (fnd id m).isSome=true→getM m id=0:=fun h=>by
  unfold getM
  cases hf:fnd id m with
  | none=>rfl
  | some j=>rw [hf] at h; exact (h rfl).elim
 have hgo:∀ z:Int,z=getM m id→True:=fun _ _=>trivial
 by_cases hs:(fnd id m).isSome=true
 ·rw [if_pos hs] at hml
  simp (maxSteps:=1000000) [-map_map,-mapM_map,↓KW,St1,encZ_eq,cellsA_encM,one_encM,lookA_mp,hml,encV]
  refine callP_intro (ds:=[encZ (getM m id),encZ k]) (by rfl) (intAddZ (getM m id) k hm hk) ?_
  simp (maxSteps:=1000000) [-map_map,-mapM_map,↓KW,encZ_eq,cellsA_encM,one_encM]
  refine callP_intro (ds:=[encZ (getM m id+k)]) (by rfl) (intSign _ _ (digs_len_add hm hk)) ?_
  by_cases ht:getM m id+k=0
  ·have e1:strip (digs (getM m id+k).natAbs)=[]:=by rw [ht,show (0:Int).natAbs=0 from rfl,digs_zero]; rfl
   have e2:addM m id k=delM m id:=by unfold addM; rw [if_pos ht]
   simp (maxSteps:=1000000) [-map_map,-mapM_map,↓KW,e1,e2,mapW_mp,mdel_encE,resD_nil]
  ·have e1:strip (digs (getM m id+k).natAbs)≠[]:=by
    rw [strip_digs (lim_digs _),val_digs,ne_eq,digs_eq_nil]; omega
   have e2:addM m id k=putM m id (getM m id+k):=by unfold addM; rw [if_neg ht]
   have e3:=mput_encE m id (getM m id+k)
   unfold encV at e3
   by_cases hneg:getM m id+k<0
   ·simp (maxSteps:=1000000) [-map_map,-mapM_map,↓KW,e1,e2,hneg,mapW_mp,cellsA_encM,one_encM,resD_nil]
    have hd:decide (getM m id+k<0)=true:=by simpa using hneg
    rw [hd] at e3
    exact e3
   ·simp (maxSteps:=1000000) [-map_map,-mapM_map,↓KW,e1,e2,hneg,mapW_mp,cellsA_encM,one_encM,resD_nil]
    have hd:decide (getM m id+k<0)=false:=by simpa using hneg
    rw [hd] at e3
    exact e3
 ·rw [if_neg hs] at hml
  have h0:=hz0 hs
  simp (maxSteps:=1000000) [-map_map,-mapM_map,↓KW,St1,encZ_eq,cellsA_encM,one_encM,lookA_mp,hml,cv]
  refine callP_intro (ds:=[encZ (getM m id),encZ k]) (by rw [h0,encZ_zero]; rfl) (intAddZ (getM m id) k hm hk) ?_
  simp (maxSteps:=1000000) [-map_map,-mapM_map,↓KW,encZ_eq,cellsA_encM,one_encM]
  refine callP_intro (ds:=[encZ (getM m id+k)]) (by rfl) (intSign _ _ (digs_len_add hm hk)) ?_
  by_cases ht:getM m id+k=0
  ·have e1:strip (digs (getM m id+k).natAbs)=[]:=by rw [ht,show (0:Int).natAbs=0 from rfl,digs_zero]; rfl
   have e2:addM m id k=delM m id:=by unfold addM; rw [if_pos ht]
   simp (maxSteps:=1000000) [-map_map,-mapM_map,↓KW,e1,e2,mapW_mp,mdel_encE,resD_nil]
  ·have e1:strip (digs (getM m id+k).natAbs)≠[]:=by
    rw [strip_digs (lim_digs _),val_digs,ne_eq,digs_eq_nil]; omega
   have e2:addM m id k=putM m id (getM m id+k):=by unfold addM; rw [if_neg ht]
   have e3:=mput_encE m id (getM m id+k)
   unfold encV at e3
   by_cases hneg:getM m id+k<0
   ·simp (maxSteps:=1000000) [-map_map,-mapM_map,↓KW,e1,e2,hneg,mapW_mp,cellsA_encM,one_encM,resD_nil]
    have hd:decide (getM m id+k<0)=true:=by simpa using hneg
    rw [hd] at e3
    exact e3
   ·simp (maxSteps:=1000000) [-map_map,-mapM_map,↓KW,e1,e2,hneg,mapW_mp,cellsA_encM,one_encM,resD_nil]
    have hd:decide (getM m id+k<0)=false:=by simpa using hneg
    rw [hd] at e3
    exact e3
theorem getM_bnd {m:List (Int × Int)} {M:Nat} (h:Bnd M m) (n:Int):(getM m n).natAbs≤M:=by
 unfold getM
 cases hf:fnd n m with
 | none=>simp
 | some j =>
  obtain ⟨z,hz⟩:=fnd_some hf
  simp only [List.getD_eq_getElem?_getD,hz,Option.getD_some]
  exact h _ (List.mem_of_getElem? hz)
theorem cloneM (m:List Nat) (h:m.length≤1099511627776):Spec Tryz.prog 103 [encM m] (encM m):=clone_any _ (by simp [clOk,one,h])
def chS (m:List (Int × Int)) (n:Nat):Nat→St
 | 0=>StL [(0,.mp 0),(3,.nil),(9,.d (.sl ((isort (m.map (·.1))).map fun n=>[.i .i64 n]))),(10,.d (.i .i64 n)),(11,.d (.i .i64 0))] (some (.map .i64 (encE m))) []
 | i+1=>StL [(0,.mp 0),(3,.own 1 0 (i+1) 3),(9,.d (.sl ((isort (m.map (·.1))).map fun n=>[.i .i64 n]))),(10,.d (.i .i64 n)),(11,.d (.i .i64 ((i:Int)+1)))] (some (.map .i64 (encE m))) [.cells 89 ((fcs ((chainM m).take (i+1))).map .d)]
set_option maxHeartbeats 1000000 in
set_option maxRecDepth 10000 in
theorem sumChain (m:List (Int × Int)) (hS:∀ n,Sz (getM m n)) (hl:m.length≤1073741824) (hr:(m.map (·.1)).all inr=true):OSpec Tryz.prog 95 (.mp 0) (.map .i64 (encE m)) [] (.map .i64 (encE m)) (encC (chainM m)):=by
 refine ospec_awp (N:=31) follows_mixed Tryz.func95 rfl rfl rfl (by kernel_rfl) (by kernel_rfl) (by simp) ⟨_,_,rfl⟩ ⟨_,_,rfl⟩ (noh_encE _) (nm_encC _) ?_
 simp (maxSteps:=1000000) [-map_map,-mapM_map,↓KW,St1]
 refine o1_keys Tryz.keys106 (by simp) (id:=0) (ho:=.map .i64 (encE m)) (by simp [oev_tmp,upd_ap]) (by simp) ?_
 simp (maxSteps:=1000000) [-map_map,-mapM_map,↓KW,St1]
 refine o1_sorted Tryz.sorted122 (by simp) (id:=0) (es:=encE m) (by simp [oev_tmp,upd_ap]) (by simp) (by simp [encE]; omega) (by rw [encE_keys]; exact hr) ?_
 rw [encE_keys]
 have hil:=isort_len (m.map (·.1))
 rw [List.length_map] at hil
 obtain ⟨n,hn⟩:∃ n,m.length=n:=⟨_,rfl⟩
 rw [hn] at hil
 simp (maxSteps:=1000000) [-map_map,-mapM_map,↓KW,hil]
 have hcl:(chainM m).length=n:=by simp [chainM,hil]
 have hsub:∀ (H H':Nat→Option HO) (ρ:Nat→Nat),SubO H H' ρ (.map .i64 (encE m)) (.map .i64 (encE m)):=fun H H' ρ=>subO_map fun x hx=>by
  obtain ⟨y,_,rfl⟩:=List.mem_map.1 hx
  refine ⟨rfl,fun k c d hc hd=>?_⟩
  rw [hc] at hd; injection hd with hd; subst hd
  rcases k with _ | _ | k
  ·simp at hc; subst hc; exact (subL_d _ _).2 rfl
  ·simp at hc; subst hc; exact (subL_d _ _).2 rfl
  ·simp at hc
 have hkl:∀ q∈isort (m.map (·.1)),mlook (encE m) q=some (encV (getM m q)):=fun q hq=>by
  rw [mlook_encE,if_pos (fnd_isSome ((isort_mem q _).1 hq))]
 refine loopP_inv (fun i:Nat=>i≤n) (chS m n) (fun i=>n - i) 0 (Nat.zero_le _) ?_ ?_
 ·refine ⟨_,wk_list [] (by simp) ?_ ?_ ?_⟩
  ·simp [-map_map,upd,inj1,Γ0]
  ·intro o' ho'
   injection ho' with ho'; subst ho'
   exact ⟨_,by simp [upd_ap],hsub _ _ _⟩
  ·trivial
 ·intro i hi
  by_cases hgo:i<n
  ·have hql:i<(isort (m.map (·.1))).length:=by omega
   have hq:=List.getElem?_eq_getElem hql
   have hqm:=List.getElem_mem hql
   have hml:=hkl _ hqm
   have htk:(chainM m).take (i+1)=(chainM m).take i++[((isort (m.map (·.1)))[i],getM m (isort (m.map (·.1)))[i])]:=by
    rw [List.take_add_one]
    simp [chainM,hq]
   generalize (isort (m.map (·.1)))[i]=q at *
   have hcl1:=cloneM (digs (getM m q).natAbs) (Nat.le_trans (hS q) (by decide))
   rcases i with _ | j
   ·have q1:(0:Int)<n:=by omega
    have q1':0<n:=hgo
    have g0:(isort (List.map (fun x=>x.fst) m)).head? = some q:=by rw [List.head?_eq_getElem?]; exact hq
    unfold chS
    simp (maxSteps:=1000000) [-map_map,-mapM_map,↓KW,q1',hq,g0,lookA_mp,hml,encV,cellsA_encM,one_encM]
    refine callP_intro (ds:=[encM (digs (getM m q).natAbs)]) (by rfl) hcl1 ?_
    have hw:IntKind.i64.wrap 1=1:=by decide
    have h1:(1:Nat)≤maxLen:=le_maxLen (by decide)
    rw [List.take_zero,List.nil_append] at htk
    simp (maxSteps:=1000000) [-map_map,-mapM_map,↓KW,cellsA_encM,one_encM,inj1_encM,inj_encM,kills_encM,hw,h1]
    refine nxt_intro 1 hgo (Nat.sub_lt_sub_left hgo (Nat.lt_succ_self _)) ?_
    simp only [chS]
    refine ⟨_,wk_list [3] (by simp) ?_ ?_ ?_⟩
    ·simp [-map_map,upd,inj1,Γ0,htk]
    ·intro o' ho'
     injection ho' with ho'; subst ho'
     exact ⟨_,by simp [upd_ap,blkF_nil,scrubO_encE],hsub _ _ _⟩
    ·simp [-map_map,upd,inj1,Γ0,htk,fcs_one]
   ·have q1:(j:Int)+1<n:=by omega
    have q5:(0:Int)≤(j:Int)+1:=by omega
    have hlt:((chainM m).take (j+1)).length=j+1:=by simp [hcl]; omega
    have hfl:=fcs_len ((chainM m).take (j+1))
    rw [hlt] at hfl
    have hw:IntKind.i64.wrap ((j:Int)+1+1)=(j:Int)+1+1:=wrap_i64 (by omega) (by omega)
    have hb:=app_bounds (n:=j+1) (by omega)
    show AWP _ _ (StL [(0,.mp 0),(3,.own 1 0 (j+1) 3),(9,.d (.sl ((isort (m.map (·.1))).map fun n=>[.i .i64 n]))),(10,.d (.i .i64 n)),(11,.d (.i .i64 ((j:Int)+1)))] (some (.map .i64 (encE m))) [.cells 89 ((fcs ((chainM m).take (j+1))).map .d)]) _
    generalize (chainM m).take (j+1)=out at *
    simp (maxSteps:=1000000) [-map_map,-mapM_map,↓KW,q1,q5,hq,lookA_mp,hml,encV,cellsA_encM,one_encM]
    refine callP_intro (ds:=[encM (digs (getM m q).natAbs)]) (by rfl) hcl1 ?_
    simp (maxSteps:=1000000) [-map_map,-mapM_map,↓KW,cellsA_encM,one_encM,inj1_encM,inj_encM,kills_encM,hw,hb,hfl,le_maxLen]
    refine nxt_intro (j+1+1) hgo (Nat.sub_lt_sub_left hgo (Nat.lt_succ_self _)) ?_
    simp only [chS]
    refine ⟨_,wk_list [4] (by simp) ?_ ?_ ?_⟩
    ·simp [-map_map,upd,inj1,Γ0,htk]
    ·intro o' ho'
     injection ho' with ho'; subst ho'
     exact ⟨_,by simp [upd_ap,blkF_nil,scrubO_encE],hsub _ _ _⟩
    ·simp [-map_map,upd,inj1,Γ0,htk,fcs_app,fcs_one]
  ·have e:i=n:=by omega
   rcases i with _ | j
   ·have q1:¬ 0<n:=by omega
    have hch:chainM m=[]:=List.eq_nil_of_length_eq_zero (by omega)
    unfold chS
    simp (maxSteps:=1000000) [-map_map,-mapM_map,↓KW,q1,hch,encC]
   ·have q1:¬ (j:Int)+1<n:=by omega
    have e2:(chainM m).take (j+1)=chainM m:=List.take_of_length_le (by omega)
    have hlt:(chainM m).length=j+1:=by omega
    have hfl:=fcs_len (chainM m)
    rw [hlt] at hfl
    unfold chS
    simp (maxSteps:=1000000) [-map_map,-mapM_map,↓KW,q1,e2,hfl,hlt,chunk_fcs hlt,fcs_take_all hlt,encC]
end Go.Am
end

section
set_option linter.unusedVariables false
set_option linter.unusedSimpArgs false
open List (map_map mapM_map)
open Go Go.Am Go.Proofs
namespace Go.Am
def Keys (m:List (Int × Int)):Prop:=∀ x∈m,inr x.1=true
theorem Keys.all {m:List (Int × Int)} (h:Keys m):(m.map (·.1)).all inr=true:=by
 rw [List.all_eq_true]
 intro x hx
 obtain ⟨y,hy,rfl⟩:=List.mem_map.1 hx
 exact h y hy
theorem addM_mem {m:List (Int × Int)} {n k:Int} {x:Int × Int} (h:x∈addM m n k):x∈m∨x=(n,getM m n+k):=by
 unfold addM at h
 split at h
 ·unfold delM at h
  split at h
  ·exact .inl (List.mem_of_mem_eraseIdx h)
  ·exact .inl h
 ·unfold putM at h
  split at h
  ·rcases List.mem_or_eq_of_mem_set h with h | h
   ·exact .inl h
   ·exact .inr h
  ·rcases List.mem_append.1 h with h | h
   ·exact .inl h
   ·exact .inr (by simpa using h)
theorem addM_len (m:List (Int × Int)) (n k:Int):(addM m n k).length≤m.length+1:=by
 unfold addM
 split
 ·unfold delM
  split
  ·exact Nat.le_trans (List.length_eraseIdx_le ..) (by omega)
  ·omega
 ·unfold putM
  split
  ·simp
  ·simp
theorem addM_bnd {m:List (Int × Int)} {n k:Int} {M K:Nat} (hm:Bnd M m) (hk:k.natAbs≤K):Bnd (M+K) (addM m n k):=fun x hx=>by
 rcases addM_mem hx with h | rfl
 ·have:=hm x h; omega
 ·have:=getM_bnd hm n
  simp only; omega
theorem addM_keys {m:List (Int × Int)} {n k:Int} (hm:Keys m) (hn:inr n=true):Keys (addM m n k):=fun x hx=>by
 rcases addM_mem hx with h | rfl
 ·exact hm x h
 ·exact hn
def sumM (m:List (Int × Int)) (l:List (Int × Int)):List (Int × Int):=l.foldl (fun m f=>addM m f.1 f.2) m
theorem sumM_take (m l:List (Int × Int)) (i:Nat) (h:i<l.length):sumM m (l.take (i+1))=addM (sumM m (l.take i)) l[i].1 l[i].2:=by
 unfold sumM
 rw [List.take_add_one,List.getElem?_eq_getElem h,List.foldl_append]; rfl
theorem sumM_len (m:List (Int × Int)):∀ l:List (Int × Int),(sumM m l).length≤m.length+l.length:=by
 intro l
 unfold sumM
 induction l generalizing m with
 | nil=>simp
 | cons x l ih =>
  have h1:=ih (addM m x.1 x.2)
  have h2:=addM_len m x.1 x.2
  simp only [List.foldl_cons,List.length_cons]; omega
theorem sumM_bnd {M K:Nat}:∀ (l m:List (Int × Int)),Bnd M m→Bnd K l→Bnd (M+l.length * K) (sumM m l)
 | [],m,hm,_=>by simpa [sumM] using hm
 | x::l,m,hm,hl=>by
  have h1:=addM_bnd (n:=x.1) hm (hl x (List.mem_cons_self ..))
  have h2:=sumM_bnd l (addM m x.1 x.2) h1 (fun y hy=>hl y (List.mem_cons_of_mem _ hy))
  refine (show Bnd _ (sumM (addM m x.1 x.2) l) from h2).mono ?_
  rw [List.length_cons,Nat.add_mul,Nat.one_mul]; omega
theorem sumM_keys:∀ (l m:List (Int × Int)),Keys m→Keys l→Keys (sumM m l)
 | [],m,hm,_=>hm
 | x::l,m,hm,hl=>sumM_keys l (addM m x.1 x.2) (addM_keys hm (hl x (List.mem_cons_self ..))) fun y hy=>hl y (List.mem_cons_of_mem _ hy)
theorem subO_encE {H H':Nat→Option HO} {ρ:Nat→Nat} (m:List (Int × Int)):SubO H H' ρ (.map .i64 (encE m)) (.map .i64 (encE m)):=subO_map fun x hx=>by
 obtain ⟨y,_,rfl⟩:=List.mem_map.1 hx
 refine ⟨rfl,fun k c d hc hd=>?_⟩
 rw [hc] at hd; injection hd with hd; subst hd
 rcases k with _ | _ | k
 ·simp at hc; subst hc; exact (subL_d _ _).2 rfl
 ·simp at hc; subst hc; exact (subL_d _ _).2 rfl
 ·simp at hc
set_option maxHeartbeats 1000000 in
set_option maxRecDepth 10000 in
theorem chainsMake (l:List (Int × Int)) (M:Nat) (hM:(digs (l.length * M)).length≤137438953472) (hb:Bnd M l) (hk:Keys l) (hl:l.length≤1073741824):Spec Tryz.prog 46 [encC l] (encC (chainM (sumM [] l))):=by
 refine spec_of_d (N:=22) follows_mixed Tryz.func46 rfl rfl rfl (by kernel_rfl) (by kernel_rfl) (by kernel_rfl) (by kernel_rfl) rfl rec93 (by simp) ?_
 simp (maxSteps:=1000000) [-map_map,-mapM_map,↓KW,encC]
 refine loopP_inv (fun i:Nat=>i≤l.length) (fun i=>StL [(3,.mp 1),(7,.d (encC l)),(8,.d (.i .i64 l.length)),(9,.d (.i .i64 i))] none [.map .i64 (encE (sumM [] (l.take i)))]) (fun i=>l.length - i) 0 (Nat.zero_le _) ?_ ?_
 ·refine wk_l [1] (by simp) ?_ ?_
  ·simp [-map_map,upd,inj1,Γ0,encC]
  ·exact ⟨⟨_,by simp [upd_ap]; rfl,subO_encE []⟩,trivial⟩
 ·intro i hi
  have hbt:Bnd M (l.take i):=fun x hx=>hb x (List.mem_of_mem_take hx)
  have hbo:=sumM_bnd (l.take i) [] (Bnd.nil 0) hbt
  have hko:=sumM_keys (l.take i) [] (fun _ h=>by cases h) (fun x hx=>hk x (List.mem_of_mem_take hx))
  have hlo:=sumM_len [] (l.take i)
  have hti:(l.take i).length=i:=by simp; omega
  rw [hti] at hbo hlo
  have hle:0+i * M≤l.length * M:=by rw [Nat.zero_add]; exact Nat.mul_le_mul_right _ (by omega)
  by_cases hgo:i<l.length
  ·have q1:(i:Int)<l.length:=by omega
   have hw7:IntKind.i64.wrap ((i:Int)+1)=(i:Int)+1:=wrap_i64 (by omega) (by omega)
   have g1:l[i]? = some l[i]:=List.getElem?_eq_getElem hgo
   have hsu:=sumM_take [] l i hgo
   have hbx:=hb _ (List.getElem_mem hgo)
   have hle2:M≤l.length * M:=by
    have:1 * M≤l.length * M:=Nat.mul_le_mul_right _ (by omega)
    rwa [Nat.one_mul] at this
   generalize l[i]=x at *
   obtain ⟨xi,xc⟩:=x
   generalize sumM [] (l.take i)=m at *
   simp only at hbx hsu
   have hadd:=sumAdd m xi xc (sz_of_lt (Nat.le_trans (getM_bnd hbo xi) hle) hM) (sz_of_lt (Nat.le_trans hbx hle2) hM)
   simp (maxSteps:=1000000) [-map_map,-mapM_map,↓KW,encC,q1,g1,encF_eq,one_encM,cellsA_encM]
   refine o1_callM hadd (by simp) (id:=1) (by simp [oev_tmp,upd_ap]) (by simp [upd_ap,blkF_ap]) (noh_encE _) (by simp [oev_tmp,upd_ap,viss_cons,viss_nil,vis_d,vis_ag]) (by simp [oev_tmp,upd_ap]; rfl) rfl (noh_encE _) ?_
   simp (maxSteps:=1000000) [-map_map,-mapM_map,↓KW,hw7]
   refine nxt_intro (i+1) hgo (Nat.sub_lt_sub_left hgo (Nat.lt_succ_self i)) (wk_l [1] (by simp) ?_ ?_)
   ·simp [-map_map,upd,inj1,Γ0,encC]
   ·rw [hsu]
    exact ⟨⟨_,by simp [upd_ap],subO_encE _⟩,trivial⟩
  ·have q1:¬ (i:Int)<l.length:=by omega
   have e:l.take i=l:=List.take_of_length_le (by omega)
   have ei:i=l.length:=by omega
   rw [e] at hbo hko hlo
   rw [ei] at hbo hlo
   generalize hmm:sumM [] l=m at *
   have hbo':Bnd (l.length * M) m:=hbo.mono (by omega)
   simp only [e,hmm]
   simp (maxSteps:=1000000) [-map_map,-mapM_map,↓KW,q1]
   refine o1_callM (sumChain m (fun q=>sz_of_lt (getM_bnd hbo' q) hM) (by simp at hlo; omega) hko.all) (by simp) (id:=1) (by simp [oev_tmp,upd_ap,sltF_ap]) (by simp [upd_ap,blkF_ap]) (noh_encE _) (by simp [viss_nil]) (by rfl) rfl (noh_encE _) ?_
   simp (maxSteps:=1000000) [-map_map,-mapM_map,↓KW,encC]
end Go.Am
end

section
set_option linter.unusedVariables false
set_option linter.unusedSimpArgs false
open Go Go.Am Go.Proofs
namespace Go.Am
def Val (l:List (Int × Int)):Prop:=l.Pairwise (fun x y=>x.1<y.1)∧∀ x∈l,x.2≠0
theorem getM_cons (x:Int × Int) (l:List (Int × Int)) (n:Int):getM (x::l) n=if x.1=n then x.2 else getM l n:=by
 unfold getM
 by_cases h:x.1=n
 ·have e:fnd n (x::l)=some 0:=by unfold fnd; rw [if_pos h]
  rw [e,if_pos h]; rfl
 ·have e:fnd n (x::l)=(fnd n l).map (·+1):=by
   show (if x.1=n then some 0 else (fnd n l).map (·+1))=_
   rw [if_neg h]
  rw [e,if_neg h]
  cases fnd n l with
  | none=>rfl
  | some j=>simp
theorem getM_nil (n:Int):getM [] n=0:=rfl
theorem getM_zero {l:List (Int × Int)} {n:Int} (h:∀ y∈l,y.1≠n):getM l n=0:=by
 induction l with
 | nil=>rfl
 | cons x l ih =>
  rw [getM_cons,if_neg (h x (List.mem_cons_self ..))]
  exact ih fun y hy=>h y (List.mem_cons_of_mem _ hy)
theorem Val.tail {x:Int × Int} {l:List (Int × Int)} (h:Val (x::l)):Val l∧(∀ y∈l,x.1<y.1)∧x.2≠0 :=
 ⟨⟨(List.pairwise_cons.1 h.1).2,fun y hy=>h.2 y (List.mem_cons_of_mem _ hy)⟩,(List.pairwise_cons.1 h.1).1,h.2 x (List.mem_cons_self ..)⟩
theorem Val.cons {x:Int × Int} {l:List (Int × Int)} (h:Val l) (h1:∀ y∈l,x.1<y.1) (h2:x.2≠0):Val (x::l) :=
 ⟨List.pairwise_cons.2 ⟨h1,h.1⟩,fun y hy=>by
  rcases List.mem_cons.1 hy with rfl | hy
  ·exact h2
  ·exact h.2 y hy⟩
theorem Val.nil:Val []:=⟨List.Pairwise.nil,fun _ h=>by cases h⟩
theorem Val.ext:∀ {a b:List (Int × Int)},Val a→Val b→(∀ n,getM a n=getM b n)→a=b
 | [],[],_,_,_=>rfl
 | [],y::b,_,hb,h=>by
  have:=h y.1
  rw [getM_nil,getM_cons,if_pos rfl] at this
  exact (hb.tail.2.2 this.symm).elim
 | x::a,[],ha,_,h=>by
  have:=h x.1
  rw [getM_nil,getM_cons,if_pos rfl] at this
  exact (ha.tail.2.2 this).elim
 | x::a,y::b,ha,hb,h=>by
  obtain ⟨a1,a2,a3⟩:=ha.tail
  obtain ⟨b1,b2,b3⟩:=hb.tail
  rcases Int.lt_trichotomy x.1 y.1 with hxy | hxy | hxy
  ·exfalso
   have:=h x.1
   rw [getM_cons,if_pos rfl,getM_cons,if_neg (by omega),getM_zero (fun z hz=>by have:=b2 z hz; omega)] at this
   exact a3 this
  ·have h1:=h x.1
   rw [getM_cons,if_pos rfl,getM_cons,if_pos hxy.symm] at h1
   have e:x=y:=Prod.ext hxy h1
   subst e
   rw [Val.ext a1 b1 fun n=>by
    by_cases hn:x.1=n
    ·subst hn
     rw [getM_zero (fun z hz=>by have:=a2 z hz; omega),getM_zero (fun z hz=>by have:=b2 z hz; omega)]
    ·have:=h n
     rwa [getM_cons,if_neg hn,getM_cons,if_neg hn] at this]
  ·exfalso
   have:=h y.1
   rw [getM_cons,if_neg (by omega),getM_zero (fun z hz=>by have:=a2 z hz; omega),getM_cons,if_pos rfl] at this
   exact b3 this.symm
def insA (id z:Int):List (Int × Int)→List (Int × Int)
 | []=>[(id,z)]
 | x::l=>if x.1 > id then (id,z)::x::l else if x.1=id then (if x.2+z=0 then l else (id,x.2+z)::l) else x::insA id z l
theorem foldl_done (id z:Int):∀ (l out:List (Int × Int)),l.foldl (insS id z) (out,true)=(out++l,true)
 | [],out=>by simp
 | x::l,out=>by
  have e:insS id z (out,true) x=(out++[x],true):=rfl
  rw [List.foldl_cons,e,foldl_done id z l]; simp
def finI (f:Int × Int) (s:List (Int × Int) × Bool):List (Int × Int):=if s.2 then s.1 else s.1++[f]
theorem finI_true (f:Int × Int) (out:List (Int × Int)):finI f (out,true)=out:=rfl
theorem foldl_open (id z:Int):∀ (l out:List (Int × Int)),finI (id,z) (l.foldl (insS id z) (out,false))=out++insA id z l
 | [],out=>rfl
 | x::l,out=>by
  rw [List.foldl_cons,insA]
  by_cases h1:x.1 > id
  ·have e:insS id z (out,false) x=(out++[(id,z),x],true):=by simp [insS,h1]
   rw [e,foldl_done,if_pos h1,finI_true]; simp
  ·rw [if_neg h1]
   by_cases h2:x.1=id
   ·rw [if_pos h2]
    by_cases h3:x.2+z=0
    ·have e:insS id z (out,false) x=(out,true):=by simp [insS,h1,h2,h3]
     rw [e,foldl_done,if_pos h3,finI_true]
    ·have e:insS id z (out,false) x=(out++[(id,x.2+z)],true):=by simp [insS,h1,h2,h3]
     rw [e,foldl_done,if_neg h3,finI_true]; simp
   ·rw [if_neg h2]
    have e:insS id z (out,false) x=(out++[x],false):=by simp [insS,h1,h2]
    rw [e,foldl_open id z l (out++[x])]; simp
theorem insR_eq (l:List (Int × Int)) (id z:Int):insR l (id,z)=if z=0 then l else insA id z l:=by
 have e:insR l (id,z)=finI (id,z) (l.foldl (insS id z) ([],decide (z=0))):=rfl
 rw [e]
 by_cases h:z=0
 ·rw [if_pos h]
  have:decide (z=0)=true:=by simpa using h
  rw [this,foldl_done,finI_true]; simp
 ·rw [if_neg h]
  have:decide (z=0)=false:=by simpa using h
  rw [this,foldl_open]; simp
theorem insA_val {id z:Int} (hz:z≠0):∀ {l:List (Int × Int)},Val l→Val (insA id z l)∧(∀ y∈insA id z l,y.1=id∨∃ x∈l,x.1=y.1)∧∀ n,getM (insA id z l) n=getM l n+if n=id then z else 0
 | [],_=>by
  refine ⟨Val.nil.cons (fun y hy=>by cases hy) hz,fun y hy=>?_,fun n=>?_⟩
  ·simp [insA] at hy; subst hy; exact .inl rfl
  ·simp only [insA,getM_cons,getM_nil]
   by_cases h:n=id
   ·subst h; simp
   ·rw [if_neg (fun e=>h e.symm),if_neg h]; rfl
 | x::l,h=>by
  obtain ⟨h1,h2,h3⟩:=h.tail
  simp only [insA]
  by_cases hgt:x.1 > id
  ·rw [if_pos hgt]
   refine ⟨h.cons (fun y hy=>?_) hz,fun y hy=>?_,fun n=>?_⟩
   ·rcases List.mem_cons.1 hy with rfl | hy
    ·exact hgt
    ·have:=h2 y hy; simp only; omega
   ·rcases List.mem_cons.1 hy with rfl | hy
    ·exact .inl rfl
    ·exact .inr ⟨y,hy,rfl⟩
   ·rw [getM_cons]
    by_cases hn:n=id
    ·subst hn
     rw [if_pos rfl,if_pos rfl,getM_zero (l:=x::l) fun y hy=>?_,Int.zero_add]
     rcases List.mem_cons.1 hy with rfl | hy
     ·omega
     ·have:=h2 y hy; omega
    ·rw [if_neg (fun e=>hn e.symm),if_neg hn,Int.add_zero]
  ·rw [if_neg hgt]
   by_cases heq:x.1=id
   ·rw [if_pos heq]
    by_cases h0:x.2+z=0
    ·rw [if_pos h0]
     refine ⟨h1,fun y hy=>.inr ⟨y,List.mem_cons_of_mem _ hy,rfl⟩,fun n=>?_⟩
     rw [getM_cons]
     by_cases hn:n=id
     ·subst hn
      rw [if_pos heq,if_pos rfl,getM_zero (fun y hy=>by have:=h2 y hy; omega)]; omega
     ·rw [if_neg (by omega),if_neg hn,Int.add_zero]
    ·rw [if_neg h0]
     refine ⟨h1.cons (fun y hy=>by have:=h2 y hy; simp only; omega) h0,fun y hy=>?_,fun n=>?_⟩
     ·rcases List.mem_cons.1 hy with rfl | hy
      ·exact .inl rfl
      ·exact .inr ⟨y,List.mem_cons_of_mem _ hy,rfl⟩
     ·rw [getM_cons,getM_cons]
      by_cases hn:n=id
      ·subst hn
       rw [if_pos rfl,if_pos heq,if_pos rfl]
      ·rw [if_neg (fun e=>hn e.symm),if_neg (by omega),if_neg hn,Int.add_zero]
   ·rw [if_neg heq]
    obtain ⟨i1,i2,i3⟩:=insA_val (id:=id) hz h1
    refine ⟨i1.cons (fun y hy=>?_) h3,fun y hy=>?_,fun n=>?_⟩
    ·rcases i2 y hy with h | ⟨w,hw,h⟩
     ·omega
     ·have:=h2 w hw; omega
    ·rcases List.mem_cons.1 hy with rfl | hy
     ·exact .inr ⟨_,List.mem_cons_self ..,rfl⟩
     ·rcases i2 y hy with h | ⟨w,hw,h⟩
      ·exact .inl h
      ·exact .inr ⟨w,List.mem_cons_of_mem _ hw,h⟩
    ·rw [getM_cons,getM_cons,i3 n]
     by_cases hx:x.1=n
     ·rw [if_pos hx,if_pos hx,if_neg (by omega)]; omega
     ·rw [if_neg hx,if_neg hx]
theorem insR_val {l:List (Int × Int)} (h:Val l) (f:Int × Int):Val (insR l f)∧∀ n,getM (insR l f) n=getM l n+if n=f.1 then f.2 else 0:=by
 obtain ⟨id,z⟩:=f
 rw [insR_eq]
 by_cases hz:z=0
 ·rw [if_pos hz]
  exact ⟨h,fun n=>by simp only [hz]; simp⟩
 ·rw [if_neg hz]
  obtain ⟨h1,_,h3⟩:=insA_val (id:=id) hz h
  exact ⟨h1,h3⟩
def cf (n:Int):List (Int × Int)→Int
 | []=>0
 | x::l=>(if n=x.1 then x.2 else 0)+cf n l
theorem addR_val:∀ (b a:List (Int × Int)),Val a→Val (addR a b)∧∀ n,getM (addR a b) n=getM a n+cf n b
 | [],a,h=>⟨h,fun n=>by simp [addR,cf]⟩
 | x::b,a,h=>by
  obtain ⟨h1,h2⟩:=insR_val h x
  obtain ⟨h3,h4⟩:=addR_val b (insR a x) h1
  refine ⟨h3,fun n=>?_⟩
  show getM (addR (insR a x) b) n=_
  rw [h4 n,h2 n]
  simp only [cf]; omega
/-! The map -/
theorem putM_cons (x:Int × Int) (m:List (Int × Int)) (n v:Int):putM (x::m) n v=if x.1=n then (n,v)::m else x::putM m n v:=by
 unfold putM
 by_cases h:x.1=n
 ·have e:fnd n (x::m)=some 0:=by unfold fnd; rw [if_pos h]
  rw [e,if_pos h]; rfl
 ·have e:fnd n (x::m)=(fnd n m).map (·+1):=by
   show (if x.1=n then some 0 else (fnd n m).map (·+1))=_
   rw [if_neg h]
  rw [e,if_neg h]
  cases fnd n m with
  | none=>rfl
  | some j=>simp
theorem delM_cons (x:Int × Int) (m:List (Int × Int)) (n:Int):delM (x::m) n=if x.1=n then m else x::delM m n:=by
 unfold delM
 by_cases h:x.1=n
 ·have e:fnd n (x::m)=some 0:=by unfold fnd; rw [if_pos h]
  rw [e,if_pos h]; rfl
 ·have e:fnd n (x::m)=(fnd n m).map (·+1):=by
   show (if x.1=n then some 0 else (fnd n m).map (·+1))=_
   rw [if_neg h]
  rw [e,if_neg h]
  cases fnd n m with
  | none=>rfl
  | some j=>simp
def Mp (m:List (Int × Int)):Prop:=m.Pairwise (fun x y=>x.1≠y.1)∧∀ x∈m,x.2≠0
theorem Mp.tail {x:Int × Int} {l:List (Int × Int)} (h:Mp (x::l)):Mp l∧(∀ y∈l,x.1≠y.1)∧x.2≠0 :=
 ⟨⟨(List.pairwise_cons.1 h.1).2,fun y hy=>h.2 y (List.mem_cons_of_mem _ hy)⟩,(List.pairwise_cons.1 h.1).1,h.2 x (List.mem_cons_self ..)⟩
theorem Mp.cons {x:Int × Int} {l:List (Int × Int)} (h:Mp l) (h1:∀ y∈l,x.1≠y.1) (h2:x.2≠0):Mp (x::l) :=
 ⟨List.pairwise_cons.2 ⟨h1,h.1⟩,fun y hy=>by
  rcases List.mem_cons.1 hy with rfl | hy
  ·exact h2
  ·exact h.2 y hy⟩
theorem Mp.nil:Mp []:=⟨List.Pairwise.nil,fun _ h=>by cases h⟩
theorem putM_mp {n v:Int} (hv:v≠0):∀ {m:List (Int × Int)},Mp m→Mp (putM m n v)∧(∀ y∈putM m n v,y.1=n∨∃ x∈m,x.1=y.1)∧∀ k,getM (putM m n v) k=if k=n then v else getM m k
 | [],_=>by
  have e:putM [] n v=[(n,v)]:=rfl
  rw [e]
  refine ⟨Mp.nil.cons (fun y hy=>by cases hy) hv,fun y hy=>?_,fun k=>?_⟩
  ·simp at hy; subst hy; exact .inl rfl
  ·rw [getM_cons]
   by_cases h:k=n
   ·subst h; simp
   ·rw [if_neg (fun e=>h e.symm),if_neg h]
 | x::m,h=>by
  obtain ⟨h1,h2,h3⟩:=h.tail
  rw [putM_cons]
  by_cases hx:x.1=n
  ·rw [if_pos hx]
   refine ⟨h1.cons (fun y hy=>by have:=h2 y hy; simp only; omega) hv,fun y hy=>?_,fun k=>?_⟩
   ·rcases List.mem_cons.1 hy with rfl | hy
    ·exact .inl rfl
    ·exact .inr ⟨y,List.mem_cons_of_mem _ hy,rfl⟩
   ·rw [getM_cons,getM_cons]
    by_cases h:k=n
    ·subst h; simp
    ·rw [if_neg (fun e=>h e.symm),if_neg h,if_neg (by omega)]
  ·rw [if_neg hx]
   obtain ⟨i1,i2,i3⟩:=putM_mp (n:=n) hv h1
   refine ⟨i1.cons (fun y hy=>?_) h3,fun y hy=>?_,fun k=>?_⟩
   ·rcases i2 y hy with h | ⟨w,hw,h⟩
    ·omega
    ·have:=h2 w hw; omega
   ·rcases List.mem_cons.1 hy with rfl | hy
    ·exact .inr ⟨_,List.mem_cons_self ..,rfl⟩
    ·rcases i2 y hy with h | ⟨w,hw,h⟩
     ·exact .inl h
     ·exact .inr ⟨w,List.mem_cons_of_mem _ hw,h⟩
   ·rw [getM_cons,getM_cons,i3 k]
    by_cases hk:x.1=k
    ·rw [if_pos hk,if_pos hk,if_neg (by omega)]
    ·rw [if_neg hk,if_neg hk]
theorem delM_mp {n:Int}:∀ {m:List (Int × Int)},Mp m→Mp (delM m n)∧(∀ y∈delM m n,y∈m)∧∀ k,getM (delM m n) k=if k=n then 0 else getM m k
 | [],h=>⟨h,fun y hy=>hy,fun k=>by
   have e:delM [] n=[]:=rfl
   rw [e,getM_nil]; simp⟩
 | x::m,h=>by
  obtain ⟨h1,h2,h3⟩:=h.tail
  rw [delM_cons]
  by_cases hx:x.1=n
  ·rw [if_pos hx]
   refine ⟨h1,fun y hy=>List.mem_cons_of_mem _ hy,fun k=>?_⟩
   rw [getM_cons]
   by_cases hk:k=n
   ·subst hk
    rw [if_pos rfl,getM_zero (fun y hy=>by have:=h2 y hy; omega)]
   ·rw [if_neg hk,if_neg (by omega)]
  ·rw [if_neg hx]
   obtain ⟨i1,i2,i3⟩:=delM_mp (n:=n) h1
   refine ⟨i1.cons (fun y hy=>h2 y (i2 y hy)) h3,fun y hy=>?_,fun k=>?_⟩
   ·rcases List.mem_cons.1 hy with rfl | hy
    ·exact List.mem_cons_self ..
    ·exact List.mem_cons_of_mem _ (i2 y hy)
   ·rw [getM_cons,getM_cons,i3 k]
    by_cases hk:x.1=k
    ·rw [if_pos hk,if_pos hk,if_neg (by omega)]
    ·rw [if_neg hk,if_neg hk]
theorem addM_mp {m:List (Int × Int)} (h:Mp m) (n k:Int):Mp (addM m n k)∧∀ j,getM (addM m n k) j=getM m j+if j=n then k else 0:=by
 unfold addM
 by_cases h0:getM m n+k=0
 ·rw [if_pos h0]
  obtain ⟨h1,_,h3⟩:=delM_mp (n:=n) h
  refine ⟨h1,fun j=>?_⟩
  rw [h3 j]
  by_cases hj:j=n
  ·subst hj; rw [if_pos rfl,if_pos rfl]; omega
  ·rw [if_neg hj,if_neg hj]; omega
 ·rw [if_neg h0]
  obtain ⟨h1,_,h3⟩:=putM_mp (n:=n) h0 h
  refine ⟨h1,fun j=>?_⟩
  rw [h3 j]
  by_cases hj:j=n
  ·subst hj; rw [if_pos rfl,if_pos rfl]
  ·rw [if_neg hj,if_neg hj]; omega
theorem sumM_mp:∀ (l m:List (Int × Int)),Mp m→Mp (sumM m l)∧∀ j,getM (sumM m l) j=getM m j+cf j l
 | [],m,h=>⟨h,fun n=>by simp [sumM,cf]⟩
 | x::l,m,h=>by
  obtain ⟨h1,h2⟩:=addM_mp h x.1 x.2
  obtain ⟨h3,h4⟩:=sumM_mp l (addM m x.1 x.2) h1
  refine ⟨h3,fun n=>?_⟩
  show getM (sumM (addM m x.1 x.2) l) n=_
  rw [h4 n,h2 n]
  simp only [cf]; omega
theorem getM_map (g:Int→Int):∀ (l:List Int) (n:Int),getM (l.map fun n=>(n,g n)) n=if n∈l then g n else 0
 | [],n=>rfl
 | x::l,n=>by
  rw [List.map_cons,getM_cons,getM_map g l n]
  by_cases h:x=n
  ·subst h; simp
  ·have h':¬ n=x:=fun e=>h e.symm
   simp [h,h']
theorem fnd_none {n:Int} {m:List (Int × Int)} (h:n ∉ m.map (·.1)):getM m n=0:=getM_zero fun y hy e=>h (e ▸ List.mem_map_of_mem hy)
theorem getM_mem {m:List (Int × Int)} (h:Mp m) {n:Int} (hn:n∈m.map (·.1)):getM m n≠0:=by
 unfold getM
 have hs:=fnd_isSome hn
 cases hf:fnd n m with
 | none=>rw [hf] at hs; cases hs
 | some j =>
  obtain ⟨z,hz⟩:=fnd_some hf
  simp only [List.getD_eq_getElem?_getD,hz,Option.getD_some]
  exact h.2 _ (List.mem_of_getElem? hz)
theorem chainM_val {m:List (Int × Int)} (h:Mp m):Val (chainM m)∧∀ n,getM (chainM m) n=getM m n:=by
 refine ⟨⟨?_,fun x hx=>?_⟩,fun n=>?_⟩
 ·unfold chainM
  rw [List.pairwise_map]
  have h1:=Go.Proofs.isort_sorted (m.map (·.1))
  have h0:(m.map (·.1)).Pairwise (fun a b:Int=>a≠b):=by rw [List.pairwise_map]; exact h.1
  have h2:(isort (m.map (·.1))).Pairwise (fun a b:Int=>a≠b):=(Go.Proofs.isort_perm (m.map (·.1))).symm.pairwise h0 (fun {x y} (hxy:x≠y)=>Ne.symm hxy)
  exact (h1.and h2).imp fun ⟨a,b⟩=>by simp only; omega
 ·obtain ⟨n,hn,rfl⟩:=List.mem_map.1 hx
  exact getM_mem h ((isort_mem n _).1 hn)
 ·unfold chainM
  rw [getM_map]
  by_cases hn:n∈m.map (·.1)
  ·rw [if_pos ((isort_mem n _).2 hn)]
  ·rw [if_neg (fun h=>hn ((isort_mem n _).1 h)),fnd_none hn]
theorem cf_getM:∀ {l:List (Int × Int)},Val l→∀ n,cf n l=getM l n
 | [],_,_=>rfl
 | x::l,h,n=>by
  obtain ⟨h1,h2,_⟩:=h.tail
  rw [cf,cf_getM h1,getM_cons]
  by_cases hx:x.1=n
  ·subst hx
   rw [if_pos rfl,if_pos rfl,getM_zero (fun y hy=>by have:=h2 y hy; omega)]; omega
  ·rw [if_neg (fun e=>hx e.symm),if_neg hx]; omega
theorem make_eq (l:List (Int × Int)):chainM (sumM [] l)=addR [] l:=by
 obtain ⟨h1,h2⟩:=sumM_mp l [] Mp.nil
 obtain ⟨h3,h4⟩:=chainM_val h1
 obtain ⟨h5,h6⟩:=addR_val l [] Val.nil
 exact h3.ext h5 fun n=>by rw [h4 n,h2 n,h6 n]
theorem val_validR {l:List (Int × Int)} (h:Val l):validR l=true:=by
 refine validR_true fun j hj=>?_
 unfold okAt
 have g:=getDp hj
 have h1:(l.getD j (0,0)).2≠0:=h.2 _ (List.mem_of_getElem? g)
 rw [Bool.and_eq_true,Bool.or_eq_true]
 refine ⟨by simpa using h1,?_⟩
 rcases j with _ | k
 ·exact .inl rfl
 ·refine .inr ?_
  have hk:k<l.length:=by omega
  have:=List.pairwise_iff_getElem.1 h.1 k (k+1) hk hj (by omega)
  rw [Nat.add_sub_cancel,List.getD_eq_getElem?_getD,List.getD_eq_getElem?_getD,List.getElem?_eq_getElem hj,List.getElem?_eq_getElem hk]
  simpa using this
end Go.Am
end

section
set_option linter.unusedVariables false
set_option linter.unusedSimpArgs false
open Go Go.Am Go.Proofs
namespace Go.Am
theorem digs_small {n:Nat} (h:n<340282366920938463463374607431768211456):(digs n).length≤137438953472:=by
 have e:(4294967296:Nat) ^ 4=340282366920938463463374607431768211456:=by decide
 have:=digs_len_le (n:=n) (k:=4) (by rw [e]; exact h)
 omega
end Go.Am
end

section
set_option linter.unusedVariables false
set_option linter.unusedSimpArgs false
open Go Go.Am Go.Proofs
namespace Go.Am
def lin (a b:List (Int × Int)) (k:Int):List (Int × Int):=addR a (mulR k b)
theorem cf_mulR (k n:Int):∀ b:List (Int × Int),cf n (mulR k b)=k * cf n b
 | []=>by simp [mulR,cf]
 | x::b=>by
  have ih:=cf_mulR k n b
  show (if n=x.1 then k * x.2 else 0)+cf n (mulR k b)=k * ((if n=x.1 then x.2 else 0)+cf n b)
  rw [ih,Int.mul_add]
  split <;> simp
theorem cf_app (n:Int):∀ a b:List (Int × Int),cf n (a++b)=cf n a+cf n b
 | [],b=>by simp [cf]
 | x::a,b=>by
  have ih:=cf_app n a b
  simp only [List.cons_append,cf,ih]; omega
theorem lin_val {a b:List (Int × Int)} (ha:Val a) (hb:Val b) (k:Int):Val (lin a b k)∧∀ n,getM (lin a b k) n=getM a n+k * getM b n:=by
 obtain ⟨h1,h2⟩:=addR_val (mulR k b) a ha
 exact ⟨h1,fun n=>by show getM (addR a (mulR k b)) n=_; rw [h2 n,cf_mulR,cf_getM hb]⟩
structure Small (a:List (Int × Int)):Prop where
 val:Val a
 keys:Keys a
 bnd:Bnd 1000000000000 a
 len:a.length≤100
theorem Small.sz {a:List (Int × Int)} (h:Small a):∀ x∈a,Sz x.2:=fun x hx=>sz_of_lt (h.bnd x hx) (digs_small (by decide))
theorem Small.nil:Small []:=⟨Val.nil,(fun _ h=>by cases h),Bnd.nil _,Nat.zero_le _⟩
end Go.Am
end

section
set_option linter.unusedVariables false
set_option linter.unusedSimpArgs false
open Go Go.Am Go.Proofs
namespace Go.Am
def encN (z:Int):List D:=[.b (decide (z<0)),encM (digs z.natAbs)]
def encV2 (v:List Int):D:=.sl (v.map encN)
def vcs (v:List Int):List D:=(v.map encN).flatten
theorem vcs_len (l:List Int):(vcs l).length=l.length * 2:=by
 unfold vcs
 induction l with
 | nil=>rfl
 | cons x l ih=>simp only [List.map_cons,List.flatten_cons,List.length_append,ih,encN,List.length_cons,List.length_nil]; omega
theorem encN_eq (z:Int):encN z=[.b (decide (z<0)),encM (digs z.natAbs)]:=rfl
theorem chunk_two (l:List (List D)) (h:∀ x∈l,x.length=2):chunk 2 l.length l.flatten=l:=by
 induction l with
 | nil=>rfl
 | cons a l ih =>
  have ha:=h a (List.mem_cons_self ..)
  have:=ih fun x hx=>h x (List.mem_cons_of_mem _ hx)
  unfold chunk at this ⊢
  rw [List.length_cons,List.range_succ_eq_map,List.map_cons,List.map_map,List.flatten_cons]
  congr 1
  ·simp [ha]
  ·conv=>rhs; rw [← this]
   apply List.map_congr_left
   intro i _
   simp only [Function.comp]
   rw [show Nat.succ i * 2=a.length+i * 2 from by omega,List.drop_append,List.drop_eq_nil_of_le (by omega)]
   simp
theorem chunk_vcs {l:List Int} {n:Nat} (h:l.length=n):chunk 2 n (vcs l)=l.map encN:=by
 subst h
 have:=chunk_two (l.map encN) (fun x hx=>by obtain ⟨y,_,rfl⟩:=List.mem_map.1 hx; rfl)
 rwa [List.length_map] at this
theorem vcs_take_all {l:List Int} {n:Nat} (h:l.length=n):List.take (n * 2) ((vcs l).map AV.d)=(vcs l).map AV.d:=List.take_of_length_le (by simp [vcs_len,h])
def encMat (rows cols:Int) (A:List (List Int)):D:=.ag [.i .i64 rows,.i .i64 cols,.sl (A.map fun v=>[encV2 v])]
theorem subL_own_iff3 {H H':Nat→Option HO} {ρ:Nat→Nat} {a o l s b o' l' s':Nat}:SubL H H' ρ (.own a o l s) (.own b o' l' s')↔(a=ρ b∧o=o'∧l=l'∧s=s'∧(H' b).isSome=true):=Iff.rfl
theorem frz_vcsN {H:Nat→Option HO} {B:Nat} {e:TypeId} {v:List Int} {n:Nat} (m:Nat) (hB:H B=some (.cells e ((vcs v).map .d))) (hv:v.length=n):frz H (m+2) (.own B 0 n 2)=some (encV2 v):=by
 have hl:=vcs_len v
 rw [hv] at hl
 rw [frz_own,hB]
 simp only [Nat.zero_add,List.length_map,hl,Nat.zero_mul,List.drop_zero]
 rw [vcs_take_all hv,if_pos ⟨Nat.le_refl _,by decide⟩]
 have:List.mapM (frz H (m+1)) ((vcs v).map AV.d)=some (vcs v):=mapM_d H m (vcs v)
 rw [this,Option.map_some,chunk_vcs hv]; rfl
theorem vcs_cons (z:Int) (v:List Int):vcs (z::v)=encN z++vcs v:=by simp [vcs]
theorem vcs_get2:∀ {v:List Int} {k:Nat} {z:Int},v[k]? = some z→((vcs v).drop (k * 2)).take 2=encN z
 | [],k,z,h=>by simp at h
 | y::v,0,z,h=>by
  simp at h; subst h
  rw [vcs_cons]; rfl
 | y::v,k+1,z,h=>by
  have ih:=vcs_get2 (v:=v) (k:=k) (z:=z) (by simpa using h)
  rw [vcs_cons,show (k+1) * 2=k * 2+2 by omega,← ih]
  rw [Nat.add_comm,← List.drop_drop]
  rfl
theorem vcs_set:∀ {v:List Int} {k:Nat} (z:Int),k<v.length→(vcs v).take (k * 2)++encN z++(vcs v).drop (k * 2+2)=vcs (v.set k z)
 | [],k,z,h=>by simp at h
 | y::v,0,z,h=>by
  rw [List.set_cons_zero,vcs_cons,vcs_cons]; rfl
 | y::v,k+1,z,h=>by
  have ih:=vcs_set (v:=v) (k:=k) z (by simpa using h)
  rw [List.set_cons_succ,vcs_cons,vcs_cons,← ih,show (k+1) * 2=2+k * 2 by omega,show 2+k * 2+2=2+(k * 2+2) by omega]
  have e1:∀ n,List.take (2+n) (encN y++vcs v)=encN y++List.take n (vcs v):=fun n=>by rw [List.take_append,List.take_of_length_le (by show 2≤2+n; omega)]; congr 2; show 2+n - 2=n; omega
  have e2:∀ n,List.drop (2+n) (encN y++vcs v)=List.drop n (vcs v):=fun n=>by rw [← List.drop_drop]; rfl
  rw [e1,e2]; simp
theorem mapM_some {α β:Type} (f:α→Option β) (g:Nat→β):∀ (l:List α),(∀ k x,l[k]? = some x→f x=some (g k))→l.mapM f=some ((List.range l.length).map g)
 | [],_=>rfl
 | x::l,h=>by
  rw [List.mapM_cons,h 0 x rfl,mapM_some f (fun k=>g (k+1)) l fun k y hy=>h (k+1) y (by simpa using hy),List.length_cons,List.range_succ_eq_map]
  simp [Function.comp_def]
def zr (cols:Nat):List AV:=(List.replicate cols [AV.d (.b false),AV.nil]).flatten
theorem zr_self {H H':Nat→Option HO} {ρ:Nat→Nat} (cols:Nat):cellsOk H H' ρ (zr cols) (zr cols):=by
 refine cellsOk_iff.2 ⟨rfl,fun k c d h1 h2=>?_⟩
 rw [h1] at h2; injection h2 with h2; subst h2
 have hm:=List.mem_of_getElem? h1
 unfold zr at hm
 rw [List.mem_flatten] at hm
 obtain ⟨l,hl,hc⟩:=hm
 rw [List.eq_of_mem_replicate hl] at hc
 rcases List.mem_cons.1 hc with rfl | hc
 ·exact (subL_d _ _).2 rfl
 ·rw [List.mem_singleton.1 hc]; trivial
theorem zr_vcs {H H':Nat→Option HO} {ρ:Nat→Nat}:∀ c:Nat,cellsOk H H' ρ (zr c) ((vcs (List.replicate c 0)).map .d)
 | 0=>trivial
 | c+1=>by
  have ih:=zr_vcs (H:=H) (H':=H') (ρ:=ρ) c
  have e1:zr (c+1)=AV.d (.b false)::AV.nil::zr c:=by simp [zr,List.replicate_succ]
  have e2:(vcs (List.replicate (c+1) 0)).map AV.d=AV.d (.b (decide ((0:Int)<0)))::AV.d (encM (digs (0:Int).natAbs))::(vcs (List.replicate c 0)).map AV.d:=by
   rw [List.replicate_succ]; rfl
  rw [e1,e2]
  refine ⟨?_,?_,ih⟩
  ·exact (subL_d _ _).2 rfl
  ·exact ⟨by rw [show ((0:Int).natAbs)=0 from rfl,digs_zero]; rfl,fun a ha=>by simp [vis] at ha⟩
def nwV (rows cols m:Nat):AV:=.ag [.d (.i .i64 (rows:Int)),.d (.i .i64 (cols:Int)),.own m 0 rows 1]
end Go.Am
end

section
set_option linter.unusedVariables false
set_option linter.unusedSimpArgs false
open List (map_map mapM_map)
open Go Go.Am Go.Proofs
namespace Go.Am
theorem resD_2 {P:Program} (σ:St) (x y:ResultVar):resD P [x,y] σ=(res1 P σ x).bind fun a=>(res1 P σ y).bind fun b=>(frz σ.H 8 a).bind fun u=>(frz σ.H 8 b).bind fun v=>some (.tp [u,v]):=by
 unfold resD
 cases h1:res1 P σ x <;> cases h2:res1 P σ y <;> simp [frzs,h1,h2]
 rename_i a b
 cases frz σ.H 8 a <;> cases frz σ.H 8 b <;> simp
theorem resD_3 {P:Program} (σ:St) (x y z:ResultVar):resD P [x,y,z] σ=(res1 P σ x).bind fun a=>(res1 P σ y).bind fun b=>(res1 P σ z).bind fun c=>(frz σ.H 8 a).bind fun u=>(frz σ.H 8 b).bind fun v=>(frz σ.H 8 c).bind fun w=>some (.tp [u,v,w]):=by
 unfold resD
 cases h1:res1 P σ x <;> cases h2:res1 P σ y <;> cases h3:res1 P σ z <;> simp [frzs,h1,h2,h3]
 rename_i a b c
 cases frz σ.H 8 a <;> cases frz σ.H 8 b <;> cases frz σ.H 8 c <;> simp
def shS (a:List Nat) (d:Nat):Nat→List Nat × Nat
 | 0=>(List.replicate a.length 0,0)
 | k+1=>((shS a d k).1.set (a.length - 1 - k) (((shS a d k).2 * 4294967296+a.getD (a.length - 1 - k) 0) / d),((shS a d k).2 * 4294967296+a.getD (a.length - 1 - k) 0) % d)
theorem sh_arith {o v v' p q d r r' x t t' w:Nat} (hs:v'+p * o=v+p * q) (ho:o=0) (ht:r * 4294967296+x=t) (hq:r'+d * q=t) (hv:v * d+p * 4294967296 * r+(t'+p * x)=w):v' * d+p * r'+t'=w:=by
 subst ho
 have h1:v'=v+p * q:=by omega
 have h2:p * t=p * (r * 4294967296)+p * x:=by rw [← ht,Nat.mul_add]
 have h3:p * t=p * r'+p * (d * q):=by rw [← hq,Nat.mul_add]
 have h4:p * q * d=p * (d * q):=by rw [Nat.mul_assoc,Nat.mul_comm q]
 have h5:p * 4294967296 * r=p * (r * 4294967296):=by rw [Nat.mul_assoc,Nat.mul_comm r]
 rw [h1,Nat.add_mul,h4]
 omega
theorem sh_lt {r x d:Nat} (hr:r<d) (hx:x<4294967296):(r * 4294967296+x) / d<4294967296:=by
 rw [Nat.div_lt_iff_lt_mul (by omega)]
 have:r * 4294967296+4294967296≤d * 4294967296:=by
  have:=Nat.mul_le_mul_right 4294967296 (Nat.succ_le_of_lt hr)
  rw [Nat.succ_mul] at this; exact this
 rw [Nat.mul_comm 4294967296]
 omega
theorem shS_inv {a:List Nat} {d:Nat} (ha:Lim a) (hd:0<d) (k:Nat) (hk:k≤a.length) :
  (shS a d k).1.length=a.length∧(shS a d k).2<d∧Lim (shS a d k).1∧(∀ i,i<a.length - k→(shS a d k).1.getD i 0=0) ∧
  val (shS a d k).1 * d+4294967296 ^ (a.length - k) * (shS a d k).2+val (a.take (a.length - k))=val a:=by
 induction k with
 | zero=>exact ⟨by simp [shS],hd,.rep _,fun i _=>by simp [shS,List.getElem?_replicate]; split <;> rfl,by simp [shS,val_rep]⟩
 | succ k ih =>
  obtain ⟨h1,h2,h3,h4,h5⟩:=ih (by omega)
  obtain ⟨j,hj⟩:∃ j,a.length - 1 - k=j:=⟨_,rfl⟩
  have hj1:a.length - k=j+1:=by omega
  have hj2:a.length - (k+1)=j:=by omega
  have hx:=ha.getD j
  have hset:=val_set (l:=(shS a d k).1) (j:=j) (by omega) (((shS a d k).2 * 4294967296+a.getD j 0) / d)
  have hoj:=h4 j (by omega)
  simp only [shS,hj,hj2]
  rw [hj1,val_take_succ,Nat.pow_succ] at h5
  have hlt:=sh_lt h2 hx
  refine ⟨by simp [h1],Nat.mod_lt _ hd,h3.set _ hlt,fun i hi=>?_,?_⟩
  ·rw [List.getD_eq_getElem?_getD,List.getElem?_set_ne (by omega),← List.getD_eq_getElem?_getD]
   exact h4 i (by omega)
  ·exact sh_arith hset hoj rfl (Nat.mod_add_div _ _) h5
def shQ (a:List Nat) (d:Nat):List Nat:=(shS a d a.length).1
theorem shQ_val {a:List Nat} {d:Nat} (ha:Lim a) (hd:0<d):(shQ a d).length=a.length∧Lim (shQ a d)∧val (shQ a d)=val a / d∧(shS a d a.length).2=val a % d:=by
 obtain ⟨h1,h2,h3,_,h5⟩:=shS_inv ha hd a.length (Nat.le_refl _)
 rw [Nat.sub_self,Nat.pow_zero,Nat.one_mul,List.take_zero,val,Nat.add_zero] at h5
 have:=(Nat.div_mod_unique hd).2 ⟨show (shS a d a.length).2+d * val (shQ a d)=val a by rw [Nat.mul_comm,Nat.add_comm]; exact h5,h2⟩
 exact ⟨h1,h3,this.1.symm,this.2.symm⟩
set_option maxRecDepth 10000 in
theorem r01short (a:List Nat) (d:Nat) (ha:Lim a) (hd:0<d) (hd2:d<4294967296) (hla:a.length≤1099511627776):Spec Tryz.prog 195 [encM a,.i .u32 d] (.tp [encM (shQ a d),.i .u32 ((val a % d:Nat):Int)]):=by
 refine spec_of (N:=42) follows_mixed Tryz.func195 rfl rfl rfl (by kernel_rfl) (by kernel_rfl) (by simp) ?_
 obtain ⟨n,hn⟩:∃ n,a.length=n:=⟨_,rfl⟩
 have hm1:(4:Int) * n≤281474976710656:=by omega
 have hm2:(n:Int)≤9223372036854775807:=by omega
 have hw1:IntKind.i64.wrap ((n:Int) - 1)=(n:Int) - 1:=wrap_i64 (by omega) (by omega)
 have hwd:IntKind.u64.wrap (d:Int)=d:=wrap_u64 (by omega) (by omega)
 have hdz:¬ d=0:=by omega
 have h00:(shS a d 0).1=List.replicate n 0:=by rw [← hn]; rfl
 have h01:(shS a d 0).2=0:=rfl
 simp (maxSteps:=1000000) [-map_map,-mapM_map,↓KW,encM,hn,hw1,hm1,hm2]
 refine loopP_inv (fun k:Nat=>k≤n)
  (fun k=>StL [(0,.d (encM a)),(1,.d (.i .u32 d)),(6,.own 1 0 n 1),(7,.d (.i .u64 (shS a d k).2)),(8,.d (.i .i64 ((n:Int) - 1 - k)))] none
   [.cells 121 ((lms (shS a d k).1).map .d)]) (fun k=>n - k) 0 (Nat.zero_le _) ?_ ?_
 ·refine wk_l [1] (by simp) ?_ ?_ <;> simp [-map_map,upd,inj1,Γ0,encM,h00,h01]
 ·intro k hk
  obtain ⟨ol,oc,om,_,_⟩:=shS_inv ha hd k (by omega)
  rw [hn] at ol
  by_cases hgo:k<n
  ·have q1:(0:Int)≤(n:Int) - 1 - k:=by omega
   obtain ⟨j,hj⟩:∃ j,a.length - 1 - k=j:=⟨_,rfl⟩
   have hji:(n:Int) - 1 - k=j:=by omega
   have hsucc:shS a d (k+1)=((shS a d k).1.set j (((shS a d k).2 * 4294967296+a.getD j 0) / d),((shS a d k).2 * 4294967296+a.getD j 0) % d):=by rw [← hj]; rfl
   have g1:=getD_some (l:=a) (i:=j) (by omega)
   have hx:=ha.getD j
   have hlt:=sh_lt oc hx
   generalize hout:(shS a d k).1=out at *
   generalize hcar:(shS a d k).2=r at *
   generalize a.getD j 0=x at *
   obtain ⟨t,ht⟩:∃ t,r * 4294967296+x=t:=⟨_,rfl⟩
   rw [ht] at hsucc hlt
   obtain ⟨q,hq⟩:∃ q,t / d=q:=⟨_,rfl⟩
   obtain ⟨r',hr'⟩:∃ r',t % d=r':=⟨_,rfl⟩
   rw [hq,hr'] at hsucc
   rw [hq] at hlt
   have hr'd:r'<d:=by rw [← hr']; exact Nat.mod_lt _ hd
   have hwx:IntKind.u64.wrap (x:Int)=x:=wrap_u64 (by omega) (by omega)
   have hwr:IntKind.u64.wrap ((r:Int) * 4294967296)=(r:Int) * 4294967296:=wrap_u64 (by omega) (by omega)
   have hwt:IntKind.u64.wrap ((r:Int) * 4294967296+x)=t:=by rw [wrap_u64 (by omega) (by omega)]; omega
   have hwq:IntKind.u64.wrap ((t:Int) / d)=q:=by rw [← Int.natCast_ediv,hq,wrap_u64 (by omega) (by omega)]
   have hwq2:IntKind.u32.wrap (q:Int)=q:=wrap_u32 (by omega) (by omega)
   have hwm:Int.tmod (t:Int) d=r':=by rw [← Int.ofNat_tmod,hr']
   have hw8:IntKind.i64.wrap ((j:Int) - 1)=(j:Int) - 1:=wrap_i64 (by omega) (by omega)
   have hjn:j<n:=by omega
   have hjl3:j+1≤n:=by omega
   have hlay:lay (List.map AV.d (lms out)) j [AV.d (D.i .u32 (q:Int))]=List.map AV.d (lms (out.set j q)):=by
    rw [lay_one _ _ _ (by rw [lms_len]; omega),lms_set]
   have he:(n:Int) - 1 - ((k:Int)+1)=(j:Int) - 1:=by omega
   rw [hji]
   simp (maxSteps:=1000000) [-map_map,-mapM_map,↓KW,encM,g1,hwx,hwr,hwt,hwd,hdz,hwq,hwq2,hwm,hw8,hjn,hjl3,hlay,ol]
   refine nxt_intro (k+1) hgo ?_ (wk_l [1] (by simp) ?_ ?_)
   ·omega
   ·simp [-map_map,upd,inj1,Γ0,encM,hsucc,he]
   ·simp [-map_map,upd,inj1,Γ0,encM,hsucc,he]
  ·have e:k=n:=by omega
   have q1:¬ (k:Int)≤(n:Int) - 1:=by omega
   obtain ⟨s1,s2,s3,s4⟩:=shQ_val ha hd
   have e1:(shS a d k).1=shQ a d:=by rw [e,← hn]; rfl
   have e2:(shS a d k).2=val a % d:=by rw [e,← hn]; exact s4
   rw [hn] at s1
   have hrd:val a % d<d:=Nat.mod_lt _ hd
   have e3:(val a:Int) % d=((val a % d:Nat):Int):=by rw [Int.natCast_emod]
   rw [e1,e2]
   generalize val a % d=r at *
   have hwr:IntKind.u32.wrap (r:Int)=r:=wrap_u32 (by omega) (by omega)
   simp (maxSteps:=1000000) [-map_map,-mapM_map,↓KW,encM,q1,s1,chunk_lms s1,lms_take_all s1,hwr,e3,resD_2]
end Go.Am
end

section
set_option linter.unusedVariables false
set_option linter.unusedSimpArgs false
open Go Go.Am Go.Proofs
namespace Go.Am
theorem app_bounds2 {n:Nat} (h:n≤2147483648):(n+1) * 32≤140737488355328∧n+1≤1099511627776:=⟨by omega,by omega⟩
structure Cl where
 id:Int
 dim:Int
 b:List (Int × Int)
 deriving DecidableEq,Inhabited
def noCl:Cl:=⟨0,0,[]⟩
def encCl (x:Cl):List D:=[.i .i64 x.id,.i .i64 x.dim,encC x.b]
def encX (c:List Cl):D:=.sl (c.map encCl)
def encIds (l:List Int):D:=.sl (l.map fun n=>[.i .i64 n])
def findX (c:List Cl) (n:Int):Option Cl:=c.find? fun y=>decide (y.id=n)
def idsX (c:List Cl) (k:Int):List Int:=(c.filter fun y=>decide (y.dim=k)).map Cl.id
def bOf (c:List Cl) (n:Int):List (Int × Int):=((findX c n).getD noCl).b
def dOf (c:List Cl) (n:Int):Int:=((findX c n).getD noCl).dim
theorem findX_cons (x:Cl) (c:List Cl) (n:Int):findX (x::c) n=if x.id=n then some x else findX c n:=by
 unfold findX
 rw [List.find?_cons]
 by_cases h:x.id=n <;> simp [h]
theorem findX_drop {c:List Cl} {i:Nat} (h:i<c.length) (n:Int):findX (c.drop i) n=if c[i].id=n then some c[i] else findX (c.drop (i+1)) n:=by
 rw [List.drop_eq_getElem_cons h,findX_cons]
theorem idsX_take {c:List Cl} {i:Nat} (h:i<c.length) (k:Int):idsX (c.take (i+1)) k=idsX (c.take i) k++if c[i].dim=k then [c[i].id] else []:=by
 unfold idsX
 rw [List.take_add_one,List.getElem?_eq_getElem h,List.filter_append,List.map_append]
 congr 1
 by_cases e:c[i].dim=k <;> simp [e]
theorem idsX_len (c:List Cl) (k:Int):(idsX c k).length≤c.length:=by
 unfold idsX
 rw [List.length_map]; exact List.length_filter_le _ _
theorem findX_some {c:List Cl} {n:Int} {x:Cl} (h:findX c n=some x):x∈c∧x.id=n :=
 ⟨List.mem_of_find?_eq_some h,by have:=List.find?_some h; simpa using this⟩
theorem findX_none {c:List Cl} {n:Int} (h:findX c n=none):∀ x∈c,x.id≠n:=fun x hx=>by
 have:=List.find?_eq_none.1 h x hx; simpa using this
def Inc (c:List Cl):Prop:=c.Pairwise fun x y=>x.id<y.id
theorem Inc.eq {c:List Cl} (h:Inc c) {x y:Cl} (hx:x∈c) (hy:y∈c) (e:x.id=y.id):x=y:=by
 induction c with
 | nil=>cases hx
 | cons a c ih =>
  obtain ⟨h1,h2⟩:=List.pairwise_cons.1 h
  rcases List.mem_cons.1 hx with rfl | hx' <;> rcases List.mem_cons.1 hy with rfl | hy'
  ·rfl
  ·have:=h1 y hy'; omega
  ·have:=h1 x hx'; omega
  ·exact ih h2 hx' hy'
theorem Inc.find {c:List Cl} (h:Inc c) {x:Cl} (hx:x∈c):findX c x.id=some x:=by
 cases e:findX c x.id with
 | none=>exact (findX_none e x hx rfl).elim
 | some y=>obtain ⟨h1,h2⟩:=findX_some e; rw [h.eq h1 hx h2]
def lv (k:Int) (r:List (Int × Int)):Int:=r.foldl (fun acc x=>if x.1=k then x.2 else acc) 0
theorem lv_snoc (k:Int) (r:List (Int × Int)) (x:Int × Int):lv k (r++[x])=if x.1=k then x.2 else lv k r:=by simp [lv]
theorem lv_take {r:List (Int × Int)} {i:Nat} (h:i<r.length) (k:Int):lv k (r.take (i+1))=if r[i].1=k then r[i].2 else lv k (r.take i):=by
 rw [List.take_add_one,List.getElem?_eq_getElem h]; exact lv_snoc _ _ _
theorem lv_fold (k:Int):∀ (r:List (Int × Int)) (acc:Int),Val r→r.foldl (fun acc x=>if x.1=k then x.2 else acc) acc=if ∃ y∈r,y.1=k then getM r k else acc
 | [],acc,_=>by simp
 | x::r,acc,h=>by
  obtain ⟨h1,h2,h3⟩:=h.tail
  rw [List.foldl_cons,lv_fold k r _ h1,getM_cons]
  by_cases e:x.1=k
  ·have hn:¬ ∃ y∈r,y.1=k:=fun ⟨y,hy,e2⟩=>by have:=h2 y hy; omega
   rw [if_neg hn,if_pos e,if_pos ⟨x,List.mem_cons_self ..,e⟩,if_pos e]
  ·rw [if_neg e,if_neg e]
   by_cases hr:∃ y∈r,y.1=k
   ·obtain ⟨y,hy,e2⟩:=hr
    rw [if_pos ⟨y,hy,e2⟩,if_pos ⟨y,List.mem_cons_of_mem _ hy,e2⟩]
   ·rw [if_neg hr,if_neg]
    rintro ⟨y,hy,e2⟩
    rcases List.mem_cons.1 hy with rfl | hy
    ·exact e e2
    ·exact hr ⟨y,hy,e2⟩
theorem lv_getM {r:List (Int × Int)} (h:Val r) (k:Int):lv k r=getM r k:=by
 unfold lv
 rw [lv_fold k r 0 h]
 split
 ·rfl
 ·rename_i hn
  exact (getM_zero fun y hy e=>hn ⟨y,hy,e⟩).symm
theorem lv_bnd {M:Nat} {r:List (Int × Int)} (h:Bnd M r) (k:Int):(lv k r).natAbs≤M:=by
 unfold lv
 suffices ∀ (r:List (Int × Int)) (acc:Int),Bnd M r→acc.natAbs≤M→(r.foldl (fun acc x=>if x.1=k then x.2 else acc) acc).natAbs≤M from this r 0 h (by simp)
 intro r
 induction r with
 | nil=>intro acc _ ha; exact ha
 | cons x r ih =>
  intro acc hb ha
  rw [List.foldl_cons]
  refine ih _ (fun y hy=>hb y (List.mem_cons_of_mem _ hy)) ?_
  split
  ·exact hb x (List.mem_cons_self ..)
  ·exact ha
def rowX (ids:List Int) (x:List (Int × Int)):List Int:=ids.map fun n=>lv n x
def matX (c:List Cl) (k:Int):List (List Int):=(idsX c k).map fun n=>rowX (idsX c (k - 1)) (bOf c n)
def bdL (c:List Cl) (x:List (Int × Int)):List (Int × Int):=x.flatMap fun f=>mulR f.2 (bOf c f.1)
def bdX (c:List Cl) (x:List (Int × Int)):List (Int × Int):=addR [] (bdL c x)
def chX (c:List Cl) (k:Int) (v:List Int):List (Int × Int) × Int:=if v.length=(idsX c k).length then (addR [] ((idsX c k).zip v),0) else ([],50)
theorem bdL_take {c:List Cl} {x:List (Int × Int)} {i:Nat} (h:i<x.length):bdL c (x.take (i+1))=bdL c (x.take i)++mulR x[i].2 (bOf c x[i].1):=by
 unfold bdL
 rw [List.take_add_one,List.getElem?_eq_getElem h,List.flatMap_append]
 simp
theorem addR_app (a x y:List (Int × Int)):addR a (x++y)=addR (addR a x) y:=by unfold addR; rw [List.foldl_append]
end Go.Am
end

section
set_option linter.unusedVariables false
set_option linter.unusedSimpArgs false
open List (map_map mapM_map)
open Go Go.Am Go.Proofs
namespace Go.Am
def fndD (c:List Cl) (n:Int):D:=.tp [.ag (encCl ((findX c n).getD noCl)),.b (findX c n).isSome]
theorem okHead_encX (c:List Cl):okHead 3 (c.map encCl)=true:=by cases c <;> rfl
theorem one_encC (l:List (Int × Int)):one (.d (encC l))=true:=rfl
theorem cellsA_encC (l:List (Int × Int)):cellsA (.d (encC l))=some [.d (encC l)]:=rfl
theorem inj1_encC (l:List (Int × Int)):inj1 (encC l)=.d (encC l):=rfl
theorem kills_encC (H:Nat→Option HO) (avs:List AV) (l:List (Int × Int)):killsOf H avs (encC l)=viss H avs:=rfl
theorem inj_encC (l:List (Int × Int)):inj (encC l)=.d (encC l):=rfl
set_option maxHeartbeats 1000000 in
set_option maxRecDepth 10000 in
theorem r25Find (c:List Cl) (n:Int) (hl:c.length≤1000000):Spec Tryz.prog 37 [encX c,.i .i64 n] (fndD c n):=by
 refine spec_of (N:=25) follows_mixed Tryz.func37 rfl rfl rfl (by kernel_rfl) (by kernel_rfl) (by simp) ?_
 simp (maxSteps:=1000000) [-map_map,-mapM_map,↓KW,encX]
 refine loopP_inv (fun i:Nat=>i≤c.length∧findX (c.drop i) n=findX c n) (fun i=>StL [(0,.d (encX c)),(1,.d (.i .i64 n)),(4,.ptr 1 0),(5,.d (.b false)),(6,.d (.i .i64 (i:Int)))] none [.cells 47 [.d (.i .i64 0),.d (.i .i64 0),.nil]]) (fun i=>c.length - i) 0 ⟨Nat.zero_le _,rfl⟩ ?_ ?_
 ·refine wk_l [1] (by simp) ?_ ?_ <;> simp [-map_map,upd,inj1,Γ0,encX]
 ·intro i ⟨hi,hp⟩
  by_cases hgo:i<c.length
  ·have q1:(i:Int)<c.length:=by omega
   have hx:c[i]? = some c[i]:=List.getElem?_eq_getElem hgo
   have hw:IntKind.i64.wrap ((i:Int)+1)=(i:Int)+1:=wrap_i64 (by omega) (by omega)
   rw [findX_drop hgo] at hp
   generalize c[i]=x at *
   by_cases h0:x.id=n
   ·rw [if_pos h0] at hp
    have h0':((x.id == n):Bool)=true:=by simpa using h0
    unfold fndD
    rw [← hp]
    have q3:(((n:Int) == (n:Int)):Bool)=true:=by simp
    simp (maxSteps:=1000000) [-map_map,-mapM_map,↓KW,encX,encCl,q1,hx,h0,h0',q3,one_encC,cellsA_encC,inj1_encC]
    rfl
   ·rw [if_neg h0] at hp
    have h0':((x.id == n):Bool)=false:=by simpa using h0
    simp (maxSteps:=1000000) [-map_map,-mapM_map,↓KW,encX,encCl,q1,hx,h0,h0',hw,one_encC,cellsA_encC,inj1_encC]
    refine nxt_intro (i+1) ⟨hgo,hp⟩ (Nat.sub_lt_sub_left hgo (Nat.lt_succ_self _)) (wk_l [1] (by simp) ?_ ?_) <;> simp [-map_map,upd,inj1,Γ0,encX]
  ·have q1:¬ (i:Int)<c.length:=by omega
   rw [List.drop_eq_nil_of_le (by omega)] at hp
   have hp':findX c n=none:=hp.symm
   unfold fndD
   rw [hp']
   simp (maxSteps:=1000000) [-map_map,-mapM_map,↓KW,encX,q1,encCl,noCl,encC]
   rfl
set_option maxHeartbeats 1000000 in
set_option maxRecDepth 10000 in
theorem r25Cells (c:List Cl) (k:Int) (hl:c.length≤1000000):Spec Tryz.prog 74 [encX c,.i .i64 k] (encIds (idsX c k)):=by
 refine spec_of (N:=30) follows_mixed Tryz.func74 rfl rfl rfl (by kernel_rfl) (by kernel_rfl) (by simp) ?_
 simp (maxSteps:=1000000) [-map_map,-mapM_map,↓KW,encX]
 refine loopP_inv (fun i:Nat=>i≤c.length) (fun i=>StL [(0,.d (encX c)),(1,.d (.i .i64 k)),(5,.own 1 0 (idsX (c.take i) k).length 1),(6,.d (.i .i64 (i:Int)))] none [.cells 3 (((idsX (c.take i) k).map fun n=>D.i .i64 n).map .d)]) (fun i=>c.length - i) 0 (Nat.zero_le _) ?_ ?_
 ·refine wk_l [1] (by simp) ?_ ?_ <;> simp [-map_map,upd,inj1,Γ0,encX,idsX]
 ·intro i hi
  by_cases hgo:i<c.length
  ·have q1:(i:Int)<c.length:=by omega
   have hx:c[i]? = some c[i]:=List.getElem?_eq_getElem hgo
   have hw:IntKind.i64.wrap ((i:Int)+1)=(i:Int)+1:=wrap_i64 (by omega) (by omega)
   have htk:=idsX_take hgo k
   have hln:(idsX (c.take i) k).length≤i:=Nat.le_trans (idsX_len _ _) (by simp; omega)
   generalize idsX (c.take i) k=out at *
   generalize c[i]=x at *
   have hbb:=app_bounds (n:=out.length) (by omega)
   have hb8:(out.length+1) * 8≤140737488355328:=by omega
   by_cases h0:x.dim=k
   ·rw [if_pos h0] at htk
    have h0':((x.dim == k):Bool)=true:=by simpa using h0
    have q3:(((k:Int) == (k:Int)):Bool)=true:=by simp
    simp (maxSteps:=1000000) [-map_map,-mapM_map,↓KW,encX,encCl,q1,hx,h0,h0',q3,hw,hbb,hb8,le_maxLen,one_encC,cellsA_encC,inj1_encC]
    refine nxt_intro (i+1) hgo (Nat.sub_lt_sub_left hgo (Nat.lt_succ_self _)) (wk_l [3] (by simp) ?_ ?_) <;> simp [-map_map,upd,inj1,Γ0,encX,htk]
   ·rw [if_neg h0,List.append_nil] at htk
    have h0':((x.dim == k):Bool)=false:=by simpa using h0
    simp (maxSteps:=1000000) [-map_map,-mapM_map,↓KW,encX,encCl,q1,hx,h0,h0',hw,one_encC,cellsA_encC,inj1_encC]
    refine nxt_intro (i+1) hgo (Nat.sub_lt_sub_left hgo (Nat.lt_succ_self _)) (wk_l [1] (by simp) ?_ ?_) <;> simp [-map_map,upd,inj1,Γ0,encX,htk]
  ·have q1:¬ (i:Int)<c.length:=by omega
   rw [List.take_of_length_le (by omega)]
   have hln:=idsX_len c k
   generalize idsX c k=out at *
   have e1:List.take out.length ((out.map fun n=>D.i .i64 n).map AV.d)=(out.map fun n=>D.i .i64 n).map AV.d:=List.take_of_length_le (by simp)
   have e2:chunk 1 out.length (out.map fun n=>D.i .i64 n)=out.map fun n=>[D.i .i64 n]:=by rw [chunk_one _ _ (by simp),List.map_map]; rfl
   simp (maxSteps:=1000000) [-map_map,-mapM_map,↓KW,encX,encIds,q1,e1,e2]
end Go.Am
end

section
set_option linter.unusedVariables false
set_option linter.unusedSimpArgs false
open List (map_map mapM_map)
open Go Go.Am Go.Proofs
namespace Go.Am
def hdr (c n b:Nat):List AV:=(List.range n).map fun j=>AV.own (j+b) 0 c 2
def rowO (v:List Int):HO:=.cells 69 ((vcs v).map .d)
def mB (c:Nat) (M:List (List Int)) (m:Nat):List HO:=.cells 112 (hdr c M.length (m+1))::M.map rowO
theorem hdr_len (c n b:Nat):(hdr c n b).length=n:=by simp [hdr]
theorem hdr_get {c n b i:Nat} (h:i<n):(hdr c n b)[i]? = some (.own (i+b) 0 c 2):=by
 unfold hdr; rw [List.getElem?_map,List.getElem?_range h]; rfl
theorem hdr_succ (c n b:Nat):hdr c (n+1) b=hdr c n b++[.own (n+b) 0 c 2]:=by simp [hdr,List.range_succ]
theorem mB_len (c:Nat) (M:List (List Int)) (m:Nat):(mB c M m).length=M.length+1:=by simp [mB]
def nwH (cols i:Nat):Nat→Option HO:=fun id =>
 if id=1 then some (.cells 155 [.d (.i .i64 0),.d (.i .i64 0),.nil]) else if id=2 then some (.cells 112 (hdr cols i 3)) else if 3≤id∧id<i+3 then some (.cells 69 (zr cols)) else none
set_option maxHeartbeats 8000000 in
set_option maxRecDepth 10000 in
theorem r05New (rows cols:Nat) (hr:rows≤1000) (hc:cols≤1000):NSpec Tryz.prog 140 [.i .i64 (rows:Int),.i .i64 (cols:Int)] (nwV rows cols) (mB cols (List.replicate rows (List.replicate cols 0))):=by
 refine nspec_of (N:=22) follows_mixed Tryz.func140 rfl rfl rfl (by decide) (by kernel_rfl) (by kernel_rfl) (by simp) rfl ?_
 have m1:¬ (rows:Int)<0:=by omega
 have m2:¬ (cols:Int)<0:=by omega
 have hm3:32 * (cols:Int)≤281474976710656:=by omega
 have hm4:(cols:Int)≤9223372036854775807:=by omega
 simp (maxSteps:=1000000) [-map_map,-mapM_map,↓KW,m1,m2,le_maxLen]
 refine loopP_inv (fun i:Nat=>i≤rows) (fun i=>⟨sltF [(0,.d (.i .i64 (rows:Int))),(1,.d (.i .i64 (cols:Int))),(4,.ptr 1 0),(5,.own 2 0 i 1),(6,.d (.i .i64 (i:Int)))],nwH cols i,i+3⟩) (fun i=>rows - i) 0 (Nat.zero_le _) ?_ ?_
 ·refine ⟨_,wk_id ?_ (fun id o' ho=>?_) (fun id hid=>?_) (by simp)⟩
  ·simp [-map_map,upd,inj1,Γ0,nwH]
  ·simp only [nwH] at ho
   split at ho
   ·rename_i e; subst e
    injection ho with ho; subst ho
    exact ⟨_,rfl,by simp [-map_map,upd,inj1,Γ0,]⟩
   ·split at ho
    ·rename_i e; subst e
     injection ho with ho; subst ho
     exact ⟨_,rfl,subO_cells.2 ⟨rfl,trivial⟩⟩
    ·rw [if_neg (by omega)] at ho; cases ho
  ·simp only [nwH]
   rw [if_neg (by omega),if_neg (by omega),if_neg (by omega)]
 ·intro i hi
  have hH1:nwH cols i 1=some (.cells 155 [.d (.i .i64 0),.d (.i .i64 0),.nil]):=rfl
  have hH2:nwH cols i 2=some (.cells 112 (hdr cols i 3)):=rfl
  have hlen:(hdr cols i 3).length=i:=hdr_len ..
  by_cases hgo:i<rows
  ·have q1:(i:Int)<rows:=by omega
   have hw:IntKind.i64.wrap ((i:Int)+1)=(i:Int)+1:=wrap_i64 (by omega) (by omega)
   generalize hHg:nwH cols i=H at *
   generalize hcl:hdr cols i 3=cells at *
   have hb:(i+1) * 24≤140737488355328:=by omega
   have hb2:i+1≤maxLen:=le_maxLen (by omega)
   simp (maxSteps:=1000000) [-map_map,-mapM_map,↓KW,q1,hgo,hw,hm3,hm4,hH1,hH2,hlen,m1,m2,hb,hb2]
   have hn1:(nwH cols (i+1) 1).isSome=true:=rfl
   have hn2:(nwH cols (i+1) 2).isSome=true:=rfl
   have hnj:∀ j,j<i+1→(nwH cols (i+1) (j+3)).isSome=true:=fun j hj=>by
    unfold nwH; rw [if_neg (by omega),if_neg (by omega),if_pos (by omega)]; rfl
   refine nxt_intro (i+1) hgo (Nat.sub_lt_sub_left hgo (Nat.lt_succ_self _)) ⟨_,wk_gen (fun id=>if id=2 then i+5 else id) ?_ (fun id o' ho=>?_) (fun id id' h1 h2 e=>?_) (fun _=>rfl) (fun id hid=>?_) (by simp)⟩
   ·simp [-map_map,upd,inj1,Γ0,hn1,hn2]
   ·simp only [nwH] at ho
    split at ho
    ·rename_i e; subst e
     injection ho with ho; subst ho
     refine ⟨.cells 155 [.d (.i .i64 0),.d (.i .i64 0),.nil],?_,by simp [-map_map,upd,inj1,Γ0,]⟩
     rw [if_neg (by omega)]
     simp only
     rw [if_neg (by omega),if_neg (by omega),if_neg (by omega),if_neg (by omega),hH1]
     rfl
    ·split at ho
     ·rename_i e; subst e
      injection ho with ho; subst ho
      refine ⟨.cells 112 (hdr cols (i+1) 3),?_,subO_cells.2 ⟨rfl,cellsOk_iff.2 ⟨rfl,fun k x y h1 h2=>?_⟩⟩⟩
      ·show Option.map (scrubO [2]) (if i+5=i+3+1+1 then some (HO.cells 112 (cells++[AV.own (i+3) 0 cols 2])) else _)=_
       rw [if_pos (by omega),hdr_succ,hcl]
       simp only [Option.map_some,scrubO,List.map_append,List.map_cons,List.map_nil]
       have e1:cells.map (scrub0 [2])=cells:=by
        rw [← hcl]
        unfold hdr
        rw [List.map_map]
        apply List.map_congr_left
        intro j hj
        simp [scrub0]
       rw [e1]
       simp [scrub0]
      ·rw [h1] at h2; injection h2 with h2; subst h2
       have hk:k<i+1:=by have:=(List.getElem?_eq_some_iff.1 h1).1; rwa [hdr_len] at this
       rw [hdr_get hk] at h1; injection h1 with h1; subst h1
       exact ⟨by simp only; rw [if_neg (by omega)],rfl,rfl,rfl,hnj k hk⟩
     ·split at ho
      ·rename_i e2 e3
       injection ho with ho; subst ho
       refine ⟨.cells 69 (zr cols),?_,subO_cells.2 ⟨rfl,zr_self cols⟩⟩
       rw [if_neg e2]
       simp only
       rw [if_neg (by omega),if_neg e2,if_neg (by omega)]
       have ez:Option.map (scrubO [2]) (some (HO.cells 69 (zr cols)))=some (.cells 69 (zr cols)):=by
        simp only [Option.map_some,scrubO]
        congr 2
        unfold zr
        rw [List.map_flatten,List.map_replicate]; rfl
       by_cases e4:id=i+3
       ·rw [if_pos e4]; exact ez
       ·rw [if_neg e4,← hHg]
        unfold nwH
        rw [if_neg (by omega),if_neg (by omega),if_pos (by omega)]
        exact ez
      ·cases ho
   ·have k1:∀ id,(nwH cols (i+1) id).isSome=true→1≤id∧id<i+4:=fun id h=>by
     unfold nwH at h
     split at h
     ·omega
     ·split at h
      ·omega
      ·split at h
       ·omega
       ·cases h
    have b1:=k1 id h1
    have b2:=k1 id' h2
    have e':(if id=2 then i+5 else id)=(if id'=2 then i+5 else id'):=e
    split at e' <;> split at e' <;> omega
   ·simp only [nwH]
    rw [if_neg (by omega),if_neg (by omega),if_neg (by omega)]
  ·have q1:¬ (i:Int)<rows:=by omega
   have e:i=rows:=by omega
   subst e
   generalize hHg:nwH cols i=H at *
   simp (maxSteps:=1000000) [-map_map,-mapM_map,↓KW,q1,hH1,hH2]
   intro m hm0
   have hML:(mB cols (List.replicate i (List.replicate cols (0:Int))) m).length=i+1:=by simp [mB_len]
   have hin:∀ id,m≤id→id<m+(i+1)→(outS (nwV i cols) (mB cols (List.replicate i (List.replicate cols 0))) m).H id=(mB cols (List.replicate i (List.replicate cols 0)) m)[id - m]? := fun id h1 h2=>by
    simp only [outS,extB]
    rw [if_pos ⟨h1,by rw [hML]; exact h2⟩]
   have hout:∀ id,¬ (m≤id∧id<m+(i+1))→(outS (nwV i cols) (mB cols (List.replicate i (List.replicate cols 0))) m).H id=none:=fun id h=>by
    simp only [outS,extB]
    rw [if_neg (by rw [hML]; exact h)]
   have hsome:∀ id,((outS (nwV i cols) (mB cols (List.replicate i (List.replicate cols 0))) m).H id).isSome=true→m≤id∧id<m+(i+1):=fun id h=>by
    by_cases hr:m≤id∧id<m+(i+1)
    ·exact hr
    ·rw [hout id hr] at h; cases h
   have hS0:((outS (nwV i cols) (mB cols (List.replicate i (List.replicate cols 0))) m).H m).isSome=true:=by
    rw [hin m (Nat.le_refl _) (by omega),Nat.sub_self]; rfl
   have hSj:∀ j,j<i→(outS (nwV i cols) (mB cols (List.replicate i (List.replicate cols 0))) m).H (j+(m+1))=some (rowO (List.replicate cols 0)):=fun j hj=>by
    rw [hin _ (by omega) (by omega),show j+(m+1) - m=j+1 by omega]
    simp only [mB,List.getElem?_cons_succ,List.map_replicate,List.getElem?_replicate,if_pos hj]
   refine ⟨fun id=>id - m+2,fun id hid=>hout id (by simp only [outS] at hid; rw [hML] at hid; omega),fun t=>?_,fun id o' ho=>?_,fun id id' h1 h2 e=>?_,fun h=>?_,fun h=>?_⟩
   ·show Sub _ _ _ _ (upd (fun _=>.any) 0 (nwV i cols m) t)
    by_cases e:t=0
    ·subst e
     simp only [upd_same,nwV]
     refine ⟨rfl,fun k c d h1 h2=>?_⟩
     rcases k with _ | _ | _ | k
     ·simp at h1 h2; subst h1; subst h2; exact (subL_d _ _).2 rfl
     ·simp at h1 h2; subst h1; subst h2; exact (subL_d _ _).2 rfl
     ·simp at h1 h2; subst h1; subst h2
      exact ⟨by simp,rfl,rfl,rfl,hS0⟩
     ·simp at h1
    ·rw [upd_ne _ _ e]; exact sub_any _
   ·have hr:=hsome id (by rw [ho]; rfl)
    rw [hin id hr.1 hr.2] at ho
    simp only
    obtain ⟨j,rfl⟩:∃ j,id=m+j:=⟨id - m,by omega⟩
    rw [show m+j - m=j by omega] at ho ⊢
    rcases j with _ | j
    ·simp only [mB,List.getElem?_cons_zero,List.length_replicate] at ho
     injection ho with ho; subst ho
     refine ⟨.cells 112 (hdr cols i 3),by simp only [upd]; rw [if_neg (by omega)]; exact hH2,subO_cells.2 ⟨rfl,cellsOk_iff.2 ⟨by rw [hdr_len,hdr_len],fun k c d h1 h2=>?_⟩⟩⟩
     have hlt:k<i:=by have:=(List.getElem?_eq_some_iff.1 h1).1; rwa [hdr_len] at this
     rw [hdr_get hlt] at h1 h2
     injection h1 with h1; injection h2 with h2; subst h1; subst h2
     exact ⟨by show k+3=k+(m+1) - m+2; omega,rfl,rfl,rfl,by rw [hSj k hlt]; rfl⟩
    ·have hlt:j<i:=by omega
     simp only [mB,List.getElem?_cons_succ,List.map_replicate,List.getElem?_replicate,if_pos hlt] at ho
     injection ho with ho; subst ho
     refine ⟨.cells 69 (zr cols),?_,subO_cells.2 ⟨rfl,zr_vcs cols⟩⟩
     simp only [upd]
     rw [if_neg (by omega),← hHg]
     unfold nwH
     rw [if_neg (by omega),if_neg (by omega),if_pos (by omega)]
   ·have q1':=hsome id h1
    have q2':=hsome id' h2
    have e':id - m+2=id' - m+2:=e
    omega
   ·have:=hsome 0 h; omega
   ·simp only [outS] at h; omega
end Go.Am
end

section
set_option linter.unusedVariables false
set_option linter.unusedSimpArgs false
open Go Go.Am Go.Proofs
namespace Go.Am
/-! Matrices by their entries -/
structure Sh (R c:Nat) (M:List (List Int)):Prop where
 len:M.length=R
 row:∀ v∈M,v.length=c
def ent (M:List (List Int)) (r s:Nat):Int:=(M.getD r []).getD s 0
def mk (R c:Nat) (f:Nat→Nat→Int):List (List Int):=(List.range R).map fun r=>(List.range c).map fun s=>f r s
theorem Sh.get {R c r:Nat} {M:List (List Int)} (h:Sh R c M) (hr:r<R):∃ v,M[r]? = some v∧v.length=c∧∀ s,v.getD s 0=ent M r s:=by
 have hl:r<M.length:=by rw [h.len]; exact hr
 refine ⟨M[r],List.getElem?_eq_getElem hl,h.row _ (List.getElem_mem hl),fun s=>?_⟩
 unfold ent
 rw [List.getD_eq_getElem?_getD (l:=M),List.getElem?_eq_getElem hl]; rfl
theorem mk_sh (R c:Nat) (f:Nat→Nat→Int):Sh R c (mk R c f):=⟨by simp [mk],fun v hv=>by obtain ⟨r,_,rfl⟩:=List.mem_map.1 hv; simp⟩
theorem mk_ent {R c r s:Nat} (f:Nat→Nat→Int) (hr:r<R) (hs:s<c):ent (mk R c f) r s=f r s:=by
 unfold ent mk
 rw [List.getD_eq_getElem?_getD (l:=List.map _ _),List.getElem?_map,List.getElem?_range hr]
 simp only [Option.map_some,Option.getD_some]
 rw [List.getD_eq_getElem?_getD,List.getElem?_map,List.getElem?_range hs]; rfl
theorem mat_ext {R c:Nat} {M M':List (List Int)} (h:Sh R c M) (h':Sh R c M') (he:∀ r s,r<R→s<c→ent M r s=ent M' r s):M=M':=by
 refine List.ext_getElem (by rw [h.len,h'.len]) fun r h1 h2=>?_
 have hr:r<R:=by rw [← h.len]; exact h1
 refine List.ext_getElem (by rw [h.row _ (List.getElem_mem h1),h'.row _ (List.getElem_mem h2)]) fun s g1 g2=>?_
 have hs:s<c:=by rw [← h.row _ (List.getElem_mem h1)]; exact g1
 have:=he r s hr hs
 unfold ent at this
 rw [List.getD_eq_getElem?_getD (l:=M),List.getElem?_eq_getElem h1,List.getD_eq_getElem?_getD (l:=M'),List.getElem?_eq_getElem h2] at this
 simp only [Option.getD_some] at this
 rw [List.getD_eq_getElem?_getD,List.getElem?_eq_getElem g1,List.getD_eq_getElem?_getD,List.getElem?_eq_getElem g2] at this
 exact this
theorem ent_out {R c:Nat} {M:List (List Int)} (h:Sh R c M) {r s:Nat} (hr:¬ (r<R∧s<c)):ent M r s=0:=by
 unfold ent
 by_cases h1:r<R
 ·obtain ⟨v,hv,hl,_⟩:=h.get h1
  rw [List.getD_eq_getElem?_getD (l:=M),hv]
  simp only [Option.getD_some]
  rw [List.getD_eq_getElem?_getD,List.getElem?_eq_none (by omega)]; rfl
 ·rw [List.getD_eq_getElem?_getD (l:=M),List.getElem?_eq_none (by rw [h.len]; omega)]; rfl
theorem sh_set {R c i:Nat} {M:List (List Int)} (h:Sh R c M) {v:List Int} (hv:v.length=c):Sh R c (M.set i v) :=
 ⟨by rw [List.length_set,h.len],fun w hw=>(List.mem_or_eq_of_mem_set hw).elim (h.row w) fun e=>e ▸ hv⟩
theorem ent_set {R c i j:Nat} {M:List (List Int)} (h:Sh R c M) {v:List Int} {z:Int} (hi:i<R) (hj:j<c) (hv:M[i]? = some v) (r s:Nat):ent (M.set i (v.set j z)) r s=if r=i∧s=j then z else ent M r s:=by
 have hl:i<M.length:=by rw [h.len]; exact hi
 have hvl:v.length=c:=h.row v (List.mem_of_getElem? hv)
 unfold ent
 rw [List.getD_eq_getElem?_getD (l:=M.set i _),List.getElem?_set]
 by_cases e:r=i
 ·subst e
  rw [if_pos rfl,if_pos hl,List.getD_eq_getElem?_getD (l:=M),hv]
  simp only [Option.getD_some,true_and]
  rw [List.getD_eq_getElem?_getD,List.getElem?_set]
  by_cases e2:s=j
  ·subst e2; rw [if_pos rfl,if_pos (by omega),if_pos rfl]; rfl
  ·rw [if_neg (fun h=>e2 h.symm),if_neg e2,List.getD_eq_getElem?_getD]
 ·rw [if_neg (fun h=>e h.symm),if_neg (fun h=>e h.1),List.getD_eq_getElem?_getD (l:=M)]
theorem ent_set_sh {R c i j:Nat} {M:List (List Int)} (h:Sh R c M) {v:List Int} {z:Int} (hv:M[i]? = some v):Sh R c (M.set i (v.set j z)) :=
 sh_set h (by rw [List.length_set]; exact h.row v (List.mem_of_getElem? hv))
theorem mk_of {R c:Nat} {M:List (List Int)} (h:Sh R c M) {f:Nat→Nat→Int} (he:∀ r s,r<R→s<c→ent M r s=f r s):M=mk R c f :=
 mat_ext h (mk_sh R c f) fun r s hr hs=>by rw [he r s hr hs,mk_ent f hr hs]
/-! Heaps -/
def famH (b:Nat) (l:List HO):Nat→Option HO:=fun id=>if id<b then none else l[id - b]?
theorem famH_get {b i:Nat} {l:List HO}:famH b l (i+b)=l[i]? := by unfold famH; rw [if_neg (by omega),Nat.add_sub_cancel]
theorem famH_top {b:Nat} {l:List HO} {id:Nat} (h:l.length+b≤id):famH b l id=none:=by
 unfold famH; rw [if_neg (by omega),List.getElem?_eq_none (by omega)]
theorem famH_some {b:Nat} {l:List HO} {id:Nat} (h1:b≤id) (h2:id<l.length+b):(famH b l id).isSome=true:=by
 unfold famH; rw [if_neg (by omega),List.getElem?_eq_getElem (by omega)]; rfl
theorem famH_lt {b:Nat} {l:List HO} {id:Nat} (h:(famH b l id).isSome=true):b≤id∧id<l.length+b:=by
 unfold famH at h
 split at h
 ·cases h
 ·rcases Nat.lt_or_ge (id - b) l.length with h' | h'
  ·omega
  ·rw [List.getElem?_eq_none h'] at h; cases h
def rfC (a n:Nat):AV→Bool
 | .d _ | .nil=>true
 | .own id _ _ _=>decide (a≤id∧id<n)
 | .ptr id _=>decide (a≤id∧id<n)
 | _=>false
def rfO (a n:Nat):HO→Bool
 | .cells _ cs=>cs.all (rfC a n)
 | _=>false
theorem rfC_sub {H H':Nat→Option HO} {ρ:Nat→Nat} {a n:Nat} {c:AV} (hc:rfC a n c=true) (h:∀ id,a≤id→id<n→id=ρ id∧(H' id).isSome=true):SubL H H' ρ c c:=by
 unfold rfC at hc
 split at hc
 ·exact (subL_d _ _).2 rfl
 ·trivial
 ·simp only [decide_eq_true_eq] at hc
  obtain ⟨h1,h2⟩:=h _ hc.1 hc.2
  exact ⟨h1,rfl,rfl,rfl,h2⟩
 ·simp only [decide_eq_true_eq] at hc
  obtain ⟨h1,h2⟩:=h _ hc.1 hc.2
  exact ⟨h1,rfl,h2⟩
 ·cases hc
theorem rf_self {H H':Nat→Option HO} {ρ:Nat→Nat} {a n:Nat} {o:HO} (ho:rfO a n o=true) (h:∀ id,a≤id→id<n→id=ρ id∧(H' id).isSome=true):SubO H H' ρ o o:=by
 cases o with
 | cells e cs =>
  refine subO_cells.2 ⟨rfl,cellsOk_iff.2 ⟨rfl,fun k c d h1 h2=>?_⟩⟩
  rw [h1] at h2; injection h2 with h2; subst h2
  exact rfC_sub (List.all_eq_true.1 ho c (List.mem_of_getElem? h1)) h
 | map k es=>cases ho
 | iter _ _ _=>cases ho
theorem rfO_row (a n:Nat) (v:List Int):rfO a n (rowO v)=true:=by
 unfold rfO rowO
 refine List.all_eq_true.2 fun c hc=>?_
 obtain ⟨x,_,rfl⟩:=List.mem_map.1 hc; rfl
theorem rfO_mB {a n c m:Nat} {M:List (List Int)} (h1:a≤m+1) (h2:m+1+M.length≤n):∀ o∈mB c M m,rfO a n o=true:=by
 intro o ho
 rcases List.mem_cons.1 ho with rfl | ho
 ·refine List.all_eq_true.2 fun x hx=>?_
  obtain ⟨j,hj,rfl⟩:=List.mem_map.1 hx
  have:=List.mem_range.1 hj
  simp only [rfC,decide_eq_true_eq]; omega
 ·obtain ⟨v,_,rfl⟩:=List.mem_map.1 ho
  exact rfO_row _ _ _
theorem rfO_mono {a n a' n':Nat} (h1:a'≤a) (h2:n≤n') {o:HO} (ho:rfO a n o=true):rfO a' n' o=true:=by
 cases o with
 | map _ _=>cases ho
 | iter _ _ _=>cases ho
 | cells e cs =>
  refine List.all_eq_true.2 fun c hc=>?_
  have:=List.all_eq_true.1 ho c hc
  cases c <;> first | rfl | (cases this; done) | (simp only [rfC,decide_eq_true_eq] at this ⊢; omega)
theorem fam_self {H:Nat→Option HO} {b:Nat} {l:List HO} (h:∀ o∈l,rfO b (l.length+b) o=true) {id:Nat} {o:HO} (ho:famH b l id=some o):SubO H (famH b l) (fun i=>i) o o:=by
 refine rf_self (h o ?_) fun id h1 h2=>⟨rfl,famH_some h1 h2⟩
 unfold famH at ho
 split at ho
 ·cases ho
 ·exact List.mem_of_getElem? ho
theorem fam_hdr {b c m:Nat} {pre post:List HO} {M:List (List Int)} (hm:m=pre.length+b):famH b (pre++mB c M m++post) m=some (.cells 112 (hdr c M.length (m+1))):=by
 subst hm
 rw [famH_get,List.append_assoc,List.getElem?_append_right (Nat.le_refl _),Nat.sub_self]; rfl
theorem fam_row {b c m j:Nat} {pre post:List HO} {M:List (List Int)} {v:List Int} (hm:m=pre.length+b) (hv:M[j]? = some v):famH b (pre++mB c M m++post) (j+(m+1))=some (rowO v):=by
 have hj:=(List.getElem?_eq_some_iff.1 hv).1
 rw [show j+(m+1)=(j+1+pre.length)+b by omega,famH_get,List.append_assoc,List.getElem?_append_right (by omega),Nat.add_sub_cancel,List.getElem?_append_left (by rw [mB_len]; omega)]
 simp only [mB,List.getElem?_cons_succ,List.getElem?_map,hv,Option.map_some]
theorem fam_set {b c m i:Nat} {pre post:List HO} {M:List (List Int)} {v:List Int} (hm:m=pre.length+b) (hi:i<M.length) (id:Nat) :
  famH b (pre++mB c (M.set i v) m++post) id=if id=i+(m+1) then some (rowO v) else famH b (pre++mB c M m++post) id:=by
 by_cases e:id=i+(m+1)
 ·rw [if_pos e,e]
  exact fam_row hm (List.getElem?_set_self hi)
 ·rw [if_neg e]
  unfold famH
  by_cases h0:id<b
  ·rw [if_pos h0,if_pos h0]
  ·rw [if_neg h0,if_neg h0]
   have hl:(mB c (M.set i v) m).length=(mB c M m).length:=by rw [mB_len,mB_len,List.length_set]
   rw [List.append_assoc,List.append_assoc]
   rcases Nat.lt_or_ge (id - b) pre.length with h1 | h1
   ·rw [List.getElem?_append_left h1,List.getElem?_append_left h1]
   ·rw [List.getElem?_append_right h1,List.getElem?_append_right h1]
    rcases Nat.lt_or_ge (id - b - pre.length) (mB c M m).length with h2 | h2
    ·rw [List.getElem?_append_left (by omega),List.getElem?_append_left h2]
     generalize hk:id - b - pre.length=k at *
     rcases k with _ | k
     ·simp [mB]
     ·simp only [mB,List.getElem?_cons_succ,List.getElem?_map]
      rw [List.getElem?_set_ne (by omega)]
    ·rw [List.getElem?_append_right (by omega),List.getElem?_append_right h2,hl]
theorem fam_len {c m:Nat} {pre post:List HO} {M:List (List Int)}:(pre++mB c M m++post).length=pre.length+M.length+1+post.length:=by
 rw [List.length_append,List.length_append,mB_len]; omega
theorem lay_row {v:List Int} {j:Nat} (z:Int) (hj:j<v.length):lay ((vcs v).map AV.d) (j * 2) [.d (.b (decide (z<0))),.d (encM (digs z.natAbs))]=(vcs (v.set j z)).map .d:=by
 rw [← vcs_set _ hj]
 simp [lay,encN]
theorem upd_fam {b c m i:Nat} {pre post:List HO} {M:List (List Int)} {v:List Int} (hm:m=pre.length+b) (hi:i<M.length) :
  upd (famH b (pre++mB c M m++post)) (i+(m+1)) (some (rowO v))=famH b (pre++mB c (M.set i v) m++post):=by
 funext id
 rw [fam_set hm hi]
 rfl
theorem fam_ext {b n:Nat} {pre l:List HO} (h:n=pre.length+b):extB (famH b pre) n l=famH b (pre++l):=by
 funext id
 subst h
 unfold extB famH
 by_cases h0:id<b
 ·rw [if_neg (by omega),if_pos h0,if_pos h0]
 ·rw [if_neg h0]
  by_cases h1:pre.length+b≤id∧id<pre.length+b+l.length
  ·rw [if_pos h1,if_neg h0,List.getElem?_append_right (by omega),show id - b - pre.length=id - (pre.length+b) by omega]
  ·rw [if_neg h1,if_neg h0]
   rcases Nat.lt_or_ge (id - b) pre.length with h2 | h2
   ·rw [List.getElem?_append_left h2]
   ·rw [List.getElem?_eq_none h2,List.getElem?_append_right h2,List.getElem?_eq_none (by omega)]
theorem fam_snoc {b n:Nat} {l:List HO} {p:HO} (h:n=l.length+b):upd (famH b l) n (some p)=famH b (l++[p]):=by
 rw [← fam_ext h]
 funext id
 unfold upd extB
 simp only [List.length_singleton]
 by_cases e:id=n
 ·subst e; rw [if_pos rfl,if_pos (by omega),Nat.sub_self]; rfl
 ·rw [if_neg e,if_neg (by omega)]
theorem fam_nil (b:Nat):(fun _=>none:Nat→Option HO)=famH b []:=by
 funext id; unfold famH; split <;> rfl
theorem upd_twice {H:Nat→Option HO} {n:Nat} {a a':Option HO}:upd (upd H n a) n a'=upd H n a':=by
 funext id; unfold upd; split <;> rfl
theorem fam_one (a:HO):upd (fun _=>none) 1 (some a)=famH 1 [a]:=by rw [fam_nil 1]; exact fam_snoc rfl
theorem fam_two (a b:HO):upd (upd (fun _=>none) 1 (some a)) 2 (some b)=famH 1 [a,b]:=by rw [fam_one]; exact fam_snoc rfl
theorem fam_three (a b c:HO):upd (upd (upd (fun _=>none) 1 (some a)) 2 (some b)) 3 (some c)=famH 1 [a,b,c]:=by rw [fam_two]; exact fam_snoc rfl
theorem fam_last {b c m n:Nat} {pre:List HO} {M:List (List Int)} {p:HO} (hn:n=pre.length+b+(M.length+1)):famH b (pre++mB c M m++[p]) n=some p:=by
 subst hn
 rw [show pre.length+b+(M.length+1)=(pre.length+M.length+1)+b by omega,famH_get,List.getElem?_append_right (by rw [List.length_append,mB_len]; omega),List.length_append,mB_len,
  show pre.length+M.length+1 - (pre.length+(M.length+1))=0 by omega]; rfl
end Go.Am
end

section
set_option linter.unusedVariables false
set_option linter.unusedSimpArgs false
open List (map_map mapM_map)
open Go Go.Am Go.Proofs
namespace Go.Am
theorem u64_parts {u:Nat} (hu:u<18446744073709551616):∃ lo hi:Nat,Lim [lo,hi]∧val [lo,hi]=u∧IntKind.u32.wrap (u:Int)=lo∧shiftA .shr .u64 (u:Int) 32=some (.i .u64 hi)∧IntKind.u32.wrap (hi:Int)=hi:=by
 refine ⟨u % 4294967296,u / 4294967296,.cons (by omega) (.one (by omega)),by simp only [val]; omega,by rw [wrap_u32m]; omega,?_,by rw [wrap_u32 (by omega) (by omega)]⟩
 simp only [shiftA,IntKind.bits]
 rw [if_neg (by decide)]
 congr 2
 rw [show (2:Int) ^ (min (32:Int).toNat 64)=4294967296 from by decide,Int.fdiv_eq_ediv_of_nonneg _ (by decide)]
 omega
theorem val_top1 {l:List Nat} {n:Nat} (hn:l.length=n+1):val l=val (l.take n)+4294967296 ^ n * l.getD n 0:=by
 rw [← val_take_succ,List.take_of_length_le (by omega)]
theorem val_top2 {l:List Nat} {n:Nat} (hn:l.length=n+2):val l=val (l.take n)+4294967296 ^ n * (l.getD (n+1) 0 * 4294967296+l.getD n 0):=by
 rw [val_top1 hn,val_take_succ,Nat.pow_succ,Nat.mul_add,Nat.mul_assoc,Nat.mul_comm 4294967296]; omega
theorem val_top_lt {l:List Nat} {n:Nat} (h:Lim l) (hn:l.length=n+1):val l<4294967296 ^ n * (l.getD n 0+1):=by
 have h1:=val_lt (h.take n)
 rw [List.length_take,Nat.min_eq_left (by omega)] at h1
 rw [val_top1 hn,Nat.mul_add,Nat.mul_one]; omega
theorem est_le {p q e low t D R:Nat} (hD:D≤q * low) (he:e * low≤t) (hR:p * q * t≤R):p * e * D≤R:=by
 refine Nat.le_trans (Nat.mul_le_mul_left _ hD) (Nat.le_trans ?_ hR)
 have:p * e * (q * low)=p * q * (e * low):=by
  rw [Nat.mul_assoc,Nat.mul_assoc,Nat.mul_left_comm e]
 rw [this]; exact Nat.mul_le_mul_left _ he
theorem len_of_le {a b:List Nat} (hb:Lim b) (hc:Canon a) (hla:Lim a) (h:val a≤val b):a.length≤b.length:=by
 have e1:=digs_val hla hc
 rw [← e1]
 exact digs_len_le (Nat.lt_of_le_of_lt h (val_lt hb))
set_option maxRecDepth 10000 in
theorem r01estimate (r d:List Nat) (hr:Lim r) (hd:Lim d) (hcr:Canon r) (hcd:Canon d) (hd0:d≠[]) (hle:val d≤val r) (hl:r.length≤137438953472) :
  ∃ e:Nat,0<e∧e * val d≤val r∧Spec Tryz.prog 196 [encM r,encM d] (encZ e):=by
 have hlen:=len_of_le hr hcd hd hle
 have hdl:0<d.length:=List.length_pos_iff.2 hd0
 obtain ⟨m,hm⟩:∃ m,d.length=m+1:=⟨d.length - 1,by omega⟩
 obtain ⟨k,hk⟩:∃ k,r.length=k+(m+1):=⟨r.length - d.length,by omega⟩
 have gd:=getD_some (l:=d) (i:=m) (by omega)
 have gr:=getD_some (l:=r) (i:=k+m) (by omega)
 have hdm:=hd.getD m
 have hrm:=hr.getD (k+m)
 have hdv:=Nat.le_of_lt (val_top_lt hd hm)
 have hrtop:0<r.getD (k+m) 0:=by
  have h1:r.getLast? = some (r.getD (k+m) 0):=by rw [List.getLast?_eq_getElem?,show r.length - 1=k+m by omega]; exact gr
  have h2:r.getLast? ≠ some 0:=hcr
  rw [h1] at h2
  rcases Nat.eq_zero_or_pos (r.getD (k+m) 0) with h | h
  ·rw [h] at h2; exact absurd rfl h2
  ·exact h
 generalize hdt:d.getD m 0=dt at *
 obtain ⟨low,hlow⟩:∃ low,dt+1=low:=⟨_,rfl⟩
 rw [hlow] at hdv
 have c1:IntKind.i64.wrap ((r.length:Int) - d.length)=(k:Int):=by rw [wrap_i64 (by omega) (by omega)]; omega
 have c2:IntKind.i64.wrap ((d.length:Int) - 1)=(m:Int):=by rw [wrap_i64 (by omega) (by omega)]; omega
 have c3:IntKind.u64.wrap (dt:Int)=dt:=wrap_u64 (by omega) (by omega)
 have c4:IntKind.u64.wrap ((dt:Int)+1)=low:=by rw [wrap_u64 (by omega) (by omega)]; omega
 have c5:IntKind.i64.wrap ((r.length:Int) - 1)=((k+m:Nat):Int):=by rw [wrap_i64 (by omega) (by omega)]; omega
 have c6:¬ low=0:=by omega
 by_cases hk0:k=0
 ·subst hk0
  rw [Nat.zero_add] at gr hrm hrtop hk
  rw [show ((0+m:Nat):Int)=(m:Int) by omega] at c5
  have hv1:4294967296 ^ m * r.getD m 0≤val r:=by rw [val_top1 hk]; omega
  generalize r.getD m 0=rt at *
  obtain ⟨e0,he0⟩:∃ e0,rt / low=e0:=⟨_,rfl⟩
  have he0':e0 * low≤rt:=by rw [← he0]; exact Nat.div_mul_le_self _ _
  have he0l:e0≤rt:=by rw [← he0]; exact Nat.div_le_self _ _
  have c7:IntKind.u64.wrap (rt:Int)=rt:=wrap_u64 (by omega) (by omega)
  have c8:IntKind.u64.wrap ((rt:Int) / low)=e0:=by rw [← Int.natCast_ediv,he0,wrap_u64 (by omega) (by omega)]
  obtain ⟨e,he⟩:∃ e:Nat,max 1 e0=e:=⟨_,rfl⟩
  have c9:IntKind.i64.wrap (e:Int)=e:=wrap_i64 (by omega) (by omega)
  refine ⟨e,by omega,?_,?_⟩
  ·by_cases h1:e0≤1
   ·have:e=1:=by omega
    rw [this,Nat.one_mul]; exact hle
   ·have:e=e0:=by omega
    rw [this]
    have:=est_le (p:=1) hdv he0' (by rw [Nat.one_mul]; exact hv1)
    rwa [Nat.one_mul] at this
  ·refine spec_of (N:=66) follows_mixed Tryz.func196 rfl rfl rfl (by kernel_rfl) (by kernel_rfl) (by simp) ?_
   simp (maxSteps:=1000000) [-map_map,-mapM_map,↓KW,encM,c1,c2,c3,c4,c5,c6,c7,c8,gd,gr,hdt,c9]
   refine callP_intro (ds:=[.i .i64 e]) ?_ (r01Of e (by omega) (by omega)) ?_
   ·have he2:(if (1:Int)<(e0:Int) then (e0:Int) else 1)=e:=by split <;> omega
    simp (maxSteps:=1000000) [-map_map,-mapM_map,↓KW,he2,c9]
   ·simp (maxSteps:=1000000) [-map_map,-mapM_map,↓KW,encM,encZ,encI]
 ·obtain ⟨j,hj⟩:∃ j,k=j+1:=⟨k - 1,by omega⟩
  have hk2:r.length=(j+m)+2:=by omega
  have gs:=getD_some (l:=r) (i:=j+m) (by omega)
  have hrs:=hr.getD (j+m)
  have hv2:=val_top2 hk2
  rw [show j+m+1=k+m by omega] at hv2
  have c10:IntKind.i64.wrap ((r.length:Int) - 2)=((j+m:Nat):Int):=by rw [wrap_i64 (by omega) (by omega)]; omega
  have c11:IntKind.i64.wrap ((k:Int) - 1)=(j:Int):=by rw [wrap_i64 (by omega) (by omega)]; omega
  obtain ⟨n1,hn1⟩:∃ n1,k+m=n1:=⟨_,rfl⟩
  obtain ⟨n2,hn2⟩:∃ n2,j+m=n2:=⟨_,rfl⟩
  rw [hn1] at gr hrm hrtop c5 hv2
  rw [hn2] at gs hrs c10 hv2
  generalize r.getD n1 0=rt at *
  generalize r.getD n2 0=rs at *
  have c12:IntKind.u64.wrap (rt:Int)=rt:=wrap_u64 (by omega) (by omega)
  have c13:IntKind.u64.wrap (rs:Int)=rs:=wrap_u64 (by omega) (by omega)
  have c14:IntKind.u64.wrap ((rt:Int) * 4294967296)=(rt:Int) * 4294967296:=wrap_u64 (by omega) (by omega)
  obtain ⟨t,ht⟩:∃ t,rt * 4294967296+rs=t:=⟨_,rfl⟩
  rw [ht] at hv2
  have c15:IntKind.u64.wrap ((rt:Int) * 4294967296+rs)=t:=by rw [wrap_u64 (by omega) (by omega)]; omega
  obtain ⟨e,he⟩:∃ e,t / low=e:=⟨_,rfl⟩
  have he1:e * low≤t:=by rw [← he]; exact Nat.div_mul_le_self _ _
  have hel:e≤t:=by rw [← he]; exact Nat.div_le_self _ _
  have he0:0<e:=by rw [← he]; exact Nat.div_pos (by omega) (by omega)
  have c16:IntKind.u64.wrap ((t:Int) / low)=e:=by rw [← Int.natCast_ediv,he,wrap_u64 (by omega) (by omega)]
  obtain ⟨lo,hi,k1,k2,e3,e4,e5⟩:=u64_parts (u:=e) (by omega)
  have hpow:4294967296 ^ j * 4294967296 ^ m=4294967296 ^ n2:=by rw [← Nat.pow_add,hn2]
  refine ⟨4294967296 ^ j * e,Nat.mul_pos (Nat.pow_pos (by decide)) he0,est_le hdv he1 (by rw [hpow]; omega),?_⟩
  have hlim:Lim (List.replicate j 0++[lo,hi]):=(Lim.rep j).app k1
  have hval:val (List.replicate j 0++[lo,hi])=4294967296 ^ j * e:=by rw [val_app,val_rep,List.length_replicate,k2,Nat.zero_add]
  have hlen2:(List.replicate j 0++[lo,hi]).length=j+2:=by simp
  have hm2:=r01Made (List.replicate j 0++[lo,hi]) false (by rw [hlen2]; omega)
  rw [made_encZ hlim,hval,show sg false (4294967296 ^ j * e)=((4294967296 ^ j * e:Nat):Int) from rfl] at hm2
  have m1:(4:Int) * j≤281474976710656:=by omega
  have m2:(j:Int)≤9223372036854775807:=by omega
  have m3:(j+2) * 4≤140737488355328:=by omega
  have m4:j+2≤maxLen:=by unfold maxLen; omega
  have hrep:(List.map AV.d (lms (List.replicate j 0))).length=j:=by simp [lms_len]
  refine spec_of (N:=66) follows_mixed Tryz.func196 rfl rfl rfl (by kernel_rfl) (by kernel_rfl) (by simp) ?_
  generalize 4294967296 ^ j * e=res at *
  have hcells:List.map AV.d (lms (List.replicate j 0))++[AV.d (D.i .u32 (lo:Int)),AV.d (D.i .u32 (hi:Int))]=List.map AV.d (lms (List.replicate j 0++[lo,hi])):=by rw [lms_app,List.map_append]; rfl
  have hkk:((k:Int) == 0)=false:=by simp only [beq_eq_false_iff_ne,ne_eq]; omega
  simp (maxSteps:=1000000) [-map_map,-mapM_map,↓KW,encM,c1,c2,c3,c4,c5,c6,c10,c11,c12,c13,c14,c15,c16,gd,gr,gs,hdt,e3,e4,e5,hkk,m1,m2,m3,m4,hrep]
  rw [hcells]
  generalize List.replicate j 0++[lo,hi]=L at *
  refine callP_intro (ds:=[encM L,.b false]) ?_ hm2 ?_
  ·simp (maxSteps:=1000000) [-map_map,-mapM_map,↓KW,encM,hlen2,chunk_lms hlen2,lms_take_all hlen2]
  ·simp (maxSteps:=1000000) [-map_map,-mapM_map,↓KW,encM,encZ,encI,hlen2,chunk_lms hlen2,lms_take_all hlen2]
end Go.Am
end

section
set_option linter.unusedVariables false
set_option linter.unusedSimpArgs false
open List (map_map mapM_map)
open Go Go.Am Go.Proofs
namespace Go.Am
theorem r01NegB (x:Int) (hx:(digs x.natAbs).length≤549755813888):Spec Tryz.prog 99 [encZ x] (encZ (-x)):=by
 refine spec_of (N:=9) follows_mixed Tryz.func99 rfl rfl rfl (by kernel_rfl) (by kernel_rfl) (by simp) ?_
 have la:=lim_digs x.natAbs
 have va:=val_digs x.natAbs
 have sx:=sg_natAbs x
 have ex:encZ x=.ag [.b (decide (x<0)),encM (digs x.natAbs)]:=rfl
 have hm:=r01Made (digs x.natAbs) (!decide (x<0)) (by omega)
 rw [made_encZ la,va] at hm
 have e:sg (!decide (x<0)) x.natAbs=-x:=by
  unfold sg; by_cases h:x<0 <;> simp [h] <;> omega
 rw [e] at hm
 rw [ex]
 generalize digs x.natAbs=a at *
 generalize decide (x<0)=nx at *
 simp (maxSteps:=1000000) [-map_map,-mapM_map,↓KW,encM]
 refine callP_intro (ds:=[encM a,.b (!nx)]) ?_ hm ?_
 ·cases nx <;> rfl
 ·simp (maxSteps:=1000000) [-map_map,-mapM_map,↓KW,encM,encZ,encI]
theorem r01SubB (x y:Int) (hx:(digs x.natAbs).length≤549755813888) (hy:(digs y.natAbs).length≤549755813888):Spec Tryz.prog 145 [encZ x,encZ y] (encZ (x - y)):=by
 refine spec_of (N:=9) follows_mixed Tryz.func145 rfl rfl rfl (by kernel_rfl) (by kernel_rfl) (by simp) ?_
 have h1:=r01NegB y hy
 have h2:=r01AddZ x (-y) hx (by rw [Int.natAbs_neg]; exact hy)
 rw [← Int.sub_eq_add_neg] at h2
 simp (maxSteps:=1000000) [-map_map,-mapM_map,↓KW,encZ,encI,encM]
 refine callP_intro (ds:=[encZ y]) (by rfl) h1 ?_
 simp (maxSteps:=1000000) [-map_map,-mapM_map,↓KW,encZ,encI,encM]
 refine callP_intro (ds:=[encZ x,encZ (-y)]) ?_ h2 ?_
 ·simp (maxSteps:=1000000) [-map_map,-mapM_map,↓KW,encZ,encI,encM]
 ·simp (maxSteps:=1000000) [-map_map,-mapM_map,↓KW,encZ,encI,encM]
end Go.Am
end
