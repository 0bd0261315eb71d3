/- The reference's integers: the division of absolute values. No condition. -/
import Derived.Test.YthjopmmgepejkaaGreatH3
import Derived.Test.YthjopmmgepejkaaGreatRows
import Derived.Shelf.SlIterI.Nil
import Derived.Shelf.SortM.Plain
import Derived.Shelf.SortM.SortNone
import Derived.Ground.GgzProg
import Derived.Ground.SlgmProg
import Derived.Test.YthjopmmgepejkaaGreatProg
import Derived.Recover
import Derived.ProofKit
import Derived.OpenShut
section
set_option linter.unusedVariables false
set_option linter.unusedSimpArgs false
open Go Go.Proofs
namespace Go.Am
@[simp] theorem bWj:tsz Tryz.prog 2=some 1∧tby Tryz.prog 2=some 8∧tz Tryz.prog 2=some (.int .i64 0)∧cW Tryz.prog 2=some false∧tel Tryz.prog 2=none∧bU Tryz.prog 2=false∧(Program.underlying Tryz.prog 2).isSome=true∧gJ Tryz.prog 2=some .i64:=by and_intros <;> kernel_rfl
@[simp] theorem bWi:tsz Tryz.prog 3=some 1∧tby Tryz.prog 3=some 8∧tz Tryz.prog 3=some (.int .i64 0)∧cW Tryz.prog 3=some false∧tel Tryz.prog 3=none∧bU Tryz.prog 3=false∧(Program.underlying Tryz.prog 3).isSome=true∧gJ Tryz.prog 3=some .i64:=by and_intros <;> kernel_rfl
@[simp] theorem bWh:tsz Tryz.prog 4=some 1∧tby Tryz.prog 4=some 1∧tz Tryz.prog 4=some (.bool false)∧cW Tryz.prog 4=some false∧tel Tryz.prog 4=none∧bU Tryz.prog 4=true∧(Program.underlying Tryz.prog 4).isSome=true:=by and_intros <;> kernel_rfl
@[simp] theorem bWg:tsz Tryz.prog 5=some 1∧tby Tryz.prog 5=some 1∧tz Tryz.prog 5=some (.int .u8 0)∧cW Tryz.prog 5=some false∧tel Tryz.prog 5=none∧bU Tryz.prog 5=false∧(Program.underlying Tryz.prog 5).isSome=true∧gJ Tryz.prog 5=some .u8:=by and_intros <;> kernel_rfl
@[simp] theorem bWf:tsz Tryz.prog 6=some 1∧tby Tryz.prog 6=some 1∧tz Tryz.prog 6=some (.int .u8 0)∧cW Tryz.prog 6=some false∧tel Tryz.prog 6=none∧bU Tryz.prog 6=false∧(Program.underlying Tryz.prog 6).isSome=true∧gJ Tryz.prog 6=some .u8:=by and_intros <;> kernel_rfl
@[simp] theorem bWe:tsz Tryz.prog 7=some 4∧tby Tryz.prog 7=some 24∧tz Tryz.prog 7=some (.agg #[.int .i64 0,.int .i64 0,.bool false,.int .u8 0])∧cW Tryz.prog 7=some true∧tel Tryz.prog 7=none∧bU Tryz.prog 7=false∧(Program.underlying Tryz.prog 7).isSome=true∧gW Tryz.prog 7=some [(0,1),(1,1),(2,1),(3,1)]:=by and_intros <;> kernel_rfl
@[simp] theorem bWd:tsz Tryz.prog 8=some 4∧tby Tryz.prog 8=some 24∧tz Tryz.prog 8=some (.agg #[.int .i64 0,.int .i64 0,.bool false,.int .u8 0])∧cW Tryz.prog 8=some true∧tel Tryz.prog 8=none∧bU Tryz.prog 8=false∧(Program.underlying Tryz.prog 8).isSome=true∧gW Tryz.prog 8=some [(0,1),(1,1),(2,1),(3,1)]:=by and_intros <;> kernel_rfl
@[simp] theorem bVt:tsz Tryz.prog 12=some 1∧tby Tryz.prog 12=some 8∧tz Tryz.prog 12=some (.int .u64 0)∧cW Tryz.prog 12=some false∧tel Tryz.prog 12=none∧bU Tryz.prog 12=false∧(Program.underlying Tryz.prog 12).isSome=true∧gJ Tryz.prog 12=some .u64:=by and_intros <;> kernel_rfl
@[simp] theorem bVs:tsz Tryz.prog 21=some 1∧tby Tryz.prog 21=some 4∧tz Tryz.prog 21=some (.int .i32 0)∧cW Tryz.prog 21=some false∧tel Tryz.prog 21=none∧bU Tryz.prog 21=false∧(Program.underlying Tryz.prog 21).isSome=true∧gJ Tryz.prog 21=some .i32:=by and_intros <;> kernel_rfl
@[simp] theorem bVr:tsz Tryz.prog 22=some 1∧tby Tryz.prog 22=some 24∧tz Tryz.prog 22=some (.slice none 0 0)∧cW Tryz.prog 22=some false∧tel Tryz.prog 22=some 80∧bU Tryz.prog 22=false∧(Program.underlying Tryz.prog 22).isSome=true:=by and_intros <;> kernel_rfl
@[simp] theorem bVq:tsz Tryz.prog 23=some 2∧tby Tryz.prog 23=some 32∧tz Tryz.prog 23=some (.agg #[.int .u8 0,.slice none 0 0])∧cW Tryz.prog 23=some true∧tel Tryz.prog 23=none∧bU Tryz.prog 23=false∧(Program.underlying Tryz.prog 23).isSome=true∧gW Tryz.prog 23=some [(0,1),(1,1)]:=by and_intros <;> kernel_rfl
@[simp] theorem bVp:tsz Tryz.prog 24=some 2∧tby Tryz.prog 24=some 32∧tz Tryz.prog 24=some (.agg #[.int .u8 0,.slice none 0 0])∧cW Tryz.prog 24=some true∧tel Tryz.prog 24=none∧bU Tryz.prog 24=false∧(Program.underlying Tryz.prog 24).isSome=true∧gW Tryz.prog 24=some [(0,1),(1,1)]:=by and_intros <;> kernel_rfl
@[simp] theorem bVo:tsz Tryz.prog 26=some 1∧tby Tryz.prog 26=some 24∧tz Tryz.prog 26=some (.slice none 0 0)∧cW Tryz.prog 26=some false∧tel Tryz.prog 26=some 47∧bU Tryz.prog 26=false∧(Program.underlying Tryz.prog 26).isSome=true:=by and_intros <;> kernel_rfl
@[simp] theorem bVn:tsz Tryz.prog 27=some 1∧tby Tryz.prog 27=some 24∧tz Tryz.prog 27=some (.slice none 0 0)∧cW Tryz.prog 27=some false∧tel Tryz.prog 27=some 47∧bU Tryz.prog 27=false∧(Program.underlying Tryz.prog 27).isSome=true:=by and_intros <;> kernel_rfl
@[simp] theorem bVm:tsz Tryz.prog 29=some 1∧tby Tryz.prog 29=some 24∧tz Tryz.prog 29=some (.slice none 0 0)∧cW Tryz.prog 29=some false∧tel Tryz.prog 29=some 3∧bU Tryz.prog 29=false∧(Program.underlying Tryz.prog 29).isSome=true:=by and_intros <;> kernel_rfl
@[simp] theorem bVl:tsz Tryz.prog 31=some 1∧tby Tryz.prog 31=some 24∧tz Tryz.prog 31=some (.slice none 0 0)∧cW Tryz.prog 31=some false∧tel Tryz.prog 31=some 97∧bU Tryz.prog 31=false∧(Program.underlying Tryz.prog 31).isSome=true:=by and_intros <;> kernel_rfl
@[simp] theorem bVk:tsz Tryz.prog 32=some 1∧tby Tryz.prog 32=some 24∧tz Tryz.prog 32=some (.slice none 0 0)∧cW Tryz.prog 32=some false∧tel Tryz.prog 32=some 97∧bU Tryz.prog 32=false∧(Program.underlying Tryz.prog 32).isSome=true:=by and_intros <;> kernel_rfl
@[simp] theorem bVj:tsz Tryz.prog 33=some 1∧tby Tryz.prog 33=some 8∧tz Tryz.prog 33=some (.int .i64 0)∧cW Tryz.prog 33=some false∧tel Tryz.prog 33=none∧bU Tryz.prog 33=false∧(Program.underlying Tryz.prog 33).isSome=true∧gJ Tryz.prog 33=some .i64:=by and_intros <;> kernel_rfl
@[simp] theorem bVi:tsz Tryz.prog 34=some 3∧tby Tryz.prog 34=some 56∧tz Tryz.prog 34=some (.agg #[.slice none 0 0,.slice none 0 0,.int .i64 0])∧cW Tryz.prog 34=some true∧tel Tryz.prog 34=none∧bU Tryz.prog 34=false∧(Program.underlying Tryz.prog 34).isSome=true∧gW Tryz.prog 34=some [(0,1),(1,1),(2,1)]:=by and_intros <;> kernel_rfl
@[simp] theorem bVh:tsz Tryz.prog 35=some 3∧tby Tryz.prog 35=some 56∧tz Tryz.prog 35=some (.agg #[.slice none 0 0,.slice none 0 0,.int .i64 0])∧cW Tryz.prog 35=some true∧tel Tryz.prog 35=none∧bU Tryz.prog 35=false∧(Program.underlying Tryz.prog 35).isSome=true∧gW Tryz.prog 35=some [(0,1),(1,1),(2,1)]:=by and_intros <;> kernel_rfl
@[simp] theorem bVg:tsz Tryz.prog 44=some 1∧tby Tryz.prog 44=some 24∧tz Tryz.prog 44=some (.slice none 0 0)∧cW Tryz.prog 44=some false∧tel Tryz.prog 44=some 89∧bU Tryz.prog 44=false∧(Program.underlying Tryz.prog 44).isSome=true:=by and_intros <;> kernel_rfl
@[simp] theorem bVf:tsz Tryz.prog 45=some 1∧tby Tryz.prog 45=some 24∧tz Tryz.prog 45=some (.slice none 0 0)∧cW Tryz.prog 45=some false∧tel Tryz.prog 45=some 89∧bU Tryz.prog 45=false∧(Program.underlying Tryz.prog 45).isSome=true:=by and_intros <;> kernel_rfl
@[simp] theorem bVe:tsz Tryz.prog 46=some 3∧tby Tryz.prog 46=some 40∧tz Tryz.prog 46=some (.agg #[.int .i64 0,.int .i64 0,.slice none 0 0])∧cW Tryz.prog 46=some true∧tel Tryz.prog 46=none∧bU Tryz.prog 46=false∧(Program.underlying Tryz.prog 46).isSome=true∧gW Tryz.prog 46=some [(0,1),(1,1),(2,1)]:=by and_intros <;> kernel_rfl
@[simp] theorem bVd:tsz Tryz.prog 47=some 3∧tby Tryz.prog 47=some 40∧tz Tryz.prog 47=some (.agg #[.int .i64 0,.int .i64 0,.slice none 0 0])∧cW Tryz.prog 47=some true∧tel Tryz.prog 47=none∧bU Tryz.prog 47=false∧(Program.underlying Tryz.prog 47).isSome=true∧gW Tryz.prog 47=some [(0,1),(1,1),(2,1)]:=by and_intros <;> kernel_rfl
@[simp] theorem bVc:tsz Tryz.prog 55=some 1∧tby Tryz.prog 55=some 24∧tz Tryz.prog 55=some (.slice none 0 0)∧cW Tryz.prog 55=some false∧tel Tryz.prog 55=some 59∧bU Tryz.prog 55=false∧(Program.underlying Tryz.prog 55).isSome=true:=by and_intros <;> kernel_rfl
@[simp] theorem bVb:tsz Tryz.prog 57=some 1∧tby Tryz.prog 57=some 1∧tz Tryz.prog 57=some (.int .i8 0)∧cW Tryz.prog 57=some false∧tel Tryz.prog 57=none∧bU Tryz.prog 57=false∧(Program.underlying Tryz.prog 57).isSome=true∧gJ Tryz.prog 57=some .i8:=by and_intros <;> kernel_rfl
@[simp] theorem bVa:tsz Tryz.prog 58=some 2∧tby Tryz.prog 58=some 2∧tz Tryz.prog 58=some (.agg #[.int .i8 0,.int .i8 0])∧cW Tryz.prog 58=some true∧tel Tryz.prog 58=none∧bU Tryz.prog 58=false∧(Program.underlying Tryz.prog 58).isSome=true∧gW Tryz.prog 58=none∧vI Tryz.prog 58=some (2,57):=by and_intros <;> kernel_rfl
@[simp] theorem bUz:tsz Tryz.prog 59=some 2∧tby Tryz.prog 59=some 16∧tz Tryz.prog 59=some (.agg #[.int .i64 0,.int .i64 0])∧cW Tryz.prog 59=some true∧tel Tryz.prog 59=none∧bU Tryz.prog 59=false∧(Program.underlying Tryz.prog 59).isSome=true∧gW Tryz.prog 59=none∧vI Tryz.prog 59=some (2,3):=by and_intros <;> kernel_rfl
@[simp] theorem bUy:tsz Tryz.prog 63=some 1∧tby Tryz.prog 63=some 24∧tz Tryz.prog 63=some (.slice none 0 0)∧cW Tryz.prog 63=some false∧tel Tryz.prog 63=some 57∧bU Tryz.prog 63=false∧(Program.underlying Tryz.prog 63).isSome=true:=by and_intros <;> kernel_rfl
@[simp] theorem bUx:tsz Tryz.prog 67=some 1∧tby Tryz.prog 67=some 24∧tz Tryz.prog 67=some (.slice none 0 0)∧cW Tryz.prog 67=some false∧tel Tryz.prog 67=some 121∧bU Tryz.prog 67=false∧(Program.underlying Tryz.prog 67).isSome=true:=by and_intros <;> kernel_rfl
@[simp] theorem bUw:tsz Tryz.prog 68=some 2∧tby Tryz.prog 68=some 32∧tz Tryz.prog 68=some (.agg #[.bool false,.slice none 0 0])∧cW Tryz.prog 68=some true∧tel Tryz.prog 68=none∧bU Tryz.prog 68=false∧(Program.underlying Tryz.prog 68).isSome=true∧gW Tryz.prog 68=some [(0,1),(1,1)]:=by and_intros <;> kernel_rfl
@[simp] theorem bUv:tsz Tryz.prog 69=some 2∧tby Tryz.prog 69=some 32∧tz Tryz.prog 69=some (.agg #[.bool false,.slice none 0 0])∧cW Tryz.prog 69=some true∧tel Tryz.prog 69=none∧bU Tryz.prog 69=false∧(Program.underlying Tryz.prog 69).isSome=true∧gW Tryz.prog 69=some [(0,1),(1,1)]:=by and_intros <;> kernel_rfl
@[simp] theorem bUu:tsz Tryz.prog 72=some 1∧tby Tryz.prog 72=some 24∧tz Tryz.prog 72=some (.slice none 0 0)∧cW Tryz.prog 72=some false∧tel Tryz.prog 72=some 125∧bU Tryz.prog 72=false∧(Program.underlying Tryz.prog 72).isSome=true:=by and_intros <;> kernel_rfl
@[simp] theorem bUt:tsz Tryz.prog 80=some 4∧tby Tryz.prog 80=some 4∧tz Tryz.prog 80=some (.agg #[.int .i8 0,.int .i8 0,.int .i8 0,.int .i8 0])∧cW Tryz.prog 80=some true∧tel Tryz.prog 80=none∧bU Tryz.prog 80=false∧(Program.underlying Tryz.prog 80).isSome=true∧gW Tryz.prog 80=none∧vI Tryz.prog 80=some (4,57):=by and_intros <;> kernel_rfl
@[simp] theorem bUs:tsz Tryz.prog 88=some 3∧tby Tryz.prog 88=some 40∧tz Tryz.prog 88=some (.agg #[.int .i64 0,.bool false,.slice none 0 0])∧cW Tryz.prog 88=some true∧tel Tryz.prog 88=none∧bU Tryz.prog 88=false∧(Program.underlying Tryz.prog 88).isSome=true∧gW Tryz.prog 88=some [(0,1),(1,2)]:=by and_intros <;> kernel_rfl
@[simp] theorem bUr:tsz Tryz.prog 89=some 3∧tby Tryz.prog 89=some 40∧tz Tryz.prog 89=some (.agg #[.int .i64 0,.bool false,.slice none 0 0])∧cW Tryz.prog 89=some true∧tel Tryz.prog 89=none∧bU Tryz.prog 89=false∧(Program.underlying Tryz.prog 89).isSome=true∧gW Tryz.prog 89=some [(0,1),(1,2)]:=by and_intros <;> kernel_rfl
@[simp] theorem bUq:tsz Tryz.prog 92=some 1∧tby Tryz.prog 92=some 8∧cW Tryz.prog 92=some false∧tel Tryz.prog 92=none∧bU Tryz.prog 92=false∧(Program.underlying Tryz.prog 92).isSome=true∧tmp Tryz.prog 92=some (3,45):=by and_intros <;> kernel_rfl
@[simp] theorem bUp:tsz Tryz.prog 96=some 2∧tby Tryz.prog 96=some 32∧tz Tryz.prog 96=some (.agg #[.int .i64 0,.slice none 0 0])∧cW Tryz.prog 96=some true∧tel Tryz.prog 96=none∧bU Tryz.prog 96=false∧(Program.underlying Tryz.prog 96).isSome=true∧gW Tryz.prog 96=some [(0,1),(1,1)]:=by and_intros <;> kernel_rfl
@[simp] theorem bUo:tsz Tryz.prog 97=some 2∧tby Tryz.prog 97=some 32∧tz Tryz.prog 97=some (.agg #[.int .i64 0,.slice none 0 0])∧cW Tryz.prog 97=some true∧tel Tryz.prog 97=none∧bU Tryz.prog 97=false∧(Program.underlying Tryz.prog 97).isSome=true∧gW Tryz.prog 97=some [(0,1),(1,1)]:=by and_intros <;> kernel_rfl
@[simp] theorem bUn:tsz Tryz.prog 99=some 1∧tby Tryz.prog 99=some 24∧tz Tryz.prog 99=some (.slice none 0 0)∧cW Tryz.prog 99=some false∧tel Tryz.prog 99=some 2∧bU Tryz.prog 99=false∧(Program.underlying Tryz.prog 99).isSome=true:=by and_intros <;> kernel_rfl
@[simp] theorem bUa:tsz Tryz.prog 101=some 1∧tby Tryz.prog 101=some 8∧cW Tryz.prog 101=some false∧tel Tryz.prog 101=none∧bU Tryz.prog 101=false∧(Program.underlying Tryz.prog 101).isSome=true∧tmp Tryz.prog 101=some (3,3):=by and_intros <;> kernel_rfl
@[simp] theorem bTz:tsz Tryz.prog 102=some 1∧tby Tryz.prog 102=some 8∧cW Tryz.prog 102=some false∧tel Tryz.prog 102=none∧bU Tryz.prog 102=false∧(Program.underlying Tryz.prog 102).isSome=true∧tmp Tryz.prog 102=some (3,4):=by and_intros <;> kernel_rfl
@[simp] theorem bTy:tsz Tryz.prog 112=some 1∧tby Tryz.prog 112=some 24∧tz Tryz.prog 112=some (.slice none 0 0)∧cW Tryz.prog 112=some false∧tel Tryz.prog 112=some 69∧bU Tryz.prog 112=false∧(Program.underlying Tryz.prog 112).isSome=true:=by and_intros <;> kernel_rfl
@[simp] theorem bTx:tsz Tryz.prog 113=some 1∧tby Tryz.prog 113=some 24∧tz Tryz.prog 113=some (.slice none 0 0)∧cW Tryz.prog 113=some false∧tel Tryz.prog 113=some 69∧bU Tryz.prog 113=false∧(Program.underlying Tryz.prog 113).isSome=true:=by and_intros <;> kernel_rfl
@[simp] theorem bTw:tsz Tryz.prog 119=some 1∧tby Tryz.prog 119=some 8∧tz Tryz.prog 119=some (.int .u64 0)∧cW Tryz.prog 119=some false∧tel Tryz.prog 119=none∧bU Tryz.prog 119=false∧(Program.underlying Tryz.prog 119).isSome=true∧gJ Tryz.prog 119=some .u64:=by and_intros <;> kernel_rfl
@[simp] theorem bTv:tsz Tryz.prog 121=some 1∧tby Tryz.prog 121=some 4∧tz Tryz.prog 121=some (.int .u32 0)∧cW Tryz.prog 121=some false∧tel Tryz.prog 121=none∧bU Tryz.prog 121=false∧(Program.underlying Tryz.prog 121).isSome=true∧gJ Tryz.prog 121=some .u32:=by and_intros <;> kernel_rfl
@[simp] theorem bTu:tsz Tryz.prog 122=some 1∧tby Tryz.prog 122=some 8∧tz Tryz.prog 122=some (.int .u64 0)∧cW Tryz.prog 122=some false∧tel Tryz.prog 122=none∧bU Tryz.prog 122=false∧(Program.underlying Tryz.prog 122).isSome=true∧gJ Tryz.prog 122=some .u64:=by and_intros <;> kernel_rfl
@[simp] theorem bTt:tsz Tryz.prog 124=some 2∧tby Tryz.prog 124=some 32∧tz Tryz.prog 124=some (.agg #[.int .i64 0,.slice none 0 0])∧cW Tryz.prog 124=some true∧tel Tryz.prog 124=none∧bU Tryz.prog 124=false∧(Program.underlying Tryz.prog 124).isSome=true∧gW Tryz.prog 124=some [(0,1),(1,1)]:=by and_intros <;> kernel_rfl
@[simp] theorem bTs:tsz Tryz.prog 125=some 2∧tby Tryz.prog 125=some 32∧tz Tryz.prog 125=some (.agg #[.int .i64 0,.slice none 0 0])∧cW Tryz.prog 125=some true∧tel Tryz.prog 125=none∧bU Tryz.prog 125=false∧(Program.underlying Tryz.prog 125).isSome=true∧gW Tryz.prog 125=some [(0,1),(1,1)]:=by and_intros <;> kernel_rfl
@[simp] theorem bTr:tsz Tryz.prog 130=some 1∧tby Tryz.prog 130=some 24∧tz Tryz.prog 130=some (.slice none 0 0)∧cW Tryz.prog 130=some false∧tel Tryz.prog 130=some 45∧bU Tryz.prog 130=false∧(Program.underlying Tryz.prog 130).isSome=true:=by and_intros <;> kernel_rfl
@[simp] theorem bTq:tsz Tryz.prog 137=some 1∧tby Tryz.prog 137=some 8∧cW Tryz.prog 137=some false∧tel Tryz.prog 137=none∧bU Tryz.prog 137=false∧(Program.underlying Tryz.prog 137).isSome=true∧tmp Tryz.prog 137=some (3,69):=by and_intros <;> kernel_rfl
@[simp] theorem bTp:tsz Tryz.prog 138=some 1∧tby Tryz.prog 138=some 8∧cW Tryz.prog 138=some false∧tel Tryz.prog 138=none∧bU Tryz.prog 138=false∧(Program.underlying Tryz.prog 138).isSome=true∧tmp Tryz.prog 138=some (3,69):=by and_intros <;> kernel_rfl
@[simp] theorem bTo:tsz Tryz.prog 153=some 1∧tby Tryz.prog 153=some 24∧tz Tryz.prog 153=some (.slice none 0 0)∧cW Tryz.prog 153=some false∧tel Tryz.prog 153=some 112∧bU Tryz.prog 153=false∧(Program.underlying Tryz.prog 153).isSome=true:=by and_intros <;> kernel_rfl
@[simp] theorem bTn:tsz Tryz.prog 154=some 3∧tby Tryz.prog 154=some 40∧tz Tryz.prog 154=some (.agg #[.int .i64 0,.int .i64 0,.slice none 0 0])∧cW Tryz.prog 154=some true∧tel Tryz.prog 154=none∧bU Tryz.prog 154=false∧(Program.underlying Tryz.prog 154).isSome=true∧gW Tryz.prog 154=some [(0,1),(1,1),(2,1)]:=by and_intros <;> kernel_rfl
@[simp] theorem bTm:tsz Tryz.prog 155=some 3∧tby Tryz.prog 155=some 40∧tz Tryz.prog 155=some (.agg #[.int .i64 0,.int .i64 0,.slice none 0 0])∧cW Tryz.prog 155=some true∧tel Tryz.prog 155=none∧bU Tryz.prog 155=false∧(Program.underlying Tryz.prog 155).isSome=true∧gW Tryz.prog 155=some [(0,1),(1,1),(2,1)]:=by and_intros <;> kernel_rfl
@[simp] theorem bTl:tsz Tryz.prog 174=some 1∧tby Tryz.prog 174=some 8∧tz Tryz.prog 174=some (.int .i64 0)∧cW Tryz.prog 174=some false∧tel Tryz.prog 174=none∧bU Tryz.prog 174=false∧(Program.underlying Tryz.prog 174).isSome=true∧gJ Tryz.prog 174=some .i64:=by and_intros <;> kernel_rfl
@[simp] theorem bTk:tsz Tryz.prog 185=some 15∧tby Tryz.prog 185=some 200∧tz Tryz.prog 185=some (.agg #[.int .i64 0,.int .i64 0,.slice none 0 0,.int .i64 0,.int .i64 0,.slice none 0 0,.int .i64 0,.int .i64 0,.slice none 0 0,.int .i64 0,.int .i64 0,.slice none 0 0,.int .i64 0,.int .i64 0,.slice none 0 0])∧cW Tryz.prog 185=some true∧tel Tryz.prog 185=none∧bU Tryz.prog 185=false∧(Program.underlying Tryz.prog 185).isSome=true∧gW Tryz.prog 185=some [(0,3),(3,3),(6,3),(9,3),(12,3)]:=by and_intros <;> kernel_rfl
@[simp] theorem bTj:tsz Tryz.prog 186=some 15∧tby Tryz.prog 186=some 200∧tz Tryz.prog 186=some (.agg #[.int .i64 0,.int .i64 0,.slice none 0 0,.int .i64 0,.int .i64 0,.slice none 0 0,.int .i64 0,.int .i64 0,.slice none 0 0,.int .i64 0,.int .i64 0,.slice none 0 0,.int .i64 0,.int .i64 0,.slice none 0 0])∧cW Tryz.prog 186=some true∧tel Tryz.prog 186=none∧bU Tryz.prog 186=false∧(Program.underlying Tryz.prog 186).isSome=true∧gW Tryz.prog 186=some [(0,3),(3,3),(6,3),(9,3),(12,3)]:=by and_intros <;> kernel_rfl
@[simp] theorem bTi:tsz Tryz.prog 188=some 9∧tby Tryz.prog 188=some 120∧tz Tryz.prog 188=some (.agg #[.int .i64 0,.int .i64 0,.slice none 0 0,.int .i64 0,.int .i64 0,.slice none 0 0,.int .i64 0,.int .i64 0,.slice none 0 0])∧cW Tryz.prog 188=some true∧tel Tryz.prog 188=none∧bU Tryz.prog 188=false∧(Program.underlying Tryz.prog 188).isSome=true∧gW Tryz.prog 188=some [(0,3),(3,3),(6,3)]:=by and_intros <;> kernel_rfl
@[simp] theorem bTh:tsz Tryz.prog 189=some 9∧tby Tryz.prog 189=some 120∧tz Tryz.prog 189=some (.agg #[.int .i64 0,.int .i64 0,.slice none 0 0,.int .i64 0,.int .i64 0,.slice none 0 0,.int .i64 0,.int .i64 0,.slice none 0 0])∧cW Tryz.prog 189=some true∧tel Tryz.prog 189=none∧bU Tryz.prog 189=false∧(Program.underlying Tryz.prog 189).isSome=true∧gW Tryz.prog 189=some [(0,3),(3,3),(6,3)]:=by and_intros <;> kernel_rfl
@[simp] theorem bTg:tsz Tryz.prog 194=some 1∧tby Tryz.prog 194=some 8∧tz Tryz.prog 194=some (.int .u64 0)∧cW Tryz.prog 194=some false∧tel Tryz.prog 194=none∧bU Tryz.prog 194=false∧(Program.underlying Tryz.prog 194).isSome=true∧gJ Tryz.prog 194=some .u64:=by and_intros <;> kernel_rfl
@[simp] theorem bTf:tsz Tryz.prog 211=some 9∧tby Tryz.prog 211=some 120∧tz Tryz.prog 211=some (.agg #[.int .i64 0,.int .i64 0,.slice none 0 0,.int .i64 0,.int .i64 0,.slice none 0 0,.int .i64 0,.int .i64 0,.slice none 0 0])∧cW Tryz.prog 211=some true∧tel Tryz.prog 211=none∧bU Tryz.prog 211=false∧(Program.underlying Tryz.prog 211).isSome=true∧gW Tryz.prog 211=some [(0,3),(3,3),(6,3)]:=by and_intros <;> kernel_rfl
@[simp] theorem bTe:tsz Tryz.prog 212=some 9∧tby Tryz.prog 212=some 120∧tz Tryz.prog 212=some (.agg #[.int .i64 0,.int .i64 0,.slice none 0 0,.int .i64 0,.int .i64 0,.slice none 0 0,.int .i64 0,.int .i64 0,.slice none 0 0])∧cW Tryz.prog 212=some true∧tel Tryz.prog 212=none∧bU Tryz.prog 212=false∧(Program.underlying Tryz.prog 212).isSome=true∧gW Tryz.prog 212=some [(0,3),(3,3),(6,3)]:=by and_intros <;> kernel_rfl
@[simp] theorem bTd:tsz Tryz.prog 242=some 0∧tby Tryz.prog 242=some 0∧tz Tryz.prog 242=some (.agg #[])∧cW Tryz.prog 242=some true∧tel Tryz.prog 242=none∧bU Tryz.prog 242=false∧(Program.underlying Tryz.prog 242).isSome=true∧gW Tryz.prog 242=none∧vI Tryz.prog 242=some (0,16):=by and_intros <;> kernel_rfl
@[simp] theorem bTc:tsz Tryz.prog 243=some 0∧tby Tryz.prog 243=some 0∧tz Tryz.prog 243=some (.agg #[])∧cW Tryz.prog 243=some true∧tel Tryz.prog 243=none∧bU Tryz.prog 243=false∧(Program.underlying Tryz.prog 243).isSome=true∧gW Tryz.prog 243=some [(0,0)]:=by and_intros <;> kernel_rfl
@[simp] theorem bTb:tsz Tryz.prog 244=some 0∧tby Tryz.prog 244=some 0∧tz Tryz.prog 244=some (.agg #[])∧cW Tryz.prog 244=some true∧tel Tryz.prog 244=none∧bU Tryz.prog 244=false∧(Program.underlying Tryz.prog 244).isSome=true∧gW Tryz.prog 244=some [(0,0)]:=by and_intros <;> kernel_rfl
@[simp] theorem bTa:tsz Tryz.prog 246=some 1∧tby Tryz.prog 246=some 1∧tz Tryz.prog 246=some (.int .u8 0)∧cW Tryz.prog 246=some false∧tel Tryz.prog 246=none∧bU Tryz.prog 246=false∧(Program.underlying Tryz.prog 246).isSome=true∧gJ Tryz.prog 246=some .u8:=by and_intros <;> kernel_rfl
@[simp] theorem bSz:tsz Tryz.prog 247=some 1∧tby Tryz.prog 247=some 1∧tz Tryz.prog 247=some (.int .u8 0)∧cW Tryz.prog 247=some false∧tel Tryz.prog 247=none∧bU Tryz.prog 247=false∧(Program.underlying Tryz.prog 247).isSome=true∧gJ Tryz.prog 247=some .u8:=by and_intros <;> kernel_rfl
@[simp] theorem bSy:tsz Tryz.prog 250=some 1∧tby Tryz.prog 250=some 4∧tz Tryz.prog 250=some (.int .i32 0)∧cW Tryz.prog 250=some false∧tel Tryz.prog 250=none∧bU Tryz.prog 250=false∧(Program.underlying Tryz.prog 250).isSome=true∧gJ Tryz.prog 250=some .i32:=by and_intros <;> kernel_rfl
@[simp] theorem bSx:tsz Tryz.prog 251=some 1∧tby Tryz.prog 251=some 4∧tz Tryz.prog 251=some (.int .i32 0)∧cW Tryz.prog 251=some false∧tel Tryz.prog 251=none∧bU Tryz.prog 251=false∧(Program.underlying Tryz.prog 251).isSome=true∧gJ Tryz.prog 251=some .i32:=by and_intros <;> kernel_rfl
@[simp] theorem aF:Go.Tables.follows Go.Proofs.Tryz.prog.toTables .mixedOrders=true:=by kernel_rfl
end Go.Am
end

section
set_option linter.unusedVariables false
set_option linter.unusedSimpArgs false
open Go Go.Proofs
namespace Go.Am
@[simp] theorem bVz:bH Tryz.prog 0=false∧bE Tryz.prog 0=true∧bH Tryz.prog 1=false∧bE Tryz.prog 1=true∧bH Tryz.prog 2=false∧bE Tryz.prog 2=true∧bH Tryz.prog 3=false∧bE Tryz.prog 3=false∧bH Tryz.prog 4=false∧bE Tryz.prog 4=false∧bH Tryz.prog 5=false∧bE Tryz.prog 5=false∧bH Tryz.prog 6=false∧bE Tryz.prog 6=false∧bH Tryz.prog 7=false∧bE Tryz.prog 7=false∧bH Tryz.prog 8=false∧bE Tryz.prog 8=false∧bH Tryz.prog 9=false∧bE Tryz.prog 9=false:=by and_intros <;> kernel_rfl
@[simp] theorem bUj:bH Tryz.prog 10=false∧bE Tryz.prog 10=false∧bH Tryz.prog 11=false∧bE Tryz.prog 11=false∧bH Tryz.prog 12=false∧bE Tryz.prog 12=false∧bH Tryz.prog 13=false∧bE Tryz.prog 13=false∧bH Tryz.prog 14=false∧bE Tryz.prog 14=false∧bH Tryz.prog 15=false∧bE Tryz.prog 15=false∧bH Tryz.prog 16=false∧bE Tryz.prog 16=false∧bH Tryz.prog 17=false∧bE Tryz.prog 17=false∧bH Tryz.prog 18=false∧bE Tryz.prog 18=false∧bH Tryz.prog 19=false∧bE Tryz.prog 19=false:=by and_intros <;> kernel_rfl
@[simp] theorem bUi:bH Tryz.prog 20=false∧bE Tryz.prog 20=false∧bH Tryz.prog 21=false∧bE Tryz.prog 21=false∧bH Tryz.prog 22=false∧bE Tryz.prog 22=false∧bH Tryz.prog 23=false∧bE Tryz.prog 23=false∧bH Tryz.prog 24=false∧bE Tryz.prog 24=false∧bH Tryz.prog 25=false∧bE Tryz.prog 25=false∧bH Tryz.prog 26=false∧bE Tryz.prog 26=false∧bH Tryz.prog 27=false∧bE Tryz.prog 27=false∧bH Tryz.prog 28=false∧bE Tryz.prog 28=false∧bH Tryz.prog 29=false∧bE Tryz.prog 29=false:=by and_intros <;> kernel_rfl
@[simp] theorem bUh:bH Tryz.prog 30=false∧bE Tryz.prog 30=false∧bH Tryz.prog 31=false∧bE Tryz.prog 31=false∧bH Tryz.prog 32=false∧bE Tryz.prog 32=false∧bH Tryz.prog 33=false∧bE Tryz.prog 33=false∧bH Tryz.prog 34=false∧bE Tryz.prog 34=false∧bH Tryz.prog 35=false∧bE Tryz.prog 35=false∧bH Tryz.prog 36=false∧bE Tryz.prog 36=false∧bH Tryz.prog 37=false∧bE Tryz.prog 37=false∧bH Tryz.prog 38=false∧bE Tryz.prog 38=false∧bH Tryz.prog 39=false∧bE Tryz.prog 39=false:=by and_intros <;> kernel_rfl
@[simp] theorem bUg:bH Tryz.prog 40=true∧bE Tryz.prog 40=false∧bH Tryz.prog 41=false∧bE Tryz.prog 41=false∧bH Tryz.prog 42=false∧bE Tryz.prog 42=false∧bH Tryz.prog 43=false∧bE Tryz.prog 43=true∧bH Tryz.prog 44=false∧bE Tryz.prog 44=false∧bH Tryz.prog 45=false∧bE Tryz.prog 45=false∧bH Tryz.prog 46=false∧bE Tryz.prog 46=false∧bH Tryz.prog 47=false∧bE Tryz.prog 47=false∧bH Tryz.prog 48=false∧bE Tryz.prog 48=false∧bH Tryz.prog 49=false∧bE Tryz.prog 49=false:=by and_intros <;> kernel_rfl
@[simp] theorem bUf:bH Tryz.prog 50=false∧bE Tryz.prog 50=false∧bH Tryz.prog 51=false∧bE Tryz.prog 51=false∧bH Tryz.prog 52=false∧bE Tryz.prog 52=false∧bH Tryz.prog 53=false∧bE Tryz.prog 53=false∧bH Tryz.prog 54=false∧bE Tryz.prog 54=true∧bH Tryz.prog 55=false∧bE Tryz.prog 55=false∧bH Tryz.prog 56=false∧bE Tryz.prog 56=false∧bH Tryz.prog 57=false∧bE Tryz.prog 57=false∧bH Tryz.prog 58=false∧bE Tryz.prog 58=false∧bH Tryz.prog 59=false∧bE Tryz.prog 59=true:=by and_intros <;> kernel_rfl
@[simp] theorem bUe:bH Tryz.prog 60=false∧bE Tryz.prog 60=false∧bH Tryz.prog 61=false∧bE Tryz.prog 61=false∧bH Tryz.prog 62=false∧bE Tryz.prog 62=false∧bH Tryz.prog 63=false∧bE Tryz.prog 63=false∧bH Tryz.prog 64=false∧bE Tryz.prog 64=false∧bH Tryz.prog 65=false∧bE Tryz.prog 65=true∧bH Tryz.prog 66=false∧bE Tryz.prog 66=false∧bH Tryz.prog 67=true∧bE Tryz.prog 67=false∧bH Tryz.prog 68=false∧bE Tryz.prog 68=true∧bH Tryz.prog 69=false∧bE Tryz.prog 69=false:=by and_intros <;> kernel_rfl
@[simp] theorem bUd:bH Tryz.prog 70=false∧bE Tryz.prog 70=false∧bH Tryz.prog 71=false∧bE Tryz.prog 71=false∧bH Tryz.prog 72=false∧bE Tryz.prog 72=false∧bH Tryz.prog 73=false∧bE Tryz.prog 73=false∧bH Tryz.prog 74=false∧bE Tryz.prog 74=false∧bH Tryz.prog 75=false∧bE Tryz.prog 75=false∧bH Tryz.prog 76=false∧bE Tryz.prog 76=false∧bH Tryz.prog 77=false∧bE Tryz.prog 77=false∧bH Tryz.prog 78=false∧bE Tryz.prog 78=false∧bH Tryz.prog 79=false∧bE Tryz.prog 79=true:=by and_intros <;> kernel_rfl
@[simp] theorem bUc:bH Tryz.prog 80=false∧bE Tryz.prog 80=false∧bH Tryz.prog 81=false∧bE Tryz.prog 81=false∧bH Tryz.prog 82=false∧bE Tryz.prog 82=false∧bH Tryz.prog 83=false∧bE Tryz.prog 83=false∧bH Tryz.prog 84=false∧bE Tryz.prog 84=false∧bH Tryz.prog 85=false∧bE Tryz.prog 85=false∧bH Tryz.prog 86=false∧bE Tryz.prog 86=false∧bH Tryz.prog 87=false∧bE Tryz.prog 87=false∧bH Tryz.prog 88=false∧bE Tryz.prog 88=false∧bH Tryz.prog 89=false∧bE Tryz.prog 89=false:=by and_intros <;> kernel_rfl
@[simp] theorem bUb:bH Tryz.prog 90=false∧bE Tryz.prog 90=false∧bH Tryz.prog 91=false∧bE Tryz.prog 91=false∧bH Tryz.prog 92=false∧bE Tryz.prog 92=false∧bH Tryz.prog 93=false∧bE Tryz.prog 93=true∧bH Tryz.prog 94=false∧bE Tryz.prog 94=true∧bH Tryz.prog 95=false∧bE Tryz.prog 95=true∧bH Tryz.prog 96=false∧bE Tryz.prog 96=false∧bH Tryz.prog 97=false∧bE Tryz.prog 97=false∧bH Tryz.prog 98=false∧bE Tryz.prog 98=false∧bH Tryz.prog 99=false∧bE Tryz.prog 99=false:=by and_intros <;> kernel_rfl
@[simp] theorem bRk:bH Tryz.prog 100=false∧bE Tryz.prog 100=false∧bH Tryz.prog 101=false∧bE Tryz.prog 101=false∧bH Tryz.prog 102=false∧bE Tryz.prog 102=false∧bH Tryz.prog 103=false∧bE Tryz.prog 103=false∧bH Tryz.prog 104=false∧bE Tryz.prog 104=false∧bH Tryz.prog 105=false∧bE Tryz.prog 105=true∧bH Tryz.prog 106=false∧bE Tryz.prog 106=false∧bH Tryz.prog 107=false∧bE Tryz.prog 107=false∧bH Tryz.prog 108=false∧bE Tryz.prog 108=true∧bH Tryz.prog 109=false∧bE Tryz.prog 109=false:=by and_intros <;> kernel_rfl
@[simp] theorem bRj:bH Tryz.prog 110=false∧bE Tryz.prog 110=false∧bH Tryz.prog 111=false∧bE Tryz.prog 111=false∧bH Tryz.prog 112=false∧bE Tryz.prog 112=false∧bH Tryz.prog 113=false∧bE Tryz.prog 113=false∧bH Tryz.prog 114=false∧bE Tryz.prog 114=false∧bH Tryz.prog 115=false∧bE Tryz.prog 115=false∧bH Tryz.prog 116=false∧bE Tryz.prog 116=false∧bH Tryz.prog 117=false∧bE Tryz.prog 117=false∧bH Tryz.prog 118=false∧bE Tryz.prog 118=false∧bH Tryz.prog 119=false∧bE Tryz.prog 119=false:=by and_intros <;> kernel_rfl
@[simp] theorem bRi:bH Tryz.prog 120=false∧bE Tryz.prog 120=false∧bH Tryz.prog 121=false∧bE Tryz.prog 121=false∧bH Tryz.prog 122=false∧bE Tryz.prog 122=false∧bH Tryz.prog 123=false∧bE Tryz.prog 123=false∧bH Tryz.prog 124=false∧bE Tryz.prog 124=false∧bH Tryz.prog 125=false∧bE Tryz.prog 125=false∧bH Tryz.prog 126=false∧bE Tryz.prog 126=false∧bH Tryz.prog 127=false∧bE Tryz.prog 127=true∧bH Tryz.prog 128=false∧bE Tryz.prog 128=false∧bH Tryz.prog 129=false∧bE Tryz.prog 129=false:=by and_intros <;> kernel_rfl
@[simp] theorem bRh:bH Tryz.prog 130=false∧bE Tryz.prog 130=true∧bH Tryz.prog 131=false∧bE Tryz.prog 131=true∧bH Tryz.prog 132=false∧bE Tryz.prog 132=true∧bH Tryz.prog 133=false∧bE Tryz.prog 133=false∧bH Tryz.prog 134=false∧bE Tryz.prog 134=true∧bH Tryz.prog 135=false∧bE Tryz.prog 135=false∧bH Tryz.prog 136=false∧bE Tryz.prog 136=false∧bH Tryz.prog 137=false∧bE Tryz.prog 137=false∧bH Tryz.prog 138=false∧bE Tryz.prog 138=false∧bH Tryz.prog 139=false∧bE Tryz.prog 139=false:=by and_intros <;> kernel_rfl
@[simp] theorem bRg:bH Tryz.prog 140=true∧bE Tryz.prog 140=false∧bH Tryz.prog 141=false∧bE Tryz.prog 141=false∧bH Tryz.prog 142=false∧bE Tryz.prog 142=false∧bH Tryz.prog 143=false∧bE Tryz.prog 143=false∧bH Tryz.prog 144=false∧bE Tryz.prog 144=false∧bH Tryz.prog 145=false∧bE Tryz.prog 145=false∧bH Tryz.prog 146=false∧bE Tryz.prog 146=false∧bH Tryz.prog 147=false∧bE Tryz.prog 147=false∧bH Tryz.prog 148=false∧bE Tryz.prog 148=false∧bH Tryz.prog 149=false∧bE Tryz.prog 149=false:=by and_intros <;> kernel_rfl
@[simp] theorem bRf:bH Tryz.prog 150=false∧bE Tryz.prog 150=false∧bH Tryz.prog 151=false∧bE Tryz.prog 151=false∧bH Tryz.prog 152=false∧bE Tryz.prog 152=true∧bH Tryz.prog 153=false∧bE Tryz.prog 153=true∧bH Tryz.prog 154=false∧bE Tryz.prog 154=false∧bH Tryz.prog 155=false∧bE Tryz.prog 155=true∧bH Tryz.prog 156=false∧bE Tryz.prog 156=false∧bH Tryz.prog 157=false∧bE Tryz.prog 157=false∧bH Tryz.prog 158=false∧bE Tryz.prog 158=false∧bH Tryz.prog 159=false∧bE Tryz.prog 159=false:=by and_intros <;> kernel_rfl
@[simp] theorem bRe:bH Tryz.prog 160=false∧bE Tryz.prog 160=false∧bH Tryz.prog 161=true∧bE Tryz.prog 161=false∧bH Tryz.prog 162=true∧bE Tryz.prog 162=false∧bH Tryz.prog 163=false∧bE Tryz.prog 163=false∧bH Tryz.prog 164=false∧bE Tryz.prog 164=true∧bH Tryz.prog 165=false∧bE Tryz.prog 165=true∧bH Tryz.prog 166=false∧bE Tryz.prog 166=false∧bH Tryz.prog 167=false∧bE Tryz.prog 167=false∧bH Tryz.prog 168=false∧bE Tryz.prog 168=true∧bH Tryz.prog 169=false∧bE Tryz.prog 169=true:=by and_intros <;> kernel_rfl
@[simp] theorem bRd:bH Tryz.prog 170=true∧bE Tryz.prog 170=false∧bH Tryz.prog 171=false∧bE Tryz.prog 171=false∧bH Tryz.prog 172=false∧bE Tryz.prog 172=true∧bH Tryz.prog 173=false∧bE Tryz.prog 173=true∧bH Tryz.prog 174=false∧bE Tryz.prog 174=true∧bH Tryz.prog 175=false∧bE Tryz.prog 175=false∧bH Tryz.prog 176=false∧bE Tryz.prog 176=false∧bH Tryz.prog 177=false∧bE Tryz.prog 177=false∧bH Tryz.prog 178=false∧bE Tryz.prog 178=true∧bH Tryz.prog 179=false∧bE Tryz.prog 179=false:=by and_intros <;> kernel_rfl
@[simp] theorem bRc:bH Tryz.prog 180=true∧bE Tryz.prog 180=false∧bH Tryz.prog 181=false∧bE Tryz.prog 181=true∧bH Tryz.prog 182=false∧bE Tryz.prog 182=false∧bH Tryz.prog 183=false∧bE Tryz.prog 183=true∧bH Tryz.prog 184=false∧bE Tryz.prog 184=true∧bH Tryz.prog 185=false∧bE Tryz.prog 185=false∧bH Tryz.prog 186=false∧bE Tryz.prog 186=true∧bH Tryz.prog 187=false∧bE Tryz.prog 187=true∧bH Tryz.prog 188=false∧bE Tryz.prog 188=true∧bH Tryz.prog 189=false∧bE Tryz.prog 189=false:=by and_intros <;> kernel_rfl
@[simp] theorem bRb:bH Tryz.prog 190=false∧bE Tryz.prog 190=true∧bH Tryz.prog 191=false∧bE Tryz.prog 191=false∧bH Tryz.prog 192=false∧bE Tryz.prog 192=false∧bH Tryz.prog 193=false∧bE Tryz.prog 193=false∧bH Tryz.prog 194=false∧bE Tryz.prog 194=false∧bH Tryz.prog 195=false∧bE Tryz.prog 195=false∧bH Tryz.prog 196=false∧bE Tryz.prog 196=false∧bH Tryz.prog 197=false∧bE Tryz.prog 197=true∧bH Tryz.prog 198=false∧bE Tryz.prog 198=false∧bH Tryz.prog 199=false∧bE Tryz.prog 199=false:=by and_intros <;> kernel_rfl
@[simp] theorem bRa:bH Tryz.prog 200=false∧bE Tryz.prog 200=false∧bH Tryz.prog 201=false∧bE Tryz.prog 201=false∧bH Tryz.prog 202=false∧bE Tryz.prog 202=true∧bH Tryz.prog 203=false∧bE Tryz.prog 203=false∧bH Tryz.prog 204=false∧bE Tryz.prog 204=true∧bH Tryz.prog 205=false∧bE Tryz.prog 205=false:=by and_intros <;> kernel_rfl
end Go.Am
end

section
set_option linter.unusedVariables false
set_option linter.unusedSimpArgs false
namespace Go.Proofs
open Go.RowKit Go.Maps Go.Sort Go.Shelf
def Tryz.keysB_ren:Go.Shelf.Ren:=⟨fun | 7=>127 | 10=>153 | n=>n,fun | 23=>138 | 26=>3 | 3=>69 | 28=>170 | 0=>0 | 27=>169 | 33=>151 | 4=>4 | n=>n,fun | n=>n⟩
theorem Tryz.keysB:Go.Proofs.SlLaysZI.n7 Tryz.prog Tryz.keysB_ren:={
 mixed:=by kernel_rfl,
 f7:=⟨Tryz.f127.name,by decide,Tryz.func127.trans (congrArg some (by kernel_rfl))⟩,
 f10:=⟨Tryz.f153.name,by decide,Tryz.func153.trans (congrArg some (by kernel_rfl))⟩,
 t0:=Tryz.underlying0,
 a0:=Tryz.isAgg0,
 z0:=Tryz.sizeOf0,
 v0:=Tryz.zeroValue0,
 t4:=Tryz.underlying4,
 a4:=Tryz.isAgg4,
 z4:=Tryz.sizeOf4,
 v4:=Tryz.zeroValue4,
 t23:=Tryz.underlying138,
 a23:=Tryz.isAgg138,
 z23:=Tryz.sizeOf138,
 v23:=Tryz.zeroValue138,
 t26:=Tryz.underlying3,
 a26:=Tryz.isAgg3,
 z26:=Tryz.sizeOf3,
 v26:=Tryz.zeroValue3,
 t27:=Tryz.underlying169,
 a27:=Tryz.isAgg169,
 z27:=Tryz.sizeOf169,
 v27:=Tryz.zeroValue169,
 t28:=Tryz.underlying170,
 a28:=Tryz.isAgg170,
 z28:=Tryz.sizeOf170,
 v28:=Tryz.zeroValue170,
 t33:=Tryz.underlying151,
 a33:=Tryz.isAgg151,
 z33:=Tryz.sizeOf151,
 v33:=Tryz.zeroValue151 }
def Tryz.sortedA_ren:Go.Shelf.Ren:=⟨fun | 6=>126 | 8=>151 | 9=>152 | 11=>177 | 13=>106 | 12=>178 | 23=>138 | 24=>139 | 14=>186 | 15=>187 | 16=>188 | 17=>189 | 18=>190 | 19=>191 | 20=>192 | 21=>193 | 22=>194 | 25=>197 | 26=>156 | 27=>157 | 28=>198 | 29=>199 | 30=>107 | 31=>200 | n=>n,fun | 26=>3 | 28=>170 | 24=>29 | 0=>0 | 3=>3 | 37=>122 | 48=>121 | 50=>119 | 4=>4 | 40=>175 | 39=>174 | 45=>133 | 5=>5 | 9=>9 | 51=>194 | 55=>198 | 57=>221 | 58=>202 | 33=>151 | n=>n,fun | n=>n⟩
theorem Tryz.sortedA:Go.Proofs.SlLaysZI.n6 Tryz.prog Tryz.sortedA_ren:={
 mixed:=by kernel_rfl,
 f6:=⟨Tryz.f126.name,by decide,Tryz.func126.trans (congrArg some (by kernel_rfl))⟩,
 f8:=⟨Tryz.f151.name,by decide,Tryz.func151.trans (congrArg some (by kernel_rfl))⟩,
 f11:=⟨Tryz.f177.name,by decide,Tryz.func177.trans (congrArg some (by kernel_rfl))⟩,
 t0:=Tryz.underlying0,
 a0:=Tryz.isAgg0,
 z0:=Tryz.sizeOf0,
 v0:=Tryz.zeroValue0,
 t24:=Tryz.underlying29,
 a24:=Tryz.isAgg29,
 z24:=Tryz.sizeOf29,
 v24:=Tryz.zeroValue29,
 t26:=Tryz.underlying3,
 a26:=Tryz.isAgg3,
 z26:=Tryz.sizeOf3,
 v26:=Tryz.zeroValue3,
 t28:=Tryz.underlying170,
 a28:=Tryz.isAgg170,
 z28:=Tryz.sizeOf170,
 v28:=Tryz.zeroValue170,
 i26:=by kernel_rfl }
def Tryz.sortA_ren:Go.Shelf.Ren:=⟨fun | 5=>152 | 8=>106 | 7=>178 | 19=>138 | 20=>139 | 10=>186 | 11=>187 | 12=>188 | 13=>189 | 14=>190 | 15=>191 | 16=>192 | 17=>193 | 18=>194 | 30=>197 | 31=>156 | 32=>157 | 33=>198 | 34=>199 | 35=>107 | 40=>200 | n=>n,fun | 23=>29 | 25=>3 | 3=>3 | 32=>122 | 22=>29 | 0=>0 | 44=>121 | 46=>119 | 4=>4 | 36=>175 | 35=>174 | 41=>133 | 5=>5 | 9=>9 | 53=>194 | 57=>198 | 63=>221 | 64=>202 | n=>n,fun | n=>n⟩
theorem Tryz.sortA:Go.Proofs.SlLaysM.n5 Tryz.prog Tryz.sortA_ren:={
 mixed:=by kernel_rfl,
 f5:=⟨Tryz.f152.name,by decide,Tryz.func152.trans (congrArg some (by kernel_rfl))⟩,
 f7:=⟨Tryz.f178.name,by decide,Tryz.func178.trans (congrArg some (by kernel_rfl))⟩,
 f8:=Tryz.func106.trans (congrArg some (by kernel_rfl)),
 f10:=⟨Tryz.f186.name,by decide,Tryz.func186.trans (congrArg some (by kernel_rfl))⟩,
 f11:=⟨Tryz.f187.name,by decide,Tryz.func187.trans (congrArg some (by kernel_rfl))⟩,
 f12:=⟨Tryz.f188.name,by decide,Tryz.func188.trans (congrArg some (by kernel_rfl))⟩,
 f13:=⟨Tryz.f189.name,by decide,Tryz.func189.trans (congrArg some (by kernel_rfl))⟩,
 f14:=⟨Tryz.f190.name,by decide,Tryz.func190.trans (congrArg some (by kernel_rfl))⟩,
 f15:=⟨Tryz.f191.name,by decide,Tryz.func191.trans (congrArg some (by kernel_rfl))⟩,
 f16:=⟨Tryz.f192.name,by decide,Tryz.func192.trans (congrArg some (by kernel_rfl))⟩,
 f17:=⟨Tryz.f193.name,by decide,Tryz.func193.trans (congrArg some (by kernel_rfl))⟩,
 f18:=⟨Tryz.f194.name,by decide,Tryz.func194.trans (congrArg some (by kernel_rfl))⟩,
 f19:=Tryz.func138.trans (congrArg some (by kernel_rfl)),
 f20:=Tryz.func139.trans (congrArg some (by kernel_rfl)),
 f30:=⟨Tryz.f197.name,by decide,Tryz.func197.trans (congrArg some (by kernel_rfl))⟩,
 f31:=Tryz.func156.trans (congrArg some (by kernel_rfl)),
 f32:=Tryz.func157.trans (congrArg some (by kernel_rfl)),
 f33:=⟨Tryz.f198.name,by decide,Tryz.func198.trans (congrArg some (by kernel_rfl))⟩,
 f34:=⟨Tryz.f199.name,by decide,Tryz.func199.trans (congrArg some (by kernel_rfl))⟩,
 f35:=⟨Tryz.f107.name,by decide,Tryz.func107.trans (congrArg some (by kernel_rfl))⟩,
 f40:=⟨Tryz.f200.name,by decide,Tryz.func200.trans (congrArg some (by kernel_rfl))⟩,
 t0:=Tryz.underlying0,
 a0:=Tryz.isAgg0,
 z0:=Tryz.sizeOf0,
 v0:=Tryz.zeroValue0,
 t3:=Tryz.underlying3,
 a3:=Tryz.isAgg3,
 z3:=Tryz.sizeOf3,
 v3:=Tryz.zeroValue3,
 t4:=Tryz.underlying4,
 a4:=Tryz.isAgg4,
 z4:=Tryz.sizeOf4,
 v4:=Tryz.zeroValue4,
 t5:=Tryz.underlying5,
 a5:=Tryz.isAgg5,
 z5:=Tryz.sizeOf5,
 v5:=Tryz.zeroValue5,
 t9:=Tryz.underlying9,
 a9:=Tryz.isAgg9,
 z9:=Tryz.sizeOf9,
 v9:=Tryz.zeroValue9,
 t22:=Tryz.underlying29,
 a22:=Tryz.isAgg29,
 z22:=Tryz.sizeOf29,
 v22:=Tryz.zeroValue29,
 t23:=Tryz.underlying29,
 a23:=Tryz.isAgg29,
 z23:=Tryz.sizeOf29,
 v23:=Tryz.zeroValue29,
 t25:=Tryz.underlying3,
 a25:=Tryz.isAgg3,
 z25:=Tryz.sizeOf3,
 v25:=Tryz.zeroValue3,
 t32:=Tryz.underlying122,
 a32:=Tryz.isAgg122,
 z32:=Tryz.sizeOf122,
 v32:=Tryz.zeroValue122,
 t35:=Tryz.underlying174,
 a35:=Tryz.isAgg174,
 z35:=Tryz.sizeOf174,
 v35:=Tryz.zeroValue174,
 t36:=Tryz.underlying175,
 a36:=Tryz.isAgg175,
 z36:=Tryz.sizeOf175,
 v36:=Tryz.zeroValue175,
 t41:=Tryz.underlying133,
 a41:=Tryz.isAgg133,
 z41:=Tryz.sizeOf133,
 v41:=Tryz.zeroValue133,
 t44:=Tryz.underlying121,
 a44:=Tryz.isAgg121,
 z44:=Tryz.sizeOf121,
 v44:=Tryz.zeroValue121,
 t46:=Tryz.underlying119,
 a46:=Tryz.isAgg119,
 z46:=Tryz.sizeOf119,
 v46:=Tryz.zeroValue119,
 t53:=Tryz.underlying194,
 a53:=Tryz.isAgg194,
 z53:=Tryz.sizeOf194,
 v53:=Tryz.zeroValue194,
 t57:=Tryz.underlying198,
 a57:=Tryz.isAgg198,
 z57:=Tryz.sizeOf198,
 v57:=Tryz.zeroValue198,
 t63:=Tryz.underlying221,
 a63:=Tryz.isAgg221,
 z63:=Tryz.sizeOf221,
 v63:=Tryz.zeroValue221,
 t64:=Tryz.underlying202,
 a64:=Tryz.isAgg202,
 z64:=Tryz.sizeOf202,
 v64:=Tryz.zeroValue202 }
theorem Tryz.sortsA (m:Nat):AnyZI.SortsIn Tryz.prog Tryz.sortedA_ren Fence.wide m :=
 ⟨fun blk off cap ss W hH hblk hsz=>callsIn_wide.2 (AnyM.slices_Sort_int Tryz.sortA blk off cap ss W hH hblk hsz),
 fun p cap W=>callsIn_wide.2 (AnyM.slices_Sort_int_none Tryz.sortA p cap W)⟩
theorem Tryz.keys106:Am.qT Tryz.prog 127 153:=fun W b =>
 ⟨fun w=>enters_of Tryz.func127 (by kernel_rfl) rfl _ w,(callsIn_wide (n:=5)).1 ((AnyZI.keys_in Tryz.keysB Fence.wide 5 trivial rfl (some b) W).mono (by rintro e w' ⟨rfl,rfl⟩; exact ⟨_,rfl,rfl⟩))⟩
theorem isort_perm:∀ l:List Int,(Am.fJ l).Perm l
 | []=>.nil
 | n::l=>by
  have h1:∀ (m:List Int),(Am.ins n m).Perm (n::m):=by
   intro m
   induction m with
   | nil=>exact .refl _
   | cons x m ih =>
    unfold Am.ins
    split
    ·exact .refl _
    ·exact (ih.cons x).trans (.swap n x m)
  exact (h1 _).trans ((isort_perm l).cons n)
theorem isort_sorted:∀ l:List Int,(Am.fJ l).Pairwise (fun a b=>a≤b)
 | []=>.nil
 | n::l=>by
  have h1:∀ (m:List Int),m.Pairwise (fun a b=>a≤b)→(Am.ins n m).Pairwise (fun a b=>a≤b):=by
   intro m
   induction m with
   | nil=>intro _; simp [Am.ins]
   | cons x m ih =>
    intro h
    unfold Am.ins
    have h':=List.pairwise_cons.1 h
    split
    ·rename_i hx
     exact List.pairwise_cons.2 ⟨fun a ha=>by
      rcases List.mem_cons.1 ha with rfl | ha
      ·exact hx
      ·exact Int.le_trans hx (h'.1 a ha),h⟩
    ·rename_i hx
     refine List.pairwise_cons.2 ⟨fun a ha=>?_,ih h'.2⟩
     have hp:(Am.ins n m).Perm (n::m):=by
      clear ih h h' ha
      induction m with
      | nil=>exact .refl _
      | cons y m ih =>
       unfold Am.ins
       split
       ·exact .refl _
       ·exact (ih.cons y).trans (.swap n y m)
     rcases List.mem_cons.1 (hp.mem_iff.1 ha) with rfl | ha
     ·omega
     ·exact h'.1 a ha
  exact h1 _ (isort_sorted l)
theorem xK (ss ks:List Int) (h:ss.Perm ks):ss.mergeSort (fun x y=>decide (x≤y))=Am.fJ ks:=by
 have tr:∀ a b c:Int,decide (a≤b)=true→decide (b≤c)=true→decide (a≤c)=true:=fun a b c h1 h2=>by simp only [decide_eq_true_eq] at *; exact Int.le_trans h1 h2
 have to:∀ a b:Int,(decide (a≤b) || decide (b≤a))=true:=fun a b=>by simp only [Bool.or_eq_true,decide_eq_true_eq]; exact Int.le_total a b
 refine List.Perm.eq_of_pairwise (le:=fun a b=>decide (a≤b)=true) (fun a b _ _ h1 h2=>?_) (List.pairwise_mergeSort tr to ss) ((isort_sorted ks).imp fun h=>by simpa using h) (((List.mergeSort_perm ss _).trans h).trans (isort_perm ks).symm)
 simp only [decide_eq_true_eq] at h1 h2
 exact Int.le_antisymm h1 h2
theorem bBv {P:Program} {k:TypeId} (hk:P.underlying k=some (.int .i64)) {n:Int} (hn:Am.inr n=true):keyOf P k (.int .i64 n)=some (.int .i64 n):=by
 have hw:(Lit.int .i64 n).wf=true:=by
  have hmin:IntKind.i64.min=-9223372036854775808:=rfl
  have hmax:IntKind.i64.max=9223372036854775807:=rfl
  simp only [Am.inr,decide_eq_true_eq] at hn
  simp only [Lit.wf,Bool.and_eq_true,decide_eq_true_eq]
  omega
 simp [keyOf,hk,mapKey,hw]
set_option maxRecDepth 20000 in
theorem aIb (f g:FuncId) (T3:TypeId) (hk3:Tryz.prog.underlying T3=some (.int .i64)) (hent:∀ args w,(callFunc f args).run Tryz.prog w=.ok (.enter f args) w)
  (hS:∀ (lb:Array Value) (S:List Int→Prop) (N:Nat),N≤maxLen→N * 8≤140737488355328→∀ w,SeqGives Fence.wide 2 Tryz.prog g lb encZ S N w→CallsIn Fence.wide 5 Tryz.prog f #[.func (.func g) #[] lb] w fun e w' =>
   ∃ v ss,e=.returned v∧S ss∧w'.ownsRow w.heap.size T3 1 v ss.length ((ss.mergeSort fun x y=>decide (x≤y)).map encZ)∧(v=.slice none 0 0↔ss=[])∧Below w.heap.size w w')
  (hG:∀ (Bm b nn:Nat) (D0:DataW Unit) (R:Value→Option (DataW Unit × List MemPlace)) (w:World),Bm<w.heap.size→w.cell? ⟨Bm,0,none⟩=some (.map (some b))→w.ownsMap Tryz.prog T3 R b nn D0 →
   SeqGives Fence.wide 2 Tryz.prog g #[.pointer (some ⟨Bm,0,none⟩)] encZ (fun ss=>ss.Perm (intKeys D0)) (Maps.size D0) w):Am.kV Tryz.prog f g:=by
 intro W b p e ks ents clock hb hst hkeys hp hlen hr
 refine ⟨fun w=>hent _ w,(callsIn_wide (n:=5)).1 ?_⟩
 have hpl:p<W.heap.size:=(Array.getElem?_eq_some_iff.1 hp).1
 have hcell:W.cell? ⟨p,0,none⟩=some (.map (some b)):=by
  rw [show W.cell? ⟨p,0,none⟩=(#[Value.map (some b)]:Array Value)[0]? from cell_of_row W p 0 _ e (0,0) hp]; rfl
 have hsz:ents.size=ks.length:=by have:=congrArg List.length hkeys; simpa using this
 let R:Value→Option (DataW Unit × List MemPlace):=fun _=>some (.nil,[])
 have hrd:∀ x∈ents.toList,∃ n,n∈ks∧x.key=.int .i64 n∧WideElems.rd Tryz.prog T3 R x=some (.int .i64 n,.nil):=by
  intro x hx
  have:x.key∈ks.map (.int .i64 ·):=by rw [← hkeys]; exact List.mem_map_of_mem hx
  obtain ⟨n,hn,he⟩:=List.mem_map.1 this
  refine ⟨n,hn,he.symm,?_⟩
  simp [WideElems.rd,← he,bBv hk3 (List.all_eq_true.1 hr n hn),R]
 have hfit:WideElems.Fit Tryz.prog T3 R ents clock:=⟨by rw [hsz]; simp only [maxLen]; omega,hst,fun x hx=>let ⟨n,_,_,h⟩:=hrd x hx; ⟨_,h⟩⟩
 have hks2:∀ (l:List MapEntry) (k:List Int),l.map (·.key)=k.map (.int .i64 ·)→(∀ x∈l,∃ n,n∈ks∧x.key=.int .i64 n∧WideElems.rd Tryz.prog T3 R x=some (.int .i64 n,.nil))→(l.map (WideElems.rg Tryz.prog T3 R)).map (fun q=>Go.intOf q.1)=k:=by
  intro l
  induction l with
  | nil=>intro k hk _; cases k with
   | nil=>rfl
   | cons=>simp at hk
  | cons x l ih =>
   intro k hk h
   cases k with
   | nil=>simp at hk
   | cons m k =>
    simp only [List.map_cons,List.cons.injEq] at hk ⊢
    refine ⟨?_,ih k hk.2 fun y hy=>h y (List.mem_cons_of_mem _ hy)⟩
    obtain ⟨n,_,hxn,hxr⟩:=h x (List.mem_cons_self ..)
    rw [hxn] at hk
    have:=hk.1
    injection this with _ this
    simp [WideElems.rg,hxr,Go.intOf,this]
 have hD:(intKeys (.map ((ents.toList.map (WideElems.rg Tryz.prog T3 R)).foldr DataW.insert []))).Perm ks:=by
  show (((ents.toList.map (WideElems.rg Tryz.prog T3 R)).foldr DataW.insert []).map fun q=>Go.intOf q.1).Perm ks
  have h1:=(WideShapes.sorted_perm (ents.toList.map (WideElems.rg Tryz.prog T3 R))).map (fun q:Lit × DataW Unit=>Go.intOf q.1)
  rwa [hks2 _ ks hkeys hrd] at h1
 have hN:Maps.size (.map ((ents.toList.map (WideElems.rg Tryz.prog T3 R)).foldr DataW.insert []):DataW Unit)=ks.length:=by
  have:=hD.length_eq
  simpa [intKeys,Maps.size] using this
 have hseq:=hG p b ents.size (.map ((ents.toList.map (WideElems.rg Tryz.prog T3 R)).foldr DataW.insert [])) R W hpl hcell ⟨ents,clock,hb,hfit,Nat.le_refl _,rfl⟩
 rw [hN] at hseq
 refine (hS _ _ _ (by simp only [maxLen]; omega) (by omega) W hseq).mono ?_
 rintro e' w' ⟨v,ss,rfl,hperm,hrow,hnil,hbl⟩
 refine ⟨v,rfl,hbl,?_⟩
 rw [xK ss ks (hperm.trans hD)] at hrow
 have hssl:ss.length=ks.length:=(hperm.trans hD).length_eq
 obtain ⟨hl,⟨rfl,h0⟩ | ⟨gg,cap,cur,rfl,hg,hheap,h1,h2,h3,h4⟩⟩:=hrow
 ·have:Am.fJ ks=[]:=by
   apply List.eq_nil_of_length_eq_zero
   simp at hl; omega
  rw [this]
  exact .sl0 _ _
 ·have hil:(Am.fJ ks).length=ss.length:=by simpa using hl
  refine .sl _ ⟨gg,0,none⟩ _ _ 1 (fun j=>.int .i64 ((Am.fJ ks).getD j 0)) (by simp [hil]) h1 (fun cs hcs=>by obtain ⟨n,_,rfl⟩:=List.mem_map.1 hcs; rfl) ⟨hg,(Array.getElem?_eq_some_iff.1 hheap).1⟩ (fun j hj=>?_) (fun j k cs c hj hk=>?_)
  ·rw [Am.nM,cell_of_row w' gg _ cur T3 (0,0) hheap,Nat.zero_add]
   have:cur.toList[j]? = ((Am.fJ ks).map encZ)[j]? := by
    rw [← h4,List.getElem?_take,if_pos (by omega)]
   rw [← Array.getElem?_toList,this,List.getElem?_map]
   have hj2:j<(Am.fJ ks).length:=by omega
   simp [List.getElem?_eq_getElem hj2,List.getD_eq_getElem?_getD]
  ·rw [List.getElem?_map] at hj
   obtain ⟨n,hn,rfl⟩:=Option.map_eq_some_iff.1 hj
   rcases k with _ | k
   ·simp at hk; subst hk
    simp only [Nat.mul_one,Nat.add_zero,List.getD_eq_getElem?_getD,hn,Option.getD_some]
    exact .i _ _
   ·simp at hk
set_option maxRecDepth 20000 in
set_option maxRecDepth 20000 in
theorem Tryz.sorted122:Am.kV Tryz.prog 126 153 :=
 aIb 126 153 3 (by kernel_rfl) (fun args w=>enters_of Tryz.func126 (by kernel_rfl) rfl args w)
  (fun lb S N h1 h2 w hs=>AnyZI.sorted_in Tryz.sortedA Fence.wide 5 trivial trivial trivial trivial rfl (by omega) (Tryz.sortsA _) (enters_of Tryz.func152 (by kernel_rfl) rfl) 153 lb trivial (enters_of Tryz.func153 (by kernel_rfl) rfl) S N h1 h2 w hs)
  (fun Bm b nn D0 R w h1 h2 h3=>AnyZI.keys_gives (ρ:=Tryz.keysB_ren) { Tryz.keysB with } Fence.wide _ trivial rfl (by omega) Bm b nn D0 w h1 h2 h3)
end Go.Proofs
end

section
set_option linter.unusedVariables false
set_option linter.unusedSimpArgs false
open Go Go.Am Go.Proofs
namespace Go.Am
def bKu (els:List (List D)):Bool:=els.all (fun cs=>match cs with | [d]=>one (.d d) | _=>false) && decide (els.length≤1099511627776)
set_option maxRecDepth 10000 in
theorem aEj (els:List (List D)) (h:bKu els=true):Spec Tryz.prog 103 [.sl els] (.sl els):=by
 have hone:∀ els:List (List D),els.all (fun cs=>match cs with | [d]=>one (.d d) | _=>false)=true→(els.flatten.map AV.d).all one=true∧els.flatten.length=els.length∧eY 1 els=true ∧
   chunk 1 els.length els.flatten=els:=by
  intro els h
  have key:∃ ds:List D,els=ds.map (fun d=>[d])∧(ds.map AV.d).all one=true:=by
   induction els with
   | nil=>exact ⟨[],rfl,rfl⟩
   | cons c l ih =>
    simp only [List.all_cons,Bool.and_eq_true] at h
    obtain ⟨ds,hds,hd1⟩:=ih h.2
    have h1:=h.1
    split at h1
    ·rename_i d; exact ⟨d::ds,by rw [hds]; rfl,by simp only [List.map_cons,List.all_cons,Bool.and_eq_true]; exact ⟨h1,hd1⟩⟩
    ·cases h1
  obtain ⟨ds,rfl,hd1⟩:=key
  have hfl:(ds.map (fun d=>[d])).flatten=ds:=by simp [← List.flatMap_def]
  rw [hfl]
  refine ⟨hd1,by simp,by cases ds <;> simp [eY],?_⟩
  simp only [chunk,List.length_map]
  refine List.ext_getElem (by simp) fun i h1 h2=>?_
  simp at h1 h2
  simp [List.take_one,List.head?_drop,h1]
 simp only [bKu,Bool.and_eq_true,decide_eq_true_eq] at h
 obtain ⟨q1,q2,q3,q4⟩:=hone els h.1
 refine aX (N:=8) aF Tryz.func103 rfl rfl rfl (by kernel_rfl) (by kernel_rfl) (by simp) ?_
 show AWP Tryz.prog (.seq _ (.seq (.seq _ (.cond _ _ _)) (.seq (.region _ _ _) _))) _ _
 have hb:∀ b,nL (.d (.sl els))=some b→b=none∧els=[]∨b=some false:=by
  intro b hb
  cases els with
  | nil=>simp [nL] at hb; exact .inl ⟨hb.symm,rfl⟩
  | cons=>simp [nL] at hb; exact .inr hb.symm
 have hl:els.length≤1099511627776:=h.2
 have e1:(els.flatten.map AV.d).length=els.length:=by rw [List.length_map]; exact q2
 cases els with
 | nil =>
  simp [AWP,OW,O1,dY,kind,nev,oev,St0,cv,cv1,bO,upd,iI,cnt,fin,Γ0,aKa,eO,nL,aUt,aT,xN,vM,eY,lE,mR,lC,gO,Tryz.f103,Option.bind,kill,chunk,Value.cells,Value.oneCell',jK,pX,eJ,eE,maxLen,frz]
 | cons x l =>
  generalize hE:x::l=els at *
  have hn:nL (.d (.sl els))=some (some false):=by rw [← hE]; rfl
  have m1:∀ (H:Nat→Option HO) n,(els.flatten.map AV.d).mapM (frz H (n+1))=some els.flatten:=fun H n=>oW H n _
  have m2:∀ l,(els.flatten.map AV.d).map (eJ l)=els.flatten.map AV.d:=fun l=>vQ l _
  have hsrc:∀ H,vM H 1 (.d (.sl els))=some (els.length,els.flatten.map AV.d):=fun H=>by
   simp only [vM]; rw [if_pos ⟨q3,q1⟩]
  generalize els.flatten.map AV.d=cs at *
  generalize els.flatten=fl at *
  have m3:cs.map (fun x=>eJ [1] x)=cs:=m2 [1]
  have p1:els.length * 4≤140737488355328:=by omega
  have p2:els.length≤9223372036854775807:=by omega
  have e2:cs.take els.length=cs:=by rw [← e1]; exact List.take_length
  simp [AWP,OW,O1,dY,kind,nev,oev,St0,cv,cv1,bO,upd,iI,cnt,fin,Γ0,aKa,eO,hn,aUt,aT,xN,hsrc,lE,mR,lC,gO,Tryz.f103,kill,Value.cells,Value.oneCell',jK,pX,maxLen,p1,p2]
  simp [eJ,iM,eE,e1,e2,m2,m1,q4]
theorem bLt:kH Tryz.prog 93:=by
 refine ⟨fun w=>enters_of Tryz.func93 (by kernel_rfl) rfl _ w,fun w=>?_⟩
 refine callsD_of_wpS Tryz.func93 rfl fun c₀ cs hu=>?_
 apply wpS_region
 simp [wpOpsS,go_sem,recoverD,hu,Tryz.ntmps93,bodyPostS,results,Tryz.results93]
 cases c₀; simp only at hu; subst hu; rfl
theorem bNv:kH Tryz.prog 108:=by
 refine ⟨fun w=>enters_of Tryz.func108 (by kernel_rfl) rfl _ w,fun w=>?_⟩
 refine callsD_of_wpS Tryz.func108 rfl fun c₀ cs hu=>?_
 apply wpS_region
 simp [wpOpsS,go_sem,recoverD,hu,Tryz.ntmps108,bodyPostS,results,Tryz.results108]
 cases c₀; simp only at hu; subst hu; rfl
def E0:Kn where
 call:=fun f ds=>if f=103 then (match ds with | [.sl els]=>if bKu els then some (.sl els) else none | _=>none) else none
 ocall:=fun _ _ _ _=>none
 keys:=fun f=>if f=127 then some 153 else none
 sorted:=fun f g=>f == 126 && g == 153
 recs:=fun g=>[
  93,
  108,
  ].contains g
theorem bMo:aCn Tryz.prog E0:=by
 refine ⟨fun f ds r h=>?_,fun f h o ds o' r h'=>(by cases h'),fun f g h=>?_,fun f g h=>?_,fun g h=>?_⟩
 ·simp only [E0] at h
  split at h
  ·rename_i hf; subst hf
   split at h
   ·split at h
    ·rename_i hc; injection h with h; subst h; exact aEj _ hc
    ·cases h
   ·cases h
  ·cases h
 ·simp only [E0] at h
  split at h
  ·rename_i hf; subst hf; injection h with h; subst h; exact Tryz.keys106
  ·cases h
 ·simp only [E0,Bool.and_eq_true,beq_iff_eq] at h
  obtain ⟨rfl,rfl⟩:=h
  exact Tryz.sorted122
 ·simp only [E0,List.contains_eq_mem,decide_eq_true_eq] at h
  simp only [List.mem_cons,List.not_mem_nil,or_false] at h
  rcases h with rfl | rfl | rfl | rfl | rfl | rfl | rfl | rfl
  ·exact bLt
  ·exact bNv
end Go.Am
end

section
set_option linter.unusedVariables false
set_option linter.unusedSimpArgs false
namespace Go.Am
attribute [simp] bKp bDt bRx aPe aQ aVp bOw aUt nL St0 bBm aZd bJd bHh bCk aVk gO aPi aLu bIw nB bKw bKv aNu bJi bJh bBn
 bBr bBo yT aCt aXf bGk bMw aXg aXe bGj aMi List.flatMap_nil vQ bIx aKj aRo bBd kY aJy bDz bKx bIh aUs bIg bAn bOk bAl bHs aCd
 aFu bAm bIf aNn aFw aFv aNm bAi bOj bOp bOo bOi bOh bAk aNl aNh bSu bSw bQg bSv aQg aYa aGs aBl oS bQy bQz
 bIb bIc bSm bSn bKo aWd bKy bKz bEd bOe bOg bHz bOd bOc bHx bHw bHv bHu bNz bOb bOa aWi aWh aOz aOy aOx aOw aWe
 aWg aWj aPb bLg bFe bGq aXj bCb aWl aUm aUl bBk bJg bBj bBi aOi aVr aNx aVi aNw aNy aVj bQb bEs bEg
 bEm bEk bEj bEr bEl bEn bEo bEp bEq bEi bEh aWn bGo bGp aUu bAr bPc bPb bJn bJq bRz bRy bOy bPa bOx bHa aTr aYh
 aTs aTq aTp aYj aYk aYm aYn aYi aYo aMz aTt aNa aMy aMx aIf aXu aXv bGt aXt aFl aNk aJn bFc aZv bLd
 aUj aUk bFb bFa aVc aVe bBc aMr aTm aZc aTy aZb bBt bBs aWs aWr bDw bDv aUf aUg jD aVq aOh aOg
 aMv aTo aFa bMr qC tF iM bCw bJu bPf bPg lN bX aIk aCw aHz aHy aMo bGr bNe eI gQ jE aXq bGs aLm
 aGq
theorem KW:type_of% (And.intro @aLq (And.intro @xD (And.intro @aSq (And.intro @aEq (And.intro @aLr (And.intro @aSr (And.intro @aEo (And.intro @aEm (And.intro @aEp (And.intro @aEn (And.intro @mZ (And.intro @aJi (And.intro @aJh (And.intro @aRb (And.intro @wU (And.intro @aDp (And.intro @aRa (And.intro @aJx (And.intro @bAh (And.intro @aJv (And.intro @sC (And.intro @tP (And.intro @zO (And.intro @aJw (And.intro @aQz (And.intro @zQ (And.intro @tR (And.intro @aJs (And.intro @tQ (And.intro @zP (And.intro @aJr (And.intro @bAf (And.intro @bAe (And.intro @bAd (And.intro @aRc (And.intro @aDm (And.intro @aJq (And.intro @tO (And.intro @aDn (And.intro @aDq (And.intro @aDo (@aRd)))))))))))))))))))))))))))))))))))))))))) :=
 And.intro @aLq (And.intro @xD (And.intro @aSq (And.intro @aEq (And.intro @aLr (And.intro @aSr (And.intro @aEo (And.intro @aEm (And.intro @aEp (And.intro @aEn (And.intro @mZ (And.intro @aJi (And.intro @aJh (And.intro @aRb (And.intro @wU (And.intro @aDp (And.intro @aRa (And.intro @aJx (And.intro @bAh (And.intro @aJv (And.intro @sC (And.intro @tP (And.intro @zO (And.intro @aJw (And.intro @aQz (And.intro @zQ (And.intro @tR (And.intro @aJs (And.intro @tQ (And.intro @zP (And.intro @aJr (And.intro @bAf (And.intro @bAe (And.intro @bAd (And.intro @aRc (And.intro @aDm (And.intro @aJq (And.intro @tO (And.intro @aDn (And.intro @aDq (And.intro @aDo (@aRd)))))))))))))))))))))))))))))))))))))))))
end Go.Am
end

section
set_option linter.unusedVariables false
set_option linter.unusedSimpArgs false
namespace Go.Am
open RowKit (Below)
def OA (P:Program) (ops:Array Oper) (k:St→Prop):Nat→Array Bool→St→Prop
 | 0,listed,σ=>Region.ready .any ops listed=[]∧k σ
 | fuel+1,listed,σ=>(Region.ready .any ops listed=[]→k σ)∧∀ i∈Region.ready .any ops listed,match ops[i]? with
   | none=>OA P ops k fuel (listed.setIfInBounds i true) σ
   | some o=>OW P ops [o] σ [] fun σ' con=>OA P ops k fuel (listed.setIfInBounds i true) (fin σ' con)
section
variable {P:Program} {G:Ctx} {N:Nat} {ds:List Deferred} {ops:Array Oper}
theorem aBy {Q:St→Prop} {Q':Exit→Act→World→Prop} (hno:oT ops.toList=true) (hdst:∀ (i:Nat) (o:Oper) (d:Tmp),ops[i]? = some o→o.dst=some d→d<N∧G.Z d=none) (hQ:∀ σ a w,Q σ→SR G N ds σ a w→Q' .normal a w) :
  ∀ (fuel:Nat) (listed:Array Bool) (σ:St) (a:Act) (w:World),SR G N ds σ a w→OA P ops Q fuel listed σ→wpA P ops Q' fuel listed a w
 | 0,_,σ,a,w,hs,h=>⟨h.1,hQ σ a w h.2 hs⟩
 | fuel+1,listed,σ,a,w,hs,h=>by
  refine ⟨fun h0=>hQ σ a w (h.1 h0) hs,fun i hi=>?_⟩
  have h1:=h.2 i hi
  split
  ·rename_i ho
   simp only [ho] at h1
   exact aBy hno hdst hQ fuel _ σ a w hs h1
  ·rename_i o ho
   simp only [ho] at h1
   obtain ⟨hn0,hwf,hag⟩:=vC hs
   obtain ⟨fb,hfb⟩:=qS (G:=G) [o] σ [] (by
    have h0:o∈ops.toList:=by rw [Array.mem_toList_iff]; exact Array.mem_of_getElem? ho
    have:=List.all_eq_true.1 hno o h0
    simpa [oT] using this) hn0 hwf h1
   obtain ⟨g1,g2⟩:=hag (fun i=>if i<σ.n then σ.H i else fb i) (fun i o hi=>by
    rcases Nat.lt_or_ge i σ.n with hlt | hge
    ·rw [if_pos hlt]; exact hi
    ·rw [hwf.top i hge] at hi; cases hi)
   obtain ⟨s',hd,σ',con',hoa,hn',hwf',hag'⟩:=hfb _ g1 (fun i hi=>by simp only; rw [if_neg (by omega)])
   exact sU (K:=wpA P ops Q' fuel (listed.setIfInBounds i true)) (Q':=Q') hd (fun d h=>hdst i o d ho h) g2 fun a' w' hr'=>aBy hno hdst hQ fuel _ _ a' w' (aHc hn' hwf' hag' hr') hoa
def bSt (P:Program):Code→St→(St→Prop)→Prop
 | .region _ ops true,σ,k=>OA P ops k ops.size (Array.replicate ops.size false) σ
 | _,_,_=>False
def aWv (P:Program):Code→St→(Exit→St→Prop)→Prop
 | .seq x (.seq y z),σ,Q=>AWP P x σ fun e σ'=>match e with | .normal=>aWv P (.seq y z) σ' Q | e=>Q e σ'
 | .seq x .ret,σ,Q=>bSt P x σ (Q .ret)
 | _,_,_=>False
def qP (P:Program):Code→Bool
 | .seq x (.seq y z)=>eB P x && qP P (.seq y z)
 | .seq (.region _ ops true) .ret=>oT ops.toList
 | _=>false
theorem aPt (hm:P.follows .mixedOrders=true) (hZ:∀ d,G.Z d=none):∀ (c:Code) (Q:Exit→St→Prop) (σ:St) (a:Act) (w:World),dU N c=true→qP P c=true→aWv P c σ Q→SR G N ds σ a w →
  c.wp P (fun e a' w'=>∃ σ',Q e σ'∧SR G N ds σ' a' w') a w:=by
 intro c
 induction c with
 | seq x y ihx ihy =>
  intro Q σ a w hd hl h hs
  simp only [dU,Bool.and_eq_true] at hd
  cases y with
  | seq y z =>
   simp only [qP,Bool.and_eq_true] at hl
   refine wp_seq (wp_mono (gU hm hZ x _ σ a w hd.1 hl.1 h hs) ?_)
   rintro e a' w' ⟨σ',hq,hs'⟩
   cases e with
   | normal=>exact ihy Q σ' a' w' hd.2 hl.2 hq hs'
   | _=>exact ⟨σ',hq,hs'⟩
  | ret =>
   unfold qP at hl
   split at hl
   ·rename_i he; cases he
   ·rename_i id ops he
    injection he with he1 _; subst he1
    have h':OA P ops (Q .ret) ops.size (Array.replicate ops.size false) σ:=h
    refine wp_seq ((WpR.plain P).regA hm (fun e=>by cases e) (aBy (Q:=Q .ret) (N:=N) (ds:=ds) (G:=G) hl (fun i o d hi hd'=>⟨qA hd.1 i o d hi hd',hZ d⟩) (fun σ' a' w' hq hs'=>?_) _ _ σ _ _ ?_ h'))
    ·exact wp_ret ⟨σ',hq,hs'⟩
    ·obtain ⟨q1,q2,F,ι,hR,hdom,hV,hN,hds,hp⟩:=hs
     have hs:Step F w ι F { w with drawn:=w.drawn+1 } ι:=⟨fun _ h=>h,fun _ _=>rfl,fun _ _ h=>h,fun _ _ cur _ _ h=>⟨cur,h,rfl⟩⟩
     refine ⟨q1,q2,F,ι,⟨hR.kept.trans ⟨rfl,rfl,rfl,Nat.le_refl _,fun _ _ _=>rfl,fun _ cur _ _ h=>⟨cur,h,rfl⟩⟩,hR.F_lt,hR.F_ok,hR.place,fun id b o h1 h2=>?_,hR.inj,hR.len⟩,hdom,fun t=>(hV t).step hs,hN,hds,hp⟩
     obtain ⟨ob,h3,h4⟩:=hR.obj id b o h1 h2
     exact ⟨ob,h3,h4.step hs⟩
   ·cases hl
  | _=>exact h.elim
 | _=>intro Q σ a w _ _ h; exact h.elim
theorem aXy {f N:Nat} {fn:Func} {c:Code} {args:List D} {r:D} (hm:P.follows .mixedOrders=true) (hf:P.funcs[f]? = some fn) (hb:fn.body=some c) (hname:(fn.name == "runtime.NumGoroutine")=false) (hN:fn.ntmps=N)
  (hd:dU N c=true) (hl':qP P c=true) (ha:args.length≤N) (h:aWv P c (St0 args N) fun e σ=>(e=.normal∨e=.ret)∧mR P fn.results.toList σ=some r):Spec P f args r:=by
 intro A W vs hA hl hv
 have hn:¬ fn.name = "runtime.NumGoroutine" := by simpa using hname
 refine ⟨fun w=>by simp [callFunc,hf,hn,hb],?_⟩
 refine calls_of_wp hf hb ?_
 subst hN
 refine wp_mono (aPt hm (fun _=>rfl) c _ _ _ _ hd hl' h (SR0 hA hl hv ha)) ?_
 rintro e a w ⟨σ,⟨he,hr⟩,hs⟩
 obtain ⟨v,hrun,hvd⟩:=jL hs hr
 obtain ⟨_,_,F,ι,hR,_,_,_,hdf,_⟩:=hs
 have hend:a.defers=[]∧∃ v,(results fn a.tmps).run P w=.ok v w∧∃ v',Ending.returned v=.returned v'∧Below W.heap.size W w∧VD (fun b=>A b∨(W.heap.size≤b∧b<w.heap.size)) w r v':=by
  refine ⟨hdf,v,hrun,v,rfl,⟨hR.kept.os,hR.kept.tape,hR.kept.output,hR.kept.size,fun k hk=>hR.kept.block k hk (fun h=>h)⟩,hvd.mono ?_⟩
  rintro b (h | h | h)
  ·exact .inl h
  ·exact h.elim
  ·exact .inr h
 rcases he with rfl | rfl <;> exact hend
def OAd (P:Program) (ops:Array Oper) (k:St→Prop) (fuel:Nat) (listed:Array Bool) (σ:St) (_:Dm (ops,k)):Prop:=OA P ops k fuel listed σ
theorem aM (x y z:Code) (σ:St) (Q:Exit→St→Prop):aWv P (.seq x (.seq y z)) σ Q=AWP P x σ fun e σ'=>match e with | .normal=>aWv P (.seq y z) σ' Q | e=>Q e σ':=rfl
theorem aN (id:Nat) (l:List Oper) (σ:St) (Q:Exit→St→Prop):aWv P (.seq (.region id l.toArray true) .ret) σ Q=OAd P l.toArray (Q .ret) l.length (Array.replicate l.length false) σ .mk:=rfl
theorem bR {k:St→Prop} {fuel:Nat} {listed:Array Bool} {σ:St} {d:Dm (ops,k)} (i:Nat) {o:Oper} (hr:Region.ready .any ops listed=[i]) (ho:ops[i]? = some o)
  (h:OWd P ops [o] σ [] (fun σ' con=>aCo σ' con (fun σ2=>OAd P ops k fuel (listed.setIfInBounds i true) σ2 .mk) .mk) .mk):OAd P ops k (fuel+1) listed σ d:=by
 refine ⟨fun e=>(by rw [hr] at e; cases e),fun j hj=>?_⟩
 rw [hr] at hj
 simp only [List.mem_singleton] at hj
 subst hj
 simp only [ho]; exact h
theorem lJ {k:St→Prop} {fuel:Nat} {listed:Array Bool} {σ:St} {d:Dm (ops,k)} (i j:Nat) {o o':Oper} (hr:Region.ready .any ops listed=[i,j]) (ho:ops[i]? = some o) (ho':ops[j]? = some o')
  (h:OWd P ops [o] σ [] (fun σ' con=>aCo σ' con (fun σ2=>OAd P ops k fuel (listed.setIfInBounds i true) σ2 .mk) .mk) .mk)
  (h':OWd P ops [o'] σ [] (fun σ' con=>aCo σ' con (fun σ2=>OAd P ops k fuel (listed.setIfInBounds j true) σ2 .mk) .mk) .mk):OAd P ops k (fuel+1) listed σ d:=by
 refine ⟨fun e=>(by rw [hr] at e; cases e),fun m hm=>?_⟩
 rw [hr] at hm
 simp only [List.mem_cons,List.mem_nil_iff,or_false] at hm
 rcases hm with rfl | rfl
 ·simp only [ho]; exact h
 ·simp only [ho']; exact h'
theorem gV {k:St→Prop} {listed:Array Bool} {σ:St} {d:Dm (ops,k)} (hr:Region.ready .any ops listed=[]) (h:k σ):OAd P ops k 0 listed σ d:=⟨hr,h⟩
end
end Go.Am
end

section
set_option linter.unusedVariables false
set_option linter.unusedSimpArgs false
namespace Go.Am
open RowKit (Below)
variable {P:Program}
theorem aYq {G:Ctx} {fn:Func} {σ:St} {a:Act} {w:World} {rv:ResultVar} {av:AV} {F:Nat→Prop} {ι:Nat→Option Nat} (hR:HR G F w ι bQ σ.H) (hV:∀ t,V F w ι (σ.Γ t) (a.tmps.getD t undef)) (hres:fn.results.toList=[rv]) (h:lC P σ rv=some av) :
  ∃ v,(results fn a.tmps).run P w=.ok v w∧V F w ι av v:=by
 cases rv with
 | cell ad t=>exact bHd hR hV hres h
 | tmp t =>
  simp only [lC,Option.some.injEq] at h
  subst h
  refine ⟨a.tmps.getD t undef,?_,hV t⟩
  have h1':([ResultVar.tmp t].mapM (m:=Sem) fun | .tmp t=>pure (a.tmps.getD t undef) | .cell ad t=>do loadVar t (← asAddr (a.tmps.getD ad undef))).run P w=.ok [a.tmps.getD t undef] w:=by
   simp only [List.mapM_cons,List.mapM_nil,Sem.run_bind,Result.andThen_ok,Sem.run_pure]
  simp only [results,Array.mapM_eq_mapM_toList,Sem.run_bind,Sem.run_map,hres]
  erw [h1']
  simp
theorem qD {f N:Nat} {fn:Func} {c:Code} {args:List D} {v:Nat→AV} {hs:Nat→List HO} {rv:ResultVar} (hm:P.follows .mixedOrders=true) (hf:P.funcs[f]? = some fn) (hb:fn.body=some c) (hname:(fn.name == "runtime.NumGoroutine")=false)
  (hN:fn.ntmps=N) (hN0:0<N) (hd:dU N c=true) (hl':eB P c=true) (ha:args.length≤N) (hres:fn.results.toList=[rv])
  (h:AWP P c (St0 args N) fun e σ=>(e=.normal∨e=.ret)∧dM (lC P σ rv) (fun av=>∀ m,0<m→∃ ρ,Wk ⟨upd σ.Γ 0 av,σ.H,σ.n⟩ (iT v hs m) ρ) .mk):vE P f args v hs:=by
 intro A W vs hA hl hv
 have hn:¬ fn.name = "runtime.NumGoroutine" := by simpa using hname
 refine ⟨fun w=>by simp [callFunc,hf,hn,hb],?_⟩
 refine calls_of_wp hf hb ?_
 subst hN
 refine wp_mono (gU hm (fun _=>rfl) c _ _ _ _ hd hl' h (SR0 hA hl hv ha)) ?_
 rintro e a w ⟨σ,⟨he,hr⟩,hs1⟩
 obtain ⟨htop,hn0,F,ι,hR,hdom,hV,hN2,hdf,hp⟩:=hs1
 cases hav:lC P σ rv with
 | none=>rw [hav] at hr; exact hr.elim
 | some av =>
 rw [hav] at hr
 simp only [dM] at hr
 obtain ⟨u,hrun,hvu⟩:=aYq hR hV hres hav
 have hput:SR ⟨W,A,bQ,fun _=>True,fun _=>none⟩ fn.ntmps [] ⟨upd σ.Γ 0 av,σ.H,σ.n⟩ (a.put (some 0) u) w:=by
  refine ⟨htop,hn0,F,ι,hR,hdom,fun t'=>?_,⟨by simp [Act.put,hN2.1],fun _ _ h=>by cases h⟩,by simp [Act.put,hdf],hp⟩
  rw [iX a (some 0) u (fun d hd=>by injection hd with hd; subst hd; rw [hN2.1]; exact hN0) t']
  by_cases e0:t'=0
  ·subst e0; rw [if_pos rfl]; simp only [cZ]; exact hvu
  ·rw [if_neg (fun e=>e0 (by injection e with e; exact e.symm))]; simp only; rw [dF _ _ e0]; exact hV t'
 have hend:a.defers=[]∧∃ u,(results fn a.tmps).run P w=.ok u w∧∃ u',Ending.returned u=.returned u'∧Below W.heap.size W w∧∀ m,0<m→∃ (F:Nat→Prop) (ι:Nat→Option Nat),
   (∀ b,F b→A b∨(W.heap.size≤b∧b<w.heap.size))∧V F w ι (v m) u'∧(∀ id,(∃ b,ι id=some b)↔(m≤id∧id<m+(hs m).length)) ∧
   (∀ id b,ι id=some b→W.heap.size≤b∧b<w.heap.size∧¬ F b) ∧
   (∀ i o b,(hs m)[i]? = some o→ι (m+i)=some b→∃ ob,w.heap[b]? = some ob∧CR F w ι o ob) ∧
   (∀ id id' b,ι id=some b→ι id'=some b→id=id'):=by
  refine ⟨hdf,u,hrun,u,rfl,⟨hR.kept.os,hR.kept.tape,hR.kept.output,hR.kept.size,fun k hk=>hR.kept.block k hk (fun h=>h)⟩,fun m hm0=>?_⟩
  obtain ⟨ρ,hw⟩:=hr m hm0
  obtain ⟨_,_,F2,ι2,hR2,hdom2,hV2,_,_,_⟩:=yN hw hput
  have hout:∀ id,((iT v hs m).H id).isSome=true↔(m≤id∧id<m+(hs m).length):=fun id=>by
   simp only [iT,hJ]
   by_cases hr:m≤id∧id<m+(hs m).length
   ·rw [if_pos hr,List.getElem?_eq_getElem (by omega)]; simp [hr]
   ·rw [if_neg hr]; simp [hr]
  refine ⟨F2,ι2,fun b hb'=>?_,?_,fun id=>by rw [hdom2,hout],fun id b hb'=>?_,fun i o b ho hb'=>?_,fun id id' b e1 e2=>hR2.inj id id' b e1 e2 (fun h=>h) (fun h=>h)⟩
  ·rcases hR2.F_ok b hb' with h | h | h
   ·exact .inl h
   ·exact h.elim
   ·exact .inr ⟨h,hR2.F_lt b hb'⟩
  ·have:=hV2 0
   rw [iX a (some 0) u (fun d hd=>by injection hd with hd; subst hd; rw [hN2.1]; exact hN0) 0,if_pos rfl] at this
   simpa [iT,cZ] using this
  ·obtain ⟨q1,q2,q3⟩:=hR2.place id b hb'
   rcases q1 with q1 | q1
   ·exact q1.elim
   ·exact ⟨q1,q2,q3 (fun h=>h)⟩
  ·have hi:=(List.getElem?_eq_some_iff.1 ho).1
   refine hR2.obj (m+i) b o hb' ?_
   simp only [iT,hJ]
   rw [if_pos ⟨by omega,by omega⟩,show m+i - m=i by omega]; exact ho
 rcases he with rfl | rfl <;> exact hend
end Go.Am
end

section
set_option linter.unusedVariables false
set_option linter.unusedSimpArgs false
open List (map_map mapM_map)
open Go Go.Am Go.Proofs
namespace Go.Am
theorem pG {raw:List Nat} {n:Nat} (hn:n<raw.length) (h0:raw[n]≠0):strip (raw.take (n+1))=raw.take (n+1):=by
 refine pW ?_
 rw [List.take_add_one,List.getElem?_eq_getElem hn,mP,Option.toList_some,List.getLast?_append]
 simp [h0]
theorem pF {raw:List Nat} {n:Nat} (hn:n<raw.length) (h0:raw[n]=0):strip (raw.take (n+1))=strip (raw.take n):=by
 rw [List.take_add_one,List.getElem?_eq_getElem hn,h0]
 exact zA _
set_option maxRecDepth 10000 in
theorem fN (raw:List Nat) (neg:Bool) (hl:raw.length≤1099511627776):Spec Tryz.prog 78 [aG raw,.b neg] (encI (neg && decide (strip raw≠[])) (strip raw)):=by
 refine aX (N:=31) aF Tryz.func78 rfl rfl rfl (by kernel_rfl) (by kernel_rfl) (by simp) ?_
 simp [-map_map,-mapM_map,↓KW,aG]
 refine qF (τ:={ n:Nat // n≤raw.length∧strip (raw.take n)=strip raw }) (S:=fun n=>StL [(0,.d (aG raw)),(1,.d (.b neg)),(4,.ptr 1 0),(5,.d (.i .i64 n.1))] none [.cells 69 [.d (.b false),.nil]]) (m:=fun n=>n.1) ⟨raw.length,Nat.le_refl _,by simp⟩ ?_ ?_
 ·refine bB [1] (by simp) ?_ ?_
  ·simp [-map_map,upd,aT,Γ0,aG]
  ·simp [-map_map,upd,aT,Γ0]
 ·rintro ⟨n,hn,hs⟩
  rcases n with _ | n
  ·have hs':strip raw=[]:=hs.symm
   cases neg <;> simp [-map_map,-mapM_map,↓KW,aG,encI,hs',chunk]
  ·have hx:raw[n]? = some raw[n]:=List.getElem?_eq_getElem hn
   have hw:IntKind.i64.wrap (n:Int)=n:=aS (by omega) (by omega)
   have hp:(0:Int)<(n:Int)+1:=by omega
   by_cases h0:raw[n]=0
   ·simp [-map_map,-mapM_map,↓KW,aG,hx,hw,h0,hp]
    refine ⟨n,by omega,⟨by omega,(pF hn h0).symm.trans hs⟩,.inr (bB [1] (by simp) ?_ ?_)⟩ <;> simp [-map_map,upd,aT,Γ0,aG]
   ·have h1:((raw[n]:Int) == 0)=false:=by simp; omega
    have he:strip raw=raw.take (n+1):=hs.symm.trans (pG hn h0)
    have hp2:(0:Int)≤(n:Int)+1:=by omega
    have hn':(n:Int)+1≤raw.length:=by omega
    obtain ⟨pre,hpre⟩:∃ pre,raw.take (n+1)=pre:=⟨_,rfl⟩
    have hpl:pre.length=n+1:=by rw [← hpre]; simp; omega
    have hp1:∀ f:Nat→List D,(raw.map f).take (n+1)=pre.map f:=fun f=>by rw [← hpre,List.map_take]
    have hpn:pre≠[]:=fun e=>by rw [e] at hpl; cases hpl
    rw [hpre] at he
    have hb:(n+1) * 4≤140737488355328:=by omega
    have hb2:n+1≤maxLen:=by unfold maxLen; omega
    cases neg <;> simp [-map_map,-mapM_map,↓KW,aG,encI,hx,hw,h1,hp,hp2,he,hn',hp1,hpl,hpn,fL hpl,dZ hpl,aKj,aRo,kY,hb,hb2]
theorem dV {raw:List Nat} (h:Lim raw) (neg:Bool):encI (neg && decide (strip raw≠[])) (strip raw)=encZ (sg neg (val raw)):=by
 rw [gL h,← bKl]
 simp [fU]
set_option maxRecDepth 10000 in
theorem wR (n:Int) (h1:-9223372036854775808≤n) (h2:n<9223372036854775808):Spec Tryz.prog 28 [.i .i64 n] (encZ n):=by
 refine aX (N:=19) aF Tryz.func28 rfl rfl rfl (by kernel_rfl) (by kernel_rfl) (by simp) ?_
 have key:∀ (u:Nat),u<18446744073709551616→∃ lo hi:Nat,Lim [lo,hi]∧val [lo,hi]=u∧IntKind.u32.wrap (u:Int)=lo∧jF .shr .u64 (u:Int) 32=some (.i .u64 hi)∧IntKind.u32.wrap (hi:Int)=hi:=fun u hu=>by
  refine ⟨u % 4294967296,u / 4294967296,.cons (by omega) (.one (by omega)),by simp only [val]; omega,by rw [gR]; omega,?_,by rw [iR (by omega) (by omega)]⟩
  simp only [jF,IntKind.bits]
  rw [if_neg (by decide)]
  congr 2
  rw [show (2:Int) ^ (min (32:Int).toNat 64)=4294967296 from by decide,Int.fdiv_eq_ediv_of_nonneg _ (by decide)]
  omega
 by_cases hn:n<0
 ·obtain ⟨u,hu⟩:∃ u:Nat,n=-(u:Int):=⟨n.natAbs,by omega⟩
  have hu2:u<18446744073709551616:=by omega
  have e1:IntKind.u64.wrap n=n+18446744073709551616:=by rw [vF]; omega
  have e2:IntKind.u64.wrap (-(n+18446744073709551616))=(u:Int):=by rw [vF]; omega
  obtain ⟨lo,hi,k1,k2,e3,e4,e5⟩:=key u hu2
  simp [-map_map,-mapM_map,↓KW,hn,e1,e2,e3,e4,e5]
  have hm:=fN [lo,hi] true (by simp)
  rw [dV k1,k2,show sg true u=n by simp [sg]; omega] at hm
  refine aA (ds:=[aG [lo,hi],.b true]) ?_ hm ?_
  ·simp [-map_map,-mapM_map,↓KW,aG]
  ·simp [-map_map,-mapM_map,↓KW,aG,encZ,encI]
 ·obtain ⟨u,rfl⟩:∃ u:Nat,n=(u:Int):=⟨n.natAbs,by omega⟩
  have hu2:u<18446744073709551616:=by omega
  have e1:IntKind.u64.wrap (u:Int)=u:=bL (by omega) (by omega)
  obtain ⟨lo,hi,k1,k2,e3,e4,e5⟩:=key u hu2
  simp [-map_map,-mapM_map,↓KW,hn,e1,e3,e4,e5]
  have hm:=fN [lo,hi] false (by simp)
  rw [dV k1,k2,show sg false u=u by simp [sg]] at hm
  refine aA (ds:=[aG [lo,hi],.b false]) ?_ hm ?_
  ·simp [-map_map,-mapM_map,↓KW,aG]
  ·simp [-map_map,-mapM_map,↓KW,aG,encZ,encI]
end Go.Am
end

section
set_option linter.unusedVariables false
set_option linter.unusedSimpArgs false
open List (map_map mapM_map)
open Go Go.Am Go.Proofs
namespace Go.Am
set_option maxRecDepth 10000 in
theorem bHq (neg:Bool) (m:List Nat):Spec Tryz.prog 63 [encI neg m] (.i .i64 (if m=[] then 0 else if neg then -1 else 1)):=by
 refine aX (N:=9) aF Tryz.func63 rfl rfl rfl (by kernel_rfl) (by kernel_rfl) (by simp) ?_
 cases m with
 | nil=>simp [-map_map,-mapM_map,↓KW,encI,aG]
 | cons x m =>
  have h1:(((m.length:Int)+1 == 0):Bool)=false:=by simp; omega
  cases neg <;> simp [-map_map,-mapM_map,↓KW,encI,aG,h1]
theorem eN (z:Int):Spec Tryz.prog 63 [encZ z] (.i .i64 z.sign):=by
 have:=bHq (decide (z<0)) (aW z.natAbs)
 have e:(if aW z.natAbs=[] then (0:Int) else if (decide (z<0))=true then -1 else 1)=z.sign:=by
  simp only [fU]
  rcases Int.lt_trichotomy z 0 with h | h | h
  ·rw [if_neg (by omega),if_pos (by simpa using h),Int.sign_eq_neg_one_of_neg h]
  ·subst h; rfl
  ·rw [if_neg (by omega),if_neg (by simp; omega),Int.sign_eq_one_of_pos h]
 rwa [e] at this
set_option maxRecDepth 10000 in
theorem aZq (neg:Bool) (m:List Nat) (hl:m.length≤1099511627776):Spec Tryz.prog 96 [encI neg m] (.b (match m.getLast? with | some x=>x != 0 | none=>!neg)):=by
 refine aX (N:=19) aF Tryz.func96 rfl rfl rfl (by kernel_rfl) (by kernel_rfl) (by simp) ?_
 rcases List.eq_nil_or_concat m with rfl | ⟨m',x,rfl⟩
 ·simp [-map_map,-mapM_map,↓KW,encI,aG]
 ·have hw:IntKind.i64.wrap (m'.length:Int)=m'.length:=by simp at hl; rw [aS] <;> omega
  have h1:(((m'.length:Int)+1 == 0):Bool)=false:=by simp; omega
  have hg:(List.map (fun (x:Nat)=>[D.i .u32 (x:Int)]) m'++[[D.i .u32 (x:Int)]])[m'.length]? = some [D.i .u32 (x:Int)]:=by
   rw [List.getElem?_append_right (by simp)]; simp
  simp [-map_map,-mapM_map,↓KW,encI,aG,hw,h1,hg]
  rw [Bool.eq_iff_iff]; simp
theorem aDe (z:Int) (hl:(aW z.natAbs).length≤1099511627776):Spec Tryz.prog 96 [encZ z] (.b true):=by
 have:=aZq (decide (z<0)) (aW z.natAbs) hl
 have e:(match (aW z.natAbs).getLast? with | some x=>x != 0 | none=>!(decide (z<0)))=true:=by
  have hc:=mM z.natAbs
  unfold mP at hc
  cases h:(aW z.natAbs).getLast? with
  | none =>
   have:=fU.1 (List.getLast?_eq_none_iff.1 h)
   simp; omega
  | some x=>rw [h] at hc; simpa using hc
 rwa [e] at this
def nZ (a b:List Nat):Bool:=if a.length=b.length then decide (val a<val b) else decide (a.length<b.length)
theorem jG (x y:Nat):nZ (aW x) (aW y)=decide (x<y):=by
 unfold nZ
 by_cases h:(aW x).length=(aW y).length
 ·rw [if_pos h,cR,cR]
 ·rw [if_neg h]
  by_cases h1:(aW x).length<(aW y).length
  ·simp [h1,iK h1]
  ·have:=iK (a:=y) (b:=x) (by omega)
   simp only [h1,decide_false]
   simp; omega
set_option maxRecDepth 10000 in
theorem xZ (a b:List Nat) (ha:Lim a) (hb:Lim b) (hla:a.length≤1099511627776) (hlb:b.length≤1099511627776):Spec Tryz.prog 97 [aG a,aG b] (.b (nZ a b)):=by
 refine aX (N:=41) aF Tryz.func97 rfl rfl rfl (by kernel_rfl) (by kernel_rfl) (by simp) ?_
 by_cases hn:a.length=b.length
 rotate_left
 ·have h1:(((a.length:Int) != b.length):Bool)=true:=by simp; omega
  simp [-map_map,-mapM_map,↓KW,aG,h1,nZ,hn]
 ·have h1:(((a.length:Int) != b.length):Bool)=false:=by simp; omega
  have hw:IntKind.i64.wrap ((a.length:Int) - 1)=(a.length:Int) - 1:=aS (by omega) (by omega)
  simp [-map_map,-mapM_map,↓KW,aG,h1,hw]
  refine qF (τ:={ k:Nat // k≤a.length∧a.drop k=b.drop k }) (S:=fun k=>StL [(0,.d (aG a)),(1,.d (aG b)),(5,.d (.i .i64 ((k.1:Int) - 1)))] none []) (m:=fun k=>k.1) ⟨a.length,Nat.le_refl _,by rw [List.drop_eq_nil_of_le (Nat.le_refl _),List.drop_eq_nil_of_le (by omega)]⟩ ?_ ?_
  ·refine bB [] (by simp) ?_ ?_ <;> simp [-map_map,upd,aT,Γ0,aG]
  ·rintro ⟨k,hk,hd⟩
   rcases k with _ | k
   ·have e:a=b:=by simpa using hd
    subst e
    simp [-map_map,-mapM_map,↓KW,aG,nZ]
   ·have hkb:k<b.length:=by omega
    have hxa:a[k]? = some a[k]:=List.getElem?_eq_getElem hk
    have hxb:b[k]? = some b[k]:=List.getElem?_eq_getElem hkb
    have hw2:IntKind.i64.wrap ((k:Int) - 1)=(k:Int) - 1:=aS (by omega) (by omega)
    have hp:(0:Int)≤k:=by omega
    by_cases he:a[k]=b[k]
    ·have h2:(((a[k]:Int) != (b[k]:Int)):Bool)=false:=by simp [he]
     simp [-map_map,-mapM_map,↓KW,aG,hxa,hxb,hw2,hp,h2]
     refine ⟨k,by omega,⟨by omega,?_⟩,.inr (bB [] (by simp) ?_ ?_)⟩
     ·rw [List.drop_eq_getElem_cons hk,List.drop_eq_getElem_cons hkb,he,hd]
     ·simp [-map_map,upd,aT,Γ0,aG]
     ·trivial
    ·have h2:(((a[k]:Int) != (b[k]:Int)):Bool)=true:=by simp; omega
     simp [-map_map,-mapM_map,↓KW,aG,hxa,hxb,hw2,hp,h2,nZ,hn]
     have ga:a.getD k 0=a[k]:=by rw [List.getD_eq_getElem?_getD,hxa]; rfl
     have gb:b.getD k 0=b[k]:=by rw [List.getD_eq_getElem?_getD,hxb]; rfl
     rcases Nat.lt_or_ge a[k] b[k] with hlt | hge
     ·have:=qY ha (i:=k) hn hk hd (by rw [ga,gb]; exact hlt)
      simp [hlt,this]
     ·have:=qY hb (i:=k) hn.symm hkb hd.symm (by rw [ga,gb]; omega)
      omega
set_option maxRecDepth 10000 in
theorem aIz (x y:Int) (hx:(aW x.natAbs).length≤1099511627776) (hy:(aW y.natAbs).length≤1099511627776):Spec Tryz.prog 53 [encZ x,encZ y] (.b (decide (x=y))):=by
 refine aX (N:=26) aF Tryz.func53 rfl rfl rfl (by kernel_rfl) (by kernel_rfl) (by simp) ?_
 have l1:=xZ _ _ (cC x.natAbs) (cC y.natAbs) hx hy
 have l2:=xZ _ _ (cC y.natAbs) (cC x.natAbs) hy hx
 rw [jG] at l1 l2
 unfold encZ encI
 generalize aW x.natAbs=a at *
 generalize aW y.natAbs=b at *
 by_cases hs:decide (x<0)=decide (y<0)
 rotate_left
 ·have h1:(decide (x<0) == decide (y<0))=false:=by simpa using hs
  have h2:¬ x=y:=fun e=>hs (by rw [e])
  simp [-map_map,-mapM_map,↓KW,aG,h1,h2]
 ·have h1:(decide (x<0) == decide (y<0))=true:=by simpa using hs
  simp [-map_map,-mapM_map,↓KW,aG,h1]
  refine aA (ds:=[aG a,aG b]) (by rfl) l1 ?_
  by_cases h3:x.natAbs<y.natAbs
  ·have h2:¬ x=y:=fun e=>by rw [e] at h3; omega
   simp [-map_map,-mapM_map,↓KW,aG,h3,h2]
  ·simp [-map_map,-mapM_map,↓KW,aG,h3]
   refine aA (ds:=[aG b,aG a]) (by rfl) l2 ?_
   simp [-map_map,-mapM_map,↓KW,aG]
   have hs':x<0↔y<0:=by simpa using hs
   rw [Bool.eq_iff_iff]
   simp
   omega
end Go.Am
end

section
set_option linter.unusedVariables false
set_option linter.unusedSimpArgs false
open List (map_map mapM_map)
open Go Go.Am Go.Proofs
namespace Go.Am
def plS (a b:List Nat):Nat→List Nat × Nat
 | 0=>([],0)
 | i+1=>((plS a b i).1++[((plS a b i).2+a.getD i 0+b.getD i 0) % 4294967296],((plS a b i).2+a.getD i 0+b.getD i 0) / 4294967296)
theorem lO {a b:List Nat} (ha:Lim a) (hb:Lim b):∀ i,(plS a b i).1.length=i∧(plS a b i).2≤1∧Lim (plS a b i).1∧val (plS a b i).1+4294967296 ^ i * (plS a b i).2=val (a.take i)+val (b.take i)
 | 0=>⟨rfl,Nat.zero_le _,.nil,by simp [plS,val]⟩
 | i+1=>by
  obtain ⟨h1,h2,h3,h4⟩:=lO ha hb i
  have ha':=ha.getD i
  have hb':=hb.getD i
  simp only [plS]
  generalize (plS a b i).1=out at *
  generalize (plS a b i).2=c at *
  refine ⟨by simp [h1],by omega,h3.app (.one (by omega)),?_⟩
  rw [lM,dD,dD,h1,Nat.pow_succ]
  simp only [val]
  have h5:4294967296 ^ i * ((c+a.getD i 0+b.getD i 0) % 4294967296)+4294967296 ^ i * 4294967296 * ((c+a.getD i 0+b.getD i 0) / 4294967296)=4294967296 ^ i * c+4294967296 ^ i * a.getD i 0+4294967296 ^ i * b.getD i 0:=by
   rw [Nat.mul_assoc,← Nat.mul_add,Nat.mod_add_div,Nat.mul_add,Nat.mul_add]
  simp only [Nat.mul_zero,Nat.add_zero]
  omega
def plN (a b:List Nat):Nat:=if (plS a b (max a.length b.length)).2=0 then max a.length b.length else max a.length b.length+1
def wS (a b:List Nat):List Nat:=(plS a b (plN a b)).1
theorem getD_none {l:List Nat} {i:Nat} (h:¬ i<l.length):l.getD i 0=0:=by rw [List.getD_eq_getElem?_getD,List.getElem?_eq_none (by omega)]; rfl
theorem aDh {a b:List Nat} (ha:Lim a) (hb:Lim b) {i:Nat} (h1:a.length≤i) (h2:b.length≤i):(plS a b (i+1)).2=0:=by
 have h:=(lO ha hb i).2.1
 show ((plS a b i).2+a.getD i 0+b.getD i 0) / 4294967296=0
 rw [getD_none (l:=a) (by omega),getD_none (l:=b) (by omega)]
 omega
theorem aJf {a b:List Nat} (ha:Lim a) (hb:Lim b) {i:Nat} (h1:a.length≤i) (h2:b.length≤i) (hc:(plS a b i).2=0):val (plS a b i).1=val a+val b:=by
 have h:=(lO ha hb i).2.2.2
 rw [List.take_of_length_le h1,List.take_of_length_le h2,hc,Nat.mul_zero,Nat.add_zero] at h
 exact h
theorem aUi {a b:List Nat} (ha:Lim a) (hb:Lim b):val (wS a b)=val a+val b∧Lim (wS a b)∧(wS a b).length≤max a.length b.length+1:=by
 unfold wS plN
 have h1:a.length≤max a.length b.length:=by omega
 have h2:b.length≤max a.length b.length:=by omega
 generalize max a.length b.length=M at *
 by_cases hc:(plS a b M).2=0
 ·rw [if_pos hc]
  have h:=lO ha hb M
  exact ⟨aJf ha hb h1 h2 hc,h.2.2.1,by rw [h.1]; omega⟩
 ·rw [if_neg hc]
  have h:=lO ha hb (M+1)
  exact ⟨aJf ha hb (by omega) (by omega) (aDh ha hb h1 h2),h.2.2.1,by rw [h.1]; exact Nat.le_refl _⟩
theorem getD_some {l:List Nat} {i:Nat} (h:i<l.length):l[i]? = some (l.getD i 0):=by rw [List.getD_eq_getElem?_getD,List.getElem?_eq_getElem h]; rfl
set_option maxRecDepth 10000 in
theorem bHp (a b:List Nat) (ha:Lim a) (hb:Lim b) (hla:a.length≤1099511627776) (hlb:b.length≤1099511627776):Spec Tryz.prog 112 [aG a,aG b] (aG (wS a b)):=by
 refine aX (N:=55) aF Tryz.func112 rfl rfl rfl (by kernel_rfl) (by kernel_rfl) (by simp) ?_
 simp [-map_map,-mapM_map,↓KW,aG]
 refine aU (fun i:Nat=>i≤max a.length b.length∨(i=max a.length b.length+1∧(plS a b (max a.length b.length)).2≠0))
  (fun i=>StL [(0,.d (aG a)),(1,.d (aG b)),(5,.own 1 0 i 1),(6,.d (.i .u64 (plS a b i).2)),(7,.d (.i .i64 i))] none [.cells 121 ((lms (plS a b i).1).map .d)]) (fun i=>max a.length b.length+1 - i) 0 (.inl (Nat.zero_le _)) ?_ ?_
 ·refine bB [1] (by simp) ?_ ?_ <;> simp [-map_map,upd,aT,Γ0,aG,plS,lms]
 ·intro i hi
  obtain ⟨hlen,hc,_,_⟩:=lO ha hb i
  have hsucc:plS a b (i+1)=((plS a b i).1++[((plS a b i).2+a.getD i 0+b.getD i 0) % 4294967296],((plS a b i).2+a.getD i 0+b.getD i 0) / 4294967296):=rfl
  have hstop:(i<a.length∨i<b.length∨0<(plS a b i).2)∨i=plN a b:=by
   unfold plN
   rcases hi with hi | ⟨hi,hc⟩
   ·by_cases h1:i=max a.length b.length
    ·subst h1
     by_cases h2:(plS a b (max a.length b.length)).2=0
     ·rw [if_pos h2]; exact .inr rfl
     ·exact .inl (.inr (.inr (by omega)))
    ·exact .inl (by omega)
   ·rw [if_neg hc]; exact .inr hi
  have hnext:(i<a.length∨i<b.length∨0<(plS a b i).2)→i≤max a.length b.length∧(i+1≤max a.length b.length∨(i+1=max a.length b.length+1∧(plS a b (max a.length b.length)).2≠0)):=by
   intro h
   rcases hi with hi | ⟨hi,hc2⟩
   ·refine ⟨hi,?_⟩
    by_cases h1:i=max a.length b.length
    ·subst h1; exact .inr ⟨rfl,by omega⟩
    ·exact .inl (by omega)
   ·exfalso
    have e:(plS a b i).2=0:=by
     rw [hi]; exact aDh ha hb (by omega) (by omega)
    omega
  have hal:=ha.getD i
  have hbl:=hb.getD i
  have hres:i=plN a b→(plS a b i).1=wS a b:=fun e=>by rw [e]; rfl
  generalize hout:(plS a b i).1=out at *
  generalize hcar:(plS a b i).2=c at *
  by_cases hgo:i<a.length∨i<b.length∨0<c
  ·obtain ⟨hi1,hi2⟩:=hnext hgo
   have hb1:(i+1) * 4≤140737488355328:=by omega
   have hb2:i+1≤maxLen:=by unfold maxLen; omega
   have hw7:IntKind.i64.wrap ((i:Int)+1)=(i:Int)+1:=aS (by omega) (by omega)
   have hpos:(0:Int)≤i:=by omega
   obtain ⟨s1,hs1⟩:∃ s1:Nat,c+a.getD i 0=s1:=⟨_,rfl⟩
   obtain ⟨s2,hs2⟩:∃ s2:Nat,s1+b.getD i 0=s2:=⟨_,rfl⟩
   rw [hs1,hs2] at hsucc
   have hw1:IntKind.u64.wrap ((c:Int)+((a.getD i 0:Nat):Int))=s1:=by rw [bL (by omega) (by omega)]; omega
   have hw2:IntKind.u64.wrap ((s1:Int)+((b.getD i 0:Nat):Int))=s2:=by rw [bL (by omega) (by omega)]; omega
   have hwa:IntKind.u64.wrap ((a.getD i 0:Nat):Int)=((a.getD i 0:Nat):Int):=bL (by omega) (by omega)
   have hwb:IntKind.u64.wrap ((b.getD i 0:Nat):Int)=((b.getD i 0:Nat):Int):=bL (by omega) (by omega)
   obtain ⟨lo,hlo⟩:∃ lo:Nat,s2 % 4294967296=lo:=⟨_,rfl⟩
   obtain ⟨hi',hhi⟩:∃ hi':Nat,s2 / 4294967296=hi':=⟨_,rfl⟩
   have hw3:IntKind.u32.wrap (s2:Int)=lo:=by rw [gR]; omega
   have hw4:IntKind.u64.wrap ((s2:Int).tdiv 4294967296)=hi':=by
    rw [Int.tdiv_eq_ediv_of_nonneg (by omega),bL (by omega) (by omega)]; omega
   have hw4':IntKind.u64.wrap ((s2:Int) / 4294967296)=hi':=by rw [bL (by omega) (by omega)]; omega
   rw [hlo,hhi] at hsucc
   have hcase:(a.getD i 0=0∧¬ i<a.length)∨i<a.length:=by
    by_cases h:i<a.length
    ·exact .inr h
    ·exact .inl ⟨getD_none h,h⟩
   have hcase2:(b.getD i 0=0∧¬ i<b.length)∨i<b.length:=by
    by_cases h:i<b.length
    ·exact .inr h
    ·exact .inl ⟨getD_none h,h⟩
   rcases hcase with ⟨ha0,han⟩ | han <;> rcases hcase2 with ⟨hb0,hbn⟩ | hbn
   ·have q1:¬ (i:Int)<a.length:=by omega
    have q2:¬ (i:Int)<b.length:=by omega
    have q3:0<c:=by omega
    rw [ha0] at hs1; rw [hb0] at hs2
    have e2:s2=c:=by omega
    rw [e2] at hw3 hw4 hw4'
    simp [-map_map,-mapM_map,↓KW,aG,q1,q2,q3,hw3,hw4,hw7,hb1,hb2,hlen]
    refine aI (i+1) hi2 ?_ (bB [3] (by simp) ?_ ?_)
    ·omega
    ·simp [-map_map,upd,aT,Γ0,aG,hsucc,fP,fZ,hw4']
    ·simp [-map_map,upd,aT,Γ0,aG,hsucc,fP,fZ]
   ·have q1:¬ (i:Int)<a.length:=by omega
    have q2:(i:Int)<b.length:=by omega
    rw [ha0] at hs1
    have e1:s1=c:=by omega
    have g2:=getD_some hbn
    rw [e1] at hw2
    generalize b.getD i 0=y at *
    simp [-map_map,-mapM_map,↓KW,aG,q1,q2,g2,hwb,hw2,hw3,hw4,hw7,hb1,hb2,hlen]
    refine aI (i+1) hi2 ?_ (bB [3] (by simp) ?_ ?_)
    ·omega
    ·simp [-map_map,upd,aT,Γ0,aG,hsucc,fP,fZ,hw4']
    ·simp [-map_map,upd,aT,Γ0,aG,hsucc,fP,fZ]
   ·have q1:(i:Int)<a.length:=by omega
    have q2:¬ (i:Int)<b.length:=by omega
    rw [hb0] at hs2
    have e2:s2=s1:=by omega
    have g1:=getD_some han
    rw [e2] at hw3 hw4 hw4'
    generalize a.getD i 0=x at *
    simp [-map_map,-mapM_map,↓KW,aG,q1,q2,g1,hwa,hw1,hw3,hw4,hw7,hb1,hb2,hlen]
    refine aI (i+1) hi2 ?_ (bB [3] (by simp) ?_ ?_)
    ·omega
    ·simp [-map_map,upd,aT,Γ0,aG,hsucc,fP,fZ,hw4']
    ·simp [-map_map,upd,aT,Γ0,aG,hsucc,fP,fZ]
   ·have q1:(i:Int)<a.length:=by omega
    have q2:(i:Int)<b.length:=by omega
    have g1:=getD_some han
    have g2:=getD_some hbn
    generalize a.getD i 0=x at *
    generalize b.getD i 0=y at *
    simp [-map_map,-mapM_map,↓KW,aG,q1,q2,g1,g2,hwa,hwb,hw1,hw2,hw3,hw4,hw7,hb1,hb2,hlen]
    refine aI (i+1) hi2 ?_ (bB [3] (by simp) ?_ ?_)
    ·omega
    ·simp [-map_map,upd,aT,Γ0,aG,hsucc,fP,fZ,hw4']
    ·simp [-map_map,upd,aT,Γ0,aG,hsucc,fP,fZ]
  ·have e:=hstop.resolve_left hgo
   have h1:¬ (i:Int)<a.length:=by omega
   have h2:¬ (i:Int)<b.length:=by omega
   have h3:c=0:=by omega
   have h4:=hres e
   subst h3
   simp [-map_map,-mapM_map,↓KW,aG,h1,h2,hlen,fL hlen,dZ hlen,← h4]
end Go.Am
end

section
set_option linter.unusedVariables false
set_option linter.unusedSimpArgs false
open List (map_map mapM_map)
open Go Go.Am Go.Proofs
namespace Go.Am
def miS (a b:List Nat):Nat→List Nat × Nat
 | 0=>([],0)
 | i+1=>if (miS a b i).2+b.getD i 0≤a.getD i 0 then ((miS a b i).1++[a.getD i 0 - ((miS a b i).2+b.getD i 0)],0) else ((miS a b i).1++[a.getD i 0+4294967296 - ((miS a b i).2+b.getD i 0)],1)
theorem aDv {p o vb va x y c z:Nat} (h4:o+vb=va+p * c) (hx:x=z+(c+y)):o+p * z+(vb+p * y)=va+p * x:=by
 subst hx; rw [Nat.mul_add,Nat.mul_add]; omega
theorem aUz {p o vb va x y c z k:Nat} (h4:o+vb=va+p * c) (hx:x+k=z+(c+y)):o+p * z+(vb+p * y)=va+p * x+p * k:=by
 have:=aDv (p:=p) (x:=x+k) h4 hx
 rw [Nat.mul_add] at this; omega
theorem bIq {p va vb i:Nat} {out:List Nat} {c x y z:Nat} (hz:x=z+(c+y)) (hl:z<4294967296) (h1:out.length=i) (hp:4294967296 ^ i=p) (h3:Lim out) (h4:val out+vb=va+p * c) :
  (out++[z]).length=i+1∧Lim (out++[z])∧val (out++[z])+(vb+p * y)=va+p * x:=by
 refine ⟨by simp [h1],h3.app (.one hl),?_⟩
 simp only [lM,val,Nat.mul_zero,Nat.add_zero,h1,hp]
 exact aDv h4 hz
theorem bIr {p va vb i:Nat} {out:List Nat} {c x y z k:Nat} (hz:x+k=z+(c+y)) (hl:z<4294967296) (h1:out.length=i) (hp:4294967296 ^ i=p) (h3:Lim out) (h4:val out+vb=va+p * c) :
  (out++[z]).length=i+1∧Lim (out++[z])∧val (out++[z])+(vb+p * y)=va+p * x+p * k:=by
 refine ⟨by simp [h1],h3.app (.one hl),?_⟩
 simp only [lM,val,Nat.mul_zero,Nat.add_zero,h1,hp]
 exact aUz h4 hz
theorem aKf (a b:List Nat) (i:Nat):miS a b (i+1)=if (miS a b i).2+b.getD i 0≤a.getD i 0 then ((miS a b i).1++[a.getD i 0 - ((miS a b i).2+b.getD i 0)],0) else ((miS a b i).1++[a.getD i 0+4294967296 - ((miS a b i).2+b.getD i 0)],1):=rfl
theorem bEx {a b:Nat} (q:Nat) (h:a=b):a=b+q * 0:=by rw [Nat.mul_zero,Nat.add_zero]; exact h
theorem bEw {a b:Nat} (q:Nat) (h:a=b+q):a=b+q * 1:=by rw [Nat.mul_one]; exact h
theorem aFy {a b:List Nat} (ha:Lim a) (hb:Lim b) (i:Nat):(miS a b i).1.length=i∧(miS a b i).2≤1∧Lim (miS a b i).1∧val (miS a b i).1+val (b.take i)=val (a.take i)+4294967296 ^ i * (miS a b i).2:=by
 induction i with
 | zero=>exact ⟨rfl,Nat.zero_le _,.nil,by simp [miS,val]⟩
 | succ i ih =>
  obtain ⟨h1,h2,h3,h4⟩:=ih
  have hx:=ha.getD i
  have hy:=hb.getD i
  rw [dD,dD,Nat.pow_succ,aKf]
  generalize (miS a b i).1=out at *
  generalize (miS a b i).2=c at *
  generalize a.getD i 0=x at *
  generalize b.getD i 0=y at *
  generalize hp:4294967296 ^ i=p at *
  by_cases h:c+y≤x
  ·rw [if_pos h]
   obtain ⟨z,hz,hz'⟩:∃ z,x - (c+y)=z∧x=z+(c+y):=⟨_,rfl,(Nat.sub_add_cancel h).symm⟩
   rw [hz]; clear hz
   obtain ⟨q1,q2,q3⟩:=bIq hz' (by omega) h1 hp h3 h4
   exact ⟨q1,Nat.zero_le _,q2,bEx _ q3⟩
  ·rw [if_neg h]
   obtain ⟨z,hz,hz'⟩:∃ z,x+4294967296 - (c+y)=z∧x+4294967296=z+(c+y):=⟨_,rfl,(Nat.sub_add_cancel (by omega)).symm⟩
   rw [hz]; clear hz
   obtain ⟨q1,q2,q3⟩:=bIr hz' (by omega) h1 hp h3 h4
   exact ⟨q1,Nat.le_refl _,q2,bEw _ q3⟩
def jX (a b:List Nat):List Nat:=(miS a b a.length).1
theorem oV {a b:List Nat} (ha:Lim a) (hb:Lim b) (hl:b.length≤a.length) (hv:val b≤val a):val (jX a b)=val a - val b∧Lim (jX a b)∧(jX a b).length=a.length:=by
 obtain ⟨h1,h2,h3,h4⟩:=aFy ha hb a.length
 rw [List.take_of_length_le hl,List.take_of_length_le (Nat.le_refl _)] at h4
 refine ⟨?_,h3,h1⟩
 have hlt:=pU h3
 rw [h1] at hlt
 unfold jX
 generalize (miS a b a.length).1=out at *
 generalize (miS a b a.length).2=c at *
 rcases Nat.lt_or_ge 0 c with hc | hc
 ·have:c=1:=by omega
  rw [this,Nat.mul_one] at h4; omega
 ·have:c=0:=by omega
  rw [this,Nat.mul_zero] at h4; omega
set_option maxRecDepth 10000 in
theorem aIx (a b:List Nat) (ha:Lim a) (hb:Lim b) (hla:a.length≤1099511627776) (_hlb:b.length≤1099511627776):Spec Tryz.prog 113 [aG a,aG b] (aG (jX a b)):=by
 refine aX (N:=44) aF Tryz.func113 rfl rfl rfl (by kernel_rfl) (by kernel_rfl) (by simp) ?_
 simp [-map_map,-mapM_map,↓KW,aG]
 refine aU (fun i:Nat=>i≤a.length)
  (fun i=>StL [(0,.d (aG a)),(1,.d (aG b)),(5,.own 1 0 i 1),(6,.d (.i .i64 (miS a b i).2)),(7,.d (.i .i64 i))] none [.cells 121 ((lms (miS a b i).1).map .d)]) (fun i=>a.length - i) 0 (Nat.zero_le _) ?_ ?_
 ·refine bB [1] (by simp) ?_ ?_ <;> simp [-map_map,upd,aT,Γ0,aG,miS,lms]
 ·intro i hi
  obtain ⟨hlen,hc,_,_⟩:=aFy ha hb i
  have hsucc:miS a b (i+1)=if (miS a b i).2+b.getD i 0≤a.getD i 0 then ((miS a b i).1++[a.getD i 0 - ((miS a b i).2+b.getD i 0)],0) else ((miS a b i).1++[a.getD i 0+4294967296 - ((miS a b i).2+b.getD i 0)],1):=rfl
  have hal:=ha.getD i
  have hbl:=hb.getD i
  have hres:i=a.length→(miS a b i).1=jX a b:=fun e=>by rw [e]; rfl
  generalize hout:(miS a b i).1=out at *
  generalize hcar:(miS a b i).2=c at *
  by_cases hgo:i<a.length
  ·have hb1:(i+1) * 4≤140737488355328:=by omega
   have hb2:i+1≤maxLen:=by unfold maxLen; omega
   have hw7:IntKind.i64.wrap ((i:Int)+1)=(i:Int)+1:=aS (by omega) (by omega)
   have q1:(i:Int)<a.length:=by omega
   have g1:=getD_some hgo
   have hb0:¬ i<b.length→b.getD i 0=0:=getD_none
   have g2:i<b.length→b[i]? = some (b.getD i 0):=getD_some
   generalize a.getD i 0=x at *
   generalize b.getD i 0=y at *
   have hwx:IntKind.i64.wrap (x:Int)=x:=aS (by omega) (by omega)
   have hwy:IntKind.i64.wrap (y:Int)=y:=aS (by omega) (by omega)
   obtain ⟨d1,hd1⟩:∃ d1:Int,(x:Int) - c=d1:=⟨_,rfl⟩
   obtain ⟨d,hd⟩:∃ d:Int,d1 - y=d:=⟨_,rfl⟩
   have hw1:IntKind.i64.wrap ((x:Int) - c)=d1:=by rw [aS (by omega) (by omega)]; exact hd1
   have hw2:IntKind.i64.wrap (d1 - y)=d:=by rw [aS (by omega) (by omega)]; exact hd
   by_cases hneg:d<0
   ·rw [if_neg (by omega)] at hsucc
    obtain ⟨lo,hlo⟩:∃ lo:Nat,x+4294967296 - (c+y)=lo:=⟨_,rfl⟩
    rw [hlo] at hsucc
    have hw3:IntKind.i64.wrap (d+4294967296)=lo:=by rw [aS (by omega) (by omega)]; omega
    have hw4:IntKind.u32.wrap (lo:Int)=lo:=iR (by omega) (by omega)
    by_cases hbn:i<b.length
    ·have q2:(i:Int)<b.length:=by omega
     have g3:=g2 hbn
     simp [-map_map,-mapM_map,↓KW,aG,q1,q2,g1,g3,hwx,hwy,hw1,hw2,hw3,hw4,hneg,hw7,hb1,hb2,hlen]
     refine aI (i+1) hgo ?_ (bB [3] (by simp) ?_ ?_)
     ·omega
     ·simp [-map_map,upd,aT,Γ0,aG,hsucc,fP,fZ]
     ·simp [-map_map,upd,aT,Γ0,aG,hsucc,fP,fZ]
    ·have q2:¬ (i:Int)<b.length:=by omega
     have e1:d1=d:=by have:=hb0 hbn; omega
     rw [e1] at hw1
     simp [-map_map,-mapM_map,↓KW,aG,q1,q2,g1,hwx,hw1,hw3,hw4,hneg,hw7,hb1,hb2,hlen]
     refine aI (i+1) hgo ?_ (bB [3] (by simp) ?_ ?_)
     ·omega
     ·simp [-map_map,upd,aT,Γ0,aG,hsucc,fP,fZ]
     ·simp [-map_map,upd,aT,Γ0,aG,hsucc,fP,fZ]
   ·rw [if_pos (by omega)] at hsucc
    obtain ⟨lo,hlo⟩:∃ lo:Nat,x - (c+y)=lo:=⟨_,rfl⟩
    rw [hlo] at hsucc
    have e0:d=lo:=by omega
    rw [e0] at hw2 hneg
    have hw4:IntKind.u32.wrap (lo:Int)=lo:=iR (by omega) (by omega)
    by_cases hbn:i<b.length
    ·have q2:(i:Int)<b.length:=by omega
     have g3:=g2 hbn
     simp [-map_map,-mapM_map,↓KW,aG,q1,q2,g1,g3,hwx,hwy,hw1,hw2,hw4,hneg,hw7,hb1,hb2,hlen]
     refine aI (i+1) hgo ?_ (bB [3] (by simp) ?_ ?_)
     ·omega
     ·simp [-map_map,upd,aT,Γ0,aG,hsucc,fP,fZ]
     ·simp [-map_map,upd,aT,Γ0,aG,hsucc,fP,fZ]
    ·have q2:¬ (i:Int)<b.length:=by omega
     have e1:d1=lo:=by have:=hb0 hbn; omega
     rw [e1] at hw1
     simp [-map_map,-mapM_map,↓KW,aG,q1,q2,g1,hwx,hw1,hw4,hneg,hw7,hb1,hb2,hlen]
     refine aI (i+1) hgo ?_ (bB [3] (by simp) ?_ ?_)
     ·omega
     ·simp [-map_map,upd,aT,Γ0,aG,hsucc,fP,fZ]
     ·simp [-map_map,upd,aT,Γ0,aG,hsucc,fP,fZ]
  ·have e:i=a.length:=by omega
   have h1:¬ (i:Int)<a.length:=by omega
   have h4:=hres e
   simp [-map_map,-mapM_map,↓KW,aG,h1,hlen,fL hlen,dZ hlen,← h4]
set_option maxRecDepth 10000 in
theorem oP (x y:Int) (hx:(aW x.natAbs).length≤549755813888) (hy:(aW y.natAbs).length≤549755813888):Spec Tryz.prog 77 [encZ x,encZ y] (encZ (x+y)):=by
 refine aX (N:=39) aF Tryz.func77 rfl rfl rfl (by kernel_rfl) (by kernel_rfl) (by simp) ?_
 have la:=cC x.natAbs
 have lb:=cC y.natAbs
 have va:=cR x.natAbs
 have vb:=cR y.natAbs
 have hless:(aW x.natAbs).length<(aW y.natAbs).length→x.natAbs<y.natAbs:=iK
 have hless2:(aW y.natAbs).length<(aW x.natAbs).length→y.natAbs<x.natAbs:=iK
 have hl:=xZ _ _ la lb (by omega) (by omega)
 rw [jG] at hl
 have sx:=gS x
 have sy:=gS y
 have ex:encZ x=.ag [.b (decide (x<0)),aG (aW x.natAbs)]:=rfl
 have ey:encZ y=.ag [.b (decide (y<0)),aG (aW y.natAbs)]:=rfl
 rw [ex,ey]
 generalize aW x.natAbs=a at *
 generalize aW y.natAbs=b at *
 generalize hbx:decide (x<0)=nx at *
 generalize hby:decide (y<0)=ny at *
 by_cases hn:nx=ny
 ·have h1:(nx == ny)=true:=by simpa using hn
  simp [-map_map,-mapM_map,↓KW,aG,h1]
  obtain ⟨pv,pl,pn⟩:=aUi la lb
  refine aA (ds:=[aG a,aG b]) (by rfl) (bHp a b la lb (by omega) (by omega)) ?_
  simp [-map_map,-mapM_map,↓KW,aG]
  have hm:=fN (wS a b) nx (by omega)
  rw [dV pl,pv,va,vb] at hm
  refine aA (ds:=[aG (wS a b),.b nx]) (by rfl) hm ?_
  have e:sg nx (x.natAbs+y.natAbs)=x+y:=by
   rw [← sx,← sy,← hn]; cases nx <;> simp [sg] <;> omega
  rw [e]
  simp [-map_map,-mapM_map,↓KW,aG,encZ,encI]
 ·have h1:(nx == ny)=false:=by simpa using hn
  simp [-map_map,-mapM_map,↓KW,aG,h1]
  refine aA (ds:=[aG a,aG b]) (by rfl) hl ?_
  by_cases hlt:x.natAbs<y.natAbs
  ·simp [-map_map,-mapM_map,↓KW,aG,hlt]
   obtain ⟨pv,pl,pn⟩:=oV lb la (by omega) (by omega)
   refine aA (ds:=[aG b,aG a]) (by rfl) (aIx b a lb la (by omega) (by omega)) ?_
   simp [-map_map,-mapM_map,↓KW,aG]
   have hm:=fN (jX b a) ny (by omega)
   rw [dV pl,pv,va,vb] at hm
   refine aA (ds:=[aG (jX b a),.b ny]) (by rfl) hm ?_
   have e:sg ny (y.natAbs - x.natAbs)=x+y:=by
    rw [← sx,← sy]
    cases nx <;> cases ny <;> simp [sg] at hn ⊢ <;> omega
   rw [e]
   simp [-map_map,-mapM_map,↓KW,aG,encZ,encI]
  ·simp [-map_map,-mapM_map,↓KW,aG,hlt]
   obtain ⟨pv,pl,pn⟩:=oV la lb (by omega) (by omega)
   refine aA (ds:=[aG a,aG b]) (by rfl) (aIx a b la lb (by omega) (by omega)) ?_
   simp [-map_map,-mapM_map,↓KW,aG]
   have hm:=fN (jX a b) nx (by omega)
   rw [dV pl,pv,va,vb] at hm
   refine aA (ds:=[aG (jX a b),.b nx]) (by rfl) hm ?_
   have e:sg nx (x.natAbs - y.natAbs)=x+y:=by
    rw [← sx,← sy]
    cases nx <;> cases ny <;> simp [sg] at hn ⊢ <;> omega
   rw [e]
   simp [-map_map,-mapM_map,↓KW,aG,encZ,encI]
end Go.Am
end

section
set_option linter.unusedVariables false
set_option linter.unusedSimpArgs false
open Go Go.Am Go.Proofs
namespace Go.Am
theorem aFf {l:List Nat} {j:Nat} (h:j<l.length) (v:Nat):val (l.set j v)+4294967296 ^ j * l.getD j 0=val l+4294967296 ^ j * v:=by
 induction l generalizing j with
 | nil=>simp at h
 | cons x l ih =>
  cases j with
  | zero=>simp only [List.set_cons_zero,val,Nat.pow_zero,Nat.one_mul,List.getD_cons_zero]; omega
  | succ j =>
   have:=ih (j:=j) (by simpa using h)
   simp only [List.set_cons_succ,val,List.getD_cons_succ,Nat.pow_succ]
   generalize 4294967296 ^ j=p at *
   generalize l.getD j 0=o at *
   generalize val (l.set j v)=w at *
   rw [Nat.mul_comm p,Nat.mul_assoc,Nat.mul_assoc]
   generalize p * o=e1 at *
   generalize p * v=e2 at *
   omega
def muI (out:List Nat) (x:Nat) (b:List Nat) (i:Nat):Nat→List Nat × Nat
 | 0=>(out,0)
 | k+1=>((muI out x b i k).1.set (i+k) (((muI out x b i k).2+(muI out x b i k).1.getD (i+k) 0+x * b.getD k 0) % 4294967296),((muI out x b i k).2+(muI out x b i k).1.getD (i+k) 0+x * b.getD k 0) / 4294967296)
def muN (out:List Nat) (x:Nat) (b:List Nat) (i:Nat):Nat:=if (muI out x b i b.length).2=0 then b.length else b.length+1
def muO (a b:List Nat):Nat→List Nat
 | 0=>List.replicate (a.length+b.length+1) 0
 | i+1=>(muI (muO a b i) (a.getD i 0) b i (muN (muO a b i) (a.getD i 0) b i)).1
theorem bAt {P v v' o c t q r e w k:Nat} (hs:v'+P * o=v+P * r) (ht:r+k * q=t) (ht2:c+o+e=t) (hv:v+P * c=w):v'+P * k * q=w+P * e:=by
 have h1:P * t=P * r+P * (k * q):=by rw [← ht,Nat.mul_add]
 have h2:P * t=P * c+P * o+P * e:=by rw [← ht2,Nat.mul_add,Nat.mul_add]
 rw [Nat.mul_assoc]
 omega
theorem aNp {c o x y:Nat} (hc:c<4294967296) (ho:o<4294967296) (hx:x<4294967296) (hy:y<4294967296):c+o+x * y<18446744073709551616:=by
 have:x * y≤4294967295 * 4294967295:=Nat.mul_le_mul (by omega) (by omega)
 omega
theorem rH {out b:List Nat} {x i:Nat} (ho:Lim out) (hb:Lim b) (hx:x<4294967296) (hl:i+b.length<out.length) (k:Nat) (hk:k≤b.length+1) :
  (muI out x b i k).1.length=out.length∧(muI out x b i k).2<4294967296∧Lim (muI out x b i k).1∧val (muI out x b i k).1+4294967296 ^ (i+k) * (muI out x b i k).2=val out+4294967296 ^ i * (x * val (b.take k)):=by
 induction k with
 | zero=>exact ⟨rfl,Nat.zero_lt_of_lt hx,ho,by simp [muI,val]⟩
 | succ k ih =>
  obtain ⟨h1,h2,h3,h4⟩:=ih (by omega)
  have hy:=hb.getD k
  have hoo:=h3.getD (i+k)
  have hset:=aFf (l:=(muI out x b i k).1) (j:=i+k) (by omega) (((muI out x b i k).2+(muI out x b i k).1.getD (i+k) 0+x * b.getD k 0) % 4294967296)
  have hlim:=aNp h2 hoo hx hy
  rw [dD]
  simp only [muI]
  generalize (muI out x b i k).1=out' at *
  generalize (muI out x b i k).2=c at *
  generalize out'.getD (i+k) 0=o at *
  generalize b.getD k 0=y at *
  refine ⟨by simp [h1],by omega,h3.set _ (by omega),?_⟩
  have:=bAt hset (Nat.mod_add_div _ _) rfl h4
  rw [← Nat.add_assoc i k 1,Nat.pow_succ,this,Nat.pow_add,Nat.mul_add,Nat.mul_add,Nat.mul_assoc,Nat.add_assoc]
  congr 2
  rw [Nat.mul_left_comm x]
theorem aKd {out b:List Nat} {x i:Nat} (ho:Lim out) (hb:Lim b) (hx:x<4294967296) (hl:i+b.length<out.length) (hv:val out<4294967296 ^ (i+b.length)):(muI out x b i (b.length+1)).2=0:=by
 obtain ⟨_,_,_,h4⟩:=rH ho hb hx hl (b.length+1) (Nat.le_refl _)
 rw [List.take_of_length_le (by omega)] at h4
 have hbv:=pU hb
 rcases Nat.eq_zero_or_pos (muI out x b i (b.length+1)).2 with h | h
 ·exact h
 exfalso
 have e1:4294967296 ^ (i+(b.length+1)) * 1≤4294967296 ^ (i+(b.length+1)) * (muI out x b i (b.length+1)).2:=Nat.mul_le_mul_left _ h
 have e2:x * val b≤4294967295 * 4294967296 ^ b.length:=Nat.mul_le_mul (by omega) (by omega)
 have e3:4294967296 ^ i * (x * val b)≤4294967296 ^ i * (4294967295 * 4294967296 ^ b.length):=Nat.mul_le_mul_left _ e2
 have e4:4294967296 ^ i * (4294967295 * 4294967296 ^ b.length)=4294967295 * 4294967296 ^ (i+b.length):=by rw [Nat.pow_add,Nat.mul_left_comm]
 have e5:4294967296 ^ (i+(b.length+1))=4294967296 ^ (i+b.length) * 4294967296:=by rw [← Nat.add_assoc,Nat.pow_succ]
 rw [Nat.mul_one,e5] at e1
 rw [e5] at h4
 rw [e4] at e3
 generalize 4294967296 ^ (i+b.length)=p at *
 generalize 4294967296 ^ i * (x * val b)=q at *
 generalize (muI out x b i (b.length+1)).2=c at *
 generalize p * 4294967296 * c=d at *
 omega
theorem bIn {out b:List Nat} {x i:Nat} (ho:Lim out) (hb:Lim b) (hx:x<4294967296) (hl:i+b.length<out.length) (hv:val out<4294967296 ^ (i+b.length)) :
  (muI out x b i (muN out x b i)).1.length=out.length∧Lim (muI out x b i (muN out x b i)).1∧val (muI out x b i (muN out x b i)).1=val out+4294967296 ^ i * (x * val b):=by
 unfold muN
 have hstop:=aKd ho hb hx hl hv
 by_cases h:(muI out x b i b.length).2=0
 ·rw [if_pos h]
  obtain ⟨h1,_,h3,h4⟩:=rH ho hb hx hl b.length (by omega)
  rw [List.take_of_length_le (by omega),h,Nat.mul_zero,Nat.add_zero] at h4
  exact ⟨h1,h3,h4⟩
 ·rw [if_neg h]
  obtain ⟨h1,_,h3,h4⟩:=rH ho hb hx hl (b.length+1) (Nat.le_refl _)
  rw [List.take_of_length_le (by omega),hstop,Nat.mul_zero,Nat.add_zero] at h4
  exact ⟨h1,h3,h4⟩
theorem aNq {a b:List Nat} (ha:Lim a) (hb:Lim b) {i:Nat} (hi:i≤a.length):val (a.take i) * val b<4294967296 ^ (i+b.length):=by
 have h1:=pU (ha.take i)
 rw [List.length_take,Nat.min_eq_left hi] at h1
 have h2:=pU hb
 rw [Nat.pow_add]
 exact Nat.mul_lt_mul'' h1 h2
theorem bIm {a b:List Nat} (ha:Lim a) (hb:Lim b) (i:Nat) (hi:i≤a.length):(muO a b i).length=a.length+b.length+1∧Lim (muO a b i)∧val (muO a b i)=val (a.take i) * val b:=by
 induction i with
 | zero=>exact ⟨by simp [muO],.rep _,by simp [muO,xS,val]⟩
 | succ i ih =>
  obtain ⟨h1,h2,h3⟩:=ih (by omega)
  have hv:=aNq ha hb (i:=i) (by omega)
  rw [← h3] at hv
  obtain ⟨q1,q2,q3⟩:=bIn (x:=a.getD i 0) (i:=i) h2 hb (ha.getD i) (by omega) hv
  refine ⟨q1.trans h1,q2,?_⟩
  show val (muI (muO a b i) (a.getD i 0) b i (muN (muO a b i) (a.getD i 0) b i)).1=_
  rw [q3,h3,dD,Nat.add_mul,Nat.mul_assoc]
end Go.Am
end

section
set_option linter.unusedVariables false
set_option linter.unusedSimpArgs false
open List (map_map mapM_map)
open Go Go.Am Go.Proofs
namespace Go.Am
set_option maxRecDepth 10000 in
theorem mX (x y:Int) (hx:(aW x.natAbs).length≤137438953472) (hy:(aW y.natAbs).length≤137438953472):Spec Tryz.prog 76 [encZ x,encZ y] (encZ (x * y)):=by
 refine aX (N:=81) aF Tryz.func76 rfl rfl rfl (by kernel_rfl) (by kernel_rfl) (by simp) ?_
 have la:=cC x.natAbs
 have lb:=cC y.natAbs
 have va:=cR x.natAbs
 have vb:=cR y.natAbs
 have sx:=gS x
 have sy:=gS y
 have ex:encZ x=.ag [.b (decide (x<0)),aG (aW x.natAbs)]:=rfl
 have ey:encZ y=.ag [.b (decide (y<0)),aG (aW y.natAbs)]:=rfl
 rw [ex,ey]
 generalize aW x.natAbs=a at *
 generalize aW y.natAbs=b at *
 generalize hbx:decide (x<0)=nx at *
 generalize hby:decide (y<0)=ny at *
 obtain ⟨n,hn⟩:∃ n,a.length+b.length+1=n:=⟨_,rfl⟩
 have hw1:IntKind.i64.wrap ((a.length:Int)+b.length)=(a.length:Int)+b.length:=aS (by omega) (by omega)
 have hw2:IntKind.i64.wrap ((a.length:Int)+b.length+1)=(n:Int):=by rw [aS (by omega) (by omega)]; omega
 have hm1:(4:Int) * n≤281474976710656:=by omega
 have hm2:(n:Int)≤9223372036854775807:=by omega
 have h00:muO a b 0=List.replicate n 0:=by rw [← hn]; rfl
 simp [-map_map,-mapM_map,↓KW,aG,hw1,hw2,hm1,hm2]
 refine aU (fun i:Nat=>i≤a.length)
  (fun i=>StL [(2,.ptr 1 0),(3,.ptr 2 0),(4,.ptr 3 0),(5,.own 4 0 n 1),(6,.d (.i .i64 i))] none
   [.cells 69 [.d (.b nx),.d (aG a)],.cells 69 [.d (.b ny),.d (aG b)],.cells 69 [.d (.b false),.nil],.cells 121 ((lms (muO a b i)).map .d)]) (fun i=>a.length - i) 0 (Nat.zero_le _) ?_ ?_
 ·refine bB [1,2,3,4] (by simp) ?_ ?_ <;> simp [-map_map,upd,aT,Γ0,aG,h00]
 ·intro i hi
  obtain ⟨ol,om,ov⟩:=bIm la lb i hi
  rw [hn] at ol
  by_cases hgo:i<a.length
  ·have q1:(i:Int)<a.length:=by omega
   simp [-map_map,-mapM_map,↓KW,aG,q1]
   have hsucc:muO a b (i+1)=(muI (muO a b i) (a.getD i 0) b i (muN (muO a b i) (a.getD i 0) b i)).1:=rfl
   have g1:=getD_some hgo
   have hlt:=aNq la lb hi
   rw [← ov] at hlt
   generalize hout:muO a b i=out at *
   have hal:=la.getD i
   generalize a.getD i 0=xv at *
   have hwx:IntKind.u64.wrap (xv:Int)=xv:=bL (by omega) (by omega)
   refine aU (fun k:Nat=>k≤b.length∨(k=b.length+1∧(muI out xv b i b.length).2≠0))
    (fun k=>StL [(2,.ptr 1 0),(3,.ptr 2 0),(4,.ptr 3 0),(5,.own 4 0 n 1),(6,.d (.i .i64 i)),(7,.d (.i .u64 (muI out xv b i k).2)),(8,.d (.i .i64 k))] none
     [.cells 69 [.d (.b nx),.d (aG a)],.cells 69 [.d (.b ny),.d (aG b)],.cells 69 [.d (.b false),.nil],.cells 121 ((lms (muI out xv b i k).1).map .d)]) (fun k=>b.length+1 - k) 0 (.inl (Nat.zero_le _)) ?_ ?_
   ·refine bB [1,2,3,4] (by simp) ?_ ?_ <;> simp [-map_map,upd,aT,Γ0,aG,muI]
   ·intro k hk
    have hkl:k≤b.length+1:=by omega
    obtain ⟨il,ic,im,_⟩:=rH om lb hal (i:=i) (by omega) k hkl
    have isucc:muI out xv b i (k+1)=((muI out xv b i k).1.set (i+k) (((muI out xv b i k).2+(muI out xv b i k).1.getD (i+k) 0+xv * b.getD k 0) % 4294967296),((muI out xv b i k).2+(muI out xv b i k).1.getD (i+k) 0+xv * b.getD k 0) / 4294967296):=rfl
    have hstop0:=aKd om lb hal (i:=i) (by omega) hlt
    have hres:(k<b.length∨0<(muI out xv b i k).2)∨muO a b (i+1)=(muI out xv b i k).1:=by
     rw [hsucc]; unfold muN
     rcases hk with hk | ⟨hk,hc⟩
     ·by_cases h1:k=b.length
      ·subst h1
       by_cases h2:(muI out xv b i b.length).2=0
       ·rw [if_pos h2]; exact .inr rfl
       ·exact .inl (.inr (by omega))
      ·exact .inl (.inl (by omega))
     ·rw [if_neg hc,hk]; exact .inr rfl
    have hnext:(k<b.length∨0<(muI out xv b i k).2)→k≤b.length∧(k+1≤b.length∨(k+1=b.length+1∧(muI out xv b i b.length).2≠0)):=by
     intro h
     rcases hk with hk | ⟨hk,hc⟩
     ·refine ⟨hk,?_⟩
      by_cases h1:k=b.length
      ·subst h1; exact .inr ⟨rfl,by omega⟩
      ·exact .inl (by omega)
     ·rw [hk,hstop0] at h; omega
    clear hstop0 hsucc
    have ho:=im.getD (i+k)
    generalize hcar:(muI out xv b i k).2=c at *
    generalize hcur:(muI out xv b i k).1=cur at *
    by_cases hg2:k<b.length∨0<c
    ·obtain ⟨n1,n2⟩:=hnext hg2
     obtain ⟨j,hj⟩:∃ j,i+k=j:=⟨_,rfl⟩
     rw [hj] at isucc ho
     have hjl:j<cur.length:=by omega
     have g2:=aRn (getD_some hjl)
     have hwj:IntKind.i64.wrap ((i:Int)+k)=j:=by rw [aS (by omega) (by omega)]; omega
     have hjn:(j:Int)<n:=by omega
     have hw8:IntKind.i64.wrap ((k:Int)+1)=(k:Int)+1:=aS (by omega) (by omega)
     have hjl2:j<(lms cur).length:=by rw [kY]; exact hjl
     have hjl3:j+1≤n:=by omega
     have hyb:=lb.getD k
     have hlim:=aNp ic ho hal hyb
     have hy0:¬ k<b.length→b.getD k 0=0:=getD_none
     have g3:k<b.length→b[k]? = some (b.getD k 0):=getD_some
     generalize cur.getD j 0=o at *
     generalize b.getD k 0=yv at *
     obtain ⟨s1,hs1⟩:∃ s1:Nat,c+o=s1:=⟨_,rfl⟩
     obtain ⟨t,ht⟩:∃ t:Nat,s1+xv * yv=t:=⟨_,rfl⟩
     rw [hs1] at isucc hlim
     rw [ht] at isucc hlim
     obtain ⟨lo,hlo⟩:∃ lo:Nat,t % 4294967296=lo:=⟨_,rfl⟩
     obtain ⟨hi',hhi⟩:∃ hi':Nat,t / 4294967296=hi':=⟨_,rfl⟩
     rw [hlo,hhi] at isucc
     have hwo:IntKind.u64.wrap (o:Int)=o:=bL (by omega) (by omega)
     have hws:IntKind.u64.wrap ((c:Int)+o)=s1:=by rw [bL (by omega) (by omega)]; omega
     have hwlo:IntKind.u32.wrap (t:Int)=lo:=by rw [gR]; omega
     have hwhi:IntKind.u64.wrap ((t:Int) / 4294967296)=hi':=by rw [bL (by omega) (by omega)]; omega
     have hlay:lay (List.map AV.d (lms cur)) j [AV.d (D.i .u32 (lo:Int))]=List.map AV.d (lms (cur.set j lo)):=by
      rw [oX _ _ _ hjl2,tW]
     have hgj:List.length cur=n:=by omega
     by_cases hkb:k<b.length
     ·have q2:(k:Int)<b.length:=by omega
      have g4:=g3 hkb
      have hwy:IntKind.u64.wrap (yv:Int)=yv:=bL (by omega) (by omega)
      obtain ⟨e,he⟩:∃ e:Nat,xv * yv=e:=⟨_,rfl⟩
      rw [he] at ht
      have hwm:IntKind.u64.wrap ((xv:Int) * yv)=e:=by rw [← Int.natCast_mul,he,bL (by omega) (by omega)]
      have hwt:IntKind.u64.wrap ((s1:Int)+e)=t:=by rw [bL (by omega) (by omega)]; omega
      simp [-map_map,-mapM_map,↓KW,aG,q2,hwj,hjn,g2,hwo,hws,g1,g4,hwx,hwy,hwm,hwt,hwlo,hwhi,hlay,hw8,hjl3,hgj]
      refine aI (k+1) n2 ?_ (bB [1,2,3,4] (by simp) ?_ ?_)
      ·omega
      ·simp [-map_map,upd,aT,Γ0,aG,isucc]
      ·simp [-map_map,upd,aT,Γ0,aG,isucc]
     ·have q2:¬ (k:Int)<b.length:=by omega
      have q3:0<c:=by omega
      have e1:t=s1:=by rw [hy0 hkb,Nat.mul_zero] at ht; omega
      rw [e1] at hwlo hwhi
      simp [-map_map,-mapM_map,↓KW,aG,q2,q3,hwj,hjn,g2,hwo,hws,hwlo,hwhi,hlay,hw8,hjl3,hgj]
      refine aI (k+1) n2 ?_ (bB [1,2,3,4] (by simp) ?_ ?_)
      ·omega
      ·simp [-map_map,upd,aT,Γ0,aG,isucc]
      ·simp [-map_map,upd,aT,Γ0,aG,isucc]
    ·have q2:¬ (k:Int)<b.length:=by omega
     have q3:¬ 0<c:=by omega
     have hfin:=hres.resolve_left hg2
     have hw8:IntKind.i64.wrap ((i:Int)+1)=(i:Int)+1:=aS (by omega) (by omega)
     simp [-map_map,-mapM_map,↓KW,aG,q2,q3,hw8]
     refine aI (i+1) hgo ?_ (bB [1,2,3,4] (by simp) ?_ ?_)
     ·omega
     ·simp [-map_map,upd,aT,Γ0,aG,hfin]
     ·simp [-map_map,upd,aT,Γ0,aG,hfin]
  ·have q1:¬ (i:Int)<a.length:=by omega
   have e:i=a.length:=by omega
   rw [e,List.take_of_length_le (Nat.le_refl _),va,vb] at ov
   have hm:=fN (muO a b i) (nx != ny) (by omega)
   rw [dV om,e,ov] at hm
   have e2:sg (nx != ny) (x.natAbs * y.natAbs)=x * y:=by
    rw [← sx,← sy]
    cases nx <;> cases ny <;> simp [sg,Int.mul_neg,Int.neg_mul]
   rw [e2] at hm
   rw [e] at ol
   have e':muO a b i=muO a b a.length:=by rw [e]
   generalize muO a b a.length=out at *
   simp [-map_map,-mapM_map,↓KW,aG,q1,e']
   refine aA (ds:=[aG out,.b (nx != ny)]) ?_ hm ?_
   ·simp [-map_map,-mapM_map,↓KW,aG,ol,fL ol,dZ ol]
    cases nx <;> cases ny <;> rfl
   ·simp [-map_map,-mapM_map,↓KW,aG,encZ,encI,ol,fL ol,dZ ol]
end Go.Am
end

section
set_option linter.unusedVariables false
set_option linter.unusedSimpArgs false
open List (map_map mapM_map)
open Go Go.Am Go.Proofs
namespace Go.Am
theorem aHk {n:Nat} (h:n≤9223372036854775807):IntKind.i64.wrap (n:Int)=n:=aS (by omega) (by omega)
set_option maxRecDepth 10000 in
theorem nA (m:List Nat) (hl:m.length≤1099511627776):Spec Tryz.prog 101 [aG m] (aG (strip m)):=by
 refine aX (N:=21) aF Tryz.func101 rfl rfl rfl (by kernel_rfl) (by kernel_rfl) (by simp) ?_
 simp [-map_map,-mapM_map,↓KW,aG]
 refine aU (fun n:Nat=>n≤m.length∧strip (m.take n)=strip m) (fun n=>StL [(0,.d (aG m)),(3,.d (.i .i64 n))] none []) (fun n=>n) m.length ⟨Nat.le_refl _,by simp⟩ ?_ ?_
 ·refine bB [] (by simp) ?_ ?_ <;> simp [-map_map,upd,aT,Γ0,aG]
 ·rintro n ⟨hn,hs⟩
  rcases n with _ | n
  ·have hs':strip m=[]:=hs.symm
   have h0:eY 1 (m.map fun (x:Nat)=>[D.i .u32 (x:Int)])=true:=qC m _
   simp [-map_map,-mapM_map,↓KW,aG,hs',h0]
  ·have hx:m[n]? = some m[n]:=List.getElem?_eq_getElem hn
   have hw:IntKind.i64.wrap (n:Int)=n:=aHk (by omega)
   have hp:(0:Int)<(n:Int)+1:=by omega
   have hp2:(0:Int)≤(n:Int)+1:=by omega
   by_cases h0:m[n]=0
   ·simp [-map_map,-mapM_map,↓KW,aG,hx,hw,h0,hp]
    refine aI n ⟨by omega,(pF hn h0).symm.trans hs⟩ (by omega) (bB [] (by simp) ?_ ?_) <;> simp [-map_map,upd,aT,Γ0,aG]
   ·have h1:((m[n]:Int) == 0)=false:=by simp; omega
    have he:strip m=m.take (n+1):=hs.symm.trans (pG hn h0)
    have hn':(n:Int)+1≤m.length:=by omega
    obtain ⟨pre,hpre⟩:∃ pre,m.take (n+1)=pre:=⟨_,rfl⟩
    have hp1:∀ f:Nat→List D,(m.map f).take (n+1)=pre.map f:=fun f=>by rw [← hpre,List.map_take]
    rw [hpre] at he
    simp [-map_map,-mapM_map,↓KW,aG,hx,hw,h1,hp,hp2,he,hn',hp1,qC]
set_option maxRecDepth 10000 in
theorem bBz (neg:Bool) (m:List Nat) (hl:m.length≤1099511627776):Spec Tryz.prog 102 [.b neg,aG m] (encI (neg && decide (strip m≠[])) (strip m)):=by
 refine aX (N:=14) aF Tryz.func102 rfl rfl rfl (by kernel_rfl) (by kernel_rfl) (by simp) ?_
 simp [-map_map,-mapM_map,↓KW,aG]
 refine aA (ds:=[aG m]) (by rfl) (nA m hl) ?_
 cases hm:strip m with
 | nil =>
  cases neg <;> simp [-map_map,-mapM_map,↓KW,aG,encI]
 | cons x l =>
  have h1:(((l.length:Int)+1 == 0):Bool)=false:=by simp; omega
  cases neg <;> simp [-map_map,-mapM_map,↓KW,aG,encI,h1]
theorem lW {m:List Nat} (h:Lim m) (hl:m.length≤1099511627776) (neg:Bool):Spec Tryz.prog 102 [.b neg,aG m] (encZ (sg neg (val m))):=by
 rw [← dV h]; exact bBz neg m hl
set_option maxRecDepth 10000 in
theorem aGc (neg:Bool) (m:List Nat) (hl:m.length≤1099511627776):Spec Tryz.prog 66 [encI neg m] (.i .i64 (if strip m=[] then 0 else if neg then -1 else 1)):=by
 refine aX (N:=12) aF Tryz.func66 rfl rfl rfl (by kernel_rfl) (by kernel_rfl) (by simp) ?_
 simp [-map_map,-mapM_map,↓KW,encI,aG]
 refine aA (ds:=[aG m]) (by rfl) (nA m hl) ?_
 cases hm:strip m with
 | nil=>simp [-map_map,-mapM_map,↓KW,aG,encI]
 | cons x l =>
  have h1:(((l.length:Int)+1 == 0):Bool)=false:=by simp; omega
  cases neg <;> simp [-map_map,-mapM_map,↓KW,aG,encI,h1]
set_option maxRecDepth 10000 in
theorem bRm (x:Int):Spec Tryz.prog 107 [.i .i64 x] (.b false):=by
 refine aX (N:=6) aF Tryz.func107 rfl rfl rfl (by kernel_rfl) (by kernel_rfl) (by simp) ?_
 simp [-map_map,-mapM_map,↓KW]
set_option maxRecDepth 10000 in
theorem bRl (x:Int):Spec Tryz.prog 154 [.i .u32 x] (.b false):=by
 refine aX (N:=6) aF Tryz.func154 rfl rfl rfl (by kernel_rfl) (by kernel_rfl) (by simp) ?_
 simp [-map_map,-mapM_map,↓KW]
def kD (x y:Int):Int:=if x<y then -1 else if y<x then 1 else 0
set_option maxRecDepth 10000 in
theorem aOr (x y:Int):Spec Tryz.prog 70 [.i .i64 x,.i .i64 y] (.i .i64 (kD x y)):=by
 refine aX (N:=20) aF Tryz.func70 rfl rfl rfl (by kernel_rfl) (by kernel_rfl) (by simp) ?_
 simp [-map_map,-mapM_map,↓KW]
 refine aA (ds:=[.i .i64 x]) (by rfl) (bRm x) ?_
 simp [-map_map,-mapM_map,↓KW]
 refine aA (ds:=[.i .i64 y]) (by rfl) (bRm y) ?_
 by_cases h1:x<y
 ·simp [-map_map,-mapM_map,↓KW,h1,kD]
 ·by_cases h2:y<x <;> simp [-map_map,-mapM_map,↓KW,h1,h2,kD]
set_option maxRecDepth 10000 in
theorem bWc (x y:Int):Spec Tryz.prog 129 [.i .u32 x,.i .u32 y] (.i .i64 (kD x y)):=by
 refine aX (N:=20) aF Tryz.func129 rfl rfl rfl (by kernel_rfl) (by kernel_rfl) (by simp) ?_
 simp [-map_map,-mapM_map,↓KW]
 refine aA (ds:=[.i .u32 x]) (by rfl) (bRl x) ?_
 simp [-map_map,-mapM_map,↓KW]
 refine aA (ds:=[.i .u32 y]) (by rfl) (bRl y) ?_
 by_cases h1:x<y
 ·simp [-map_map,-mapM_map,↓KW,h1,kD]
 ·by_cases h2:y<x <;> simp [-map_map,-mapM_map,↓KW,h1,h2,kD]
def oG (a b:List Nat):Int:=if nZ a b then -1 else if nZ b a then 1 else 0
set_option maxRecDepth 10000 in
theorem aAd (a b:List Nat) (ha:Lim a) (hb:Lim b) (hla:a.length≤1099511627776) (hlb:b.length≤1099511627776):Spec Tryz.prog 100 [aG a,aG b] (.i .i64 (oG a b)):=by
 refine aX (N:=35) aF Tryz.func100 rfl rfl rfl (by kernel_rfl) (by kernel_rfl) (by simp) ?_
 simp [-map_map,-mapM_map,↓KW,aG]
 refine aA (ds:=[.i .i64 a.length,.i .i64 b.length]) (by rfl) (aOr _ _) ?_
 by_cases hn:a.length=b.length
 rotate_left
 ·rcases Nat.lt_or_gt_of_ne hn with h | h
  ·have h1:kD a.length b.length=-1:=by unfold kD; rw [if_pos (by omega)]
   have h2:oG a b=-1:=by simp [oG,nZ,hn,h]
   simp [-map_map,-mapM_map,↓KW,aG,h1,h2]
  ·have h1:kD a.length b.length=1:=by unfold kD; rw [if_neg (by omega),if_pos (by omega)]
   have h2:oG a b=1:=by
    have h3:¬ a.length<b.length:=by omega
    have h4:¬ b.length=a.length:=fun e=>hn e.symm
    simp [oG,nZ,hn,h,h3,h4]
   simp [-map_map,-mapM_map,↓KW,aG,h1,h2]
 ·have h1:kD a.length b.length=0:=by simp [kD,hn]
  have hw:IntKind.i64.wrap ((a.length:Int) - 1)=(a.length:Int) - 1:=aS (by omega) (by omega)
  simp [-map_map,-mapM_map,↓KW,aG,h1,hw]
  refine aU (fun k:Nat=>k≤a.length∧a.drop k=b.drop k) (fun k=>StL [(0,.d (aG a)),(1,.d (aG b)),(6,.d (.i .i64 ((k:Int) - 1)))] none []) (fun k=>k) a.length ⟨Nat.le_refl _,by rw [List.drop_eq_nil_of_le (Nat.le_refl _),List.drop_eq_nil_of_le (by omega)]⟩ ?_ ?_
  ·refine bB [] (by simp) ?_ ?_ <;> simp [-map_map,upd,aT,Γ0,aG]
  ·rintro k ⟨hk,hd⟩
   rcases k with _ | k
   ·have e:a=b:=by simpa using hd
    subst e
    simp [-map_map,-mapM_map,↓KW,aG,nZ,oG]
   ·have hkb:k<b.length:=by omega
    have hxa:a[k]? = some a[k]:=List.getElem?_eq_getElem hk
    have hxb:b[k]? = some b[k]:=List.getElem?_eq_getElem hkb
    have hw2:IntKind.i64.wrap ((k:Int) - 1)=(k:Int) - 1:=aS (by omega) (by omega)
    have hp:(0:Int)≤k:=by omega
    simp [-map_map,-mapM_map,↓KW,aG,hxa,hxb,hp]
    refine aA (ds:=[.i .u32 a[k],.i .u32 b[k]]) (by rfl) (bWc _ _) ?_
    by_cases he:a[k]=b[k]
    ·have h2:kD a[k] b[k]=0:=by simp [kD,he]
     simp [-map_map,-mapM_map,↓KW,aG,h2,hw2]
     refine aI k ⟨by omega,?_⟩ (by omega) (bB [] (by simp) ?_ ?_)
     ·rw [List.drop_eq_getElem_cons hk,List.drop_eq_getElem_cons hkb,he,hd]
     ·simp [-map_map,upd,aT,Γ0,aG]
     ·trivial
    ·have ga:a.getD k 0=a[k]:=by rw [List.getD_eq_getElem?_getD,hxa]; rfl
     have gb:b.getD k 0=b[k]:=by rw [List.getD_eq_getElem?_getD,hxb]; rfl
     rcases Nat.lt_or_ge a[k] b[k] with hlt | hge
     ·have h3:=qY ha (i:=k) hn hk hd (by rw [ga,gb]; exact hlt)
      have h4:kD a[k] b[k]=-1:=by unfold kD; rw [if_pos (by omega)]
      have h5:oG a b=-1:=by simp [oG,nZ,hn,h3]
      simp [-map_map,-mapM_map,↓KW,aG,h4,h5]
     ·have h3:=qY hb (i:=k) hn.symm hkb hd.symm (by rw [ga,gb]; omega)
      have h4:kD a[k] b[k]=1:=by unfold kD; rw [if_neg (by omega),if_pos (by omega)]
      have h6:¬ val a<val b:=by omega
      have h5:oG a b=1:=by simp [oG,nZ,hn,h3,h6]
      simp [-map_map,-mapM_map,↓KW,aG,h4,h5]
end Go.Am
end

section
set_option linter.unusedVariables false
set_option linter.unusedSimpArgs false
open List (map_map mapM_map)
open Go Go.Am Go.Proofs
namespace Go.Am
def zp (out:List Nat) (n:Nat):List Nat:=out++List.replicate (n - out.length) 0
theorem aEv {out:List Nat} {n:Nat} (h:out.length≤n):(zp out n).length=n:=by simp [zp]; omega
theorem aEw {out:List Nat} {n:Nat} (h:out.length=n):zp out n=out:=by subst h; simp [zp]
theorem aMf (n:Nat):zp [] n=List.replicate n 0:=by simp [zp]
theorem bMs {out:List Nat} {n i:Nat} (h:out.length=i) (hi:i<n) (v:Nat):(zp out n).set i v=zp (out++[v]) n:=by
 subst h
 unfold zp
 obtain ⟨k,hk⟩:∃ k,n - out.length=k+1:=⟨n - out.length - 1,by omega⟩
 rw [hk,List.set_append_right _ _ (Nat.le_refl _),Nat.sub_self,List.replicate_succ,List.set_cons_zero,List.length_append,List.length_singleton,show n - (out.length+1)=k from by omega,List.append_assoc]
 rfl
theorem yO {out:List Nat} {n i:Nat} (h:out.length=i) (hi:i<n) (v:Nat):lay (List.map AV.d (lms (zp out n))) i [AV.d (D.i .u32 (v:Int))]=List.map AV.d (lms (zp (out++[v]) n)):=by
 rw [oX _ _ _ (by rw [kY,aEv (by omega)]; exact hi),tW,bMs h hi]
theorem aYb {t:Nat}:jF .shr .u64 (t:Int) 32=some (.i .u64 ((t / 4294967296:Nat):Int)):=by
 simp only [jF,IntKind.bits]
 rw [if_neg (by decide)]
 congr 2
 rw [show (2:Int) ^ (min (32:Int).toNat 64)=4294967296 from by decide,Int.fdiv_eq_ediv_of_nonneg _ (by decide)]
 omega
theorem bLr {t:Int} (_h0:0≤t):jF .shr .u64 t 63=some (.i .u64 (t / 9223372036854775808)):=by
 simp only [jF,IntKind.bits]
 rw [if_neg (by decide)]
 congr 2
 rw [show (2:Int) ^ (min (63:Int).toNat 64)=9223372036854775808 from by decide,Int.fdiv_eq_ediv_of_nonneg _ (by decide)]
def ip (p q:List Nat):List Nat:=(plS p q p.length).1++[(plS p q p.length).2]
theorem bBy {p q:List Nat} (lp:Lim p) (lq:Lim q) (h:q.length≤p.length):val (ip p q)=val p+val q∧Lim (ip p q)∧(ip p q).length=p.length+1:=by
 obtain ⟨h1,h2,h3,h4⟩:=lO lp lq p.length
 rw [List.take_of_length_le (Nat.le_refl _),List.take_of_length_le h] at h4
 unfold ip
 refine ⟨?_,h3.app (.one (by omega)),by simp [h1]⟩
 rw [lM,h1]
 simp only [val,Nat.mul_zero,Nat.add_zero]
 exact h4
def oY (a b:List Nat):List Nat:=if a.length<b.length then ip b a else ip a b
theorem aNv {a b:List Nat} (ha:Lim a) (hb:Lim b):val (oY a b)=val a+val b∧Lim (oY a b)∧(oY a b).length≤a.length+b.length+1:=by
 unfold oY
 by_cases h:a.length<b.length
 ·rw [if_pos h]
  obtain ⟨h1,h2,h3⟩:=bBy hb ha (by omega)
  exact ⟨by omega,h2,by omega⟩
 ·rw [if_neg h]
  obtain ⟨h1,h2,h3⟩:=bBy ha hb (by omega)
  exact ⟨h1,h2,by omega⟩
set_option maxRecDepth 10000 in
theorem bJl (a b:List Nat) (ha:Lim a) (hb:Lim b) (hla:a.length≤274877906944) (hlb:b.length≤274877906944):Spec Tryz.prog 149 [aG a,aG b] (aG (oY a b)):=by
 refine aX (N:=57) aF Tryz.func149 rfl rfl rfl (by kernel_rfl) (by kernel_rfl) (by simp) ?_
 obtain ⟨p,q,lp,lq,hqp,hpl,hr,hc⟩:∃ p q:List Nat,Lim p∧Lim q∧q.length≤p.length∧p.length≤274877906944∧oY a b=ip p q∧((a.length<b.length∧p=b∧q=a)∨(¬ a.length<b.length∧p=a∧q=b)):=by
  by_cases h:a.length<b.length
  ·exact ⟨b,a,hb,ha,by omega,hlb,by simp [oY,h],.inl ⟨h,rfl,rfl⟩⟩
  ·exact ⟨a,b,ha,hb,by omega,hla,by simp [oY,h],.inr ⟨h,rfl,rfl⟩⟩
 rw [hr]
 obtain ⟨n,hn⟩:∃ n,p.length+1=n:=⟨_,rfl⟩
 have hw2:IntKind.i64.wrap ((p.length:Int)+1)=(n:Int):=by rw [aS (by omega) (by omega)]; omega
 have hm1:(4:Int) * n≤281474976710656:=by omega
 have hm2:(n:Int)≤9223372036854775807:=by omega
 rcases hc with ⟨h,hp,hq⟩ | ⟨h,hp,hq⟩ <;> subst hp <;> subst hq
 ·have h1:(q.length:Int)<p.length:=by omega
  simp [-map_map,-mapM_map,↓KW,aG,h1,hw2,hm1,hm2]
  refine aU (fun i:Nat=>i≤p.length) (fun i=>StL [(0,.d (aG p)),(1,.d (aG q)),(5,.own 1 0 n 1),(6,.d (.i .u64 (plS p q i).2)),(20,.d (.i .i64 p.length)),(21,.d (.i .i64 i))] none [.cells 121 ((lms (zp (plS p q i).1 n)).map .d)]) (fun i=>p.length - i) 0 (Nat.zero_le _) ?_ ?_
  ·refine bB [1] (by simp) ?_ ?_ <;> simp [-map_map,upd,aT,Γ0,aG,plS,aMf]
  ·intro i hi
   obtain ⟨hlen,hc,_,_⟩:=lO lp lq i
   have hsucc:plS p q (i+1)=((plS p q i).1++[((plS p q i).2+p.getD i 0+q.getD i 0) % 4294967296],((plS p q i).2+p.getD i 0+q.getD i 0) / 4294967296):=rfl
   have hal:=lp.getD i
   have hbl:=lq.getD i
   have hres:i=p.length→(plS p q i).1++[(plS p q i).2]=ip p q:=fun e=>by rw [e]; rfl
   generalize hout:(plS p q i).1=out at *
   generalize hcar:(plS p q i).2=c at *
   have hzl:(zp out n).length=n:=aEv (by omega)
   by_cases hgo:i<p.length
   ·have hw7:IntKind.i64.wrap ((i:Int)+1)=(i:Int)+1:=aS (by omega) (by omega)
    have q1:(i:Int)<p.length:=by omega
    have q3:(i:Int)<n:=by omega
    have q4:i+1≤n:=by omega
    have g1:=getD_some hgo
    have hb0:¬ i<q.length→q.getD i 0=0:=getD_none
    have g2:i<q.length→q[i]? = some (q.getD i 0):=getD_some
    generalize p.getD i 0=x at *
    generalize q.getD i 0=y at *
    obtain ⟨s1,hs1⟩:∃ s1:Nat,c+x=s1:=⟨_,rfl⟩
    obtain ⟨s2,hs2⟩:∃ s2:Nat,s1+y=s2:=⟨_,rfl⟩
    rw [hs1,hs2] at hsucc
    have hwx:IntKind.u64.wrap (x:Int)=x:=bL (by omega) (by omega)
    have hwy:IntKind.u64.wrap (y:Int)=y:=bL (by omega) (by omega)
    have hw1:IntKind.u64.wrap ((c:Int)+x)=s1:=by rw [bL (by omega) (by omega)]; omega
    have hw2':IntKind.u64.wrap ((s1:Int)+y)=s2:=by rw [bL (by omega) (by omega)]; omega
    obtain ⟨lo,hlo⟩:∃ lo:Nat,s2 % 4294967296=lo:=⟨_,rfl⟩
    have hsh:=aYb (t:=s2)
    obtain ⟨hi',hhi⟩:∃ hi':Nat,s2 / 4294967296=hi':=⟨_,rfl⟩
    rw [hhi] at hsh
    have hw3:IntKind.u32.wrap (s2:Int)=lo:=by rw [gR]; omega
    rw [hlo,hhi] at hsucc
    have hlay:=yO hlen (show i<n by omega) lo
    by_cases hbn:i<q.length
    ·have q2:(i:Int)<q.length:=by omega
     have g3:=g2 hbn
     simp [-map_map,-mapM_map,↓KW,aG,q1,q2,q3,q4,g1,g3,hwx,hwy,hw1,hw2',hw3,hsh,hlay,hw7,hzl]
     refine aI (i+1) hgo ?_ (bB [1] (by simp) ?_ ?_)
     ·omega
     ·simp [-map_map,upd,aT,Γ0,aG,hsucc]
     ·simp [-map_map,upd,aT,Γ0,aG,hsucc]
    ·have q2:¬ (i:Int)<q.length:=by omega
     have e2:s2=s1:=by have:=hb0 hbn; omega
     rw [e2] at hw3 hsh
     simp [-map_map,-mapM_map,↓KW,aG,q1,q2,q3,q4,g1,hwx,hw1,hw3,hsh,hlay,hw7,hzl]
     refine aI (i+1) hgo ?_ (bB [1] (by simp) ?_ ?_)
     ·omega
     ·simp [-map_map,upd,aT,Γ0,aG,hsucc]
     ·simp [-map_map,upd,aT,Γ0,aG,hsucc]
   ·have e:i=p.length:=by omega
    have h1:¬ (i:Int)<p.length:=by omega
    have h4:=hres e
    have hn':(p.length:Int)<n:=by omega
    have hn2:p.length+1≤n:=by omega
    have hw3:IntKind.u32.wrap (c:Int)=c:=iR (by omega) (by omega)
    have hlay:=yO (hlen.trans e) (show p.length<n by omega) c
    have hfl:(out++[c]).length=n:=by simp; omega
    have h5:zp (out++[c]) n=out++[c]:=aEw hfl
    rw [h5,h4] at hlay
    rw [h4] at hfl
    simp [-map_map,-mapM_map,↓KW,aG,h1,hn',hn2,hw3,hlay,hzl,hfl,fL hfl,dZ hfl]
 ·have h1:¬ (p.length:Int)<q.length:=by omega
  simp [-map_map,-mapM_map,↓KW,aG,h1,hw2,hm1,hm2]
  refine aU (fun i:Nat=>i≤p.length) (fun i=>StL [(0,.d (aG p)),(1,.d (aG q)),(5,.own 1 0 n 1),(6,.d (.i .u64 (plS p q i).2)),(20,.d (.i .i64 p.length)),(21,.d (.i .i64 i))] none [.cells 121 ((lms (zp (plS p q i).1 n)).map .d)]) (fun i=>p.length - i) 0 (Nat.zero_le _) ?_ ?_
  ·refine bB [1] (by simp) ?_ ?_ <;> simp [-map_map,upd,aT,Γ0,aG,plS,aMf]
  ·intro i hi
   obtain ⟨hlen,hc,_,_⟩:=lO lp lq i
   have hsucc:plS p q (i+1)=((plS p q i).1++[((plS p q i).2+p.getD i 0+q.getD i 0) % 4294967296],((plS p q i).2+p.getD i 0+q.getD i 0) / 4294967296):=rfl
   have hal:=lp.getD i
   have hbl:=lq.getD i
   have hres:i=p.length→(plS p q i).1++[(plS p q i).2]=ip p q:=fun e=>by rw [e]; rfl
   generalize hout:(plS p q i).1=out at *
   generalize hcar:(plS p q i).2=c at *
   have hzl:(zp out n).length=n:=aEv (by omega)
   by_cases hgo:i<p.length
   ·have hw7:IntKind.i64.wrap ((i:Int)+1)=(i:Int)+1:=aS (by omega) (by omega)
    have q1:(i:Int)<p.length:=by omega
    have q3:(i:Int)<n:=by omega
    have q4:i+1≤n:=by omega
    have g1:=getD_some hgo
    have hb0:¬ i<q.length→q.getD i 0=0:=getD_none
    have g2:i<q.length→q[i]? = some (q.getD i 0):=getD_some
    generalize p.getD i 0=x at *
    generalize q.getD i 0=y at *
    obtain ⟨s1,hs1⟩:∃ s1:Nat,c+x=s1:=⟨_,rfl⟩
    obtain ⟨s2,hs2⟩:∃ s2:Nat,s1+y=s2:=⟨_,rfl⟩
    rw [hs1,hs2] at hsucc
    have hwx:IntKind.u64.wrap (x:Int)=x:=bL (by omega) (by omega)
    have hwy:IntKind.u64.wrap (y:Int)=y:=bL (by omega) (by omega)
    have hw1:IntKind.u64.wrap ((c:Int)+x)=s1:=by rw [bL (by omega) (by omega)]; omega
    have hw2':IntKind.u64.wrap ((s1:Int)+y)=s2:=by rw [bL (by omega) (by omega)]; omega
    obtain ⟨lo,hlo⟩:∃ lo:Nat,s2 % 4294967296=lo:=⟨_,rfl⟩
    have hsh:=aYb (t:=s2)
    obtain ⟨hi',hhi⟩:∃ hi':Nat,s2 / 4294967296=hi':=⟨_,rfl⟩
    rw [hhi] at hsh
    have hw3:IntKind.u32.wrap (s2:Int)=lo:=by rw [gR]; omega
    rw [hlo,hhi] at hsucc
    have hlay:=yO hlen (show i<n by omega) lo
    by_cases hbn:i<q.length
    ·have q2:(i:Int)<q.length:=by omega
     have g3:=g2 hbn
     simp [-map_map,-mapM_map,↓KW,aG,q1,q2,q3,q4,g1,g3,hwx,hwy,hw1,hw2',hw3,hsh,hlay,hw7,hzl]
     refine aI (i+1) hgo ?_ (bB [1] (by simp) ?_ ?_)
     ·omega
     ·simp [-map_map,upd,aT,Γ0,aG,hsucc]
     ·simp [-map_map,upd,aT,Γ0,aG,hsucc]
    ·have q2:¬ (i:Int)<q.length:=by omega
     have e2:s2=s1:=by have:=hb0 hbn; omega
     rw [e2] at hw3 hsh
     simp [-map_map,-mapM_map,↓KW,aG,q1,q2,q3,q4,g1,hwx,hw1,hw3,hsh,hlay,hw7,hzl]
     refine aI (i+1) hgo ?_ (bB [1] (by simp) ?_ ?_)
     ·omega
     ·simp [-map_map,upd,aT,Γ0,aG,hsucc]
     ·simp [-map_map,upd,aT,Γ0,aG,hsucc]
   ·have e:i=p.length:=by omega
    have h1:¬ (i:Int)<p.length:=by omega
    have h4:=hres e
    have hn':(p.length:Int)<n:=by omega
    have hn2:p.length+1≤n:=by omega
    have hw3:IntKind.u32.wrap (c:Int)=c:=iR (by omega) (by omega)
    have hlay:=yO (hlen.trans e) (show p.length<n by omega) c
    have hfl:(out++[c]).length=n:=by simp; omega
    have h5:zp (out++[c]) n=out++[c]:=aEw hfl
    rw [h5,h4] at hlay
    rw [h4] at hfl
    simp [-map_map,-mapM_map,↓KW,aG,h1,hn',hn2,hw3,hlay,hzl,hfl,fL hfl,dZ hfl]
set_option maxRecDepth 10000 in
theorem aKm (a b:List Nat) (ha:Lim a) (hb:Lim b) (hla:a.length≤274877906944):Spec Tryz.prog 150 [aG a,aG b] (aG (jX a b)):=by
 refine aX (N:=44) aF Tryz.func150 rfl rfl rfl (by kernel_rfl) (by kernel_rfl) (by simp) ?_
 obtain ⟨n,hn⟩:∃ n,a.length=n:=⟨_,rfl⟩
 have hm1:(4:Int) * n≤281474976710656:=by omega
 have hm2:(n:Int)≤9223372036854775807:=by omega
 simp [-map_map,-mapM_map,↓KW,aG,hn,hm1,hm2]
 refine aU (fun i:Nat=>i≤n) (fun i=>StL [(0,.d (aG a)),(1,.d (aG b)),(5,.own 1 0 n 1),(6,.d (.i .u64 (miS a b i).2)),(13,.d (.i .i64 n)),(14,.d (.i .i64 i))] none [.cells 121 ((lms (zp (miS a b i).1 n)).map .d)]) (fun i=>n - i) 0 (Nat.zero_le _) ?_ ?_
 ·refine bB [1] (by simp) ?_ ?_ <;> simp [-map_map,upd,aT,Γ0,aG,miS,aMf,hn]
 ·intro i hi
  obtain ⟨hlen,hc,_,_⟩:=aFy ha hb i
  have hsucc:=aKf a b i
  have hal:=ha.getD i
  have hbl:=hb.getD i
  have hres:i=n→(miS a b i).1=jX a b:=fun e=>by rw [e,← hn]; rfl
  generalize hout:(miS a b i).1=out at *
  generalize hcar:(miS a b i).2=c at *
  have hzl:(zp out n).length=n:=aEv (by omega)
  by_cases hgo:i<n
  ·have hw7:IntKind.i64.wrap ((i:Int)+1)=(i:Int)+1:=aS (by omega) (by omega)
   have q1:(i:Int)<n:=by omega
   have q4:i+1≤n:=hgo
   have g1:=getD_some (l:=a) (i:=i) (by omega)
   have hb0:¬ i<b.length→b.getD i 0=0:=getD_none
   have g2:i<b.length→b[i]? = some (b.getD i 0):=getD_some
   generalize a.getD i 0=x at *
   generalize b.getD i 0=y at *
   have hwx:IntKind.u64.wrap (x:Int)=x:=bL (by omega) (by omega)
   have hwy:IntKind.u64.wrap (y:Int)=y:=bL (by omega) (by omega)
   obtain ⟨d1,hd1⟩:∃ d1:Int,IntKind.u64.wrap ((x:Int) - c)=d1:=⟨_,rfl⟩
   obtain ⟨d,hd⟩:∃ d:Int,IntKind.u64.wrap (d1 - y)=d:=⟨_,rfl⟩
   have hd1':=hd1
   have hd':=hd
   rw [vF] at hd1' hd'
   have hfin:∃ (lo bw:Nat),miS a b (i+1)=(out++[lo],bw)∧IntKind.u32.wrap d=lo∧jF .shr .u64 d 63=some (.i .u64 (bw:Int)):=by
    by_cases hle:c+y≤x
    ·rw [if_pos hle] at hsucc
     refine ⟨_,_,hsucc,?_,?_⟩
     ·rw [gR]; omega
     ·rw [bLr (by omega)]; congr 2; omega
    ·rw [if_neg hle] at hsucc
     refine ⟨_,_,hsucc,?_,?_⟩
     ·rw [gR]; omega
     ·rw [bLr (by omega)]; congr 2; omega
   obtain ⟨lo,bw,hs,hlo,hbw⟩:=hfin
   have hlay:=yO hlen hgo lo
   by_cases hbn:i<b.length
   ·have q2:(i:Int)<b.length:=by omega
    have g3:=g2 hbn
    simp [-map_map,-mapM_map,↓KW,aG,q1,q2,g1,g3,hwx,hwy,hd1,hd,hlo,hbw,hlay,hw7,hzl,q4]
    refine aI (i+1) hgo ?_ (bB [1] (by simp) ?_ ?_)
    ·omega
    ·simp [-map_map,upd,aT,Γ0,aG,hs]
    ·simp [-map_map,upd,aT,Γ0,aG,hs]
   ·have q2:¬ (i:Int)<b.length:=by omega
    have e1:d1=d:=by have:=hb0 hbn; omega
    rw [e1] at hd1
    simp [-map_map,-mapM_map,↓KW,aG,q1,q2,g1,hwx,hd1,hlo,hbw,hlay,hw7,hzl,q4]
    refine aI (i+1) hgo ?_ (bB [1] (by simp) ?_ ?_)
    ·omega
    ·simp [-map_map,upd,aT,Γ0,aG,hs]
    ·simp [-map_map,upd,aT,Γ0,aG,hs]
  ·have e:i=n:=by omega
   have h1:¬ (i:Int)<n:=by omega
   have h4:=hres e
   have h5:zp out n=out:=aEw (by omega)
   have hlen':out.length=n:=by omega
   simp [-map_map,-mapM_map,↓KW,aG,h1,h5,hlen',fL hlen',dZ hlen',← h4]
end Go.Am
end

section
set_option linter.unusedVariables false
set_option linter.unusedSimpArgs false
open List (map_map mapM_map)
open Go Go.Am Go.Proofs
namespace Go.Am
theorem bMx (l:List Nat) (j:Nat):4294967296 ^ j * l.getD j 0≤val l:=by
 have h:=dD l j
 have e:val l=val (l.take (j+1))+4294967296 ^ (l.take (j+1)).length * val (l.drop (j+1)):=by rw [← lM,List.take_append_drop]
 have h2:val (l.take (j+1))≤val l:=by rw [e]; exact Nat.le_add_right _ _
 rw [h] at h2
 exact Nat.le_trans (Nat.le_add_left _ _) h2
theorem xL {l:List Nat} {j:Nat} (h:val l<4294967296 ^ j):l.getD j 0=0:=by
 have h1:=bMx l j
 rcases Nat.eq_zero_or_pos (l.getD j 0) with h2 | h2
 ·exact h2
 ·exfalso
  have:4294967296 ^ j * 1≤4294967296 ^ j * l.getD j 0:=Nat.mul_le_mul_left _ h2
  rw [Nat.mul_one] at this
  omega
theorem aUw {out b:List Nat} {x i:Nat} (k j:Nat) (h:i+k≤j):(muI out x b i k).1.getD j 0=out.getD j 0:=by
 induction k with
 | zero=>rfl
 | succ k ih =>
  have:=ih (by omega)
  rw [← this]
  simp only [muI,List.getD_eq_getElem?_getD]
  rw [List.getElem?_set_ne (by omega)]
def tmO (a b:List Nat):Nat→List Nat
 | 0=>List.replicate (a.length+b.length) 0
 | i+1=>(muI (tmO a b i) (a.getD i 0) b i b.length).1.set (i+b.length) (muI (tmO a b i) (a.getD i 0) b i b.length).2
theorem aQc {a b:List Nat} (ha:Lim a) (hb:Lim b) (i:Nat) (hi:i≤a.length):(tmO a b i).length=a.length+b.length∧Lim (tmO a b i)∧val (tmO a b i)=val (a.take i) * val b:=by
 induction i with
 | zero=>exact ⟨by simp [tmO],.rep _,by simp [tmO,xS,val]⟩
 | succ i ih =>
  obtain ⟨h1,h2,h3⟩:=ih (by omega)
  have hv:=aNq ha hb (i:=i) (by omega)
  rw [← h3] at hv
  have hx:=ha.getD i
  obtain ⟨q1,q2,q3,q4⟩:=rH (x:=a.getD i 0) (i:=i) h2 hb hx (by omega) b.length (by omega)
  have habove:=aUw (out:=tmO a b i) (b:=b) (x:=a.getD i 0) (i:=i) b.length (i+b.length) (Nat.le_refl _)
  rw [xL hv] at habove
  rw [List.take_of_length_le (Nat.le_refl _)] at q4
  have hset:=aFf (l:=(muI (tmO a b i) (a.getD i 0) b i b.length).1) (j:=i+b.length) (by omega) (muI (tmO a b i) (a.getD i 0) b i b.length).2
  rw [habove,Nat.mul_zero,Nat.add_zero,q4] at hset
  refine ⟨?_,q3.set _ q2,?_⟩
  ·show (List.set _ _ _).length=_
   rw [List.length_set,q1,h1]
  ·show val (List.set _ _ _)=_
   rw [hset,h3,dD,Nat.add_mul,Nat.mul_assoc]
def vH (a b:List Nat):List Nat:=tmO a b a.length
theorem aMn {a b:List Nat} (ha:Lim a) (hb:Lim b):val (vH a b)=val a * val b∧Lim (vH a b)∧(vH a b).length=a.length+b.length:=by
 obtain ⟨h1,h2,h3⟩:=aQc ha hb a.length (Nat.le_refl _)
 rw [List.take_of_length_le (Nat.le_refl _)] at h3
 exact ⟨h3,h2,h1⟩
set_option maxHeartbeats 1000000 in
set_option maxRecDepth 10000 in
theorem bCa (a b:List Nat) (la:Lim a) (lb:Lim b) (hla:a.length≤137438953472) (hlb:b.length≤137438953472):Spec Tryz.prog 115 [aG a,aG b] (aG (vH a b)):=by
 refine aX (N:=66) aF Tryz.func115 rfl rfl rfl (by kernel_rfl) (by kernel_rfl) (by simp) ?_
 obtain ⟨n,hn⟩:∃ n,a.length+b.length=n:=⟨_,rfl⟩
 have hw1:IntKind.i64.wrap ((a.length:Int)+b.length)=(n:Int):=by rw [aS (by omega) (by omega)]; omega
 have hm1:(4:Int) * n≤281474976710656:=by omega
 have hm2:(n:Int)≤9223372036854775807:=by omega
 have h00:tmO a b 0=List.replicate n 0:=by rw [← hn]; rfl
 simp [-map_map,-mapM_map,↓KW,aG,hw1,hm1,hm2]
 refine aU (fun i:Nat=>i≤a.length)
  (fun i=>StL [(0,.d (aG a)),(1,.d (aG b)),(5,.own 1 0 n 1),(17,.d (aG a)),(18,.d (.i .i64 a.length)),(19,.d (.i .i64 i))] none [.cells 121 ((lms (tmO a b i)).map .d)]) (fun i=>a.length - i) 0 (Nat.zero_le _) ?_ ?_
 ·refine bB [1] (by simp) ?_ ?_ <;> simp [-map_map,upd,aT,Γ0,aG,h00]
 ·intro i hi
  obtain ⟨ol,om,ov⟩:=aQc la lb i hi
  rw [hn] at ol
  by_cases hgo:i<a.length
  ·have q1:(i:Int)<a.length:=by omega
   have g1:=getD_some hgo
   have hsucc:tmO a b (i+1)=(muI (tmO a b i) (a.getD i 0) b i b.length).1.set (i+b.length) (muI (tmO a b i) (a.getD i 0) b i b.length).2:=rfl
   have hal:=la.getD i
   generalize hout:tmO a b i=out at *
   generalize a.getD i 0=xv at *
   simp [-map_map,-mapM_map,↓KW,aG,q1,g1]
   have hwx:IntKind.u64.wrap (xv:Int)=xv:=bL (by omega) (by omega)
   refine aU (fun k:Nat=>k≤b.length)
    (fun k=>StL [(0,.d (aG a)),(1,.d (aG b)),(5,.own 1 0 n 1),(17,.d (aG a)),(18,.d (.i .i64 a.length)),(19,.d (.i .i64 i)),(6,.d (.i .i64 i)),(7,.d (.i .u32 xv)),(8,.d (.i .u64 (muI out xv b i k).2)),(24,.d (aG b)),(25,.d (.i .i64 b.length)),(26,.d (.i .i64 k))] none
     [.cells 121 ((lms (muI out xv b i k).1).map .d)]) (fun k=>b.length - k) 0 (Nat.zero_le _) ?_ ?_
   ·refine bB [1] (by simp) ?_ ?_ <;> simp [-map_map,upd,aT,Γ0,aG,muI]
   ·intro k hk
    obtain ⟨il,ic,im,_⟩:=rH om lb hal (i:=i) (by omega) k (by omega)
    have isucc:muI out xv b i (k+1)=((muI out xv b i k).1.set (i+k) (((muI out xv b i k).2+(muI out xv b i k).1.getD (i+k) 0+xv * b.getD k 0) % 4294967296),((muI out xv b i k).2+(muI out xv b i k).1.getD (i+k) 0+xv * b.getD k 0) / 4294967296):=rfl
    have hres:k=b.length→tmO a b (i+1)=(muI out xv b i k).1.set (i+b.length) (muI out xv b i k).2:=fun e=>by rw [e]; exact hsucc
    clear hsucc
    have ho:=im.getD (i+k)
    generalize hcar:(muI out xv b i k).2=c at *
    generalize hcur:(muI out xv b i k).1=cur at *
    have hgj:List.length cur=n:=by omega
    by_cases hkb:k<b.length
    ·obtain ⟨j,hj⟩:∃ j,i+k=j:=⟨_,rfl⟩
     rw [hj] at isucc ho
     have hjl:j<cur.length:=by omega
     have g2:=aRn (getD_some hjl)
     have hwj:IntKind.i64.wrap ((i:Int)+k)=j:=by rw [aS (by omega) (by omega)]; omega
     have hjn:(j:Int)<n:=by omega
     have hw8:IntKind.i64.wrap ((k:Int)+1)=(k:Int)+1:=aS (by omega) (by omega)
     have hjl2:j<(lms cur).length:=by rw [kY]; exact hjl
     have hjl3:j+1≤n:=by omega
     have hyb:=lb.getD k
     have hlim:=aNp ic ho hal hyb
     have g4:=getD_some hkb
     have q2:(k:Int)<b.length:=by omega
     generalize cur.getD j 0=o at *
     generalize b.getD k 0=yv at *
     obtain ⟨e,he⟩:∃ e:Nat,xv * yv=e:=⟨_,rfl⟩
     rw [he] at isucc hlim
     obtain ⟨s1,hs1⟩:∃ s1:Nat,e+o=s1:=⟨_,rfl⟩
     obtain ⟨t,ht⟩:∃ t:Nat,c+o+e=t:=⟨_,rfl⟩
     rw [ht] at isucc hlim
     obtain ⟨lo,hlo⟩:∃ lo:Nat,t % 4294967296=lo:=⟨_,rfl⟩
     have hsh:=aYb (t:=t)
     obtain ⟨hi',hhi⟩:∃ hi':Nat,t / 4294967296=hi':=⟨_,rfl⟩
     rw [hlo,hhi] at isucc
     rw [hhi] at hsh
     have hwo:IntKind.u64.wrap (o:Int)=o:=bL (by omega) (by omega)
     have hwy:IntKind.u64.wrap (yv:Int)=yv:=bL (by omega) (by omega)
     have hwm:IntKind.u64.wrap ((xv:Int) * yv)=e:=by rw [← Int.natCast_mul,he,bL (by omega) (by omega)]
     have hws:IntKind.u64.wrap ((e:Int)+o)=s1:=by rw [bL (by omega) (by omega)]; omega
     have hwt:IntKind.u64.wrap ((c:Int)+s1)=t:=by rw [bL (by omega) (by omega)]; omega
     have hwlo:IntKind.u32.wrap (t:Int)=lo:=by rw [gR]; omega
     have hlay:lay (List.map AV.d (lms cur)) j [AV.d (D.i .u32 (lo:Int))]=List.map AV.d (lms (cur.set j lo)):=by
      rw [oX _ _ _ hjl2,tW]
     simp [-map_map,-mapM_map,↓KW,aG,q2,hwj,hjn,g2,hwo,hws,g1,g4,hwx,hwy,hwm,hwt,hwlo,hsh,hlay,hw8,hjl3,hgj]
     refine aI (k+1) hkb ?_ (bB [1] (by simp) ?_ ?_)
     ·omega
     ·simp [-map_map,upd,aT,Γ0,aG,isucc]
     ·simp [-map_map,upd,aT,Γ0,aG,isucc]
    ·have q2:¬ (k:Int)<b.length:=by omega
     have hfin:=hres (by omega)
     have hw8:IntKind.i64.wrap ((i:Int)+1)=(i:Int)+1:=aS (by omega) (by omega)
     obtain ⟨j,hj⟩:∃ j,i+b.length=j:=⟨_,rfl⟩
     rw [hj] at hfin
     have hwj:IntKind.i64.wrap ((i:Int)+b.length)=j:=by rw [aS (by omega) (by omega)]; omega
     have hjn:(j:Int)<n:=by omega
     have hjl3:j+1≤n:=by omega
     have hjl2:j<(lms cur).length:=by rw [kY]; omega
     have hwc:IntKind.u32.wrap (c:Int)=c:=iR (by omega) (by omega)
     have hlay:lay (List.map AV.d (lms cur)) j [AV.d (D.i .u32 (c:Int))]=List.map AV.d (lms (cur.set j c)):=by
      rw [oX _ _ _ hjl2,tW]
     simp [-map_map,-mapM_map,↓KW,aG,q2,hw8,hwj,hjn,hjl3,hwc,hlay,hgj]
     refine aI (i+1) hgo ?_ (bB [1] (by simp) ?_ ?_)
     ·omega
     ·simp [-map_map,upd,aT,Γ0,aG,hfin]
     ·simp [-map_map,upd,aT,Γ0,aG,hfin]
  ·have q1:¬ (i:Int)<a.length:=by omega
   have e:i=a.length:=by omega
   have e':tmO a b i=vH a b:=by rw [e]; rfl
   rw [e'] at ol
   simp [-map_map,-mapM_map,↓KW,aG,q1,e',ol,fL ol,dZ ol]
set_option maxHeartbeats 1000000 in
set_option maxRecDepth 10000 in
theorem uA (x y:Int) (hx:(aW x.natAbs).length≤137438953472) (hy:(aW y.natAbs).length≤137438953472):Spec Tryz.prog 81 [encZ x,encZ y] (encZ (x * y)):=by
 refine aX (N:=18) aF Tryz.func81 rfl rfl rfl (by kernel_rfl) (by kernel_rfl) (by simp) ?_
 have la:=cC x.natAbs
 have lb:=cC y.natAbs
 have va:=cR x.natAbs
 have vb:=cR y.natAbs
 have ta:=nA (aW x.natAbs) (by omega)
 have tb:=nA (aW y.natAbs) (by omega)
 rw [gL la,va] at ta
 rw [gL lb,vb] at tb
 have sx:=gS x
 have sy:=gS y
 have ex:encZ x=.ag [.b (decide (x<0)),aG (aW x.natAbs)]:=rfl
 have ey:encZ y=.ag [.b (decide (y<0)),aG (aW y.natAbs)]:=rfl
 rw [ex,ey]
 generalize aW x.natAbs=a at *
 generalize aW y.natAbs=b at *
 generalize hbx:decide (x<0)=nx at *
 generalize hby:decide (y<0)=ny at *
 obtain ⟨tv,tl,tn⟩:=aMn la lb
 simp [-map_map,-mapM_map,↓KW,aG]
 refine aA (ds:=[aG a]) (by rfl) ta ?_
 simp [-map_map,-mapM_map,↓KW,aG]
 refine aA (ds:=[aG b]) (by rfl) tb ?_
 simp [-map_map,-mapM_map,↓KW,aG]
 refine aA (ds:=[aG a,aG b]) (by rfl) (bCa a b la lb hx hy) ?_
 simp [-map_map,-mapM_map,↓KW,aG]
 have hm:=lW tl (by omega) (!(nx == ny))
 rw [tv,va,vb] at hm
 have e2:sg (!(nx == ny)) (x.natAbs * y.natAbs)=x * y:=by
  rw [← sx,← sy]
  cases nx <;> cases ny <;> simp [sg,Int.mul_neg,Int.neg_mul]
 rw [e2] at hm
 refine aA (ds:=[.b (!(nx == ny)),aG (vH a b)]) (by rfl) hm ?_
 simp [-map_map,-mapM_map,↓KW,aG,encZ,encI]
set_option maxHeartbeats 1000000 in
set_option maxRecDepth 10000 in
theorem aRq (x y:Int) (hx:(aW x.natAbs).length≤137438953472) (hy:(aW y.natAbs).length≤137438953472):Spec Tryz.prog 125 [encZ x,encZ y] (encZ (x+y)):=by
 refine aX (N:=42) aF Tryz.func125 rfl rfl rfl (by kernel_rfl) (by kernel_rfl) (by simp) ?_
 have la:=cC x.natAbs
 have lb:=cC y.natAbs
 have va:=cR x.natAbs
 have vb:=cR y.natAbs
 have ta:=nA (aW x.natAbs) (by omega)
 have tb:=nA (aW y.natAbs) (by omega)
 rw [gL la,va] at ta
 rw [gL lb,vb] at tb
 have hless:(aW x.natAbs).length<(aW y.natAbs).length→x.natAbs<y.natAbs:=iK
 have hless2:(aW y.natAbs).length<(aW x.natAbs).length→y.natAbs<x.natAbs:=iK
 have hl:=aAd _ _ la lb (by omega) (by omega)
 have hcmp:(x.natAbs<y.natAbs→oG (aW x.natAbs) (aW y.natAbs)<0)∧(¬ x.natAbs<y.natAbs→¬ oG (aW x.natAbs) (aW y.natAbs)<0):=by
  unfold oG
  rw [jG,jG]
  constructor
  ·intro h; rw [if_pos (by simpa using h)]; decide
  ·intro h
   rw [if_neg (by simpa using h)]
   split <;> decide
 have sx:=gS x
 have sy:=gS y
 have ex:encZ x=.ag [.b (decide (x<0)),aG (aW x.natAbs)]:=rfl
 have ey:encZ y=.ag [.b (decide (y<0)),aG (aW y.natAbs)]:=rfl
 rw [ex,ey]
 generalize aW x.natAbs=a at *
 generalize aW y.natAbs=b at *
 generalize hbx:decide (x<0)=nx at *
 generalize hby:decide (y<0)=ny at *
 simp [-map_map,-mapM_map,↓KW,aG]
 refine aA (ds:=[aG a]) (by rfl) ta ?_
 simp [-map_map,-mapM_map,↓KW,aG]
 refine aA (ds:=[aG b]) (by rfl) tb ?_
 by_cases hn:nx=ny
 ·have h1:(nx == ny)=true:=by simpa using hn
  simp [-map_map,-mapM_map,↓KW,aG,h1]
  obtain ⟨pv,pl,pn⟩:=aNv la lb
  refine aA (ds:=[aG a,aG b]) (by rfl) (bJl a b la lb (by omega) (by omega)) ?_
  simp [-map_map,-mapM_map,↓KW,aG]
  have hm:=lW pl (by omega) nx
  rw [pv,va,vb] at hm
  have e:sg nx (x.natAbs+y.natAbs)=x+y:=by
   rw [← sx,← sy,← hn]; cases nx <;> simp [sg] <;> omega
  rw [e] at hm
  refine aA (ds:=[.b nx,aG (oY a b)]) (by rfl) hm ?_
  simp [-map_map,-mapM_map,↓KW,aG,encZ,encI]
 ·have h1:(nx == ny)=false:=by simpa using hn
  simp [-map_map,-mapM_map,↓KW,aG,h1]
  refine aA (ds:=[aG a,aG b]) (by rfl) hl ?_
  by_cases hlt:x.natAbs<y.natAbs
  ·have h2:=hcmp.1 hlt
   simp [-map_map,-mapM_map,↓KW,aG,h2]
   obtain ⟨pv,pl,pn⟩:=oV lb la (by omega) (by omega)
   refine aA (ds:=[aG b,aG a]) (by rfl) (aKm b a lb la (by omega)) ?_
   simp [-map_map,-mapM_map,↓KW,aG]
   have hm:=lW pl (by omega) ny
   rw [pv,va,vb] at hm
   have e:sg ny (y.natAbs - x.natAbs)=x+y:=by
    rw [← sx,← sy]
    cases nx <;> cases ny <;> simp [sg] at hn ⊢ <;> omega
   rw [e] at hm
   refine aA (ds:=[.b ny,aG (jX b a)]) (by rfl) hm ?_
   simp [-map_map,-mapM_map,↓KW,aG,encZ,encI]
  ·have h2:=hcmp.2 hlt
   simp [-map_map,-mapM_map,↓KW,aG,h2]
   obtain ⟨pv,pl,pn⟩:=oV la lb (by omega) (by omega)
   refine aA (ds:=[aG a,aG b]) (by rfl) (aKm a b la lb (by omega)) ?_
   simp [-map_map,-mapM_map,↓KW,aG]
   have hm:=lW pl (by omega) nx
   rw [pv,va,vb] at hm
   have e:sg nx (x.natAbs - y.natAbs)=x+y:=by
    rw [← sx,← sy]
    cases nx <;> cases ny <;> simp [sg] at hn ⊢ <;> omega
   rw [e] at hm
   refine aA (ds:=[.b nx,aG (jX a b)]) (by rfl) hm ?_
   simp [-map_map,-mapM_map,↓KW,aG,encZ,encI]
end Go.Am
end

section
set_option linter.unusedVariables false
set_option linter.unusedSimpArgs false
open Go Go.Am Go.Proofs
namespace Go.Am
def fD (f:Int × Int):List D:=[.i .i64 f.1,.b (decide (f.2<0)),aG (aW f.2.natAbs)]
def aO (l:List (Int × Int)):D:=.sl (l.map fD)
def fcs (l:List (Int × Int)):List D:=(l.map fD).flatten
theorem rN (l:List (Int × Int)):(fcs l).length=l.length * 3:=by
 unfold fcs
 induction l with
 | nil=>rfl
 | cons x l ih=>simp only [List.map_cons,List.flatten_cons,List.length_append,ih,fD,List.length_cons,List.length_nil]; omega
theorem bKc:fcs []=[]:=rfl
theorem eF (a b:List (Int × Int)):fcs (a++b)=fcs a++fcs b:=by simp [fcs]
theorem cP (f:Int × Int):fcs [f]=[.i .i64 f.1,.b (decide (f.2<0)),aG (aW f.2.natAbs)]:=rfl
theorem bKb (f g:Int × Int):fcs [f,g]=[.i .i64 f.1,.b (decide (f.2<0)),aG (aW f.2.natAbs),.i .i64 g.1,.b (decide (g.2<0)),aG (aW g.2.natAbs)]:=rfl
theorem aJ (m:List Nat):one (.d (aG m))=true:=rfl
theorem aD (m:List Nat):eK (.d (aG m))=some [.d (aG m)]:=rfl
theorem aK (m:List Nat):aT (aG m)=.d (aG m):=rfl
theorem bKd (l:List (Int × Int)):((fcs l).map AV.d).all one=true:=by
 unfold fcs
 induction l with
 | nil=>rfl
 | cons x l ih =>
  simp only [List.map_cons,List.flatten_cons,List.map_append,List.all_append,ih,Bool.and_true]
  rfl
theorem iG (l:List (Int × Int)):(∀ x,x∈fcs l→one (AV.d x)=true)↔True:=⟨fun _=>trivial,fun _ _ hx=>List.all_eq_true.1 (bKd l) _ (List.mem_map_of_mem hx)⟩
theorem rT {l:List (Int × Int)} {n:Nat} (h:l.length=n):chunk 3 n (fcs l)=l.map fD:=by
 subst h
 have:=xA (l.map fD) (fun x hx=>by obtain ⟨y,_,rfl⟩:=List.mem_map.1 hx; rfl)
 rwa [List.length_map] at this
theorem lR {l:List (Int × Int)} {n:Nat} (h:l.length=n):List.take (n * 3) ((fcs l).map AV.d)=(fcs l).map AV.d:=List.take_of_length_le (by simp [rN,h])
theorem bC (f:Int × Int):fD f=[.i .i64 f.1,.b (decide (f.2<0)),aG (aW f.2.natAbs)]:=rfl
theorem aZ {n:Nat} (h:n≤1099511627776):n≤maxLen:=Nat.le_trans h (by decide)
theorem cT {n:Nat} (h:n≤2147483648):(n+1) * 40≤140737488355328∧n+1≤1099511627776∧(n+1+1) * 40≤140737488355328∧n+1+1≤1099511627776:=by
 refine ⟨by omega,by omega,by omega,by omega⟩
def Sz (z:Int):Prop:=(aW z.natAbs).length≤137438953472
theorem bF (m:List Nat):inj (aG m)=.d (aG m):=rfl
theorem aY (H:Nat→Option HO) (avs:List AV) (m:List Nat):bV H avs (aG m)=gH H avs:=rfl
theorem bG (z:Int):encZ z=.ag [.b (decide (z<0)),aG (aW z.natAbs)]:=rfl
theorem aVu:encZ 0=.ag [.b false,.sl []]:=by
 unfold encZ encI
 rw [show (0:Int).natAbs=0 from rfl,cK]; rfl
theorem yZ (z:Int):strip (aW z.natAbs)=[]↔z=0:=by
 rw [gL (cC _),cR,fU]; omega
theorem aKl (z:Int) (hz:Sz z):Spec Tryz.prog 66 [encZ z] (.i .i64 z.sign):=by
 have:=aGc (decide (z<0)) (aW z.natAbs) (Nat.le_trans hz (by decide))
 have e:(if strip (aW z.natAbs)=[] then (0:Int) else if (decide (z<0))=true then -1 else 1)=z.sign:=by
  simp only [yZ]
  rcases Int.lt_trichotomy z 0 with h | h | h
  ·rw [if_neg (by omega),if_pos (by simpa using h),Int.sign_eq_neg_one_of_neg h]
  ·subst h; rfl
  ·rw [if_neg (by omega),if_neg (by simp; omega),Int.sign_eq_one_of_pos h]
 rwa [e] at this
end Go.Am
end

section
set_option linter.unusedVariables false
set_option linter.unusedSimpArgs false
open Go Go.Am Go.Proofs
namespace Go.Am
open Go.ChangeShapes Go.WideShapes Go.ChangeAt Go.RowKit
theorem bEe {w:World} {a:Addr} {v:Value} (h:w.cell? a=some v):a.block<w.heap.size:=by
 unfold World.cell? at h
 cases hb:w.heap[a.block]? with
 | none=>rw [hb] at h; cases h
 | some o=>exact (Array.getElem?_eq_some_iff.1 hb).1
theorem bBe {α:Type} {Q:Nat→α→Prop}:∀ {n:Nat},(∀ i,i<n→∃ y,Q i y)→∃ l:List α,l.length=n∧∀ (i:Nat) (y:α),l[i]? = some y→Q i y
 | 0,_=>⟨[],rfl,fun i y h=>by simp at h⟩
 | n+1,h=>by
  obtain ⟨l,hl,hq⟩:=bBe (n:=n) fun i hi=>h i (Nat.lt_succ_of_lt hi)
  obtain ⟨y,hy⟩:=h n (Nat.lt_succ_self n)
  refine ⟨l++[y],by simp [hl],fun i z hz=>?_⟩
  rcases Nat.lt_or_ge i l.length with h1 | h1
  ·rw [List.getElem?_append_left h1] at hz; exact hq i z hz
  ·rw [List.getElem?_append_right h1] at hz
   have h2:i - l.length=0:=by
    rcases Nat.eq_zero_or_pos (i - l.length) with h3 | h3
    ·exact h3
    ·rw [List.getElem?_eq_none (by simp; omega)] at hz; cases hz
   rw [h2] at hz
   simp at hz
   subst hz
   rwa [show i=n by omega]
theorem aWc {w:World} {n:Nat} {a:Addr} {cs:List Value} (h:w.cells? 0 a n=some cs):∀ k,k<n→w.cell? (a.add k)=cs[k]? := by
 intro k hk
 unfold World.cells? at h
 rw [if_pos (Nat.zero_le _)] at h
 have:=mapM_some_get h k k (by simp [hk])
 exact this
theorem aUn {α:Type} {P:Program} {H:Type} {enc:TypeId × Value→H} {w:World} {sp:Nat→Bool} {held:Bool} {t e:TypeId} {cs:List Value} {x:DataW H × List MemPlace} {fuel:Nat} (ht:P.underlying t=some (.slice e)) (hc:0<P.cellsOf e) (E:α→List D) (good:α→Prop)
  (hE:∀ (fuel:Nat) (cs:List Value) (x:DataW H × List MemPlace),DataW.trod enc P w 0 sp held fuel e cs=some x→∃ y:α,good y∧(E y).length=P.cellsOf e∧∀ (k:Nat) (c:D) (v:Value),(E y)[k]? = some c→cs[k]? = some v→VD (fun b=>b<w.heap.size) w c v)
  (hf:DataW.trod enc P w 0 sp held fuel t cs=some x):∃ (v:Value) (l:List α),cs=[v]∧VD (fun b=>b<w.heap.size) w (.sl (l.map E)) v∧(∀ y∈l,good y)∧l.length≤9223372036854775807:=by
 rcases DataW.trod_slice ht hf with ⟨hcs,_⟩ | ⟨a,len,cap,elems,rest,n,_,hcs,_,_,hlc,hcm,hel,hEl,_⟩
 ·exact ⟨_,[],hcs,.sl0 _ _,(fun p hp=>by cases hp),Nat.zero_le _⟩
 ·have each:∀ i,i<len→∃ y:α,good y∧(E y).length=P.cellsOf e∧∀ (k:Nat),k<P.cellsOf e→∃ v,w.cell? (a.add (i * P.cellsOf e+k))=some v∧∀ c:D,(E y)[k]? = some c→VD (fun b=>b<w.heap.size) w c v:=by
   intro i hi
   have h1:=hEl i hi
   rw [List.getElem?_eq_getElem (by omega)] at h1
   obtain ⟨vs,h2,h3⟩:=Option.bind_eq_some_iff.1 h1
   obtain ⟨y,g,hy,hv⟩:=hE _ _ _ h3
   refine ⟨y,g,hy,fun k hk=>?_⟩
   have h4:=aWc h2 k hk
   rw [add_add] at h4
   have h5:k<vs.length:=by
    unfold World.cells? at h2
    rw [if_pos (Nat.zero_le _)] at h2
    have:=mapM_some_length h2
    simp at this; omega
   rw [List.getElem?_eq_getElem h5] at h4
   exact ⟨_,h4,fun c hc=>hv k c _ hc (List.getElem?_eq_getElem h5)⟩
  obtain ⟨l,hl,hq⟩:=bBe each
  have hgood:∀ y∈l,good y:=fun y hy=>by
   obtain ⟨i,hi,rfl⟩:=List.mem_iff_getElem.1 hy
   exact (hq i _ (List.getElem?_eq_getElem hi)).1
  refine ⟨_,l,hcs,?_,hgood,by rw [hl]; exact Nat.le_trans hlc hcm⟩
  rcases Nat.eq_zero_or_pos len with h0 | hpos
  ·have:l=[]:=List.eq_nil_of_length_eq_zero (by omega)
   subst this; subst h0; exact .sl0 _ _
  ·have hab:a.block<w.heap.size:=by
    obtain ⟨y,_,_,hy⟩:=each 0 hpos
    obtain ⟨v,hv,_⟩:=hy 0 hc
    have:=bEe hv
    rwa [block_add] at this
   refine .sl _ a len cap (P.cellsOf e) (fun j=>(w.cell? (a.add j)).getD undef) (by simp [hl]) hlc (fun cs hcs=>?_) hab (fun j hj=>?_) (fun j k cs c hj hk=>?_)
   ·obtain ⟨y,hy,rfl⟩:=List.mem_map.1 hcs
    obtain ⟨i,hi,rfl⟩:=List.mem_iff_getElem.1 hy
    exact (hq i _ (List.getElem?_eq_getElem hi)).2.1
   ·have hd:j / P.cellsOf e<len:=Nat.div_lt_of_lt_mul (by rwa [Nat.mul_comm] at hj)
    obtain ⟨y,_,_,hy⟩:=each _ hd
    obtain ⟨v,hv,_⟩:=hy (j % P.cellsOf e) (Nat.mod_lt _ hc)
    rw [Nat.mul_comm,Nat.div_add_mod] at hv
    simp [hv]
   ·rw [List.getElem?_map,Option.map_eq_some_iff] at hj
    obtain ⟨y,hy,rfl⟩:=hj
    obtain ⟨_,h6,h7⟩:=hq j y hy
    obtain ⟨v,hv,hvc⟩:=h7 k (by rw [← h6]; exact (List.getElem?_eq_some_iff.1 hk).1)
    simp only [hv,Option.getD_some]
    exact hvc c hk
end Go.Am
end

section
set_option linter.unusedVariables false
set_option linter.unusedSimpArgs false
open List (map_map mapM_map)
open Go Go.Am Go.Proofs
namespace Go.Am
def eS (id z:Int) (s:List (Int × Int) × Bool) (x:Int × Int):List (Int × Int) × Bool :=
 if s.2 then (s.1++[x],true)
 else if x.1 > id then (s.1++[(id,z),x],true)
 else if x.1=id then (if x.2+z=0 then s.1 else s.1++[(id,x.2+z)],true)
 else (s.1++[x],false)
def lP (l:List (Int × Int)) (f:Int × Int):List (Int × Int) :=
 let s:=l.foldl (eS f.1 f.2) ([],decide (f.2=0))
 if s.2 then s.1 else s.1++[f]
theorem bCc (id z:Int) (s:List (Int × Int) × Bool) (x:Int × Int):(eS id z s x).1.length≤s.1.length+2:=by
 unfold eS
 split
 ·simp
 ·split
  ·simp
  ·split
   ·split <;> simp
   ·simp
theorem qH (id z:Int):∀ (l:List (Int × Int)) (s:List (Int × Int) × Bool),(l.foldl (eS id z) s).1.length≤s.1.length+2 * l.length
 | [],s=>by simp
 | x::l,s=>by
  have h1:=qH id z l (eS id z s x)
  have h2:=bCc id z s x
  simp only [List.foldl_cons,List.length_cons]
  omega
set_option maxHeartbeats 2000000 in
set_option maxRecDepth 10000 in
theorem vT (l:List (Int × Int)) (id z:Int) (hz:Sz z) (hs:∀ x∈l,Sz x.2) (hl:l.length≤1073741824):Spec Tryz.prog 120 [aO l,.ag (fD (id,z))] (aO (lP l (id,z))):=by
 refine aX (N:=80) aF Tryz.func120 rfl rfl rfl (by kernel_rfl) (by kernel_rfl) (by simp) ?_
 simp [-map_map,-mapM_map,↓KW,aO,bC,aJ,aD]
 refine aA (ds:=[encZ z]) (by rfl) (eN z) ?_
 have e0:((z.sign:Int) == 0)=decide (z=0):=by
  rw [Bool.eq_iff_iff]; simp
 simp [-map_map,-mapM_map,↓KW,e0,bC,aJ,aD]
 refine aU (fun i:Nat=>i≤l.length)
  (fun i=>StL [(0,.d (aO l)),(3,.ptr 1 0),(5,.own 2 0 ((l.take i).foldl (eS id z) ([],decide (z=0))).1.length 3),(6,.d (.b ((l.take i).foldl (eS id z) ([],decide (z=0))).2)),(7,.d (.i .i64 i))] none
   [.cells 89 ((fcs [(id,z)]).map .d),.cells 89 ((fcs ((l.take i).foldl (eS id z) ([],decide (z=0))).1).map .d)]) (fun i=>l.length - i) 0 (Nat.zero_le _) ?_ ?_
 ·refine bB [1,2] (by simp) ?_ ?_ <;> simp [-map_map,upd,aT,Γ0,aO,bC,cP,bKc]
 ·intro i hi
  have hlen:=qH id z (l.take i) ([],decide (z=0))
  simp only [List.length_nil,List.length_take] at hlen
  have hfin:i=l.length→lP l (id,z)=if ((l.take i).foldl (eS id z) ([],decide (z=0))).2 then ((l.take i).foldl (eS id z) ([],decide (z=0))).1 else ((l.take i).foldl (eS id z) ([],decide (z=0))).1++[(id,z)]:=fun e=>by
   rw [List.take_of_length_le (by omega)]; rfl
  have hsucc:∀ h:i<l.length,(l.take (i+1)).foldl (eS id z) ([],decide (z=0))=eS id z ((l.take i).foldl (eS id z) ([],decide (z=0))) l[i]:=fun h=>by
   rw [List.take_add_one,List.getElem?_eq_getElem h,List.foldl_append]; rfl
  generalize hst:(l.take i).foldl (eS id z) ([],decide (z=0))=st at *
  obtain ⟨out,done⟩:=st
  simp only at hlen hfin hsucc
  obtain ⟨n,hn⟩:∃ n,out.length=n:=⟨_,rfl⟩
  have hn':n≤2147483648:=by rw [← hn]; exact Nat.le_trans hlen (by omega)
  clear hlen
  have hfl:=rN out
  rw [hn] at hfl
  by_cases hgo:i<l.length
  ·have q1:(i:Int)<l.length:=by omega
   have hw7:IntKind.i64.wrap ((i:Int)+1)=(i:Int)+1:=aS (by omega) (by omega)
   have hsu:=hsucc hgo
   have g1:l[i]? = some l[i]:=List.getElem?_eq_getElem hgo
   have hsx:=hs _ (List.getElem_mem hgo)
   generalize l[i]=x at *
   obtain ⟨xi,xc⟩:=x
   simp only at hsx
   have hb:=cT hn'
   cases done with
   | true =>
    replace hsu:=hsu.trans (show eS id z (out,true) (xi,xc)=(out++[(xi,xc)],true) from rfl)
    simp [-map_map,-mapM_map,↓KW,aO,q1,g1,bC,aJ,aD,cP,iG,hn,hfl,hb,aZ,hw7]
    refine aI (i+1) hgo (Nat.sub_lt_sub_left hgo (Nat.lt_succ_self i)) (bB [1,4] (by simp) ?_ ?_)
    ·simp [-map_map,upd,aT,Γ0,aO,hsu,bC,cP,eF,hn]
    ·simp [-map_map,upd,aT,Γ0,aO,hsu,bC,cP,eF,hn]
   | false =>
    by_cases hgt:xi > id
    ·have hgt':id<xi:=hgt
     replace hsu:=hsu.trans (show eS id z (out,false) (xi,xc)=(out++[(id,z),(xi,xc)],true) by simp [eS,hgt])
     have h33:n * 3+3=(n+1) * 3:=by omega
     simp [-map_map,-mapM_map,↓KW,aO,q1,g1,hgt',bC,aJ,aD,cP,iG,hn,hfl,hb,aZ,hw7,h33]
     refine aI (i+1) hgo (Nat.sub_lt_sub_left hgo (Nat.lt_succ_self i)) (bB [1,6] (by simp) ?_ ?_)
     ·simp [-map_map,upd,aT,Γ0,aO,hsu,bC,cP,eF,hn]
     ·simp [-map_map,upd,aT,Γ0,aO,hsu,bC,cP,eF,hn,bKb]
    ·have hgt':¬ id<xi:=hgt
     by_cases heq:xi=id
     ·have he:(xi == id)=true:=by simpa using heq
      simp [-map_map,-mapM_map,↓KW,aO,q1,g1,hgt',he,bC,aJ,aD,cP,iG,hn,hfl,hb,aZ,hw7]
      refine aA (ds:=[encZ xc,encZ z]) (by rfl) (oP xc z (Nat.le_trans hsx (by decide)) (Nat.le_trans hz (by decide))) ?_
      simp [-map_map,-mapM_map,↓KW,encZ,encI,aJ,aD]
      refine aA (ds:=[encZ (xc+z)]) (by rfl) (eN (xc+z)) ?_
      by_cases h0:xc+z=0
      ·have h0':((xc+z).sign != 0)=false:=by simp [h0]
       replace hsu:=hsu.trans (show eS id z (out,false) (xi,xc)=(out,true) by simp [eS,hgt,heq,h0])
       simp [-map_map,-mapM_map,↓KW,h0',hn,hw7]
       refine aI (i+1) hgo (Nat.sub_lt_sub_left hgo (Nat.lt_succ_self i)) (bB [1,2] (by simp) ?_ ?_)
       ·simp [-map_map,upd,aT,Γ0,aO,hsu,bC,cP,eF,hn]
       ·simp [-map_map,upd,aT,Γ0,aO,hsu,bC,cP,eF,hn]
      ·have h0':((xc+z).sign != 0)=true:=by simp [h0]
       replace hsu:=hsu.trans (show eS id z (out,false) (xi,xc)=(out++[(id,xc+z)],true) by simp [eS,hgt,heq,h0])
       simp [-map_map,-mapM_map,↓KW,h0',bC,aJ,aD,cP,iG,hn,hfl,hb,aZ,hw7]
       refine aI (i+1) hgo (Nat.sub_lt_sub_left hgo (Nat.lt_succ_self i)) (bB [1,5] (by simp) ?_ ?_)
       ·simp [-map_map,upd,aT,Γ0,aO,hsu,bC,cP,eF,hn]
       ·simp [-map_map,upd,aT,Γ0,aO,hsu,bC,cP,eF,hn]
     ·have he:(xi == id)=false:=by simpa using heq
      replace hsu:=hsu.trans (show eS id z (out,false) (xi,xc)=(out++[(xi,xc)],false) by simp [eS,hgt,heq])
      simp [-map_map,-mapM_map,↓KW,aO,q1,g1,hgt',he,bC,aJ,aD,cP,iG,hn,hfl,hb,aZ,hw7]
      refine aI (i+1) hgo (Nat.sub_lt_sub_left hgo (Nat.lt_succ_self i)) (bB [1,4] (by simp) ?_ ?_)
      ·simp [-map_map,upd,aT,Γ0,aO,hsu,bC,cP,eF,hn]
      ·simp [-map_map,upd,aT,Γ0,aO,hsu,bC,cP,eF,hn]
  ·have q1:¬ (i:Int)<l.length:=by omega
   have hfi:=hfin (by omega)
   have hb:=cT hn'
   cases done with
   | true =>
    have e:lP l (id,z)=out:=by rw [hfi]; rfl
    simp [-map_map,-mapM_map,↓KW,aO,q1,hn,hfl,rT hn,lR hn,e]
   | false =>
    have e:lP l (id,z)=out++[(id,z)]:=by rw [hfi]; rfl
    have hn2:(out++[(id,z)]).length=n+1:=by simp [hn]
    have e2:List.map AV.d (fcs out)++[AV.d (D.i .i64 id),AV.d (D.b (decide (z<0))),AV.d (aG (aW z.natAbs))]=List.map AV.d (fcs (out++[(id,z)])):=by
     rw [eF,List.map_append]; rfl
    have hfl2:=rN (out++[(id,z)])
    rw [hn2] at hfl2
    simp [-map_map,-mapM_map,↓KW,aO,q1,bC,aJ,aD,cP,iG,hn,hfl,hb,aZ,e2,hfl2,rT hn2,lR hn2,e]
end Go.Am
end

section
set_option linter.unusedVariables false
set_option linter.unusedSimpArgs false
open List (map_map mapM_map)
open Go Go.Am Go.Proofs
namespace Go.Am
def b2n (b:Bool):Nat:=if b then 1 else 0
theorem pM (id z:Int):∀ (l:List (Int × Int)) (s:List (Int × Int) × Bool) (n:Nat),s.1.length≤n+b2n s.2→(l.foldl (eS id z) s).1.length≤n+l.length+b2n (l.foldl (eS id z) s).2
 | [],s,n,h=>by simpa using h
 | x::l,s,n,h=>by
  have h2:(eS id z s x).1.length≤n+1+b2n (eS id z s x).2:=by
   obtain ⟨out,done⟩:=s
   cases done
   ·simp only [b2n,Bool.false_eq_true,if_false,Nat.add_zero] at h
    unfold eS
    simp only [Bool.false_eq_true,if_false]
    split
    ·simp [b2n]; omega
    ·split
     ·split <;> simp [b2n] <;> omega
     ·simp [b2n]; omega
   ·simp only [b2n,if_true] at h
    unfold eS
    simp [b2n]; omega
  have h1:=pM id z l _ (n+1) h2
  simp only [List.foldl_cons,List.length_cons]
  omega
theorem aEc (l:List (Int × Int)) (f:Int × Int):(lP l f).length≤l.length+1:=by
 have h:=pM f.1 f.2 l ([],decide (f.2=0)) 0 (Nat.zero_le _)
 have e:lP l f=if (l.foldl (eS f.1 f.2) ([],decide (f.2=0))).2 then (l.foldl (eS f.1 f.2) ([],decide (f.2=0))).1 else (l.foldl (eS f.1 f.2) ([],decide (f.2=0))).1++[f]:=rfl
 rw [e]
 generalize l.foldl (eS f.1 f.2) ([],decide (f.2=0))=s at *
 obtain ⟨out,done⟩:=s
 cases done
 ·simp only [b2n,Bool.false_eq_true,if_false] at h ⊢
  simp; omega
 ·simp only [b2n,if_true] at h ⊢
  omega
def Bnd (M:Nat) (l:List (Int × Int)):Prop:=∀ x∈l,x.2.natAbs≤M
theorem Bnd.nil (M:Nat):Bnd M []:=fun _ h=>by cases h
theorem Bnd.mono {M N:Nat} {l:List (Int × Int)} (h:Bnd M l) (k:M≤N):Bnd N l:=fun x hx=>Nat.le_trans (h x hx) k
theorem Bnd.app {M:Nat} {a b:List (Int × Int)} (h:Bnd M a) (k:Bnd M b):Bnd M (a++b):=fun x hx=>by
 rcases List.mem_append.1 hx with hx | hx
 ·exact h x hx
 ·exact k x hx
theorem Bnd.one {M:Nat} {x:Int × Int} (h:x.2.natAbs≤M):Bnd M [x]:=fun y hy=>by
 rcases List.mem_cons.1 hy with rfl | hy
 ·exact h
 ·cases hy
theorem bCd {id z:Int} {s:List (Int × Int) × Bool} {x:Int × Int} {M K:Nat} (hs:Bnd (M+K) s.1) (hx:x.2.natAbs≤M) (hz:z.natAbs≤K):Bnd (M+K) (eS id z s x).1:=by
 unfold eS
 split
 ·exact hs.app (.one (by omega))
 ·split
  ·exact hs.app (.app (.one (x:=(id,z)) (by simp only; omega)) (.one (by omega)))
  ·split
   ·split
    ·exact hs
    ·exact hs.app (.one (by simp only; omega))
   ·exact hs.app (.one (by omega))
theorem qI {id z:Int} {M K:Nat} (hz:z.natAbs≤K):∀ (l:List (Int × Int)) (s:List (Int × Int) × Bool),Bnd M l→Bnd (M+K) s.1→Bnd (M+K) (l.foldl (eS id z) s).1
 | [],s,_,h=>h
 | x::l,s,hl,h=>qI hz l _ (fun y hy=>hl y (List.mem_cons_of_mem _ hy)) (bCd h (hl x (List.mem_cons_self ..)) hz)
theorem aKn {l:List (Int × Int)} {f:Int × Int} {M K:Nat} (hl:Bnd M l) (hz:f.2.natAbs≤K):Bnd (M+K) (lP l f):=by
 have h:=qI (id:=f.1) hz l ([],decide (f.2=0)) hl (.nil _)
 have e:lP l f=if (l.foldl (eS f.1 f.2) ([],decide (f.2=0))).2 then (l.foldl (eS f.1 f.2) ([],decide (f.2=0))).1 else (l.foldl (eS f.1 f.2) ([],decide (f.2=0))).1++[f]:=rfl
 rw [e]
 split
 ·exact h
 ·exact h.app (.one (by omega))
theorem lB {z:Int} {M:Nat} (h:z.natAbs≤M) (hM:(aW M).length≤137438953472):Sz z:=Nat.le_trans (dX h) hM
def bY (a b:List (Int × Int)):List (Int × Int):=b.foldl lP a
theorem kG (a:List (Int × Int)):∀ b:List (Int × Int),(bY a b).length≤a.length+b.length:=by
 intro b
 unfold bY
 induction b generalizing a with
 | nil=>simp
 | cons x b ih =>
  have h1:=ih (lP a x)
  have h2:=aEc a x
  simp only [List.foldl_cons,List.length_cons]; omega
theorem iZ {M K:Nat}:∀ (b a:List (Int × Int)),Bnd M a→Bnd K b→Bnd (M+b.length * K) (bY a b)
 | [],a,ha,_=>by simpa [bY] using ha
 | x::b,a,ha,hb=>by
  have h1:=aKn (f:=x) ha (hb x (List.mem_cons_self ..))
  have h2:=iZ b (lP a x) h1 (fun y hy=>hb y (List.mem_cons_of_mem _ hy))
  refine (show Bnd _ (bY (lP a x) b) from h2).mono ?_
  rw [List.length_cons,Nat.add_mul,Nat.one_mul]; omega
theorem aWp (a b:List (Int × Int)) (i:Nat) (h:i<b.length):bY a (b.take (i+1))=lP (bY a (b.take i)) b[i]:=by
 unfold bY
 rw [List.take_add_one,List.getElem?_eq_getElem h,List.foldl_append]; rfl
def mulR (k:Int) (b:List (Int × Int)):List (Int × Int):=b.map fun f=>(f.1,k * f.2)
theorem qE {k:Int} {M K:Nat} {b:List (Int × Int)} (hk:k.natAbs≤K) (hb:Bnd M b):Bnd (K * M) (mulR k b):=fun x hx=>by
 obtain ⟨y,hy,rfl⟩:=List.mem_map.1 hx
 simp only [Int.natAbs_mul]
 exact Nat.mul_le_mul hk (hb y hy)
set_option maxHeartbeats 1000000 in
set_option maxRecDepth 10000 in
theorem bNw (a b:List (Int × Int)) (k:Int) (A M K:Nat) (ha:Bnd A a) (hb:Bnd M b) (hk:k.natAbs≤K) (hA:(aW (A+b.length * (K * M))).length≤137438953472) (hKM:(aW (K * M)).length≤137438953472) (hK:(aW K).length≤137438953472)
  (hM:(aW M).length≤137438953472) (hl:a.length+b.length≤1073741824):Spec Tryz.prog 88 [aO a,aO b,encZ k] (aO (bY a (mulR k b))):=by
 refine aX (N:=32) aF Tryz.func88 rfl rfl rfl (by kernel_rfl) (by kernel_rfl) (by simp) ?_
 simp [-map_map,-mapM_map,↓KW,aO,encZ,encI,aJ,aD]
 refine aU (fun i:Nat=>i≤b.length) (fun i=>StL [(1,.d (aO b)),(5,.ptr 1 0),(7,.d (aO (bY a ((mulR k b).take i)))),(8,.d (.i .i64 i))] none [.cells 69 [.d (.b (decide (k<0))),.d (aG (aW k.natAbs))]]) (fun i=>b.length - i) 0 (Nat.zero_le _) ?_ ?_
 ·refine bB [1] (by simp) ?_ ?_ <;> simp [-map_map,upd,aT,Γ0,aO,bY]
 ·intro i hi
  have hlm:(mulR k b).length=b.length:=by simp [mulR]
  by_cases hgo:i<b.length
  ·have q1:(i:Int)<b.length:=by omega
   have hw7:IntKind.i64.wrap ((i:Int)+1)=(i:Int)+1:=aS (by omega) (by omega)
   have g1:b[i]? = some b[i]:=List.getElem?_eq_getElem hgo
   have hsu:=aWp a (mulR k b) i (by omega)
   have hgm:(mulR k b)[i]'(by omega)=(b[i].1,k * b[i].2):=by simp [mulR]
   rw [hgm] at hsu
   have hbx:=hb _ (List.getElem_mem hgo)
   have hbt:Bnd (K * M) ((mulR k b).take i):=fun x hx=>qE hk hb x (List.mem_of_mem_take hx)
   have hbo:=iZ ((mulR k b).take i) a ha hbt
   have hlo:=kG a ((mulR k b).take i)
   have hti:((mulR k b).take i).length=i:=by simp; omega
   rw [hti] at hbo hlo
   have hle:A+i * (K * M)≤A+b.length * (K * M):=Nat.add_le_add_left (Nat.mul_le_mul_right _ (by omega)) _
   generalize hxe:b[i]=x at *
   obtain ⟨xi,xc⟩:=x
   generalize bY a ((mulR k b).take i)=out at *
   simp only at hbx hsu
   have hkx:(k * xc).natAbs≤K * M:=by rw [Int.natAbs_mul]; exact Nat.mul_le_mul hk hbx
   simp [-map_map,-mapM_map,↓KW,aO,q1,g1,bC,aJ,aD]
   refine aA (ds:=[encZ k,encZ xc]) (by rfl) (mX k xc (lB hk hK) (lB hbx hM)) ?_
   simp [-map_map,-mapM_map,↓KW,aO,encZ,encI,aJ,aD]
   have hins:=vT out xi (k * xc) (lB hkx hKM) (fun y hy=>lB (Nat.le_trans (hbo y hy) hle) hA) (by omega)
   refine aA (ds:=[aO out,.ag (fD (xi,k * xc))]) (by rfl) hins ?_
   simp [-map_map,-mapM_map,↓KW,aO,hw7]
   refine aI (i+1) hgo (Nat.sub_lt_sub_left hgo (Nat.lt_succ_self i)) (bB [1] (by simp) ?_ ?_)
   ·simp [-map_map,upd,aT,Γ0,aO,hsu]
   ·simp [-map_map,upd,aT,Γ0]
  ·have q1:¬ (i:Int)<b.length:=by omega
   have e:(mulR k b).take i=mulR k b:=List.take_of_length_le (by omega)
   simp [-map_map,-mapM_map,↓KW,aO,q1,e]
end Go.Am
end

section
set_option linter.unusedVariables false
set_option linter.unusedSimpArgs false
open Go Go.Am Go.Proofs
namespace Go.Am
def aJo (l:List (Int × Int)) (i:Nat):Bool:=decide ((l.getD i (0,0)).2≠0) && (decide (i=0) || decide ((l.getD (i - 1) (0,0)).1<(l.getD i (0,0)).1))
def sI (l:List (Int × Int)):Bool:=(List.range l.length).all (aJo l)
theorem wN {l:List (Int × Int)} (h:∀ j,j<l.length→aJo l j=true):sI l=true:=by
 unfold sI; rw [List.all_eq_true]; intro j hj; exact h j (List.mem_range.1 hj)
theorem aFe {l:List (Int × Int)} {j:Nat} (hj:j<l.length) (h:aJo l j=false):sI l=false:=by
 unfold sI
 rw [List.all_eq_false]
 exact ⟨j,List.mem_range.2 hj,by rw [h]; decide⟩
theorem bCq {l:List (Int × Int)} {i:Nat} (h:i<l.length):l[i]? = some (l.getD i (0,0)):=by rw [List.getD_eq_getElem?_getD,List.getElem?_eq_getElem h]; rfl
end Go.Am
end

section
set_option linter.unusedVariables false
set_option linter.unusedSimpArgs false
open Go Go.Am Go.Proofs
namespace Go.Am
theorem bIe {P:Program} {dst:Option Tmp} {ty:TypeId} {pos:String} {after:Array Edge} {guard:Option (Nat × Bool)} {σ:St} {con:List Nat} {k:St→List Nat→Prop} {f g:FuncId} {x:Operand} {ts:Array TypeId}
  {d:Dm ((⟨dst,.call ⟨.value (.func f),[x].toArray,ts⟩,ty,pos,after,guard⟩:Oper),k)} {id:Nat} {ho:HO} (hs:qT P f g) (hm:bE P f=true)
  (hx:oev σ.Γ x=.mp id) (hH:σ.H id=some ho) (hk:k ⟨bO σ.Γ dst (.kf g id),σ.H,σ.n⟩ con):O1d P ⟨dst,.call ⟨.value (.func f),[x].toArray,ts⟩,ty,pos,after,guard⟩ σ con k d:=by
 show OC P f [x].toArray dst σ con k
 unfold OC
 have e:hd1 (oev σ.Γ x)=some (id,.mp 0):=by rw [hx]; rfl
 simp only [hm,if_true,e,hH]
 exact .inl ⟨g,trivial,trivial,hs,hk⟩
theorem aUq {P:Program} {dst:Option Tmp} {ty:TypeId} {pos:String} {after:Array Edge} {guard:Option (Nat × Bool)} {σ:St} {con:List Nat} {k:St→List Nat→Prop} {f g:FuncId} {x:Operand} {ts:Array TypeId}
  {d:Dm ((⟨dst,.call ⟨.value (.func f),[x].toArray,ts⟩,ty,pos,after,guard⟩:Oper),k)} {id:Nat} {es:List (Int × AV)} (hs:kV P f g) (hm:bE P f=false)
  (hx:oev σ.Γ x=.kf g id) (hH:σ.H id=some (.map .i64 es)) (hl:es.length≤1099511627776) (hr:(es.map (·.1)).all inr=true)
  (hk:k ⟨bO σ.Γ dst (.d (.sl ((fJ (es.map (·.1))).map fun n=>[.i .i64 n]))),σ.H,σ.n⟩ con):O1d P ⟨dst,.call ⟨.value (.func f),[x].toArray,ts⟩,ty,pos,after,guard⟩ σ con k d:=by
 show OC P f [x].toArray dst σ con k
 unfold OC
 have e:([x].toArray.toList.map (oev σ.Γ))=[.kf g id]:=by show [oev σ.Γ x]=_; rw [hx]
 simp only [hm,Bool.false_eq_true,if_false]
 refine .inr ?_
 split
 ·rename_i g' id' hx'
  rw [e] at hx'
  injection hx' with hx' _
  injection hx' with h1 h2
  subst h1; subst h2
  rw [hH]
  exact ⟨hl,hr,hs,hk⟩
 ·rename_i hne
  exact (hne _ _ e).elim
/-! Sums, as association lists -/
def fnd (n:Int):List (Int × Int)→Option Nat
 | []=>none
 | x::es=>if x.1=n then some 0 else (fnd n es).map (·+1)
def aCj (z:Int):AV:=.ag [.d (.b (decide (z<0))),.d (aG (aW z.natAbs))]
def iO (m:List (Int × Int)):List (Int × AV):=m.map fun p=>(p.1,aCj p.2)
theorem sP (n:Int) (m:List (Int × Int)):gC n (iO m)=fnd n m:=by
 induction m with
 | nil=>rfl
 | cons x m ih =>
  show (if x.1=n then some 0 else (gC n (iO m)).map (·+1))=if x.1=n then some 0 else (fnd n m).map (·+1)
  rw [ih]
theorem aAn {n:Int} {m:List (Int × Int)} {j:Nat} (h:fnd n m=some j):∃ z,m[j]? = some (n,z):=by
 induction m generalizing j with
 | nil=>cases h
 | cons x m ih =>
  unfold fnd at h
  by_cases hx:x.1=n
  ·rw [if_pos hx] at h; injection h with h; subst h; exact ⟨x.2,by rw [← hx]; rfl⟩
  ·rw [if_neg hx] at h
   obtain ⟨i,hi,rfl⟩:=Option.map_eq_some_iff.1 h
   obtain ⟨z,hz⟩:=ih hi
   exact ⟨z,by simpa using hz⟩
def getM (m:List (Int × Int)) (n:Int):Int:=match fnd n m with
 | some j=>(m.getD j (0,0)).2
 | none=>0
def tL (m:List (Int × Int)) (n v:Int):List (Int × Int):=match fnd n m with
 | some j=>m.set j (n,v)
 | none=>m++[(n,v)]
def uO (m:List (Int × Int)) (n:Int):List (Int × Int):=match fnd n m with
 | some j=>m.eraseIdx j
 | none=>m
def lH (m:List (Int × Int)) (n k:Int):List (Int × Int):=if getM m n+k=0 then uO m n else tL m n (getM m n+k)
theorem aDt (m:List (Int × Int)) (n v:Int):nU (iO m) n (aCj v)=iO (tL m n v):=by
 unfold nU tL
 rw [sP]
 cases fnd n m with
 | none=>simp [iO]
 | some j=>simp [iO,List.map_set]
theorem sE {α β:Type} (f:α→β):∀ (l:List α) (j:Nat),(l.map f).eraseIdx j=(l.eraseIdx j).map f
 | [],_=>rfl
 | _::_,0=>rfl
 | x::l,j+1=>by
  show f x::(l.map f).eraseIdx j=f x::(l.eraseIdx j).map f
  rw [sE f l j]
theorem aDw (m:List (Int × Int)) (n:Int):aKg (iO m) n=iO (uO m n):=by
 unfold aKg uO
 rw [sP]
 cases fnd n m with
 | none=>rfl
 | some j=>simp [iO,sE]
theorem zU (m:List (Int × Int)) (n:Int):nV (iO m) n=if (fnd n m).isSome then some (aCj (getM m n)) else none:=by
 unfold nV getM
 rw [sP]
 cases h:fnd n m with
 | none=>rfl
 | some j =>
  obtain ⟨z,hz⟩:=aAn h
  simp [iO,hz,List.getD_eq_getElem?_getD]
theorem nT (m:List (Int × Int)):pQ (.map .i64 (iO m))=true:=by
 simp only [pQ,iO,List.all_map,List.all_eq_true]
 intro x _; rfl
theorem cG {P:Program} (H:Nat→Option HO) (t:TypeId) (id:Nat) (x:AV) (ok:Bool):kK P H t (.mp id) x ok=match H id with
  | some (.map k es)=>(tmp P t).bind fun p=>match x with
   | .d (.i k' n)=>if k'=k∧gJ P p.1=some k then
     match nV es n with
     | some v=>some (if ok then .tp [v,.d (.b true)] else v)
     | none=>(tz P p.2).map fun z=>if ok then .tp [cv z,.d (.b false)] else cv z
    else none
   | _=>none
  | _=>none:=rfl
theorem cO {P:Program} (H:Nat→Option HO) (t:TypeId) (id:Nat) (x:AV) (v:Option AV):pS P H t (.mp id) x v=match H id with
  | some (.map k es)=>(tmp P t).bind fun p=>match x with
   | .d (.i k' n)=>if k'=k∧gJ P p.1=some k then some (id,.map k (match v with | some v=>nU es n v | none=>aKg es n)) else none
   | _=>none
  | _=>none:=rfl
def fK (m:List (Int × Int)):List (Int × Int):=(fJ (m.map (·.1))).map fun n=>(n,getM m n)
theorem aRs (n:Int):∀ l:List Int,(ins n l).length=l.length+1
 | []=>rfl
 | m::l=>by
  unfold ins
  split
  ·rfl
  ·simp [aRs n l]
theorem aEb:∀ l:List Int,(fJ l).length=l.length
 | []=>rfl
 | n::l=>by rw [fJ,aRs,aEb l]; rfl
theorem aRr (n x:Int):∀ l:List Int,x∈ins n l↔x=n∨x∈l
 | []=>by simp [ins]
 | m::l=>by
  unfold ins
  split
  ·simp
  ·simp [aRr n x l]
   constructor
   ·rintro (h | h | h) <;> simp [h]
   ·rintro (h | h | h) <;> simp [h]
theorem oB (x:Int):∀ l:List Int,x∈fJ l↔x∈l
 | []=>by simp [fJ]
 | n::l=>by rw [fJ,aRr,oB x l]; simp
theorem aAo {n:Int} {m:List (Int × Int)} (h:n∈m.map (·.1)):(fnd n m).isSome=true:=by
 induction m with
 | nil=>simp at h
 | cons x m ih =>
  unfold fnd
  by_cases hx:x.1=n
  ·rw [if_pos hx]; rfl
  ·rw [if_neg hx,Option.isSome_map]
   exact ih (by
    rcases List.mem_cons.1 h with h | h
    ·exact (hx h.symm).elim
    ·exact h)
theorem aEi (m:List (Int × Int)):(iO m).map (·.1)=m.map (·.1):=by simp [iO]
theorem wQ (l:List Nat) (m:List (Int × Int)):eE l (.map .i64 (iO m))=.map .i64 (iO m):=by
 simp [eE,iO,aCj,pX,eJ]
end Go.Am
end

section
set_option linter.unusedVariables false
set_option linter.unusedSimpArgs false
open List (map_map mapM_map)
open Go Go.Am Go.Proofs
namespace Go.Am
theorem aDk {P:Program} {f N:Nat} {fn:Func} {c:Code} {h:AV} {o o':HO} {args:List D} {r:D} (hm:P.follows .mixedOrders=true) (hf:P.funcs[f]? = some fn) (hb:fn.body=some c) (hname:(fn.name == "runtime.NumGoroutine")=false) (hN:fn.ntmps=N)
  (hd:dU N c=true) (hl:eB P c=true) (ha:args.length+1≤N) (hmap:∃ k es,o=.map k es) (hmap':∃ k es,o'=.map k es) (hno':pQ o'=true) (hnm:NM r)
  (hA:AWP P c (St1 h o args N) fun e σ=>(e=.normal∨e=.ret)∧mR P fn.results.toList σ=some r∧σ.H 0=some o'):lL P f h o args o' r :=
 aJj hf hb hname hN ha hmap hmap' hno' hnm fun G a w hZ hs=>gU hm hZ c _ _ a w hd hl hA hs
theorem aJu {P:Program} {dst:Option Tmp} {ty:TypeId} {pos:String} {after:Array Edge} {guard:Option (Nat × Bool)} {σ:St} {con:List Nat} {k:St→List Nat→Prop} {f:FuncId} {x:Operand} {rest:List Operand} {ts:Array TypeId}
  {d:Dm ((⟨dst,.call ⟨.value (.func f),(x::rest).toArray,ts⟩,ty,pos,after,guard⟩:Oper),k)} {id:Nat} {ho ho':HO} {ds:List D} {r:D} (hs:lL P f (.mp 0) ho ds ho' r) (hm:bE P f=true)
  (hx:oev σ.Γ x=.mp id) (hH:σ.H id=some ho) (hno:pQ ho=true) (hvis:gH σ.H (rest.map (oev σ.Γ))=[]) (hfr:gO σ.H (rest.map (oev σ.Γ))=some ds) (hlen:ho'.len=ho.len) (hno':pQ ho'=true)
  (hk:k ⟨bO σ.Γ dst (inj r),upd σ.H id (some ho'),σ.n⟩ con):O1d P ⟨dst,.call ⟨.value (.func f),(x::rest).toArray,ts⟩,ty,pos,after,guard⟩ σ con k d:=by
 refine bAg hm ?_
 rw [hx]
 exact aLp (id:=id) (h:=.mp 0) hH hno hvis hfr hs hlen hno' hk
theorem uN {x y:Int} (hx:Sz x) (hy:Sz y):(aW (x+y).natAbs).length≤1099511627776:=by
 have h1:=fG (Nat.le_refl (aW x.natAbs).length)
 have h2:=fG (Nat.le_refl (aW y.natAbs).length)
 have h:(x+y).natAbs<4294967296 ^ ((aW x.natAbs).length+(aW y.natAbs).length+1):=by
  have e1:4294967296 ^ (aW x.natAbs).length≤4294967296 ^ ((aW x.natAbs).length+(aW y.natAbs).length):=Nat.pow_le_pow_right (by decide) (by omega)
  have e2:4294967296 ^ (aW y.natAbs).length≤4294967296 ^ ((aW x.natAbs).length+(aW y.natAbs).length):=Nat.pow_le_pow_right (by decide) (by omega)
  rw [Nat.pow_succ]
  generalize 4294967296 ^ ((aW x.natAbs).length+(aW y.natAbs).length)=p at *
  omega
 have:=eQ h
 unfold Sz at hx hy
 omega
theorem bIi (m:List Nat):NM (aG m):=.sl _ (fun cs h=>by obtain ⟨x,_,rfl⟩:=List.mem_map.1 h; simp) fun cs h c hc=>by
 obtain ⟨x,_,rfl⟩:=List.mem_map.1 h
 rw [List.mem_singleton] at hc; subst hc; exact .i _ _
theorem bIj (l:List (Int × Int)):NM (aO l):=.sl _ (fun cs h=>by obtain ⟨x,_,rfl⟩:=List.mem_map.1 h; simp [fD]) fun cs h c hc=>by
 obtain ⟨x,_,rfl⟩:=List.mem_map.1 h
 simp only [fD,List.mem_cons,List.mem_nil_iff,or_false] at hc
 rcases hc with rfl | rfl | rfl
 ·exact .i _ _
 ·exact .b _
 ·exact bIi _
theorem nR {P:Program} (σ:St):mR P [] σ=some (.tp []):=rfl
set_option maxHeartbeats 1000000 in
set_option maxRecDepth 10000 in
theorem bNd (m:List (Int × Int)) (id k:Int) (hm:Sz (getM m id)) (hk:Sz k):lL Tryz.prog 94 (.mp 0) (.map .i64 (iO m)) [.i .i64 id,encZ k] (.map .i64 (iO (lH m id k))) (.tp []):=by
 refine aDk (N:=20) aF Tryz.func94 rfl rfl rfl (by kernel_rfl) (by kernel_rfl) (by simp) ⟨_,_,rfl⟩ ⟨_,_,rfl⟩ (nT _) (zR 8 _ rfl) ?_
 have hml:=zU m id
 have hz0:¬ (fnd id m).isSome=true→getM m id=0:=fun h=>by
  unfold getM
  cases hf:fnd id m with
  | none=>rfl
  | some j=>rw [hf] at h; exact (h rfl).elim
 have hgo:∀ z:Int,z=getM m id→True:=fun _ _=>trivial
 by_cases hs:(fnd id m).isSome=true
 ·rw [if_pos hs] at hml
  simp [-map_map,-mapM_map,↓KW,St1,bG,aD,aJ,cG,hml,aCj]
  refine aA (ds:=[encZ (getM m id),encZ k]) (by rfl) (aRq (getM m id) k hm hk) ?_
  simp [-map_map,-mapM_map,↓KW,bG,aD,aJ]
  refine aA (ds:=[encZ (getM m id+k)]) (by rfl) (aGc _ _ (uN hm hk)) ?_
  by_cases ht:getM m id+k=0
  ·have e1:strip (aW (getM m id+k).natAbs)=[]:=by rw [ht,show (0:Int).natAbs=0 from rfl,cK]; rfl
   have e2:lH m id k=uO m id:=by unfold lH; rw [if_pos ht]
   simp [-map_map,-mapM_map,↓KW,e1,e2,cO,aDw,nR]
  ·have e1:strip (aW (getM m id+k).natAbs)≠[]:=by
    rw [gL (cC _),cR,ne_eq,fU]; omega
   have e2:lH m id k=tL m id (getM m id+k):=by unfold lH; rw [if_neg ht]
   have e3:=aDt m id (getM m id+k)
   unfold aCj at e3
   by_cases hneg:getM m id+k<0
   ·simp [-map_map,-mapM_map,↓KW,e1,e2,hneg,cO,aD,aJ,nR]
    have hd:decide (getM m id+k<0)=true:=by simpa using hneg
    rw [hd] at e3
    exact e3
   ·simp [-map_map,-mapM_map,↓KW,e1,e2,hneg,cO,aD,aJ,nR]
    have hd:decide (getM m id+k<0)=false:=by simpa using hneg
    rw [hd] at e3
    exact e3
 ·rw [if_neg hs] at hml
  have h0:=hz0 hs
  simp [-map_map,-mapM_map,↓KW,St1,bG,aD,aJ,cG,hml,cv]
  refine aA (ds:=[encZ (getM m id),encZ k]) (by rw [h0,aVu]; rfl) (aRq (getM m id) k hm hk) ?_
  simp [-map_map,-mapM_map,↓KW,bG,aD,aJ]
  refine aA (ds:=[encZ (getM m id+k)]) (by rfl) (aGc _ _ (uN hm hk)) ?_
  by_cases ht:getM m id+k=0
  ·have e1:strip (aW (getM m id+k).natAbs)=[]:=by rw [ht,show (0:Int).natAbs=0 from rfl,cK]; rfl
   have e2:lH m id k=uO m id:=by unfold lH; rw [if_pos ht]
   simp [-map_map,-mapM_map,↓KW,e1,e2,cO,aDw,nR]
  ·have e1:strip (aW (getM m id+k).natAbs)≠[]:=by
    rw [gL (cC _),cR,ne_eq,fU]; omega
   have e2:lH m id k=tL m id (getM m id+k):=by unfold lH; rw [if_neg ht]
   have e3:=aDt m id (getM m id+k)
   unfold aCj at e3
   by_cases hneg:getM m id+k<0
   ·simp [-map_map,-mapM_map,↓KW,e1,e2,hneg,cO,aD,aJ,nR]
    have hd:decide (getM m id+k<0)=true:=by simpa using hneg
    rw [hd] at e3
    exact e3
   ·simp [-map_map,-mapM_map,↓KW,e1,e2,hneg,cO,aD,aJ,nR]
    have hd:decide (getM m id+k<0)=false:=by simpa using hneg
    rw [hd] at e3
    exact e3
theorem uD {m:List (Int × Int)} {M:Nat} (h:Bnd M m) (n:Int):(getM m n).natAbs≤M:=by
 unfold getM
 cases hf:fnd n m with
 | none=>simp
 | some j =>
  obtain ⟨z,hz⟩:=aAn hf
  simp only [List.getD_eq_getElem?_getD,hz,Option.getD_some]
  exact h _ (List.mem_of_getElem? hz)
theorem aOs (m:List Nat) (h:m.length≤1099511627776):Spec Tryz.prog 103 [aG m] (aG m):=aEj _ (by simp [bKu,one,h])
def chS (m:List (Int × Int)) (n:Nat):Nat→St
 | 0=>StL [(0,.mp 0),(3,.nil),(9,.d (.sl ((fJ (m.map (·.1))).map fun n=>[.i .i64 n]))),(10,.d (.i .i64 n)),(11,.d (.i .i64 0))] (some (.map .i64 (iO m))) []
 | i+1=>StL [(0,.mp 0),(3,.own 1 0 (i+1) 3),(9,.d (.sl ((fJ (m.map (·.1))).map fun n=>[.i .i64 n]))),(10,.d (.i .i64 n)),(11,.d (.i .i64 ((i:Int)+1)))] (some (.map .i64 (iO m))) [.cells 89 ((fcs ((fK m).take (i+1))).map .d)]
set_option maxHeartbeats 1000000 in
set_option maxRecDepth 10000 in
theorem aXm (m:List (Int × Int)) (hS:∀ n,Sz (getM m n)) (hl:m.length≤1073741824) (hr:(m.map (·.1)).all inr=true):lL Tryz.prog 95 (.mp 0) (.map .i64 (iO m)) [] (.map .i64 (iO m)) (aO (fK m)):=by
 refine aDk (N:=31) aF Tryz.func95 rfl rfl rfl (by kernel_rfl) (by kernel_rfl) (by simp) ⟨_,_,rfl⟩ ⟨_,_,rfl⟩ (nT _) (bIj _) ?_
 simp [-map_map,-mapM_map,↓KW,St1]
 refine bIe Tryz.keys106 (by simp) (id:=0) (ho:=.map .i64 (iO m)) (by simp [oS,jD]) (by simp) ?_
 simp [-map_map,-mapM_map,↓KW,St1]
 refine aUq Tryz.sorted122 (by simp) (id:=0) (es:=iO m) (by simp [oS,jD]) (by simp) (by simp [iO]; omega) (by rw [aEi]; exact hr) ?_
 rw [aEi]
 have hil:=aEb (m.map (·.1))
 rw [List.length_map] at hil
 obtain ⟨n,hn⟩:∃ n,m.length=n:=⟨_,rfl⟩
 rw [hn] at hil
 simp [-map_map,-mapM_map,↓KW,hil]
 have hcl:(fK m).length=n:=by simp [fK,hil]
 have hsub:∀ (H H':Nat→Option HO) (ρ:Nat→Nat),kU H H' ρ (.map .i64 (iO m)) (.map .i64 (iO m)):=fun H H' ρ=>yX fun x hx=>by
  obtain ⟨y,_,rfl⟩:=List.mem_map.1 hx
  refine ⟨rfl,fun k c d hc hd=>?_⟩
  rw [hc] at hd; injection hd with hd; subst hd
  rcases k with _ | _ | k
  ·simp at hc; subst hc; exact (jE _ _).2 rfl
  ·simp at hc; subst hc; exact (jE _ _).2 rfl
  ·simp at hc
 have hkl:∀ q∈fJ (m.map (·.1)),nV (iO m) q=some (aCj (getM m q)):=fun q hq=>by
  rw [zU,if_pos (aAo ((oB q _).1 hq))]
 refine aU (fun i:Nat=>i≤n) (chS m n) (fun i=>n - i) 0 (Nat.zero_le _) ?_ ?_
 ·refine ⟨_,xR [] (by simp) ?_ ?_ ?_⟩
  ·simp [-map_map,upd,aT,Γ0]
  ·intro o' ho'
   injection ho' with ho'; subst ho'
   exact ⟨_,by simp [jD],hsub _ _ _⟩
  ·trivial
 ·intro i hi
  by_cases hgo:i<n
  ·have hql:i<(fJ (m.map (·.1))).length:=by omega
   have hq:=List.getElem?_eq_getElem hql
   have hqm:=List.getElem_mem hql
   have hml:=hkl _ hqm
   have htk:(fK m).take (i+1)=(fK m).take i++[((fJ (m.map (·.1)))[i],getM m (fJ (m.map (·.1)))[i])]:=by
    rw [List.take_add_one]
    simp [fK,hq]
   generalize (fJ (m.map (·.1)))[i]=q at *
   have hcl1:=aOs (aW (getM m q).natAbs) (Nat.le_trans (hS q) (by decide))
   rcases i with _ | j
   ·have q1:(0:Int)<n:=by omega
    have q1':0<n:=hgo
    have g0:(fJ (List.map (fun x=>x.fst) m)).head? = some q:=by rw [List.head?_eq_getElem?]; exact hq
    unfold chS
    simp [-map_map,-mapM_map,↓KW,q1',hq,g0,cG,hml,aCj,aD,aJ]
    refine aA (ds:=[aG (aW (getM m q).natAbs)]) (by rfl) hcl1 ?_
    have hw:IntKind.i64.wrap 1=1:=by decide
    have h1:(1:Nat)≤maxLen:=aZ (by decide)
    rw [List.take_zero,List.nil_append] at htk
    simp [-map_map,-mapM_map,↓KW,aD,aJ,aK,bF,aY,hw,h1]
    refine aI 1 hgo (Nat.sub_lt_sub_left hgo (Nat.lt_succ_self _)) ?_
    simp only [chS]
    refine ⟨_,xR [3] (by simp) ?_ ?_ ?_⟩
    ·simp [-map_map,upd,aT,Γ0,htk]
    ·intro o' ho'
     injection ho' with ho'; subst ho'
     exact ⟨_,by simp [jD,aBl,wQ],hsub _ _ _⟩
    ·simp [-map_map,upd,aT,Γ0,htk,cP]
   ·have q1:(j:Int)+1<n:=by omega
    have q5:(0:Int)≤(j:Int)+1:=by omega
    have hlt:((fK m).take (j+1)).length=j+1:=by simp [hcl]; omega
    have hfl:=rN ((fK m).take (j+1))
    rw [hlt] at hfl
    have hw:IntKind.i64.wrap ((j:Int)+1+1)=(j:Int)+1+1:=aS (by omega) (by omega)
    have hb:=cT (n:=j+1) (by omega)
    show AWP _ _ (StL [(0,.mp 0),(3,.own 1 0 (j+1) 3),(9,.d (.sl ((fJ (m.map (·.1))).map fun n=>[.i .i64 n]))),(10,.d (.i .i64 n)),(11,.d (.i .i64 ((j:Int)+1)))] (some (.map .i64 (iO m))) [.cells 89 ((fcs ((fK m).take (j+1))).map .d)]) _
    generalize (fK m).take (j+1)=out at *
    simp [-map_map,-mapM_map,↓KW,q1,q5,hq,cG,hml,aCj,aD,aJ]
    refine aA (ds:=[aG (aW (getM m q).natAbs)]) (by rfl) hcl1 ?_
    simp [-map_map,-mapM_map,↓KW,aD,aJ,aK,bF,aY,hw,hb,hfl,aZ]
    refine aI (j+1+1) hgo (Nat.sub_lt_sub_left hgo (Nat.lt_succ_self _)) ?_
    simp only [chS]
    refine ⟨_,xR [4] (by simp) ?_ ?_ ?_⟩
    ·simp [-map_map,upd,aT,Γ0,htk]
    ·intro o' ho'
     injection ho' with ho'; subst ho'
     exact ⟨_,by simp [jD,aBl,wQ],hsub _ _ _⟩
    ·simp [-map_map,upd,aT,Γ0,htk,eF,cP]
  ·have e:i=n:=by omega
   rcases i with _ | j
   ·have q1:¬ 0<n:=by omega
    have hch:fK m=[]:=List.eq_nil_of_length_eq_zero (by omega)
    unfold chS
    simp [-map_map,-mapM_map,↓KW,q1,hch,aO]
   ·have q1:¬ (j:Int)+1<n:=by omega
    have e2:(fK m).take (j+1)=fK m:=List.take_of_length_le (by omega)
    have hlt:(fK m).length=j+1:=by omega
    have hfl:=rN (fK m)
    rw [hlt] at hfl
    unfold chS
    simp [-map_map,-mapM_map,↓KW,q1,e2,hfl,hlt,rT hlt,lR hlt,aO]
end Go.Am
end

section
set_option linter.unusedVariables false
set_option linter.unusedSimpArgs false
open List (map_map mapM_map)
open Go Go.Am Go.Proofs
namespace Go.Am
def Keys (m:List (Int × Int)):Prop:=∀ x∈m,inr x.1=true
theorem Keys.all {m:List (Int × Int)} (h:Keys m):(m.map (·.1)).all inr=true:=by
 rw [List.all_eq_true]
 intro x hx
 obtain ⟨y,hy,rfl⟩:=List.mem_map.1 hx
 exact h y hy
theorem aLv {m:List (Int × Int)} {n k:Int} {x:Int × Int} (h:x∈lH m n k):x∈m∨x=(n,getM m n+k):=by
 unfold lH at h
 split at h
 ·unfold uO at h
  split at h
  ·exact .inl (List.mem_of_mem_eraseIdx h)
  ·exact .inl h
 ·unfold tL at h
  split at h
  ·rcases List.mem_or_eq_of_mem_set h with h | h
   ·exact .inl h
   ·exact .inr h
  ·rcases List.mem_append.1 h with h | h
   ·exact .inl h
   ·exact .inr (by simpa using h)
theorem bFg (m:List (Int × Int)) (n k:Int):(lH m n k).length≤m.length+1:=by
 unfold lH
 split
 ·unfold uO
  split
  ·exact Nat.le_trans (List.length_eraseIdx_le ..) (by omega)
  ·omega
 ·unfold tL
  split
  ·simp
  ·simp
theorem bFh {m:List (Int × Int)} {n k:Int} {M K:Nat} (hm:Bnd M m) (hk:k.natAbs≤K):Bnd (M+K) (lH m n k):=fun x hx=>by
 rcases aLv hx with h | rfl
 ·have:=hm x h; omega
 ·have:=uD hm n
  simp only; omega
theorem aWq {m:List (Int × Int)} {n k:Int} (hm:Keys m) (hn:inr n=true):Keys (lH m n k):=fun x hx=>by
 rcases aLv hx with h | rfl
 ·exact hm x h
 ·exact hn
def pP (m:List (Int × Int)) (l:List (Int × Int)):List (Int × Int):=l.foldl (fun m f=>lH m f.1 f.2) m
theorem aTh (m l:List (Int × Int)) (i:Nat) (h:i<l.length):pP m (l.take (i+1))=lH (pP m (l.take i)) l[i].1 l[i].2:=by
 unfold pP
 rw [List.take_add_one,List.getElem?_eq_getElem h,List.foldl_append]; rfl
theorem aXl (m:List (Int × Int)):∀ l:List (Int × Int),(pP m l).length≤m.length+l.length:=by
 intro l
 unfold pP
 induction l generalizing m with
 | nil=>simp
 | cons x l ih =>
  have h1:=ih (lH m x.1 x.2)
  have h2:=bFg m x.1 x.2
  simp only [List.foldl_cons,List.length_cons]; omega
theorem aHx {M K:Nat}:∀ (l m:List (Int × Int)),Bnd M m→Bnd K l→Bnd (M+l.length * K) (pP m l)
 | [],m,hm,_=>by simpa [pP] using hm
 | x::l,m,hm,hl=>by
  have h1:=bFh (n:=x.1) hm (hl x (List.mem_cons_self ..))
  have h2:=aHx l (lH m x.1 x.2) h1 (fun y hy=>hl y (List.mem_cons_of_mem _ hy))
  refine (show Bnd _ (pP (lH m x.1 x.2) l) from h2).mono ?_
  rw [List.length_cons,Nat.add_mul,Nat.one_mul]; omega
theorem aCv:∀ (l m:List (Int × Int)),Keys m→Keys l→Keys (pP m l)
 | [],m,hm,_=>hm
 | x::l,m,hm,hl=>aCv l (lH m x.1 x.2) (aWq hm (hl x (List.mem_cons_self ..))) fun y hy=>hl y (List.mem_cons_of_mem _ hy)
theorem aCx {H H':Nat→Option HO} {ρ:Nat→Nat} (m:List (Int × Int)):kU H H' ρ (.map .i64 (iO m)) (.map .i64 (iO m)):=yX fun x hx=>by
 obtain ⟨y,_,rfl⟩:=List.mem_map.1 hx
 refine ⟨rfl,fun k c d hc hd=>?_⟩
 rw [hc] at hd; injection hd with hd; subst hd
 rcases k with _ | _ | k
 ·simp at hc; subst hc; exact (jE _ _).2 rfl
 ·simp at hc; subst hc; exact (jE _ _).2 rfl
 ·simp at hc
set_option maxHeartbeats 1000000 in
set_option maxRecDepth 10000 in
theorem aOt (l:List (Int × Int)) (M:Nat) (hM:(aW (l.length * M)).length≤137438953472) (hb:Bnd M l) (hk:Keys l) (hl:l.length≤1073741824):Spec Tryz.prog 46 [aO l] (aO (fK (pP [] l))):=by
 refine vN (N:=22) aF Tryz.func46 rfl rfl rfl (by kernel_rfl) (by kernel_rfl) (by kernel_rfl) (by kernel_rfl) rfl bLt (by simp) ?_
 simp [-map_map,-mapM_map,↓KW,aO]
 refine aU (fun i:Nat=>i≤l.length) (fun i=>StL [(3,.mp 1),(7,.d (aO l)),(8,.d (.i .i64 l.length)),(9,.d (.i .i64 i))] none [.map .i64 (iO (pP [] (l.take i)))]) (fun i=>l.length - i) 0 (Nat.zero_le _) ?_ ?_
 ·refine bB [1] (by simp) ?_ ?_
  ·simp [-map_map,upd,aT,Γ0,aO]
  ·exact ⟨⟨_,by simp [jD]; rfl,aCx []⟩,trivial⟩
 ·intro i hi
  have hbt:Bnd M (l.take i):=fun x hx=>hb x (List.mem_of_mem_take hx)
  have hbo:=aHx (l.take i) [] (Bnd.nil 0) hbt
  have hko:=aCv (l.take i) [] (fun _ h=>by cases h) (fun x hx=>hk x (List.mem_of_mem_take hx))
  have hlo:=aXl [] (l.take i)
  have hti:(l.take i).length=i:=by simp; omega
  rw [hti] at hbo hlo
  have hle:0+i * M≤l.length * M:=by rw [Nat.zero_add]; exact Nat.mul_le_mul_right _ (by omega)
  by_cases hgo:i<l.length
  ·have q1:(i:Int)<l.length:=by omega
   have hw7:IntKind.i64.wrap ((i:Int)+1)=(i:Int)+1:=aS (by omega) (by omega)
   have g1:l[i]? = some l[i]:=List.getElem?_eq_getElem hgo
   have hsu:=aTh [] l i hgo
   have hbx:=hb _ (List.getElem_mem hgo)
   have hle2:M≤l.length * M:=by
    have:1 * M≤l.length * M:=Nat.mul_le_mul_right _ (by omega)
    rwa [Nat.one_mul] at this
   generalize l[i]=x at *
   obtain ⟨xi,xc⟩:=x
   generalize pP [] (l.take i)=m at *
   simp only at hbx hsu
   have hadd:=bNd m xi xc (lB (Nat.le_trans (uD hbo xi) hle) hM) (lB (Nat.le_trans hbx hle2) hM)
   simp [-map_map,-mapM_map,↓KW,aO,q1,g1,bC,aJ,aD]
   refine aJu hadd (by simp) (id:=1) (by simp [oS,jD]) (by simp [jD,aGs]) (nT _) (by simp [oS,jD,aCt,yT,aXf,aXg]) (by simp [oS,jD]; rfl) rfl (nT _) ?_
   simp [-map_map,-mapM_map,↓KW,hw7]
   refine aI (i+1) hgo (Nat.sub_lt_sub_left hgo (Nat.lt_succ_self i)) (bB [1] (by simp) ?_ ?_)
   ·simp [-map_map,upd,aT,Γ0,aO]
   ·rw [hsu]
    exact ⟨⟨_,by simp [jD],aCx _⟩,trivial⟩
  ·have q1:¬ (i:Int)<l.length:=by omega
   have e:l.take i=l:=List.take_of_length_le (by omega)
   have ei:i=l.length:=by omega
   rw [e] at hbo hko hlo
   rw [ei] at hbo hlo
   generalize hmm:pP [] l=m at *
   have hbo':Bnd (l.length * M) m:=hbo.mono (by omega)
   simp only [e,hmm]
   simp [-map_map,-mapM_map,↓KW,q1]
   refine aJu (aXm m (fun q=>lB (uD hbo' q) hM) (by simp at hlo; omega) hko.all) (by simp) (id:=1) (by simp [oS,jD,aQg]) (by simp [jD,aGs]) (nT _) (by simp [yT]) (by rfl) rfl (nT _) ?_
   simp [-map_map,-mapM_map,↓KW,aO]
end Go.Am
end

section
set_option linter.unusedVariables false
set_option linter.unusedSimpArgs false
open Go Go.Am Go.Proofs
namespace Go.Am
def Val (l:List (Int × Int)):Prop:=l.Pairwise (fun x y=>x.1<y.1)∧∀ x∈l,x.2≠0
theorem bW (x:Int × Int) (l:List (Int × Int)) (n:Int):getM (x::l) n=if x.1=n then x.2 else getM l n:=by
 unfold getM
 by_cases h:x.1=n
 ·have e:fnd n (x::l)=some 0:=by unfold fnd; rw [if_pos h]
  rw [e,if_pos h]; rfl
 ·have e:fnd n (x::l)=(fnd n l).map (·+1):=by
   show (if x.1=n then some 0 else (fnd n l).map (·+1))=_
   rw [if_neg h]
  rw [e,if_neg h]
  cases fnd n l with
  | none=>rfl
  | some j=>simp
theorem iV (n:Int):getM [] n=0:=rfl
theorem gD {l:List (Int × Int)} {n:Int} (h:∀ y∈l,y.1≠n):getM l n=0:=by
 induction l with
 | nil=>rfl
 | cons x l ih =>
  rw [bW,if_neg (h x (List.mem_cons_self ..))]
  exact ih fun y hy=>h y (List.mem_cons_of_mem _ hy)
theorem Val.tail {x:Int × Int} {l:List (Int × Int)} (h:Val (x::l)):Val l∧(∀ y∈l,x.1<y.1)∧x.2≠0 :=
 ⟨⟨(List.pairwise_cons.1 h.1).2,fun y hy=>h.2 y (List.mem_cons_of_mem _ hy)⟩,(List.pairwise_cons.1 h.1).1,h.2 x (List.mem_cons_self ..)⟩
theorem Val.cons {x:Int × Int} {l:List (Int × Int)} (h:Val l) (h1:∀ y∈l,x.1<y.1) (h2:x.2≠0):Val (x::l) :=
 ⟨List.pairwise_cons.2 ⟨h1,h.1⟩,fun y hy=>by
  rcases List.mem_cons.1 hy with rfl | hy
  ·exact h2
  ·exact h.2 y hy⟩
theorem Val.nil:Val []:=⟨List.Pairwise.nil,fun _ h=>by cases h⟩
theorem Val.ext:∀ {a b:List (Int × Int)},Val a→Val b→(∀ n,getM a n=getM b n)→a=b
 | [],[],_,_,_=>rfl
 | [],y::b,_,hb,h=>by
  have:=h y.1
  rw [iV,bW,if_pos rfl] at this
  exact (hb.tail.2.2 this.symm).elim
 | x::a,[],ha,_,h=>by
  have:=h x.1
  rw [iV,bW,if_pos rfl] at this
  exact (ha.tail.2.2 this).elim
 | x::a,y::b,ha,hb,h=>by
  obtain ⟨a1,a2,a3⟩:=ha.tail
  obtain ⟨b1,b2,b3⟩:=hb.tail
  rcases Int.lt_trichotomy x.1 y.1 with hxy | hxy | hxy
  ·exfalso
   have:=h x.1
   rw [bW,if_pos rfl,bW,if_neg (by omega),gD (fun z hz=>by have:=b2 z hz; omega)] at this
   exact a3 this
  ·have h1:=h x.1
   rw [bW,if_pos rfl,bW,if_pos hxy.symm] at h1
   have e:x=y:=Prod.ext hxy h1
   subst e
   rw [Val.ext a1 b1 fun n=>by
    by_cases hn:x.1=n
    ·subst hn
     rw [gD (fun z hz=>by have:=a2 z hz; omega),gD (fun z hz=>by have:=b2 z hz; omega)]
    ·have:=h n
     rwa [bW,if_neg hn,bW,if_neg hn] at this]
  ·exfalso
   have:=h y.1
   rw [bW,if_neg (by omega),gD (fun z hz=>by have:=a2 z hz; omega),bW,if_pos rfl] at this
   exact b3 this.symm
def vU (id z:Int):List (Int × Int)→List (Int × Int)
 | []=>[(id,z)]
 | x::l=>if x.1 > id then (id,z)::x::l else if x.1=id then (if x.2+z=0 then l else (id,x.2+z)::l) else x::vU id z l
theorem mH (id z:Int):∀ (l out:List (Int × Int)),l.foldl (eS id z) (out,true)=(out++l,true)
 | [],out=>by simp
 | x::l,out=>by
  have e:eS id z (out,true) x=(out++[x],true):=rfl
  rw [List.foldl_cons,e,mH id z l]; simp
def bPh (f:Int × Int) (s:List (Int × Int) × Bool):List (Int × Int):=if s.2 then s.1 else s.1++[f]
theorem rM (f:Int × Int) (out:List (Int × Int)):bPh f (out,true)=out:=rfl
theorem aAm (id z:Int):∀ (l out:List (Int × Int)),bPh (id,z) (l.foldl (eS id z) (out,false))=out++vU id z l
 | [],out=>rfl
 | x::l,out=>by
  rw [List.foldl_cons,vU]
  by_cases h1:x.1 > id
  ·have e:eS id z (out,false) x=(out++[(id,z),x],true):=by simp [eS,h1]
   rw [e,mH,if_pos h1,rM]; simp
  ·rw [if_neg h1]
   by_cases h2:x.1=id
   ·rw [if_pos h2]
    by_cases h3:x.2+z=0
    ·have e:eS id z (out,false) x=(out,true):=by simp [eS,h1,h2,h3]
     rw [e,mH,if_pos h3,rM]
    ·have e:eS id z (out,false) x=(out++[(id,x.2+z)],true):=by simp [eS,h1,h2,h3]
     rw [e,mH,if_neg h3,rM]; simp
   ·rw [if_neg h2]
    have e:eS id z (out,false) x=(out++[x],false):=by simp [eS,h1,h2]
    rw [e,aAm id z l (out++[x])]; simp
theorem aRt (l:List (Int × Int)) (id z:Int):lP l (id,z)=if z=0 then l else vU id z l:=by
 have e:lP l (id,z)=bPh (id,z) (l.foldl (eS id z) ([],decide (z=0))):=rfl
 rw [e]
 by_cases h:z=0
 ·rw [if_pos h]
  have:decide (z=0)=true:=by simpa using h
  rw [this,mH,rM]; simp
 ·rw [if_neg h]
  have:decide (z=0)=false:=by simpa using h
  rw [this,aAm]; simp
theorem aKo {id z:Int} (hz:z≠0):∀ {l:List (Int × Int)},Val l→Val (vU id z l)∧(∀ y∈vU id z l,y.1=id∨∃ x∈l,x.1=y.1)∧∀ n,getM (vU id z l) n=getM l n+if n=id then z else 0
 | [],_=>by
  refine ⟨Val.nil.cons (fun y hy=>by cases hy) hz,fun y hy=>?_,fun n=>?_⟩
  ·simp [vU] at hy; subst hy; exact .inl rfl
  ·simp only [vU,bW,iV]
   by_cases h:n=id
   ·subst h; simp
   ·rw [if_neg (fun e=>h e.symm),if_neg h]; rfl
 | x::l,h=>by
  obtain ⟨h1,h2,h3⟩:=h.tail
  simp only [vU]
  by_cases hgt:x.1 > id
  ·rw [if_pos hgt]
   refine ⟨h.cons (fun y hy=>?_) hz,fun y hy=>?_,fun n=>?_⟩
   ·rcases List.mem_cons.1 hy with rfl | hy
    ·exact hgt
    ·have:=h2 y hy; simp only; omega
   ·rcases List.mem_cons.1 hy with rfl | hy
    ·exact .inl rfl
    ·exact .inr ⟨y,hy,rfl⟩
   ·rw [bW]
    by_cases hn:n=id
    ·subst hn
     rw [if_pos rfl,if_pos rfl,gD (l:=x::l) fun y hy=>?_,Int.zero_add]
     rcases List.mem_cons.1 hy with rfl | hy
     ·omega
     ·have:=h2 y hy; omega
    ·rw [if_neg (fun e=>hn e.symm),if_neg hn,Int.add_zero]
  ·rw [if_neg hgt]
   by_cases heq:x.1=id
   ·rw [if_pos heq]
    by_cases h0:x.2+z=0
    ·rw [if_pos h0]
     refine ⟨h1,fun y hy=>.inr ⟨y,List.mem_cons_of_mem _ hy,rfl⟩,fun n=>?_⟩
     rw [bW]
     by_cases hn:n=id
     ·subst hn
      rw [if_pos heq,if_pos rfl,gD (fun y hy=>by have:=h2 y hy; omega)]; omega
     ·rw [if_neg (by omega),if_neg hn,Int.add_zero]
    ·rw [if_neg h0]
     refine ⟨h1.cons (fun y hy=>by have:=h2 y hy; simp only; omega) h0,fun y hy=>?_,fun n=>?_⟩
     ·rcases List.mem_cons.1 hy with rfl | hy
      ·exact .inl rfl
      ·exact .inr ⟨y,List.mem_cons_of_mem _ hy,rfl⟩
     ·rw [bW,bW]
      by_cases hn:n=id
      ·subst hn
       rw [if_pos rfl,if_pos heq,if_pos rfl]
      ·rw [if_neg (fun e=>hn e.symm),if_neg (by omega),if_neg hn,Int.add_zero]
   ·rw [if_neg heq]
    obtain ⟨i1,i2,i3⟩:=aKo (id:=id) hz h1
    refine ⟨i1.cons (fun y hy=>?_) h3,fun y hy=>?_,fun n=>?_⟩
    ·rcases i2 y hy with h | ⟨w,hw,h⟩
     ·omega
     ·have:=h2 w hw; omega
    ·rcases List.mem_cons.1 hy with rfl | hy
     ·exact .inr ⟨_,List.mem_cons_self ..,rfl⟩
     ·rcases i2 y hy with h | ⟨w,hw,h⟩
      ·exact .inl h
      ·exact .inr ⟨w,List.mem_cons_of_mem _ hw,h⟩
    ·rw [bW,bW,i3 n]
     by_cases hx:x.1=n
     ·rw [if_pos hx,if_pos hx,if_neg (by omega)]; omega
     ·rw [if_neg hx,if_neg hx]
theorem bCe {l:List (Int × Int)} (h:Val l) (f:Int × Int):Val (lP l f)∧∀ n,getM (lP l f) n=getM l n+if n=f.1 then f.2 else 0:=by
 obtain ⟨id,z⟩:=f
 rw [aRt]
 by_cases hz:z=0
 ·rw [if_pos hz]
  exact ⟨h,fun n=>by simp only [hz]; simp⟩
 ·rw [if_neg hz]
  obtain ⟨h1,_,h3⟩:=aKo (id:=id) hz h
  exact ⟨h1,h3⟩
def cf (n:Int):List (Int × Int)→Int
 | []=>0
 | x::l=>(if n=x.1 then x.2 else 0)+cf n l
theorem dA:∀ (b a:List (Int × Int)),Val a→Val (bY a b)∧∀ n,getM (bY a b) n=getM a n+cf n b
 | [],a,h=>⟨h,fun n=>by simp [bY,cf]⟩
 | x::b,a,h=>by
  obtain ⟨h1,h2⟩:=bCe h x
  obtain ⟨h3,h4⟩:=dA b (lP a x) h1
  refine ⟨h3,fun n=>?_⟩
  show getM (bY (lP a x) b) n=_
  rw [h4 n,h2 n]
  simp only [cf]; omega
/-! The map -/
theorem aUe (x:Int × Int) (m:List (Int × Int)) (n v:Int):tL (x::m) n v=if x.1=n then (n,v)::m else x::tL m n v:=by
 unfold tL
 by_cases h:x.1=n
 ·have e:fnd n (x::m)=some 0:=by unfold fnd; rw [if_pos h]
  rw [e,if_pos h]; rfl
 ·have e:fnd n (x::m)=(fnd n m).map (·+1):=by
   show (if x.1=n then some 0 else (fnd n m).map (·+1))=_
   rw [if_neg h]
  rw [e,if_neg h]
  cases fnd n m with
  | none=>rfl
  | some j=>simp
theorem aVx (x:Int × Int) (m:List (Int × Int)) (n:Int):uO (x::m) n=if x.1=n then m else x::uO m n:=by
 unfold uO
 by_cases h:x.1=n
 ·have e:fnd n (x::m)=some 0:=by unfold fnd; rw [if_pos h]
  rw [e,if_pos h]; rfl
 ·have e:fnd n (x::m)=(fnd n m).map (·+1):=by
   show (if x.1=n then some 0 else (fnd n m).map (·+1))=_
   rw [if_neg h]
  rw [e,if_neg h]
  cases fnd n m with
  | none=>rfl
  | some j=>simp
def Mp (m:List (Int × Int)):Prop:=m.Pairwise (fun x y=>x.1≠y.1)∧∀ x∈m,x.2≠0
theorem Mp.tail {x:Int × Int} {l:List (Int × Int)} (h:Mp (x::l)):Mp l∧(∀ y∈l,x.1≠y.1)∧x.2≠0 :=
 ⟨⟨(List.pairwise_cons.1 h.1).2,fun y hy=>h.2 y (List.mem_cons_of_mem _ hy)⟩,(List.pairwise_cons.1 h.1).1,h.2 x (List.mem_cons_self ..)⟩
theorem Mp.cons {x:Int × Int} {l:List (Int × Int)} (h:Mp l) (h1:∀ y∈l,x.1≠y.1) (h2:x.2≠0):Mp (x::l) :=
 ⟨List.pairwise_cons.2 ⟨h1,h.1⟩,fun y hy=>by
  rcases List.mem_cons.1 hy with rfl | hy
  ·exact h2
  ·exact h.2 y hy⟩
theorem Mp.nil:Mp []:=⟨List.Pairwise.nil,fun _ h=>by cases h⟩
theorem aQr {n v:Int} (hv:v≠0):∀ {m:List (Int × Int)},Mp m→Mp (tL m n v)∧(∀ y∈tL m n v,y.1=n∨∃ x∈m,x.1=y.1)∧∀ k,getM (tL m n v) k=if k=n then v else getM m k
 | [],_=>by
  have e:tL [] n v=[(n,v)]:=rfl
  rw [e]
  refine ⟨Mp.nil.cons (fun y hy=>by cases hy) hv,fun y hy=>?_,fun k=>?_⟩
  ·simp at hy; subst hy; exact .inl rfl
  ·rw [bW]
   by_cases h:k=n
   ·subst h; simp
   ·rw [if_neg (fun e=>h e.symm),if_neg h]
 | x::m,h=>by
  obtain ⟨h1,h2,h3⟩:=h.tail
  rw [aUe]
  by_cases hx:x.1=n
  ·rw [if_pos hx]
   refine ⟨h1.cons (fun y hy=>by have:=h2 y hy; simp only; omega) hv,fun y hy=>?_,fun k=>?_⟩
   ·rcases List.mem_cons.1 hy with rfl | hy
    ·exact .inl rfl
    ·exact .inr ⟨y,List.mem_cons_of_mem _ hy,rfl⟩
   ·rw [bW,bW]
    by_cases h:k=n
    ·subst h; simp
    ·rw [if_neg (fun e=>h e.symm),if_neg h,if_neg (by omega)]
  ·rw [if_neg hx]
   obtain ⟨i1,i2,i3⟩:=aQr (n:=n) hv h1
   refine ⟨i1.cons (fun y hy=>?_) h3,fun y hy=>?_,fun k=>?_⟩
   ·rcases i2 y hy with h | ⟨w,hw,h⟩
    ·omega
    ·have:=h2 w hw; omega
   ·rcases List.mem_cons.1 hy with rfl | hy
    ·exact .inr ⟨_,List.mem_cons_self ..,rfl⟩
    ·rcases i2 y hy with h | ⟨w,hw,h⟩
     ·exact .inl h
     ·exact .inr ⟨w,List.mem_cons_of_mem _ hw,h⟩
   ·rw [bW,bW,i3 k]
    by_cases hk:x.1=k
    ·rw [if_pos hk,if_pos hk,if_neg (by omega)]
    ·rw [if_neg hk,if_neg hk]
theorem aSf {n:Int}:∀ {m:List (Int × Int)},Mp m→Mp (uO m n)∧(∀ y∈uO m n,y∈m)∧∀ k,getM (uO m n) k=if k=n then 0 else getM m k
 | [],h=>⟨h,fun y hy=>hy,fun k=>by
   have e:uO [] n=[]:=rfl
   rw [e,iV]; simp⟩
 | x::m,h=>by
  obtain ⟨h1,h2,h3⟩:=h.tail
  rw [aVx]
  by_cases hx:x.1=n
  ·rw [if_pos hx]
   refine ⟨h1,fun y hy=>List.mem_cons_of_mem _ hy,fun k=>?_⟩
   rw [bW]
   by_cases hk:k=n
   ·subst hk
    rw [if_pos rfl,gD (fun y hy=>by have:=h2 y hy; omega)]
   ·rw [if_neg hk,if_neg (by omega)]
  ·rw [if_neg hx]
   obtain ⟨i1,i2,i3⟩:=aSf (n:=n) h1
   refine ⟨i1.cons (fun y hy=>h2 y (i2 y hy)) h3,fun y hy=>?_,fun k=>?_⟩
   ·rcases List.mem_cons.1 hy with rfl | hy
    ·exact List.mem_cons_self ..
    ·exact List.mem_cons_of_mem _ (i2 y hy)
   ·rw [bW,bW,i3 k]
    by_cases hk:x.1=k
    ·rw [if_pos hk,if_pos hk,if_neg (by omega)]
    ·rw [if_neg hk,if_neg hk]
theorem bLh {m:List (Int × Int)} (h:Mp m) (n k:Int):Mp (lH m n k)∧∀ j,getM (lH m n k) j=getM m j+if j=n then k else 0:=by
 unfold lH
 by_cases h0:getM m n+k=0
 ·rw [if_pos h0]
  obtain ⟨h1,_,h3⟩:=aSf (n:=n) h
  refine ⟨h1,fun j=>?_⟩
  rw [h3 j]
  by_cases hj:j=n
  ·subst hj; rw [if_pos rfl,if_pos rfl]; omega
  ·rw [if_neg hj,if_neg hj]; omega
 ·rw [if_neg h0]
  obtain ⟨h1,_,h3⟩:=aQr (n:=n) h0 h
  refine ⟨h1,fun j=>?_⟩
  rw [h3 j]
  by_cases hj:j=n
  ·subst hj; rw [if_pos rfl,if_pos rfl]
  ·rw [if_neg hj,if_neg hj]; omega
theorem aQf:∀ (l m:List (Int × Int)),Mp m→Mp (pP m l)∧∀ j,getM (pP m l) j=getM m j+cf j l
 | [],m,h=>⟨h,fun n=>by simp [pP,cf]⟩
 | x::l,m,h=>by
  obtain ⟨h1,h2⟩:=bLh h x.1 x.2
  obtain ⟨h3,h4⟩:=aQf l (lH m x.1 x.2) h1
  refine ⟨h3,fun n=>?_⟩
  show getM (pP (lH m x.1 x.2) l) n=_
  rw [h4 n,h2 n]
  simp only [cf]; omega
theorem aKx (g:Int→Int):∀ (l:List Int) (n:Int),getM (l.map fun n=>(n,g n)) n=if n∈l then g n else 0
 | [],n=>rfl
 | x::l,n=>by
  rw [List.map_cons,bW,aKx g l n]
  by_cases h:x=n
  ·subst h; simp
  ·have h':¬ n=x:=fun e=>h e.symm
   simp [h,h']
theorem bDa {n:Int} {m:List (Int × Int)} (h:n ∉ m.map (·.1)):getM m n=0:=gD fun y hy e=>h (e ▸ List.mem_map_of_mem hy)
theorem bCp {m:List (Int × Int)} (h:Mp m) {n:Int} (hn:n∈m.map (·.1)):getM m n≠0:=by
 unfold getM
 have hs:=aAo hn
 cases hf:fnd n m with
 | none=>rw [hf] at hs; cases hs
 | some j =>
  obtain ⟨z,hz⟩:=aAn hf
  simp only [List.getD_eq_getElem?_getD,hz,Option.getD_some]
  exact h.2 _ (List.mem_of_getElem? hz)
theorem aOu {m:List (Int × Int)} (h:Mp m):Val (fK m)∧∀ n,getM (fK m) n=getM m n:=by
 refine ⟨⟨?_,fun x hx=>?_⟩,fun n=>?_⟩
 ·unfold fK
  rw [List.pairwise_map]
  have h1:=Go.Proofs.isort_sorted (m.map (·.1))
  have h0:(m.map (·.1)).Pairwise (fun a b:Int=>a≠b):=by rw [List.pairwise_map]; exact h.1
  have h2:(fJ (m.map (·.1))).Pairwise (fun a b:Int=>a≠b):=(Go.Proofs.isort_perm (m.map (·.1))).symm.pairwise h0 (fun {x y} (hxy:x≠y)=>Ne.symm hxy)
  exact (h1.and h2).imp fun ⟨a,b⟩=>by simp only; omega
 ·obtain ⟨n,hn,rfl⟩:=List.mem_map.1 hx
  exact bCp h ((oB n _).1 hn)
 ·unfold fK
  rw [aKx]
  by_cases hn:n∈m.map (·.1)
  ·rw [if_pos ((oB n _).2 hn)]
  ·rw [if_neg (fun h=>hn ((oB n _).1 h)),bDa hn]
theorem gY:∀ {l:List (Int × Int)},Val l→∀ n,cf n l=getM l n
 | [],_,_=>rfl
 | x::l,h,n=>by
  obtain ⟨h1,h2,_⟩:=h.tail
  rw [cf,gY h1,bW]
  by_cases hx:x.1=n
  ·subst hx
   rw [if_pos rfl,if_pos rfl,gD (fun y hy=>by have:=h2 y hy; omega)]; omega
  ·rw [if_neg (fun e=>hx e.symm),if_neg hx]; omega
theorem bIy (l:List (Int × Int)):fK (pP [] l)=bY [] l:=by
 obtain ⟨h1,h2⟩:=aQf l [] Mp.nil
 obtain ⟨h3,h4⟩:=aOu h1
 obtain ⟨h5,h6⟩:=dA l [] Val.nil
 exact h3.ext h5 fun n=>by rw [h4 n,h2 n,h6 n]
theorem sJ {l:List (Int × Int)} (h:Val l):sI l=true:=by
 refine wN fun j hj=>?_
 unfold aJo
 have g:=bCq hj
 have h1:(l.getD j (0,0)).2≠0:=h.2 _ (List.mem_of_getElem? g)
 rw [Bool.and_eq_true,Bool.or_eq_true]
 refine ⟨by simpa using h1,?_⟩
 rcases j with _ | k
 ·exact .inl rfl
 ·refine .inr ?_
  have hk:k<l.length:=by omega
  have:=List.pairwise_iff_getElem.1 h.1 k (k+1) hk hj (by omega)
  rw [Nat.add_sub_cancel,List.getD_eq_getElem?_getD,List.getD_eq_getElem?_getD,List.getElem?_eq_getElem hj,List.getElem?_eq_getElem hk]
  simpa using this
end Go.Am
end

section
set_option linter.unusedVariables false
set_option linter.unusedSimpArgs false
open Go Go.Am Go.Proofs
namespace Go.Am
theorem aOl {n:Nat} (h:n<340282366920938463463374607431768211456):(aW n).length≤137438953472:=by
 have e:(4294967296:Nat) ^ 4=340282366920938463463374607431768211456:=by decide
 have:=eQ (n:=n) (k:=4) (by rw [e]; exact h)
 omega
end Go.Am
end

section
set_option linter.unusedVariables false
set_option linter.unusedSimpArgs false
open Go Go.Am Go.Proofs
namespace Go.Am
def lin (a b:List (Int × Int)) (k:Int):List (Int × Int):=bY a (mulR k b)
theorem aGp (k n:Int):∀ b:List (Int × Int),cf n (mulR k b)=k * cf n b
 | []=>by simp [mulR,cf]
 | x::b=>by
  have ih:=aGp k n b
  show (if n=x.1 then k * x.2 else 0)+cf n (mulR k b)=k * ((if n=x.1 then x.2 else 0)+cf n b)
  rw [ih,Int.mul_add]
  split <;> simp
theorem bEc (n:Int):∀ a b:List (Int × Int),cf n (a++b)=cf n a+cf n b
 | [],b=>by simp [cf]
 | x::a,b=>by
  have ih:=bEc n a b
  simp only [List.cons_append,cf,ih]; omega
theorem yF {a b:List (Int × Int)} (ha:Val a) (hb:Val b) (k:Int):Val (lin a b k)∧∀ n,getM (lin a b k) n=getM a n+k * getM b n:=by
 obtain ⟨h1,h2⟩:=dA (mulR k b) a ha
 exact ⟨h1,fun n=>by show getM (bY a (mulR k b)) n=_; rw [h2 n,aGp,gY hb]⟩
theorem bJf {a b:List (Int × Int)} {k:Int} {A M K:Nat} (ha:Bnd A a) (hb:Bnd M b) (hk:k.natAbs≤K):Bnd (A+b.length * (K * M)) (lin a b k):=by
 have:=iZ (mulR k b) a ha (qE hk hb)
 rwa [show (mulR k b).length=b.length by simp [mulR]] at this
theorem bJe (a b:List (Int × Int)) (k:Int):(lin a b k).length≤a.length+b.length:=by
 have:=kG a (mulR k b)
 rwa [show (mulR k b).length=b.length by simp [mulR]] at this
structure Small (a:List (Int × Int)):Prop where
 val:Val a
 keys:Keys a
 bnd:Bnd 1000000000000 a
 len:a.length≤100
theorem Small.sz {a:List (Int × Int)} (h:Small a):∀ x∈a,Sz x.2:=fun x hx=>lB (h.bnd x hx) (aOl (by decide))
theorem Small.nil:Small []:=⟨Val.nil,(fun _ h=>by cases h),Bnd.nil _,Nat.zero_le _⟩
end Go.Am
end

section
set_option linter.unusedVariables false
set_option linter.unusedSimpArgs false
open Go Go.Am Go.Proofs
namespace Go.Am
def sT (z:Int):List D:=[.b (decide (z<0)),aG (aW z.natAbs)]
def cI (v:List Int):D:=.sl (v.map sT)
def vcs (v:List Int):List D:=(v.map sT).flatten
theorem fH (l:List Int):(vcs l).length=l.length * 2:=by
 unfold vcs
 induction l with
 | nil=>rfl
 | cons x l ih=>simp only [List.map_cons,List.flatten_cons,List.length_append,ih,sT,List.length_cons,List.length_nil]; omega
theorem aGl (z:Int):sT z=[.b (decide (z<0)),aG (aW z.natAbs)]:=rfl
theorem aWa (l:List (List D)) (h:∀ x∈l,x.length=2):chunk 2 l.length l.flatten=l:=by
 induction l with
 | nil=>rfl
 | cons a l ih =>
  have ha:=h a (List.mem_cons_self ..)
  have:=ih fun x hx=>h x (List.mem_cons_of_mem _ hx)
  unfold chunk at this ⊢
  rw [List.length_cons,List.range_succ_eq_map,List.map_cons,List.map_map,List.flatten_cons]
  congr 1
  ·simp [ha]
  ·conv=>rhs; rw [← this]
   apply List.map_congr_left
   intro i _
   simp only [Function.comp]
   rw [show Nat.succ i * 2=a.length+i * 2 from by omega,List.drop_append,List.drop_eq_nil_of_le (by omega)]
   simp
theorem aEk {l:List Int} {n:Nat} (h:l.length=n):chunk 2 n (vcs l)=l.map sT:=by
 subst h
 have:=aWa (l.map sT) (fun x hx=>by obtain ⟨y,_,rfl⟩:=List.mem_map.1 hx; rfl)
 rwa [List.length_map] at this
theorem sZ {l:List Int} {n:Nat} (h:l.length=n):List.take (n * 2) ((vcs l).map AV.d)=(vcs l).map AV.d:=List.take_of_length_le (by simp [fH,h])
def cV (rows cols:Int) (A:List (List Int)):D:=.ag [.i .i64 rows,.i .i64 cols,.sl (A.map fun v=>[cI v])]
theorem sA {H H':Nat→Option HO} {ρ:Nat→Nat} {a o l s b o' l' s':Nat}:mO H H' ρ (.own a o l s) (.own b o' l' s')↔(a=ρ b∧o=o'∧l=l'∧s=s'∧(H' b).isSome=true):=Iff.rfl
theorem bCt {H:Nat→Option HO} {B:Nat} {e:TypeId} {v:List Int} {n:Nat} (m:Nat) (hB:H B=some (.cells e ((vcs v).map .d))) (hv:v.length=n):frz H (m+2) (.own B 0 n 2)=some (cI v):=by
 have hl:=fH v
 rw [hv] at hl
 rw [iM,hB]
 simp only [Nat.zero_add,List.length_map,hl,Nat.zero_mul,List.drop_zero]
 rw [sZ hv,if_pos ⟨Nat.le_refl _,by decide⟩]
 have:List.mapM (frz H (m+1)) ((vcs v).map AV.d)=some (vcs v):=oW H m (vcs v)
 rw [this,Option.map_some,aEk hv]; rfl
theorem nO (z:Int) (v:List Int):vcs (z::v)=sT z++vcs v:=by simp [vcs]
theorem gA:∀ {v:List Int} {k:Nat} {z:Int},v[k]? = some z→((vcs v).drop (k * 2)).take 2=sT z
 | [],k,z,h=>by simp at h
 | y::v,0,z,h=>by
  simp at h; subst h
  rw [nO]; rfl
 | y::v,k+1,z,h=>by
  have ih:=gA (v:=v) (k:=k) (z:=z) (by simpa using h)
  rw [nO,show (k+1) * 2=k * 2+2 by omega,← ih]
  rw [Nat.add_comm,← List.drop_drop]
  rfl
theorem aQa:∀ {v:List Int} {k:Nat} (z:Int),k<v.length→(vcs v).take (k * 2)++sT z++(vcs v).drop (k * 2+2)=vcs (v.set k z)
 | [],k,z,h=>by simp at h
 | y::v,0,z,h=>by
  rw [List.set_cons_zero,nO,nO]; rfl
 | y::v,k+1,z,h=>by
  have ih:=aQa (v:=v) (k:=k) z (by simpa using h)
  rw [List.set_cons_succ,nO,nO,← ih,show (k+1) * 2=2+k * 2 by omega,show 2+k * 2+2=2+(k * 2+2) by omega]
  have e1:∀ n,List.take (2+n) (sT y++vcs v)=sT y++List.take n (vcs v):=fun n=>by rw [List.take_append,List.take_of_length_le (by show 2≤2+n; omega)]; congr 2; show 2+n - 2=n; omega
  have e2:∀ n,List.drop (2+n) (sT y++vcs v)=List.drop n (vcs v):=fun n=>by rw [← List.drop_drop]; rfl
  rw [e1,e2]; simp
theorem mapM_some {α β:Type} (f:α→Option β) (g:Nat→β):∀ (l:List α),(∀ k x,l[k]? = some x→f x=some (g k))→l.mapM f=some ((List.range l.length).map g)
 | [],_=>rfl
 | x::l,h=>by
  rw [List.mapM_cons,h 0 x rfl,mapM_some f (fun k=>g (k+1)) l fun k y hy=>h (k+1) y (by simpa using hy),List.length_cons,List.range_succ_eq_map]
  simp [Function.comp_def]
def zr (cols:Nat):List AV:=(List.replicate cols [AV.d (.b false),AV.nil]).flatten
theorem bGa {H H':Nat→Option HO} {ρ:Nat→Nat} (cols:Nat):gQ H H' ρ (zr cols) (zr cols):=by
 refine eR.2 ⟨rfl,fun k c d h1 h2=>?_⟩
 rw [h1] at h2; injection h2 with h2; subst h2
 have hm:=List.mem_of_getElem? h1
 unfold zr at hm
 rw [List.mem_flatten] at hm
 obtain ⟨l,hl,hc⟩:=hm
 rw [List.eq_of_mem_replicate hl] at hc
 rcases List.mem_cons.1 hc with rfl | hc
 ·exact (jE _ _).2 rfl
 ·rw [List.mem_singleton.1 hc]; trivial
theorem aMe {H H':Nat→Option HO} {ρ:Nat→Nat}:∀ c:Nat,gQ H H' ρ (zr c) ((vcs (List.replicate c 0)).map .d)
 | 0=>trivial
 | c+1=>by
  have ih:=aMe (H:=H) (H':=H') (ρ:=ρ) c
  have e1:zr (c+1)=AV.d (.b false)::AV.nil::zr c:=by simp [zr,List.replicate_succ]
  have e2:(vcs (List.replicate (c+1) 0)).map AV.d=AV.d (.b (decide ((0:Int)<0)))::AV.d (aG (aW (0:Int).natAbs))::(vcs (List.replicate c 0)).map AV.d:=by
   rw [List.replicate_succ]; rfl
  rw [e1,e2]
  refine ⟨?_,?_,ih⟩
  ·exact (jE _ _).2 rfl
  ·exact ⟨by rw [show ((0:Int).natAbs)=0 from rfl,cK]; rfl,fun a ha=>by simp [vis] at ha⟩
def nwV (rows cols m:Nat):AV:=.ag [.d (.i .i64 (rows:Int)),.d (.i .i64 (cols:Int)),.own m 0 rows 1]
end Go.Am
end

section
set_option linter.unusedVariables false
set_option linter.unusedSimpArgs false
open List (map_map mapM_map)
open Go Go.Am Go.Proofs
namespace Go.Am
theorem mA {P:Program} (σ:St) (x y:ResultVar):mR P [x,y] σ=(lC P σ x).bind fun a=>(lC P σ y).bind fun b=>(frz σ.H 8 a).bind fun u=>(frz σ.H 8 b).bind fun v=>some (.tp [u,v]):=by
 unfold mR
 cases h1:lC P σ x <;> cases h2:lC P σ y <;> simp [gO,h1,h2]
 rename_i a b
 cases frz σ.H 8 a <;> cases frz σ.H 8 b <;> simp
theorem dR {P:Program} (σ:St) (x y z:ResultVar):mR P [x,y,z] σ=(lC P σ x).bind fun a=>(lC P σ y).bind fun b=>(lC P σ z).bind fun c=>(frz σ.H 8 a).bind fun u=>(frz σ.H 8 b).bind fun v=>(frz σ.H 8 c).bind fun w=>some (.tp [u,v,w]):=by
 unfold mR
 cases h1:lC P σ x <;> cases h2:lC P σ y <;> cases h3:lC P σ z <;> simp [gO,h1,h2,h3]
 rename_i a b c
 cases frz σ.H 8 a <;> cases frz σ.H 8 b <;> cases frz σ.H 8 c <;> simp
def shS (a:List Nat) (d:Nat):Nat→List Nat × Nat
 | 0=>(List.replicate a.length 0,0)
 | k+1=>((shS a d k).1.set (a.length - 1 - k) (((shS a d k).2 * 4294967296+a.getD (a.length - 1 - k) 0) / d),((shS a d k).2 * 4294967296+a.getD (a.length - 1 - k) 0) % d)
theorem aYc {o v v' p q d r r' x t t' w:Nat} (hs:v'+p * o=v+p * q) (ho:o=0) (ht:r * 4294967296+x=t) (hq:r'+d * q=t) (hv:v * d+p * 4294967296 * r+(t'+p * x)=w):v' * d+p * r'+t'=w:=by
 subst ho
 have h1:v'=v+p * q:=by omega
 have h2:p * t=p * (r * 4294967296)+p * x:=by rw [← ht,Nat.mul_add]
 have h3:p * t=p * r'+p * (d * q):=by rw [← hq,Nat.mul_add]
 have h4:p * q * d=p * (d * q):=by rw [Nat.mul_assoc,Nat.mul_comm q]
 have h5:p * 4294967296 * r=p * (r * 4294967296):=by rw [Nat.mul_assoc,Nat.mul_comm r]
 rw [h1,Nat.add_mul,h4]
 omega
theorem bLs {r x d:Nat} (hr:r<d) (hx:x<4294967296):(r * 4294967296+x) / d<4294967296:=by
 rw [Nat.div_lt_iff_lt_mul (by omega)]
 have:r * 4294967296+4294967296≤d * 4294967296:=by
  have:=Nat.mul_le_mul_right 4294967296 (Nat.succ_le_of_lt hr)
  rw [Nat.succ_mul] at this; exact this
 rw [Nat.mul_comm 4294967296]
 omega
theorem aQj {a:List Nat} {d:Nat} (ha:Lim a) (hd:0<d) (k:Nat) (hk:k≤a.length) :
  (shS a d k).1.length=a.length∧(shS a d k).2<d∧Lim (shS a d k).1∧(∀ i,i<a.length - k→(shS a d k).1.getD i 0=0) ∧
  val (shS a d k).1 * d+4294967296 ^ (a.length - k) * (shS a d k).2+val (a.take (a.length - k))=val a:=by
 induction k with
 | zero=>exact ⟨by simp [shS],hd,.rep _,fun i _=>by simp [shS,List.getElem?_replicate]; split <;> rfl,by simp [shS,xS]⟩
 | succ k ih =>
  obtain ⟨h1,h2,h3,h4,h5⟩:=ih (by omega)
  obtain ⟨j,hj⟩:∃ j,a.length - 1 - k=j:=⟨_,rfl⟩
  have hj1:a.length - k=j+1:=by omega
  have hj2:a.length - (k+1)=j:=by omega
  have hx:=ha.getD j
  have hset:=aFf (l:=(shS a d k).1) (j:=j) (by omega) (((shS a d k).2 * 4294967296+a.getD j 0) / d)
  have hoj:=h4 j (by omega)
  simp only [shS,hj,hj2]
  rw [hj1,dD,Nat.pow_succ] at h5
  have hlt:=bLs h2 hx
  refine ⟨by simp [h1],Nat.mod_lt _ hd,h3.set _ hlt,fun i hi=>?_,?_⟩
  ·rw [List.getD_eq_getElem?_getD,List.getElem?_set_ne (by omega),← List.getD_eq_getElem?_getD]
   exact h4 i (by omega)
  ·exact aYc hset hoj rfl (Nat.mod_add_div _ _) h5
def shQ (a:List Nat) (d:Nat):List Nat:=(shS a d a.length).1
theorem aFm {a:List Nat} {d:Nat} (ha:Lim a) (hd:0<d):(shQ a d).length=a.length∧Lim (shQ a d)∧val (shQ a d)=val a / d∧(shS a d a.length).2=val a % d:=by
 obtain ⟨h1,h2,h3,_,h5⟩:=aQj ha hd a.length (Nat.le_refl _)
 rw [Nat.sub_self,Nat.pow_zero,Nat.one_mul,List.take_zero,val,Nat.add_zero] at h5
 have:=(Nat.div_mod_unique hd).2 ⟨show (shS a d a.length).2+d * val (shQ a d)=val a by rw [Nat.mul_comm,Nat.add_comm]; exact h5,h2⟩
 exact ⟨h1,h3,this.1.symm,this.2.symm⟩
set_option maxRecDepth 10000 in
theorem aIw (a:List Nat) (d:Nat) (ha:Lim a) (hd:0<d) (hd2:d<4294967296) (hla:a.length≤1099511627776):Spec Tryz.prog 195 [aG a,.i .u32 d] (.tp [aG (shQ a d),.i .u32 ((val a % d:Nat):Int)]):=by
 refine aX (N:=42) aF Tryz.func195 rfl rfl rfl (by kernel_rfl) (by kernel_rfl) (by simp) ?_
 obtain ⟨n,hn⟩:∃ n,a.length=n:=⟨_,rfl⟩
 have hm1:(4:Int) * n≤281474976710656:=by omega
 have hm2:(n:Int)≤9223372036854775807:=by omega
 have hw1:IntKind.i64.wrap ((n:Int) - 1)=(n:Int) - 1:=aS (by omega) (by omega)
 have hwd:IntKind.u64.wrap (d:Int)=d:=bL (by omega) (by omega)
 have hdz:¬ d=0:=by omega
 have h00:(shS a d 0).1=List.replicate n 0:=by rw [← hn]; rfl
 have h01:(shS a d 0).2=0:=rfl
 simp [-map_map,-mapM_map,↓KW,aG,hn,hw1,hm1,hm2]
 refine aU (fun k:Nat=>k≤n)
  (fun k=>StL [(0,.d (aG a)),(1,.d (.i .u32 d)),(6,.own 1 0 n 1),(7,.d (.i .u64 (shS a d k).2)),(8,.d (.i .i64 ((n:Int) - 1 - k)))] none
   [.cells 121 ((lms (shS a d k).1).map .d)]) (fun k=>n - k) 0 (Nat.zero_le _) ?_ ?_
 ·refine bB [1] (by simp) ?_ ?_ <;> simp [-map_map,upd,aT,Γ0,aG,h00,h01]
 ·intro k hk
  obtain ⟨ol,oc,om,_,_⟩:=aQj ha hd k (by omega)
  rw [hn] at ol
  by_cases hgo:k<n
  ·have q1:(0:Int)≤(n:Int) - 1 - k:=by omega
   obtain ⟨j,hj⟩:∃ j,a.length - 1 - k=j:=⟨_,rfl⟩
   have hji:(n:Int) - 1 - k=j:=by omega
   have hsucc:shS a d (k+1)=((shS a d k).1.set j (((shS a d k).2 * 4294967296+a.getD j 0) / d),((shS a d k).2 * 4294967296+a.getD j 0) % d):=by rw [← hj]; rfl
   have g1:=getD_some (l:=a) (i:=j) (by omega)
   have hx:=ha.getD j
   have hlt:=bLs oc hx
   generalize hout:(shS a d k).1=out at *
   generalize hcar:(shS a d k).2=r at *
   generalize a.getD j 0=x at *
   obtain ⟨t,ht⟩:∃ t,r * 4294967296+x=t:=⟨_,rfl⟩
   rw [ht] at hsucc hlt
   obtain ⟨q,hq⟩:∃ q,t / d=q:=⟨_,rfl⟩
   obtain ⟨r',hr'⟩:∃ r',t % d=r':=⟨_,rfl⟩
   rw [hq,hr'] at hsucc
   rw [hq] at hlt
   have hr'd:r'<d:=by rw [← hr']; exact Nat.mod_lt _ hd
   have hwx:IntKind.u64.wrap (x:Int)=x:=bL (by omega) (by omega)
   have hwr:IntKind.u64.wrap ((r:Int) * 4294967296)=(r:Int) * 4294967296:=bL (by omega) (by omega)
   have hwt:IntKind.u64.wrap ((r:Int) * 4294967296+x)=t:=by rw [bL (by omega) (by omega)]; omega
   have hwq:IntKind.u64.wrap ((t:Int) / d)=q:=by rw [← Int.natCast_ediv,hq,bL (by omega) (by omega)]
   have hwq2:IntKind.u32.wrap (q:Int)=q:=iR (by omega) (by omega)
   have hwm:Int.tmod (t:Int) d=r':=by rw [← Int.ofNat_tmod,hr']
   have hw8:IntKind.i64.wrap ((j:Int) - 1)=(j:Int) - 1:=aS (by omega) (by omega)
   have hjn:j<n:=by omega
   have hjl3:j+1≤n:=by omega
   have hlay:lay (List.map AV.d (lms out)) j [AV.d (D.i .u32 (q:Int))]=List.map AV.d (lms (out.set j q)):=by
    rw [oX _ _ _ (by rw [kY]; omega),tW]
   have he:(n:Int) - 1 - ((k:Int)+1)=(j:Int) - 1:=by omega
   rw [hji]
   simp [-map_map,-mapM_map,↓KW,aG,g1,hwx,hwr,hwt,hwd,hdz,hwq,hwq2,hwm,hw8,hjn,hjl3,hlay,ol]
   refine aI (k+1) hgo ?_ (bB [1] (by simp) ?_ ?_)
   ·omega
   ·simp [-map_map,upd,aT,Γ0,aG,hsucc,he]
   ·simp [-map_map,upd,aT,Γ0,aG,hsucc,he]
  ·have e:k=n:=by omega
   have q1:¬ (k:Int)≤(n:Int) - 1:=by omega
   obtain ⟨s1,s2,s3,s4⟩:=aFm ha hd
   have e1:(shS a d k).1=shQ a d:=by rw [e,← hn]; rfl
   have e2:(shS a d k).2=val a % d:=by rw [e,← hn]; exact s4
   rw [hn] at s1
   have hrd:val a % d<d:=Nat.mod_lt _ hd
   have e3:(val a:Int) % d=((val a % d:Nat):Int):=by rw [Int.natCast_emod]
   rw [e1,e2]
   generalize val a % d=r at *
   have hwr:IntKind.u32.wrap (r:Int)=r:=iR (by omega) (by omega)
   simp [-map_map,-mapM_map,↓KW,aG,q1,s1,fL s1,dZ s1,hwr,e3,mA]
end Go.Am
end

section
set_option linter.unusedVariables false
set_option linter.unusedSimpArgs false
open Go Go.Am Go.Proofs
namespace Go.Am
theorem xE {n:Nat} (h:n≤2147483648):(n+1) * 32≤140737488355328∧n+1≤1099511627776:=⟨by omega,by omega⟩
structure Cl where
 id:Int
 dim:Int
 b:List (Int × Int)
 deriving DecidableEq,Inhabited
def xJ:Cl:=⟨0,0,[]⟩
def bK (x:Cl):List D:=[.i .i64 x.id,.i .i64 x.dim,aO x.b]
def aP (c:List Cl):D:=.sl (c.map bK)
def cQ (l:List Int):D:=.sl (l.map fun n=>[.i .i64 n])
def cF (c:List Cl) (n:Int):Option Cl:=c.find? fun y=>decide (y.id=n)
def cY (c:List Cl) (k:Int):List Int:=(c.filter fun y=>decide (y.dim=k)).map Cl.id
def bOf (c:List Cl) (n:Int):List (Int × Int):=((cF c n).getD xJ).b
def dOf (c:List Cl) (n:Int):Int:=((cF c n).getD xJ).dim
def kn (c:List Cl) (n:Int):Bool:=(cF c n).isSome
theorem aOf (x:Cl) (c:List Cl) (n:Int):cF (x::c) n=if x.id=n then some x else cF c n:=by
 unfold cF
 rw [List.find?_cons]
 by_cases h:x.id=n <;> simp [h]
theorem aOe {c:List Cl} {i:Nat} (h:i<c.length) (n:Int):cF (c.drop i) n=if c[i].id=n then some c[i] else cF (c.drop (i+1)) n:=by
 rw [List.drop_eq_getElem_cons h,aOf]
theorem aVl {c:List Cl} {i:Nat} (h:i<c.length) (k:Int):cY (c.take (i+1)) k=cY (c.take i) k++if c[i].dim=k then [c[i].id] else []:=by
 unfold cY
 rw [List.take_add_one,List.getElem?_eq_getElem h,List.filter_append,List.map_append]
 congr 1
 by_cases e:c[i].dim=k <;> simp [e]
theorem lD (c:List Cl) (k:Int):(cY c k).length≤c.length:=by
 unfold cY
 rw [List.length_map]; exact List.length_filter_le _ _
theorem dT {c:List Cl} {n:Int} {x:Cl} (h:cF c n=some x):x∈c∧x.id=n :=
 ⟨List.mem_of_find?_eq_some h,by have:=List.find?_some h; simpa using this⟩
theorem aAp {c:List Cl} {n:Int} (h:cF c n=none):∀ x∈c,x.id≠n:=fun x hx=>by
 have:=List.find?_eq_none.1 h x hx; simpa using this
def Inc (c:List Cl):Prop:=c.Pairwise fun x y=>x.id<y.id
theorem Inc.eq {c:List Cl} (h:Inc c) {x y:Cl} (hx:x∈c) (hy:y∈c) (e:x.id=y.id):x=y:=by
 induction c with
 | nil=>cases hx
 | cons a c ih =>
  obtain ⟨h1,h2⟩:=List.pairwise_cons.1 h
  rcases List.mem_cons.1 hx with rfl | hx' <;> rcases List.mem_cons.1 hy with rfl | hy'
  ·rfl
  ·have:=h1 y hy'; omega
  ·have:=h1 x hx'; omega
  ·exact ih h2 hx' hy'
theorem Inc.find {c:List Cl} (h:Inc c) {x:Cl} (hx:x∈c):cF c x.id=some x:=by
 cases e:cF c x.id with
 | none=>exact (aAp e x hx rfl).elim
 | some y=>obtain ⟨h1,h2⟩:=dT e; rw [h.eq h1 hx h2]
def lv (k:Int) (r:List (Int × Int)):Int:=r.foldl (fun acc x=>if x.1=k then x.2 else acc) 0
theorem bJb (k:Int) (r:List (Int × Int)) (x:Int × Int):lv k (r++[x])=if x.1=k then x.2 else lv k r:=by simp [lv]
theorem bJa {r:List (Int × Int)} {i:Nat} (h:i<r.length) (k:Int):lv k (r.take (i+1))=if r[i].1=k then r[i].2 else lv k (r.take i):=by
 rw [List.take_add_one,List.getElem?_eq_getElem h]; exact bJb _ _ _
theorem aRj (k:Int):∀ (r:List (Int × Int)) (acc:Int),Val r→r.foldl (fun acc x=>if x.1=k then x.2 else acc) acc=if ∃ y∈r,y.1=k then getM r k else acc
 | [],acc,_=>by simp
 | x::r,acc,h=>by
  obtain ⟨h1,h2,h3⟩:=h.tail
  rw [List.foldl_cons,aRj k r _ h1,bW]
  by_cases e:x.1=k
  ·have hn:¬ ∃ y∈r,y.1=k:=fun ⟨y,hy,e2⟩=>by have:=h2 y hy; omega
   rw [if_neg hn,if_pos e,if_pos ⟨x,List.mem_cons_self ..,e⟩,if_pos e]
  ·rw [if_neg e,if_neg e]
   by_cases hr:∃ y∈r,y.1=k
   ·obtain ⟨y,hy,e2⟩:=hr
    rw [if_pos ⟨y,hy,e2⟩,if_pos ⟨y,List.mem_cons_of_mem _ hy,e2⟩]
   ·rw [if_neg hr,if_neg]
    rintro ⟨y,hy,e2⟩
    rcases List.mem_cons.1 hy with rfl | hy
    ·exact e e2
    ·exact hr ⟨y,hy,e2⟩
theorem aRi {r:List (Int × Int)} (h:Val r) (k:Int):lv k r=getM r k:=by
 unfold lv
 rw [aRj k r 0 h]
 split
 ·rfl
 ·rename_i hn
  exact (gD fun y hy e=>hn ⟨y,hy,e⟩).symm
theorem bOq {M:Nat} {r:List (Int × Int)} (h:Bnd M r) (k:Int):(lv k r).natAbs≤M:=by
 unfold lv
 suffices ∀ (r:List (Int × Int)) (acc:Int),Bnd M r→acc.natAbs≤M→(r.foldl (fun acc x=>if x.1=k then x.2 else acc) acc).natAbs≤M from this r 0 h (by simp)
 intro r
 induction r with
 | nil=>intro acc _ ha; exact ha
 | cons x r ih =>
  intro acc hb ha
  rw [List.foldl_cons]
  refine ih _ (fun y hy=>hb y (List.mem_cons_of_mem _ hy)) ?_
  split
  ·exact hb x (List.mem_cons_self ..)
  ·exact ha
def rW (ids:List Int) (x:List (Int × Int)):List Int:=ids.map fun n=>lv n x
def pR (c:List Cl) (k:Int):List (List Int):=(cY c k).map fun n=>rW (cY c (k - 1)) (bOf c n)
def bdL (c:List Cl) (x:List (Int × Int)):List (Int × Int):=x.flatMap fun f=>mulR f.2 (bOf c f.1)
def bdX (c:List Cl) (x:List (Int × Int)):List (Int × Int):=bY [] (bdL c x)
def chX (c:List Cl) (k:Int) (v:List Int):List (Int × Int) × Int:=if v.length=(cY c k).length then (bY [] ((cY c k).zip v),0) else ([],50)
theorem bEu {c:List Cl} {x:List (Int × Int)} {i:Nat} (h:i<x.length):bdL c (x.take (i+1))=bdL c (x.take i)++mulR x[i].2 (bOf c x[i].1):=by
 unfold bdL
 rw [List.take_add_one,List.getElem?_eq_getElem h,List.flatMap_append]
 simp
theorem aBp (a x y:List (Int × Int)):bY a (x++y)=bY (bY a x) y:=by unfold bY; rw [List.foldl_append]
end Go.Am
end

section
set_option linter.unusedVariables false
set_option linter.unusedSimpArgs false
open List (map_map mapM_map)
open Go Go.Am Go.Proofs
namespace Go.Am
def vX (c:List Cl) (n:Int):D:=.tp [.ag (bK ((cF c n).getD xJ)),.b (cF c n).isSome]
theorem aJm (c:List Cl):eY 3 (c.map bK)=true:=by cases c <;> rfl
theorem aE (l:List (Int × Int)):one (.d (aO l))=true:=rfl
theorem aB (l:List (Int × Int)):eK (.d (aO l))=some [.d (aO l)]:=rfl
theorem aC (l:List (Int × Int)):aT (aO l)=.d (aO l):=rfl
theorem bI (H:Nat→Option HO) (avs:List AV) (l:List (Int × Int)):bV H avs (aO l)=gH H avs:=rfl
theorem aR (l:List (Int × Int)):inj (aO l)=.d (aO l):=rfl
set_option maxHeartbeats 1000000 in
set_option maxRecDepth 10000 in
theorem mW (c:List Cl) (n:Int) (hl:c.length≤1000000):Spec Tryz.prog 37 [aP c,.i .i64 n] (vX c n):=by
 refine aX (N:=25) aF Tryz.func37 rfl rfl rfl (by kernel_rfl) (by kernel_rfl) (by simp) ?_
 simp [-map_map,-mapM_map,↓KW,aP]
 refine aU (fun i:Nat=>i≤c.length∧cF (c.drop i) n=cF c n) (fun i=>StL [(0,.d (aP c)),(1,.d (.i .i64 n)),(4,.ptr 1 0),(5,.d (.b false)),(6,.d (.i .i64 (i:Int)))] none [.cells 47 [.d (.i .i64 0),.d (.i .i64 0),.nil]]) (fun i=>c.length - i) 0 ⟨Nat.zero_le _,rfl⟩ ?_ ?_
 ·refine bB [1] (by simp) ?_ ?_ <;> simp [-map_map,upd,aT,Γ0,aP]
 ·intro i ⟨hi,hp⟩
  by_cases hgo:i<c.length
  ·have q1:(i:Int)<c.length:=by omega
   have hx:c[i]? = some c[i]:=List.getElem?_eq_getElem hgo
   have hw:IntKind.i64.wrap ((i:Int)+1)=(i:Int)+1:=aS (by omega) (by omega)
   rw [aOe hgo] at hp
   generalize c[i]=x at *
   by_cases h0:x.id=n
   ·rw [if_pos h0] at hp
    have h0':((x.id == n):Bool)=true:=by simpa using h0
    unfold vX
    rw [← hp]
    have q3:(((n:Int) == (n:Int)):Bool)=true:=by simp
    simp [-map_map,-mapM_map,↓KW,aP,bK,q1,hx,h0,h0',q3,aE,aB,aC]
    rfl
   ·rw [if_neg h0] at hp
    have h0':((x.id == n):Bool)=false:=by simpa using h0
    simp [-map_map,-mapM_map,↓KW,aP,bK,q1,hx,h0,h0',hw,aE,aB,aC]
    refine aI (i+1) ⟨hgo,hp⟩ (Nat.sub_lt_sub_left hgo (Nat.lt_succ_self _)) (bB [1] (by simp) ?_ ?_) <;> simp [-map_map,upd,aT,Γ0,aP]
  ·have q1:¬ (i:Int)<c.length:=by omega
   rw [List.drop_eq_nil_of_le (by omega)] at hp
   have hp':cF c n=none:=hp.symm
   unfold vX
   rw [hp']
   simp [-map_map,-mapM_map,↓KW,aP,q1,bK,xJ,aO]
   rfl
set_option maxHeartbeats 1000000 in
set_option maxRecDepth 10000 in
theorem zH (c:List Cl) (k:Int) (hl:c.length≤1000000):Spec Tryz.prog 74 [aP c,.i .i64 k] (cQ (cY c k)):=by
 refine aX (N:=30) aF Tryz.func74 rfl rfl rfl (by kernel_rfl) (by kernel_rfl) (by simp) ?_
 simp [-map_map,-mapM_map,↓KW,aP]
 refine aU (fun i:Nat=>i≤c.length) (fun i=>StL [(0,.d (aP c)),(1,.d (.i .i64 k)),(5,.own 1 0 (cY (c.take i) k).length 1),(6,.d (.i .i64 (i:Int)))] none [.cells 3 (((cY (c.take i) k).map fun n=>D.i .i64 n).map .d)]) (fun i=>c.length - i) 0 (Nat.zero_le _) ?_ ?_
 ·refine bB [1] (by simp) ?_ ?_ <;> simp [-map_map,upd,aT,Γ0,aP,cY]
 ·intro i hi
  by_cases hgo:i<c.length
  ·have q1:(i:Int)<c.length:=by omega
   have hx:c[i]? = some c[i]:=List.getElem?_eq_getElem hgo
   have hw:IntKind.i64.wrap ((i:Int)+1)=(i:Int)+1:=aS (by omega) (by omega)
   have htk:=aVl hgo k
   have hln:(cY (c.take i) k).length≤i:=Nat.le_trans (lD _ _) (by simp; omega)
   generalize cY (c.take i) k=out at *
   generalize c[i]=x at *
   have hbb:=cT (n:=out.length) (by omega)
   have hb8:(out.length+1) * 8≤140737488355328:=by omega
   by_cases h0:x.dim=k
   ·rw [if_pos h0] at htk
    have h0':((x.dim == k):Bool)=true:=by simpa using h0
    have q3:(((k:Int) == (k:Int)):Bool)=true:=by simp
    simp [-map_map,-mapM_map,↓KW,aP,bK,q1,hx,h0,h0',q3,hw,hbb,hb8,aZ,aE,aB,aC]
    refine aI (i+1) hgo (Nat.sub_lt_sub_left hgo (Nat.lt_succ_self _)) (bB [3] (by simp) ?_ ?_) <;> simp [-map_map,upd,aT,Γ0,aP,htk]
   ·rw [if_neg h0,List.append_nil] at htk
    have h0':((x.dim == k):Bool)=false:=by simpa using h0
    simp [-map_map,-mapM_map,↓KW,aP,bK,q1,hx,h0,h0',hw,aE,aB,aC]
    refine aI (i+1) hgo (Nat.sub_lt_sub_left hgo (Nat.lt_succ_self _)) (bB [1] (by simp) ?_ ?_) <;> simp [-map_map,upd,aT,Γ0,aP,htk]
  ·have q1:¬ (i:Int)<c.length:=by omega
   rw [List.take_of_length_le (by omega)]
   have hln:=lD c k
   generalize cY c k=out at *
   have e1:List.take out.length ((out.map fun n=>D.i .i64 n).map AV.d)=(out.map fun n=>D.i .i64 n).map AV.d:=List.take_of_length_le (by simp)
   have e2:chunk 1 out.length (out.map fun n=>D.i .i64 n)=out.map fun n=>[D.i .i64 n]:=by rw [rS _ _ (by simp),List.map_map]; rfl
   simp [-map_map,-mapM_map,↓KW,aP,cQ,q1,e1,e2]
end Go.Am
end

section
set_option linter.unusedVariables false
set_option linter.unusedSimpArgs false
open List (map_map mapM_map)
open Go Go.Am Go.Proofs
namespace Go.Am
def hdr (c n b:Nat):List AV:=(List.range n).map fun j=>AV.own (j+b) 0 c 2
def xH (v:List Int):HO:=.cells 69 ((vcs v).map .d)
def mB (c:Nat) (M:List (List Int)) (m:Nat):List HO:=.cells 112 (hdr c M.length (m+1))::M.map xH
theorem cA (c n b:Nat):(hdr c n b).length=n:=by simp [hdr]
theorem dB {c n b i:Nat} (h:i<n):(hdr c n b)[i]? = some (.own (i+b) 0 c 2):=by
 unfold hdr; rw [List.getElem?_map,List.getElem?_range h]; rfl
theorem bCn (c n b:Nat):hdr c (n+1) b=hdr c n b++[.own (n+b) 0 c 2]:=by simp [hdr,List.range_succ]
theorem bZ (c:Nat) (M:List (List Int)) (m:Nat):(mB c M m).length=M.length+1:=by simp [mB]
def nwH (cols i:Nat):Nat→Option HO:=fun id =>
 if id=1 then some (.cells 155 [.d (.i .i64 0),.d (.i .i64 0),.nil]) else if id=2 then some (.cells 112 (hdr cols i 3)) else if 3≤id∧id<i+3 then some (.cells 69 (zr cols)) else none
set_option maxHeartbeats 8000000 in
set_option maxRecDepth 10000 in
theorem aZp (rows cols:Nat) (hr:rows≤1000) (hc:cols≤1000):vE Tryz.prog 140 [.i .i64 (rows:Int),.i .i64 (cols:Int)] (nwV rows cols) (mB cols (List.replicate rows (List.replicate cols 0))):=by
 refine qD (N:=22) aF Tryz.func140 rfl rfl rfl (by decide) (by kernel_rfl) (by kernel_rfl) (by simp) rfl ?_
 have m1:¬ (rows:Int)<0:=by omega
 have m2:¬ (cols:Int)<0:=by omega
 have hm3:32 * (cols:Int)≤281474976710656:=by omega
 have hm4:(cols:Int)≤9223372036854775807:=by omega
 simp [-map_map,-mapM_map,↓KW,m1,m2,aZ]
 refine aU (fun i:Nat=>i≤rows) (fun i=>⟨gZ [(0,.d (.i .i64 (rows:Int))),(1,.d (.i .i64 (cols:Int))),(4,.ptr 1 0),(5,.own 2 0 i 1),(6,.d (.i .i64 (i:Int)))],nwH cols i,i+3⟩) (fun i=>rows - i) 0 (Nat.zero_le _) ?_ ?_
 ·refine ⟨_,jJ ?_ (fun id o' ho=>?_) (fun id hid=>?_) (by simp)⟩
  ·simp [-map_map,upd,aT,Γ0,nwH]
  ·simp only [nwH] at ho
   split at ho
   ·rename_i e; subst e
    injection ho with ho; subst ho
    exact ⟨_,rfl,by simp [-map_map,upd,aT,Γ0,]⟩
   ·split at ho
    ·rename_i e; subst e
     injection ho with ho; subst ho
     exact ⟨_,rfl,eI.2 ⟨rfl,trivial⟩⟩
    ·rw [if_neg (by omega)] at ho; cases ho
  ·simp only [nwH]
   rw [if_neg (by omega),if_neg (by omega),if_neg (by omega)]
 ·intro i hi
  have hH1:nwH cols i 1=some (.cells 155 [.d (.i .i64 0),.d (.i .i64 0),.nil]):=rfl
  have hH2:nwH cols i 2=some (.cells 112 (hdr cols i 3)):=rfl
  have hlen:(hdr cols i 3).length=i:=cA ..
  by_cases hgo:i<rows
  ·have q1:(i:Int)<rows:=by omega
   have hw:IntKind.i64.wrap ((i:Int)+1)=(i:Int)+1:=aS (by omega) (by omega)
   generalize hHg:nwH cols i=H at *
   generalize hcl:hdr cols i 3=cells at *
   have hb:(i+1) * 24≤140737488355328:=by omega
   have hb2:i+1≤maxLen:=aZ (by omega)
   simp [-map_map,-mapM_map,↓KW,q1,hgo,hw,hm3,hm4,hH1,hH2,hlen,m1,m2,hb,hb2]
   have hn1:(nwH cols (i+1) 1).isSome=true:=rfl
   have hn2:(nwH cols (i+1) 2).isSome=true:=rfl
   have hnj:∀ j,j<i+1→(nwH cols (i+1) (j+3)).isSome=true:=fun j hj=>by
    unfold nwH; rw [if_neg (by omega),if_neg (by omega),if_pos (by omega)]; rfl
   refine aI (i+1) hgo (Nat.sub_lt_sub_left hgo (Nat.lt_succ_self _)) ⟨_,aMh (fun id=>if id=2 then i+5 else id) ?_ (fun id o' ho=>?_) (fun id id' h1 h2 e=>?_) (fun _=>rfl) (fun id hid=>?_) (by simp)⟩
   ·simp [-map_map,upd,aT,Γ0,hn1,hn2]
   ·simp only [nwH] at ho
    split at ho
    ·rename_i e; subst e
     injection ho with ho; subst ho
     refine ⟨.cells 155 [.d (.i .i64 0),.d (.i .i64 0),.nil],?_,by simp [-map_map,upd,aT,Γ0,]⟩
     rw [if_neg (by omega)]
     simp only
     rw [if_neg (by omega),if_neg (by omega),if_neg (by omega),if_neg (by omega),hH1]
     rfl
    ·split at ho
     ·rename_i e; subst e
      injection ho with ho; subst ho
      refine ⟨.cells 112 (hdr cols (i+1) 3),?_,eI.2 ⟨rfl,eR.2 ⟨rfl,fun k x y h1 h2=>?_⟩⟩⟩
      ·show Option.map (eE [2]) (if i+5=i+3+1+1 then some (HO.cells 112 (cells++[AV.own (i+3) 0 cols 2])) else _)=_
       rw [if_pos (by omega),bCn,hcl]
       simp only [Option.map_some,eE,List.map_append,List.map_cons,List.map_nil]
       have e1:cells.map (eJ [2])=cells:=by
        rw [← hcl]
        unfold hdr
        rw [List.map_map]
        apply List.map_congr_left
        intro j hj
        simp [eJ]
       rw [e1]
       simp [eJ]
      ·rw [h1] at h2; injection h2 with h2; subst h2
       have hk:k<i+1:=by have:=(List.getElem?_eq_some_iff.1 h1).1; rwa [cA] at this
       rw [dB hk] at h1; injection h1 with h1; subst h1
       exact ⟨by simp only; rw [if_neg (by omega)],rfl,rfl,rfl,hnj k hk⟩
     ·split at ho
      ·rename_i e2 e3
       injection ho with ho; subst ho
       refine ⟨.cells 69 (zr cols),?_,eI.2 ⟨rfl,bGa cols⟩⟩
       rw [if_neg e2]
       simp only
       rw [if_neg (by omega),if_neg e2,if_neg (by omega)]
       have ez:Option.map (eE [2]) (some (HO.cells 69 (zr cols)))=some (.cells 69 (zr cols)):=by
        simp only [Option.map_some,eE]
        congr 2
        unfold zr
        rw [List.map_flatten,List.map_replicate]; rfl
       by_cases e4:id=i+3
       ·rw [if_pos e4]; exact ez
       ·rw [if_neg e4,← hHg]
        unfold nwH
        rw [if_neg (by omega),if_neg (by omega),if_pos (by omega)]
        exact ez
      ·cases ho
   ·have k1:∀ id,(nwH cols (i+1) id).isSome=true→1≤id∧id<i+4:=fun id h=>by
     unfold nwH at h
     split at h
     ·omega
     ·split at h
      ·omega
      ·split at h
       ·omega
       ·cases h
    have b1:=k1 id h1
    have b2:=k1 id' h2
    have e':(if id=2 then i+5 else id)=(if id'=2 then i+5 else id'):=e
    split at e' <;> split at e' <;> omega
   ·simp only [nwH]
    rw [if_neg (by omega),if_neg (by omega),if_neg (by omega)]
  ·have q1:¬ (i:Int)<rows:=by omega
   have e:i=rows:=by omega
   subst e
   generalize hHg:nwH cols i=H at *
   simp [-map_map,-mapM_map,↓KW,q1,hH1,hH2]
   intro m hm0
   have hML:(mB cols (List.replicate i (List.replicate cols (0:Int))) m).length=i+1:=by simp [bZ]
   have hin:∀ id,m≤id→id<m+(i+1)→(iT (nwV i cols) (mB cols (List.replicate i (List.replicate cols 0))) m).H id=(mB cols (List.replicate i (List.replicate cols 0)) m)[id - m]? := fun id h1 h2=>by
    simp only [iT,hJ]
    rw [if_pos ⟨h1,by rw [hML]; exact h2⟩]
   have hout:∀ id,¬ (m≤id∧id<m+(i+1))→(iT (nwV i cols) (mB cols (List.replicate i (List.replicate cols 0))) m).H id=none:=fun id h=>by
    simp only [iT,hJ]
    rw [if_neg (by rw [hML]; exact h)]
   have hsome:∀ id,((iT (nwV i cols) (mB cols (List.replicate i (List.replicate cols 0))) m).H id).isSome=true→m≤id∧id<m+(i+1):=fun id h=>by
    by_cases hr:m≤id∧id<m+(i+1)
    ·exact hr
    ·rw [hout id hr] at h; cases h
   have hS0:((iT (nwV i cols) (mB cols (List.replicate i (List.replicate cols 0))) m).H m).isSome=true:=by
    rw [hin m (Nat.le_refl _) (by omega),Nat.sub_self]; rfl
   have hSj:∀ j,j<i→(iT (nwV i cols) (mB cols (List.replicate i (List.replicate cols 0))) m).H (j+(m+1))=some (xH (List.replicate cols 0)):=fun j hj=>by
    rw [hin _ (by omega) (by omega),show j+(m+1) - m=j+1 by omega]
    simp only [mB,List.getElem?_cons_succ,List.map_replicate,List.getElem?_replicate,if_pos hj]
   refine ⟨fun id=>id - m+2,fun id hid=>hout id (by simp only [iT] at hid; rw [hML] at hid; omega),fun t=>?_,fun id o' ho=>?_,fun id id' h1 h2 e=>?_,fun h=>?_,fun h=>?_⟩
   ·show Sub _ _ _ _ (upd (fun _=>.any) 0 (nwV i cols m) t)
    by_cases e:t=0
    ·subst e
     simp only [cZ,nwV]
     refine ⟨rfl,fun k c d h1 h2=>?_⟩
     rcases k with _ | _ | _ | k
     ·simp at h1 h2; subst h1; subst h2; exact (jE _ _).2 rfl
     ·simp at h1 h2; subst h1; subst h2; exact (jE _ _).2 rfl
     ·simp at h1 h2; subst h1; subst h2
      exact ⟨by simp,rfl,rfl,rfl,hS0⟩
     ·simp at h1
    ·rw [dF _ _ e]; exact oJ _
   ·have hr:=hsome id (by rw [ho]; rfl)
    rw [hin id hr.1 hr.2] at ho
    simp only
    obtain ⟨j,rfl⟩:∃ j,id=m+j:=⟨id - m,by omega⟩
    rw [show m+j - m=j by omega] at ho ⊢
    rcases j with _ | j
    ·simp only [mB,List.getElem?_cons_zero,List.length_replicate] at ho
     injection ho with ho; subst ho
     refine ⟨.cells 112 (hdr cols i 3),by simp only [upd]; rw [if_neg (by omega)]; exact hH2,eI.2 ⟨rfl,eR.2 ⟨by rw [cA,cA],fun k c d h1 h2=>?_⟩⟩⟩
     have hlt:k<i:=by have:=(List.getElem?_eq_some_iff.1 h1).1; rwa [cA] at this
     rw [dB hlt] at h1 h2
     injection h1 with h1; injection h2 with h2; subst h1; subst h2
     exact ⟨by show k+3=k+(m+1) - m+2; omega,rfl,rfl,rfl,by rw [hSj k hlt]; rfl⟩
    ·have hlt:j<i:=by omega
     simp only [mB,List.getElem?_cons_succ,List.map_replicate,List.getElem?_replicate,if_pos hlt] at ho
     injection ho with ho; subst ho
     refine ⟨.cells 69 (zr cols),?_,eI.2 ⟨rfl,aMe cols⟩⟩
     simp only [upd]
     rw [if_neg (by omega),← hHg]
     unfold nwH
     rw [if_neg (by omega),if_neg (by omega),if_pos (by omega)]
   ·have q1':=hsome id h1
    have q2':=hsome id' h2
    have e':id - m+2=id' - m+2:=e
    omega
   ·have:=hsome 0 h; omega
   ·simp only [iT] at h; omega
end Go.Am
end

section
set_option linter.unusedVariables false
set_option linter.unusedSimpArgs false
open Go Go.Am Go.Proofs
namespace Go.Am
/-! Matrices by their entries -/
structure Sh (R c:Nat) (M:List (List Int)):Prop where
 len:M.length=R
 row:∀ v∈M,v.length=c
def ent (M:List (List Int)) (r s:Nat):Int:=(M.getD r []).getD s 0
def mk (R c:Nat) (f:Nat→Nat→Int):List (List Int):=(List.range R).map fun r=>(List.range c).map fun s=>f r s
theorem Sh.get {R c r:Nat} {M:List (List Int)} (h:Sh R c M) (hr:r<R):∃ v,M[r]? = some v∧v.length=c∧∀ s,v.getD s 0=ent M r s:=by
 have hl:r<M.length:=by rw [h.len]; exact hr
 refine ⟨M[r],List.getElem?_eq_getElem hl,h.row _ (List.getElem_mem hl),fun s=>?_⟩
 unfold ent
 rw [List.getD_eq_getElem?_getD (l:=M),List.getElem?_eq_getElem hl]; rfl
theorem gX (R c:Nat) (f:Nat→Nat→Int):Sh R c (mk R c f):=⟨by simp [mk],fun v hv=>by obtain ⟨r,_,rfl⟩:=List.mem_map.1 hv; simp⟩
theorem oU {R c r s:Nat} (f:Nat→Nat→Int) (hr:r<R) (hs:s<c):ent (mk R c f) r s=f r s:=by
 unfold ent mk
 rw [List.getD_eq_getElem?_getD (l:=List.map _ _),List.getElem?_map,List.getElem?_range hr]
 simp only [Option.map_some,Option.getD_some]
 rw [List.getD_eq_getElem?_getD,List.getElem?_map,List.getElem?_range hs]; rfl
theorem bIv {R c:Nat} {M M':List (List Int)} (h:Sh R c M) (h':Sh R c M') (he:∀ r s,r<R→s<c→ent M r s=ent M' r s):M=M':=by
 refine List.ext_getElem (by rw [h.len,h'.len]) fun r h1 h2=>?_
 have hr:r<R:=by rw [← h.len]; exact h1
 refine List.ext_getElem (by rw [h.row _ (List.getElem_mem h1),h'.row _ (List.getElem_mem h2)]) fun s g1 g2=>?_
 have hs:s<c:=by rw [← h.row _ (List.getElem_mem h1)]; exact g1
 have:=he r s hr hs
 unfold ent at this
 rw [List.getD_eq_getElem?_getD (l:=M),List.getElem?_eq_getElem h1,List.getD_eq_getElem?_getD (l:=M'),List.getElem?_eq_getElem h2] at this
 simp only [Option.getD_some] at this
 rw [List.getD_eq_getElem?_getD,List.getElem?_eq_getElem g1,List.getD_eq_getElem?_getD,List.getElem?_eq_getElem g2] at this
 exact this
theorem uK {R c:Nat} {M:List (List Int)} (h:Sh R c M) {r s:Nat} (hr:¬ (r<R∧s<c)):ent M r s=0:=by
 unfold ent
 by_cases h1:r<R
 ·obtain ⟨v,hv,hl,_⟩:=h.get h1
  rw [List.getD_eq_getElem?_getD (l:=M),hv]
  simp only [Option.getD_some]
  rw [List.getD_eq_getElem?_getD,List.getElem?_eq_none (by omega)]; rfl
 ·rw [List.getD_eq_getElem?_getD (l:=M),List.getElem?_eq_none (by rw [h.len]; omega)]; rfl
theorem bNs {R c i:Nat} {M:List (List Int)} (h:Sh R c M) {v:List Int} (hv:v.length=c):Sh R c (M.set i v) :=
 ⟨by rw [List.length_set,h.len],fun w hw=>(List.mem_or_eq_of_mem_set hw).elim (h.row w) fun e=>e ▸ hv⟩
theorem kZ {R c i j:Nat} {M:List (List Int)} (h:Sh R c M) {v:List Int} {z:Int} (hi:i<R) (hj:j<c) (hv:M[i]? = some v) (r s:Nat):ent (M.set i (v.set j z)) r s=if r=i∧s=j then z else ent M r s:=by
 have hl:i<M.length:=by rw [h.len]; exact hi
 have hvl:v.length=c:=h.row v (List.mem_of_getElem? hv)
 unfold ent
 rw [List.getD_eq_getElem?_getD (l:=M.set i _),List.getElem?_set]
 by_cases e:r=i
 ·subst e
  rw [if_pos rfl,if_pos hl,List.getD_eq_getElem?_getD (l:=M),hv]
  simp only [Option.getD_some,true_and]
  rw [List.getD_eq_getElem?_getD,List.getElem?_set]
  by_cases e2:s=j
  ·subst e2; rw [if_pos rfl,if_pos (by omega),if_pos rfl]; rfl
  ·rw [if_neg (fun h=>e2 h.symm),if_neg e2,List.getD_eq_getElem?_getD]
 ·rw [if_neg (fun h=>e h.symm),if_neg (fun h=>e h.1),List.getD_eq_getElem?_getD (l:=M)]
theorem fX {R c i j:Nat} {M:List (List Int)} (h:Sh R c M) {v:List Int} {z:Int} (hv:M[i]? = some v):Sh R c (M.set i (v.set j z)) :=
 bNs h (by rw [List.length_set]; exact h.row v (List.mem_of_getElem? hv))
theorem pL {R c:Nat} {M:List (List Int)} (h:Sh R c M) {f:Nat→Nat→Int} (he:∀ r s,r<R→s<c→ent M r s=f r s):M=mk R c f :=
 bIv h (gX R c f) fun r s hr hs=>by rw [he r s hr hs,oU f hr hs]
/-! Heaps -/
def fY (b:Nat) (l:List HO):Nat→Option HO:=fun id=>if id<b then none else l[id - b]?
theorem kC {b i:Nat} {l:List HO}:fY b l (i+b)=l[i]? := by unfold fY; rw [if_neg (by omega),Nat.add_sub_cancel]
theorem uH {b:Nat} {l:List HO} {id:Nat} (h:l.length+b≤id):fY b l id=none:=by
 unfold fY; rw [if_neg (by omega),List.getElem?_eq_none (by omega)]
theorem jP {b:Nat} {l:List HO} {id:Nat} (h1:b≤id) (h2:id<l.length+b):(fY b l id).isSome=true:=by
 unfold fY; rw [if_neg (by omega),List.getElem?_eq_getElem (by omega)]; rfl
theorem aGk {b:Nat} {l:List HO} {id:Nat} (h:(fY b l id).isSome=true):b≤id∧id<l.length+b:=by
 unfold fY at h
 split at h
 ·cases h
 ·rcases Nat.lt_or_ge (id - b) l.length with h' | h'
  ·omega
  ·rw [List.getElem?_eq_none h'] at h; cases h
def rfC (a n:Nat):AV→Bool
 | .d _ | .nil=>true
 | .own id _ _ _=>decide (a≤id∧id<n)
 | .ptr id _=>decide (a≤id∧id<n)
 | _=>false
def rfO (a n:Nat):HO→Bool
 | .cells _ cs=>cs.all (rfC a n)
 | _=>false
theorem bHg {H H':Nat→Option HO} {ρ:Nat→Nat} {a n:Nat} {c:AV} (hc:rfC a n c=true) (h:∀ id,a≤id→id<n→id=ρ id∧(H' id).isSome=true):mO H H' ρ c c:=by
 unfold rfC at hc
 split at hc
 ·exact (jE _ _).2 rfl
 ·trivial
 ·simp only [decide_eq_true_eq] at hc
  obtain ⟨h1,h2⟩:=h _ hc.1 hc.2
  exact ⟨h1,rfl,rfl,rfl,h2⟩
 ·simp only [decide_eq_true_eq] at hc
  obtain ⟨h1,h2⟩:=h _ hc.1 hc.2
  exact ⟨h1,rfl,h2⟩
 ·cases hc
theorem xU {H H':Nat→Option HO} {ρ:Nat→Nat} {a n:Nat} {o:HO} (ho:rfO a n o=true) (h:∀ id,a≤id→id<n→id=ρ id∧(H' id).isSome=true):kU H H' ρ o o:=by
 cases o with
 | cells e cs =>
  refine eI.2 ⟨rfl,eR.2 ⟨rfl,fun k c d h1 h2=>?_⟩⟩
  rw [h1] at h2; injection h2 with h2; subst h2
  exact bHg (List.all_eq_true.1 ho c (List.mem_of_getElem? h1)) h
 | map k es=>cases ho
 | iter _ _ _=>cases ho
theorem bHf (a n:Nat) (v:List Int):rfO a n (xH v)=true:=by
 unfold rfO xH
 refine List.all_eq_true.2 fun c hc=>?_
 obtain ⟨x,_,rfl⟩:=List.mem_map.1 hc; rfl
theorem sO {a n c m:Nat} {M:List (List Int)} (h1:a≤m+1) (h2:m+1+M.length≤n):∀ o∈mB c M m,rfO a n o=true:=by
 intro o ho
 rcases List.mem_cons.1 ho with rfl | ho
 ·refine List.all_eq_true.2 fun x hx=>?_
  obtain ⟨j,hj,rfl⟩:=List.mem_map.1 hx
  have:=List.mem_range.1 hj
  simp only [rfC,decide_eq_true_eq]; omega
 ·obtain ⟨v,_,rfl⟩:=List.mem_map.1 ho
  exact bHf _ _ _
theorem zG {a n a' n':Nat} (h1:a'≤a) (h2:n≤n') {o:HO} (ho:rfO a n o=true):rfO a' n' o=true:=by
 cases o with
 | map _ _=>cases ho
 | iter _ _ _=>cases ho
 | cells e cs =>
  refine List.all_eq_true.2 fun c hc=>?_
  have:=List.all_eq_true.1 ho c hc
  cases c <;> first | rfl | (cases this; done) | (simp only [rfC,decide_eq_true_eq] at this ⊢; omega)
theorem aAq {H:Nat→Option HO} {b:Nat} {l:List HO} (h:∀ o∈l,rfO b (l.length+b) o=true) {id:Nat} {o:HO} (ho:fY b l id=some o):kU H (fY b l) (fun i=>i) o o:=by
 refine xU (h o ?_) fun id h1 h2=>⟨rfl,jP h1 h2⟩
 unfold fY at ho
 split at ho
 ·cases ho
 ·exact List.mem_of_getElem? ho
theorem uG {b c m:Nat} {pre post:List HO} {M:List (List Int)} (hm:m=pre.length+b):fY b (pre++mB c M m++post) m=some (.cells 112 (hdr c M.length (m+1))):=by
 subst hm
 rw [kC,List.append_assoc,List.getElem?_append_right (Nat.le_refl _),Nat.sub_self]; rfl
theorem rO {b c m j:Nat} {pre post:List HO} {M:List (List Int)} {v:List Int} (hm:m=pre.length+b) (hv:M[j]? = some v):fY b (pre++mB c M m++post) (j+(m+1))=some (xH v):=by
 have hj:=(List.getElem?_eq_some_iff.1 hv).1
 rw [show j+(m+1)=(j+1+pre.length)+b by omega,kC,List.append_assoc,List.getElem?_append_right (by omega),Nat.add_sub_cancel,List.getElem?_append_left (by rw [bZ]; omega)]
 simp only [mB,List.getElem?_cons_succ,List.getElem?_map,hv,Option.map_some]
theorem bKe {b c m i:Nat} {pre post:List HO} {M:List (List Int)} {v:List Int} (hm:m=pre.length+b) (hi:i<M.length) (id:Nat) :
  fY b (pre++mB c (M.set i v) m++post) id=if id=i+(m+1) then some (xH v) else fY b (pre++mB c M m++post) id:=by
 by_cases e:id=i+(m+1)
 ·rw [if_pos e,e]
  exact rO hm (List.getElem?_set_self hi)
 ·rw [if_neg e]
  unfold fY
  by_cases h0:id<b
  ·rw [if_pos h0,if_pos h0]
  ·rw [if_neg h0,if_neg h0]
   have hl:(mB c (M.set i v) m).length=(mB c M m).length:=by rw [bZ,bZ,List.length_set]
   rw [List.append_assoc,List.append_assoc]
   rcases Nat.lt_or_ge (id - b) pre.length with h1 | h1
   ·rw [List.getElem?_append_left h1,List.getElem?_append_left h1]
   ·rw [List.getElem?_append_right h1,List.getElem?_append_right h1]
    rcases Nat.lt_or_ge (id - b - pre.length) (mB c M m).length with h2 | h2
    ·rw [List.getElem?_append_left (by omega),List.getElem?_append_left h2]
     generalize hk:id - b - pre.length=k at *
     rcases k with _ | k
     ·simp [mB]
     ·simp only [mB,List.getElem?_cons_succ,List.getElem?_map]
      rw [List.getElem?_set_ne (by omega)]
    ·rw [List.getElem?_append_right (by omega),List.getElem?_append_right h2,hl]
theorem rP {c m:Nat} {pre post:List HO} {M:List (List Int)}:(pre++mB c M m++post).length=pre.length+M.length+1+post.length:=by
 rw [List.length_append,List.length_append,bZ]; omega
theorem jZ {v:List Int} {j:Nat} (z:Int) (hj:j<v.length):lay ((vcs v).map AV.d) (j * 2) [.d (.b (decide (z<0))),.d (aG (aW z.natAbs))]=(vcs (v.set j z)).map .d:=by
 rw [← aQa _ hj]
 simp [lay,sT]
theorem tA {b c m i:Nat} {pre post:List HO} {M:List (List Int)} {v:List Int} (hm:m=pre.length+b) (hi:i<M.length) :
  upd (fY b (pre++mB c M m++post)) (i+(m+1)) (some (xH v))=fY b (pre++mB c (M.set i v) m++post):=by
 funext id
 rw [bKe hm hi]
 rfl
theorem yI {b n:Nat} {pre l:List HO} (h:n=pre.length+b):hJ (fY b pre) n l=fY b (pre++l):=by
 funext id
 subst h
 unfold hJ fY
 by_cases h0:id<b
 ·rw [if_neg (by omega),if_pos h0,if_pos h0]
 ·rw [if_neg h0]
  by_cases h1:pre.length+b≤id∧id<pre.length+b+l.length
  ·rw [if_pos h1,if_neg h0,List.getElem?_append_right (by omega),show id - b - pre.length=id - (pre.length+b) by omega]
  ·rw [if_neg h1,if_neg h0]
   rcases Nat.lt_or_ge (id - b) pre.length with h2 | h2
   ·rw [List.getElem?_append_left h2]
   ·rw [List.getElem?_eq_none h2,List.getElem?_append_right h2,List.getElem?_eq_none (by omega)]
theorem oD {b n:Nat} {l:List HO} {p:HO} (h:n=l.length+b):upd (fY b l) n (some p)=fY b (l++[p]):=by
 rw [← yI h]
 funext id
 unfold upd hJ
 simp only [List.length_singleton]
 by_cases e:id=n
 ·subst e; rw [if_pos rfl,if_pos (by omega),Nat.sub_self]; rfl
 ·rw [if_neg e,if_neg (by omega)]
theorem bKf (b:Nat):(fun _=>none:Nat→Option HO)=fY b []:=by
 funext id; unfold fY; split <;> rfl
theorem aCu {H:Nat→Option HO} {n:Nat} {a a':Option HO}:upd (upd H n a) n a'=upd H n a':=by
 funext id; unfold upd; split <;> rfl
theorem aSd (a:HO):upd (fun _=>none) 1 (some a)=fY 1 [a]:=by rw [bKf 1]; exact oD rfl
theorem aSc (a b:HO):upd (upd (fun _=>none) 1 (some a)) 2 (some b)=fY 1 [a,b]:=by rw [aSd]; exact oD rfl
theorem aVs (a b c:HO):upd (upd (upd (fun _=>none) 1 (some a)) 2 (some b)) 3 (some c)=fY 1 [a,b,c]:=by rw [aSc]; exact oD rfl
theorem aAr {b c m n:Nat} {pre:List HO} {M:List (List Int)} {p:HO} (hn:n=pre.length+b+(M.length+1)):fY b (pre++mB c M m++[p]) n=some p:=by
 subst hn
 rw [show pre.length+b+(M.length+1)=(pre.length+M.length+1)+b by omega,kC,List.getElem?_append_right (by rw [List.length_append,bZ]; omega),List.length_append,bZ,
  show pre.length+M.length+1 - (pre.length+(M.length+1))=0 by omega]; rfl
end Go.Am
end

section
set_option linter.unusedVariables false
set_option linter.unusedSimpArgs false
open List (map_map mapM_map)
open Go Go.Am Go.Proofs
namespace Go.Am
theorem aTf {u:Nat} (hu:u<18446744073709551616):∃ lo hi:Nat,Lim [lo,hi]∧val [lo,hi]=u∧IntKind.u32.wrap (u:Int)=lo∧jF .shr .u64 (u:Int) 32=some (.i .u64 hi)∧IntKind.u32.wrap (hi:Int)=hi:=by
 refine ⟨u % 4294967296,u / 4294967296,.cons (by omega) (.one (by omega)),by simp only [val]; omega,by rw [gR]; omega,?_,by rw [iR (by omega) (by omega)]⟩
 simp only [jF,IntKind.bits]
 rw [if_neg (by decide)]
 congr 2
 rw [show (2:Int) ^ (min (32:Int).toNat 64)=4294967296 from by decide,Int.fdiv_eq_ediv_of_nonneg _ (by decide)]
 omega
theorem yU {l:List Nat} {n:Nat} (hn:l.length=n+1):val l=val (l.take n)+4294967296 ^ n * l.getD n 0:=by
 rw [← dD,List.take_of_length_le (by omega)]
theorem aXh {l:List Nat} {n:Nat} (hn:l.length=n+2):val l=val (l.take n)+4294967296 ^ n * (l.getD (n+1) 0 * 4294967296+l.getD n 0):=by
 rw [yU hn,dD,Nat.pow_succ,Nat.mul_add,Nat.mul_assoc,Nat.mul_comm 4294967296]; omega
theorem aMj {l:List Nat} {n:Nat} (h:Lim l) (hn:l.length=n+1):val l<4294967296 ^ n * (l.getD n 0+1):=by
 have h1:=pU (h.take n)
 rw [List.length_take,Nat.min_eq_left (by omega)] at h1
 rw [yU hn,Nat.mul_add,Nat.mul_one]; omega
theorem bDf {p q e low t D R:Nat} (hD:D≤q * low) (he:e * low≤t) (hR:p * q * t≤R):p * e * D≤R:=by
 refine Nat.le_trans (Nat.mul_le_mul_left _ hD) (Nat.le_trans ?_ hR)
 have:p * e * (q * low)=p * q * (e * low):=by
  rw [Nat.mul_assoc,Nat.mul_assoc,Nat.mul_left_comm e]
 rw [this]; exact Nat.mul_le_mul_left _ he
theorem aVd {a b:List Nat} (hb:Lim b) (hc:mP a) (hla:Lim a) (h:val a≤val b):a.length≤b.length:=by
 have e1:=bDp hla hc
 rw [← e1]
 exact eQ (Nat.lt_of_le_of_lt h (pU hb))
set_option maxRecDepth 10000 in
theorem aIy (r d:List Nat) (hr:Lim r) (hd:Lim d) (hcr:mP r) (hcd:mP d) (hd0:d≠[]) (hle:val d≤val r) (hl:r.length≤137438953472) :
  ∃ e:Nat,0<e∧e * val d≤val r∧Spec Tryz.prog 196 [aG r,aG d] (encZ e):=by
 have hlen:=aVd hr hcd hd hle
 have hdl:0<d.length:=List.length_pos_iff.2 hd0
 obtain ⟨m,hm⟩:∃ m,d.length=m+1:=⟨d.length - 1,by omega⟩
 obtain ⟨k,hk⟩:∃ k,r.length=k+(m+1):=⟨r.length - d.length,by omega⟩
 have gd:=getD_some (l:=d) (i:=m) (by omega)
 have gr:=getD_some (l:=r) (i:=k+m) (by omega)
 have hdm:=hd.getD m
 have hrm:=hr.getD (k+m)
 have hdv:=Nat.le_of_lt (aMj hd hm)
 have hrtop:0<r.getD (k+m) 0:=by
  have h1:r.getLast? = some (r.getD (k+m) 0):=by rw [List.getLast?_eq_getElem?,show r.length - 1=k+m by omega]; exact gr
  have h2:r.getLast? ≠ some 0:=hcr
  rw [h1] at h2
  rcases Nat.eq_zero_or_pos (r.getD (k+m) 0) with h | h
  ·rw [h] at h2; exact absurd rfl h2
  ·exact h
 generalize hdt:d.getD m 0=dt at *
 obtain ⟨low,hlow⟩:∃ low,dt+1=low:=⟨_,rfl⟩
 rw [hlow] at hdv
 have c1:IntKind.i64.wrap ((r.length:Int) - d.length)=(k:Int):=by rw [aS (by omega) (by omega)]; omega
 have c2:IntKind.i64.wrap ((d.length:Int) - 1)=(m:Int):=by rw [aS (by omega) (by omega)]; omega
 have c3:IntKind.u64.wrap (dt:Int)=dt:=bL (by omega) (by omega)
 have c4:IntKind.u64.wrap ((dt:Int)+1)=low:=by rw [bL (by omega) (by omega)]; omega
 have c5:IntKind.i64.wrap ((r.length:Int) - 1)=((k+m:Nat):Int):=by rw [aS (by omega) (by omega)]; omega
 have c6:¬ low=0:=by omega
 by_cases hk0:k=0
 ·subst hk0
  rw [Nat.zero_add] at gr hrm hrtop hk
  rw [show ((0+m:Nat):Int)=(m:Int) by omega] at c5
  have hv1:4294967296 ^ m * r.getD m 0≤val r:=by rw [yU hk]; omega
  generalize r.getD m 0=rt at *
  obtain ⟨e0,he0⟩:∃ e0,rt / low=e0:=⟨_,rfl⟩
  have he0':e0 * low≤rt:=by rw [← he0]; exact Nat.div_mul_le_self _ _
  have he0l:e0≤rt:=by rw [← he0]; exact Nat.div_le_self _ _
  have c7:IntKind.u64.wrap (rt:Int)=rt:=bL (by omega) (by omega)
  have c8:IntKind.u64.wrap ((rt:Int) / low)=e0:=by rw [← Int.natCast_ediv,he0,bL (by omega) (by omega)]
  obtain ⟨e,he⟩:∃ e:Nat,max 1 e0=e:=⟨_,rfl⟩
  have c9:IntKind.i64.wrap (e:Int)=e:=aS (by omega) (by omega)
  refine ⟨e,by omega,?_,?_⟩
  ·by_cases h1:e0≤1
   ·have:e=1:=by omega
    rw [this,Nat.one_mul]; exact hle
   ·have:e=e0:=by omega
    rw [this]
    have:=bDf (p:=1) hdv he0' (by rw [Nat.one_mul]; exact hv1)
    rwa [Nat.one_mul] at this
  ·refine aX (N:=66) aF Tryz.func196 rfl rfl rfl (by kernel_rfl) (by kernel_rfl) (by simp) ?_
   simp [-map_map,-mapM_map,↓KW,aG,c1,c2,c3,c4,c5,c6,c7,c8,gd,gr,hdt,c9]
   refine aA (ds:=[.i .i64 e]) ?_ (wR e (by omega) (by omega)) ?_
   ·have he2:(if (1:Int)<(e0:Int) then (e0:Int) else 1)=e:=by split <;> omega
    simp [-map_map,-mapM_map,↓KW,he2,c9]
   ·simp [-map_map,-mapM_map,↓KW,aG,encZ,encI]
 ·obtain ⟨j,hj⟩:∃ j,k=j+1:=⟨k - 1,by omega⟩
  have hk2:r.length=(j+m)+2:=by omega
  have gs:=getD_some (l:=r) (i:=j+m) (by omega)
  have hrs:=hr.getD (j+m)
  have hv2:=aXh hk2
  rw [show j+m+1=k+m by omega] at hv2
  have c10:IntKind.i64.wrap ((r.length:Int) - 2)=((j+m:Nat):Int):=by rw [aS (by omega) (by omega)]; omega
  have c11:IntKind.i64.wrap ((k:Int) - 1)=(j:Int):=by rw [aS (by omega) (by omega)]; omega
  obtain ⟨n1,hn1⟩:∃ n1,k+m=n1:=⟨_,rfl⟩
  obtain ⟨n2,hn2⟩:∃ n2,j+m=n2:=⟨_,rfl⟩
  rw [hn1] at gr hrm hrtop c5 hv2
  rw [hn2] at gs hrs c10 hv2
  generalize r.getD n1 0=rt at *
  generalize r.getD n2 0=rs at *
  have c12:IntKind.u64.wrap (rt:Int)=rt:=bL (by omega) (by omega)
  have c13:IntKind.u64.wrap (rs:Int)=rs:=bL (by omega) (by omega)
  have c14:IntKind.u64.wrap ((rt:Int) * 4294967296)=(rt:Int) * 4294967296:=bL (by omega) (by omega)
  obtain ⟨t,ht⟩:∃ t,rt * 4294967296+rs=t:=⟨_,rfl⟩
  rw [ht] at hv2
  have c15:IntKind.u64.wrap ((rt:Int) * 4294967296+rs)=t:=by rw [bL (by omega) (by omega)]; omega
  obtain ⟨e,he⟩:∃ e,t / low=e:=⟨_,rfl⟩
  have he1:e * low≤t:=by rw [← he]; exact Nat.div_mul_le_self _ _
  have hel:e≤t:=by rw [← he]; exact Nat.div_le_self _ _
  have he0:0<e:=by rw [← he]; exact Nat.div_pos (by omega) (by omega)
  have c16:IntKind.u64.wrap ((t:Int) / low)=e:=by rw [← Int.natCast_ediv,he,bL (by omega) (by omega)]
  obtain ⟨lo,hi,k1,k2,e3,e4,e5⟩:=aTf (u:=e) (by omega)
  have hpow:4294967296 ^ j * 4294967296 ^ m=4294967296 ^ n2:=by rw [← Nat.pow_add,hn2]
  refine ⟨4294967296 ^ j * e,Nat.mul_pos (Nat.pow_pos (by decide)) he0,bDf hdv he1 (by rw [hpow]; omega),?_⟩
  have hlim:Lim (List.replicate j 0++[lo,hi]):=(Lim.rep j).app k1
  have hval:val (List.replicate j 0++[lo,hi])=4294967296 ^ j * e:=by rw [lM,xS,List.length_replicate,k2,Nat.zero_add]
  have hlen2:(List.replicate j 0++[lo,hi]).length=j+2:=by simp
  have hm2:=fN (List.replicate j 0++[lo,hi]) false (by rw [hlen2]; omega)
  rw [dV hlim,hval,show sg false (4294967296 ^ j * e)=((4294967296 ^ j * e:Nat):Int) from rfl] at hm2
  have m1:(4:Int) * j≤281474976710656:=by omega
  have m2:(j:Int)≤9223372036854775807:=by omega
  have m3:(j+2) * 4≤140737488355328:=by omega
  have m4:j+2≤maxLen:=by unfold maxLen; omega
  have hrep:(List.map AV.d (lms (List.replicate j 0))).length=j:=by simp [kY]
  refine aX (N:=66) aF Tryz.func196 rfl rfl rfl (by kernel_rfl) (by kernel_rfl) (by simp) ?_
  generalize 4294967296 ^ j * e=res at *
  have hcells:List.map AV.d (lms (List.replicate j 0))++[AV.d (D.i .u32 (lo:Int)),AV.d (D.i .u32 (hi:Int))]=List.map AV.d (lms (List.replicate j 0++[lo,hi])):=by rw [fP,List.map_append]; rfl
  have hkk:((k:Int) == 0)=false:=by simp only [beq_eq_false_iff_ne,ne_eq]; omega
  simp [-map_map,-mapM_map,↓KW,aG,c1,c2,c3,c4,c5,c6,c10,c11,c12,c13,c14,c15,c16,gd,gr,gs,hdt,e3,e4,e5,hkk,m1,m2,m3,m4,hrep]
  rw [hcells]
  generalize List.replicate j 0++[lo,hi]=L at *
  refine aA (ds:=[aG L,.b false]) ?_ hm2 ?_
  ·simp [-map_map,-mapM_map,↓KW,aG,hlen2,fL hlen2,dZ hlen2]
  ·simp [-map_map,-mapM_map,↓KW,aG,encZ,encI,hlen2,fL hlen2,dZ hlen2]
end Go.Am
end

section
set_option linter.unusedVariables false
set_option linter.unusedSimpArgs false
open List (map_map mapM_map)
open Go Go.Am Go.Proofs
namespace Go.Am
theorem kW (x:Int) (hx:(aW x.natAbs).length≤549755813888):Spec Tryz.prog 99 [encZ x] (encZ (-x)):=by
 refine aX (N:=9) aF Tryz.func99 rfl rfl rfl (by kernel_rfl) (by kernel_rfl) (by simp) ?_
 have la:=cC x.natAbs
 have va:=cR x.natAbs
 have sx:=gS x
 have ex:encZ x=.ag [.b (decide (x<0)),aG (aW x.natAbs)]:=rfl
 have hm:=fN (aW x.natAbs) (!decide (x<0)) (by omega)
 rw [dV la,va] at hm
 have e:sg (!decide (x<0)) x.natAbs=-x:=by
  unfold sg; by_cases h:x<0 <;> simp [h] <;> omega
 rw [e] at hm
 rw [ex]
 generalize aW x.natAbs=a at *
 generalize decide (x<0)=nx at *
 simp [-map_map,-mapM_map,↓KW,aG]
 refine aA (ds:=[aG a,.b (!nx)]) ?_ hm ?_
 ·cases nx <;> rfl
 ·simp [-map_map,-mapM_map,↓KW,aG,encZ,encI]
theorem aFq (x y:Int) (hx:(aW x.natAbs).length≤549755813888) (hy:(aW y.natAbs).length≤549755813888):Spec Tryz.prog 145 [encZ x,encZ y] (encZ (x - y)):=by
 refine aX (N:=9) aF Tryz.func145 rfl rfl rfl (by kernel_rfl) (by kernel_rfl) (by simp) ?_
 have h1:=kW y hy
 have h2:=oP x (-y) hx (by rw [Int.natAbs_neg]; exact hy)
 rw [← Int.sub_eq_add_neg] at h2
 simp [-map_map,-mapM_map,↓KW,encZ,encI,aG]
 refine aA (ds:=[encZ y]) (by rfl) h1 ?_
 simp [-map_map,-mapM_map,↓KW,encZ,encI,aG]
 refine aA (ds:=[encZ x,encZ (-y)]) ?_ h2 ?_
 ·simp [-map_map,-mapM_map,↓KW,encZ,encI,aG]
 ·simp [-map_map,-mapM_map,↓KW,encZ,encI,aG]
end Go.Am
end

section
set_option linter.unusedVariables false
set_option linter.unusedSimpArgs false
open List (map_map mapM_map)
open Go Go.Am Go.Proofs
namespace Go.Am
theorem aVw {x y c q r:Nat} (hc:0<c) (hy:0<y) (h:q * (y * c)+r=x * c) (hr:r<y * c):q=x / y∧r / c=x % y:=by
 have hq:x * c / (y * c)=q:=by
  have:=(Nat.div_mod_unique (Nat.mul_pos hy hc) (a:=x * c) (d:=q) (c:=r)).2 ⟨by rw [Nat.mul_comm (y * c)]; omega,hr⟩
  exact this.1
 rw [Nat.mul_div_mul_right _ _ hc] at hq
 refine ⟨hq.symm,?_⟩
 have h2:r=x % y * c:=by
  have h3:=Nat.div_add_mod x y
  rw [hq] at h3
  have h4:(y * q+x % y) * c=x * c:=by rw [h3]
  rw [Nat.add_mul] at h4
  have h5:y * q * c=q * (y * c):=by rw [Nat.mul_comm y,Nat.mul_assoc]
  omega
 rw [h2,Nat.mul_div_cancel _ hc]
theorem bDq {n:Nat} (h:0<n) (h2:n<4294967296):aW n=[n]:=by
 rw [iH (by omega),Nat.mod_eq_of_lt h2,Nat.div_eq_of_lt h2,cK]
theorem bDl {dt c:Nat} (htop:0<dt) (hs:dt * c<4294967296):∃ t,dt * c=t∧c≤t∧t<4294967296∧(t<2147483648→dt * (2 * c)<4294967296) :=
 ⟨_,rfl,Nat.le_mul_of_pos_left _ htop,hs,fun h=>by rw [Nat.mul_left_comm]; omega⟩
def zq (q:Nat):AV:=if q=0 then .nil else .d (aG (aW q))
theorem uM {x c n:Nat} (h1:(aW x).length≤n) (h2:c<4294967296):(aW (x * c)).length≤n+1 :=
 eQ (by rw [Nat.pow_succ]; exact Nat.mul_lt_mul'' (fG h1) h2)
theorem bFf {x c X:Nat} (h:x+c=X) (h1:(aW (x:Int).natAbs).length≤549755813888) (h2:(aW (c:Int).natAbs).length≤549755813888):Spec Tryz.prog 77 [encZ (x:Int),encZ (c:Int)] (encZ (X:Int)):=by
 have:=oP (x:Int) (c:Int) h1 h2
 rwa [← Int.natCast_add,h] at this
theorem aXo {x c X:Nat} (h:x=X+c) (h1:(aW (x:Int).natAbs).length≤549755813888) (h2:(aW (c:Int).natAbs).length≤549755813888):Spec Tryz.prog 145 [encZ (x:Int),encZ (c:Int)] (encZ (X:Int)):=by
 have:=aFq (x:Int) (c:Int) h1 h2
 rwa [show (x:Int) - c=X by omega] at this
theorem bDn {q Y r X e E r':Nat} (hp:q * Y+r=X) (hE:e * Y=E) (hr:r=r'+E) (he:0<e) (hY:0<Y):(q+e) * Y+r'=X∧r'<r∧q+e≤X∧E≤X:=by
 have h1:(q+e) * Y+r'=X:=by rw [Nat.add_mul,hE]; omega
 have h2:0<E:=by rw [← hE]; exact Nat.mul_pos he hY
 have h3:q+e≤(q+e) * Y:=Nat.le_mul_of_pos_right _ hY
 exact ⟨h1,by omega,by omega,by omega⟩
theorem bBh {c:Nat} (h:c<4294967296):(aW (c:Int).natAbs).length≤1:=eQ (by simpa using h)
theorem zS {x c X:Nat} (h:x * c=X) (h1:(aW (x:Int).natAbs).length≤137438953472) (h2:(aW (c:Int).natAbs).length≤137438953472):Spec Tryz.prog 76 [encZ (x:Int),encZ (c:Int)] (encZ (X:Int)):=by
 have:=mX (x:Int) (c:Int) h1 h2
 rwa [← Int.natCast_mul,h] at this
theorem bBa (n:Nat) (hn:n<4294967296):Spec Tryz.prog 78 [aG [n],.b false] (encZ (n:Int)):=by
 have hm:=fN [n] false (by simp)
 rw [dV (.one hn)] at hm
 simpa [val,sg] using hm
set_option maxRecDepth 10000 in
theorem aUd (x y qq rr:Nat) (hqq:x / y=qq) (hrr:x % y=rr) (hy:0<y) (hlx:(aW x).length≤34359738368) (hly:(aW y).length≤34359738368):Spec Tryz.prog 185 [aG (aW x),aG (aW y)] (.tp [encZ (qq:Int),encZ (rr:Int)]):=by
 refine aX (N:=86) aF Tryz.func185 rfl rfl rfl (by kernel_rfl) (by kernel_rfl) (by simp) ?_
 have lx:=cC x
 have ly:=cC y
 have vx:=cR x
 have vy:=cR y
 have cy:=mM y
 have hne:aW y≠[]:=fun h=>by rw [fU] at h; omega
 have hyl:0<(aW y).length:=List.length_pos_iff.2 hne
 have hmx:∀ n:Nat,n<4294967296→Spec Tryz.prog 78 [aG [n],.b false] (encZ (n:Int)):=fun n hn=>by
  have hm:=fN [n] false (by simp)
  rw [dV (.one hn)] at hm
  simpa [val,sg] using hm
 by_cases h1:(aW y).length=1
 ·obtain ⟨d,hd⟩:=List.length_eq_one_iff.1 h1
  have hdl:d<4294967296:=ly d (by rw [hd]; simp)
  have hdv:d=y:=by rw [hd] at vy; simpa [val] using vy
  have hs:=aIw (aW x) d lx (by omega) hdl (by omega)
  obtain ⟨s1,s2,s3,_⟩:=aFm (a:=aW x) (d:=d) lx (by omega)
  have hm1:=fN (shQ (aW x) d) false (by omega)
  rw [dV s2,s3,vx,show sg false (x / d)=((x / d:Nat):Int) from rfl] at hm1
  have hm2:=hmx (val (aW x) % d) (by have:=Nat.mod_lt (val (aW x)) (show d > 0 by omega); omega)
  rw [hd]
  rw [vx,hdv,hrr] at hm2 hs
  rw [hdv,hqq] at hm1
  rw [hdv]
  generalize shQ (aW x) y=Q at *
  generalize aW x=a at *
  simp [-map_map,-mapM_map,↓KW,aG]
  refine aA (ds:=[aG a,.i .u32 y]) (by rfl) hs ?_
  simp [-map_map,-mapM_map,↓KW,aG]
  refine aA (ds:=[aG Q,.b false]) (by rfl) hm1 ?_
  simp [-map_map,-mapM_map,↓KW,aG]
  refine aA (ds:=[aG [rr],.b false]) ?_ hm2 ?_
  ·simp [-map_map,-mapM_map,↓KW,aG]
  simp [-map_map,-mapM_map,↓KW,aG,encZ,encI,mA]
 ·have hq1:(((aW y).length:Int) == 1)=false:=by simp only [beq_eq_false_iff_ne,ne_eq]; omega
  obtain ⟨m,hm⟩:∃ m,(aW y).length=m+1:=⟨(aW y).length - 1,by omega⟩
  have gd:=getD_some (l:=aW y) (i:=m) (by omega)
  have hdm:=ly.getD m
  have htop:0<(aW y).getD m 0:=by
   have h2:(aW y).getLast? ≠ some 0:=cy
   rw [List.getLast?_eq_getElem?,show (aW y).length - 1=m by omega,gd] at h2
   rcases Nat.eq_zero_or_pos ((aW y).getD m 0) with h | h
   ·rw [h] at h2; exact absurd rfl h2
   ·exact h
  generalize (aW y).getD m 0=dt at *
  have c2:IntKind.i64.wrap (((aW y).length:Int) - 1)=(m:Int):=by rw [aS (by omega) (by omega)]; omega
  have c3:IntKind.u64.wrap (dt:Int)=dt:=bL (by omega) (by omega)
  have hma:=fN (aW x) false (by omega)
  rw [dV lx,vx,show sg false x=(x:Int) from rfl] at hma
  have hmb:=fN (aW y) false (by omega)
  rw [dV ly,vy,show sg false y=(y:Int) from rfl] at hmb
  have hX:(aW (x:Int).natAbs).length≤34359738368:=hlx
  have hY:(aW (y:Int).natAbs).length≤34359738368:=hly
  generalize aW x=a at *
  generalize aW y=b at *
  clear hmx lx ly vx vy cy hne
  simp [-map_map,-mapM_map,↓KW,aG,hq1]
  refine aU (fun c:Nat=>0<c∧dt * c<4294967296)
   (fun c=>StL [(0,.d (aG a)),(1,.d (aG b)),(4,.ptr 1 0),(5,.ptr 2 0),(8,.d (.i .u32 (c:Int)))] none
    [.cells 69 [.d (.b false),.nil],.cells 69 [.d (.b false),.nil]]) (fun c=>4294967296 - c) 1 ⟨by decide,by omega⟩ ?_ ?_
  ·refine bB [1,2] (by simp) ?_ ?_ <;> simp [-map_map,upd,aT,Γ0,aG]
  ·intro c hs
   refine (bDl htop hs.2).elim fun t h5=>?_
   have hc0:=hs.1
   have ht:=h5.1
   have hcd:=h5.2.1
   have hs2:=h5.2.2.1
   have hdc:=h5.2.2.2
   have c4:IntKind.u64.wrap (c:Int)=c:=bL (by omega) (by omega)
   have c5:IntKind.u64.wrap ((dt:Int) * c)=t:=by rw [← Int.natCast_mul,ht,bL (by omega) (by omega)]
   by_cases hgo:t<2147483648
   ·have q1:(t:Int)<2147483648:=by omega
    have c6:IntKind.u32.wrap (2 * (c:Int))=2 * (c:Int):=iR (by omega) (by omega)
    simp [-map_map,-mapM_map,↓KW,aG,c2,c3,c4,c5,c6,gd,q1]
    refine aI (2 * c) ⟨by omega,hdc hgo⟩ ?_ (bB [1,2] (by simp) ?_ ?_)
    ·omega
    ·simp [-map_map,upd,aT,Γ0,aG]
    ·simp [-map_map,upd,aT,Γ0,aG]
   ·have q1:¬ (t:Int)<2147483648:=by omega
    have hc32:c<4294967296:=by omega
    have hmc:=bBa c hc32
    simp [-map_map,-mapM_map,↓KW,aG,c2,c3,c4,c5,gd,q1]
    refine aA (ds:=[aG [c],.b false]) ?_ hmc ?_
    ·simp [-map_map,-mapM_map,↓KW,aG]
    simp [-map_map,-mapM_map,↓KW,aG,encZ,encI]
    refine aA (ds:=[aG a,.b false]) (by rfl) hma ?_
    simp [-map_map,-mapM_map,↓KW,encZ,encI,aG]
    refine (⟨_,rfl⟩:∃ X,x * c=X).elim fun X hXe=>?_
    refine (⟨_,rfl⟩:∃ X,y * c=X).elim fun Y hYe=>?_
    have hC:=bBh hc32
    have hXl:(aW X).length≤34359738369:=by rw [← hXe]; exact uM hX hc32
    have hYl:(aW Y).length≤34359738369:=by rw [← hYe]; exact uM hY hc32
    have hY0:0<Y:=by rw [← hYe]; exact Nat.mul_pos hy hc0
    have hMx:=zS (X:=X) hXe (by omega) (by omega) (x:=x) (c:=c)
    have hMy:=zS (X:=Y) hYe (by omega) (by omega) (x:=y) (c:=c)
    refine aA (ds:=[encZ x,encZ c]) ?_ hMx ?_
    ·simp [-map_map,-mapM_map,↓KW,encZ,encI,aG]
    simp [-map_map,-mapM_map,↓KW,encZ,encI,aG]
    refine aA (ds:=[aG b,.b false]) (by rfl) hmb ?_
    simp [-map_map,-mapM_map,↓KW,encZ,encI,aG]
    refine aA (ds:=[encZ y,encZ c]) ?_ hMy ?_
    ·simp [-map_map,-mapM_map,↓KW,encZ,encI,aG]
    simp [-map_map,-mapM_map,↓KW,encZ,encI,aG]
    refine aU (fun p:Nat × Nat=>p.1 * Y+p.2=X)
     (fun p=>StL [(4,.ptr 1 0),(5,.ptr 2 0),(8,.d (.i .u32 (c:Int))),(10,.ptr 3 0),(11,.ptr 4 0),(12,.ptr 5 0)] none
      [.cells 69 [.d (.b false),.nil],.cells 69 [.d (.b false),.nil],.cells 69 [.d (.b false),.d (aG (aW p.2))],.cells 69 [.d (.b false),.d (aG (aW Y))],.cells 69 [.d (.b false),zq p.1]]) (fun p=>p.2) (0,X) (by simp) ?_ ?_
    ·refine bB [1,2,5,6,7] (by simp) ?_ ?_ <;> simp [-map_map,upd,aT,Γ0,aG,zq]
    ·intro p hp
     have hpX:p.2≤X:=by rw [← hp]; exact Nat.le_add_left _ _
     have hpl:=Nat.le_trans (dX hpX) hXl
     have hless:=xZ (aW p.2) (aW Y) (cC _) (cC _) (by omega) (by omega)
     rw [jG] at hless
     simp [-map_map,-mapM_map,↓KW,aG]
     refine aA (ds:=[aG (aW p.2),aG (aW Y)]) (by rfl) hless ?_
     by_cases hgo:p.2<Y
     ·simp [-map_map,-mapM_map,↓KW,hgo]
      have hsh:=aIw (aW p.2) c (cC _) hc0 hc32 (by omega)
      have hsv:=aFm (cC p.2) hc0
      have hmd:=fN (shQ (aW p.2) c) false (by have:=hsv.1; omega)
      have hfin:=aVw hc0 hy (x:=x) (q:=p.1) (r:=p.2) (by rw [hYe,hXe]; exact hp) (by rw [hYe]; exact hgo)
      rw [dV hsv.2.1,hsv.2.2.1,cR,hfin.2,hrr,show sg false rr=(rr:Int) from rfl] at hmd
      refine aA (ds:=[aG (aW p.2),.i .u32 c]) (by rfl) hsh ?_
      simp [-map_map,-mapM_map,↓KW,aG]
      refine aA (ds:=[aG (shQ (aW p.2) c),.b false]) (by rfl) hmd ?_
      have hq1:p.1=qq:=hfin.1.trans hqq
      rw [hq1]
      by_cases hq0:qq=0
      ·simp [-map_map,-mapM_map,↓KW,encZ,encI,aG,mA,zq,hq0,cK]
      ·simp [-map_map,-mapM_map,↓KW,encZ,encI,aG,mA,zq,hq0]
     ·simp [-map_map,-mapM_map,↓KW,hgo]
      refine (aIy (aW p.2) (aW Y) (cC _) (cC _) (mM _) (mM _) (fun h=>by rw [fU] at h; omega) (by rw [cR,cR]; omega) (by omega)).elim fun e he=>?_
      have he1:=he.2.1
      rw [cR,cR] at he1
      refine (⟨_,rfl⟩:∃ E,e * Y=E).elim fun E hE=>?_
      rw [hE] at he1
      refine (⟨_,rfl⟩:∃ F,p.2 - E=F).elim fun R' hR'=>?_
      have hR2:p.2=R'+E:=by omega
      have hst:=bDn hp hE hR2 he.1 hY0
      refine (⟨_,rfl⟩:∃ F,p.1+e=F).elim fun q' hq'=>?_
      rw [hq'] at hst
      have hel:(aW (e:Int).natAbs).length≤34359738369:=Nat.le_trans (dX (show e≤X by omega)) hXl
      have hqpl:(aW (p.1:Int).natAbs).length≤34359738369:=Nat.le_trans (dX (show p.1≤X by omega)) hXl
      have hEl:(aW (E:Int).natAbs).length≤34359738369:=Nat.le_trans (dX (show E≤X by omega)) hXl
      have hrl:(aW (p.2:Int).natAbs).length≤34359738369:=hpl
      have hYl2:(aW (Y:Int).natAbs).length≤34359738369:=hYl
      have hadd:=bFf hq' (by omega) (by omega)
      have hmul:=zS hE (by omega) (by omega)
      have hsub:=aXo hR2 (by omega) (by omega)
      by_cases hq0:p.1=0
      ·have hz:zq p.1=.nil:=if_pos hq0
       refine aA (ds:=[aG (aW p.2),aG (aW Y)]) (by rfl) he.2.2 ?_
       simp [-map_map,-mapM_map,↓KW,aG,encZ,encI,hz]
       refine aA (ds:=[encZ p.1,encZ e]) ?_ hadd ?_
       ·simp [-map_map,-mapM_map,↓KW,encZ,encI,aG,hq0,cK]
       simp [-map_map,-mapM_map,↓KW,aG,encZ,encI]
       refine aA (ds:=[encZ e,encZ Y]) ?_ hmul ?_
       ·simp [-map_map,-mapM_map,↓KW,encZ,encI,aG]
       simp [-map_map,-mapM_map,↓KW,aG,encZ,encI]
       refine aA (ds:=[encZ p.2,encZ E]) ?_ hsub ?_
       ·simp [-map_map,-mapM_map,↓KW,encZ,encI,aG]
       simp [-map_map,-mapM_map,↓KW,aG,encZ,encI]
       have hz2:zq q'=.d (aG (aW q')):=if_neg (by have:=he.1; omega)
       refine aI (q',R') hst.1 hst.2.1 (bB [1,2,3,4,5] (by simp) ?_ ?_)
       ·simp [-map_map,upd,aT,Γ0,aG,hz2]
       ·simp [-map_map,upd,aT,Γ0,aG,hz2]
      ·have hz:zq p.1=.d (aG (aW p.1)):=if_neg hq0
       refine aA (ds:=[aG (aW p.2),aG (aW Y)]) (by rfl) he.2.2 ?_
       simp [-map_map,-mapM_map,↓KW,aG,encZ,encI,hz]
       refine aA (ds:=[encZ p.1,encZ e]) ?_ hadd ?_
       ·simp [-map_map,-mapM_map,↓KW,encZ,encI,aG,hq0,cK]
       simp [-map_map,-mapM_map,↓KW,aG,encZ,encI]
       refine aA (ds:=[encZ e,encZ Y]) ?_ hmul ?_
       ·simp [-map_map,-mapM_map,↓KW,encZ,encI,aG]
       simp [-map_map,-mapM_map,↓KW,aG,encZ,encI]
       refine aA (ds:=[encZ p.2,encZ E]) ?_ hsub ?_
       ·simp [-map_map,-mapM_map,↓KW,encZ,encI,aG]
       simp [-map_map,-mapM_map,↓KW,aG,encZ,encI]
       have hz2:zq q'=.d (aG (aW q')):=if_neg (by have:=he.1; omega)
       refine aI (q',R') hst.1 hst.2.1 (bB [1,2,3,4,5] (by simp) ?_ ?_)
       ·simp [-map_map,upd,aT,Γ0,aG,hz2]
       ·simp [-map_map,upd,aT,Γ0,aG,hz2]
end Go.Am
end
