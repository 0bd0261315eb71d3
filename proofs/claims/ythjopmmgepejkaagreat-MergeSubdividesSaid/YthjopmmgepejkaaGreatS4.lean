/- The reference's integers: the division of absolute values. No condition. -/
import Derived.Test.YthjopmmgepejkaaGreatS3
import Derived.Test.YthjopmmgepejkaaGreatRows
import Derived.Shelf.SlIterI.Nil
import Derived.Shelf.SortM.Plain
import Derived.Shelf.SortM.SortNone
import Derived.Ground.GgzProg
import Derived.Ground.SlgmProg
import Derived.Test.YthjopmmgepejkaaGreatProg
import Derived.Recover
import Derived.ProofKit
import Derived.OpenShut
section
set_option linter.unusedVariables false
set_option linter.unusedSimpArgs false
open Go Go.Proofs
namespace Go.Am
@[simp] theorem bVk:tsz Tryz.prog 2=some 1∧tby Tryz.prog 2=some 8∧tz Tryz.prog 2=some (.int .i64 0)∧cR Tryz.prog 2=some false∧tel Tryz.prog 2=none∧bW Tryz.prog 2=false∧(Program.underlying Tryz.prog 2).isSome=true∧gX Tryz.prog 2=some .i64:=by and_intros <;> kernel_rfl
@[simp] theorem bVj:tsz Tryz.prog 3=some 1∧tby Tryz.prog 3=some 8∧tz Tryz.prog 3=some (.int .i64 0)∧cR Tryz.prog 3=some false∧tel Tryz.prog 3=none∧bW Tryz.prog 3=false∧(Program.underlying Tryz.prog 3).isSome=true∧gX Tryz.prog 3=some .i64:=by and_intros <;> kernel_rfl
@[simp] theorem bVi:tsz Tryz.prog 4=some 1∧tby Tryz.prog 4=some 1∧tz Tryz.prog 4=some (.bool false)∧cR Tryz.prog 4=some false∧tel Tryz.prog 4=none∧bW Tryz.prog 4=true∧(Program.underlying Tryz.prog 4).isSome=true:=by and_intros <;> kernel_rfl
@[simp] theorem bVh:tsz Tryz.prog 5=some 1∧tby Tryz.prog 5=some 1∧tz Tryz.prog 5=some (.int .u8 0)∧cR Tryz.prog 5=some false∧tel Tryz.prog 5=none∧bW Tryz.prog 5=false∧(Program.underlying Tryz.prog 5).isSome=true∧gX Tryz.prog 5=some .u8:=by and_intros <;> kernel_rfl
@[simp] theorem bVg:tsz Tryz.prog 6=some 1∧tby Tryz.prog 6=some 1∧tz Tryz.prog 6=some (.int .u8 0)∧cR Tryz.prog 6=some false∧tel Tryz.prog 6=none∧bW Tryz.prog 6=false∧(Program.underlying Tryz.prog 6).isSome=true∧gX Tryz.prog 6=some .u8:=by and_intros <;> kernel_rfl
@[simp] theorem bVf:tsz Tryz.prog 7=some 4∧tby Tryz.prog 7=some 24∧tz Tryz.prog 7=some (.agg #[.int .i64 0,.int .i64 0,.bool false,.int .u8 0])∧cR Tryz.prog 7=some true∧tel Tryz.prog 7=none∧bW Tryz.prog 7=false∧(Program.underlying Tryz.prog 7).isSome=true∧gZ Tryz.prog 7=some [(0,1),(1,1),(2,1),(3,1)]:=by and_intros <;> kernel_rfl
@[simp] theorem bVe:tsz Tryz.prog 8=some 4∧tby Tryz.prog 8=some 24∧tz Tryz.prog 8=some (.agg #[.int .i64 0,.int .i64 0,.bool false,.int .u8 0])∧cR Tryz.prog 8=some true∧tel Tryz.prog 8=none∧bW Tryz.prog 8=false∧(Program.underlying Tryz.prog 8).isSome=true∧gZ Tryz.prog 8=some [(0,1),(1,1),(2,1),(3,1)]:=by and_intros <;> kernel_rfl
@[simp] theorem bUu:tsz Tryz.prog 12=some 1∧tby Tryz.prog 12=some 8∧tz Tryz.prog 12=some (.int .u64 0)∧cR Tryz.prog 12=some false∧tel Tryz.prog 12=none∧bW Tryz.prog 12=false∧(Program.underlying Tryz.prog 12).isSome=true∧gX Tryz.prog 12=some .u64:=by and_intros <;> kernel_rfl
@[simp] theorem bUt:tsz Tryz.prog 21=some 1∧tby Tryz.prog 21=some 4∧tz Tryz.prog 21=some (.int .i32 0)∧cR Tryz.prog 21=some false∧tel Tryz.prog 21=none∧bW Tryz.prog 21=false∧(Program.underlying Tryz.prog 21).isSome=true∧gX Tryz.prog 21=some .i32:=by and_intros <;> kernel_rfl
@[simp] theorem bUs:tsz Tryz.prog 22=some 1∧tby Tryz.prog 22=some 24∧tz Tryz.prog 22=some (.slice none 0 0)∧cR Tryz.prog 22=some false∧tel Tryz.prog 22=some 80∧bW Tryz.prog 22=false∧(Program.underlying Tryz.prog 22).isSome=true:=by and_intros <;> kernel_rfl
@[simp] theorem bUr:tsz Tryz.prog 23=some 2∧tby Tryz.prog 23=some 32∧tz Tryz.prog 23=some (.agg #[.int .u8 0,.slice none 0 0])∧cR Tryz.prog 23=some true∧tel Tryz.prog 23=none∧bW Tryz.prog 23=false∧(Program.underlying Tryz.prog 23).isSome=true∧gZ Tryz.prog 23=some [(0,1),(1,1)]:=by and_intros <;> kernel_rfl
@[simp] theorem bUq:tsz Tryz.prog 24=some 2∧tby Tryz.prog 24=some 32∧tz Tryz.prog 24=some (.agg #[.int .u8 0,.slice none 0 0])∧cR Tryz.prog 24=some true∧tel Tryz.prog 24=none∧bW Tryz.prog 24=false∧(Program.underlying Tryz.prog 24).isSome=true∧gZ Tryz.prog 24=some [(0,1),(1,1)]:=by and_intros <;> kernel_rfl
@[simp] theorem bUp:tsz Tryz.prog 26=some 1∧tby Tryz.prog 26=some 24∧tz Tryz.prog 26=some (.slice none 0 0)∧cR Tryz.prog 26=some false∧tel Tryz.prog 26=some 47∧bW Tryz.prog 26=false∧(Program.underlying Tryz.prog 26).isSome=true:=by and_intros <;> kernel_rfl
@[simp] theorem bUo:tsz Tryz.prog 27=some 1∧tby Tryz.prog 27=some 24∧tz Tryz.prog 27=some (.slice none 0 0)∧cR Tryz.prog 27=some false∧tel Tryz.prog 27=some 47∧bW Tryz.prog 27=false∧(Program.underlying Tryz.prog 27).isSome=true:=by and_intros <;> kernel_rfl
@[simp] theorem bUn:tsz Tryz.prog 29=some 1∧tby Tryz.prog 29=some 24∧tz Tryz.prog 29=some (.slice none 0 0)∧cR Tryz.prog 29=some false∧tel Tryz.prog 29=some 3∧bW Tryz.prog 29=false∧(Program.underlying Tryz.prog 29).isSome=true:=by and_intros <;> kernel_rfl
@[simp] theorem bUm:tsz Tryz.prog 31=some 1∧tby Tryz.prog 31=some 24∧tz Tryz.prog 31=some (.slice none 0 0)∧cR Tryz.prog 31=some false∧tel Tryz.prog 31=some 97∧bW Tryz.prog 31=false∧(Program.underlying Tryz.prog 31).isSome=true:=by and_intros <;> kernel_rfl
@[simp] theorem bUl:tsz Tryz.prog 32=some 1∧tby Tryz.prog 32=some 24∧tz Tryz.prog 32=some (.slice none 0 0)∧cR Tryz.prog 32=some false∧tel Tryz.prog 32=some 97∧bW Tryz.prog 32=false∧(Program.underlying Tryz.prog 32).isSome=true:=by and_intros <;> kernel_rfl
@[simp] theorem bUk:tsz Tryz.prog 33=some 1∧tby Tryz.prog 33=some 8∧tz Tryz.prog 33=some (.int .i64 0)∧cR Tryz.prog 33=some false∧tel Tryz.prog 33=none∧bW Tryz.prog 33=false∧(Program.underlying Tryz.prog 33).isSome=true∧gX Tryz.prog 33=some .i64:=by and_intros <;> kernel_rfl
@[simp] theorem bUj:tsz Tryz.prog 34=some 3∧tby Tryz.prog 34=some 56∧tz Tryz.prog 34=some (.agg #[.slice none 0 0,.slice none 0 0,.int .i64 0])∧cR Tryz.prog 34=some true∧tel Tryz.prog 34=none∧bW Tryz.prog 34=false∧(Program.underlying Tryz.prog 34).isSome=true∧gZ Tryz.prog 34=some [(0,1),(1,1),(2,1)]:=by and_intros <;> kernel_rfl
@[simp] theorem bUi:tsz Tryz.prog 35=some 3∧tby Tryz.prog 35=some 56∧tz Tryz.prog 35=some (.agg #[.slice none 0 0,.slice none 0 0,.int .i64 0])∧cR Tryz.prog 35=some true∧tel Tryz.prog 35=none∧bW Tryz.prog 35=false∧(Program.underlying Tryz.prog 35).isSome=true∧gZ Tryz.prog 35=some [(0,1),(1,1),(2,1)]:=by and_intros <;> kernel_rfl
@[simp] theorem bUh:tsz Tryz.prog 44=some 1∧tby Tryz.prog 44=some 24∧tz Tryz.prog 44=some (.slice none 0 0)∧cR Tryz.prog 44=some false∧tel Tryz.prog 44=some 89∧bW Tryz.prog 44=false∧(Program.underlying Tryz.prog 44).isSome=true:=by and_intros <;> kernel_rfl
@[simp] theorem bUg:tsz Tryz.prog 45=some 1∧tby Tryz.prog 45=some 24∧tz Tryz.prog 45=some (.slice none 0 0)∧cR Tryz.prog 45=some false∧tel Tryz.prog 45=some 89∧bW Tryz.prog 45=false∧(Program.underlying Tryz.prog 45).isSome=true:=by and_intros <;> kernel_rfl
@[simp] theorem bUf:tsz Tryz.prog 46=some 3∧tby Tryz.prog 46=some 40∧tz Tryz.prog 46=some (.agg #[.int .i64 0,.int .i64 0,.slice none 0 0])∧cR Tryz.prog 46=some true∧tel Tryz.prog 46=none∧bW Tryz.prog 46=false∧(Program.underlying Tryz.prog 46).isSome=true∧gZ Tryz.prog 46=some [(0,1),(1,1),(2,1)]:=by and_intros <;> kernel_rfl
@[simp] theorem bUe:tsz Tryz.prog 47=some 3∧tby Tryz.prog 47=some 40∧tz Tryz.prog 47=some (.agg #[.int .i64 0,.int .i64 0,.slice none 0 0])∧cR Tryz.prog 47=some true∧tel Tryz.prog 47=none∧bW Tryz.prog 47=false∧(Program.underlying Tryz.prog 47).isSome=true∧gZ Tryz.prog 47=some [(0,1),(1,1),(2,1)]:=by and_intros <;> kernel_rfl
@[simp] theorem bUd:tsz Tryz.prog 55=some 1∧tby Tryz.prog 55=some 24∧tz Tryz.prog 55=some (.slice none 0 0)∧cR Tryz.prog 55=some false∧tel Tryz.prog 55=some 59∧bW Tryz.prog 55=false∧(Program.underlying Tryz.prog 55).isSome=true:=by and_intros <;> kernel_rfl
@[simp] theorem bUc:tsz Tryz.prog 57=some 1∧tby Tryz.prog 57=some 1∧tz Tryz.prog 57=some (.int .i8 0)∧cR Tryz.prog 57=some false∧tel Tryz.prog 57=none∧bW Tryz.prog 57=false∧(Program.underlying Tryz.prog 57).isSome=true∧gX Tryz.prog 57=some .i8:=by and_intros <;> kernel_rfl
@[simp] theorem bUb:tsz Tryz.prog 58=some 2∧tby Tryz.prog 58=some 2∧tz Tryz.prog 58=some (.agg #[.int .i8 0,.int .i8 0])∧cR Tryz.prog 58=some true∧tel Tryz.prog 58=none∧bW Tryz.prog 58=false∧(Program.underlying Tryz.prog 58).isSome=true∧gZ Tryz.prog 58=none∧vZ Tryz.prog 58=some (2,57):=by and_intros <;> kernel_rfl
@[simp] theorem bUa:tsz Tryz.prog 59=some 2∧tby Tryz.prog 59=some 16∧tz Tryz.prog 59=some (.agg #[.int .i64 0,.int .i64 0])∧cR Tryz.prog 59=some true∧tel Tryz.prog 59=none∧bW Tryz.prog 59=false∧(Program.underlying Tryz.prog 59).isSome=true∧gZ Tryz.prog 59=none∧vZ Tryz.prog 59=some (2,3):=by and_intros <;> kernel_rfl
@[simp] theorem bTz:tsz Tryz.prog 63=some 1∧tby Tryz.prog 63=some 24∧tz Tryz.prog 63=some (.slice none 0 0)∧cR Tryz.prog 63=some false∧tel Tryz.prog 63=some 57∧bW Tryz.prog 63=false∧(Program.underlying Tryz.prog 63).isSome=true:=by and_intros <;> kernel_rfl
@[simp] theorem bTy:tsz Tryz.prog 67=some 1∧tby Tryz.prog 67=some 24∧tz Tryz.prog 67=some (.slice none 0 0)∧cR Tryz.prog 67=some false∧tel Tryz.prog 67=some 121∧bW Tryz.prog 67=false∧(Program.underlying Tryz.prog 67).isSome=true:=by and_intros <;> kernel_rfl
@[simp] theorem bTx:tsz Tryz.prog 68=some 2∧tby Tryz.prog 68=some 32∧tz Tryz.prog 68=some (.agg #[.bool false,.slice none 0 0])∧cR Tryz.prog 68=some true∧tel Tryz.prog 68=none∧bW Tryz.prog 68=false∧(Program.underlying Tryz.prog 68).isSome=true∧gZ Tryz.prog 68=some [(0,1),(1,1)]:=by and_intros <;> kernel_rfl
@[simp] theorem bTw:tsz Tryz.prog 69=some 2∧tby Tryz.prog 69=some 32∧tz Tryz.prog 69=some (.agg #[.bool false,.slice none 0 0])∧cR Tryz.prog 69=some true∧tel Tryz.prog 69=none∧bW Tryz.prog 69=false∧(Program.underlying Tryz.prog 69).isSome=true∧gZ Tryz.prog 69=some [(0,1),(1,1)]:=by and_intros <;> kernel_rfl
@[simp] theorem bTv:tsz Tryz.prog 72=some 1∧tby Tryz.prog 72=some 24∧tz Tryz.prog 72=some (.slice none 0 0)∧cR Tryz.prog 72=some false∧tel Tryz.prog 72=some 125∧bW Tryz.prog 72=false∧(Program.underlying Tryz.prog 72).isSome=true:=by and_intros <;> kernel_rfl
@[simp] theorem bTu:tsz Tryz.prog 80=some 4∧tby Tryz.prog 80=some 4∧tz Tryz.prog 80=some (.agg #[.int .i8 0,.int .i8 0,.int .i8 0,.int .i8 0])∧cR Tryz.prog 80=some true∧tel Tryz.prog 80=none∧bW Tryz.prog 80=false∧(Program.underlying Tryz.prog 80).isSome=true∧gZ Tryz.prog 80=none∧vZ Tryz.prog 80=some (4,57):=by and_intros <;> kernel_rfl
@[simp] theorem bTt:tsz Tryz.prog 88=some 3∧tby Tryz.prog 88=some 40∧tz Tryz.prog 88=some (.agg #[.int .i64 0,.bool false,.slice none 0 0])∧cR Tryz.prog 88=some true∧tel Tryz.prog 88=none∧bW Tryz.prog 88=false∧(Program.underlying Tryz.prog 88).isSome=true∧gZ Tryz.prog 88=some [(0,1),(1,2)]:=by and_intros <;> kernel_rfl
@[simp] theorem bTs:tsz Tryz.prog 89=some 3∧tby Tryz.prog 89=some 40∧tz Tryz.prog 89=some (.agg #[.int .i64 0,.bool false,.slice none 0 0])∧cR Tryz.prog 89=some true∧tel Tryz.prog 89=none∧bW Tryz.prog 89=false∧(Program.underlying Tryz.prog 89).isSome=true∧gZ Tryz.prog 89=some [(0,1),(1,2)]:=by and_intros <;> kernel_rfl
@[simp] theorem bTr:tsz Tryz.prog 92=some 1∧tby Tryz.prog 92=some 8∧cR Tryz.prog 92=some false∧tel Tryz.prog 92=none∧bW Tryz.prog 92=false∧(Program.underlying Tryz.prog 92).isSome=true∧tmp Tryz.prog 92=some (3,45):=by and_intros <;> kernel_rfl
@[simp] theorem bTq:tsz Tryz.prog 96=some 2∧tby Tryz.prog 96=some 32∧tz Tryz.prog 96=some (.agg #[.int .i64 0,.slice none 0 0])∧cR Tryz.prog 96=some true∧tel Tryz.prog 96=none∧bW Tryz.prog 96=false∧(Program.underlying Tryz.prog 96).isSome=true∧gZ Tryz.prog 96=some [(0,1),(1,1)]:=by and_intros <;> kernel_rfl
@[simp] theorem bTp:tsz Tryz.prog 97=some 2∧tby Tryz.prog 97=some 32∧tz Tryz.prog 97=some (.agg #[.int .i64 0,.slice none 0 0])∧cR Tryz.prog 97=some true∧tel Tryz.prog 97=none∧bW Tryz.prog 97=false∧(Program.underlying Tryz.prog 97).isSome=true∧gZ Tryz.prog 97=some [(0,1),(1,1)]:=by and_intros <;> kernel_rfl
@[simp] theorem bTo:tsz Tryz.prog 99=some 1∧tby Tryz.prog 99=some 24∧tz Tryz.prog 99=some (.slice none 0 0)∧cR Tryz.prog 99=some false∧tel Tryz.prog 99=some 2∧bW Tryz.prog 99=false∧(Program.underlying Tryz.prog 99).isSome=true:=by and_intros <;> kernel_rfl
@[simp] theorem bTb:tsz Tryz.prog 101=some 1∧tby Tryz.prog 101=some 8∧cR Tryz.prog 101=some false∧tel Tryz.prog 101=none∧bW Tryz.prog 101=false∧(Program.underlying Tryz.prog 101).isSome=true∧tmp Tryz.prog 101=some (3,3):=by and_intros <;> kernel_rfl
@[simp] theorem bTa:tsz Tryz.prog 102=some 1∧tby Tryz.prog 102=some 8∧cR Tryz.prog 102=some false∧tel Tryz.prog 102=none∧bW Tryz.prog 102=false∧(Program.underlying Tryz.prog 102).isSome=true∧tmp Tryz.prog 102=some (3,4):=by and_intros <;> kernel_rfl
@[simp] theorem bSz:tsz Tryz.prog 112=some 1∧tby Tryz.prog 112=some 24∧tz Tryz.prog 112=some (.slice none 0 0)∧cR Tryz.prog 112=some false∧tel Tryz.prog 112=some 69∧bW Tryz.prog 112=false∧(Program.underlying Tryz.prog 112).isSome=true:=by and_intros <;> kernel_rfl
@[simp] theorem bSy:tsz Tryz.prog 113=some 1∧tby Tryz.prog 113=some 24∧tz Tryz.prog 113=some (.slice none 0 0)∧cR Tryz.prog 113=some false∧tel Tryz.prog 113=some 69∧bW Tryz.prog 113=false∧(Program.underlying Tryz.prog 113).isSome=true:=by and_intros <;> kernel_rfl
@[simp] theorem bSx:tsz Tryz.prog 119=some 1∧tby Tryz.prog 119=some 8∧tz Tryz.prog 119=some (.int .u64 0)∧cR Tryz.prog 119=some false∧tel Tryz.prog 119=none∧bW Tryz.prog 119=false∧(Program.underlying Tryz.prog 119).isSome=true∧gX Tryz.prog 119=some .u64:=by and_intros <;> kernel_rfl
@[simp] theorem bSw:tsz Tryz.prog 121=some 1∧tby Tryz.prog 121=some 4∧tz Tryz.prog 121=some (.int .u32 0)∧cR Tryz.prog 121=some false∧tel Tryz.prog 121=none∧bW Tryz.prog 121=false∧(Program.underlying Tryz.prog 121).isSome=true∧gX Tryz.prog 121=some .u32:=by and_intros <;> kernel_rfl
@[simp] theorem bSv:tsz Tryz.prog 122=some 1∧tby Tryz.prog 122=some 8∧tz Tryz.prog 122=some (.int .u64 0)∧cR Tryz.prog 122=some false∧tel Tryz.prog 122=none∧bW Tryz.prog 122=false∧(Program.underlying Tryz.prog 122).isSome=true∧gX Tryz.prog 122=some .u64:=by and_intros <;> kernel_rfl
@[simp] theorem bSu:tsz Tryz.prog 124=some 2∧tby Tryz.prog 124=some 32∧tz Tryz.prog 124=some (.agg #[.int .i64 0,.slice none 0 0])∧cR Tryz.prog 124=some true∧tel Tryz.prog 124=none∧bW Tryz.prog 124=false∧(Program.underlying Tryz.prog 124).isSome=true∧gZ Tryz.prog 124=some [(0,1),(1,1)]:=by and_intros <;> kernel_rfl
@[simp] theorem bSt:tsz Tryz.prog 125=some 2∧tby Tryz.prog 125=some 32∧tz Tryz.prog 125=some (.agg #[.int .i64 0,.slice none 0 0])∧cR Tryz.prog 125=some true∧tel Tryz.prog 125=none∧bW Tryz.prog 125=false∧(Program.underlying Tryz.prog 125).isSome=true∧gZ Tryz.prog 125=some [(0,1),(1,1)]:=by and_intros <;> kernel_rfl
@[simp] theorem bSs:tsz Tryz.prog 130=some 1∧tby Tryz.prog 130=some 24∧tz Tryz.prog 130=some (.slice none 0 0)∧cR Tryz.prog 130=some false∧tel Tryz.prog 130=some 45∧bW Tryz.prog 130=false∧(Program.underlying Tryz.prog 130).isSome=true:=by and_intros <;> kernel_rfl
@[simp] theorem bSr:tsz Tryz.prog 137=some 1∧tby Tryz.prog 137=some 8∧cR Tryz.prog 137=some false∧tel Tryz.prog 137=none∧bW Tryz.prog 137=false∧(Program.underlying Tryz.prog 137).isSome=true∧tmp Tryz.prog 137=some (3,69):=by and_intros <;> kernel_rfl
@[simp] theorem bSq:tsz Tryz.prog 138=some 1∧tby Tryz.prog 138=some 8∧cR Tryz.prog 138=some false∧tel Tryz.prog 138=none∧bW Tryz.prog 138=false∧(Program.underlying Tryz.prog 138).isSome=true∧tmp Tryz.prog 138=some (3,69):=by and_intros <;> kernel_rfl
@[simp] theorem bSp:tsz Tryz.prog 153=some 1∧tby Tryz.prog 153=some 24∧tz Tryz.prog 153=some (.slice none 0 0)∧cR Tryz.prog 153=some false∧tel Tryz.prog 153=some 112∧bW Tryz.prog 153=false∧(Program.underlying Tryz.prog 153).isSome=true:=by and_intros <;> kernel_rfl
@[simp] theorem bSo:tsz Tryz.prog 154=some 3∧tby Tryz.prog 154=some 40∧tz Tryz.prog 154=some (.agg #[.int .i64 0,.int .i64 0,.slice none 0 0])∧cR Tryz.prog 154=some true∧tel Tryz.prog 154=none∧bW Tryz.prog 154=false∧(Program.underlying Tryz.prog 154).isSome=true∧gZ Tryz.prog 154=some [(0,1),(1,1),(2,1)]:=by and_intros <;> kernel_rfl
@[simp] theorem bSn:tsz Tryz.prog 155=some 3∧tby Tryz.prog 155=some 40∧tz Tryz.prog 155=some (.agg #[.int .i64 0,.int .i64 0,.slice none 0 0])∧cR Tryz.prog 155=some true∧tel Tryz.prog 155=none∧bW Tryz.prog 155=false∧(Program.underlying Tryz.prog 155).isSome=true∧gZ Tryz.prog 155=some [(0,1),(1,1),(2,1)]:=by and_intros <;> kernel_rfl
@[simp] theorem bSm:tsz Tryz.prog 174=some 1∧tby Tryz.prog 174=some 8∧tz Tryz.prog 174=some (.int .i64 0)∧cR Tryz.prog 174=some false∧tel Tryz.prog 174=none∧bW Tryz.prog 174=false∧(Program.underlying Tryz.prog 174).isSome=true∧gX Tryz.prog 174=some .i64:=by and_intros <;> kernel_rfl
@[simp] theorem bSl:tsz Tryz.prog 185=some 15∧tby Tryz.prog 185=some 200∧tz Tryz.prog 185=some (.agg #[.int .i64 0,.int .i64 0,.slice none 0 0,.int .i64 0,.int .i64 0,.slice none 0 0,.int .i64 0,.int .i64 0,.slice none 0 0,.int .i64 0,.int .i64 0,.slice none 0 0,.int .i64 0,.int .i64 0,.slice none 0 0])∧cR Tryz.prog 185=some true∧tel Tryz.prog 185=none∧bW Tryz.prog 185=false∧(Program.underlying Tryz.prog 185).isSome=true∧gZ Tryz.prog 185=some [(0,3),(3,3),(6,3),(9,3),(12,3)]:=by and_intros <;> kernel_rfl
@[simp] theorem bSk:tsz Tryz.prog 186=some 15∧tby Tryz.prog 186=some 200∧tz Tryz.prog 186=some (.agg #[.int .i64 0,.int .i64 0,.slice none 0 0,.int .i64 0,.int .i64 0,.slice none 0 0,.int .i64 0,.int .i64 0,.slice none 0 0,.int .i64 0,.int .i64 0,.slice none 0 0,.int .i64 0,.int .i64 0,.slice none 0 0])∧cR Tryz.prog 186=some true∧tel Tryz.prog 186=none∧bW Tryz.prog 186=false∧(Program.underlying Tryz.prog 186).isSome=true∧gZ Tryz.prog 186=some [(0,3),(3,3),(6,3),(9,3),(12,3)]:=by and_intros <;> kernel_rfl
@[simp] theorem bSj:tsz Tryz.prog 188=some 9∧tby Tryz.prog 188=some 120∧tz Tryz.prog 188=some (.agg #[.int .i64 0,.int .i64 0,.slice none 0 0,.int .i64 0,.int .i64 0,.slice none 0 0,.int .i64 0,.int .i64 0,.slice none 0 0])∧cR Tryz.prog 188=some true∧tel Tryz.prog 188=none∧bW Tryz.prog 188=false∧(Program.underlying Tryz.prog 188).isSome=true∧gZ Tryz.prog 188=some [(0,3),(3,3),(6,3)]:=by and_intros <;> kernel_rfl
@[simp] theorem bSi:tsz Tryz.prog 189=some 9∧tby Tryz.prog 189=some 120∧tz Tryz.prog 189=some (.agg #[.int .i64 0,.int .i64 0,.slice none 0 0,.int .i64 0,.int .i64 0,.slice none 0 0,.int .i64 0,.int .i64 0,.slice none 0 0])∧cR Tryz.prog 189=some true∧tel Tryz.prog 189=none∧bW Tryz.prog 189=false∧(Program.underlying Tryz.prog 189).isSome=true∧gZ Tryz.prog 189=some [(0,3),(3,3),(6,3)]:=by and_intros <;> kernel_rfl
@[simp] theorem bSh:tsz Tryz.prog 194=some 1∧tby Tryz.prog 194=some 8∧tz Tryz.prog 194=some (.int .u64 0)∧cR Tryz.prog 194=some false∧tel Tryz.prog 194=none∧bW Tryz.prog 194=false∧(Program.underlying Tryz.prog 194).isSome=true∧gX Tryz.prog 194=some .u64:=by and_intros <;> kernel_rfl
@[simp] theorem bSg:tsz Tryz.prog 211=some 9∧tby Tryz.prog 211=some 120∧tz Tryz.prog 211=some (.agg #[.int .i64 0,.int .i64 0,.slice none 0 0,.int .i64 0,.int .i64 0,.slice none 0 0,.int .i64 0,.int .i64 0,.slice none 0 0])∧cR Tryz.prog 211=some true∧tel Tryz.prog 211=none∧bW Tryz.prog 211=false∧(Program.underlying Tryz.prog 211).isSome=true∧gZ Tryz.prog 211=some [(0,3),(3,3),(6,3)]:=by and_intros <;> kernel_rfl
@[simp] theorem bSf:tsz Tryz.prog 212=some 9∧tby Tryz.prog 212=some 120∧tz Tryz.prog 212=some (.agg #[.int .i64 0,.int .i64 0,.slice none 0 0,.int .i64 0,.int .i64 0,.slice none 0 0,.int .i64 0,.int .i64 0,.slice none 0 0])∧cR Tryz.prog 212=some true∧tel Tryz.prog 212=none∧bW Tryz.prog 212=false∧(Program.underlying Tryz.prog 212).isSome=true∧gZ Tryz.prog 212=some [(0,3),(3,3),(6,3)]:=by and_intros <;> kernel_rfl
@[simp] theorem bSe:tsz Tryz.prog 242=some 0∧tby Tryz.prog 242=some 0∧tz Tryz.prog 242=some (.agg #[])∧cR Tryz.prog 242=some true∧tel Tryz.prog 242=none∧bW Tryz.prog 242=false∧(Program.underlying Tryz.prog 242).isSome=true∧gZ Tryz.prog 242=none∧vZ Tryz.prog 242=some (0,16):=by and_intros <;> kernel_rfl
@[simp] theorem bSd:tsz Tryz.prog 243=some 0∧tby Tryz.prog 243=some 0∧tz Tryz.prog 243=some (.agg #[])∧cR Tryz.prog 243=some true∧tel Tryz.prog 243=none∧bW Tryz.prog 243=false∧(Program.underlying Tryz.prog 243).isSome=true∧gZ Tryz.prog 243=some [(0,0)]:=by and_intros <;> kernel_rfl
@[simp] theorem bSc:tsz Tryz.prog 244=some 0∧tby Tryz.prog 244=some 0∧tz Tryz.prog 244=some (.agg #[])∧cR Tryz.prog 244=some true∧tel Tryz.prog 244=none∧bW Tryz.prog 244=false∧(Program.underlying Tryz.prog 244).isSome=true∧gZ Tryz.prog 244=some [(0,0)]:=by and_intros <;> kernel_rfl
@[simp] theorem bSb:tsz Tryz.prog 246=some 1∧tby Tryz.prog 246=some 1∧tz Tryz.prog 246=some (.int .u8 0)∧cR Tryz.prog 246=some false∧tel Tryz.prog 246=none∧bW Tryz.prog 246=false∧(Program.underlying Tryz.prog 246).isSome=true∧gX Tryz.prog 246=some .u8:=by and_intros <;> kernel_rfl
@[simp] theorem bSa:tsz Tryz.prog 247=some 1∧tby Tryz.prog 247=some 1∧tz Tryz.prog 247=some (.int .u8 0)∧cR Tryz.prog 247=some false∧tel Tryz.prog 247=none∧bW Tryz.prog 247=false∧(Program.underlying Tryz.prog 247).isSome=true∧gX Tryz.prog 247=some .u8:=by and_intros <;> kernel_rfl
@[simp] theorem bRz:tsz Tryz.prog 250=some 1∧tby Tryz.prog 250=some 4∧tz Tryz.prog 250=some (.int .i32 0)∧cR Tryz.prog 250=some false∧tel Tryz.prog 250=none∧bW Tryz.prog 250=false∧(Program.underlying Tryz.prog 250).isSome=true∧gX Tryz.prog 250=some .i32:=by and_intros <;> kernel_rfl
@[simp] theorem bRy:tsz Tryz.prog 251=some 1∧tby Tryz.prog 251=some 4∧tz Tryz.prog 251=some (.int .i32 0)∧cR Tryz.prog 251=some false∧tel Tryz.prog 251=none∧bW Tryz.prog 251=false∧(Program.underlying Tryz.prog 251).isSome=true∧gX Tryz.prog 251=some .i32:=by and_intros <;> kernel_rfl
@[simp] theorem aF:Go.Tables.follows Go.Proofs.Tryz.prog.toTables .mixedOrders=true:=by kernel_rfl
end Go.Am
end

section
set_option linter.unusedVariables false
set_option linter.unusedSimpArgs false
open Go Go.Proofs
namespace Go.Am
@[simp] theorem bVa:bG Tryz.prog 0=false∧bE Tryz.prog 0=true∧bG Tryz.prog 1=false∧bE Tryz.prog 1=true∧bG Tryz.prog 2=false∧bE Tryz.prog 2=true∧bG Tryz.prog 3=false∧bE Tryz.prog 3=false∧bG Tryz.prog 4=false∧bE Tryz.prog 4=false∧bG Tryz.prog 5=false∧bE Tryz.prog 5=false∧bG Tryz.prog 6=false∧bE Tryz.prog 6=false∧bG Tryz.prog 7=false∧bE Tryz.prog 7=false∧bG Tryz.prog 8=false∧bE Tryz.prog 8=false∧bG Tryz.prog 9=false∧bE Tryz.prog 9=false:=by and_intros <;> kernel_rfl
@[simp] theorem bTk:bG Tryz.prog 10=false∧bE Tryz.prog 10=false∧bG Tryz.prog 11=false∧bE Tryz.prog 11=false∧bG Tryz.prog 12=false∧bE Tryz.prog 12=false∧bG Tryz.prog 13=false∧bE Tryz.prog 13=false∧bG Tryz.prog 14=false∧bE Tryz.prog 14=false∧bG Tryz.prog 15=false∧bE Tryz.prog 15=false∧bG Tryz.prog 16=false∧bE Tryz.prog 16=false∧bG Tryz.prog 17=false∧bE Tryz.prog 17=false∧bG Tryz.prog 18=false∧bE Tryz.prog 18=false∧bG Tryz.prog 19=false∧bE Tryz.prog 19=false:=by and_intros <;> kernel_rfl
@[simp] theorem bTj:bG Tryz.prog 20=false∧bE Tryz.prog 20=false∧bG Tryz.prog 21=false∧bE Tryz.prog 21=false∧bG Tryz.prog 22=false∧bE Tryz.prog 22=false∧bG Tryz.prog 23=false∧bE Tryz.prog 23=false∧bG Tryz.prog 24=false∧bE Tryz.prog 24=false∧bG Tryz.prog 25=false∧bE Tryz.prog 25=false∧bG Tryz.prog 26=false∧bE Tryz.prog 26=false∧bG Tryz.prog 27=false∧bE Tryz.prog 27=false∧bG Tryz.prog 28=false∧bE Tryz.prog 28=false∧bG Tryz.prog 29=false∧bE Tryz.prog 29=false:=by and_intros <;> kernel_rfl
@[simp] theorem bTi:bG Tryz.prog 30=false∧bE Tryz.prog 30=false∧bG Tryz.prog 31=false∧bE Tryz.prog 31=false∧bG Tryz.prog 32=false∧bE Tryz.prog 32=false∧bG Tryz.prog 33=false∧bE Tryz.prog 33=false∧bG Tryz.prog 34=false∧bE Tryz.prog 34=false∧bG Tryz.prog 35=false∧bE Tryz.prog 35=false∧bG Tryz.prog 36=false∧bE Tryz.prog 36=false∧bG Tryz.prog 37=false∧bE Tryz.prog 37=false∧bG Tryz.prog 38=false∧bE Tryz.prog 38=false∧bG Tryz.prog 39=false∧bE Tryz.prog 39=false:=by and_intros <;> kernel_rfl
@[simp] theorem bTh:bG Tryz.prog 40=true∧bE Tryz.prog 40=false∧bG Tryz.prog 41=false∧bE Tryz.prog 41=false∧bG Tryz.prog 42=false∧bE Tryz.prog 42=false∧bG Tryz.prog 43=false∧bE Tryz.prog 43=true∧bG Tryz.prog 44=false∧bE Tryz.prog 44=false∧bG Tryz.prog 45=false∧bE Tryz.prog 45=false∧bG Tryz.prog 46=false∧bE Tryz.prog 46=false∧bG Tryz.prog 47=false∧bE Tryz.prog 47=false∧bG Tryz.prog 48=false∧bE Tryz.prog 48=false∧bG Tryz.prog 49=false∧bE Tryz.prog 49=false:=by and_intros <;> kernel_rfl
@[simp] theorem bTg:bG Tryz.prog 50=false∧bE Tryz.prog 50=false∧bG Tryz.prog 51=false∧bE Tryz.prog 51=false∧bG Tryz.prog 52=false∧bE Tryz.prog 52=false∧bG Tryz.prog 53=false∧bE Tryz.prog 53=false∧bG Tryz.prog 54=false∧bE Tryz.prog 54=true∧bG Tryz.prog 55=false∧bE Tryz.prog 55=false∧bG Tryz.prog 56=false∧bE Tryz.prog 56=false∧bG Tryz.prog 57=false∧bE Tryz.prog 57=false∧bG Tryz.prog 58=false∧bE Tryz.prog 58=false∧bG Tryz.prog 59=false∧bE Tryz.prog 59=true:=by and_intros <;> kernel_rfl
@[simp] theorem bTf:bG Tryz.prog 60=false∧bE Tryz.prog 60=false∧bG Tryz.prog 61=false∧bE Tryz.prog 61=false∧bG Tryz.prog 62=false∧bE Tryz.prog 62=false∧bG Tryz.prog 63=false∧bE Tryz.prog 63=false∧bG Tryz.prog 64=false∧bE Tryz.prog 64=false∧bG Tryz.prog 65=false∧bE Tryz.prog 65=true∧bG Tryz.prog 66=false∧bE Tryz.prog 66=false∧bG Tryz.prog 67=true∧bE Tryz.prog 67=false∧bG Tryz.prog 68=false∧bE Tryz.prog 68=true∧bG Tryz.prog 69=false∧bE Tryz.prog 69=false:=by and_intros <;> kernel_rfl
@[simp] theorem bTe:bG Tryz.prog 70=false∧bE Tryz.prog 70=false∧bG Tryz.prog 71=false∧bE Tryz.prog 71=false∧bG Tryz.prog 72=false∧bE Tryz.prog 72=false∧bG Tryz.prog 73=false∧bE Tryz.prog 73=false∧bG Tryz.prog 74=false∧bE Tryz.prog 74=false∧bG Tryz.prog 75=false∧bE Tryz.prog 75=false∧bG Tryz.prog 76=false∧bE Tryz.prog 76=false∧bG Tryz.prog 77=false∧bE Tryz.prog 77=false∧bG Tryz.prog 78=false∧bE Tryz.prog 78=false∧bG Tryz.prog 79=false∧bE Tryz.prog 79=true:=by and_intros <;> kernel_rfl
@[simp] theorem bTd:bG Tryz.prog 80=false∧bE Tryz.prog 80=false∧bG Tryz.prog 81=false∧bE Tryz.prog 81=false∧bG Tryz.prog 82=false∧bE Tryz.prog 82=false∧bG Tryz.prog 83=false∧bE Tryz.prog 83=false∧bG Tryz.prog 84=false∧bE Tryz.prog 84=false∧bG Tryz.prog 85=false∧bE Tryz.prog 85=false∧bG Tryz.prog 86=false∧bE Tryz.prog 86=false∧bG Tryz.prog 87=false∧bE Tryz.prog 87=false∧bG Tryz.prog 88=false∧bE Tryz.prog 88=false∧bG Tryz.prog 89=false∧bE Tryz.prog 89=false:=by and_intros <;> kernel_rfl
@[simp] theorem bTc:bG Tryz.prog 90=false∧bE Tryz.prog 90=false∧bG Tryz.prog 91=false∧bE Tryz.prog 91=false∧bG Tryz.prog 92=false∧bE Tryz.prog 92=false∧bG Tryz.prog 93=false∧bE Tryz.prog 93=true∧bG Tryz.prog 94=false∧bE Tryz.prog 94=true∧bG Tryz.prog 95=false∧bE Tryz.prog 95=true∧bG Tryz.prog 96=false∧bE Tryz.prog 96=false∧bG Tryz.prog 97=false∧bE Tryz.prog 97=false∧bG Tryz.prog 98=false∧bE Tryz.prog 98=false∧bG Tryz.prog 99=false∧bE Tryz.prog 99=false:=by and_intros <;> kernel_rfl
@[simp] theorem bQl:bG Tryz.prog 100=false∧bE Tryz.prog 100=false∧bG Tryz.prog 101=false∧bE Tryz.prog 101=false∧bG Tryz.prog 102=false∧bE Tryz.prog 102=false∧bG Tryz.prog 103=false∧bE Tryz.prog 103=false∧bG Tryz.prog 104=false∧bE Tryz.prog 104=false∧bG Tryz.prog 105=false∧bE Tryz.prog 105=true∧bG Tryz.prog 106=false∧bE Tryz.prog 106=false∧bG Tryz.prog 107=false∧bE Tryz.prog 107=false∧bG Tryz.prog 108=false∧bE Tryz.prog 108=true∧bG Tryz.prog 109=false∧bE Tryz.prog 109=false:=by and_intros <;> kernel_rfl
@[simp] theorem bQk:bG Tryz.prog 110=false∧bE Tryz.prog 110=false∧bG Tryz.prog 111=false∧bE Tryz.prog 111=false∧bG Tryz.prog 112=false∧bE Tryz.prog 112=false∧bG Tryz.prog 113=false∧bE Tryz.prog 113=false∧bG Tryz.prog 114=false∧bE Tryz.prog 114=false∧bG Tryz.prog 115=false∧bE Tryz.prog 115=false∧bG Tryz.prog 116=false∧bE Tryz.prog 116=false∧bG Tryz.prog 117=false∧bE Tryz.prog 117=false∧bG Tryz.prog 118=false∧bE Tryz.prog 118=false∧bG Tryz.prog 119=false∧bE Tryz.prog 119=false:=by and_intros <;> kernel_rfl
@[simp] theorem bQj:bG Tryz.prog 120=false∧bE Tryz.prog 120=false∧bG Tryz.prog 121=false∧bE Tryz.prog 121=false∧bG Tryz.prog 122=false∧bE Tryz.prog 122=false∧bG Tryz.prog 123=false∧bE Tryz.prog 123=false∧bG Tryz.prog 124=false∧bE Tryz.prog 124=false∧bG Tryz.prog 125=false∧bE Tryz.prog 125=false∧bG Tryz.prog 126=false∧bE Tryz.prog 126=false∧bG Tryz.prog 127=false∧bE Tryz.prog 127=true∧bG Tryz.prog 128=false∧bE Tryz.prog 128=false∧bG Tryz.prog 129=false∧bE Tryz.prog 129=false:=by and_intros <;> kernel_rfl
@[simp] theorem bQi:bG Tryz.prog 130=false∧bE Tryz.prog 130=true∧bG Tryz.prog 131=false∧bE Tryz.prog 131=true∧bG Tryz.prog 132=false∧bE Tryz.prog 132=true∧bG Tryz.prog 133=false∧bE Tryz.prog 133=false∧bG Tryz.prog 134=false∧bE Tryz.prog 134=true∧bG Tryz.prog 135=false∧bE Tryz.prog 135=false∧bG Tryz.prog 136=false∧bE Tryz.prog 136=false∧bG Tryz.prog 137=false∧bE Tryz.prog 137=false∧bG Tryz.prog 138=false∧bE Tryz.prog 138=false∧bG Tryz.prog 139=false∧bE Tryz.prog 139=false:=by and_intros <;> kernel_rfl
@[simp] theorem bQh:bG Tryz.prog 140=true∧bE Tryz.prog 140=false∧bG Tryz.prog 141=false∧bE Tryz.prog 141=false∧bG Tryz.prog 142=false∧bE Tryz.prog 142=false∧bG Tryz.prog 143=false∧bE Tryz.prog 143=false∧bG Tryz.prog 144=false∧bE Tryz.prog 144=false∧bG Tryz.prog 145=false∧bE Tryz.prog 145=false∧bG Tryz.prog 146=false∧bE Tryz.prog 146=false∧bG Tryz.prog 147=false∧bE Tryz.prog 147=false∧bG Tryz.prog 148=false∧bE Tryz.prog 148=false∧bG Tryz.prog 149=false∧bE Tryz.prog 149=false:=by and_intros <;> kernel_rfl
@[simp] theorem bQg:bG Tryz.prog 150=false∧bE Tryz.prog 150=false∧bG Tryz.prog 151=false∧bE Tryz.prog 151=false∧bG Tryz.prog 152=false∧bE Tryz.prog 152=true∧bG Tryz.prog 153=false∧bE Tryz.prog 153=true∧bG Tryz.prog 154=false∧bE Tryz.prog 154=false∧bG Tryz.prog 155=false∧bE Tryz.prog 155=true∧bG Tryz.prog 156=false∧bE Tryz.prog 156=false∧bG Tryz.prog 157=false∧bE Tryz.prog 157=false∧bG Tryz.prog 158=false∧bE Tryz.prog 158=false∧bG Tryz.prog 159=false∧bE Tryz.prog 159=false:=by and_intros <;> kernel_rfl
@[simp] theorem bQf:bG Tryz.prog 160=false∧bE Tryz.prog 160=false∧bG Tryz.prog 161=true∧bE Tryz.prog 161=false∧bG Tryz.prog 162=true∧bE Tryz.prog 162=false∧bG Tryz.prog 163=false∧bE Tryz.prog 163=false∧bG Tryz.prog 164=false∧bE Tryz.prog 164=true∧bG Tryz.prog 165=false∧bE Tryz.prog 165=true∧bG Tryz.prog 166=false∧bE Tryz.prog 166=false∧bG Tryz.prog 167=false∧bE Tryz.prog 167=false∧bG Tryz.prog 168=false∧bE Tryz.prog 168=true∧bG Tryz.prog 169=false∧bE Tryz.prog 169=true:=by and_intros <;> kernel_rfl
@[simp] theorem bQe:bG Tryz.prog 170=true∧bE Tryz.prog 170=false∧bG Tryz.prog 171=false∧bE Tryz.prog 171=false∧bG Tryz.prog 172=false∧bE Tryz.prog 172=true∧bG Tryz.prog 173=false∧bE Tryz.prog 173=true∧bG Tryz.prog 174=false∧bE Tryz.prog 174=true∧bG Tryz.prog 175=false∧bE Tryz.prog 175=false∧bG Tryz.prog 176=false∧bE Tryz.prog 176=false∧bG Tryz.prog 177=false∧bE Tryz.prog 177=false∧bG Tryz.prog 178=false∧bE Tryz.prog 178=true∧bG Tryz.prog 179=false∧bE Tryz.prog 179=false:=by and_intros <;> kernel_rfl
@[simp] theorem bQd:bG Tryz.prog 180=true∧bE Tryz.prog 180=false∧bG Tryz.prog 181=false∧bE Tryz.prog 181=true∧bG Tryz.prog 182=false∧bE Tryz.prog 182=false∧bG Tryz.prog 183=false∧bE Tryz.prog 183=true∧bG Tryz.prog 184=false∧bE Tryz.prog 184=true∧bG Tryz.prog 185=false∧bE Tryz.prog 185=false∧bG Tryz.prog 186=false∧bE Tryz.prog 186=true∧bG Tryz.prog 187=false∧bE Tryz.prog 187=true∧bG Tryz.prog 188=false∧bE Tryz.prog 188=true∧bG Tryz.prog 189=false∧bE Tryz.prog 189=false:=by and_intros <;> kernel_rfl
@[simp] theorem bQc:bG Tryz.prog 190=false∧bE Tryz.prog 190=true∧bG Tryz.prog 191=false∧bE Tryz.prog 191=false∧bG Tryz.prog 192=false∧bE Tryz.prog 192=false∧bG Tryz.prog 193=false∧bE Tryz.prog 193=false∧bG Tryz.prog 194=false∧bE Tryz.prog 194=false∧bG Tryz.prog 195=false∧bE Tryz.prog 195=false∧bG Tryz.prog 196=false∧bE Tryz.prog 196=false∧bG Tryz.prog 197=false∧bE Tryz.prog 197=true∧bG Tryz.prog 198=false∧bE Tryz.prog 198=false∧bG Tryz.prog 199=false∧bE Tryz.prog 199=false:=by and_intros <;> kernel_rfl
@[simp] theorem bQb:bG Tryz.prog 200=false∧bE Tryz.prog 200=false∧bG Tryz.prog 201=false∧bE Tryz.prog 201=false∧bG Tryz.prog 202=false∧bE Tryz.prog 202=true∧bG Tryz.prog 203=false∧bE Tryz.prog 203=false∧bG Tryz.prog 204=false∧bE Tryz.prog 204=true∧bG Tryz.prog 205=false∧bE Tryz.prog 205=false:=by and_intros <;> kernel_rfl
end Go.Am
end

section
set_option linter.unusedVariables false
set_option linter.unusedSimpArgs false
namespace Go.Proofs
open Go.RowKit Go.Maps Go.Sort Go.Shelf
def Tryz.keysB_ren:Go.Shelf.Ren:=⟨fun | 7=>127 | 10=>153 | n=>n,fun | 23=>138 | 26=>3 | 3=>69 | 28=>170 | 0=>0 | 27=>169 | 33=>151 | 4=>4 | n=>n,fun | n=>n⟩
theorem Tryz.keysB:Go.Proofs.SlLaysZI.n7 Tryz.prog Tryz.keysB_ren:={
 mixed:=by kernel_rfl,
 f7:=⟨Tryz.f127.name,by decide,Tryz.func127.trans (congrArg some (by kernel_rfl))⟩,
 f10:=⟨Tryz.f153.name,by decide,Tryz.func153.trans (congrArg some (by kernel_rfl))⟩,
 t0:=Tryz.underlying0,
 a0:=Tryz.isAgg0,
 z0:=Tryz.sizeOf0,
 v0:=Tryz.zeroValue0,
 t4:=Tryz.underlying4,
 a4:=Tryz.isAgg4,
 z4:=Tryz.sizeOf4,
 v4:=Tryz.zeroValue4,
 t23:=Tryz.underlying138,
 a23:=Tryz.isAgg138,
 z23:=Tryz.sizeOf138,
 v23:=Tryz.zeroValue138,
 t26:=Tryz.underlying3,
 a26:=Tryz.isAgg3,
 z26:=Tryz.sizeOf3,
 v26:=Tryz.zeroValue3,
 t27:=Tryz.underlying169,
 a27:=Tryz.isAgg169,
 z27:=Tryz.sizeOf169,
 v27:=Tryz.zeroValue169,
 t28:=Tryz.underlying170,
 a28:=Tryz.isAgg170,
 z28:=Tryz.sizeOf170,
 v28:=Tryz.zeroValue170,
 t33:=Tryz.underlying151,
 a33:=Tryz.isAgg151,
 z33:=Tryz.sizeOf151,
 v33:=Tryz.zeroValue151 }
def Tryz.sortedA_ren:Go.Shelf.Ren:=⟨fun | 6=>126 | 8=>151 | 9=>152 | 11=>177 | 13=>106 | 12=>178 | 23=>138 | 24=>139 | 14=>186 | 15=>187 | 16=>188 | 17=>189 | 18=>190 | 19=>191 | 20=>192 | 21=>193 | 22=>194 | 25=>197 | 26=>156 | 27=>157 | 28=>198 | 29=>199 | 30=>107 | 31=>200 | n=>n,fun | 26=>3 | 28=>170 | 24=>29 | 0=>0 | 3=>3 | 37=>122 | 48=>121 | 50=>119 | 4=>4 | 40=>175 | 39=>174 | 45=>133 | 5=>5 | 9=>9 | 51=>194 | 55=>198 | 57=>221 | 58=>202 | 33=>151 | n=>n,fun | n=>n⟩
theorem Tryz.sortedA:Go.Proofs.SlLaysZI.n6 Tryz.prog Tryz.sortedA_ren:={
 mixed:=by kernel_rfl,
 f6:=⟨Tryz.f126.name,by decide,Tryz.func126.trans (congrArg some (by kernel_rfl))⟩,
 f8:=⟨Tryz.f151.name,by decide,Tryz.func151.trans (congrArg some (by kernel_rfl))⟩,
 f11:=⟨Tryz.f177.name,by decide,Tryz.func177.trans (congrArg some (by kernel_rfl))⟩,
 t0:=Tryz.underlying0,
 a0:=Tryz.isAgg0,
 z0:=Tryz.sizeOf0,
 v0:=Tryz.zeroValue0,
 t24:=Tryz.underlying29,
 a24:=Tryz.isAgg29,
 z24:=Tryz.sizeOf29,
 v24:=Tryz.zeroValue29,
 t26:=Tryz.underlying3,
 a26:=Tryz.isAgg3,
 z26:=Tryz.sizeOf3,
 v26:=Tryz.zeroValue3,
 t28:=Tryz.underlying170,
 a28:=Tryz.isAgg170,
 z28:=Tryz.sizeOf170,
 v28:=Tryz.zeroValue170,
 i26:=by kernel_rfl }
def Tryz.sortA_ren:Go.Shelf.Ren:=⟨fun | 5=>152 | 8=>106 | 7=>178 | 19=>138 | 20=>139 | 10=>186 | 11=>187 | 12=>188 | 13=>189 | 14=>190 | 15=>191 | 16=>192 | 17=>193 | 18=>194 | 30=>197 | 31=>156 | 32=>157 | 33=>198 | 34=>199 | 35=>107 | 40=>200 | n=>n,fun | 23=>29 | 25=>3 | 3=>3 | 32=>122 | 22=>29 | 0=>0 | 44=>121 | 46=>119 | 4=>4 | 36=>175 | 35=>174 | 41=>133 | 5=>5 | 9=>9 | 53=>194 | 57=>198 | 63=>221 | 64=>202 | n=>n,fun | n=>n⟩
theorem Tryz.sortA:Go.Proofs.SlLaysM.n5 Tryz.prog Tryz.sortA_ren:={
 mixed:=by kernel_rfl,
 f5:=⟨Tryz.f152.name,by decide,Tryz.func152.trans (congrArg some (by kernel_rfl))⟩,
 f7:=⟨Tryz.f178.name,by decide,Tryz.func178.trans (congrArg some (by kernel_rfl))⟩,
 f8:=Tryz.func106.trans (congrArg some (by kernel_rfl)),
 f10:=⟨Tryz.f186.name,by decide,Tryz.func186.trans (congrArg some (by kernel_rfl))⟩,
 f11:=⟨Tryz.f187.name,by decide,Tryz.func187.trans (congrArg some (by kernel_rfl))⟩,
 f12:=⟨Tryz.f188.name,by decide,Tryz.func188.trans (congrArg some (by kernel_rfl))⟩,
 f13:=⟨Tryz.f189.name,by decide,Tryz.func189.trans (congrArg some (by kernel_rfl))⟩,
 f14:=⟨Tryz.f190.name,by decide,Tryz.func190.trans (congrArg some (by kernel_rfl))⟩,
 f15:=⟨Tryz.f191.name,by decide,Tryz.func191.trans (congrArg some (by kernel_rfl))⟩,
 f16:=⟨Tryz.f192.name,by decide,Tryz.func192.trans (congrArg some (by kernel_rfl))⟩,
 f17:=⟨Tryz.f193.name,by decide,Tryz.func193.trans (congrArg some (by kernel_rfl))⟩,
 f18:=⟨Tryz.f194.name,by decide,Tryz.func194.trans (congrArg some (by kernel_rfl))⟩,
 f19:=Tryz.func138.trans (congrArg some (by kernel_rfl)),
 f20:=Tryz.func139.trans (congrArg some (by kernel_rfl)),
 f30:=⟨Tryz.f197.name,by decide,Tryz.func197.trans (congrArg some (by kernel_rfl))⟩,
 f31:=Tryz.func156.trans (congrArg some (by kernel_rfl)),
 f32:=Tryz.func157.trans (congrArg some (by kernel_rfl)),
 f33:=⟨Tryz.f198.name,by decide,Tryz.func198.trans (congrArg some (by kernel_rfl))⟩,
 f34:=⟨Tryz.f199.name,by decide,Tryz.func199.trans (congrArg some (by kernel_rfl))⟩,
 f35:=⟨Tryz.f107.name,by decide,Tryz.func107.trans (congrArg some (by kernel_rfl))⟩,
 f40:=⟨Tryz.f200.name,by decide,Tryz.func200.trans (congrArg some (by kernel_rfl))⟩,
 t0:=Tryz.underlying0,
 a0:=Tryz.isAgg0,
 z0:=Tryz.sizeOf0,
 v0:=Tryz.zeroValue0,
 t3:=Tryz.underlying3,
 a3:=Tryz.isAgg3,
 z3:=Tryz.sizeOf3,
 v3:=Tryz.zeroValue3,
 t4:=Tryz.underlying4,
 a4:=Tryz.isAgg4,
 z4:=Tryz.sizeOf4,
 v4:=Tryz.zeroValue4,
 t5:=Tryz.underlying5,
 a5:=Tryz.isAgg5,
 z5:=Tryz.sizeOf5,
 v5:=Tryz.zeroValue5,
 t9:=Tryz.underlying9,
 a9:=Tryz.isAgg9,
 z9:=Tryz.sizeOf9,
 v9:=Tryz.zeroValue9,
 t22:=Tryz.underlying29,
 a22:=Tryz.isAgg29,
 z22:=Tryz.sizeOf29,
 v22:=Tryz.zeroValue29,
 t23:=Tryz.underlying29,
 a23:=Tryz.isAgg29,
 z23:=Tryz.sizeOf29,
 v23:=Tryz.zeroValue29,
 t25:=Tryz.underlying3,
 a25:=Tryz.isAgg3,
 z25:=Tryz.sizeOf3,
 v25:=Tryz.zeroValue3,
 t32:=Tryz.underlying122,
 a32:=Tryz.isAgg122,
 z32:=Tryz.sizeOf122,
 v32:=Tryz.zeroValue122,
 t35:=Tryz.underlying174,
 a35:=Tryz.isAgg174,
 z35:=Tryz.sizeOf174,
 v35:=Tryz.zeroValue174,
 t36:=Tryz.underlying175,
 a36:=Tryz.isAgg175,
 z36:=Tryz.sizeOf175,
 v36:=Tryz.zeroValue175,
 t41:=Tryz.underlying133,
 a41:=Tryz.isAgg133,
 z41:=Tryz.sizeOf133,
 v41:=Tryz.zeroValue133,
 t44:=Tryz.underlying121,
 a44:=Tryz.isAgg121,
 z44:=Tryz.sizeOf121,
 v44:=Tryz.zeroValue121,
 t46:=Tryz.underlying119,
 a46:=Tryz.isAgg119,
 z46:=Tryz.sizeOf119,
 v46:=Tryz.zeroValue119,
 t53:=Tryz.underlying194,
 a53:=Tryz.isAgg194,
 z53:=Tryz.sizeOf194,
 v53:=Tryz.zeroValue194,
 t57:=Tryz.underlying198,
 a57:=Tryz.isAgg198,
 z57:=Tryz.sizeOf198,
 v57:=Tryz.zeroValue198,
 t63:=Tryz.underlying221,
 a63:=Tryz.isAgg221,
 z63:=Tryz.sizeOf221,
 v63:=Tryz.zeroValue221,
 t64:=Tryz.underlying202,
 a64:=Tryz.isAgg202,
 z64:=Tryz.sizeOf202,
 v64:=Tryz.zeroValue202 }
theorem Tryz.sortsA (m:Nat):AnyZI.SortsIn Tryz.prog Tryz.sortedA_ren Fence.wide m :=
 ⟨fun blk off cap ss W hH hblk hsz=>callsIn_wide.2 (AnyM.slices_Sort_int Tryz.sortA blk off cap ss W hH hblk hsz),
 fun p cap W=>callsIn_wide.2 (AnyM.slices_Sort_int_none Tryz.sortA p cap W)⟩
theorem Tryz.keys106:Am.rB Tryz.prog 127 153:=fun W b =>
 ⟨fun w=>enters_of Tryz.func127 (by kernel_rfl) rfl _ w,(callsIn_wide (n:=5)).1 ((AnyZI.keys_in Tryz.keysB Fence.wide 5 trivial rfl (some b) W).mono (by rintro e w' ⟨rfl,rfl⟩; exact ⟨_,rfl,rfl⟩))⟩
theorem isort_perm:∀ l:List Int,(Am.fJ l).Perm l
 | []=>.nil
 | n::l=>by
  have h1:∀ (m:List Int),(Am.ins n m).Perm (n::m):=by
   intro m
   induction m with
   | nil=>exact .refl _
   | cons x m ih =>
    unfold Am.ins
    split
    ·exact .refl _
    ·exact (ih.cons x).trans (.swap n x m)
  exact (h1 _).trans ((isort_perm l).cons n)
theorem isort_sorted:∀ l:List Int,(Am.fJ l).Pairwise (fun a b=>a≤b)
 | []=>.nil
 | n::l=>by
  have h1:∀ (m:List Int),m.Pairwise (fun a b=>a≤b)→(Am.ins n m).Pairwise (fun a b=>a≤b):=by
   intro m
   induction m with
   | nil=>intro _; simp [Am.ins]
   | cons x m ih =>
    intro h
    unfold Am.ins
    have h':=List.pairwise_cons.1 h
    split
    ·rename_i hx
     exact List.pairwise_cons.2 ⟨fun a ha=>by
      rcases List.mem_cons.1 ha with rfl | ha
      ·exact hx
      ·exact Int.le_trans hx (h'.1 a ha),h⟩
    ·rename_i hx
     refine List.pairwise_cons.2 ⟨fun a ha=>?_,ih h'.2⟩
     have hp:(Am.ins n m).Perm (n::m):=by
      clear ih h h' ha
      induction m with
      | nil=>exact .refl _
      | cons y m ih =>
       unfold Am.ins
       split
       ·exact .refl _
       ·exact (ih.cons y).trans (.swap n y m)
     rcases List.mem_cons.1 (hp.mem_iff.1 ha) with rfl | ha
     ·omega
     ·exact h'.1 a ha
  exact h1 _ (isort_sorted l)
theorem xZ (ss ks:List Int) (h:ss.Perm ks):ss.mergeSort (fun x y=>decide (x≤y))=Am.fJ ks:=by
 have tr:∀ a b c:Int,decide (a≤b)=true→decide (b≤c)=true→decide (a≤c)=true:=fun a b c h1 h2=>by simp only [decide_eq_true_eq] at *; exact Int.le_trans h1 h2
 have to:∀ a b:Int,(decide (a≤b) || decide (b≤a))=true:=fun a b=>by simp only [Bool.or_eq_true,decide_eq_true_eq]; exact Int.le_total a b
 refine List.Perm.eq_of_pairwise (le:=fun a b=>decide (a≤b)=true) (fun a b _ _ h1 h2=>?_) (List.pairwise_mergeSort tr to ss) ((isort_sorted ks).imp fun h=>by simpa using h) (((List.mergeSort_perm ss _).trans h).trans (isort_perm ks).symm)
 simp only [decide_eq_true_eq] at h1 h2
 exact Int.le_antisymm h1 h2
theorem bAr {P:Program} {k:TypeId} (hk:P.underlying k=some (.int .i64)) {n:Int} (hn:Am.inr n=true):keyOf P k (.int .i64 n)=some (.int .i64 n):=by
 have hw:(Lit.int .i64 n).wf=true:=by
  have hmin:IntKind.i64.min=-9223372036854775808:=rfl
  have hmax:IntKind.i64.max=9223372036854775807:=rfl
  simp only [Am.inr,decide_eq_true_eq] at hn
  simp only [Lit.wf,Bool.and_eq_true,decide_eq_true_eq]
  omega
 simp [keyOf,hk,mapKey,hw]
set_option maxRecDepth 20000 in
theorem aIj (f g:FuncId) (T3:TypeId) (hk3:Tryz.prog.underlying T3=some (.int .i64)) (hent:∀ args w,(callFunc f args).run Tryz.prog w=.ok (.enter f args) w)
  (hS:∀ (lb:Array Value) (S:List Int→Prop) (N:Nat),N≤maxLen→N * 8≤140737488355328→∀ w,SeqGives Fence.wide 2 Tryz.prog g lb encZ S N w→CallsIn Fence.wide 5 Tryz.prog f #[.func (.func g) #[] lb] w fun e w' =>
   ∃ v ss,e=.returned v∧S ss∧w'.ownsRow w.heap.size T3 1 v ss.length ((ss.mergeSort fun x y=>decide (x≤y)).map encZ)∧(v=.slice none 0 0↔ss=[])∧Below w.heap.size w w')
  (hG:∀ (Bm b nn:Nat) (D0:DataW Unit) (R:Value→Option (DataW Unit × List MemPlace)) (w:World),Bm<w.heap.size→w.cell? ⟨Bm,0,none⟩=some (.map (some b))→w.ownsMap Tryz.prog T3 R b nn D0 →
   SeqGives Fence.wide 2 Tryz.prog g #[.pointer (some ⟨Bm,0,none⟩)] encZ (fun ss=>ss.Perm (intKeys D0)) (Maps.size D0) w):Am.kV Tryz.prog f g:=by
 intro W b p e ks ents clock hb hst hkeys hp hlen hr
 refine ⟨fun w=>hent _ w,(callsIn_wide (n:=5)).1 ?_⟩
 have hpl:p<W.heap.size:=(Array.getElem?_eq_some_iff.1 hp).1
 have hcell:W.cell? ⟨p,0,none⟩=some (.map (some b)):=by
  rw [show W.cell? ⟨p,0,none⟩=(#[Value.map (some b)]:Array Value)[0]? from cell_of_row W p 0 _ e (0,0) hp]; rfl
 have hsz:ents.size=ks.length:=by have:=congrArg List.length hkeys; simpa using this
 let R:Value→Option (DataW Unit × List MemPlace):=fun _=>some (.nil,[])
 have hrd:∀ x∈ents.toList,∃ n,n∈ks∧x.key=.int .i64 n∧WideElems.rd Tryz.prog T3 R x=some (.int .i64 n,.nil):=by
  intro x hx
  have:x.key∈ks.map (.int .i64 ·):=by rw [← hkeys]; exact List.mem_map_of_mem hx
  obtain ⟨n,hn,he⟩:=List.mem_map.1 this
  refine ⟨n,hn,he.symm,?_⟩
  simp [WideElems.rd,← he,bAr hk3 (List.all_eq_true.1 hr n hn),R]
 have hfit:WideElems.Fit Tryz.prog T3 R ents clock:=⟨by rw [hsz]; simp only [maxLen]; omega,hst,fun x hx=>let ⟨n,_,_,h⟩:=hrd x hx; ⟨_,h⟩⟩
 have hks2:∀ (l:List MapEntry) (k:List Int),l.map (·.key)=k.map (.int .i64 ·)→(∀ x∈l,∃ n,n∈ks∧x.key=.int .i64 n∧WideElems.rd Tryz.prog T3 R x=some (.int .i64 n,.nil))→(l.map (WideElems.rg Tryz.prog T3 R)).map (fun q=>Go.intOf q.1)=k:=by
  intro l
  induction l with
  | nil=>intro k hk _; cases k with
   | nil=>rfl
   | cons=>simp at hk
  | cons x l ih =>
   intro k hk h
   cases k with
   | nil=>simp at hk
   | cons m k =>
    simp only [List.map_cons,List.cons.injEq] at hk ⊢
    refine ⟨?_,ih k hk.2 fun y hy=>h y (List.mem_cons_of_mem _ hy)⟩
    obtain ⟨n,_,hxn,hxr⟩:=h x (List.mem_cons_self ..)
    rw [hxn] at hk
    have:=hk.1
    injection this with _ this
    simp [WideElems.rg,hxr,Go.intOf,this]
 have hD:(intKeys (.map ((ents.toList.map (WideElems.rg Tryz.prog T3 R)).foldr DataW.insert []))).Perm ks:=by
  show (((ents.toList.map (WideElems.rg Tryz.prog T3 R)).foldr DataW.insert []).map fun q=>Go.intOf q.1).Perm ks
  have h1:=(WideShapes.sorted_perm (ents.toList.map (WideElems.rg Tryz.prog T3 R))).map (fun q:Lit × DataW Unit=>Go.intOf q.1)
  rwa [hks2 _ ks hkeys hrd] at h1
 have hN:Maps.size (.map ((ents.toList.map (WideElems.rg Tryz.prog T3 R)).foldr DataW.insert []):DataW Unit)=ks.length:=by
  have:=hD.length_eq
  simpa [intKeys,Maps.size] using this
 have hseq:=hG p b ents.size (.map ((ents.toList.map (WideElems.rg Tryz.prog T3 R)).foldr DataW.insert [])) R W hpl hcell ⟨ents,clock,hb,hfit,Nat.le_refl _,rfl⟩
 rw [hN] at hseq
 refine (hS _ _ _ (by simp only [maxLen]; omega) (by omega) W hseq).mono ?_
 rintro e' w' ⟨v,ss,rfl,hperm,hrow,hnil,hbl⟩
 refine ⟨v,rfl,hbl,?_⟩
 rw [xZ ss ks (hperm.trans hD)] at hrow
 have hssl:ss.length=ks.length:=(hperm.trans hD).length_eq
 obtain ⟨hl,⟨rfl,h0⟩ | ⟨gg,cap,cur,rfl,hg,hheap,h1,h2,h3,h4⟩⟩:=hrow
 ·have:Am.fJ ks=[]:=by
   apply List.eq_nil_of_length_eq_zero
   simp at hl; omega
  rw [this]
  exact .sl0 _ _
 ·have hil:(Am.fJ ks).length=ss.length:=by simpa using hl
  refine .sl _ ⟨gg,0,none⟩ _ _ 1 (fun j=>.int .i64 ((Am.fJ ks).getD j 0)) (by simp [hil]) h1 (fun cs hcs=>by obtain ⟨n,_,rfl⟩:=List.mem_map.1 hcs; rfl) ⟨hg,(Array.getElem?_eq_some_iff.1 hheap).1⟩ (fun j hj=>?_) (fun j k cs c hj hk=>?_)
  ·rw [Am.nR,cell_of_row w' gg _ cur T3 (0,0) hheap,Nat.zero_add]
   have:cur.toList[j]? = ((Am.fJ ks).map encZ)[j]? := by
    rw [← h4,List.getElem?_take,if_pos (by omega)]
   rw [← Array.getElem?_toList,this,List.getElem?_map]
   have hj2:j<(Am.fJ ks).length:=by omega
   simp [List.getElem?_eq_getElem hj2,List.getD_eq_getElem?_getD]
  ·rw [List.getElem?_map] at hj
   obtain ⟨n,hn,rfl⟩:=Option.map_eq_some_iff.1 hj
   rcases k with _ | k
   ·simp at hk; subst hk
    simp only [Nat.mul_one,Nat.add_zero,List.getD_eq_getElem?_getD,hn,Option.getD_some]
    exact .i _ _
   ·simp at hk
set_option maxRecDepth 20000 in
set_option maxRecDepth 20000 in
theorem Tryz.sorted122:Am.kV Tryz.prog 126 153 :=
 aIj 126 153 3 (by kernel_rfl) (fun args w=>enters_of Tryz.func126 (by kernel_rfl) rfl args w)
  (fun lb S N h1 h2 w hs=>AnyZI.sorted_in Tryz.sortedA Fence.wide 5 trivial trivial trivial trivial rfl (by omega) (Tryz.sortsA _) (enters_of Tryz.func152 (by kernel_rfl) rfl) 153 lb trivial (enters_of Tryz.func153 (by kernel_rfl) rfl) S N h1 h2 w hs)
  (fun Bm b nn D0 R w h1 h2 h3=>AnyZI.keys_gives (ρ:=Tryz.keysB_ren) { Tryz.keysB with } Fence.wide _ trivial rfl (by omega) Bm b nn D0 w h1 h2 h3)
end Go.Proofs
end

section
set_option linter.unusedVariables false
set_option linter.unusedSimpArgs false
open Go Go.Am Go.Proofs
namespace Go.Am
def bJv (els:List (List D)):Bool:=els.all (fun cs=>match cs with | [d]=>one (.d d) | _=>false) && decide (els.length≤1099511627776)
set_option maxRecDepth 10000 in
theorem aEv (els:List (List D)) (h:bJv els=true):Spec Tryz.prog 103 [.sl els] (.sl els):=by
 have hone:∀ els:List (List D),els.all (fun cs=>match cs with | [d]=>one (.d d) | _=>false)=true→(els.flatten.map AV.d).all one=true∧els.flatten.length=els.length∧fF 1 els=true ∧
   chunk 1 els.length els.flatten=els:=by
  intro els h
  have key:∃ ds:List D,els=ds.map (fun d=>[d])∧(ds.map AV.d).all one=true:=by
   induction els with
   | nil=>exact ⟨[],rfl,rfl⟩
   | cons c l ih =>
    simp only [List.all_cons,Bool.and_eq_true] at h
    obtain ⟨ds,hds,hd1⟩:=ih h.2
    have h1:=h.1
    split at h1
    ·rename_i d; exact ⟨d::ds,by rw [hds]; rfl,by simp only [List.map_cons,List.all_cons,Bool.and_eq_true]; exact ⟨h1,hd1⟩⟩
    ·cases h1
  obtain ⟨ds,rfl,hd1⟩:=key
  have hfl:(ds.map (fun d=>[d])).flatten=ds:=by simp [← List.flatMap_def]
  rw [hfl]
  refine ⟨hd1,by simp,by cases ds <;> simp [fF],?_⟩
  simp only [chunk,List.length_map]
  refine List.ext_getElem (by simp) fun i h1 h2=>?_
  simp at h1 h2
  simp [List.take_one,List.head?_drop,h1]
 simp only [bJv,Bool.and_eq_true,decide_eq_true_eq] at h
 obtain ⟨q1,q2,q3,q4⟩:=hone els h.1
 refine aY (N:=8) aF Tryz.func103 rfl rfl rfl (by kernel_rfl) (by kernel_rfl) (by simp) ?_
 show AWP Tryz.prog (.seq _ (.seq (.seq _ (.cond _ _ _)) (.seq (.region _ _ _) _))) _ _
 have hb:∀ b,nQ (.d (.sl els))=some b→b=none∧els=[]∨b=some false:=by
  intro b hb
  cases els with
  | nil=>simp [nQ] at hb; exact .inl ⟨hb.symm,rfl⟩
  | cons=>simp [nQ] at hb; exact .inr hb.symm
 have hl:els.length≤1099511627776:=h.2
 have e1:(els.flatten.map AV.d).length=els.length:=by rw [List.length_map]; exact q2
 cases els with
 | nil =>
  simp [AWP,OW,O1,dO,kind,nev,oev,St0,cv,cv1,bO,upd,iN,cnt,fin,Γ0,aKc,eK,nQ,aTw,aT,yB,wG,fF,lF,mW,lC,gN,Tryz.f103,Option.bind,kill,chunk,Value.cells,Value.oneCell',jI,qC,eF,dT,maxLen,frz]
 | cons x l =>
  generalize hE:x::l=els at *
  have hn:nQ (.d (.sl els))=some (some false):=by rw [← hE]; rfl
  have m1:∀ (H:Nat→Option HO) n,(els.flatten.map AV.d).mapM (frz H (n+1))=some els.flatten:=fun H n=>kS H n _
  have m2:∀ l,(els.flatten.map AV.d).map (eF l)=els.flatten.map AV.d:=fun l=>rL l _
  have hsrc:∀ H,wG H 1 (.d (.sl els))=some (els.length,els.flatten.map AV.d):=fun H=>by
   simp only [wG]; rw [if_pos ⟨q3,q1⟩]
  generalize els.flatten.map AV.d=cs at *
  generalize els.flatten=fl at *
  have m3:cs.map (fun x=>eF [1] x)=cs:=m2 [1]
  have p1:els.length * 4≤140737488355328:=by omega
  have p2:els.length≤9223372036854775807:=by omega
  have e2:cs.take els.length=cs:=by rw [← e1]; exact List.take_length
  simp [AWP,OW,O1,dO,kind,nev,oev,St0,cv,cv1,bO,upd,iN,cnt,fin,Γ0,aKc,eK,hn,aTw,aT,yB,hsrc,lF,mW,lC,gN,Tryz.f103,kill,Value.cells,Value.oneCell',jI,qC,maxLen,p1,p2]
  simp [eF,iB,dT,e1,e2,m2,m1,q4]
theorem bKt:kJ Tryz.prog 93:=by
 refine ⟨fun w=>enters_of Tryz.func93 (by kernel_rfl) rfl _ w,fun w=>?_⟩
 refine callsD_of_wpS Tryz.func93 rfl fun c₀ cs hu=>?_
 apply wpS_region
 simp [wpOpsS,go_sem,recoverD,hu,Tryz.ntmps93,bodyPostS,results,Tryz.results93]
 cases c₀; simp only at hu; subst hu; rfl
theorem aYe:kJ Tryz.prog 108:=by
 refine ⟨fun w=>enters_of Tryz.func108 (by kernel_rfl) rfl _ w,fun w=>?_⟩
 refine callsD_of_wpS Tryz.func108 rfl fun c₀ cs hu=>?_
 apply wpS_region
 simp [wpOpsS,go_sem,recoverD,hu,Tryz.ntmps108,bodyPostS,results,Tryz.results108]
 cases c₀; simp only at hu; subst hu; rfl
def E0:Kn where
 call:=fun f ds=>if f=103 then (match ds with | [.sl els]=>if bJv els then some (.sl els) else none | _=>none) else none
 ocall:=fun _ _ _ _=>none
 keys:=fun f=>if f=127 then some 153 else none
 sorted:=fun f g=>f == 126 && g == 153
 recs:=fun g=>[
  93,
  108,
  ].contains g
theorem bEp:aDc Tryz.prog E0:=by
 refine ⟨fun f ds r h=>?_,fun f h o ds o' r h'=>(by cases h'),fun f g h=>?_,fun f g h=>?_,fun g h=>?_⟩
 ·simp only [E0] at h
  split at h
  ·rename_i hf; subst hf
   split at h
   ·split at h
    ·rename_i hc; injection h with h; subst h; exact aEv _ hc
    ·cases h
   ·cases h
  ·cases h
 ·simp only [E0] at h
  split at h
  ·rename_i hf; subst hf; injection h with h; subst h; exact Tryz.keys106
  ·cases h
 ·simp only [E0,Bool.and_eq_true,beq_iff_eq] at h
  obtain ⟨rfl,rfl⟩:=h
  exact Tryz.sorted122
 ·simp only [E0,List.contains_eq_mem,decide_eq_true_eq] at h
  simp only [List.mem_cons,List.not_mem_nil,or_false] at h
  rcases h with rfl | rfl | rfl | rfl | rfl | rfl | rfl | rfl
  ·exact bKt
  ·exact aYe
end Go.Am
end

section
set_option linter.unusedVariables false
set_option linter.unusedSimpArgs false
namespace Go.Am
attribute [simp] bJq bCm bQy aOy aR aUt bNq aTw nQ St0 bAh aYb bIc bGj bBh aUo gN aPb aLs bHu sD bJx bJw aNs bIg bIf bAj
 bAn bAk nT rF aHy bFf bLx aFp aWg aPr zL List.flatMap_nil rL bHv aKn aRa aZy kY aKa bCs bJy bHi aTv bHh aZl bNf aZj bGu aCq
 aGh aZk bHg aNj aGj aGi aNi aZg bNe bNk bNj bNd bNc aZi aNh aNd bRv bRx bPg bRw aFv aWy lB aCa hJ bPz bQa
 bHc bHd bRn bRo bJp aVi bJz bKa bCw bNa bNb bHa bMz bMy bGz bGy bGx bGw bMv bMx bMw aVn aVm aOt aOs aOr aOq aVj
 aVl aVo aOv bKg bDy bFl aWj bAx aVq aTp aTo bAf bId bAe bAd aOf aUv aNv aUm aNu aNw aUn bOz bDl bCz
 bDf bDd bDc bDk bDe bDg bDh bDi bDj bDb bDa aVs bFj bFk aTx aZp bNw bNv bIm bIp bRa bQz bNs bNu bNr bFy aSv aXf
 aSw aSu aSt aXh aXi aXk aXl aXg aXm aMy aSx aMz aMx aMw aIn aWs aWt bFq aWr aFu aNg aJp bDu aYu bKe
 aTm aTn bDt bDs aUg aUi aZx aMq aSq aYa aTb aXz bAp bAo aVx aVw bCp bCo aTi aTj dJ aUu aOe aOd
 aMu aSs aFl bLs qI tX iB bBs bIt bNz bOa lS cV aFy aDi aId aIc aMm bFm bMc dV gO iU aWp bFo aLl
 aGx
theorem KW:type_of% (And.intro @aLo (And.intro @xR (And.intro @aSa (And.intro @aFc (And.intro @aLp (And.intro @aSb (And.intro @aFa (And.intro @aEy (And.intro @aFb (And.intro @aEz (And.intro @nF (And.intro @aJl (And.intro @aJk (And.intro @aQr (And.intro @xG (And.intro @aEa (And.intro @aQq (And.intro @aJz (And.intro @aZf (And.intro @aJx (And.intro @sT (And.intro @uH (And.intro @aAf (And.intro @aJy (And.intro @aQp (And.intro @aAh (And.intro @uJ (And.intro @aJu (And.intro @uI (And.intro @aAg (And.intro @aJt (And.intro @aZe (And.intro @aZd (And.intro @aZc (And.intro @aQs (And.intro @aDx (And.intro @aJs (And.intro @uG (And.intro @aDy (And.intro @aEb (And.intro @aDz (@aQt)))))))))))))))))))))))))))))))))))))))))) :=
 And.intro @aLo (And.intro @xR (And.intro @aSa (And.intro @aFc (And.intro @aLp (And.intro @aSb (And.intro @aFa (And.intro @aEy (And.intro @aFb (And.intro @aEz (And.intro @nF (And.intro @aJl (And.intro @aJk (And.intro @aQr (And.intro @xG (And.intro @aEa (And.intro @aQq (And.intro @aJz (And.intro @aZf (And.intro @aJx (And.intro @sT (And.intro @uH (And.intro @aAf (And.intro @aJy (And.intro @aQp (And.intro @aAh (And.intro @uJ (And.intro @aJu (And.intro @uI (And.intro @aAg (And.intro @aJt (And.intro @aZe (And.intro @aZd (And.intro @aZc (And.intro @aQs (And.intro @aDx (And.intro @aJs (And.intro @uG (And.intro @aDy (And.intro @aEb (And.intro @aDz (@aQt)))))))))))))))))))))))))))))))))))))))))
end Go.Am
end

section
set_option linter.unusedVariables false
set_option linter.unusedSimpArgs false
namespace Go.Am
open RowKit (Below)
def OA (P:Program) (ops:Array Oper) (k:St→Prop):Nat→Array Bool→St→Prop
 | 0,listed,σ=>Region.ready .any ops listed=[]∧k σ
 | fuel+1,listed,σ=>(Region.ready .any ops listed=[]→k σ)∧∀ i∈Region.ready .any ops listed,match ops[i]? with
   | none=>OA P ops k fuel (listed.setIfInBounds i true) σ
   | some o=>OW P ops [o] σ [] fun σ' con=>OA P ops k fuel (listed.setIfInBounds i true) (fin σ' con)
section
variable {P:Program} {G:Ctx} {N:Nat} {ds:List Deferred} {ops:Array Oper}
theorem aCl {Q:St→Prop} {Q':Exit→Act→World→Prop} (hno:oW ops.toList=true) (hdst:∀ (i:Nat) (o:Oper) (d:Tmp),ops[i]? = some o→o.dst=some d→d<N∧G.Z d=none) (hQ:∀ σ a w,Q σ→SR G N ds σ a w→Q' .normal a w) :
  ∀ (fuel:Nat) (listed:Array Bool) (σ:St) (a:Act) (w:World),SR G N ds σ a w→OA P ops Q fuel listed σ→wpA P ops Q' fuel listed a w
 | 0,_,σ,a,w,hs,h=>⟨h.1,hQ σ a w h.2 hs⟩
 | fuel+1,listed,σ,a,w,hs,h=>by
  refine ⟨fun h0=>hQ σ a w (h.1 h0) hs,fun i hi=>?_⟩
  have h1:=h.2 i hi
  split
  ·rename_i ho
   simp only [ho] at h1
   exact aCl hno hdst hQ fuel _ σ a w hs h1
  ·rename_i o ho
   simp only [ho] at h1
   obtain ⟨hn0,hwf,hag⟩:=vS hs
   obtain ⟨fb,hfb⟩:=rA (G:=G) [o] σ [] (by
    have h0:o∈ops.toList:=by rw [Array.mem_toList_iff]; exact Array.mem_of_getElem? ho
    have:=List.all_eq_true.1 hno o h0
    simpa [oW] using this) hn0 hwf h1
   obtain ⟨g1,g2⟩:=hag (fun i=>if i<σ.n then σ.H i else fb i) (fun i o hi=>by
    rcases Nat.lt_or_ge i σ.n with hlt | hge
    ·rw [if_pos hlt]; exact hi
    ·rw [hwf.top i hge] at hi; cases hi)
   obtain ⟨s',hd,σ',con',hoa,hn',hwf',hag'⟩:=hfb _ g1 (fun i hi=>by simp only; rw [if_neg (by omega)])
   exact tM (K:=wpA P ops Q' fuel (listed.setIfInBounds i true)) (Q':=Q') hd (fun d h=>hdst i o d ho h) g2 fun a' w' hr'=>aCl hno hdst hQ fuel _ _ a' w' (aHh hn' hwf' hag' hr') hoa
def bRu (P:Program):Code→St→(St→Prop)→Prop
 | .region _ ops true,σ,k=>OA P ops k ops.size (Array.replicate ops.size false) σ
 | _,_,_=>False
def aWa (P:Program):Code→St→(Exit→St→Prop)→Prop
 | .seq x (.seq y z),σ,Q=>AWP P x σ fun e σ'=>match e with | .normal=>aWa P (.seq y z) σ' Q | e=>Q e σ'
 | .seq x .ret,σ,Q=>bRu P x σ (Q .ret)
 | _,_,_=>False
def qX (P:Program):Code→Bool
 | .seq x (.seq y z)=>dS P x && qX P (.seq y z)
 | .seq (.region _ ops true) .ret=>oW ops.toList
 | _=>false
theorem aPm (hm:P.follows .mixedOrders=true) (hZ:∀ d,G.Z d=none):∀ (c:Code) (Q:Exit→St→Prop) (σ:St) (a:Act) (w:World),dL N c=true→qX P c=true→aWa P c σ Q→SR G N ds σ a w →
  c.wp P (fun e a' w'=>∃ σ',Q e σ'∧SR G N ds σ' a' w') a w:=by
 intro c
 induction c with
 | seq x y ihx ihy =>
  intro Q σ a w hd hl h hs
  simp only [dL,Bool.and_eq_true] at hd
  cases y with
  | seq y z =>
   simp only [qX,Bool.and_eq_true] at hl
   refine wp_seq (wp_mono (gW hm hZ x _ σ a w hd.1 hl.1 h hs) ?_)
   rintro e a' w' ⟨σ',hq,hs'⟩
   cases e with
   | normal=>exact ihy Q σ' a' w' hd.2 hl.2 hq hs'
   | _=>exact ⟨σ',hq,hs'⟩
  | ret =>
   unfold qX at hl
   split at hl
   ·rename_i he; cases he
   ·rename_i id ops he
    injection he with he1 _; subst he1
    have h':OA P ops (Q .ret) ops.size (Array.replicate ops.size false) σ:=h
    refine wp_seq ((WpR.plain P).regA hm (fun e=>by cases e) (aCl (Q:=Q .ret) (N:=N) (ds:=ds) (G:=G) hl (fun i o d hi hd'=>⟨qG hd.1 i o d hi hd',hZ d⟩) (fun σ' a' w' hq hs'=>?_) _ _ σ _ _ ?_ h'))
    ·exact wp_ret ⟨σ',hq,hs'⟩
    ·obtain ⟨q1,q2,F,ι,hR,hdom,hV,hN,hds,hp⟩:=hs
     have hs:Step F w ι F { w with drawn:=w.drawn+1 } ι:=⟨fun _ h=>h,fun _ _=>rfl,fun _ _ h=>h,fun _ _ cur _ _ h=>⟨cur,h,rfl⟩⟩
     refine ⟨q1,q2,F,ι,⟨hR.kept.trans ⟨rfl,rfl,rfl,Nat.le_refl _,fun _ _ _=>rfl,fun _ cur _ _ h=>⟨cur,h,rfl⟩⟩,hR.F_lt,hR.F_ok,hR.place,fun id b o h1 h2=>?_,hR.inj,hR.len⟩,hdom,fun t=>(hV t).step hs,hN,hds,hp⟩
     obtain ⟨ob,h3,h4⟩:=hR.obj id b o h1 h2
     exact ⟨ob,h3,h4.step hs⟩
   ·cases hl
  | _=>exact h.elim
 | _=>intro Q σ a w _ _ h; exact h.elim
theorem aWw {f N:Nat} {fn:Func} {c:Code} {args:List D} {r:D} (hm:P.follows .mixedOrders=true) (hf:P.funcs[f]? = some fn) (hb:fn.body=some c) (hname:(fn.name == "runtime.NumGoroutine")=false) (hN:fn.ntmps=N)
  (hd:dL N c=true) (hl':qX P c=true) (ha:args.length≤N) (h:aWa P c (St0 args N) fun e σ=>(e=.normal∨e=.ret)∧mW P fn.results.toList σ=some r):Spec P f args r:=by
 intro A W vs hA hl hv
 have hn:¬ fn.name = "runtime.NumGoroutine" := by simpa using hname
 refine ⟨fun w=>by simp [callFunc,hf,hn,hb],?_⟩
 refine calls_of_wp hf hb ?_
 subst hN
 refine wp_mono (aPm hm (fun _=>rfl) c _ _ _ _ hd hl' h (SR0 hA hl hv ha)) ?_
 rintro e a w ⟨σ,⟨he,hr⟩,hs⟩
 obtain ⟨v,hrun,hvd⟩:=jJ hs hr
 obtain ⟨_,_,F,ι,hR,_,_,_,hdf,_⟩:=hs
 have hend:a.defers=[]∧∃ v,(results fn a.tmps).run P w=.ok v w∧∃ v',Ending.returned v=.returned v'∧Below W.heap.size W w∧VD (fun b=>A b∨(W.heap.size≤b∧b<w.heap.size)) w r v':=by
  refine ⟨hdf,v,hrun,v,rfl,⟨hR.kept.os,hR.kept.tape,hR.kept.output,hR.kept.size,fun k hk=>hR.kept.block k hk (fun h=>h)⟩,hvd.mono ?_⟩
  rintro b (h | h | h)
  ·exact .inl h
  ·exact h.elim
  ·exact .inr h
 rcases he with rfl | rfl <;> exact hend
def OAd (P:Program) (ops:Array Oper) (k:St→Prop) (fuel:Nat) (listed:Array Bool) (σ:St) (_:Dm (ops,k)):Prop:=OA P ops k fuel listed σ
theorem aN (x y z:Code) (σ:St) (Q:Exit→St→Prop):aWa P (.seq x (.seq y z)) σ Q=AWP P x σ fun e σ'=>match e with | .normal=>aWa P (.seq y z) σ' Q | e=>Q e σ':=rfl
theorem aO (id:Nat) (l:List Oper) (σ:St) (Q:Exit→St→Prop):aWa P (.seq (.region id l.toArray true) .ret) σ Q=OAd P l.toArray (Q .ret) l.length (Array.replicate l.length false) σ .mk:=rfl
theorem bS {k:St→Prop} {fuel:Nat} {listed:Array Bool} {σ:St} {d:Dm (ops,k)} (i:Nat) {o:Oper} (hr:Region.ready .any ops listed=[i]) (ho:ops[i]? = some o)
  (h:OWd P ops [o] σ [] (fun σ' con=>aDd σ' con (fun σ2=>OAd P ops k fuel (listed.setIfInBounds i true) σ2 .mk) .mk) .mk):OAd P ops k (fuel+1) listed σ d:=by
 refine ⟨fun e=>(by rw [hr] at e; cases e),fun j hj=>?_⟩
 rw [hr] at hj
 simp only [List.mem_singleton] at hj
 subst hj
 simp only [ho]; exact h
theorem lL {k:St→Prop} {fuel:Nat} {listed:Array Bool} {σ:St} {d:Dm (ops,k)} (i j:Nat) {o o':Oper} (hr:Region.ready .any ops listed=[i,j]) (ho:ops[i]? = some o) (ho':ops[j]? = some o')
  (h:OWd P ops [o] σ [] (fun σ' con=>aDd σ' con (fun σ2=>OAd P ops k fuel (listed.setIfInBounds i true) σ2 .mk) .mk) .mk)
  (h':OWd P ops [o'] σ [] (fun σ' con=>aDd σ' con (fun σ2=>OAd P ops k fuel (listed.setIfInBounds j true) σ2 .mk) .mk) .mk):OAd P ops k (fuel+1) listed σ d:=by
 refine ⟨fun e=>(by rw [hr] at e; cases e),fun m hm=>?_⟩
 rw [hr] at hm
 simp only [List.mem_cons,List.mem_nil_iff,or_false] at hm
 rcases hm with rfl | rfl
 ·simp only [ho]; exact h
 ·simp only [ho']; exact h'
theorem gY {k:St→Prop} {listed:Array Bool} {σ:St} {d:Dm (ops,k)} (hr:Region.ready .any ops listed=[]) (h:k σ):OAd P ops k 0 listed σ d:=⟨hr,h⟩
end
end Go.Am
end

section
set_option linter.unusedVariables false
set_option linter.unusedSimpArgs false
namespace Go.Am
open RowKit (Below)
variable {P:Program}
theorem aXo {G:Ctx} {fn:Func} {σ:St} {a:Act} {w:World} {rv:ResultVar} {av:AV} {F:Nat→Prop} {ι:Nat→Option Nat} (hR:HR G F w ι bR σ.H) (hV:∀ t,V F w ι (σ.Γ t) (a.tmps.getD t undef)) (hres:fn.results.toList=[rv]) (h:lC P σ rv=some av) :
  ∃ v,(results fn a.tmps).run P w=.ok v w∧V F w ι av v:=by
 cases rv with
 | cell ad t=>exact bGb hR hV hres h
 | tmp t =>
  simp only [lC,Option.some.injEq] at h
  subst h
  refine ⟨a.tmps.getD t undef,?_,hV t⟩
  have h1':([ResultVar.tmp t].mapM (m:=Sem) fun | .tmp t=>pure (a.tmps.getD t undef) | .cell ad t=>do loadVar t (← asAddr (a.tmps.getD ad undef))).run P w=.ok [a.tmps.getD t undef] w:=by
   simp only [List.mapM_cons,List.mapM_nil,Sem.run_bind,Result.andThen_ok,Sem.run_pure]
  simp only [results,Array.mapM_eq_mapM_toList,Sem.run_bind,Sem.run_map,hres]
  erw [h1']
  simp
theorem lD {f N:Nat} {fn:Func} {c:Code} {args:List D} {v:Nat→AV} {hs:Nat→List HO} {rv:ResultVar} (hm:P.follows .mixedOrders=true) (hf:P.funcs[f]? = some fn) (hb:fn.body=some c) (hname:(fn.name == "runtime.NumGoroutine")=false)
  (hN:fn.ntmps=N) (hN0:0<N) (hd:dL N c=true) (hl':dS P c=true) (ha:args.length≤N) (hres:fn.results.toList=[rv])
  (h:AWP P c (St0 args N) fun e σ=>(e=.normal∨e=.ret)∧dE (lC P σ rv) (fun av=>∀ m,0<m→∃ ρ,Wk ⟨upd σ.Γ 0 av,σ.H,σ.n⟩ (fA v hs m) ρ) .mk):oN P f args v hs:=by
 intro A W vs hA hl hv
 have hn:¬ fn.name = "runtime.NumGoroutine" := by simpa using hname
 refine ⟨fun w=>by simp [callFunc,hf,hn,hb],?_⟩
 refine calls_of_wp hf hb ?_
 subst hN
 refine wp_mono (gW hm (fun _=>rfl) c _ _ _ _ hd hl' h (SR0 hA hl hv ha)) ?_
 rintro e a w ⟨σ,⟨he,hr⟩,hs1⟩
 obtain ⟨htop,hn0,F,ι,hR,hdom,hV,hN2,hdf,hp⟩:=hs1
 cases hav:lC P σ rv with
 | none=>rw [hav] at hr; exact hr.elim
 | some av =>
 rw [hav] at hr
 simp only [dE] at hr
 obtain ⟨u,hrun,hvu⟩:=aXo hR hV hres hav
 have hput:SR ⟨W,A,bR,fun _=>True,fun _=>none⟩ fn.ntmps [] ⟨upd σ.Γ 0 av,σ.H,σ.n⟩ (a.put (some 0) u) w:=by
  refine ⟨htop,hn0,F,ι,hR,hdom,fun t'=>?_,⟨by simp [Act.put,hN2.1],fun _ _ h=>by cases h⟩,by simp [Act.put,hdf],hp⟩
  rw [jA a (some 0) u (fun d hd=>by injection hd with hd; subst hd; rw [hN2.1]; exact hN0) t']
  by_cases e0:t'=0
  ·subst e0; rw [if_pos rfl]; simp only [cG]; exact hvu
  ·rw [if_neg (fun e=>e0 (by injection e with e; exact e.symm))]; simp only; rw [cU _ _ e0]; exact hV t'
 have hend:a.defers=[]∧∃ u,(results fn a.tmps).run P w=.ok u w∧∃ u',Ending.returned u=.returned u'∧Below W.heap.size W w∧∀ m,0<m→∃ (F:Nat→Prop) (ι:Nat→Option Nat),
   (∀ b,F b→A b∨(W.heap.size≤b∧b<w.heap.size))∧V F w ι (v m) u'∧(∀ id,(∃ b,ι id=some b)↔(m≤id∧id<m+(hs m).length)) ∧
   (∀ id b,ι id=some b→W.heap.size≤b∧b<w.heap.size∧¬ F b) ∧
   (∀ i o b,(hs m)[i]? = some o→ι (m+i)=some b→∃ ob,w.heap[b]? = some ob∧CR F w ι o ob) ∧
   (∀ id id' b,ι id=some b→ι id'=some b→id=id'):=by
  refine ⟨hdf,u,hrun,u,rfl,⟨hR.kept.os,hR.kept.tape,hR.kept.output,hR.kept.size,fun k hk=>hR.kept.block k hk (fun h=>h)⟩,fun m hm0=>?_⟩
  obtain ⟨ρ,hw⟩:=hr m hm0
  obtain ⟨_,_,F2,ι2,hR2,hdom2,hV2,_,_,_⟩:=zE hw hput
  have hout:∀ id,((fA v hs m).H id).isSome=true↔(m≤id∧id<m+(hs m).length):=fun id=>by
   simp only [fA,eS]
   by_cases hr:m≤id∧id<m+(hs m).length
   ·rw [if_pos hr,List.getElem?_eq_getElem (by omega)]; simp [hr]
   ·rw [if_neg hr]; simp [hr]
  refine ⟨F2,ι2,fun b hb'=>?_,?_,fun id=>by rw [hdom2,hout],fun id b hb'=>?_,fun i o b ho hb'=>?_,fun id id' b e1 e2=>hR2.inj id id' b e1 e2 (fun h=>h) (fun h=>h)⟩
  ·rcases hR2.F_ok b hb' with h | h | h
   ·exact .inl h
   ·exact h.elim
   ·exact .inr ⟨h,hR2.F_lt b hb'⟩
  ·have:=hV2 0
   rw [jA a (some 0) u (fun d hd=>by injection hd with hd; subst hd; rw [hN2.1]; exact hN0) 0,if_pos rfl] at this
   simpa [fA,cG] using this
  ·obtain ⟨q1,q2,q3⟩:=hR2.place id b hb'
   rcases q1 with q1 | q1
   ·exact q1.elim
   ·exact ⟨q1,q2,q3 (fun h=>h)⟩
  ·have hi:=(List.getElem?_eq_some_iff.1 ho).1
   refine hR2.obj (m+i) b o hb' ?_
   simp only [fA,eS]
   rw [if_pos ⟨by omega,by omega⟩,show m+i - m=i by omega]; exact ho
 rcases he with rfl | rfl <;> exact hend
end Go.Am
end

section
set_option linter.unusedVariables false
set_option linter.unusedSimpArgs false
open List (map_map mapM_map)
open Go Go.Am Go.Proofs
namespace Go.Am
theorem pJ {raw:List Nat} {n:Nat} (hn:n<raw.length) (h0:raw[n]≠0):strip (raw.take (n+1))=raw.take (n+1):=by
 refine qB ?_
 rw [List.take_add_one,List.getElem?_eq_getElem hn,mV,Option.toList_some,List.getLast?_append]
 simp [h0]
theorem pI {raw:List Nat} {n:Nat} (hn:n<raw.length) (h0:raw[n]=0):strip (raw.take (n+1))=strip (raw.take n):=by
 rw [List.take_add_one,List.getElem?_eq_getElem hn,h0]
 exact zT _
set_option maxRecDepth 10000 in
theorem fT (raw:List Nat) (neg:Bool) (hl:raw.length≤1099511627776):Spec Tryz.prog 78 [aG raw,.b neg] (encI (neg && decide (strip raw≠[])) (strip raw)):=by
 refine aY (N:=31) aF Tryz.func78 rfl rfl rfl (by kernel_rfl) (by kernel_rfl) (by simp) ?_
 simp [-map_map,-mapM_map,↓KW,aG]
 refine qM (τ:={ n:Nat // n≤raw.length∧strip (raw.take n)=strip raw }) (S:=fun n=>StL [(0,.d (aG raw)),(1,.d (.b neg)),(4,.ptr 1 0),(5,.d (.i .i64 n.1))] none [.cells 69 [.d (.b false),.nil]]) (m:=fun n=>n.1) ⟨raw.length,Nat.le_refl _,by simp⟩ ?_ ?_
 ·refine bC [1] (by simp) ?_ ?_
  ·simp [-map_map,upd,aT,Γ0,aG]
  ·simp [-map_map,upd,aT,Γ0]
 ·rintro ⟨n,hn,hs⟩
  rcases n with _ | n
  ·have hs':strip raw=[]:=hs.symm
   cases neg <;> simp [-map_map,-mapM_map,↓KW,aG,encI,hs',chunk]
  ·have hx:raw[n]? = some raw[n]:=List.getElem?_eq_getElem hn
   have hw:IntKind.i64.wrap (n:Int)=n:=aS (by omega) (by omega)
   have hp:(0:Int)<(n:Int)+1:=by omega
   by_cases h0:raw[n]=0
   ·simp [-map_map,-mapM_map,↓KW,aG,hx,hw,h0,hp]
    refine ⟨n,by omega,⟨by omega,(pI hn h0).symm.trans hs⟩,.inr (bC [1] (by simp) ?_ ?_)⟩ <;> simp [-map_map,upd,aT,Γ0,aG]
   ·have h1:((raw[n]:Int) == 0)=false:=by simp; omega
    have he:strip raw=raw.take (n+1):=hs.symm.trans (pJ hn h0)
    have hp2:(0:Int)≤(n:Int)+1:=by omega
    have hn':(n:Int)+1≤raw.length:=by omega
    obtain ⟨pre,hpre⟩:∃ pre,raw.take (n+1)=pre:=⟨_,rfl⟩
    have hpl:pre.length=n+1:=by rw [← hpre]; simp; omega
    have hp1:∀ f:Nat→List D,(raw.map f).take (n+1)=pre.map f:=fun f=>by rw [← hpre,List.map_take]
    have hpn:pre≠[]:=fun e=>by rw [e] at hpl; cases hpl
    rw [hpre] at he
    have hb:(n+1) * 4≤140737488355328:=by omega
    have hb2:n+1≤maxLen:=by unfold maxLen; omega
    cases neg <;> simp [-map_map,-mapM_map,↓KW,aG,encI,hx,hw,h1,hp,hp2,he,hn',hp1,hpl,hpn,fK hpl,dP hpl,aKn,aRa,kY,hb,hb2]
theorem dR {raw:List Nat} (h:Lim raw) (neg:Bool):encI (neg && decide (strip raw≠[])) (strip raw)=encZ (sg neg (val raw)):=by
 rw [gJ h,← bJm]
 simp [fP]
set_option maxRecDepth 10000 in
theorem uC (n:Int) (h1:-9223372036854775808≤n) (h2:n<9223372036854775808):Spec Tryz.prog 28 [.i .i64 n] (encZ n):=by
 refine aY (N:=19) aF Tryz.func28 rfl rfl rfl (by kernel_rfl) (by kernel_rfl) (by simp) ?_
 have key:∀ (u:Nat),u<18446744073709551616→∃ lo hi:Nat,Lim [lo,hi]∧val [lo,hi]=u∧IntKind.u32.wrap (u:Int)=lo∧jD .shr .u64 (u:Int) 32=some (.i .u64 hi)∧IntKind.u32.wrap (hi:Int)=hi:=fun u hu=>by
  refine ⟨u % 4294967296,u / 4294967296,.cons (by omega) (.one (by omega)),by simp only [val]; omega,by rw [gS]; omega,?_,by rw [iX (by omega) (by omega)]⟩
  simp only [jD,IntKind.bits]
  rw [if_neg (by decide)]
  congr 2
  rw [show (2:Int) ^ (min (32:Int).toNat 64)=4294967296 from by decide,Int.fdiv_eq_ediv_of_nonneg _ (by decide)]
  omega
 by_cases hn:n<0
 ·obtain ⟨u,hu⟩:∃ u:Nat,n=-(u:Int):=⟨n.natAbs,by omega⟩
  have hu2:u<18446744073709551616:=by omega
  have e1:IntKind.u64.wrap n=n+18446744073709551616:=by rw [vV]; omega
  have e2:IntKind.u64.wrap (-(n+18446744073709551616))=(u:Int):=by rw [vV]; omega
  obtain ⟨lo,hi,k1,k2,e3,e4,e5⟩:=key u hu2
  simp [-map_map,-mapM_map,↓KW,hn,e1,e2,e3,e4,e5]
  have hm:=fT [lo,hi] true (by simp)
  rw [dR k1,k2,show sg true u=n by simp [sg]; omega] at hm
  refine aA (ds:=[aG [lo,hi],.b true]) ?_ hm ?_
  ·simp [-map_map,-mapM_map,↓KW,aG]
  ·simp [-map_map,-mapM_map,↓KW,aG,encZ,encI]
 ·obtain ⟨u,rfl⟩:∃ u:Nat,n=(u:Int):=⟨n.natAbs,by omega⟩
  have hu2:u<18446744073709551616:=by omega
  have e1:IntKind.u64.wrap (u:Int)=u:=bK (by omega) (by omega)
  obtain ⟨lo,hi,k1,k2,e3,e4,e5⟩:=key u hu2
  simp [-map_map,-mapM_map,↓KW,hn,e1,e3,e4,e5]
  have hm:=fT [lo,hi] false (by simp)
  rw [dR k1,k2,show sg false u=u by simp [sg]] at hm
  refine aA (ds:=[aG [lo,hi],.b false]) ?_ hm ?_
  ·simp [-map_map,-mapM_map,↓KW,aG]
  ·simp [-map_map,-mapM_map,↓KW,aG,encZ,encI]
end Go.Am
end

section
set_option linter.unusedVariables false
set_option linter.unusedSimpArgs false
open List (map_map mapM_map)
open Go Go.Am Go.Proofs
namespace Go.Am
set_option maxRecDepth 10000 in
theorem bGs (neg:Bool) (m:List Nat):Spec Tryz.prog 63 [encI neg m] (.i .i64 (if m=[] then 0 else if neg then -1 else 1)):=by
 refine aY (N:=9) aF Tryz.func63 rfl rfl rfl (by kernel_rfl) (by kernel_rfl) (by simp) ?_
 cases m with
 | nil=>simp [-map_map,-mapM_map,↓KW,encI,aG]
 | cons x m =>
  have h1:(((m.length:Int)+1 == 0):Bool)=false:=by simp; omega
  cases neg <;> simp [-map_map,-mapM_map,↓KW,encI,aG,h1]
theorem eJ (z:Int):Spec Tryz.prog 63 [encZ z] (.i .i64 z.sign):=by
 have:=bGs (decide (z<0)) (aV z.natAbs)
 have e:(if aV z.natAbs=[] then (0:Int) else if (decide (z<0))=true then -1 else 1)=z.sign:=by
  simp only [fP]
  rcases Int.lt_trichotomy z 0 with h | h | h
  ·rw [if_neg (by omega),if_pos (by simpa using h),Int.sign_eq_neg_one_of_neg h]
  ·subst h; rfl
  ·rw [if_neg (by omega),if_neg (by simp; omega),Int.sign_eq_one_of_pos h]
 rwa [e] at this
set_option maxRecDepth 10000 in
theorem aYp (neg:Bool) (m:List Nat) (hl:m.length≤1099511627776):Spec Tryz.prog 96 [encI neg m] (.b (match m.getLast? with | some x=>x != 0 | none=>!neg)):=by
 refine aY (N:=19) aF Tryz.func96 rfl rfl rfl (by kernel_rfl) (by kernel_rfl) (by simp) ?_
 rcases List.eq_nil_or_concat m with rfl | ⟨m',x,rfl⟩
 ·simp [-map_map,-mapM_map,↓KW,encI,aG]
 ·have hw:IntKind.i64.wrap (m'.length:Int)=m'.length:=by simp at hl; rw [aS] <;> omega
  have h1:(((m'.length:Int)+1 == 0):Bool)=false:=by simp; omega
  have hg:(List.map (fun (x:Nat)=>[D.i .u32 (x:Int)]) m'++[[D.i .u32 (x:Int)]])[m'.length]? = some [D.i .u32 (x:Int)]:=by
   rw [List.getElem?_append_right (by simp)]; simp
  simp [-map_map,-mapM_map,↓KW,encI,aG,hw,h1,hg]
  rw [Bool.eq_iff_iff]; simp
theorem aDn (z:Int) (hl:(aV z.natAbs).length≤1099511627776):Spec Tryz.prog 96 [encZ z] (.b true):=by
 have:=aYp (decide (z<0)) (aV z.natAbs) hl
 have e:(match (aV z.natAbs).getLast? with | some x=>x != 0 | none=>!(decide (z<0)))=true:=by
  have hc:=mR z.natAbs
  unfold mV at hc
  cases h:(aV z.natAbs).getLast? with
  | none =>
   have:=fP.1 (List.getLast?_eq_none_iff.1 h)
   simp; omega
  | some x=>rw [h] at hc; simpa using hc
 rwa [e] at this
def oC (a b:List Nat):Bool:=if a.length=b.length then decide (val a<val b) else decide (a.length<b.length)
theorem jE (x y:Nat):oC (aV x) (aV y)=decide (x<y):=by
 unfold oC
 by_cases h:(aV x).length=(aV y).length
 ·rw [if_pos h,cQ,cQ]
 ·rw [if_neg h]
  by_cases h1:(aV x).length<(aV y).length
  ·simp [h1,iQ h1]
  ·have:=iQ (a:=y) (b:=x) (by omega)
   simp only [h1,decide_false]
   simp; omega
set_option maxRecDepth 10000 in
theorem yO (a b:List Nat) (ha:Lim a) (hb:Lim b) (hla:a.length≤1099511627776) (hlb:b.length≤1099511627776):Spec Tryz.prog 97 [aG a,aG b] (.b (oC a b)):=by
 refine aY (N:=41) aF Tryz.func97 rfl rfl rfl (by kernel_rfl) (by kernel_rfl) (by simp) ?_
 by_cases hn:a.length=b.length
 rotate_left
 ·have h1:(((a.length:Int) != b.length):Bool)=true:=by simp; omega
  simp [-map_map,-mapM_map,↓KW,aG,h1,oC,hn]
 ·have h1:(((a.length:Int) != b.length):Bool)=false:=by simp; omega
  have hw:IntKind.i64.wrap ((a.length:Int) - 1)=(a.length:Int) - 1:=aS (by omega) (by omega)
  simp [-map_map,-mapM_map,↓KW,aG,h1,hw]
  refine qM (τ:={ k:Nat // k≤a.length∧a.drop k=b.drop k }) (S:=fun k=>StL [(0,.d (aG a)),(1,.d (aG b)),(5,.d (.i .i64 ((k.1:Int) - 1)))] none []) (m:=fun k=>k.1) ⟨a.length,Nat.le_refl _,by rw [List.drop_eq_nil_of_le (Nat.le_refl _),List.drop_eq_nil_of_le (by omega)]⟩ ?_ ?_
  ·refine bC [] (by simp) ?_ ?_ <;> simp [-map_map,upd,aT,Γ0,aG]
  ·rintro ⟨k,hk,hd⟩
   rcases k with _ | k
   ·have e:a=b:=by simpa using hd
    subst e
    simp [-map_map,-mapM_map,↓KW,aG,oC]
   ·have hkb:k<b.length:=by omega
    have hxa:a[k]? = some a[k]:=List.getElem?_eq_getElem hk
    have hxb:b[k]? = some b[k]:=List.getElem?_eq_getElem hkb
    have hw2:IntKind.i64.wrap ((k:Int) - 1)=(k:Int) - 1:=aS (by omega) (by omega)
    have hp:(0:Int)≤k:=by omega
    by_cases he:a[k]=b[k]
    ·have h2:(((a[k]:Int) != (b[k]:Int)):Bool)=false:=by simp [he]
     simp [-map_map,-mapM_map,↓KW,aG,hxa,hxb,hw2,hp,h2]
     refine ⟨k,by omega,⟨by omega,?_⟩,.inr (bC [] (by simp) ?_ ?_)⟩
     ·rw [List.drop_eq_getElem_cons hk,List.drop_eq_getElem_cons hkb,he,hd]
     ·simp [-map_map,upd,aT,Γ0,aG]
     ·trivial
    ·have h2:(((a[k]:Int) != (b[k]:Int)):Bool)=true:=by simp; omega
     simp [-map_map,-mapM_map,↓KW,aG,hxa,hxb,hw2,hp,h2,oC,hn]
     have ga:a.getD k 0=a[k]:=by rw [List.getD_eq_getElem?_getD,hxa]; rfl
     have gb:b.getD k 0=b[k]:=by rw [List.getD_eq_getElem?_getD,hxb]; rfl
     rcases Nat.lt_or_ge a[k] b[k] with hlt | hge
     ·have:=rG ha (i:=k) hn hk hd (by rw [ga,gb]; exact hlt)
      simp [hlt,this]
     ·have:=rG hb (i:=k) hn.symm hkb hd.symm (by rw [ga,gb]; omega)
      omega
set_option maxRecDepth 10000 in
theorem aYq (x y:Int) (hx:(aV x.natAbs).length≤1099511627776) (hy:(aV y.natAbs).length≤1099511627776):Spec Tryz.prog 53 [encZ x,encZ y] (.b (decide (x=y))):=by
 refine aY (N:=26) aF Tryz.func53 rfl rfl rfl (by kernel_rfl) (by kernel_rfl) (by simp) ?_
 have l1:=yO _ _ (cD x.natAbs) (cD y.natAbs) hx hy
 have l2:=yO _ _ (cD y.natAbs) (cD x.natAbs) hy hx
 rw [jE] at l1 l2
 unfold encZ encI
 generalize aV x.natAbs=a at *
 generalize aV y.natAbs=b at *
 by_cases hs:decide (x<0)=decide (y<0)
 rotate_left
 ·have h1:(decide (x<0) == decide (y<0))=false:=by simpa using hs
  have h2:¬ x=y:=fun e=>hs (by rw [e])
  simp [-map_map,-mapM_map,↓KW,aG,h1,h2]
 ·have h1:(decide (x<0) == decide (y<0))=true:=by simpa using hs
  simp [-map_map,-mapM_map,↓KW,aG,h1]
  refine aA (ds:=[aG a,aG b]) (by rfl) l1 ?_
  by_cases h3:x.natAbs<y.natAbs
  ·have h2:¬ x=y:=fun e=>by rw [e] at h3; omega
   simp [-map_map,-mapM_map,↓KW,aG,h3,h2]
  ·simp [-map_map,-mapM_map,↓KW,aG,h3]
   refine aA (ds:=[aG b,aG a]) (by rfl) l2 ?_
   simp [-map_map,-mapM_map,↓KW,aG]
   have hs':x<0↔y<0:=by simpa using hs
   rw [Bool.eq_iff_iff]
   simp
   omega
end Go.Am
end

section
set_option linter.unusedVariables false
set_option linter.unusedSimpArgs false
open List (map_map mapM_map)
open Go Go.Am Go.Proofs
namespace Go.Am
def plS (a b:List Nat):Nat→List Nat × Nat
 | 0=>([],0)
 | i+1=>((plS a b i).1++[((plS a b i).2+a.getD i 0+b.getD i 0) % 4294967296],((plS a b i).2+a.getD i 0+b.getD i 0) / 4294967296)
theorem lU {a b:List Nat} (ha:Lim a) (hb:Lim b):∀ i,(plS a b i).1.length=i∧(plS a b i).2≤1∧Lim (plS a b i).1∧val (plS a b i).1+4294967296 ^ i * (plS a b i).2=val (a.take i)+val (b.take i)
 | 0=>⟨rfl,Nat.zero_le _,.nil,by simp [plS,val]⟩
 | i+1=>by
  obtain ⟨h1,h2,h3,h4⟩:=lU ha hb i
  have ha':=ha.getD i
  have hb':=hb.getD i
  simp only [plS]
  generalize (plS a b i).1=out at *
  generalize (plS a b i).2=c at *
  refine ⟨by simp [h1],by omega,h3.app (.one (by omega)),?_⟩
  rw [lP,cX,cX,h1,Nat.pow_succ]
  simp only [val]
  have h5:4294967296 ^ i * ((c+a.getD i 0+b.getD i 0) % 4294967296)+4294967296 ^ i * 4294967296 * ((c+a.getD i 0+b.getD i 0) / 4294967296)=4294967296 ^ i * c+4294967296 ^ i * a.getD i 0+4294967296 ^ i * b.getD i 0:=by
   rw [Nat.mul_assoc,← Nat.mul_add,Nat.mod_add_div,Nat.mul_add,Nat.mul_add]
  simp only [Nat.mul_zero,Nat.add_zero]
  omega
def plN (a b:List Nat):Nat:=if (plS a b (max a.length b.length)).2=0 then max a.length b.length else max a.length b.length+1
def xE (a b:List Nat):List Nat:=(plS a b (plN a b)).1
theorem getD_none {l:List Nat} {i:Nat} (h:¬ i<l.length):l.getD i 0=0:=by rw [List.getD_eq_getElem?_getD,List.getElem?_eq_none (by omega)]; rfl
theorem aDs {a b:List Nat} (ha:Lim a) (hb:Lim b) {i:Nat} (h1:a.length≤i) (h2:b.length≤i):(plS a b (i+1)).2=0:=by
 have h:=(lU ha hb i).2.1
 show ((plS a b i).2+a.getD i 0+b.getD i 0) / 4294967296=0
 rw [getD_none (l:=a) (by omega),getD_none (l:=b) (by omega)]
 omega
theorem aJi {a b:List Nat} (ha:Lim a) (hb:Lim b) {i:Nat} (h1:a.length≤i) (h2:b.length≤i) (hc:(plS a b i).2=0):val (plS a b i).1=val a+val b:=by
 have h:=(lU ha hb i).2.2.2
 rw [List.take_of_length_le h1,List.take_of_length_le h2,hc,Nat.mul_zero,Nat.add_zero] at h
 exact h
theorem aTl {a b:List Nat} (ha:Lim a) (hb:Lim b):val (xE a b)=val a+val b∧Lim (xE a b)∧(xE a b).length≤max a.length b.length+1:=by
 unfold xE plN
 have h1:a.length≤max a.length b.length:=by omega
 have h2:b.length≤max a.length b.length:=by omega
 generalize max a.length b.length=M at *
 by_cases hc:(plS a b M).2=0
 ·rw [if_pos hc]
  have h:=lU ha hb M
  exact ⟨aJi ha hb h1 h2 hc,h.2.2.1,by rw [h.1]; omega⟩
 ·rw [if_neg hc]
  have h:=lU ha hb (M+1)
  exact ⟨aJi ha hb (by omega) (by omega) (aDs ha hb h1 h2),h.2.2.1,by rw [h.1]; exact Nat.le_refl _⟩
theorem getD_some {l:List Nat} {i:Nat} (h:i<l.length):l[i]? = some (l.getD i 0):=by rw [List.getD_eq_getElem?_getD,List.getElem?_eq_getElem h]; rfl
set_option maxRecDepth 10000 in
theorem bGr (a b:List Nat) (ha:Lim a) (hb:Lim b) (hla:a.length≤1099511627776) (hlb:b.length≤1099511627776):Spec Tryz.prog 112 [aG a,aG b] (aG (xE a b)):=by
 refine aY (N:=55) aF Tryz.func112 rfl rfl rfl (by kernel_rfl) (by kernel_rfl) (by simp) ?_
 simp [-map_map,-mapM_map,↓KW,aG]
 refine aU (fun i:Nat=>i≤max a.length b.length∨(i=max a.length b.length+1∧(plS a b (max a.length b.length)).2≠0))
  (fun i=>StL [(0,.d (aG a)),(1,.d (aG b)),(5,.own 1 0 i 1),(6,.d (.i .u64 (plS a b i).2)),(7,.d (.i .i64 i))] none [.cells 121 ((lms (plS a b i).1).map .d)]) (fun i=>max a.length b.length+1 - i) 0 (.inl (Nat.zero_le _)) ?_ ?_
 ·refine bC [1] (by simp) ?_ ?_ <;> simp [-map_map,upd,aT,Γ0,aG,plS,lms]
 ·intro i hi
  obtain ⟨hlen,hc,_,_⟩:=lU ha hb i
  have hsucc:plS a b (i+1)=((plS a b i).1++[((plS a b i).2+a.getD i 0+b.getD i 0) % 4294967296],((plS a b i).2+a.getD i 0+b.getD i 0) / 4294967296):=rfl
  have hstop:(i<a.length∨i<b.length∨0<(plS a b i).2)∨i=plN a b:=by
   unfold plN
   rcases hi with hi | ⟨hi,hc⟩
   ·by_cases h1:i=max a.length b.length
    ·subst h1
     by_cases h2:(plS a b (max a.length b.length)).2=0
     ·rw [if_pos h2]; exact .inr rfl
     ·exact .inl (.inr (.inr (by omega)))
    ·exact .inl (by omega)
   ·rw [if_neg hc]; exact .inr hi
  have hnext:(i<a.length∨i<b.length∨0<(plS a b i).2)→i≤max a.length b.length∧(i+1≤max a.length b.length∨(i+1=max a.length b.length+1∧(plS a b (max a.length b.length)).2≠0)):=by
   intro h
   rcases hi with hi | ⟨hi,hc2⟩
   ·refine ⟨hi,?_⟩
    by_cases h1:i=max a.length b.length
    ·subst h1; exact .inr ⟨rfl,by omega⟩
    ·exact .inl (by omega)
   ·exfalso
    have e:(plS a b i).2=0:=by
     rw [hi]; exact aDs ha hb (by omega) (by omega)
    omega
  have hal:=ha.getD i
  have hbl:=hb.getD i
  have hres:i=plN a b→(plS a b i).1=xE a b:=fun e=>by rw [e]; rfl
  generalize hout:(plS a b i).1=out at *
  generalize hcar:(plS a b i).2=c at *
  by_cases hgo:i<a.length∨i<b.length∨0<c
  ·obtain ⟨hi1,hi2⟩:=hnext hgo
   have hb1:(i+1) * 4≤140737488355328:=by omega
   have hb2:i+1≤maxLen:=by unfold maxLen; omega
   have hw7:IntKind.i64.wrap ((i:Int)+1)=(i:Int)+1:=aS (by omega) (by omega)
   have hpos:(0:Int)≤i:=by omega
   obtain ⟨s1,hs1⟩:∃ s1:Nat,c+a.getD i 0=s1:=⟨_,rfl⟩
   obtain ⟨s2,hs2⟩:∃ s2:Nat,s1+b.getD i 0=s2:=⟨_,rfl⟩
   rw [hs1,hs2] at hsucc
   have hw1:IntKind.u64.wrap ((c:Int)+((a.getD i 0:Nat):Int))=s1:=by rw [bK (by omega) (by omega)]; omega
   have hw2:IntKind.u64.wrap ((s1:Int)+((b.getD i 0:Nat):Int))=s2:=by rw [bK (by omega) (by omega)]; omega
   have hwa:IntKind.u64.wrap ((a.getD i 0:Nat):Int)=((a.getD i 0:Nat):Int):=bK (by omega) (by omega)
   have hwb:IntKind.u64.wrap ((b.getD i 0:Nat):Int)=((b.getD i 0:Nat):Int):=bK (by omega) (by omega)
   obtain ⟨lo,hlo⟩:∃ lo:Nat,s2 % 4294967296=lo:=⟨_,rfl⟩
   obtain ⟨hi',hhi⟩:∃ hi':Nat,s2 / 4294967296=hi':=⟨_,rfl⟩
   have hw3:IntKind.u32.wrap (s2:Int)=lo:=by rw [gS]; omega
   have hw4:IntKind.u64.wrap ((s2:Int).tdiv 4294967296)=hi':=by
    rw [Int.tdiv_eq_ediv_of_nonneg (by omega),bK (by omega) (by omega)]; omega
   have hw4':IntKind.u64.wrap ((s2:Int) / 4294967296)=hi':=by rw [bK (by omega) (by omega)]; omega
   rw [hlo,hhi] at hsucc
   have hcase:(a.getD i 0=0∧¬ i<a.length)∨i<a.length:=by
    by_cases h:i<a.length
    ·exact .inr h
    ·exact .inl ⟨getD_none h,h⟩
   have hcase2:(b.getD i 0=0∧¬ i<b.length)∨i<b.length:=by
    by_cases h:i<b.length
    ·exact .inr h
    ·exact .inl ⟨getD_none h,h⟩
   rcases hcase with ⟨ha0,han⟩ | han <;> rcases hcase2 with ⟨hb0,hbn⟩ | hbn
   ·have q1:¬ (i:Int)<a.length:=by omega
    have q2:¬ (i:Int)<b.length:=by omega
    have q3:0<c:=by omega
    rw [ha0] at hs1; rw [hb0] at hs2
    have e2:s2=c:=by omega
    rw [e2] at hw3 hw4 hw4'
    simp [-map_map,-mapM_map,↓KW,aG,q1,q2,q3,hw3,hw4,hw7,hb1,hb2,hlen]
    refine aK (i+1) hi2 ?_ (bC [3] (by simp) ?_ ?_)
    ·omega
    ·simp [-map_map,upd,aT,Γ0,aG,hsucc,fO,fU,hw4']
    ·simp [-map_map,upd,aT,Γ0,aG,hsucc,fO,fU]
   ·have q1:¬ (i:Int)<a.length:=by omega
    have q2:(i:Int)<b.length:=by omega
    rw [ha0] at hs1
    have e1:s1=c:=by omega
    have g2:=getD_some hbn
    rw [e1] at hw2
    generalize b.getD i 0=y at *
    simp [-map_map,-mapM_map,↓KW,aG,q1,q2,g2,hwb,hw2,hw3,hw4,hw7,hb1,hb2,hlen]
    refine aK (i+1) hi2 ?_ (bC [3] (by simp) ?_ ?_)
    ·omega
    ·simp [-map_map,upd,aT,Γ0,aG,hsucc,fO,fU,hw4']
    ·simp [-map_map,upd,aT,Γ0,aG,hsucc,fO,fU]
   ·have q1:(i:Int)<a.length:=by omega
    have q2:¬ (i:Int)<b.length:=by omega
    rw [hb0] at hs2
    have e2:s2=s1:=by omega
    have g1:=getD_some han
    rw [e2] at hw3 hw4 hw4'
    generalize a.getD i 0=x at *
    simp [-map_map,-mapM_map,↓KW,aG,q1,q2,g1,hwa,hw1,hw3,hw4,hw7,hb1,hb2,hlen]
    refine aK (i+1) hi2 ?_ (bC [3] (by simp) ?_ ?_)
    ·omega
    ·simp [-map_map,upd,aT,Γ0,aG,hsucc,fO,fU,hw4']
    ·simp [-map_map,upd,aT,Γ0,aG,hsucc,fO,fU]
   ·have q1:(i:Int)<a.length:=by omega
    have q2:(i:Int)<b.length:=by omega
    have g1:=getD_some han
    have g2:=getD_some hbn
    generalize a.getD i 0=x at *
    generalize b.getD i 0=y at *
    simp [-map_map,-mapM_map,↓KW,aG,q1,q2,g1,g2,hwa,hwb,hw1,hw2,hw3,hw4,hw7,hb1,hb2,hlen]
    refine aK (i+1) hi2 ?_ (bC [3] (by simp) ?_ ?_)
    ·omega
    ·simp [-map_map,upd,aT,Γ0,aG,hsucc,fO,fU,hw4']
    ·simp [-map_map,upd,aT,Γ0,aG,hsucc,fO,fU]
  ·have e:=hstop.resolve_left hgo
   have h1:¬ (i:Int)<a.length:=by omega
   have h2:¬ (i:Int)<b.length:=by omega
   have h3:c=0:=by omega
   have h4:=hres e
   subst h3
   simp [-map_map,-mapM_map,↓KW,aG,h1,h2,hlen,fK hlen,dP hlen,← h4]
end Go.Am
end

section
set_option linter.unusedVariables false
set_option linter.unusedSimpArgs false
open List (map_map mapM_map)
open Go Go.Am Go.Proofs
namespace Go.Am
def miS (a b:List Nat):Nat→List Nat × Nat
 | 0=>([],0)
 | i+1=>if (miS a b i).2+b.getD i 0≤a.getD i 0 then ((miS a b i).1++[a.getD i 0 - ((miS a b i).2+b.getD i 0)],0) else ((miS a b i).1++[a.getD i 0+4294967296 - ((miS a b i).2+b.getD i 0)],1)
theorem aEf {p o vb va x y c z:Nat} (h4:o+vb=va+p * c) (hx:x=z+(c+y)):o+p * z+(vb+p * y)=va+p * x:=by
 subst hx; rw [Nat.mul_add,Nat.mul_add]; omega
theorem aUe {p o vb va x y c z k:Nat} (h4:o+vb=va+p * c) (hx:x+k=z+(c+y)):o+p * z+(vb+p * y)=va+p * x+p * k:=by
 have:=aEf (p:=p) (x:=x+k) h4 hx
 rw [Nat.mul_add] at this; omega
theorem bHq {p va vb i:Nat} {out:List Nat} {c x y z:Nat} (hz:x=z+(c+y)) (hl:z<4294967296) (h1:out.length=i) (hp:4294967296 ^ i=p) (h3:Lim out) (h4:val out+vb=va+p * c) :
  (out++[z]).length=i+1∧Lim (out++[z])∧val (out++[z])+(vb+p * y)=va+p * x:=by
 refine ⟨by simp [h1],h3.app (.one hl),?_⟩
 simp only [lP,val,Nat.mul_zero,Nat.add_zero,h1,hp]
 exact aEf h4 hz
theorem bHr {p va vb i:Nat} {out:List Nat} {c x y z k:Nat} (hz:x+k=z+(c+y)) (hl:z<4294967296) (h1:out.length=i) (hp:4294967296 ^ i=p) (h3:Lim out) (h4:val out+vb=va+p * c) :
  (out++[z]).length=i+1∧Lim (out++[z])∧val (out++[z])+(vb+p * y)=va+p * x+p * k:=by
 refine ⟨by simp [h1],h3.app (.one hl),?_⟩
 simp only [lP,val,Nat.mul_zero,Nat.add_zero,h1,hp]
 exact aUe h4 hz
theorem aKh (a b:List Nat) (i:Nat):miS a b (i+1)=if (miS a b i).2+b.getD i 0≤a.getD i 0 then ((miS a b i).1++[a.getD i 0 - ((miS a b i).2+b.getD i 0)],0) else ((miS a b i).1++[a.getD i 0+4294967296 - ((miS a b i).2+b.getD i 0)],1):=rfl
theorem bDp {a b:Nat} (q:Nat) (h:a=b):a=b+q * 0:=by rw [Nat.mul_zero,Nat.add_zero]; exact h
theorem bDo {a b:Nat} (q:Nat) (h:a=b+q):a=b+q * 1:=by rw [Nat.mul_one]; exact h
theorem aGl {a b:List Nat} (ha:Lim a) (hb:Lim b) (i:Nat):(miS a b i).1.length=i∧(miS a b i).2≤1∧Lim (miS a b i).1∧val (miS a b i).1+val (b.take i)=val (a.take i)+4294967296 ^ i * (miS a b i).2:=by
 induction i with
 | zero=>exact ⟨rfl,Nat.zero_le _,.nil,by simp [miS,val]⟩
 | succ i ih =>
  obtain ⟨h1,h2,h3,h4⟩:=ih
  have hx:=ha.getD i
  have hy:=hb.getD i
  rw [cX,cX,Nat.pow_succ,aKh]
  generalize (miS a b i).1=out at *
  generalize (miS a b i).2=c at *
  generalize a.getD i 0=x at *
  generalize b.getD i 0=y at *
  generalize hp:4294967296 ^ i=p at *
  by_cases h:c+y≤x
  ·rw [if_pos h]
   obtain ⟨z,hz,hz'⟩:∃ z,x - (c+y)=z∧x=z+(c+y):=⟨_,rfl,(Nat.sub_add_cancel h).symm⟩
   rw [hz]; clear hz
   obtain ⟨q1,q2,q3⟩:=bHq hz' (by omega) h1 hp h3 h4
   exact ⟨q1,Nat.zero_le _,q2,bDp _ q3⟩
  ·rw [if_neg h]
   obtain ⟨z,hz,hz'⟩:∃ z,x+4294967296 - (c+y)=z∧x+4294967296=z+(c+y):=⟨_,rfl,(Nat.sub_add_cancel (by omega)).symm⟩
   rw [hz]; clear hz
   obtain ⟨q1,q2,q3⟩:=bHr hz' (by omega) h1 hp h3 h4
   exact ⟨q1,Nat.le_refl _,q2,bDo _ q3⟩
def jY (a b:List Nat):List Nat:=(miS a b a.length).1
theorem oZ {a b:List Nat} (ha:Lim a) (hb:Lim b) (hl:b.length≤a.length) (hv:val b≤val a):val (jY a b)=val a - val b∧Lim (jY a b)∧(jY a b).length=a.length:=by
 obtain ⟨h1,h2,h3,h4⟩:=aGl ha hb a.length
 rw [List.take_of_length_le hl,List.take_of_length_le (Nat.le_refl _)] at h4
 refine ⟨?_,h3,h1⟩
 have hlt:=pX h3
 rw [h1] at hlt
 unfold jY
 generalize (miS a b a.length).1=out at *
 generalize (miS a b a.length).2=c at *
 rcases Nat.lt_or_ge 0 c with hc | hc
 ·have:c=1:=by omega
  rw [this,Nat.mul_one] at h4; omega
 ·have:c=0:=by omega
  rw [this,Nat.mul_zero] at h4; omega
set_option maxRecDepth 10000 in
theorem aJb (a b:List Nat) (ha:Lim a) (hb:Lim b) (hla:a.length≤1099511627776) (_hlb:b.length≤1099511627776):Spec Tryz.prog 113 [aG a,aG b] (aG (jY a b)):=by
 refine aY (N:=44) aF Tryz.func113 rfl rfl rfl (by kernel_rfl) (by kernel_rfl) (by simp) ?_
 simp [-map_map,-mapM_map,↓KW,aG]
 refine aU (fun i:Nat=>i≤a.length)
  (fun i=>StL [(0,.d (aG a)),(1,.d (aG b)),(5,.own 1 0 i 1),(6,.d (.i .i64 (miS a b i).2)),(7,.d (.i .i64 i))] none [.cells 121 ((lms (miS a b i).1).map .d)]) (fun i=>a.length - i) 0 (Nat.zero_le _) ?_ ?_
 ·refine bC [1] (by simp) ?_ ?_ <;> simp [-map_map,upd,aT,Γ0,aG,miS,lms]
 ·intro i hi
  obtain ⟨hlen,hc,_,_⟩:=aGl ha hb i
  have hsucc:miS a b (i+1)=if (miS a b i).2+b.getD i 0≤a.getD i 0 then ((miS a b i).1++[a.getD i 0 - ((miS a b i).2+b.getD i 0)],0) else ((miS a b i).1++[a.getD i 0+4294967296 - ((miS a b i).2+b.getD i 0)],1):=rfl
  have hal:=ha.getD i
  have hbl:=hb.getD i
  have hres:i=a.length→(miS a b i).1=jY a b:=fun e=>by rw [e]; rfl
  generalize hout:(miS a b i).1=out at *
  generalize hcar:(miS a b i).2=c at *
  by_cases hgo:i<a.length
  ·have hb1:(i+1) * 4≤140737488355328:=by omega
   have hb2:i+1≤maxLen:=by unfold maxLen; omega
   have hw7:IntKind.i64.wrap ((i:Int)+1)=(i:Int)+1:=aS (by omega) (by omega)
   have q1:(i:Int)<a.length:=by omega
   have g1:=getD_some hgo
   have hb0:¬ i<b.length→b.getD i 0=0:=getD_none
   have g2:i<b.length→b[i]? = some (b.getD i 0):=getD_some
   generalize a.getD i 0=x at *
   generalize b.getD i 0=y at *
   have hwx:IntKind.i64.wrap (x:Int)=x:=aS (by omega) (by omega)
   have hwy:IntKind.i64.wrap (y:Int)=y:=aS (by omega) (by omega)
   obtain ⟨d1,hd1⟩:∃ d1:Int,(x:Int) - c=d1:=⟨_,rfl⟩
   obtain ⟨d,hd⟩:∃ d:Int,d1 - y=d:=⟨_,rfl⟩
   have hw1:IntKind.i64.wrap ((x:Int) - c)=d1:=by rw [aS (by omega) (by omega)]; exact hd1
   have hw2:IntKind.i64.wrap (d1 - y)=d:=by rw [aS (by omega) (by omega)]; exact hd
   by_cases hneg:d<0
   ·rw [if_neg (by omega)] at hsucc
    obtain ⟨lo,hlo⟩:∃ lo:Nat,x+4294967296 - (c+y)=lo:=⟨_,rfl⟩
    rw [hlo] at hsucc
    have hw3:IntKind.i64.wrap (d+4294967296)=lo:=by rw [aS (by omega) (by omega)]; omega
    have hw4:IntKind.u32.wrap (lo:Int)=lo:=iX (by omega) (by omega)
    by_cases hbn:i<b.length
    ·have q2:(i:Int)<b.length:=by omega
     have g3:=g2 hbn
     simp [-map_map,-mapM_map,↓KW,aG,q1,q2,g1,g3,hwx,hwy,hw1,hw2,hw3,hw4,hneg,hw7,hb1,hb2,hlen]
     refine aK (i+1) hgo ?_ (bC [3] (by simp) ?_ ?_)
     ·omega
     ·simp [-map_map,upd,aT,Γ0,aG,hsucc,fO,fU]
     ·simp [-map_map,upd,aT,Γ0,aG,hsucc,fO,fU]
    ·have q2:¬ (i:Int)<b.length:=by omega
     have e1:d1=d:=by have:=hb0 hbn; omega
     rw [e1] at hw1
     simp [-map_map,-mapM_map,↓KW,aG,q1,q2,g1,hwx,hw1,hw3,hw4,hneg,hw7,hb1,hb2,hlen]
     refine aK (i+1) hgo ?_ (bC [3] (by simp) ?_ ?_)
     ·omega
     ·simp [-map_map,upd,aT,Γ0,aG,hsucc,fO,fU]
     ·simp [-map_map,upd,aT,Γ0,aG,hsucc,fO,fU]
   ·rw [if_pos (by omega)] at hsucc
    obtain ⟨lo,hlo⟩:∃ lo:Nat,x - (c+y)=lo:=⟨_,rfl⟩
    rw [hlo] at hsucc
    have e0:d=lo:=by omega
    rw [e0] at hw2 hneg
    have hw4:IntKind.u32.wrap (lo:Int)=lo:=iX (by omega) (by omega)
    by_cases hbn:i<b.length
    ·have q2:(i:Int)<b.length:=by omega
     have g3:=g2 hbn
     simp [-map_map,-mapM_map,↓KW,aG,q1,q2,g1,g3,hwx,hwy,hw1,hw2,hw4,hneg,hw7,hb1,hb2,hlen]
     refine aK (i+1) hgo ?_ (bC [3] (by simp) ?_ ?_)
     ·omega
     ·simp [-map_map,upd,aT,Γ0,aG,hsucc,fO,fU]
     ·simp [-map_map,upd,aT,Γ0,aG,hsucc,fO,fU]
    ·have q2:¬ (i:Int)<b.length:=by omega
     have e1:d1=lo:=by have:=hb0 hbn; omega
     rw [e1] at hw1
     simp [-map_map,-mapM_map,↓KW,aG,q1,q2,g1,hwx,hw1,hw4,hneg,hw7,hb1,hb2,hlen]
     refine aK (i+1) hgo ?_ (bC [3] (by simp) ?_ ?_)
     ·omega
     ·simp [-map_map,upd,aT,Γ0,aG,hsucc,fO,fU]
     ·simp [-map_map,upd,aT,Γ0,aG,hsucc,fO,fU]
  ·have e:i=a.length:=by omega
   have h1:¬ (i:Int)<a.length:=by omega
   have h4:=hres e
   simp [-map_map,-mapM_map,↓KW,aG,h1,hlen,fK hlen,dP hlen,← h4]
set_option maxRecDepth 10000 in
theorem oU (x y:Int) (hx:(aV x.natAbs).length≤549755813888) (hy:(aV y.natAbs).length≤549755813888):Spec Tryz.prog 77 [encZ x,encZ y] (encZ (x+y)):=by
 refine aY (N:=39) aF Tryz.func77 rfl rfl rfl (by kernel_rfl) (by kernel_rfl) (by simp) ?_
 have la:=cD x.natAbs
 have lb:=cD y.natAbs
 have va:=cQ x.natAbs
 have vb:=cQ y.natAbs
 have hless:(aV x.natAbs).length<(aV y.natAbs).length→x.natAbs<y.natAbs:=iQ
 have hless2:(aV y.natAbs).length<(aV x.natAbs).length→y.natAbs<x.natAbs:=iQ
 have hl:=yO _ _ la lb (by omega) (by omega)
 rw [jE] at hl
 have sx:=gT x
 have sy:=gT y
 have ex:encZ x=.ag [.b (decide (x<0)),aG (aV x.natAbs)]:=rfl
 have ey:encZ y=.ag [.b (decide (y<0)),aG (aV y.natAbs)]:=rfl
 rw [ex,ey]
 generalize aV x.natAbs=a at *
 generalize aV y.natAbs=b at *
 generalize hbx:decide (x<0)=nx at *
 generalize hby:decide (y<0)=ny at *
 by_cases hn:nx=ny
 ·have h1:(nx == ny)=true:=by simpa using hn
  simp [-map_map,-mapM_map,↓KW,aG,h1]
  obtain ⟨pv,pl,pn⟩:=aTl la lb
  refine aA (ds:=[aG a,aG b]) (by rfl) (bGr a b la lb (by omega) (by omega)) ?_
  simp [-map_map,-mapM_map,↓KW,aG]
  have hm:=fT (xE a b) nx (by omega)
  rw [dR pl,pv,va,vb] at hm
  refine aA (ds:=[aG (xE a b),.b nx]) (by rfl) hm ?_
  have e:sg nx (x.natAbs+y.natAbs)=x+y:=by
   rw [← sx,← sy,← hn]; cases nx <;> simp [sg] <;> omega
  rw [e]
  simp [-map_map,-mapM_map,↓KW,aG,encZ,encI]
 ·have h1:(nx == ny)=false:=by simpa using hn
  simp [-map_map,-mapM_map,↓KW,aG,h1]
  refine aA (ds:=[aG a,aG b]) (by rfl) hl ?_
  by_cases hlt:x.natAbs<y.natAbs
  ·simp [-map_map,-mapM_map,↓KW,aG,hlt]
   obtain ⟨pv,pl,pn⟩:=oZ lb la (by omega) (by omega)
   refine aA (ds:=[aG b,aG a]) (by rfl) (aJb b a lb la (by omega) (by omega)) ?_
   simp [-map_map,-mapM_map,↓KW,aG]
   have hm:=fT (jY b a) ny (by omega)
   rw [dR pl,pv,va,vb] at hm
   refine aA (ds:=[aG (jY b a),.b ny]) (by rfl) hm ?_
   have e:sg ny (y.natAbs - x.natAbs)=x+y:=by
    rw [← sx,← sy]
    cases nx <;> cases ny <;> simp [sg] at hn ⊢ <;> omega
   rw [e]
   simp [-map_map,-mapM_map,↓KW,aG,encZ,encI]
  ·simp [-map_map,-mapM_map,↓KW,aG,hlt]
   obtain ⟨pv,pl,pn⟩:=oZ la lb (by omega) (by omega)
   refine aA (ds:=[aG a,aG b]) (by rfl) (aJb a b la lb (by omega) (by omega)) ?_
   simp [-map_map,-mapM_map,↓KW,aG]
   have hm:=fT (jY a b) nx (by omega)
   rw [dR pl,pv,va,vb] at hm
   refine aA (ds:=[aG (jY a b),.b nx]) (by rfl) hm ?_
   have e:sg nx (x.natAbs - y.natAbs)=x+y:=by
    rw [← sx,← sy]
    cases nx <;> cases ny <;> simp [sg] at hn ⊢ <;> omega
   rw [e]
   simp [-map_map,-mapM_map,↓KW,aG,encZ,encI]
end Go.Am
end

section
set_option linter.unusedVariables false
set_option linter.unusedSimpArgs false
open Go Go.Am Go.Proofs
namespace Go.Am
theorem aFr {l:List Nat} {j:Nat} (h:j<l.length) (v:Nat):val (l.set j v)+4294967296 ^ j * l.getD j 0=val l+4294967296 ^ j * v:=by
 induction l generalizing j with
 | nil=>simp at h
 | cons x l ih =>
  cases j with
  | zero=>simp only [List.set_cons_zero,val,Nat.pow_zero,Nat.one_mul,List.getD_cons_zero]; omega
  | succ j =>
   have:=ih (j:=j) (by simpa using h)
   simp only [List.set_cons_succ,val,List.getD_cons_succ,Nat.pow_succ]
   generalize 4294967296 ^ j=p at *
   generalize l.getD j 0=o at *
   generalize val (l.set j v)=w at *
   rw [Nat.mul_comm p,Nat.mul_assoc,Nat.mul_assoc]
   generalize p * o=e1 at *
   generalize p * v=e2 at *
   omega
def muI (out:List Nat) (x:Nat) (b:List Nat) (i:Nat):Nat→List Nat × Nat
 | 0=>(out,0)
 | k+1=>((muI out x b i k).1.set (i+k) (((muI out x b i k).2+(muI out x b i k).1.getD (i+k) 0+x * b.getD k 0) % 4294967296),((muI out x b i k).2+(muI out x b i k).1.getD (i+k) 0+x * b.getD k 0) / 4294967296)
def muN (out:List Nat) (x:Nat) (b:List Nat) (i:Nat):Nat:=if (muI out x b i b.length).2=0 then b.length else b.length+1
def muO (a b:List Nat):Nat→List Nat
 | 0=>List.replicate (a.length+b.length+1) 0
 | i+1=>(muI (muO a b i) (a.getD i 0) b i (muN (muO a b i) (a.getD i 0) b i)).1
theorem aZr {P v v' o c t q r e w k:Nat} (hs:v'+P * o=v+P * r) (ht:r+k * q=t) (ht2:c+o+e=t) (hv:v+P * c=w):v'+P * k * q=w+P * e:=by
 have h1:P * t=P * r+P * (k * q):=by rw [← ht,Nat.mul_add]
 have h2:P * t=P * c+P * o+P * e:=by rw [← ht2,Nat.mul_add,Nat.mul_add]
 rw [Nat.mul_assoc]
 omega
theorem aNl {c o x y:Nat} (hc:c<4294967296) (ho:o<4294967296) (hx:x<4294967296) (hy:y<4294967296):c+o+x * y<18446744073709551616:=by
 have:x * y≤4294967295 * 4294967295:=Nat.mul_le_mul (by omega) (by omega)
 omega
theorem rQ {out b:List Nat} {x i:Nat} (ho:Lim out) (hb:Lim b) (hx:x<4294967296) (hl:i+b.length<out.length) (k:Nat) (hk:k≤b.length+1) :
  (muI out x b i k).1.length=out.length∧(muI out x b i k).2<4294967296∧Lim (muI out x b i k).1∧val (muI out x b i k).1+4294967296 ^ (i+k) * (muI out x b i k).2=val out+4294967296 ^ i * (x * val (b.take k)):=by
 induction k with
 | zero=>exact ⟨rfl,Nat.zero_lt_of_lt hx,ho,by simp [muI,val]⟩
 | succ k ih =>
  obtain ⟨h1,h2,h3,h4⟩:=ih (by omega)
  have hy:=hb.getD k
  have hoo:=h3.getD (i+k)
  have hset:=aFr (l:=(muI out x b i k).1) (j:=i+k) (by omega) (((muI out x b i k).2+(muI out x b i k).1.getD (i+k) 0+x * b.getD k 0) % 4294967296)
  have hlim:=aNl h2 hoo hx hy
  rw [cX]
  simp only [muI]
  generalize (muI out x b i k).1=out' at *
  generalize (muI out x b i k).2=c at *
  generalize out'.getD (i+k) 0=o at *
  generalize b.getD k 0=y at *
  refine ⟨by simp [h1],by omega,h3.set _ (by omega),?_⟩
  have:=aZr hset (Nat.mod_add_div _ _) rfl h4
  rw [← Nat.add_assoc i k 1,Nat.pow_succ,this,Nat.pow_add,Nat.mul_add,Nat.mul_add,Nat.mul_assoc,Nat.add_assoc]
  congr 2
  rw [Nat.mul_left_comm x]
theorem aKf {out b:List Nat} {x i:Nat} (ho:Lim out) (hb:Lim b) (hx:x<4294967296) (hl:i+b.length<out.length) (hv:val out<4294967296 ^ (i+b.length)):(muI out x b i (b.length+1)).2=0:=by
 obtain ⟨_,_,_,h4⟩:=rQ ho hb hx hl (b.length+1) (Nat.le_refl _)
 rw [List.take_of_length_le (by omega)] at h4
 have hbv:=pX hb
 rcases Nat.eq_zero_or_pos (muI out x b i (b.length+1)).2 with h | h
 ·exact h
 exfalso
 have e1:4294967296 ^ (i+(b.length+1)) * 1≤4294967296 ^ (i+(b.length+1)) * (muI out x b i (b.length+1)).2:=Nat.mul_le_mul_left _ h
 have e2:x * val b≤4294967295 * 4294967296 ^ b.length:=Nat.mul_le_mul (by omega) (by omega)
 have e3:4294967296 ^ i * (x * val b)≤4294967296 ^ i * (4294967295 * 4294967296 ^ b.length):=Nat.mul_le_mul_left _ e2
 have e4:4294967296 ^ i * (4294967295 * 4294967296 ^ b.length)=4294967295 * 4294967296 ^ (i+b.length):=by rw [Nat.pow_add,Nat.mul_left_comm]
 have e5:4294967296 ^ (i+(b.length+1))=4294967296 ^ (i+b.length) * 4294967296:=by rw [← Nat.add_assoc,Nat.pow_succ]
 rw [Nat.mul_one,e5] at e1
 rw [e5] at h4
 rw [e4] at e3
 generalize 4294967296 ^ (i+b.length)=p at *
 generalize 4294967296 ^ i * (x * val b)=q at *
 generalize (muI out x b i (b.length+1)).2=c at *
 generalize p * 4294967296 * c=d at *
 omega
theorem bHn {out b:List Nat} {x i:Nat} (ho:Lim out) (hb:Lim b) (hx:x<4294967296) (hl:i+b.length<out.length) (hv:val out<4294967296 ^ (i+b.length)) :
  (muI out x b i (muN out x b i)).1.length=out.length∧Lim (muI out x b i (muN out x b i)).1∧val (muI out x b i (muN out x b i)).1=val out+4294967296 ^ i * (x * val b):=by
 unfold muN
 have hstop:=aKf ho hb hx hl hv
 by_cases h:(muI out x b i b.length).2=0
 ·rw [if_pos h]
  obtain ⟨h1,_,h3,h4⟩:=rQ ho hb hx hl b.length (by omega)
  rw [List.take_of_length_le (by omega),h,Nat.mul_zero,Nat.add_zero] at h4
  exact ⟨h1,h3,h4⟩
 ·rw [if_neg h]
  obtain ⟨h1,_,h3,h4⟩:=rQ ho hb hx hl (b.length+1) (Nat.le_refl _)
  rw [List.take_of_length_le (by omega),hstop,Nat.mul_zero,Nat.add_zero] at h4
  exact ⟨h1,h3,h4⟩
theorem aNm {a b:List Nat} (ha:Lim a) (hb:Lim b) {i:Nat} (hi:i≤a.length):val (a.take i) * val b<4294967296 ^ (i+b.length):=by
 have h1:=pX (ha.take i)
 rw [List.length_take,Nat.min_eq_left hi] at h1
 have h2:=pX hb
 rw [Nat.pow_add]
 exact Nat.mul_lt_mul'' h1 h2
theorem bHm {a b:List Nat} (ha:Lim a) (hb:Lim b) (i:Nat) (hi:i≤a.length):(muO a b i).length=a.length+b.length+1∧Lim (muO a b i)∧val (muO a b i)=val (a.take i) * val b:=by
 induction i with
 | zero=>exact ⟨by simp [muO],.rep _,by simp [muO,yH,val]⟩
 | succ i ih =>
  obtain ⟨h1,h2,h3⟩:=ih (by omega)
  have hv:=aNm ha hb (i:=i) (by omega)
  rw [← h3] at hv
  obtain ⟨q1,q2,q3⟩:=bHn (x:=a.getD i 0) (i:=i) h2 hb (ha.getD i) (by omega) hv
  refine ⟨q1.trans h1,q2,?_⟩
  show val (muI (muO a b i) (a.getD i 0) b i (muN (muO a b i) (a.getD i 0) b i)).1=_
  rw [q3,h3,cX,Nat.add_mul,Nat.mul_assoc]
end Go.Am
end

section
set_option linter.unusedVariables false
set_option linter.unusedSimpArgs false
open List (map_map mapM_map)
open Go Go.Am Go.Proofs
namespace Go.Am
set_option maxRecDepth 10000 in
theorem nD (x y:Int) (hx:(aV x.natAbs).length≤137438953472) (hy:(aV y.natAbs).length≤137438953472):Spec Tryz.prog 76 [encZ x,encZ y] (encZ (x * y)):=by
 refine aY (N:=81) aF Tryz.func76 rfl rfl rfl (by kernel_rfl) (by kernel_rfl) (by simp) ?_
 have la:=cD x.natAbs
 have lb:=cD y.natAbs
 have va:=cQ x.natAbs
 have vb:=cQ y.natAbs
 have sx:=gT x
 have sy:=gT y
 have ex:encZ x=.ag [.b (decide (x<0)),aG (aV x.natAbs)]:=rfl
 have ey:encZ y=.ag [.b (decide (y<0)),aG (aV y.natAbs)]:=rfl
 rw [ex,ey]
 generalize aV x.natAbs=a at *
 generalize aV y.natAbs=b at *
 generalize hbx:decide (x<0)=nx at *
 generalize hby:decide (y<0)=ny at *
 obtain ⟨n,hn⟩:∃ n,a.length+b.length+1=n:=⟨_,rfl⟩
 have hw1:IntKind.i64.wrap ((a.length:Int)+b.length)=(a.length:Int)+b.length:=aS (by omega) (by omega)
 have hw2:IntKind.i64.wrap ((a.length:Int)+b.length+1)=(n:Int):=by rw [aS (by omega) (by omega)]; omega
 have hm1:(4:Int) * n≤281474976710656:=by omega
 have hm2:(n:Int)≤9223372036854775807:=by omega
 have h00:muO a b 0=List.replicate n 0:=by rw [← hn]; rfl
 simp [-map_map,-mapM_map,↓KW,aG,hw1,hw2,hm1,hm2]
 refine aU (fun i:Nat=>i≤a.length)
  (fun i=>StL [(2,.ptr 1 0),(3,.ptr 2 0),(4,.ptr 3 0),(5,.own 4 0 n 1),(6,.d (.i .i64 i))] none
   [.cells 69 [.d (.b nx),.d (aG a)],.cells 69 [.d (.b ny),.d (aG b)],.cells 69 [.d (.b false),.nil],.cells 121 ((lms (muO a b i)).map .d)]) (fun i=>a.length - i) 0 (Nat.zero_le _) ?_ ?_
 ·refine bC [1,2,3,4] (by simp) ?_ ?_ <;> simp [-map_map,upd,aT,Γ0,aG,h00]
 ·intro i hi
  obtain ⟨ol,om,ov⟩:=bHm la lb i hi
  rw [hn] at ol
  by_cases hgo:i<a.length
  ·have q1:(i:Int)<a.length:=by omega
   simp [-map_map,-mapM_map,↓KW,aG,q1]
   have hsucc:muO a b (i+1)=(muI (muO a b i) (a.getD i 0) b i (muN (muO a b i) (a.getD i 0) b i)).1:=rfl
   have g1:=getD_some hgo
   have hlt:=aNm la lb hi
   rw [← ov] at hlt
   generalize hout:muO a b i=out at *
   have hal:=la.getD i
   generalize a.getD i 0=xv at *
   have hwx:IntKind.u64.wrap (xv:Int)=xv:=bK (by omega) (by omega)
   refine aU (fun k:Nat=>k≤b.length∨(k=b.length+1∧(muI out xv b i b.length).2≠0))
    (fun k=>StL [(2,.ptr 1 0),(3,.ptr 2 0),(4,.ptr 3 0),(5,.own 4 0 n 1),(6,.d (.i .i64 i)),(7,.d (.i .u64 (muI out xv b i k).2)),(8,.d (.i .i64 k))] none
     [.cells 69 [.d (.b nx),.d (aG a)],.cells 69 [.d (.b ny),.d (aG b)],.cells 69 [.d (.b false),.nil],.cells 121 ((lms (muI out xv b i k).1).map .d)]) (fun k=>b.length+1 - k) 0 (.inl (Nat.zero_le _)) ?_ ?_
   ·refine bC [1,2,3,4] (by simp) ?_ ?_ <;> simp [-map_map,upd,aT,Γ0,aG,muI]
   ·intro k hk
    have hkl:k≤b.length+1:=by omega
    obtain ⟨il,ic,im,_⟩:=rQ om lb hal (i:=i) (by omega) k hkl
    have isucc:muI out xv b i (k+1)=((muI out xv b i k).1.set (i+k) (((muI out xv b i k).2+(muI out xv b i k).1.getD (i+k) 0+xv * b.getD k 0) % 4294967296),((muI out xv b i k).2+(muI out xv b i k).1.getD (i+k) 0+xv * b.getD k 0) / 4294967296):=rfl
    have hstop0:=aKf om lb hal (i:=i) (by omega) hlt
    have hres:(k<b.length∨0<(muI out xv b i k).2)∨muO a b (i+1)=(muI out xv b i k).1:=by
     rw [hsucc]; unfold muN
     rcases hk with hk | ⟨hk,hc⟩
     ·by_cases h1:k=b.length
      ·subst h1
       by_cases h2:(muI out xv b i b.length).2=0
       ·rw [if_pos h2]; exact .inr rfl
       ·exact .inl (.inr (by omega))
      ·exact .inl (.inl (by omega))
     ·rw [if_neg hc,hk]; exact .inr rfl
    have hnext:(k<b.length∨0<(muI out xv b i k).2)→k≤b.length∧(k+1≤b.length∨(k+1=b.length+1∧(muI out xv b i b.length).2≠0)):=by
     intro h
     rcases hk with hk | ⟨hk,hc⟩
     ·refine ⟨hk,?_⟩
      by_cases h1:k=b.length
      ·subst h1; exact .inr ⟨rfl,by omega⟩
      ·exact .inl (by omega)
     ·rw [hk,hstop0] at h; omega
    clear hstop0 hsucc
    have ho:=im.getD (i+k)
    generalize hcar:(muI out xv b i k).2=c at *
    generalize hcur:(muI out xv b i k).1=cur at *
    by_cases hg2:k<b.length∨0<c
    ·obtain ⟨n1,n2⟩:=hnext hg2
     obtain ⟨j,hj⟩:∃ j,i+k=j:=⟨_,rfl⟩
     rw [hj] at isucc ho
     have hjl:j<cur.length:=by omega
     have g2:=aQz (getD_some hjl)
     have hwj:IntKind.i64.wrap ((i:Int)+k)=j:=by rw [aS (by omega) (by omega)]; omega
     have hjn:(j:Int)<n:=by omega
     have hw8:IntKind.i64.wrap ((k:Int)+1)=(k:Int)+1:=aS (by omega) (by omega)
     have hjl2:j<(lms cur).length:=by rw [kY]; exact hjl
     have hjl3:j+1≤n:=by omega
     have hyb:=lb.getD k
     have hlim:=aNl ic ho hal hyb
     have hy0:¬ k<b.length→b.getD k 0=0:=getD_none
     have g3:k<b.length→b[k]? = some (b.getD k 0):=getD_some
     generalize cur.getD j 0=o at *
     generalize b.getD k 0=yv at *
     obtain ⟨s1,hs1⟩:∃ s1:Nat,c+o=s1:=⟨_,rfl⟩
     obtain ⟨t,ht⟩:∃ t:Nat,s1+xv * yv=t:=⟨_,rfl⟩
     rw [hs1] at isucc hlim
     rw [ht] at isucc hlim
     obtain ⟨lo,hlo⟩:∃ lo:Nat,t % 4294967296=lo:=⟨_,rfl⟩
     obtain ⟨hi',hhi⟩:∃ hi':Nat,t / 4294967296=hi':=⟨_,rfl⟩
     rw [hlo,hhi] at isucc
     have hwo:IntKind.u64.wrap (o:Int)=o:=bK (by omega) (by omega)
     have hws:IntKind.u64.wrap ((c:Int)+o)=s1:=by rw [bK (by omega) (by omega)]; omega
     have hwlo:IntKind.u32.wrap (t:Int)=lo:=by rw [gS]; omega
     have hwhi:IntKind.u64.wrap ((t:Int) / 4294967296)=hi':=by rw [bK (by omega) (by omega)]; omega
     have hlay:lay (List.map AV.d (lms cur)) j [AV.d (D.i .u32 (lo:Int))]=List.map AV.d (lms (cur.set j lo)):=by
      rw [nG _ _ _ hjl2,uO]
     have hgj:List.length cur=n:=by omega
     by_cases hkb:k<b.length
     ·have q2:(k:Int)<b.length:=by omega
      have g4:=g3 hkb
      have hwy:IntKind.u64.wrap (yv:Int)=yv:=bK (by omega) (by omega)
      obtain ⟨e,he⟩:∃ e:Nat,xv * yv=e:=⟨_,rfl⟩
      rw [he] at ht
      have hwm:IntKind.u64.wrap ((xv:Int) * yv)=e:=by rw [← Int.natCast_mul,he,bK (by omega) (by omega)]
      have hwt:IntKind.u64.wrap ((s1:Int)+e)=t:=by rw [bK (by omega) (by omega)]; omega
      simp [-map_map,-mapM_map,↓KW,aG,q2,hwj,hjn,g2,hwo,hws,g1,g4,hwx,hwy,hwm,hwt,hwlo,hwhi,hlay,hw8,hjl3,hgj]
      refine aK (k+1) n2 ?_ (bC [1,2,3,4] (by simp) ?_ ?_)
      ·omega
      ·simp [-map_map,upd,aT,Γ0,aG,isucc]
      ·simp [-map_map,upd,aT,Γ0,aG,isucc]
     ·have q2:¬ (k:Int)<b.length:=by omega
      have q3:0<c:=by omega
      have e1:t=s1:=by rw [hy0 hkb,Nat.mul_zero] at ht; omega
      rw [e1] at hwlo hwhi
      simp [-map_map,-mapM_map,↓KW,aG,q2,q3,hwj,hjn,g2,hwo,hws,hwlo,hwhi,hlay,hw8,hjl3,hgj]
      refine aK (k+1) n2 ?_ (bC [1,2,3,4] (by simp) ?_ ?_)
      ·omega
      ·simp [-map_map,upd,aT,Γ0,aG,isucc]
      ·simp [-map_map,upd,aT,Γ0,aG,isucc]
    ·have q2:¬ (k:Int)<b.length:=by omega
     have q3:¬ 0<c:=by omega
     have hfin:=hres.resolve_left hg2
     have hw8:IntKind.i64.wrap ((i:Int)+1)=(i:Int)+1:=aS (by omega) (by omega)
     simp [-map_map,-mapM_map,↓KW,aG,q2,q3,hw8]
     refine aK (i+1) hgo ?_ (bC [1,2,3,4] (by simp) ?_ ?_)
     ·omega
     ·simp [-map_map,upd,aT,Γ0,aG,hfin]
     ·simp [-map_map,upd,aT,Γ0,aG,hfin]
  ·have q1:¬ (i:Int)<a.length:=by omega
   have e:i=a.length:=by omega
   rw [e,List.take_of_length_le (Nat.le_refl _),va,vb] at ov
   have hm:=fT (muO a b i) (nx != ny) (by omega)
   rw [dR om,e,ov] at hm
   have e2:sg (nx != ny) (x.natAbs * y.natAbs)=x * y:=by
    rw [← sx,← sy]
    cases nx <;> cases ny <;> simp [sg,Int.mul_neg,Int.neg_mul]
   rw [e2] at hm
   rw [e] at ol
   have e':muO a b i=muO a b a.length:=by rw [e]
   generalize muO a b a.length=out at *
   simp [-map_map,-mapM_map,↓KW,aG,q1,e']
   refine aA (ds:=[aG out,.b (nx != ny)]) ?_ hm ?_
   ·simp [-map_map,-mapM_map,↓KW,aG,ol,fK ol,dP ol]
    cases nx <;> cases ny <;> rfl
   ·simp [-map_map,-mapM_map,↓KW,aG,encZ,encI,ol,fK ol,dP ol]
end Go.Am
end

section
set_option linter.unusedVariables false
set_option linter.unusedSimpArgs false
open List (map_map mapM_map)
open Go Go.Am Go.Proofs
namespace Go.Am
theorem aHo {n:Nat} (h:n≤9223372036854775807):IntKind.i64.wrap (n:Int)=n:=aS (by omega) (by omega)
set_option maxRecDepth 10000 in
theorem nH (m:List Nat) (hl:m.length≤1099511627776):Spec Tryz.prog 101 [aG m] (aG (strip m)):=by
 refine aY (N:=21) aF Tryz.func101 rfl rfl rfl (by kernel_rfl) (by kernel_rfl) (by simp) ?_
 simp [-map_map,-mapM_map,↓KW,aG]
 refine aU (fun n:Nat=>n≤m.length∧strip (m.take n)=strip m) (fun n=>StL [(0,.d (aG m)),(3,.d (.i .i64 n))] none []) (fun n=>n) m.length ⟨Nat.le_refl _,by simp⟩ ?_ ?_
 ·refine bC [] (by simp) ?_ ?_ <;> simp [-map_map,upd,aT,Γ0,aG]
 ·rintro n ⟨hn,hs⟩
  rcases n with _ | n
  ·have hs':strip m=[]:=hs.symm
   have h0:fF 1 (m.map fun (x:Nat)=>[D.i .u32 (x:Int)])=true:=qI m _
   simp [-map_map,-mapM_map,↓KW,aG,hs',h0]
  ·have hx:m[n]? = some m[n]:=List.getElem?_eq_getElem hn
   have hw:IntKind.i64.wrap (n:Int)=n:=aHo (by omega)
   have hp:(0:Int)<(n:Int)+1:=by omega
   have hp2:(0:Int)≤(n:Int)+1:=by omega
   by_cases h0:m[n]=0
   ·simp [-map_map,-mapM_map,↓KW,aG,hx,hw,h0,hp]
    refine aK n ⟨by omega,(pI hn h0).symm.trans hs⟩ (by omega) (bC [] (by simp) ?_ ?_) <;> simp [-map_map,upd,aT,Γ0,aG]
   ·have h1:((m[n]:Int) == 0)=false:=by simp; omega
    have he:strip m=m.take (n+1):=hs.symm.trans (pJ hn h0)
    have hn':(n:Int)+1≤m.length:=by omega
    obtain ⟨pre,hpre⟩:∃ pre,m.take (n+1)=pre:=⟨_,rfl⟩
    have hp1:∀ f:Nat→List D,(m.map f).take (n+1)=pre.map f:=fun f=>by rw [← hpre,List.map_take]
    rw [hpre] at he
    simp [-map_map,-mapM_map,↓KW,aG,hx,hw,h1,hp,hp2,he,hn',hp1,qI]
set_option maxRecDepth 10000 in
theorem bAv (neg:Bool) (m:List Nat) (hl:m.length≤1099511627776):Spec Tryz.prog 102 [.b neg,aG m] (encI (neg && decide (strip m≠[])) (strip m)):=by
 refine aY (N:=14) aF Tryz.func102 rfl rfl rfl (by kernel_rfl) (by kernel_rfl) (by simp) ?_
 simp [-map_map,-mapM_map,↓KW,aG]
 refine aA (ds:=[aG m]) (by rfl) (nH m hl) ?_
 cases hm:strip m with
 | nil =>
  cases neg <;> simp [-map_map,-mapM_map,↓KW,aG,encI]
 | cons x l =>
  have h1:(((l.length:Int)+1 == 0):Bool)=false:=by simp; omega
  cases neg <;> simp [-map_map,-mapM_map,↓KW,aG,encI,h1]
theorem mD {m:List Nat} (h:Lim m) (hl:m.length≤1099511627776) (neg:Bool):Spec Tryz.prog 102 [.b neg,aG m] (encZ (sg neg (val m))):=by
 rw [← dR h]; exact bAv neg m hl
set_option maxRecDepth 10000 in
theorem aGo (neg:Bool) (m:List Nat) (hl:m.length≤1099511627776):Spec Tryz.prog 66 [encI neg m] (.i .i64 (if strip m=[] then 0 else if neg then -1 else 1)):=by
 refine aY (N:=12) aF Tryz.func66 rfl rfl rfl (by kernel_rfl) (by kernel_rfl) (by simp) ?_
 simp [-map_map,-mapM_map,↓KW,encI,aG]
 refine aA (ds:=[aG m]) (by rfl) (nH m hl) ?_
 cases hm:strip m with
 | nil=>simp [-map_map,-mapM_map,↓KW,aG,encI]
 | cons x l =>
  have h1:(((l.length:Int)+1 == 0):Bool)=false:=by simp; omega
  cases neg <;> simp [-map_map,-mapM_map,↓KW,aG,encI,h1]
set_option maxRecDepth 10000 in
theorem bQn (x:Int):Spec Tryz.prog 107 [.i .i64 x] (.b false):=by
 refine aY (N:=6) aF Tryz.func107 rfl rfl rfl (by kernel_rfl) (by kernel_rfl) (by simp) ?_
 simp [-map_map,-mapM_map,↓KW]
set_option maxRecDepth 10000 in
theorem bQm (x:Int):Spec Tryz.prog 154 [.i .u32 x] (.b false):=by
 refine aY (N:=6) aF Tryz.func154 rfl rfl rfl (by kernel_rfl) (by kernel_rfl) (by simp) ?_
 simp [-map_map,-mapM_map,↓KW]
def kE (x y:Int):Int:=if x<y then -1 else if y<x then 1 else 0
set_option maxRecDepth 10000 in
theorem aOl (x y:Int):Spec Tryz.prog 70 [.i .i64 x,.i .i64 y] (.i .i64 (kE x y)):=by
 refine aY (N:=20) aF Tryz.func70 rfl rfl rfl (by kernel_rfl) (by kernel_rfl) (by simp) ?_
 simp [-map_map,-mapM_map,↓KW]
 refine aA (ds:=[.i .i64 x]) (by rfl) (bQn x) ?_
 simp [-map_map,-mapM_map,↓KW]
 refine aA (ds:=[.i .i64 y]) (by rfl) (bQn y) ?_
 by_cases h1:x<y
 ·simp [-map_map,-mapM_map,↓KW,h1,kE]
 ·by_cases h2:y<x <;> simp [-map_map,-mapM_map,↓KW,h1,h2,kE]
set_option maxRecDepth 10000 in
theorem bVd (x y:Int):Spec Tryz.prog 129 [.i .u32 x,.i .u32 y] (.i .i64 (kE x y)):=by
 refine aY (N:=20) aF Tryz.func129 rfl rfl rfl (by kernel_rfl) (by kernel_rfl) (by simp) ?_
 simp [-map_map,-mapM_map,↓KW]
 refine aA (ds:=[.i .u32 x]) (by rfl) (bQm x) ?_
 simp [-map_map,-mapM_map,↓KW]
 refine aA (ds:=[.i .u32 y]) (by rfl) (bQm y) ?_
 by_cases h1:x<y
 ·simp [-map_map,-mapM_map,↓KW,h1,kE]
 ·by_cases h2:y<x <;> simp [-map_map,-mapM_map,↓KW,h1,h2,kE]
def oL (a b:List Nat):Int:=if oC a b then -1 else if oC b a then 1 else 0
set_option maxRecDepth 10000 in
theorem aAv (a b:List Nat) (ha:Lim a) (hb:Lim b) (hla:a.length≤1099511627776) (hlb:b.length≤1099511627776):Spec Tryz.prog 100 [aG a,aG b] (.i .i64 (oL a b)):=by
 refine aY (N:=35) aF Tryz.func100 rfl rfl rfl (by kernel_rfl) (by kernel_rfl) (by simp) ?_
 simp [-map_map,-mapM_map,↓KW,aG]
 refine aA (ds:=[.i .i64 a.length,.i .i64 b.length]) (by rfl) (aOl _ _) ?_
 by_cases hn:a.length=b.length
 rotate_left
 ·rcases Nat.lt_or_gt_of_ne hn with h | h
  ·have h1:kE a.length b.length=-1:=by unfold kE; rw [if_pos (by omega)]
   have h2:oL a b=-1:=by simp [oL,oC,hn,h]
   simp [-map_map,-mapM_map,↓KW,aG,h1,h2]
  ·have h1:kE a.length b.length=1:=by unfold kE; rw [if_neg (by omega),if_pos (by omega)]
   have h2:oL a b=1:=by
    have h3:¬ a.length<b.length:=by omega
    have h4:¬ b.length=a.length:=fun e=>hn e.symm
    simp [oL,oC,hn,h,h3,h4]
   simp [-map_map,-mapM_map,↓KW,aG,h1,h2]
 ·have h1:kE a.length b.length=0:=by simp [kE,hn]
  have hw:IntKind.i64.wrap ((a.length:Int) - 1)=(a.length:Int) - 1:=aS (by omega) (by omega)
  simp [-map_map,-mapM_map,↓KW,aG,h1,hw]
  refine aU (fun k:Nat=>k≤a.length∧a.drop k=b.drop k) (fun k=>StL [(0,.d (aG a)),(1,.d (aG b)),(6,.d (.i .i64 ((k:Int) - 1)))] none []) (fun k=>k) a.length ⟨Nat.le_refl _,by rw [List.drop_eq_nil_of_le (Nat.le_refl _),List.drop_eq_nil_of_le (by omega)]⟩ ?_ ?_
  ·refine bC [] (by simp) ?_ ?_ <;> simp [-map_map,upd,aT,Γ0,aG]
  ·rintro k ⟨hk,hd⟩
   rcases k with _ | k
   ·have e:a=b:=by simpa using hd
    subst e
    simp [-map_map,-mapM_map,↓KW,aG,oC,oL]
   ·have hkb:k<b.length:=by omega
    have hxa:a[k]? = some a[k]:=List.getElem?_eq_getElem hk
    have hxb:b[k]? = some b[k]:=List.getElem?_eq_getElem hkb
    have hw2:IntKind.i64.wrap ((k:Int) - 1)=(k:Int) - 1:=aS (by omega) (by omega)
    have hp:(0:Int)≤k:=by omega
    simp [-map_map,-mapM_map,↓KW,aG,hxa,hxb,hp]
    refine aA (ds:=[.i .u32 a[k],.i .u32 b[k]]) (by rfl) (bVd _ _) ?_
    by_cases he:a[k]=b[k]
    ·have h2:kE a[k] b[k]=0:=by simp [kE,he]
     simp [-map_map,-mapM_map,↓KW,aG,h2,hw2]
     refine aK k ⟨by omega,?_⟩ (by omega) (bC [] (by simp) ?_ ?_)
     ·rw [List.drop_eq_getElem_cons hk,List.drop_eq_getElem_cons hkb,he,hd]
     ·simp [-map_map,upd,aT,Γ0,aG]
     ·trivial
    ·have ga:a.getD k 0=a[k]:=by rw [List.getD_eq_getElem?_getD,hxa]; rfl
     have gb:b.getD k 0=b[k]:=by rw [List.getD_eq_getElem?_getD,hxb]; rfl
     rcases Nat.lt_or_ge a[k] b[k] with hlt | hge
     ·have h3:=rG ha (i:=k) hn hk hd (by rw [ga,gb]; exact hlt)
      have h4:kE a[k] b[k]=-1:=by unfold kE; rw [if_pos (by omega)]
      have h5:oL a b=-1:=by simp [oL,oC,hn,h3]
      simp [-map_map,-mapM_map,↓KW,aG,h4,h5]
     ·have h3:=rG hb (i:=k) hn.symm hkb hd.symm (by rw [ga,gb]; omega)
      have h4:kE a[k] b[k]=1:=by unfold kE; rw [if_neg (by omega),if_pos (by omega)]
      have h6:¬ val a<val b:=by omega
      have h5:oL a b=1:=by simp [oL,oC,hn,h3,h6]
      simp [-map_map,-mapM_map,↓KW,aG,h4,h5]
end Go.Am
end

section
set_option linter.unusedVariables false
set_option linter.unusedSimpArgs false
open List (map_map mapM_map)
open Go Go.Am Go.Proofs
namespace Go.Am
def zp (out:List Nat) (n:Nat):List Nat:=out++List.replicate (n - out.length) 0
theorem aFh {out:List Nat} {n:Nat} (h:out.length≤n):(zp out n).length=n:=by simp [zp]; omega
theorem aFi {out:List Nat} {n:Nat} (h:out.length=n):zp out n=out:=by subst h; simp [zp]
theorem aMd (n:Nat):zp [] n=List.replicate n 0:=by simp [zp]
theorem bLt {out:List Nat} {n i:Nat} (h:out.length=i) (hi:i<n) (v:Nat):(zp out n).set i v=zp (out++[v]) n:=by
 subst h
 unfold zp
 obtain ⟨k,hk⟩:∃ k,n - out.length=k+1:=⟨n - out.length - 1,by omega⟩
 rw [hk,List.set_append_right _ _ (Nat.le_refl _),Nat.sub_self,List.replicate_succ,List.set_cons_zero,List.length_append,List.length_singleton,show n - (out.length+1)=k from by omega,List.append_assoc]
 rfl
theorem zF {out:List Nat} {n i:Nat} (h:out.length=i) (hi:i<n) (v:Nat):lay (List.map AV.d (lms (zp out n))) i [AV.d (D.i .u32 (v:Int))]=List.map AV.d (lms (zp (out++[v]) n)):=by
 rw [nG _ _ _ (by rw [kY,aFh (by omega)]; exact hi),uO,bLt h hi]
theorem aWz {t:Nat}:jD .shr .u64 (t:Int) 32=some (.i .u64 ((t / 4294967296:Nat):Int)):=by
 simp only [jD,IntKind.bits]
 rw [if_neg (by decide)]
 congr 2
 rw [show (2:Int) ^ (min (32:Int).toNat 64)=4294967296 from by decide,Int.fdiv_eq_ediv_of_nonneg _ (by decide)]
 omega
theorem bKr {t:Int} (_h0:0≤t):jD .shr .u64 t 63=some (.i .u64 (t / 9223372036854775808)):=by
 simp only [jD,IntKind.bits]
 rw [if_neg (by decide)]
 congr 2
 rw [show (2:Int) ^ (min (63:Int).toNat 64)=9223372036854775808 from by decide,Int.fdiv_eq_ediv_of_nonneg _ (by decide)]
def ip (p q:List Nat):List Nat:=(plS p q p.length).1++[(plS p q p.length).2]
theorem bAu {p q:List Nat} (lp:Lim p) (lq:Lim q) (h:q.length≤p.length):val (ip p q)=val p+val q∧Lim (ip p q)∧(ip p q).length=p.length+1:=by
 obtain ⟨h1,h2,h3,h4⟩:=lU lp lq p.length
 rw [List.take_of_length_le (Nat.le_refl _),List.take_of_length_le h] at h4
 unfold ip
 refine ⟨?_,h3.app (.one (by omega)),by simp [h1]⟩
 rw [lP,h1]
 simp only [val,Nat.mul_zero,Nat.add_zero]
 exact h4
def pB (a b:List Nat):List Nat:=if a.length<b.length then ip b a else ip a b
theorem aNt {a b:List Nat} (ha:Lim a) (hb:Lim b):val (pB a b)=val a+val b∧Lim (pB a b)∧(pB a b).length≤a.length+b.length+1:=by
 unfold pB
 by_cases h:a.length<b.length
 ·rw [if_pos h]
  obtain ⟨h1,h2,h3⟩:=bAu hb ha (by omega)
  exact ⟨by omega,h2,by omega⟩
 ·rw [if_neg h]
  obtain ⟨h1,h2,h3⟩:=bAu ha hb (by omega)
  exact ⟨h1,h2,by omega⟩
set_option maxRecDepth 10000 in
theorem bIj (a b:List Nat) (ha:Lim a) (hb:Lim b) (hla:a.length≤274877906944) (hlb:b.length≤274877906944):Spec Tryz.prog 149 [aG a,aG b] (aG (pB a b)):=by
 refine aY (N:=57) aF Tryz.func149 rfl rfl rfl (by kernel_rfl) (by kernel_rfl) (by simp) ?_
 obtain ⟨p,q,lp,lq,hqp,hpl,hr,hc⟩:∃ p q:List Nat,Lim p∧Lim q∧q.length≤p.length∧p.length≤274877906944∧pB a b=ip p q∧((a.length<b.length∧p=b∧q=a)∨(¬ a.length<b.length∧p=a∧q=b)):=by
  by_cases h:a.length<b.length
  ·exact ⟨b,a,hb,ha,by omega,hlb,by simp [pB,h],.inl ⟨h,rfl,rfl⟩⟩
  ·exact ⟨a,b,ha,hb,by omega,hla,by simp [pB,h],.inr ⟨h,rfl,rfl⟩⟩
 rw [hr]
 obtain ⟨n,hn⟩:∃ n,p.length+1=n:=⟨_,rfl⟩
 have hw2:IntKind.i64.wrap ((p.length:Int)+1)=(n:Int):=by rw [aS (by omega) (by omega)]; omega
 have hm1:(4:Int) * n≤281474976710656:=by omega
 have hm2:(n:Int)≤9223372036854775807:=by omega
 rcases hc with ⟨h,hp,hq⟩ | ⟨h,hp,hq⟩ <;> subst hp <;> subst hq
 ·have h1:(q.length:Int)<p.length:=by omega
  simp [-map_map,-mapM_map,↓KW,aG,h1,hw2,hm1,hm2]
  refine aU (fun i:Nat=>i≤p.length) (fun i=>StL [(0,.d (aG p)),(1,.d (aG q)),(5,.own 1 0 n 1),(6,.d (.i .u64 (plS p q i).2)),(20,.d (.i .i64 p.length)),(21,.d (.i .i64 i))] none [.cells 121 ((lms (zp (plS p q i).1 n)).map .d)]) (fun i=>p.length - i) 0 (Nat.zero_le _) ?_ ?_
  ·refine bC [1] (by simp) ?_ ?_ <;> simp [-map_map,upd,aT,Γ0,aG,plS,aMd]
  ·intro i hi
   obtain ⟨hlen,hc,_,_⟩:=lU lp lq i
   have hsucc:plS p q (i+1)=((plS p q i).1++[((plS p q i).2+p.getD i 0+q.getD i 0) % 4294967296],((plS p q i).2+p.getD i 0+q.getD i 0) / 4294967296):=rfl
   have hal:=lp.getD i
   have hbl:=lq.getD i
   have hres:i=p.length→(plS p q i).1++[(plS p q i).2]=ip p q:=fun e=>by rw [e]; rfl
   generalize hout:(plS p q i).1=out at *
   generalize hcar:(plS p q i).2=c at *
   have hzl:(zp out n).length=n:=aFh (by omega)
   by_cases hgo:i<p.length
   ·have hw7:IntKind.i64.wrap ((i:Int)+1)=(i:Int)+1:=aS (by omega) (by omega)
    have q1:(i:Int)<p.length:=by omega
    have q3:(i:Int)<n:=by omega
    have q4:i+1≤n:=by omega
    have g1:=getD_some hgo
    have hb0:¬ i<q.length→q.getD i 0=0:=getD_none
    have g2:i<q.length→q[i]? = some (q.getD i 0):=getD_some
    generalize p.getD i 0=x at *
    generalize q.getD i 0=y at *
    obtain ⟨s1,hs1⟩:∃ s1:Nat,c+x=s1:=⟨_,rfl⟩
    obtain ⟨s2,hs2⟩:∃ s2:Nat,s1+y=s2:=⟨_,rfl⟩
    rw [hs1,hs2] at hsucc
    have hwx:IntKind.u64.wrap (x:Int)=x:=bK (by omega) (by omega)
    have hwy:IntKind.u64.wrap (y:Int)=y:=bK (by omega) (by omega)
    have hw1:IntKind.u64.wrap ((c:Int)+x)=s1:=by rw [bK (by omega) (by omega)]; omega
    have hw2':IntKind.u64.wrap ((s1:Int)+y)=s2:=by rw [bK (by omega) (by omega)]; omega
    obtain ⟨lo,hlo⟩:∃ lo:Nat,s2 % 4294967296=lo:=⟨_,rfl⟩
    have hsh:=aWz (t:=s2)
    obtain ⟨hi',hhi⟩:∃ hi':Nat,s2 / 4294967296=hi':=⟨_,rfl⟩
    rw [hhi] at hsh
    have hw3:IntKind.u32.wrap (s2:Int)=lo:=by rw [gS]; omega
    rw [hlo,hhi] at hsucc
    have hlay:=zF hlen (show i<n by omega) lo
    by_cases hbn:i<q.length
    ·have q2:(i:Int)<q.length:=by omega
     have g3:=g2 hbn
     simp [-map_map,-mapM_map,↓KW,aG,q1,q2,q3,q4,g1,g3,hwx,hwy,hw1,hw2',hw3,hsh,hlay,hw7,hzl]
     refine aK (i+1) hgo ?_ (bC [1] (by simp) ?_ ?_)
     ·omega
     ·simp [-map_map,upd,aT,Γ0,aG,hsucc]
     ·simp [-map_map,upd,aT,Γ0,aG,hsucc]
    ·have q2:¬ (i:Int)<q.length:=by omega
     have e2:s2=s1:=by have:=hb0 hbn; omega
     rw [e2] at hw3 hsh
     simp [-map_map,-mapM_map,↓KW,aG,q1,q2,q3,q4,g1,hwx,hw1,hw3,hsh,hlay,hw7,hzl]
     refine aK (i+1) hgo ?_ (bC [1] (by simp) ?_ ?_)
     ·omega
     ·simp [-map_map,upd,aT,Γ0,aG,hsucc]
     ·simp [-map_map,upd,aT,Γ0,aG,hsucc]
   ·have e:i=p.length:=by omega
    have h1:¬ (i:Int)<p.length:=by omega
    have h4:=hres e
    have hn':(p.length:Int)<n:=by omega
    have hn2:p.length+1≤n:=by omega
    have hw3:IntKind.u32.wrap (c:Int)=c:=iX (by omega) (by omega)
    have hlay:=zF (hlen.trans e) (show p.length<n by omega) c
    have hfl:(out++[c]).length=n:=by simp; omega
    have h5:zp (out++[c]) n=out++[c]:=aFi hfl
    rw [h5,h4] at hlay
    rw [h4] at hfl
    simp [-map_map,-mapM_map,↓KW,aG,h1,hn',hn2,hw3,hlay,hzl,hfl,fK hfl,dP hfl]
 ·have h1:¬ (p.length:Int)<q.length:=by omega
  simp [-map_map,-mapM_map,↓KW,aG,h1,hw2,hm1,hm2]
  refine aU (fun i:Nat=>i≤p.length) (fun i=>StL [(0,.d (aG p)),(1,.d (aG q)),(5,.own 1 0 n 1),(6,.d (.i .u64 (plS p q i).2)),(20,.d (.i .i64 p.length)),(21,.d (.i .i64 i))] none [.cells 121 ((lms (zp (plS p q i).1 n)).map .d)]) (fun i=>p.length - i) 0 (Nat.zero_le _) ?_ ?_
  ·refine bC [1] (by simp) ?_ ?_ <;> simp [-map_map,upd,aT,Γ0,aG,plS,aMd]
  ·intro i hi
   obtain ⟨hlen,hc,_,_⟩:=lU lp lq i
   have hsucc:plS p q (i+1)=((plS p q i).1++[((plS p q i).2+p.getD i 0+q.getD i 0) % 4294967296],((plS p q i).2+p.getD i 0+q.getD i 0) / 4294967296):=rfl
   have hal:=lp.getD i
   have hbl:=lq.getD i
   have hres:i=p.length→(plS p q i).1++[(plS p q i).2]=ip p q:=fun e=>by rw [e]; rfl
   generalize hout:(plS p q i).1=out at *
   generalize hcar:(plS p q i).2=c at *
   have hzl:(zp out n).length=n:=aFh (by omega)
   by_cases hgo:i<p.length
   ·have hw7:IntKind.i64.wrap ((i:Int)+1)=(i:Int)+1:=aS (by omega) (by omega)
    have q1:(i:Int)<p.length:=by omega
    have q3:(i:Int)<n:=by omega
    have q4:i+1≤n:=by omega
    have g1:=getD_some hgo
    have hb0:¬ i<q.length→q.getD i 0=0:=getD_none
    have g2:i<q.length→q[i]? = some (q.getD i 0):=getD_some
    generalize p.getD i 0=x at *
    generalize q.getD i 0=y at *
    obtain ⟨s1,hs1⟩:∃ s1:Nat,c+x=s1:=⟨_,rfl⟩
    obtain ⟨s2,hs2⟩:∃ s2:Nat,s1+y=s2:=⟨_,rfl⟩
    rw [hs1,hs2] at hsucc
    have hwx:IntKind.u64.wrap (x:Int)=x:=bK (by omega) (by omega)
    have hwy:IntKind.u64.wrap (y:Int)=y:=bK (by omega) (by omega)
    have hw1:IntKind.u64.wrap ((c:Int)+x)=s1:=by rw [bK (by omega) (by omega)]; omega
    have hw2':IntKind.u64.wrap ((s1:Int)+y)=s2:=by rw [bK (by omega) (by omega)]; omega
    obtain ⟨lo,hlo⟩:∃ lo:Nat,s2 % 4294967296=lo:=⟨_,rfl⟩
    have hsh:=aWz (t:=s2)
    obtain ⟨hi',hhi⟩:∃ hi':Nat,s2 / 4294967296=hi':=⟨_,rfl⟩
    rw [hhi] at hsh
    have hw3:IntKind.u32.wrap (s2:Int)=lo:=by rw [gS]; omega
    rw [hlo,hhi] at hsucc
    have hlay:=zF hlen (show i<n by omega) lo
    by_cases hbn:i<q.length
    ·have q2:(i:Int)<q.length:=by omega
     have g3:=g2 hbn
     simp [-map_map,-mapM_map,↓KW,aG,q1,q2,q3,q4,g1,g3,hwx,hwy,hw1,hw2',hw3,hsh,hlay,hw7,hzl]
     refine aK (i+1) hgo ?_ (bC [1] (by simp) ?_ ?_)
     ·omega
     ·simp [-map_map,upd,aT,Γ0,aG,hsucc]
     ·simp [-map_map,upd,aT,Γ0,aG,hsucc]
    ·have q2:¬ (i:Int)<q.length:=by omega
     have e2:s2=s1:=by have:=hb0 hbn; omega
     rw [e2] at hw3 hsh
     simp [-map_map,-mapM_map,↓KW,aG,q1,q2,q3,q4,g1,hwx,hw1,hw3,hsh,hlay,hw7,hzl]
     refine aK (i+1) hgo ?_ (bC [1] (by simp) ?_ ?_)
     ·omega
     ·simp [-map_map,upd,aT,Γ0,aG,hsucc]
     ·simp [-map_map,upd,aT,Γ0,aG,hsucc]
   ·have e:i=p.length:=by omega
    have h1:¬ (i:Int)<p.length:=by omega
    have h4:=hres e
    have hn':(p.length:Int)<n:=by omega
    have hn2:p.length+1≤n:=by omega
    have hw3:IntKind.u32.wrap (c:Int)=c:=iX (by omega) (by omega)
    have hlay:=zF (hlen.trans e) (show p.length<n by omega) c
    have hfl:(out++[c]).length=n:=by simp; omega
    have h5:zp (out++[c]) n=out++[c]:=aFi hfl
    rw [h5,h4] at hlay
    rw [h4] at hfl
    simp [-map_map,-mapM_map,↓KW,aG,h1,hn',hn2,hw3,hlay,hzl,hfl,fK hfl,dP hfl]
set_option maxRecDepth 10000 in
theorem aKo (a b:List Nat) (ha:Lim a) (hb:Lim b) (hla:a.length≤274877906944):Spec Tryz.prog 150 [aG a,aG b] (aG (jY a b)):=by
 refine aY (N:=44) aF Tryz.func150 rfl rfl rfl (by kernel_rfl) (by kernel_rfl) (by simp) ?_
 obtain ⟨n,hn⟩:∃ n,a.length=n:=⟨_,rfl⟩
 have hm1:(4:Int) * n≤281474976710656:=by omega
 have hm2:(n:Int)≤9223372036854775807:=by omega
 simp [-map_map,-mapM_map,↓KW,aG,hn,hm1,hm2]
 refine aU (fun i:Nat=>i≤n) (fun i=>StL [(0,.d (aG a)),(1,.d (aG b)),(5,.own 1 0 n 1),(6,.d (.i .u64 (miS a b i).2)),(13,.d (.i .i64 n)),(14,.d (.i .i64 i))] none [.cells 121 ((lms (zp (miS a b i).1 n)).map .d)]) (fun i=>n - i) 0 (Nat.zero_le _) ?_ ?_
 ·refine bC [1] (by simp) ?_ ?_ <;> simp [-map_map,upd,aT,Γ0,aG,miS,aMd,hn]
 ·intro i hi
  obtain ⟨hlen,hc,_,_⟩:=aGl ha hb i
  have hsucc:=aKh a b i
  have hal:=ha.getD i
  have hbl:=hb.getD i
  have hres:i=n→(miS a b i).1=jY a b:=fun e=>by rw [e,← hn]; rfl
  generalize hout:(miS a b i).1=out at *
  generalize hcar:(miS a b i).2=c at *
  have hzl:(zp out n).length=n:=aFh (by omega)
  by_cases hgo:i<n
  ·have hw7:IntKind.i64.wrap ((i:Int)+1)=(i:Int)+1:=aS (by omega) (by omega)
   have q1:(i:Int)<n:=by omega
   have q4:i+1≤n:=hgo
   have g1:=getD_some (l:=a) (i:=i) (by omega)
   have hb0:¬ i<b.length→b.getD i 0=0:=getD_none
   have g2:i<b.length→b[i]? = some (b.getD i 0):=getD_some
   generalize a.getD i 0=x at *
   generalize b.getD i 0=y at *
   have hwx:IntKind.u64.wrap (x:Int)=x:=bK (by omega) (by omega)
   have hwy:IntKind.u64.wrap (y:Int)=y:=bK (by omega) (by omega)
   obtain ⟨d1,hd1⟩:∃ d1:Int,IntKind.u64.wrap ((x:Int) - c)=d1:=⟨_,rfl⟩
   obtain ⟨d,hd⟩:∃ d:Int,IntKind.u64.wrap (d1 - y)=d:=⟨_,rfl⟩
   have hd1':=hd1
   have hd':=hd
   rw [vV] at hd1' hd'
   have hfin:∃ (lo bw:Nat),miS a b (i+1)=(out++[lo],bw)∧IntKind.u32.wrap d=lo∧jD .shr .u64 d 63=some (.i .u64 (bw:Int)):=by
    by_cases hle:c+y≤x
    ·rw [if_pos hle] at hsucc
     refine ⟨_,_,hsucc,?_,?_⟩
     ·rw [gS]; omega
     ·rw [bKr (by omega)]; congr 2; omega
    ·rw [if_neg hle] at hsucc
     refine ⟨_,_,hsucc,?_,?_⟩
     ·rw [gS]; omega
     ·rw [bKr (by omega)]; congr 2; omega
   obtain ⟨lo,bw,hs,hlo,hbw⟩:=hfin
   have hlay:=zF hlen hgo lo
   by_cases hbn:i<b.length
   ·have q2:(i:Int)<b.length:=by omega
    have g3:=g2 hbn
    simp [-map_map,-mapM_map,↓KW,aG,q1,q2,g1,g3,hwx,hwy,hd1,hd,hlo,hbw,hlay,hw7,hzl,q4]
    refine aK (i+1) hgo ?_ (bC [1] (by simp) ?_ ?_)
    ·omega
    ·simp [-map_map,upd,aT,Γ0,aG,hs]
    ·simp [-map_map,upd,aT,Γ0,aG,hs]
   ·have q2:¬ (i:Int)<b.length:=by omega
    have e1:d1=d:=by have:=hb0 hbn; omega
    rw [e1] at hd1
    simp [-map_map,-mapM_map,↓KW,aG,q1,q2,g1,hwx,hd1,hlo,hbw,hlay,hw7,hzl,q4]
    refine aK (i+1) hgo ?_ (bC [1] (by simp) ?_ ?_)
    ·omega
    ·simp [-map_map,upd,aT,Γ0,aG,hs]
    ·simp [-map_map,upd,aT,Γ0,aG,hs]
  ·have e:i=n:=by omega
   have h1:¬ (i:Int)<n:=by omega
   have h4:=hres e
   have h5:zp out n=out:=aFi (by omega)
   have hlen':out.length=n:=by omega
   simp [-map_map,-mapM_map,↓KW,aG,h1,h5,hlen',fK hlen',dP hlen',← h4]
end Go.Am
end

section
set_option linter.unusedVariables false
set_option linter.unusedSimpArgs false
open List (map_map mapM_map)
open Go Go.Am Go.Proofs
namespace Go.Am
theorem bLy (l:List Nat) (j:Nat):4294967296 ^ j * l.getD j 0≤val l:=by
 have h:=cX l j
 have e:val l=val (l.take (j+1))+4294967296 ^ (l.take (j+1)).length * val (l.drop (j+1)):=by rw [← lP,List.take_append_drop]
 have h2:val (l.take (j+1))≤val l:=by rw [e]; exact Nat.le_add_right _ _
 rw [h] at h2
 exact Nat.le_trans (Nat.le_add_left _ _) h2
theorem yA {l:List Nat} {j:Nat} (h:val l<4294967296 ^ j):l.getD j 0=0:=by
 have h1:=bLy l j
 rcases Nat.eq_zero_or_pos (l.getD j 0) with h2 | h2
 ·exact h2
 ·exfalso
  have:4294967296 ^ j * 1≤4294967296 ^ j * l.getD j 0:=Nat.mul_le_mul_left _ h2
  rw [Nat.mul_one] at this
  omega
theorem aUa {out b:List Nat} {x i:Nat} (k j:Nat) (h:i+k≤j):(muI out x b i k).1.getD j 0=out.getD j 0:=by
 induction k with
 | zero=>rfl
 | succ k ih =>
  have:=ih (by omega)
  rw [← this]
  simp only [muI,List.getD_eq_getElem?_getD]
  rw [List.getElem?_set_ne (by omega)]
def tmO (a b:List Nat):Nat→List Nat
 | 0=>List.replicate (a.length+b.length) 0
 | i+1=>(muI (tmO a b i) (a.getD i 0) b i b.length).1.set (i+b.length) (muI (tmO a b i) (a.getD i 0) b i b.length).2
theorem aPu {a b:List Nat} (ha:Lim a) (hb:Lim b) (i:Nat) (hi:i≤a.length):(tmO a b i).length=a.length+b.length∧Lim (tmO a b i)∧val (tmO a b i)=val (a.take i) * val b:=by
 induction i with
 | zero=>exact ⟨by simp [tmO],.rep _,by simp [tmO,yH,val]⟩
 | succ i ih =>
  obtain ⟨h1,h2,h3⟩:=ih (by omega)
  have hv:=aNm ha hb (i:=i) (by omega)
  rw [← h3] at hv
  have hx:=ha.getD i
  obtain ⟨q1,q2,q3,q4⟩:=rQ (x:=a.getD i 0) (i:=i) h2 hb hx (by omega) b.length (by omega)
  have habove:=aUa (out:=tmO a b i) (b:=b) (x:=a.getD i 0) (i:=i) b.length (i+b.length) (Nat.le_refl _)
  rw [yA hv] at habove
  rw [List.take_of_length_le (Nat.le_refl _)] at q4
  have hset:=aFr (l:=(muI (tmO a b i) (a.getD i 0) b i b.length).1) (j:=i+b.length) (by omega) (muI (tmO a b i) (a.getD i 0) b i b.length).2
  rw [habove,Nat.mul_zero,Nat.add_zero,q4] at hset
  refine ⟨?_,q3.set _ q2,?_⟩
  ·show (List.set _ _ _).length=_
   rw [List.length_set,q1,h1]
  ·show val (List.set _ _ _)=_
   rw [hset,h3,cX,Nat.add_mul,Nat.mul_assoc]
def vY (a b:List Nat):List Nat:=tmO a b a.length
theorem aMk {a b:List Nat} (ha:Lim a) (hb:Lim b):val (vY a b)=val a * val b∧Lim (vY a b)∧(vY a b).length=a.length+b.length:=by
 obtain ⟨h1,h2,h3⟩:=aPu ha hb a.length (Nat.le_refl _)
 rw [List.take_of_length_le (Nat.le_refl _)] at h3
 exact ⟨h3,h2,h1⟩
set_option maxHeartbeats 1000000 in
set_option maxRecDepth 10000 in
theorem bAw (a b:List Nat) (la:Lim a) (lb:Lim b) (hla:a.length≤137438953472) (hlb:b.length≤137438953472):Spec Tryz.prog 115 [aG a,aG b] (aG (vY a b)):=by
 refine aY (N:=66) aF Tryz.func115 rfl rfl rfl (by kernel_rfl) (by kernel_rfl) (by simp) ?_
 obtain ⟨n,hn⟩:∃ n,a.length+b.length=n:=⟨_,rfl⟩
 have hw1:IntKind.i64.wrap ((a.length:Int)+b.length)=(n:Int):=by rw [aS (by omega) (by omega)]; omega
 have hm1:(4:Int) * n≤281474976710656:=by omega
 have hm2:(n:Int)≤9223372036854775807:=by omega
 have h00:tmO a b 0=List.replicate n 0:=by rw [← hn]; rfl
 simp [-map_map,-mapM_map,↓KW,aG,hw1,hm1,hm2]
 refine aU (fun i:Nat=>i≤a.length)
  (fun i=>StL [(0,.d (aG a)),(1,.d (aG b)),(5,.own 1 0 n 1),(17,.d (aG a)),(18,.d (.i .i64 a.length)),(19,.d (.i .i64 i))] none [.cells 121 ((lms (tmO a b i)).map .d)]) (fun i=>a.length - i) 0 (Nat.zero_le _) ?_ ?_
 ·refine bC [1] (by simp) ?_ ?_ <;> simp [-map_map,upd,aT,Γ0,aG,h00]
 ·intro i hi
  obtain ⟨ol,om,ov⟩:=aPu la lb i hi
  rw [hn] at ol
  by_cases hgo:i<a.length
  ·have q1:(i:Int)<a.length:=by omega
   have g1:=getD_some hgo
   have hsucc:tmO a b (i+1)=(muI (tmO a b i) (a.getD i 0) b i b.length).1.set (i+b.length) (muI (tmO a b i) (a.getD i 0) b i b.length).2:=rfl
   have hal:=la.getD i
   generalize hout:tmO a b i=out at *
   generalize a.getD i 0=xv at *
   simp [-map_map,-mapM_map,↓KW,aG,q1,g1]
   have hwx:IntKind.u64.wrap (xv:Int)=xv:=bK (by omega) (by omega)
   refine aU (fun k:Nat=>k≤b.length)
    (fun k=>StL [(0,.d (aG a)),(1,.d (aG b)),(5,.own 1 0 n 1),(17,.d (aG a)),(18,.d (.i .i64 a.length)),(19,.d (.i .i64 i)),(6,.d (.i .i64 i)),(7,.d (.i .u32 xv)),(8,.d (.i .u64 (muI out xv b i k).2)),(24,.d (aG b)),(25,.d (.i .i64 b.length)),(26,.d (.i .i64 k))] none
     [.cells 121 ((lms (muI out xv b i k).1).map .d)]) (fun k=>b.length - k) 0 (Nat.zero_le _) ?_ ?_
   ·refine bC [1] (by simp) ?_ ?_ <;> simp [-map_map,upd,aT,Γ0,aG,muI]
   ·intro k hk
    obtain ⟨il,ic,im,_⟩:=rQ om lb hal (i:=i) (by omega) k (by omega)
    have isucc:muI out xv b i (k+1)=((muI out xv b i k).1.set (i+k) (((muI out xv b i k).2+(muI out xv b i k).1.getD (i+k) 0+xv * b.getD k 0) % 4294967296),((muI out xv b i k).2+(muI out xv b i k).1.getD (i+k) 0+xv * b.getD k 0) / 4294967296):=rfl
    have hres:k=b.length→tmO a b (i+1)=(muI out xv b i k).1.set (i+b.length) (muI out xv b i k).2:=fun e=>by rw [e]; exact hsucc
    clear hsucc
    have ho:=im.getD (i+k)
    generalize hcar:(muI out xv b i k).2=c at *
    generalize hcur:(muI out xv b i k).1=cur at *
    have hgj:List.length cur=n:=by omega
    by_cases hkb:k<b.length
    ·obtain ⟨j,hj⟩:∃ j,i+k=j:=⟨_,rfl⟩
     rw [hj] at isucc ho
     have hjl:j<cur.length:=by omega
     have g2:=aQz (getD_some hjl)
     have hwj:IntKind.i64.wrap ((i:Int)+k)=j:=by rw [aS (by omega) (by omega)]; omega
     have hjn:(j:Int)<n:=by omega
     have hw8:IntKind.i64.wrap ((k:Int)+1)=(k:Int)+1:=aS (by omega) (by omega)
     have hjl2:j<(lms cur).length:=by rw [kY]; exact hjl
     have hjl3:j+1≤n:=by omega
     have hyb:=lb.getD k
     have hlim:=aNl ic ho hal hyb
     have g4:=getD_some hkb
     have q2:(k:Int)<b.length:=by omega
     generalize cur.getD j 0=o at *
     generalize b.getD k 0=yv at *
     obtain ⟨e,he⟩:∃ e:Nat,xv * yv=e:=⟨_,rfl⟩
     rw [he] at isucc hlim
     obtain ⟨s1,hs1⟩:∃ s1:Nat,e+o=s1:=⟨_,rfl⟩
     obtain ⟨t,ht⟩:∃ t:Nat,c+o+e=t:=⟨_,rfl⟩
     rw [ht] at isucc hlim
     obtain ⟨lo,hlo⟩:∃ lo:Nat,t % 4294967296=lo:=⟨_,rfl⟩
     have hsh:=aWz (t:=t)
     obtain ⟨hi',hhi⟩:∃ hi':Nat,t / 4294967296=hi':=⟨_,rfl⟩
     rw [hlo,hhi] at isucc
     rw [hhi] at hsh
     have hwo:IntKind.u64.wrap (o:Int)=o:=bK (by omega) (by omega)
     have hwy:IntKind.u64.wrap (yv:Int)=yv:=bK (by omega) (by omega)
     have hwm:IntKind.u64.wrap ((xv:Int) * yv)=e:=by rw [← Int.natCast_mul,he,bK (by omega) (by omega)]
     have hws:IntKind.u64.wrap ((e:Int)+o)=s1:=by rw [bK (by omega) (by omega)]; omega
     have hwt:IntKind.u64.wrap ((c:Int)+s1)=t:=by rw [bK (by omega) (by omega)]; omega
     have hwlo:IntKind.u32.wrap (t:Int)=lo:=by rw [gS]; omega
     have hlay:lay (List.map AV.d (lms cur)) j [AV.d (D.i .u32 (lo:Int))]=List.map AV.d (lms (cur.set j lo)):=by
      rw [nG _ _ _ hjl2,uO]
     simp [-map_map,-mapM_map,↓KW,aG,q2,hwj,hjn,g2,hwo,hws,g1,g4,hwx,hwy,hwm,hwt,hwlo,hsh,hlay,hw8,hjl3,hgj]
     refine aK (k+1) hkb ?_ (bC [1] (by simp) ?_ ?_)
     ·omega
     ·simp [-map_map,upd,aT,Γ0,aG,isucc]
     ·simp [-map_map,upd,aT,Γ0,aG,isucc]
    ·have q2:¬ (k:Int)<b.length:=by omega
     have hfin:=hres (by omega)
     have hw8:IntKind.i64.wrap ((i:Int)+1)=(i:Int)+1:=aS (by omega) (by omega)
     obtain ⟨j,hj⟩:∃ j,i+b.length=j:=⟨_,rfl⟩
     rw [hj] at hfin
     have hwj:IntKind.i64.wrap ((i:Int)+b.length)=j:=by rw [aS (by omega) (by omega)]; omega
     have hjn:(j:Int)<n:=by omega
     have hjl3:j+1≤n:=by omega
     have hjl2:j<(lms cur).length:=by rw [kY]; omega
     have hwc:IntKind.u32.wrap (c:Int)=c:=iX (by omega) (by omega)
     have hlay:lay (List.map AV.d (lms cur)) j [AV.d (D.i .u32 (c:Int))]=List.map AV.d (lms (cur.set j c)):=by
      rw [nG _ _ _ hjl2,uO]
     simp [-map_map,-mapM_map,↓KW,aG,q2,hw8,hwj,hjn,hjl3,hwc,hlay,hgj]
     refine aK (i+1) hgo ?_ (bC [1] (by simp) ?_ ?_)
     ·omega
     ·simp [-map_map,upd,aT,Γ0,aG,hfin]
     ·simp [-map_map,upd,aT,Γ0,aG,hfin]
  ·have q1:¬ (i:Int)<a.length:=by omega
   have e:i=a.length:=by omega
   have e':tmO a b i=vY a b:=by rw [e]; rfl
   rw [e'] at ol
   simp [-map_map,-mapM_map,↓KW,aG,q1,e',ol,fK ol,dP ol]
set_option maxHeartbeats 1000000 in
set_option maxRecDepth 10000 in
theorem aRc (x y:Int) (hx:(aV x.natAbs).length≤137438953472) (hy:(aV y.natAbs).length≤137438953472):Spec Tryz.prog 81 [encZ x,encZ y] (encZ (x * y)):=by
 refine aY (N:=18) aF Tryz.func81 rfl rfl rfl (by kernel_rfl) (by kernel_rfl) (by simp) ?_
 have la:=cD x.natAbs
 have lb:=cD y.natAbs
 have va:=cQ x.natAbs
 have vb:=cQ y.natAbs
 have ta:=nH (aV x.natAbs) (by omega)
 have tb:=nH (aV y.natAbs) (by omega)
 rw [gJ la,va] at ta
 rw [gJ lb,vb] at tb
 have sx:=gT x
 have sy:=gT y
 have ex:encZ x=.ag [.b (decide (x<0)),aG (aV x.natAbs)]:=rfl
 have ey:encZ y=.ag [.b (decide (y<0)),aG (aV y.natAbs)]:=rfl
 rw [ex,ey]
 generalize aV x.natAbs=a at *
 generalize aV y.natAbs=b at *
 generalize hbx:decide (x<0)=nx at *
 generalize hby:decide (y<0)=ny at *
 obtain ⟨tv,tl,tn⟩:=aMk la lb
 simp [-map_map,-mapM_map,↓KW,aG]
 refine aA (ds:=[aG a]) (by rfl) ta ?_
 simp [-map_map,-mapM_map,↓KW,aG]
 refine aA (ds:=[aG b]) (by rfl) tb ?_
 simp [-map_map,-mapM_map,↓KW,aG]
 refine aA (ds:=[aG a,aG b]) (by rfl) (bAw a b la lb hx hy) ?_
 simp [-map_map,-mapM_map,↓KW,aG]
 have hm:=mD tl (by omega) (!(nx == ny))
 rw [tv,va,vb] at hm
 have e2:sg (!(nx == ny)) (x.natAbs * y.natAbs)=x * y:=by
  rw [← sx,← sy]
  cases nx <;> cases ny <;> simp [sg,Int.mul_neg,Int.neg_mul]
 rw [e2] at hm
 refine aA (ds:=[.b (!(nx == ny)),aG (vY a b)]) (by rfl) hm ?_
 simp [-map_map,-mapM_map,↓KW,aG,encZ,encI]
set_option maxHeartbeats 1000000 in
set_option maxRecDepth 10000 in
theorem aRd (x y:Int) (hx:(aV x.natAbs).length≤137438953472) (hy:(aV y.natAbs).length≤137438953472):Spec Tryz.prog 125 [encZ x,encZ y] (encZ (x+y)):=by
 refine aY (N:=42) aF Tryz.func125 rfl rfl rfl (by kernel_rfl) (by kernel_rfl) (by simp) ?_
 have la:=cD x.natAbs
 have lb:=cD y.natAbs
 have va:=cQ x.natAbs
 have vb:=cQ y.natAbs
 have ta:=nH (aV x.natAbs) (by omega)
 have tb:=nH (aV y.natAbs) (by omega)
 rw [gJ la,va] at ta
 rw [gJ lb,vb] at tb
 have hless:(aV x.natAbs).length<(aV y.natAbs).length→x.natAbs<y.natAbs:=iQ
 have hless2:(aV y.natAbs).length<(aV x.natAbs).length→y.natAbs<x.natAbs:=iQ
 have hl:=aAv _ _ la lb (by omega) (by omega)
 have hcmp:(x.natAbs<y.natAbs→oL (aV x.natAbs) (aV y.natAbs)<0)∧(¬ x.natAbs<y.natAbs→¬ oL (aV x.natAbs) (aV y.natAbs)<0):=by
  unfold oL
  rw [jE,jE]
  constructor
  ·intro h; rw [if_pos (by simpa using h)]; decide
  ·intro h
   rw [if_neg (by simpa using h)]
   split <;> decide
 have sx:=gT x
 have sy:=gT y
 have ex:encZ x=.ag [.b (decide (x<0)),aG (aV x.natAbs)]:=rfl
 have ey:encZ y=.ag [.b (decide (y<0)),aG (aV y.natAbs)]:=rfl
 rw [ex,ey]
 generalize aV x.natAbs=a at *
 generalize aV y.natAbs=b at *
 generalize hbx:decide (x<0)=nx at *
 generalize hby:decide (y<0)=ny at *
 simp [-map_map,-mapM_map,↓KW,aG]
 refine aA (ds:=[aG a]) (by rfl) ta ?_
 simp [-map_map,-mapM_map,↓KW,aG]
 refine aA (ds:=[aG b]) (by rfl) tb ?_
 by_cases hn:nx=ny
 ·have h1:(nx == ny)=true:=by simpa using hn
  simp [-map_map,-mapM_map,↓KW,aG,h1]
  obtain ⟨pv,pl,pn⟩:=aNt la lb
  refine aA (ds:=[aG a,aG b]) (by rfl) (bIj a b la lb (by omega) (by omega)) ?_
  simp [-map_map,-mapM_map,↓KW,aG]
  have hm:=mD pl (by omega) nx
  rw [pv,va,vb] at hm
  have e:sg nx (x.natAbs+y.natAbs)=x+y:=by
   rw [← sx,← sy,← hn]; cases nx <;> simp [sg] <;> omega
  rw [e] at hm
  refine aA (ds:=[.b nx,aG (pB a b)]) (by rfl) hm ?_
  simp [-map_map,-mapM_map,↓KW,aG,encZ,encI]
 ·have h1:(nx == ny)=false:=by simpa using hn
  simp [-map_map,-mapM_map,↓KW,aG,h1]
  refine aA (ds:=[aG a,aG b]) (by rfl) hl ?_
  by_cases hlt:x.natAbs<y.natAbs
  ·have h2:=hcmp.1 hlt
   simp [-map_map,-mapM_map,↓KW,aG,h2]
   obtain ⟨pv,pl,pn⟩:=oZ lb la (by omega) (by omega)
   refine aA (ds:=[aG b,aG a]) (by rfl) (aKo b a lb la (by omega)) ?_
   simp [-map_map,-mapM_map,↓KW,aG]
   have hm:=mD pl (by omega) ny
   rw [pv,va,vb] at hm
   have e:sg ny (y.natAbs - x.natAbs)=x+y:=by
    rw [← sx,← sy]
    cases nx <;> cases ny <;> simp [sg] at hn ⊢ <;> omega
   rw [e] at hm
   refine aA (ds:=[.b ny,aG (jY b a)]) (by rfl) hm ?_
   simp [-map_map,-mapM_map,↓KW,aG,encZ,encI]
  ·have h2:=hcmp.2 hlt
   simp [-map_map,-mapM_map,↓KW,aG,h2]
   obtain ⟨pv,pl,pn⟩:=oZ la lb (by omega) (by omega)
   refine aA (ds:=[aG a,aG b]) (by rfl) (aKo a b la lb (by omega)) ?_
   simp [-map_map,-mapM_map,↓KW,aG]
   have hm:=mD pl (by omega) nx
   rw [pv,va,vb] at hm
   have e:sg nx (x.natAbs - y.natAbs)=x+y:=by
    rw [← sx,← sy]
    cases nx <;> cases ny <;> simp [sg] at hn ⊢ <;> omega
   rw [e] at hm
   refine aA (ds:=[.b nx,aG (jY a b)]) (by rfl) hm ?_
   simp [-map_map,-mapM_map,↓KW,aG,encZ,encI]
end Go.Am
end

section
set_option linter.unusedVariables false
set_option linter.unusedSimpArgs false
open Go Go.Am Go.Proofs
namespace Go.Am
def eE (f:Int × Int):List D:=[.i .i64 f.1,.b (decide (f.2<0)),aG (aV f.2.natAbs)]
def aM (l:List (Int × Int)):D:=.sl (l.map eE)
def fcs (l:List (Int × Int)):List D:=(l.map eE).flatten
theorem rV (l:List (Int × Int)):(fcs l).length=l.length * 3:=by
 unfold fcs
 induction l with
 | nil=>rfl
 | cons x l ih=>simp only [List.map_cons,List.flatten_cons,List.length_append,ih,eE,List.length_cons,List.length_nil]; omega
theorem bJc:fcs []=[]:=rfl
theorem eC (a b:List (Int × Int)):fcs (a++b)=fcs a++fcs b:=by simp [fcs]
theorem cN (f:Int × Int):fcs [f]=[.i .i64 f.1,.b (decide (f.2<0)),aG (aV f.2.natAbs)]:=rfl
theorem bJb (f g:Int × Int):fcs [f,g]=[.i .i64 f.1,.b (decide (f.2<0)),aG (aV f.2.natAbs),.i .i64 g.1,.b (decide (g.2<0)),aG (aV g.2.natAbs)]:=rfl
theorem aJ (m:List Nat):one (.d (aG m))=true:=rfl
theorem aD (m:List Nat):eG (.d (aG m))=some [.d (aG m)]:=rfl
theorem aP (m:List Nat):aT (aG m)=.d (aG m):=rfl
theorem bJd (l:List (Int × Int)):((fcs l).map AV.d).all one=true:=by
 unfold fcs
 induction l with
 | nil=>rfl
 | cons x l ih =>
  simp only [List.map_cons,List.flatten_cons,List.map_append,List.all_append,ih,Bool.and_true]
  rfl
theorem iM (l:List (Int × Int)):(∀ x,x∈fcs l→one (AV.d x)=true)↔True:=⟨fun _=>trivial,fun _ _ hx=>List.all_eq_true.1 (bJd l) _ (List.mem_map_of_mem hx)⟩
theorem sC {l:List (Int × Int)} {n:Nat} (h:l.length=n):chunk 3 n (fcs l)=l.map eE:=by
 subst h
 have:=xN (l.map eE) (fun x hx=>by obtain ⟨y,_,rfl⟩:=List.mem_map.1 hx; rfl)
 rwa [List.length_map] at this
theorem lX {l:List (Int × Int)} {n:Nat} (h:l.length=n):List.take (n * 3) ((fcs l).map AV.d)=(fcs l).map AV.d:=List.take_of_length_le (by simp [rV,h])
theorem bB (f:Int × Int):eE f=[.i .i64 f.1,.b (decide (f.2<0)),aG (aV f.2.natAbs)]:=rfl
theorem aW {n:Nat} (h:n≤1099511627776):n≤maxLen:=Nat.le_trans h (by decide)
theorem cO {n:Nat} (h:n≤2147483648):(n+1) * 40≤140737488355328∧n+1≤1099511627776∧(n+1+1) * 40≤140737488355328∧n+1+1≤1099511627776:=by
 refine ⟨by omega,by omega,by omega,by omega⟩
def Sz (z:Int):Prop:=(aV z.natAbs).length≤137438953472
theorem bH (m:List Nat):inj (aG m)=.d (aG m):=rfl
theorem aX (H:Nat→Option HO) (avs:List AV) (m:List Nat):bX H avs (aG m)=gD H avs:=rfl
theorem bI (z:Int):encZ z=.ag [.b (decide (z<0)),aG (aV z.natAbs)]:=rfl
theorem aUy:encZ 0=.ag [.b false,.sl []]:=by
 unfold encZ encI
 rw [show (0:Int).natAbs=0 from rfl,cE]; rfl
theorem zS (z:Int):strip (aV z.natAbs)=[]↔z=0:=by
 rw [gJ (cD _),cQ,fP]; omega
theorem aAu (z:Int) (hz:Sz z):Spec Tryz.prog 66 [encZ z] (.i .i64 z.sign):=by
 have:=aGo (decide (z<0)) (aV z.natAbs) (Nat.le_trans hz (by decide))
 have e:(if strip (aV z.natAbs)=[] then (0:Int) else if (decide (z<0))=true then -1 else 1)=z.sign:=by
  simp only [zS]
  rcases Int.lt_trichotomy z 0 with h | h | h
  ·rw [if_neg (by omega),if_pos (by simpa using h),Int.sign_eq_neg_one_of_neg h]
  ·subst h; rfl
  ·rw [if_neg (by omega),if_neg (by simp; omega),Int.sign_eq_one_of_pos h]
 rwa [e] at this
end Go.Am
end

section
set_option linter.unusedVariables false
set_option linter.unusedSimpArgs false
open Go Go.Am Go.Proofs
namespace Go.Am
open Go.ChangeShapes Go.WideShapes Go.ChangeAt Go.RowKit
theorem bCx {w:World} {a:Addr} {v:Value} (h:w.cell? a=some v):a.block<w.heap.size:=by
 unfold World.cell? at h
 cases hb:w.heap[a.block]? with
 | none=>rw [hb] at h; cases h
 | some o=>exact (Array.getElem?_eq_some_iff.1 hb).1
theorem aZz {α:Type} {Q:Nat→α→Prop}:∀ {n:Nat},(∀ i,i<n→∃ y,Q i y)→∃ l:List α,l.length=n∧∀ (i:Nat) (y:α),l[i]? = some y→Q i y
 | 0,_=>⟨[],rfl,fun i y h=>by simp at h⟩
 | n+1,h=>by
  obtain ⟨l,hl,hq⟩:=aZz (n:=n) fun i hi=>h i (Nat.lt_succ_of_lt hi)
  obtain ⟨y,hy⟩:=h n (Nat.lt_succ_self n)
  refine ⟨l++[y],by simp [hl],fun i z hz=>?_⟩
  rcases Nat.lt_or_ge i l.length with h1 | h1
  ·rw [List.getElem?_append_left h1] at hz; exact hq i z hz
  ·rw [List.getElem?_append_right h1] at hz
   have h2:i - l.length=0:=by
    rcases Nat.eq_zero_or_pos (i - l.length) with h3 | h3
    ·exact h3
    ·rw [List.getElem?_eq_none (by simp; omega)] at hz; cases hz
   rw [h2] at hz
   simp at hz
   subst hz
   rwa [show i=n by omega]
theorem aVh {w:World} {n:Nat} {a:Addr} {cs:List Value} (h:w.cells? 0 a n=some cs):∀ k,k<n→w.cell? (a.add k)=cs[k]? := by
 intro k hk
 unfold World.cells? at h
 rw [if_pos (Nat.zero_le _)] at h
 have:=mapM_some_get h k k (by simp [hk])
 exact this
theorem aTq {α:Type} {P:Program} {H:Type} {enc:TypeId × Value→H} {w:World} {sp:Nat→Bool} {held:Bool} {t e:TypeId} {cs:List Value} {x:DataW H × List MemPlace} {fuel:Nat} (ht:P.underlying t=some (.slice e)) (hc:0<P.cellsOf e) (E:α→List D) (good:α→Prop)
  (hE:∀ (fuel:Nat) (cs:List Value) (x:DataW H × List MemPlace),DataW.trod enc P w 0 sp held fuel e cs=some x→∃ y:α,good y∧(E y).length=P.cellsOf e∧∀ (k:Nat) (c:D) (v:Value),(E y)[k]? = some c→cs[k]? = some v→VD (fun b=>b<w.heap.size) w c v)
  (hf:DataW.trod enc P w 0 sp held fuel t cs=some x):∃ (v:Value) (l:List α),cs=[v]∧VD (fun b=>b<w.heap.size) w (.sl (l.map E)) v∧(∀ y∈l,good y)∧l.length≤9223372036854775807:=by
 rcases DataW.trod_slice ht hf with ⟨hcs,_⟩ | ⟨a,len,cap,elems,rest,n,_,hcs,_,_,hlc,hcm,hel,hEl,_⟩
 ·exact ⟨_,[],hcs,.sl0 _ _,(fun p hp=>by cases hp),Nat.zero_le _⟩
 ·have each:∀ i,i<len→∃ y:α,good y∧(E y).length=P.cellsOf e∧∀ (k:Nat),k<P.cellsOf e→∃ v,w.cell? (a.add (i * P.cellsOf e+k))=some v∧∀ c:D,(E y)[k]? = some c→VD (fun b=>b<w.heap.size) w c v:=by
   intro i hi
   have h1:=hEl i hi
   rw [List.getElem?_eq_getElem (by omega)] at h1
   obtain ⟨vs,h2,h3⟩:=Option.bind_eq_some_iff.1 h1
   obtain ⟨y,g,hy,hv⟩:=hE _ _ _ h3
   refine ⟨y,g,hy,fun k hk=>?_⟩
   have h4:=aVh h2 k hk
   rw [add_add] at h4
   have h5:k<vs.length:=by
    unfold World.cells? at h2
    rw [if_pos (Nat.zero_le _)] at h2
    have:=mapM_some_length h2
    simp at this; omega
   rw [List.getElem?_eq_getElem h5] at h4
   exact ⟨_,h4,fun c hc=>hv k c _ hc (List.getElem?_eq_getElem h5)⟩
  obtain ⟨l,hl,hq⟩:=aZz each
  have hgood:∀ y∈l,good y:=fun y hy=>by
   obtain ⟨i,hi,rfl⟩:=List.mem_iff_getElem.1 hy
   exact (hq i _ (List.getElem?_eq_getElem hi)).1
  refine ⟨_,l,hcs,?_,hgood,by rw [hl]; exact Nat.le_trans hlc hcm⟩
  rcases Nat.eq_zero_or_pos len with h0 | hpos
  ·have:l=[]:=List.eq_nil_of_length_eq_zero (by omega)
   subst this; subst h0; exact .sl0 _ _
  ·have hab:a.block<w.heap.size:=by
    obtain ⟨y,_,_,hy⟩:=each 0 hpos
    obtain ⟨v,hv,_⟩:=hy 0 hc
    have:=bCx hv
    rwa [block_add] at this
   refine .sl _ a len cap (P.cellsOf e) (fun j=>(w.cell? (a.add j)).getD undef) (by simp [hl]) hlc (fun cs hcs=>?_) hab (fun j hj=>?_) (fun j k cs c hj hk=>?_)
   ·obtain ⟨y,hy,rfl⟩:=List.mem_map.1 hcs
    obtain ⟨i,hi,rfl⟩:=List.mem_iff_getElem.1 hy
    exact (hq i _ (List.getElem?_eq_getElem hi)).2.1
   ·have hd:j / P.cellsOf e<len:=Nat.div_lt_of_lt_mul (by rwa [Nat.mul_comm] at hj)
    obtain ⟨y,_,_,hy⟩:=each _ hd
    obtain ⟨v,hv,_⟩:=hy (j % P.cellsOf e) (Nat.mod_lt _ hc)
    rw [Nat.mul_comm,Nat.div_add_mod] at hv
    simp [hv]
   ·rw [List.getElem?_map,Option.map_eq_some_iff] at hj
    obtain ⟨y,hy,rfl⟩:=hj
    obtain ⟨_,h6,h7⟩:=hq j y hy
    obtain ⟨v,hv,hvc⟩:=h7 k (by rw [← h6]; exact (List.getElem?_eq_some_iff.1 hk).1)
    simp only [hv,Option.getD_some]
    exact hvc c hk
end Go.Am
end

section
set_option linter.unusedVariables false
set_option linter.unusedSimpArgs false
open List (map_map mapM_map)
open Go Go.Am Go.Proofs
namespace Go.Am
def eP (id z:Int) (s:List (Int × Int) × Bool) (x:Int × Int):List (Int × Int) × Bool :=
 if s.2 then (s.1++[x],true)
 else if x.1 > id then (s.1++[(id,z),x],true)
 else if x.1=id then (if x.2+z=0 then s.1 else s.1++[(id,x.2+z)],true)
 else (s.1++[x],false)
def lV (l:List (Int × Int)) (f:Int × Int):List (Int × Int) :=
 let s:=l.foldl (eP f.1 f.2) ([],decide (f.2=0))
 if s.2 then s.1 else s.1++[f]
theorem bAy (id z:Int) (s:List (Int × Int) × Bool) (x:Int × Int):(eP id z s x).1.length≤s.1.length+2:=by
 unfold eP
 split
 ·simp
 ·split
  ·simp
  ·split
   ·split <;> simp
   ·simp
theorem qP (id z:Int):∀ (l:List (Int × Int)) (s:List (Int × Int) × Bool),(l.foldl (eP id z) s).1.length≤s.1.length+2 * l.length
 | [],s=>by simp
 | x::l,s=>by
  have h1:=qP id z l (eP id z s x)
  have h2:=bAy id z s x
  simp only [List.foldl_cons,List.length_cons]
  omega
set_option maxHeartbeats 2000000 in
set_option maxRecDepth 10000 in
theorem wL (l:List (Int × Int)) (id z:Int) (hz:Sz z) (hs:∀ x∈l,Sz x.2) (hl:l.length≤1073741824):Spec Tryz.prog 120 [aM l,.ag (eE (id,z))] (aM (lV l (id,z))):=by
 refine aY (N:=80) aF Tryz.func120 rfl rfl rfl (by kernel_rfl) (by kernel_rfl) (by simp) ?_
 simp [-map_map,-mapM_map,↓KW,aM,bB,aJ,aD]
 refine aA (ds:=[encZ z]) (by rfl) (eJ z) ?_
 have e0:((z.sign:Int) == 0)=decide (z=0):=by
  rw [Bool.eq_iff_iff]; simp
 simp [-map_map,-mapM_map,↓KW,e0,bB,aJ,aD]
 refine aU (fun i:Nat=>i≤l.length)
  (fun i=>StL [(0,.d (aM l)),(3,.ptr 1 0),(5,.own 2 0 ((l.take i).foldl (eP id z) ([],decide (z=0))).1.length 3),(6,.d (.b ((l.take i).foldl (eP id z) ([],decide (z=0))).2)),(7,.d (.i .i64 i))] none
   [.cells 89 ((fcs [(id,z)]).map .d),.cells 89 ((fcs ((l.take i).foldl (eP id z) ([],decide (z=0))).1).map .d)]) (fun i=>l.length - i) 0 (Nat.zero_le _) ?_ ?_
 ·refine bC [1,2] (by simp) ?_ ?_ <;> simp [-map_map,upd,aT,Γ0,aM,bB,cN,bJc]
 ·intro i hi
  have hlen:=qP id z (l.take i) ([],decide (z=0))
  simp only [List.length_nil,List.length_take] at hlen
  have hfin:i=l.length→lV l (id,z)=if ((l.take i).foldl (eP id z) ([],decide (z=0))).2 then ((l.take i).foldl (eP id z) ([],decide (z=0))).1 else ((l.take i).foldl (eP id z) ([],decide (z=0))).1++[(id,z)]:=fun e=>by
   rw [List.take_of_length_le (by omega)]; rfl
  have hsucc:∀ h:i<l.length,(l.take (i+1)).foldl (eP id z) ([],decide (z=0))=eP id z ((l.take i).foldl (eP id z) ([],decide (z=0))) l[i]:=fun h=>by
   rw [List.take_add_one,List.getElem?_eq_getElem h,List.foldl_append]; rfl
  generalize hst:(l.take i).foldl (eP id z) ([],decide (z=0))=st at *
  obtain ⟨out,done⟩:=st
  simp only at hlen hfin hsucc
  obtain ⟨n,hn⟩:∃ n,out.length=n:=⟨_,rfl⟩
  have hn':n≤2147483648:=by rw [← hn]; exact Nat.le_trans hlen (by omega)
  clear hlen
  have hfl:=rV out
  rw [hn] at hfl
  by_cases hgo:i<l.length
  ·have q1:(i:Int)<l.length:=by omega
   have hw7:IntKind.i64.wrap ((i:Int)+1)=(i:Int)+1:=aS (by omega) (by omega)
   have hsu:=hsucc hgo
   have g1:l[i]? = some l[i]:=List.getElem?_eq_getElem hgo
   have hsx:=hs _ (List.getElem_mem hgo)
   generalize l[i]=x at *
   obtain ⟨xi,xc⟩:=x
   simp only at hsx
   have hb:=cO hn'
   cases done with
   | true =>
    replace hsu:=hsu.trans (show eP id z (out,true) (xi,xc)=(out++[(xi,xc)],true) from rfl)
    simp [-map_map,-mapM_map,↓KW,aM,q1,g1,bB,aJ,aD,cN,iM,hn,hfl,hb,aW,hw7]
    refine aK (i+1) hgo (Nat.sub_lt_sub_left hgo (Nat.lt_succ_self i)) (bC [1,4] (by simp) ?_ ?_)
    ·simp [-map_map,upd,aT,Γ0,aM,hsu,bB,cN,eC,hn]
    ·simp [-map_map,upd,aT,Γ0,aM,hsu,bB,cN,eC,hn]
   | false =>
    by_cases hgt:xi > id
    ·have hgt':id<xi:=hgt
     replace hsu:=hsu.trans (show eP id z (out,false) (xi,xc)=(out++[(id,z),(xi,xc)],true) by simp [eP,hgt])
     have h33:n * 3+3=(n+1) * 3:=by omega
     simp [-map_map,-mapM_map,↓KW,aM,q1,g1,hgt',bB,aJ,aD,cN,iM,hn,hfl,hb,aW,hw7,h33]
     refine aK (i+1) hgo (Nat.sub_lt_sub_left hgo (Nat.lt_succ_self i)) (bC [1,6] (by simp) ?_ ?_)
     ·simp [-map_map,upd,aT,Γ0,aM,hsu,bB,cN,eC,hn]
     ·simp [-map_map,upd,aT,Γ0,aM,hsu,bB,cN,eC,hn,bJb]
    ·have hgt':¬ id<xi:=hgt
     by_cases heq:xi=id
     ·have he:(xi == id)=true:=by simpa using heq
      simp [-map_map,-mapM_map,↓KW,aM,q1,g1,hgt',he,bB,aJ,aD,cN,iM,hn,hfl,hb,aW,hw7]
      refine aA (ds:=[encZ xc,encZ z]) (by rfl) (oU xc z (Nat.le_trans hsx (by decide)) (Nat.le_trans hz (by decide))) ?_
      simp [-map_map,-mapM_map,↓KW,encZ,encI,aJ,aD]
      refine aA (ds:=[encZ (xc+z)]) (by rfl) (eJ (xc+z)) ?_
      by_cases h0:xc+z=0
      ·have h0':((xc+z).sign != 0)=false:=by simp [h0]
       replace hsu:=hsu.trans (show eP id z (out,false) (xi,xc)=(out,true) by simp [eP,hgt,heq,h0])
       simp [-map_map,-mapM_map,↓KW,h0',hn,hw7]
       refine aK (i+1) hgo (Nat.sub_lt_sub_left hgo (Nat.lt_succ_self i)) (bC [1,2] (by simp) ?_ ?_)
       ·simp [-map_map,upd,aT,Γ0,aM,hsu,bB,cN,eC,hn]
       ·simp [-map_map,upd,aT,Γ0,aM,hsu,bB,cN,eC,hn]
      ·have h0':((xc+z).sign != 0)=true:=by simp [h0]
       replace hsu:=hsu.trans (show eP id z (out,false) (xi,xc)=(out++[(id,xc+z)],true) by simp [eP,hgt,heq,h0])
       simp [-map_map,-mapM_map,↓KW,h0',bB,aJ,aD,cN,iM,hn,hfl,hb,aW,hw7]
       refine aK (i+1) hgo (Nat.sub_lt_sub_left hgo (Nat.lt_succ_self i)) (bC [1,5] (by simp) ?_ ?_)
       ·simp [-map_map,upd,aT,Γ0,aM,hsu,bB,cN,eC,hn]
       ·simp [-map_map,upd,aT,Γ0,aM,hsu,bB,cN,eC,hn]
     ·have he:(xi == id)=false:=by simpa using heq
      replace hsu:=hsu.trans (show eP id z (out,false) (xi,xc)=(out++[(xi,xc)],false) by simp [eP,hgt,heq])
      simp [-map_map,-mapM_map,↓KW,aM,q1,g1,hgt',he,bB,aJ,aD,cN,iM,hn,hfl,hb,aW,hw7]
      refine aK (i+1) hgo (Nat.sub_lt_sub_left hgo (Nat.lt_succ_self i)) (bC [1,4] (by simp) ?_ ?_)
      ·simp [-map_map,upd,aT,Γ0,aM,hsu,bB,cN,eC,hn]
      ·simp [-map_map,upd,aT,Γ0,aM,hsu,bB,cN,eC,hn]
  ·have q1:¬ (i:Int)<l.length:=by omega
   have hfi:=hfin (by omega)
   have hb:=cO hn'
   cases done with
   | true =>
    have e:lV l (id,z)=out:=by rw [hfi]; rfl
    simp [-map_map,-mapM_map,↓KW,aM,q1,hn,hfl,sC hn,lX hn,e]
   | false =>
    have e:lV l (id,z)=out++[(id,z)]:=by rw [hfi]; rfl
    have hn2:(out++[(id,z)]).length=n+1:=by simp [hn]
    have e2:List.map AV.d (fcs out)++[AV.d (D.i .i64 id),AV.d (D.b (decide (z<0))),AV.d (aG (aV z.natAbs))]=List.map AV.d (fcs (out++[(id,z)])):=by
     rw [eC,List.map_append]; rfl
    have hfl2:=rV (out++[(id,z)])
    rw [hn2] at hfl2
    simp [-map_map,-mapM_map,↓KW,aM,q1,bB,aJ,aD,cN,iM,hn,hfl,hb,aW,e2,hfl2,sC hn2,lX hn2,e]
end Go.Am
end

section
set_option linter.unusedVariables false
set_option linter.unusedSimpArgs false
open List (map_map mapM_map)
open Go Go.Am Go.Proofs
namespace Go.Am
def b2n (b:Bool):Nat:=if b then 1 else 0
theorem pP (id z:Int):∀ (l:List (Int × Int)) (s:List (Int × Int) × Bool) (n:Nat),s.1.length≤n+b2n s.2→(l.foldl (eP id z) s).1.length≤n+l.length+b2n (l.foldl (eP id z) s).2
 | [],s,n,h=>by simpa using h
 | x::l,s,n,h=>by
  have h2:(eP id z s x).1.length≤n+1+b2n (eP id z s x).2:=by
   obtain ⟨out,done⟩:=s
   cases done
   ·simp only [b2n,Bool.false_eq_true,if_false,Nat.add_zero] at h
    unfold eP
    simp only [Bool.false_eq_true,if_false]
    split
    ·simp [b2n]; omega
    ·split
     ·split <;> simp [b2n] <;> omega
     ·simp [b2n]; omega
   ·simp only [b2n,if_true] at h
    unfold eP
    simp [b2n]; omega
  have h1:=pP id z l _ (n+1) h2
  simp only [List.foldl_cons,List.length_cons]
  omega
theorem aEn (l:List (Int × Int)) (f:Int × Int):(lV l f).length≤l.length+1:=by
 have h:=pP f.1 f.2 l ([],decide (f.2=0)) 0 (Nat.zero_le _)
 have e:lV l f=if (l.foldl (eP f.1 f.2) ([],decide (f.2=0))).2 then (l.foldl (eP f.1 f.2) ([],decide (f.2=0))).1 else (l.foldl (eP f.1 f.2) ([],decide (f.2=0))).1++[f]:=rfl
 rw [e]
 generalize l.foldl (eP f.1 f.2) ([],decide (f.2=0))=s at *
 obtain ⟨out,done⟩:=s
 cases done
 ·simp only [b2n,Bool.false_eq_true,if_false] at h ⊢
  simp; omega
 ·simp only [b2n,if_true] at h ⊢
  omega
def Bnd (M:Nat) (l:List (Int × Int)):Prop:=∀ x∈l,x.2.natAbs≤M
theorem Bnd.nil (M:Nat):Bnd M []:=fun _ h=>by cases h
theorem Bnd.mono {M N:Nat} {l:List (Int × Int)} (h:Bnd M l) (k:M≤N):Bnd N l:=fun x hx=>Nat.le_trans (h x hx) k
theorem Bnd.app {M:Nat} {a b:List (Int × Int)} (h:Bnd M a) (k:Bnd M b):Bnd M (a++b):=fun x hx=>by
 rcases List.mem_append.1 hx with hx | hx
 ·exact h x hx
 ·exact k x hx
theorem Bnd.one {M:Nat} {x:Int × Int} (h:x.2.natAbs≤M):Bnd M [x]:=fun y hy=>by
 rcases List.mem_cons.1 hy with rfl | hy
 ·exact h
 ·cases hy
theorem bAz {id z:Int} {s:List (Int × Int) × Bool} {x:Int × Int} {M K:Nat} (hs:Bnd (M+K) s.1) (hx:x.2.natAbs≤M) (hz:z.natAbs≤K):Bnd (M+K) (eP id z s x).1:=by
 unfold eP
 split
 ·exact hs.app (.one (by omega))
 ·split
  ·exact hs.app (.app (.one (x:=(id,z)) (by simp only; omega)) (.one (by omega)))
  ·split
   ·split
    ·exact hs
    ·exact hs.app (.one (by simp only; omega))
   ·exact hs.app (.one (by omega))
theorem qQ {id z:Int} {M K:Nat} (hz:z.natAbs≤K):∀ (l:List (Int × Int)) (s:List (Int × Int) × Bool),Bnd M l→Bnd (M+K) s.1→Bnd (M+K) (l.foldl (eP id z) s).1
 | [],s,_,h=>h
 | x::l,s,hl,h=>qQ hz l _ (fun y hy=>hl y (List.mem_cons_of_mem _ hy)) (bAz h (hl x (List.mem_cons_self ..)) hz)
theorem aKp {l:List (Int × Int)} {f:Int × Int} {M K:Nat} (hl:Bnd M l) (hz:f.2.natAbs≤K):Bnd (M+K) (lV l f):=by
 have h:=qQ (id:=f.1) hz l ([],decide (f.2=0)) hl (.nil _)
 have e:lV l f=if (l.foldl (eP f.1 f.2) ([],decide (f.2=0))).2 then (l.foldl (eP f.1 f.2) ([],decide (f.2=0))).1 else (l.foldl (eP f.1 f.2) ([],decide (f.2=0))).1++[f]:=rfl
 rw [e]
 split
 ·exact h
 ·exact h.app (.one (by omega))
theorem fD {z:Int} {M:Nat} (h:z.natAbs≤M) (hM:(aV M).length≤137438953472):Sz z:=Nat.le_trans (dN h) hM
def bV (a b:List (Int × Int)):List (Int × Int):=b.foldl lV a
theorem kH (a:List (Int × Int)):∀ b:List (Int × Int),(bV a b).length≤a.length+b.length:=by
 intro b
 unfold bV
 induction b generalizing a with
 | nil=>simp
 | cons x b ih =>
  have h1:=ih (lV a x)
  have h2:=aEn a x
  simp only [List.foldl_cons,List.length_cons]; omega
theorem kI {M K:Nat}:∀ (b a:List (Int × Int)),Bnd M a→Bnd K b→Bnd (M+b.length * K) (bV a b)
 | [],a,ha,_=>by simpa [bV] using ha
 | x::b,a,ha,hb=>by
  have h1:=aKp (f:=x) ha (hb x (List.mem_cons_self ..))
  have h2:=kI b (lV a x) h1 (fun y hy=>hb y (List.mem_cons_of_mem _ hy))
  refine (show Bnd _ (bV (lV a x) b) from h2).mono ?_
  rw [List.length_cons,Nat.add_mul,Nat.one_mul]; omega
theorem aVu (a b:List (Int × Int)) (i:Nat) (h:i<b.length):bV a (b.take (i+1))=lV (bV a (b.take i)) b[i]:=by
 unfold bV
 rw [List.take_add_one,List.getElem?_eq_getElem h,List.foldl_append]; rfl
def mulR (k:Int) (b:List (Int × Int)):List (Int × Int):=b.map fun f=>(f.1,k * f.2)
theorem qL {k:Int} {M K:Nat} {b:List (Int × Int)} (hk:k.natAbs≤K) (hb:Bnd M b):Bnd (K * M) (mulR k b):=fun x hx=>by
 obtain ⟨y,hy,rfl⟩:=List.mem_map.1 hx
 simp only [Int.natAbs_mul]
 exact Nat.mul_le_mul hk (hb y hy)
set_option maxHeartbeats 1000000 in
set_option maxRecDepth 10000 in
theorem bMs (a b:List (Int × Int)) (k:Int) (A M K:Nat) (ha:Bnd A a) (hb:Bnd M b) (hk:k.natAbs≤K) (hA:(aV (A+b.length * (K * M))).length≤137438953472) (hKM:(aV (K * M)).length≤137438953472) (hK:(aV K).length≤137438953472)
  (hM:(aV M).length≤137438953472) (hl:a.length+b.length≤1073741824):Spec Tryz.prog 88 [aM a,aM b,encZ k] (aM (bV a (mulR k b))):=by
 refine aY (N:=32) aF Tryz.func88 rfl rfl rfl (by kernel_rfl) (by kernel_rfl) (by simp) ?_
 simp [-map_map,-mapM_map,↓KW,aM,encZ,encI,aJ,aD]
 refine aU (fun i:Nat=>i≤b.length) (fun i=>StL [(1,.d (aM b)),(5,.ptr 1 0),(7,.d (aM (bV a ((mulR k b).take i)))),(8,.d (.i .i64 i))] none [.cells 69 [.d (.b (decide (k<0))),.d (aG (aV k.natAbs))]]) (fun i=>b.length - i) 0 (Nat.zero_le _) ?_ ?_
 ·refine bC [1] (by simp) ?_ ?_ <;> simp [-map_map,upd,aT,Γ0,aM,bV]
 ·intro i hi
  have hlm:(mulR k b).length=b.length:=by simp [mulR]
  by_cases hgo:i<b.length
  ·have q1:(i:Int)<b.length:=by omega
   have hw7:IntKind.i64.wrap ((i:Int)+1)=(i:Int)+1:=aS (by omega) (by omega)
   have g1:b[i]? = some b[i]:=List.getElem?_eq_getElem hgo
   have hsu:=aVu a (mulR k b) i (by omega)
   have hgm:(mulR k b)[i]'(by omega)=(b[i].1,k * b[i].2):=by simp [mulR]
   rw [hgm] at hsu
   have hbx:=hb _ (List.getElem_mem hgo)
   have hbt:Bnd (K * M) ((mulR k b).take i):=fun x hx=>qL hk hb x (List.mem_of_mem_take hx)
   have hbo:=kI ((mulR k b).take i) a ha hbt
   have hlo:=kH a ((mulR k b).take i)
   have hti:((mulR k b).take i).length=i:=by simp; omega
   rw [hti] at hbo hlo
   have hle:A+i * (K * M)≤A+b.length * (K * M):=Nat.add_le_add_left (Nat.mul_le_mul_right _ (by omega)) _
   generalize hxe:b[i]=x at *
   obtain ⟨xi,xc⟩:=x
   generalize bV a ((mulR k b).take i)=out at *
   simp only at hbx hsu
   have hkx:(k * xc).natAbs≤K * M:=by rw [Int.natAbs_mul]; exact Nat.mul_le_mul hk hbx
   simp [-map_map,-mapM_map,↓KW,aM,q1,g1,bB,aJ,aD]
   refine aA (ds:=[encZ k,encZ xc]) (by rfl) (nD k xc (fD hk hK) (fD hbx hM)) ?_
   simp [-map_map,-mapM_map,↓KW,aM,encZ,encI,aJ,aD]
   have hins:=wL out xi (k * xc) (fD hkx hKM) (fun y hy=>fD (Nat.le_trans (hbo y hy) hle) hA) (by omega)
   refine aA (ds:=[aM out,.ag (eE (xi,k * xc))]) (by rfl) hins ?_
   simp [-map_map,-mapM_map,↓KW,aM,hw7]
   refine aK (i+1) hgo (Nat.sub_lt_sub_left hgo (Nat.lt_succ_self i)) (bC [1] (by simp) ?_ ?_)
   ·simp [-map_map,upd,aT,Γ0,aM,hsu]
   ·simp [-map_map,upd,aT,Γ0]
  ·have q1:¬ (i:Int)<b.length:=by omega
   have e:(mulR k b).take i=mulR k b:=List.take_of_length_le (by omega)
   simp [-map_map,-mapM_map,↓KW,aM,q1,e]
end Go.Am
end

section
set_option linter.unusedVariables false
set_option linter.unusedSimpArgs false
open Go Go.Am Go.Proofs
namespace Go.Am
def aJq (l:List (Int × Int)) (i:Nat):Bool:=decide ((l.getD i (0,0)).2≠0) && (decide (i=0) || decide ((l.getD (i - 1) (0,0)).1<(l.getD i (0,0)).1))
def sY (l:List (Int × Int)):Bool:=(List.range l.length).all (aJq l)
theorem xB {l:List (Int × Int)} (h:∀ j,j<l.length→aJq l j=true):sY l=true:=by
 unfold sY; rw [List.all_eq_true]; intro j hj; exact h j (List.mem_range.1 hj)
theorem aFq {l:List (Int × Int)} {j:Nat} (hj:j<l.length) (h:aJq l j=false):sY l=false:=by
 unfold sY
 rw [List.all_eq_false]
 exact ⟨j,List.mem_range.2 hj,by rw [h]; decide⟩
theorem bBn {l:List (Int × Int)} {i:Nat} (h:i<l.length):l[i]? = some (l.getD i (0,0)):=by rw [List.getD_eq_getElem?_getD,List.getElem?_eq_getElem h]; rfl
end Go.Am
end

section
set_option linter.unusedVariables false
set_option linter.unusedSimpArgs false
open Go Go.Am Go.Proofs
namespace Go.Am
theorem bHf {P:Program} {dst:Option Tmp} {ty:TypeId} {pos:String} {after:Array Edge} {guard:Option (Nat × Bool)} {σ:St} {con:List Nat} {k:St→List Nat→Prop} {f g:FuncId} {x:Operand} {ts:Array TypeId}
  {d:Dm ((⟨dst,.call ⟨.value (.func f),[x].toArray,ts⟩,ty,pos,after,guard⟩:Oper),k)} {id:Nat} {ho:HO} (hs:rB P f g) (hm:bE P f=true)
  (hx:oev σ.Γ x=.mp id) (hH:σ.H id=some ho) (hk:k ⟨bO σ.Γ dst (.kf g id),σ.H,σ.n⟩ con):O1d P ⟨dst,.call ⟨.value (.func f),[x].toArray,ts⟩,ty,pos,after,guard⟩ σ con k d:=by
 show OC P f [x].toArray dst σ con k
 unfold OC
 have e:hd1 (oev σ.Γ x)=some (id,.mp 0):=by rw [hx]; rfl
 simp only [hm,if_true,e,hH]
 exact .inl ⟨g,trivial,trivial,hs,hk⟩
theorem aTt {P:Program} {dst:Option Tmp} {ty:TypeId} {pos:String} {after:Array Edge} {guard:Option (Nat × Bool)} {σ:St} {con:List Nat} {k:St→List Nat→Prop} {f g:FuncId} {x:Operand} {ts:Array TypeId}
  {d:Dm ((⟨dst,.call ⟨.value (.func f),[x].toArray,ts⟩,ty,pos,after,guard⟩:Oper),k)} {id:Nat} {es:List (Int × AV)} (hs:kV P f g) (hm:bE P f=false)
  (hx:oev σ.Γ x=.kf g id) (hH:σ.H id=some (.map .i64 es)) (hl:es.length≤1099511627776) (hr:(es.map (·.1)).all inr=true)
  (hk:k ⟨bO σ.Γ dst (.d (.sl ((fJ (es.map (·.1))).map fun n=>[.i .i64 n]))),σ.H,σ.n⟩ con):O1d P ⟨dst,.call ⟨.value (.func f),[x].toArray,ts⟩,ty,pos,after,guard⟩ σ con k d:=by
 show OC P f [x].toArray dst σ con k
 unfold OC
 have e:([x].toArray.toList.map (oev σ.Γ))=[.kf g id]:=by show [oev σ.Γ x]=_; rw [hx]
 simp only [hm,Bool.false_eq_true,if_false]
 refine .inr ?_
 split
 ·rename_i g' id' hx'
  rw [e] at hx'
  injection hx' with hx' _
  injection hx' with h1 h2
  subst h1; subst h2
  rw [hH]
  exact ⟨hl,hr,hs,hk⟩
 ·rename_i hne
  exact (hne _ _ e).elim
/-! Sums, as association lists -/
def fnd (n:Int):List (Int × Int)→Option Nat
 | []=>none
 | x::es=>if x.1=n then some 0 else (fnd n es).map (·+1)
def aCx (z:Int):AV:=.ag [.d (.b (decide (z<0))),.d (aG (aV z.natAbs))]
def iE (m:List (Int × Int)):List (Int × AV):=m.map fun p=>(p.1,aCx p.2)
theorem tF (n:Int) (m:List (Int × Int)):fX n (iE m)=fnd n m:=by
 induction m with
 | nil=>rfl
 | cons x m ih =>
  show (if x.1=n then some 0 else (fX n (iE m)).map (·+1))=if x.1=n then some 0 else (fnd n m).map (·+1)
  rw [ih]
theorem aBe {n:Int} {m:List (Int × Int)} {j:Nat} (h:fnd n m=some j):∃ z,m[j]? = some (n,z):=by
 induction m generalizing j with
 | nil=>cases h
 | cons x m ih =>
  unfold fnd at h
  by_cases hx:x.1=n
  ·rw [if_pos hx] at h; injection h with h; subst h; exact ⟨x.2,by rw [← hx]; rfl⟩
  ·rw [if_neg hx] at h
   obtain ⟨i,hi,rfl⟩:=Option.map_eq_some_iff.1 h
   obtain ⟨z,hz⟩:=ih hi
   exact ⟨z,by simpa using hz⟩
def getM (m:List (Int × Int)) (n:Int):Int:=match fnd n m with
 | some j=>(m.getD j (0,0)).2
 | none=>0
def uD (m:List (Int × Int)) (n v:Int):List (Int × Int):=match fnd n m with
 | some j=>m.set j (n,v)
 | none=>m++[(n,v)]
def vI (m:List (Int × Int)) (n:Int):List (Int × Int):=match fnd n m with
 | some j=>m.eraseIdx j
 | none=>m
def lI (m:List (Int × Int)) (n k:Int):List (Int × Int):=if getM m n+k=0 then vI m n else uD m n (getM m n+k)
theorem aEe (m:List (Int × Int)) (n v:Int):oX (iE m) n (aCx v)=iE (uD m n v):=by
 unfold oX uD
 rw [tF]
 cases fnd n m with
 | none=>simp [iE]
 | some j=>simp [iE,List.map_set]
theorem sU {α β:Type} (f:α→β):∀ (l:List α) (j:Nat),(l.map f).eraseIdx j=(l.eraseIdx j).map f
 | [],_=>rfl
 | _::_,0=>rfl
 | x::l,j+1=>by
  show f x::(l.map f).eraseIdx j=f x::(l.eraseIdx j).map f
  rw [sU f l j]
theorem aEh (m:List (Int × Int)) (n:Int):aKj (iE m) n=iE (vI m n):=by
 unfold aKj vI
 rw [tF]
 cases fnd n m with
 | none=>rfl
 | some j=>simp [iE,sU]
theorem aAm (m:List (Int × Int)) (n:Int):nY (iE m) n=if (fnd n m).isSome then some (aCx (getM m n)) else none:=by
 unfold nY getM
 rw [tF]
 cases h:fnd n m with
 | none=>rfl
 | some j =>
  obtain ⟨z,hz⟩:=aBe h
  simp [iE,hz,List.getD_eq_getElem?_getD]
theorem gP (m:List (Int × Int)):nX (.map .i64 (iE m))=true:=by
 simp only [nX,iE,List.all_map,List.all_eq_true]
 intro x _; rfl
theorem cC {P:Program} (H:Nat→Option HO) (t:TypeId) (id:Nat) (x:AV) (ok:Bool):lN P H t (.mp id) x ok=match H id with
  | some (.map k es)=>(tmp P t).bind fun p=>match x with
   | .d (.i k' n)=>if k'=k∧gX P p.1=some k then
     match nY es n with
     | some v=>some (if ok then .tp [v,.d (.b true)] else v)
     | none=>(tz P p.2).map fun z=>if ok then .tp [cv z,.d (.b false)] else cv z
    else none
   | _=>none
  | _=>none:=rfl
theorem cI {P:Program} (H:Nat→Option HO) (t:TypeId) (id:Nat) (x:AV) (v:Option AV):pU P H t (.mp id) x v=match H id with
  | some (.map k es)=>(tmp P t).bind fun p=>match x with
   | .d (.i k' n)=>if k'=k∧gX P p.1=some k then some (id,.map k (match v with | some v=>oX es n v | none=>aKj es n)) else none
   | _=>none
  | _=>none:=rfl
def eY (m:List (Int × Int)):List (Int × Int):=(fJ (m.map (·.1))).map fun n=>(n,getM m n)
theorem aRf (n:Int):∀ l:List Int,(ins n l).length=l.length+1
 | []=>rfl
 | m::l=>by
  unfold ins
  split
  ·rfl
  ·simp [aRf n l]
theorem aEm:∀ l:List Int,(fJ l).length=l.length
 | []=>rfl
 | n::l=>by rw [fJ,aRf,aEm l]; rfl
theorem aRe (n x:Int):∀ l:List Int,x∈ins n l↔x=n∨x∈l
 | []=>by simp [ins]
 | m::l=>by
  unfold ins
  split
  ·simp
  ·simp [aRe n x l]
   constructor
   ·rintro (h | h | h) <;> simp [h]
   ·rintro (h | h | h) <;> simp [h]
theorem oF (x:Int):∀ l:List Int,x∈fJ l↔x∈l
 | []=>by simp [fJ]
 | n::l=>by rw [fJ,aRe,oF x l]; simp
theorem aBf {n:Int} {m:List (Int × Int)} (h:n∈m.map (·.1)):(fnd n m).isSome=true:=by
 induction m with
 | nil=>simp at h
 | cons x m ih =>
  unfold fnd
  by_cases hx:x.1=n
  ·rw [if_pos hx]; rfl
  ·rw [if_neg hx,Option.isSome_map]
   exact ih (by
    rcases List.mem_cons.1 h with h | h
    ·exact (hx h.symm).elim
    ·exact h)
theorem aEt (m:List (Int × Int)):(iE m).map (·.1)=m.map (·.1):=by simp [iE]
theorem xD (l:List Nat) (m:List (Int × Int)):dT l (.map .i64 (iE m))=.map .i64 (iE m):=by
 simp [dT,iE,aCx,qC,eF]
end Go.Am
end

section
set_option linter.unusedVariables false
set_option linter.unusedSimpArgs false
open List (map_map mapM_map)
open Go Go.Am Go.Proofs
namespace Go.Am
theorem aDv {P:Program} {f N:Nat} {fn:Func} {c:Code} {h:AV} {o o':HO} {args:List D} {r:D} (hm:P.follows .mixedOrders=true) (hf:P.funcs[f]? = some fn) (hb:fn.body=some c) (hname:(fn.name == "runtime.NumGoroutine")=false) (hN:fn.ntmps=N)
  (hd:dL N c=true) (hl:dS P c=true) (ha:args.length+1≤N) (hmap:∃ k es,o=.map k es) (hmap':∃ k es,o'=.map k es) (hno':nX o'=true) (hnm:NM r)
  (hA:AWP P c (St1 h o args N) fun e σ=>(e=.normal∨e=.ret)∧mW P fn.results.toList σ=some r∧σ.H 0=some o'):lO P f h o args o' r :=
 aJm hf hb hname hN ha hmap hmap' hno' hnm fun G a w hZ hs=>gW hm hZ c _ _ a w hd hl hA hs
theorem qJ {P:Program} {dst:Option Tmp} {ty:TypeId} {pos:String} {after:Array Edge} {guard:Option (Nat × Bool)} {σ:St} {con:List Nat} {k:St→List Nat→Prop} {f:FuncId} {x:Operand} {rest:List Operand} {ts:Array TypeId}
  {d:Dm ((⟨dst,.call ⟨.value (.func f),(x::rest).toArray,ts⟩,ty,pos,after,guard⟩:Oper),k)} {id:Nat} {ho ho':HO} {ds:List D} {r:D} (hs:lO P f (.mp 0) ho ds ho' r) (hm:bE P f=true)
  (hx:oev σ.Γ x=.mp id) (hH:σ.H id=some ho) (hno:nX ho=true) (hvis:gD σ.H (rest.map (oev σ.Γ))=[]) (hfr:gN σ.H (rest.map (oev σ.Γ))=some ds) (hlen:ho'.len=ho.len) (hno':nX ho'=true)
  (hk:k ⟨bO σ.Γ dst (inj r),upd σ.H id (some ho'),σ.n⟩ con):O1d P ⟨dst,.call ⟨.value (.func f),(x::rest).toArray,ts⟩,ty,pos,after,guard⟩ σ con k d:=by
 refine aJw hm ?_
 rw [hx]
 exact xP (id:=id) (h:=.mp 0) hH hno hvis hfr hs hlen hno' hk
theorem vH {x y:Int} (hx:Sz x) (hy:Sz y):(aV (x+y).natAbs).length≤1099511627776:=by
 have h1:=fG (Nat.le_refl (aV x.natAbs).length)
 have h2:=fG (Nat.le_refl (aV y.natAbs).length)
 have h:(x+y).natAbs<4294967296 ^ ((aV x.natAbs).length+(aV y.natAbs).length+1):=by
  have e1:4294967296 ^ (aV x.natAbs).length≤4294967296 ^ ((aV x.natAbs).length+(aV y.natAbs).length):=Nat.pow_le_pow_right (by decide) (by omega)
  have e2:4294967296 ^ (aV y.natAbs).length≤4294967296 ^ ((aV x.natAbs).length+(aV y.natAbs).length):=Nat.pow_le_pow_right (by decide) (by omega)
  rw [Nat.pow_succ]
  generalize 4294967296 ^ ((aV x.natAbs).length+(aV y.natAbs).length)=p at *
  omega
 have:=eO h
 unfold Sz at hx hy
 omega
theorem bHj (m:List Nat):NM (aG m):=.sl _ (fun cs h=>by obtain ⟨x,_,rfl⟩:=List.mem_map.1 h; simp) fun cs h c hc=>by
 obtain ⟨x,_,rfl⟩:=List.mem_map.1 h
 rw [List.mem_singleton] at hc; subst hc; exact .i _ _
theorem bHk (l:List (Int × Int)):NM (aM l):=.sl _ (fun cs h=>by obtain ⟨x,_,rfl⟩:=List.mem_map.1 h; simp [eE]) fun cs h c hc=>by
 obtain ⟨x,_,rfl⟩:=List.mem_map.1 h
 simp only [eE,List.mem_cons,List.mem_nil_iff,or_false] at hc
 rcases hc with rfl | rfl | rfl
 ·exact .i _ _
 ·exact .b _
 ·exact bHj _
theorem nW {P:Program} (σ:St):mW P [] σ=some (.tp []):=rfl
set_option maxHeartbeats 1000000 in
set_option maxRecDepth 10000 in
theorem aMl (m:List (Int × Int)) (id k:Int) (hm:Sz (getM m id)) (hk:Sz k):lO Tryz.prog 94 (.mp 0) (.map .i64 (iE m)) [.i .i64 id,encZ k] (.map .i64 (iE (lI m id k))) (.tp []):=by
 refine aDv (N:=20) aF Tryz.func94 rfl rfl rfl (by kernel_rfl) (by kernel_rfl) (by simp) ⟨_,_,rfl⟩ ⟨_,_,rfl⟩ (gP _) (aAi 8 _ rfl) ?_
 have hml:=aAm m id
 have hz0:¬ (fnd id m).isSome=true→getM m id=0:=fun h=>by
  unfold getM
  cases hf:fnd id m with
  | none=>rfl
  | some j=>rw [hf] at h; exact (h rfl).elim
 have hgo:∀ z:Int,z=getM m id→True:=fun _ _=>trivial
 by_cases hs:(fnd id m).isSome=true
 ·rw [if_pos hs] at hml
  simp [-map_map,-mapM_map,↓KW,St1,bI,aD,aJ,cC,hml,aCx]
  refine aA (ds:=[encZ (getM m id),encZ k]) (by rfl) (aRd (getM m id) k hm hk) ?_
  simp [-map_map,-mapM_map,↓KW,bI,aD,aJ]
  refine aA (ds:=[encZ (getM m id+k)]) (by rfl) (aGo _ _ (vH hm hk)) ?_
  by_cases ht:getM m id+k=0
  ·have e1:strip (aV (getM m id+k).natAbs)=[]:=by rw [ht,show (0:Int).natAbs=0 from rfl,cE]; rfl
   have e2:lI m id k=vI m id:=by unfold lI; rw [if_pos ht]
   simp [-map_map,-mapM_map,↓KW,e1,e2,cI,aEh,nW]
  ·have e1:strip (aV (getM m id+k).natAbs)≠[]:=by
    rw [gJ (cD _),cQ,ne_eq,fP]; omega
   have e2:lI m id k=uD m id (getM m id+k):=by unfold lI; rw [if_neg ht]
   have e3:=aEe m id (getM m id+k)
   unfold aCx at e3
   by_cases hneg:getM m id+k<0
   ·simp [-map_map,-mapM_map,↓KW,e1,e2,hneg,cI,aD,aJ,nW]
    have hd:decide (getM m id+k<0)=true:=by simpa using hneg
    rw [hd] at e3
    exact e3
   ·simp [-map_map,-mapM_map,↓KW,e1,e2,hneg,cI,aD,aJ,nW]
    have hd:decide (getM m id+k<0)=false:=by simpa using hneg
    rw [hd] at e3
    exact e3
 ·rw [if_neg hs] at hml
  have h0:=hz0 hs
  simp [-map_map,-mapM_map,↓KW,St1,bI,aD,aJ,cC,hml,cv]
  refine aA (ds:=[encZ (getM m id),encZ k]) (by rw [h0,aUy]; rfl) (aRd (getM m id) k hm hk) ?_
  simp [-map_map,-mapM_map,↓KW,bI,aD,aJ]
  refine aA (ds:=[encZ (getM m id+k)]) (by rfl) (aGo _ _ (vH hm hk)) ?_
  by_cases ht:getM m id+k=0
  ·have e1:strip (aV (getM m id+k).natAbs)=[]:=by rw [ht,show (0:Int).natAbs=0 from rfl,cE]; rfl
   have e2:lI m id k=vI m id:=by unfold lI; rw [if_pos ht]
   simp [-map_map,-mapM_map,↓KW,e1,e2,cI,aEh,nW]
  ·have e1:strip (aV (getM m id+k).natAbs)≠[]:=by
    rw [gJ (cD _),cQ,ne_eq,fP]; omega
   have e2:lI m id k=uD m id (getM m id+k):=by unfold lI; rw [if_neg ht]
   have e3:=aEe m id (getM m id+k)
   unfold aCx at e3
   by_cases hneg:getM m id+k<0
   ·simp [-map_map,-mapM_map,↓KW,e1,e2,hneg,cI,aD,aJ,nW]
    have hd:decide (getM m id+k<0)=true:=by simpa using hneg
    rw [hd] at e3
    exact e3
   ·simp [-map_map,-mapM_map,↓KW,e1,e2,hneg,cI,aD,aJ,nW]
    have hd:decide (getM m id+k<0)=false:=by simpa using hneg
    rw [hd] at e3
    exact e3
theorem mK {m:List (Int × Int)} {M:Nat} (h:Bnd M m) (n:Int):(getM m n).natAbs≤M:=by
 unfold getM
 cases hf:fnd n m with
 | none=>simp
 | some j =>
  obtain ⟨z,hz⟩:=aBe hf
  simp only [List.getD_eq_getElem?_getD,hz,Option.getD_some]
  exact h _ (List.mem_of_getElem? hz)
theorem aOm (m:List Nat) (h:m.length≤1099511627776):Spec Tryz.prog 103 [aG m] (aG m):=aEv _ (by simp [bJv,one,h])
def chS (m:List (Int × Int)) (n:Nat):Nat→St
 | 0=>StL [(0,.mp 0),(3,.nil),(9,.d (.sl ((fJ (m.map (·.1))).map fun n=>[.i .i64 n]))),(10,.d (.i .i64 n)),(11,.d (.i .i64 0))] (some (.map .i64 (iE m))) []
 | i+1=>StL [(0,.mp 0),(3,.own 1 0 (i+1) 3),(9,.d (.sl ((fJ (m.map (·.1))).map fun n=>[.i .i64 n]))),(10,.d (.i .i64 n)),(11,.d (.i .i64 ((i:Int)+1)))] (some (.map .i64 (iE m))) [.cells 89 ((fcs ((eY m).take (i+1))).map .d)]
set_option maxHeartbeats 1000000 in
set_option maxRecDepth 10000 in
theorem aIb (m:List (Int × Int)) (hS:∀ n,Sz (getM m n)) (hl:m.length≤1073741824) (hr:(m.map (·.1)).all inr=true):lO Tryz.prog 95 (.mp 0) (.map .i64 (iE m)) [] (.map .i64 (iE m)) (aM (eY m)):=by
 refine aDv (N:=31) aF Tryz.func95 rfl rfl rfl (by kernel_rfl) (by kernel_rfl) (by simp) ⟨_,_,rfl⟩ ⟨_,_,rfl⟩ (gP _) (bHk _) ?_
 simp [-map_map,-mapM_map,↓KW,St1]
 refine bHf Tryz.keys106 (by simp) (id:=0) (ho:=.map .i64 (iE m)) (by simp [hJ,dJ]) (by simp) ?_
 simp [-map_map,-mapM_map,↓KW,St1]
 refine aTt Tryz.sorted122 (by simp) (id:=0) (es:=iE m) (by simp [hJ,dJ]) (by simp) (by simp [iE]; omega) (by rw [aEt]; exact hr) ?_
 rw [aEt]
 have hil:=aEm (m.map (·.1))
 rw [List.length_map] at hil
 obtain ⟨n,hn⟩:∃ n,m.length=n:=⟨_,rfl⟩
 rw [hn] at hil
 simp [-map_map,-mapM_map,↓KW,hil]
 have hcl:(eY m).length=n:=by simp [eY,hil]
 have hsub:∀ (H H':Nat→Option HO) (ρ:Nat→Nat),lJ H H' ρ (.map .i64 (iE m)) (.map .i64 (iE m)):=fun H H' ρ=>zQ fun x hx=>by
  obtain ⟨y,_,rfl⟩:=List.mem_map.1 hx
  refine ⟨rfl,fun k c d hc hd=>?_⟩
  rw [hc] at hd; injection hd with hd; subst hd
  rcases k with _ | _ | k
  ·simp at hc; subst hc; exact (iU _ _).2 rfl
  ·simp at hc; subst hc; exact (iU _ _).2 rfl
  ·simp at hc
 have hkl:∀ q∈fJ (m.map (·.1)),nY (iE m) q=some (aCx (getM m q)):=fun q hq=>by
  rw [aAm,if_pos (aBf ((oF q _).1 hq))]
 refine aU (fun i:Nat=>i≤n) (chS m n) (fun i=>n - i) 0 (Nat.zero_le _) ?_ ?_
 ·refine ⟨_,yG [] (by simp) ?_ ?_ ?_⟩
  ·simp [-map_map,upd,aT,Γ0]
  ·intro o' ho'
   injection ho' with ho'; subst ho'
   exact ⟨_,by simp [dJ],hsub _ _ _⟩
  ·trivial
 ·intro i hi
  by_cases hgo:i<n
  ·have hql:i<(fJ (m.map (·.1))).length:=by omega
   have hq:=List.getElem?_eq_getElem hql
   have hqm:=List.getElem_mem hql
   have hml:=hkl _ hqm
   have htk:(eY m).take (i+1)=(eY m).take i++[((fJ (m.map (·.1)))[i],getM m (fJ (m.map (·.1)))[i])]:=by
    rw [List.take_add_one]
    simp [eY,hq]
   generalize (fJ (m.map (·.1)))[i]=q at *
   have hcl1:=aOm (aV (getM m q).natAbs) (Nat.le_trans (hS q) (by decide))
   rcases i with _ | j
   ·have q1:(0:Int)<n:=by omega
    have q1':0<n:=hgo
    have g0:(fJ (List.map (fun x=>x.fst) m)).head? = some q:=by rw [List.head?_eq_getElem?]; exact hq
    unfold chS
    simp [-map_map,-mapM_map,↓KW,q1',hq,g0,cC,hml,aCx,aD,aJ]
    refine aA (ds:=[aG (aV (getM m q).natAbs)]) (by rfl) hcl1 ?_
    have hw:IntKind.i64.wrap 1=1:=by decide
    have h1:(1:Nat)≤maxLen:=aW (by decide)
    rw [List.take_zero,List.nil_append] at htk
    simp [-map_map,-mapM_map,↓KW,aD,aJ,aP,bH,aX,hw,h1]
    refine aK 1 hgo (Nat.sub_lt_sub_left hgo (Nat.lt_succ_self _)) ?_
    simp only [chS]
    refine ⟨_,yG [3] (by simp) ?_ ?_ ?_⟩
    ·simp [-map_map,upd,aT,Γ0,htk]
    ·intro o' ho'
     injection ho' with ho'; subst ho'
     exact ⟨_,by simp [dJ,aCa,xD],hsub _ _ _⟩
    ·simp [-map_map,upd,aT,Γ0,htk,cN]
   ·have q1:(j:Int)+1<n:=by omega
    have q5:(0:Int)≤(j:Int)+1:=by omega
    have hlt:((eY m).take (j+1)).length=j+1:=by simp [hcl]; omega
    have hfl:=rV ((eY m).take (j+1))
    rw [hlt] at hfl
    have hw:IntKind.i64.wrap ((j:Int)+1+1)=(j:Int)+1+1:=aS (by omega) (by omega)
    have hb:=cO (n:=j+1) (by omega)
    show AWP _ _ (StL [(0,.mp 0),(3,.own 1 0 (j+1) 3),(9,.d (.sl ((fJ (m.map (·.1))).map fun n=>[.i .i64 n]))),(10,.d (.i .i64 n)),(11,.d (.i .i64 ((j:Int)+1)))] (some (.map .i64 (iE m))) [.cells 89 ((fcs ((eY m).take (j+1))).map .d)]) _
    generalize (eY m).take (j+1)=out at *
    simp [-map_map,-mapM_map,↓KW,q1,q5,hq,cC,hml,aCx,aD,aJ]
    refine aA (ds:=[aG (aV (getM m q).natAbs)]) (by rfl) hcl1 ?_
    simp [-map_map,-mapM_map,↓KW,aD,aJ,aP,bH,aX,hw,hb,hfl,aW]
    refine aK (j+1+1) hgo (Nat.sub_lt_sub_left hgo (Nat.lt_succ_self _)) ?_
    simp only [chS]
    refine ⟨_,yG [4] (by simp) ?_ ?_ ?_⟩
    ·simp [-map_map,upd,aT,Γ0,htk]
    ·intro o' ho'
     injection ho' with ho'; subst ho'
     exact ⟨_,by simp [dJ,aCa,xD],hsub _ _ _⟩
    ·simp [-map_map,upd,aT,Γ0,htk,eC,cN]
  ·have e:i=n:=by omega
   rcases i with _ | j
   ·have q1:¬ 0<n:=by omega
    have hch:eY m=[]:=List.eq_nil_of_length_eq_zero (by omega)
    unfold chS
    simp [-map_map,-mapM_map,↓KW,q1,hch,aM]
   ·have q1:¬ (j:Int)+1<n:=by omega
    have e2:(eY m).take (j+1)=eY m:=List.take_of_length_le (by omega)
    have hlt:(eY m).length=j+1:=by omega
    have hfl:=rV (eY m)
    rw [hlt] at hfl
    unfold chS
    simp [-map_map,-mapM_map,↓KW,q1,e2,hfl,hlt,sC hlt,lX hlt,aM]
end Go.Am
end

section
set_option linter.unusedVariables false
set_option linter.unusedSimpArgs false
open List (map_map mapM_map)
open Go Go.Am Go.Proofs
namespace Go.Am
def Keys (m:List (Int × Int)):Prop:=∀ x∈m,inr x.1=true
theorem Keys.all {m:List (Int × Int)} (h:Keys m):(m.map (·.1)).all inr=true:=by
 rw [List.all_eq_true]
 intro x hx
 obtain ⟨y,hy,rfl⟩:=List.mem_map.1 hx
 exact h y hy
theorem aLt {m:List (Int × Int)} {n k:Int} {x:Int × Int} (h:x∈lI m n k):x∈m∨x=(n,getM m n+k):=by
 unfold lI at h
 split at h
 ·unfold vI at h
  split at h
  ·exact .inl (List.mem_of_mem_eraseIdx h)
  ·exact .inl h
 ·unfold uD at h
  split at h
  ·rcases List.mem_or_eq_of_mem_set h with h | h
   ·exact .inl h
   ·exact .inr h
  ·rcases List.mem_append.1 h with h | h
   ·exact .inl h
   ·exact .inr (by simpa using h)
theorem bEa (m:List (Int × Int)) (n k:Int):(lI m n k).length≤m.length+1:=by
 unfold lI
 split
 ·unfold vI
  split
  ·exact Nat.le_trans (List.length_eraseIdx_le ..) (by omega)
  ·omega
 ·unfold uD
  split
  ·simp
  ·simp
theorem bEb {m:List (Int × Int)} {n k:Int} {M K:Nat} (hm:Bnd M m) (hk:k.natAbs≤K):Bnd (M+K) (lI m n k):=fun x hx=>by
 rcases aLt hx with h | rfl
 ·have:=hm x h; omega
 ·have:=mK hm n
  simp only; omega
theorem aVv {m:List (Int × Int)} {n k:Int} (hm:Keys m) (hn:inr n=true):Keys (lI m n k):=fun x hx=>by
 rcases aLt hx with h | rfl
 ·exact hm x h
 ·exact hn
def jT (m:List (Int × Int)) (l:List (Int × Int)):List (Int × Int):=l.foldl (fun m f=>lI m f.1 f.2) m
theorem wB (m l:List (Int × Int)) (i:Nat) (h:i<l.length):jT m (l.take (i+1))=lI (jT m (l.take i)) l[i].1 l[i].2:=by
 unfold jT
 rw [List.take_add_one,List.getElem?_eq_getElem h,List.foldl_append]; rfl
theorem zP (m:List (Int × Int)):∀ l:List (Int × Int),(jT m l).length≤m.length+l.length:=by
 intro l
 unfold jT
 induction l generalizing m with
 | nil=>simp
 | cons x l ih =>
  have h1:=ih (lI m x.1 x.2)
  have h2:=bEa m x.1 x.2
  simp only [List.foldl_cons,List.length_cons]; omega
theorem pZ {M K:Nat}:∀ (l m:List (Int × Int)),Bnd M m→Bnd K l→Bnd (M+l.length * K) (jT m l)
 | [],m,hm,_=>by simpa [jT] using hm
 | x::l,m,hm,hl=>by
  have h1:=bEb (n:=x.1) hm (hl x (List.mem_cons_self ..))
  have h2:=pZ l (lI m x.1 x.2) h1 (fun y hy=>hl y (List.mem_cons_of_mem _ hy))
  refine (show Bnd _ (jT (lI m x.1 x.2) l) from h2).mono ?_
  rw [List.length_cons,Nat.add_mul,Nat.one_mul]; omega
theorem rH:∀ (l m:List (Int × Int)),Keys m→Keys l→Keys (jT m l)
 | [],m,hm,_=>hm
 | x::l,m,hm,hl=>rH l (lI m x.1 x.2) (aVv hm (hl x (List.mem_cons_self ..))) fun y hy=>hl y (List.mem_cons_of_mem _ hy)
theorem mA {H H':Nat→Option HO} {ρ:Nat→Nat} (m:List (Int × Int)):lJ H H' ρ (.map .i64 (iE m)) (.map .i64 (iE m)):=zQ fun x hx=>by
 obtain ⟨y,_,rfl⟩:=List.mem_map.1 hx
 refine ⟨rfl,fun k c d hc hd=>?_⟩
 rw [hc] at hd; injection hd with hd; subst hd
 rcases k with _ | _ | k
 ·simp at hc; subst hc; exact (iU _ _).2 rfl
 ·simp at hc; subst hc; exact (iU _ _).2 rfl
 ·simp at hc
set_option maxHeartbeats 1000000 in
set_option maxRecDepth 10000 in
theorem aOn (l:List (Int × Int)) (M:Nat) (hM:(aV (l.length * M)).length≤137438953472) (hb:Bnd M l) (hk:Keys l) (hl:l.length≤1073741824):Spec Tryz.prog 46 [aM l] (aM (eY (jT [] l))):=by
 refine rJ (N:=22) aF Tryz.func46 rfl rfl rfl (by kernel_rfl) (by kernel_rfl) (by kernel_rfl) (by kernel_rfl) rfl bKt (by simp) ?_
 simp [-map_map,-mapM_map,↓KW,aM]
 refine aU (fun i:Nat=>i≤l.length) (fun i=>StL [(3,.mp 1),(7,.d (aM l)),(8,.d (.i .i64 l.length)),(9,.d (.i .i64 i))] none [.map .i64 (iE (jT [] (l.take i)))]) (fun i=>l.length - i) 0 (Nat.zero_le _) ?_ ?_
 ·refine bC [1] (by simp) ?_ ?_
  ·simp [-map_map,upd,aT,Γ0,aM]
  ·exact ⟨⟨_,by simp [dJ]; rfl,mA []⟩,trivial⟩
 ·intro i hi
  have hbt:Bnd M (l.take i):=fun x hx=>hb x (List.mem_of_mem_take hx)
  have hbo:=pZ (l.take i) [] (Bnd.nil 0) hbt
  have hko:=rH (l.take i) [] (fun _ h=>by cases h) (fun x hx=>hk x (List.mem_of_mem_take hx))
  have hlo:=zP [] (l.take i)
  have hti:(l.take i).length=i:=by simp; omega
  rw [hti] at hbo hlo
  have hle:0+i * M≤l.length * M:=by rw [Nat.zero_add]; exact Nat.mul_le_mul_right _ (by omega)
  by_cases hgo:i<l.length
  ·have q1:(i:Int)<l.length:=by omega
   have hw7:IntKind.i64.wrap ((i:Int)+1)=(i:Int)+1:=aS (by omega) (by omega)
   have g1:l[i]? = some l[i]:=List.getElem?_eq_getElem hgo
   have hsu:=wB [] l i hgo
   have hbx:=hb _ (List.getElem_mem hgo)
   have hle2:M≤l.length * M:=by
    have:1 * M≤l.length * M:=Nat.mul_le_mul_right _ (by omega)
    rwa [Nat.one_mul] at this
   generalize l[i]=x at *
   obtain ⟨xi,xc⟩:=x
   generalize jT [] (l.take i)=m at *
   simp only at hbx hsu
   have hadd:=aMl m xi xc (fD (Nat.le_trans (mK hbo xi) hle) hM) (fD (Nat.le_trans hbx hle2) hM)
   simp [-map_map,-mapM_map,↓KW,aM,q1,g1,bB,aJ,aD]
   refine qJ hadd (by simp) (id:=1) (by simp [hJ,dJ]) (by simp [dJ,lB]) (gP _) (by simp [hJ,dJ,rF,nT,aHy,aFp]) (by simp [hJ,dJ]; rfl) rfl (gP _) ?_
   simp [-map_map,-mapM_map,↓KW,hw7]
   refine aK (i+1) hgo (Nat.sub_lt_sub_left hgo (Nat.lt_succ_self i)) (bC [1] (by simp) ?_ ?_)
   ·simp [-map_map,upd,aT,Γ0,aM]
   ·rw [hsu]
    exact ⟨⟨_,by simp [dJ],mA _⟩,trivial⟩
  ·have q1:¬ (i:Int)<l.length:=by omega
   have e:l.take i=l:=List.take_of_length_le (by omega)
   have ei:i=l.length:=by omega
   rw [e] at hbo hko hlo
   rw [ei] at hbo hlo
   generalize hmm:jT [] l=m at *
   have hbo':Bnd (l.length * M) m:=hbo.mono (by omega)
   simp only [e,hmm]
   simp [-map_map,-mapM_map,↓KW,q1]
   refine qJ (aIb m (fun q=>fD (mK hbo' q) hM) (by simp at hlo; omega) hko.all) (by simp) (id:=1) (by simp [hJ,dJ,aFv]) (by simp [dJ,lB]) (gP _) (by simp [nT]) (by rfl) rfl (gP _) ?_
   simp [-map_map,-mapM_map,↓KW,aM]
set_option maxHeartbeats 2000000 in
set_option maxRecDepth 10000 in
theorem aVg (a b:List (Int × Int)) (k:Int) (A M K:Nat) (ha:Bnd A a) (hb:Bnd M b) (hk:k.natAbs≤K) (hA:(aV (a.length * A+b.length * (K * M))).length≤137438953472) (hA1:(aV A).length≤137438953472) (hKM:(aV (K * M)).length≤137438953472) (hK:(aV K).length≤137438953472)
  (hM:(aV M).length≤137438953472) (hka:Keys a) (hkb:Keys b) (hl:a.length+b.length≤1073741824):Spec Tryz.prog 71 [aM a,aM b,encZ k] (aM (eY (jT (jT [] a) (mulR k b)))):=by
 refine rJ (N:=43) aF Tryz.func71 rfl rfl rfl (by kernel_rfl) (by kernel_rfl) (by kernel_rfl) (by kernel_rfl) rfl aYe (by simp) ?_
 simp [-map_map,-mapM_map,↓KW,aM,bI,aJ,aD]
 refine aU (fun i:Nat=>i≤a.length) (fun i=>StL [(1,.d (aM b)),(5,.ptr 1 0),(7,.mp 2),(13,.d (aM a)),(14,.d (.i .i64 a.length)),(15,.d (.i .i64 i))] none [.cells 69 [.d (.b (decide (k<0))),.d (aG (aV k.natAbs))],.map .i64 (iE (jT [] (a.take i)))]) (fun i=>a.length - i) 0 (Nat.zero_le _) ?_ ?_
 ·refine bC [1,2] (by simp) ?_ ?_
  ·simp [-map_map,upd,aT,Γ0,aM]
  ·exact ⟨⟨_,by simp [dJ]; rfl,by simp [-map_map,upd,aT,Γ0]⟩,⟨_,by simp [dJ]; rfl,mA []⟩,trivial⟩
 ·intro i hi
  have hbt:Bnd A (a.take i):=fun x hx=>ha x (List.mem_of_mem_take hx)
  have hbo:=pZ (a.take i) [] (Bnd.nil 0) hbt
  have hti:(a.take i).length=i:=by simp; omega
  rw [hti] at hbo
  have hle:0+i * A≤a.length * A+b.length * (K * M):=by
   rw [Nat.zero_add]; exact Nat.le_trans (Nat.mul_le_mul_right _ (by omega)) (Nat.le_add_right _ _)
  by_cases hgo:i<a.length
  ·have q1:(i:Int)<a.length:=by omega
   have hw7:IntKind.i64.wrap ((i:Int)+1)=(i:Int)+1:=aS (by omega) (by omega)
   have g1:a[i]? = some a[i]:=List.getElem?_eq_getElem hgo
   have hsu:=wB [] a i hgo
   have hbx:=ha _ (List.getElem_mem hgo)
   generalize a[i]=x at *
   obtain ⟨xi,xc⟩:=x
   generalize jT [] (a.take i)=m at *
   simp only at hbx hsu
   have hadd:=aMl m xi xc (fD (Nat.le_trans (mK hbo xi) hle) hA) (fD hbx hA1)
   simp [-map_map,-mapM_map,↓KW,aM,q1,g1,bB,aJ,aD]
   refine qJ hadd (by simp) (id:=2) (by simp [hJ,dJ]) (by simp [dJ,lB]) (gP _) (by simp [hJ,dJ,rF,nT,aHy,aFp]) (by simp [hJ,dJ]; rfl) rfl (gP _) ?_
   simp [-map_map,-mapM_map,↓KW,hw7]
   refine aK (i+1) hgo (Nat.sub_lt_sub_left hgo (Nat.lt_succ_self i)) (bC [1,2] (by simp) ?_ ?_)
   ·simp [-map_map,upd,aT,Γ0,aM]
   ·rw [hsu]
    exact ⟨⟨_,by simp [dJ,lB]; rfl,by simp [-map_map,upd,aT,Γ0]⟩,⟨_,by simp [dJ],mA _⟩,trivial⟩
  ·have q1:¬ (i:Int)<a.length:=by omega
   have e:a.take i=a:=List.take_of_length_le (by omega)
   have hba:=pZ a [] (Bnd.nil 0) ha
   have hka':=rH a [] (fun _ h=>by cases h) hka
   have hla:=zP [] a
   simp only [e]
   generalize jT [] a=ma at *
   simp [-map_map,-mapM_map,↓KW,q1,aM]
   have hlm:(mulR k b).length=b.length:=by simp [mulR]
   have hkm:Keys (mulR k b):=fun x hx=>by
    obtain ⟨y,hy,rfl⟩:=List.mem_map.1 hx
    exact hkb y hy
   refine aU (fun j:Nat=>j≤b.length) (fun j=>StL [(5,.ptr 1 0),(7,.mp 2),(26,.d (aM b)),(27,.d (.i .i64 b.length)),(28,.d (.i .i64 j))] none [.cells 69 [.d (.b (decide (k<0))),.d (aG (aV k.natAbs))],.map .i64 (iE (jT ma ((mulR k b).take j)))]) (fun j=>b.length - j) 0 (Nat.zero_le _) ?_ ?_
   ·refine bC [1,2] (by simp) ?_ ?_
    ·simp [-map_map,upd,aT,Γ0,aM]
    ·exact ⟨⟨_,by simp [dJ,lB]; rfl,by simp [-map_map,upd,aT,Γ0]⟩,⟨_,by simp [dJ,lB,jT],mA _⟩,trivial⟩
   ·intro j hj
    have hbt2:Bnd (K * M) ((mulR k b).take j):=fun x hx=>qL hk hb x (List.mem_of_mem_take hx)
    have hbo2:=pZ ((mulR k b).take j) ma hba hbt2
    have htj:((mulR k b).take j).length=j:=by simp; omega
    rw [htj] at hbo2
    have hle2:0+a.length * A+j * (K * M)≤a.length * A+b.length * (K * M):=by
     rw [Nat.zero_add]; exact Nat.add_le_add_left (Nat.mul_le_mul_right _ (by omega)) _
    by_cases hgo2:j<b.length
    ·have q2:(j:Int)<b.length:=by omega
     have hw7:IntKind.i64.wrap ((j:Int)+1)=(j:Int)+1:=aS (by omega) (by omega)
     have g1:b[j]? = some b[j]:=List.getElem?_eq_getElem hgo2
     have hsu:=wB ma (mulR k b) j (by omega)
     have hgm:(mulR k b)[j]'(by omega)=(b[j].1,k * b[j].2):=by simp [mulR]
     rw [hgm] at hsu
     have hbx:=hb _ (List.getElem_mem hgo2)
     generalize b[j]=x at *
     obtain ⟨xi,xc⟩:=x
     generalize jT ma ((mulR k b).take j)=m at *
     simp only at hbx hsu
     have hkx:(k * xc).natAbs≤K * M:=by rw [Int.natAbs_mul]; exact Nat.mul_le_mul hk hbx
     have hadd:=aMl m xi (k * xc) (fD (Nat.le_trans (mK hbo2 xi) hle2) hA) (fD hkx hKM)
     simp [-map_map,-mapM_map,↓KW,aM,q2,g1,bB,aJ,aD]
     refine aA (ds:=[encZ k,encZ xc]) (by rfl) (aRc k xc (fD hk hK) (fD hbx hM)) ?_
     simp [-map_map,-mapM_map,↓KW,bI,aJ,aD]
     refine qJ hadd (by simp) (id:=2) (by simp [hJ,dJ]) (by simp [dJ,lB]) (gP _) (by simp [hJ,dJ,rF,nT,aHy,aFp]) (by simp [hJ,dJ]; rfl) rfl (gP _) ?_
     simp [-map_map,-mapM_map,↓KW,hw7]
     refine aK (j+1) hgo2 (Nat.sub_lt_sub_left hgo2 (Nat.lt_succ_self j)) (bC [1,2] (by simp) ?_ ?_)
     ·simp [-map_map,upd,aT,Γ0,aM]
     ·rw [hsu]
      exact ⟨⟨_,by simp [dJ,lB]; rfl,by simp [-map_map,upd,aT,Γ0]⟩,⟨_,by simp [dJ],mA _⟩,trivial⟩
    ·have q2:¬ (j:Int)<b.length:=by omega
     have e2:(mulR k b).take j=mulR k b:=List.take_of_length_le (by omega)
     have ej:j=b.length:=by omega
     have hko:=rH (mulR k b) ma hka' hkm
     have hlo:=zP ma (mulR k b)
     rw [e2] at hbo2
     simp only [e2]
     generalize jT ma (mulR k b)=m at *
     have hbo3:=hbo2.mono hle2
     simp [-map_map,-mapM_map,↓KW,q2]
     refine qJ (aIb m (fun q=>fD (mK hbo3 q) hA) (by simp at hla; omega) hko.all) (by simp) (id:=2) (by simp [hJ,dJ,aFv]) (by simp [dJ,lB]) (gP _) (by simp [nT]) (by rfl) rfl (gP _) ?_
     simp [-map_map,-mapM_map,↓KW,aM]
end Go.Am
end

section
set_option linter.unusedVariables false
set_option linter.unusedSimpArgs false
open Go Go.Am Go.Proofs
namespace Go.Am
def Val (l:List (Int × Int)):Prop:=l.Pairwise (fun x y=>x.1<y.1)∧∀ x∈l,x.2≠0
theorem bZ (x:Int × Int) (l:List (Int × Int)) (n:Int):getM (x::l) n=if x.1=n then x.2 else getM l n:=by
 unfold getM
 by_cases h:x.1=n
 ·have e:fnd n (x::l)=some 0:=by unfold fnd; rw [if_pos h]
  rw [e,if_pos h]; rfl
 ·have e:fnd n (x::l)=(fnd n l).map (·+1):=by
   show (if x.1=n then some 0 else (fnd n l).map (·+1))=_
   rw [if_neg h]
  rw [e,if_neg h]
  cases fnd n l with
  | none=>rfl
  | some j=>simp
theorem iK (n:Int):getM [] n=0:=rfl
theorem fY {l:List (Int × Int)} {n:Int} (h:∀ y∈l,y.1≠n):getM l n=0:=by
 induction l with
 | nil=>rfl
 | cons x l ih =>
  rw [bZ,if_neg (h x (List.mem_cons_self ..))]
  exact ih fun y hy=>h y (List.mem_cons_of_mem _ hy)
theorem Val.tail {x:Int × Int} {l:List (Int × Int)} (h:Val (x::l)):Val l∧(∀ y∈l,x.1<y.1)∧x.2≠0 :=
 ⟨⟨(List.pairwise_cons.1 h.1).2,fun y hy=>h.2 y (List.mem_cons_of_mem _ hy)⟩,(List.pairwise_cons.1 h.1).1,h.2 x (List.mem_cons_self ..)⟩
theorem Val.cons {x:Int × Int} {l:List (Int × Int)} (h:Val l) (h1:∀ y∈l,x.1<y.1) (h2:x.2≠0):Val (x::l) :=
 ⟨List.pairwise_cons.2 ⟨h1,h.1⟩,fun y hy=>by
  rcases List.mem_cons.1 hy with rfl | hy
  ·exact h2
  ·exact h.2 y hy⟩
theorem Val.nil:Val []:=⟨List.Pairwise.nil,fun _ h=>by cases h⟩
theorem Val.ext:∀ {a b:List (Int × Int)},Val a→Val b→(∀ n,getM a n=getM b n)→a=b
 | [],[],_,_,_=>rfl
 | [],y::b,_,hb,h=>by
  have:=h y.1
  rw [iK,bZ,if_pos rfl] at this
  exact (hb.tail.2.2 this.symm).elim
 | x::a,[],ha,_,h=>by
  have:=h x.1
  rw [iK,bZ,if_pos rfl] at this
  exact (ha.tail.2.2 this).elim
 | x::a,y::b,ha,hb,h=>by
  obtain ⟨a1,a2,a3⟩:=ha.tail
  obtain ⟨b1,b2,b3⟩:=hb.tail
  rcases Int.lt_trichotomy x.1 y.1 with hxy | hxy | hxy
  ·exfalso
   have:=h x.1
   rw [bZ,if_pos rfl,bZ,if_neg (by omega),fY (fun z hz=>by have:=b2 z hz; omega)] at this
   exact a3 this
  ·have h1:=h x.1
   rw [bZ,if_pos rfl,bZ,if_pos hxy.symm] at h1
   have e:x=y:=Prod.ext hxy h1
   subst e
   rw [Val.ext a1 b1 fun n=>by
    by_cases hn:x.1=n
    ·subst hn
     rw [fY (fun z hz=>by have:=a2 z hz; omega),fY (fun z hz=>by have:=b2 z hz; omega)]
    ·have:=h n
     rwa [bZ,if_neg hn,bZ,if_neg hn] at this]
  ·exfalso
   have:=h y.1
   rw [bZ,if_neg (by omega),fY (fun z hz=>by have:=a2 z hz; omega),bZ,if_pos rfl] at this
   exact b3 this.symm
def wM (id z:Int):List (Int × Int)→List (Int × Int)
 | []=>[(id,z)]
 | x::l=>if x.1 > id then (id,z)::x::l else if x.1=id then (if x.2+z=0 then l else (id,x.2+z)::l) else x::wM id z l
theorem mM (id z:Int):∀ (l out:List (Int × Int)),l.foldl (eP id z) (out,true)=(out++l,true)
 | [],out=>by simp
 | x::l,out=>by
  have e:eP id z (out,true) x=(out++[x],true):=rfl
  rw [List.foldl_cons,e,mM id z l]; simp
def bOb (f:Int × Int) (s:List (Int × Int) × Bool):List (Int × Int):=if s.2 then s.1 else s.1++[f]
theorem rU (f:Int × Int) (out:List (Int × Int)):bOb f (out,true)=out:=rfl
theorem aBd (id z:Int):∀ (l out:List (Int × Int)),bOb (id,z) (l.foldl (eP id z) (out,false))=out++wM id z l
 | [],out=>rfl
 | x::l,out=>by
  rw [List.foldl_cons,wM]
  by_cases h1:x.1 > id
  ·have e:eP id z (out,false) x=(out++[(id,z),x],true):=by simp [eP,h1]
   rw [e,mM,if_pos h1,rU]; simp
  ·rw [if_neg h1]
   by_cases h2:x.1=id
   ·rw [if_pos h2]
    by_cases h3:x.2+z=0
    ·have e:eP id z (out,false) x=(out,true):=by simp [eP,h1,h2,h3]
     rw [e,mM,if_pos h3,rU]
    ·have e:eP id z (out,false) x=(out++[(id,x.2+z)],true):=by simp [eP,h1,h2,h3]
     rw [e,mM,if_neg h3,rU]; simp
   ·rw [if_neg h2]
    have e:eP id z (out,false) x=(out++[x],false):=by simp [eP,h1,h2]
    rw [e,aBd id z l (out++[x])]; simp
theorem aRg (l:List (Int × Int)) (id z:Int):lV l (id,z)=if z=0 then l else wM id z l:=by
 have e:lV l (id,z)=bOb (id,z) (l.foldl (eP id z) ([],decide (z=0))):=rfl
 rw [e]
 by_cases h:z=0
 ·rw [if_pos h]
  have:decide (z=0)=true:=by simpa using h
  rw [this,mM,rU]; simp
 ·rw [if_neg h]
  have:decide (z=0)=false:=by simpa using h
  rw [this,aBd]; simp
theorem aKq {id z:Int} (hz:z≠0):∀ {l:List (Int × Int)},Val l→Val (wM id z l)∧(∀ y∈wM id z l,y.1=id∨∃ x∈l,x.1=y.1)∧∀ n,getM (wM id z l) n=getM l n+if n=id then z else 0
 | [],_=>by
  refine ⟨Val.nil.cons (fun y hy=>by cases hy) hz,fun y hy=>?_,fun n=>?_⟩
  ·simp [wM] at hy; subst hy; exact .inl rfl
  ·simp only [wM,bZ,iK]
   by_cases h:n=id
   ·subst h; simp
   ·rw [if_neg (fun e=>h e.symm),if_neg h]; rfl
 | x::l,h=>by
  obtain ⟨h1,h2,h3⟩:=h.tail
  simp only [wM]
  by_cases hgt:x.1 > id
  ·rw [if_pos hgt]
   refine ⟨h.cons (fun y hy=>?_) hz,fun y hy=>?_,fun n=>?_⟩
   ·rcases List.mem_cons.1 hy with rfl | hy
    ·exact hgt
    ·have:=h2 y hy; simp only; omega
   ·rcases List.mem_cons.1 hy with rfl | hy
    ·exact .inl rfl
    ·exact .inr ⟨y,hy,rfl⟩
   ·rw [bZ]
    by_cases hn:n=id
    ·subst hn
     rw [if_pos rfl,if_pos rfl,fY (l:=x::l) fun y hy=>?_,Int.zero_add]
     rcases List.mem_cons.1 hy with rfl | hy
     ·omega
     ·have:=h2 y hy; omega
    ·rw [if_neg (fun e=>hn e.symm),if_neg hn,Int.add_zero]
  ·rw [if_neg hgt]
   by_cases heq:x.1=id
   ·rw [if_pos heq]
    by_cases h0:x.2+z=0
    ·rw [if_pos h0]
     refine ⟨h1,fun y hy=>.inr ⟨y,List.mem_cons_of_mem _ hy,rfl⟩,fun n=>?_⟩
     rw [bZ]
     by_cases hn:n=id
     ·subst hn
      rw [if_pos heq,if_pos rfl,fY (fun y hy=>by have:=h2 y hy; omega)]; omega
     ·rw [if_neg (by omega),if_neg hn,Int.add_zero]
    ·rw [if_neg h0]
     refine ⟨h1.cons (fun y hy=>by have:=h2 y hy; simp only; omega) h0,fun y hy=>?_,fun n=>?_⟩
     ·rcases List.mem_cons.1 hy with rfl | hy
      ·exact .inl rfl
      ·exact .inr ⟨y,List.mem_cons_of_mem _ hy,rfl⟩
     ·rw [bZ,bZ]
      by_cases hn:n=id
      ·subst hn
       rw [if_pos rfl,if_pos heq,if_pos rfl]
      ·rw [if_neg (fun e=>hn e.symm),if_neg (by omega),if_neg hn,Int.add_zero]
   ·rw [if_neg heq]
    obtain ⟨i1,i2,i3⟩:=aKq (id:=id) hz h1
    refine ⟨i1.cons (fun y hy=>?_) h3,fun y hy=>?_,fun n=>?_⟩
    ·rcases i2 y hy with h | ⟨w,hw,h⟩
     ·omega
     ·have:=h2 w hw; omega
    ·rcases List.mem_cons.1 hy with rfl | hy
     ·exact .inr ⟨_,List.mem_cons_self ..,rfl⟩
     ·rcases i2 y hy with h | ⟨w,hw,h⟩
      ·exact .inl h
      ·exact .inr ⟨w,List.mem_cons_of_mem _ hw,h⟩
    ·rw [bZ,bZ,i3 n]
     by_cases hx:x.1=n
     ·rw [if_pos hx,if_pos hx,if_neg (by omega)]; omega
     ·rw [if_neg hx,if_neg hx]
theorem bBa {l:List (Int × Int)} (h:Val l) (f:Int × Int):Val (lV l f)∧∀ n,getM (lV l f) n=getM l n+if n=f.1 then f.2 else 0:=by
 obtain ⟨id,z⟩:=f
 rw [aRg]
 by_cases hz:z=0
 ·rw [if_pos hz]
  exact ⟨h,fun n=>by simp only [hz]; simp⟩
 ·rw [if_neg hz]
  obtain ⟨h1,_,h3⟩:=aKq (id:=id) hz h
  exact ⟨h1,h3⟩
def cf (n:Int):List (Int × Int)→Int
 | []=>0
 | x::l=>(if n=x.1 then x.2 else 0)+cf n l
theorem dI:∀ (b a:List (Int × Int)),Val a→Val (bV a b)∧∀ n,getM (bV a b) n=getM a n+cf n b
 | [],a,h=>⟨h,fun n=>by simp [bV,cf]⟩
 | x::b,a,h=>by
  obtain ⟨h1,h2⟩:=bBa h x
  obtain ⟨h3,h4⟩:=dI b (lV a x) h1
  refine ⟨h3,fun n=>?_⟩
  show getM (bV (lV a x) b) n=_
  rw [h4 n,h2 n]
  simp only [cf]; omega
/-! The map -/
theorem aTh (x:Int × Int) (m:List (Int × Int)) (n v:Int):uD (x::m) n v=if x.1=n then (n,v)::m else x::uD m n v:=by
 unfold uD
 by_cases h:x.1=n
 ·have e:fnd n (x::m)=some 0:=by unfold fnd; rw [if_pos h]
  rw [e,if_pos h]; rfl
 ·have e:fnd n (x::m)=(fnd n m).map (·+1):=by
   show (if x.1=n then some 0 else (fnd n m).map (·+1))=_
   rw [if_neg h]
  rw [e,if_neg h]
  cases fnd n m with
  | none=>rfl
  | some j=>simp
theorem aVb (x:Int × Int) (m:List (Int × Int)) (n:Int):vI (x::m) n=if x.1=n then m else x::vI m n:=by
 unfold vI
 by_cases h:x.1=n
 ·have e:fnd n (x::m)=some 0:=by unfold fnd; rw [if_pos h]
  rw [e,if_pos h]; rfl
 ·have e:fnd n (x::m)=(fnd n m).map (·+1):=by
   show (if x.1=n then some 0 else (fnd n m).map (·+1))=_
   rw [if_neg h]
  rw [e,if_neg h]
  cases fnd n m with
  | none=>rfl
  | some j=>simp
def Mp (m:List (Int × Int)):Prop:=m.Pairwise (fun x y=>x.1≠y.1)∧∀ x∈m,x.2≠0
theorem Mp.tail {x:Int × Int} {l:List (Int × Int)} (h:Mp (x::l)):Mp l∧(∀ y∈l,x.1≠y.1)∧x.2≠0 :=
 ⟨⟨(List.pairwise_cons.1 h.1).2,fun y hy=>h.2 y (List.mem_cons_of_mem _ hy)⟩,(List.pairwise_cons.1 h.1).1,h.2 x (List.mem_cons_self ..)⟩
theorem Mp.cons {x:Int × Int} {l:List (Int × Int)} (h:Mp l) (h1:∀ y∈l,x.1≠y.1) (h2:x.2≠0):Mp (x::l) :=
 ⟨List.pairwise_cons.2 ⟨h1,h.1⟩,fun y hy=>by
  rcases List.mem_cons.1 hy with rfl | hy
  ·exact h2
  ·exact h.2 y hy⟩
theorem Mp.nil:Mp []:=⟨List.Pairwise.nil,fun _ h=>by cases h⟩
theorem aQf {n v:Int} (hv:v≠0):∀ {m:List (Int × Int)},Mp m→Mp (uD m n v)∧(∀ y∈uD m n v,y.1=n∨∃ x∈m,x.1=y.1)∧∀ k,getM (uD m n v) k=if k=n then v else getM m k
 | [],_=>by
  have e:uD [] n v=[(n,v)]:=rfl
  rw [e]
  refine ⟨Mp.nil.cons (fun y hy=>by cases hy) hv,fun y hy=>?_,fun k=>?_⟩
  ·simp at hy; subst hy; exact .inl rfl
  ·rw [bZ]
   by_cases h:k=n
   ·subst h; simp
   ·rw [if_neg (fun e=>h e.symm),if_neg h]
 | x::m,h=>by
  obtain ⟨h1,h2,h3⟩:=h.tail
  rw [aTh]
  by_cases hx:x.1=n
  ·rw [if_pos hx]
   refine ⟨h1.cons (fun y hy=>by have:=h2 y hy; simp only; omega) hv,fun y hy=>?_,fun k=>?_⟩
   ·rcases List.mem_cons.1 hy with rfl | hy
    ·exact .inl rfl
    ·exact .inr ⟨y,List.mem_cons_of_mem _ hy,rfl⟩
   ·rw [bZ,bZ]
    by_cases h:k=n
    ·subst h; simp
    ·rw [if_neg (fun e=>h e.symm),if_neg h,if_neg (by omega)]
  ·rw [if_neg hx]
   obtain ⟨i1,i2,i3⟩:=aQf (n:=n) hv h1
   refine ⟨i1.cons (fun y hy=>?_) h3,fun y hy=>?_,fun k=>?_⟩
   ·rcases i2 y hy with h | ⟨w,hw,h⟩
    ·omega
    ·have:=h2 w hw; omega
   ·rcases List.mem_cons.1 hy with rfl | hy
    ·exact .inr ⟨_,List.mem_cons_self ..,rfl⟩
    ·rcases i2 y hy with h | ⟨w,hw,h⟩
     ·exact .inl h
     ·exact .inr ⟨w,List.mem_cons_of_mem _ hw,h⟩
   ·rw [bZ,bZ,i3 k]
    by_cases hk:x.1=k
    ·rw [if_pos hk,if_pos hk,if_neg (by omega)]
    ·rw [if_neg hk,if_neg hk]
theorem aRq {n:Int}:∀ {m:List (Int × Int)},Mp m→Mp (vI m n)∧(∀ y∈vI m n,y∈m)∧∀ k,getM (vI m n) k=if k=n then 0 else getM m k
 | [],h=>⟨h,fun y hy=>hy,fun k=>by
   have e:vI [] n=[]:=rfl
   rw [e,iK]; simp⟩
 | x::m,h=>by
  obtain ⟨h1,h2,h3⟩:=h.tail
  rw [aVb]
  by_cases hx:x.1=n
  ·rw [if_pos hx]
   refine ⟨h1,fun y hy=>List.mem_cons_of_mem _ hy,fun k=>?_⟩
   rw [bZ]
   by_cases hk:k=n
   ·subst hk
    rw [if_pos rfl,fY (fun y hy=>by have:=h2 y hy; omega)]
   ·rw [if_neg hk,if_neg (by omega)]
  ·rw [if_neg hx]
   obtain ⟨i1,i2,i3⟩:=aRq (n:=n) h1
   refine ⟨i1.cons (fun y hy=>h2 y (i2 y hy)) h3,fun y hy=>?_,fun k=>?_⟩
   ·rcases List.mem_cons.1 hy with rfl | hy
    ·exact List.mem_cons_self ..
    ·exact List.mem_cons_of_mem _ (i2 y hy)
   ·rw [bZ,bZ,i3 k]
    by_cases hk:x.1=k
    ·rw [if_pos hk,if_pos hk,if_neg (by omega)]
    ·rw [if_neg hk,if_neg hk]
theorem bKh {m:List (Int × Int)} (h:Mp m) (n k:Int):Mp (lI m n k)∧∀ j,getM (lI m n k) j=getM m j+if j=n then k else 0:=by
 unfold lI
 by_cases h0:getM m n+k=0
 ·rw [if_pos h0]
  obtain ⟨h1,_,h3⟩:=aRq (n:=n) h
  refine ⟨h1,fun j=>?_⟩
  rw [h3 j]
  by_cases hj:j=n
  ·subst hj; rw [if_pos rfl,if_pos rfl]; omega
  ·rw [if_neg hj,if_neg hj]; omega
 ·rw [if_neg h0]
  obtain ⟨h1,_,h3⟩:=aQf (n:=n) h0 h
  refine ⟨h1,fun j=>?_⟩
  rw [h3 j]
  by_cases hj:j=n
  ·subst hj; rw [if_pos rfl,if_pos rfl]
  ·rw [if_neg hj,if_neg hj]; omega
theorem yI:∀ (l m:List (Int × Int)),Mp m→Mp (jT m l)∧∀ j,getM (jT m l) j=getM m j+cf j l
 | [],m,h=>⟨h,fun n=>by simp [jT,cf]⟩
 | x::l,m,h=>by
  obtain ⟨h1,h2⟩:=bKh h x.1 x.2
  obtain ⟨h3,h4⟩:=yI l (lI m x.1 x.2) h1
  refine ⟨h3,fun n=>?_⟩
  show getM (jT (lI m x.1 x.2) l) n=_
  rw [h4 n,h2 n]
  simp only [cf]; omega
theorem aKz (g:Int→Int):∀ (l:List Int) (n:Int),getM (l.map fun n=>(n,g n)) n=if n∈l then g n else 0
 | [],n=>rfl
 | x::l,n=>by
  rw [List.map_cons,bZ,aKz g l n]
  by_cases h:x=n
  ·subst h; simp
  ·have h':¬ n=x:=fun e=>h e.symm
   simp [h,h']
theorem bBw {n:Int} {m:List (Int × Int)} (h:n ∉ m.map (·.1)):getM m n=0:=fY fun y hy e=>h (e ▸ List.mem_map_of_mem hy)
theorem bBm {m:List (Int × Int)} (h:Mp m) {n:Int} (hn:n∈m.map (·.1)):getM m n≠0:=by
 unfold getM
 have hs:=aBf hn
 cases hf:fnd n m with
 | none=>rw [hf] at hs; cases hs
 | some j =>
  obtain ⟨z,hz⟩:=aBe hf
  simp only [List.getD_eq_getElem?_getD,hz,Option.getD_some]
  exact h.2 _ (List.mem_of_getElem? hz)
theorem aBu {m:List (Int × Int)} (h:Mp m):Val (eY m)∧∀ n,getM (eY m) n=getM m n:=by
 refine ⟨⟨?_,fun x hx=>?_⟩,fun n=>?_⟩
 ·unfold eY
  rw [List.pairwise_map]
  have h1:=Go.Proofs.isort_sorted (m.map (·.1))
  have h0:(m.map (·.1)).Pairwise (fun a b:Int=>a≠b):=by rw [List.pairwise_map]; exact h.1
  have h2:(fJ (m.map (·.1))).Pairwise (fun a b:Int=>a≠b):=(Go.Proofs.isort_perm (m.map (·.1))).symm.pairwise h0 (fun {x y} (hxy:x≠y)=>Ne.symm hxy)
  exact (h1.and h2).imp fun ⟨a,b⟩=>by simp only; omega
 ·obtain ⟨n,hn,rfl⟩:=List.mem_map.1 hx
  exact bBm h ((oF n _).1 hn)
 ·unfold eY
  rw [aKz]
  by_cases hn:n∈m.map (·.1)
  ·rw [if_pos ((oF n _).2 hn)]
  ·rw [if_neg (fun h=>hn ((oF n _).1 h)),bBw hn]
theorem iS:∀ {l:List (Int × Int)},Val l→∀ n,cf n l=getM l n
 | [],_,_=>rfl
 | x::l,h,n=>by
  obtain ⟨h1,h2,_⟩:=h.tail
  rw [cf,iS h1,bZ]
  by_cases hx:x.1=n
  ·subst hx
   rw [if_pos rfl,if_pos rfl,fY (fun y hy=>by have:=h2 y hy; omega)]; omega
  ·rw [if_neg (fun e=>hx e.symm),if_neg hx]; omega
theorem bHw (l:List (Int × Int)):eY (jT [] l)=bV [] l:=by
 obtain ⟨h1,h2⟩:=yI l [] Mp.nil
 obtain ⟨h3,h4⟩:=aBu h1
 obtain ⟨h5,h6⟩:=dI l [] Val.nil
 exact h3.ext h5 fun n=>by rw [h4 n,h2 n,h6 n]
theorem add_eq {a:List (Int × Int)} (ha:Val a) (c:List (Int × Int)):eY (jT (jT [] a) c)=bV a c:=by
 obtain ⟨h1,h2⟩:=yI a [] Mp.nil
 obtain ⟨h1',h2'⟩:=yI c _ h1
 obtain ⟨h3,h4⟩:=aBu h1'
 obtain ⟨h5,h6⟩:=dI c a ha
 exact h3.ext h5 fun n=>by rw [h4 n,h2' n,h2 n,h6 n,iS ha,iK]; omega
theorem sZ {l:List (Int × Int)} (h:Val l):sY l=true:=by
 refine xB fun j hj=>?_
 unfold aJq
 have g:=bBn hj
 have h1:(l.getD j (0,0)).2≠0:=h.2 _ (List.mem_of_getElem? g)
 rw [Bool.and_eq_true,Bool.or_eq_true]
 refine ⟨by simpa using h1,?_⟩
 rcases j with _ | k
 ·exact .inl rfl
 ·refine .inr ?_
  have hk:k<l.length:=by omega
  have:=List.pairwise_iff_getElem.1 h.1 k (k+1) hk hj (by omega)
  rw [Nat.add_sub_cancel,List.getD_eq_getElem?_getD,List.getD_eq_getElem?_getD,List.getElem?_eq_getElem hj,List.getElem?_eq_getElem hk]
  simpa using this
end Go.Am
end

section
set_option linter.unusedVariables false
set_option linter.unusedSimpArgs false
open Go Go.Am Go.Proofs
namespace Go.Am
theorem aOi {n:Nat} (h:n<340282366920938463463374607431768211456):(aV n).length≤137438953472:=by
 have e:(4294967296:Nat) ^ 4=340282366920938463463374607431768211456:=by decide
 have:=eO (n:=n) (k:=4) (by rw [e]; exact h)
 omega
end Go.Am
end

section
set_option linter.unusedVariables false
set_option linter.unusedSimpArgs false
open Go Go.Am Go.Proofs
namespace Go.Am
def lin (a b:List (Int × Int)) (k:Int):List (Int × Int):=bV a (mulR k b)
theorem aGw (k n:Int):∀ b:List (Int × Int),cf n (mulR k b)=k * cf n b
 | []=>by simp [mulR,cf]
 | x::b=>by
  have ih:=aGw k n b
  show (if n=x.1 then k * x.2 else 0)+cf n (mulR k b)=k * ((if n=x.1 then x.2 else 0)+cf n b)
  rw [ih,Int.mul_add]
  split <;> simp
theorem bCv (n:Int):∀ a b:List (Int × Int),cf n (a++b)=cf n a+cf n b
 | [],b=>by simp [cf]
 | x::a,b=>by
  have ih:=bCv n a b
  simp only [List.cons_append,cf,ih]; omega
theorem yV {a b:List (Int × Int)} (ha:Val a) (hb:Val b) (k:Int):Val (lin a b k)∧∀ n,getM (lin a b k) n=getM a n+k * getM b n:=by
 obtain ⟨h1,h2⟩:=dI (mulR k b) a ha
 exact ⟨h1,fun n=>by show getM (bV a (mulR k b)) n=_; rw [h2 n,aGw,iS hb]⟩
structure Small (a:List (Int × Int)):Prop where
 val:Val a
 keys:Keys a
 bnd:Bnd 1000000000000 a
 len:a.length≤100
theorem Small.sz {a:List (Int × Int)} (h:Small a):∀ x∈a,Sz x.2:=fun x hx=>fD (h.bnd x hx) (aOi (by decide))
theorem Small.nil:Small []:=⟨Val.nil,(fun _ h=>by cases h),Bnd.nil _,Nat.zero_le _⟩
end Go.Am
end

section
set_option linter.unusedVariables false
set_option linter.unusedSimpArgs false
open Go Go.Am Go.Proofs
namespace Go.Am
def tK (z:Int):List D:=[.b (decide (z<0)),aG (aV z.natAbs)]
def cH (v:List Int):D:=.sl (v.map tK)
def vcs (v:List Int):List D:=(v.map tK).flatten
theorem fI (l:List Int):(vcs l).length=l.length * 2:=by
 unfold vcs
 induction l with
 | nil=>rfl
 | cons x l ih=>simp only [List.map_cons,List.flatten_cons,List.length_append,ih,tK,List.length_cons,List.length_nil]; omega
theorem aGv (z:Int):tK z=[.b (decide (z<0)),aG (aV z.natAbs)]:=rfl
theorem aVe (l:List (List D)) (h:∀ x∈l,x.length=2):chunk 2 l.length l.flatten=l:=by
 induction l with
 | nil=>rfl
 | cons a l ih =>
  have ha:=h a (List.mem_cons_self ..)
  have:=ih fun x hx=>h x (List.mem_cons_of_mem _ hx)
  unfold chunk at this ⊢
  rw [List.length_cons,List.range_succ_eq_map,List.map_cons,List.map_map,List.flatten_cons]
  congr 1
  ·simp [ha]
  ·conv=>rhs; rw [← this]
   apply List.map_congr_left
   intro i _
   simp only [Function.comp]
   rw [show Nat.succ i * 2=a.length+i * 2 from by omega,List.drop_append,List.drop_eq_nil_of_le (by omega)]
   simp
theorem aEw {l:List Int} {n:Nat} (h:l.length=n):chunk 2 n (vcs l)=l.map tK:=by
 subst h
 have:=aVe (l.map tK) (fun x hx=>by obtain ⟨y,_,rfl⟩:=List.mem_map.1 hx; rfl)
 rwa [List.length_map] at this
theorem tQ {l:List Int} {n:Nat} (h:l.length=n):List.take (n * 2) ((vcs l).map AV.d)=(vcs l).map AV.d:=List.take_of_length_le (by simp [fI,h])
def cP (rows cols:Int) (A:List (List Int)):D:=.ag [.i .i64 rows,.i .i64 cols,.sl (A.map fun v=>[cH v])]
theorem sP {H H':Nat→Option HO} {ρ:Nat→Nat} {a o l s b o' l' s':Nat}:mU H H' ρ (.own a o l s) (.own b o' l' s')↔(a=ρ b∧o=o'∧l=l'∧s=s'∧(H' b).isSome=true):=Iff.rfl
theorem bBq {H:Nat→Option HO} {B:Nat} {e:TypeId} {v:List Int} {n:Nat} (m:Nat) (hB:H B=some (.cells e ((vcs v).map .d))) (hv:v.length=n):frz H (m+2) (.own B 0 n 2)=some (cH v):=by
 have hl:=fI v
 rw [hv] at hl
 rw [iB,hB]
 simp only [Nat.zero_add,List.length_map,hl,Nat.zero_mul,List.drop_zero]
 rw [tQ hv,if_pos ⟨Nat.le_refl _,by decide⟩]
 have:List.mapM (frz H (m+1)) ((vcs v).map AV.d)=some (vcs v):=kS H m (vcs v)
 rw [this,Option.map_some,aEw hv]; rfl
theorem nU (z:Int) (v:List Int):vcs (z::v)=tK z++vcs v:=by simp [vcs]
theorem fV:∀ {v:List Int} {k:Nat} {z:Int},v[k]? = some z→((vcs v).drop (k * 2)).take 2=tK z
 | [],k,z,h=>by simp at h
 | y::v,0,z,h=>by
  simp at h; subst h
  rw [nU]; rfl
 | y::v,k+1,z,h=>by
  have ih:=fV (v:=v) (k:=k) (z:=z) (by simpa using h)
  rw [nU,show (k+1) * 2=k * 2+2 by omega,← ih]
  rw [Nat.add_comm,← List.drop_drop]
  rfl
theorem aPs:∀ {v:List Int} {k:Nat} (z:Int),k<v.length→(vcs v).take (k * 2)++tK z++(vcs v).drop (k * 2+2)=vcs (v.set k z)
 | [],k,z,h=>by simp at h
 | y::v,0,z,h=>by
  rw [List.set_cons_zero,nU,nU]; rfl
 | y::v,k+1,z,h=>by
  have ih:=aPs (v:=v) (k:=k) z (by simpa using h)
  rw [List.set_cons_succ,nU,nU,← ih,show (k+1) * 2=2+k * 2 by omega,show 2+k * 2+2=2+(k * 2+2) by omega]
  have e1:∀ n,List.take (2+n) (tK y++vcs v)=tK y++List.take n (vcs v):=fun n=>by rw [List.take_append,List.take_of_length_le (by show 2≤2+n; omega)]; congr 2; show 2+n - 2=n; omega
  have e2:∀ n,List.drop (2+n) (tK y++vcs v)=List.drop n (vcs v):=fun n=>by rw [← List.drop_drop]; rfl
  rw [e1,e2]; simp
theorem mapM_some {α β:Type} (f:α→Option β) (g:Nat→β):∀ (l:List α),(∀ k x,l[k]? = some x→f x=some (g k))→l.mapM f=some ((List.range l.length).map g)
 | [],_=>rfl
 | x::l,h=>by
  rw [List.mapM_cons,h 0 x rfl,mapM_some f (fun k=>g (k+1)) l fun k y hy=>h (k+1) y (by simpa using hy),List.length_cons,List.range_succ_eq_map]
  simp [Function.comp_def]
def zr (cols:Nat):List AV:=(List.replicate cols [AV.d (.b false),AV.nil]).flatten
theorem bEw {H H':Nat→Option HO} {ρ:Nat→Nat} (cols:Nat):gO H H' ρ (zr cols) (zr cols):=by
 refine dZ.2 ⟨rfl,fun k c d h1 h2=>?_⟩
 rw [h1] at h2; injection h2 with h2; subst h2
 have hm:=List.mem_of_getElem? h1
 unfold zr at hm
 rw [List.mem_flatten] at hm
 obtain ⟨l,hl,hc⟩:=hm
 rw [List.eq_of_mem_replicate hl] at hc
 rcases List.mem_cons.1 hc with rfl | hc
 ·exact (iU _ _).2 rfl
 ·rw [List.mem_singleton.1 hc]; trivial
theorem aMc {H H':Nat→Option HO} {ρ:Nat→Nat}:∀ c:Nat,gO H H' ρ (zr c) ((vcs (List.replicate c 0)).map .d)
 | 0=>trivial
 | c+1=>by
  have ih:=aMc (H:=H) (H':=H') (ρ:=ρ) c
  have e1:zr (c+1)=AV.d (.b false)::AV.nil::zr c:=by simp [zr,List.replicate_succ]
  have e2:(vcs (List.replicate (c+1) 0)).map AV.d=AV.d (.b (decide ((0:Int)<0)))::AV.d (aG (aV (0:Int).natAbs))::(vcs (List.replicate c 0)).map AV.d:=by
   rw [List.replicate_succ]; rfl
  rw [e1,e2]
  refine ⟨?_,?_,ih⟩
  ·exact (iU _ _).2 rfl
  ·exact ⟨by rw [show ((0:Int).natAbs)=0 from rfl,cE]; rfl,fun a ha=>by simp [vis] at ha⟩
def nwV (rows cols m:Nat):AV:=.ag [.d (.i .i64 (rows:Int)),.d (.i .i64 (cols:Int)),.own m 0 rows 1]
end Go.Am
end

section
set_option linter.unusedVariables false
set_option linter.unusedSimpArgs false
open List (map_map mapM_map)
open Go Go.Am Go.Proofs
namespace Go.Am
theorem mG {P:Program} (σ:St) (x y:ResultVar):mW P [x,y] σ=(lC P σ x).bind fun a=>(lC P σ y).bind fun b=>(frz σ.H 8 a).bind fun u=>(frz σ.H 8 b).bind fun v=>some (.tp [u,v]):=by
 unfold mW
 cases h1:lC P σ x <;> cases h2:lC P σ y <;> simp [gN,h1,h2]
 rename_i a b
 cases frz σ.H 8 a <;> cases frz σ.H 8 b <;> simp
theorem cT {P:Program} (σ:St) (x y z:ResultVar):mW P [x,y,z] σ=(lC P σ x).bind fun a=>(lC P σ y).bind fun b=>(lC P σ z).bind fun c=>(frz σ.H 8 a).bind fun u=>(frz σ.H 8 b).bind fun v=>(frz σ.H 8 c).bind fun w=>some (.tp [u,v,w]):=by
 unfold mW
 cases h1:lC P σ x <;> cases h2:lC P σ y <;> cases h3:lC P σ z <;> simp [gN,h1,h2,h3]
 rename_i a b c
 cases frz σ.H 8 a <;> cases frz σ.H 8 b <;> cases frz σ.H 8 c <;> simp
def shS (a:List Nat) (d:Nat):Nat→List Nat × Nat
 | 0=>(List.replicate a.length 0,0)
 | k+1=>((shS a d k).1.set (a.length - 1 - k) (((shS a d k).2 * 4294967296+a.getD (a.length - 1 - k) 0) / d),((shS a d k).2 * 4294967296+a.getD (a.length - 1 - k) 0) % d)
theorem aXa {o v v' p q d r r' x t t' w:Nat} (hs:v'+p * o=v+p * q) (ho:o=0) (ht:r * 4294967296+x=t) (hq:r'+d * q=t) (hv:v * d+p * 4294967296 * r+(t'+p * x)=w):v' * d+p * r'+t'=w:=by
 subst ho
 have h1:v'=v+p * q:=by omega
 have h2:p * t=p * (r * 4294967296)+p * x:=by rw [← ht,Nat.mul_add]
 have h3:p * t=p * r'+p * (d * q):=by rw [← hq,Nat.mul_add]
 have h4:p * q * d=p * (d * q):=by rw [Nat.mul_assoc,Nat.mul_comm q]
 have h5:p * 4294967296 * r=p * (r * 4294967296):=by rw [Nat.mul_assoc,Nat.mul_comm r]
 rw [h1,Nat.add_mul,h4]
 omega
theorem bKs {r x d:Nat} (hr:r<d) (hx:x<4294967296):(r * 4294967296+x) / d<4294967296:=by
 rw [Nat.div_lt_iff_lt_mul (by omega)]
 have:r * 4294967296+4294967296≤d * 4294967296:=by
  have:=Nat.mul_le_mul_right 4294967296 (Nat.succ_le_of_lt hr)
  rw [Nat.succ_mul] at this; exact this
 rw [Nat.mul_comm 4294967296]
 omega
theorem aPy {a:List Nat} {d:Nat} (ha:Lim a) (hd:0<d) (k:Nat) (hk:k≤a.length) :
  (shS a d k).1.length=a.length∧(shS a d k).2<d∧Lim (shS a d k).1∧(∀ i,i<a.length - k→(shS a d k).1.getD i 0=0) ∧
  val (shS a d k).1 * d+4294967296 ^ (a.length - k) * (shS a d k).2+val (a.take (a.length - k))=val a:=by
 induction k with
 | zero=>exact ⟨by simp [shS],hd,.rep _,fun i _=>by simp [shS,List.getElem?_replicate]; split <;> rfl,by simp [shS,yH]⟩
 | succ k ih =>
  obtain ⟨h1,h2,h3,h4,h5⟩:=ih (by omega)
  obtain ⟨j,hj⟩:∃ j,a.length - 1 - k=j:=⟨_,rfl⟩
  have hj1:a.length - k=j+1:=by omega
  have hj2:a.length - (k+1)=j:=by omega
  have hx:=ha.getD j
  have hset:=aFr (l:=(shS a d k).1) (j:=j) (by omega) (((shS a d k).2 * 4294967296+a.getD j 0) / d)
  have hoj:=h4 j (by omega)
  simp only [shS,hj,hj2]
  rw [hj1,cX,Nat.pow_succ] at h5
  have hlt:=bKs h2 hx
  refine ⟨by simp [h1],Nat.mod_lt _ hd,h3.set _ hlt,fun i hi=>?_,?_⟩
  ·rw [List.getD_eq_getElem?_getD,List.getElem?_set_ne (by omega),← List.getD_eq_getElem?_getD]
   exact h4 i (by omega)
  ·exact aXa hset hoj rfl (Nat.mod_add_div _ _) h5
def shQ (a:List Nat) (d:Nat):List Nat:=(shS a d a.length).1
theorem aFw {a:List Nat} {d:Nat} (ha:Lim a) (hd:0<d):(shQ a d).length=a.length∧Lim (shQ a d)∧val (shQ a d)=val a / d∧(shS a d a.length).2=val a % d:=by
 obtain ⟨h1,h2,h3,_,h5⟩:=aPy ha hd a.length (Nat.le_refl _)
 rw [Nat.sub_self,Nat.pow_zero,Nat.one_mul,List.take_zero,val,Nat.add_zero] at h5
 have:=(Nat.div_mod_unique hd).2 ⟨show (shS a d a.length).2+d * val (shQ a d)=val a by rw [Nat.mul_comm,Nat.add_comm]; exact h5,h2⟩
 exact ⟨h1,h3,this.1.symm,this.2.symm⟩
set_option maxRecDepth 10000 in
theorem aJa (a:List Nat) (d:Nat) (ha:Lim a) (hd:0<d) (hd2:d<4294967296) (hla:a.length≤1099511627776):Spec Tryz.prog 195 [aG a,.i .u32 d] (.tp [aG (shQ a d),.i .u32 ((val a % d:Nat):Int)]):=by
 refine aY (N:=42) aF Tryz.func195 rfl rfl rfl (by kernel_rfl) (by kernel_rfl) (by simp) ?_
 obtain ⟨n,hn⟩:∃ n,a.length=n:=⟨_,rfl⟩
 have hm1:(4:Int) * n≤281474976710656:=by omega
 have hm2:(n:Int)≤9223372036854775807:=by omega
 have hw1:IntKind.i64.wrap ((n:Int) - 1)=(n:Int) - 1:=aS (by omega) (by omega)
 have hwd:IntKind.u64.wrap (d:Int)=d:=bK (by omega) (by omega)
 have hdz:¬ d=0:=by omega
 have h00:(shS a d 0).1=List.replicate n 0:=by rw [← hn]; rfl
 have h01:(shS a d 0).2=0:=rfl
 simp [-map_map,-mapM_map,↓KW,aG,hn,hw1,hm1,hm2]
 refine aU (fun k:Nat=>k≤n)
  (fun k=>StL [(0,.d (aG a)),(1,.d (.i .u32 d)),(6,.own 1 0 n 1),(7,.d (.i .u64 (shS a d k).2)),(8,.d (.i .i64 ((n:Int) - 1 - k)))] none
   [.cells 121 ((lms (shS a d k).1).map .d)]) (fun k=>n - k) 0 (Nat.zero_le _) ?_ ?_
 ·refine bC [1] (by simp) ?_ ?_ <;> simp [-map_map,upd,aT,Γ0,aG,h00,h01]
 ·intro k hk
  obtain ⟨ol,oc,om,_,_⟩:=aPy ha hd k (by omega)
  rw [hn] at ol
  by_cases hgo:k<n
  ·have q1:(0:Int)≤(n:Int) - 1 - k:=by omega
   obtain ⟨j,hj⟩:∃ j,a.length - 1 - k=j:=⟨_,rfl⟩
   have hji:(n:Int) - 1 - k=j:=by omega
   have hsucc:shS a d (k+1)=((shS a d k).1.set j (((shS a d k).2 * 4294967296+a.getD j 0) / d),((shS a d k).2 * 4294967296+a.getD j 0) % d):=by rw [← hj]; rfl
   have g1:=getD_some (l:=a) (i:=j) (by omega)
   have hx:=ha.getD j
   have hlt:=bKs oc hx
   generalize hout:(shS a d k).1=out at *
   generalize hcar:(shS a d k).2=r at *
   generalize a.getD j 0=x at *
   obtain ⟨t,ht⟩:∃ t,r * 4294967296+x=t:=⟨_,rfl⟩
   rw [ht] at hsucc hlt
   obtain ⟨q,hq⟩:∃ q,t / d=q:=⟨_,rfl⟩
   obtain ⟨r',hr'⟩:∃ r',t % d=r':=⟨_,rfl⟩
   rw [hq,hr'] at hsucc
   rw [hq] at hlt
   have hr'd:r'<d:=by rw [← hr']; exact Nat.mod_lt _ hd
   have hwx:IntKind.u64.wrap (x:Int)=x:=bK (by omega) (by omega)
   have hwr:IntKind.u64.wrap ((r:Int) * 4294967296)=(r:Int) * 4294967296:=bK (by omega) (by omega)
   have hwt:IntKind.u64.wrap ((r:Int) * 4294967296+x)=t:=by rw [bK (by omega) (by omega)]; omega
   have hwq:IntKind.u64.wrap ((t:Int) / d)=q:=by rw [← Int.natCast_ediv,hq,bK (by omega) (by omega)]
   have hwq2:IntKind.u32.wrap (q:Int)=q:=iX (by omega) (by omega)
   have hwm:Int.tmod (t:Int) d=r':=by rw [← Int.ofNat_tmod,hr']
   have hw8:IntKind.i64.wrap ((j:Int) - 1)=(j:Int) - 1:=aS (by omega) (by omega)
   have hjn:j<n:=by omega
   have hjl3:j+1≤n:=by omega
   have hlay:lay (List.map AV.d (lms out)) j [AV.d (D.i .u32 (q:Int))]=List.map AV.d (lms (out.set j q)):=by
    rw [nG _ _ _ (by rw [kY]; omega),uO]
   have he:(n:Int) - 1 - ((k:Int)+1)=(j:Int) - 1:=by omega
   rw [hji]
   simp [-map_map,-mapM_map,↓KW,aG,g1,hwx,hwr,hwt,hwd,hdz,hwq,hwq2,hwm,hw8,hjn,hjl3,hlay,ol]
   refine aK (k+1) hgo ?_ (bC [1] (by simp) ?_ ?_)
   ·omega
   ·simp [-map_map,upd,aT,Γ0,aG,hsucc,he]
   ·simp [-map_map,upd,aT,Γ0,aG,hsucc,he]
  ·have e:k=n:=by omega
   have q1:¬ (k:Int)≤(n:Int) - 1:=by omega
   obtain ⟨s1,s2,s3,s4⟩:=aFw ha hd
   have e1:(shS a d k).1=shQ a d:=by rw [e,← hn]; rfl
   have e2:(shS a d k).2=val a % d:=by rw [e,← hn]; exact s4
   rw [hn] at s1
   have hrd:val a % d<d:=Nat.mod_lt _ hd
   have e3:(val a:Int) % d=((val a % d:Nat):Int):=by rw [Int.natCast_emod]
   rw [e1,e2]
   generalize val a % d=r at *
   have hwr:IntKind.u32.wrap (r:Int)=r:=iX (by omega) (by omega)
   simp [-map_map,-mapM_map,↓KW,aG,q1,s1,fK s1,dP s1,hwr,e3,mG]
end Go.Am
end

section
set_option linter.unusedVariables false
set_option linter.unusedSimpArgs false
open Go Go.Am Go.Proofs
namespace Go.Am
theorem xS {n:Nat} (h:n≤2147483648):(n+1) * 32≤140737488355328∧n+1≤1099511627776:=⟨by omega,by omega⟩
structure Cl where
 id:Int
 dim:Int
 b:List (Int × Int)
 deriving DecidableEq,Inhabited
def qK:Cl:=⟨0,0,[]⟩
def aZ (x:Cl):List D:=[.i .i64 x.id,.i .i64 x.dim,aM x.b]
def aI (c:List Cl):D:=.sl (c.map aZ)
def cF (l:List Int):D:=.sl (l.map fun n=>[.i .i64 n])
def bT (c:List Cl) (n:Int):Option Cl:=c.find? fun y=>decide (y.id=n)
def cS (c:List Cl) (k:Int):List Int:=(c.filter fun y=>decide (y.dim=k)).map Cl.id
def bOf (c:List Cl) (n:Int):List (Int × Int):=((bT c n).getD qK).b
def dOf (c:List Cl) (n:Int):Int:=((bT c n).getD qK).dim
def kn (c:List Cl) (n:Int):Bool:=(bT c n).isSome
theorem aOc (x:Cl) (c:List Cl) (n:Int):bT (x::c) n=if x.id=n then some x else bT c n:=by
 unfold bT
 rw [List.find?_cons]
 by_cases h:x.id=n <;> simp [h]
theorem aOb {c:List Cl} {i:Nat} (h:i<c.length) (n:Int):bT (c.drop i) n=if c[i].id=n then some c[i] else bT (c.drop (i+1)) n:=by
 rw [List.drop_eq_getElem_cons h,aOc]
theorem aUp {c:List Cl} {i:Nat} (h:i<c.length) (k:Int):cS (c.take (i+1)) k=cS (c.take i) k++if c[i].dim=k then [c[i].id] else []:=by
 unfold cS
 rw [List.take_add_one,List.getElem?_eq_getElem h,List.filter_append,List.map_append]
 congr 1
 by_cases e:c[i].dim=k <;> simp [e]
theorem lE (c:List Cl) (k:Int):(cS c k).length≤c.length:=by
 unfold cS
 rw [List.length_map]; exact List.length_filter_le _ _
theorem dQ {c:List Cl} {n:Int} {x:Cl} (h:bT c n=some x):x∈c∧x.id=n :=
 ⟨List.mem_of_find?_eq_some h,by have:=List.find?_some h; simpa using this⟩
theorem aBg {c:List Cl} {n:Int} (h:bT c n=none):∀ x∈c,x.id≠n:=fun x hx=>by
 have:=List.find?_eq_none.1 h x hx; simpa using this
def Inc (c:List Cl):Prop:=c.Pairwise fun x y=>x.id<y.id
theorem Inc.eq {c:List Cl} (h:Inc c) {x y:Cl} (hx:x∈c) (hy:y∈c) (e:x.id=y.id):x=y:=by
 induction c with
 | nil=>cases hx
 | cons a c ih =>
  obtain ⟨h1,h2⟩:=List.pairwise_cons.1 h
  rcases List.mem_cons.1 hx with rfl | hx' <;> rcases List.mem_cons.1 hy with rfl | hy'
  ·rfl
  ·have:=h1 y hy'; omega
  ·have:=h1 x hx'; omega
  ·exact ih h2 hx' hy'
theorem Inc.find {c:List Cl} (h:Inc c) {x:Cl} (hx:x∈c):bT c x.id=some x:=by
 cases e:bT c x.id with
 | none=>exact (aBg e x hx rfl).elim
 | some y=>obtain ⟨h1,h2⟩:=dQ e; rw [h.eq h1 hx h2]
def lv (k:Int) (r:List (Int × Int)):Int:=r.foldl (fun acc x=>if x.1=k then x.2 else acc) 0
theorem bHz (k:Int) (r:List (Int × Int)) (x:Int × Int):lv k (r++[x])=if x.1=k then x.2 else lv k r:=by simp [lv]
theorem bHy {r:List (Int × Int)} {i:Nat} (h:i<r.length) (k:Int):lv k (r.take (i+1))=if r[i].1=k then r[i].2 else lv k (r.take i):=by
 rw [List.take_add_one,List.getElem?_eq_getElem h]; exact bHz _ _ _
theorem aQx (k:Int):∀ (r:List (Int × Int)) (acc:Int),Val r→r.foldl (fun acc x=>if x.1=k then x.2 else acc) acc=if ∃ y∈r,y.1=k then getM r k else acc
 | [],acc,_=>by simp
 | x::r,acc,h=>by
  obtain ⟨h1,h2,h3⟩:=h.tail
  rw [List.foldl_cons,aQx k r _ h1,bZ]
  by_cases e:x.1=k
  ·have hn:¬ ∃ y∈r,y.1=k:=fun ⟨y,hy,e2⟩=>by have:=h2 y hy; omega
   rw [if_neg hn,if_pos e,if_pos ⟨x,List.mem_cons_self ..,e⟩,if_pos e]
  ·rw [if_neg e,if_neg e]
   by_cases hr:∃ y∈r,y.1=k
   ·obtain ⟨y,hy,e2⟩:=hr
    rw [if_pos ⟨y,hy,e2⟩,if_pos ⟨y,List.mem_cons_of_mem _ hy,e2⟩]
   ·rw [if_neg hr,if_neg]
    rintro ⟨y,hy,e2⟩
    rcases List.mem_cons.1 hy with rfl | hy
    ·exact e e2
    ·exact hr ⟨y,hy,e2⟩
theorem bIa {r:List (Int × Int)} (h:Val r) (k:Int):lv k r=getM r k:=by
 unfold lv
 rw [aQx k r 0 h]
 split
 ·rfl
 ·rename_i hn
  exact (fY fun y hy e=>hn ⟨y,hy,e⟩).symm
theorem bNl {M:Nat} {r:List (Int × Int)} (h:Bnd M r) (k:Int):(lv k r).natAbs≤M:=by
 unfold lv
 suffices ∀ (r:List (Int × Int)) (acc:Int),Bnd M r→acc.natAbs≤M→(r.foldl (fun acc x=>if x.1=k then x.2 else acc) acc).natAbs≤M from this r 0 h (by simp)
 intro r
 induction r with
 | nil=>intro acc _ ha; exact ha
 | cons x r ih =>
  intro acc hb ha
  rw [List.foldl_cons]
  refine ih _ (fun y hy=>hb y (List.mem_cons_of_mem _ hy)) ?_
  split
  ·exact hb x (List.mem_cons_self ..)
  ·exact ha
def sI (ids:List Int) (x:List (Int × Int)):List Int:=ids.map fun n=>lv n x
def pT (c:List Cl) (k:Int):List (List Int):=(cS c k).map fun n=>sI (cS c (k - 1)) (bOf c n)
def bdL (c:List Cl) (x:List (Int × Int)):List (Int × Int):=x.flatMap fun f=>mulR f.2 (bOf c f.1)
def bdX (c:List Cl) (x:List (Int × Int)):List (Int × Int):=bV [] (bdL c x)
def chX (c:List Cl) (k:Int) (v:List Int):List (Int × Int) × Int:=if v.length=(cS c k).length then (bV [] ((cS c k).zip v),0) else ([],50)
theorem bDm {c:List Cl} {x:List (Int × Int)} {i:Nat} (h:i<x.length):bdL c (x.take (i+1))=bdL c (x.take i)++mulR x[i].2 (bOf c x[i].1):=by
 unfold bdL
 rw [List.take_add_one,List.getElem?_eq_getElem h,List.flatMap_append]
 simp
theorem aCc (a x y:List (Int × Int)):bV a (x++y)=bV (bV a x) y:=by unfold bV; rw [List.foldl_append]
end Go.Am
end

section
set_option linter.unusedVariables false
set_option linter.unusedSimpArgs false
open List (map_map mapM_map)
open Go Go.Am Go.Proofs
namespace Go.Am
def wP (c:List Cl) (n:Int):D:=.tp [.ag (aZ ((bT c n).getD qK)),.b (bT c n).isSome]
theorem gE (c:List Cl):fF 3 (c.map aZ)=true:=by cases c <;> rfl
theorem aE (l:List (Int × Int)):one (.d (aM l))=true:=rfl
theorem aB (l:List (Int × Int)):eG (.d (aM l))=some [.d (aM l)]:=rfl
theorem aC (l:List (Int × Int)):aT (aM l)=.d (aM l):=rfl
theorem bF (H:Nat→Option HO) (avs:List AV) (l:List (Int × Int)):bX H avs (aM l)=gD H avs:=rfl
theorem aQ (l:List (Int × Int)):inj (aM l)=.d (aM l):=rfl
set_option maxHeartbeats 1000000 in
set_option maxRecDepth 10000 in
theorem nC (c:List Cl) (n:Int) (hl:c.length≤1000000):Spec Tryz.prog 37 [aI c,.i .i64 n] (wP c n):=by
 refine aY (N:=25) aF Tryz.func37 rfl rfl rfl (by kernel_rfl) (by kernel_rfl) (by simp) ?_
 simp [-map_map,-mapM_map,↓KW,aI]
 refine aU (fun i:Nat=>i≤c.length∧bT (c.drop i) n=bT c n) (fun i=>StL [(0,.d (aI c)),(1,.d (.i .i64 n)),(4,.ptr 1 0),(5,.d (.b false)),(6,.d (.i .i64 (i:Int)))] none [.cells 47 [.d (.i .i64 0),.d (.i .i64 0),.nil]]) (fun i=>c.length - i) 0 ⟨Nat.zero_le _,rfl⟩ ?_ ?_
 ·refine bC [1] (by simp) ?_ ?_ <;> simp [-map_map,upd,aT,Γ0,aI]
 ·intro i ⟨hi,hp⟩
  by_cases hgo:i<c.length
  ·have q1:(i:Int)<c.length:=by omega
   have hx:c[i]? = some c[i]:=List.getElem?_eq_getElem hgo
   have hw:IntKind.i64.wrap ((i:Int)+1)=(i:Int)+1:=aS (by omega) (by omega)
   rw [aOb hgo] at hp
   generalize c[i]=x at *
   by_cases h0:x.id=n
   ·rw [if_pos h0] at hp
    have h0':((x.id == n):Bool)=true:=by simpa using h0
    unfold wP
    rw [← hp]
    have q3:(((n:Int) == (n:Int)):Bool)=true:=by simp
    simp [-map_map,-mapM_map,↓KW,aI,aZ,q1,hx,h0,h0',q3,aE,aB,aC]
    rfl
   ·rw [if_neg h0] at hp
    have h0':((x.id == n):Bool)=false:=by simpa using h0
    simp [-map_map,-mapM_map,↓KW,aI,aZ,q1,hx,h0,h0',hw,aE,aB,aC]
    refine aK (i+1) ⟨hgo,hp⟩ (Nat.sub_lt_sub_left hgo (Nat.lt_succ_self _)) (bC [1] (by simp) ?_ ?_) <;> simp [-map_map,upd,aT,Γ0,aI]
  ·have q1:¬ (i:Int)<c.length:=by omega
   rw [List.drop_eq_nil_of_le (by omega)] at hp
   have hp':bT c n=none:=hp.symm
   unfold wP
   rw [hp']
   simp [-map_map,-mapM_map,↓KW,aI,q1,aZ,qK,aM]
   rfl
set_option maxHeartbeats 1000000 in
set_option maxRecDepth 10000 in
theorem zZ (c:List Cl) (k:Int) (hl:c.length≤1000000):Spec Tryz.prog 74 [aI c,.i .i64 k] (cF (cS c k)):=by
 refine aY (N:=30) aF Tryz.func74 rfl rfl rfl (by kernel_rfl) (by kernel_rfl) (by simp) ?_
 simp [-map_map,-mapM_map,↓KW,aI]
 refine aU (fun i:Nat=>i≤c.length) (fun i=>StL [(0,.d (aI c)),(1,.d (.i .i64 k)),(5,.own 1 0 (cS (c.take i) k).length 1),(6,.d (.i .i64 (i:Int)))] none [.cells 3 (((cS (c.take i) k).map fun n=>D.i .i64 n).map .d)]) (fun i=>c.length - i) 0 (Nat.zero_le _) ?_ ?_
 ·refine bC [1] (by simp) ?_ ?_ <;> simp [-map_map,upd,aT,Γ0,aI,cS]
 ·intro i hi
  by_cases hgo:i<c.length
  ·have q1:(i:Int)<c.length:=by omega
   have hx:c[i]? = some c[i]:=List.getElem?_eq_getElem hgo
   have hw:IntKind.i64.wrap ((i:Int)+1)=(i:Int)+1:=aS (by omega) (by omega)
   have htk:=aUp hgo k
   have hln:(cS (c.take i) k).length≤i:=Nat.le_trans (lE _ _) (by simp; omega)
   generalize cS (c.take i) k=out at *
   generalize c[i]=x at *
   have hbb:=cO (n:=out.length) (by omega)
   have hb8:(out.length+1) * 8≤140737488355328:=by omega
   by_cases h0:x.dim=k
   ·rw [if_pos h0] at htk
    have h0':((x.dim == k):Bool)=true:=by simpa using h0
    have q3:(((k:Int) == (k:Int)):Bool)=true:=by simp
    simp [-map_map,-mapM_map,↓KW,aI,aZ,q1,hx,h0,h0',q3,hw,hbb,hb8,aW,aE,aB,aC]
    refine aK (i+1) hgo (Nat.sub_lt_sub_left hgo (Nat.lt_succ_self _)) (bC [3] (by simp) ?_ ?_) <;> simp [-map_map,upd,aT,Γ0,aI,htk]
   ·rw [if_neg h0,List.append_nil] at htk
    have h0':((x.dim == k):Bool)=false:=by simpa using h0
    simp [-map_map,-mapM_map,↓KW,aI,aZ,q1,hx,h0,h0',hw,aE,aB,aC]
    refine aK (i+1) hgo (Nat.sub_lt_sub_left hgo (Nat.lt_succ_self _)) (bC [1] (by simp) ?_ ?_) <;> simp [-map_map,upd,aT,Γ0,aI,htk]
  ·have q1:¬ (i:Int)<c.length:=by omega
   rw [List.take_of_length_le (by omega)]
   have hln:=lE c k
   generalize cS c k=out at *
   have e1:List.take out.length ((out.map fun n=>D.i .i64 n).map AV.d)=(out.map fun n=>D.i .i64 n).map AV.d:=List.take_of_length_le (by simp)
   have e2:chunk 1 out.length (out.map fun n=>D.i .i64 n)=out.map fun n=>[D.i .i64 n]:=by rw [sB _ _ (by simp),List.map_map]; rfl
   simp [-map_map,-mapM_map,↓KW,aI,cF,q1,e1,e2]
end Go.Am
end

section
set_option linter.unusedVariables false
set_option linter.unusedSimpArgs false
open List (map_map mapM_map)
open Go Go.Am Go.Proofs
namespace Go.Am
def hdr (c n b:Nat):List AV:=(List.range n).map fun j=>AV.own (j+b) 0 c 2
def xV (v:List Int):HO:=.cells 69 ((vcs v).map .d)
def mB (c:Nat) (M:List (List Int)) (m:Nat):List HO:=.cells 112 (hdr c M.length (m+1))::M.map xV
theorem cB (c n b:Nat):(hdr c n b).length=n:=by simp [hdr]
theorem cW {c n b i:Nat} (h:i<n):(hdr c n b)[i]? = some (.own (i+b) 0 c 2):=by
 unfold hdr; rw [List.getElem?_map,List.getElem?_range h]; rfl
theorem bBk (c n b:Nat):hdr c (n+1) b=hdr c n b++[.own (n+b) 0 c 2]:=by simp [hdr,List.range_succ]
theorem cA (c:Nat) (M:List (List Int)) (m:Nat):(mB c M m).length=M.length+1:=by simp [mB]
def nwH (cols i:Nat):Nat→Option HO:=fun id =>
 if id=1 then some (.cells 155 [.d (.i .i64 0),.d (.i .i64 0),.nil]) else if id=2 then some (.cells 112 (hdr cols i 3)) else if 3≤id∧id<i+3 then some (.cells 69 (zr cols)) else none
set_option maxHeartbeats 8000000 in
set_option maxRecDepth 10000 in
theorem aYo (rows cols:Nat) (hr:rows≤1000) (hc:cols≤1000):oN Tryz.prog 140 [.i .i64 (rows:Int),.i .i64 (cols:Int)] (nwV rows cols) (mB cols (List.replicate rows (List.replicate cols 0))):=by
 refine lD (N:=22) aF Tryz.func140 rfl rfl rfl (by decide) (by kernel_rfl) (by kernel_rfl) (by simp) rfl ?_
 have m1:¬ (rows:Int)<0:=by omega
 have m2:¬ (cols:Int)<0:=by omega
 have hm3:32 * (cols:Int)≤281474976710656:=by omega
 have hm4:(cols:Int)≤9223372036854775807:=by omega
 simp [-map_map,-mapM_map,↓KW,m1,m2,aW]
 refine aU (fun i:Nat=>i≤rows) (fun i=>⟨iC [(0,.d (.i .i64 (rows:Int))),(1,.d (.i .i64 (cols:Int))),(4,.ptr 1 0),(5,.own 2 0 i 1),(6,.d (.i .i64 (i:Int)))],nwH cols i,i+3⟩) (fun i=>rows - i) 0 (Nat.zero_le _) ?_ ?_
 ·refine ⟨_,jH ?_ (fun id o' ho=>?_) (fun id hid=>?_) (by simp)⟩
  ·simp [-map_map,upd,aT,Γ0,nwH]
  ·simp only [nwH] at ho
   split at ho
   ·rename_i e; subst e
    injection ho with ho; subst ho
    exact ⟨_,rfl,by simp [-map_map,upd,aT,Γ0,]⟩
   ·split at ho
    ·rename_i e; subst e
     injection ho with ho; subst ho
     exact ⟨_,rfl,dV.2 ⟨rfl,trivial⟩⟩
    ·rw [if_neg (by omega)] at ho; cases ho
  ·simp only [nwH]
   rw [if_neg (by omega),if_neg (by omega),if_neg (by omega)]
 ·intro i hi
  have hH1:nwH cols i 1=some (.cells 155 [.d (.i .i64 0),.d (.i .i64 0),.nil]):=rfl
  have hH2:nwH cols i 2=some (.cells 112 (hdr cols i 3)):=rfl
  have hlen:(hdr cols i 3).length=i:=cB ..
  by_cases hgo:i<rows
  ·have q1:(i:Int)<rows:=by omega
   have hw:IntKind.i64.wrap ((i:Int)+1)=(i:Int)+1:=aS (by omega) (by omega)
   generalize hHg:nwH cols i=H at *
   generalize hcl:hdr cols i 3=cells at *
   have hb:(i+1) * 24≤140737488355328:=by omega
   have hb2:i+1≤maxLen:=aW (by omega)
   simp [-map_map,-mapM_map,↓KW,q1,hgo,hw,hm3,hm4,hH1,hH2,hlen,m1,m2,hb,hb2]
   have hn1:(nwH cols (i+1) 1).isSome=true:=rfl
   have hn2:(nwH cols (i+1) 2).isSome=true:=rfl
   have hnj:∀ j,j<i+1→(nwH cols (i+1) (j+3)).isSome=true:=fun j hj=>by
    unfold nwH; rw [if_neg (by omega),if_neg (by omega),if_pos (by omega)]; rfl
   refine aK (i+1) hgo (Nat.sub_lt_sub_left hgo (Nat.lt_succ_self _)) ⟨_,aMf (fun id=>if id=2 then i+5 else id) ?_ (fun id o' ho=>?_) (fun id id' h1 h2 e=>?_) (fun _=>rfl) (fun id hid=>?_) (by simp)⟩
   ·simp [-map_map,upd,aT,Γ0,hn1,hn2]
   ·simp only [nwH] at ho
    split at ho
    ·rename_i e; subst e
     injection ho with ho; subst ho
     refine ⟨.cells 155 [.d (.i .i64 0),.d (.i .i64 0),.nil],?_,by simp [-map_map,upd,aT,Γ0,]⟩
     rw [if_neg (by omega)]
     simp only
     rw [if_neg (by omega),if_neg (by omega),if_neg (by omega),if_neg (by omega),hH1]
     rfl
    ·split at ho
     ·rename_i e; subst e
      injection ho with ho; subst ho
      refine ⟨.cells 112 (hdr cols (i+1) 3),?_,dV.2 ⟨rfl,dZ.2 ⟨rfl,fun k x y h1 h2=>?_⟩⟩⟩
      ·show Option.map (dT [2]) (if i+5=i+3+1+1 then some (HO.cells 112 (cells++[AV.own (i+3) 0 cols 2])) else _)=_
       rw [if_pos (by omega),bBk,hcl]
       simp only [Option.map_some,dT,List.map_append,List.map_cons,List.map_nil]
       have e1:cells.map (eF [2])=cells:=by
        rw [← hcl]
        unfold hdr
        rw [List.map_map]
        apply List.map_congr_left
        intro j hj
        simp [eF]
       rw [e1]
       simp [eF]
      ·rw [h1] at h2; injection h2 with h2; subst h2
       have hk:k<i+1:=by have:=(List.getElem?_eq_some_iff.1 h1).1; rwa [cB] at this
       rw [cW hk] at h1; injection h1 with h1; subst h1
       exact ⟨by simp only; rw [if_neg (by omega)],rfl,rfl,rfl,hnj k hk⟩
     ·split at ho
      ·rename_i e2 e3
       injection ho with ho; subst ho
       refine ⟨.cells 69 (zr cols),?_,dV.2 ⟨rfl,bEw cols⟩⟩
       rw [if_neg e2]
       simp only
       rw [if_neg (by omega),if_neg e2,if_neg (by omega)]
       have ez:Option.map (dT [2]) (some (HO.cells 69 (zr cols)))=some (.cells 69 (zr cols)):=by
        simp only [Option.map_some,dT]
        congr 2
        unfold zr
        rw [List.map_flatten,List.map_replicate]; rfl
       by_cases e4:id=i+3
       ·rw [if_pos e4]; exact ez
       ·rw [if_neg e4,← hHg]
        unfold nwH
        rw [if_neg (by omega),if_neg (by omega),if_pos (by omega)]
        exact ez
      ·cases ho
   ·have k1:∀ id,(nwH cols (i+1) id).isSome=true→1≤id∧id<i+4:=fun id h=>by
     unfold nwH at h
     split at h
     ·omega
     ·split at h
      ·omega
      ·split at h
       ·omega
       ·cases h
    have b1:=k1 id h1
    have b2:=k1 id' h2
    have e':(if id=2 then i+5 else id)=(if id'=2 then i+5 else id'):=e
    split at e' <;> split at e' <;> omega
   ·simp only [nwH]
    rw [if_neg (by omega),if_neg (by omega),if_neg (by omega)]
  ·have q1:¬ (i:Int)<rows:=by omega
   have e:i=rows:=by omega
   subst e
   generalize hHg:nwH cols i=H at *
   simp [-map_map,-mapM_map,↓KW,q1,hH1,hH2]
   intro m hm0
   have hML:(mB cols (List.replicate i (List.replicate cols (0:Int))) m).length=i+1:=by simp [cA]
   have hin:∀ id,m≤id→id<m+(i+1)→(fA (nwV i cols) (mB cols (List.replicate i (List.replicate cols 0))) m).H id=(mB cols (List.replicate i (List.replicate cols 0)) m)[id - m]? := fun id h1 h2=>by
    simp only [fA,eS]
    rw [if_pos ⟨h1,by rw [hML]; exact h2⟩]
   have hout:∀ id,¬ (m≤id∧id<m+(i+1))→(fA (nwV i cols) (mB cols (List.replicate i (List.replicate cols 0))) m).H id=none:=fun id h=>by
    simp only [fA,eS]
    rw [if_neg (by rw [hML]; exact h)]
   have hsome:∀ id,((fA (nwV i cols) (mB cols (List.replicate i (List.replicate cols 0))) m).H id).isSome=true→m≤id∧id<m+(i+1):=fun id h=>by
    by_cases hr:m≤id∧id<m+(i+1)
    ·exact hr
    ·rw [hout id hr] at h; cases h
   have hS0:((fA (nwV i cols) (mB cols (List.replicate i (List.replicate cols 0))) m).H m).isSome=true:=by
    rw [hin m (Nat.le_refl _) (by omega),Nat.sub_self]; rfl
   have hSj:∀ j,j<i→(fA (nwV i cols) (mB cols (List.replicate i (List.replicate cols 0))) m).H (j+(m+1))=some (xV (List.replicate cols 0)):=fun j hj=>by
    rw [hin _ (by omega) (by omega),show j+(m+1) - m=j+1 by omega]
    simp only [mB,List.getElem?_cons_succ,List.map_replicate,List.getElem?_replicate,if_pos hj]
   refine ⟨fun id=>id - m+2,fun id hid=>hout id (by simp only [fA] at hid; rw [hML] at hid; omega),fun t=>?_,fun id o' ho=>?_,fun id id' h1 h2 e=>?_,fun h=>?_,fun h=>?_⟩
   ·show Sub _ _ _ _ (upd (fun _=>.any) 0 (nwV i cols m) t)
    by_cases e:t=0
    ·subst e
     simp only [cG,nwV]
     refine ⟨rfl,fun k c d h1 h2=>?_⟩
     rcases k with _ | _ | _ | k
     ·simp at h1 h2; subst h1; subst h2; exact (iU _ _).2 rfl
     ·simp at h1 h2; subst h1; subst h2; exact (iU _ _).2 rfl
     ·simp at h1 h2; subst h1; subst h2
      exact ⟨by simp,rfl,rfl,rfl,hS0⟩
     ·simp at h1
    ·rw [cU _ _ e]; exact lR _
   ·have hr:=hsome id (by rw [ho]; rfl)
    rw [hin id hr.1 hr.2] at ho
    simp only
    obtain ⟨j,rfl⟩:∃ j,id=m+j:=⟨id - m,by omega⟩
    rw [show m+j - m=j by omega] at ho ⊢
    rcases j with _ | j
    ·simp only [mB,List.getElem?_cons_zero,List.length_replicate] at ho
     injection ho with ho; subst ho
     refine ⟨.cells 112 (hdr cols i 3),by simp only [upd]; rw [if_neg (by omega)]; exact hH2,dV.2 ⟨rfl,dZ.2 ⟨by rw [cB,cB],fun k c d h1 h2=>?_⟩⟩⟩
     have hlt:k<i:=by have:=(List.getElem?_eq_some_iff.1 h1).1; rwa [cB] at this
     rw [cW hlt] at h1 h2
     injection h1 with h1; injection h2 with h2; subst h1; subst h2
     exact ⟨by show k+3=k+(m+1) - m+2; omega,rfl,rfl,rfl,by rw [hSj k hlt]; rfl⟩
    ·have hlt:j<i:=by omega
     simp only [mB,List.getElem?_cons_succ,List.map_replicate,List.getElem?_replicate,if_pos hlt] at ho
     injection ho with ho; subst ho
     refine ⟨.cells 69 (zr cols),?_,dV.2 ⟨rfl,aMc cols⟩⟩
     simp only [upd]
     rw [if_neg (by omega),← hHg]
     unfold nwH
     rw [if_neg (by omega),if_neg (by omega),if_pos (by omega)]
   ·have q1':=hsome id h1
    have q2':=hsome id' h2
    have e':id - m+2=id' - m+2:=e
    omega
   ·have:=hsome 0 h; omega
   ·simp only [fA] at h; omega
end Go.Am
end

section
set_option linter.unusedVariables false
set_option linter.unusedSimpArgs false
open Go Go.Am Go.Proofs
namespace Go.Am
/-! Matrices by their entries -/
structure Sh (R c:Nat) (M:List (List Int)):Prop where
 len:M.length=R
 row:∀ v∈M,v.length=c
def ent (M:List (List Int)) (r s:Nat):Int:=(M.getD r []).getD s 0
def mk (R c:Nat) (f:Nat→Nat→Int):List (List Int):=(List.range R).map fun r=>(List.range c).map fun s=>f r s
theorem Sh.get {R c r:Nat} {M:List (List Int)} (h:Sh R c M) (hr:r<R):∃ v,M[r]? = some v∧v.length=c∧∀ s,v.getD s 0=ent M r s:=by
 have hl:r<M.length:=by rw [h.len]; exact hr
 refine ⟨M[r],List.getElem?_eq_getElem hl,h.row _ (List.getElem_mem hl),fun s=>?_⟩
 unfold ent
 rw [List.getD_eq_getElem?_getD (l:=M),List.getElem?_eq_getElem hl]; rfl
theorem iA (R c:Nat) (f:Nat→Nat→Int):Sh R c (mk R c f):=⟨by simp [mk],fun v hv=>by obtain ⟨r,_,rfl⟩:=List.mem_map.1 hv; simp⟩
theorem oY {R c r s:Nat} (f:Nat→Nat→Int) (hr:r<R) (hs:s<c):ent (mk R c f) r s=f r s:=by
 unfold ent mk
 rw [List.getD_eq_getElem?_getD (l:=List.map _ _),List.getElem?_map,List.getElem?_range hr]
 simp only [Option.map_some,Option.getD_some]
 rw [List.getD_eq_getElem?_getD,List.getElem?_map,List.getElem?_range hs]; rfl
theorem bHt {R c:Nat} {M M':List (List Int)} (h:Sh R c M) (h':Sh R c M') (he:∀ r s,r<R→s<c→ent M r s=ent M' r s):M=M':=by
 refine List.ext_getElem (by rw [h.len,h'.len]) fun r h1 h2=>?_
 have hr:r<R:=by rw [← h.len]; exact h1
 refine List.ext_getElem (by rw [h.row _ (List.getElem_mem h1),h'.row _ (List.getElem_mem h2)]) fun s g1 g2=>?_
 have hs:s<c:=by rw [← h.row _ (List.getElem_mem h1)]; exact g1
 have:=he r s hr hs
 unfold ent at this
 rw [List.getD_eq_getElem?_getD (l:=M),List.getElem?_eq_getElem h1,List.getD_eq_getElem?_getD (l:=M'),List.getElem?_eq_getElem h2] at this
 simp only [Option.getD_some] at this
 rw [List.getD_eq_getElem?_getD,List.getElem?_eq_getElem g1,List.getD_eq_getElem?_getD,List.getElem?_eq_getElem g2] at this
 exact this
theorem vD {R c:Nat} {M:List (List Int)} (h:Sh R c M) {r s:Nat} (hr:¬ (r<R∧s<c)):ent M r s=0:=by
 unfold ent
 by_cases h1:r<R
 ·obtain ⟨v,hv,hl,_⟩:=h.get h1
  rw [List.getD_eq_getElem?_getD (l:=M),hv]
  simp only [Option.getD_some]
  rw [List.getD_eq_getElem?_getD,List.getElem?_eq_none (by omega)]; rfl
 ·rw [List.getD_eq_getElem?_getD (l:=M),List.getElem?_eq_none (by rw [h.len]; omega)]; rfl
theorem bMp {R c i:Nat} {M:List (List Int)} (h:Sh R c M) {v:List Int} (hv:v.length=c):Sh R c (M.set i v) :=
 ⟨by rw [List.length_set,h.len],fun w hw=>(List.mem_or_eq_of_mem_set hw).elim (h.row w) fun e=>e ▸ hv⟩
theorem kZ {R c i j:Nat} {M:List (List Int)} (h:Sh R c M) {v:List Int} {z:Int} (hi:i<R) (hj:j<c) (hv:M[i]? = some v) (r s:Nat):ent (M.set i (v.set j z)) r s=if r=i∧s=j then z else ent M r s:=by
 have hl:i<M.length:=by rw [h.len]; exact hi
 have hvl:v.length=c:=h.row v (List.mem_of_getElem? hv)
 unfold ent
 rw [List.getD_eq_getElem?_getD (l:=M.set i _),List.getElem?_set]
 by_cases e:r=i
 ·subst e
  rw [if_pos rfl,if_pos hl,List.getD_eq_getElem?_getD (l:=M),hv]
  simp only [Option.getD_some,true_and]
  rw [List.getD_eq_getElem?_getD,List.getElem?_set]
  by_cases e2:s=j
  ·subst e2; rw [if_pos rfl,if_pos (by omega),if_pos rfl]; rfl
  ·rw [if_neg (fun h=>e2 h.symm),if_neg e2,List.getD_eq_getElem?_getD]
 ·rw [if_neg (fun h=>e h.symm),if_neg (fun h=>e h.1),List.getD_eq_getElem?_getD (l:=M)]
theorem fR {R c i j:Nat} {M:List (List Int)} (h:Sh R c M) {v:List Int} {z:Int} (hv:M[i]? = some v):Sh R c (M.set i (v.set j z)) :=
 bMp h (by rw [List.length_set]; exact h.row v (List.mem_of_getElem? hv))
theorem pO {R c:Nat} {M:List (List Int)} (h:Sh R c M) {f:Nat→Nat→Int} (he:∀ r s,r<R→s<c→ent M r s=f r s):M=mk R c f :=
 bHt h (iA R c f) fun r s hr hs=>by rw [he r s hr hs,oY f hr hs]
/-! Heaps -/
def fS (b:Nat) (l:List HO):Nat→Option HO:=fun id=>if id<b then none else l[id - b]?
theorem kD {b i:Nat} {l:List HO}:fS b l (i+b)=l[i]? := by unfold fS; rw [if_neg (by omega),Nat.add_sub_cancel]
theorem uY {b:Nat} {l:List HO} {id:Nat} (h:l.length+b≤id):fS b l id=none:=by
 unfold fS; rw [if_neg (by omega),List.getElem?_eq_none (by omega)]
theorem jN {b:Nat} {l:List HO} {id:Nat} (h1:b≤id) (h2:id<l.length+b):(fS b l id).isSome=true:=by
 unfold fS; rw [if_neg (by omega),List.getElem?_eq_getElem (by omega)]; rfl
theorem aGu {b:Nat} {l:List HO} {id:Nat} (h:(fS b l id).isSome=true):b≤id∧id<l.length+b:=by
 unfold fS at h
 split at h
 ·cases h
 ·rcases Nat.lt_or_ge (id - b) l.length with h' | h'
  ·omega
  ·rw [List.getElem?_eq_none h'] at h; cases h
def rfC (a n:Nat):AV→Bool
 | .d _ | .nil=>true
 | .own id _ _ _=>decide (a≤id∧id<n)
 | .ptr id _=>decide (a≤id∧id<n)
 | _=>false
def rfO (a n:Nat):HO→Bool
 | .cells _ cs=>cs.all (rfC a n)
 | _=>false
theorem bGi {H H':Nat→Option HO} {ρ:Nat→Nat} {a n:Nat} {c:AV} (hc:rfC a n c=true) (h:∀ id,a≤id→id<n→id=ρ id∧(H' id).isSome=true):mU H H' ρ c c:=by
 unfold rfC at hc
 split at hc
 ·exact (iU _ _).2 rfl
 ·trivial
 ·simp only [decide_eq_true_eq] at hc
  obtain ⟨h1,h2⟩:=h _ hc.1 hc.2
  exact ⟨h1,rfl,rfl,rfl,h2⟩
 ·simp only [decide_eq_true_eq] at hc
  obtain ⟨h1,h2⟩:=h _ hc.1 hc.2
  exact ⟨h1,rfl,h2⟩
 ·cases hc
theorem yL {H H':Nat→Option HO} {ρ:Nat→Nat} {a n:Nat} {o:HO} (ho:rfO a n o=true) (h:∀ id,a≤id→id<n→id=ρ id∧(H' id).isSome=true):lJ H H' ρ o o:=by
 cases o with
 | cells e cs =>
  refine dV.2 ⟨rfl,dZ.2 ⟨rfl,fun k c d h1 h2=>?_⟩⟩
  rw [h1] at h2; injection h2 with h2; subst h2
  exact bGi (List.all_eq_true.1 ho c (List.mem_of_getElem? h1)) h
 | map k es=>cases ho
 | iter _ _ _=>cases ho
theorem bGh (a n:Nat) (v:List Int):rfO a n (xV v)=true:=by
 unfold rfO xV
 refine List.all_eq_true.2 fun c hc=>?_
 obtain ⟨x,_,rfl⟩:=List.mem_map.1 hc; rfl
theorem tC {a n c m:Nat} {M:List (List Int)} (h1:a≤m+1) (h2:m+1+M.length≤n):∀ o∈mB c M m,rfO a n o=true:=by
 intro o ho
 rcases List.mem_cons.1 ho with rfl | ho
 ·refine List.all_eq_true.2 fun x hx=>?_
  obtain ⟨j,hj,rfl⟩:=List.mem_map.1 hx
  have:=List.mem_range.1 hj
  simp only [rfC,decide_eq_true_eq]; omega
 ·obtain ⟨v,_,rfl⟩:=List.mem_map.1 ho
  exact bGh _ _ _
theorem zY {a n a' n':Nat} (h1:a'≤a) (h2:n≤n') {o:HO} (ho:rfO a n o=true):rfO a' n' o=true:=by
 cases o with
 | map _ _=>cases ho
 | iter _ _ _=>cases ho
 | cells e cs =>
  refine List.all_eq_true.2 fun c hc=>?_
  have:=List.all_eq_true.1 ho c hc
  cases c <;> first | rfl | (cases this; done) | (simp only [rfC,decide_eq_true_eq] at this ⊢; omega)
theorem aBh {H:Nat→Option HO} {b:Nat} {l:List HO} (h:∀ o∈l,rfO b (l.length+b) o=true) {id:Nat} {o:HO} (ho:fS b l id=some o):lJ H (fS b l) (fun i=>i) o o:=by
 refine yL (h o ?_) fun id h1 h2=>⟨rfl,jN h1 h2⟩
 unfold fS at ho
 split at ho
 ·cases ho
 ·exact List.mem_of_getElem? ho
theorem uX {b c m:Nat} {pre post:List HO} {M:List (List Int)} (hm:m=pre.length+b):fS b (pre++mB c M m++post) m=some (.cells 112 (hdr c M.length (m+1))):=by
 subst hm
 rw [kD,List.append_assoc,List.getElem?_append_right (Nat.le_refl _),Nat.sub_self]; rfl
theorem rW {b c m j:Nat} {pre post:List HO} {M:List (List Int)} {v:List Int} (hm:m=pre.length+b) (hv:M[j]? = some v):fS b (pre++mB c M m++post) (j+(m+1))=some (xV v):=by
 have hj:=(List.getElem?_eq_some_iff.1 hv).1
 rw [show j+(m+1)=(j+1+pre.length)+b by omega,kD,List.append_assoc,List.getElem?_append_right (by omega),Nat.add_sub_cancel,List.getElem?_append_left (by rw [cA]; omega)]
 simp only [mB,List.getElem?_cons_succ,List.getElem?_map,hv,Option.map_some]
theorem bJe {b c m i:Nat} {pre post:List HO} {M:List (List Int)} {v:List Int} (hm:m=pre.length+b) (hi:i<M.length) (id:Nat) :
  fS b (pre++mB c (M.set i v) m++post) id=if id=i+(m+1) then some (xV v) else fS b (pre++mB c M m++post) id:=by
 by_cases e:id=i+(m+1)
 ·rw [if_pos e,e]
  exact rW hm (List.getElem?_set_self hi)
 ·rw [if_neg e]
  unfold fS
  by_cases h0:id<b
  ·rw [if_pos h0,if_pos h0]
  ·rw [if_neg h0,if_neg h0]
   have hl:(mB c (M.set i v) m).length=(mB c M m).length:=by rw [cA,cA,List.length_set]
   rw [List.append_assoc,List.append_assoc]
   rcases Nat.lt_or_ge (id - b) pre.length with h1 | h1
   ·rw [List.getElem?_append_left h1,List.getElem?_append_left h1]
   ·rw [List.getElem?_append_right h1,List.getElem?_append_right h1]
    rcases Nat.lt_or_ge (id - b - pre.length) (mB c M m).length with h2 | h2
    ·rw [List.getElem?_append_left (by omega),List.getElem?_append_left h2]
     generalize hk:id - b - pre.length=k at *
     rcases k with _ | k
     ·simp [mB]
     ·simp only [mB,List.getElem?_cons_succ,List.getElem?_map]
      rw [List.getElem?_set_ne (by omega)]
    ·rw [List.getElem?_append_right (by omega),List.getElem?_append_right h2,hl]
theorem rX {c m:Nat} {pre post:List HO} {M:List (List Int)}:(pre++mB c M m++post).length=pre.length+M.length+1+post.length:=by
 rw [List.length_append,List.length_append,cA]; omega
theorem kA {v:List Int} {j:Nat} (z:Int) (hj:j<v.length):lay ((vcs v).map AV.d) (j * 2) [.d (.b (decide (z<0))),.d (aG (aV z.natAbs))]=(vcs (v.set j z)).map .d:=by
 rw [← aPs _ hj]
 simp [lay,tK]
theorem tR {b c m i:Nat} {pre post:List HO} {M:List (List Int)} {v:List Int} (hm:m=pre.length+b) (hi:i<M.length) :
  upd (fS b (pre++mB c M m++post)) (i+(m+1)) (some (xV v))=fS b (pre++mB c (M.set i v) m++post):=by
 funext id
 rw [bJe hm hi]
 rfl
theorem zB {b n:Nat} {pre l:List HO} (h:n=pre.length+b):eS (fS b pre) n l=fS b (pre++l):=by
 funext id
 subst h
 unfold eS fS
 by_cases h0:id<b
 ·rw [if_neg (by omega),if_pos h0,if_pos h0]
 ·rw [if_neg h0]
  by_cases h1:pre.length+b≤id∧id<pre.length+b+l.length
  ·rw [if_pos h1,if_neg h0,List.getElem?_append_right (by omega),show id - b - pre.length=id - (pre.length+b) by omega]
  ·rw [if_neg h1,if_neg h0]
   rcases Nat.lt_or_ge (id - b) pre.length with h2 | h2
   ·rw [List.getElem?_append_left h2]
   ·rw [List.getElem?_eq_none h2,List.getElem?_append_right h2,List.getElem?_eq_none (by omega)]
theorem oH {b n:Nat} {l:List HO} {p:HO} (h:n=l.length+b):upd (fS b l) n (some p)=fS b (l++[p]):=by
 rw [← zB h]
 funext id
 unfold upd eS
 simp only [List.length_singleton]
 by_cases e:id=n
 ·subst e; rw [if_pos rfl,if_pos (by omega),Nat.sub_self]; rfl
 ·rw [if_neg e,if_neg (by omega)]
theorem bJf (b:Nat):(fun _=>none:Nat→Option HO)=fS b []:=by
 funext id; unfold fS; split <;> rfl
theorem aDh {H:Nat→Option HO} {n:Nat} {a a':Option HO}:upd (upd H n a) n a'=upd H n a':=by
 funext id; unfold upd; split <;> rfl
theorem aRo (a:HO):upd (fun _=>none) 1 (some a)=fS 1 [a]:=by rw [bJf 1]; exact oH rfl
theorem aRn (a b:HO):upd (upd (fun _=>none) 1 (some a)) 2 (some b)=fS 1 [a,b]:=by rw [aRo]; exact oH rfl
theorem aUw (a b c:HO):upd (upd (upd (fun _=>none) 1 (some a)) 2 (some b)) 3 (some c)=fS 1 [a,b,c]:=by rw [aRn]; exact oH rfl
theorem aBi {b c m n:Nat} {pre:List HO} {M:List (List Int)} {p:HO} (hn:n=pre.length+b+(M.length+1)):fS b (pre++mB c M m++[p]) n=some p:=by
 subst hn
 rw [show pre.length+b+(M.length+1)=(pre.length+M.length+1)+b by omega,kD,List.getElem?_append_right (by rw [List.length_append,cA]; omega),List.length_append,cA,
  show pre.length+M.length+1 - (pre.length+(M.length+1))=0 by omega]; rfl
end Go.Am
end

section
set_option linter.unusedVariables false
set_option linter.unusedSimpArgs false
open List (map_map mapM_map)
open Go Go.Am Go.Proofs
namespace Go.Am
theorem aSn {u:Nat} (hu:u<18446744073709551616):∃ lo hi:Nat,Lim [lo,hi]∧val [lo,hi]=u∧IntKind.u32.wrap (u:Int)=lo∧jD .shr .u64 (u:Int) 32=some (.i .u64 hi)∧IntKind.u32.wrap (hi:Int)=hi:=by
 refine ⟨u % 4294967296,u / 4294967296,.cons (by omega) (.one (by omega)),by simp only [val]; omega,by rw [gS]; omega,?_,by rw [iX (by omega) (by omega)]⟩
 simp only [jD,IntKind.bits]
 rw [if_neg (by decide)]
 congr 2
 rw [show (2:Int) ^ (min (32:Int).toNat 64)=4294967296 from by decide,Int.fdiv_eq_ediv_of_nonneg _ (by decide)]
 omega
theorem zM {l:List Nat} {n:Nat} (hn:l.length=n+1):val l=val (l.take n)+4294967296 ^ n * l.getD n 0:=by
 rw [← cX,List.take_of_length_le (by omega)]
theorem aWh {l:List Nat} {n:Nat} (hn:l.length=n+2):val l=val (l.take n)+4294967296 ^ n * (l.getD (n+1) 0 * 4294967296+l.getD n 0):=by
 rw [zM hn,cX,Nat.pow_succ,Nat.mul_add,Nat.mul_assoc,Nat.mul_comm 4294967296]; omega
theorem aMg {l:List Nat} {n:Nat} (h:Lim l) (hn:l.length=n+1):val l<4294967296 ^ n * (l.getD n 0+1):=by
 have h1:=pX (h.take n)
 rw [List.length_take,Nat.min_eq_left (by omega)] at h1
 rw [zM hn,Nat.mul_add,Nat.mul_one]; omega
theorem bBz {p q e low t D R:Nat} (hD:D≤q * low) (he:e * low≤t) (hR:p * q * t≤R):p * e * D≤R:=by
 refine Nat.le_trans (Nat.mul_le_mul_left _ hD) (Nat.le_trans ?_ hR)
 have:p * e * (q * low)=p * q * (e * low):=by
  rw [Nat.mul_assoc,Nat.mul_assoc,Nat.mul_left_comm e]
 rw [this]; exact Nat.mul_le_mul_left _ he
theorem aUh {a b:List Nat} (hb:Lim b) (hc:mV a) (hla:Lim a) (h:val a≤val b):a.length≤b.length:=by
 have e1:=bCj hla hc
 rw [← e1]
 exact eO (Nat.lt_of_le_of_lt h (pX hb))
set_option maxRecDepth 10000 in
theorem aJc (r d:List Nat) (hr:Lim r) (hd:Lim d) (hcr:mV r) (hcd:mV d) (hd0:d≠[]) (hle:val d≤val r) (hl:r.length≤137438953472) :
  ∃ e:Nat,0<e∧e * val d≤val r∧Spec Tryz.prog 196 [aG r,aG d] (encZ e):=by
 have hlen:=aUh hr hcd hd hle
 have hdl:0<d.length:=List.length_pos_iff.2 hd0
 obtain ⟨m,hm⟩:∃ m,d.length=m+1:=⟨d.length - 1,by omega⟩
 obtain ⟨k,hk⟩:∃ k,r.length=k+(m+1):=⟨r.length - d.length,by omega⟩
 have gd:=getD_some (l:=d) (i:=m) (by omega)
 have gr:=getD_some (l:=r) (i:=k+m) (by omega)
 have hdm:=hd.getD m
 have hrm:=hr.getD (k+m)
 have hdv:=Nat.le_of_lt (aMg hd hm)
 have hrtop:0<r.getD (k+m) 0:=by
  have h1:r.getLast? = some (r.getD (k+m) 0):=by rw [List.getLast?_eq_getElem?,show r.length - 1=k+m by omega]; exact gr
  have h2:r.getLast? ≠ some 0:=hcr
  rw [h1] at h2
  rcases Nat.eq_zero_or_pos (r.getD (k+m) 0) with h | h
  ·rw [h] at h2; exact absurd rfl h2
  ·exact h
 generalize hdt:d.getD m 0=dt at *
 obtain ⟨low,hlow⟩:∃ low,dt+1=low:=⟨_,rfl⟩
 rw [hlow] at hdv
 have c1:IntKind.i64.wrap ((r.length:Int) - d.length)=(k:Int):=by rw [aS (by omega) (by omega)]; omega
 have c2:IntKind.i64.wrap ((d.length:Int) - 1)=(m:Int):=by rw [aS (by omega) (by omega)]; omega
 have c3:IntKind.u64.wrap (dt:Int)=dt:=bK (by omega) (by omega)
 have c4:IntKind.u64.wrap ((dt:Int)+1)=low:=by rw [bK (by omega) (by omega)]; omega
 have c5:IntKind.i64.wrap ((r.length:Int) - 1)=((k+m:Nat):Int):=by rw [aS (by omega) (by omega)]; omega
 have c6:¬ low=0:=by omega
 by_cases hk0:k=0
 ·subst hk0
  rw [Nat.zero_add] at gr hrm hrtop hk
  rw [show ((0+m:Nat):Int)=(m:Int) by omega] at c5
  have hv1:4294967296 ^ m * r.getD m 0≤val r:=by rw [zM hk]; omega
  generalize r.getD m 0=rt at *
  obtain ⟨e0,he0⟩:∃ e0,rt / low=e0:=⟨_,rfl⟩
  have he0':e0 * low≤rt:=by rw [← he0]; exact Nat.div_mul_le_self _ _
  have he0l:e0≤rt:=by rw [← he0]; exact Nat.div_le_self _ _
  have c7:IntKind.u64.wrap (rt:Int)=rt:=bK (by omega) (by omega)
  have c8:IntKind.u64.wrap ((rt:Int) / low)=e0:=by rw [← Int.natCast_ediv,he0,bK (by omega) (by omega)]
  obtain ⟨e,he⟩:∃ e:Nat,max 1 e0=e:=⟨_,rfl⟩
  have c9:IntKind.i64.wrap (e:Int)=e:=aS (by omega) (by omega)
  refine ⟨e,by omega,?_,?_⟩
  ·by_cases h1:e0≤1
   ·have:e=1:=by omega
    rw [this,Nat.one_mul]; exact hle
   ·have:e=e0:=by omega
    rw [this]
    have:=bBz (p:=1) hdv he0' (by rw [Nat.one_mul]; exact hv1)
    rwa [Nat.one_mul] at this
  ·refine aY (N:=66) aF Tryz.func196 rfl rfl rfl (by kernel_rfl) (by kernel_rfl) (by simp) ?_
   simp [-map_map,-mapM_map,↓KW,aG,c1,c2,c3,c4,c5,c6,c7,c8,gd,gr,hdt,c9]
   refine aA (ds:=[.i .i64 e]) ?_ (uC e (by omega) (by omega)) ?_
   ·have he2:(if (1:Int)<(e0:Int) then (e0:Int) else 1)=e:=by split <;> omega
    simp [-map_map,-mapM_map,↓KW,he2,c9]
   ·simp [-map_map,-mapM_map,↓KW,aG,encZ,encI]
 ·obtain ⟨j,hj⟩:∃ j,k=j+1:=⟨k - 1,by omega⟩
  have hk2:r.length=(j+m)+2:=by omega
  have gs:=getD_some (l:=r) (i:=j+m) (by omega)
  have hrs:=hr.getD (j+m)
  have hv2:=aWh hk2
  rw [show j+m+1=k+m by omega] at hv2
  have c10:IntKind.i64.wrap ((r.length:Int) - 2)=((j+m:Nat):Int):=by rw [aS (by omega) (by omega)]; omega
  have c11:IntKind.i64.wrap ((k:Int) - 1)=(j:Int):=by rw [aS (by omega) (by omega)]; omega
  obtain ⟨n1,hn1⟩:∃ n1,k+m=n1:=⟨_,rfl⟩
  obtain ⟨n2,hn2⟩:∃ n2,j+m=n2:=⟨_,rfl⟩
  rw [hn1] at gr hrm hrtop c5 hv2
  rw [hn2] at gs hrs c10 hv2
  generalize r.getD n1 0=rt at *
  generalize r.getD n2 0=rs at *
  have c12:IntKind.u64.wrap (rt:Int)=rt:=bK (by omega) (by omega)
  have c13:IntKind.u64.wrap (rs:Int)=rs:=bK (by omega) (by omega)
  have c14:IntKind.u64.wrap ((rt:Int) * 4294967296)=(rt:Int) * 4294967296:=bK (by omega) (by omega)
  obtain ⟨t,ht⟩:∃ t,rt * 4294967296+rs=t:=⟨_,rfl⟩
  rw [ht] at hv2
  have c15:IntKind.u64.wrap ((rt:Int) * 4294967296+rs)=t:=by rw [bK (by omega) (by omega)]; omega
  obtain ⟨e,he⟩:∃ e,t / low=e:=⟨_,rfl⟩
  have he1:e * low≤t:=by rw [← he]; exact Nat.div_mul_le_self _ _
  have hel:e≤t:=by rw [← he]; exact Nat.div_le_self _ _
  have he0:0<e:=by rw [← he]; exact Nat.div_pos (by omega) (by omega)
  have c16:IntKind.u64.wrap ((t:Int) / low)=e:=by rw [← Int.natCast_ediv,he,bK (by omega) (by omega)]
  obtain ⟨lo,hi,k1,k2,e3,e4,e5⟩:=aSn (u:=e) (by omega)
  have hpow:4294967296 ^ j * 4294967296 ^ m=4294967296 ^ n2:=by rw [← Nat.pow_add,hn2]
  refine ⟨4294967296 ^ j * e,Nat.mul_pos (Nat.pow_pos (by decide)) he0,bBz hdv he1 (by rw [hpow]; omega),?_⟩
  have hlim:Lim (List.replicate j 0++[lo,hi]):=(Lim.rep j).app k1
  have hval:val (List.replicate j 0++[lo,hi])=4294967296 ^ j * e:=by rw [lP,yH,List.length_replicate,k2,Nat.zero_add]
  have hlen2:(List.replicate j 0++[lo,hi]).length=j+2:=by simp
  have hm2:=fT (List.replicate j 0++[lo,hi]) false (by rw [hlen2]; omega)
  rw [dR hlim,hval,show sg false (4294967296 ^ j * e)=((4294967296 ^ j * e:Nat):Int) from rfl] at hm2
  have m1:(4:Int) * j≤281474976710656:=by omega
  have m2:(j:Int)≤9223372036854775807:=by omega
  have m3:(j+2) * 4≤140737488355328:=by omega
  have m4:j+2≤maxLen:=by unfold maxLen; omega
  have hrep:(List.map AV.d (lms (List.replicate j 0))).length=j:=by simp [kY]
  refine aY (N:=66) aF Tryz.func196 rfl rfl rfl (by kernel_rfl) (by kernel_rfl) (by simp) ?_
  generalize 4294967296 ^ j * e=res at *
  have hcells:List.map AV.d (lms (List.replicate j 0))++[AV.d (D.i .u32 (lo:Int)),AV.d (D.i .u32 (hi:Int))]=List.map AV.d (lms (List.replicate j 0++[lo,hi])):=by rw [fO,List.map_append]; rfl
  have hkk:((k:Int) == 0)=false:=by simp only [beq_eq_false_iff_ne,ne_eq]; omega
  simp [-map_map,-mapM_map,↓KW,aG,c1,c2,c3,c4,c5,c6,c10,c11,c12,c13,c14,c15,c16,gd,gr,gs,hdt,e3,e4,e5,hkk,m1,m2,m3,m4,hrep]
  rw [hcells]
  generalize List.replicate j 0++[lo,hi]=L at *
  refine aA (ds:=[aG L,.b false]) ?_ hm2 ?_
  ·simp [-map_map,-mapM_map,↓KW,aG,hlen2,fK hlen2,dP hlen2]
  ·simp [-map_map,-mapM_map,↓KW,aG,encZ,encI,hlen2,fK hlen2,dP hlen2]
end Go.Am
end

section
set_option linter.unusedVariables false
set_option linter.unusedSimpArgs false
open List (map_map mapM_map)
open Go Go.Am Go.Proofs
namespace Go.Am
theorem lT (x:Int) (hx:(aV x.natAbs).length≤549755813888):Spec Tryz.prog 99 [encZ x] (encZ (-x)):=by
 refine aY (N:=9) aF Tryz.func99 rfl rfl rfl (by kernel_rfl) (by kernel_rfl) (by simp) ?_
 have la:=cD x.natAbs
 have va:=cQ x.natAbs
 have sx:=gT x
 have ex:encZ x=.ag [.b (decide (x<0)),aG (aV x.natAbs)]:=rfl
 have hm:=fT (aV x.natAbs) (!decide (x<0)) (by omega)
 rw [dR la,va] at hm
 have e:sg (!decide (x<0)) x.natAbs=-x:=by
  unfold sg; by_cases h:x<0 <;> simp [h] <;> omega
 rw [e] at hm
 rw [ex]
 generalize aV x.natAbs=a at *
 generalize decide (x<0)=nx at *
 simp [-map_map,-mapM_map,↓KW,aG]
 refine aA (ds:=[aG a,.b (!nx)]) ?_ hm ?_
 ·cases nx <;> rfl
 ·simp [-map_map,-mapM_map,↓KW,aG,encZ,encI]
theorem aGc (x y:Int) (hx:(aV x.natAbs).length≤549755813888) (hy:(aV y.natAbs).length≤549755813888):Spec Tryz.prog 145 [encZ x,encZ y] (encZ (x - y)):=by
 refine aY (N:=9) aF Tryz.func145 rfl rfl rfl (by kernel_rfl) (by kernel_rfl) (by simp) ?_
 have h1:=lT y hy
 have h2:=oU x (-y) hx (by rw [Int.natAbs_neg]; exact hy)
 rw [← Int.sub_eq_add_neg] at h2
 simp [-map_map,-mapM_map,↓KW,encZ,encI,aG]
 refine aA (ds:=[encZ y]) (by rfl) h1 ?_
 simp [-map_map,-mapM_map,↓KW,encZ,encI,aG]
 refine aA (ds:=[encZ x,encZ (-y)]) ?_ h2 ?_
 ·simp [-map_map,-mapM_map,↓KW,encZ,encI,aG]
 ·simp [-map_map,-mapM_map,↓KW,encZ,encI,aG]
end Go.Am
end

section
set_option linter.unusedVariables false
set_option linter.unusedSimpArgs false
open List (map_map mapM_map)
open Go Go.Am Go.Proofs
namespace Go.Am
theorem aVa {x y c q r:Nat} (hc:0<c) (hy:0<y) (h:q * (y * c)+r=x * c) (hr:r<y * c):q=x / y∧r / c=x % y:=by
 have hq:x * c / (y * c)=q:=by
  have:=(Nat.div_mod_unique (Nat.mul_pos hy hc) (a:=x * c) (d:=q) (c:=r)).2 ⟨by rw [Nat.mul_comm (y * c)]; omega,hr⟩
  exact this.1
 rw [Nat.mul_div_mul_right _ _ hc] at hq
 refine ⟨hq.symm,?_⟩
 have h2:r=x % y * c:=by
  have h3:=Nat.div_add_mod x y
  rw [hq] at h3
  have h4:(y * q+x % y) * c=x * c:=by rw [h3]
  rw [Nat.add_mul] at h4
  have h5:y * q * c=q * (y * c):=by rw [Nat.mul_comm y,Nat.mul_assoc]
  omega
 rw [h2,Nat.mul_div_cancel _ hc]
theorem bCk {n:Nat} (h:0<n) (h2:n<4294967296):aV n=[n]:=by
 rw [gR (by omega),Nat.mod_eq_of_lt h2,Nat.div_eq_of_lt h2,cE]
theorem bCe {dt c:Nat} (htop:0<dt) (hs:dt * c<4294967296):∃ t,dt * c=t∧c≤t∧t<4294967296∧(t<2147483648→dt * (2 * c)<4294967296) :=
 ⟨_,rfl,Nat.le_mul_of_pos_left _ htop,hs,fun h=>by rw [Nat.mul_left_comm]; omega⟩
def zq (q:Nat):AV:=if q=0 then .nil else .d (aG (aV q))
theorem vG {x c n:Nat} (h1:(aV x).length≤n) (h2:c<4294967296):(aV (x * c)).length≤n+1 :=
 eO (by rw [Nat.pow_succ]; exact Nat.mul_lt_mul'' (fG h1) h2)
theorem bDz {x c X:Nat} (h:x+c=X) (h1:(aV (x:Int).natAbs).length≤549755813888) (h2:(aV (c:Int).natAbs).length≤549755813888):Spec Tryz.prog 77 [encZ (x:Int),encZ (c:Int)] (encZ (X:Int)):=by
 have:=oU (x:Int) (c:Int) h1 h2
 rwa [← Int.natCast_add,h] at this
theorem aWn {x c X:Nat} (h:x=X+c) (h1:(aV (x:Int).natAbs).length≤549755813888) (h2:(aV (c:Int).natAbs).length≤549755813888):Spec Tryz.prog 145 [encZ (x:Int),encZ (c:Int)] (encZ (X:Int)):=by
 have:=aGc (x:Int) (c:Int) h1 h2
 rwa [show (x:Int) - c=X by omega] at this
theorem bCh {q Y r X e E r':Nat} (hp:q * Y+r=X) (hE:e * Y=E) (hr:r=r'+E) (he:0<e) (hY:0<Y):(q+e) * Y+r'=X∧r'<r∧q+e≤X∧E≤X:=by
 have h1:(q+e) * Y+r'=X:=by rw [Nat.add_mul,hE]; omega
 have h2:0<E:=by rw [← hE]; exact Nat.mul_pos he hY
 have h3:q+e≤(q+e) * Y:=Nat.le_mul_of_pos_right _ hY
 exact ⟨h1,by omega,by omega,by omega⟩
theorem bAc {c:Nat} (h:c<4294967296):(aV (c:Int).natAbs).length≤1:=eO (by simpa using h)
theorem aAj {x c X:Nat} (h:x * c=X) (h1:(aV (x:Int).natAbs).length≤137438953472) (h2:(aV (c:Int).natAbs).length≤137438953472):Spec Tryz.prog 76 [encZ (x:Int),encZ (c:Int)] (encZ (X:Int)):=by
 have:=nD (x:Int) (c:Int) h1 h2
 rwa [← Int.natCast_mul,h] at this
theorem aZw (n:Nat) (hn:n<4294967296):Spec Tryz.prog 78 [aG [n],.b false] (encZ (n:Int)):=by
 have hm:=fT [n] false (by simp)
 rw [dR (.one hn)] at hm
 simpa [val,sg] using hm
set_option maxRecDepth 10000 in
theorem aTg (x y qq rr:Nat) (hqq:x / y=qq) (hrr:x % y=rr) (hy:0<y) (hlx:(aV x).length≤34359738368) (hly:(aV y).length≤34359738368):Spec Tryz.prog 185 [aG (aV x),aG (aV y)] (.tp [encZ (qq:Int),encZ (rr:Int)]):=by
 refine aY (N:=86) aF Tryz.func185 rfl rfl rfl (by kernel_rfl) (by kernel_rfl) (by simp) ?_
 have lx:=cD x
 have ly:=cD y
 have vx:=cQ x
 have vy:=cQ y
 have cy:=mR y
 have hne:aV y≠[]:=fun h=>by rw [fP] at h; omega
 have hyl:0<(aV y).length:=List.length_pos_iff.2 hne
 have hmx:∀ n:Nat,n<4294967296→Spec Tryz.prog 78 [aG [n],.b false] (encZ (n:Int)):=fun n hn=>by
  have hm:=fT [n] false (by simp)
  rw [dR (.one hn)] at hm
  simpa [val,sg] using hm
 by_cases h1:(aV y).length=1
 ·obtain ⟨d,hd⟩:=List.length_eq_one_iff.1 h1
  have hdl:d<4294967296:=ly d (by rw [hd]; simp)
  have hdv:d=y:=by rw [hd] at vy; simpa [val] using vy
  have hs:=aJa (aV x) d lx (by omega) hdl (by omega)
  obtain ⟨s1,s2,s3,_⟩:=aFw (a:=aV x) (d:=d) lx (by omega)
  have hm1:=fT (shQ (aV x) d) false (by omega)
  rw [dR s2,s3,vx,show sg false (x / d)=((x / d:Nat):Int) from rfl] at hm1
  have hm2:=hmx (val (aV x) % d) (by have:=Nat.mod_lt (val (aV x)) (show d > 0 by omega); omega)
  rw [hd]
  rw [vx,hdv,hrr] at hm2 hs
  rw [hdv,hqq] at hm1
  rw [hdv]
  generalize shQ (aV x) y=Q at *
  generalize aV x=a at *
  simp [-map_map,-mapM_map,↓KW,aG]
  refine aA (ds:=[aG a,.i .u32 y]) (by rfl) hs ?_
  simp [-map_map,-mapM_map,↓KW,aG]
  refine aA (ds:=[aG Q,.b false]) (by rfl) hm1 ?_
  simp [-map_map,-mapM_map,↓KW,aG]
  refine aA (ds:=[aG [rr],.b false]) ?_ hm2 ?_
  ·simp [-map_map,-mapM_map,↓KW,aG]
  simp [-map_map,-mapM_map,↓KW,aG,encZ,encI,mG]
 ·have hq1:(((aV y).length:Int) == 1)=false:=by simp only [beq_eq_false_iff_ne,ne_eq]; omega
  obtain ⟨m,hm⟩:∃ m,(aV y).length=m+1:=⟨(aV y).length - 1,by omega⟩
  have gd:=getD_some (l:=aV y) (i:=m) (by omega)
  have hdm:=ly.getD m
  have htop:0<(aV y).getD m 0:=by
   have h2:(aV y).getLast? ≠ some 0:=cy
   rw [List.getLast?_eq_getElem?,show (aV y).length - 1=m by omega,gd] at h2
   rcases Nat.eq_zero_or_pos ((aV y).getD m 0) with h | h
   ·rw [h] at h2; exact absurd rfl h2
   ·exact h
  generalize (aV y).getD m 0=dt at *
  have c2:IntKind.i64.wrap (((aV y).length:Int) - 1)=(m:Int):=by rw [aS (by omega) (by omega)]; omega
  have c3:IntKind.u64.wrap (dt:Int)=dt:=bK (by omega) (by omega)
  have hma:=fT (aV x) false (by omega)
  rw [dR lx,vx,show sg false x=(x:Int) from rfl] at hma
  have hmb:=fT (aV y) false (by omega)
  rw [dR ly,vy,show sg false y=(y:Int) from rfl] at hmb
  have hX:(aV (x:Int).natAbs).length≤34359738368:=hlx
  have hY:(aV (y:Int).natAbs).length≤34359738368:=hly
  generalize aV x=a at *
  generalize aV y=b at *
  clear hmx lx ly vx vy cy hne
  simp [-map_map,-mapM_map,↓KW,aG,hq1]
  refine aU (fun c:Nat=>0<c∧dt * c<4294967296)
   (fun c=>StL [(0,.d (aG a)),(1,.d (aG b)),(4,.ptr 1 0),(5,.ptr 2 0),(8,.d (.i .u32 (c:Int)))] none
    [.cells 69 [.d (.b false),.nil],.cells 69 [.d (.b false),.nil]]) (fun c=>4294967296 - c) 1 ⟨by decide,by omega⟩ ?_ ?_
  ·refine bC [1,2] (by simp) ?_ ?_ <;> simp [-map_map,upd,aT,Γ0,aG]
  ·intro c hs
   refine (bCe htop hs.2).elim fun t h5=>?_
   have hc0:=hs.1
   have ht:=h5.1
   have hcd:=h5.2.1
   have hs2:=h5.2.2.1
   have hdc:=h5.2.2.2
   have c4:IntKind.u64.wrap (c:Int)=c:=bK (by omega) (by omega)
   have c5:IntKind.u64.wrap ((dt:Int) * c)=t:=by rw [← Int.natCast_mul,ht,bK (by omega) (by omega)]
   by_cases hgo:t<2147483648
   ·have q1:(t:Int)<2147483648:=by omega
    have c6:IntKind.u32.wrap (2 * (c:Int))=2 * (c:Int):=iX (by omega) (by omega)
    simp [-map_map,-mapM_map,↓KW,aG,c2,c3,c4,c5,c6,gd,q1]
    refine aK (2 * c) ⟨by omega,hdc hgo⟩ ?_ (bC [1,2] (by simp) ?_ ?_)
    ·omega
    ·simp [-map_map,upd,aT,Γ0,aG]
    ·simp [-map_map,upd,aT,Γ0,aG]
   ·have q1:¬ (t:Int)<2147483648:=by omega
    have hc32:c<4294967296:=by omega
    have hmc:=aZw c hc32
    simp [-map_map,-mapM_map,↓KW,aG,c2,c3,c4,c5,gd,q1]
    refine aA (ds:=[aG [c],.b false]) ?_ hmc ?_
    ·simp [-map_map,-mapM_map,↓KW,aG]
    simp [-map_map,-mapM_map,↓KW,aG,encZ,encI]
    refine aA (ds:=[aG a,.b false]) (by rfl) hma ?_
    simp [-map_map,-mapM_map,↓KW,encZ,encI,aG]
    refine (⟨_,rfl⟩:∃ X,x * c=X).elim fun X hXe=>?_
    refine (⟨_,rfl⟩:∃ X,y * c=X).elim fun Y hYe=>?_
    have hC:=bAc hc32
    have hXl:(aV X).length≤34359738369:=by rw [← hXe]; exact vG hX hc32
    have hYl:(aV Y).length≤34359738369:=by rw [← hYe]; exact vG hY hc32
    have hY0:0<Y:=by rw [← hYe]; exact Nat.mul_pos hy hc0
    have hMx:=aAj (X:=X) hXe (by omega) (by omega) (x:=x) (c:=c)
    have hMy:=aAj (X:=Y) hYe (by omega) (by omega) (x:=y) (c:=c)
    refine aA (ds:=[encZ x,encZ c]) ?_ hMx ?_
    ·simp [-map_map,-mapM_map,↓KW,encZ,encI,aG]
    simp [-map_map,-mapM_map,↓KW,encZ,encI,aG]
    refine aA (ds:=[aG b,.b false]) (by rfl) hmb ?_
    simp [-map_map,-mapM_map,↓KW,encZ,encI,aG]
    refine aA (ds:=[encZ y,encZ c]) ?_ hMy ?_
    ·simp [-map_map,-mapM_map,↓KW,encZ,encI,aG]
    simp [-map_map,-mapM_map,↓KW,encZ,encI,aG]
    refine aU (fun p:Nat × Nat=>p.1 * Y+p.2=X)
     (fun p=>StL [(4,.ptr 1 0),(5,.ptr 2 0),(8,.d (.i .u32 (c:Int))),(10,.ptr 3 0),(11,.ptr 4 0),(12,.ptr 5 0)] none
      [.cells 69 [.d (.b false),.nil],.cells 69 [.d (.b false),.nil],.cells 69 [.d (.b false),.d (aG (aV p.2))],.cells 69 [.d (.b false),.d (aG (aV Y))],.cells 69 [.d (.b false),zq p.1]]) (fun p=>p.2) (0,X) (by simp) ?_ ?_
    ·refine bC [1,2,5,6,7] (by simp) ?_ ?_ <;> simp [-map_map,upd,aT,Γ0,aG,zq]
    ·intro p hp
     have hpX:p.2≤X:=by rw [← hp]; exact Nat.le_add_left _ _
     have hpl:=Nat.le_trans (dN hpX) hXl
     have hless:=yO (aV p.2) (aV Y) (cD _) (cD _) (by omega) (by omega)
     rw [jE] at hless
     simp [-map_map,-mapM_map,↓KW,aG]
     refine aA (ds:=[aG (aV p.2),aG (aV Y)]) (by rfl) hless ?_
     by_cases hgo:p.2<Y
     ·simp [-map_map,-mapM_map,↓KW,hgo]
      have hsh:=aJa (aV p.2) c (cD _) hc0 hc32 (by omega)
      have hsv:=aFw (cD p.2) hc0
      have hmd:=fT (shQ (aV p.2) c) false (by have:=hsv.1; omega)
      have hfin:=aVa hc0 hy (x:=x) (q:=p.1) (r:=p.2) (by rw [hYe,hXe]; exact hp) (by rw [hYe]; exact hgo)
      rw [dR hsv.2.1,hsv.2.2.1,cQ,hfin.2,hrr,show sg false rr=(rr:Int) from rfl] at hmd
      refine aA (ds:=[aG (aV p.2),.i .u32 c]) (by rfl) hsh ?_
      simp [-map_map,-mapM_map,↓KW,aG]
      refine aA (ds:=[aG (shQ (aV p.2) c),.b false]) (by rfl) hmd ?_
      have hq1:p.1=qq:=hfin.1.trans hqq
      rw [hq1]
      by_cases hq0:qq=0
      ·simp [-map_map,-mapM_map,↓KW,encZ,encI,aG,mG,zq,hq0,cE]
      ·simp [-map_map,-mapM_map,↓KW,encZ,encI,aG,mG,zq,hq0]
     ·simp [-map_map,-mapM_map,↓KW,hgo]
      refine (aJc (aV p.2) (aV Y) (cD _) (cD _) (mR _) (mR _) (fun h=>by rw [fP] at h; omega) (by rw [cQ,cQ]; omega) (by omega)).elim fun e he=>?_
      have he1:=he.2.1
      rw [cQ,cQ] at he1
      refine (⟨_,rfl⟩:∃ E,e * Y=E).elim fun E hE=>?_
      rw [hE] at he1
      refine (⟨_,rfl⟩:∃ F,p.2 - E=F).elim fun R' hR'=>?_
      have hR2:p.2=R'+E:=by omega
      have hst:=bCh hp hE hR2 he.1 hY0
      refine (⟨_,rfl⟩:∃ F,p.1+e=F).elim fun q' hq'=>?_
      rw [hq'] at hst
      have hel:(aV (e:Int).natAbs).length≤34359738369:=Nat.le_trans (dN (show e≤X by omega)) hXl
      have hqpl:(aV (p.1:Int).natAbs).length≤34359738369:=Nat.le_trans (dN (show p.1≤X by omega)) hXl
      have hEl:(aV (E:Int).natAbs).length≤34359738369:=Nat.le_trans (dN (show E≤X by omega)) hXl
      have hrl:(aV (p.2:Int).natAbs).length≤34359738369:=hpl
      have hYl2:(aV (Y:Int).natAbs).length≤34359738369:=hYl
      have hadd:=bDz hq' (by omega) (by omega)
      have hmul:=aAj hE (by omega) (by omega)
      have hsub:=aWn hR2 (by omega) (by omega)
      by_cases hq0:p.1=0
      ·have hz:zq p.1=.nil:=if_pos hq0
       refine aA (ds:=[aG (aV p.2),aG (aV Y)]) (by rfl) he.2.2 ?_
       simp [-map_map,-mapM_map,↓KW,aG,encZ,encI,hz]
       refine aA (ds:=[encZ p.1,encZ e]) ?_ hadd ?_
       ·simp [-map_map,-mapM_map,↓KW,encZ,encI,aG,hq0,cE]
       simp [-map_map,-mapM_map,↓KW,aG,encZ,encI]
       refine aA (ds:=[encZ e,encZ Y]) ?_ hmul ?_
       ·simp [-map_map,-mapM_map,↓KW,encZ,encI,aG]
       simp [-map_map,-mapM_map,↓KW,aG,encZ,encI]
       refine aA (ds:=[encZ p.2,encZ E]) ?_ hsub ?_
       ·simp [-map_map,-mapM_map,↓KW,encZ,encI,aG]
       simp [-map_map,-mapM_map,↓KW,aG,encZ,encI]
       have hz2:zq q'=.d (aG (aV q')):=if_neg (by have:=he.1; omega)
       refine aK (q',R') hst.1 hst.2.1 (bC [1,2,3,4,5] (by simp) ?_ ?_)
       ·simp [-map_map,upd,aT,Γ0,aG,hz2]
       ·simp [-map_map,upd,aT,Γ0,aG,hz2]
      ·have hz:zq p.1=.d (aG (aV p.1)):=if_neg hq0
       refine aA (ds:=[aG (aV p.2),aG (aV Y)]) (by rfl) he.2.2 ?_
       simp [-map_map,-mapM_map,↓KW,aG,encZ,encI,hz]
       refine aA (ds:=[encZ p.1,encZ e]) ?_ hadd ?_
       ·simp [-map_map,-mapM_map,↓KW,encZ,encI,aG,hq0,cE]
       simp [-map_map,-mapM_map,↓KW,aG,encZ,encI]
       refine aA (ds:=[encZ e,encZ Y]) ?_ hmul ?_
       ·simp [-map_map,-mapM_map,↓KW,encZ,encI,aG]
       simp [-map_map,-mapM_map,↓KW,aG,encZ,encI]
       refine aA (ds:=[encZ p.2,encZ E]) ?_ hsub ?_
       ·simp [-map_map,-mapM_map,↓KW,encZ,encI,aG]
       simp [-map_map,-mapM_map,↓KW,aG,encZ,encI]
       have hz2:zq q'=.d (aG (aV q')):=if_neg (by have:=he.1; omega)
       refine aK (q',R') hst.1 hst.2.1 (bC [1,2,3,4,5] (by simp) ?_ ?_)
       ·simp [-map_map,upd,aT,Γ0,aG,hz2]
       ·simp [-map_map,upd,aT,Γ0,aG,hz2]
end Go.Am
end
