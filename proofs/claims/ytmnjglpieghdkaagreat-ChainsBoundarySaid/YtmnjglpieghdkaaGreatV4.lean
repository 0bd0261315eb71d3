/- Chains: the program's Make, Add, Valid. No condition. -/
import Derived.Test.YtmnjglpieghdkaaGreatV3
import Derived.Test.YtmnjglpieghdkaaGreatRows
import Derived.Shelf.SlIterI.Nil
import Derived.Shelf.SortM.Plain
import Derived.Shelf.SortM.SortNone
import Derived.Ground.GgzProg
import Derived.Ground.SlgmProg
import Derived.Test.YtmnjglpieghdkaaGreatProg
import Derived.Recover
import Derived.ProofKit
import Derived.OpenShut
section
set_option linter.unusedVariables false
set_option linter.unusedSimpArgs false
namespace Go.Am
@[simp] theorem tsz_2 : tsz Go.Proofs.Tryz.prog 2 = some 1 := by kernel_rfl
@[simp] theorem tby_2 : tby Go.Proofs.Tryz.prog 2 = some 8 := by kernel_rfl
@[simp] theorem tz_2 : tz Go.Proofs.Tryz.prog 2 = some (.int .i64 0) := by kernel_rfl
@[simp] theorem tagg_2 : tagg Go.Proofs.Tryz.prog 2 = some false := by kernel_rfl
@[simp] theorem tel_2 : tel Go.Proofs.Tryz.prog 2 = none := by kernel_rfl
@[simp] theorem tbool_2 : tbool Go.Proofs.Tryz.prog 2 = false := by kernel_rfl
@[simp] theorem tund_2 : (Go.Program.underlying Go.Proofs.Tryz.prog 2).isSome = true := by kernel_rfl
@[simp] theorem tint_2 : tint Go.Proofs.Tryz.prog 2 = some .i64 := by kernel_rfl
@[simp] theorem tsz_3 : tsz Go.Proofs.Tryz.prog 3 = some 1 := by kernel_rfl
@[simp] theorem tby_3 : tby Go.Proofs.Tryz.prog 3 = some 8 := by kernel_rfl
@[simp] theorem tz_3 : tz Go.Proofs.Tryz.prog 3 = some (.int .i64 0) := by kernel_rfl
@[simp] theorem tagg_3 : tagg Go.Proofs.Tryz.prog 3 = some false := by kernel_rfl
@[simp] theorem tel_3 : tel Go.Proofs.Tryz.prog 3 = none := by kernel_rfl
@[simp] theorem tbool_3 : tbool Go.Proofs.Tryz.prog 3 = false := by kernel_rfl
@[simp] theorem tund_3 : (Go.Program.underlying Go.Proofs.Tryz.prog 3).isSome = true := by kernel_rfl
@[simp] theorem tint_3 : tint Go.Proofs.Tryz.prog 3 = some .i64 := by kernel_rfl
@[simp] theorem tsz_4 : tsz Go.Proofs.Tryz.prog 4 = some 1 := by kernel_rfl
@[simp] theorem tby_4 : tby Go.Proofs.Tryz.prog 4 = some 1 := by kernel_rfl
@[simp] theorem tz_4 : tz Go.Proofs.Tryz.prog 4 = some (.bool false) := by kernel_rfl
@[simp] theorem tagg_4 : tagg Go.Proofs.Tryz.prog 4 = some false := by kernel_rfl
@[simp] theorem tel_4 : tel Go.Proofs.Tryz.prog 4 = none := by kernel_rfl
@[simp] theorem tbool_4 : tbool Go.Proofs.Tryz.prog 4 = true := by kernel_rfl
@[simp] theorem tund_4 : (Go.Program.underlying Go.Proofs.Tryz.prog 4).isSome = true := by kernel_rfl
@[simp] theorem tsz_5 : tsz Go.Proofs.Tryz.prog 5 = some 1 := by kernel_rfl
@[simp] theorem tby_5 : tby Go.Proofs.Tryz.prog 5 = some 1 := by kernel_rfl
@[simp] theorem tz_5 : tz Go.Proofs.Tryz.prog 5 = some (.int .u8 0) := by kernel_rfl
@[simp] theorem tagg_5 : tagg Go.Proofs.Tryz.prog 5 = some false := by kernel_rfl
@[simp] theorem tel_5 : tel Go.Proofs.Tryz.prog 5 = none := by kernel_rfl
@[simp] theorem tbool_5 : tbool Go.Proofs.Tryz.prog 5 = false := by kernel_rfl
@[simp] theorem tund_5 : (Go.Program.underlying Go.Proofs.Tryz.prog 5).isSome = true := by kernel_rfl
@[simp] theorem tint_5 : tint Go.Proofs.Tryz.prog 5 = some .u8 := by kernel_rfl
@[simp] theorem tsz_6 : tsz Go.Proofs.Tryz.prog 6 = some 1 := by kernel_rfl
@[simp] theorem tby_6 : tby Go.Proofs.Tryz.prog 6 = some 1 := by kernel_rfl
@[simp] theorem tz_6 : tz Go.Proofs.Tryz.prog 6 = some (.int .u8 0) := by kernel_rfl
@[simp] theorem tagg_6 : tagg Go.Proofs.Tryz.prog 6 = some false := by kernel_rfl
@[simp] theorem tel_6 : tel Go.Proofs.Tryz.prog 6 = none := by kernel_rfl
@[simp] theorem tbool_6 : tbool Go.Proofs.Tryz.prog 6 = false := by kernel_rfl
@[simp] theorem tund_6 : (Go.Program.underlying Go.Proofs.Tryz.prog 6).isSome = true := by kernel_rfl
@[simp] theorem tint_6 : tint Go.Proofs.Tryz.prog 6 = some .u8 := by kernel_rfl
@[simp] theorem tsz_7 : tsz Go.Proofs.Tryz.prog 7 = some 4 := by kernel_rfl
@[simp] theorem tby_7 : tby Go.Proofs.Tryz.prog 7 = some 24 := by kernel_rfl
@[simp] theorem tz_7 : tz Go.Proofs.Tryz.prog 7 = some (.agg #[.int .i64 0, .int .i64 0, .bool false, .int .u8 0]) := by kernel_rfl
@[simp] theorem tagg_7 : tagg Go.Proofs.Tryz.prog 7 = some true := by kernel_rfl
@[simp] theorem tel_7 : tel Go.Proofs.Tryz.prog 7 = none := by kernel_rfl
@[simp] theorem tbool_7 : tbool Go.Proofs.Tryz.prog 7 = false := by kernel_rfl
@[simp] theorem tund_7 : (Go.Program.underlying Go.Proofs.Tryz.prog 7).isSome = true := by kernel_rfl
@[simp] theorem flds_7 : flds Go.Proofs.Tryz.prog 7 = some [(0, 1), (1, 1), (2, 1), (3, 1)] := by kernel_rfl
@[simp] theorem tsz_8 : tsz Go.Proofs.Tryz.prog 8 = some 4 := by kernel_rfl
@[simp] theorem tby_8 : tby Go.Proofs.Tryz.prog 8 = some 24 := by kernel_rfl
@[simp] theorem tz_8 : tz Go.Proofs.Tryz.prog 8 = some (.agg #[.int .i64 0, .int .i64 0, .bool false, .int .u8 0]) := by kernel_rfl
@[simp] theorem tagg_8 : tagg Go.Proofs.Tryz.prog 8 = some true := by kernel_rfl
@[simp] theorem tel_8 : tel Go.Proofs.Tryz.prog 8 = none := by kernel_rfl
@[simp] theorem tbool_8 : tbool Go.Proofs.Tryz.prog 8 = false := by kernel_rfl
@[simp] theorem tund_8 : (Go.Program.underlying Go.Proofs.Tryz.prog 8).isSome = true := by kernel_rfl
@[simp] theorem flds_8 : flds Go.Proofs.Tryz.prog 8 = some [(0, 1), (1, 1), (2, 1), (3, 1)] := by kernel_rfl
@[simp] theorem tsz_12 : tsz Go.Proofs.Tryz.prog 12 = some 1 := by kernel_rfl
@[simp] theorem tby_12 : tby Go.Proofs.Tryz.prog 12 = some 8 := by kernel_rfl
@[simp] theorem tz_12 : tz Go.Proofs.Tryz.prog 12 = some (.int .u64 0) := by kernel_rfl
@[simp] theorem tagg_12 : tagg Go.Proofs.Tryz.prog 12 = some false := by kernel_rfl
@[simp] theorem tel_12 : tel Go.Proofs.Tryz.prog 12 = none := by kernel_rfl
@[simp] theorem tbool_12 : tbool Go.Proofs.Tryz.prog 12 = false := by kernel_rfl
@[simp] theorem tund_12 : (Go.Program.underlying Go.Proofs.Tryz.prog 12).isSome = true := by kernel_rfl
@[simp] theorem tint_12 : tint Go.Proofs.Tryz.prog 12 = some .u64 := by kernel_rfl
@[simp] theorem tsz_21 : tsz Go.Proofs.Tryz.prog 21 = some 1 := by kernel_rfl
@[simp] theorem tby_21 : tby Go.Proofs.Tryz.prog 21 = some 4 := by kernel_rfl
@[simp] theorem tz_21 : tz Go.Proofs.Tryz.prog 21 = some (.int .i32 0) := by kernel_rfl
@[simp] theorem tagg_21 : tagg Go.Proofs.Tryz.prog 21 = some false := by kernel_rfl
@[simp] theorem tel_21 : tel Go.Proofs.Tryz.prog 21 = none := by kernel_rfl
@[simp] theorem tbool_21 : tbool Go.Proofs.Tryz.prog 21 = false := by kernel_rfl
@[simp] theorem tund_21 : (Go.Program.underlying Go.Proofs.Tryz.prog 21).isSome = true := by kernel_rfl
@[simp] theorem tint_21 : tint Go.Proofs.Tryz.prog 21 = some .i32 := by kernel_rfl
@[simp] theorem tsz_22 : tsz Go.Proofs.Tryz.prog 22 = some 1 := by kernel_rfl
@[simp] theorem tby_22 : tby Go.Proofs.Tryz.prog 22 = some 24 := by kernel_rfl
@[simp] theorem tz_22 : tz Go.Proofs.Tryz.prog 22 = some (.slice none 0 0) := by kernel_rfl
@[simp] theorem tagg_22 : tagg Go.Proofs.Tryz.prog 22 = some false := by kernel_rfl
@[simp] theorem tel_22 : tel Go.Proofs.Tryz.prog 22 = some 78 := by kernel_rfl
@[simp] theorem tbool_22 : tbool Go.Proofs.Tryz.prog 22 = false := by kernel_rfl
@[simp] theorem tund_22 : (Go.Program.underlying Go.Proofs.Tryz.prog 22).isSome = true := by kernel_rfl
@[simp] theorem tsz_23 : tsz Go.Proofs.Tryz.prog 23 = some 2 := by kernel_rfl
@[simp] theorem tby_23 : tby Go.Proofs.Tryz.prog 23 = some 32 := by kernel_rfl
@[simp] theorem tz_23 : tz Go.Proofs.Tryz.prog 23 = some (.agg #[.int .u8 0, .slice none 0 0]) := by kernel_rfl
@[simp] theorem tagg_23 : tagg Go.Proofs.Tryz.prog 23 = some true := by kernel_rfl
@[simp] theorem tel_23 : tel Go.Proofs.Tryz.prog 23 = none := by kernel_rfl
@[simp] theorem tbool_23 : tbool Go.Proofs.Tryz.prog 23 = false := by kernel_rfl
@[simp] theorem tund_23 : (Go.Program.underlying Go.Proofs.Tryz.prog 23).isSome = true := by kernel_rfl
@[simp] theorem flds_23 : flds Go.Proofs.Tryz.prog 23 = some [(0, 1), (1, 1)] := by kernel_rfl
@[simp] theorem tsz_24 : tsz Go.Proofs.Tryz.prog 24 = some 2 := by kernel_rfl
@[simp] theorem tby_24 : tby Go.Proofs.Tryz.prog 24 = some 32 := by kernel_rfl
@[simp] theorem tz_24 : tz Go.Proofs.Tryz.prog 24 = some (.agg #[.int .u8 0, .slice none 0 0]) := by kernel_rfl
@[simp] theorem tagg_24 : tagg Go.Proofs.Tryz.prog 24 = some true := by kernel_rfl
@[simp] theorem tel_24 : tel Go.Proofs.Tryz.prog 24 = none := by kernel_rfl
@[simp] theorem tbool_24 : tbool Go.Proofs.Tryz.prog 24 = false := by kernel_rfl
@[simp] theorem tund_24 : (Go.Program.underlying Go.Proofs.Tryz.prog 24).isSome = true := by kernel_rfl
@[simp] theorem flds_24 : flds Go.Proofs.Tryz.prog 24 = some [(0, 1), (1, 1)] := by kernel_rfl
@[simp] theorem tsz_25 : tsz Go.Proofs.Tryz.prog 25 = some 1 := by kernel_rfl
@[simp] theorem tby_25 : tby Go.Proofs.Tryz.prog 25 = some 24 := by kernel_rfl
@[simp] theorem tz_25 : tz Go.Proofs.Tryz.prog 25 = some (.slice none 0 0) := by kernel_rfl
@[simp] theorem tagg_25 : tagg Go.Proofs.Tryz.prog 25 = some false := by kernel_rfl
@[simp] theorem tel_25 : tel Go.Proofs.Tryz.prog 25 = some 67 := by kernel_rfl
@[simp] theorem tbool_25 : tbool Go.Proofs.Tryz.prog 25 = false := by kernel_rfl
@[simp] theorem tund_25 : (Go.Program.underlying Go.Proofs.Tryz.prog 25).isSome = true := by kernel_rfl
@[simp] theorem tsz_26 : tsz Go.Proofs.Tryz.prog 26 = some 1 := by kernel_rfl
@[simp] theorem tby_26 : tby Go.Proofs.Tryz.prog 26 = some 1 := by kernel_rfl
@[simp] theorem tz_26 : tz Go.Proofs.Tryz.prog 26 = some (.int .i8 0) := by kernel_rfl
@[simp] theorem tagg_26 : tagg Go.Proofs.Tryz.prog 26 = some false := by kernel_rfl
@[simp] theorem tel_26 : tel Go.Proofs.Tryz.prog 26 = none := by kernel_rfl
@[simp] theorem tbool_26 : tbool Go.Proofs.Tryz.prog 26 = false := by kernel_rfl
@[simp] theorem tund_26 : (Go.Program.underlying Go.Proofs.Tryz.prog 26).isSome = true := by kernel_rfl
@[simp] theorem tint_26 : tint Go.Proofs.Tryz.prog 26 = some .i8 := by kernel_rfl
@[simp] theorem tsz_28 : tsz Go.Proofs.Tryz.prog 28 = some 1 := by kernel_rfl
@[simp] theorem tby_28 : tby Go.Proofs.Tryz.prog 28 = some 24 := by kernel_rfl
@[simp] theorem tz_28 : tz Go.Proofs.Tryz.prog 28 = some (.slice none 0 0) := by kernel_rfl
@[simp] theorem tagg_28 : tagg Go.Proofs.Tryz.prog 28 = some false := by kernel_rfl
@[simp] theorem tel_28 : tel Go.Proofs.Tryz.prog 28 = some 63 := by kernel_rfl
@[simp] theorem tbool_28 : tbool Go.Proofs.Tryz.prog 28 = false := by kernel_rfl
@[simp] theorem tund_28 : (Go.Program.underlying Go.Proofs.Tryz.prog 28).isSome = true := by kernel_rfl
@[simp] theorem tsz_29 : tsz Go.Proofs.Tryz.prog 29 = some 1 := by kernel_rfl
@[simp] theorem tby_29 : tby Go.Proofs.Tryz.prog 29 = some 24 := by kernel_rfl
@[simp] theorem tz_29 : tz Go.Proofs.Tryz.prog 29 = some (.slice none 0 0) := by kernel_rfl
@[simp] theorem tagg_29 : tagg Go.Proofs.Tryz.prog 29 = some false := by kernel_rfl
@[simp] theorem tel_29 : tel Go.Proofs.Tryz.prog 29 = some 63 := by kernel_rfl
@[simp] theorem tbool_29 : tbool Go.Proofs.Tryz.prog 29 = false := by kernel_rfl
@[simp] theorem tund_29 : (Go.Program.underlying Go.Proofs.Tryz.prog 29).isSome = true := by kernel_rfl
@[simp] theorem tsz_31 : tsz Go.Proofs.Tryz.prog 31 = some 1 := by kernel_rfl
@[simp] theorem tby_31 : tby Go.Proofs.Tryz.prog 31 = some 24 := by kernel_rfl
@[simp] theorem tz_31 : tz Go.Proofs.Tryz.prog 31 = some (.slice none 0 0) := by kernel_rfl
@[simp] theorem tagg_31 : tagg Go.Proofs.Tryz.prog 31 = some false := by kernel_rfl
@[simp] theorem tel_31 : tel Go.Proofs.Tryz.prog 31 = some 65 := by kernel_rfl
@[simp] theorem tbool_31 : tbool Go.Proofs.Tryz.prog 31 = false := by kernel_rfl
@[simp] theorem tund_31 : (Go.Program.underlying Go.Proofs.Tryz.prog 31).isSome = true := by kernel_rfl
@[simp] theorem tsz_32 : tsz Go.Proofs.Tryz.prog 32 = some 1 := by kernel_rfl
@[simp] theorem tby_32 : tby Go.Proofs.Tryz.prog 32 = some 24 := by kernel_rfl
@[simp] theorem tz_32 : tz Go.Proofs.Tryz.prog 32 = some (.slice none 0 0) := by kernel_rfl
@[simp] theorem tagg_32 : tagg Go.Proofs.Tryz.prog 32 = some false := by kernel_rfl
@[simp] theorem tel_32 : tel Go.Proofs.Tryz.prog 32 = some 65 := by kernel_rfl
@[simp] theorem tbool_32 : tbool Go.Proofs.Tryz.prog 32 = false := by kernel_rfl
@[simp] theorem tund_32 : (Go.Program.underlying Go.Proofs.Tryz.prog 32).isSome = true := by kernel_rfl
@[simp] theorem tsz_35 : tsz Go.Proofs.Tryz.prog 35 = some 1 := by kernel_rfl
@[simp] theorem tby_35 : tby Go.Proofs.Tryz.prog 35 = some 8 := by kernel_rfl
@[simp] theorem tz_35 : tz Go.Proofs.Tryz.prog 35 = some (.int .i64 0) := by kernel_rfl
@[simp] theorem tagg_35 : tagg Go.Proofs.Tryz.prog 35 = some false := by kernel_rfl
@[simp] theorem tel_35 : tel Go.Proofs.Tryz.prog 35 = none := by kernel_rfl
@[simp] theorem tbool_35 : tbool Go.Proofs.Tryz.prog 35 = false := by kernel_rfl
@[simp] theorem tund_35 : (Go.Program.underlying Go.Proofs.Tryz.prog 35).isSome = true := by kernel_rfl
@[simp] theorem tint_35 : tint Go.Proofs.Tryz.prog 35 = some .i64 := by kernel_rfl
@[simp] theorem tsz_40 : tsz Go.Proofs.Tryz.prog 40 = some 1 := by kernel_rfl
@[simp] theorem tby_40 : tby Go.Proofs.Tryz.prog 40 = some 24 := by kernel_rfl
@[simp] theorem tz_40 : tz Go.Proofs.Tryz.prog 40 = some (.slice none 0 0) := by kernel_rfl
@[simp] theorem tagg_40 : tagg Go.Proofs.Tryz.prog 40 = some false := by kernel_rfl
@[simp] theorem tel_40 : tel Go.Proofs.Tryz.prog 40 = some 51 := by kernel_rfl
@[simp] theorem tbool_40 : tbool Go.Proofs.Tryz.prog 40 = false := by kernel_rfl
@[simp] theorem tund_40 : (Go.Program.underlying Go.Proofs.Tryz.prog 40).isSome = true := by kernel_rfl
@[simp] theorem tsz_41 : tsz Go.Proofs.Tryz.prog 41 = some 1 := by kernel_rfl
@[simp] theorem tby_41 : tby Go.Proofs.Tryz.prog 41 = some 24 := by kernel_rfl
@[simp] theorem tz_41 : tz Go.Proofs.Tryz.prog 41 = some (.slice none 0 0) := by kernel_rfl
@[simp] theorem tagg_41 : tagg Go.Proofs.Tryz.prog 41 = some false := by kernel_rfl
@[simp] theorem tel_41 : tel Go.Proofs.Tryz.prog 41 = some 51 := by kernel_rfl
@[simp] theorem tbool_41 : tbool Go.Proofs.Tryz.prog 41 = false := by kernel_rfl
@[simp] theorem tund_41 : (Go.Program.underlying Go.Proofs.Tryz.prog 41).isSome = true := by kernel_rfl
@[simp] theorem tsz_48 : tsz Go.Proofs.Tryz.prog 48 = some 1 := by kernel_rfl
@[simp] theorem tby_48 : tby Go.Proofs.Tryz.prog 48 = some 24 := by kernel_rfl
@[simp] theorem tz_48 : tz Go.Proofs.Tryz.prog 48 = some (.slice none 0 0) := by kernel_rfl
@[simp] theorem tagg_48 : tagg Go.Proofs.Tryz.prog 48 = some false := by kernel_rfl
@[simp] theorem tel_48 : tel Go.Proofs.Tryz.prog 48 = some 26 := by kernel_rfl
@[simp] theorem tbool_48 : tbool Go.Proofs.Tryz.prog 48 = false := by kernel_rfl
@[simp] theorem tund_48 : (Go.Program.underlying Go.Proofs.Tryz.prog 48).isSome = true := by kernel_rfl
@[simp] theorem tsz_49 : tsz Go.Proofs.Tryz.prog 49 = some 1 := by kernel_rfl
@[simp] theorem tby_49 : tby Go.Proofs.Tryz.prog 49 = some 24 := by kernel_rfl
@[simp] theorem tz_49 : tz Go.Proofs.Tryz.prog 49 = some (.slice none 0 0) := by kernel_rfl
@[simp] theorem tagg_49 : tagg Go.Proofs.Tryz.prog 49 = some false := by kernel_rfl
@[simp] theorem tel_49 : tel Go.Proofs.Tryz.prog 49 = some 92 := by kernel_rfl
@[simp] theorem tbool_49 : tbool Go.Proofs.Tryz.prog 49 = false := by kernel_rfl
@[simp] theorem tund_49 : (Go.Program.underlying Go.Proofs.Tryz.prog 49).isSome = true := by kernel_rfl
@[simp] theorem tsz_50 : tsz Go.Proofs.Tryz.prog 50 = some 2 := by kernel_rfl
@[simp] theorem tby_50 : tby Go.Proofs.Tryz.prog 50 = some 32 := by kernel_rfl
@[simp] theorem tz_50 : tz Go.Proofs.Tryz.prog 50 = some (.agg #[.bool false, .slice none 0 0]) := by kernel_rfl
@[simp] theorem tagg_50 : tagg Go.Proofs.Tryz.prog 50 = some true := by kernel_rfl
@[simp] theorem tel_50 : tel Go.Proofs.Tryz.prog 50 = none := by kernel_rfl
@[simp] theorem tbool_50 : tbool Go.Proofs.Tryz.prog 50 = false := by kernel_rfl
@[simp] theorem tund_50 : (Go.Program.underlying Go.Proofs.Tryz.prog 50).isSome = true := by kernel_rfl
@[simp] theorem flds_50 : flds Go.Proofs.Tryz.prog 50 = some [(0, 1), (1, 1)] := by kernel_rfl
@[simp] theorem tsz_51 : tsz Go.Proofs.Tryz.prog 51 = some 2 := by kernel_rfl
@[simp] theorem tby_51 : tby Go.Proofs.Tryz.prog 51 = some 32 := by kernel_rfl
@[simp] theorem tz_51 : tz Go.Proofs.Tryz.prog 51 = some (.agg #[.bool false, .slice none 0 0]) := by kernel_rfl
@[simp] theorem tagg_51 : tagg Go.Proofs.Tryz.prog 51 = some true := by kernel_rfl
@[simp] theorem tel_51 : tel Go.Proofs.Tryz.prog 51 = none := by kernel_rfl
@[simp] theorem tbool_51 : tbool Go.Proofs.Tryz.prog 51 = false := by kernel_rfl
@[simp] theorem tund_51 : (Go.Program.underlying Go.Proofs.Tryz.prog 51).isSome = true := by kernel_rfl
@[simp] theorem flds_51 : flds Go.Proofs.Tryz.prog 51 = some [(0, 1), (1, 1)] := by kernel_rfl
@[simp] theorem tsz_58 : tsz Go.Proofs.Tryz.prog 58 = some 1 := by kernel_rfl
@[simp] theorem tby_58 : tby Go.Proofs.Tryz.prog 58 = some 24 := by kernel_rfl
@[simp] theorem tz_58 : tz Go.Proofs.Tryz.prog 58 = some (.slice none 0 0) := by kernel_rfl
@[simp] theorem tagg_58 : tagg Go.Proofs.Tryz.prog 58 = some false := by kernel_rfl
@[simp] theorem tel_58 : tel Go.Proofs.Tryz.prog 58 = some 40 := by kernel_rfl
@[simp] theorem tbool_58 : tbool Go.Proofs.Tryz.prog 58 = false := by kernel_rfl
@[simp] theorem tund_58 : (Go.Program.underlying Go.Proofs.Tryz.prog 58).isSome = true := by kernel_rfl
@[simp] theorem tsz_59 : tsz Go.Proofs.Tryz.prog 59 = some 3 := by kernel_rfl
@[simp] theorem tby_59 : tby Go.Proofs.Tryz.prog 59 = some 40 := by kernel_rfl
@[simp] theorem tz_59 : tz Go.Proofs.Tryz.prog 59 = some (.agg #[.int .i64 0, .int .i64 0, .slice none 0 0]) := by kernel_rfl
@[simp] theorem tagg_59 : tagg Go.Proofs.Tryz.prog 59 = some true := by kernel_rfl
@[simp] theorem tel_59 : tel Go.Proofs.Tryz.prog 59 = none := by kernel_rfl
@[simp] theorem tbool_59 : tbool Go.Proofs.Tryz.prog 59 = false := by kernel_rfl
@[simp] theorem tund_59 : (Go.Program.underlying Go.Proofs.Tryz.prog 59).isSome = true := by kernel_rfl
@[simp] theorem flds_59 : flds Go.Proofs.Tryz.prog 59 = some [(0, 1), (1, 1), (2, 1)] := by kernel_rfl
@[simp] theorem tsz_60 : tsz Go.Proofs.Tryz.prog 60 = some 3 := by kernel_rfl
@[simp] theorem tby_60 : tby Go.Proofs.Tryz.prog 60 = some 40 := by kernel_rfl
@[simp] theorem tz_60 : tz Go.Proofs.Tryz.prog 60 = some (.agg #[.int .i64 0, .int .i64 0, .slice none 0 0]) := by kernel_rfl
@[simp] theorem tagg_60 : tagg Go.Proofs.Tryz.prog 60 = some true := by kernel_rfl
@[simp] theorem tel_60 : tel Go.Proofs.Tryz.prog 60 = none := by kernel_rfl
@[simp] theorem tbool_60 : tbool Go.Proofs.Tryz.prog 60 = false := by kernel_rfl
@[simp] theorem tund_60 : (Go.Program.underlying Go.Proofs.Tryz.prog 60).isSome = true := by kernel_rfl
@[simp] theorem flds_60 : flds Go.Proofs.Tryz.prog 60 = some [(0, 1), (1, 1), (2, 1)] := by kernel_rfl
@[simp] theorem tsz_62 : tsz Go.Proofs.Tryz.prog 62 = some 3 := by kernel_rfl
@[simp] theorem tby_62 : tby Go.Proofs.Tryz.prog 62 = some 40 := by kernel_rfl
@[simp] theorem tz_62 : tz Go.Proofs.Tryz.prog 62 = some (.agg #[.int .i64 0, .int .i64 0, .slice none 0 0]) := by kernel_rfl
@[simp] theorem tagg_62 : tagg Go.Proofs.Tryz.prog 62 = some true := by kernel_rfl
@[simp] theorem tel_62 : tel Go.Proofs.Tryz.prog 62 = none := by kernel_rfl
@[simp] theorem tbool_62 : tbool Go.Proofs.Tryz.prog 62 = false := by kernel_rfl
@[simp] theorem tund_62 : (Go.Program.underlying Go.Proofs.Tryz.prog 62).isSome = true := by kernel_rfl
@[simp] theorem flds_62 : flds Go.Proofs.Tryz.prog 62 = some [(0, 1), (1, 1), (2, 1)] := by kernel_rfl
@[simp] theorem tsz_63 : tsz Go.Proofs.Tryz.prog 63 = some 3 := by kernel_rfl
@[simp] theorem tby_63 : tby Go.Proofs.Tryz.prog 63 = some 40 := by kernel_rfl
@[simp] theorem tz_63 : tz Go.Proofs.Tryz.prog 63 = some (.agg #[.int .i64 0, .int .i64 0, .slice none 0 0]) := by kernel_rfl
@[simp] theorem tagg_63 : tagg Go.Proofs.Tryz.prog 63 = some true := by kernel_rfl
@[simp] theorem tel_63 : tel Go.Proofs.Tryz.prog 63 = none := by kernel_rfl
@[simp] theorem tbool_63 : tbool Go.Proofs.Tryz.prog 63 = false := by kernel_rfl
@[simp] theorem tund_63 : (Go.Program.underlying Go.Proofs.Tryz.prog 63).isSome = true := by kernel_rfl
@[simp] theorem flds_63 : flds Go.Proofs.Tryz.prog 63 = some [(0, 1), (1, 1), (2, 1)] := by kernel_rfl
@[simp] theorem tsz_64 : tsz Go.Proofs.Tryz.prog 64 = some 3 := by kernel_rfl
@[simp] theorem tby_64 : tby Go.Proofs.Tryz.prog 64 = some 40 := by kernel_rfl
@[simp] theorem tz_64 : tz Go.Proofs.Tryz.prog 64 = some (.agg #[.int .i64 0, .bool false, .slice none 0 0]) := by kernel_rfl
@[simp] theorem tagg_64 : tagg Go.Proofs.Tryz.prog 64 = some true := by kernel_rfl
@[simp] theorem tel_64 : tel Go.Proofs.Tryz.prog 64 = none := by kernel_rfl
@[simp] theorem tbool_64 : tbool Go.Proofs.Tryz.prog 64 = false := by kernel_rfl
@[simp] theorem tund_64 : (Go.Program.underlying Go.Proofs.Tryz.prog 64).isSome = true := by kernel_rfl
@[simp] theorem flds_64 : flds Go.Proofs.Tryz.prog 64 = some [(0, 1), (1, 2)] := by kernel_rfl
@[simp] theorem tsz_65 : tsz Go.Proofs.Tryz.prog 65 = some 3 := by kernel_rfl
@[simp] theorem tby_65 : tby Go.Proofs.Tryz.prog 65 = some 40 := by kernel_rfl
@[simp] theorem tz_65 : tz Go.Proofs.Tryz.prog 65 = some (.agg #[.int .i64 0, .bool false, .slice none 0 0]) := by kernel_rfl
@[simp] theorem tagg_65 : tagg Go.Proofs.Tryz.prog 65 = some true := by kernel_rfl
@[simp] theorem tel_65 : tel Go.Proofs.Tryz.prog 65 = none := by kernel_rfl
@[simp] theorem tbool_65 : tbool Go.Proofs.Tryz.prog 65 = false := by kernel_rfl
@[simp] theorem tund_65 : (Go.Program.underlying Go.Proofs.Tryz.prog 65).isSome = true := by kernel_rfl
@[simp] theorem flds_65 : flds Go.Proofs.Tryz.prog 65 = some [(0, 1), (1, 2)] := by kernel_rfl
@[simp] theorem tsz_67 : tsz Go.Proofs.Tryz.prog 67 = some 2 := by kernel_rfl
@[simp] theorem tby_67 : tby Go.Proofs.Tryz.prog 67 = some 2 := by kernel_rfl
@[simp] theorem tz_67 : tz Go.Proofs.Tryz.prog 67 = some (.agg #[.int .i8 0, .int .i8 0]) := by kernel_rfl
@[simp] theorem tagg_67 : tagg Go.Proofs.Tryz.prog 67 = some true := by kernel_rfl
@[simp] theorem tel_67 : tel Go.Proofs.Tryz.prog 67 = none := by kernel_rfl
@[simp] theorem tbool_67 : tbool Go.Proofs.Tryz.prog 67 = false := by kernel_rfl
@[simp] theorem tund_67 : (Go.Program.underlying Go.Proofs.Tryz.prog 67).isSome = true := by kernel_rfl
@[simp] theorem flds_67 : flds Go.Proofs.Tryz.prog 67 = none := by kernel_rfl
@[simp] theorem tarr_67 : tarr Go.Proofs.Tryz.prog 67 = some (2, 26) := by kernel_rfl
@[simp] theorem tsz_68 : tsz Go.Proofs.Tryz.prog 68 = some 1 := by kernel_rfl
@[simp] theorem tby_68 : tby Go.Proofs.Tryz.prog 68 = some 24 := by kernel_rfl
@[simp] theorem tz_68 : tz Go.Proofs.Tryz.prog 68 = some (.slice none 0 0) := by kernel_rfl
@[simp] theorem tagg_68 : tagg Go.Proofs.Tryz.prog 68 = some false := by kernel_rfl
@[simp] theorem tel_68 : tel Go.Proofs.Tryz.prog 68 = some 3 := by kernel_rfl
@[simp] theorem tbool_68 : tbool Go.Proofs.Tryz.prog 68 = false := by kernel_rfl
@[simp] theorem tund_68 : (Go.Program.underlying Go.Proofs.Tryz.prog 68).isSome = true := by kernel_rfl
@[simp] theorem tsz_74 : tsz Go.Proofs.Tryz.prog 74 = some 1 := by kernel_rfl
@[simp] theorem tby_74 : tby Go.Proofs.Tryz.prog 74 = some 24 := by kernel_rfl
@[simp] theorem tz_74 : tz Go.Proofs.Tryz.prog 74 = some (.slice none 0 0) := by kernel_rfl
@[simp] theorem tagg_74 : tagg Go.Proofs.Tryz.prog 74 = some false := by kernel_rfl
@[simp] theorem tel_74 : tel Go.Proofs.Tryz.prog 74 = some 2 := by kernel_rfl
@[simp] theorem tbool_74 : tbool Go.Proofs.Tryz.prog 74 = false := by kernel_rfl
@[simp] theorem tund_74 : (Go.Program.underlying Go.Proofs.Tryz.prog 74).isSome = true := by kernel_rfl
@[simp] theorem tsz_78 : tsz Go.Proofs.Tryz.prog 78 = some 4 := by kernel_rfl
@[simp] theorem tby_78 : tby Go.Proofs.Tryz.prog 78 = some 4 := by kernel_rfl
@[simp] theorem tz_78 : tz Go.Proofs.Tryz.prog 78 = some (.agg #[.int .i8 0, .int .i8 0, .int .i8 0, .int .i8 0]) := by kernel_rfl
@[simp] theorem tagg_78 : tagg Go.Proofs.Tryz.prog 78 = some true := by kernel_rfl
@[simp] theorem tel_78 : tel Go.Proofs.Tryz.prog 78 = none := by kernel_rfl
@[simp] theorem tbool_78 : tbool Go.Proofs.Tryz.prog 78 = false := by kernel_rfl
@[simp] theorem tund_78 : (Go.Program.underlying Go.Proofs.Tryz.prog 78).isSome = true := by kernel_rfl
@[simp] theorem flds_78 : flds Go.Proofs.Tryz.prog 78 = none := by kernel_rfl
@[simp] theorem tarr_78 : tarr Go.Proofs.Tryz.prog 78 = some (4, 26) := by kernel_rfl
@[simp] theorem tsz_84 : tsz Go.Proofs.Tryz.prog 84 = some 1 := by kernel_rfl
@[simp] theorem tby_84 : tby Go.Proofs.Tryz.prog 84 = some 8 := by kernel_rfl
@[simp] theorem tagg_84 : tagg Go.Proofs.Tryz.prog 84 = some false := by kernel_rfl
@[simp] theorem tel_84 : tel Go.Proofs.Tryz.prog 84 = none := by kernel_rfl
@[simp] theorem tbool_84 : tbool Go.Proofs.Tryz.prog 84 = false := by kernel_rfl
@[simp] theorem tund_84 : (Go.Program.underlying Go.Proofs.Tryz.prog 84).isSome = true := by kernel_rfl
@[simp] theorem tmp_84 : tmp Go.Proofs.Tryz.prog 84 = some (3, 51) := by kernel_rfl
@[simp] theorem tsz_85 : tsz Go.Proofs.Tryz.prog 85 = some 1 := by kernel_rfl
@[simp] theorem tby_85 : tby Go.Proofs.Tryz.prog 85 = some 8 := by kernel_rfl
@[simp] theorem tagg_85 : tagg Go.Proofs.Tryz.prog 85 = some false := by kernel_rfl
@[simp] theorem tel_85 : tel Go.Proofs.Tryz.prog 85 = none := by kernel_rfl
@[simp] theorem tbool_85 : tbool Go.Proofs.Tryz.prog 85 = false := by kernel_rfl
@[simp] theorem tund_85 : (Go.Program.underlying Go.Proofs.Tryz.prog 85).isSome = true := by kernel_rfl
@[simp] theorem tmp_85 : tmp Go.Proofs.Tryz.prog 85 = some (3, 51) := by kernel_rfl
@[simp] theorem tsz_90 : tsz Go.Proofs.Tryz.prog 90 = some 1 := by kernel_rfl
@[simp] theorem tby_90 : tby Go.Proofs.Tryz.prog 90 = some 8 := by kernel_rfl
@[simp] theorem tz_90 : tz Go.Proofs.Tryz.prog 90 = some (.int .u64 0) := by kernel_rfl
@[simp] theorem tagg_90 : tagg Go.Proofs.Tryz.prog 90 = some false := by kernel_rfl
@[simp] theorem tel_90 : tel Go.Proofs.Tryz.prog 90 = none := by kernel_rfl
@[simp] theorem tbool_90 : tbool Go.Proofs.Tryz.prog 90 = false := by kernel_rfl
@[simp] theorem tund_90 : (Go.Program.underlying Go.Proofs.Tryz.prog 90).isSome = true := by kernel_rfl
@[simp] theorem tint_90 : tint Go.Proofs.Tryz.prog 90 = some .u64 := by kernel_rfl
@[simp] theorem tsz_92 : tsz Go.Proofs.Tryz.prog 92 = some 1 := by kernel_rfl
@[simp] theorem tby_92 : tby Go.Proofs.Tryz.prog 92 = some 4 := by kernel_rfl
@[simp] theorem tz_92 : tz Go.Proofs.Tryz.prog 92 = some (.int .u32 0) := by kernel_rfl
@[simp] theorem tagg_92 : tagg Go.Proofs.Tryz.prog 92 = some false := by kernel_rfl
@[simp] theorem tel_92 : tel Go.Proofs.Tryz.prog 92 = none := by kernel_rfl
@[simp] theorem tbool_92 : tbool Go.Proofs.Tryz.prog 92 = false := by kernel_rfl
@[simp] theorem tund_92 : (Go.Program.underlying Go.Proofs.Tryz.prog 92).isSome = true := by kernel_rfl
@[simp] theorem tint_92 : tint Go.Proofs.Tryz.prog 92 = some .u32 := by kernel_rfl
@[simp] theorem tsz_93 : tsz Go.Proofs.Tryz.prog 93 = some 1 := by kernel_rfl
@[simp] theorem tby_93 : tby Go.Proofs.Tryz.prog 93 = some 8 := by kernel_rfl
@[simp] theorem tz_93 : tz Go.Proofs.Tryz.prog 93 = some (.int .u64 0) := by kernel_rfl
@[simp] theorem tagg_93 : tagg Go.Proofs.Tryz.prog 93 = some false := by kernel_rfl
@[simp] theorem tel_93 : tel Go.Proofs.Tryz.prog 93 = none := by kernel_rfl
@[simp] theorem tbool_93 : tbool Go.Proofs.Tryz.prog 93 = false := by kernel_rfl
@[simp] theorem tund_93 : (Go.Program.underlying Go.Proofs.Tryz.prog 93).isSome = true := by kernel_rfl
@[simp] theorem tint_93 : tint Go.Proofs.Tryz.prog 93 = some .u64 := by kernel_rfl
@[simp] theorem tsz_100 : tsz Go.Proofs.Tryz.prog 100 = some 1 := by kernel_rfl
@[simp] theorem tby_100 : tby Go.Proofs.Tryz.prog 100 = some 24 := by kernel_rfl
@[simp] theorem tz_100 : tz Go.Proofs.Tryz.prog 100 = some (.slice none 0 0) := by kernel_rfl
@[simp] theorem tagg_100 : tagg Go.Proofs.Tryz.prog 100 = some false := by kernel_rfl
@[simp] theorem tel_100 : tel Go.Proofs.Tryz.prog 100 = some 32 := by kernel_rfl
@[simp] theorem tbool_100 : tbool Go.Proofs.Tryz.prog 100 = false := by kernel_rfl
@[simp] theorem tund_100 : (Go.Program.underlying Go.Proofs.Tryz.prog 100).isSome = true := by kernel_rfl
@[simp] theorem tsz_102 : tsz Go.Proofs.Tryz.prog 102 = some 1 := by kernel_rfl
@[simp] theorem tby_102 : tby Go.Proofs.Tryz.prog 102 = some 8 := by kernel_rfl
@[simp] theorem tagg_102 : tagg Go.Proofs.Tryz.prog 102 = some false := by kernel_rfl
@[simp] theorem tel_102 : tel Go.Proofs.Tryz.prog 102 = none := by kernel_rfl
@[simp] theorem tbool_102 : tbool Go.Proofs.Tryz.prog 102 = false := by kernel_rfl
@[simp] theorem tund_102 : (Go.Program.underlying Go.Proofs.Tryz.prog 102).isSome = true := by kernel_rfl
@[simp] theorem tmp_102 : tmp Go.Proofs.Tryz.prog 102 = some (3, 3) := by kernel_rfl
@[simp] theorem tsz_121 : tsz Go.Proofs.Tryz.prog 121 = some 9 := by kernel_rfl
@[simp] theorem tby_121 : tby Go.Proofs.Tryz.prog 121 = some 120 := by kernel_rfl
@[simp] theorem tz_121 : tz Go.Proofs.Tryz.prog 121 = some (.agg #[.int .i64 0, .int .i64 0, .slice none 0 0, .int .i64 0, .int .i64 0, .slice none 0 0, .int .i64 0, .int .i64 0, .slice none 0 0]) := by kernel_rfl
@[simp] theorem tagg_121 : tagg Go.Proofs.Tryz.prog 121 = some true := by kernel_rfl
@[simp] theorem tel_121 : tel Go.Proofs.Tryz.prog 121 = none := by kernel_rfl
@[simp] theorem tbool_121 : tbool Go.Proofs.Tryz.prog 121 = false := by kernel_rfl
@[simp] theorem tund_121 : (Go.Program.underlying Go.Proofs.Tryz.prog 121).isSome = true := by kernel_rfl
@[simp] theorem flds_121 : flds Go.Proofs.Tryz.prog 121 = some [(0, 3), (3, 3), (6, 3)] := by kernel_rfl
@[simp] theorem tsz_122 : tsz Go.Proofs.Tryz.prog 122 = some 9 := by kernel_rfl
@[simp] theorem tby_122 : tby Go.Proofs.Tryz.prog 122 = some 120 := by kernel_rfl
@[simp] theorem tz_122 : tz Go.Proofs.Tryz.prog 122 = some (.agg #[.int .i64 0, .int .i64 0, .slice none 0 0, .int .i64 0, .int .i64 0, .slice none 0 0, .int .i64 0, .int .i64 0, .slice none 0 0]) := by kernel_rfl
@[simp] theorem tagg_122 : tagg Go.Proofs.Tryz.prog 122 = some true := by kernel_rfl
@[simp] theorem tel_122 : tel Go.Proofs.Tryz.prog 122 = none := by kernel_rfl
@[simp] theorem tbool_122 : tbool Go.Proofs.Tryz.prog 122 = false := by kernel_rfl
@[simp] theorem tund_122 : (Go.Program.underlying Go.Proofs.Tryz.prog 122).isSome = true := by kernel_rfl
@[simp] theorem flds_122 : flds Go.Proofs.Tryz.prog 122 = some [(0, 3), (3, 3), (6, 3)] := by kernel_rfl
@[simp] theorem tsz_132 : tsz Go.Proofs.Tryz.prog 132 = some 9 := by kernel_rfl
@[simp] theorem tby_132 : tby Go.Proofs.Tryz.prog 132 = some 120 := by kernel_rfl
@[simp] theorem tz_132 : tz Go.Proofs.Tryz.prog 132 = some (.agg #[.int .i64 0, .int .i64 0, .slice none 0 0, .int .i64 0, .int .i64 0, .slice none 0 0, .int .i64 0, .int .i64 0, .slice none 0 0]) := by kernel_rfl
@[simp] theorem tagg_132 : tagg Go.Proofs.Tryz.prog 132 = some true := by kernel_rfl
@[simp] theorem tel_132 : tel Go.Proofs.Tryz.prog 132 = none := by kernel_rfl
@[simp] theorem tbool_132 : tbool Go.Proofs.Tryz.prog 132 = false := by kernel_rfl
@[simp] theorem tund_132 : (Go.Program.underlying Go.Proofs.Tryz.prog 132).isSome = true := by kernel_rfl
@[simp] theorem flds_132 : flds Go.Proofs.Tryz.prog 132 = some [(0, 3), (3, 3), (6, 3)] := by kernel_rfl
@[simp] theorem tsz_133 : tsz Go.Proofs.Tryz.prog 133 = some 9 := by kernel_rfl
@[simp] theorem tby_133 : tby Go.Proofs.Tryz.prog 133 = some 120 := by kernel_rfl
@[simp] theorem tz_133 : tz Go.Proofs.Tryz.prog 133 = some (.agg #[.int .i64 0, .int .i64 0, .slice none 0 0, .int .i64 0, .int .i64 0, .slice none 0 0, .int .i64 0, .int .i64 0, .slice none 0 0]) := by kernel_rfl
@[simp] theorem tagg_133 : tagg Go.Proofs.Tryz.prog 133 = some true := by kernel_rfl
@[simp] theorem tel_133 : tel Go.Proofs.Tryz.prog 133 = none := by kernel_rfl
@[simp] theorem tbool_133 : tbool Go.Proofs.Tryz.prog 133 = false := by kernel_rfl
@[simp] theorem tund_133 : (Go.Program.underlying Go.Proofs.Tryz.prog 133).isSome = true := by kernel_rfl
@[simp] theorem flds_133 : flds Go.Proofs.Tryz.prog 133 = some [(0, 3), (3, 3), (6, 3)] := by kernel_rfl
@[simp] theorem tsz_144 : tsz Go.Proofs.Tryz.prog 144 = some 1 := by kernel_rfl
@[simp] theorem tby_144 : tby Go.Proofs.Tryz.prog 144 = some 8 := by kernel_rfl
@[simp] theorem tz_144 : tz Go.Proofs.Tryz.prog 144 = some (.int .i64 0) := by kernel_rfl
@[simp] theorem tagg_144 : tagg Go.Proofs.Tryz.prog 144 = some false := by kernel_rfl
@[simp] theorem tel_144 : tel Go.Proofs.Tryz.prog 144 = none := by kernel_rfl
@[simp] theorem tbool_144 : tbool Go.Proofs.Tryz.prog 144 = false := by kernel_rfl
@[simp] theorem tund_144 : (Go.Program.underlying Go.Proofs.Tryz.prog 144).isSome = true := by kernel_rfl
@[simp] theorem tint_144 : tint Go.Proofs.Tryz.prog 144 = some .i64 := by kernel_rfl
@[simp] theorem tsz_156 : tsz Go.Proofs.Tryz.prog 156 = some 1 := by kernel_rfl
@[simp] theorem tby_156 : tby Go.Proofs.Tryz.prog 156 = some 8 := by kernel_rfl
@[simp] theorem tz_156 : tz Go.Proofs.Tryz.prog 156 = some (.int .u64 0) := by kernel_rfl
@[simp] theorem tagg_156 : tagg Go.Proofs.Tryz.prog 156 = some false := by kernel_rfl
@[simp] theorem tel_156 : tel Go.Proofs.Tryz.prog 156 = none := by kernel_rfl
@[simp] theorem tbool_156 : tbool Go.Proofs.Tryz.prog 156 = false := by kernel_rfl
@[simp] theorem tund_156 : (Go.Program.underlying Go.Proofs.Tryz.prog 156).isSome = true := by kernel_rfl
@[simp] theorem tint_156 : tint Go.Proofs.Tryz.prog 156 = some .u64 := by kernel_rfl
@[simp] theorem tsz_172 : tsz Go.Proofs.Tryz.prog 172 = some 0 := by kernel_rfl
@[simp] theorem tby_172 : tby Go.Proofs.Tryz.prog 172 = some 0 := by kernel_rfl
@[simp] theorem tz_172 : tz Go.Proofs.Tryz.prog 172 = some (.agg #[]) := by kernel_rfl
@[simp] theorem tagg_172 : tagg Go.Proofs.Tryz.prog 172 = some true := by kernel_rfl
@[simp] theorem tel_172 : tel Go.Proofs.Tryz.prog 172 = none := by kernel_rfl
@[simp] theorem tbool_172 : tbool Go.Proofs.Tryz.prog 172 = false := by kernel_rfl
@[simp] theorem tund_172 : (Go.Program.underlying Go.Proofs.Tryz.prog 172).isSome = true := by kernel_rfl
@[simp] theorem flds_172 : flds Go.Proofs.Tryz.prog 172 = none := by kernel_rfl
@[simp] theorem tarr_172 : tarr Go.Proofs.Tryz.prog 172 = some (0, 16) := by kernel_rfl
@[simp] theorem tsz_173 : tsz Go.Proofs.Tryz.prog 173 = some 0 := by kernel_rfl
@[simp] theorem tby_173 : tby Go.Proofs.Tryz.prog 173 = some 0 := by kernel_rfl
@[simp] theorem tz_173 : tz Go.Proofs.Tryz.prog 173 = some (.agg #[]) := by kernel_rfl
@[simp] theorem tagg_173 : tagg Go.Proofs.Tryz.prog 173 = some true := by kernel_rfl
@[simp] theorem tel_173 : tel Go.Proofs.Tryz.prog 173 = none := by kernel_rfl
@[simp] theorem tbool_173 : tbool Go.Proofs.Tryz.prog 173 = false := by kernel_rfl
@[simp] theorem tund_173 : (Go.Program.underlying Go.Proofs.Tryz.prog 173).isSome = true := by kernel_rfl
@[simp] theorem flds_173 : flds Go.Proofs.Tryz.prog 173 = some [(0, 0)] := by kernel_rfl
@[simp] theorem tsz_174 : tsz Go.Proofs.Tryz.prog 174 = some 0 := by kernel_rfl
@[simp] theorem tby_174 : tby Go.Proofs.Tryz.prog 174 = some 0 := by kernel_rfl
@[simp] theorem tz_174 : tz Go.Proofs.Tryz.prog 174 = some (.agg #[]) := by kernel_rfl
@[simp] theorem tagg_174 : tagg Go.Proofs.Tryz.prog 174 = some true := by kernel_rfl
@[simp] theorem tel_174 : tel Go.Proofs.Tryz.prog 174 = none := by kernel_rfl
@[simp] theorem tbool_174 : tbool Go.Proofs.Tryz.prog 174 = false := by kernel_rfl
@[simp] theorem tund_174 : (Go.Program.underlying Go.Proofs.Tryz.prog 174).isSome = true := by kernel_rfl
@[simp] theorem flds_174 : flds Go.Proofs.Tryz.prog 174 = some [(0, 0)] := by kernel_rfl
@[simp] theorem tsz_176 : tsz Go.Proofs.Tryz.prog 176 = some 1 := by kernel_rfl
@[simp] theorem tby_176 : tby Go.Proofs.Tryz.prog 176 = some 1 := by kernel_rfl
@[simp] theorem tz_176 : tz Go.Proofs.Tryz.prog 176 = some (.int .u8 0) := by kernel_rfl
@[simp] theorem tagg_176 : tagg Go.Proofs.Tryz.prog 176 = some false := by kernel_rfl
@[simp] theorem tel_176 : tel Go.Proofs.Tryz.prog 176 = none := by kernel_rfl
@[simp] theorem tbool_176 : tbool Go.Proofs.Tryz.prog 176 = false := by kernel_rfl
@[simp] theorem tund_176 : (Go.Program.underlying Go.Proofs.Tryz.prog 176).isSome = true := by kernel_rfl
@[simp] theorem tint_176 : tint Go.Proofs.Tryz.prog 176 = some .u8 := by kernel_rfl
@[simp] theorem tsz_177 : tsz Go.Proofs.Tryz.prog 177 = some 1 := by kernel_rfl
@[simp] theorem tby_177 : tby Go.Proofs.Tryz.prog 177 = some 1 := by kernel_rfl
@[simp] theorem tz_177 : tz Go.Proofs.Tryz.prog 177 = some (.int .u8 0) := by kernel_rfl
@[simp] theorem tagg_177 : tagg Go.Proofs.Tryz.prog 177 = some false := by kernel_rfl
@[simp] theorem tel_177 : tel Go.Proofs.Tryz.prog 177 = none := by kernel_rfl
@[simp] theorem tbool_177 : tbool Go.Proofs.Tryz.prog 177 = false := by kernel_rfl
@[simp] theorem tund_177 : (Go.Program.underlying Go.Proofs.Tryz.prog 177).isSome = true := by kernel_rfl
@[simp] theorem tint_177 : tint Go.Proofs.Tryz.prog 177 = some .u8 := by kernel_rfl
@[simp] theorem tsz_180 : tsz Go.Proofs.Tryz.prog 180 = some 1 := by kernel_rfl
@[simp] theorem tby_180 : tby Go.Proofs.Tryz.prog 180 = some 4 := by kernel_rfl
@[simp] theorem tz_180 : tz Go.Proofs.Tryz.prog 180 = some (.int .i32 0) := by kernel_rfl
@[simp] theorem tagg_180 : tagg Go.Proofs.Tryz.prog 180 = some false := by kernel_rfl
@[simp] theorem tel_180 : tel Go.Proofs.Tryz.prog 180 = none := by kernel_rfl
@[simp] theorem tbool_180 : tbool Go.Proofs.Tryz.prog 180 = false := by kernel_rfl
@[simp] theorem tund_180 : (Go.Program.underlying Go.Proofs.Tryz.prog 180).isSome = true := by kernel_rfl
@[simp] theorem tint_180 : tint Go.Proofs.Tryz.prog 180 = some .i32 := by kernel_rfl
@[simp] theorem tsz_181 : tsz Go.Proofs.Tryz.prog 181 = some 1 := by kernel_rfl
@[simp] theorem tby_181 : tby Go.Proofs.Tryz.prog 181 = some 4 := by kernel_rfl
@[simp] theorem tz_181 : tz Go.Proofs.Tryz.prog 181 = some (.int .i32 0) := by kernel_rfl
@[simp] theorem tagg_181 : tagg Go.Proofs.Tryz.prog 181 = some false := by kernel_rfl
@[simp] theorem tel_181 : tel Go.Proofs.Tryz.prog 181 = none := by kernel_rfl
@[simp] theorem tbool_181 : tbool Go.Proofs.Tryz.prog 181 = false := by kernel_rfl
@[simp] theorem tund_181 : (Go.Program.underlying Go.Proofs.Tryz.prog 181).isSome = true := by kernel_rfl
@[simp] theorem tint_181 : tint Go.Proofs.Tryz.prog 181 = some .i32 := by kernel_rfl
@[simp] theorem follows_mixed : Go.Tables.follows Go.Proofs.Tryz.prog.toTables .mixedOrders = true := by kernel_rfl
end Go.Am
end

section
set_option linter.unusedVariables false
set_option linter.unusedSimpArgs false
namespace Go.Am
@[simp] theorem newF_0 : newF Go.Proofs.Tryz.prog 0 = false := by kernel_rfl
@[simp] theorem mutF_0 : mutF Go.Proofs.Tryz.prog 0 = true := by kernel_rfl
@[simp] theorem newF_1 : newF Go.Proofs.Tryz.prog 1 = false := by kernel_rfl
@[simp] theorem mutF_1 : mutF Go.Proofs.Tryz.prog 1 = true := by kernel_rfl
@[simp] theorem newF_2 : newF Go.Proofs.Tryz.prog 2 = false := by kernel_rfl
@[simp] theorem mutF_2 : mutF Go.Proofs.Tryz.prog 2 = true := by kernel_rfl
@[simp] theorem newF_3 : newF Go.Proofs.Tryz.prog 3 = false := by kernel_rfl
@[simp] theorem mutF_3 : mutF Go.Proofs.Tryz.prog 3 = false := by kernel_rfl
@[simp] theorem newF_4 : newF Go.Proofs.Tryz.prog 4 = false := by kernel_rfl
@[simp] theorem mutF_4 : mutF Go.Proofs.Tryz.prog 4 = false := by kernel_rfl
@[simp] theorem newF_5 : newF Go.Proofs.Tryz.prog 5 = false := by kernel_rfl
@[simp] theorem mutF_5 : mutF Go.Proofs.Tryz.prog 5 = false := by kernel_rfl
@[simp] theorem newF_6 : newF Go.Proofs.Tryz.prog 6 = false := by kernel_rfl
@[simp] theorem mutF_6 : mutF Go.Proofs.Tryz.prog 6 = false := by kernel_rfl
@[simp] theorem newF_7 : newF Go.Proofs.Tryz.prog 7 = false := by kernel_rfl
@[simp] theorem mutF_7 : mutF Go.Proofs.Tryz.prog 7 = false := by kernel_rfl
@[simp] theorem newF_8 : newF Go.Proofs.Tryz.prog 8 = false := by kernel_rfl
@[simp] theorem mutF_8 : mutF Go.Proofs.Tryz.prog 8 = false := by kernel_rfl
@[simp] theorem newF_9 : newF Go.Proofs.Tryz.prog 9 = false := by kernel_rfl
@[simp] theorem mutF_9 : mutF Go.Proofs.Tryz.prog 9 = false := by kernel_rfl
@[simp] theorem newF_10 : newF Go.Proofs.Tryz.prog 10 = false := by kernel_rfl
@[simp] theorem mutF_10 : mutF Go.Proofs.Tryz.prog 10 = false := by kernel_rfl
@[simp] theorem newF_11 : newF Go.Proofs.Tryz.prog 11 = false := by kernel_rfl
@[simp] theorem mutF_11 : mutF Go.Proofs.Tryz.prog 11 = false := by kernel_rfl
@[simp] theorem newF_12 : newF Go.Proofs.Tryz.prog 12 = false := by kernel_rfl
@[simp] theorem mutF_12 : mutF Go.Proofs.Tryz.prog 12 = false := by kernel_rfl
@[simp] theorem newF_13 : newF Go.Proofs.Tryz.prog 13 = false := by kernel_rfl
@[simp] theorem mutF_13 : mutF Go.Proofs.Tryz.prog 13 = false := by kernel_rfl
@[simp] theorem newF_14 : newF Go.Proofs.Tryz.prog 14 = false := by kernel_rfl
@[simp] theorem mutF_14 : mutF Go.Proofs.Tryz.prog 14 = false := by kernel_rfl
@[simp] theorem newF_15 : newF Go.Proofs.Tryz.prog 15 = false := by kernel_rfl
@[simp] theorem mutF_15 : mutF Go.Proofs.Tryz.prog 15 = false := by kernel_rfl
@[simp] theorem newF_16 : newF Go.Proofs.Tryz.prog 16 = false := by kernel_rfl
@[simp] theorem mutF_16 : mutF Go.Proofs.Tryz.prog 16 = false := by kernel_rfl
@[simp] theorem newF_17 : newF Go.Proofs.Tryz.prog 17 = false := by kernel_rfl
@[simp] theorem mutF_17 : mutF Go.Proofs.Tryz.prog 17 = false := by kernel_rfl
@[simp] theorem newF_18 : newF Go.Proofs.Tryz.prog 18 = false := by kernel_rfl
@[simp] theorem mutF_18 : mutF Go.Proofs.Tryz.prog 18 = false := by kernel_rfl
@[simp] theorem newF_19 : newF Go.Proofs.Tryz.prog 19 = false := by kernel_rfl
@[simp] theorem mutF_19 : mutF Go.Proofs.Tryz.prog 19 = false := by kernel_rfl
@[simp] theorem newF_20 : newF Go.Proofs.Tryz.prog 20 = false := by kernel_rfl
@[simp] theorem mutF_20 : mutF Go.Proofs.Tryz.prog 20 = false := by kernel_rfl
@[simp] theorem newF_21 : newF Go.Proofs.Tryz.prog 21 = false := by kernel_rfl
@[simp] theorem mutF_21 : mutF Go.Proofs.Tryz.prog 21 = false := by kernel_rfl
@[simp] theorem newF_22 : newF Go.Proofs.Tryz.prog 22 = false := by kernel_rfl
@[simp] theorem mutF_22 : mutF Go.Proofs.Tryz.prog 22 = false := by kernel_rfl
@[simp] theorem newF_23 : newF Go.Proofs.Tryz.prog 23 = false := by kernel_rfl
@[simp] theorem mutF_23 : mutF Go.Proofs.Tryz.prog 23 = false := by kernel_rfl
@[simp] theorem newF_24 : newF Go.Proofs.Tryz.prog 24 = false := by kernel_rfl
@[simp] theorem mutF_24 : mutF Go.Proofs.Tryz.prog 24 = false := by kernel_rfl
@[simp] theorem newF_25 : newF Go.Proofs.Tryz.prog 25 = false := by kernel_rfl
@[simp] theorem mutF_25 : mutF Go.Proofs.Tryz.prog 25 = false := by kernel_rfl
@[simp] theorem newF_26 : newF Go.Proofs.Tryz.prog 26 = false := by kernel_rfl
@[simp] theorem mutF_26 : mutF Go.Proofs.Tryz.prog 26 = false := by kernel_rfl
@[simp] theorem newF_27 : newF Go.Proofs.Tryz.prog 27 = false := by kernel_rfl
@[simp] theorem mutF_27 : mutF Go.Proofs.Tryz.prog 27 = false := by kernel_rfl
@[simp] theorem newF_28 : newF Go.Proofs.Tryz.prog 28 = false := by kernel_rfl
@[simp] theorem mutF_28 : mutF Go.Proofs.Tryz.prog 28 = false := by kernel_rfl
@[simp] theorem newF_29 : newF Go.Proofs.Tryz.prog 29 = false := by kernel_rfl
@[simp] theorem mutF_29 : mutF Go.Proofs.Tryz.prog 29 = false := by kernel_rfl
@[simp] theorem newF_30 : newF Go.Proofs.Tryz.prog 30 = false := by kernel_rfl
@[simp] theorem mutF_30 : mutF Go.Proofs.Tryz.prog 30 = false := by kernel_rfl
@[simp] theorem newF_31 : newF Go.Proofs.Tryz.prog 31 = false := by kernel_rfl
@[simp] theorem mutF_31 : mutF Go.Proofs.Tryz.prog 31 = false := by kernel_rfl
@[simp] theorem newF_32 : newF Go.Proofs.Tryz.prog 32 = false := by kernel_rfl
@[simp] theorem mutF_32 : mutF Go.Proofs.Tryz.prog 32 = false := by kernel_rfl
@[simp] theorem newF_33 : newF Go.Proofs.Tryz.prog 33 = false := by kernel_rfl
@[simp] theorem mutF_33 : mutF Go.Proofs.Tryz.prog 33 = false := by kernel_rfl
@[simp] theorem newF_34 : newF Go.Proofs.Tryz.prog 34 = false := by kernel_rfl
@[simp] theorem mutF_34 : mutF Go.Proofs.Tryz.prog 34 = false := by kernel_rfl
@[simp] theorem newF_35 : newF Go.Proofs.Tryz.prog 35 = false := by kernel_rfl
@[simp] theorem mutF_35 : mutF Go.Proofs.Tryz.prog 35 = false := by kernel_rfl
@[simp] theorem newF_36 : newF Go.Proofs.Tryz.prog 36 = false := by kernel_rfl
@[simp] theorem mutF_36 : mutF Go.Proofs.Tryz.prog 36 = false := by kernel_rfl
@[simp] theorem newF_37 : newF Go.Proofs.Tryz.prog 37 = false := by kernel_rfl
@[simp] theorem mutF_37 : mutF Go.Proofs.Tryz.prog 37 = false := by kernel_rfl
@[simp] theorem newF_38 : newF Go.Proofs.Tryz.prog 38 = false := by kernel_rfl
@[simp] theorem mutF_38 : mutF Go.Proofs.Tryz.prog 38 = false := by kernel_rfl
@[simp] theorem newF_39 : newF Go.Proofs.Tryz.prog 39 = false := by kernel_rfl
@[simp] theorem mutF_39 : mutF Go.Proofs.Tryz.prog 39 = true := by kernel_rfl
@[simp] theorem newF_40 : newF Go.Proofs.Tryz.prog 40 = false := by kernel_rfl
@[simp] theorem mutF_40 : mutF Go.Proofs.Tryz.prog 40 = false := by kernel_rfl
@[simp] theorem newF_41 : newF Go.Proofs.Tryz.prog 41 = false := by kernel_rfl
@[simp] theorem mutF_41 : mutF Go.Proofs.Tryz.prog 41 = false := by kernel_rfl
@[simp] theorem newF_42 : newF Go.Proofs.Tryz.prog 42 = false := by kernel_rfl
@[simp] theorem mutF_42 : mutF Go.Proofs.Tryz.prog 42 = true := by kernel_rfl
@[simp] theorem newF_43 : newF Go.Proofs.Tryz.prog 43 = false := by kernel_rfl
@[simp] theorem mutF_43 : mutF Go.Proofs.Tryz.prog 43 = true := by kernel_rfl
@[simp] theorem newF_44 : newF Go.Proofs.Tryz.prog 44 = false := by kernel_rfl
@[simp] theorem mutF_44 : mutF Go.Proofs.Tryz.prog 44 = false := by kernel_rfl
@[simp] theorem newF_45 : newF Go.Proofs.Tryz.prog 45 = false := by kernel_rfl
@[simp] theorem mutF_45 : mutF Go.Proofs.Tryz.prog 45 = true := by kernel_rfl
@[simp] theorem newF_46 : newF Go.Proofs.Tryz.prog 46 = false := by kernel_rfl
@[simp] theorem mutF_46 : mutF Go.Proofs.Tryz.prog 46 = true := by kernel_rfl
@[simp] theorem newF_47 : newF Go.Proofs.Tryz.prog 47 = false := by kernel_rfl
@[simp] theorem mutF_47 : mutF Go.Proofs.Tryz.prog 47 = false := by kernel_rfl
@[simp] theorem newF_48 : newF Go.Proofs.Tryz.prog 48 = false := by kernel_rfl
@[simp] theorem mutF_48 : mutF Go.Proofs.Tryz.prog 48 = false := by kernel_rfl
@[simp] theorem newF_49 : newF Go.Proofs.Tryz.prog 49 = false := by kernel_rfl
@[simp] theorem mutF_49 : mutF Go.Proofs.Tryz.prog 49 = true := by kernel_rfl
@[simp] theorem newF_50 : newF Go.Proofs.Tryz.prog 50 = false := by kernel_rfl
@[simp] theorem mutF_50 : mutF Go.Proofs.Tryz.prog 50 = false := by kernel_rfl
@[simp] theorem newF_51 : newF Go.Proofs.Tryz.prog 51 = false := by kernel_rfl
@[simp] theorem mutF_51 : mutF Go.Proofs.Tryz.prog 51 = false := by kernel_rfl
@[simp] theorem newF_52 : newF Go.Proofs.Tryz.prog 52 = false := by kernel_rfl
@[simp] theorem mutF_52 : mutF Go.Proofs.Tryz.prog 52 = false := by kernel_rfl
@[simp] theorem newF_53 : newF Go.Proofs.Tryz.prog 53 = false := by kernel_rfl
@[simp] theorem mutF_53 : mutF Go.Proofs.Tryz.prog 53 = false := by kernel_rfl
@[simp] theorem newF_54 : newF Go.Proofs.Tryz.prog 54 = false := by kernel_rfl
@[simp] theorem mutF_54 : mutF Go.Proofs.Tryz.prog 54 = false := by kernel_rfl
@[simp] theorem newF_55 : newF Go.Proofs.Tryz.prog 55 = false := by kernel_rfl
@[simp] theorem mutF_55 : mutF Go.Proofs.Tryz.prog 55 = false := by kernel_rfl
@[simp] theorem newF_56 : newF Go.Proofs.Tryz.prog 56 = false := by kernel_rfl
@[simp] theorem mutF_56 : mutF Go.Proofs.Tryz.prog 56 = false := by kernel_rfl
@[simp] theorem newF_57 : newF Go.Proofs.Tryz.prog 57 = false := by kernel_rfl
@[simp] theorem mutF_57 : mutF Go.Proofs.Tryz.prog 57 = false := by kernel_rfl
@[simp] theorem newF_58 : newF Go.Proofs.Tryz.prog 58 = false := by kernel_rfl
@[simp] theorem mutF_58 : mutF Go.Proofs.Tryz.prog 58 = true := by kernel_rfl
@[simp] theorem newF_59 : newF Go.Proofs.Tryz.prog 59 = false := by kernel_rfl
@[simp] theorem mutF_59 : mutF Go.Proofs.Tryz.prog 59 = true := by kernel_rfl
@[simp] theorem newF_60 : newF Go.Proofs.Tryz.prog 60 = false := by kernel_rfl
@[simp] theorem mutF_60 : mutF Go.Proofs.Tryz.prog 60 = true := by kernel_rfl
@[simp] theorem newF_61 : newF Go.Proofs.Tryz.prog 61 = false := by kernel_rfl
@[simp] theorem mutF_61 : mutF Go.Proofs.Tryz.prog 61 = true := by kernel_rfl
@[simp] theorem newF_62 : newF Go.Proofs.Tryz.prog 62 = false := by kernel_rfl
@[simp] theorem mutF_62 : mutF Go.Proofs.Tryz.prog 62 = false := by kernel_rfl
@[simp] theorem newF_63 : newF Go.Proofs.Tryz.prog 63 = false := by kernel_rfl
@[simp] theorem mutF_63 : mutF Go.Proofs.Tryz.prog 63 = false := by kernel_rfl
@[simp] theorem newF_64 : newF Go.Proofs.Tryz.prog 64 = false := by kernel_rfl
@[simp] theorem mutF_64 : mutF Go.Proofs.Tryz.prog 64 = false := by kernel_rfl
@[simp] theorem newF_65 : newF Go.Proofs.Tryz.prog 65 = false := by kernel_rfl
@[simp] theorem mutF_65 : mutF Go.Proofs.Tryz.prog 65 = false := by kernel_rfl
@[simp] theorem newF_66 : newF Go.Proofs.Tryz.prog 66 = false := by kernel_rfl
@[simp] theorem mutF_66 : mutF Go.Proofs.Tryz.prog 66 = false := by kernel_rfl
@[simp] theorem newF_67 : newF Go.Proofs.Tryz.prog 67 = false := by kernel_rfl
@[simp] theorem mutF_67 : mutF Go.Proofs.Tryz.prog 67 = false := by kernel_rfl
@[simp] theorem newF_68 : newF Go.Proofs.Tryz.prog 68 = false := by kernel_rfl
@[simp] theorem mutF_68 : mutF Go.Proofs.Tryz.prog 68 = false := by kernel_rfl
@[simp] theorem newF_69 : newF Go.Proofs.Tryz.prog 69 = false := by kernel_rfl
@[simp] theorem mutF_69 : mutF Go.Proofs.Tryz.prog 69 = false := by kernel_rfl
@[simp] theorem newF_70 : newF Go.Proofs.Tryz.prog 70 = false := by kernel_rfl
@[simp] theorem mutF_70 : mutF Go.Proofs.Tryz.prog 70 = false := by kernel_rfl
@[simp] theorem newF_71 : newF Go.Proofs.Tryz.prog 71 = false := by kernel_rfl
@[simp] theorem mutF_71 : mutF Go.Proofs.Tryz.prog 71 = true := by kernel_rfl
@[simp] theorem newF_72 : newF Go.Proofs.Tryz.prog 72 = false := by kernel_rfl
@[simp] theorem mutF_72 : mutF Go.Proofs.Tryz.prog 72 = false := by kernel_rfl
@[simp] theorem newF_73 : newF Go.Proofs.Tryz.prog 73 = false := by kernel_rfl
@[simp] theorem mutF_73 : mutF Go.Proofs.Tryz.prog 73 = false := by kernel_rfl
@[simp] theorem newF_74 : newF Go.Proofs.Tryz.prog 74 = false := by kernel_rfl
@[simp] theorem mutF_74 : mutF Go.Proofs.Tryz.prog 74 = false := by kernel_rfl
@[simp] theorem newF_75 : newF Go.Proofs.Tryz.prog 75 = false := by kernel_rfl
@[simp] theorem mutF_75 : mutF Go.Proofs.Tryz.prog 75 = false := by kernel_rfl
@[simp] theorem newF_76 : newF Go.Proofs.Tryz.prog 76 = true := by kernel_rfl
@[simp] theorem mutF_76 : mutF Go.Proofs.Tryz.prog 76 = false := by kernel_rfl
@[simp] theorem newF_77 : newF Go.Proofs.Tryz.prog 77 = false := by kernel_rfl
@[simp] theorem mutF_77 : mutF Go.Proofs.Tryz.prog 77 = false := by kernel_rfl
@[simp] theorem newF_78 : newF Go.Proofs.Tryz.prog 78 = false := by kernel_rfl
@[simp] theorem mutF_78 : mutF Go.Proofs.Tryz.prog 78 = false := by kernel_rfl
@[simp] theorem newF_79 : newF Go.Proofs.Tryz.prog 79 = false := by kernel_rfl
@[simp] theorem mutF_79 : mutF Go.Proofs.Tryz.prog 79 = false := by kernel_rfl
@[simp] theorem newF_80 : newF Go.Proofs.Tryz.prog 80 = false := by kernel_rfl
@[simp] theorem mutF_80 : mutF Go.Proofs.Tryz.prog 80 = false := by kernel_rfl
@[simp] theorem newF_81 : newF Go.Proofs.Tryz.prog 81 = false := by kernel_rfl
@[simp] theorem mutF_81 : mutF Go.Proofs.Tryz.prog 81 = false := by kernel_rfl
@[simp] theorem newF_82 : newF Go.Proofs.Tryz.prog 82 = false := by kernel_rfl
@[simp] theorem mutF_82 : mutF Go.Proofs.Tryz.prog 82 = false := by kernel_rfl
@[simp] theorem newF_83 : newF Go.Proofs.Tryz.prog 83 = false := by kernel_rfl
@[simp] theorem mutF_83 : mutF Go.Proofs.Tryz.prog 83 = false := by kernel_rfl
@[simp] theorem newF_84 : newF Go.Proofs.Tryz.prog 84 = false := by kernel_rfl
@[simp] theorem mutF_84 : mutF Go.Proofs.Tryz.prog 84 = true := by kernel_rfl
@[simp] theorem newF_85 : newF Go.Proofs.Tryz.prog 85 = false := by kernel_rfl
@[simp] theorem mutF_85 : mutF Go.Proofs.Tryz.prog 85 = true := by kernel_rfl
@[simp] theorem newF_86 : newF Go.Proofs.Tryz.prog 86 = false := by kernel_rfl
@[simp] theorem mutF_86 : mutF Go.Proofs.Tryz.prog 86 = false := by kernel_rfl
@[simp] theorem newF_87 : newF Go.Proofs.Tryz.prog 87 = false := by kernel_rfl
@[simp] theorem mutF_87 : mutF Go.Proofs.Tryz.prog 87 = false := by kernel_rfl
@[simp] theorem newF_88 : newF Go.Proofs.Tryz.prog 88 = false := by kernel_rfl
@[simp] theorem mutF_88 : mutF Go.Proofs.Tryz.prog 88 = false := by kernel_rfl
@[simp] theorem newF_89 : newF Go.Proofs.Tryz.prog 89 = false := by kernel_rfl
@[simp] theorem mutF_89 : mutF Go.Proofs.Tryz.prog 89 = false := by kernel_rfl
@[simp] theorem newF_90 : newF Go.Proofs.Tryz.prog 90 = false := by kernel_rfl
@[simp] theorem mutF_90 : mutF Go.Proofs.Tryz.prog 90 = false := by kernel_rfl
@[simp] theorem newF_91 : newF Go.Proofs.Tryz.prog 91 = false := by kernel_rfl
@[simp] theorem mutF_91 : mutF Go.Proofs.Tryz.prog 91 = false := by kernel_rfl
@[simp] theorem newF_92 : newF Go.Proofs.Tryz.prog 92 = false := by kernel_rfl
@[simp] theorem mutF_92 : mutF Go.Proofs.Tryz.prog 92 = false := by kernel_rfl
@[simp] theorem newF_93 : newF Go.Proofs.Tryz.prog 93 = false := by kernel_rfl
@[simp] theorem mutF_93 : mutF Go.Proofs.Tryz.prog 93 = true := by kernel_rfl
@[simp] theorem newF_94 : newF Go.Proofs.Tryz.prog 94 = false := by kernel_rfl
@[simp] theorem mutF_94 : mutF Go.Proofs.Tryz.prog 94 = false := by kernel_rfl
@[simp] theorem newF_95 : newF Go.Proofs.Tryz.prog 95 = true := by kernel_rfl
@[simp] theorem mutF_95 : mutF Go.Proofs.Tryz.prog 95 = false := by kernel_rfl
@[simp] theorem newF_96 : newF Go.Proofs.Tryz.prog 96 = false := by kernel_rfl
@[simp] theorem mutF_96 : mutF Go.Proofs.Tryz.prog 96 = false := by kernel_rfl
@[simp] theorem newF_97 : newF Go.Proofs.Tryz.prog 97 = false := by kernel_rfl
@[simp] theorem mutF_97 : mutF Go.Proofs.Tryz.prog 97 = true := by kernel_rfl
@[simp] theorem newF_98 : newF Go.Proofs.Tryz.prog 98 = false := by kernel_rfl
@[simp] theorem mutF_98 : mutF Go.Proofs.Tryz.prog 98 = false := by kernel_rfl
@[simp] theorem newF_99 : newF Go.Proofs.Tryz.prog 99 = false := by kernel_rfl
@[simp] theorem mutF_99 : mutF Go.Proofs.Tryz.prog 99 = true := by kernel_rfl
@[simp] theorem newF_100 : newF Go.Proofs.Tryz.prog 100 = false := by kernel_rfl
@[simp] theorem mutF_100 : mutF Go.Proofs.Tryz.prog 100 = true := by kernel_rfl
@[simp] theorem newF_101 : newF Go.Proofs.Tryz.prog 101 = false := by kernel_rfl
@[simp] theorem mutF_101 : mutF Go.Proofs.Tryz.prog 101 = false := by kernel_rfl
@[simp] theorem newF_102 : newF Go.Proofs.Tryz.prog 102 = false := by kernel_rfl
@[simp] theorem mutF_102 : mutF Go.Proofs.Tryz.prog 102 = false := by kernel_rfl
@[simp] theorem newF_103 : newF Go.Proofs.Tryz.prog 103 = false := by kernel_rfl
@[simp] theorem mutF_103 : mutF Go.Proofs.Tryz.prog 103 = false := by kernel_rfl
@[simp] theorem newF_104 : newF Go.Proofs.Tryz.prog 104 = false := by kernel_rfl
@[simp] theorem mutF_104 : mutF Go.Proofs.Tryz.prog 104 = false := by kernel_rfl
@[simp] theorem newF_105 : newF Go.Proofs.Tryz.prog 105 = false := by kernel_rfl
@[simp] theorem mutF_105 : mutF Go.Proofs.Tryz.prog 105 = false := by kernel_rfl
@[simp] theorem newF_106 : newF Go.Proofs.Tryz.prog 106 = false := by kernel_rfl
@[simp] theorem mutF_106 : mutF Go.Proofs.Tryz.prog 106 = true := by kernel_rfl
@[simp] theorem newF_107 : newF Go.Proofs.Tryz.prog 107 = false := by kernel_rfl
@[simp] theorem mutF_107 : mutF Go.Proofs.Tryz.prog 107 = true := by kernel_rfl
@[simp] theorem newF_108 : newF Go.Proofs.Tryz.prog 108 = false := by kernel_rfl
@[simp] theorem mutF_108 : mutF Go.Proofs.Tryz.prog 108 = true := by kernel_rfl
@[simp] theorem newF_109 : newF Go.Proofs.Tryz.prog 109 = false := by kernel_rfl
@[simp] theorem mutF_109 : mutF Go.Proofs.Tryz.prog 109 = false := by kernel_rfl
@[simp] theorem newF_110 : newF Go.Proofs.Tryz.prog 110 = false := by kernel_rfl
@[simp] theorem mutF_110 : mutF Go.Proofs.Tryz.prog 110 = true := by kernel_rfl
@[simp] theorem newF_111 : newF Go.Proofs.Tryz.prog 111 = false := by kernel_rfl
@[simp] theorem mutF_111 : mutF Go.Proofs.Tryz.prog 111 = false := by kernel_rfl
@[simp] theorem newF_112 : newF Go.Proofs.Tryz.prog 112 = false := by kernel_rfl
@[simp] theorem mutF_112 : mutF Go.Proofs.Tryz.prog 112 = false := by kernel_rfl
@[simp] theorem newF_113 : newF Go.Proofs.Tryz.prog 113 = false := by kernel_rfl
@[simp] theorem mutF_113 : mutF Go.Proofs.Tryz.prog 113 = false := by kernel_rfl
@[simp] theorem newF_114 : newF Go.Proofs.Tryz.prog 114 = false := by kernel_rfl
@[simp] theorem mutF_114 : mutF Go.Proofs.Tryz.prog 114 = false := by kernel_rfl
@[simp] theorem newF_115 : newF Go.Proofs.Tryz.prog 115 = false := by kernel_rfl
@[simp] theorem mutF_115 : mutF Go.Proofs.Tryz.prog 115 = false := by kernel_rfl
@[simp] theorem newF_116 : newF Go.Proofs.Tryz.prog 116 = false := by kernel_rfl
@[simp] theorem mutF_116 : mutF Go.Proofs.Tryz.prog 116 = false := by kernel_rfl
@[simp] theorem newF_117 : newF Go.Proofs.Tryz.prog 117 = true := by kernel_rfl
@[simp] theorem mutF_117 : mutF Go.Proofs.Tryz.prog 117 = false := by kernel_rfl
@[simp] theorem newF_118 : newF Go.Proofs.Tryz.prog 118 = true := by kernel_rfl
@[simp] theorem mutF_118 : mutF Go.Proofs.Tryz.prog 118 = false := by kernel_rfl
@[simp] theorem newF_119 : newF Go.Proofs.Tryz.prog 119 = false := by kernel_rfl
@[simp] theorem mutF_119 : mutF Go.Proofs.Tryz.prog 119 = false := by kernel_rfl
@[simp] theorem newF_120 : newF Go.Proofs.Tryz.prog 120 = false := by kernel_rfl
@[simp] theorem mutF_120 : mutF Go.Proofs.Tryz.prog 120 = false := by kernel_rfl
@[simp] theorem newF_121 : newF Go.Proofs.Tryz.prog 121 = false := by kernel_rfl
@[simp] theorem mutF_121 : mutF Go.Proofs.Tryz.prog 121 = true := by kernel_rfl
@[simp] theorem newF_122 : newF Go.Proofs.Tryz.prog 122 = false := by kernel_rfl
@[simp] theorem mutF_122 : mutF Go.Proofs.Tryz.prog 122 = false := by kernel_rfl
@[simp] theorem newF_123 : newF Go.Proofs.Tryz.prog 123 = false := by kernel_rfl
@[simp] theorem mutF_123 : mutF Go.Proofs.Tryz.prog 123 = false := by kernel_rfl
@[simp] theorem newF_124 : newF Go.Proofs.Tryz.prog 124 = false := by kernel_rfl
@[simp] theorem mutF_124 : mutF Go.Proofs.Tryz.prog 124 = false := by kernel_rfl
@[simp] theorem newF_125 : newF Go.Proofs.Tryz.prog 125 = false := by kernel_rfl
@[simp] theorem mutF_125 : mutF Go.Proofs.Tryz.prog 125 = false := by kernel_rfl
@[simp] theorem newF_126 : newF Go.Proofs.Tryz.prog 126 = true := by kernel_rfl
@[simp] theorem mutF_126 : mutF Go.Proofs.Tryz.prog 126 = false := by kernel_rfl
@[simp] theorem newF_127 : newF Go.Proofs.Tryz.prog 127 = false := by kernel_rfl
@[simp] theorem mutF_127 : mutF Go.Proofs.Tryz.prog 127 = false := by kernel_rfl
@[simp] theorem newF_128 : newF Go.Proofs.Tryz.prog 128 = false := by kernel_rfl
@[simp] theorem mutF_128 : mutF Go.Proofs.Tryz.prog 128 = false := by kernel_rfl
@[simp] theorem newF_129 : newF Go.Proofs.Tryz.prog 129 = false := by kernel_rfl
@[simp] theorem mutF_129 : mutF Go.Proofs.Tryz.prog 129 = false := by kernel_rfl
@[simp] theorem newF_130 : newF Go.Proofs.Tryz.prog 130 = false := by kernel_rfl
@[simp] theorem mutF_130 : mutF Go.Proofs.Tryz.prog 130 = false := by kernel_rfl
@[simp] theorem newF_131 : newF Go.Proofs.Tryz.prog 131 = false := by kernel_rfl
@[simp] theorem mutF_131 : mutF Go.Proofs.Tryz.prog 131 = true := by kernel_rfl
@[simp] theorem newF_132 : newF Go.Proofs.Tryz.prog 132 = false := by kernel_rfl
@[simp] theorem mutF_132 : mutF Go.Proofs.Tryz.prog 132 = false := by kernel_rfl
@[simp] theorem newF_133 : newF Go.Proofs.Tryz.prog 133 = false := by kernel_rfl
@[simp] theorem mutF_133 : mutF Go.Proofs.Tryz.prog 133 = true := by kernel_rfl
@[simp] theorem newF_134 : newF Go.Proofs.Tryz.prog 134 = false := by kernel_rfl
@[simp] theorem mutF_134 : mutF Go.Proofs.Tryz.prog 134 = false := by kernel_rfl
@[simp] theorem newF_135 : newF Go.Proofs.Tryz.prog 135 = false := by kernel_rfl
@[simp] theorem mutF_135 : mutF Go.Proofs.Tryz.prog 135 = true := by kernel_rfl
@[simp] theorem newF_136 : newF Go.Proofs.Tryz.prog 136 = false := by kernel_rfl
@[simp] theorem mutF_136 : mutF Go.Proofs.Tryz.prog 136 = false := by kernel_rfl
@[simp] theorem newF_137 : newF Go.Proofs.Tryz.prog 137 = false := by kernel_rfl
@[simp] theorem mutF_137 : mutF Go.Proofs.Tryz.prog 137 = true := by kernel_rfl
@[simp] theorem newF_138 : newF Go.Proofs.Tryz.prog 138 = false := by kernel_rfl
@[simp] theorem mutF_138 : mutF Go.Proofs.Tryz.prog 138 = false := by kernel_rfl
@[simp] theorem newF_139 : newF Go.Proofs.Tryz.prog 139 = false := by kernel_rfl
@[simp] theorem mutF_139 : mutF Go.Proofs.Tryz.prog 139 = true := by kernel_rfl
@[simp] theorem newF_140 : newF Go.Proofs.Tryz.prog 140 = false := by kernel_rfl
@[simp] theorem mutF_140 : mutF Go.Proofs.Tryz.prog 140 = false := by kernel_rfl
@[simp] theorem newF_141 : newF Go.Proofs.Tryz.prog 141 = false := by kernel_rfl
@[simp] theorem mutF_141 : mutF Go.Proofs.Tryz.prog 141 = true := by kernel_rfl
@[simp] theorem newF_142 : newF Go.Proofs.Tryz.prog 142 = false := by kernel_rfl
@[simp] theorem mutF_142 : mutF Go.Proofs.Tryz.prog 142 = false := by kernel_rfl
@[simp] theorem newF_143 : newF Go.Proofs.Tryz.prog 143 = false := by kernel_rfl
@[simp] theorem mutF_143 : mutF Go.Proofs.Tryz.prog 143 = false := by kernel_rfl
@[simp] theorem newF_144 : newF Go.Proofs.Tryz.prog 144 = false := by kernel_rfl
@[simp] theorem mutF_144 : mutF Go.Proofs.Tryz.prog 144 = true := by kernel_rfl
@[simp] theorem newF_145 : newF Go.Proofs.Tryz.prog 145 = false := by kernel_rfl
@[simp] theorem mutF_145 : mutF Go.Proofs.Tryz.prog 145 = false := by kernel_rfl
@[simp] theorem newF_146 : newF Go.Proofs.Tryz.prog 146 = false := by kernel_rfl
@[simp] theorem mutF_146 : mutF Go.Proofs.Tryz.prog 146 = false := by kernel_rfl
end Go.Am
end

section
set_option linter.unusedVariables false
set_option linter.unusedSimpArgs false
namespace Go.Proofs
open Go.RowKit Go.Maps Go.Sort Go.Shelf
def Tryz.keysB_ren : Go.Shelf.Ren := ⟨fun | 7 => 71 | 10 => 85 | n => n, fun | 23 => 85 | 26 => 3 | 3 => 51 | 28 => 109 | 0 => 0 | 27 => 108 | 33 => 118 | 4 => 4 | n => n, fun | n => n⟩
theorem Tryz.keysB : Go.Proofs.SlLaysZI.n7 Tryz.prog Tryz.keysB_ren := {
  mixed := by kernel_rfl,
  f7 := ⟨Tryz.f71.name, by decide, Tryz.func71.trans (congrArg some (by kernel_rfl))⟩,
  f10 := ⟨Tryz.f85.name, by decide, Tryz.func85.trans (congrArg some (by kernel_rfl))⟩,
  t0 := Tryz.underlying0,
  a0 := Tryz.isAgg0,
  z0 := Tryz.sizeOf0,
  v0 := Tryz.zeroValue0,
  t4 := Tryz.underlying4,
  a4 := Tryz.isAgg4,
  z4 := Tryz.sizeOf4,
  v4 := Tryz.zeroValue4,
  t23 := Tryz.underlying85,
  a23 := Tryz.isAgg85,
  z23 := Tryz.sizeOf85,
  v23 := Tryz.zeroValue85,
  t26 := Tryz.underlying3,
  a26 := Tryz.isAgg3,
  z26 := Tryz.sizeOf3,
  v26 := Tryz.zeroValue3,
  t27 := Tryz.underlying108,
  a27 := Tryz.isAgg108,
  z27 := Tryz.sizeOf108,
  v27 := Tryz.zeroValue108,
  t28 := Tryz.underlying109,
  a28 := Tryz.isAgg109,
  z28 := Tryz.sizeOf109,
  v28 := Tryz.zeroValue109,
  t33 := Tryz.underlying118,
  a33 := Tryz.isAgg118,
  z33 := Tryz.sizeOf118,
  v33 := Tryz.zeroValue118 }
def Tryz.sortedA_ren : Go.Shelf.Ren := ⟨fun | 6 => 70 | 8 => 83 | 9 => 84 | 11 => 92 | 13 => 94 | 12 => 93 | 23 => 115 | 24 => 116 | 14 => 106 | 15 => 107 | 16 => 108 | 17 => 109 | 18 => 110 | 19 => 111 | 20 => 112 | 21 => 113 | 22 => 114 | 25 => 121 | 26 => 122 | 27 => 123 | 28 => 124 | 29 => 125 | 30 => 104 | 31 => 129 | n => n, fun | 26 => 3 | 28 => 109 | 24 => 68 | 0 => 0 | 3 => 3 | 37 => 93 | 48 => 92 | 50 => 90 | 4 => 4 | 40 => 145 | 39 => 144 | 45 => 103 | 5 => 5 | 9 => 9 | 51 => 156 | 55 => 160 | 57 => 166 | 58 => 167 | 33 => 118 | n => n, fun | n => n⟩
theorem Tryz.sortedA : Go.Proofs.SlLaysZI.n6 Tryz.prog Tryz.sortedA_ren := {
  mixed := by kernel_rfl,
  f6 := ⟨Tryz.f70.name, by decide, Tryz.func70.trans (congrArg some (by kernel_rfl))⟩,
  f8 := ⟨Tryz.f83.name, by decide, Tryz.func83.trans (congrArg some (by kernel_rfl))⟩,
  f11 := ⟨Tryz.f92.name, by decide, Tryz.func92.trans (congrArg some (by kernel_rfl))⟩,
  t0 := Tryz.underlying0,
  a0 := Tryz.isAgg0,
  z0 := Tryz.sizeOf0,
  v0 := Tryz.zeroValue0,
  t24 := Tryz.underlying68,
  a24 := Tryz.isAgg68,
  z24 := Tryz.sizeOf68,
  v24 := Tryz.zeroValue68,
  t26 := Tryz.underlying3,
  a26 := Tryz.isAgg3,
  z26 := Tryz.sizeOf3,
  v26 := Tryz.zeroValue3,
  t28 := Tryz.underlying109,
  a28 := Tryz.isAgg109,
  z28 := Tryz.sizeOf109,
  v28 := Tryz.zeroValue109,
  i26 := by kernel_rfl }
def Tryz.sortA_ren : Go.Shelf.Ren := ⟨fun | 5 => 84 | 8 => 94 | 7 => 93 | 19 => 115 | 20 => 116 | 10 => 106 | 11 => 107 | 12 => 108 | 13 => 109 | 14 => 110 | 15 => 111 | 16 => 112 | 17 => 113 | 18 => 114 | 30 => 121 | 31 => 122 | 32 => 123 | 33 => 124 | 34 => 125 | 35 => 104 | 40 => 129 | n => n, fun | 23 => 68 | 25 => 3 | 3 => 3 | 32 => 93 | 22 => 68 | 0 => 0 | 44 => 92 | 46 => 90 | 4 => 4 | 36 => 145 | 35 => 144 | 41 => 103 | 5 => 5 | 9 => 9 | 53 => 156 | 57 => 160 | 63 => 166 | 64 => 167 | n => n, fun | n => n⟩
theorem Tryz.sortA : Go.Proofs.SlLaysM.n5 Tryz.prog Tryz.sortA_ren := {
  mixed := by kernel_rfl,
  f5 := ⟨Tryz.f84.name, by decide, Tryz.func84.trans (congrArg some (by kernel_rfl))⟩,
  f7 := ⟨Tryz.f93.name, by decide, Tryz.func93.trans (congrArg some (by kernel_rfl))⟩,
  f8 := Tryz.func94.trans (congrArg some (by kernel_rfl)),
  f10 := ⟨Tryz.f106.name, by decide, Tryz.func106.trans (congrArg some (by kernel_rfl))⟩,
  f11 := ⟨Tryz.f107.name, by decide, Tryz.func107.trans (congrArg some (by kernel_rfl))⟩,
  f12 := ⟨Tryz.f108.name, by decide, Tryz.func108.trans (congrArg some (by kernel_rfl))⟩,
  f13 := ⟨Tryz.f109.name, by decide, Tryz.func109.trans (congrArg some (by kernel_rfl))⟩,
  f14 := ⟨Tryz.f110.name, by decide, Tryz.func110.trans (congrArg some (by kernel_rfl))⟩,
  f15 := ⟨Tryz.f111.name, by decide, Tryz.func111.trans (congrArg some (by kernel_rfl))⟩,
  f16 := ⟨Tryz.f112.name, by decide, Tryz.func112.trans (congrArg some (by kernel_rfl))⟩,
  f17 := ⟨Tryz.f113.name, by decide, Tryz.func113.trans (congrArg some (by kernel_rfl))⟩,
  f18 := ⟨Tryz.f114.name, by decide, Tryz.func114.trans (congrArg some (by kernel_rfl))⟩,
  f19 := Tryz.func115.trans (congrArg some (by kernel_rfl)),
  f20 := Tryz.func116.trans (congrArg some (by kernel_rfl)),
  f30 := ⟨Tryz.f121.name, by decide, Tryz.func121.trans (congrArg some (by kernel_rfl))⟩,
  f31 := Tryz.func122.trans (congrArg some (by kernel_rfl)),
  f32 := Tryz.func123.trans (congrArg some (by kernel_rfl)),
  f33 := ⟨Tryz.f124.name, by decide, Tryz.func124.trans (congrArg some (by kernel_rfl))⟩,
  f34 := ⟨Tryz.f125.name, by decide, Tryz.func125.trans (congrArg some (by kernel_rfl))⟩,
  f35 := ⟨Tryz.f104.name, by decide, Tryz.func104.trans (congrArg some (by kernel_rfl))⟩,
  f40 := ⟨Tryz.f129.name, by decide, Tryz.func129.trans (congrArg some (by kernel_rfl))⟩,
  t0 := Tryz.underlying0,
  a0 := Tryz.isAgg0,
  z0 := Tryz.sizeOf0,
  v0 := Tryz.zeroValue0,
  t3 := Tryz.underlying3,
  a3 := Tryz.isAgg3,
  z3 := Tryz.sizeOf3,
  v3 := Tryz.zeroValue3,
  t4 := Tryz.underlying4,
  a4 := Tryz.isAgg4,
  z4 := Tryz.sizeOf4,
  v4 := Tryz.zeroValue4,
  t5 := Tryz.underlying5,
  a5 := Tryz.isAgg5,
  z5 := Tryz.sizeOf5,
  v5 := Tryz.zeroValue5,
  t9 := Tryz.underlying9,
  a9 := Tryz.isAgg9,
  z9 := Tryz.sizeOf9,
  v9 := Tryz.zeroValue9,
  t22 := Tryz.underlying68,
  a22 := Tryz.isAgg68,
  z22 := Tryz.sizeOf68,
  v22 := Tryz.zeroValue68,
  t23 := Tryz.underlying68,
  a23 := Tryz.isAgg68,
  z23 := Tryz.sizeOf68,
  v23 := Tryz.zeroValue68,
  t25 := Tryz.underlying3,
  a25 := Tryz.isAgg3,
  z25 := Tryz.sizeOf3,
  v25 := Tryz.zeroValue3,
  t32 := Tryz.underlying93,
  a32 := Tryz.isAgg93,
  z32 := Tryz.sizeOf93,
  v32 := Tryz.zeroValue93,
  t35 := Tryz.underlying144,
  a35 := Tryz.isAgg144,
  z35 := Tryz.sizeOf144,
  v35 := Tryz.zeroValue144,
  t36 := Tryz.underlying145,
  a36 := Tryz.isAgg145,
  z36 := Tryz.sizeOf145,
  v36 := Tryz.zeroValue145,
  t41 := Tryz.underlying103,
  a41 := Tryz.isAgg103,
  z41 := Tryz.sizeOf103,
  v41 := Tryz.zeroValue103,
  t44 := Tryz.underlying92,
  a44 := Tryz.isAgg92,
  z44 := Tryz.sizeOf92,
  v44 := Tryz.zeroValue92,
  t46 := Tryz.underlying90,
  a46 := Tryz.isAgg90,
  z46 := Tryz.sizeOf90,
  v46 := Tryz.zeroValue90,
  t53 := Tryz.underlying156,
  a53 := Tryz.isAgg156,
  z53 := Tryz.sizeOf156,
  v53 := Tryz.zeroValue156,
  t57 := Tryz.underlying160,
  a57 := Tryz.isAgg160,
  z57 := Tryz.sizeOf160,
  v57 := Tryz.zeroValue160,
  t63 := Tryz.underlying166,
  a63 := Tryz.isAgg166,
  z63 := Tryz.sizeOf166,
  v63 := Tryz.zeroValue166,
  t64 := Tryz.underlying167,
  a64 := Tryz.isAgg167,
  z64 := Tryz.sizeOf167,
  v64 := Tryz.zeroValue167 }
theorem Tryz.sortsA (m : Nat) : AnyZI.SortsIn Tryz.prog Tryz.sortedA_ren Fence.wide m :=
  ⟨fun blk off cap ss W hH hblk hsz => callsIn_wide.2 (AnyM.slices_Sort_int Tryz.sortA blk off cap ss W hH hblk hsz),
   fun p cap W => callsIn_wide.2 (AnyM.slices_Sort_int_none Tryz.sortA p cap W)⟩
theorem Tryz.keys106 : Am.KeysSpec Tryz.prog 71 85 := fun W b =>
  ⟨fun w => enters_of Tryz.func71 (by kernel_rfl) rfl _ w, (callsIn_wide (n := 5)).1 ((AnyZI.keys_in Tryz.keysB Fence.wide 5 trivial rfl (some b) W).mono (by rintro e w' ⟨rfl, rfl⟩; exact ⟨_, rfl, rfl⟩))⟩
theorem isort_perm : ∀ l : List Int, (Am.isort l).Perm l
  | [] => .nil
  | n :: l => by
    have h1 : ∀ (m : List Int), (Am.ins n m).Perm (n :: m) := by
      intro m
      induction m with
      | nil => exact .refl _
      | cons x m ih =>
        unfold Am.ins
        split
        · exact .refl _
        · exact (ih.cons x).trans (.swap n x m)
    exact (h1 _).trans ((isort_perm l).cons n)
theorem isort_sorted : ∀ l : List Int, (Am.isort l).Pairwise (fun a b => a ≤ b)
  | [] => .nil
  | n :: l => by
    have h1 : ∀ (m : List Int), m.Pairwise (fun a b => a ≤ b) → (Am.ins n m).Pairwise (fun a b => a ≤ b) := by
      intro m
      induction m with
      | nil => intro _; simp [Am.ins]
      | cons x m ih =>
        intro h
        unfold Am.ins
        have h' := List.pairwise_cons.1 h
        split
        · rename_i hx
          exact List.pairwise_cons.2 ⟨fun a ha => by
            rcases List.mem_cons.1 ha with rfl | ha
            · exact hx
            · exact Int.le_trans hx (h'.1 a ha), h⟩
        · rename_i hx
          refine List.pairwise_cons.2 ⟨fun a ha => ?_, ih h'.2⟩
          have hp : (Am.ins n m).Perm (n :: m) := by
            clear ih h h' ha
            induction m with
            | nil => exact .refl _
            | cons y m ih =>
              unfold Am.ins
              split
              · exact .refl _
              · exact (ih.cons y).trans (.swap n y m)
          rcases List.mem_cons.1 (hp.mem_iff.1 ha) with rfl | ha
          · omega
          · exact h'.1 a ha
    exact h1 _ (isort_sorted l)
theorem mergeSort_isort (ss ks : List Int) (h : ss.Perm ks) : ss.mergeSort (fun x y => decide (x ≤ y)) = Am.isort ks := by
  have tr : ∀ a b c : Int, decide (a ≤ b) = true → decide (b ≤ c) = true → decide (a ≤ c) = true := fun a b c h1 h2 => by simp only [decide_eq_true_eq] at *; exact Int.le_trans h1 h2
  have to : ∀ a b : Int, (decide (a ≤ b) || decide (b ≤ a)) = true := fun a b => by simp only [Bool.or_eq_true, decide_eq_true_eq]; exact Int.le_total a b
  refine List.Perm.eq_of_pairwise (le := fun a b => decide (a ≤ b) = true) (fun a b _ _ h1 h2 => ?_) (List.pairwise_mergeSort tr to ss) ((isort_sorted ks).imp fun h => by simpa using h) (((List.mergeSort_perm ss _).trans h).trans (isort_perm ks).symm)
  simp only [decide_eq_true_eq] at h1 h2
  exact Int.le_antisymm h1 h2
theorem keyOf_ok {P : Program} {k : TypeId} (hk : P.underlying k = some (.int .i64)) {n : Int} (hn : Am.inr n = true) : keyOf P k (.int .i64 n) = some (.int .i64 n) := by
  have hw : (Lit.int .i64 n).wf = true := by
    have hmin : IntKind.i64.min = -9223372036854775808 := rfl
    have hmax : IntKind.i64.max = 9223372036854775807 := rfl
    simp only [Am.inr, decide_eq_true_eq] at hn
    simp only [Lit.wf, Bool.and_eq_true, decide_eq_true_eq]
    omega
  simp [keyOf, hk, mapKey, hw]
set_option maxRecDepth 20000 in
theorem sorted_core (f g : FuncId) (T3 : TypeId) (hk3 : Tryz.prog.underlying T3 = some (.int .i64)) (hent : ∀ args w, (callFunc f args).run Tryz.prog w = .ok (.enter f args) w)
    (hS : ∀ (lb : Array Value) (S : List Int → Prop) (N : Nat), N ≤ maxLen → N * 8 ≤ 140737488355328 → ∀ w, SeqGives Fence.wide 2 Tryz.prog g lb encZ S N w → CallsIn Fence.wide 5 Tryz.prog f #[.func (.func g) #[] lb] w fun e w' =>
      ∃ v ss, e = .returned v ∧ S ss ∧ w'.ownsRow w.heap.size T3 1 v ss.length ((ss.mergeSort fun x y => decide (x ≤ y)).map encZ) ∧ (v = .slice none 0 0 ↔ ss = []) ∧ Below w.heap.size w w')
    (hG : ∀ (Bm b nn : Nat) (D0 : DataW Unit) (R : Value → Option (DataW Unit × List MemPlace)) (w : World), Bm < w.heap.size → w.cell? ⟨Bm, 0, none⟩ = some (.map (some b)) → w.ownsMap Tryz.prog T3 R b nn D0 →
      SeqGives Fence.wide 2 Tryz.prog g #[.pointer (some ⟨Bm, 0, none⟩)] encZ (fun ss => ss.Perm (intKeys D0)) (Maps.size D0) w) : Am.SortedSpec Tryz.prog f g := by
  intro W b p e ks ents clock hb hst hkeys hp hlen hr
  refine ⟨fun w => hent _ w, (callsIn_wide (n := 5)).1 ?_⟩
  have hpl : p < W.heap.size := (Array.getElem?_eq_some_iff.1 hp).1
  have hcell : W.cell? ⟨p, 0, none⟩ = some (.map (some b)) := by
    rw [show W.cell? ⟨p, 0, none⟩ = (#[Value.map (some b)] : Array Value)[0]? from cell_of_row W p 0 _ e (0, 0) hp]; rfl
  have hsz : ents.size = ks.length := by have := congrArg List.length hkeys; simpa using this
  let R : Value → Option (DataW Unit × List MemPlace) := fun _ => some (.nil, [])
  have hrd : ∀ x ∈ ents.toList, ∃ n, n ∈ ks ∧ x.key = .int .i64 n ∧ WideElems.rd Tryz.prog T3 R x = some (.int .i64 n, .nil) := by
    intro x hx
    have : x.key ∈ ks.map (.int .i64 ·) := by rw [← hkeys]; exact List.mem_map_of_mem hx
    obtain ⟨n, hn, he⟩ := List.mem_map.1 this
    refine ⟨n, hn, he.symm, ?_⟩
    simp [WideElems.rd, ← he, keyOf_ok hk3 (List.all_eq_true.1 hr n hn), R]
  have hfit : WideElems.Fit Tryz.prog T3 R ents clock := ⟨by rw [hsz]; simp only [maxLen]; omega, hst, fun x hx => let ⟨n, _, _, h⟩ := hrd x hx; ⟨_, h⟩⟩
  have hks2 : ∀ (l : List MapEntry) (k : List Int), l.map (·.key) = k.map (.int .i64 ·) → (∀ x ∈ l, ∃ n, n ∈ ks ∧ x.key = .int .i64 n ∧ WideElems.rd Tryz.prog T3 R x = some (.int .i64 n, .nil)) → (l.map (WideElems.rg Tryz.prog T3 R)).map (fun q => Go.intOf q.1) = k := by
    intro l
    induction l with
    | nil => intro k hk _; cases k with
      | nil => rfl
      | cons => simp at hk
    | cons x l ih =>
      intro k hk h
      cases k with
      | nil => simp at hk
      | cons m k =>
        simp only [List.map_cons, List.cons.injEq] at hk ⊢
        refine ⟨?_, ih k hk.2 fun y hy => h y (List.mem_cons_of_mem _ hy)⟩
        obtain ⟨n, _, hxn, hxr⟩ := h x (List.mem_cons_self ..)
        rw [hxn] at hk
        have := hk.1
        injection this with _ this
        simp [WideElems.rg, hxr, Go.intOf, this]
  have hD : (intKeys (.map ((ents.toList.map (WideElems.rg Tryz.prog T3 R)).foldr DataW.insert []))).Perm ks := by
    show (((ents.toList.map (WideElems.rg Tryz.prog T3 R)).foldr DataW.insert []).map fun q => Go.intOf q.1).Perm ks
    have h1 := (WideShapes.sorted_perm (ents.toList.map (WideElems.rg Tryz.prog T3 R))).map (fun q : Lit × DataW Unit => Go.intOf q.1)
    rwa [hks2 _ ks hkeys hrd] at h1
  have hN : Maps.size (.map ((ents.toList.map (WideElems.rg Tryz.prog T3 R)).foldr DataW.insert []) : DataW Unit) = ks.length := by
    have := hD.length_eq
    simpa [intKeys, Maps.size] using this
  have hseq := hG p b ents.size (.map ((ents.toList.map (WideElems.rg Tryz.prog T3 R)).foldr DataW.insert [])) R W hpl hcell ⟨ents, clock, hb, hfit, Nat.le_refl _, rfl⟩
  rw [hN] at hseq
  refine (hS _ _ _ (by simp only [maxLen]; omega) (by omega) W hseq).mono ?_
  rintro e' w' ⟨v, ss, rfl, hperm, hrow, hnil, hbl⟩
  refine ⟨v, rfl, hbl, ?_⟩
  rw [mergeSort_isort ss ks (hperm.trans hD)] at hrow
  have hssl : ss.length = ks.length := (hperm.trans hD).length_eq
  obtain ⟨hl, ⟨rfl, h0⟩ | ⟨gg, cap, cur, rfl, hg, hheap, h1, h2, h3, h4⟩⟩ := hrow
  · have : Am.isort ks = [] := by
      apply List.eq_nil_of_length_eq_zero
      simp at hl; omega
    rw [this]
    exact .sl0 _ _
  · have hil : (Am.isort ks).length = ss.length := by simpa using hl
    refine .sl _ ⟨gg, 0, none⟩ _ _ 1 (fun j => .int .i64 ((Am.isort ks).getD j 0)) (by simp [hil]) h1 (fun cs hcs => by obtain ⟨n, _, rfl⟩ := List.mem_map.1 hcs; rfl) ⟨hg, (Array.getElem?_eq_some_iff.1 hheap).1⟩ (fun j hj => ?_) (fun j k cs c hj hk => ?_)
    · rw [Am.add_mk, cell_of_row w' gg _ cur T3 (0, 0) hheap, Nat.zero_add]
      have : cur.toList[j]? = ((Am.isort ks).map encZ)[j]? := by
        rw [← h4, List.getElem?_take, if_pos (by omega)]
      rw [← Array.getElem?_toList, this, List.getElem?_map]
      have hj2 : j < (Am.isort ks).length := by omega
      simp [List.getElem?_eq_getElem hj2, List.getD_eq_getElem?_getD]
    · rw [List.getElem?_map] at hj
      obtain ⟨n, hn, rfl⟩ := Option.map_eq_some_iff.1 hj
      rcases k with _ | k
      · simp at hk; subst hk
        simp only [Nat.mul_one, Nat.add_zero, List.getD_eq_getElem?_getD, hn, Option.getD_some]
        exact .i _ _
      · simp at hk
set_option maxRecDepth 20000 in
set_option maxRecDepth 20000 in
theorem Tryz.sorted122 : Am.SortedSpec Tryz.prog 70 85 :=
  sorted_core 70 85 3 (by kernel_rfl) (fun args w => enters_of Tryz.func70 (by kernel_rfl) rfl args w)
    (fun lb S N h1 h2 w hs => AnyZI.sorted_in Tryz.sortedA Fence.wide 5 trivial trivial trivial trivial rfl (by omega) (Tryz.sortsA _) (enters_of Tryz.func84 (by kernel_rfl) rfl) 85 lb trivial (enters_of Tryz.func85 (by kernel_rfl) rfl) S N h1 h2 w hs)
    (fun Bm b nn D0 R w h1 h2 h3 => AnyZI.keys_gives (ρ := Tryz.keysB_ren) { Tryz.keysB with } Fence.wide _ trivial rfl (by omega) Bm b nn D0 w h1 h2 h3)
end Go.Proofs
end

section
set_option linter.unusedVariables false
set_option linter.unusedSimpArgs false
open Go Go.Am Go.Proofs
namespace Go.Am
def clOk (els : List (List D)) : Bool := els.all (fun cs => match cs with | [d] => one (.d d) | _ => false) && decide (els.length ≤ 1099511627776)
set_option maxRecDepth 10000 in
theorem clone_any (els : List (List D)) (h : clOk els = true) : Spec Tryz.prog 72 [.sl els] (.sl els) := by
  have hone : ∀ els : List (List D), els.all (fun cs => match cs with | [d] => one (.d d) | _ => false) = true → (els.flatten.map AV.d).all one = true ∧ els.flatten.length = els.length ∧ okHead 1 els = true ∧
      chunk 1 els.length els.flatten = els := by
    intro els h
    have key : ∃ ds : List D, els = ds.map (fun d => [d]) ∧ (ds.map AV.d).all one = true := by
      induction els with
      | nil => exact ⟨[], rfl, rfl⟩
      | cons c l ih =>
        simp only [List.all_cons, Bool.and_eq_true] at h
        obtain ⟨ds, hds, hd1⟩ := ih h.2
        have h1 := h.1
        split at h1
        · rename_i d; exact ⟨d :: ds, by rw [hds]; rfl, by simp only [List.map_cons, List.all_cons, Bool.and_eq_true]; exact ⟨h1, hd1⟩⟩
        · cases h1
    obtain ⟨ds, rfl, hd1⟩ := key
    have hfl : (ds.map (fun d => [d])).flatten = ds := by simp [← List.flatMap_def]
    rw [hfl]
    refine ⟨hd1, by simp, by cases ds <;> simp [okHead], ?_⟩
    simp only [chunk, List.length_map]
    refine List.ext_getElem (by simp) fun i h1 h2 => ?_
    simp at h1 h2
    simp [List.take_one, List.head?_drop, h1]
  simp only [clOk, Bool.and_eq_true, decide_eq_true_eq] at h
  obtain ⟨q1, q2, q3, q4⟩ := hone els h.1
  refine spec_of (N := 8) follows_mixed Tryz.func72 rfl rfl rfl (by kernel_rfl) (by kernel_rfl) (by simp) ?_
  show AWP Tryz.prog (.seq _ (.seq (.seq _ (.cond _ _ _)) (.seq (.region _ _ _) _))) _ _
  have hb : ∀ b, isNilA (.d (.sl els)) = some b → b = none ∧ els = [] ∨ b = some false := by
    intro b hb
    cases els with
    | nil => simp [isNilA] at hb; exact .inl ⟨hb.symm, rfl⟩
    | cons => simp [isNilA] at hb; exact .inr hb.symm
  have hl : els.length ≤ 1099511627776 := h.2
  have e1 : (els.flatten.map AV.d).length = els.length := by rw [List.length_map]; exact q2
  cases els with
  | nil =>
    simp [AWP, OW, O1, wantedA, kind, nev, oev, St0, cv, cv1, putA, upd, addB, cnt, fin, Γ0, nilA, pureA, isNilA, nilB, inj1, appA, srcA, okHead, fillA, resD, res1, frzs, Tryz.f72, Option.bind, kill, chunk, Value.cells, Value.oneCell', scrub, scrub1, scrub0, scrubO, maxLen, frz]
  | cons x l =>
    generalize hE : x :: l = els at *
    have hn : isNilA (.d (.sl els)) = some (some false) := by rw [← hE]; rfl
    have m1 : ∀ (H : Nat → Option HO) n, (els.flatten.map AV.d).mapM (frz H (n + 1)) = some els.flatten := fun H n => mapM_d H n _
    have m2 : ∀ l, (els.flatten.map AV.d).map (scrub0 l) = els.flatten.map AV.d := fun l => scrub_map l _
    have hsrc : ∀ H, srcA H 1 (.d (.sl els)) = some (els.length, els.flatten.map AV.d) := fun H => by
      simp only [srcA]; rw [if_pos ⟨q3, q1⟩]
    generalize els.flatten.map AV.d = cs at *
    generalize els.flatten = fl at *
    have m3 : cs.map (fun x => scrub0 [1] x) = cs := m2 [1]
    have p1 : els.length * 4 ≤ 140737488355328 := by omega
    have p2 : els.length ≤ 9223372036854775807 := by omega
    have e2 : cs.take els.length = cs := by rw [← e1]; exact List.take_length
    simp [AWP, OW, O1, wantedA, kind, nev, oev, St0, cv, cv1, putA, upd, addB, cnt, fin, Γ0, nilA, pureA, hn, nilB, inj1, appA, hsrc, fillA, resD, res1, frzs, Tryz.f72, kill, Value.cells, Value.oneCell', scrub, scrub1, maxLen, p1, p2]
    simp [scrub0, frz_own, scrubO, e1, e2, m2, m1, q4]
theorem rec59 : RecSpec Tryz.prog 59 := by
  refine ⟨fun w => enters_of Tryz.func59 (by kernel_rfl) rfl _ w, fun w => ?_⟩
  refine callsD_of_wpS Tryz.func59 rfl fun c₀ cs hu => ?_
  apply wpS_region
  simp [wpOpsS, go_sem, recoverD, hu, Tryz.ntmps59, bodyPostS, results, Tryz.results59]
  cases c₀; simp only at hu; subst hu; rfl
theorem rec60 : RecSpec Tryz.prog 60 := by
  refine ⟨fun w => enters_of Tryz.func60 (by kernel_rfl) rfl _ w, fun w => ?_⟩
  refine callsD_of_wpS Tryz.func60 rfl fun c₀ cs hu => ?_
  apply wpS_region
  simp [wpOpsS, go_sem, recoverD, hu, Tryz.ntmps60, bodyPostS, results, Tryz.results60]
  cases c₀; simp only at hu; subst hu; rfl
theorem rec61 : RecSpec Tryz.prog 61 := by
  refine ⟨fun w => enters_of Tryz.func61 (by kernel_rfl) rfl _ w, fun w => ?_⟩
  refine callsD_of_wpS Tryz.func61 rfl fun c₀ cs hu => ?_
  apply wpS_region
  simp [wpOpsS, go_sem, recoverD, hu, Tryz.ntmps61, bodyPostS, results, Tryz.results61]
  cases c₀; simp only at hu; subst hu; rfl
theorem rec39 : RecSpec Tryz.prog 39 := by
  refine ⟨fun w => enters_of Tryz.func39 (by kernel_rfl) rfl _ w, fun w => ?_⟩
  refine callsD_of_wpS Tryz.func39 rfl fun c₀ cs hu => ?_
  apply wpS_region
  simp [wpOpsS, go_sem, recoverD, hu, Tryz.ntmps39, bodyPostS, results, Tryz.results39]
  cases c₀; simp only at hu; subst hu; rfl
theorem rec42 : RecSpec Tryz.prog 42 := by
  refine ⟨fun w => enters_of Tryz.func42 (by kernel_rfl) rfl _ w, fun w => ?_⟩
  refine callsD_of_wpS Tryz.func42 rfl fun c₀ cs hu => ?_
  apply wpS_region
  simp [wpOpsS, go_sem, recoverD, hu, Tryz.ntmps42, bodyPostS, results, Tryz.results42]
  cases c₀; simp only at hu; subst hu; rfl
theorem rec46 : RecSpec Tryz.prog 46 := by
  refine ⟨fun w => enters_of Tryz.func46 (by kernel_rfl) rfl _ w, fun w => ?_⟩
  refine callsD_of_wpS Tryz.func46 rfl fun c₀ cs hu => ?_
  apply wpS_region
  simp [wpOpsS, go_sem, recoverD, hu, Tryz.ntmps46, bodyPostS, results, Tryz.results46]
  cases c₀; simp only at hu; subst hu; rfl
theorem rec58 : RecSpec Tryz.prog 58 := by
  refine ⟨fun w => enters_of Tryz.func58 (by kernel_rfl) rfl _ w, fun w => ?_⟩
  refine callsD_of_wpS Tryz.func58 rfl fun c₀ cs hu => ?_
  apply wpS_region
  simp [wpOpsS, go_sem, recoverD, hu, Tryz.ntmps58, bodyPostS, results, Tryz.results58]
  cases c₀; simp only at hu; subst hu; rfl
theorem rec49 : RecSpec Tryz.prog 49 := by
  refine ⟨fun w => enters_of Tryz.func49 (by kernel_rfl) rfl _ w, fun w => ?_⟩
  refine callsD_of_wpS Tryz.func49 rfl fun c₀ cs hu => ?_
  apply wpS_region
  simp [wpOpsS, go_sem, recoverD, hu, Tryz.ntmps49, bodyPostS, results, Tryz.results49]
  cases c₀; simp only at hu; subst hu; rfl
def E0 : Kn where
  call := fun f ds => if f = 72 then (match ds with | [.sl els] => if clOk els then some (.sl els) else none | _ => none) else none
  ocall := fun _ _ _ _ => none
  keys := fun f => if f = 71 then some 85 else none
  sorted := fun f g => f == 70 && g == 85
  recs := fun g => [
    59,
    60,
    61,
    39,
    42,
    46,
    58,
    49
    ].contains g
theorem E0_ok : KnOk Tryz.prog E0 := by
  refine ⟨fun f ds r h => ?_, fun f h o ds o' r h' => (by cases h'), fun f g h => ?_, fun f g h => ?_, fun g h => ?_⟩
  · simp only [E0] at h
    split at h
    · rename_i hf; subst hf
      split at h
      · split at h
        · rename_i hc; injection h with h; subst h; exact clone_any _ hc
        · cases h
      · cases h
    · cases h
  · simp only [E0] at h
    split at h
    · rename_i hf; subst hf; injection h with h; subst h; exact Tryz.keys106
    · cases h
  · simp only [E0, Bool.and_eq_true, beq_iff_eq] at h
    obtain ⟨rfl, rfl⟩ := h
    exact Tryz.sorted122
  · simp only [E0, List.contains_eq_mem, decide_eq_true_eq] at h
    simp only [List.mem_cons, List.not_mem_nil, or_false] at h
    rcases h with rfl | rfl | rfl | rfl | rfl | rfl | rfl | rfl
    · exact rec59
    · exact rec60
    · exact rec61
    · exact rec39
    · exact rec42
    · exact rec46
    · exact rec58
    · exact rec49
end Go.Am
end

section
set_option linter.unusedVariables false
set_option linter.unusedSimpArgs false
open Go Go.Am Go.Proofs
namespace Go.Am
theorem sanity26 : Spec Tryz.prog 6 [] (.b true) :=
  (runK_ok (fuel := 100) follows_mixed E0_ok 20).call 6 [] (.b true) (by kernel_rfl)
end Go.Am
end

section
set_option linter.unusedVariables false
set_option linter.unusedSimpArgs false
namespace Go.Am
attribute [simp] condP_b condP_ub isKf bindP_some finP_nil finP_cons ite_db nilB isNilA St0 lay_cons rep_flat lms_rep rep_lms ifD_true ifD_false frzs allOne_nil allOne_cons mapM_d7 chunk_0 chunk_1 chunk_2 kills_none kills_b kills_i kills_tp
   kills_ag kills_sl viss_nil viss_cons vis_d vis_nil vis_fd vis_ag vis_data vis_own visC_cells List.flatMap_nil scrub_map mapM_d6 lms_flat lms_all lms_all' lms_len nv_nilCheck chkA_ptr chkA_fp nv_move nv_assign nv_pick nv_alloc nv_box nv_build plc_def nv_buildSlice
   nv_makeSlice nv_binOp nv_unOp nv_convert nv_fieldAddr nv_indexAddr nv_extract nv_slice nv_len maxC_i minC_i nv_max nv_min nv_field nv_makeMap pureA_some StL_Γ StL_H StL_HO StL_n sltF_ap sltF_nil blkF_ap blkF_nil oev_tmp oev_i oev_b
   oev_nil oev_agg cv1_i cv1_b cv1_nil cells_agg cells_i cells_b cells_sl oneC_i oneC_b oneC_sl one_db one_di one_dsl one_nil one_own one_ptr one_mp one_fd one_fp cellsA_db cellsA_di cellsA_dsl cellsA_nil cellsA_own cellsA_ptr cellsA_mp
   cellsA_fd cellsA_ag cellsA_dag agOf_ag agOf_dag tpOf_tp tpOf_dtp intOfA_i boolOfA_b optI_none optI_some lenA_dsl lenA_fd lenA_nil lenA_own fieldA_ptr fieldA_fp indexS_dsl indexS_fd indexS_own indexP_ptr indexP_fp binA_b binA_add binA_sub
   binA_mul binA_quo binA_rem binA_eql binA_neq binA_lss binA_leq binA_gtr binA_geq binA_shl binA_shr binA_nilr unA_not unA_neg nilA_none nilA_nil inj1_b inj1_i inj1_sl inj1_ag inj_b inj_i inj_sl inj_ag inj_tp scrub_d scrub_nil scrub_un
   scrub_any scrub_own scrub_ptr scrub_mp scrub_fp scrub_fd scrub_ag scrub_tp scrub0_d scrub0_nil scrub0_un scrub0_any scrub0_own scrub0_ptr scrubO_data srcA_nil srcA_dsl srcA_fd srcA_own srcOwn_cells okHead_nil okHead_cons appA_def ownOf_fd appC_fd
   ownOf_own ownOf_nil appC_nil appC_own loadA_ptr ldC_cells loadA_fp storeA_ptr stC_cells res1_tmp res1_cell resD_one kill_nil kill_one addB_none addB_some cnt_none cnt_some putA_some putA_none upd_ap fillA_nil fillA_cons fillC_some
   sliceA_dsl sliceA_fd wantedA_some Γ0_get okHead_encM scrubO_cells frz_own frz_d frz_nil frz_fd frz_ag slotsOk blksOk rhoL sub_d_iff sub_own_iff sub_ptr_iff sub_mp_iff sub_nil sub_un subO_cells cellsOk subL_d subL_nil subL_un cellsOk_map
   cellsOk_same
/-- All steps of a walk. -/
theorem KW : type_of% (And.intro @awp_skip (And.intro @awp_regionB (And.intro @awp_seq (And.intro @awp_block (And.intro @awp_exit (And.intro @awp_ret (And.intro @awp_label (And.intro @awp_scope (And.intro @awp_condB (And.intro @awp_loopB (And.intro @ow_nil' (And.intro @ow_cons0 (And.intro @ow_cons1 (And.intro @o1_move (And.intro @o1_nilCheck (And.intro @o1_assign (And.intro @o1_pick (And.intro @o1_alloc (And.intro @o1_box (And.intro @o1_build (And.intro @o1_buildSlice (And.intro @o1_makeSlice (And.intro @o1_makeMap (And.intro @o1_binOp (And.intro @o1_unOp (And.intro @o1_convert (And.intro @o1_fieldAddr (And.intro @o1_field (And.intro @o1_indexAddr (And.intro @o1_extract (And.intro @o1_slice (And.intro @o1_len (And.intro @o1_max (And.intro @o1_min (And.intro @o1_load (And.intro @o1_lookup (And.intro @o1_store (And.intro @o1_mapUpdate (And.intro @o1_append (And.intro @o1_delete (@o1_call))))))))))))))))))))))))))))))))))))))))) :=
  And.intro @awp_skip (And.intro @awp_regionB (And.intro @awp_seq (And.intro @awp_block (And.intro @awp_exit (And.intro @awp_ret (And.intro @awp_label (And.intro @awp_scope (And.intro @awp_condB (And.intro @awp_loopB (And.intro @ow_nil' (And.intro @ow_cons0 (And.intro @ow_cons1 (And.intro @o1_move (And.intro @o1_nilCheck (And.intro @o1_assign (And.intro @o1_pick (And.intro @o1_alloc (And.intro @o1_box (And.intro @o1_build (And.intro @o1_buildSlice (And.intro @o1_makeSlice (And.intro @o1_makeMap (And.intro @o1_binOp (And.intro @o1_unOp (And.intro @o1_convert (And.intro @o1_fieldAddr (And.intro @o1_field (And.intro @o1_indexAddr (And.intro @o1_extract (And.intro @o1_slice (And.intro @o1_len (And.intro @o1_max (And.intro @o1_min (And.intro @o1_load (And.intro @o1_lookup (And.intro @o1_store (And.intro @o1_mapUpdate (And.intro @o1_append (And.intro @o1_delete (@o1_call))))))))))))))))))))))))))))))))))))))))
end Go.Am
end

section
set_option linter.unusedVariables false
set_option linter.unusedSimpArgs false
namespace Go.Am
open RowKit (Below)
/-- All orders of a region, one operation at a time. -/
def OA (P : Program) (ops : Array Oper) (k : St → Prop) : Nat → Array Bool → St → Prop
  | 0, listed, σ => Region.ready .any ops listed = [] ∧ k σ
  | fuel + 1, listed, σ => (Region.ready .any ops listed = [] → k σ) ∧ ∀ i ∈ Region.ready .any ops listed, match ops[i]? with
      | none => OA P ops k fuel (listed.setIfInBounds i true) σ
      | some o => OW P ops [o] σ [] fun σ' con => OA P ops k fuel (listed.setIfInBounds i true) (fin σ' con)
section
variable {P : Program} {G : Ctx} {N : Nat} {ds : List Deferred} {ops : Array Oper}
theorem OA_sound {Q : St → Prop} {Q' : Exit → Act → World → Prop} (hdst : ∀ (i : Nat) (o : Oper) (d : Tmp), ops[i]? = some o → o.dst = some d → d < N ∧ G.Z d = none) (hQ : ∀ σ a w, Q σ → SR G N ds σ a w → Q' .normal a w) :
    ∀ (fuel : Nat) (listed : Array Bool) (σ : St) (a : Act) (w : World), SR G N ds σ a w → OA P ops Q fuel listed σ → wpA P ops Q' fuel listed a w
  | 0, _, σ, a, w, hs, h => ⟨h.1, hQ σ a w h.2 hs⟩
  | fuel + 1, listed, σ, a, w, hs, h => by
    refine ⟨fun h0 => hQ σ a w (h.1 h0) hs, fun i hi => ?_⟩
    have h1 := h.2 i hi
    split
    · rename_i ho
      simp only [ho] at h1
      exact OA_sound hdst hQ fuel _ σ a w hs h1
    · rename_i o ho
      simp only [ho] at h1
      obtain ⟨hn0, hwf, hag⟩ := SR_agree hs
      obtain ⟨fb, hfb⟩ := OW_sound (G := G) [o] σ [] hn0 hwf h1
      obtain ⟨g1, g2⟩ := hag (fun i => if i < σ.n then σ.H i else fb i) (fun i o hi => by
        rcases Nat.lt_or_ge i σ.n with hlt | hge
        · rw [if_pos hlt]; exact hi
        · rw [hwf.top i hge] at hi; cases hi)
      obtain ⟨s', hd, σ', con', hoa, hn', hwf', hag'⟩ := hfb _ g1 (fun i hi => by simp only; rw [if_neg (by omega)])
      exact does_sound (K := wpA P ops Q' fuel (listed.setIfInBounds i true)) (Q' := Q') hd (fun d h => hdst i o d ho h) g2 fun a' w' hr' => OA_sound hdst hQ fuel _ _ a' w' (SR_fin hn' hwf' hag' hr') hoa
/-- The last region. -/
def TailP (P : Program) : Code → St → (St → Prop) → Prop
  | .region _ ops true, σ, k => OA P ops k ops.size (Array.replicate ops.size false) σ
  | _, _, _ => False
def AWPL (P : Program) : Code → St → (Exit → St → Prop) → Prop
  | .seq x (.seq y z), σ, Q => AWP P x σ fun e σ' => match e with | .normal => AWPL P (.seq y z) σ' Q | e => Q e σ'
  | .seq x .ret, σ, Q => TailP P x σ (Q .ret)
  | _, _, _ => False
def codeLexL (P : Program) : Code → Bool
  | .seq x (.seq y z) => codeLex P x && codeLexL P (.seq y z)
  | .seq (.region _ _ true) .ret => true
  | _ => false
theorem AWPL_sound (hm : P.follows .mixedOrders = true) (hZ : ∀ d, G.Z d = none) : ∀ (c : Code) (Q : Exit → St → Prop) (σ : St) (a : Act) (w : World), codeDst N c = true → codeLexL P c = true → AWPL P c σ Q → SR G N ds σ a w →
    c.wp P (fun e a' w' => ∃ σ', Q e σ' ∧ SR G N ds σ' a' w') a w := by
  intro c
  induction c with
  | seq x y ihx ihy =>
    intro Q σ a w hd hl h hs
    simp only [codeDst, Bool.and_eq_true] at hd
    cases y with
    | seq y z =>
      simp only [codeLexL, Bool.and_eq_true] at hl
      refine wp_seq (wp_mono (AWP_sound hm hZ x _ σ a w hd.1 hl.1 h hs) ?_)
      rintro e a' w' ⟨σ', hq, hs'⟩
      cases e with
      | normal => exact ihy Q σ' a' w' hd.2 hl.2 hq hs'
      | _ => exact ⟨σ', hq, hs'⟩
    | ret =>
      unfold codeLexL at hl
      split at hl
      · rename_i he; cases he
      · rename_i id ops he
        injection he with he1 _; subst he1
        have h' : OA P ops (Q .ret) ops.size (Array.replicate ops.size false) σ := h
        refine wp_seq ((WpR.plain P).regA hm (fun e => by cases e) (OA_sound (Q := Q .ret) (N := N) (ds := ds) (G := G) (fun i o d hi hd' => ⟨opsDst_spec hd.1 i o d hi hd', hZ d⟩) (fun σ' a' w' hq hs' => ?_) _ _ σ _ _ ?_ h'))
        · exact wp_ret ⟨σ', hq, hs'⟩
        · obtain ⟨q1, q2, F, ι, hR, hdom, hV, hN, hds, hp⟩ := hs
          have hs : Step F w ι F { w with drawn := w.drawn + 1 } ι := ⟨fun _ h => h, fun _ _ => rfl, fun _ _ h => h, fun _ _ cur _ _ h => ⟨cur, h, rfl⟩⟩
          refine ⟨q1, q2, F, ι, ⟨hR.kept.trans ⟨rfl, rfl, rfl, Nat.le_refl _, fun _ _ _ => rfl, fun _ cur _ _ h => ⟨cur, h, rfl⟩⟩, hR.F_lt, hR.F_ok, hR.place, fun id b o h1 h2 => ?_, hR.inj, hR.len⟩, hdom, fun t => (hV t).step hs, hN, hds, hp⟩
          obtain ⟨ob, h3, h4⟩ := hR.obj id b o h1 h2
          exact ⟨ob, h3, h4.step hs⟩
      · cases hl
    | _ => exact h.elim
  | _ => intro Q σ a w _ _ h; exact h.elim
/-- A contract, by the calculus over the function's body. -/
theorem spec_ofL {f N : Nat} {fn : Func} {c : Code} {args : List D} {r : D} (hm : P.follows .mixedOrders = true) (hf : P.funcs[f]? = some fn) (hb : fn.body = some c) (hname : (fn.name == "runtime.NumGoroutine") = false) (hN : fn.ntmps = N)
    (hd : codeDst N c = true) (hl' : codeLexL P c = true) (ha : args.length ≤ N) (h : AWPL P c (St0 args N) fun e σ => (e = .normal ∨ e = .ret) ∧ resD P fn.results.toList σ = some r) : Spec P f args r := by
  intro A W vs hA hl hv
  have hn : ¬ fn.name = "runtime.NumGoroutine" := by simpa using hname
  refine ⟨fun w => by simp [callFunc, hf, hn, hb], ?_⟩
  refine calls_of_wp hf hb ?_
  subst hN
  refine wp_mono (AWPL_sound hm (fun _ => rfl) c _ _ _ _ hd hl' h (SR0 hA hl hv ha)) ?_
  rintro e a w ⟨σ, ⟨he, hr⟩, hs⟩
  obtain ⟨v, hrun, hvd⟩ := run_results hs hr
  obtain ⟨_, _, F, ι, hR, _, _, _, hdf, _⟩ := hs
  have hend : a.defers = [] ∧ ∃ v, (results fn a.tmps).run P w = .ok v w ∧ ∃ v', Ending.returned v = .returned v' ∧ Below W.heap.size W w ∧ VD (fun b => A b ∨ (W.heap.size ≤ b ∧ b < w.heap.size)) w r v' := by
    refine ⟨hdf, v, hrun, v, rfl, ⟨hR.kept.os, hR.kept.tape, hR.kept.output, hR.kept.size, fun k hk => hR.kept.block k hk (fun h => h)⟩, hvd.mono ?_⟩
    rintro b (h | h | h)
    · exact .inl h
    · exact h.elim
    · exact .inr h
  rcases he with rfl | rfl <;> exact hend
def OAd (P : Program) (ops : Array Oper) (k : St → Prop) (fuel : Nat) (listed : Array Bool) (σ : St) (_ : Dm (ops, k)) : Prop := OA P ops k fuel listed σ
theorem awpl_seqB (x y z : Code) (σ : St) (Q : Exit → St → Prop) : AWPL P (.seq x (.seq y z)) σ Q = AWP P x σ fun e σ' => match e with | .normal => AWPL P (.seq y z) σ' Q | e => Q e σ' := rfl
theorem awpl_retB (id : Nat) (l : List Oper) (σ : St) (Q : Exit → St → Prop) : AWPL P (.seq (.region id l.toArray true) .ret) σ Q = OAd P l.toArray (Q .ret) l.length (Array.replicate l.length false) σ .mk := rfl
theorem oa_one {k : St → Prop} {fuel : Nat} {listed : Array Bool} {σ : St} {d : Dm (ops, k)} (i : Nat) {o : Oper} (hr : Region.ready .any ops listed = [i]) (ho : ops[i]? = some o)
    (h : OWd P ops [o] σ [] (fun σ' con => FinP σ' con (fun σ2 => OAd P ops k fuel (listed.setIfInBounds i true) σ2 .mk) .mk) .mk) : OAd P ops k (fuel + 1) listed σ d := by
  refine ⟨fun e => (by rw [hr] at e; cases e), fun j hj => ?_⟩
  rw [hr] at hj
  simp only [List.mem_singleton] at hj
  subst hj
  simp only [ho]; exact h
theorem oa_two {k : St → Prop} {fuel : Nat} {listed : Array Bool} {σ : St} {d : Dm (ops, k)} (i j : Nat) {o o' : Oper} (hr : Region.ready .any ops listed = [i, j]) (ho : ops[i]? = some o) (ho' : ops[j]? = some o')
    (h : OWd P ops [o] σ [] (fun σ' con => FinP σ' con (fun σ2 => OAd P ops k fuel (listed.setIfInBounds i true) σ2 .mk) .mk) .mk)
    (h' : OWd P ops [o'] σ [] (fun σ' con => FinP σ' con (fun σ2 => OAd P ops k fuel (listed.setIfInBounds j true) σ2 .mk) .mk) .mk) : OAd P ops k (fuel + 1) listed σ d := by
  refine ⟨fun e => (by rw [hr] at e; cases e), fun m hm => ?_⟩
  rw [hr] at hm
  simp only [List.mem_cons, List.mem_nil_iff, or_false] at hm
  rcases hm with rfl | rfl
  · simp only [ho]; exact h
  · simp only [ho']; exact h'
theorem oa_end {k : St → Prop} {listed : Array Bool} {σ : St} {d : Dm (ops, k)} (hr : Region.ready .any ops listed = []) (h : k σ) : OAd P ops k 0 listed σ d := ⟨hr, h⟩
end
end Go.Am
end

section
set_option linter.unusedVariables false
set_option linter.unusedSimpArgs false
namespace Go.Am
open RowKit (Below)
variable {P : Program}
theorem run_oneG {G : Ctx} {fn : Func} {σ : St} {a : Act} {w : World} {rv : ResultVar} {av : AV} {F : Nat → Prop} {ι : Nat → Option Nat} (hR : HR G F w ι none' σ.H) (hV : ∀ t, V F w ι (σ.Γ t) (a.tmps.getD t undef)) (hres : fn.results.toList = [rv]) (h : res1 P σ rv = some av) :
    ∃ v, (results fn a.tmps).run P w = .ok v w ∧ V F w ι av v := by
  cases rv with
  | cell ad t => exact run_one hR hV hres h
  | tmp t =>
    simp only [res1, Option.some.injEq] at h
    subst h
    refine ⟨a.tmps.getD t undef, ?_, hV t⟩
    have h1' : ([ResultVar.tmp t].mapM (m := Sem) fun | .tmp t => pure (a.tmps.getD t undef) | .cell ad t => do loadVar t (← asAddr (a.tmps.getD ad undef))).run P w = .ok [a.tmps.getD t undef] w := by
      simp only [List.mapM_cons, List.mapM_nil, Sem.run_bind, Result.andThen_ok, Sem.run_pure]
    simp only [results, Array.mapM_eq_mapM_toList, Sem.run_bind, Sem.run_map, hres]
    erw [h1']
    simp
theorem nspec_of {f N : Nat} {fn : Func} {c : Code} {args : List D} {v : Nat → AV} {hs : Nat → List HO} {rv : ResultVar} (hm : P.follows .mixedOrders = true) (hf : P.funcs[f]? = some fn) (hb : fn.body = some c) (hname : (fn.name == "runtime.NumGoroutine") = false)
    (hN : fn.ntmps = N) (hN0 : 0 < N) (hd : codeDst N c = true) (hl' : codeLex P c = true) (ha : args.length ≤ N) (hres : fn.results.toList = [rv])
    (h : AWP P c (St0 args N) fun e σ => (e = .normal ∨ e = .ret) ∧ BindP (res1 P σ rv) (fun av => ∀ m, 0 < m → ∃ ρ, Wk ⟨upd σ.Γ 0 av, σ.H, σ.n⟩ (outS v hs m) ρ) .mk) : NSpec P f args v hs := by
  intro A W vs hA hl hv
  have hn : ¬ fn.name = "runtime.NumGoroutine" := by simpa using hname
  refine ⟨fun w => by simp [callFunc, hf, hn, hb], ?_⟩
  refine calls_of_wp hf hb ?_
  subst hN
  refine wp_mono (AWP_sound hm (fun _ => rfl) c _ _ _ _ hd hl' h (SR0 hA hl hv ha)) ?_
  rintro e a w ⟨σ, ⟨he, hr⟩, hs1⟩
  obtain ⟨htop, hn0, F, ι, hR, hdom, hV, hN2, hdf, hp⟩ := hs1
  cases hav : res1 P σ rv with
  | none => rw [hav] at hr; exact hr.elim
  | some av =>
  rw [hav] at hr
  simp only [BindP] at hr
  obtain ⟨u, hrun, hvu⟩ := run_oneG hR hV hres hav
  have hput : SR ⟨W, A, none', fun _ => True, fun _ => none⟩ fn.ntmps [] ⟨upd σ.Γ 0 av, σ.H, σ.n⟩ (a.put (some 0) u) w := by
    refine ⟨htop, hn0, F, ι, hR, hdom, fun t' => ?_, ⟨by simp [Act.put, hN2.1], fun _ _ h => by cases h⟩, by simp [Act.put, hdf], hp⟩
    rw [getD_put a (some 0) u (fun d hd => by injection hd with hd; subst hd; rw [hN2.1]; exact hN0) t']
    by_cases e0 : t' = 0
    · subst e0; rw [if_pos rfl]; simp only [upd_same]; exact hvu
    · rw [if_neg (fun e => e0 (by injection e with e; exact e.symm))]; simp only; rw [upd_ne _ _ e0]; exact hV t'
  have hend : a.defers = [] ∧ ∃ u, (results fn a.tmps).run P w = .ok u w ∧ ∃ u', Ending.returned u = .returned u' ∧ Below W.heap.size W w ∧ ∀ m, 0 < m → ∃ (F : Nat → Prop) (ι : Nat → Option Nat),
      (∀ b, F b → A b ∨ (W.heap.size ≤ b ∧ b < w.heap.size)) ∧ V F w ι (v m) u' ∧ (∀ id, (∃ b, ι id = some b) ↔ (m ≤ id ∧ id < m + (hs m).length)) ∧
      (∀ id b, ι id = some b → W.heap.size ≤ b ∧ b < w.heap.size ∧ ¬ F b) ∧
      (∀ i o b, (hs m)[i]? = some o → ι (m + i) = some b → ∃ ob, w.heap[b]? = some ob ∧ CR F w ι o ob) ∧
      (∀ id id' b, ι id = some b → ι id' = some b → id = id') := by
    refine ⟨hdf, u, hrun, u, rfl, ⟨hR.kept.os, hR.kept.tape, hR.kept.output, hR.kept.size, fun k hk => hR.kept.block k hk (fun h => h)⟩, fun m hm0 => ?_⟩
    obtain ⟨ρ, hw⟩ := hr m hm0
    obtain ⟨_, _, F2, ι2, hR2, hdom2, hV2, _, _, _⟩ := SR_weak hw hput
    have hout : ∀ id, ((outS v hs m).H id).isSome = true ↔ (m ≤ id ∧ id < m + (hs m).length) := fun id => by
      simp only [outS, extB]
      by_cases hr : m ≤ id ∧ id < m + (hs m).length
      · rw [if_pos hr, List.getElem?_eq_getElem (by omega)]; simp [hr]
      · rw [if_neg hr]; simp [hr]
    refine ⟨F2, ι2, fun b hb' => ?_, ?_, fun id => by rw [hdom2, hout], fun id b hb' => ?_, fun i o b ho hb' => ?_, fun id id' b e1 e2 => hR2.inj id id' b e1 e2 (fun h => h) (fun h => h)⟩
    · rcases hR2.F_ok b hb' with h | h | h
      · exact .inl h
      · exact h.elim
      · exact .inr ⟨h, hR2.F_lt b hb'⟩
    · have := hV2 0
      rw [getD_put a (some 0) u (fun d hd => by injection hd with hd; subst hd; rw [hN2.1]; exact hN0) 0, if_pos rfl] at this
      simpa [outS, upd_same] using this
    · obtain ⟨q1, q2, q3⟩ := hR2.place id b hb'
      rcases q1 with q1 | q1
      · exact q1.elim
      · exact ⟨q1, q2, q3 (fun h => h)⟩
    · have hi := (List.getElem?_eq_some_iff.1 ho).1
      refine hR2.obj (m + i) b o hb' ?_
      simp only [outS, extB]
      rw [if_pos ⟨by omega, by omega⟩, show m + i - m = i by omega]; exact ho
  rcases he with rfl | rfl <;> exact hend
end Go.Am
end

section
set_option linter.unusedVariables false
set_option linter.unusedSimpArgs false
open Go Go.Am Go.Proofs
namespace Go.Am
set_option linter.unusedSimpArgs false
theorem strip_take_last {raw : List Nat} {n : Nat} (hn : n < raw.length) (h0 : raw[n] ≠ 0) : strip (raw.take (n + 1)) = raw.take (n + 1) := by
  refine strip_canon ?_
  rw [List.take_add_one, List.getElem?_eq_getElem hn, Canon, Option.toList_some, List.getLast?_append]
  simp [h0]
theorem strip_take_zero {raw : List Nat} {n : Nat} (hn : n < raw.length) (h0 : raw[n] = 0) : strip (raw.take (n + 1)) = strip (raw.take n) := by
  rw [List.take_add_one, List.getElem?_eq_getElem hn, h0]
  exact strip_app_zero _
set_option maxRecDepth 10000 in
theorem r01Made (raw : List Nat) (neg : Bool) (hl : raw.length ≤ 1099511627776) : Spec Tryz.prog 50 [encM raw, .b neg] (encI (neg && decide (strip raw ≠ [])) (strip raw)) := by
  refine spec_of (N := 31) follows_mixed Tryz.func50 rfl rfl rfl (by kernel_rfl) (by kernel_rfl) (by simp) ?_
  simp (config := { maxSteps := 1000000 }) [-List.map_map, -List.mapM_map, ↓KW, encM]
  refine loopP_intro (τ := { n : Nat // n ≤ raw.length ∧ strip (raw.take n) = strip raw }) (S := fun n => StL [(0, .d (encM raw)), (1, .d (.b neg)), (4, .ptr 1 0), (5, .d (.i .i64 n.1))] none [.cells 51 [.d (.b false), .nil]]) (m := fun n => n.1) ⟨raw.length, Nat.le_refl _, by simp⟩ ?_ ?_
  · refine wk_l [1] (by simp) ?_ ?_
    · simp [-List.map_map, upd, inj1, Γ0, encM]
    · simp [-List.map_map, upd, inj1, Γ0]
  · rintro ⟨n, hn, hs⟩
    rcases n with _ | n
    · have hs' : strip raw = [] := hs.symm
      cases neg <;> simp (config := { maxSteps := 1000000 }) [-List.map_map, -List.mapM_map, ↓KW, encM, encI, hs', chunk]
    · have hx : raw[n]? = some raw[n] := List.getElem?_eq_getElem hn
      have hw : IntKind.i64.wrap (n : Int) = n := wrap_i64 (by omega) (by omega)
      have hp : (0 : Int) < (n : Int) + 1 := by omega
      by_cases h0 : raw[n] = 0
      · simp (config := { maxSteps := 1000000 }) [-List.map_map, -List.mapM_map, ↓KW, encM, hx, hw, h0, hp]
        refine ⟨n, by omega, ⟨by omega, (strip_take_zero hn h0).symm.trans hs⟩, .inr (wk_l [1] (by simp) ?_ ?_)⟩ <;> simp [-List.map_map, upd, inj1, Γ0, encM]
      · have h1 : ((raw[n] : Int) == 0) = false := by simp; omega
        have he : strip raw = raw.take (n + 1) := hs.symm.trans (strip_take_last hn h0)
        have hp2 : (0 : Int) ≤ (n : Int) + 1 := by omega
        have hn' : (n : Int) + 1 ≤ raw.length := by omega
        obtain ⟨pre, hpre⟩ : ∃ pre, raw.take (n + 1) = pre := ⟨_, rfl⟩
        have hpl : pre.length = n + 1 := by rw [← hpre]; simp; omega
        have hp1 : ∀ f : Nat → List D, (raw.map f).take (n + 1) = pre.map f := fun f => by rw [← hpre, List.map_take]
        have hpn : pre ≠ [] := fun e => by rw [e] at hpl; cases hpl
        rw [hpre] at he
        have hb : (n + 1) * 4 ≤ 140737488355328 := by omega
        have hb2 : n + 1 ≤ maxLen := by unfold maxLen; omega
        cases neg <;> simp (config := { maxSteps := 1000000 }) [-List.map_map, -List.mapM_map, ↓KW, encM, encI, hx, hw, h1, hp, hp2, he, hn', hp1, hpl, hpn, chunk_lms hpl, lms_take_all hpl, lms_flat, lms_all, lms_len, hb, hb2]
theorem made_encZ {raw : List Nat} (h : Lim raw) (neg : Bool) : encI (neg && decide (strip raw ≠ [])) (strip raw) = encZ (sg neg (val raw)) := by
  rw [strip_digs h, ← encI_sg]
  simp [digs_eq_nil]
set_option maxRecDepth 10000 in
theorem r01Of (n : Int) (h1 : -9223372036854775808 ≤ n) (h2 : n < 9223372036854775808) : Spec Tryz.prog 20 [.i .i64 n] (encZ n) := by
  refine spec_of (N := 19) follows_mixed Tryz.func20 rfl rfl rfl (by kernel_rfl) (by kernel_rfl) (by simp) ?_
  have key : ∀ (u : Nat), u < 18446744073709551616 → ∃ lo hi : Nat, Lim [lo, hi] ∧ val [lo, hi] = u ∧ IntKind.u32.wrap (u : Int) = lo ∧ shiftA .shr .u64 (u : Int) 32 = some (.i .u64 hi) ∧ IntKind.u32.wrap (hi : Int) = hi := fun u hu => by
    refine ⟨u % 4294967296, u / 4294967296, .cons (by omega) (.one (by omega)), by simp only [val]; omega, by rw [wrap_u32m]; omega, ?_, by rw [wrap_u32 (by omega) (by omega)]⟩
    simp only [shiftA, IntKind.bits]
    rw [if_neg (by decide)]
    congr 2
    rw [show (2 : Int) ^ (min (32 : Int).toNat 64) = 4294967296 from by decide, Int.fdiv_eq_ediv_of_nonneg _ (by decide)]
    omega
  by_cases hn : n < 0
  · obtain ⟨u, hu⟩ : ∃ u : Nat, n = -(u : Int) := ⟨n.natAbs, by omega⟩
    have hu2 : u < 18446744073709551616 := by omega
    have e1 : IntKind.u64.wrap n = n + 18446744073709551616 := by rw [wrap_u64m]; omega
    have e2 : IntKind.u64.wrap (-(n + 18446744073709551616)) = (u : Int) := by rw [wrap_u64m]; omega
    obtain ⟨lo, hi, k1, k2, e3, e4, e5⟩ := key u hu2
    simp (config := { maxSteps := 1000000 }) [-List.map_map, -List.mapM_map, ↓KW, hn, e1, e2, e3, e4, e5]
    have hm := r01Made [lo, hi] true (by simp)
    rw [made_encZ k1, k2, show sg true u = n by simp [sg]; omega] at hm
    refine callP_intro (ds := [encM [lo, hi], .b true]) ?_ hm ?_
    · simp (config := { maxSteps := 1000000 }) [-List.map_map, -List.mapM_map, ↓KW, encM]
    · simp (config := { maxSteps := 1000000 }) [-List.map_map, -List.mapM_map, ↓KW, encM, encZ, encI]
  · obtain ⟨u, rfl⟩ : ∃ u : Nat, n = (u : Int) := ⟨n.natAbs, by omega⟩
    have hu2 : u < 18446744073709551616 := by omega
    have e1 : IntKind.u64.wrap (u : Int) = u := wrap_u64 (by omega) (by omega)
    obtain ⟨lo, hi, k1, k2, e3, e4, e5⟩ := key u hu2
    simp (config := { maxSteps := 1000000 }) [-List.map_map, -List.mapM_map, ↓KW, hn, e1, e3, e4, e5]
    have hm := r01Made [lo, hi] false (by simp)
    rw [made_encZ k1, k2, show sg false u = u by simp [sg]] at hm
    refine callP_intro (ds := [encM [lo, hi], .b false]) ?_ hm ?_
    · simp (config := { maxSteps := 1000000 }) [-List.map_map, -List.mapM_map, ↓KW, encM]
    · simp (config := { maxSteps := 1000000 }) [-List.map_map, -List.mapM_map, ↓KW, encM, encZ, encI]
end Go.Am
end

section
set_option linter.unusedVariables false
set_option linter.unusedSimpArgs false
open Go Go.Am Go.Proofs
namespace Go.Am
set_option linter.unusedSimpArgs false
set_option maxRecDepth 10000 in
theorem r01Sign (neg : Bool) (m : List Nat) : Spec Tryz.prog 54 [encI neg m] (.i .i64 (if m = [] then 0 else if neg then -1 else 1)) := by
  refine spec_of (N := 9) follows_mixed Tryz.func54 rfl rfl rfl (by kernel_rfl) (by kernel_rfl) (by simp) ?_
  cases m with
  | nil => simp (config := { maxSteps := 1000000 }) [-List.map_map, -List.mapM_map, ↓KW, encI, encM]
  | cons x m =>
    have h1 : (((m.length : Int) + 1 == 0) : Bool) = false := by simp; omega
    cases neg <;> simp (config := { maxSteps := 1000000 }) [-List.map_map, -List.mapM_map, ↓KW, encI, encM, h1]
theorem r01SignZ (z : Int) : Spec Tryz.prog 54 [encZ z] (.i .i64 z.sign) := by
  have := r01Sign (decide (z < 0)) (digs z.natAbs)
  have e : (if digs z.natAbs = [] then (0 : Int) else if (decide (z < 0)) = true then -1 else 1) = z.sign := by
    simp only [digs_eq_nil]
    rcases Int.lt_trichotomy z 0 with h | h | h
    · rw [if_neg (by omega), if_pos (by simpa using h), Int.sign_eq_neg_one_of_neg h]
    · subst h; rfl
    · rw [if_neg (by omega), if_neg (by simp; omega), Int.sign_eq_one_of_pos h]
  rwa [e] at this
set_option maxRecDepth 10000 in
theorem r01Valid (neg : Bool) (m : List Nat) (hl : m.length ≤ 1099511627776) : Spec Tryz.prog 53 [encI neg m] (.b (match m.getLast? with | some x => x != 0 | none => !neg)) := by
  refine spec_of (N := 19) follows_mixed Tryz.func53 rfl rfl rfl (by kernel_rfl) (by kernel_rfl) (by simp) ?_
  rcases List.eq_nil_or_concat m with rfl | ⟨m', x, rfl⟩
  · simp (config := { maxSteps := 1000000 }) [-List.map_map, -List.mapM_map, ↓KW, encI, encM]
  · have hw : IntKind.i64.wrap (m'.length : Int) = m'.length := by simp at hl; rw [wrap_i64] <;> omega
    have h1 : (((m'.length : Int) + 1 == 0) : Bool) = false := by simp; omega
    have hg : (List.map (fun (x : Nat) => [D.i .u32 (x : Int)]) m' ++ [[D.i .u32 (x : Int)]])[m'.length]? = some [D.i .u32 (x : Int)] := by
      rw [List.getElem?_append_right (by simp)]; simp
    simp (config := { maxSteps := 1000000 }) [-List.map_map, -List.mapM_map, ↓KW, encI, encM, hw, h1, hg]
    rw [Bool.eq_iff_iff]; simp
theorem r01ValidZ (z : Int) (hl : (digs z.natAbs).length ≤ 1099511627776) : Spec Tryz.prog 53 [encZ z] (.b true) := by
  have := r01Valid (decide (z < 0)) (digs z.natAbs) hl
  have e : (match (digs z.natAbs).getLast? with | some x => x != 0 | none => !(decide (z < 0))) = true := by
    have hc := canon_digs z.natAbs
    unfold Canon at hc
    cases h : (digs z.natAbs).getLast? with
    | none =>
      have := digs_eq_nil.1 (List.getLast?_eq_none_iff.1 h)
      simp; omega
    | some x => rw [h] at hc; simpa using hc
  rwa [e] at this
/-- The lists' order: by length, then by value. -/
def lessL (a b : List Nat) : Bool := if a.length = b.length then decide (val a < val b) else decide (a.length < b.length)
theorem lessL_digs (x y : Nat) : lessL (digs x) (digs y) = decide (x < y) := by
  unfold lessL
  by_cases h : (digs x).length = (digs y).length
  · rw [if_pos h, val_digs, val_digs]
  · rw [if_neg h]
    by_cases h1 : (digs x).length < (digs y).length
    · simp [h1, lt_of_len_lt h1]
    · have := lt_of_len_lt (a := y) (b := x) (by omega)
      simp only [h1, decide_false]
      simp; omega
set_option maxRecDepth 10000 in
theorem r01less (a b : List Nat) (ha : Lim a) (hb : Lim b) (hla : a.length ≤ 1099511627776) (hlb : b.length ≤ 1099511627776) : Spec Tryz.prog 73 [encM a, encM b] (.b (lessL a b)) := by
  refine spec_of (N := 41) follows_mixed Tryz.func73 rfl rfl rfl (by kernel_rfl) (by kernel_rfl) (by simp) ?_
  by_cases hn : a.length = b.length
  rotate_left
  · have h1 : (((a.length : Int) != b.length) : Bool) = true := by simp; omega
    simp (config := { maxSteps := 1000000 }) [-List.map_map, -List.mapM_map, ↓KW, encM, h1, lessL, hn]
  · have h1 : (((a.length : Int) != b.length) : Bool) = false := by simp; omega
    have hw : IntKind.i64.wrap ((a.length : Int) - 1) = (a.length : Int) - 1 := wrap_i64 (by omega) (by omega)
    simp (config := { maxSteps := 1000000 }) [-List.map_map, -List.mapM_map, ↓KW, encM, h1, hw]
    refine loopP_intro (τ := { k : Nat // k ≤ a.length ∧ a.drop k = b.drop k }) (S := fun k => StL [(0, .d (encM a)), (1, .d (encM b)), (5, .d (.i .i64 ((k.1 : Int) - 1)))] none []) (m := fun k => k.1) ⟨a.length, Nat.le_refl _, by rw [List.drop_eq_nil_of_le (Nat.le_refl _), List.drop_eq_nil_of_le (by omega)]⟩ ?_ ?_
    · refine wk_l [] (by simp) ?_ ?_ <;> simp [-List.map_map, upd, inj1, Γ0, encM]
    · rintro ⟨k, hk, hd⟩
      rcases k with _ | k
      · have e : a = b := by simpa using hd
        subst e
        simp (config := { maxSteps := 1000000 }) [-List.map_map, -List.mapM_map, ↓KW, encM, lessL]
      · have hkb : k < b.length := by omega
        have hxa : a[k]? = some a[k] := List.getElem?_eq_getElem hk
        have hxb : b[k]? = some b[k] := List.getElem?_eq_getElem hkb
        have hw2 : IntKind.i64.wrap ((k : Int) - 1) = (k : Int) - 1 := wrap_i64 (by omega) (by omega)
        have hp : (0 : Int) ≤ k := by omega
        by_cases he : a[k] = b[k]
        · have h2 : (((a[k] : Int) != (b[k] : Int)) : Bool) = false := by simp [he]
          simp (config := { maxSteps := 1000000 }) [-List.map_map, -List.mapM_map, ↓KW, encM, hxa, hxb, hw2, hp, h2]
          refine ⟨k, by omega, ⟨by omega, ?_⟩, .inr (wk_l [] (by simp) ?_ ?_)⟩
          · rw [List.drop_eq_getElem_cons hk, List.drop_eq_getElem_cons hkb, he, hd]
          · simp [-List.map_map, upd, inj1, Γ0, encM]
          · trivial
        · have h2 : (((a[k] : Int) != (b[k] : Int)) : Bool) = true := by simp; omega
          simp (config := { maxSteps := 1000000 }) [-List.map_map, -List.mapM_map, ↓KW, encM, hxa, hxb, hw2, hp, h2, lessL, hn]
          have ga : a.getD k 0 = a[k] := by rw [List.getD_eq_getElem?_getD, hxa]; rfl
          have gb : b.getD k 0 = b[k] := by rw [List.getD_eq_getElem?_getD, hxb]; rfl
          rcases Nat.lt_or_ge a[k] b[k] with hlt | hge
          · have := val_lt_of ha (i := k) hn hk hd (by rw [ga, gb]; exact hlt)
            simp [hlt, this]
          · have := val_lt_of hb (i := k) hn.symm hkb hd.symm (by rw [ga, gb]; omega)
            omega
set_option maxRecDepth 10000 in
theorem r01SameZ (x y : Int) (hx : (digs x.natAbs).length ≤ 1099511627776) (hy : (digs y.natAbs).length ≤ 1099511627776) : Spec Tryz.prog 48 [encZ x, encZ y] (.b (decide (x = y))) := by
  refine spec_of (N := 26) follows_mixed Tryz.func48 rfl rfl rfl (by kernel_rfl) (by kernel_rfl) (by simp) ?_
  have l1 := r01less _ _ (lim_digs x.natAbs) (lim_digs y.natAbs) hx hy
  have l2 := r01less _ _ (lim_digs y.natAbs) (lim_digs x.natAbs) hy hx
  rw [lessL_digs] at l1 l2
  unfold encZ encI
  generalize digs x.natAbs = a at *
  generalize digs y.natAbs = b at *
  by_cases hs : decide (x < 0) = decide (y < 0)
  rotate_left
  · have h1 : (decide (x < 0) == decide (y < 0)) = false := by simpa using hs
    have h2 : ¬ x = y := fun e => hs (by rw [e])
    simp (config := { maxSteps := 1000000 }) [-List.map_map, -List.mapM_map, ↓KW, encM, h1, h2]
  · have h1 : (decide (x < 0) == decide (y < 0)) = true := by simpa using hs
    simp (config := { maxSteps := 1000000 }) [-List.map_map, -List.mapM_map, ↓KW, encM, h1]
    refine callP_intro (ds := [encM a, encM b]) (by rfl) l1 ?_
    by_cases h3 : x.natAbs < y.natAbs
    · have h2 : ¬ x = y := fun e => by rw [e] at h3; omega
      simp (config := { maxSteps := 1000000 }) [-List.map_map, -List.mapM_map, ↓KW, encM, h3, h2]
    · simp (config := { maxSteps := 1000000 }) [-List.map_map, -List.mapM_map, ↓KW, encM, h3]
      refine callP_intro (ds := [encM b, encM a]) (by rfl) l2 ?_
      simp (config := { maxSteps := 1000000 }) [-List.map_map, -List.mapM_map, ↓KW, encM]
      have hs' : x < 0 ↔ y < 0 := by simpa using hs
      rw [Bool.eq_iff_iff]
      simp
      omega
end Go.Am
end

section
set_option linter.unusedVariables false
set_option linter.unusedSimpArgs false
open Go Go.Am Go.Proofs
namespace Go.Am
set_option linter.unusedSimpArgs false
/-- The sum after i limbs, and what is carried. -/
def plS (a b : List Nat) : Nat → List Nat × Nat
  | 0 => ([], 0)
  | i + 1 => ((plS a b i).1 ++ [((plS a b i).2 + a.getD i 0 + b.getD i 0) % 4294967296], ((plS a b i).2 + a.getD i 0 + b.getD i 0) / 4294967296)
theorem plS_inv {a b : List Nat} (ha : Lim a) (hb : Lim b) : ∀ i, (plS a b i).1.length = i ∧ (plS a b i).2 ≤ 1 ∧ Lim (plS a b i).1 ∧ val (plS a b i).1 + 4294967296 ^ i * (plS a b i).2 = val (a.take i) + val (b.take i)
  | 0 => ⟨rfl, Nat.zero_le _, .nil, by simp [plS, val]⟩
  | i + 1 => by
    obtain ⟨h1, h2, h3, h4⟩ := plS_inv ha hb i
    have ha' := ha.getD i
    have hb' := hb.getD i
    simp only [plS]
    generalize (plS a b i).1 = out at *
    generalize (plS a b i).2 = c at *
    refine ⟨by simp [h1], by omega, h3.app (.one (by omega)), ?_⟩
    rw [val_app, val_take_succ, val_take_succ, h1, Nat.pow_succ]
    simp only [val]
    have h5 : 4294967296 ^ i * ((c + a.getD i 0 + b.getD i 0) % 4294967296) + 4294967296 ^ i * 4294967296 * ((c + a.getD i 0 + b.getD i 0) / 4294967296) = 4294967296 ^ i * c + 4294967296 ^ i * a.getD i 0 + 4294967296 ^ i * b.getD i 0 := by
      rw [Nat.mul_assoc, ← Nat.mul_add, Nat.mod_add_div, Nat.mul_add, Nat.mul_add]
    simp only [Nat.mul_zero, Nat.add_zero]
    omega
/-- Where it ends. -/
def plN (a b : List Nat) : Nat := if (plS a b (max a.length b.length)).2 = 0 then max a.length b.length else max a.length b.length + 1
def plusR (a b : List Nat) : List Nat := (plS a b (plN a b)).1
theorem getD_none {l : List Nat} {i : Nat} (h : ¬ i < l.length) : l.getD i 0 = 0 := by rw [List.getD_eq_getElem?_getD, List.getElem?_eq_none (by omega)]; rfl
theorem plS_carry {a b : List Nat} (ha : Lim a) (hb : Lim b) {i : Nat} (h1 : a.length ≤ i) (h2 : b.length ≤ i) : (plS a b (i + 1)).2 = 0 := by
  have h := (plS_inv ha hb i).2.1
  show ((plS a b i).2 + a.getD i 0 + b.getD i 0) / 4294967296 = 0
  rw [getD_none (l := a) (by omega), getD_none (l := b) (by omega)]
  omega
theorem plS_done {a b : List Nat} (ha : Lim a) (hb : Lim b) {i : Nat} (h1 : a.length ≤ i) (h2 : b.length ≤ i) (hc : (plS a b i).2 = 0) : val (plS a b i).1 = val a + val b := by
  have h := (plS_inv ha hb i).2.2.2
  rw [List.take_of_length_le h1, List.take_of_length_le h2, hc, Nat.mul_zero, Nat.add_zero] at h
  exact h
theorem plusR_val {a b : List Nat} (ha : Lim a) (hb : Lim b) : val (plusR a b) = val a + val b ∧ Lim (plusR a b) ∧ (plusR a b).length ≤ max a.length b.length + 1 := by
  unfold plusR plN
  have h1 : a.length ≤ max a.length b.length := by omega
  have h2 : b.length ≤ max a.length b.length := by omega
  generalize max a.length b.length = M at *
  by_cases hc : (plS a b M).2 = 0
  · rw [if_pos hc]
    have h := plS_inv ha hb M
    exact ⟨plS_done ha hb h1 h2 hc, h.2.2.1, by rw [h.1]; omega⟩
  · rw [if_neg hc]
    have h := plS_inv ha hb (M + 1)
    exact ⟨plS_done ha hb (by omega) (by omega) (plS_carry ha hb h1 h2), h.2.2.1, by rw [h.1]; exact Nat.le_refl _⟩
theorem getD_some {l : List Nat} {i : Nat} (h : i < l.length) : l[i]? = some (l.getD i 0) := by rw [List.getD_eq_getElem?_getD, List.getElem?_eq_getElem h]; rfl
set_option maxRecDepth 10000 in
theorem r01plus (a b : List Nat) (ha : Lim a) (hb : Lim b) (hla : a.length ≤ 1099511627776) (hlb : b.length ≤ 1099511627776) : Spec Tryz.prog 78 [encM a, encM b] (encM (plusR a b)) := by
  refine spec_of (N := 55) follows_mixed Tryz.func78 rfl rfl rfl (by kernel_rfl) (by kernel_rfl) (by simp) ?_
  simp (config := { maxSteps := 1000000 }) [-List.map_map, -List.mapM_map, ↓KW, encM]
  refine loopP_inv (fun i : Nat => i ≤ max a.length b.length ∨ (i = max a.length b.length + 1 ∧ (plS a b (max a.length b.length)).2 ≠ 0))
    (fun i => StL [(0, .d (encM a)), (1, .d (encM b)), (5, .own 1 0 i 1), (6, .d (.i .u64 (plS a b i).2)), (7, .d (.i .i64 i))] none [.cells 92 ((lms (plS a b i).1).map .d)]) (fun i => max a.length b.length + 1 - i) 0 (.inl (Nat.zero_le _)) ?_ ?_
  · refine wk_l [1] (by simp) ?_ ?_ <;> simp [-List.map_map, upd, inj1, Γ0, encM, plS, lms]
  · intro i hi
    obtain ⟨hlen, hc, _, _⟩ := plS_inv ha hb i
    have hsucc : plS a b (i + 1) = ((plS a b i).1 ++ [((plS a b i).2 + a.getD i 0 + b.getD i 0) % 4294967296], ((plS a b i).2 + a.getD i 0 + b.getD i 0) / 4294967296) := rfl
    have hstop : (i < a.length ∨ i < b.length ∨ 0 < (plS a b i).2) ∨ i = plN a b := by
      unfold plN
      rcases hi with hi | ⟨hi, hc⟩
      · by_cases h1 : i = max a.length b.length
        · subst h1
          by_cases h2 : (plS a b (max a.length b.length)).2 = 0
          · rw [if_pos h2]; exact .inr rfl
          · exact .inl (.inr (.inr (by omega)))
        · exact .inl (by omega)
      · rw [if_neg hc]; exact .inr hi
    have hnext : (i < a.length ∨ i < b.length ∨ 0 < (plS a b i).2) → i ≤ max a.length b.length ∧ (i + 1 ≤ max a.length b.length ∨ (i + 1 = max a.length b.length + 1 ∧ (plS a b (max a.length b.length)).2 ≠ 0)) := by
      intro h
      rcases hi with hi | ⟨hi, hc2⟩
      · refine ⟨hi, ?_⟩
        by_cases h1 : i = max a.length b.length
        · subst h1; exact .inr ⟨rfl, by omega⟩
        · exact .inl (by omega)
      · exfalso
        have e : (plS a b i).2 = 0 := by
          rw [hi]; exact plS_carry ha hb (by omega) (by omega)
        omega
    have hal := ha.getD i
    have hbl := hb.getD i
    have hres : i = plN a b → (plS a b i).1 = plusR a b := fun e => by rw [e]; rfl
    generalize hout : (plS a b i).1 = out at *
    generalize hcar : (plS a b i).2 = c at *
    by_cases hgo : i < a.length ∨ i < b.length ∨ 0 < c
    · obtain ⟨hi1, hi2⟩ := hnext hgo
      have hb1 : (i + 1) * 4 ≤ 140737488355328 := by omega
      have hb2 : i + 1 ≤ maxLen := by unfold maxLen; omega
      have hw7 : IntKind.i64.wrap ((i : Int) + 1) = (i : Int) + 1 := wrap_i64 (by omega) (by omega)
      have hpos : (0 : Int) ≤ i := by omega
      obtain ⟨s1, hs1⟩ : ∃ s1 : Nat, c + a.getD i 0 = s1 := ⟨_, rfl⟩
      obtain ⟨s2, hs2⟩ : ∃ s2 : Nat, s1 + b.getD i 0 = s2 := ⟨_, rfl⟩
      rw [hs1, hs2] at hsucc
      have hw1 : IntKind.u64.wrap ((c : Int) + ((a.getD i 0 : Nat) : Int)) = s1 := by rw [wrap_u64 (by omega) (by omega)]; omega
      have hw2 : IntKind.u64.wrap ((s1 : Int) + ((b.getD i 0 : Nat) : Int)) = s2 := by rw [wrap_u64 (by omega) (by omega)]; omega
      have hwa : IntKind.u64.wrap ((a.getD i 0 : Nat) : Int) = ((a.getD i 0 : Nat) : Int) := wrap_u64 (by omega) (by omega)
      have hwb : IntKind.u64.wrap ((b.getD i 0 : Nat) : Int) = ((b.getD i 0 : Nat) : Int) := wrap_u64 (by omega) (by omega)
      obtain ⟨lo, hlo⟩ : ∃ lo : Nat, s2 % 4294967296 = lo := ⟨_, rfl⟩
      obtain ⟨hi', hhi⟩ : ∃ hi' : Nat, s2 / 4294967296 = hi' := ⟨_, rfl⟩
      have hw3 : IntKind.u32.wrap (s2 : Int) = lo := by rw [wrap_u32m]; omega
      have hw4 : IntKind.u64.wrap ((s2 : Int).tdiv 4294967296) = hi' := by
        rw [Int.tdiv_eq_ediv_of_nonneg (by omega), wrap_u64 (by omega) (by omega)]; omega
      have hw4' : IntKind.u64.wrap ((s2 : Int) / 4294967296) = hi' := by rw [wrap_u64 (by omega) (by omega)]; omega
      rw [hlo, hhi] at hsucc
      have hcase : (a.getD i 0 = 0 ∧ ¬ i < a.length) ∨ i < a.length := by
        by_cases h : i < a.length
        · exact .inr h
        · exact .inl ⟨getD_none h, h⟩
      have hcase2 : (b.getD i 0 = 0 ∧ ¬ i < b.length) ∨ i < b.length := by
        by_cases h : i < b.length
        · exact .inr h
        · exact .inl ⟨getD_none h, h⟩
      rcases hcase with ⟨ha0, han⟩ | han <;> rcases hcase2 with ⟨hb0, hbn⟩ | hbn
      · have q1 : ¬ (i : Int) < a.length := by omega
        have q2 : ¬ (i : Int) < b.length := by omega
        have q3 : 0 < c := by omega
        rw [ha0] at hs1; rw [hb0] at hs2
        have e2 : s2 = c := by omega
        rw [e2] at hw3 hw4 hw4'
        simp (config := { maxSteps := 1000000 }) [-List.map_map, -List.mapM_map, ↓KW, encM, q1, q2, q3, hw3, hw4, hw7, hb1, hb2, hlen]
        refine nxt_intro (i + 1) hi2 ?_ (wk_l [3] (by simp) ?_ ?_)
        · omega
        · simp [-List.map_map, upd, inj1, Γ0, encM, hsucc, lms_app, lms_one, hw4']
        · simp [-List.map_map, upd, inj1, Γ0, encM, hsucc, lms_app, lms_one]
      · have q1 : ¬ (i : Int) < a.length := by omega
        have q2 : (i : Int) < b.length := by omega
        rw [ha0] at hs1
        have e1 : s1 = c := by omega
        have g2 := getD_some hbn
        rw [e1] at hw2
        generalize b.getD i 0 = y at *
        simp (config := { maxSteps := 1000000 }) [-List.map_map, -List.mapM_map, ↓KW, encM, q1, q2, g2, hwb, hw2, hw3, hw4, hw7, hb1, hb2, hlen]
        refine nxt_intro (i + 1) hi2 ?_ (wk_l [3] (by simp) ?_ ?_)
        · omega
        · simp [-List.map_map, upd, inj1, Γ0, encM, hsucc, lms_app, lms_one, hw4']
        · simp [-List.map_map, upd, inj1, Γ0, encM, hsucc, lms_app, lms_one]
      · have q1 : (i : Int) < a.length := by omega
        have q2 : ¬ (i : Int) < b.length := by omega
        rw [hb0] at hs2
        have e2 : s2 = s1 := by omega
        have g1 := getD_some han
        rw [e2] at hw3 hw4 hw4'
        generalize a.getD i 0 = x at *
        simp (config := { maxSteps := 1000000 }) [-List.map_map, -List.mapM_map, ↓KW, encM, q1, q2, g1, hwa, hw1, hw3, hw4, hw7, hb1, hb2, hlen]
        refine nxt_intro (i + 1) hi2 ?_ (wk_l [3] (by simp) ?_ ?_)
        · omega
        · simp [-List.map_map, upd, inj1, Γ0, encM, hsucc, lms_app, lms_one, hw4']
        · simp [-List.map_map, upd, inj1, Γ0, encM, hsucc, lms_app, lms_one]
      · have q1 : (i : Int) < a.length := by omega
        have q2 : (i : Int) < b.length := by omega
        have g1 := getD_some han
        have g2 := getD_some hbn
        generalize a.getD i 0 = x at *
        generalize b.getD i 0 = y at *
        simp (config := { maxSteps := 1000000 }) [-List.map_map, -List.mapM_map, ↓KW, encM, q1, q2, g1, g2, hwa, hwb, hw1, hw2, hw3, hw4, hw7, hb1, hb2, hlen]
        refine nxt_intro (i + 1) hi2 ?_ (wk_l [3] (by simp) ?_ ?_)
        · omega
        · simp [-List.map_map, upd, inj1, Γ0, encM, hsucc, lms_app, lms_one, hw4']
        · simp [-List.map_map, upd, inj1, Γ0, encM, hsucc, lms_app, lms_one]
    · have e := hstop.resolve_left hgo
      have h1 : ¬ (i : Int) < a.length := by omega
      have h2 : ¬ (i : Int) < b.length := by omega
      have h3 : c = 0 := by omega
      have h4 := hres e
      subst h3
      simp (config := { maxSteps := 1000000 }) [-List.map_map, -List.mapM_map, ↓KW, encM, h1, h2, hlen, chunk_lms hlen, lms_take_all hlen, ← h4]
end Go.Am
end

section
set_option linter.unusedVariables false
set_option linter.unusedSimpArgs false
open Go Go.Am Go.Proofs
namespace Go.Am
set_option linter.unusedSimpArgs false
/-- The difference after i limbs, and what is borrowed. -/
def miS (a b : List Nat) : Nat → List Nat × Nat
  | 0 => ([], 0)
  | i + 1 => if (miS a b i).2 + b.getD i 0 ≤ a.getD i 0 then ((miS a b i).1 ++ [a.getD i 0 - ((miS a b i).2 + b.getD i 0)], 0) else ((miS a b i).1 ++ [a.getD i 0 + 4294967296 - ((miS a b i).2 + b.getD i 0)], 1)
theorem mi_arith1 {p o vb va x y c z : Nat} (h4 : o + vb = va + p * c) (hx : x = z + (c + y)) : o + p * z + (vb + p * y) = va + p * x := by
  subst hx; rw [Nat.mul_add, Nat.mul_add]; omega
theorem mi_arith2 {p o vb va x y c z k : Nat} (h4 : o + vb = va + p * c) (hx : x + k = z + (c + y)) : o + p * z + (vb + p * y) = va + p * x + p * k := by
  have := mi_arith1 (p := p) (x := x + k) h4 hx
  rw [Nat.mul_add] at this; omega
theorem miS_pos {p va vb i : Nat} {out : List Nat} {c x y z : Nat} (hz : x = z + (c + y)) (hl : z < 4294967296) (h1 : out.length = i) (hp : 4294967296 ^ i = p) (h3 : Lim out) (h4 : val out + vb = va + p * c) :
    (out ++ [z]).length = i + 1 ∧ Lim (out ++ [z]) ∧ val (out ++ [z]) + (vb + p * y) = va + p * x := by
  refine ⟨by simp [h1], h3.app (.one hl), ?_⟩
  simp only [val_app, val, Nat.mul_zero, Nat.add_zero, h1, hp]
  exact mi_arith1 h4 hz
theorem miS_neg {p va vb i : Nat} {out : List Nat} {c x y z k : Nat} (hz : x + k = z + (c + y)) (hl : z < 4294967296) (h1 : out.length = i) (hp : 4294967296 ^ i = p) (h3 : Lim out) (h4 : val out + vb = va + p * c) :
    (out ++ [z]).length = i + 1 ∧ Lim (out ++ [z]) ∧ val (out ++ [z]) + (vb + p * y) = va + p * x + p * k := by
  refine ⟨by simp [h1], h3.app (.one hl), ?_⟩
  simp only [val_app, val, Nat.mul_zero, Nat.add_zero, h1, hp]
  exact mi_arith2 h4 hz
theorem miS_succ (a b : List Nat) (i : Nat) : miS a b (i + 1) = if (miS a b i).2 + b.getD i 0 ≤ a.getD i 0 then ((miS a b i).1 ++ [a.getD i 0 - ((miS a b i).2 + b.getD i 0)], 0) else ((miS a b i).1 ++ [a.getD i 0 + 4294967296 - ((miS a b i).2 + b.getD i 0)], 1) := rfl
theorem aux_mul0 {a b : Nat} (q : Nat) (h : a = b) : a = b + q * 0 := by rw [Nat.mul_zero, Nat.add_zero]; exact h
theorem aux_mul1 {a b : Nat} (q : Nat) (h : a = b + q) : a = b + q * 1 := by rw [Nat.mul_one]; exact h
theorem miS_inv {a b : List Nat} (ha : Lim a) (hb : Lim b) (i : Nat) : (miS a b i).1.length = i ∧ (miS a b i).2 ≤ 1 ∧ Lim (miS a b i).1 ∧ val (miS a b i).1 + val (b.take i) = val (a.take i) + 4294967296 ^ i * (miS a b i).2 := by
  induction i with
  | zero => exact ⟨rfl, Nat.zero_le _, .nil, by simp [miS, val]⟩
  | succ i ih =>
    obtain ⟨h1, h2, h3, h4⟩ := ih
    have hx := ha.getD i
    have hy := hb.getD i
    rw [val_take_succ, val_take_succ, Nat.pow_succ, miS_succ]
    generalize (miS a b i).1 = out at *
    generalize (miS a b i).2 = c at *
    generalize a.getD i 0 = x at *
    generalize b.getD i 0 = y at *
    generalize hp : 4294967296 ^ i = p at *
    by_cases h : c + y ≤ x
    · rw [if_pos h]
      obtain ⟨z, hz, hz'⟩ : ∃ z, x - (c + y) = z ∧ x = z + (c + y) := ⟨_, rfl, (Nat.sub_add_cancel h).symm⟩
      rw [hz]; clear hz
      obtain ⟨q1, q2, q3⟩ := miS_pos hz' (by omega) h1 hp h3 h4
      exact ⟨q1, Nat.zero_le _, q2, aux_mul0 _ q3⟩
    · rw [if_neg h]
      obtain ⟨z, hz, hz'⟩ : ∃ z, x + 4294967296 - (c + y) = z ∧ x + 4294967296 = z + (c + y) := ⟨_, rfl, (Nat.sub_add_cancel (by omega)).symm⟩
      rw [hz]; clear hz
      obtain ⟨q1, q2, q3⟩ := miS_neg hz' (by omega) h1 hp h3 h4
      exact ⟨q1, Nat.le_refl _, q2, aux_mul1 _ q3⟩
def minusR (a b : List Nat) : List Nat := (miS a b a.length).1
theorem minusR_val {a b : List Nat} (ha : Lim a) (hb : Lim b) (hl : b.length ≤ a.length) (hv : val b ≤ val a) : val (minusR a b) = val a - val b ∧ Lim (minusR a b) ∧ (minusR a b).length = a.length := by
  obtain ⟨h1, h2, h3, h4⟩ := miS_inv ha hb a.length
  rw [List.take_of_length_le hl, List.take_of_length_le (Nat.le_refl _)] at h4
  refine ⟨?_, h3, h1⟩
  have hlt := val_lt h3
  rw [h1] at hlt
  unfold minusR
  generalize (miS a b a.length).1 = out at *
  generalize (miS a b a.length).2 = c at *
  rcases Nat.lt_or_ge 0 c with hc | hc
  · have : c = 1 := by omega
    rw [this, Nat.mul_one] at h4; omega
  · have : c = 0 := by omega
    rw [this, Nat.mul_zero] at h4; omega
set_option maxRecDepth 10000 in
theorem r01minus (a b : List Nat) (ha : Lim a) (hb : Lim b) (hla : a.length ≤ 1099511627776) (_hlb : b.length ≤ 1099511627776) : Spec Tryz.prog 79 [encM a, encM b] (encM (minusR a b)) := by
  refine spec_of (N := 44) follows_mixed Tryz.func79 rfl rfl rfl (by kernel_rfl) (by kernel_rfl) (by simp) ?_
  simp (config := { maxSteps := 1000000 }) [-List.map_map, -List.mapM_map, ↓KW, encM]
  refine loopP_inv (fun i : Nat => i ≤ a.length)
    (fun i => StL [(0, .d (encM a)), (1, .d (encM b)), (5, .own 1 0 i 1), (6, .d (.i .i64 (miS a b i).2)), (7, .d (.i .i64 i))] none [.cells 92 ((lms (miS a b i).1).map .d)]) (fun i => a.length - i) 0 (Nat.zero_le _) ?_ ?_
  · refine wk_l [1] (by simp) ?_ ?_ <;> simp [-List.map_map, upd, inj1, Γ0, encM, miS, lms]
  · intro i hi
    obtain ⟨hlen, hc, _, _⟩ := miS_inv ha hb i
    have hsucc : miS a b (i + 1) = if (miS a b i).2 + b.getD i 0 ≤ a.getD i 0 then ((miS a b i).1 ++ [a.getD i 0 - ((miS a b i).2 + b.getD i 0)], 0) else ((miS a b i).1 ++ [a.getD i 0 + 4294967296 - ((miS a b i).2 + b.getD i 0)], 1) := rfl
    have hal := ha.getD i
    have hbl := hb.getD i
    have hres : i = a.length → (miS a b i).1 = minusR a b := fun e => by rw [e]; rfl
    generalize hout : (miS a b i).1 = out at *
    generalize hcar : (miS a b i).2 = c at *
    by_cases hgo : i < a.length
    · have hb1 : (i + 1) * 4 ≤ 140737488355328 := by omega
      have hb2 : i + 1 ≤ maxLen := by unfold maxLen; omega
      have hw7 : IntKind.i64.wrap ((i : Int) + 1) = (i : Int) + 1 := wrap_i64 (by omega) (by omega)
      have q1 : (i : Int) < a.length := by omega
      have g1 := getD_some hgo
      have hb0 : ¬ i < b.length → b.getD i 0 = 0 := getD_none
      have g2 : i < b.length → b[i]? = some (b.getD i 0) := getD_some
      generalize a.getD i 0 = x at *
      generalize b.getD i 0 = y at *
      have hwx : IntKind.i64.wrap (x : Int) = x := wrap_i64 (by omega) (by omega)
      have hwy : IntKind.i64.wrap (y : Int) = y := wrap_i64 (by omega) (by omega)
      obtain ⟨d1, hd1⟩ : ∃ d1 : Int, (x : Int) - c = d1 := ⟨_, rfl⟩
      obtain ⟨d, hd⟩ : ∃ d : Int, d1 - y = d := ⟨_, rfl⟩
      have hw1 : IntKind.i64.wrap ((x : Int) - c) = d1 := by rw [wrap_i64 (by omega) (by omega)]; exact hd1
      have hw2 : IntKind.i64.wrap (d1 - y) = d := by rw [wrap_i64 (by omega) (by omega)]; exact hd
      by_cases hneg : d < 0
      · rw [if_neg (by omega)] at hsucc
        obtain ⟨lo, hlo⟩ : ∃ lo : Nat, x + 4294967296 - (c + y) = lo := ⟨_, rfl⟩
        rw [hlo] at hsucc
        have hw3 : IntKind.i64.wrap (d + 4294967296) = lo := by rw [wrap_i64 (by omega) (by omega)]; omega
        have hw4 : IntKind.u32.wrap (lo : Int) = lo := wrap_u32 (by omega) (by omega)
        by_cases hbn : i < b.length
        · have q2 : (i : Int) < b.length := by omega
          have g3 := g2 hbn
          simp (config := { maxSteps := 1000000 }) [-List.map_map, -List.mapM_map, ↓KW, encM, q1, q2, g1, g3, hwx, hwy, hw1, hw2, hw3, hw4, hneg, hw7, hb1, hb2, hlen]
          refine nxt_intro (i + 1) hgo ?_ (wk_l [3] (by simp) ?_ ?_)
          · omega
          · simp [-List.map_map, upd, inj1, Γ0, encM, hsucc, lms_app, lms_one]
          · simp [-List.map_map, upd, inj1, Γ0, encM, hsucc, lms_app, lms_one]
        · have q2 : ¬ (i : Int) < b.length := by omega
          have e1 : d1 = d := by have := hb0 hbn; omega
          rw [e1] at hw1
          simp (config := { maxSteps := 1000000 }) [-List.map_map, -List.mapM_map, ↓KW, encM, q1, q2, g1, hwx, hw1, hw3, hw4, hneg, hw7, hb1, hb2, hlen]
          refine nxt_intro (i + 1) hgo ?_ (wk_l [3] (by simp) ?_ ?_)
          · omega
          · simp [-List.map_map, upd, inj1, Γ0, encM, hsucc, lms_app, lms_one]
          · simp [-List.map_map, upd, inj1, Γ0, encM, hsucc, lms_app, lms_one]
      · rw [if_pos (by omega)] at hsucc
        obtain ⟨lo, hlo⟩ : ∃ lo : Nat, x - (c + y) = lo := ⟨_, rfl⟩
        rw [hlo] at hsucc
        have e0 : d = lo := by omega
        rw [e0] at hw2 hneg
        have hw4 : IntKind.u32.wrap (lo : Int) = lo := wrap_u32 (by omega) (by omega)
        by_cases hbn : i < b.length
        · have q2 : (i : Int) < b.length := by omega
          have g3 := g2 hbn
          simp (config := { maxSteps := 1000000 }) [-List.map_map, -List.mapM_map, ↓KW, encM, q1, q2, g1, g3, hwx, hwy, hw1, hw2, hw4, hneg, hw7, hb1, hb2, hlen]
          refine nxt_intro (i + 1) hgo ?_ (wk_l [3] (by simp) ?_ ?_)
          · omega
          · simp [-List.map_map, upd, inj1, Γ0, encM, hsucc, lms_app, lms_one]
          · simp [-List.map_map, upd, inj1, Γ0, encM, hsucc, lms_app, lms_one]
        · have q2 : ¬ (i : Int) < b.length := by omega
          have e1 : d1 = lo := by have := hb0 hbn; omega
          rw [e1] at hw1
          simp (config := { maxSteps := 1000000 }) [-List.map_map, -List.mapM_map, ↓KW, encM, q1, q2, g1, hwx, hw1, hw4, hneg, hw7, hb1, hb2, hlen]
          refine nxt_intro (i + 1) hgo ?_ (wk_l [3] (by simp) ?_ ?_)
          · omega
          · simp [-List.map_map, upd, inj1, Γ0, encM, hsucc, lms_app, lms_one]
          · simp [-List.map_map, upd, inj1, Γ0, encM, hsucc, lms_app, lms_one]
    · have e : i = a.length := by omega
      have h1 : ¬ (i : Int) < a.length := by omega
      have h4 := hres e
      simp (config := { maxSteps := 1000000 }) [-List.map_map, -List.mapM_map, ↓KW, encM, h1, hlen, chunk_lms hlen, lms_take_all hlen, ← h4]
set_option maxRecDepth 10000 in
theorem r01AddZ (x y : Int) (hx : (digs x.natAbs).length ≤ 549755813888) (hy : (digs y.natAbs).length ≤ 549755813888) : Spec Tryz.prog 65 [encZ x, encZ y] (encZ (x + y)) := by
  refine spec_of (N := 39) follows_mixed Tryz.func65 rfl rfl rfl (by kernel_rfl) (by kernel_rfl) (by simp) ?_
  have la := lim_digs x.natAbs
  have lb := lim_digs y.natAbs
  have va := val_digs x.natAbs
  have vb := val_digs y.natAbs
  have hless : (digs x.natAbs).length < (digs y.natAbs).length → x.natAbs < y.natAbs := lt_of_len_lt
  have hless2 : (digs y.natAbs).length < (digs x.natAbs).length → y.natAbs < x.natAbs := lt_of_len_lt
  have hl := r01less _ _ la lb (by omega) (by omega)
  rw [lessL_digs] at hl
  have sx := sg_natAbs x
  have sy := sg_natAbs y
  have ex : encZ x = .ag [.b (decide (x < 0)), encM (digs x.natAbs)] := rfl
  have ey : encZ y = .ag [.b (decide (y < 0)), encM (digs y.natAbs)] := rfl
  rw [ex, ey]
  generalize digs x.natAbs = a at *
  generalize digs y.natAbs = b at *
  generalize hbx : decide (x < 0) = nx at *
  generalize hby : decide (y < 0) = ny at *
  by_cases hn : nx = ny
  · have h1 : (nx == ny) = true := by simpa using hn
    simp (config := { maxSteps := 1000000 }) [-List.map_map, -List.mapM_map, ↓KW, encM, h1]
    obtain ⟨pv, pl, pn⟩ := plusR_val la lb
    refine callP_intro (ds := [encM a, encM b]) (by rfl) (r01plus a b la lb (by omega) (by omega)) ?_
    simp (config := { maxSteps := 1000000 }) [-List.map_map, -List.mapM_map, ↓KW, encM]
    have hm := r01Made (plusR a b) nx (by omega)
    rw [made_encZ pl, pv, va, vb] at hm
    refine callP_intro (ds := [encM (plusR a b), .b nx]) (by rfl) hm ?_
    have e : sg nx (x.natAbs + y.natAbs) = x + y := by
      rw [← sx, ← sy, ← hn]; cases nx <;> simp [sg] <;> omega
    rw [e]
    simp (config := { maxSteps := 1000000 }) [-List.map_map, -List.mapM_map, ↓KW, encM, encZ, encI]
  · have h1 : (nx == ny) = false := by simpa using hn
    simp (config := { maxSteps := 1000000 }) [-List.map_map, -List.mapM_map, ↓KW, encM, h1]
    refine callP_intro (ds := [encM a, encM b]) (by rfl) hl ?_
    by_cases hlt : x.natAbs < y.natAbs
    · simp (config := { maxSteps := 1000000 }) [-List.map_map, -List.mapM_map, ↓KW, encM, hlt]
      obtain ⟨pv, pl, pn⟩ := minusR_val lb la (by omega) (by omega)
      refine callP_intro (ds := [encM b, encM a]) (by rfl) (r01minus b a lb la (by omega) (by omega)) ?_
      simp (config := { maxSteps := 1000000 }) [-List.map_map, -List.mapM_map, ↓KW, encM]
      have hm := r01Made (minusR b a) ny (by omega)
      rw [made_encZ pl, pv, va, vb] at hm
      refine callP_intro (ds := [encM (minusR b a), .b ny]) (by rfl) hm ?_
      have e : sg ny (y.natAbs - x.natAbs) = x + y := by
        rw [← sx, ← sy]
        cases nx <;> cases ny <;> simp [sg] at hn ⊢ <;> omega
      rw [e]
      simp (config := { maxSteps := 1000000 }) [-List.map_map, -List.mapM_map, ↓KW, encM, encZ, encI]
    · simp (config := { maxSteps := 1000000 }) [-List.map_map, -List.mapM_map, ↓KW, encM, hlt]
      obtain ⟨pv, pl, pn⟩ := minusR_val la lb (by omega) (by omega)
      refine callP_intro (ds := [encM a, encM b]) (by rfl) (r01minus a b la lb (by omega) (by omega)) ?_
      simp (config := { maxSteps := 1000000 }) [-List.map_map, -List.mapM_map, ↓KW, encM]
      have hm := r01Made (minusR a b) nx (by omega)
      rw [made_encZ pl, pv, va, vb] at hm
      refine callP_intro (ds := [encM (minusR a b), .b nx]) (by rfl) hm ?_
      have e : sg nx (x.natAbs - y.natAbs) = x + y := by
        rw [← sx, ← sy]
        cases nx <;> cases ny <;> simp [sg] at hn ⊢ <;> omega
      rw [e]
      simp (config := { maxSteps := 1000000 }) [-List.map_map, -List.mapM_map, ↓KW, encM, encZ, encI]
end Go.Am
end

section
set_option linter.unusedVariables false
set_option linter.unusedSimpArgs false
open Go Go.Am Go.Proofs
namespace Go.Am
set_option linter.unusedSimpArgs false
theorem val_set {l : List Nat} {j : Nat} (h : j < l.length) (v : Nat) : val (l.set j v) + 4294967296 ^ j * l.getD j 0 = val l + 4294967296 ^ j * v := by
  induction l generalizing j with
  | nil => simp at h
  | cons x l ih =>
    cases j with
    | zero => simp only [List.set_cons_zero, val, Nat.pow_zero, Nat.one_mul, List.getD_cons_zero]; omega
    | succ j =>
      have := ih (j := j) (by simpa using h)
      simp only [List.set_cons_succ, val, List.getD_cons_succ, Nat.pow_succ]
      generalize 4294967296 ^ j = p at *
      generalize l.getD j 0 = o at *
      generalize val (l.set j v) = w at *
      rw [Nat.mul_comm p, Nat.mul_assoc, Nat.mul_assoc]
      generalize p * o = e1 at *
      generalize p * v = e2 at *
      omega
/-- One limb's product laid in: k limbs. -/
def muI (out : List Nat) (x : Nat) (b : List Nat) (i : Nat) : Nat → List Nat × Nat
  | 0 => (out, 0)
  | k + 1 => ((muI out x b i k).1.set (i + k) (((muI out x b i k).2 + (muI out x b i k).1.getD (i + k) 0 + x * b.getD k 0) % 4294967296), ((muI out x b i k).2 + (muI out x b i k).1.getD (i + k) 0 + x * b.getD k 0) / 4294967296)
def muN (out : List Nat) (x : Nat) (b : List Nat) (i : Nat) : Nat := if (muI out x b i b.length).2 = 0 then b.length else b.length + 1
def muO (a b : List Nat) : Nat → List Nat
  | 0 => List.replicate (a.length + b.length + 1) 0
  | i + 1 => (muI (muO a b i) (a.getD i 0) b i (muN (muO a b i) (a.getD i 0) b i)).1
theorem mu_arith {P v v' o c t q r e w k : Nat} (hs : v' + P * o = v + P * r) (ht : r + k * q = t) (ht2 : c + o + e = t) (hv : v + P * c = w) : v' + P * k * q = w + P * e := by
  have h1 : P * t = P * r + P * (k * q) := by rw [← ht, Nat.mul_add]
  have h2 : P * t = P * c + P * o + P * e := by rw [← ht2, Nat.mul_add, Nat.mul_add]
  rw [Nat.mul_assoc]
  omega
theorem mu_lim {c o x y : Nat} (hc : c < 4294967296) (ho : o < 4294967296) (hx : x < 4294967296) (hy : y < 4294967296) : c + o + x * y < 18446744073709551616 := by
  have : x * y ≤ 4294967295 * 4294967295 := Nat.mul_le_mul (by omega) (by omega)
  omega
theorem muI_inv {out b : List Nat} {x i : Nat} (ho : Lim out) (hb : Lim b) (hx : x < 4294967296) (hl : i + b.length < out.length) (k : Nat) (hk : k ≤ b.length + 1) :
    (muI out x b i k).1.length = out.length ∧ (muI out x b i k).2 < 4294967296 ∧ Lim (muI out x b i k).1 ∧ val (muI out x b i k).1 + 4294967296 ^ (i + k) * (muI out x b i k).2 = val out + 4294967296 ^ i * (x * val (b.take k)) := by
  induction k with
  | zero => exact ⟨rfl, Nat.zero_lt_of_lt hx, ho, by simp [muI, val]⟩
  | succ k ih =>
    obtain ⟨h1, h2, h3, h4⟩ := ih (by omega)
    have hy := hb.getD k
    have hoo := h3.getD (i + k)
    have hset := val_set (l := (muI out x b i k).1) (j := i + k) (by omega) (((muI out x b i k).2 + (muI out x b i k).1.getD (i + k) 0 + x * b.getD k 0) % 4294967296)
    have hlim := mu_lim h2 hoo hx hy
    rw [val_take_succ]
    simp only [muI]
    generalize (muI out x b i k).1 = out' at *
    generalize (muI out x b i k).2 = c at *
    generalize out'.getD (i + k) 0 = o at *
    generalize b.getD k 0 = y at *
    refine ⟨by simp [h1], by omega, h3.set _ (by omega), ?_⟩
    have := mu_arith hset (Nat.mod_add_div _ _) rfl h4
    rw [← Nat.add_assoc i k 1, Nat.pow_succ, this, Nat.pow_add, Nat.mul_add, Nat.mul_add, Nat.mul_assoc, Nat.add_assoc]
    congr 2
    rw [Nat.mul_left_comm x]
theorem muI_stop {out b : List Nat} {x i : Nat} (ho : Lim out) (hb : Lim b) (hx : x < 4294967296) (hl : i + b.length < out.length) (hv : val out < 4294967296 ^ (i + b.length)) : (muI out x b i (b.length + 1)).2 = 0 := by
  obtain ⟨_, _, _, h4⟩ := muI_inv ho hb hx hl (b.length + 1) (Nat.le_refl _)
  rw [List.take_of_length_le (by omega)] at h4
  have hbv := val_lt hb
  rcases Nat.eq_zero_or_pos (muI out x b i (b.length + 1)).2 with h | h
  · exact h
  exfalso
  have e1 : 4294967296 ^ (i + (b.length + 1)) * 1 ≤ 4294967296 ^ (i + (b.length + 1)) * (muI out x b i (b.length + 1)).2 := Nat.mul_le_mul_left _ h
  have e2 : x * val b ≤ 4294967295 * 4294967296 ^ b.length := Nat.mul_le_mul (by omega) (by omega)
  have e3 : 4294967296 ^ i * (x * val b) ≤ 4294967296 ^ i * (4294967295 * 4294967296 ^ b.length) := Nat.mul_le_mul_left _ e2
  have e4 : 4294967296 ^ i * (4294967295 * 4294967296 ^ b.length) = 4294967295 * 4294967296 ^ (i + b.length) := by rw [Nat.pow_add, Nat.mul_left_comm]
  have e5 : 4294967296 ^ (i + (b.length + 1)) = 4294967296 ^ (i + b.length) * 4294967296 := by rw [← Nat.add_assoc, Nat.pow_succ]
  rw [Nat.mul_one, e5] at e1
  rw [e5] at h4
  rw [e4] at e3
  generalize 4294967296 ^ (i + b.length) = p at *
  generalize 4294967296 ^ i * (x * val b) = q at *
  generalize (muI out x b i (b.length + 1)).2 = c at *
  generalize p * 4294967296 * c = d at *
  omega
theorem muN_val {out b : List Nat} {x i : Nat} (ho : Lim out) (hb : Lim b) (hx : x < 4294967296) (hl : i + b.length < out.length) (hv : val out < 4294967296 ^ (i + b.length)) :
    (muI out x b i (muN out x b i)).1.length = out.length ∧ Lim (muI out x b i (muN out x b i)).1 ∧ val (muI out x b i (muN out x b i)).1 = val out + 4294967296 ^ i * (x * val b) := by
  unfold muN
  have hstop := muI_stop ho hb hx hl hv
  by_cases h : (muI out x b i b.length).2 = 0
  · rw [if_pos h]
    obtain ⟨h1, _, h3, h4⟩ := muI_inv ho hb hx hl b.length (by omega)
    rw [List.take_of_length_le (by omega), h, Nat.mul_zero, Nat.add_zero] at h4
    exact ⟨h1, h3, h4⟩
  · rw [if_neg h]
    obtain ⟨h1, _, h3, h4⟩ := muI_inv ho hb hx hl (b.length + 1) (Nat.le_refl _)
    rw [List.take_of_length_le (by omega), hstop, Nat.mul_zero, Nat.add_zero] at h4
    exact ⟨h1, h3, h4⟩
theorem muO_lt {a b : List Nat} (ha : Lim a) (hb : Lim b) {i : Nat} (hi : i ≤ a.length) : val (a.take i) * val b < 4294967296 ^ (i + b.length) := by
  have h1 := val_lt (ha.take i)
  rw [List.length_take, Nat.min_eq_left hi] at h1
  have h2 := val_lt hb
  rw [Nat.pow_add]
  exact Nat.mul_lt_mul'' h1 h2
theorem muO_inv {a b : List Nat} (ha : Lim a) (hb : Lim b) (i : Nat) (hi : i ≤ a.length) : (muO a b i).length = a.length + b.length + 1 ∧ Lim (muO a b i) ∧ val (muO a b i) = val (a.take i) * val b := by
  induction i with
  | zero => exact ⟨by simp [muO], .rep _, by simp [muO, val_rep, val]⟩
  | succ i ih =>
    obtain ⟨h1, h2, h3⟩ := ih (by omega)
    have hv := muO_lt ha hb (i := i) (by omega)
    rw [← h3] at hv
    obtain ⟨q1, q2, q3⟩ := muN_val (x := a.getD i 0) (i := i) h2 hb (ha.getD i) (by omega) hv
    refine ⟨q1.trans h1, q2, ?_⟩
    show val (muI (muO a b i) (a.getD i 0) b i (muN (muO a b i) (a.getD i 0) b i)).1 = _
    rw [q3, h3, val_take_succ, Nat.add_mul, Nat.mul_assoc]
end Go.Am
end

section
set_option linter.unusedVariables false
set_option linter.unusedSimpArgs false
open Go Go.Am Go.Proofs
namespace Go.Am
set_option linter.unusedSimpArgs false
set_option maxRecDepth 10000 in
theorem r01MulZ (x y : Int) (hx : (digs x.natAbs).length ≤ 137438953472) (hy : (digs y.natAbs).length ≤ 137438953472) : Spec Tryz.prog 52 [encZ x, encZ y] (encZ (x * y)) := by
  refine spec_of (N := 81) follows_mixed Tryz.func52 rfl rfl rfl (by kernel_rfl) (by kernel_rfl) (by simp) ?_
  have la := lim_digs x.natAbs
  have lb := lim_digs y.natAbs
  have va := val_digs x.natAbs
  have vb := val_digs y.natAbs
  have sx := sg_natAbs x
  have sy := sg_natAbs y
  have ex : encZ x = .ag [.b (decide (x < 0)), encM (digs x.natAbs)] := rfl
  have ey : encZ y = .ag [.b (decide (y < 0)), encM (digs y.natAbs)] := rfl
  rw [ex, ey]
  generalize digs x.natAbs = a at *
  generalize digs y.natAbs = b at *
  generalize hbx : decide (x < 0) = nx at *
  generalize hby : decide (y < 0) = ny at *
  obtain ⟨n, hn⟩ : ∃ n, a.length + b.length + 1 = n := ⟨_, rfl⟩
  have hw1 : IntKind.i64.wrap ((a.length : Int) + b.length) = (a.length : Int) + b.length := wrap_i64 (by omega) (by omega)
  have hw2 : IntKind.i64.wrap ((a.length : Int) + b.length + 1) = (n : Int) := by rw [wrap_i64 (by omega) (by omega)]; omega
  have hm1 : (4 : Int) * n ≤ 281474976710656 := by omega
  have hm2 : (n : Int) ≤ 9223372036854775807 := by omega
  have h00 : muO a b 0 = List.replicate n 0 := by rw [← hn]; rfl
  simp (config := { maxSteps := 1000000 }) [-List.map_map, -List.mapM_map, ↓KW, encM, hw1, hw2, hm1, hm2]
  refine loopP_inv (fun i : Nat => i ≤ a.length)
    (fun i => StL [(2, .ptr 1 0), (3, .ptr 2 0), (4, .ptr 3 0), (5, .own 4 0 n 1), (6, .d (.i .i64 i))] none
      [.cells 51 [.d (.b nx), .d (encM a)], .cells 51 [.d (.b ny), .d (encM b)], .cells 51 [.d (.b false), .nil], .cells 92 ((lms (muO a b i)).map .d)]) (fun i => a.length - i) 0 (Nat.zero_le _) ?_ ?_
  · refine wk_l [1, 2, 3, 4] (by simp) ?_ ?_ <;> simp [-List.map_map, upd, inj1, Γ0, encM, h00]
  · intro i hi
    obtain ⟨ol, om, ov⟩ := muO_inv la lb i hi
    rw [hn] at ol
    by_cases hgo : i < a.length
    · have q1 : (i : Int) < a.length := by omega
      simp (config := { maxSteps := 1000000 }) [-List.map_map, -List.mapM_map, ↓KW, encM, q1]
      have hsucc : muO a b (i + 1) = (muI (muO a b i) (a.getD i 0) b i (muN (muO a b i) (a.getD i 0) b i)).1 := rfl
      have g1 := getD_some hgo
      have hlt := muO_lt la lb hi
      rw [← ov] at hlt
      generalize hout : muO a b i = out at *
      have hal := la.getD i
      generalize a.getD i 0 = xv at *
      have hwx : IntKind.u64.wrap (xv : Int) = xv := wrap_u64 (by omega) (by omega)
      refine loopP_inv (fun k : Nat => k ≤ b.length ∨ (k = b.length + 1 ∧ (muI out xv b i b.length).2 ≠ 0))
        (fun k => StL [(2, .ptr 1 0), (3, .ptr 2 0), (4, .ptr 3 0), (5, .own 4 0 n 1), (6, .d (.i .i64 i)), (7, .d (.i .u64 (muI out xv b i k).2)), (8, .d (.i .i64 k))] none
          [.cells 51 [.d (.b nx), .d (encM a)], .cells 51 [.d (.b ny), .d (encM b)], .cells 51 [.d (.b false), .nil], .cells 92 ((lms (muI out xv b i k).1).map .d)]) (fun k => b.length + 1 - k) 0 (.inl (Nat.zero_le _)) ?_ ?_
      · refine wk_l [1, 2, 3, 4] (by simp) ?_ ?_ <;> simp [-List.map_map, upd, inj1, Γ0, encM, muI]
      · intro k hk
        have hkl : k ≤ b.length + 1 := by omega
        obtain ⟨il, ic, im, _⟩ := muI_inv om lb hal (i := i) (by omega) k hkl
        have isucc : muI out xv b i (k + 1) = ((muI out xv b i k).1.set (i + k) (((muI out xv b i k).2 + (muI out xv b i k).1.getD (i + k) 0 + xv * b.getD k 0) % 4294967296), ((muI out xv b i k).2 + (muI out xv b i k).1.getD (i + k) 0 + xv * b.getD k 0) / 4294967296) := rfl
        have hstop0 := muI_stop om lb hal (i := i) (by omega) hlt
        have hres : (k < b.length ∨ 0 < (muI out xv b i k).2) ∨ muO a b (i + 1) = (muI out xv b i k).1 := by
          rw [hsucc]; unfold muN
          rcases hk with hk | ⟨hk, hc⟩
          · by_cases h1 : k = b.length
            · subst h1
              by_cases h2 : (muI out xv b i b.length).2 = 0
              · rw [if_pos h2]; exact .inr rfl
              · exact .inl (.inr (by omega))
            · exact .inl (.inl (by omega))
          · rw [if_neg hc, hk]; exact .inr rfl
        have hnext : (k < b.length ∨ 0 < (muI out xv b i k).2) → k ≤ b.length ∧ (k + 1 ≤ b.length ∨ (k + 1 = b.length + 1 ∧ (muI out xv b i b.length).2 ≠ 0)) := by
          intro h
          rcases hk with hk | ⟨hk, hc⟩
          · refine ⟨hk, ?_⟩
            by_cases h1 : k = b.length
            · subst h1; exact .inr ⟨rfl, by omega⟩
            · exact .inl (by omega)
          · rw [hk, hstop0] at h; omega
        clear hstop0 hsucc
        have ho := im.getD (i + k)
        generalize hcar : (muI out xv b i k).2 = c at *
        generalize hcur : (muI out xv b i k).1 = cur at *
        by_cases hg2 : k < b.length ∨ 0 < c
        · obtain ⟨n1, n2⟩ := hnext hg2
          obtain ⟨j, hj⟩ : ∃ j, i + k = j := ⟨_, rfl⟩
          rw [hj] at isucc ho
          have hjl : j < cur.length := by omega
          have g2 := lms_get (getD_some hjl)
          have hwj : IntKind.i64.wrap ((i : Int) + k) = j := by rw [wrap_i64 (by omega) (by omega)]; omega
          have hjn : (j : Int) < n := by omega
          have hw8 : IntKind.i64.wrap ((k : Int) + 1) = (k : Int) + 1 := wrap_i64 (by omega) (by omega)
          have hjl2 : j < (lms cur).length := by rw [lms_len]; exact hjl
          have hjl3 : j + 1 ≤ n := by omega
          have hyb := lb.getD k
          have hlim := mu_lim ic ho hal hyb
          have hy0 : ¬ k < b.length → b.getD k 0 = 0 := getD_none
          have g3 : k < b.length → b[k]? = some (b.getD k 0) := getD_some
          generalize cur.getD j 0 = o at *
          generalize b.getD k 0 = yv at *
          obtain ⟨s1, hs1⟩ : ∃ s1 : Nat, c + o = s1 := ⟨_, rfl⟩
          obtain ⟨t, ht⟩ : ∃ t : Nat, s1 + xv * yv = t := ⟨_, rfl⟩
          rw [hs1] at isucc hlim
          rw [ht] at isucc hlim
          obtain ⟨lo, hlo⟩ : ∃ lo : Nat, t % 4294967296 = lo := ⟨_, rfl⟩
          obtain ⟨hi', hhi⟩ : ∃ hi' : Nat, t / 4294967296 = hi' := ⟨_, rfl⟩
          rw [hlo, hhi] at isucc
          have hwo : IntKind.u64.wrap (o : Int) = o := wrap_u64 (by omega) (by omega)
          have hws : IntKind.u64.wrap ((c : Int) + o) = s1 := by rw [wrap_u64 (by omega) (by omega)]; omega
          have hwlo : IntKind.u32.wrap (t : Int) = lo := by rw [wrap_u32m]; omega
          have hwhi : IntKind.u64.wrap ((t : Int) / 4294967296) = hi' := by rw [wrap_u64 (by omega) (by omega)]; omega
          have hlay : lay (List.map AV.d (lms cur)) j [AV.d (D.i .u32 (lo : Int))] = List.map AV.d (lms (cur.set j lo)) := by
            rw [lay_one _ _ _ hjl2, lms_set]
          have hgj : List.length cur = n := by omega
          by_cases hkb : k < b.length
          · have q2 : (k : Int) < b.length := by omega
            have g4 := g3 hkb
            have hwy : IntKind.u64.wrap (yv : Int) = yv := wrap_u64 (by omega) (by omega)
            obtain ⟨e, he⟩ : ∃ e : Nat, xv * yv = e := ⟨_, rfl⟩
            rw [he] at ht
            have hwm : IntKind.u64.wrap ((xv : Int) * yv) = e := by rw [← Int.natCast_mul, he, wrap_u64 (by omega) (by omega)]
            have hwt : IntKind.u64.wrap ((s1 : Int) + e) = t := by rw [wrap_u64 (by omega) (by omega)]; omega
            simp (config := { maxSteps := 1000000 }) [-List.map_map, -List.mapM_map, ↓KW, encM, q2, hwj, hjn, g2, hwo, hws, g1, g4, hwx, hwy, hwm, hwt, hwlo, hwhi, hlay, hw8, hjl3, hgj]
            refine nxt_intro (k + 1) n2 ?_ (wk_l [1, 2, 3, 4] (by simp) ?_ ?_)
            · omega
            · simp [-List.map_map, upd, inj1, Γ0, encM, isucc]
            · simp [-List.map_map, upd, inj1, Γ0, encM, isucc]
          · have q2 : ¬ (k : Int) < b.length := by omega
            have q3 : 0 < c := by omega
            have e1 : t = s1 := by rw [hy0 hkb, Nat.mul_zero] at ht; omega
            rw [e1] at hwlo hwhi
            simp (config := { maxSteps := 1000000 }) [-List.map_map, -List.mapM_map, ↓KW, encM, q2, q3, hwj, hjn, g2, hwo, hws, hwlo, hwhi, hlay, hw8, hjl3, hgj]
            refine nxt_intro (k + 1) n2 ?_ (wk_l [1, 2, 3, 4] (by simp) ?_ ?_)
            · omega
            · simp [-List.map_map, upd, inj1, Γ0, encM, isucc]
            · simp [-List.map_map, upd, inj1, Γ0, encM, isucc]
        · have q2 : ¬ (k : Int) < b.length := by omega
          have q3 : ¬ 0 < c := by omega
          have hfin := hres.resolve_left hg2
          have hw8 : IntKind.i64.wrap ((i : Int) + 1) = (i : Int) + 1 := wrap_i64 (by omega) (by omega)
          simp (config := { maxSteps := 1000000 }) [-List.map_map, -List.mapM_map, ↓KW, encM, q2, q3, hw8]
          refine nxt_intro (i + 1) hgo ?_ (wk_l [1, 2, 3, 4] (by simp) ?_ ?_)
          · omega
          · simp [-List.map_map, upd, inj1, Γ0, encM, hfin]
          · simp [-List.map_map, upd, inj1, Γ0, encM, hfin]
    · have q1 : ¬ (i : Int) < a.length := by omega
      have e : i = a.length := by omega
      rw [e, List.take_of_length_le (Nat.le_refl _), va, vb] at ov
      have hm := r01Made (muO a b i) (nx != ny) (by omega)
      rw [made_encZ om, e, ov] at hm
      have e2 : sg (nx != ny) (x.natAbs * y.natAbs) = x * y := by
        rw [← sx, ← sy]
        cases nx <;> cases ny <;> simp [sg, Int.mul_neg, Int.neg_mul]
      rw [e2] at hm
      rw [e] at ol
      have e' : muO a b i = muO a b a.length := by rw [e]
      generalize muO a b a.length = out at *
      simp (config := { maxSteps := 1000000 }) [-List.map_map, -List.mapM_map, ↓KW, encM, q1, e']
      refine callP_intro (ds := [encM out, .b (nx != ny)]) ?_ hm ?_
      · simp (config := { maxSteps := 1000000 }) [-List.map_map, -List.mapM_map, ↓KW, encM, ol, chunk_lms ol, lms_take_all ol]
        cases nx <;> cases ny <;> rfl
      · simp (config := { maxSteps := 1000000 }) [-List.map_map, -List.mapM_map, ↓KW, encM, encZ, encI, ol, chunk_lms ol, lms_take_all ol]
end Go.Am
end

section
set_option linter.unusedVariables false
set_option linter.unusedSimpArgs false
open Go Go.Am Go.Proofs
namespace Go.Am
set_option linter.unusedSimpArgs false
theorem wrap_nat {n : Nat} (h : n ≤ 9223372036854775807) : IntKind.i64.wrap (n : Int) = n := wrap_i64 (by omega) (by omega)
set_option maxRecDepth 10000 in
theorem intTrim (m : List Nat) (hl : m.length ≤ 1099511627776) : Spec Tryz.prog 69 [encM m] (encM (strip m)) := by
  refine spec_of (N := 21) follows_mixed Tryz.func69 rfl rfl rfl (by kernel_rfl) (by kernel_rfl) (by simp) ?_
  simp (config := { maxSteps := 1000000 }) [-List.map_map, -List.mapM_map, ↓KW, encM]
  refine loopP_inv (fun n : Nat => n ≤ m.length ∧ strip (m.take n) = strip m) (fun n => StL [(0, .d (encM m)), (3, .d (.i .i64 n))] none []) (fun n => n) m.length ⟨Nat.le_refl _, by simp⟩ ?_ ?_
  · refine wk_l [] (by simp) ?_ ?_ <;> simp [-List.map_map, upd, inj1, Γ0, encM]
  · rintro n ⟨hn, hs⟩
    rcases n with _ | n
    · have hs' : strip m = [] := hs.symm
      have h0 : okHead 1 (m.map fun (x : Nat) => [D.i .u32 (x : Int)]) = true := okHead_encM m _
      simp (config := { maxSteps := 1000000 }) [-List.map_map, -List.mapM_map, ↓KW, encM, hs', h0]
    · have hx : m[n]? = some m[n] := List.getElem?_eq_getElem hn
      have hw : IntKind.i64.wrap (n : Int) = n := wrap_nat (by omega)
      have hp : (0 : Int) < (n : Int) + 1 := by omega
      have hp2 : (0 : Int) ≤ (n : Int) + 1 := by omega
      by_cases h0 : m[n] = 0
      · simp (config := { maxSteps := 1000000 }) [-List.map_map, -List.mapM_map, ↓KW, encM, hx, hw, h0, hp]
        refine nxt_intro n ⟨by omega, (strip_take_zero hn h0).symm.trans hs⟩ (by omega) (wk_l [] (by simp) ?_ ?_) <;> simp [-List.map_map, upd, inj1, Γ0, encM]
      · have h1 : ((m[n] : Int) == 0) = false := by simp; omega
        have he : strip m = m.take (n + 1) := hs.symm.trans (strip_take_last hn h0)
        have hn' : (n : Int) + 1 ≤ m.length := by omega
        obtain ⟨pre, hpre⟩ : ∃ pre, m.take (n + 1) = pre := ⟨_, rfl⟩
        have hp1 : ∀ f : Nat → List D, (m.map f).take (n + 1) = pre.map f := fun f => by rw [← hpre, List.map_take]
        rw [hpre] at he
        simp (config := { maxSteps := 1000000 }) [-List.map_map, -List.mapM_map, ↓KW, encM, hx, hw, h1, hp, hp2, he, hn', hp1, okHead_encM]
set_option maxRecDepth 10000 in
theorem intValue (neg : Bool) (m : List Nat) (hl : m.length ≤ 1099511627776) : Spec Tryz.prog 67 [.b neg, encM m] (encI (neg && decide (strip m ≠ [])) (strip m)) := by
  refine spec_of (N := 14) follows_mixed Tryz.func67 rfl rfl rfl (by kernel_rfl) (by kernel_rfl) (by simp) ?_
  simp (config := { maxSteps := 1000000 }) [-List.map_map, -List.mapM_map, ↓KW, encM]
  refine callP_intro (ds := [encM m]) (by rfl) (intTrim m hl) ?_
  cases hm : strip m with
  | nil =>
    cases neg <;> simp (config := { maxSteps := 1000000 }) [-List.map_map, -List.mapM_map, ↓KW, encM, encI]
  | cons x l =>
    have h1 : (((l.length : Int) + 1 == 0) : Bool) = false := by simp; omega
    cases neg <;> simp (config := { maxSteps := 1000000 }) [-List.map_map, -List.mapM_map, ↓KW, encM, encI, h1]
theorem intValueZ {m : List Nat} (h : Lim m) (hl : m.length ≤ 1099511627776) (neg : Bool) : Spec Tryz.prog 67 [.b neg, encM m] (encZ (sg neg (val m))) := by
  rw [← made_encZ h]; exact intValue neg m hl
set_option maxRecDepth 10000 in
theorem intSign (neg : Bool) (m : List Nat) (hl : m.length ≤ 1099511627776) : Spec Tryz.prog 63 [encI neg m] (.i .i64 (if strip m = [] then 0 else if neg then -1 else 1)) := by
  refine spec_of (N := 12) follows_mixed Tryz.func63 rfl rfl rfl (by kernel_rfl) (by kernel_rfl) (by simp) ?_
  simp (config := { maxSteps := 1000000 }) [-List.map_map, -List.mapM_map, ↓KW, encI, encM]
  refine callP_intro (ds := [encM m]) (by rfl) (intTrim m hl) ?_
  cases hm : strip m with
  | nil => simp (config := { maxSteps := 1000000 }) [-List.map_map, -List.mapM_map, ↓KW, encM, encI]
  | cons x l =>
    have h1 : (((l.length : Int) + 1 == 0) : Bool) = false := by simp; omega
    cases neg <;> simp (config := { maxSteps := 1000000 }) [-List.map_map, -List.mapM_map, ↓KW, encM, encI, h1]
set_option maxRecDepth 10000 in
theorem nanI (x : Int) : Spec Tryz.prog 104 [.i .i64 x] (.b false) := by
  refine spec_of (N := 6) follows_mixed Tryz.func104 rfl rfl rfl (by kernel_rfl) (by kernel_rfl) (by simp) ?_
  simp (config := { maxSteps := 1000000 }) [-List.map_map, -List.mapM_map, ↓KW]
set_option maxRecDepth 10000 in
theorem nanU (x : Int) : Spec Tryz.prog 105 [.i .u32 x] (.b false) := by
  refine spec_of (N := 6) follows_mixed Tryz.func105 rfl rfl rfl (by kernel_rfl) (by kernel_rfl) (by simp) ?_
  simp (config := { maxSteps := 1000000 }) [-List.map_map, -List.mapM_map, ↓KW]
def cmpI (x y : Int) : Int := if x < y then -1 else if y < x then 1 else 0
set_option maxRecDepth 10000 in
theorem cmpInt (x y : Int) : Spec Tryz.prog 90 [.i .i64 x, .i .i64 y] (.i .i64 (cmpI x y)) := by
  refine spec_of (N := 20) follows_mixed Tryz.func90 rfl rfl rfl (by kernel_rfl) (by kernel_rfl) (by simp) ?_
  simp (config := { maxSteps := 1000000 }) [-List.map_map, -List.mapM_map, ↓KW]
  refine callP_intro (ds := [.i .i64 x]) (by rfl) (nanI x) ?_
  simp (config := { maxSteps := 1000000 }) [-List.map_map, -List.mapM_map, ↓KW]
  refine callP_intro (ds := [.i .i64 y]) (by rfl) (nanI y) ?_
  by_cases h1 : x < y
  · simp (config := { maxSteps := 1000000 }) [-List.map_map, -List.mapM_map, ↓KW, h1, cmpI]
  · by_cases h2 : y < x <;> simp (config := { maxSteps := 1000000 }) [-List.map_map, -List.mapM_map, ↓KW, h1, h2, cmpI]
set_option maxRecDepth 10000 in
theorem cmpU (x y : Int) : Spec Tryz.prog 91 [.i .u32 x, .i .u32 y] (.i .i64 (cmpI x y)) := by
  refine spec_of (N := 20) follows_mixed Tryz.func91 rfl rfl rfl (by kernel_rfl) (by kernel_rfl) (by simp) ?_
  simp (config := { maxSteps := 1000000 }) [-List.map_map, -List.mapM_map, ↓KW]
  refine callP_intro (ds := [.i .u32 x]) (by rfl) (nanU x) ?_
  simp (config := { maxSteps := 1000000 }) [-List.map_map, -List.mapM_map, ↓KW]
  refine callP_intro (ds := [.i .u32 y]) (by rfl) (nanU y) ?_
  by_cases h1 : x < y
  · simp (config := { maxSteps := 1000000 }) [-List.map_map, -List.mapM_map, ↓KW, h1, cmpI]
  · by_cases h2 : y < x <;> simp (config := { maxSteps := 1000000 }) [-List.map_map, -List.mapM_map, ↓KW, h1, h2, cmpI]
/-- How two lists stand to each other. -/
def cmpL (a b : List Nat) : Int := if lessL a b then -1 else if lessL b a then 1 else 0
set_option maxRecDepth 10000 in
theorem intCompare (a b : List Nat) (ha : Lim a) (hb : Lim b) (hla : a.length ≤ 1099511627776) (hlb : b.length ≤ 1099511627776) : Spec Tryz.prog 81 [encM a, encM b] (.i .i64 (cmpL a b)) := by
  refine spec_of (N := 35) follows_mixed Tryz.func81 rfl rfl rfl (by kernel_rfl) (by kernel_rfl) (by simp) ?_
  simp (config := { maxSteps := 1000000 }) [-List.map_map, -List.mapM_map, ↓KW, encM]
  refine callP_intro (ds := [.i .i64 a.length, .i .i64 b.length]) (by rfl) (cmpInt _ _) ?_
  by_cases hn : a.length = b.length
  rotate_left
  · rcases Nat.lt_or_gt_of_ne hn with h | h
    · have h1 : cmpI a.length b.length = -1 := by unfold cmpI; rw [if_pos (by omega)]
      have h2 : cmpL a b = -1 := by simp [cmpL, lessL, hn, h]
      simp (config := { maxSteps := 1000000 }) [-List.map_map, -List.mapM_map, ↓KW, encM, h1, h2]
    · have h1 : cmpI a.length b.length = 1 := by unfold cmpI; rw [if_neg (by omega), if_pos (by omega)]
      have h2 : cmpL a b = 1 := by
        have h3 : ¬ a.length < b.length := by omega
        have h4 : ¬ b.length = a.length := fun e => hn e.symm
        simp [cmpL, lessL, hn, h, h3, h4]
      simp (config := { maxSteps := 1000000 }) [-List.map_map, -List.mapM_map, ↓KW, encM, h1, h2]
  · have h1 : cmpI a.length b.length = 0 := by simp [cmpI, hn]
    have hw : IntKind.i64.wrap ((a.length : Int) - 1) = (a.length : Int) - 1 := wrap_i64 (by omega) (by omega)
    simp (config := { maxSteps := 1000000 }) [-List.map_map, -List.mapM_map, ↓KW, encM, h1, hw]
    refine loopP_inv (fun k : Nat => k ≤ a.length ∧ a.drop k = b.drop k) (fun k => StL [(0, .d (encM a)), (1, .d (encM b)), (6, .d (.i .i64 ((k : Int) - 1)))] none []) (fun k => k) a.length ⟨Nat.le_refl _, by rw [List.drop_eq_nil_of_le (Nat.le_refl _), List.drop_eq_nil_of_le (by omega)]⟩ ?_ ?_
    · refine wk_l [] (by simp) ?_ ?_ <;> simp [-List.map_map, upd, inj1, Γ0, encM]
    · rintro k ⟨hk, hd⟩
      rcases k with _ | k
      · have e : a = b := by simpa using hd
        subst e
        simp (config := { maxSteps := 1000000 }) [-List.map_map, -List.mapM_map, ↓KW, encM, lessL, cmpL]
      · have hkb : k < b.length := by omega
        have hxa : a[k]? = some a[k] := List.getElem?_eq_getElem hk
        have hxb : b[k]? = some b[k] := List.getElem?_eq_getElem hkb
        have hw2 : IntKind.i64.wrap ((k : Int) - 1) = (k : Int) - 1 := wrap_i64 (by omega) (by omega)
        have hp : (0 : Int) ≤ k := by omega
        simp (config := { maxSteps := 1000000 }) [-List.map_map, -List.mapM_map, ↓KW, encM, hxa, hxb, hp]
        refine callP_intro (ds := [.i .u32 a[k], .i .u32 b[k]]) (by rfl) (cmpU _ _) ?_
        by_cases he : a[k] = b[k]
        · have h2 : cmpI a[k] b[k] = 0 := by simp [cmpI, he]
          simp (config := { maxSteps := 1000000 }) [-List.map_map, -List.mapM_map, ↓KW, encM, h2, hw2]
          refine nxt_intro k ⟨by omega, ?_⟩ (by omega) (wk_l [] (by simp) ?_ ?_)
          · rw [List.drop_eq_getElem_cons hk, List.drop_eq_getElem_cons hkb, he, hd]
          · simp [-List.map_map, upd, inj1, Γ0, encM]
          · trivial
        · have ga : a.getD k 0 = a[k] := by rw [List.getD_eq_getElem?_getD, hxa]; rfl
          have gb : b.getD k 0 = b[k] := by rw [List.getD_eq_getElem?_getD, hxb]; rfl
          rcases Nat.lt_or_ge a[k] b[k] with hlt | hge
          · have h3 := val_lt_of ha (i := k) hn hk hd (by rw [ga, gb]; exact hlt)
            have h4 : cmpI a[k] b[k] = -1 := by unfold cmpI; rw [if_pos (by omega)]
            have h5 : cmpL a b = -1 := by simp [cmpL, lessL, hn, h3]
            simp (config := { maxSteps := 1000000 }) [-List.map_map, -List.mapM_map, ↓KW, encM, h4, h5]
          · have h3 := val_lt_of hb (i := k) hn.symm hkb hd.symm (by rw [ga, gb]; omega)
            have h4 : cmpI a[k] b[k] = 1 := by unfold cmpI; rw [if_neg (by omega), if_pos (by omega)]
            have h6 : ¬ val a < val b := by omega
            have h5 : cmpL a b = 1 := by simp [cmpL, lessL, hn, h3, h6]
            simp (config := { maxSteps := 1000000 }) [-List.map_map, -List.mapM_map, ↓KW, encM, h4, h5]
end Go.Am
end

section
set_option linter.unusedVariables false
set_option linter.unusedSimpArgs false
open Go Go.Am Go.Proofs
namespace Go.Am
set_option linter.unusedSimpArgs false
/-- Limbs, and zeros up to a length. -/
def zp (out : List Nat) (n : Nat) : List Nat := out ++ List.replicate (n - out.length) 0
theorem zp_len {out : List Nat} {n : Nat} (h : out.length ≤ n) : (zp out n).length = n := by simp [zp]; omega
theorem zp_full {out : List Nat} {n : Nat} (h : out.length = n) : zp out n = out := by subst h; simp [zp]
theorem zp_nil (n : Nat) : zp [] n = List.replicate n 0 := by simp [zp]
theorem zp_set {out : List Nat} {n i : Nat} (h : out.length = i) (hi : i < n) (v : Nat) : (zp out n).set i v = zp (out ++ [v]) n := by
  subst h
  unfold zp
  obtain ⟨k, hk⟩ : ∃ k, n - out.length = k + 1 := ⟨n - out.length - 1, by omega⟩
  rw [hk, List.set_append_right _ _ (Nat.le_refl _), Nat.sub_self, List.replicate_succ, List.set_cons_zero, List.length_append, List.length_singleton, show n - (out.length + 1) = k from by omega, List.append_assoc]
  rfl
theorem zp_lay {out : List Nat} {n i : Nat} (h : out.length = i) (hi : i < n) (v : Nat) : lay (List.map AV.d (lms (zp out n))) i [AV.d (D.i .u32 (v : Int))] = List.map AV.d (lms (zp (out ++ [v]) n)) := by
  rw [lay_one _ _ _ (by rw [lms_len, zp_len (by omega)]; exact hi), lms_set, zp_set h hi]
theorem shr32 {t : Nat} : shiftA .shr .u64 (t : Int) 32 = some (.i .u64 ((t / 4294967296 : Nat) : Int)) := by
  simp only [shiftA, IntKind.bits]
  rw [if_neg (by decide)]
  congr 2
  rw [show (2 : Int) ^ (min (32 : Int).toNat 64) = 4294967296 from by decide, Int.fdiv_eq_ediv_of_nonneg _ (by decide)]
  omega
theorem shr63 {t : Int} (_h0 : 0 ≤ t) : shiftA .shr .u64 t 63 = some (.i .u64 (t / 9223372036854775808)) := by
  simp only [shiftA, IntKind.bits]
  rw [if_neg (by decide)]
  congr 2
  rw [show (2 : Int) ^ (min (63 : Int).toNat 64) = 9223372036854775808 from by decide, Int.fdiv_eq_ediv_of_nonneg _ (by decide)]
def ip (p q : List Nat) : List Nat := (plS p q p.length).1 ++ [(plS p q p.length).2]
theorem ip_val {p q : List Nat} (lp : Lim p) (lq : Lim q) (h : q.length ≤ p.length) : val (ip p q) = val p + val q ∧ Lim (ip p q) ∧ (ip p q).length = p.length + 1 := by
  obtain ⟨h1, h2, h3, h4⟩ := plS_inv lp lq p.length
  rw [List.take_of_length_le (Nat.le_refl _), List.take_of_length_le h] at h4
  unfold ip
  refine ⟨?_, h3.app (.one (by omega)), by simp [h1]⟩
  rw [val_app, h1]
  simp only [val, Nat.mul_zero, Nat.add_zero]
  exact h4
def iplusR (a b : List Nat) : List Nat := if a.length < b.length then ip b a else ip a b
theorem iplusR_val {a b : List Nat} (ha : Lim a) (hb : Lim b) : val (iplusR a b) = val a + val b ∧ Lim (iplusR a b) ∧ (iplusR a b).length ≤ a.length + b.length + 1 := by
  unfold iplusR
  by_cases h : a.length < b.length
  · rw [if_pos h]
    obtain ⟨h1, h2, h3⟩ := ip_val hb ha (by omega)
    exact ⟨by omega, h2, by omega⟩
  · rw [if_neg h]
    obtain ⟨h1, h2, h3⟩ := ip_val ha hb (by omega)
    exact ⟨h1, h2, by omega⟩
set_option maxRecDepth 10000 in
theorem intPlus (a b : List Nat) (ha : Lim a) (hb : Lim b) (hla : a.length ≤ 274877906944) (hlb : b.length ≤ 274877906944) : Spec Tryz.prog 80 [encM a, encM b] (encM (iplusR a b)) := by
  refine spec_of (N := 57) follows_mixed Tryz.func80 rfl rfl rfl (by kernel_rfl) (by kernel_rfl) (by simp) ?_
  obtain ⟨p, q, lp, lq, hqp, hpl, hr, hc⟩ : ∃ p q : List Nat, Lim p ∧ Lim q ∧ q.length ≤ p.length ∧ p.length ≤ 274877906944 ∧ iplusR a b = ip p q ∧ ((a.length < b.length ∧ p = b ∧ q = a) ∨ (¬ a.length < b.length ∧ p = a ∧ q = b)) := by
    by_cases h : a.length < b.length
    · exact ⟨b, a, hb, ha, by omega, hlb, by simp [iplusR, h], .inl ⟨h, rfl, rfl⟩⟩
    · exact ⟨a, b, ha, hb, by omega, hla, by simp [iplusR, h], .inr ⟨h, rfl, rfl⟩⟩
  rw [hr]
  obtain ⟨n, hn⟩ : ∃ n, p.length + 1 = n := ⟨_, rfl⟩
  have hw2 : IntKind.i64.wrap ((p.length : Int) + 1) = (n : Int) := by rw [wrap_i64 (by omega) (by omega)]; omega
  have hm1 : (4 : Int) * n ≤ 281474976710656 := by omega
  have hm2 : (n : Int) ≤ 9223372036854775807 := by omega
  rcases hc with ⟨h, hp, hq⟩ | ⟨h, hp, hq⟩ <;> subst hp <;> subst hq
  · have h1 : (q.length : Int) < p.length := by omega
    simp (config := { maxSteps := 1000000 }) [-List.map_map, -List.mapM_map, ↓KW, encM, h1, hw2, hm1, hm2]
    refine loopP_inv (fun i : Nat => i ≤ p.length) (fun i => StL [(0, .d (encM p)), (1, .d (encM q)), (5, .own 1 0 n 1), (6, .d (.i .u64 (plS p q i).2)), (20, .d (.i .i64 p.length)), (21, .d (.i .i64 i))] none [.cells 92 ((lms (zp (plS p q i).1 n)).map .d)]) (fun i => p.length - i) 0 (Nat.zero_le _) ?_ ?_
    · refine wk_l [1] (by simp) ?_ ?_ <;> simp [-List.map_map, upd, inj1, Γ0, encM, plS, zp_nil]
    · intro i hi
      obtain ⟨hlen, hc, _, _⟩ := plS_inv lp lq i
      have hsucc : plS p q (i + 1) = ((plS p q i).1 ++ [((plS p q i).2 + p.getD i 0 + q.getD i 0) % 4294967296], ((plS p q i).2 + p.getD i 0 + q.getD i 0) / 4294967296) := rfl
      have hal := lp.getD i
      have hbl := lq.getD i
      have hres : i = p.length → (plS p q i).1 ++ [(plS p q i).2] = ip p q := fun e => by rw [e]; rfl
      generalize hout : (plS p q i).1 = out at *
      generalize hcar : (plS p q i).2 = c at *
      have hzl : (zp out n).length = n := zp_len (by omega)
      by_cases hgo : i < p.length
      · have hw7 : IntKind.i64.wrap ((i : Int) + 1) = (i : Int) + 1 := wrap_i64 (by omega) (by omega)
        have q1 : (i : Int) < p.length := by omega
        have q3 : (i : Int) < n := by omega
        have q4 : i + 1 ≤ n := by omega
        have g1 := getD_some hgo
        have hb0 : ¬ i < q.length → q.getD i 0 = 0 := getD_none
        have g2 : i < q.length → q[i]? = some (q.getD i 0) := getD_some
        generalize p.getD i 0 = x at *
        generalize q.getD i 0 = y at *
        obtain ⟨s1, hs1⟩ : ∃ s1 : Nat, c + x = s1 := ⟨_, rfl⟩
        obtain ⟨s2, hs2⟩ : ∃ s2 : Nat, s1 + y = s2 := ⟨_, rfl⟩
        rw [hs1, hs2] at hsucc
        have hwx : IntKind.u64.wrap (x : Int) = x := wrap_u64 (by omega) (by omega)
        have hwy : IntKind.u64.wrap (y : Int) = y := wrap_u64 (by omega) (by omega)
        have hw1 : IntKind.u64.wrap ((c : Int) + x) = s1 := by rw [wrap_u64 (by omega) (by omega)]; omega
        have hw2' : IntKind.u64.wrap ((s1 : Int) + y) = s2 := by rw [wrap_u64 (by omega) (by omega)]; omega
        obtain ⟨lo, hlo⟩ : ∃ lo : Nat, s2 % 4294967296 = lo := ⟨_, rfl⟩
        have hsh := shr32 (t := s2)
        obtain ⟨hi', hhi⟩ : ∃ hi' : Nat, s2 / 4294967296 = hi' := ⟨_, rfl⟩
        rw [hhi] at hsh
        have hw3 : IntKind.u32.wrap (s2 : Int) = lo := by rw [wrap_u32m]; omega
        rw [hlo, hhi] at hsucc
        have hlay := zp_lay hlen (show i < n by omega) lo
        by_cases hbn : i < q.length
        · have q2 : (i : Int) < q.length := by omega
          have g3 := g2 hbn
          simp (config := { maxSteps := 1000000 }) [-List.map_map, -List.mapM_map, ↓KW, encM, q1, q2, q3, q4, g1, g3, hwx, hwy, hw1, hw2', hw3, hsh, hlay, hw7, hzl]
          refine nxt_intro (i + 1) hgo ?_ (wk_l [1] (by simp) ?_ ?_)
          · omega
          · simp [-List.map_map, upd, inj1, Γ0, encM, hsucc]
          · simp [-List.map_map, upd, inj1, Γ0, encM, hsucc]
        · have q2 : ¬ (i : Int) < q.length := by omega
          have e2 : s2 = s1 := by have := hb0 hbn; omega
          rw [e2] at hw3 hsh
          simp (config := { maxSteps := 1000000 }) [-List.map_map, -List.mapM_map, ↓KW, encM, q1, q2, q3, q4, g1, hwx, hw1, hw3, hsh, hlay, hw7, hzl]
          refine nxt_intro (i + 1) hgo ?_ (wk_l [1] (by simp) ?_ ?_)
          · omega
          · simp [-List.map_map, upd, inj1, Γ0, encM, hsucc]
          · simp [-List.map_map, upd, inj1, Γ0, encM, hsucc]
      · have e : i = p.length := by omega
        have h1 : ¬ (i : Int) < p.length := by omega
        have h4 := hres e
        have hn' : (p.length : Int) < n := by omega
        have hn2 : p.length + 1 ≤ n := by omega
        have hw3 : IntKind.u32.wrap (c : Int) = c := wrap_u32 (by omega) (by omega)
        have hlay := zp_lay (hlen.trans e) (show p.length < n by omega) c
        have hfl : (out ++ [c]).length = n := by simp; omega
        have h5 : zp (out ++ [c]) n = out ++ [c] := zp_full hfl
        rw [h5, h4] at hlay
        rw [h4] at hfl
        simp (config := { maxSteps := 1000000 }) [-List.map_map, -List.mapM_map, ↓KW, encM, h1, hn', hn2, hw3, hlay, hzl, hfl, chunk_lms hfl, lms_take_all hfl]
  · have h1 : ¬ (p.length : Int) < q.length := by omega
    simp (config := { maxSteps := 1000000 }) [-List.map_map, -List.mapM_map, ↓KW, encM, h1, hw2, hm1, hm2]
    refine loopP_inv (fun i : Nat => i ≤ p.length) (fun i => StL [(0, .d (encM p)), (1, .d (encM q)), (5, .own 1 0 n 1), (6, .d (.i .u64 (plS p q i).2)), (20, .d (.i .i64 p.length)), (21, .d (.i .i64 i))] none [.cells 92 ((lms (zp (plS p q i).1 n)).map .d)]) (fun i => p.length - i) 0 (Nat.zero_le _) ?_ ?_
    · refine wk_l [1] (by simp) ?_ ?_ <;> simp [-List.map_map, upd, inj1, Γ0, encM, plS, zp_nil]
    · intro i hi
      obtain ⟨hlen, hc, _, _⟩ := plS_inv lp lq i
      have hsucc : plS p q (i + 1) = ((plS p q i).1 ++ [((plS p q i).2 + p.getD i 0 + q.getD i 0) % 4294967296], ((plS p q i).2 + p.getD i 0 + q.getD i 0) / 4294967296) := rfl
      have hal := lp.getD i
      have hbl := lq.getD i
      have hres : i = p.length → (plS p q i).1 ++ [(plS p q i).2] = ip p q := fun e => by rw [e]; rfl
      generalize hout : (plS p q i).1 = out at *
      generalize hcar : (plS p q i).2 = c at *
      have hzl : (zp out n).length = n := zp_len (by omega)
      by_cases hgo : i < p.length
      · have hw7 : IntKind.i64.wrap ((i : Int) + 1) = (i : Int) + 1 := wrap_i64 (by omega) (by omega)
        have q1 : (i : Int) < p.length := by omega
        have q3 : (i : Int) < n := by omega
        have q4 : i + 1 ≤ n := by omega
        have g1 := getD_some hgo
        have hb0 : ¬ i < q.length → q.getD i 0 = 0 := getD_none
        have g2 : i < q.length → q[i]? = some (q.getD i 0) := getD_some
        generalize p.getD i 0 = x at *
        generalize q.getD i 0 = y at *
        obtain ⟨s1, hs1⟩ : ∃ s1 : Nat, c + x = s1 := ⟨_, rfl⟩
        obtain ⟨s2, hs2⟩ : ∃ s2 : Nat, s1 + y = s2 := ⟨_, rfl⟩
        rw [hs1, hs2] at hsucc
        have hwx : IntKind.u64.wrap (x : Int) = x := wrap_u64 (by omega) (by omega)
        have hwy : IntKind.u64.wrap (y : Int) = y := wrap_u64 (by omega) (by omega)
        have hw1 : IntKind.u64.wrap ((c : Int) + x) = s1 := by rw [wrap_u64 (by omega) (by omega)]; omega
        have hw2' : IntKind.u64.wrap ((s1 : Int) + y) = s2 := by rw [wrap_u64 (by omega) (by omega)]; omega
        obtain ⟨lo, hlo⟩ : ∃ lo : Nat, s2 % 4294967296 = lo := ⟨_, rfl⟩
        have hsh := shr32 (t := s2)
        obtain ⟨hi', hhi⟩ : ∃ hi' : Nat, s2 / 4294967296 = hi' := ⟨_, rfl⟩
        rw [hhi] at hsh
        have hw3 : IntKind.u32.wrap (s2 : Int) = lo := by rw [wrap_u32m]; omega
        rw [hlo, hhi] at hsucc
        have hlay := zp_lay hlen (show i < n by omega) lo
        by_cases hbn : i < q.length
        · have q2 : (i : Int) < q.length := by omega
          have g3 := g2 hbn
          simp (config := { maxSteps := 1000000 }) [-List.map_map, -List.mapM_map, ↓KW, encM, q1, q2, q3, q4, g1, g3, hwx, hwy, hw1, hw2', hw3, hsh, hlay, hw7, hzl]
          refine nxt_intro (i + 1) hgo ?_ (wk_l [1] (by simp) ?_ ?_)
          · omega
          · simp [-List.map_map, upd, inj1, Γ0, encM, hsucc]
          · simp [-List.map_map, upd, inj1, Γ0, encM, hsucc]
        · have q2 : ¬ (i : Int) < q.length := by omega
          have e2 : s2 = s1 := by have := hb0 hbn; omega
          rw [e2] at hw3 hsh
          simp (config := { maxSteps := 1000000 }) [-List.map_map, -List.mapM_map, ↓KW, encM, q1, q2, q3, q4, g1, hwx, hw1, hw3, hsh, hlay, hw7, hzl]
          refine nxt_intro (i + 1) hgo ?_ (wk_l [1] (by simp) ?_ ?_)
          · omega
          · simp [-List.map_map, upd, inj1, Γ0, encM, hsucc]
          · simp [-List.map_map, upd, inj1, Γ0, encM, hsucc]
      · have e : i = p.length := by omega
        have h1 : ¬ (i : Int) < p.length := by omega
        have h4 := hres e
        have hn' : (p.length : Int) < n := by omega
        have hn2 : p.length + 1 ≤ n := by omega
        have hw3 : IntKind.u32.wrap (c : Int) = c := wrap_u32 (by omega) (by omega)
        have hlay := zp_lay (hlen.trans e) (show p.length < n by omega) c
        have hfl : (out ++ [c]).length = n := by simp; omega
        have h5 : zp (out ++ [c]) n = out ++ [c] := zp_full hfl
        rw [h5, h4] at hlay
        rw [h4] at hfl
        simp (config := { maxSteps := 1000000 }) [-List.map_map, -List.mapM_map, ↓KW, encM, h1, hn', hn2, hw3, hlay, hzl, hfl, chunk_lms hfl, lms_take_all hfl]
set_option maxRecDepth 10000 in
theorem intMinus (a b : List Nat) (ha : Lim a) (hb : Lim b) (hla : a.length ≤ 274877906944) : Spec Tryz.prog 82 [encM a, encM b] (encM (minusR a b)) := by
  refine spec_of (N := 44) follows_mixed Tryz.func82 rfl rfl rfl (by kernel_rfl) (by kernel_rfl) (by simp) ?_
  obtain ⟨n, hn⟩ : ∃ n, a.length = n := ⟨_, rfl⟩
  have hm1 : (4 : Int) * n ≤ 281474976710656 := by omega
  have hm2 : (n : Int) ≤ 9223372036854775807 := by omega
  simp (config := { maxSteps := 1000000 }) [-List.map_map, -List.mapM_map, ↓KW, encM, hn, hm1, hm2]
  refine loopP_inv (fun i : Nat => i ≤ n) (fun i => StL [(0, .d (encM a)), (1, .d (encM b)), (5, .own 1 0 n 1), (6, .d (.i .u64 (miS a b i).2)), (13, .d (.i .i64 n)), (14, .d (.i .i64 i))] none [.cells 92 ((lms (zp (miS a b i).1 n)).map .d)]) (fun i => n - i) 0 (Nat.zero_le _) ?_ ?_
  · refine wk_l [1] (by simp) ?_ ?_ <;> simp [-List.map_map, upd, inj1, Γ0, encM, miS, zp_nil, hn]
  · intro i hi
    obtain ⟨hlen, hc, _, _⟩ := miS_inv ha hb i
    have hsucc := miS_succ a b i
    have hal := ha.getD i
    have hbl := hb.getD i
    have hres : i = n → (miS a b i).1 = minusR a b := fun e => by rw [e, ← hn]; rfl
    generalize hout : (miS a b i).1 = out at *
    generalize hcar : (miS a b i).2 = c at *
    have hzl : (zp out n).length = n := zp_len (by omega)
    by_cases hgo : i < n
    · have hw7 : IntKind.i64.wrap ((i : Int) + 1) = (i : Int) + 1 := wrap_i64 (by omega) (by omega)
      have q1 : (i : Int) < n := by omega
      have q4 : i + 1 ≤ n := hgo
      have g1 := getD_some (l := a) (i := i) (by omega)
      have hb0 : ¬ i < b.length → b.getD i 0 = 0 := getD_none
      have g2 : i < b.length → b[i]? = some (b.getD i 0) := getD_some
      generalize a.getD i 0 = x at *
      generalize b.getD i 0 = y at *
      have hwx : IntKind.u64.wrap (x : Int) = x := wrap_u64 (by omega) (by omega)
      have hwy : IntKind.u64.wrap (y : Int) = y := wrap_u64 (by omega) (by omega)
      obtain ⟨d1, hd1⟩ : ∃ d1 : Int, IntKind.u64.wrap ((x : Int) - c) = d1 := ⟨_, rfl⟩
      obtain ⟨d, hd⟩ : ∃ d : Int, IntKind.u64.wrap (d1 - y) = d := ⟨_, rfl⟩
      have hd1' := hd1
      have hd' := hd
      rw [wrap_u64m] at hd1' hd'
      have hfin : ∃ (lo bw : Nat), miS a b (i + 1) = (out ++ [lo], bw) ∧ IntKind.u32.wrap d = lo ∧ shiftA .shr .u64 d 63 = some (.i .u64 (bw : Int)) := by
        by_cases hle : c + y ≤ x
        · rw [if_pos hle] at hsucc
          refine ⟨_, _, hsucc, ?_, ?_⟩
          · rw [wrap_u32m]; omega
          · rw [shr63 (by omega)]; congr 2; omega
        · rw [if_neg hle] at hsucc
          refine ⟨_, _, hsucc, ?_, ?_⟩
          · rw [wrap_u32m]; omega
          · rw [shr63 (by omega)]; congr 2; omega
      obtain ⟨lo, bw, hs, hlo, hbw⟩ := hfin
      have hlay := zp_lay hlen hgo lo
      by_cases hbn : i < b.length
      · have q2 : (i : Int) < b.length := by omega
        have g3 := g2 hbn
        simp (config := { maxSteps := 1000000 }) [-List.map_map, -List.mapM_map, ↓KW, encM, q1, q2, g1, g3, hwx, hwy, hd1, hd, hlo, hbw, hlay, hw7, hzl, q4]
        refine nxt_intro (i + 1) hgo ?_ (wk_l [1] (by simp) ?_ ?_)
        · omega
        · simp [-List.map_map, upd, inj1, Γ0, encM, hs]
        · simp [-List.map_map, upd, inj1, Γ0, encM, hs]
      · have q2 : ¬ (i : Int) < b.length := by omega
        have e1 : d1 = d := by have := hb0 hbn; omega
        rw [e1] at hd1
        simp (config := { maxSteps := 1000000 }) [-List.map_map, -List.mapM_map, ↓KW, encM, q1, q2, g1, hwx, hd1, hlo, hbw, hlay, hw7, hzl, q4]
        refine nxt_intro (i + 1) hgo ?_ (wk_l [1] (by simp) ?_ ?_)
        · omega
        · simp [-List.map_map, upd, inj1, Γ0, encM, hs]
        · simp [-List.map_map, upd, inj1, Γ0, encM, hs]
    · have e : i = n := by omega
      have h1 : ¬ (i : Int) < n := by omega
      have h4 := hres e
      have h5 : zp out n = out := zp_full (by omega)
      have hlen' : out.length = n := by omega
      simp (config := { maxSteps := 1000000 }) [-List.map_map, -List.mapM_map, ↓KW, encM, h1, h5, hlen', chunk_lms hlen', lms_take_all hlen', ← h4]
end Go.Am
end

section
set_option linter.unusedVariables false
set_option linter.unusedSimpArgs false
open Go Go.Am Go.Proofs
namespace Go.Am
set_option linter.unusedSimpArgs false
theorem val_ge (l : List Nat) (j : Nat) : 4294967296 ^ j * l.getD j 0 ≤ val l := by
  have h := val_take_succ l j
  have e : val l = val (l.take (j + 1)) + 4294967296 ^ (l.take (j + 1)).length * val (l.drop (j + 1)) := by rw [← val_app, List.take_append_drop]
  have h2 : val (l.take (j + 1)) ≤ val l := by rw [e]; exact Nat.le_add_right _ _
  rw [h] at h2
  exact Nat.le_trans (Nat.le_add_left _ _) h2
theorem getD_zero_of_lt {l : List Nat} {j : Nat} (h : val l < 4294967296 ^ j) : l.getD j 0 = 0 := by
  have h1 := val_ge l j
  rcases Nat.eq_zero_or_pos (l.getD j 0) with h2 | h2
  · exact h2
  · exfalso
    have : 4294967296 ^ j * 1 ≤ 4294967296 ^ j * l.getD j 0 := Nat.mul_le_mul_left _ h2
    rw [Nat.mul_one] at this
    omega
theorem muI_above {out b : List Nat} {x i : Nat} (k j : Nat) (h : i + k ≤ j) : (muI out x b i k).1.getD j 0 = out.getD j 0 := by
  induction k with
  | zero => rfl
  | succ k ih =>
    have := ih (by omega)
    rw [← this]
    simp only [muI, List.getD_eq_getElem?_getD]
    rw [List.getElem?_set_ne (by omega)]
/-- The product, i rows laid in. -/
def tmO (a b : List Nat) : Nat → List Nat
  | 0 => List.replicate (a.length + b.length) 0
  | i + 1 => (muI (tmO a b i) (a.getD i 0) b i b.length).1.set (i + b.length) (muI (tmO a b i) (a.getD i 0) b i b.length).2
theorem tmO_inv {a b : List Nat} (ha : Lim a) (hb : Lim b) (i : Nat) (hi : i ≤ a.length) : (tmO a b i).length = a.length + b.length ∧ Lim (tmO a b i) ∧ val (tmO a b i) = val (a.take i) * val b := by
  induction i with
  | zero => exact ⟨by simp [tmO], .rep _, by simp [tmO, val_rep, val]⟩
  | succ i ih =>
    obtain ⟨h1, h2, h3⟩ := ih (by omega)
    have hv := muO_lt ha hb (i := i) (by omega)
    rw [← h3] at hv
    have hx := ha.getD i
    obtain ⟨q1, q2, q3, q4⟩ := muI_inv (x := a.getD i 0) (i := i) h2 hb hx (by omega) b.length (by omega)
    have habove := muI_above (out := tmO a b i) (b := b) (x := a.getD i 0) (i := i) b.length (i + b.length) (Nat.le_refl _)
    rw [getD_zero_of_lt hv] at habove
    rw [List.take_of_length_le (Nat.le_refl _)] at q4
    have hset := val_set (l := (muI (tmO a b i) (a.getD i 0) b i b.length).1) (j := i + b.length) (by omega) (muI (tmO a b i) (a.getD i 0) b i b.length).2
    rw [habove, Nat.mul_zero, Nat.add_zero, q4] at hset
    refine ⟨?_, q3.set _ q2, ?_⟩
    · show (List.set _ _ _).length = _
      rw [List.length_set, q1, h1]
    · show val (List.set _ _ _) = _
      rw [hset, h3, val_take_succ, Nat.add_mul, Nat.mul_assoc]
def timesR (a b : List Nat) : List Nat := tmO a b a.length
theorem timesR_val {a b : List Nat} (ha : Lim a) (hb : Lim b) : val (timesR a b) = val a * val b ∧ Lim (timesR a b) ∧ (timesR a b).length = a.length + b.length := by
  obtain ⟨h1, h2, h3⟩ := tmO_inv ha hb a.length (Nat.le_refl _)
  rw [List.take_of_length_le (Nat.le_refl _)] at h3
  exact ⟨h3, h2, h1⟩
set_option maxHeartbeats 1000000 in
set_option maxRecDepth 10000 in
theorem intTimes (a b : List Nat) (la : Lim a) (lb : Lim b) (hla : a.length ≤ 137438953472) (hlb : b.length ≤ 137438953472) : Spec Tryz.prog 68 [encM a, encM b] (encM (timesR a b)) := by
  refine spec_of (N := 66) follows_mixed Tryz.func68 rfl rfl rfl (by kernel_rfl) (by kernel_rfl) (by simp) ?_
  obtain ⟨n, hn⟩ : ∃ n, a.length + b.length = n := ⟨_, rfl⟩
  have hw1 : IntKind.i64.wrap ((a.length : Int) + b.length) = (n : Int) := by rw [wrap_i64 (by omega) (by omega)]; omega
  have hm1 : (4 : Int) * n ≤ 281474976710656 := by omega
  have hm2 : (n : Int) ≤ 9223372036854775807 := by omega
  have h00 : tmO a b 0 = List.replicate n 0 := by rw [← hn]; rfl
  simp (config := { maxSteps := 1000000 }) [-List.map_map, -List.mapM_map, ↓KW, encM, hw1, hm1, hm2]
  refine loopP_inv (fun i : Nat => i ≤ a.length)
    (fun i => StL [(0, .d (encM a)), (1, .d (encM b)), (5, .own 1 0 n 1), (17, .d (encM a)), (18, .d (.i .i64 a.length)), (19, .d (.i .i64 i))] none [.cells 92 ((lms (tmO a b i)).map .d)]) (fun i => a.length - i) 0 (Nat.zero_le _) ?_ ?_
  · refine wk_l [1] (by simp) ?_ ?_ <;> simp [-List.map_map, upd, inj1, Γ0, encM, h00]
  · intro i hi
    obtain ⟨ol, om, ov⟩ := tmO_inv la lb i hi
    rw [hn] at ol
    by_cases hgo : i < a.length
    · have q1 : (i : Int) < a.length := by omega
      have g1 := getD_some hgo
      have hsucc : tmO a b (i + 1) = (muI (tmO a b i) (a.getD i 0) b i b.length).1.set (i + b.length) (muI (tmO a b i) (a.getD i 0) b i b.length).2 := rfl
      have hal := la.getD i
      generalize hout : tmO a b i = out at *
      generalize a.getD i 0 = xv at *
      simp (config := { maxSteps := 1000000 }) [-List.map_map, -List.mapM_map, ↓KW, encM, q1, g1]
      have hwx : IntKind.u64.wrap (xv : Int) = xv := wrap_u64 (by omega) (by omega)
      refine loopP_inv (fun k : Nat => k ≤ b.length)
        (fun k => StL [(0, .d (encM a)), (1, .d (encM b)), (5, .own 1 0 n 1), (17, .d (encM a)), (18, .d (.i .i64 a.length)), (19, .d (.i .i64 i)), (6, .d (.i .i64 i)), (7, .d (.i .u32 xv)), (8, .d (.i .u64 (muI out xv b i k).2)), (24, .d (encM b)), (25, .d (.i .i64 b.length)), (26, .d (.i .i64 k))] none
          [.cells 92 ((lms (muI out xv b i k).1).map .d)]) (fun k => b.length - k) 0 (Nat.zero_le _) ?_ ?_
      · refine wk_l [1] (by simp) ?_ ?_ <;> simp [-List.map_map, upd, inj1, Γ0, encM, muI]
      · intro k hk
        obtain ⟨il, ic, im, _⟩ := muI_inv om lb hal (i := i) (by omega) k (by omega)
        have isucc : muI out xv b i (k + 1) = ((muI out xv b i k).1.set (i + k) (((muI out xv b i k).2 + (muI out xv b i k).1.getD (i + k) 0 + xv * b.getD k 0) % 4294967296), ((muI out xv b i k).2 + (muI out xv b i k).1.getD (i + k) 0 + xv * b.getD k 0) / 4294967296) := rfl
        have hres : k = b.length → tmO a b (i + 1) = (muI out xv b i k).1.set (i + b.length) (muI out xv b i k).2 := fun e => by rw [e]; exact hsucc
        clear hsucc
        have ho := im.getD (i + k)
        generalize hcar : (muI out xv b i k).2 = c at *
        generalize hcur : (muI out xv b i k).1 = cur at *
        have hgj : List.length cur = n := by omega
        by_cases hkb : k < b.length
        · obtain ⟨j, hj⟩ : ∃ j, i + k = j := ⟨_, rfl⟩
          rw [hj] at isucc ho
          have hjl : j < cur.length := by omega
          have g2 := lms_get (getD_some hjl)
          have hwj : IntKind.i64.wrap ((i : Int) + k) = j := by rw [wrap_i64 (by omega) (by omega)]; omega
          have hjn : (j : Int) < n := by omega
          have hw8 : IntKind.i64.wrap ((k : Int) + 1) = (k : Int) + 1 := wrap_i64 (by omega) (by omega)
          have hjl2 : j < (lms cur).length := by rw [lms_len]; exact hjl
          have hjl3 : j + 1 ≤ n := by omega
          have hyb := lb.getD k
          have hlim := mu_lim ic ho hal hyb
          have g4 := getD_some hkb
          have q2 : (k : Int) < b.length := by omega
          generalize cur.getD j 0 = o at *
          generalize b.getD k 0 = yv at *
          obtain ⟨e, he⟩ : ∃ e : Nat, xv * yv = e := ⟨_, rfl⟩
          rw [he] at isucc hlim
          obtain ⟨s1, hs1⟩ : ∃ s1 : Nat, e + o = s1 := ⟨_, rfl⟩
          obtain ⟨t, ht⟩ : ∃ t : Nat, c + o + e = t := ⟨_, rfl⟩
          rw [ht] at isucc hlim
          obtain ⟨lo, hlo⟩ : ∃ lo : Nat, t % 4294967296 = lo := ⟨_, rfl⟩
          have hsh := shr32 (t := t)
          obtain ⟨hi', hhi⟩ : ∃ hi' : Nat, t / 4294967296 = hi' := ⟨_, rfl⟩
          rw [hlo, hhi] at isucc
          rw [hhi] at hsh
          have hwo : IntKind.u64.wrap (o : Int) = o := wrap_u64 (by omega) (by omega)
          have hwy : IntKind.u64.wrap (yv : Int) = yv := wrap_u64 (by omega) (by omega)
          have hwm : IntKind.u64.wrap ((xv : Int) * yv) = e := by rw [← Int.natCast_mul, he, wrap_u64 (by omega) (by omega)]
          have hws : IntKind.u64.wrap ((e : Int) + o) = s1 := by rw [wrap_u64 (by omega) (by omega)]; omega
          have hwt : IntKind.u64.wrap ((c : Int) + s1) = t := by rw [wrap_u64 (by omega) (by omega)]; omega
          have hwlo : IntKind.u32.wrap (t : Int) = lo := by rw [wrap_u32m]; omega
          have hlay : lay (List.map AV.d (lms cur)) j [AV.d (D.i .u32 (lo : Int))] = List.map AV.d (lms (cur.set j lo)) := by
            rw [lay_one _ _ _ hjl2, lms_set]
          simp (config := { maxSteps := 1000000 }) [-List.map_map, -List.mapM_map, ↓KW, encM, q2, hwj, hjn, g2, hwo, hws, g1, g4, hwx, hwy, hwm, hwt, hwlo, hsh, hlay, hw8, hjl3, hgj]
          refine nxt_intro (k + 1) hkb ?_ (wk_l [1] (by simp) ?_ ?_)
          · omega
          · simp [-List.map_map, upd, inj1, Γ0, encM, isucc]
          · simp [-List.map_map, upd, inj1, Γ0, encM, isucc]
        · have q2 : ¬ (k : Int) < b.length := by omega
          have hfin := hres (by omega)
          have hw8 : IntKind.i64.wrap ((i : Int) + 1) = (i : Int) + 1 := wrap_i64 (by omega) (by omega)
          obtain ⟨j, hj⟩ : ∃ j, i + b.length = j := ⟨_, rfl⟩
          rw [hj] at hfin
          have hwj : IntKind.i64.wrap ((i : Int) + b.length) = j := by rw [wrap_i64 (by omega) (by omega)]; omega
          have hjn : (j : Int) < n := by omega
          have hjl3 : j + 1 ≤ n := by omega
          have hjl2 : j < (lms cur).length := by rw [lms_len]; omega
          have hwc : IntKind.u32.wrap (c : Int) = c := wrap_u32 (by omega) (by omega)
          have hlay : lay (List.map AV.d (lms cur)) j [AV.d (D.i .u32 (c : Int))] = List.map AV.d (lms (cur.set j c)) := by
            rw [lay_one _ _ _ hjl2, lms_set]
          simp (config := { maxSteps := 1000000 }) [-List.map_map, -List.mapM_map, ↓KW, encM, q2, hw8, hwj, hjn, hjl3, hwc, hlay, hgj]
          refine nxt_intro (i + 1) hgo ?_ (wk_l [1] (by simp) ?_ ?_)
          · omega
          · simp [-List.map_map, upd, inj1, Γ0, encM, hfin]
          · simp [-List.map_map, upd, inj1, Γ0, encM, hfin]
    · have q1 : ¬ (i : Int) < a.length := by omega
      have e : i = a.length := by omega
      have e' : tmO a b i = timesR a b := by rw [e]; rfl
      rw [e'] at ol
      simp (config := { maxSteps := 1000000 }) [-List.map_map, -List.mapM_map, ↓KW, encM, q1, e', ol, chunk_lms ol, lms_take_all ol]
set_option maxHeartbeats 1000000 in
set_option maxRecDepth 10000 in
theorem intMulZ (x y : Int) (hx : (digs x.natAbs).length ≤ 137438953472) (hy : (digs y.natAbs).length ≤ 137438953472) : Spec Tryz.prog 44 [encZ x, encZ y] (encZ (x * y)) := by
  refine spec_of (N := 18) follows_mixed Tryz.func44 rfl rfl rfl (by kernel_rfl) (by kernel_rfl) (by simp) ?_
  have la := lim_digs x.natAbs
  have lb := lim_digs y.natAbs
  have va := val_digs x.natAbs
  have vb := val_digs y.natAbs
  have ta := intTrim (digs x.natAbs) (by omega)
  have tb := intTrim (digs y.natAbs) (by omega)
  rw [strip_digs la, va] at ta
  rw [strip_digs lb, vb] at tb
  have sx := sg_natAbs x
  have sy := sg_natAbs y
  have ex : encZ x = .ag [.b (decide (x < 0)), encM (digs x.natAbs)] := rfl
  have ey : encZ y = .ag [.b (decide (y < 0)), encM (digs y.natAbs)] := rfl
  rw [ex, ey]
  generalize digs x.natAbs = a at *
  generalize digs y.natAbs = b at *
  generalize hbx : decide (x < 0) = nx at *
  generalize hby : decide (y < 0) = ny at *
  obtain ⟨tv, tl, tn⟩ := timesR_val la lb
  simp (config := { maxSteps := 1000000 }) [-List.map_map, -List.mapM_map, ↓KW, encM]
  refine callP_intro (ds := [encM a]) (by rfl) ta ?_
  simp (config := { maxSteps := 1000000 }) [-List.map_map, -List.mapM_map, ↓KW, encM]
  refine callP_intro (ds := [encM b]) (by rfl) tb ?_
  simp (config := { maxSteps := 1000000 }) [-List.map_map, -List.mapM_map, ↓KW, encM]
  refine callP_intro (ds := [encM a, encM b]) (by rfl) (intTimes a b la lb hx hy) ?_
  simp (config := { maxSteps := 1000000 }) [-List.map_map, -List.mapM_map, ↓KW, encM]
  have hm := intValueZ tl (by omega) (!(nx == ny))
  rw [tv, va, vb] at hm
  have e2 : sg (!(nx == ny)) (x.natAbs * y.natAbs) = x * y := by
    rw [← sx, ← sy]
    cases nx <;> cases ny <;> simp [sg, Int.mul_neg, Int.neg_mul]
  rw [e2] at hm
  refine callP_intro (ds := [.b (!(nx == ny)), encM (timesR a b)]) (by rfl) hm ?_
  simp (config := { maxSteps := 1000000 }) [-List.map_map, -List.mapM_map, ↓KW, encM, encZ, encI]
set_option maxHeartbeats 1000000 in
set_option maxRecDepth 10000 in
theorem intAddZ (x y : Int) (hx : (digs x.natAbs).length ≤ 137438953472) (hy : (digs y.natAbs).length ≤ 137438953472) : Spec Tryz.prog 66 [encZ x, encZ y] (encZ (x + y)) := by
  refine spec_of (N := 42) follows_mixed Tryz.func66 rfl rfl rfl (by kernel_rfl) (by kernel_rfl) (by simp) ?_
  have la := lim_digs x.natAbs
  have lb := lim_digs y.natAbs
  have va := val_digs x.natAbs
  have vb := val_digs y.natAbs
  have ta := intTrim (digs x.natAbs) (by omega)
  have tb := intTrim (digs y.natAbs) (by omega)
  rw [strip_digs la, va] at ta
  rw [strip_digs lb, vb] at tb
  have hless : (digs x.natAbs).length < (digs y.natAbs).length → x.natAbs < y.natAbs := lt_of_len_lt
  have hless2 : (digs y.natAbs).length < (digs x.natAbs).length → y.natAbs < x.natAbs := lt_of_len_lt
  have hl := intCompare _ _ la lb (by omega) (by omega)
  have hcmp : (x.natAbs < y.natAbs → cmpL (digs x.natAbs) (digs y.natAbs) < 0) ∧ (¬ x.natAbs < y.natAbs → ¬ cmpL (digs x.natAbs) (digs y.natAbs) < 0) := by
    unfold cmpL
    rw [lessL_digs, lessL_digs]
    constructor
    · intro h; rw [if_pos (by simpa using h)]; decide
    · intro h
      rw [if_neg (by simpa using h)]
      split <;> decide
  have sx := sg_natAbs x
  have sy := sg_natAbs y
  have ex : encZ x = .ag [.b (decide (x < 0)), encM (digs x.natAbs)] := rfl
  have ey : encZ y = .ag [.b (decide (y < 0)), encM (digs y.natAbs)] := rfl
  rw [ex, ey]
  generalize digs x.natAbs = a at *
  generalize digs y.natAbs = b at *
  generalize hbx : decide (x < 0) = nx at *
  generalize hby : decide (y < 0) = ny at *
  simp (config := { maxSteps := 1000000 }) [-List.map_map, -List.mapM_map, ↓KW, encM]
  refine callP_intro (ds := [encM a]) (by rfl) ta ?_
  simp (config := { maxSteps := 1000000 }) [-List.map_map, -List.mapM_map, ↓KW, encM]
  refine callP_intro (ds := [encM b]) (by rfl) tb ?_
  by_cases hn : nx = ny
  · have h1 : (nx == ny) = true := by simpa using hn
    simp (config := { maxSteps := 1000000 }) [-List.map_map, -List.mapM_map, ↓KW, encM, h1]
    obtain ⟨pv, pl, pn⟩ := iplusR_val la lb
    refine callP_intro (ds := [encM a, encM b]) (by rfl) (intPlus a b la lb (by omega) (by omega)) ?_
    simp (config := { maxSteps := 1000000 }) [-List.map_map, -List.mapM_map, ↓KW, encM]
    have hm := intValueZ pl (by omega) nx
    rw [pv, va, vb] at hm
    have e : sg nx (x.natAbs + y.natAbs) = x + y := by
      rw [← sx, ← sy, ← hn]; cases nx <;> simp [sg] <;> omega
    rw [e] at hm
    refine callP_intro (ds := [.b nx, encM (iplusR a b)]) (by rfl) hm ?_
    simp (config := { maxSteps := 1000000 }) [-List.map_map, -List.mapM_map, ↓KW, encM, encZ, encI]
  · have h1 : (nx == ny) = false := by simpa using hn
    simp (config := { maxSteps := 1000000 }) [-List.map_map, -List.mapM_map, ↓KW, encM, h1]
    refine callP_intro (ds := [encM a, encM b]) (by rfl) hl ?_
    by_cases hlt : x.natAbs < y.natAbs
    · have h2 := hcmp.1 hlt
      simp (config := { maxSteps := 1000000 }) [-List.map_map, -List.mapM_map, ↓KW, encM, h2]
      obtain ⟨pv, pl, pn⟩ := minusR_val lb la (by omega) (by omega)
      refine callP_intro (ds := [encM b, encM a]) (by rfl) (intMinus b a lb la (by omega)) ?_
      simp (config := { maxSteps := 1000000 }) [-List.map_map, -List.mapM_map, ↓KW, encM]
      have hm := intValueZ pl (by omega) ny
      rw [pv, va, vb] at hm
      have e : sg ny (y.natAbs - x.natAbs) = x + y := by
        rw [← sx, ← sy]
        cases nx <;> cases ny <;> simp [sg] at hn ⊢ <;> omega
      rw [e] at hm
      refine callP_intro (ds := [.b ny, encM (minusR b a)]) (by rfl) hm ?_
      simp (config := { maxSteps := 1000000 }) [-List.map_map, -List.mapM_map, ↓KW, encM, encZ, encI]
    · have h2 := hcmp.2 hlt
      simp (config := { maxSteps := 1000000 }) [-List.map_map, -List.mapM_map, ↓KW, encM, h2]
      obtain ⟨pv, pl, pn⟩ := minusR_val la lb (by omega) (by omega)
      refine callP_intro (ds := [encM a, encM b]) (by rfl) (intMinus a b la lb (by omega)) ?_
      simp (config := { maxSteps := 1000000 }) [-List.map_map, -List.mapM_map, ↓KW, encM]
      have hm := intValueZ pl (by omega) nx
      rw [pv, va, vb] at hm
      have e : sg nx (x.natAbs - y.natAbs) = x + y := by
        rw [← sx, ← sy]
        cases nx <;> cases ny <;> simp [sg] at hn ⊢ <;> omega
      rw [e] at hm
      refine callP_intro (ds := [.b nx, encM (minusR a b)]) (by rfl) hm ?_
      simp (config := { maxSteps := 1000000 }) [-List.map_map, -List.mapM_map, ↓KW, encM, encZ, encI]
end Go.Am
end

section
set_option linter.unusedVariables false
set_option linter.unusedSimpArgs false
open Go Go.Am Go.Proofs
namespace Go.Am
set_option linter.unusedSimpArgs false
/-- A cell with its coefficient, as three cells. -/
def encF (f : Int × Int) : List D := [.i .i64 f.1, .b (decide (f.2 < 0)), encM (digs f.2.natAbs)]
def encC (l : List (Int × Int)) : D := .sl (l.map encF)
/-- The cells of a chain. -/
def fcs (l : List (Int × Int)) : List D := (l.map encF).flatten
theorem fcs_len (l : List (Int × Int)) : (fcs l).length = l.length * 3 := by
  unfold fcs
  induction l with
  | nil => rfl
  | cons x l ih => simp only [List.map_cons, List.flatten_cons, List.length_append, ih, encF, List.length_cons, List.length_nil]; omega
theorem fcs_nil : fcs [] = [] := rfl
theorem fcs_app (a b : List (Int × Int)) : fcs (a ++ b) = fcs a ++ fcs b := by simp [fcs]
theorem fcs_one (f : Int × Int) : fcs [f] = [.i .i64 f.1, .b (decide (f.2 < 0)), encM (digs f.2.natAbs)] := rfl
theorem fcs_two (f g : Int × Int) : fcs [f, g] = [.i .i64 f.1, .b (decide (f.2 < 0)), encM (digs f.2.natAbs), .i .i64 g.1, .b (decide (g.2 < 0)), encM (digs g.2.natAbs)] := rfl
theorem one_encM (m : List Nat) : one (.d (encM m)) = true := rfl
theorem cellsA_encM (m : List Nat) : cellsA (.d (encM m)) = some [.d (encM m)] := rfl
theorem inj1_encM (m : List Nat) : inj1 (encM m) = .d (encM m) := rfl
theorem fcs_all (l : List (Int × Int)) : ((fcs l).map AV.d).all one = true := by
  unfold fcs
  induction l with
  | nil => rfl
  | cons x l ih =>
    simp only [List.map_cons, List.flatten_cons, List.map_append, List.all_append, ih, Bool.and_true]
    rfl
theorem fcs_all' (l : List (Int × Int)) : (∀ x, x ∈ fcs l → one (AV.d x) = true) ↔ True := ⟨fun _ => trivial, fun _ _ hx => List.all_eq_true.1 (fcs_all l) _ (List.mem_map_of_mem hx)⟩
theorem chunk_fcs {l : List (Int × Int)} {n : Nat} (h : l.length = n) : chunk 3 n (fcs l) = l.map encF := by
  subst h
  have := chunk_three (l.map encF) (fun x hx => by obtain ⟨y, _, rfl⟩ := List.mem_map.1 hx; rfl)
  rwa [List.length_map] at this
theorem fcs_take_all {l : List (Int × Int)} {n : Nat} (h : l.length = n) : List.take (n * 3) ((fcs l).map AV.d) = (fcs l).map AV.d := List.take_of_length_le (by simp [fcs_len, h])
theorem encF_eq (f : Int × Int) : encF f = [.i .i64 f.1, .b (decide (f.2 < 0)), encM (digs f.2.natAbs)] := rfl
theorem le_maxLen {n : Nat} (h : n ≤ 1099511627776) : n ≤ maxLen := Nat.le_trans h (by decide)
theorem app_bounds {n : Nat} (h : n ≤ 2147483648) : (n + 1) * 40 ≤ 140737488355328 ∧ n + 1 ≤ 1099511627776 ∧ (n + 1 + 1) * 40 ≤ 140737488355328 ∧ n + 1 + 1 ≤ 1099511627776 := by
  refine ⟨by omega, by omega, by omega, by omega⟩
/-- Numbers that the arithmetic takes. -/
def Sz (z : Int) : Prop := (digs z.natAbs).length ≤ 137438953472
theorem inj_encM (m : List Nat) : inj (encM m) = .d (encM m) := rfl
theorem kills_encM (H : Nat → Option HO) (avs : List AV) (m : List Nat) : killsOf H avs (encM m) = viss H avs := rfl
theorem encZ_eq (z : Int) : encZ z = .ag [.b (decide (z < 0)), encM (digs z.natAbs)] := rfl
theorem encZ_zero : encZ 0 = .ag [.b false, .sl []] := by
  unfold encZ encI
  rw [show (0 : Int).natAbs = 0 from rfl, digs_zero]; rfl
end Go.Am
end

section
set_option linter.unusedVariables false
set_option linter.unusedSimpArgs false
open Go Go.Am Go.Proofs
namespace Go.Am
set_option linter.unusedSimpArgs false
open Go.ChangeShapes Go.WideShapes Go.ChangeAt Go.RowKit
theorem cell_ltO {w : World} {a : Addr} {v : Value} (h : w.cell? a = some v) : a.block < w.heap.size := by
  unfold World.cell? at h
  cases hb : w.heap[a.block]? with
  | none => rw [hb] at h; cases h
  | some o => exact (Array.getElem?_eq_some_iff.1 hb).1
theorem listOf {α : Type} {Q : Nat → α → Prop} : ∀ {n : Nat}, (∀ i, i < n → ∃ y, Q i y) → ∃ l : List α, l.length = n ∧ ∀ (i : Nat) (y : α), l[i]? = some y → Q i y
  | 0, _ => ⟨[], rfl, fun i y h => by simp at h⟩
  | n + 1, h => by
    obtain ⟨l, hl, hq⟩ := listOf (n := n) fun i hi => h i (Nat.lt_succ_of_lt hi)
    obtain ⟨y, hy⟩ := h n (Nat.lt_succ_self n)
    refine ⟨l ++ [y], by simp [hl], fun i z hz => ?_⟩
    rcases Nat.lt_or_ge i l.length with h1 | h1
    · rw [List.getElem?_append_left h1] at hz; exact hq i z hz
    · rw [List.getElem?_append_right h1] at hz
      have h2 : i - l.length = 0 := by
        rcases Nat.eq_zero_or_pos (i - l.length) with h3 | h3
        · exact h3
        · rw [List.getElem?_eq_none (by simp; omega)] at hz; cases hz
      rw [h2] at hz
      simp at hz
      subst hz
      rwa [show i = n by omega]
theorem cells_get {w : World} {n : Nat} {a : Addr} {cs : List Value} (h : w.cells? 0 a n = some cs) : ∀ k, k < n → w.cell? (a.add k) = cs[k]? := by
  intro k hk
  unfold World.cells? at h
  rw [if_pos (Nat.zero_le _)] at h
  have := mapM_some_get h k k (by simp [hk])
  exact this
theorem openSlice {α : Type} {P : Program} {H : Type} {enc : TypeId × Value → H} {w : World} {sp : Nat → Bool} {held : Bool} {t e : TypeId} {cs : List Value} {x : DataW H × List MemPlace} {fuel : Nat} (ht : P.underlying t = some (.slice e)) (hc : 0 < P.cellsOf e) (E : α → List D) (good : α → Prop)
    (hE : ∀ (fuel : Nat) (cs : List Value) (x : DataW H × List MemPlace), DataW.trod enc P w 0 sp held fuel e cs = some x → ∃ y : α, good y ∧ (E y).length = P.cellsOf e ∧ ∀ (k : Nat) (c : D) (v : Value), (E y)[k]? = some c → cs[k]? = some v → VD (fun b => b < w.heap.size) w c v)
    (hf : DataW.trod enc P w 0 sp held fuel t cs = some x) : ∃ (v : Value) (l : List α), cs = [v] ∧ VD (fun b => b < w.heap.size) w (.sl (l.map E)) v ∧ (∀ y ∈ l, good y) ∧ l.length ≤ 9223372036854775807 := by
  rcases DataW.trod_slice ht hf with ⟨hcs, _⟩ | ⟨a, len, cap, elems, rest, n, _, hcs, _, _, hlc, hcm, hel, hEl, _⟩
  · exact ⟨_, [], hcs, .sl0 _ _, (fun p hp => by cases hp), Nat.zero_le _⟩
  · have each : ∀ i, i < len → ∃ y : α, good y ∧ (E y).length = P.cellsOf e ∧ ∀ (k : Nat), k < P.cellsOf e → ∃ v, w.cell? (a.add (i * P.cellsOf e + k)) = some v ∧ ∀ c : D, (E y)[k]? = some c → VD (fun b => b < w.heap.size) w c v := by
      intro i hi
      have h1 := hEl i hi
      rw [List.getElem?_eq_getElem (by omega)] at h1
      obtain ⟨vs, h2, h3⟩ := Option.bind_eq_some_iff.1 h1
      obtain ⟨y, g, hy, hv⟩ := hE _ _ _ h3
      refine ⟨y, g, hy, fun k hk => ?_⟩
      have h4 := cells_get h2 k hk
      rw [add_add] at h4
      have h5 : k < vs.length := by
        unfold World.cells? at h2
        rw [if_pos (Nat.zero_le _)] at h2
        have := mapM_some_length h2
        simp at this; omega
      rw [List.getElem?_eq_getElem h5] at h4
      exact ⟨_, h4, fun c hc => hv k c _ hc (List.getElem?_eq_getElem h5)⟩
    obtain ⟨l, hl, hq⟩ := listOf each
    have hgood : ∀ y ∈ l, good y := fun y hy => by
      obtain ⟨i, hi, rfl⟩ := List.mem_iff_getElem.1 hy
      exact (hq i _ (List.getElem?_eq_getElem hi)).1
    refine ⟨_, l, hcs, ?_, hgood, by rw [hl]; exact Nat.le_trans hlc hcm⟩
    rcases Nat.eq_zero_or_pos len with h0 | hpos
    · have : l = [] := List.eq_nil_of_length_eq_zero (by omega)
      subst this; subst h0; exact .sl0 _ _
    · have hab : a.block < w.heap.size := by
        obtain ⟨y, _, _, hy⟩ := each 0 hpos
        obtain ⟨v, hv, _⟩ := hy 0 hc
        have := cell_ltO hv
        rwa [block_add] at this
      refine .sl _ a len cap (P.cellsOf e) (fun j => (w.cell? (a.add j)).getD undef) (by simp [hl]) hlc (fun cs hcs => ?_) hab (fun j hj => ?_) (fun j k cs c hj hk => ?_)
      · obtain ⟨y, hy, rfl⟩ := List.mem_map.1 hcs
        obtain ⟨i, hi, rfl⟩ := List.mem_iff_getElem.1 hy
        exact (hq i _ (List.getElem?_eq_getElem hi)).2.1
      · have hd : j / P.cellsOf e < len := Nat.div_lt_of_lt_mul (by rwa [Nat.mul_comm] at hj)
        obtain ⟨y, _, _, hy⟩ := each _ hd
        obtain ⟨v, hv, _⟩ := hy (j % P.cellsOf e) (Nat.mod_lt _ hc)
        rw [Nat.mul_comm, Nat.div_add_mod] at hv
        simp [hv]
      · rw [List.getElem?_map, Option.map_eq_some_iff] at hj
        obtain ⟨y, hy, rfl⟩ := hj
        obtain ⟨_, h6, h7⟩ := hq j y hy
        obtain ⟨v, hv, hvc⟩ := h7 k (by rw [← h6]; exact (List.getElem?_eq_some_iff.1 hk).1)
        simp only [hv, Option.getD_some]
        exact hvc c hk
end Go.Am
end

section
set_option linter.unusedVariables false
set_option linter.unusedSimpArgs false
open Go Go.Am Go.Proofs
namespace Go.Am
set_option linter.unusedSimpArgs false
/-- The reference's insertion, step by step. -/
def insS (id z : Int) (s : List (Int × Int) × Bool) (x : Int × Int) : List (Int × Int) × Bool :=
  if s.2 then (s.1 ++ [x], true)
  else if x.1 > id then (s.1 ++ [(id, z), x], true)
  else if x.1 = id then (if x.2 + z = 0 then s.1 else s.1 ++ [(id, x.2 + z)], true)
  else (s.1 ++ [x], false)
def insR (l : List (Int × Int)) (f : Int × Int) : List (Int × Int) :=
  let s := l.foldl (insS f.1 f.2) ([], decide (f.2 = 0))
  if s.2 then s.1 else s.1 ++ [f]
theorem insS_len (id z : Int) (s : List (Int × Int) × Bool) (x : Int × Int) : (insS id z s x).1.length ≤ s.1.length + 2 := by
  unfold insS
  split
  · simp
  · split
    · simp
    · split
      · split <;> simp
      · simp
theorem foldl_insS_len (id z : Int) : ∀ (l : List (Int × Int)) (s : List (Int × Int) × Bool), (l.foldl (insS id z) s).1.length ≤ s.1.length + 2 * l.length
  | [], s => by simp
  | x :: l, s => by
    have h1 := foldl_insS_len id z l (insS id z s x)
    have h2 := insS_len id z s x
    simp only [List.foldl_cons, List.length_cons]
    omega
set_option maxHeartbeats 2000000 in
set_option maxRecDepth 10000 in
theorem r26insert (l : List (Int × Int)) (id z : Int) (hz : Sz z) (hs : ∀ x ∈ l, Sz x.2) (hl : l.length ≤ 1073741824) : Spec Tryz.prog 38 [encC l, .ag (encF (id, z))] (encC (insR l (id, z))) := by
  refine spec_of (N := 80) follows_mixed Tryz.func38 rfl rfl rfl (by kernel_rfl) (by kernel_rfl) (by simp) ?_
  simp (config := { maxSteps := 1000000 }) [-List.map_map, -List.mapM_map, ↓KW, encC, encF_eq, one_encM, cellsA_encM]
  refine callP_intro (ds := [encZ z]) (by rfl) (r01SignZ z) ?_
  have e0 : ((z.sign : Int) == 0) = decide (z = 0) := by
    rw [Bool.eq_iff_iff]; simp
  simp (config := { maxSteps := 1000000 }) [-List.map_map, -List.mapM_map, ↓KW, e0, encF_eq, one_encM, cellsA_encM]
  refine loopP_inv (fun i : Nat => i ≤ l.length)
    (fun i => StL [(0, .d (encC l)), (3, .ptr 1 0), (5, .own 2 0 ((l.take i).foldl (insS id z) ([], decide (z = 0))).1.length 3), (6, .d (.b ((l.take i).foldl (insS id z) ([], decide (z = 0))).2)), (7, .d (.i .i64 i))] none
      [.cells 65 ((fcs [(id, z)]).map .d), .cells 65 ((fcs ((l.take i).foldl (insS id z) ([], decide (z = 0))).1).map .d)]) (fun i => l.length - i) 0 (Nat.zero_le _) ?_ ?_
  · refine wk_l [1, 2] (by simp) ?_ ?_ <;> simp [-List.map_map, upd, inj1, Γ0, encC, encF_eq, fcs_one, fcs_nil]
  · intro i hi
    have hlen := foldl_insS_len id z (l.take i) ([], decide (z = 0))
    simp only [List.length_nil, List.length_take] at hlen
    have hfin : i = l.length → insR l (id, z) = if ((l.take i).foldl (insS id z) ([], decide (z = 0))).2 then ((l.take i).foldl (insS id z) ([], decide (z = 0))).1 else ((l.take i).foldl (insS id z) ([], decide (z = 0))).1 ++ [(id, z)] := fun e => by
      rw [List.take_of_length_le (by omega)]; rfl
    have hsucc : ∀ h : i < l.length, (l.take (i + 1)).foldl (insS id z) ([], decide (z = 0)) = insS id z ((l.take i).foldl (insS id z) ([], decide (z = 0))) l[i] := fun h => by
      rw [List.take_add_one, List.getElem?_eq_getElem h, List.foldl_append]; rfl
    generalize hst : (l.take i).foldl (insS id z) ([], decide (z = 0)) = st at *
    obtain ⟨out, done⟩ := st
    simp only at hlen hfin hsucc
    obtain ⟨n, hn⟩ : ∃ n, out.length = n := ⟨_, rfl⟩
    have hn' : n ≤ 2147483648 := by rw [← hn]; exact Nat.le_trans hlen (by omega)
    clear hlen
    have hfl := fcs_len out
    rw [hn] at hfl
    by_cases hgo : i < l.length
    · have q1 : (i : Int) < l.length := by omega
      have hw7 : IntKind.i64.wrap ((i : Int) + 1) = (i : Int) + 1 := wrap_i64 (by omega) (by omega)
      have hsu := hsucc hgo
      have g1 : l[i]? = some l[i] := List.getElem?_eq_getElem hgo
      have hsx := hs _ (List.getElem_mem hgo)
      generalize l[i] = x at *
      obtain ⟨xi, xc⟩ := x
      simp only at hsx
      have hb := app_bounds hn'
      cases done with
      | true =>
        replace hsu := hsu.trans (show insS id z (out, true) (xi, xc) = (out ++ [(xi, xc)], true) from rfl)
        simp (config := { maxSteps := 1000000 }) [-List.map_map, -List.mapM_map, ↓KW, encC, q1, g1, encF_eq, one_encM, cellsA_encM, fcs_one, fcs_all', hn, hfl, hb, le_maxLen, hw7]
        refine nxt_intro (i + 1) hgo (Nat.sub_lt_sub_left hgo (Nat.lt_succ_self i)) (wk_l [1, 4] (by simp) ?_ ?_)
        · simp [-List.map_map, upd, inj1, Γ0, encC, hsu, encF_eq, fcs_one, fcs_app, hn]
        · simp [-List.map_map, upd, inj1, Γ0, encC, hsu, encF_eq, fcs_one, fcs_app, hn]
      | false =>
        by_cases hgt : xi > id
        · have hgt' : id < xi := hgt
          replace hsu := hsu.trans (show insS id z (out, false) (xi, xc) = (out ++ [(id, z), (xi, xc)], true) by simp [insS, hgt])
          have h33 : n * 3 + 3 = (n + 1) * 3 := by omega
          simp (config := { maxSteps := 1000000 }) [-List.map_map, -List.mapM_map, ↓KW, encC, q1, g1, hgt', encF_eq, one_encM, cellsA_encM, fcs_one, fcs_all', hn, hfl, hb, le_maxLen, hw7, h33]
          refine nxt_intro (i + 1) hgo (Nat.sub_lt_sub_left hgo (Nat.lt_succ_self i)) (wk_l [1, 6] (by simp) ?_ ?_)
          · simp [-List.map_map, upd, inj1, Γ0, encC, hsu, encF_eq, fcs_one, fcs_app, hn]
          · simp [-List.map_map, upd, inj1, Γ0, encC, hsu, encF_eq, fcs_one, fcs_app, hn, fcs_two]
        · have hgt' : ¬ id < xi := hgt
          by_cases heq : xi = id
          · have he : (xi == id) = true := by simpa using heq
            simp (config := { maxSteps := 1000000 }) [-List.map_map, -List.mapM_map, ↓KW, encC, q1, g1, hgt', he, encF_eq, one_encM, cellsA_encM, fcs_one, fcs_all', hn, hfl, hb, le_maxLen, hw7]
            refine callP_intro (ds := [encZ xc, encZ z]) (by rfl) (r01AddZ xc z (Nat.le_trans hsx (by decide)) (Nat.le_trans hz (by decide))) ?_
            simp (config := { maxSteps := 1000000 }) [-List.map_map, -List.mapM_map, ↓KW, encZ, encI, one_encM, cellsA_encM]
            refine callP_intro (ds := [encZ (xc + z)]) (by rfl) (r01SignZ (xc + z)) ?_
            by_cases h0 : xc + z = 0
            · have h0' : ((xc + z).sign != 0) = false := by simp [h0]
              replace hsu := hsu.trans (show insS id z (out, false) (xi, xc) = (out, true) by simp [insS, hgt, heq, h0])
              simp (config := { maxSteps := 1000000 }) [-List.map_map, -List.mapM_map, ↓KW, h0', hn, hw7]
              refine nxt_intro (i + 1) hgo (Nat.sub_lt_sub_left hgo (Nat.lt_succ_self i)) (wk_l [1, 2] (by simp) ?_ ?_)
              · simp [-List.map_map, upd, inj1, Γ0, encC, hsu, encF_eq, fcs_one, fcs_app, hn]
              · simp [-List.map_map, upd, inj1, Γ0, encC, hsu, encF_eq, fcs_one, fcs_app, hn]
            · have h0' : ((xc + z).sign != 0) = true := by simp [h0]
              replace hsu := hsu.trans (show insS id z (out, false) (xi, xc) = (out ++ [(id, xc + z)], true) by simp [insS, hgt, heq, h0])
              simp (config := { maxSteps := 1000000 }) [-List.map_map, -List.mapM_map, ↓KW, h0', encF_eq, one_encM, cellsA_encM, fcs_one, fcs_all', hn, hfl, hb, le_maxLen, hw7]
              refine nxt_intro (i + 1) hgo (Nat.sub_lt_sub_left hgo (Nat.lt_succ_self i)) (wk_l [1, 5] (by simp) ?_ ?_)
              · simp [-List.map_map, upd, inj1, Γ0, encC, hsu, encF_eq, fcs_one, fcs_app, hn]
              · simp [-List.map_map, upd, inj1, Γ0, encC, hsu, encF_eq, fcs_one, fcs_app, hn]
          · have he : (xi == id) = false := by simpa using heq
            replace hsu := hsu.trans (show insS id z (out, false) (xi, xc) = (out ++ [(xi, xc)], false) by simp [insS, hgt, heq])
            simp (config := { maxSteps := 1000000 }) [-List.map_map, -List.mapM_map, ↓KW, encC, q1, g1, hgt', he, encF_eq, one_encM, cellsA_encM, fcs_one, fcs_all', hn, hfl, hb, le_maxLen, hw7]
            refine nxt_intro (i + 1) hgo (Nat.sub_lt_sub_left hgo (Nat.lt_succ_self i)) (wk_l [1, 4] (by simp) ?_ ?_)
            · simp [-List.map_map, upd, inj1, Γ0, encC, hsu, encF_eq, fcs_one, fcs_app, hn]
            · simp [-List.map_map, upd, inj1, Γ0, encC, hsu, encF_eq, fcs_one, fcs_app, hn]
    · have q1 : ¬ (i : Int) < l.length := by omega
      have hfi := hfin (by omega)
      have hb := app_bounds hn'
      cases done with
      | true =>
        have e : insR l (id, z) = out := by rw [hfi]; rfl
        simp (config := { maxSteps := 1000000 }) [-List.map_map, -List.mapM_map, ↓KW, encC, q1, hn, hfl, chunk_fcs hn, fcs_take_all hn, e]
      | false =>
        have e : insR l (id, z) = out ++ [(id, z)] := by rw [hfi]; rfl
        have hn2 : (out ++ [(id, z)]).length = n + 1 := by simp [hn]
        have e2 : List.map AV.d (fcs out) ++ [AV.d (D.i .i64 id), AV.d (D.b (decide (z < 0))), AV.d (encM (digs z.natAbs))] = List.map AV.d (fcs (out ++ [(id, z)])) := by
          rw [fcs_app, List.map_append]; rfl
        have hfl2 := fcs_len (out ++ [(id, z)])
        rw [hn2] at hfl2
        simp (config := { maxSteps := 1000000 }) [-List.map_map, -List.mapM_map, ↓KW, encC, q1, encF_eq, one_encM, cellsA_encM, fcs_one, fcs_all', hn, hfl, hb, le_maxLen, e2, hfl2, chunk_fcs hn2, fcs_take_all hn2, e]
end Go.Am
end

section
set_option linter.unusedVariables false
set_option linter.unusedSimpArgs false
open Go Go.Am Go.Proofs
namespace Go.Am
set_option linter.unusedSimpArgs false
def b2n (b : Bool) : Nat := if b then 1 else 0
theorem foldl_insS_len2 (id z : Int) : ∀ (l : List (Int × Int)) (s : List (Int × Int) × Bool) (n : Nat), s.1.length ≤ n + b2n s.2 → (l.foldl (insS id z) s).1.length ≤ n + l.length + b2n (l.foldl (insS id z) s).2
  | [], s, n, h => by simpa using h
  | x :: l, s, n, h => by
    have h2 : (insS id z s x).1.length ≤ n + 1 + b2n (insS id z s x).2 := by
      obtain ⟨out, done⟩ := s
      cases done
      · simp only [b2n, Bool.false_eq_true, if_false, Nat.add_zero] at h
        unfold insS
        simp only [Bool.false_eq_true, if_false]
        split
        · simp [b2n]; omega
        · split
          · split <;> simp [b2n] <;> omega
          · simp [b2n]; omega
      · simp only [b2n, if_true] at h
        unfold insS
        simp [b2n]; omega
    have h1 := foldl_insS_len2 id z l _ (n + 1) h2
    simp only [List.foldl_cons, List.length_cons]
    omega
theorem insR_len1 (l : List (Int × Int)) (f : Int × Int) : (insR l f).length ≤ l.length + 1 := by
  have h := foldl_insS_len2 f.1 f.2 l ([], decide (f.2 = 0)) 0 (Nat.zero_le _)
  have e : insR l f = if (l.foldl (insS f.1 f.2) ([], decide (f.2 = 0))).2 then (l.foldl (insS f.1 f.2) ([], decide (f.2 = 0))).1 else (l.foldl (insS f.1 f.2) ([], decide (f.2 = 0))).1 ++ [f] := rfl
  rw [e]
  generalize l.foldl (insS f.1 f.2) ([], decide (f.2 = 0)) = s at *
  obtain ⟨out, done⟩ := s
  cases done
  · simp only [b2n, Bool.false_eq_true, if_false] at h ⊢
    simp; omega
  · simp only [b2n, if_true] at h ⊢
    omega
/-- No coefficient is greater than M. -/
def Bnd (M : Nat) (l : List (Int × Int)) : Prop := ∀ x ∈ l, x.2.natAbs ≤ M
theorem Bnd.nil (M : Nat) : Bnd M [] := fun _ h => by cases h
theorem Bnd.mono {M N : Nat} {l : List (Int × Int)} (h : Bnd M l) (k : M ≤ N) : Bnd N l := fun x hx => Nat.le_trans (h x hx) k
theorem Bnd.app {M : Nat} {a b : List (Int × Int)} (h : Bnd M a) (k : Bnd M b) : Bnd M (a ++ b) := fun x hx => by
  rcases List.mem_append.1 hx with hx | hx
  · exact h x hx
  · exact k x hx
theorem Bnd.one {M : Nat} {x : Int × Int} (h : x.2.natAbs ≤ M) : Bnd M [x] := fun y hy => by
  rcases List.mem_cons.1 hy with rfl | hy
  · exact h
  · cases hy
theorem insS_bnd {id z : Int} {s : List (Int × Int) × Bool} {x : Int × Int} {M K : Nat} (hs : Bnd (M + K) s.1) (hx : x.2.natAbs ≤ M) (hz : z.natAbs ≤ K) : Bnd (M + K) (insS id z s x).1 := by
  unfold insS
  split
  · exact hs.app (.one (by omega))
  · split
    · exact hs.app (.app (.one (x := (id, z)) (by simp only; omega)) (.one (by omega)))
    · split
      · split
        · exact hs
        · exact hs.app (.one (by simp only; omega))
      · exact hs.app (.one (by omega))
theorem foldl_insS_bnd {id z : Int} {M K : Nat} (hz : z.natAbs ≤ K) : ∀ (l : List (Int × Int)) (s : List (Int × Int) × Bool), Bnd M l → Bnd (M + K) s.1 → Bnd (M + K) (l.foldl (insS id z) s).1
  | [], s, _, h => h
  | x :: l, s, hl, h => foldl_insS_bnd hz l _ (fun y hy => hl y (List.mem_cons_of_mem _ hy)) (insS_bnd h (hl x (List.mem_cons_self ..)) hz)
theorem insR_bnd {l : List (Int × Int)} {f : Int × Int} {M K : Nat} (hl : Bnd M l) (hz : f.2.natAbs ≤ K) : Bnd (M + K) (insR l f) := by
  have h := foldl_insS_bnd (id := f.1) hz l ([], decide (f.2 = 0)) hl (.nil _)
  have e : insR l f = if (l.foldl (insS f.1 f.2) ([], decide (f.2 = 0))).2 then (l.foldl (insS f.1 f.2) ([], decide (f.2 = 0))).1 else (l.foldl (insS f.1 f.2) ([], decide (f.2 = 0))).1 ++ [f] := rfl
  rw [e]
  split
  · exact h
  · exact h.app (.one (by omega))
theorem sz_of_lt {z : Int} {M : Nat} (h : z.natAbs ≤ M) (hM : (digs M).length ≤ 137438953472) : Sz z := Nat.le_trans (digs_len_mono h) hM
/-- Sums, cell after cell. -/
def addR (a b : List (Int × Int)) : List (Int × Int) := b.foldl insR a
theorem addR_len (a : List (Int × Int)) : ∀ b : List (Int × Int), (addR a b).length ≤ a.length + b.length := by
  intro b
  unfold addR
  induction b generalizing a with
  | nil => simp
  | cons x b ih =>
    have h1 := ih (insR a x)
    have h2 := insR_len1 a x
    simp only [List.foldl_cons, List.length_cons]; omega
theorem addR_bnd {M K : Nat} : ∀ (b a : List (Int × Int)), Bnd M a → Bnd K b → Bnd (M + b.length * K) (addR a b)
  | [], a, ha, _ => by simpa [addR] using ha
  | x :: b, a, ha, hb => by
    have h1 := insR_bnd (f := x) ha (hb x (List.mem_cons_self ..))
    have h2 := addR_bnd b (insR a x) h1 (fun y hy => hb y (List.mem_cons_of_mem _ hy))
    refine (show Bnd _ (addR (insR a x) b) from h2).mono ?_
    rw [List.length_cons, Nat.add_mul, Nat.one_mul]; omega
theorem addR_take (a b : List (Int × Int)) (i : Nat) (h : i < b.length) : addR a (b.take (i + 1)) = insR (addR a (b.take i)) b[i] := by
  unfold addR
  rw [List.take_add_one, List.getElem?_eq_getElem h, List.foldl_append]; rfl
set_option maxHeartbeats 1000000 in
set_option maxRecDepth 10000 in
theorem r26Same (a b : List (Int × Int)) (ha : ∀ x ∈ a, Sz x.2) (hb : ∀ x ∈ b, Sz x.2) (hl : a.length ≤ 1073741824) (hl2 : b.length ≤ 1073741824) : Spec Tryz.prog 16 [encC a, encC b] (.b (decide (a = b))) := by
  refine spec_of (N := 42) follows_mixed Tryz.func16 rfl rfl rfl (by kernel_rfl) (by kernel_rfl) (by simp) ?_
  by_cases hn : a.length = b.length
  rotate_left
  · have h1 : ((a.length : Int) != b.length) = true := by simp; omega
    have h2 : ¬ a = b := fun e => hn (by rw [e])
    simp (config := { maxSteps := 1000000 }) [-List.map_map, -List.mapM_map, ↓KW, encC, h1, h2]
  · have h1 : ((a.length : Int) != b.length) = false := by simp; omega
    simp (config := { maxSteps := 1000000 }) [-List.map_map, -List.mapM_map, ↓KW, encC, h1]
    refine loopP_inv (fun i : Nat => i ≤ a.length ∧ a.take i = b.take i) (fun i => StL [(0, .d (encC a)), (1, .d (encC b)), (5, .d (.i .i64 i))] none []) (fun i => a.length - i) 0 ⟨Nat.zero_le _, by simp⟩ ?_ ?_
    · refine wk_l [] (by simp) ?_ ?_ <;> simp [-List.map_map, upd, inj1, Γ0, encC]
    · rintro i ⟨hi, ht⟩
      by_cases hgo : i < a.length
      · have hgb : i < b.length := by omega
        have q1 : (i : Int) < a.length := by omega
        have hw7 : IntKind.i64.wrap ((i : Int) + 1) = (i : Int) + 1 := wrap_i64 (by omega) (by omega)
        have g1 : a[i]? = some a[i] := List.getElem?_eq_getElem hgo
        have g2 : b[i]? = some b[i] := List.getElem?_eq_getElem hgb
        have hsx := ha _ (List.getElem_mem hgo)
        have hsy := hb _ (List.getElem_mem hgb)
        have hne : a[i] ≠ b[i] → ¬ a = b := fun h e => h (by subst e; rfl)
        have hta : a[i] = b[i] → a.take (i + 1) = b.take (i + 1) := fun e => by rw [List.take_add_one, List.take_add_one, ht, g1, g2, e]
        generalize a[i] = x at *
        generalize b[i] = y at *
        obtain ⟨xi, xc⟩ := x
        obtain ⟨yi, yc⟩ := y
        simp only at hsx hsy
        by_cases h2 : xi = yi
        · have h3 : (xi != yi) = false := by simpa using h2
          simp (config := { maxSteps := 1000000 }) [-List.map_map, -List.mapM_map, ↓KW, encC, q1, g1, g2, h3, encF_eq, one_encM, cellsA_encM]
          refine callP_intro (ds := [encZ xc, encZ yc]) (by rfl) (r01SameZ xc yc (Nat.le_trans hsx (by decide)) (Nat.le_trans hsy (by decide))) ?_
          by_cases h4 : xc = yc
          · have h5 := hta (by rw [h2, h4])
            simp (config := { maxSteps := 1000000 }) [-List.map_map, -List.mapM_map, ↓KW, h4, hw7]
            refine nxt_intro (i + 1) ⟨hgo, h5⟩ (Nat.sub_lt_sub_left hgo (Nat.lt_succ_self i)) (wk_l [] (by simp) ?_ ?_) <;> simp [-List.map_map, upd, inj1, Γ0, encC]
          · have h5 := hne (fun e => h4 (by injection e))
            simp (config := { maxSteps := 1000000 }) [-List.map_map, -List.mapM_map, ↓KW, h4, h5]
        · have h3 : (xi != yi) = true := by simpa using h2
          have h5 := hne (fun e => h2 (by injection e))
          simp (config := { maxSteps := 1000000 }) [-List.map_map, -List.mapM_map, ↓KW, encC, q1, g1, g2, h3, h5, encF_eq, one_encM, cellsA_encM]
      · have q1 : ¬ (i : Int) < a.length := by omega
        have e : a = b := by rwa [List.take_of_length_le (by omega), List.take_of_length_le (by omega)] at ht
        subst e
        simp (config := { maxSteps := 1000000 }) [-List.map_map, -List.mapM_map, ↓KW, encC, q1]
/-- A multiple. -/
def mulR (k : Int) (b : List (Int × Int)) : List (Int × Int) := b.map fun f => (f.1, k * f.2)
theorem mulR_bnd {k : Int} {M K : Nat} {b : List (Int × Int)} (hk : k.natAbs ≤ K) (hb : Bnd M b) : Bnd (K * M) (mulR k b) := fun x hx => by
  obtain ⟨y, hy, rfl⟩ := List.mem_map.1 hx
  simp only [Int.natAbs_mul]
  exact Nat.mul_le_mul hk (hb y hy)
set_option maxHeartbeats 1000000 in
set_option maxRecDepth 10000 in
theorem r26Add (a b : List (Int × Int)) (k : Int) (A M K : Nat) (ha : Bnd A a) (hb : Bnd M b) (hk : k.natAbs ≤ K) (hA : (digs (A + b.length * (K * M))).length ≤ 137438953472) (hKM : (digs (K * M)).length ≤ 137438953472) (hK : (digs K).length ≤ 137438953472)
    (hM : (digs M).length ≤ 137438953472) (hl : a.length + b.length ≤ 1073741824) : Spec Tryz.prog 22 [encC a, encC b, encZ k] (encC (addR a (mulR k b))) := by
  refine spec_of (N := 32) follows_mixed Tryz.func22 rfl rfl rfl (by kernel_rfl) (by kernel_rfl) (by simp) ?_
  simp (config := { maxSteps := 1000000 }) [-List.map_map, -List.mapM_map, ↓KW, encC, encZ, encI, one_encM, cellsA_encM]
  refine loopP_inv (fun i : Nat => i ≤ b.length) (fun i => StL [(1, .d (encC b)), (5, .ptr 1 0), (7, .d (encC (addR a ((mulR k b).take i)))), (8, .d (.i .i64 i))] none [.cells 51 [.d (.b (decide (k < 0))), .d (encM (digs k.natAbs))]]) (fun i => b.length - i) 0 (Nat.zero_le _) ?_ ?_
  · refine wk_l [1] (by simp) ?_ ?_ <;> simp [-List.map_map, upd, inj1, Γ0, encC, addR]
  · intro i hi
    have hlm : (mulR k b).length = b.length := by simp [mulR]
    by_cases hgo : i < b.length
    · have q1 : (i : Int) < b.length := by omega
      have hw7 : IntKind.i64.wrap ((i : Int) + 1) = (i : Int) + 1 := wrap_i64 (by omega) (by omega)
      have g1 : b[i]? = some b[i] := List.getElem?_eq_getElem hgo
      have hsu := addR_take a (mulR k b) i (by omega)
      have hgm : (mulR k b)[i]'(by omega) = (b[i].1, k * b[i].2) := by simp [mulR]
      rw [hgm] at hsu
      have hbx := hb _ (List.getElem_mem hgo)
      have hbt : Bnd (K * M) ((mulR k b).take i) := fun x hx => mulR_bnd hk hb x (List.mem_of_mem_take hx)
      have hbo := addR_bnd ((mulR k b).take i) a ha hbt
      have hlo := addR_len a ((mulR k b).take i)
      have hti : ((mulR k b).take i).length = i := by simp; omega
      rw [hti] at hbo hlo
      have hle : A + i * (K * M) ≤ A + b.length * (K * M) := Nat.add_le_add_left (Nat.mul_le_mul_right _ (by omega)) _
      generalize hxe : b[i] = x at *
      obtain ⟨xi, xc⟩ := x
      generalize addR a ((mulR k b).take i) = out at *
      simp only at hbx hsu
      have hkx : (k * xc).natAbs ≤ K * M := by rw [Int.natAbs_mul]; exact Nat.mul_le_mul hk hbx
      simp (config := { maxSteps := 1000000 }) [-List.map_map, -List.mapM_map, ↓KW, encC, q1, g1, encF_eq, one_encM, cellsA_encM]
      refine callP_intro (ds := [encZ k, encZ xc]) (by rfl) (r01MulZ k xc (sz_of_lt hk hK) (sz_of_lt hbx hM)) ?_
      simp (config := { maxSteps := 1000000 }) [-List.map_map, -List.mapM_map, ↓KW, encC, encZ, encI, one_encM, cellsA_encM]
      have hins := r26insert out xi (k * xc) (sz_of_lt hkx hKM) (fun y hy => sz_of_lt (Nat.le_trans (hbo y hy) hle) hA) (by omega)
      refine callP_intro (ds := [encC out, .ag (encF (xi, k * xc))]) (by rfl) hins ?_
      simp (config := { maxSteps := 1000000 }) [-List.map_map, -List.mapM_map, ↓KW, encC, hw7]
      refine nxt_intro (i + 1) hgo (Nat.sub_lt_sub_left hgo (Nat.lt_succ_self i)) (wk_l [1] (by simp) ?_ ?_)
      · simp [-List.map_map, upd, inj1, Γ0, encC, hsu]
      · simp [-List.map_map, upd, inj1, Γ0]
    · have q1 : ¬ (i : Int) < b.length := by omega
      have e : (mulR k b).take i = mulR k b := List.take_of_length_le (by omega)
      simp (config := { maxSteps := 1000000 }) [-List.map_map, -List.mapM_map, ↓KW, encC, q1, e]
end Go.Am
end

section
set_option linter.unusedVariables false
set_option linter.unusedSimpArgs false
open Go Go.Am Go.Proofs
namespace Go.Am
set_option linter.unusedSimpArgs false
/-- What is asked at the place i. -/
def okAt (l : List (Int × Int)) (i : Nat) : Bool := decide ((l.getD i (0, 0)).2 ≠ 0) && (decide (i = 0) || decide ((l.getD (i - 1) (0, 0)).1 < (l.getD i (0, 0)).1))
def validR (l : List (Int × Int)) : Bool := (List.range l.length).all (okAt l)
theorem validR_true {l : List (Int × Int)} (h : ∀ j, j < l.length → okAt l j = true) : validR l = true := by
  unfold validR; rw [List.all_eq_true]; intro j hj; exact h j (List.mem_range.1 hj)
theorem validR_false {l : List (Int × Int)} {j : Nat} (hj : j < l.length) (h : okAt l j = false) : validR l = false := by
  unfold validR
  rw [List.all_eq_false]
  exact ⟨j, List.mem_range.2 hj, by rw [h]; decide⟩
theorem getDp {l : List (Int × Int)} {i : Nat} (h : i < l.length) : l[i]? = some (l.getD i (0, 0)) := by rw [List.getD_eq_getElem?_getD, List.getElem?_eq_getElem h]; rfl
set_option maxHeartbeats 2000000 in
set_option maxRecDepth 10000 in
theorem r26Valid (l : List (Int × Int)) (hs : ∀ x ∈ l, Sz x.2) (hl : l.length ≤ 1073741824) : Spec Tryz.prog 23 [encC l] (.b (validR l)) := by
  refine spec_of (N := 44) follows_mixed Tryz.func23 rfl rfl rfl (by kernel_rfl) (by kernel_rfl) (by simp) ?_
  simp (config := { maxSteps := 1000000 }) [-List.map_map, -List.mapM_map, ↓KW, encC]
  refine loopP_inv (fun i : Nat => i ≤ l.length ∧ ∀ j, j < i → okAt l j = true) (fun i => StL [(0, .d (encC l)), (3, .d (.i .i64 i))] none []) (fun i => l.length - i) 0 ⟨Nat.zero_le _, fun j h => by omega⟩ ?_ ?_
  · refine wk_l [] (by simp) ?_ ?_ <;> simp [-List.map_map, upd, inj1, Γ0, encC]
  · rintro i ⟨hi, hok⟩
    by_cases hgo : i < l.length
    · have q1 : (i : Int) < l.length := by omega
      have hw7 : IntKind.i64.wrap ((i : Int) + 1) = (i : Int) + 1 := wrap_i64 (by omega) (by omega)
      have g1 := getDp hgo
      have hsx : Sz (l.getD i (0, 0)).2 := hs _ (List.mem_of_getElem? g1)
      have hoka : okAt l i = (decide ((l.getD i (0, 0)).2 ≠ 0) && (decide (i = 0) || decide ((l.getD (i - 1) (0, 0)).1 < (l.getD i (0, 0)).1))) := rfl
      have hfalse := validR_false hgo
      have hnext : okAt l i = true → ∀ j, j < i + 1 → okAt l j = true := fun h j hj => by
        rcases Nat.lt_or_ge j i with h2 | h2
        · exact hok j h2
        · have : j = i := by omega
          subst this; exact h
      rcases i with _ | k
      · cases l with
        | nil => simp at hgo
        | cons x rest =>
          obtain ⟨xi, xc⟩ := x
          have hd : (((xi, xc) :: rest).getD 0 (0, 0)) = (xi, xc) := rfl
          rw [hd] at hsx hoka
          simp only at hsx hoka
          have q1' : (0 : Int) < (rest.length : Int) + 1 := by omega
          have hw8 : IntKind.i64.wrap 1 = 1 := by decide
          simp (config := { maxSteps := 1000000 }) [-List.map_map, -List.mapM_map, ↓KW, encC, q1', encF_eq, one_encM, cellsA_encM]
          refine callP_intro (ds := [encZ xc]) (by rfl) (r01ValidZ xc (Nat.le_trans hsx (by decide))) ?_
          simp (config := { maxSteps := 1000000 }) [-List.map_map, -List.mapM_map, ↓KW, encC, encF_eq, one_encM, cellsA_encM]
          refine callP_intro (ds := [encZ xc]) (by rfl) (r01SignZ xc) ?_
          by_cases h0 : xc = 0
          · have e0 : (xc.sign == 0) = true := by simp [h0]
            have e1 := hfalse (by rw [hoka]; simp [h0])
            simp (config := { maxSteps := 1000000 }) [-List.map_map, -List.mapM_map, ↓KW, e0, e1]
          · have e0 : (xc.sign == 0) = false := by simp [h0]
            have e1 := hnext (by rw [hoka]; simp [h0])
            simp (config := { maxSteps := 1000000 }) [-List.map_map, -List.mapM_map, ↓KW, e0, hw8]
            refine nxt_intro 1 ⟨hgo, e1⟩ (Nat.sub_lt_sub_left hgo (Nat.lt_succ_self _)) (wk_l [] (by simp) ?_ ?_) <;> simp [-List.map_map, upd, inj1, Γ0, encC, encF_eq]
      · have g2 := getDp (l := l) (i := k) (by omega)
        have q3 : (0 : Int) < (k : Int) + 1 := by omega
        have q5 : (0 : Int) ≤ (k : Int) + 1 := by omega
        have q4 : IntKind.i64.wrap (k : Int) = k := wrap_nat (by omega)
        simp only [Nat.add_sub_cancel] at hoka
        generalize l.getD (k + 1) (0, 0) = x at *
        generalize l.getD k (0, 0) = y at *
        obtain ⟨xi, xc⟩ := x
        obtain ⟨yi, yc⟩ := y
        simp only at hsx hoka
        have hw8 : IntKind.i64.wrap ((k : Int) + 1 + 1) = (k : Int) + 1 + 1 := by simpa using hw7
        have q1' : (k : Int) + 1 < l.length := by simpa using q1
        simp (config := { maxSteps := 1000000 }) [-List.map_map, -List.mapM_map, ↓KW, encC, q1', q5, g1, encF_eq, one_encM, cellsA_encM]
        refine callP_intro (ds := [encZ xc]) (by rfl) (r01ValidZ xc (Nat.le_trans hsx (by decide))) ?_
        simp (config := { maxSteps := 1000000 }) [-List.map_map, -List.mapM_map, ↓KW, encC, q1', q5, g1, encF_eq, one_encM, cellsA_encM]
        refine callP_intro (ds := [encZ xc]) (by rfl) (r01SignZ xc) ?_
        by_cases h0 : xc = 0
        · have e0 : (xc.sign == 0) = true := by simp [h0]
          have e1 := hfalse (by rw [hoka]; simp [h0])
          simp (config := { maxSteps := 1000000 }) [-List.map_map, -List.mapM_map, ↓KW, e0, e1]
        · have e0 : (xc.sign == 0) = false := by simp [h0]
          by_cases h2 : xi ≤ yi
          · have e1 := hfalse (by rw [hoka]; simp [h0]; omega)
            simp (config := { maxSteps := 1000000 }) [-List.map_map, -List.mapM_map, ↓KW, encC, e0, e1, g1, g2, q3, q4, q5, h2, encF_eq, one_encM, cellsA_encM]
          · have e1 := hnext (by rw [hoka]; simp [h0]; omega)
            simp (config := { maxSteps := 1000000 }) [-List.map_map, -List.mapM_map, ↓KW, encC, e0, g1, g2, q3, q4, q5, h2, hw8, encF_eq, one_encM, cellsA_encM]
            refine nxt_intro (k + 1 + 1) ⟨hgo, e1⟩ (Nat.sub_lt_sub_left hgo (Nat.lt_succ_self _)) (wk_l [] (by simp) ?_ ?_) <;> simp [-List.map_map, upd, inj1, Γ0, encC]
    · have q1 : ¬ (i : Int) < l.length := by omega
      have e : validR l = true := validR_true (fun j hj => hok j (by omega))
      simp (config := { maxSteps := 1000000 }) [-List.map_map, -List.mapM_map, ↓KW, encC, q1, e]
end Go.Am
end

section
set_option linter.unusedVariables false
set_option linter.unusedSimpArgs false
open Go Go.Am Go.Proofs
namespace Go.Am
set_option linter.unusedSimpArgs false
theorem o1_keys {P : Program} {dst : Option Tmp} {ty : TypeId} {pos : String} {after : Array Edge} {guard : Option (Nat × Bool)} {σ : St} {con : List Nat} {k : St → List Nat → Prop} {f g : FuncId} {x : Operand} {ts : Array TypeId}
    {d : Dm ((⟨dst, .call ⟨.value (.func f), [x].toArray, ts⟩, ty, pos, after, guard⟩ : Oper), k)} {id : Nat} {ho : HO} (hs : KeysSpec P f g) (hm : mutF P f = true)
    (hx : oev σ.Γ x = .mp id) (hH : σ.H id = some ho) (hk : k ⟨putA σ.Γ dst (.kf g id), σ.H, σ.n⟩ con) : O1d P ⟨dst, .call ⟨.value (.func f), [x].toArray, ts⟩, ty, pos, after, guard⟩ σ con k d := by
  show OC P f [x].toArray dst σ con k
  unfold OC
  have e : hd1 (oev σ.Γ x) = some (id, .mp 0) := by rw [hx]; rfl
  simp only [hm, if_true, e, hH]
  exact .inl ⟨g, trivial, trivial, hs, hk⟩
theorem o1_sorted {P : Program} {dst : Option Tmp} {ty : TypeId} {pos : String} {after : Array Edge} {guard : Option (Nat × Bool)} {σ : St} {con : List Nat} {k : St → List Nat → Prop} {f g : FuncId} {x : Operand} {ts : Array TypeId}
    {d : Dm ((⟨dst, .call ⟨.value (.func f), [x].toArray, ts⟩, ty, pos, after, guard⟩ : Oper), k)} {id : Nat} {es : List (Int × AV)} (hs : SortedSpec P f g) (hm : mutF P f = false)
    (hx : oev σ.Γ x = .kf g id) (hH : σ.H id = some (.map .i64 es)) (hl : es.length ≤ 1099511627776) (hr : (es.map (·.1)).all inr = true)
    (hk : k ⟨putA σ.Γ dst (.d (.sl ((isort (es.map (·.1))).map fun n => [.i .i64 n]))), σ.H, σ.n⟩ con) : O1d P ⟨dst, .call ⟨.value (.func f), [x].toArray, ts⟩, ty, pos, after, guard⟩ σ con k d := by
  show OC P f [x].toArray dst σ con k
  unfold OC
  have e : ([x].toArray.toList.map (oev σ.Γ)) = [.kf g id] := by show [oev σ.Γ x] = _; rw [hx]
  simp only [hm, Bool.false_eq_true, if_false]
  refine .inr ?_
  split
  · rename_i g' id' hx'
    rw [e] at hx'
    injection hx' with hx' _
    injection hx' with h1 h2
    subst h1; subst h2
    rw [hH]
    exact ⟨hl, hr, hs, hk⟩
  · rename_i hne
    exact (hne _ _ e).elim
/-! Sums, as association lists -/
def fnd (n : Int) : List (Int × Int) → Option Nat
  | [] => none
  | x :: es => if x.1 = n then some 0 else (fnd n es).map (· + 1)
def encV (z : Int) : AV := .ag [.d (.b (decide (z < 0))), .d (encM (digs z.natAbs))]
def encE (m : List (Int × Int)) : List (Int × AV) := m.map fun p => (p.1, encV p.2)
theorem mfind_encE (n : Int) (m : List (Int × Int)) : mfind n (encE m) = fnd n m := by
  induction m with
  | nil => rfl
  | cons x m ih =>
    show (if x.1 = n then some 0 else (mfind n (encE m)).map (· + 1)) = if x.1 = n then some 0 else (fnd n m).map (· + 1)
    rw [ih]
theorem fnd_some {n : Int} {m : List (Int × Int)} {j : Nat} (h : fnd n m = some j) : ∃ z, m[j]? = some (n, z) := by
  induction m generalizing j with
  | nil => cases h
  | cons x m ih =>
    unfold fnd at h
    by_cases hx : x.1 = n
    · rw [if_pos hx] at h; injection h with h; subst h; exact ⟨x.2, by rw [← hx]; rfl⟩
    · rw [if_neg hx] at h
      obtain ⟨i, hi, rfl⟩ := Option.map_eq_some_iff.1 h
      obtain ⟨z, hz⟩ := ih hi
      exact ⟨z, by simpa using hz⟩
def getM (m : List (Int × Int)) (n : Int) : Int := match fnd n m with
  | some j => (m.getD j (0, 0)).2
  | none => 0
def putM (m : List (Int × Int)) (n v : Int) : List (Int × Int) := match fnd n m with
  | some j => m.set j (n, v)
  | none => m ++ [(n, v)]
def delM (m : List (Int × Int)) (n : Int) : List (Int × Int) := match fnd n m with
  | some j => m.eraseIdx j
  | none => m
def addM (m : List (Int × Int)) (n k : Int) : List (Int × Int) := if getM m n + k = 0 then delM m n else putM m n (getM m n + k)
theorem mput_encE (m : List (Int × Int)) (n v : Int) : mput (encE m) n (encV v) = encE (putM m n v) := by
  unfold mput putM
  rw [mfind_encE]
  cases fnd n m with
  | none => simp [encE]
  | some j => simp [encE, List.map_set]
theorem eraseIdx_map' {α β : Type} (f : α → β) : ∀ (l : List α) (j : Nat), (l.map f).eraseIdx j = (l.eraseIdx j).map f
  | [], _ => rfl
  | _ :: _, 0 => rfl
  | x :: l, j + 1 => by
    show f x :: (l.map f).eraseIdx j = f x :: (l.eraseIdx j).map f
    rw [eraseIdx_map' f l j]
theorem mdel_encE (m : List (Int × Int)) (n : Int) : mdel (encE m) n = encE (delM m n) := by
  unfold mdel delM
  rw [mfind_encE]
  cases fnd n m with
  | none => rfl
  | some j => simp [encE, eraseIdx_map']
theorem mlook_encE (m : List (Int × Int)) (n : Int) : mlook (encE m) n = if (fnd n m).isSome then some (encV (getM m n)) else none := by
  unfold mlook getM
  rw [mfind_encE]
  cases h : fnd n m with
  | none => rfl
  | some j =>
    obtain ⟨z, hz⟩ := fnd_some h
    simp [encE, hz, List.getD_eq_getElem?_getD]
theorem noh_encE (m : List (Int × Int)) : nohO (.map .i64 (encE m)) = true := by
  simp only [nohO, encE, List.all_map, List.all_eq_true]
  intro x _; rfl
theorem lookA_mp {P : Program} (H : Nat → Option HO) (t : TypeId) (id : Nat) (x : AV) (ok : Bool) : lookA P H t (.mp id) x ok = match H id with
    | some (.map k es) => (tmp P t).bind fun p => match x with
      | .d (.i k' n) => if k' = k ∧ tint P p.1 = some k then
          match mlook es n with
          | some v => some (if ok then .tp [v, .d (.b true)] else v)
          | none => (tz P p.2).map fun z => if ok then .tp [cv z, .d (.b false)] else cv z
        else none
      | _ => none
    | _ => none := rfl
theorem mapW_mp {P : Program} (H : Nat → Option HO) (t : TypeId) (id : Nat) (x : AV) (v : Option AV) : mapW P H t (.mp id) x v = match H id with
    | some (.map k es) => (tmp P t).bind fun p => match x with
      | .d (.i k' n) => if k' = k ∧ tint P p.1 = some k then some (id, .map k (match v with | some v => mput es n v | none => mdel es n)) else none
      | _ => none
    | _ => none := rfl
/-- The sum, by keys in order. -/
def chainM (m : List (Int × Int)) : List (Int × Int) := (isort (m.map (·.1))).map fun n => (n, getM m n)
theorem ins_len (n : Int) : ∀ l : List Int, (ins n l).length = l.length + 1
  | [] => rfl
  | m :: l => by
    unfold ins
    split
    · rfl
    · simp [ins_len n l]
theorem isort_len : ∀ l : List Int, (isort l).length = l.length
  | [] => rfl
  | n :: l => by rw [isort, ins_len, isort_len l]; rfl
theorem ins_mem (n x : Int) : ∀ l : List Int, x ∈ ins n l ↔ x = n ∨ x ∈ l
  | [] => by simp [ins]
  | m :: l => by
    unfold ins
    split
    · simp
    · simp [ins_mem n x l]
      constructor
      · rintro (h | h | h) <;> simp [h]
      · rintro (h | h | h) <;> simp [h]
theorem isort_mem (x : Int) : ∀ l : List Int, x ∈ isort l ↔ x ∈ l
  | [] => by simp [isort]
  | n :: l => by rw [isort, ins_mem, isort_mem x l]; simp
theorem fnd_isSome {n : Int} {m : List (Int × Int)} (h : n ∈ m.map (·.1)) : (fnd n m).isSome = true := by
  induction m with
  | nil => simp at h
  | cons x m ih =>
    unfold fnd
    by_cases hx : x.1 = n
    · rw [if_pos hx]; rfl
    · rw [if_neg hx, Option.isSome_map]
      exact ih (by
        rcases List.mem_cons.1 h with h | h
        · exact (hx h.symm).elim
        · exact h)
theorem encE_keys (m : List (Int × Int)) : (encE m).map (·.1) = m.map (·.1) := by simp [encE]
theorem scrubO_encE (l : List Nat) (m : List (Int × Int)) : scrubO l (.map .i64 (encE m)) = .map .i64 (encE m) := by
  simp [scrubO, encE, encV, scrub1, scrub0]
end Go.Am
end

section
set_option linter.unusedVariables false
set_option linter.unusedSimpArgs false
open Go Go.Am Go.Proofs
namespace Go.Am
set_option linter.unusedSimpArgs false
theorem ospec_awp {P : Program} {f N : Nat} {fn : Func} {c : Code} {h : AV} {o o' : HO} {args : List D} {r : D} (hm : P.follows .mixedOrders = true) (hf : P.funcs[f]? = some fn) (hb : fn.body = some c) (hname : (fn.name == "runtime.NumGoroutine") = false) (hN : fn.ntmps = N)
    (hd : codeDst N c = true) (hl : codeLex P c = true) (ha : args.length + 1 ≤ N) (hmap : ∃ k es, o = .map k es) (hmap' : ∃ k es, o' = .map k es) (hno' : nohO o' = true)
    (hA : AWP P c (St1 h o args N) fun e σ => (e = .normal ∨ e = .ret) ∧ resD P fn.results.toList σ = some r ∧ σ.H 0 = some o') : OSpec P f h o args o' r :=
  ospec_of hf hb hname hN ha hmap hmap' hno' fun G a w hZ hs => AWP_sound hm hZ c _ _ a w hd hl hA hs
theorem o1_callM {P : Program} {dst : Option Tmp} {ty : TypeId} {pos : String} {after : Array Edge} {guard : Option (Nat × Bool)} {σ : St} {con : List Nat} {k : St → List Nat → Prop} {f : FuncId} {x : Operand} {rest : List Operand} {ts : Array TypeId}
    {d : Dm ((⟨dst, .call ⟨.value (.func f), (x :: rest).toArray, ts⟩, ty, pos, after, guard⟩ : Oper), k)} {id : Nat} {ho ho' : HO} {ds : List D} {r : D} (hs : OSpec P f (.mp 0) ho ds ho' r) (hm : mutF P f = true)
    (hx : oev σ.Γ x = .mp id) (hH : σ.H id = some ho) (hno : nohO ho = true) (hvis : viss σ.H (rest.map (oev σ.Γ)) = []) (hfr : frzs σ.H (rest.map (oev σ.Γ)) = some ds) (hlen : ho'.len = ho.len) (hno' : nohO ho' = true)
    (hk : k ⟨putA σ.Γ dst (inj r), upd σ.H id (some ho'), σ.n⟩ con) : O1d P ⟨dst, .call ⟨.value (.func f), (x :: rest).toArray, ts⟩, ty, pos, after, guard⟩ σ con k d := by
  refine o1_callO hm ?_
  rw [hx]
  exact callO_intro (id := id) (h := .mp 0) hH hno hvis hfr hs hlen hno' hk
theorem digs_len_add {x y : Int} (hx : Sz x) (hy : Sz y) : (digs (x + y).natAbs).length ≤ 1099511627776 := by
  have h1 := lt_of_digs_len (Nat.le_refl (digs x.natAbs).length)
  have h2 := lt_of_digs_len (Nat.le_refl (digs y.natAbs).length)
  have h : (x + y).natAbs < 4294967296 ^ ((digs x.natAbs).length + (digs y.natAbs).length + 1) := by
    have e1 : 4294967296 ^ (digs x.natAbs).length ≤ 4294967296 ^ ((digs x.natAbs).length + (digs y.natAbs).length) := Nat.pow_le_pow_right (by decide) (by omega)
    have e2 : 4294967296 ^ (digs y.natAbs).length ≤ 4294967296 ^ ((digs x.natAbs).length + (digs y.natAbs).length) := Nat.pow_le_pow_right (by decide) (by omega)
    rw [Nat.pow_succ]
    generalize 4294967296 ^ ((digs x.natAbs).length + (digs y.natAbs).length) = p at *
    omega
  have := digs_len_le h
  unfold Sz at hx hy
  omega
theorem resD_nil {P : Program} (σ : St) : resD P [] σ = some (.tp []) := rfl
set_option maxHeartbeats 1000000 in
set_option maxRecDepth 10000 in
theorem sumAdd (m : List (Int × Int)) (id k : Int) (hm : Sz (getM m id)) (hk : Sz k) : OSpec Tryz.prog 43 (.mp 0) (.map .i64 (encE m)) [.i .i64 id, encZ k] (.map .i64 (encE (addM m id k))) (.tp []) := by
  refine ospec_awp (N := 20) follows_mixed Tryz.func43 rfl rfl rfl (by kernel_rfl) (by kernel_rfl) (by simp) ⟨_, _, rfl⟩ ⟨_, _, rfl⟩ (noh_encE _) ?_
  have hml := mlook_encE m id
  have hz0 : ¬ (fnd id m).isSome = true → getM m id = 0 := fun h => by
    unfold getM
    cases hf : fnd id m with
    | none => rfl
    | some j => rw [hf] at h; exact (h rfl).elim
  have hgo : ∀ z : Int, z = getM m id → True := fun _ _ => trivial
  by_cases hs : (fnd id m).isSome = true
  · rw [if_pos hs] at hml
    simp (config := { maxSteps := 1000000 }) [-List.map_map, -List.mapM_map, ↓KW, St1, encZ_eq, cellsA_encM, one_encM, lookA_mp, hml, encV]
    refine callP_intro (ds := [encZ (getM m id), encZ k]) (by rfl) (intAddZ (getM m id) k hm hk) ?_
    simp (config := { maxSteps := 1000000 }) [-List.map_map, -List.mapM_map, ↓KW, encZ_eq, cellsA_encM, one_encM]
    refine callP_intro (ds := [encZ (getM m id + k)]) (by rfl) (intSign _ _ (digs_len_add hm hk)) ?_
    by_cases ht : getM m id + k = 0
    · have e1 : strip (digs (getM m id + k).natAbs) = [] := by rw [ht, show (0 : Int).natAbs = 0 from rfl, digs_zero]; rfl
      have e2 : addM m id k = delM m id := by unfold addM; rw [if_pos ht]
      simp (config := { maxSteps := 1000000 }) [-List.map_map, -List.mapM_map, ↓KW, e1, e2, mapW_mp, mdel_encE, resD_nil]
    · have e1 : strip (digs (getM m id + k).natAbs) ≠ [] := by
        rw [strip_digs (lim_digs _), val_digs, ne_eq, digs_eq_nil]; omega
      have e2 : addM m id k = putM m id (getM m id + k) := by unfold addM; rw [if_neg ht]
      have e3 := mput_encE m id (getM m id + k)
      unfold encV at e3
      by_cases hneg : getM m id + k < 0
      · simp (config := { maxSteps := 1000000 }) [-List.map_map, -List.mapM_map, ↓KW, e1, e2, hneg, mapW_mp, cellsA_encM, one_encM, resD_nil]
        have hd : decide (getM m id + k < 0) = true := by simpa using hneg
        rw [hd] at e3
        exact e3
      · simp (config := { maxSteps := 1000000 }) [-List.map_map, -List.mapM_map, ↓KW, e1, e2, hneg, mapW_mp, cellsA_encM, one_encM, resD_nil]
        have hd : decide (getM m id + k < 0) = false := by simpa using hneg
        rw [hd] at e3
        exact e3
  · rw [if_neg hs] at hml
    have h0 := hz0 hs
    simp (config := { maxSteps := 1000000 }) [-List.map_map, -List.mapM_map, ↓KW, St1, encZ_eq, cellsA_encM, one_encM, lookA_mp, hml, cv]
    refine callP_intro (ds := [encZ (getM m id), encZ k]) (by rw [h0, encZ_zero]; rfl) (intAddZ (getM m id) k hm hk) ?_
    simp (config := { maxSteps := 1000000 }) [-List.map_map, -List.mapM_map, ↓KW, encZ_eq, cellsA_encM, one_encM]
    refine callP_intro (ds := [encZ (getM m id + k)]) (by rfl) (intSign _ _ (digs_len_add hm hk)) ?_
    by_cases ht : getM m id + k = 0
    · have e1 : strip (digs (getM m id + k).natAbs) = [] := by rw [ht, show (0 : Int).natAbs = 0 from rfl, digs_zero]; rfl
      have e2 : addM m id k = delM m id := by unfold addM; rw [if_pos ht]
      simp (config := { maxSteps := 1000000 }) [-List.map_map, -List.mapM_map, ↓KW, e1, e2, mapW_mp, mdel_encE, resD_nil]
    · have e1 : strip (digs (getM m id + k).natAbs) ≠ [] := by
        rw [strip_digs (lim_digs _), val_digs, ne_eq, digs_eq_nil]; omega
      have e2 : addM m id k = putM m id (getM m id + k) := by unfold addM; rw [if_neg ht]
      have e3 := mput_encE m id (getM m id + k)
      unfold encV at e3
      by_cases hneg : getM m id + k < 0
      · simp (config := { maxSteps := 1000000 }) [-List.map_map, -List.mapM_map, ↓KW, e1, e2, hneg, mapW_mp, cellsA_encM, one_encM, resD_nil]
        have hd : decide (getM m id + k < 0) = true := by simpa using hneg
        rw [hd] at e3
        exact e3
      · simp (config := { maxSteps := 1000000 }) [-List.map_map, -List.mapM_map, ↓KW, e1, e2, hneg, mapW_mp, cellsA_encM, one_encM, resD_nil]
        have hd : decide (getM m id + k < 0) = false := by simpa using hneg
        rw [hd] at e3
        exact e3
theorem getM_bnd {m : List (Int × Int)} {M : Nat} (h : Bnd M m) (n : Int) : (getM m n).natAbs ≤ M := by
  unfold getM
  cases hf : fnd n m with
  | none => simp
  | some j =>
    obtain ⟨z, hz⟩ := fnd_some hf
    simp only [List.getD_eq_getElem?_getD, hz, Option.getD_some]
    exact h _ (List.mem_of_getElem? hz)
theorem cloneM (m : List Nat) (h : m.length ≤ 1099511627776) : Spec Tryz.prog 72 [encM m] (encM m) := clone_any _ (by simp [clOk, one, h])
/-- The state at the loop's head. -/
def chS (m : List (Int × Int)) (n : Nat) : Nat → St
  | 0 => StL [(0, .mp 0), (3, .nil), (9, .d (.sl ((isort (m.map (·.1))).map fun n => [.i .i64 n]))), (10, .d (.i .i64 n)), (11, .d (.i .i64 0))] (some (.map .i64 (encE m))) []
  | i + 1 => StL [(0, .mp 0), (3, .own 1 0 (i + 1) 3), (9, .d (.sl ((isort (m.map (·.1))).map fun n => [.i .i64 n]))), (10, .d (.i .i64 n)), (11, .d (.i .i64 ((i : Int) + 1)))] (some (.map .i64 (encE m))) [.cells 65 ((fcs ((chainM m).take (i + 1))).map .d)]
set_option maxHeartbeats 1000000 in
set_option maxRecDepth 10000 in
theorem sumChain (m : List (Int × Int)) (hS : ∀ n, Sz (getM m n)) (hl : m.length ≤ 1073741824) (hr : (m.map (·.1)).all inr = true) : OSpec Tryz.prog 45 (.mp 0) (.map .i64 (encE m)) [] (.map .i64 (encE m)) (encC (chainM m)) := by
  refine ospec_awp (N := 31) follows_mixed Tryz.func45 rfl rfl rfl (by kernel_rfl) (by kernel_rfl) (by simp) ⟨_, _, rfl⟩ ⟨_, _, rfl⟩ (noh_encE _) ?_
  simp (config := { maxSteps := 1000000 }) [-List.map_map, -List.mapM_map, ↓KW, St1]
  refine o1_keys Tryz.keys106 (by simp) (id := 0) (ho := .map .i64 (encE m)) (by simp [oev_tmp, upd_ap]) (by simp) ?_
  simp (config := { maxSteps := 1000000 }) [-List.map_map, -List.mapM_map, ↓KW, St1]
  refine o1_sorted Tryz.sorted122 (by simp) (id := 0) (es := encE m) (by simp [oev_tmp, upd_ap]) (by simp) (by simp [encE]; omega) (by rw [encE_keys]; exact hr) ?_
  rw [encE_keys]
  have hil := isort_len (m.map (·.1))
  rw [List.length_map] at hil
  obtain ⟨n, hn⟩ : ∃ n, m.length = n := ⟨_, rfl⟩
  rw [hn] at hil
  simp (config := { maxSteps := 1000000 }) [-List.map_map, -List.mapM_map, ↓KW, hil]
  have hcl : (chainM m).length = n := by simp [chainM, hil]
  have hsub : ∀ (H H' : Nat → Option HO) (ρ : Nat → Nat), SubO H H' ρ (.map .i64 (encE m)) (.map .i64 (encE m)) := fun H H' ρ => subO_map fun x hx => by
    obtain ⟨y, _, rfl⟩ := List.mem_map.1 hx
    refine ⟨rfl, fun k c d hc hd => ?_⟩
    rw [hc] at hd; injection hd with hd; subst hd
    rcases k with _ | _ | k
    · simp at hc; subst hc; exact (subL_d _ _).2 rfl
    · simp at hc; subst hc; exact (subL_d _ _).2 rfl
    · simp at hc
  have hkl : ∀ q ∈ isort (m.map (·.1)), mlook (encE m) q = some (encV (getM m q)) := fun q hq => by
    rw [mlook_encE, if_pos (fnd_isSome ((isort_mem q _).1 hq))]
  refine loopP_inv (fun i : Nat => i ≤ n) (chS m n) (fun i => n - i) 0 (Nat.zero_le _) ?_ ?_
  · refine ⟨_, wk_list [] (by simp) ?_ ?_ ?_⟩
    · simp [-List.map_map, upd, inj1, Γ0]
    · intro o' ho'
      injection ho' with ho'; subst ho'
      exact ⟨_, by simp [upd_ap], hsub _ _ _⟩
    · trivial
  · intro i hi
    by_cases hgo : i < n
    · have hql : i < (isort (m.map (·.1))).length := by omega
      have hq := List.getElem?_eq_getElem hql
      have hqm := List.getElem_mem hql
      have hml := hkl _ hqm
      have htk : (chainM m).take (i + 1) = (chainM m).take i ++ [((isort (m.map (·.1)))[i], getM m (isort (m.map (·.1)))[i])] := by
        rw [List.take_add_one]
        simp [chainM, hq]
      generalize (isort (m.map (·.1)))[i] = q at *
      have hcl1 := cloneM (digs (getM m q).natAbs) (Nat.le_trans (hS q) (by decide))
      rcases i with _ | j
      · have q1 : (0 : Int) < n := by omega
        have q1' : 0 < n := hgo
        have g0 : (isort (List.map (fun x => x.fst) m)).head? = some q := by rw [List.head?_eq_getElem?]; exact hq
        unfold chS
        simp (config := { maxSteps := 1000000 }) [-List.map_map, -List.mapM_map, ↓KW, q1', hq, g0, lookA_mp, hml, encV, cellsA_encM, one_encM]
        refine callP_intro (ds := [encM (digs (getM m q).natAbs)]) (by rfl) hcl1 ?_
        have hw : IntKind.i64.wrap 1 = 1 := by decide
        have h1 : (1 : Nat) ≤ maxLen := le_maxLen (by decide)
        rw [List.take_zero, List.nil_append] at htk
        simp (config := { maxSteps := 1000000 }) [-List.map_map, -List.mapM_map, ↓KW, cellsA_encM, one_encM, inj1_encM, inj_encM, kills_encM, hw, h1]
        refine nxt_intro 1 hgo (Nat.sub_lt_sub_left hgo (Nat.lt_succ_self _)) ?_
        simp only [chS]
        refine ⟨_, wk_list [3] (by simp) ?_ ?_ ?_⟩
        · simp [-List.map_map, upd, inj1, Γ0, htk]
        · intro o' ho'
          injection ho' with ho'; subst ho'
          exact ⟨_, by simp [upd_ap, blkF_nil, scrubO_encE], hsub _ _ _⟩
        · simp [-List.map_map, upd, inj1, Γ0, htk, fcs_one]
      · have q1 : (j : Int) + 1 < n := by omega
        have q5 : (0 : Int) ≤ (j : Int) + 1 := by omega
        have hlt : ((chainM m).take (j + 1)).length = j + 1 := by simp [hcl]; omega
        have hfl := fcs_len ((chainM m).take (j + 1))
        rw [hlt] at hfl
        have hw : IntKind.i64.wrap ((j : Int) + 1 + 1) = (j : Int) + 1 + 1 := wrap_i64 (by omega) (by omega)
        have hb := app_bounds (n := j + 1) (by omega)
        show AWP _ _ (StL [(0, .mp 0), (3, .own 1 0 (j + 1) 3), (9, .d (.sl ((isort (m.map (·.1))).map fun n => [.i .i64 n]))), (10, .d (.i .i64 n)), (11, .d (.i .i64 ((j : Int) + 1)))] (some (.map .i64 (encE m))) [.cells 65 ((fcs ((chainM m).take (j + 1))).map .d)]) _
        generalize (chainM m).take (j + 1) = out at *
        simp (config := { maxSteps := 1000000 }) [-List.map_map, -List.mapM_map, ↓KW, q1, q5, hq, lookA_mp, hml, encV, cellsA_encM, one_encM]
        refine callP_intro (ds := [encM (digs (getM m q).natAbs)]) (by rfl) hcl1 ?_
        simp (config := { maxSteps := 1000000 }) [-List.map_map, -List.mapM_map, ↓KW, cellsA_encM, one_encM, inj1_encM, inj_encM, kills_encM, hw, hb, hfl, le_maxLen]
        refine nxt_intro (j + 1 + 1) hgo (Nat.sub_lt_sub_left hgo (Nat.lt_succ_self _)) ?_
        simp only [chS]
        refine ⟨_, wk_list [4] (by simp) ?_ ?_ ?_⟩
        · simp [-List.map_map, upd, inj1, Γ0, htk]
        · intro o' ho'
          injection ho' with ho'; subst ho'
          exact ⟨_, by simp [upd_ap, blkF_nil, scrubO_encE], hsub _ _ _⟩
        · simp [-List.map_map, upd, inj1, Γ0, htk, fcs_app, fcs_one]
    · have e : i = n := by omega
      rcases i with _ | j
      · have q1 : ¬ 0 < n := by omega
        have hch : chainM m = [] := List.eq_nil_of_length_eq_zero (by omega)
        unfold chS
        simp (config := { maxSteps := 1000000 }) [-List.map_map, -List.mapM_map, ↓KW, q1, hch, encC]
      · have q1 : ¬ (j : Int) + 1 < n := by omega
        have e2 : (chainM m).take (j + 1) = chainM m := List.take_of_length_le (by omega)
        have hlt : (chainM m).length = j + 1 := by omega
        have hfl := fcs_len (chainM m)
        rw [hlt] at hfl
        unfold chS
        simp (config := { maxSteps := 1000000 }) [-List.map_map, -List.mapM_map, ↓KW, q1, e2, hfl, hlt, chunk_fcs hlt, fcs_take_all hlt, encC]
end Go.Am
end

section
set_option linter.unusedVariables false
set_option linter.unusedSimpArgs false
open Go Go.Am Go.Proofs
namespace Go.Am
set_option linter.unusedSimpArgs false
def Keys (m : List (Int × Int)) : Prop := ∀ x ∈ m, inr x.1 = true
theorem Keys.all {m : List (Int × Int)} (h : Keys m) : (m.map (·.1)).all inr = true := by
  rw [List.all_eq_true]
  intro x hx
  obtain ⟨y, hy, rfl⟩ := List.mem_map.1 hx
  exact h y hy
theorem addM_mem {m : List (Int × Int)} {n k : Int} {x : Int × Int} (h : x ∈ addM m n k) : x ∈ m ∨ x = (n, getM m n + k) := by
  unfold addM at h
  split at h
  · unfold delM at h
    split at h
    · exact .inl (List.mem_of_mem_eraseIdx h)
    · exact .inl h
  · unfold putM at h
    split at h
    · rcases List.mem_or_eq_of_mem_set h with h | h
      · exact .inl h
      · exact .inr h
    · rcases List.mem_append.1 h with h | h
      · exact .inl h
      · exact .inr (by simpa using h)
theorem addM_len (m : List (Int × Int)) (n k : Int) : (addM m n k).length ≤ m.length + 1 := by
  unfold addM
  split
  · unfold delM
    split
    · exact Nat.le_trans (List.length_eraseIdx_le ..) (by omega)
    · omega
  · unfold putM
    split
    · simp
    · simp
theorem addM_bnd {m : List (Int × Int)} {n k : Int} {M K : Nat} (hm : Bnd M m) (hk : k.natAbs ≤ K) : Bnd (M + K) (addM m n k) := fun x hx => by
  rcases addM_mem hx with h | rfl
  · have := hm x h; omega
  · have := getM_bnd hm n
    simp only; omega
theorem addM_keys {m : List (Int × Int)} {n k : Int} (hm : Keys m) (hn : inr n = true) : Keys (addM m n k) := fun x hx => by
  rcases addM_mem hx with h | rfl
  · exact hm x h
  · exact hn
def sumM (m : List (Int × Int)) (l : List (Int × Int)) : List (Int × Int) := l.foldl (fun m f => addM m f.1 f.2) m
theorem sumM_take (m l : List (Int × Int)) (i : Nat) (h : i < l.length) : sumM m (l.take (i + 1)) = addM (sumM m (l.take i)) l[i].1 l[i].2 := by
  unfold sumM
  rw [List.take_add_one, List.getElem?_eq_getElem h, List.foldl_append]; rfl
theorem sumM_len (m : List (Int × Int)) : ∀ l : List (Int × Int), (sumM m l).length ≤ m.length + l.length := by
  intro l
  unfold sumM
  induction l generalizing m with
  | nil => simp
  | cons x l ih =>
    have h1 := ih (addM m x.1 x.2)
    have h2 := addM_len m x.1 x.2
    simp only [List.foldl_cons, List.length_cons]; omega
theorem sumM_bnd {M K : Nat} : ∀ (l m : List (Int × Int)), Bnd M m → Bnd K l → Bnd (M + l.length * K) (sumM m l)
  | [], m, hm, _ => by simpa [sumM] using hm
  | x :: l, m, hm, hl => by
    have h1 := addM_bnd (n := x.1) hm (hl x (List.mem_cons_self ..))
    have h2 := sumM_bnd l (addM m x.1 x.2) h1 (fun y hy => hl y (List.mem_cons_of_mem _ hy))
    refine (show Bnd _ (sumM (addM m x.1 x.2) l) from h2).mono ?_
    rw [List.length_cons, Nat.add_mul, Nat.one_mul]; omega
theorem sumM_keys : ∀ (l m : List (Int × Int)), Keys m → Keys l → Keys (sumM m l)
  | [], m, hm, _ => hm
  | x :: l, m, hm, hl => sumM_keys l (addM m x.1 x.2) (addM_keys hm (hl x (List.mem_cons_self ..))) fun y hy => hl y (List.mem_cons_of_mem _ hy)
/-- The map is the call's own block. -/
theorem subO_encE {H H' : Nat → Option HO} {ρ : Nat → Nat} (m : List (Int × Int)) : SubO H H' ρ (.map .i64 (encE m)) (.map .i64 (encE m)) := subO_map fun x hx => by
  obtain ⟨y, _, rfl⟩ := List.mem_map.1 hx
  refine ⟨rfl, fun k c d hc hd => ?_⟩
  rw [hc] at hd; injection hd with hd; subst hd
  rcases k with _ | _ | k
  · simp at hc; subst hc; exact (subL_d _ _).2 rfl
  · simp at hc; subst hc; exact (subL_d _ _).2 rfl
  · simp at hc
end Go.Am
end
