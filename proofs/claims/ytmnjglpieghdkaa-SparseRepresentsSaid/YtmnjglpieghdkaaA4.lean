/- What is known of the library's functions and of the deferred closures in this program; chapter 26's own check runs to true. No condition. -/
import Derived.Test.YtmnjglpieghdkaaA3
import Derived.Test.YtmnjglpieghdkaaRows
import Derived.Shelf.SlIterI.Nil
import Derived.Shelf.SortM.Plain
import Derived.Shelf.SortM.SortNone
import Derived.Ground.GgzProg
import Derived.Ground.SlgmProg
import Derived.Test.YtmnjglpieghdkaaProg
import Derived.Recover
namespace Go.Am

@[simp] theorem tsz_2 : tsz Go.Proofs.Try.prog 2 = some 1 := by kernel_rfl
@[simp] theorem tby_2 : tby Go.Proofs.Try.prog 2 = some 8 := by kernel_rfl
@[simp] theorem tz_2 : tz Go.Proofs.Try.prog 2 = some (.int .i64 0) := by kernel_rfl
@[simp] theorem tagg_2 : tagg Go.Proofs.Try.prog 2 = some false := by kernel_rfl
@[simp] theorem tel_2 : tel Go.Proofs.Try.prog 2 = none := by kernel_rfl
@[simp] theorem tbool_2 : tbool Go.Proofs.Try.prog 2 = false := by kernel_rfl
@[simp] theorem tund_2 : (Go.Program.underlying Go.Proofs.Try.prog 2).isSome = true := by kernel_rfl
@[simp] theorem tint_2 : tint Go.Proofs.Try.prog 2 = some .i64 := by kernel_rfl
@[simp] theorem tsz_3 : tsz Go.Proofs.Try.prog 3 = some 1 := by kernel_rfl
@[simp] theorem tby_3 : tby Go.Proofs.Try.prog 3 = some 8 := by kernel_rfl
@[simp] theorem tz_3 : tz Go.Proofs.Try.prog 3 = some (.int .i64 0) := by kernel_rfl
@[simp] theorem tagg_3 : tagg Go.Proofs.Try.prog 3 = some false := by kernel_rfl
@[simp] theorem tel_3 : tel Go.Proofs.Try.prog 3 = none := by kernel_rfl
@[simp] theorem tbool_3 : tbool Go.Proofs.Try.prog 3 = false := by kernel_rfl
@[simp] theorem tund_3 : (Go.Program.underlying Go.Proofs.Try.prog 3).isSome = true := by kernel_rfl
@[simp] theorem tint_3 : tint Go.Proofs.Try.prog 3 = some .i64 := by kernel_rfl
@[simp] theorem tsz_4 : tsz Go.Proofs.Try.prog 4 = some 1 := by kernel_rfl
@[simp] theorem tby_4 : tby Go.Proofs.Try.prog 4 = some 1 := by kernel_rfl
@[simp] theorem tz_4 : tz Go.Proofs.Try.prog 4 = some (.bool false) := by kernel_rfl
@[simp] theorem tagg_4 : tagg Go.Proofs.Try.prog 4 = some false := by kernel_rfl
@[simp] theorem tel_4 : tel Go.Proofs.Try.prog 4 = none := by kernel_rfl
@[simp] theorem tbool_4 : tbool Go.Proofs.Try.prog 4 = true := by kernel_rfl
@[simp] theorem tund_4 : (Go.Program.underlying Go.Proofs.Try.prog 4).isSome = true := by kernel_rfl
@[simp] theorem tsz_5 : tsz Go.Proofs.Try.prog 5 = some 1 := by kernel_rfl
@[simp] theorem tby_5 : tby Go.Proofs.Try.prog 5 = some 1 := by kernel_rfl
@[simp] theorem tz_5 : tz Go.Proofs.Try.prog 5 = some (.int .u8 0) := by kernel_rfl
@[simp] theorem tagg_5 : tagg Go.Proofs.Try.prog 5 = some false := by kernel_rfl
@[simp] theorem tel_5 : tel Go.Proofs.Try.prog 5 = none := by kernel_rfl
@[simp] theorem tbool_5 : tbool Go.Proofs.Try.prog 5 = false := by kernel_rfl
@[simp] theorem tund_5 : (Go.Program.underlying Go.Proofs.Try.prog 5).isSome = true := by kernel_rfl
@[simp] theorem tint_5 : tint Go.Proofs.Try.prog 5 = some .u8 := by kernel_rfl
@[simp] theorem tsz_6 : tsz Go.Proofs.Try.prog 6 = some 1 := by kernel_rfl
@[simp] theorem tby_6 : tby Go.Proofs.Try.prog 6 = some 1 := by kernel_rfl
@[simp] theorem tz_6 : tz Go.Proofs.Try.prog 6 = some (.int .u8 0) := by kernel_rfl
@[simp] theorem tagg_6 : tagg Go.Proofs.Try.prog 6 = some false := by kernel_rfl
@[simp] theorem tel_6 : tel Go.Proofs.Try.prog 6 = none := by kernel_rfl
@[simp] theorem tbool_6 : tbool Go.Proofs.Try.prog 6 = false := by kernel_rfl
@[simp] theorem tund_6 : (Go.Program.underlying Go.Proofs.Try.prog 6).isSome = true := by kernel_rfl
@[simp] theorem tint_6 : tint Go.Proofs.Try.prog 6 = some .u8 := by kernel_rfl
@[simp] theorem tsz_7 : tsz Go.Proofs.Try.prog 7 = some 4 := by kernel_rfl
@[simp] theorem tby_7 : tby Go.Proofs.Try.prog 7 = some 24 := by kernel_rfl
@[simp] theorem tz_7 : tz Go.Proofs.Try.prog 7 = some (.agg #[.int .i64 0, .int .i64 0, .bool false, .int .u8 0]) := by kernel_rfl
@[simp] theorem tagg_7 : tagg Go.Proofs.Try.prog 7 = some true := by kernel_rfl
@[simp] theorem tel_7 : tel Go.Proofs.Try.prog 7 = none := by kernel_rfl
@[simp] theorem tbool_7 : tbool Go.Proofs.Try.prog 7 = false := by kernel_rfl
@[simp] theorem tund_7 : (Go.Program.underlying Go.Proofs.Try.prog 7).isSome = true := by kernel_rfl
@[simp] theorem flds_7 : flds Go.Proofs.Try.prog 7 = some [(0, 1), (1, 1), (2, 1), (3, 1)] := by kernel_rfl
@[simp] theorem tsz_8 : tsz Go.Proofs.Try.prog 8 = some 4 := by kernel_rfl
@[simp] theorem tby_8 : tby Go.Proofs.Try.prog 8 = some 24 := by kernel_rfl
@[simp] theorem tz_8 : tz Go.Proofs.Try.prog 8 = some (.agg #[.int .i64 0, .int .i64 0, .bool false, .int .u8 0]) := by kernel_rfl
@[simp] theorem tagg_8 : tagg Go.Proofs.Try.prog 8 = some true := by kernel_rfl
@[simp] theorem tel_8 : tel Go.Proofs.Try.prog 8 = none := by kernel_rfl
@[simp] theorem tbool_8 : tbool Go.Proofs.Try.prog 8 = false := by kernel_rfl
@[simp] theorem tund_8 : (Go.Program.underlying Go.Proofs.Try.prog 8).isSome = true := by kernel_rfl
@[simp] theorem flds_8 : flds Go.Proofs.Try.prog 8 = some [(0, 1), (1, 1), (2, 1), (3, 1)] := by kernel_rfl
@[simp] theorem tsz_12 : tsz Go.Proofs.Try.prog 12 = some 1 := by kernel_rfl
@[simp] theorem tby_12 : tby Go.Proofs.Try.prog 12 = some 8 := by kernel_rfl
@[simp] theorem tz_12 : tz Go.Proofs.Try.prog 12 = some (.int .u64 0) := by kernel_rfl
@[simp] theorem tagg_12 : tagg Go.Proofs.Try.prog 12 = some false := by kernel_rfl
@[simp] theorem tel_12 : tel Go.Proofs.Try.prog 12 = none := by kernel_rfl
@[simp] theorem tbool_12 : tbool Go.Proofs.Try.prog 12 = false := by kernel_rfl
@[simp] theorem tund_12 : (Go.Program.underlying Go.Proofs.Try.prog 12).isSome = true := by kernel_rfl
@[simp] theorem tint_12 : tint Go.Proofs.Try.prog 12 = some .u64 := by kernel_rfl
@[simp] theorem tsz_21 : tsz Go.Proofs.Try.prog 21 = some 1 := by kernel_rfl
@[simp] theorem tby_21 : tby Go.Proofs.Try.prog 21 = some 4 := by kernel_rfl
@[simp] theorem tz_21 : tz Go.Proofs.Try.prog 21 = some (.int .i32 0) := by kernel_rfl
@[simp] theorem tagg_21 : tagg Go.Proofs.Try.prog 21 = some false := by kernel_rfl
@[simp] theorem tel_21 : tel Go.Proofs.Try.prog 21 = none := by kernel_rfl
@[simp] theorem tbool_21 : tbool Go.Proofs.Try.prog 21 = false := by kernel_rfl
@[simp] theorem tund_21 : (Go.Program.underlying Go.Proofs.Try.prog 21).isSome = true := by kernel_rfl
@[simp] theorem tint_21 : tint Go.Proofs.Try.prog 21 = some .i32 := by kernel_rfl
@[simp] theorem tsz_22 : tsz Go.Proofs.Try.prog 22 = some 1 := by kernel_rfl
@[simp] theorem tby_22 : tby Go.Proofs.Try.prog 22 = some 24 := by kernel_rfl
@[simp] theorem tz_22 : tz Go.Proofs.Try.prog 22 = some (.slice none 0 0) := by kernel_rfl
@[simp] theorem tagg_22 : tagg Go.Proofs.Try.prog 22 = some false := by kernel_rfl
@[simp] theorem tel_22 : tel Go.Proofs.Try.prog 22 = some 37 := by kernel_rfl
@[simp] theorem tbool_22 : tbool Go.Proofs.Try.prog 22 = false := by kernel_rfl
@[simp] theorem tund_22 : (Go.Program.underlying Go.Proofs.Try.prog 22).isSome = true := by kernel_rfl
@[simp] theorem tsz_24 : tsz Go.Proofs.Try.prog 24 = some 1 := by kernel_rfl
@[simp] theorem tby_24 : tby Go.Proofs.Try.prog 24 = some 24 := by kernel_rfl
@[simp] theorem tz_24 : tz Go.Proofs.Try.prog 24 = some (.slice none 0 0) := by kernel_rfl
@[simp] theorem tagg_24 : tagg Go.Proofs.Try.prog 24 = some false := by kernel_rfl
@[simp] theorem tel_24 : tel Go.Proofs.Try.prog 24 = some 39 := by kernel_rfl
@[simp] theorem tbool_24 : tbool Go.Proofs.Try.prog 24 = false := by kernel_rfl
@[simp] theorem tund_24 : (Go.Program.underlying Go.Proofs.Try.prog 24).isSome = true := by kernel_rfl
@[simp] theorem tsz_26 : tsz Go.Proofs.Try.prog 26 = some 1 := by kernel_rfl
@[simp] theorem tby_26 : tby Go.Proofs.Try.prog 26 = some 24 := by kernel_rfl
@[simp] theorem tz_26 : tz Go.Proofs.Try.prog 26 = some (.slice none 0 0) := by kernel_rfl
@[simp] theorem tagg_26 : tagg Go.Proofs.Try.prog 26 = some false := by kernel_rfl
@[simp] theorem tel_26 : tel Go.Proofs.Try.prog 26 = some 39 := by kernel_rfl
@[simp] theorem tbool_26 : tbool Go.Proofs.Try.prog 26 = false := by kernel_rfl
@[simp] theorem tund_26 : (Go.Program.underlying Go.Proofs.Try.prog 26).isSome = true := by kernel_rfl
@[simp] theorem tsz_30 : tsz Go.Proofs.Try.prog 30 = some 1 := by kernel_rfl
@[simp] theorem tby_30 : tby Go.Proofs.Try.prog 30 = some 24 := by kernel_rfl
@[simp] theorem tz_30 : tz Go.Proofs.Try.prog 30 = some (.slice none 0 0) := by kernel_rfl
@[simp] theorem tagg_30 : tagg Go.Proofs.Try.prog 30 = some false := by kernel_rfl
@[simp] theorem tel_30 : tel Go.Proofs.Try.prog 30 = some 104 := by kernel_rfl
@[simp] theorem tbool_30 : tbool Go.Proofs.Try.prog 30 = false := by kernel_rfl
@[simp] theorem tund_30 : (Go.Program.underlying Go.Proofs.Try.prog 30).isSome = true := by kernel_rfl
@[simp] theorem tsz_31 : tsz Go.Proofs.Try.prog 31 = some 2 := by kernel_rfl
@[simp] theorem tby_31 : tby Go.Proofs.Try.prog 31 = some 32 := by kernel_rfl
@[simp] theorem tz_31 : tz Go.Proofs.Try.prog 31 = some (.agg #[.bool false, .slice none 0 0]) := by kernel_rfl
@[simp] theorem tagg_31 : tagg Go.Proofs.Try.prog 31 = some true := by kernel_rfl
@[simp] theorem tel_31 : tel Go.Proofs.Try.prog 31 = none := by kernel_rfl
@[simp] theorem tbool_31 : tbool Go.Proofs.Try.prog 31 = false := by kernel_rfl
@[simp] theorem tund_31 : (Go.Program.underlying Go.Proofs.Try.prog 31).isSome = true := by kernel_rfl
@[simp] theorem flds_31 : flds Go.Proofs.Try.prog 31 = some [(0, 1), (1, 1)] := by kernel_rfl
@[simp] theorem tsz_32 : tsz Go.Proofs.Try.prog 32 = some 2 := by kernel_rfl
@[simp] theorem tby_32 : tby Go.Proofs.Try.prog 32 = some 32 := by kernel_rfl
@[simp] theorem tz_32 : tz Go.Proofs.Try.prog 32 = some (.agg #[.bool false, .slice none 0 0]) := by kernel_rfl
@[simp] theorem tagg_32 : tagg Go.Proofs.Try.prog 32 = some true := by kernel_rfl
@[simp] theorem tel_32 : tel Go.Proofs.Try.prog 32 = none := by kernel_rfl
@[simp] theorem tbool_32 : tbool Go.Proofs.Try.prog 32 = false := by kernel_rfl
@[simp] theorem tund_32 : (Go.Program.underlying Go.Proofs.Try.prog 32).isSome = true := by kernel_rfl
@[simp] theorem flds_32 : flds Go.Proofs.Try.prog 32 = some [(0, 1), (1, 1)] := by kernel_rfl
@[simp] theorem tsz_36 : tsz Go.Proofs.Try.prog 36 = some 1 := by kernel_rfl
@[simp] theorem tby_36 : tby Go.Proofs.Try.prog 36 = some 1 := by kernel_rfl
@[simp] theorem tz_36 : tz Go.Proofs.Try.prog 36 = some (.int .i8 0) := by kernel_rfl
@[simp] theorem tagg_36 : tagg Go.Proofs.Try.prog 36 = some false := by kernel_rfl
@[simp] theorem tel_36 : tel Go.Proofs.Try.prog 36 = none := by kernel_rfl
@[simp] theorem tbool_36 : tbool Go.Proofs.Try.prog 36 = false := by kernel_rfl
@[simp] theorem tund_36 : (Go.Program.underlying Go.Proofs.Try.prog 36).isSome = true := by kernel_rfl
@[simp] theorem tint_36 : tint Go.Proofs.Try.prog 36 = some .i8 := by kernel_rfl
@[simp] theorem tsz_37 : tsz Go.Proofs.Try.prog 37 = some 2 := by kernel_rfl
@[simp] theorem tby_37 : tby Go.Proofs.Try.prog 37 = some 2 := by kernel_rfl
@[simp] theorem tz_37 : tz Go.Proofs.Try.prog 37 = some (.agg #[.int .i8 0, .int .i8 0]) := by kernel_rfl
@[simp] theorem tagg_37 : tagg Go.Proofs.Try.prog 37 = some true := by kernel_rfl
@[simp] theorem tel_37 : tel Go.Proofs.Try.prog 37 = none := by kernel_rfl
@[simp] theorem tbool_37 : tbool Go.Proofs.Try.prog 37 = false := by kernel_rfl
@[simp] theorem tund_37 : (Go.Program.underlying Go.Proofs.Try.prog 37).isSome = true := by kernel_rfl
@[simp] theorem flds_37 : flds Go.Proofs.Try.prog 37 = none := by kernel_rfl
@[simp] theorem tarr_37 : tarr Go.Proofs.Try.prog 37 = some (2, 36) := by kernel_rfl
@[simp] theorem tsz_38 : tsz Go.Proofs.Try.prog 38 = some 3 := by kernel_rfl
@[simp] theorem tby_38 : tby Go.Proofs.Try.prog 38 = some 40 := by kernel_rfl
@[simp] theorem tz_38 : tz Go.Proofs.Try.prog 38 = some (.agg #[.int .i64 0, .bool false, .slice none 0 0]) := by kernel_rfl
@[simp] theorem tagg_38 : tagg Go.Proofs.Try.prog 38 = some true := by kernel_rfl
@[simp] theorem tel_38 : tel Go.Proofs.Try.prog 38 = none := by kernel_rfl
@[simp] theorem tbool_38 : tbool Go.Proofs.Try.prog 38 = false := by kernel_rfl
@[simp] theorem tund_38 : (Go.Program.underlying Go.Proofs.Try.prog 38).isSome = true := by kernel_rfl
@[simp] theorem flds_38 : flds Go.Proofs.Try.prog 38 = some [(0, 1), (1, 2)] := by kernel_rfl
@[simp] theorem tsz_39 : tsz Go.Proofs.Try.prog 39 = some 3 := by kernel_rfl
@[simp] theorem tby_39 : tby Go.Proofs.Try.prog 39 = some 40 := by kernel_rfl
@[simp] theorem tz_39 : tz Go.Proofs.Try.prog 39 = some (.agg #[.int .i64 0, .bool false, .slice none 0 0]) := by kernel_rfl
@[simp] theorem tagg_39 : tagg Go.Proofs.Try.prog 39 = some true := by kernel_rfl
@[simp] theorem tel_39 : tel Go.Proofs.Try.prog 39 = none := by kernel_rfl
@[simp] theorem tbool_39 : tbool Go.Proofs.Try.prog 39 = false := by kernel_rfl
@[simp] theorem tund_39 : (Go.Program.underlying Go.Proofs.Try.prog 39).isSome = true := by kernel_rfl
@[simp] theorem flds_39 : flds Go.Proofs.Try.prog 39 = some [(0, 1), (1, 2)] := by kernel_rfl
@[simp] theorem tsz_42 : tsz Go.Proofs.Try.prog 42 = some 1 := by kernel_rfl
@[simp] theorem tby_42 : tby Go.Proofs.Try.prog 42 = some 24 := by kernel_rfl
@[simp] theorem tz_42 : tz Go.Proofs.Try.prog 42 = some (.slice none 0 0) := by kernel_rfl
@[simp] theorem tagg_42 : tagg Go.Proofs.Try.prog 42 = some false := by kernel_rfl
@[simp] theorem tel_42 : tel Go.Proofs.Try.prog 42 = some 45 := by kernel_rfl
@[simp] theorem tbool_42 : tbool Go.Proofs.Try.prog 42 = false := by kernel_rfl
@[simp] theorem tund_42 : (Go.Program.underlying Go.Proofs.Try.prog 42).isSome = true := by kernel_rfl
@[simp] theorem tsz_43 : tsz Go.Proofs.Try.prog 43 = some 3 := by kernel_rfl
@[simp] theorem tby_43 : tby Go.Proofs.Try.prog 43 = some 40 := by kernel_rfl
@[simp] theorem tz_43 : tz Go.Proofs.Try.prog 43 = some (.agg #[.int .i64 0, .int .i64 0, .slice none 0 0]) := by kernel_rfl
@[simp] theorem tagg_43 : tagg Go.Proofs.Try.prog 43 = some true := by kernel_rfl
@[simp] theorem tel_43 : tel Go.Proofs.Try.prog 43 = none := by kernel_rfl
@[simp] theorem tbool_43 : tbool Go.Proofs.Try.prog 43 = false := by kernel_rfl
@[simp] theorem tund_43 : (Go.Program.underlying Go.Proofs.Try.prog 43).isSome = true := by kernel_rfl
@[simp] theorem flds_43 : flds Go.Proofs.Try.prog 43 = some [(0, 1), (1, 1), (2, 1)] := by kernel_rfl
@[simp] theorem tsz_44 : tsz Go.Proofs.Try.prog 44 = some 3 := by kernel_rfl
@[simp] theorem tby_44 : tby Go.Proofs.Try.prog 44 = some 40 := by kernel_rfl
@[simp] theorem tz_44 : tz Go.Proofs.Try.prog 44 = some (.agg #[.int .i64 0, .int .i64 0, .slice none 0 0]) := by kernel_rfl
@[simp] theorem tagg_44 : tagg Go.Proofs.Try.prog 44 = some true := by kernel_rfl
@[simp] theorem tel_44 : tel Go.Proofs.Try.prog 44 = none := by kernel_rfl
@[simp] theorem tbool_44 : tbool Go.Proofs.Try.prog 44 = false := by kernel_rfl
@[simp] theorem tund_44 : (Go.Program.underlying Go.Proofs.Try.prog 44).isSome = true := by kernel_rfl
@[simp] theorem flds_44 : flds Go.Proofs.Try.prog 44 = some [(0, 1), (1, 1), (2, 1)] := by kernel_rfl
@[simp] theorem tsz_45 : tsz Go.Proofs.Try.prog 45 = some 1 := by kernel_rfl
@[simp] theorem tby_45 : tby Go.Proofs.Try.prog 45 = some 24 := by kernel_rfl
@[simp] theorem tz_45 : tz Go.Proofs.Try.prog 45 = some (.slice none 0 0) := by kernel_rfl
@[simp] theorem tagg_45 : tagg Go.Proofs.Try.prog 45 = some false := by kernel_rfl
@[simp] theorem tel_45 : tel Go.Proofs.Try.prog 45 = some 109 := by kernel_rfl
@[simp] theorem tbool_45 : tbool Go.Proofs.Try.prog 45 = false := by kernel_rfl
@[simp] theorem tund_45 : (Go.Program.underlying Go.Proofs.Try.prog 45).isSome = true := by kernel_rfl
@[simp] theorem tsz_47 : tsz Go.Proofs.Try.prog 47 = some 1 := by kernel_rfl
@[simp] theorem tby_47 : tby Go.Proofs.Try.prog 47 = some 24 := by kernel_rfl
@[simp] theorem tz_47 : tz Go.Proofs.Try.prog 47 = some (.slice none 0 0) := by kernel_rfl
@[simp] theorem tagg_47 : tagg Go.Proofs.Try.prog 47 = some false := by kernel_rfl
@[simp] theorem tel_47 : tel Go.Proofs.Try.prog 47 = some 36 := by kernel_rfl
@[simp] theorem tbool_47 : tbool Go.Proofs.Try.prog 47 = false := by kernel_rfl
@[simp] theorem tund_47 : (Go.Program.underlying Go.Proofs.Try.prog 47).isSome = true := by kernel_rfl
@[simp] theorem tsz_49 : tsz Go.Proofs.Try.prog 49 = some 1 := by kernel_rfl
@[simp] theorem tby_49 : tby Go.Proofs.Try.prog 49 = some 24 := by kernel_rfl
@[simp] theorem tz_49 : tz Go.Proofs.Try.prog 49 = some (.slice none 0 0) := by kernel_rfl
@[simp] theorem tagg_49 : tagg Go.Proofs.Try.prog 49 = some false := by kernel_rfl
@[simp] theorem tel_49 : tel Go.Proofs.Try.prog 49 = some 32 := by kernel_rfl
@[simp] theorem tbool_49 : tbool Go.Proofs.Try.prog 49 = false := by kernel_rfl
@[simp] theorem tund_49 : (Go.Program.underlying Go.Proofs.Try.prog 49).isSome = true := by kernel_rfl
@[simp] theorem tsz_50 : tsz Go.Proofs.Try.prog 50 = some 1 := by kernel_rfl
@[simp] theorem tby_50 : tby Go.Proofs.Try.prog 50 = some 24 := by kernel_rfl
@[simp] theorem tz_50 : tz Go.Proofs.Try.prog 50 = some (.slice none 0 0) := by kernel_rfl
@[simp] theorem tagg_50 : tagg Go.Proofs.Try.prog 50 = some false := by kernel_rfl
@[simp] theorem tel_50 : tel Go.Proofs.Try.prog 50 = some 32 := by kernel_rfl
@[simp] theorem tbool_50 : tbool Go.Proofs.Try.prog 50 = false := by kernel_rfl
@[simp] theorem tund_50 : (Go.Program.underlying Go.Proofs.Try.prog 50).isSome = true := by kernel_rfl
@[simp] theorem tsz_57 : tsz Go.Proofs.Try.prog 57 = some 3 := by kernel_rfl
@[simp] theorem tby_57 : tby Go.Proofs.Try.prog 57 = some 32 := by kernel_rfl
@[simp] theorem tz_57 : tz Go.Proofs.Try.prog 57 = some (.agg #[.int .u8 0, .int .u8 0, .slice none 0 0]) := by kernel_rfl
@[simp] theorem tagg_57 : tagg Go.Proofs.Try.prog 57 = some true := by kernel_rfl
@[simp] theorem tel_57 : tel Go.Proofs.Try.prog 57 = none := by kernel_rfl
@[simp] theorem tbool_57 : tbool Go.Proofs.Try.prog 57 = false := by kernel_rfl
@[simp] theorem tund_57 : (Go.Program.underlying Go.Proofs.Try.prog 57).isSome = true := by kernel_rfl
@[simp] theorem flds_57 : flds Go.Proofs.Try.prog 57 = some [(0, 1), (1, 1), (2, 1)] := by kernel_rfl
@[simp] theorem tsz_58 : tsz Go.Proofs.Try.prog 58 = some 3 := by kernel_rfl
@[simp] theorem tby_58 : tby Go.Proofs.Try.prog 58 = some 32 := by kernel_rfl
@[simp] theorem tz_58 : tz Go.Proofs.Try.prog 58 = some (.agg #[.int .u8 0, .int .u8 0, .slice none 0 0]) := by kernel_rfl
@[simp] theorem tagg_58 : tagg Go.Proofs.Try.prog 58 = some true := by kernel_rfl
@[simp] theorem tel_58 : tel Go.Proofs.Try.prog 58 = none := by kernel_rfl
@[simp] theorem tbool_58 : tbool Go.Proofs.Try.prog 58 = false := by kernel_rfl
@[simp] theorem tund_58 : (Go.Program.underlying Go.Proofs.Try.prog 58).isSome = true := by kernel_rfl
@[simp] theorem flds_58 : flds Go.Proofs.Try.prog 58 = some [(0, 1), (1, 1), (2, 1)] := by kernel_rfl
@[simp] theorem tsz_60 : tsz Go.Proofs.Try.prog 60 = some 1 := by kernel_rfl
@[simp] theorem tby_60 : tby Go.Proofs.Try.prog 60 = some 24 := by kernel_rfl
@[simp] theorem tz_60 : tz Go.Proofs.Try.prog 60 = some (.slice none 0 0) := by kernel_rfl
@[simp] theorem tagg_60 : tagg Go.Proofs.Try.prog 60 = some false := by kernel_rfl
@[simp] theorem tel_60 : tel Go.Proofs.Try.prog 60 = some 49 := by kernel_rfl
@[simp] theorem tbool_60 : tbool Go.Proofs.Try.prog 60 = false := by kernel_rfl
@[simp] theorem tund_60 : (Go.Program.underlying Go.Proofs.Try.prog 60).isSome = true := by kernel_rfl
@[simp] theorem tsz_61 : tsz Go.Proofs.Try.prog 61 = some 3 := by kernel_rfl
@[simp] theorem tby_61 : tby Go.Proofs.Try.prog 61 = some 40 := by kernel_rfl
@[simp] theorem tz_61 : tz Go.Proofs.Try.prog 61 = some (.agg #[.int .i64 0, .int .i64 0, .slice none 0 0]) := by kernel_rfl
@[simp] theorem tagg_61 : tagg Go.Proofs.Try.prog 61 = some true := by kernel_rfl
@[simp] theorem tel_61 : tel Go.Proofs.Try.prog 61 = none := by kernel_rfl
@[simp] theorem tbool_61 : tbool Go.Proofs.Try.prog 61 = false := by kernel_rfl
@[simp] theorem tund_61 : (Go.Program.underlying Go.Proofs.Try.prog 61).isSome = true := by kernel_rfl
@[simp] theorem flds_61 : flds Go.Proofs.Try.prog 61 = some [(0, 1), (1, 1), (2, 1)] := by kernel_rfl
@[simp] theorem tsz_62 : tsz Go.Proofs.Try.prog 62 = some 3 := by kernel_rfl
@[simp] theorem tby_62 : tby Go.Proofs.Try.prog 62 = some 40 := by kernel_rfl
@[simp] theorem tz_62 : tz Go.Proofs.Try.prog 62 = some (.agg #[.int .i64 0, .int .i64 0, .slice none 0 0]) := by kernel_rfl
@[simp] theorem tagg_62 : tagg Go.Proofs.Try.prog 62 = some true := by kernel_rfl
@[simp] theorem tel_62 : tel Go.Proofs.Try.prog 62 = none := by kernel_rfl
@[simp] theorem tbool_62 : tbool Go.Proofs.Try.prog 62 = false := by kernel_rfl
@[simp] theorem tund_62 : (Go.Program.underlying Go.Proofs.Try.prog 62).isSome = true := by kernel_rfl
@[simp] theorem flds_62 : flds Go.Proofs.Try.prog 62 = some [(0, 1), (1, 1), (2, 1)] := by kernel_rfl
@[simp] theorem tsz_64 : tsz Go.Proofs.Try.prog 64 = some 1 := by kernel_rfl
@[simp] theorem tby_64 : tby Go.Proofs.Try.prog 64 = some 8 := by kernel_rfl
@[simp] theorem tz_64 : tz Go.Proofs.Try.prog 64 = some (.int .i64 0) := by kernel_rfl
@[simp] theorem tagg_64 : tagg Go.Proofs.Try.prog 64 = some false := by kernel_rfl
@[simp] theorem tel_64 : tel Go.Proofs.Try.prog 64 = none := by kernel_rfl
@[simp] theorem tbool_64 : tbool Go.Proofs.Try.prog 64 = false := by kernel_rfl
@[simp] theorem tund_64 : (Go.Program.underlying Go.Proofs.Try.prog 64).isSome = true := by kernel_rfl
@[simp] theorem tint_64 : tint Go.Proofs.Try.prog 64 = some .i64 := by kernel_rfl
@[simp] theorem tsz_82 : tsz Go.Proofs.Try.prog 82 = some 3 := by kernel_rfl
@[simp] theorem tby_82 : tby Go.Proofs.Try.prog 82 = some 40 := by kernel_rfl
@[simp] theorem tz_82 : tz Go.Proofs.Try.prog 82 = some (.agg #[.int .i64 0, .int .i64 0, .slice none 0 0]) := by kernel_rfl
@[simp] theorem tagg_82 : tagg Go.Proofs.Try.prog 82 = some true := by kernel_rfl
@[simp] theorem tel_82 : tel Go.Proofs.Try.prog 82 = none := by kernel_rfl
@[simp] theorem tbool_82 : tbool Go.Proofs.Try.prog 82 = false := by kernel_rfl
@[simp] theorem tund_82 : (Go.Program.underlying Go.Proofs.Try.prog 82).isSome = true := by kernel_rfl
@[simp] theorem flds_82 : flds Go.Proofs.Try.prog 82 = some [(0, 1), (1, 1), (2, 1)] := by kernel_rfl
@[simp] theorem tsz_83 : tsz Go.Proofs.Try.prog 83 = some 3 := by kernel_rfl
@[simp] theorem tby_83 : tby Go.Proofs.Try.prog 83 = some 40 := by kernel_rfl
@[simp] theorem tz_83 : tz Go.Proofs.Try.prog 83 = some (.agg #[.int .i64 0, .int .i64 0, .slice none 0 0]) := by kernel_rfl
@[simp] theorem tagg_83 : tagg Go.Proofs.Try.prog 83 = some true := by kernel_rfl
@[simp] theorem tel_83 : tel Go.Proofs.Try.prog 83 = none := by kernel_rfl
@[simp] theorem tbool_83 : tbool Go.Proofs.Try.prog 83 = false := by kernel_rfl
@[simp] theorem tund_83 : (Go.Program.underlying Go.Proofs.Try.prog 83).isSome = true := by kernel_rfl
@[simp] theorem flds_83 : flds Go.Proofs.Try.prog 83 = some [(0, 1), (1, 1), (2, 1)] := by kernel_rfl
@[simp] theorem tsz_85 : tsz Go.Proofs.Try.prog 85 = some 1 := by kernel_rfl
@[simp] theorem tby_85 : tby Go.Proofs.Try.prog 85 = some 24 := by kernel_rfl
@[simp] theorem tz_85 : tz Go.Proofs.Try.prog 85 = some (.slice none 0 0) := by kernel_rfl
@[simp] theorem tagg_85 : tagg Go.Proofs.Try.prog 85 = some false := by kernel_rfl
@[simp] theorem tel_85 : tel Go.Proofs.Try.prog 85 = some 2 := by kernel_rfl
@[simp] theorem tbool_85 : tbool Go.Proofs.Try.prog 85 = false := by kernel_rfl
@[simp] theorem tund_85 : (Go.Program.underlying Go.Proofs.Try.prog 85).isSome = true := by kernel_rfl
@[simp] theorem tsz_86 : tsz Go.Proofs.Try.prog 86 = some 1 := by kernel_rfl
@[simp] theorem tby_86 : tby Go.Proofs.Try.prog 86 = some 24 := by kernel_rfl
@[simp] theorem tz_86 : tz Go.Proofs.Try.prog 86 = some (.slice none 0 0) := by kernel_rfl
@[simp] theorem tagg_86 : tagg Go.Proofs.Try.prog 86 = some false := by kernel_rfl
@[simp] theorem tel_86 : tel Go.Proofs.Try.prog 86 = some 83 := by kernel_rfl
@[simp] theorem tbool_86 : tbool Go.Proofs.Try.prog 86 = false := by kernel_rfl
@[simp] theorem tund_86 : (Go.Program.underlying Go.Proofs.Try.prog 86).isSome = true := by kernel_rfl
@[simp] theorem tsz_87 : tsz Go.Proofs.Try.prog 87 = some 1 := by kernel_rfl
@[simp] theorem tby_87 : tby Go.Proofs.Try.prog 87 = some 24 := by kernel_rfl
@[simp] theorem tz_87 : tz Go.Proofs.Try.prog 87 = some (.slice none 0 0) := by kernel_rfl
@[simp] theorem tagg_87 : tagg Go.Proofs.Try.prog 87 = some false := by kernel_rfl
@[simp] theorem tel_87 : tel Go.Proofs.Try.prog 87 = some 83 := by kernel_rfl
@[simp] theorem tbool_87 : tbool Go.Proofs.Try.prog 87 = false := by kernel_rfl
@[simp] theorem tund_87 : (Go.Program.underlying Go.Proofs.Try.prog 87).isSome = true := by kernel_rfl
@[simp] theorem tsz_98 : tsz Go.Proofs.Try.prog 98 = some 1 := by kernel_rfl
@[simp] theorem tby_98 : tby Go.Proofs.Try.prog 98 = some 8 := by kernel_rfl
@[simp] theorem tagg_98 : tagg Go.Proofs.Try.prog 98 = some false := by kernel_rfl
@[simp] theorem tel_98 : tel Go.Proofs.Try.prog 98 = none := by kernel_rfl
@[simp] theorem tbool_98 : tbool Go.Proofs.Try.prog 98 = false := by kernel_rfl
@[simp] theorem tund_98 : (Go.Program.underlying Go.Proofs.Try.prog 98).isSome = true := by kernel_rfl
@[simp] theorem tmp_98 : tmp Go.Proofs.Try.prog 98 = some (3, 32) := by kernel_rfl
@[simp] theorem tsz_99 : tsz Go.Proofs.Try.prog 99 = some 1 := by kernel_rfl
@[simp] theorem tby_99 : tby Go.Proofs.Try.prog 99 = some 8 := by kernel_rfl
@[simp] theorem tagg_99 : tagg Go.Proofs.Try.prog 99 = some false := by kernel_rfl
@[simp] theorem tel_99 : tel Go.Proofs.Try.prog 99 = none := by kernel_rfl
@[simp] theorem tbool_99 : tbool Go.Proofs.Try.prog 99 = false := by kernel_rfl
@[simp] theorem tund_99 : (Go.Program.underlying Go.Proofs.Try.prog 99).isSome = true := by kernel_rfl
@[simp] theorem tmp_99 : tmp Go.Proofs.Try.prog 99 = some (3, 32) := by kernel_rfl
@[simp] theorem tsz_102 : tsz Go.Proofs.Try.prog 102 = some 1 := by kernel_rfl
@[simp] theorem tby_102 : tby Go.Proofs.Try.prog 102 = some 8 := by kernel_rfl
@[simp] theorem tz_102 : tz Go.Proofs.Try.prog 102 = some (.int .u64 0) := by kernel_rfl
@[simp] theorem tagg_102 : tagg Go.Proofs.Try.prog 102 = some false := by kernel_rfl
@[simp] theorem tel_102 : tel Go.Proofs.Try.prog 102 = none := by kernel_rfl
@[simp] theorem tbool_102 : tbool Go.Proofs.Try.prog 102 = false := by kernel_rfl
@[simp] theorem tund_102 : (Go.Program.underlying Go.Proofs.Try.prog 102).isSome = true := by kernel_rfl
@[simp] theorem tint_102 : tint Go.Proofs.Try.prog 102 = some .u64 := by kernel_rfl
@[simp] theorem tsz_104 : tsz Go.Proofs.Try.prog 104 = some 1 := by kernel_rfl
@[simp] theorem tby_104 : tby Go.Proofs.Try.prog 104 = some 4 := by kernel_rfl
@[simp] theorem tz_104 : tz Go.Proofs.Try.prog 104 = some (.int .u32 0) := by kernel_rfl
@[simp] theorem tagg_104 : tagg Go.Proofs.Try.prog 104 = some false := by kernel_rfl
@[simp] theorem tel_104 : tel Go.Proofs.Try.prog 104 = none := by kernel_rfl
@[simp] theorem tbool_104 : tbool Go.Proofs.Try.prog 104 = false := by kernel_rfl
@[simp] theorem tund_104 : (Go.Program.underlying Go.Proofs.Try.prog 104).isSome = true := by kernel_rfl
@[simp] theorem tint_104 : tint Go.Proofs.Try.prog 104 = some .u32 := by kernel_rfl
@[simp] theorem tsz_105 : tsz Go.Proofs.Try.prog 105 = some 1 := by kernel_rfl
@[simp] theorem tby_105 : tby Go.Proofs.Try.prog 105 = some 8 := by kernel_rfl
@[simp] theorem tz_105 : tz Go.Proofs.Try.prog 105 = some (.int .u64 0) := by kernel_rfl
@[simp] theorem tagg_105 : tagg Go.Proofs.Try.prog 105 = some false := by kernel_rfl
@[simp] theorem tel_105 : tel Go.Proofs.Try.prog 105 = none := by kernel_rfl
@[simp] theorem tbool_105 : tbool Go.Proofs.Try.prog 105 = false := by kernel_rfl
@[simp] theorem tund_105 : (Go.Program.underlying Go.Proofs.Try.prog 105).isSome = true := by kernel_rfl
@[simp] theorem tint_105 : tint Go.Proofs.Try.prog 105 = some .u64 := by kernel_rfl
@[simp] theorem tsz_108 : tsz Go.Proofs.Try.prog 108 = some 3 := by kernel_rfl
@[simp] theorem tby_108 : tby Go.Proofs.Try.prog 108 = some 40 := by kernel_rfl
@[simp] theorem tz_108 : tz Go.Proofs.Try.prog 108 = some (.agg #[.int .i64 0, .bool false, .slice none 0 0]) := by kernel_rfl
@[simp] theorem tagg_108 : tagg Go.Proofs.Try.prog 108 = some true := by kernel_rfl
@[simp] theorem tel_108 : tel Go.Proofs.Try.prog 108 = none := by kernel_rfl
@[simp] theorem tbool_108 : tbool Go.Proofs.Try.prog 108 = false := by kernel_rfl
@[simp] theorem tund_108 : (Go.Program.underlying Go.Proofs.Try.prog 108).isSome = true := by kernel_rfl
@[simp] theorem flds_108 : flds Go.Proofs.Try.prog 108 = some [(0, 1), (1, 2)] := by kernel_rfl
@[simp] theorem tsz_109 : tsz Go.Proofs.Try.prog 109 = some 3 := by kernel_rfl
@[simp] theorem tby_109 : tby Go.Proofs.Try.prog 109 = some 40 := by kernel_rfl
@[simp] theorem tz_109 : tz Go.Proofs.Try.prog 109 = some (.agg #[.int .i64 0, .bool false, .slice none 0 0]) := by kernel_rfl
@[simp] theorem tagg_109 : tagg Go.Proofs.Try.prog 109 = some true := by kernel_rfl
@[simp] theorem tel_109 : tel Go.Proofs.Try.prog 109 = none := by kernel_rfl
@[simp] theorem tbool_109 : tbool Go.Proofs.Try.prog 109 = false := by kernel_rfl
@[simp] theorem tund_109 : (Go.Program.underlying Go.Proofs.Try.prog 109).isSome = true := by kernel_rfl
@[simp] theorem flds_109 : flds Go.Proofs.Try.prog 109 = some [(0, 1), (1, 2)] := by kernel_rfl
@[simp] theorem tsz_115 : tsz Go.Proofs.Try.prog 115 = some 4 := by kernel_rfl
@[simp] theorem tby_115 : tby Go.Proofs.Try.prog 115 = some 64 := by kernel_rfl
@[simp] theorem tz_115 : tz Go.Proofs.Try.prog 115 = some (.agg #[.bool false, .slice none 0 0, .bool false, .slice none 0 0]) := by kernel_rfl
@[simp] theorem tagg_115 : tagg Go.Proofs.Try.prog 115 = some true := by kernel_rfl
@[simp] theorem tel_115 : tel Go.Proofs.Try.prog 115 = none := by kernel_rfl
@[simp] theorem tbool_115 : tbool Go.Proofs.Try.prog 115 = false := by kernel_rfl
@[simp] theorem tund_115 : (Go.Program.underlying Go.Proofs.Try.prog 115).isSome = true := by kernel_rfl
@[simp] theorem flds_115 : flds Go.Proofs.Try.prog 115 = none := by kernel_rfl
@[simp] theorem tarr_115 : tarr Go.Proofs.Try.prog 115 = some (2, 32) := by kernel_rfl
@[simp] theorem tsz_121 : tsz Go.Proofs.Try.prog 121 = some 1 := by kernel_rfl
@[simp] theorem tby_121 : tby Go.Proofs.Try.prog 121 = some 24 := by kernel_rfl
@[simp] theorem tz_121 : tz Go.Proofs.Try.prog 121 = some (.slice none 0 0) := by kernel_rfl
@[simp] theorem tagg_121 : tagg Go.Proofs.Try.prog 121 = some false := by kernel_rfl
@[simp] theorem tel_121 : tel Go.Proofs.Try.prog 121 = some 3 := by kernel_rfl
@[simp] theorem tbool_121 : tbool Go.Proofs.Try.prog 121 = false := by kernel_rfl
@[simp] theorem tund_121 : (Go.Program.underlying Go.Proofs.Try.prog 121).isSome = true := by kernel_rfl
@[simp] theorem tsz_139 : tsz Go.Proofs.Try.prog 139 = some 2 := by kernel_rfl
@[simp] theorem tby_139 : tby Go.Proofs.Try.prog 139 = some 48 := by kernel_rfl
@[simp] theorem tz_139 : tz Go.Proofs.Try.prog 139 = some (.agg #[.slice none 0 0, .slice none 0 0]) := by kernel_rfl
@[simp] theorem tagg_139 : tagg Go.Proofs.Try.prog 139 = some true := by kernel_rfl
@[simp] theorem tel_139 : tel Go.Proofs.Try.prog 139 = none := by kernel_rfl
@[simp] theorem tbool_139 : tbool Go.Proofs.Try.prog 139 = false := by kernel_rfl
@[simp] theorem tund_139 : (Go.Program.underlying Go.Proofs.Try.prog 139).isSome = true := by kernel_rfl
@[simp] theorem flds_139 : flds Go.Proofs.Try.prog 139 = none := by kernel_rfl
@[simp] theorem tarr_139 : tarr Go.Proofs.Try.prog 139 = some (2, 45) := by kernel_rfl
@[simp] theorem tsz_146 : tsz Go.Proofs.Try.prog 146 = some 1 := by kernel_rfl
@[simp] theorem tby_146 : tby Go.Proofs.Try.prog 146 = some 8 := by kernel_rfl
@[simp] theorem tagg_146 : tagg Go.Proofs.Try.prog 146 = some false := by kernel_rfl
@[simp] theorem tel_146 : tel Go.Proofs.Try.prog 146 = none := by kernel_rfl
@[simp] theorem tbool_146 : tbool Go.Proofs.Try.prog 146 = false := by kernel_rfl
@[simp] theorem tund_146 : (Go.Program.underlying Go.Proofs.Try.prog 146).isSome = true := by kernel_rfl
@[simp] theorem tmp_146 : tmp Go.Proofs.Try.prog 146 = some (3, 3) := by kernel_rfl
@[simp] theorem tsz_154 : tsz Go.Proofs.Try.prog 154 = some 1 := by kernel_rfl
@[simp] theorem tby_154 : tby Go.Proofs.Try.prog 154 = some 8 := by kernel_rfl
@[simp] theorem tz_154 : tz Go.Proofs.Try.prog 154 = some (.int .i64 0) := by kernel_rfl
@[simp] theorem tagg_154 : tagg Go.Proofs.Try.prog 154 = some false := by kernel_rfl
@[simp] theorem tel_154 : tel Go.Proofs.Try.prog 154 = none := by kernel_rfl
@[simp] theorem tbool_154 : tbool Go.Proofs.Try.prog 154 = false := by kernel_rfl
@[simp] theorem tund_154 : (Go.Program.underlying Go.Proofs.Try.prog 154).isSome = true := by kernel_rfl
@[simp] theorem tint_154 : tint Go.Proofs.Try.prog 154 = some .i64 := by kernel_rfl
@[simp] theorem tsz_163 : tsz Go.Proofs.Try.prog 163 = some 1 := by kernel_rfl
@[simp] theorem tby_163 : tby Go.Proofs.Try.prog 163 = some 8 := by kernel_rfl
@[simp] theorem tz_163 : tz Go.Proofs.Try.prog 163 = some (.int .u64 0) := by kernel_rfl
@[simp] theorem tagg_163 : tagg Go.Proofs.Try.prog 163 = some false := by kernel_rfl
@[simp] theorem tel_163 : tel Go.Proofs.Try.prog 163 = none := by kernel_rfl
@[simp] theorem tbool_163 : tbool Go.Proofs.Try.prog 163 = false := by kernel_rfl
@[simp] theorem tund_163 : (Go.Program.underlying Go.Proofs.Try.prog 163).isSome = true := by kernel_rfl
@[simp] theorem tint_163 : tint Go.Proofs.Try.prog 163 = some .u64 := by kernel_rfl
@[simp] theorem tsz_175 : tsz Go.Proofs.Try.prog 175 = some 0 := by kernel_rfl
@[simp] theorem tby_175 : tby Go.Proofs.Try.prog 175 = some 0 := by kernel_rfl
@[simp] theorem tz_175 : tz Go.Proofs.Try.prog 175 = some (.agg #[]) := by kernel_rfl
@[simp] theorem tagg_175 : tagg Go.Proofs.Try.prog 175 = some true := by kernel_rfl
@[simp] theorem tel_175 : tel Go.Proofs.Try.prog 175 = none := by kernel_rfl
@[simp] theorem tbool_175 : tbool Go.Proofs.Try.prog 175 = false := by kernel_rfl
@[simp] theorem tund_175 : (Go.Program.underlying Go.Proofs.Try.prog 175).isSome = true := by kernel_rfl
@[simp] theorem flds_175 : flds Go.Proofs.Try.prog 175 = none := by kernel_rfl
@[simp] theorem tarr_175 : tarr Go.Proofs.Try.prog 175 = some (0, 16) := by kernel_rfl
@[simp] theorem tsz_176 : tsz Go.Proofs.Try.prog 176 = some 0 := by kernel_rfl
@[simp] theorem tby_176 : tby Go.Proofs.Try.prog 176 = some 0 := by kernel_rfl
@[simp] theorem tz_176 : tz Go.Proofs.Try.prog 176 = some (.agg #[]) := by kernel_rfl
@[simp] theorem tagg_176 : tagg Go.Proofs.Try.prog 176 = some true := by kernel_rfl
@[simp] theorem tel_176 : tel Go.Proofs.Try.prog 176 = none := by kernel_rfl
@[simp] theorem tbool_176 : tbool Go.Proofs.Try.prog 176 = false := by kernel_rfl
@[simp] theorem tund_176 : (Go.Program.underlying Go.Proofs.Try.prog 176).isSome = true := by kernel_rfl
@[simp] theorem flds_176 : flds Go.Proofs.Try.prog 176 = some [(0, 0)] := by kernel_rfl
@[simp] theorem tsz_177 : tsz Go.Proofs.Try.prog 177 = some 0 := by kernel_rfl
@[simp] theorem tby_177 : tby Go.Proofs.Try.prog 177 = some 0 := by kernel_rfl
@[simp] theorem tz_177 : tz Go.Proofs.Try.prog 177 = some (.agg #[]) := by kernel_rfl
@[simp] theorem tagg_177 : tagg Go.Proofs.Try.prog 177 = some true := by kernel_rfl
@[simp] theorem tel_177 : tel Go.Proofs.Try.prog 177 = none := by kernel_rfl
@[simp] theorem tbool_177 : tbool Go.Proofs.Try.prog 177 = false := by kernel_rfl
@[simp] theorem tund_177 : (Go.Program.underlying Go.Proofs.Try.prog 177).isSome = true := by kernel_rfl
@[simp] theorem flds_177 : flds Go.Proofs.Try.prog 177 = some [(0, 0)] := by kernel_rfl
@[simp] theorem tsz_179 : tsz Go.Proofs.Try.prog 179 = some 1 := by kernel_rfl
@[simp] theorem tby_179 : tby Go.Proofs.Try.prog 179 = some 1 := by kernel_rfl
@[simp] theorem tz_179 : tz Go.Proofs.Try.prog 179 = some (.int .u8 0) := by kernel_rfl
@[simp] theorem tagg_179 : tagg Go.Proofs.Try.prog 179 = some false := by kernel_rfl
@[simp] theorem tel_179 : tel Go.Proofs.Try.prog 179 = none := by kernel_rfl
@[simp] theorem tbool_179 : tbool Go.Proofs.Try.prog 179 = false := by kernel_rfl
@[simp] theorem tund_179 : (Go.Program.underlying Go.Proofs.Try.prog 179).isSome = true := by kernel_rfl
@[simp] theorem tint_179 : tint Go.Proofs.Try.prog 179 = some .u8 := by kernel_rfl
@[simp] theorem tsz_180 : tsz Go.Proofs.Try.prog 180 = some 1 := by kernel_rfl
@[simp] theorem tby_180 : tby Go.Proofs.Try.prog 180 = some 1 := by kernel_rfl
@[simp] theorem tz_180 : tz Go.Proofs.Try.prog 180 = some (.int .u8 0) := by kernel_rfl
@[simp] theorem tagg_180 : tagg Go.Proofs.Try.prog 180 = some false := by kernel_rfl
@[simp] theorem tel_180 : tel Go.Proofs.Try.prog 180 = none := by kernel_rfl
@[simp] theorem tbool_180 : tbool Go.Proofs.Try.prog 180 = false := by kernel_rfl
@[simp] theorem tund_180 : (Go.Program.underlying Go.Proofs.Try.prog 180).isSome = true := by kernel_rfl
@[simp] theorem tint_180 : tint Go.Proofs.Try.prog 180 = some .u8 := by kernel_rfl
@[simp] theorem tsz_183 : tsz Go.Proofs.Try.prog 183 = some 1 := by kernel_rfl
@[simp] theorem tby_183 : tby Go.Proofs.Try.prog 183 = some 4 := by kernel_rfl
@[simp] theorem tz_183 : tz Go.Proofs.Try.prog 183 = some (.int .i32 0) := by kernel_rfl
@[simp] theorem tagg_183 : tagg Go.Proofs.Try.prog 183 = some false := by kernel_rfl
@[simp] theorem tel_183 : tel Go.Proofs.Try.prog 183 = none := by kernel_rfl
@[simp] theorem tbool_183 : tbool Go.Proofs.Try.prog 183 = false := by kernel_rfl
@[simp] theorem tund_183 : (Go.Program.underlying Go.Proofs.Try.prog 183).isSome = true := by kernel_rfl
@[simp] theorem tint_183 : tint Go.Proofs.Try.prog 183 = some .i32 := by kernel_rfl
@[simp] theorem tsz_184 : tsz Go.Proofs.Try.prog 184 = some 1 := by kernel_rfl
@[simp] theorem tby_184 : tby Go.Proofs.Try.prog 184 = some 4 := by kernel_rfl
@[simp] theorem tz_184 : tz Go.Proofs.Try.prog 184 = some (.int .i32 0) := by kernel_rfl
@[simp] theorem tagg_184 : tagg Go.Proofs.Try.prog 184 = some false := by kernel_rfl
@[simp] theorem tel_184 : tel Go.Proofs.Try.prog 184 = none := by kernel_rfl
@[simp] theorem tbool_184 : tbool Go.Proofs.Try.prog 184 = false := by kernel_rfl
@[simp] theorem tund_184 : (Go.Program.underlying Go.Proofs.Try.prog 184).isSome = true := by kernel_rfl
@[simp] theorem tint_184 : tint Go.Proofs.Try.prog 184 = some .i32 := by kernel_rfl

@[simp] theorem follows_mixed : Go.Tables.follows Go.Proofs.Try.prog.toTables .mixedOrders = true := by kernel_rfl

end Go.Am

namespace Go.Am

@[simp] theorem newF_0 : newF Go.Proofs.Try.prog 0 = false := by kernel_rfl
@[simp] theorem mutF_0 : mutF Go.Proofs.Try.prog 0 = true := by kernel_rfl
@[simp] theorem newF_1 : newF Go.Proofs.Try.prog 1 = false := by kernel_rfl
@[simp] theorem mutF_1 : mutF Go.Proofs.Try.prog 1 = true := by kernel_rfl
@[simp] theorem newF_2 : newF Go.Proofs.Try.prog 2 = false := by kernel_rfl
@[simp] theorem mutF_2 : mutF Go.Proofs.Try.prog 2 = true := by kernel_rfl
@[simp] theorem newF_3 : newF Go.Proofs.Try.prog 3 = false := by kernel_rfl
@[simp] theorem mutF_3 : mutF Go.Proofs.Try.prog 3 = false := by kernel_rfl
@[simp] theorem newF_4 : newF Go.Proofs.Try.prog 4 = false := by kernel_rfl
@[simp] theorem mutF_4 : mutF Go.Proofs.Try.prog 4 = false := by kernel_rfl
@[simp] theorem newF_5 : newF Go.Proofs.Try.prog 5 = false := by kernel_rfl
@[simp] theorem mutF_5 : mutF Go.Proofs.Try.prog 5 = false := by kernel_rfl
@[simp] theorem newF_6 : newF Go.Proofs.Try.prog 6 = false := by kernel_rfl
@[simp] theorem mutF_6 : mutF Go.Proofs.Try.prog 6 = false := by kernel_rfl
@[simp] theorem newF_7 : newF Go.Proofs.Try.prog 7 = false := by kernel_rfl
@[simp] theorem mutF_7 : mutF Go.Proofs.Try.prog 7 = false := by kernel_rfl
@[simp] theorem newF_8 : newF Go.Proofs.Try.prog 8 = false := by kernel_rfl
@[simp] theorem mutF_8 : mutF Go.Proofs.Try.prog 8 = false := by kernel_rfl
@[simp] theorem newF_9 : newF Go.Proofs.Try.prog 9 = false := by kernel_rfl
@[simp] theorem mutF_9 : mutF Go.Proofs.Try.prog 9 = false := by kernel_rfl
@[simp] theorem newF_10 : newF Go.Proofs.Try.prog 10 = false := by kernel_rfl
@[simp] theorem mutF_10 : mutF Go.Proofs.Try.prog 10 = false := by kernel_rfl
@[simp] theorem newF_11 : newF Go.Proofs.Try.prog 11 = false := by kernel_rfl
@[simp] theorem mutF_11 : mutF Go.Proofs.Try.prog 11 = false := by kernel_rfl
@[simp] theorem newF_12 : newF Go.Proofs.Try.prog 12 = false := by kernel_rfl
@[simp] theorem mutF_12 : mutF Go.Proofs.Try.prog 12 = false := by kernel_rfl
@[simp] theorem newF_13 : newF Go.Proofs.Try.prog 13 = false := by kernel_rfl
@[simp] theorem mutF_13 : mutF Go.Proofs.Try.prog 13 = false := by kernel_rfl
@[simp] theorem newF_14 : newF Go.Proofs.Try.prog 14 = false := by kernel_rfl
@[simp] theorem mutF_14 : mutF Go.Proofs.Try.prog 14 = false := by kernel_rfl
@[simp] theorem newF_15 : newF Go.Proofs.Try.prog 15 = false := by kernel_rfl
@[simp] theorem mutF_15 : mutF Go.Proofs.Try.prog 15 = false := by kernel_rfl
@[simp] theorem newF_16 : newF Go.Proofs.Try.prog 16 = false := by kernel_rfl
@[simp] theorem mutF_16 : mutF Go.Proofs.Try.prog 16 = false := by kernel_rfl
@[simp] theorem newF_17 : newF Go.Proofs.Try.prog 17 = false := by kernel_rfl
@[simp] theorem mutF_17 : mutF Go.Proofs.Try.prog 17 = false := by kernel_rfl
@[simp] theorem newF_18 : newF Go.Proofs.Try.prog 18 = false := by kernel_rfl
@[simp] theorem mutF_18 : mutF Go.Proofs.Try.prog 18 = false := by kernel_rfl
@[simp] theorem newF_19 : newF Go.Proofs.Try.prog 19 = false := by kernel_rfl
@[simp] theorem mutF_19 : mutF Go.Proofs.Try.prog 19 = false := by kernel_rfl
@[simp] theorem newF_20 : newF Go.Proofs.Try.prog 20 = false := by kernel_rfl
@[simp] theorem mutF_20 : mutF Go.Proofs.Try.prog 20 = false := by kernel_rfl
@[simp] theorem newF_21 : newF Go.Proofs.Try.prog 21 = false := by kernel_rfl
@[simp] theorem mutF_21 : mutF Go.Proofs.Try.prog 21 = false := by kernel_rfl
@[simp] theorem newF_22 : newF Go.Proofs.Try.prog 22 = false := by kernel_rfl
@[simp] theorem mutF_22 : mutF Go.Proofs.Try.prog 22 = false := by kernel_rfl
@[simp] theorem newF_23 : newF Go.Proofs.Try.prog 23 = false := by kernel_rfl
@[simp] theorem mutF_23 : mutF Go.Proofs.Try.prog 23 = false := by kernel_rfl
@[simp] theorem newF_24 : newF Go.Proofs.Try.prog 24 = false := by kernel_rfl
@[simp] theorem mutF_24 : mutF Go.Proofs.Try.prog 24 = false := by kernel_rfl
@[simp] theorem newF_25 : newF Go.Proofs.Try.prog 25 = false := by kernel_rfl
@[simp] theorem mutF_25 : mutF Go.Proofs.Try.prog 25 = false := by kernel_rfl
@[simp] theorem newF_26 : newF Go.Proofs.Try.prog 26 = false := by kernel_rfl
@[simp] theorem mutF_26 : mutF Go.Proofs.Try.prog 26 = false := by kernel_rfl
@[simp] theorem newF_27 : newF Go.Proofs.Try.prog 27 = false := by kernel_rfl
@[simp] theorem mutF_27 : mutF Go.Proofs.Try.prog 27 = false := by kernel_rfl
@[simp] theorem newF_28 : newF Go.Proofs.Try.prog 28 = false := by kernel_rfl
@[simp] theorem mutF_28 : mutF Go.Proofs.Try.prog 28 = false := by kernel_rfl
@[simp] theorem newF_29 : newF Go.Proofs.Try.prog 29 = false := by kernel_rfl
@[simp] theorem mutF_29 : mutF Go.Proofs.Try.prog 29 = false := by kernel_rfl
@[simp] theorem newF_30 : newF Go.Proofs.Try.prog 30 = false := by kernel_rfl
@[simp] theorem mutF_30 : mutF Go.Proofs.Try.prog 30 = false := by kernel_rfl
@[simp] theorem newF_31 : newF Go.Proofs.Try.prog 31 = false := by kernel_rfl
@[simp] theorem mutF_31 : mutF Go.Proofs.Try.prog 31 = false := by kernel_rfl
@[simp] theorem newF_32 : newF Go.Proofs.Try.prog 32 = false := by kernel_rfl
@[simp] theorem mutF_32 : mutF Go.Proofs.Try.prog 32 = false := by kernel_rfl
@[simp] theorem newF_33 : newF Go.Proofs.Try.prog 33 = false := by kernel_rfl
@[simp] theorem mutF_33 : mutF Go.Proofs.Try.prog 33 = false := by kernel_rfl
@[simp] theorem newF_34 : newF Go.Proofs.Try.prog 34 = false := by kernel_rfl
@[simp] theorem mutF_34 : mutF Go.Proofs.Try.prog 34 = false := by kernel_rfl
@[simp] theorem newF_35 : newF Go.Proofs.Try.prog 35 = false := by kernel_rfl
@[simp] theorem mutF_35 : mutF Go.Proofs.Try.prog 35 = false := by kernel_rfl
@[simp] theorem newF_36 : newF Go.Proofs.Try.prog 36 = false := by kernel_rfl
@[simp] theorem mutF_36 : mutF Go.Proofs.Try.prog 36 = false := by kernel_rfl
@[simp] theorem newF_37 : newF Go.Proofs.Try.prog 37 = false := by kernel_rfl
@[simp] theorem mutF_37 : mutF Go.Proofs.Try.prog 37 = false := by kernel_rfl
@[simp] theorem newF_38 : newF Go.Proofs.Try.prog 38 = false := by kernel_rfl
@[simp] theorem mutF_38 : mutF Go.Proofs.Try.prog 38 = false := by kernel_rfl
@[simp] theorem newF_39 : newF Go.Proofs.Try.prog 39 = false := by kernel_rfl
@[simp] theorem mutF_39 : mutF Go.Proofs.Try.prog 39 = false := by kernel_rfl
@[simp] theorem newF_40 : newF Go.Proofs.Try.prog 40 = false := by kernel_rfl
@[simp] theorem mutF_40 : mutF Go.Proofs.Try.prog 40 = false := by kernel_rfl
@[simp] theorem newF_41 : newF Go.Proofs.Try.prog 41 = false := by kernel_rfl
@[simp] theorem mutF_41 : mutF Go.Proofs.Try.prog 41 = false := by kernel_rfl
@[simp] theorem newF_42 : newF Go.Proofs.Try.prog 42 = false := by kernel_rfl
@[simp] theorem mutF_42 : mutF Go.Proofs.Try.prog 42 = false := by kernel_rfl
@[simp] theorem newF_43 : newF Go.Proofs.Try.prog 43 = false := by kernel_rfl
@[simp] theorem mutF_43 : mutF Go.Proofs.Try.prog 43 = false := by kernel_rfl
@[simp] theorem newF_44 : newF Go.Proofs.Try.prog 44 = false := by kernel_rfl
@[simp] theorem mutF_44 : mutF Go.Proofs.Try.prog 44 = false := by kernel_rfl
@[simp] theorem newF_45 : newF Go.Proofs.Try.prog 45 = false := by kernel_rfl
@[simp] theorem mutF_45 : mutF Go.Proofs.Try.prog 45 = false := by kernel_rfl
@[simp] theorem newF_46 : newF Go.Proofs.Try.prog 46 = false := by kernel_rfl
@[simp] theorem mutF_46 : mutF Go.Proofs.Try.prog 46 = false := by kernel_rfl
@[simp] theorem newF_47 : newF Go.Proofs.Try.prog 47 = false := by kernel_rfl
@[simp] theorem mutF_47 : mutF Go.Proofs.Try.prog 47 = false := by kernel_rfl
@[simp] theorem newF_48 : newF Go.Proofs.Try.prog 48 = false := by kernel_rfl
@[simp] theorem mutF_48 : mutF Go.Proofs.Try.prog 48 = false := by kernel_rfl
@[simp] theorem newF_49 : newF Go.Proofs.Try.prog 49 = false := by kernel_rfl
@[simp] theorem mutF_49 : mutF Go.Proofs.Try.prog 49 = false := by kernel_rfl
@[simp] theorem newF_50 : newF Go.Proofs.Try.prog 50 = false := by kernel_rfl
@[simp] theorem mutF_50 : mutF Go.Proofs.Try.prog 50 = false := by kernel_rfl
@[simp] theorem newF_51 : newF Go.Proofs.Try.prog 51 = false := by kernel_rfl
@[simp] theorem mutF_51 : mutF Go.Proofs.Try.prog 51 = false := by kernel_rfl
@[simp] theorem newF_52 : newF Go.Proofs.Try.prog 52 = false := by kernel_rfl
@[simp] theorem mutF_52 : mutF Go.Proofs.Try.prog 52 = false := by kernel_rfl
@[simp] theorem newF_53 : newF Go.Proofs.Try.prog 53 = false := by kernel_rfl
@[simp] theorem mutF_53 : mutF Go.Proofs.Try.prog 53 = false := by kernel_rfl
@[simp] theorem newF_54 : newF Go.Proofs.Try.prog 54 = false := by kernel_rfl
@[simp] theorem mutF_54 : mutF Go.Proofs.Try.prog 54 = false := by kernel_rfl
@[simp] theorem newF_55 : newF Go.Proofs.Try.prog 55 = false := by kernel_rfl
@[simp] theorem mutF_55 : mutF Go.Proofs.Try.prog 55 = false := by kernel_rfl
@[simp] theorem newF_56 : newF Go.Proofs.Try.prog 56 = false := by kernel_rfl
@[simp] theorem mutF_56 : mutF Go.Proofs.Try.prog 56 = false := by kernel_rfl
@[simp] theorem newF_57 : newF Go.Proofs.Try.prog 57 = false := by kernel_rfl
@[simp] theorem mutF_57 : mutF Go.Proofs.Try.prog 57 = false := by kernel_rfl
@[simp] theorem newF_58 : newF Go.Proofs.Try.prog 58 = false := by kernel_rfl
@[simp] theorem mutF_58 : mutF Go.Proofs.Try.prog 58 = false := by kernel_rfl
@[simp] theorem newF_59 : newF Go.Proofs.Try.prog 59 = false := by kernel_rfl
@[simp] theorem mutF_59 : mutF Go.Proofs.Try.prog 59 = false := by kernel_rfl
@[simp] theorem newF_60 : newF Go.Proofs.Try.prog 60 = false := by kernel_rfl
@[simp] theorem mutF_60 : mutF Go.Proofs.Try.prog 60 = false := by kernel_rfl
@[simp] theorem newF_61 : newF Go.Proofs.Try.prog 61 = false := by kernel_rfl
@[simp] theorem mutF_61 : mutF Go.Proofs.Try.prog 61 = false := by kernel_rfl
@[simp] theorem newF_62 : newF Go.Proofs.Try.prog 62 = false := by kernel_rfl
@[simp] theorem mutF_62 : mutF Go.Proofs.Try.prog 62 = false := by kernel_rfl
@[simp] theorem newF_63 : newF Go.Proofs.Try.prog 63 = false := by kernel_rfl
@[simp] theorem mutF_63 : mutF Go.Proofs.Try.prog 63 = false := by kernel_rfl
@[simp] theorem newF_64 : newF Go.Proofs.Try.prog 64 = false := by kernel_rfl
@[simp] theorem mutF_64 : mutF Go.Proofs.Try.prog 64 = false := by kernel_rfl
@[simp] theorem newF_65 : newF Go.Proofs.Try.prog 65 = false := by kernel_rfl
@[simp] theorem mutF_65 : mutF Go.Proofs.Try.prog 65 = true := by kernel_rfl
@[simp] theorem newF_66 : newF Go.Proofs.Try.prog 66 = false := by kernel_rfl
@[simp] theorem mutF_66 : mutF Go.Proofs.Try.prog 66 = true := by kernel_rfl
@[simp] theorem newF_67 : newF Go.Proofs.Try.prog 67 = false := by kernel_rfl
@[simp] theorem mutF_67 : mutF Go.Proofs.Try.prog 67 = true := by kernel_rfl
@[simp] theorem newF_68 : newF Go.Proofs.Try.prog 68 = false := by kernel_rfl
@[simp] theorem mutF_68 : mutF Go.Proofs.Try.prog 68 = true := by kernel_rfl
@[simp] theorem newF_69 : newF Go.Proofs.Try.prog 69 = false := by kernel_rfl
@[simp] theorem mutF_69 : mutF Go.Proofs.Try.prog 69 = false := by kernel_rfl
@[simp] theorem newF_70 : newF Go.Proofs.Try.prog 70 = false := by kernel_rfl
@[simp] theorem mutF_70 : mutF Go.Proofs.Try.prog 70 = false := by kernel_rfl
@[simp] theorem newF_71 : newF Go.Proofs.Try.prog 71 = false := by kernel_rfl
@[simp] theorem mutF_71 : mutF Go.Proofs.Try.prog 71 = true := by kernel_rfl
@[simp] theorem newF_72 : newF Go.Proofs.Try.prog 72 = false := by kernel_rfl
@[simp] theorem mutF_72 : mutF Go.Proofs.Try.prog 72 = false := by kernel_rfl
@[simp] theorem newF_73 : newF Go.Proofs.Try.prog 73 = false := by kernel_rfl
@[simp] theorem mutF_73 : mutF Go.Proofs.Try.prog 73 = false := by kernel_rfl
@[simp] theorem newF_74 : newF Go.Proofs.Try.prog 74 = false := by kernel_rfl
@[simp] theorem mutF_74 : mutF Go.Proofs.Try.prog 74 = false := by kernel_rfl
@[simp] theorem newF_75 : newF Go.Proofs.Try.prog 75 = false := by kernel_rfl
@[simp] theorem mutF_75 : mutF Go.Proofs.Try.prog 75 = false := by kernel_rfl
@[simp] theorem newF_76 : newF Go.Proofs.Try.prog 76 = false := by kernel_rfl
@[simp] theorem mutF_76 : mutF Go.Proofs.Try.prog 76 = false := by kernel_rfl
@[simp] theorem newF_77 : newF Go.Proofs.Try.prog 77 = false := by kernel_rfl
@[simp] theorem mutF_77 : mutF Go.Proofs.Try.prog 77 = false := by kernel_rfl
@[simp] theorem newF_78 : newF Go.Proofs.Try.prog 78 = false := by kernel_rfl
@[simp] theorem mutF_78 : mutF Go.Proofs.Try.prog 78 = false := by kernel_rfl
@[simp] theorem newF_79 : newF Go.Proofs.Try.prog 79 = false := by kernel_rfl
@[simp] theorem mutF_79 : mutF Go.Proofs.Try.prog 79 = false := by kernel_rfl
@[simp] theorem newF_80 : newF Go.Proofs.Try.prog 80 = false := by kernel_rfl
@[simp] theorem mutF_80 : mutF Go.Proofs.Try.prog 80 = false := by kernel_rfl
@[simp] theorem newF_81 : newF Go.Proofs.Try.prog 81 = false := by kernel_rfl
@[simp] theorem mutF_81 : mutF Go.Proofs.Try.prog 81 = false := by kernel_rfl
@[simp] theorem newF_82 : newF Go.Proofs.Try.prog 82 = false := by kernel_rfl
@[simp] theorem mutF_82 : mutF Go.Proofs.Try.prog 82 = false := by kernel_rfl
@[simp] theorem newF_83 : newF Go.Proofs.Try.prog 83 = false := by kernel_rfl
@[simp] theorem mutF_83 : mutF Go.Proofs.Try.prog 83 = false := by kernel_rfl
@[simp] theorem newF_84 : newF Go.Proofs.Try.prog 84 = false := by kernel_rfl
@[simp] theorem mutF_84 : mutF Go.Proofs.Try.prog 84 = false := by kernel_rfl
@[simp] theorem newF_85 : newF Go.Proofs.Try.prog 85 = false := by kernel_rfl
@[simp] theorem mutF_85 : mutF Go.Proofs.Try.prog 85 = false := by kernel_rfl
@[simp] theorem newF_86 : newF Go.Proofs.Try.prog 86 = false := by kernel_rfl
@[simp] theorem mutF_86 : mutF Go.Proofs.Try.prog 86 = false := by kernel_rfl
@[simp] theorem newF_87 : newF Go.Proofs.Try.prog 87 = false := by kernel_rfl
@[simp] theorem mutF_87 : mutF Go.Proofs.Try.prog 87 = true := by kernel_rfl
@[simp] theorem newF_88 : newF Go.Proofs.Try.prog 88 = false := by kernel_rfl
@[simp] theorem mutF_88 : mutF Go.Proofs.Try.prog 88 = true := by kernel_rfl
@[simp] theorem newF_89 : newF Go.Proofs.Try.prog 89 = false := by kernel_rfl
@[simp] theorem mutF_89 : mutF Go.Proofs.Try.prog 89 = false := by kernel_rfl
@[simp] theorem newF_90 : newF Go.Proofs.Try.prog 90 = false := by kernel_rfl
@[simp] theorem mutF_90 : mutF Go.Proofs.Try.prog 90 = true := by kernel_rfl
@[simp] theorem newF_91 : newF Go.Proofs.Try.prog 91 = false := by kernel_rfl
@[simp] theorem mutF_91 : mutF Go.Proofs.Try.prog 91 = false := by kernel_rfl
@[simp] theorem newF_92 : newF Go.Proofs.Try.prog 92 = false := by kernel_rfl
@[simp] theorem mutF_92 : mutF Go.Proofs.Try.prog 92 = true := by kernel_rfl
@[simp] theorem newF_93 : newF Go.Proofs.Try.prog 93 = true := by kernel_rfl
@[simp] theorem mutF_93 : mutF Go.Proofs.Try.prog 93 = false := by kernel_rfl
@[simp] theorem newF_94 : newF Go.Proofs.Try.prog 94 = false := by kernel_rfl
@[simp] theorem mutF_94 : mutF Go.Proofs.Try.prog 94 = false := by kernel_rfl
@[simp] theorem newF_95 : newF Go.Proofs.Try.prog 95 = false := by kernel_rfl
@[simp] theorem mutF_95 : mutF Go.Proofs.Try.prog 95 = false := by kernel_rfl
@[simp] theorem newF_96 : newF Go.Proofs.Try.prog 96 = false := by kernel_rfl
@[simp] theorem mutF_96 : mutF Go.Proofs.Try.prog 96 = false := by kernel_rfl
@[simp] theorem newF_97 : newF Go.Proofs.Try.prog 97 = false := by kernel_rfl
@[simp] theorem mutF_97 : mutF Go.Proofs.Try.prog 97 = false := by kernel_rfl
@[simp] theorem newF_98 : newF Go.Proofs.Try.prog 98 = false := by kernel_rfl
@[simp] theorem mutF_98 : mutF Go.Proofs.Try.prog 98 = false := by kernel_rfl
@[simp] theorem newF_99 : newF Go.Proofs.Try.prog 99 = false := by kernel_rfl
@[simp] theorem mutF_99 : mutF Go.Proofs.Try.prog 99 = true := by kernel_rfl
@[simp] theorem newF_100 : newF Go.Proofs.Try.prog 100 = false := by kernel_rfl
@[simp] theorem mutF_100 : mutF Go.Proofs.Try.prog 100 = false := by kernel_rfl
@[simp] theorem newF_101 : newF Go.Proofs.Try.prog 101 = false := by kernel_rfl
@[simp] theorem mutF_101 : mutF Go.Proofs.Try.prog 101 = true := by kernel_rfl
@[simp] theorem newF_102 : newF Go.Proofs.Try.prog 102 = false := by kernel_rfl
@[simp] theorem mutF_102 : mutF Go.Proofs.Try.prog 102 = true := by kernel_rfl
@[simp] theorem newF_103 : newF Go.Proofs.Try.prog 103 = false := by kernel_rfl
@[simp] theorem mutF_103 : mutF Go.Proofs.Try.prog 103 = false := by kernel_rfl
@[simp] theorem newF_104 : newF Go.Proofs.Try.prog 104 = false := by kernel_rfl
@[simp] theorem mutF_104 : mutF Go.Proofs.Try.prog 104 = true := by kernel_rfl
@[simp] theorem newF_105 : newF Go.Proofs.Try.prog 105 = false := by kernel_rfl
@[simp] theorem mutF_105 : mutF Go.Proofs.Try.prog 105 = true := by kernel_rfl
@[simp] theorem newF_106 : newF Go.Proofs.Try.prog 106 = false := by kernel_rfl
@[simp] theorem mutF_106 : mutF Go.Proofs.Try.prog 106 = true := by kernel_rfl
@[simp] theorem newF_107 : newF Go.Proofs.Try.prog 107 = false := by kernel_rfl
@[simp] theorem mutF_107 : mutF Go.Proofs.Try.prog 107 = false := by kernel_rfl
@[simp] theorem newF_108 : newF Go.Proofs.Try.prog 108 = false := by kernel_rfl
@[simp] theorem mutF_108 : mutF Go.Proofs.Try.prog 108 = false := by kernel_rfl
@[simp] theorem newF_109 : newF Go.Proofs.Try.prog 109 = false := by kernel_rfl
@[simp] theorem mutF_109 : mutF Go.Proofs.Try.prog 109 = false := by kernel_rfl
@[simp] theorem newF_110 : newF Go.Proofs.Try.prog 110 = false := by kernel_rfl
@[simp] theorem mutF_110 : mutF Go.Proofs.Try.prog 110 = false := by kernel_rfl
@[simp] theorem newF_111 : newF Go.Proofs.Try.prog 111 = false := by kernel_rfl
@[simp] theorem mutF_111 : mutF Go.Proofs.Try.prog 111 = true := by kernel_rfl
@[simp] theorem newF_112 : newF Go.Proofs.Try.prog 112 = false := by kernel_rfl
@[simp] theorem mutF_112 : mutF Go.Proofs.Try.prog 112 = false := by kernel_rfl
@[simp] theorem newF_113 : newF Go.Proofs.Try.prog 113 = false := by kernel_rfl
@[simp] theorem mutF_113 : mutF Go.Proofs.Try.prog 113 = false := by kernel_rfl
@[simp] theorem newF_114 : newF Go.Proofs.Try.prog 114 = false := by kernel_rfl
@[simp] theorem mutF_114 : mutF Go.Proofs.Try.prog 114 = false := by kernel_rfl
@[simp] theorem newF_115 : newF Go.Proofs.Try.prog 115 = false := by kernel_rfl
@[simp] theorem mutF_115 : mutF Go.Proofs.Try.prog 115 = false := by kernel_rfl
@[simp] theorem newF_116 : newF Go.Proofs.Try.prog 116 = false := by kernel_rfl
@[simp] theorem mutF_116 : mutF Go.Proofs.Try.prog 116 = false := by kernel_rfl
@[simp] theorem newF_117 : newF Go.Proofs.Try.prog 117 = false := by kernel_rfl
@[simp] theorem mutF_117 : mutF Go.Proofs.Try.prog 117 = false := by kernel_rfl
@[simp] theorem newF_118 : newF Go.Proofs.Try.prog 118 = false := by kernel_rfl
@[simp] theorem mutF_118 : mutF Go.Proofs.Try.prog 118 = true := by kernel_rfl
@[simp] theorem newF_119 : newF Go.Proofs.Try.prog 119 = false := by kernel_rfl
@[simp] theorem mutF_119 : mutF Go.Proofs.Try.prog 119 = true := by kernel_rfl
@[simp] theorem newF_120 : newF Go.Proofs.Try.prog 120 = false := by kernel_rfl
@[simp] theorem mutF_120 : mutF Go.Proofs.Try.prog 120 = true := by kernel_rfl
@[simp] theorem newF_121 : newF Go.Proofs.Try.prog 121 = false := by kernel_rfl
@[simp] theorem mutF_121 : mutF Go.Proofs.Try.prog 121 = false := by kernel_rfl
@[simp] theorem newF_122 : newF Go.Proofs.Try.prog 122 = false := by kernel_rfl
@[simp] theorem mutF_122 : mutF Go.Proofs.Try.prog 122 = true := by kernel_rfl
@[simp] theorem newF_123 : newF Go.Proofs.Try.prog 123 = false := by kernel_rfl
@[simp] theorem mutF_123 : mutF Go.Proofs.Try.prog 123 = false := by kernel_rfl
@[simp] theorem newF_124 : newF Go.Proofs.Try.prog 124 = false := by kernel_rfl
@[simp] theorem mutF_124 : mutF Go.Proofs.Try.prog 124 = false := by kernel_rfl
@[simp] theorem newF_125 : newF Go.Proofs.Try.prog 125 = false := by kernel_rfl
@[simp] theorem mutF_125 : mutF Go.Proofs.Try.prog 125 = true := by kernel_rfl
@[simp] theorem newF_126 : newF Go.Proofs.Try.prog 126 = false := by kernel_rfl
@[simp] theorem mutF_126 : mutF Go.Proofs.Try.prog 126 = false := by kernel_rfl
@[simp] theorem newF_127 : newF Go.Proofs.Try.prog 127 = false := by kernel_rfl
@[simp] theorem mutF_127 : mutF Go.Proofs.Try.prog 127 = false := by kernel_rfl
@[simp] theorem newF_128 : newF Go.Proofs.Try.prog 128 = false := by kernel_rfl
@[simp] theorem mutF_128 : mutF Go.Proofs.Try.prog 128 = false := by kernel_rfl
@[simp] theorem newF_129 : newF Go.Proofs.Try.prog 129 = false := by kernel_rfl
@[simp] theorem mutF_129 : mutF Go.Proofs.Try.prog 129 = true := by kernel_rfl
@[simp] theorem newF_130 : newF Go.Proofs.Try.prog 130 = false := by kernel_rfl
@[simp] theorem mutF_130 : mutF Go.Proofs.Try.prog 130 = true := by kernel_rfl
@[simp] theorem newF_131 : newF Go.Proofs.Try.prog 131 = false := by kernel_rfl
@[simp] theorem mutF_131 : mutF Go.Proofs.Try.prog 131 = true := by kernel_rfl
@[simp] theorem newF_132 : newF Go.Proofs.Try.prog 132 = false := by kernel_rfl
@[simp] theorem mutF_132 : mutF Go.Proofs.Try.prog 132 = false := by kernel_rfl
@[simp] theorem newF_133 : newF Go.Proofs.Try.prog 133 = false := by kernel_rfl
@[simp] theorem mutF_133 : mutF Go.Proofs.Try.prog 133 = true := by kernel_rfl
@[simp] theorem newF_134 : newF Go.Proofs.Try.prog 134 = false := by kernel_rfl
@[simp] theorem mutF_134 : mutF Go.Proofs.Try.prog 134 = false := by kernel_rfl
@[simp] theorem newF_135 : newF Go.Proofs.Try.prog 135 = false := by kernel_rfl
@[simp] theorem mutF_135 : mutF Go.Proofs.Try.prog 135 = false := by kernel_rfl
@[simp] theorem newF_136 : newF Go.Proofs.Try.prog 136 = false := by kernel_rfl
@[simp] theorem mutF_136 : mutF Go.Proofs.Try.prog 136 = false := by kernel_rfl
@[simp] theorem newF_137 : newF Go.Proofs.Try.prog 137 = false := by kernel_rfl
@[simp] theorem mutF_137 : mutF Go.Proofs.Try.prog 137 = false := by kernel_rfl
@[simp] theorem newF_138 : newF Go.Proofs.Try.prog 138 = false := by kernel_rfl
@[simp] theorem mutF_138 : mutF Go.Proofs.Try.prog 138 = false := by kernel_rfl
@[simp] theorem newF_139 : newF Go.Proofs.Try.prog 139 = false := by kernel_rfl
@[simp] theorem mutF_139 : mutF Go.Proofs.Try.prog 139 = false := by kernel_rfl
@[simp] theorem newF_140 : newF Go.Proofs.Try.prog 140 = false := by kernel_rfl
@[simp] theorem mutF_140 : mutF Go.Proofs.Try.prog 140 = true := by kernel_rfl
@[simp] theorem newF_141 : newF Go.Proofs.Try.prog 141 = false := by kernel_rfl
@[simp] theorem mutF_141 : mutF Go.Proofs.Try.prog 141 = false := by kernel_rfl
@[simp] theorem newF_142 : newF Go.Proofs.Try.prog 142 = false := by kernel_rfl
@[simp] theorem mutF_142 : mutF Go.Proofs.Try.prog 142 = false := by kernel_rfl
@[simp] theorem newF_143 : newF Go.Proofs.Try.prog 143 = false := by kernel_rfl
@[simp] theorem mutF_143 : mutF Go.Proofs.Try.prog 143 = false := by kernel_rfl
@[simp] theorem newF_144 : newF Go.Proofs.Try.prog 144 = false := by kernel_rfl
@[simp] theorem mutF_144 : mutF Go.Proofs.Try.prog 144 = false := by kernel_rfl
@[simp] theorem newF_145 : newF Go.Proofs.Try.prog 145 = false := by kernel_rfl
@[simp] theorem mutF_145 : mutF Go.Proofs.Try.prog 145 = false := by kernel_rfl
@[simp] theorem newF_146 : newF Go.Proofs.Try.prog 146 = false := by kernel_rfl
@[simp] theorem mutF_146 : mutF Go.Proofs.Try.prog 146 = false := by kernel_rfl
@[simp] theorem newF_147 : newF Go.Proofs.Try.prog 147 = false := by kernel_rfl
@[simp] theorem mutF_147 : mutF Go.Proofs.Try.prog 147 = true := by kernel_rfl
@[simp] theorem newF_148 : newF Go.Proofs.Try.prog 148 = false := by kernel_rfl
@[simp] theorem mutF_148 : mutF Go.Proofs.Try.prog 148 = false := by kernel_rfl
@[simp] theorem newF_149 : newF Go.Proofs.Try.prog 149 = false := by kernel_rfl
@[simp] theorem mutF_149 : mutF Go.Proofs.Try.prog 149 = true := by kernel_rfl
@[simp] theorem newF_150 : newF Go.Proofs.Try.prog 150 = false := by kernel_rfl
@[simp] theorem mutF_150 : mutF Go.Proofs.Try.prog 150 = false := by kernel_rfl
@[simp] theorem newF_151 : newF Go.Proofs.Try.prog 151 = false := by kernel_rfl
@[simp] theorem mutF_151 : mutF Go.Proofs.Try.prog 151 = true := by kernel_rfl
@[simp] theorem newF_152 : newF Go.Proofs.Try.prog 152 = false := by kernel_rfl
@[simp] theorem mutF_152 : mutF Go.Proofs.Try.prog 152 = false := by kernel_rfl
@[simp] theorem newF_153 : newF Go.Proofs.Try.prog 153 = false := by kernel_rfl
@[simp] theorem mutF_153 : mutF Go.Proofs.Try.prog 153 = true := by kernel_rfl
@[simp] theorem newF_154 : newF Go.Proofs.Try.prog 154 = false := by kernel_rfl
@[simp] theorem mutF_154 : mutF Go.Proofs.Try.prog 154 = false := by kernel_rfl
@[simp] theorem newF_155 : newF Go.Proofs.Try.prog 155 = false := by kernel_rfl
@[simp] theorem mutF_155 : mutF Go.Proofs.Try.prog 155 = true := by kernel_rfl
@[simp] theorem newF_156 : newF Go.Proofs.Try.prog 156 = false := by kernel_rfl
@[simp] theorem mutF_156 : mutF Go.Proofs.Try.prog 156 = false := by kernel_rfl
@[simp] theorem newF_157 : newF Go.Proofs.Try.prog 157 = false := by kernel_rfl
@[simp] theorem mutF_157 : mutF Go.Proofs.Try.prog 157 = true := by kernel_rfl
@[simp] theorem newF_158 : newF Go.Proofs.Try.prog 158 = false := by kernel_rfl
@[simp] theorem mutF_158 : mutF Go.Proofs.Try.prog 158 = false := by kernel_rfl
@[simp] theorem newF_159 : newF Go.Proofs.Try.prog 159 = false := by kernel_rfl
@[simp] theorem mutF_159 : mutF Go.Proofs.Try.prog 159 = false := by kernel_rfl
@[simp] theorem newF_160 : newF Go.Proofs.Try.prog 160 = false := by kernel_rfl
@[simp] theorem mutF_160 : mutF Go.Proofs.Try.prog 160 = true := by kernel_rfl
@[simp] theorem newF_161 : newF Go.Proofs.Try.prog 161 = false := by kernel_rfl
@[simp] theorem mutF_161 : mutF Go.Proofs.Try.prog 161 = false := by kernel_rfl
@[simp] theorem newF_162 : newF Go.Proofs.Try.prog 162 = false := by kernel_rfl
@[simp] theorem mutF_162 : mutF Go.Proofs.Try.prog 162 = false := by kernel_rfl

end Go.Am

namespace Go.Proofs
open Go.RowKit Go.Maps Go.Sort Go.Shelf
def Try.keysA_ren : Go.Shelf.Ren := ⟨fun | 7 => 87 | 10 => 119 | n => n, fun | 23 => 98 | 26 => 3 | 3 => 32 | 28 => 124 | 0 => 0 | 27 => 123 | 33 => 144 | 4 => 4 | n => n, fun | n => n⟩
theorem Try.keysA : Go.Proofs.SlLaysZI.n7 Try.prog Try.keysA_ren := {
  mixed := by kernel_rfl,
  f7 := ⟨Try.f87.name, by decide, Try.func87.trans (congrArg some (by kernel_rfl))⟩,
  f10 := ⟨Try.f119.name, by decide, Try.func119.trans (congrArg some (by kernel_rfl))⟩,
  t0 := Try.underlying0,
  a0 := Try.isAgg0,
  z0 := Try.sizeOf0,
  v0 := Try.zeroValue0,
  t4 := Try.underlying4,
  a4 := Try.isAgg4,
  z4 := Try.sizeOf4,
  v4 := Try.zeroValue4,
  t23 := Try.underlying98,
  a23 := Try.isAgg98,
  z23 := Try.sizeOf98,
  v23 := Try.zeroValue98,
  t26 := Try.underlying3,
  a26 := Try.isAgg3,
  z26 := Try.sizeOf3,
  v26 := Try.zeroValue3,
  t27 := Try.underlying123,
  a27 := Try.isAgg123,
  z27 := Try.sizeOf123,
  v27 := Try.zeroValue123,
  t28 := Try.underlying124,
  a28 := Try.isAgg124,
  z28 := Try.sizeOf124,
  v28 := Try.zeroValue124,
  t33 := Try.underlying144,
  a33 := Try.isAgg144,
  z33 := Try.sizeOf144,
  v33 := Try.zeroValue144 }

def Try.keysB_ren : Go.Shelf.Ren := ⟨fun | 7 => 106 | 10 => 122 | n => n, fun | 23 => 99 | 26 => 3 | 3 => 32 | 28 => 124 | 0 => 0 | 27 => 123 | 33 => 144 | 4 => 4 | n => n, fun | n => n⟩
theorem Try.keysB : Go.Proofs.SlLaysZI.n7 Try.prog Try.keysB_ren := {
  mixed := by kernel_rfl,
  f7 := ⟨Try.f106.name, by decide, Try.func106.trans (congrArg some (by kernel_rfl))⟩,
  f10 := ⟨Try.f122.name, by decide, Try.func122.trans (congrArg some (by kernel_rfl))⟩,
  t0 := Try.underlying0,
  a0 := Try.isAgg0,
  z0 := Try.sizeOf0,
  v0 := Try.zeroValue0,
  t4 := Try.underlying4,
  a4 := Try.isAgg4,
  z4 := Try.sizeOf4,
  v4 := Try.zeroValue4,
  t23 := Try.underlying99,
  a23 := Try.isAgg99,
  z23 := Try.sizeOf99,
  v23 := Try.zeroValue99,
  t26 := Try.underlying3,
  a26 := Try.isAgg3,
  z26 := Try.sizeOf3,
  v26 := Try.zeroValue3,
  t27 := Try.underlying123,
  a27 := Try.isAgg123,
  z27 := Try.sizeOf123,
  v27 := Try.zeroValue123,
  t28 := Try.underlying124,
  a28 := Try.isAgg124,
  z28 := Try.sizeOf124,
  v28 := Try.zeroValue124,
  t33 := Try.underlying144,
  a33 := Try.isAgg144,
  z33 := Try.sizeOf144,
  v33 := Try.zeroValue144 }

def Try.sortedA_ren : Go.Shelf.Ren := ⟨fun | 6 => 86 | 8 => 117 | 9 => 118 | 11 => 124 | 13 => 126 | 12 => 125 | 23 => 138 | 24 => 139 | 14 => 129 | 15 => 130 | 16 => 131 | 17 => 132 | 18 => 133 | 19 => 134 | 20 => 135 | 21 => 136 | 22 => 137 | 25 => 140 | 26 => 141 | 27 => 142 | 28 => 143 | 29 => 144 | 30 => 127 | 31 => 145 | n => n, fun | 26 => 3 | 28 => 124 | 24 => 121 | 0 => 0 | 3 => 3 | 37 => 105 | 48 => 104 | 50 => 102 | 4 => 4 | 40 => 155 | 39 => 154 | 45 => 147 | 5 => 5 | 9 => 9 | 51 => 163 | 55 => 167 | 57 => 169 | 58 => 170 | 33 => 144 | n => n, fun | n => n⟩
theorem Try.sortedA : Go.Proofs.SlLaysZI.n6 Try.prog Try.sortedA_ren := {
  mixed := by kernel_rfl,
  f6 := ⟨Try.f86.name, by decide, Try.func86.trans (congrArg some (by kernel_rfl))⟩,
  f8 := ⟨Try.f117.name, by decide, Try.func117.trans (congrArg some (by kernel_rfl))⟩,
  f11 := ⟨Try.f124.name, by decide, Try.func124.trans (congrArg some (by kernel_rfl))⟩,
  t0 := Try.underlying0,
  a0 := Try.isAgg0,
  z0 := Try.sizeOf0,
  v0 := Try.zeroValue0,
  t24 := Try.underlying121,
  a24 := Try.isAgg121,
  z24 := Try.sizeOf121,
  v24 := Try.zeroValue121,
  t26 := Try.underlying3,
  a26 := Try.isAgg3,
  z26 := Try.sizeOf3,
  v26 := Try.zeroValue3,
  t28 := Try.underlying124,
  a28 := Try.isAgg124,
  z28 := Try.sizeOf124,
  v28 := Try.zeroValue124,
  i26 := by kernel_rfl }

def Try.sortA_ren : Go.Shelf.Ren := ⟨fun | 5 => 118 | 8 => 126 | 7 => 125 | 19 => 138 | 20 => 139 | 10 => 129 | 11 => 130 | 12 => 131 | 13 => 132 | 14 => 133 | 15 => 134 | 16 => 135 | 17 => 136 | 18 => 137 | 30 => 140 | 31 => 141 | 32 => 142 | 33 => 143 | 34 => 144 | 35 => 127 | 40 => 145 | n => n, fun | 23 => 121 | 25 => 3 | 3 => 3 | 32 => 105 | 22 => 121 | 0 => 0 | 44 => 104 | 46 => 102 | 4 => 4 | 36 => 155 | 35 => 154 | 41 => 147 | 5 => 5 | 9 => 9 | 53 => 163 | 57 => 167 | 63 => 169 | 64 => 170 | n => n, fun | n => n⟩
theorem Try.sortA : Go.Proofs.SlLaysM.n5 Try.prog Try.sortA_ren := {
  mixed := by kernel_rfl,
  f5 := ⟨Try.f118.name, by decide, Try.func118.trans (congrArg some (by kernel_rfl))⟩,
  f7 := ⟨Try.f125.name, by decide, Try.func125.trans (congrArg some (by kernel_rfl))⟩,
  f8 := Try.func126.trans (congrArg some (by kernel_rfl)),
  f10 := ⟨Try.f129.name, by decide, Try.func129.trans (congrArg some (by kernel_rfl))⟩,
  f11 := ⟨Try.f130.name, by decide, Try.func130.trans (congrArg some (by kernel_rfl))⟩,
  f12 := ⟨Try.f131.name, by decide, Try.func131.trans (congrArg some (by kernel_rfl))⟩,
  f13 := ⟨Try.f132.name, by decide, Try.func132.trans (congrArg some (by kernel_rfl))⟩,
  f14 := ⟨Try.f133.name, by decide, Try.func133.trans (congrArg some (by kernel_rfl))⟩,
  f15 := ⟨Try.f134.name, by decide, Try.func134.trans (congrArg some (by kernel_rfl))⟩,
  f16 := ⟨Try.f135.name, by decide, Try.func135.trans (congrArg some (by kernel_rfl))⟩,
  f17 := ⟨Try.f136.name, by decide, Try.func136.trans (congrArg some (by kernel_rfl))⟩,
  f18 := ⟨Try.f137.name, by decide, Try.func137.trans (congrArg some (by kernel_rfl))⟩,
  f19 := Try.func138.trans (congrArg some (by kernel_rfl)),
  f20 := Try.func139.trans (congrArg some (by kernel_rfl)),
  f30 := ⟨Try.f140.name, by decide, Try.func140.trans (congrArg some (by kernel_rfl))⟩,
  f31 := Try.func141.trans (congrArg some (by kernel_rfl)),
  f32 := Try.func142.trans (congrArg some (by kernel_rfl)),
  f33 := ⟨Try.f143.name, by decide, Try.func143.trans (congrArg some (by kernel_rfl))⟩,
  f34 := ⟨Try.f144.name, by decide, Try.func144.trans (congrArg some (by kernel_rfl))⟩,
  f35 := ⟨Try.f127.name, by decide, Try.func127.trans (congrArg some (by kernel_rfl))⟩,
  f40 := ⟨Try.f145.name, by decide, Try.func145.trans (congrArg some (by kernel_rfl))⟩,
  t0 := Try.underlying0,
  a0 := Try.isAgg0,
  z0 := Try.sizeOf0,
  v0 := Try.zeroValue0,
  t3 := Try.underlying3,
  a3 := Try.isAgg3,
  z3 := Try.sizeOf3,
  v3 := Try.zeroValue3,
  t4 := Try.underlying4,
  a4 := Try.isAgg4,
  z4 := Try.sizeOf4,
  v4 := Try.zeroValue4,
  t5 := Try.underlying5,
  a5 := Try.isAgg5,
  z5 := Try.sizeOf5,
  v5 := Try.zeroValue5,
  t9 := Try.underlying9,
  a9 := Try.isAgg9,
  z9 := Try.sizeOf9,
  v9 := Try.zeroValue9,
  t22 := Try.underlying121,
  a22 := Try.isAgg121,
  z22 := Try.sizeOf121,
  v22 := Try.zeroValue121,
  t23 := Try.underlying121,
  a23 := Try.isAgg121,
  z23 := Try.sizeOf121,
  v23 := Try.zeroValue121,
  t25 := Try.underlying3,
  a25 := Try.isAgg3,
  z25 := Try.sizeOf3,
  v25 := Try.zeroValue3,
  t32 := Try.underlying105,
  a32 := Try.isAgg105,
  z32 := Try.sizeOf105,
  v32 := Try.zeroValue105,
  t35 := Try.underlying154,
  a35 := Try.isAgg154,
  z35 := Try.sizeOf154,
  v35 := Try.zeroValue154,
  t36 := Try.underlying155,
  a36 := Try.isAgg155,
  z36 := Try.sizeOf155,
  v36 := Try.zeroValue155,
  t41 := Try.underlying147,
  a41 := Try.isAgg147,
  z41 := Try.sizeOf147,
  v41 := Try.zeroValue147,
  t44 := Try.underlying104,
  a44 := Try.isAgg104,
  z44 := Try.sizeOf104,
  v44 := Try.zeroValue104,
  t46 := Try.underlying102,
  a46 := Try.isAgg102,
  z46 := Try.sizeOf102,
  v46 := Try.zeroValue102,
  t53 := Try.underlying163,
  a53 := Try.isAgg163,
  z53 := Try.sizeOf163,
  v53 := Try.zeroValue163,
  t57 := Try.underlying167,
  a57 := Try.isAgg167,
  z57 := Try.sizeOf167,
  v57 := Try.zeroValue167,
  t63 := Try.underlying169,
  a63 := Try.isAgg169,
  z63 := Try.sizeOf169,
  v63 := Try.zeroValue169,
  t64 := Try.underlying170,
  a64 := Try.isAgg170,
  z64 := Try.sizeOf170,
  v64 := Try.zeroValue170 }

theorem Try.sortsA (m : Nat) : AnyZI.SortsIn Try.prog Try.sortedA_ren Fence.wide m :=
  ⟨fun blk off cap ss W hH hblk hsz => callsIn_wide.2 (AnyM.slices_Sort_int Try.sortA blk off cap ss W hH hblk hsz),
   fun p cap W => callsIn_wide.2 (AnyM.slices_Sort_int_none Try.sortA p cap W)⟩

theorem Try.keys87 : Am.KeysSpec Try.prog 87 119 := fun W b =>
  ⟨fun w => enters_of Try.func87 (by kernel_rfl) rfl _ w, (callsIn_wide (n := 5)).1 ((AnyZI.keys_in Try.keysA Fence.wide 5 trivial rfl (some b) W).mono (by rintro e w' ⟨rfl, rfl⟩; exact ⟨_, rfl, rfl⟩))⟩

theorem Try.keys106 : Am.KeysSpec Try.prog 106 122 := fun W b =>
  ⟨fun w => enters_of Try.func106 (by kernel_rfl) rfl _ w, (callsIn_wide (n := 5)).1 ((AnyZI.keys_in Try.keysB Fence.wide 5 trivial rfl (some b) W).mono (by rintro e w' ⟨rfl, rfl⟩; exact ⟨_, rfl, rfl⟩))⟩

theorem isort_perm : ∀ l : List Int, (Am.isort l).Perm l
  | [] => .nil
  | n :: l => by
    have h1 : ∀ (m : List Int), (Am.ins n m).Perm (n :: m) := by
      intro m
      induction m with
      | nil => exact .refl _
      | cons x m ih =>
        unfold Am.ins
        split
        · exact .refl _
        · exact (ih.cons x).trans (.swap n x m)
    exact (h1 _).trans ((isort_perm l).cons n)

theorem isort_sorted : ∀ l : List Int, (Am.isort l).Pairwise (fun a b => a ≤ b)
  | [] => .nil
  | n :: l => by
    have h1 : ∀ (m : List Int), m.Pairwise (fun a b => a ≤ b) → (Am.ins n m).Pairwise (fun a b => a ≤ b) := by
      intro m
      induction m with
      | nil => intro _; simp [Am.ins]
      | cons x m ih =>
        intro h
        unfold Am.ins
        have h' := List.pairwise_cons.1 h
        split
        · rename_i hx
          exact List.pairwise_cons.2 ⟨fun a ha => by
            rcases List.mem_cons.1 ha with rfl | ha
            · exact hx
            · exact Int.le_trans hx (h'.1 a ha), h⟩
        · rename_i hx
          refine List.pairwise_cons.2 ⟨fun a ha => ?_, ih h'.2⟩
          have hp : (Am.ins n m).Perm (n :: m) := by
            clear ih h h' ha
            induction m with
            | nil => exact .refl _
            | cons y m ih =>
              unfold Am.ins
              split
              · exact .refl _
              · exact (ih.cons y).trans (.swap n y m)
          rcases List.mem_cons.1 (hp.mem_iff.1 ha) with rfl | ha
          · omega
          · exact h'.1 a ha
    exact h1 _ (isort_sorted l)

theorem mergeSort_isort (ss ks : List Int) (h : ss.Perm ks) : ss.mergeSort (fun x y => decide (x ≤ y)) = Am.isort ks := by
  have tr : ∀ a b c : Int, decide (a ≤ b) = true → decide (b ≤ c) = true → decide (a ≤ c) = true := fun a b c h1 h2 => by simp only [decide_eq_true_eq] at *; exact Int.le_trans h1 h2
  have to : ∀ a b : Int, (decide (a ≤ b) || decide (b ≤ a)) = true := fun a b => by simp only [Bool.or_eq_true, decide_eq_true_eq]; exact Int.le_total a b
  refine List.Perm.eq_of_pairwise (le := fun a b => decide (a ≤ b) = true) (fun a b _ _ h1 h2 => ?_) (List.pairwise_mergeSort tr to ss) ((isort_sorted ks).imp fun h => by simpa using h) (((List.mergeSort_perm ss _).trans h).trans (isort_perm ks).symm)
  simp only [decide_eq_true_eq] at h1 h2
  exact Int.le_antisymm h1 h2

theorem keyOf_ok {P : Program} {k : TypeId} (hk : P.underlying k = some (.int .i64)) {n : Int} (hn : Am.inr n = true) : keyOf P k (.int .i64 n) = some (.int .i64 n) := by
  have hw : (Lit.int .i64 n).wf = true := by
    have hmin : IntKind.i64.min = -9223372036854775808 := rfl
    have hmax : IntKind.i64.max = 9223372036854775807 := rfl
    simp only [Am.inr, decide_eq_true_eq] at hn
    simp only [Lit.wf, Bool.and_eq_true, decide_eq_true_eq]
    omega
  simp [keyOf, hk, mapKey, hw]

set_option maxRecDepth 20000 in
theorem sorted_core (f g : FuncId) (T3 : TypeId) (hk3 : Try.prog.underlying T3 = some (.int .i64)) (hent : ∀ args w, (callFunc f args).run Try.prog w = .ok (.enter f args) w)
    (hS : ∀ (lb : Array Value) (S : List Int → Prop) (N : Nat), N ≤ maxLen → N * 8 ≤ 140737488355328 → ∀ w, SeqGives Fence.wide 2 Try.prog g lb encZ S N w → CallsIn Fence.wide 5 Try.prog f #[.func (.func g) #[] lb] w fun e w' =>
      ∃ v ss, e = .returned v ∧ S ss ∧ w'.ownsRow w.heap.size T3 1 v ss.length ((ss.mergeSort fun x y => decide (x ≤ y)).map encZ) ∧ (v = .slice none 0 0 ↔ ss = []) ∧ Below w.heap.size w w')
    (hG : ∀ (Bm b nn : Nat) (D0 : DataW Unit) (R : Value → Option (DataW Unit × List MemPlace)) (w : World), Bm < w.heap.size → w.cell? ⟨Bm, 0, none⟩ = some (.map (some b)) → w.ownsMap Try.prog T3 R b nn D0 →
      SeqGives Fence.wide 2 Try.prog g #[.pointer (some ⟨Bm, 0, none⟩)] encZ (fun ss => ss.Perm (intKeys D0)) (Maps.size D0) w) : Am.SortedSpec Try.prog f g := by
  intro W b p e ks ents clock hb hst hkeys hp hlen hr
  refine ⟨fun w => hent _ w, (callsIn_wide (n := 5)).1 ?_⟩
  have hpl : p < W.heap.size := (Array.getElem?_eq_some_iff.1 hp).1
  have hcell : W.cell? ⟨p, 0, none⟩ = some (.map (some b)) := by
    rw [show W.cell? ⟨p, 0, none⟩ = (#[Value.map (some b)] : Array Value)[0]? from cell_of_row W p 0 _ e (0, 0) hp]; rfl
  have hsz : ents.size = ks.length := by have := congrArg List.length hkeys; simpa using this
  let R : Value → Option (DataW Unit × List MemPlace) := fun _ => some (.nil, [])
  have hrd : ∀ x ∈ ents.toList, ∃ n, n ∈ ks ∧ x.key = .int .i64 n ∧ WideElems.rd Try.prog T3 R x = some (.int .i64 n, .nil) := by
    intro x hx
    have : x.key ∈ ks.map (.int .i64 ·) := by rw [← hkeys]; exact List.mem_map_of_mem hx
    obtain ⟨n, hn, he⟩ := List.mem_map.1 this
    refine ⟨n, hn, he.symm, ?_⟩
    simp [WideElems.rd, ← he, keyOf_ok hk3 (List.all_eq_true.1 hr n hn), R]
  have hfit : WideElems.Fit Try.prog T3 R ents clock := ⟨by rw [hsz]; simp only [maxLen]; omega, hst, fun x hx => let ⟨n, _, _, h⟩ := hrd x hx; ⟨_, h⟩⟩
  have hks2 : ∀ (l : List MapEntry) (k : List Int), l.map (·.key) = k.map (.int .i64 ·) → (∀ x ∈ l, ∃ n, n ∈ ks ∧ x.key = .int .i64 n ∧ WideElems.rd Try.prog T3 R x = some (.int .i64 n, .nil)) → (l.map (WideElems.rg Try.prog T3 R)).map (fun q => Go.intOf q.1) = k := by
    intro l
    induction l with
    | nil => intro k hk _; cases k with
      | nil => rfl
      | cons => simp at hk
    | cons x l ih =>
      intro k hk h
      cases k with
      | nil => simp at hk
      | cons m k =>
        simp only [List.map_cons, List.cons.injEq] at hk ⊢
        refine ⟨?_, ih k hk.2 fun y hy => h y (List.mem_cons_of_mem _ hy)⟩
        obtain ⟨n, _, hxn, hxr⟩ := h x (List.mem_cons_self ..)
        rw [hxn] at hk
        have := hk.1
        injection this with _ this
        simp [WideElems.rg, hxr, Go.intOf, this]
  have hD : (intKeys (.map ((ents.toList.map (WideElems.rg Try.prog T3 R)).foldr DataW.insert []))).Perm ks := by
    show (((ents.toList.map (WideElems.rg Try.prog T3 R)).foldr DataW.insert []).map fun q => Go.intOf q.1).Perm ks
    have h1 := (WideShapes.sorted_perm (ents.toList.map (WideElems.rg Try.prog T3 R))).map (fun q : Lit × DataW Unit => Go.intOf q.1)
    rwa [hks2 _ ks hkeys hrd] at h1
  have hN : Maps.size (.map ((ents.toList.map (WideElems.rg Try.prog T3 R)).foldr DataW.insert []) : DataW Unit) = ks.length := by
    have := hD.length_eq
    simpa [intKeys, Maps.size] using this
  have hseq := hG p b ents.size (.map ((ents.toList.map (WideElems.rg Try.prog T3 R)).foldr DataW.insert [])) R W hpl hcell ⟨ents, clock, hb, hfit, Nat.le_refl _, rfl⟩
  rw [hN] at hseq
  refine (hS _ _ _ (by simp only [maxLen]; omega) (by omega) W hseq).mono ?_
  rintro e' w' ⟨v, ss, rfl, hperm, hrow, hnil, hbl⟩
  refine ⟨v, rfl, hbl, ?_⟩
  rw [mergeSort_isort ss ks (hperm.trans hD)] at hrow
  have hssl : ss.length = ks.length := (hperm.trans hD).length_eq
  obtain ⟨hl, ⟨rfl, h0⟩ | ⟨gg, cap, cur, rfl, hg, hheap, h1, h2, h3, h4⟩⟩ := hrow
  · have : Am.isort ks = [] := by
      apply List.eq_nil_of_length_eq_zero
      simp at hl; omega
    rw [this]
    exact .sl0 _ _
  · have hil : (Am.isort ks).length = ss.length := by simpa using hl
    refine .sl _ ⟨gg, 0, none⟩ _ _ 1 (fun j => .int .i64 ((Am.isort ks).getD j 0)) (by simp [hil]) h1 (fun cs hcs => by obtain ⟨n, _, rfl⟩ := List.mem_map.1 hcs; rfl) ⟨hg, (Array.getElem?_eq_some_iff.1 hheap).1⟩ (fun j hj => ?_) (fun j k cs c hj hk => ?_)
    · rw [Am.add_mk, cell_of_row w' gg _ cur T3 (0, 0) hheap, Nat.zero_add]
      have : cur.toList[j]? = ((Am.isort ks).map encZ)[j]? := by
        rw [← h4, List.getElem?_take, if_pos (by omega)]
      rw [← Array.getElem?_toList, this, List.getElem?_map]
      have hj2 : j < (Am.isort ks).length := by omega
      simp [List.getElem?_eq_getElem hj2, List.getD_eq_getElem?_getD]
    · rw [List.getElem?_map] at hj
      obtain ⟨n, hn, rfl⟩ := Option.map_eq_some_iff.1 hj
      rcases k with _ | k
      · simp at hk; subst hk
        simp only [Nat.mul_one, Nat.add_zero, List.getD_eq_getElem?_getD, hn, Option.getD_some]
        exact .i _ _
      · simp at hk

set_option maxRecDepth 20000 in
theorem Try.sorted119 : Am.SortedSpec Try.prog 86 119 :=
  sorted_core 86 119 3 (by kernel_rfl) (fun args w => enters_of Try.func86 (by kernel_rfl) rfl args w)
    (fun lb S N h1 h2 w hs => AnyZI.sorted_in Try.sortedA Fence.wide 5 trivial trivial trivial trivial rfl (by omega) (Try.sortsA _) (enters_of Try.func118 (by kernel_rfl) rfl) 119 lb trivial (enters_of Try.func119 (by kernel_rfl) rfl) S N h1 h2 w hs)
    (fun Bm b nn D0 R w h1 h2 h3 => AnyZI.keys_gives (ρ := Try.keysA_ren) { Try.keysA with } Fence.wide _ trivial rfl (by omega) Bm b nn D0 w h1 h2 h3)

set_option maxRecDepth 20000 in
theorem Try.sorted122 : Am.SortedSpec Try.prog 86 122 :=
  sorted_core 86 122 3 (by kernel_rfl) (fun args w => enters_of Try.func86 (by kernel_rfl) rfl args w)
    (fun lb S N h1 h2 w hs => AnyZI.sorted_in Try.sortedA Fence.wide 5 trivial trivial trivial trivial rfl (by omega) (Try.sortsA _) (enters_of Try.func118 (by kernel_rfl) rfl) 122 lb trivial (enters_of Try.func122 (by kernel_rfl) rfl) S N h1 h2 w hs)
    (fun Bm b nn D0 R w h1 h2 h3 => AnyZI.keys_gives (ρ := Try.keysB_ren) { Try.keysB with } Fence.wide _ trivial rfl (by omega) Bm b nn D0 w h1 h2 h3)
end Go.Proofs

open Go Go.Am Go.Proofs
namespace Go.Am
def clOk (els : List (List D)) : Bool := els.all (fun cs => match cs with | [d] => one (.d d) | _ => false) && decide (els.length ≤ 1099511627776)
set_option maxRecDepth 10000 in
theorem clone_any (els : List (List D)) (h : clOk els = true) : Spec Try.prog 107 [.sl els] (.sl els) := by
  have hone : ∀ els : List (List D), els.all (fun cs => match cs with | [d] => one (.d d) | _ => false) = true → (els.flatten.map AV.d).all one = true ∧ els.flatten.length = els.length ∧ okHead 1 els = true ∧
      chunk 1 els.length els.flatten = els := by
    intro els h
    have key : ∃ ds : List D, els = ds.map (fun d => [d]) ∧ (ds.map AV.d).all one = true := by
      induction els with
      | nil => exact ⟨[], rfl, rfl⟩
      | cons c l ih =>
        simp only [List.all_cons, Bool.and_eq_true] at h
        obtain ⟨ds, hds, hd1⟩ := ih h.2
        have h1 := h.1
        split at h1
        · rename_i d; exact ⟨d :: ds, by rw [hds]; rfl, by simp only [List.map_cons, List.all_cons, Bool.and_eq_true]; exact ⟨h1, hd1⟩⟩
        · cases h1
    obtain ⟨ds, rfl, hd1⟩ := key
    have hfl : (ds.map (fun d => [d])).flatten = ds := by simp [← List.flatMap_def]
    rw [hfl]
    refine ⟨hd1, by simp, by cases ds <;> simp [okHead], ?_⟩
    simp only [chunk, List.length_map]
    refine List.ext_getElem (by simp) fun i h1 h2 => ?_
    simp at h1 h2
    simp [List.take_one, List.head?_drop, h1]
  simp only [clOk, Bool.and_eq_true, decide_eq_true_eq] at h
  obtain ⟨q1, q2, q3, q4⟩ := hone els h.1
  refine spec_of (N := 8) follows_mixed Try.func107 rfl rfl rfl (by kernel_rfl) (by kernel_rfl) (by simp) ?_
  show AWP Try.prog (.seq _ (.seq (.seq _ (.cond _ _ _)) (.seq (.region _ _ _) _))) _ _
  have hb : ∀ b, isNilA (.d (.sl els)) = some b → b = none ∧ els = [] ∨ b = some false := by
    intro b hb
    cases els with
    | nil => simp [isNilA] at hb; exact .inl ⟨hb.symm, rfl⟩
    | cons => simp [isNilA] at hb; exact .inr hb.symm
  have hl : els.length ≤ 1099511627776 := h.2
  have e1 : (els.flatten.map AV.d).length = els.length := by rw [List.length_map]; exact q2
  cases els with
  | nil =>
    simp [AWP, OW, O1, wantedA, kind, nev, oev, St0, cv, cv1, putA, upd, addB, cnt, fin, Γ0, nilA, pureA, isNilA, nilB, inj1, appA, srcA, okHead, fillA, resD, res1, frzs, Try.f107, Option.bind, kill, chunk, Value.cells, Value.oneCell', scrub, scrub1, scrub0, scrubO, maxLen, frz]
  | cons x l =>
    generalize hE : x :: l = els at *
    have hn : isNilA (.d (.sl els)) = some (some false) := by rw [← hE]; rfl
    have m1 : ∀ (H : Nat → Option HO) n, (els.flatten.map AV.d).mapM (frz H (n + 1)) = some els.flatten := fun H n => mapM_d H n _
    have m2 : ∀ l, (els.flatten.map AV.d).map (scrub0 l) = els.flatten.map AV.d := fun l => scrub_map l _
    have hsrc : ∀ H, srcA H 1 (.d (.sl els)) = some (els.length, els.flatten.map AV.d) := fun H => by
      simp only [srcA]; rw [if_pos ⟨q3, q1⟩]
    generalize els.flatten.map AV.d = cs at *
    generalize els.flatten = fl at *
    have m3 : cs.map (fun x => scrub0 [1] x) = cs := m2 [1]
    have p1 : els.length * 4 ≤ 140737488355328 := by omega
    have p2 : els.length ≤ 9223372036854775807 := by omega
    have e2 : cs.take els.length = cs := by rw [← e1]; exact List.take_length
    simp [AWP, OW, O1, wantedA, kind, nev, oev, St0, cv, cv1, putA, upd, addB, cnt, fin, Γ0, nilA, pureA, hn, nilB, inj1, appA, hsrc, fillA, resD, res1, frzs, Try.f107, kill, Value.cells, Value.oneCell', scrub, scrub1, maxLen, p1, p2]
    simp [scrub0, frz_own, scrubO, e1, e2, m2, m1, q4]

theorem rec65 : RecSpec Try.prog 65 := by
  refine ⟨fun w => enters_of Try.func65 (by kernel_rfl) rfl _ w, fun w => ?_⟩
  refine callsD_of_wpS Try.func65 rfl fun c₀ cs hu => ?_
  apply wpS_region
  simp [wpOpsS, go_sem, recoverD, hu, Try.ntmps65, bodyPostS, results, Try.results65]
  cases c₀; simp only at hu; subst hu; rfl

theorem rec68 : RecSpec Try.prog 68 := by
  refine ⟨fun w => enters_of Try.func68 (by kernel_rfl) rfl _ w, fun w => ?_⟩
  refine callsD_of_wpS Try.func68 rfl fun c₀ cs hu => ?_
  apply wpS_region
  simp [wpOpsS, go_sem, recoverD, hu, Try.ntmps68, bodyPostS, results, Try.results68]
  cases c₀; simp only at hu; subst hu; rfl

theorem rec71 : RecSpec Try.prog 71 := by
  refine ⟨fun w => enters_of Try.func71 (by kernel_rfl) rfl _ w, fun w => ?_⟩
  refine callsD_of_wpS Try.func71 rfl fun c₀ cs hu => ?_
  apply wpS_region
  simp [wpOpsS, go_sem, recoverD, hu, Try.ntmps71, bodyPostS, results, Try.results71]
  cases c₀; simp only at hu; subst hu; rfl

theorem rec88 : RecSpec Try.prog 88 := by
  refine ⟨fun w => enters_of Try.func88 (by kernel_rfl) rfl _ w, fun w => ?_⟩
  refine callsD_of_wpS Try.func88 rfl fun c₀ cs hu => ?_
  apply wpS_region
  simp [wpOpsS, go_sem, recoverD, hu, Try.ntmps88, bodyPostS, results, Try.results88]
  cases c₀; simp only at hu; subst hu; rfl

theorem rec90 : RecSpec Try.prog 90 := by
  refine ⟨fun w => enters_of Try.func90 (by kernel_rfl) rfl _ w, fun w => ?_⟩
  refine callsD_of_wpS Try.func90 rfl fun c₀ cs hu => ?_
  apply wpS_region
  simp [wpOpsS, go_sem, recoverD, hu, Try.ntmps90, bodyPostS, results, Try.results90]
  cases c₀; simp only at hu; subst hu; rfl

theorem rec92 : RecSpec Try.prog 92 := by
  refine ⟨fun w => enters_of Try.func92 (by kernel_rfl) rfl _ w, fun w => ?_⟩
  refine callsD_of_wpS Try.func92 rfl fun c₀ cs hu => ?_
  apply wpS_region
  simp [wpOpsS, go_sem, recoverD, hu, Try.ntmps92, bodyPostS, results, Try.results92]
  cases c₀; simp only at hu; subst hu; rfl

theorem rec99 : RecSpec Try.prog 99 := by
  refine ⟨fun w => enters_of Try.func99 (by kernel_rfl) rfl _ w, fun w => ?_⟩
  refine callsD_of_wpS Try.func99 rfl fun c₀ cs hu => ?_
  apply wpS_region
  simp [wpOpsS, go_sem, recoverD, hu, Try.ntmps99, bodyPostS, results, Try.results99]
  cases c₀; simp only at hu; subst hu; rfl

theorem rec101 : RecSpec Try.prog 101 := by
  refine ⟨fun w => enters_of Try.func101 (by kernel_rfl) rfl _ w, fun w => ?_⟩
  refine callsD_of_wpS Try.func101 rfl fun c₀ cs hu => ?_
  apply wpS_region
  simp [wpOpsS, go_sem, recoverD, hu, Try.ntmps101, bodyPostS, results, Try.results101]
  cases c₀; simp only at hu; subst hu; rfl

theorem rec102 : RecSpec Try.prog 102 := by
  refine ⟨fun w => enters_of Try.func102 (by kernel_rfl) rfl _ w, fun w => ?_⟩
  refine callsD_of_wpS Try.func102 rfl fun c₀ cs hu => ?_
  apply wpS_region
  simp [wpOpsS, go_sem, recoverD, hu, Try.ntmps102, bodyPostS, results, Try.results102]
  cases c₀; simp only at hu; subst hu; rfl

theorem rec104 : RecSpec Try.prog 104 := by
  refine ⟨fun w => enters_of Try.func104 (by kernel_rfl) rfl _ w, fun w => ?_⟩
  refine callsD_of_wpS Try.func104 rfl fun c₀ cs hu => ?_
  apply wpS_region
  simp [wpOpsS, go_sem, recoverD, hu, Try.ntmps104, bodyPostS, results, Try.results104]
  cases c₀; simp only at hu; subst hu; rfl

theorem rec105 : RecSpec Try.prog 105 := by
  refine ⟨fun w => enters_of Try.func105 (by kernel_rfl) rfl _ w, fun w => ?_⟩
  refine callsD_of_wpS Try.func105 rfl fun c₀ cs hu => ?_
  apply wpS_region
  simp [wpOpsS, go_sem, recoverD, hu, Try.ntmps105, bodyPostS, results, Try.results105]
  cases c₀; simp only at hu; subst hu; rfl

def E0 : Kn where
  call := fun f ds => if f = 107 then (match ds with | [.sl els] => if clOk els then some (.sl els) else none | _ => none) else none
  ocall := fun _ _ _ _ => none
  keys := fun f => if f = 87 then some 119 else if f = 106 then some 122 else none
  sorted := fun f g => f == 86 && (g == 119 || g == 122)
  recs := fun g => [65, 68, 71, 88, 90, 92, 99, 101, 102, 104, 105].contains g

theorem E0_ok : KnOk Try.prog E0 := by
  refine ⟨fun f ds r h => ?_, fun f h o ds o' r h' => (by cases h'), fun f g h => ?_, fun f g h => ?_, fun g h => ?_⟩
  · simp only [E0] at h
    split at h
    · rename_i hf; subst hf
      split at h
      · split at h
        · rename_i hc; injection h with h; subst h; exact clone_any _ hc
        · cases h
      · cases h
    · cases h
  · simp only [E0] at h
    split at h
    · rename_i hf; subst hf; injection h with h; subst h; exact Try.keys87
    · split at h
      · rename_i hf; subst hf; injection h with h; subst h; exact Try.keys106
      · cases h
  · simp only [E0, Bool.and_eq_true, Bool.or_eq_true, beq_iff_eq] at h
    obtain ⟨rfl, rfl | rfl⟩ := h
    · exact Try.sorted119
    · exact Try.sorted122
  · simp only [E0, List.contains_eq_mem, decide_eq_true_eq] at h
    simp only [List.mem_cons, List.not_mem_nil, or_false] at h
    rcases h with rfl | rfl | rfl | rfl | rfl | rfl | rfl | rfl | rfl | rfl | rfl
    · exact rec65
    · exact rec68
    · exact rec71
    · exact rec88
    · exact rec90
    · exact rec92
    · exact rec99
    · exact rec101
    · exact rec102
    · exact rec104
    · exact rec105

end Go.Am
