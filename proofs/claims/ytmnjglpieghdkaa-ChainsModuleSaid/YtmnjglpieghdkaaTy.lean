/- Facts on the types of this translation, printed by program. No condition. -/
import Derived.Test.YtmnjglpieghdkaaAm16
import Derived.Test.YtmnjglpieghdkaaRows
namespace Go.Am

@[simp] theorem tsz_2 : tsz Go.Proofs.Try.prog 2 = some 1 := by kernel_rfl
@[simp] theorem tby_2 : tby Go.Proofs.Try.prog 2 = some 8 := by kernel_rfl
@[simp] theorem tz_2 : tz Go.Proofs.Try.prog 2 = some (.int .i64 0) := by kernel_rfl
@[simp] theorem tagg_2 : tagg Go.Proofs.Try.prog 2 = some false := by kernel_rfl
@[simp] theorem tel_2 : tel Go.Proofs.Try.prog 2 = none := by kernel_rfl
@[simp] theorem tbool_2 : tbool Go.Proofs.Try.prog 2 = false := by kernel_rfl
@[simp] theorem tund_2 : (Go.Program.underlying Go.Proofs.Try.prog 2).isSome = true := by kernel_rfl
@[simp] theorem tint_2 : tint Go.Proofs.Try.prog 2 = some .i64 := by kernel_rfl
@[simp] theorem tsz_3 : tsz Go.Proofs.Try.prog 3 = some 1 := by kernel_rfl
@[simp] theorem tby_3 : tby Go.Proofs.Try.prog 3 = some 8 := by kernel_rfl
@[simp] theorem tz_3 : tz Go.Proofs.Try.prog 3 = some (.int .i64 0) := by kernel_rfl
@[simp] theorem tagg_3 : tagg Go.Proofs.Try.prog 3 = some false := by kernel_rfl
@[simp] theorem tel_3 : tel Go.Proofs.Try.prog 3 = none := by kernel_rfl
@[simp] theorem tbool_3 : tbool Go.Proofs.Try.prog 3 = false := by kernel_rfl
@[simp] theorem tund_3 : (Go.Program.underlying Go.Proofs.Try.prog 3).isSome = true := by kernel_rfl
@[simp] theorem tint_3 : tint Go.Proofs.Try.prog 3 = some .i64 := by kernel_rfl
@[simp] theorem tsz_4 : tsz Go.Proofs.Try.prog 4 = some 1 := by kernel_rfl
@[simp] theorem tby_4 : tby Go.Proofs.Try.prog 4 = some 1 := by kernel_rfl
@[simp] theorem tz_4 : tz Go.Proofs.Try.prog 4 = some (.bool false) := by kernel_rfl
@[simp] theorem tagg_4 : tagg Go.Proofs.Try.prog 4 = some false := by kernel_rfl
@[simp] theorem tel_4 : tel Go.Proofs.Try.prog 4 = none := by kernel_rfl
@[simp] theorem tbool_4 : tbool Go.Proofs.Try.prog 4 = true := by kernel_rfl
@[simp] theorem tund_4 : (Go.Program.underlying Go.Proofs.Try.prog 4).isSome = true := by kernel_rfl
@[simp] theorem tsz_5 : tsz Go.Proofs.Try.prog 5 = some 1 := by kernel_rfl
@[simp] theorem tby_5 : tby Go.Proofs.Try.prog 5 = some 1 := by kernel_rfl
@[simp] theorem tz_5 : tz Go.Proofs.Try.prog 5 = some (.int .u8 0) := by kernel_rfl
@[simp] theorem tagg_5 : tagg Go.Proofs.Try.prog 5 = some false := by kernel_rfl
@[simp] theorem tel_5 : tel Go.Proofs.Try.prog 5 = none := by kernel_rfl
@[simp] theorem tbool_5 : tbool Go.Proofs.Try.prog 5 = false := by kernel_rfl
@[simp] theorem tund_5 : (Go.Program.underlying Go.Proofs.Try.prog 5).isSome = true := by kernel_rfl
@[simp] theorem tint_5 : tint Go.Proofs.Try.prog 5 = some .u8 := by kernel_rfl
@[simp] theorem tsz_6 : tsz Go.Proofs.Try.prog 6 = some 1 := by kernel_rfl
@[simp] theorem tby_6 : tby Go.Proofs.Try.prog 6 = some 1 := by kernel_rfl
@[simp] theorem tz_6 : tz Go.Proofs.Try.prog 6 = some (.int .u8 0) := by kernel_rfl
@[simp] theorem tagg_6 : tagg Go.Proofs.Try.prog 6 = some false := by kernel_rfl
@[simp] theorem tel_6 : tel Go.Proofs.Try.prog 6 = none := by kernel_rfl
@[simp] theorem tbool_6 : tbool Go.Proofs.Try.prog 6 = false := by kernel_rfl
@[simp] theorem tund_6 : (Go.Program.underlying Go.Proofs.Try.prog 6).isSome = true := by kernel_rfl
@[simp] theorem tint_6 : tint Go.Proofs.Try.prog 6 = some .u8 := by kernel_rfl
@[simp] theorem tsz_7 : tsz Go.Proofs.Try.prog 7 = some 4 := by kernel_rfl
@[simp] theorem tby_7 : tby Go.Proofs.Try.prog 7 = some 24 := by kernel_rfl
@[simp] theorem tz_7 : tz Go.Proofs.Try.prog 7 = some (.agg #[.int .i64 0, .int .i64 0, .bool false, .int .u8 0]) := by kernel_rfl
@[simp] theorem tagg_7 : tagg Go.Proofs.Try.prog 7 = some true := by kernel_rfl
@[simp] theorem tel_7 : tel Go.Proofs.Try.prog 7 = none := by kernel_rfl
@[simp] theorem tbool_7 : tbool Go.Proofs.Try.prog 7 = false := by kernel_rfl
@[simp] theorem tund_7 : (Go.Program.underlying Go.Proofs.Try.prog 7).isSome = true := by kernel_rfl
@[simp] theorem flds_7 : flds Go.Proofs.Try.prog 7 = some [(0, 1), (1, 1), (2, 1), (3, 1)] := by kernel_rfl
@[simp] theorem tsz_8 : tsz Go.Proofs.Try.prog 8 = some 4 := by kernel_rfl
@[simp] theorem tby_8 : tby Go.Proofs.Try.prog 8 = some 24 := by kernel_rfl
@[simp] theorem tz_8 : tz Go.Proofs.Try.prog 8 = some (.agg #[.int .i64 0, .int .i64 0, .bool false, .int .u8 0]) := by kernel_rfl
@[simp] theorem tagg_8 : tagg Go.Proofs.Try.prog 8 = some true := by kernel_rfl
@[simp] theorem tel_8 : tel Go.Proofs.Try.prog 8 = none := by kernel_rfl
@[simp] theorem tbool_8 : tbool Go.Proofs.Try.prog 8 = false := by kernel_rfl
@[simp] theorem tund_8 : (Go.Program.underlying Go.Proofs.Try.prog 8).isSome = true := by kernel_rfl
@[simp] theorem flds_8 : flds Go.Proofs.Try.prog 8 = some [(0, 1), (1, 1), (2, 1), (3, 1)] := by kernel_rfl
@[simp] theorem tsz_12 : tsz Go.Proofs.Try.prog 12 = some 1 := by kernel_rfl
@[simp] theorem tby_12 : tby Go.Proofs.Try.prog 12 = some 8 := by kernel_rfl
@[simp] theorem tz_12 : tz Go.Proofs.Try.prog 12 = some (.int .u64 0) := by kernel_rfl
@[simp] theorem tagg_12 : tagg Go.Proofs.Try.prog 12 = some false := by kernel_rfl
@[simp] theorem tel_12 : tel Go.Proofs.Try.prog 12 = none := by kernel_rfl
@[simp] theorem tbool_12 : tbool Go.Proofs.Try.prog 12 = false := by kernel_rfl
@[simp] theorem tund_12 : (Go.Program.underlying Go.Proofs.Try.prog 12).isSome = true := by kernel_rfl
@[simp] theorem tint_12 : tint Go.Proofs.Try.prog 12 = some .u64 := by kernel_rfl
@[simp] theorem tsz_21 : tsz Go.Proofs.Try.prog 21 = some 1 := by kernel_rfl
@[simp] theorem tby_21 : tby Go.Proofs.Try.prog 21 = some 4 := by kernel_rfl
@[simp] theorem tz_21 : tz Go.Proofs.Try.prog 21 = some (.int .i32 0) := by kernel_rfl
@[simp] theorem tagg_21 : tagg Go.Proofs.Try.prog 21 = some false := by kernel_rfl
@[simp] theorem tel_21 : tel Go.Proofs.Try.prog 21 = none := by kernel_rfl
@[simp] theorem tbool_21 : tbool Go.Proofs.Try.prog 21 = false := by kernel_rfl
@[simp] theorem tund_21 : (Go.Program.underlying Go.Proofs.Try.prog 21).isSome = true := by kernel_rfl
@[simp] theorem tint_21 : tint Go.Proofs.Try.prog 21 = some .i32 := by kernel_rfl
@[simp] theorem tsz_22 : tsz Go.Proofs.Try.prog 22 = some 1 := by kernel_rfl
@[simp] theorem tby_22 : tby Go.Proofs.Try.prog 22 = some 24 := by kernel_rfl
@[simp] theorem tz_22 : tz Go.Proofs.Try.prog 22 = some (.slice none 0 0) := by kernel_rfl
@[simp] theorem tagg_22 : tagg Go.Proofs.Try.prog 22 = some false := by kernel_rfl
@[simp] theorem tel_22 : tel Go.Proofs.Try.prog 22 = some 37 := by kernel_rfl
@[simp] theorem tbool_22 : tbool Go.Proofs.Try.prog 22 = false := by kernel_rfl
@[simp] theorem tund_22 : (Go.Program.underlying Go.Proofs.Try.prog 22).isSome = true := by kernel_rfl
@[simp] theorem tsz_24 : tsz Go.Proofs.Try.prog 24 = some 1 := by kernel_rfl
@[simp] theorem tby_24 : tby Go.Proofs.Try.prog 24 = some 24 := by kernel_rfl
@[simp] theorem tz_24 : tz Go.Proofs.Try.prog 24 = some (.slice none 0 0) := by kernel_rfl
@[simp] theorem tagg_24 : tagg Go.Proofs.Try.prog 24 = some false := by kernel_rfl
@[simp] theorem tel_24 : tel Go.Proofs.Try.prog 24 = some 39 := by kernel_rfl
@[simp] theorem tbool_24 : tbool Go.Proofs.Try.prog 24 = false := by kernel_rfl
@[simp] theorem tund_24 : (Go.Program.underlying Go.Proofs.Try.prog 24).isSome = true := by kernel_rfl
@[simp] theorem tsz_26 : tsz Go.Proofs.Try.prog 26 = some 1 := by kernel_rfl
@[simp] theorem tby_26 : tby Go.Proofs.Try.prog 26 = some 24 := by kernel_rfl
@[simp] theorem tz_26 : tz Go.Proofs.Try.prog 26 = some (.slice none 0 0) := by kernel_rfl
@[simp] theorem tagg_26 : tagg Go.Proofs.Try.prog 26 = some false := by kernel_rfl
@[simp] theorem tel_26 : tel Go.Proofs.Try.prog 26 = some 39 := by kernel_rfl
@[simp] theorem tbool_26 : tbool Go.Proofs.Try.prog 26 = false := by kernel_rfl
@[simp] theorem tund_26 : (Go.Program.underlying Go.Proofs.Try.prog 26).isSome = true := by kernel_rfl
@[simp] theorem tsz_30 : tsz Go.Proofs.Try.prog 30 = some 1 := by kernel_rfl
@[simp] theorem tby_30 : tby Go.Proofs.Try.prog 30 = some 24 := by kernel_rfl
@[simp] theorem tz_30 : tz Go.Proofs.Try.prog 30 = some (.slice none 0 0) := by kernel_rfl
@[simp] theorem tagg_30 : tagg Go.Proofs.Try.prog 30 = some false := by kernel_rfl
@[simp] theorem tel_30 : tel Go.Proofs.Try.prog 30 = some 104 := by kernel_rfl
@[simp] theorem tbool_30 : tbool Go.Proofs.Try.prog 30 = false := by kernel_rfl
@[simp] theorem tund_30 : (Go.Program.underlying Go.Proofs.Try.prog 30).isSome = true := by kernel_rfl
@[simp] theorem tsz_31 : tsz Go.Proofs.Try.prog 31 = some 2 := by kernel_rfl
@[simp] theorem tby_31 : tby Go.Proofs.Try.prog 31 = some 32 := by kernel_rfl
@[simp] theorem tz_31 : tz Go.Proofs.Try.prog 31 = some (.agg #[.bool false, .slice none 0 0]) := by kernel_rfl
@[simp] theorem tagg_31 : tagg Go.Proofs.Try.prog 31 = some true := by kernel_rfl
@[simp] theorem tel_31 : tel Go.Proofs.Try.prog 31 = none := by kernel_rfl
@[simp] theorem tbool_31 : tbool Go.Proofs.Try.prog 31 = false := by kernel_rfl
@[simp] theorem tund_31 : (Go.Program.underlying Go.Proofs.Try.prog 31).isSome = true := by kernel_rfl
@[simp] theorem flds_31 : flds Go.Proofs.Try.prog 31 = some [(0, 1), (1, 1)] := by kernel_rfl
@[simp] theorem tsz_32 : tsz Go.Proofs.Try.prog 32 = some 2 := by kernel_rfl
@[simp] theorem tby_32 : tby Go.Proofs.Try.prog 32 = some 32 := by kernel_rfl
@[simp] theorem tz_32 : tz Go.Proofs.Try.prog 32 = some (.agg #[.bool false, .slice none 0 0]) := by kernel_rfl
@[simp] theorem tagg_32 : tagg Go.Proofs.Try.prog 32 = some true := by kernel_rfl
@[simp] theorem tel_32 : tel Go.Proofs.Try.prog 32 = none := by kernel_rfl
@[simp] theorem tbool_32 : tbool Go.Proofs.Try.prog 32 = false := by kernel_rfl
@[simp] theorem tund_32 : (Go.Program.underlying Go.Proofs.Try.prog 32).isSome = true := by kernel_rfl
@[simp] theorem flds_32 : flds Go.Proofs.Try.prog 32 = some [(0, 1), (1, 1)] := by kernel_rfl
@[simp] theorem tsz_36 : tsz Go.Proofs.Try.prog 36 = some 1 := by kernel_rfl
@[simp] theorem tby_36 : tby Go.Proofs.Try.prog 36 = some 1 := by kernel_rfl
@[simp] theorem tz_36 : tz Go.Proofs.Try.prog 36 = some (.int .i8 0) := by kernel_rfl
@[simp] theorem tagg_36 : tagg Go.Proofs.Try.prog 36 = some false := by kernel_rfl
@[simp] theorem tel_36 : tel Go.Proofs.Try.prog 36 = none := by kernel_rfl
@[simp] theorem tbool_36 : tbool Go.Proofs.Try.prog 36 = false := by kernel_rfl
@[simp] theorem tund_36 : (Go.Program.underlying Go.Proofs.Try.prog 36).isSome = true := by kernel_rfl
@[simp] theorem tint_36 : tint Go.Proofs.Try.prog 36 = some .i8 := by kernel_rfl
@[simp] theorem tsz_37 : tsz Go.Proofs.Try.prog 37 = some 2 := by kernel_rfl
@[simp] theorem tby_37 : tby Go.Proofs.Try.prog 37 = some 2 := by kernel_rfl
@[simp] theorem tz_37 : tz Go.Proofs.Try.prog 37 = some (.agg #[.int .i8 0, .int .i8 0]) := by kernel_rfl
@[simp] theorem tagg_37 : tagg Go.Proofs.Try.prog 37 = some true := by kernel_rfl
@[simp] theorem tel_37 : tel Go.Proofs.Try.prog 37 = none := by kernel_rfl
@[simp] theorem tbool_37 : tbool Go.Proofs.Try.prog 37 = false := by kernel_rfl
@[simp] theorem tund_37 : (Go.Program.underlying Go.Proofs.Try.prog 37).isSome = true := by kernel_rfl
@[simp] theorem tarr_37 : tarr Go.Proofs.Try.prog 37 = some (2, 36) := by kernel_rfl
@[simp] theorem tsz_38 : tsz Go.Proofs.Try.prog 38 = some 3 := by kernel_rfl
@[simp] theorem tby_38 : tby Go.Proofs.Try.prog 38 = some 40 := by kernel_rfl
@[simp] theorem tz_38 : tz Go.Proofs.Try.prog 38 = some (.agg #[.int .i64 0, .bool false, .slice none 0 0]) := by kernel_rfl
@[simp] theorem tagg_38 : tagg Go.Proofs.Try.prog 38 = some true := by kernel_rfl
@[simp] theorem tel_38 : tel Go.Proofs.Try.prog 38 = none := by kernel_rfl
@[simp] theorem tbool_38 : tbool Go.Proofs.Try.prog 38 = false := by kernel_rfl
@[simp] theorem tund_38 : (Go.Program.underlying Go.Proofs.Try.prog 38).isSome = true := by kernel_rfl
@[simp] theorem flds_38 : flds Go.Proofs.Try.prog 38 = some [(0, 1), (1, 2)] := by kernel_rfl
@[simp] theorem tsz_39 : tsz Go.Proofs.Try.prog 39 = some 3 := by kernel_rfl
@[simp] theorem tby_39 : tby Go.Proofs.Try.prog 39 = some 40 := by kernel_rfl
@[simp] theorem tz_39 : tz Go.Proofs.Try.prog 39 = some (.agg #[.int .i64 0, .bool false, .slice none 0 0]) := by kernel_rfl
@[simp] theorem tagg_39 : tagg Go.Proofs.Try.prog 39 = some true := by kernel_rfl
@[simp] theorem tel_39 : tel Go.Proofs.Try.prog 39 = none := by kernel_rfl
@[simp] theorem tbool_39 : tbool Go.Proofs.Try.prog 39 = false := by kernel_rfl
@[simp] theorem tund_39 : (Go.Program.underlying Go.Proofs.Try.prog 39).isSome = true := by kernel_rfl
@[simp] theorem flds_39 : flds Go.Proofs.Try.prog 39 = some [(0, 1), (1, 2)] := by kernel_rfl
@[simp] theorem tsz_42 : tsz Go.Proofs.Try.prog 42 = some 1 := by kernel_rfl
@[simp] theorem tby_42 : tby Go.Proofs.Try.prog 42 = some 24 := by kernel_rfl
@[simp] theorem tz_42 : tz Go.Proofs.Try.prog 42 = some (.slice none 0 0) := by kernel_rfl
@[simp] theorem tagg_42 : tagg Go.Proofs.Try.prog 42 = some false := by kernel_rfl
@[simp] theorem tel_42 : tel Go.Proofs.Try.prog 42 = some 45 := by kernel_rfl
@[simp] theorem tbool_42 : tbool Go.Proofs.Try.prog 42 = false := by kernel_rfl
@[simp] theorem tund_42 : (Go.Program.underlying Go.Proofs.Try.prog 42).isSome = true := by kernel_rfl
@[simp] theorem tsz_43 : tsz Go.Proofs.Try.prog 43 = some 3 := by kernel_rfl
@[simp] theorem tby_43 : tby Go.Proofs.Try.prog 43 = some 40 := by kernel_rfl
@[simp] theorem tz_43 : tz Go.Proofs.Try.prog 43 = some (.agg #[.int .i64 0, .int .i64 0, .slice none 0 0]) := by kernel_rfl
@[simp] theorem tagg_43 : tagg Go.Proofs.Try.prog 43 = some true := by kernel_rfl
@[simp] theorem tel_43 : tel Go.Proofs.Try.prog 43 = none := by kernel_rfl
@[simp] theorem tbool_43 : tbool Go.Proofs.Try.prog 43 = false := by kernel_rfl
@[simp] theorem tund_43 : (Go.Program.underlying Go.Proofs.Try.prog 43).isSome = true := by kernel_rfl
@[simp] theorem flds_43 : flds Go.Proofs.Try.prog 43 = some [(0, 1), (1, 1), (2, 1)] := by kernel_rfl
@[simp] theorem tsz_44 : tsz Go.Proofs.Try.prog 44 = some 3 := by kernel_rfl
@[simp] theorem tby_44 : tby Go.Proofs.Try.prog 44 = some 40 := by kernel_rfl
@[simp] theorem tz_44 : tz Go.Proofs.Try.prog 44 = some (.agg #[.int .i64 0, .int .i64 0, .slice none 0 0]) := by kernel_rfl
@[simp] theorem tagg_44 : tagg Go.Proofs.Try.prog 44 = some true := by kernel_rfl
@[simp] theorem tel_44 : tel Go.Proofs.Try.prog 44 = none := by kernel_rfl
@[simp] theorem tbool_44 : tbool Go.Proofs.Try.prog 44 = false := by kernel_rfl
@[simp] theorem tund_44 : (Go.Program.underlying Go.Proofs.Try.prog 44).isSome = true := by kernel_rfl
@[simp] theorem flds_44 : flds Go.Proofs.Try.prog 44 = some [(0, 1), (1, 1), (2, 1)] := by kernel_rfl
@[simp] theorem tsz_45 : tsz Go.Proofs.Try.prog 45 = some 1 := by kernel_rfl
@[simp] theorem tby_45 : tby Go.Proofs.Try.prog 45 = some 24 := by kernel_rfl
@[simp] theorem tz_45 : tz Go.Proofs.Try.prog 45 = some (.slice none 0 0) := by kernel_rfl
@[simp] theorem tagg_45 : tagg Go.Proofs.Try.prog 45 = some false := by kernel_rfl
@[simp] theorem tel_45 : tel Go.Proofs.Try.prog 45 = some 109 := by kernel_rfl
@[simp] theorem tbool_45 : tbool Go.Proofs.Try.prog 45 = false := by kernel_rfl
@[simp] theorem tund_45 : (Go.Program.underlying Go.Proofs.Try.prog 45).isSome = true := by kernel_rfl
@[simp] theorem tsz_47 : tsz Go.Proofs.Try.prog 47 = some 1 := by kernel_rfl
@[simp] theorem tby_47 : tby Go.Proofs.Try.prog 47 = some 24 := by kernel_rfl
@[simp] theorem tz_47 : tz Go.Proofs.Try.prog 47 = some (.slice none 0 0) := by kernel_rfl
@[simp] theorem tagg_47 : tagg Go.Proofs.Try.prog 47 = some false := by kernel_rfl
@[simp] theorem tel_47 : tel Go.Proofs.Try.prog 47 = some 36 := by kernel_rfl
@[simp] theorem tbool_47 : tbool Go.Proofs.Try.prog 47 = false := by kernel_rfl
@[simp] theorem tund_47 : (Go.Program.underlying Go.Proofs.Try.prog 47).isSome = true := by kernel_rfl
@[simp] theorem tsz_49 : tsz Go.Proofs.Try.prog 49 = some 1 := by kernel_rfl
@[simp] theorem tby_49 : tby Go.Proofs.Try.prog 49 = some 24 := by kernel_rfl
@[simp] theorem tz_49 : tz Go.Proofs.Try.prog 49 = some (.slice none 0 0) := by kernel_rfl
@[simp] theorem tagg_49 : tagg Go.Proofs.Try.prog 49 = some false := by kernel_rfl
@[simp] theorem tel_49 : tel Go.Proofs.Try.prog 49 = some 32 := by kernel_rfl
@[simp] theorem tbool_49 : tbool Go.Proofs.Try.prog 49 = false := by kernel_rfl
@[simp] theorem tund_49 : (Go.Program.underlying Go.Proofs.Try.prog 49).isSome = true := by kernel_rfl
@[simp] theorem tsz_50 : tsz Go.Proofs.Try.prog 50 = some 1 := by kernel_rfl
@[simp] theorem tby_50 : tby Go.Proofs.Try.prog 50 = some 24 := by kernel_rfl
@[simp] theorem tz_50 : tz Go.Proofs.Try.prog 50 = some (.slice none 0 0) := by kernel_rfl
@[simp] theorem tagg_50 : tagg Go.Proofs.Try.prog 50 = some false := by kernel_rfl
@[simp] theorem tel_50 : tel Go.Proofs.Try.prog 50 = some 32 := by kernel_rfl
@[simp] theorem tbool_50 : tbool Go.Proofs.Try.prog 50 = false := by kernel_rfl
@[simp] theorem tund_50 : (Go.Program.underlying Go.Proofs.Try.prog 50).isSome = true := by kernel_rfl
@[simp] theorem tsz_57 : tsz Go.Proofs.Try.prog 57 = some 3 := by kernel_rfl
@[simp] theorem tby_57 : tby Go.Proofs.Try.prog 57 = some 32 := by kernel_rfl
@[simp] theorem tz_57 : tz Go.Proofs.Try.prog 57 = some (.agg #[.int .u8 0, .int .u8 0, .slice none 0 0]) := by kernel_rfl
@[simp] theorem tagg_57 : tagg Go.Proofs.Try.prog 57 = some true := by kernel_rfl
@[simp] theorem tel_57 : tel Go.Proofs.Try.prog 57 = none := by kernel_rfl
@[simp] theorem tbool_57 : tbool Go.Proofs.Try.prog 57 = false := by kernel_rfl
@[simp] theorem tund_57 : (Go.Program.underlying Go.Proofs.Try.prog 57).isSome = true := by kernel_rfl
@[simp] theorem flds_57 : flds Go.Proofs.Try.prog 57 = some [(0, 1), (1, 1), (2, 1)] := by kernel_rfl
@[simp] theorem tsz_58 : tsz Go.Proofs.Try.prog 58 = some 3 := by kernel_rfl
@[simp] theorem tby_58 : tby Go.Proofs.Try.prog 58 = some 32 := by kernel_rfl
@[simp] theorem tz_58 : tz Go.Proofs.Try.prog 58 = some (.agg #[.int .u8 0, .int .u8 0, .slice none 0 0]) := by kernel_rfl
@[simp] theorem tagg_58 : tagg Go.Proofs.Try.prog 58 = some true := by kernel_rfl
@[simp] theorem tel_58 : tel Go.Proofs.Try.prog 58 = none := by kernel_rfl
@[simp] theorem tbool_58 : tbool Go.Proofs.Try.prog 58 = false := by kernel_rfl
@[simp] theorem tund_58 : (Go.Program.underlying Go.Proofs.Try.prog 58).isSome = true := by kernel_rfl
@[simp] theorem flds_58 : flds Go.Proofs.Try.prog 58 = some [(0, 1), (1, 1), (2, 1)] := by kernel_rfl
@[simp] theorem tsz_60 : tsz Go.Proofs.Try.prog 60 = some 1 := by kernel_rfl
@[simp] theorem tby_60 : tby Go.Proofs.Try.prog 60 = some 24 := by kernel_rfl
@[simp] theorem tz_60 : tz Go.Proofs.Try.prog 60 = some (.slice none 0 0) := by kernel_rfl
@[simp] theorem tagg_60 : tagg Go.Proofs.Try.prog 60 = some false := by kernel_rfl
@[simp] theorem tel_60 : tel Go.Proofs.Try.prog 60 = some 49 := by kernel_rfl
@[simp] theorem tbool_60 : tbool Go.Proofs.Try.prog 60 = false := by kernel_rfl
@[simp] theorem tund_60 : (Go.Program.underlying Go.Proofs.Try.prog 60).isSome = true := by kernel_rfl
@[simp] theorem tsz_61 : tsz Go.Proofs.Try.prog 61 = some 3 := by kernel_rfl
@[simp] theorem tby_61 : tby Go.Proofs.Try.prog 61 = some 40 := by kernel_rfl
@[simp] theorem tz_61 : tz Go.Proofs.Try.prog 61 = some (.agg #[.int .i64 0, .int .i64 0, .slice none 0 0]) := by kernel_rfl
@[simp] theorem tagg_61 : tagg Go.Proofs.Try.prog 61 = some true := by kernel_rfl
@[simp] theorem tel_61 : tel Go.Proofs.Try.prog 61 = none := by kernel_rfl
@[simp] theorem tbool_61 : tbool Go.Proofs.Try.prog 61 = false := by kernel_rfl
@[simp] theorem tund_61 : (Go.Program.underlying Go.Proofs.Try.prog 61).isSome = true := by kernel_rfl
@[simp] theorem flds_61 : flds Go.Proofs.Try.prog 61 = some [(0, 1), (1, 1), (2, 1)] := by kernel_rfl
@[simp] theorem tsz_62 : tsz Go.Proofs.Try.prog 62 = some 3 := by kernel_rfl
@[simp] theorem tby_62 : tby Go.Proofs.Try.prog 62 = some 40 := by kernel_rfl
@[simp] theorem tz_62 : tz Go.Proofs.Try.prog 62 = some (.agg #[.int .i64 0, .int .i64 0, .slice none 0 0]) := by kernel_rfl
@[simp] theorem tagg_62 : tagg Go.Proofs.Try.prog 62 = some true := by kernel_rfl
@[simp] theorem tel_62 : tel Go.Proofs.Try.prog 62 = none := by kernel_rfl
@[simp] theorem tbool_62 : tbool Go.Proofs.Try.prog 62 = false := by kernel_rfl
@[simp] theorem tund_62 : (Go.Program.underlying Go.Proofs.Try.prog 62).isSome = true := by kernel_rfl
@[simp] theorem flds_62 : flds Go.Proofs.Try.prog 62 = some [(0, 1), (1, 1), (2, 1)] := by kernel_rfl
@[simp] theorem tsz_64 : tsz Go.Proofs.Try.prog 64 = some 1 := by kernel_rfl
@[simp] theorem tby_64 : tby Go.Proofs.Try.prog 64 = some 8 := by kernel_rfl
@[simp] theorem tz_64 : tz Go.Proofs.Try.prog 64 = some (.int .i64 0) := by kernel_rfl
@[simp] theorem tagg_64 : tagg Go.Proofs.Try.prog 64 = some false := by kernel_rfl
@[simp] theorem tel_64 : tel Go.Proofs.Try.prog 64 = none := by kernel_rfl
@[simp] theorem tbool_64 : tbool Go.Proofs.Try.prog 64 = false := by kernel_rfl
@[simp] theorem tund_64 : (Go.Program.underlying Go.Proofs.Try.prog 64).isSome = true := by kernel_rfl
@[simp] theorem tint_64 : tint Go.Proofs.Try.prog 64 = some .i64 := by kernel_rfl
@[simp] theorem tsz_82 : tsz Go.Proofs.Try.prog 82 = some 3 := by kernel_rfl
@[simp] theorem tby_82 : tby Go.Proofs.Try.prog 82 = some 40 := by kernel_rfl
@[simp] theorem tz_82 : tz Go.Proofs.Try.prog 82 = some (.agg #[.int .i64 0, .int .i64 0, .slice none 0 0]) := by kernel_rfl
@[simp] theorem tagg_82 : tagg Go.Proofs.Try.prog 82 = some true := by kernel_rfl
@[simp] theorem tel_82 : tel Go.Proofs.Try.prog 82 = none := by kernel_rfl
@[simp] theorem tbool_82 : tbool Go.Proofs.Try.prog 82 = false := by kernel_rfl
@[simp] theorem tund_82 : (Go.Program.underlying Go.Proofs.Try.prog 82).isSome = true := by kernel_rfl
@[simp] theorem flds_82 : flds Go.Proofs.Try.prog 82 = some [(0, 1), (1, 1), (2, 1)] := by kernel_rfl
@[simp] theorem tsz_83 : tsz Go.Proofs.Try.prog 83 = some 3 := by kernel_rfl
@[simp] theorem tby_83 : tby Go.Proofs.Try.prog 83 = some 40 := by kernel_rfl
@[simp] theorem tz_83 : tz Go.Proofs.Try.prog 83 = some (.agg #[.int .i64 0, .int .i64 0, .slice none 0 0]) := by kernel_rfl
@[simp] theorem tagg_83 : tagg Go.Proofs.Try.prog 83 = some true := by kernel_rfl
@[simp] theorem tel_83 : tel Go.Proofs.Try.prog 83 = none := by kernel_rfl
@[simp] theorem tbool_83 : tbool Go.Proofs.Try.prog 83 = false := by kernel_rfl
@[simp] theorem tund_83 : (Go.Program.underlying Go.Proofs.Try.prog 83).isSome = true := by kernel_rfl
@[simp] theorem flds_83 : flds Go.Proofs.Try.prog 83 = some [(0, 1), (1, 1), (2, 1)] := by kernel_rfl
@[simp] theorem tsz_85 : tsz Go.Proofs.Try.prog 85 = some 1 := by kernel_rfl
@[simp] theorem tby_85 : tby Go.Proofs.Try.prog 85 = some 24 := by kernel_rfl
@[simp] theorem tz_85 : tz Go.Proofs.Try.prog 85 = some (.slice none 0 0) := by kernel_rfl
@[simp] theorem tagg_85 : tagg Go.Proofs.Try.prog 85 = some false := by kernel_rfl
@[simp] theorem tel_85 : tel Go.Proofs.Try.prog 85 = some 2 := by kernel_rfl
@[simp] theorem tbool_85 : tbool Go.Proofs.Try.prog 85 = false := by kernel_rfl
@[simp] theorem tund_85 : (Go.Program.underlying Go.Proofs.Try.prog 85).isSome = true := by kernel_rfl
@[simp] theorem tsz_86 : tsz Go.Proofs.Try.prog 86 = some 1 := by kernel_rfl
@[simp] theorem tby_86 : tby Go.Proofs.Try.prog 86 = some 24 := by kernel_rfl
@[simp] theorem tz_86 : tz Go.Proofs.Try.prog 86 = some (.slice none 0 0) := by kernel_rfl
@[simp] theorem tagg_86 : tagg Go.Proofs.Try.prog 86 = some false := by kernel_rfl
@[simp] theorem tel_86 : tel Go.Proofs.Try.prog 86 = some 83 := by kernel_rfl
@[simp] theorem tbool_86 : tbool Go.Proofs.Try.prog 86 = false := by kernel_rfl
@[simp] theorem tund_86 : (Go.Program.underlying Go.Proofs.Try.prog 86).isSome = true := by kernel_rfl
@[simp] theorem tsz_87 : tsz Go.Proofs.Try.prog 87 = some 1 := by kernel_rfl
@[simp] theorem tby_87 : tby Go.Proofs.Try.prog 87 = some 24 := by kernel_rfl
@[simp] theorem tz_87 : tz Go.Proofs.Try.prog 87 = some (.slice none 0 0) := by kernel_rfl
@[simp] theorem tagg_87 : tagg Go.Proofs.Try.prog 87 = some false := by kernel_rfl
@[simp] theorem tel_87 : tel Go.Proofs.Try.prog 87 = some 83 := by kernel_rfl
@[simp] theorem tbool_87 : tbool Go.Proofs.Try.prog 87 = false := by kernel_rfl
@[simp] theorem tund_87 : (Go.Program.underlying Go.Proofs.Try.prog 87).isSome = true := by kernel_rfl
@[simp] theorem tsz_98 : tsz Go.Proofs.Try.prog 98 = some 1 := by kernel_rfl
@[simp] theorem tby_98 : tby Go.Proofs.Try.prog 98 = some 8 := by kernel_rfl
@[simp] theorem tagg_98 : tagg Go.Proofs.Try.prog 98 = some false := by kernel_rfl
@[simp] theorem tel_98 : tel Go.Proofs.Try.prog 98 = none := by kernel_rfl
@[simp] theorem tbool_98 : tbool Go.Proofs.Try.prog 98 = false := by kernel_rfl
@[simp] theorem tund_98 : (Go.Program.underlying Go.Proofs.Try.prog 98).isSome = true := by kernel_rfl
@[simp] theorem tmp_98 : tmp Go.Proofs.Try.prog 98 = some (3, 32) := by kernel_rfl
@[simp] theorem tsz_99 : tsz Go.Proofs.Try.prog 99 = some 1 := by kernel_rfl
@[simp] theorem tby_99 : tby Go.Proofs.Try.prog 99 = some 8 := by kernel_rfl
@[simp] theorem tagg_99 : tagg Go.Proofs.Try.prog 99 = some false := by kernel_rfl
@[simp] theorem tel_99 : tel Go.Proofs.Try.prog 99 = none := by kernel_rfl
@[simp] theorem tbool_99 : tbool Go.Proofs.Try.prog 99 = false := by kernel_rfl
@[simp] theorem tund_99 : (Go.Program.underlying Go.Proofs.Try.prog 99).isSome = true := by kernel_rfl
@[simp] theorem tmp_99 : tmp Go.Proofs.Try.prog 99 = some (3, 32) := by kernel_rfl
@[simp] theorem tsz_102 : tsz Go.Proofs.Try.prog 102 = some 1 := by kernel_rfl
@[simp] theorem tby_102 : tby Go.Proofs.Try.prog 102 = some 8 := by kernel_rfl
@[simp] theorem tz_102 : tz Go.Proofs.Try.prog 102 = some (.int .u64 0) := by kernel_rfl
@[simp] theorem tagg_102 : tagg Go.Proofs.Try.prog 102 = some false := by kernel_rfl
@[simp] theorem tel_102 : tel Go.Proofs.Try.prog 102 = none := by kernel_rfl
@[simp] theorem tbool_102 : tbool Go.Proofs.Try.prog 102 = false := by kernel_rfl
@[simp] theorem tund_102 : (Go.Program.underlying Go.Proofs.Try.prog 102).isSome = true := by kernel_rfl
@[simp] theorem tint_102 : tint Go.Proofs.Try.prog 102 = some .u64 := by kernel_rfl
@[simp] theorem tsz_104 : tsz Go.Proofs.Try.prog 104 = some 1 := by kernel_rfl
@[simp] theorem tby_104 : tby Go.Proofs.Try.prog 104 = some 4 := by kernel_rfl
@[simp] theorem tz_104 : tz Go.Proofs.Try.prog 104 = some (.int .u32 0) := by kernel_rfl
@[simp] theorem tagg_104 : tagg Go.Proofs.Try.prog 104 = some false := by kernel_rfl
@[simp] theorem tel_104 : tel Go.Proofs.Try.prog 104 = none := by kernel_rfl
@[simp] theorem tbool_104 : tbool Go.Proofs.Try.prog 104 = false := by kernel_rfl
@[simp] theorem tund_104 : (Go.Program.underlying Go.Proofs.Try.prog 104).isSome = true := by kernel_rfl
@[simp] theorem tint_104 : tint Go.Proofs.Try.prog 104 = some .u32 := by kernel_rfl
@[simp] theorem tsz_105 : tsz Go.Proofs.Try.prog 105 = some 1 := by kernel_rfl
@[simp] theorem tby_105 : tby Go.Proofs.Try.prog 105 = some 8 := by kernel_rfl
@[simp] theorem tz_105 : tz Go.Proofs.Try.prog 105 = some (.int .u64 0) := by kernel_rfl
@[simp] theorem tagg_105 : tagg Go.Proofs.Try.prog 105 = some false := by kernel_rfl
@[simp] theorem tel_105 : tel Go.Proofs.Try.prog 105 = none := by kernel_rfl
@[simp] theorem tbool_105 : tbool Go.Proofs.Try.prog 105 = false := by kernel_rfl
@[simp] theorem tund_105 : (Go.Program.underlying Go.Proofs.Try.prog 105).isSome = true := by kernel_rfl
@[simp] theorem tint_105 : tint Go.Proofs.Try.prog 105 = some .u64 := by kernel_rfl
@[simp] theorem tsz_108 : tsz Go.Proofs.Try.prog 108 = some 3 := by kernel_rfl
@[simp] theorem tby_108 : tby Go.Proofs.Try.prog 108 = some 40 := by kernel_rfl
@[simp] theorem tz_108 : tz Go.Proofs.Try.prog 108 = some (.agg #[.int .i64 0, .bool false, .slice none 0 0]) := by kernel_rfl
@[simp] theorem tagg_108 : tagg Go.Proofs.Try.prog 108 = some true := by kernel_rfl
@[simp] theorem tel_108 : tel Go.Proofs.Try.prog 108 = none := by kernel_rfl
@[simp] theorem tbool_108 : tbool Go.Proofs.Try.prog 108 = false := by kernel_rfl
@[simp] theorem tund_108 : (Go.Program.underlying Go.Proofs.Try.prog 108).isSome = true := by kernel_rfl
@[simp] theorem flds_108 : flds Go.Proofs.Try.prog 108 = some [(0, 1), (1, 2)] := by kernel_rfl
@[simp] theorem tsz_109 : tsz Go.Proofs.Try.prog 109 = some 3 := by kernel_rfl
@[simp] theorem tby_109 : tby Go.Proofs.Try.prog 109 = some 40 := by kernel_rfl
@[simp] theorem tz_109 : tz Go.Proofs.Try.prog 109 = some (.agg #[.int .i64 0, .bool false, .slice none 0 0]) := by kernel_rfl
@[simp] theorem tagg_109 : tagg Go.Proofs.Try.prog 109 = some true := by kernel_rfl
@[simp] theorem tel_109 : tel Go.Proofs.Try.prog 109 = none := by kernel_rfl
@[simp] theorem tbool_109 : tbool Go.Proofs.Try.prog 109 = false := by kernel_rfl
@[simp] theorem tund_109 : (Go.Program.underlying Go.Proofs.Try.prog 109).isSome = true := by kernel_rfl
@[simp] theorem flds_109 : flds Go.Proofs.Try.prog 109 = some [(0, 1), (1, 2)] := by kernel_rfl
@[simp] theorem tsz_115 : tsz Go.Proofs.Try.prog 115 = some 4 := by kernel_rfl
@[simp] theorem tby_115 : tby Go.Proofs.Try.prog 115 = some 64 := by kernel_rfl
@[simp] theorem tz_115 : tz Go.Proofs.Try.prog 115 = some (.agg #[.bool false, .slice none 0 0, .bool false, .slice none 0 0]) := by kernel_rfl
@[simp] theorem tagg_115 : tagg Go.Proofs.Try.prog 115 = some true := by kernel_rfl
@[simp] theorem tel_115 : tel Go.Proofs.Try.prog 115 = none := by kernel_rfl
@[simp] theorem tbool_115 : tbool Go.Proofs.Try.prog 115 = false := by kernel_rfl
@[simp] theorem tund_115 : (Go.Program.underlying Go.Proofs.Try.prog 115).isSome = true := by kernel_rfl
@[simp] theorem tarr_115 : tarr Go.Proofs.Try.prog 115 = some (2, 32) := by kernel_rfl
@[simp] theorem tsz_121 : tsz Go.Proofs.Try.prog 121 = some 1 := by kernel_rfl
@[simp] theorem tby_121 : tby Go.Proofs.Try.prog 121 = some 24 := by kernel_rfl
@[simp] theorem tz_121 : tz Go.Proofs.Try.prog 121 = some (.slice none 0 0) := by kernel_rfl
@[simp] theorem tagg_121 : tagg Go.Proofs.Try.prog 121 = some false := by kernel_rfl
@[simp] theorem tel_121 : tel Go.Proofs.Try.prog 121 = some 3 := by kernel_rfl
@[simp] theorem tbool_121 : tbool Go.Proofs.Try.prog 121 = false := by kernel_rfl
@[simp] theorem tund_121 : (Go.Program.underlying Go.Proofs.Try.prog 121).isSome = true := by kernel_rfl
@[simp] theorem tsz_139 : tsz Go.Proofs.Try.prog 139 = some 2 := by kernel_rfl
@[simp] theorem tby_139 : tby Go.Proofs.Try.prog 139 = some 48 := by kernel_rfl
@[simp] theorem tz_139 : tz Go.Proofs.Try.prog 139 = some (.agg #[.slice none 0 0, .slice none 0 0]) := by kernel_rfl
@[simp] theorem tagg_139 : tagg Go.Proofs.Try.prog 139 = some true := by kernel_rfl
@[simp] theorem tel_139 : tel Go.Proofs.Try.prog 139 = none := by kernel_rfl
@[simp] theorem tbool_139 : tbool Go.Proofs.Try.prog 139 = false := by kernel_rfl
@[simp] theorem tund_139 : (Go.Program.underlying Go.Proofs.Try.prog 139).isSome = true := by kernel_rfl
@[simp] theorem tarr_139 : tarr Go.Proofs.Try.prog 139 = some (2, 45) := by kernel_rfl
@[simp] theorem tsz_146 : tsz Go.Proofs.Try.prog 146 = some 1 := by kernel_rfl
@[simp] theorem tby_146 : tby Go.Proofs.Try.prog 146 = some 8 := by kernel_rfl
@[simp] theorem tagg_146 : tagg Go.Proofs.Try.prog 146 = some false := by kernel_rfl
@[simp] theorem tel_146 : tel Go.Proofs.Try.prog 146 = none := by kernel_rfl
@[simp] theorem tbool_146 : tbool Go.Proofs.Try.prog 146 = false := by kernel_rfl
@[simp] theorem tund_146 : (Go.Program.underlying Go.Proofs.Try.prog 146).isSome = true := by kernel_rfl
@[simp] theorem tmp_146 : tmp Go.Proofs.Try.prog 146 = some (3, 3) := by kernel_rfl
@[simp] theorem tsz_154 : tsz Go.Proofs.Try.prog 154 = some 1 := by kernel_rfl
@[simp] theorem tby_154 : tby Go.Proofs.Try.prog 154 = some 8 := by kernel_rfl
@[simp] theorem tz_154 : tz Go.Proofs.Try.prog 154 = some (.int .i64 0) := by kernel_rfl
@[simp] theorem tagg_154 : tagg Go.Proofs.Try.prog 154 = some false := by kernel_rfl
@[simp] theorem tel_154 : tel Go.Proofs.Try.prog 154 = none := by kernel_rfl
@[simp] theorem tbool_154 : tbool Go.Proofs.Try.prog 154 = false := by kernel_rfl
@[simp] theorem tund_154 : (Go.Program.underlying Go.Proofs.Try.prog 154).isSome = true := by kernel_rfl
@[simp] theorem tint_154 : tint Go.Proofs.Try.prog 154 = some .i64 := by kernel_rfl
@[simp] theorem tsz_163 : tsz Go.Proofs.Try.prog 163 = some 1 := by kernel_rfl
@[simp] theorem tby_163 : tby Go.Proofs.Try.prog 163 = some 8 := by kernel_rfl
@[simp] theorem tz_163 : tz Go.Proofs.Try.prog 163 = some (.int .u64 0) := by kernel_rfl
@[simp] theorem tagg_163 : tagg Go.Proofs.Try.prog 163 = some false := by kernel_rfl
@[simp] theorem tel_163 : tel Go.Proofs.Try.prog 163 = none := by kernel_rfl
@[simp] theorem tbool_163 : tbool Go.Proofs.Try.prog 163 = false := by kernel_rfl
@[simp] theorem tund_163 : (Go.Program.underlying Go.Proofs.Try.prog 163).isSome = true := by kernel_rfl
@[simp] theorem tint_163 : tint Go.Proofs.Try.prog 163 = some .u64 := by kernel_rfl
@[simp] theorem tsz_175 : tsz Go.Proofs.Try.prog 175 = some 0 := by kernel_rfl
@[simp] theorem tby_175 : tby Go.Proofs.Try.prog 175 = some 0 := by kernel_rfl
@[simp] theorem tz_175 : tz Go.Proofs.Try.prog 175 = some (.agg #[]) := by kernel_rfl
@[simp] theorem tagg_175 : tagg Go.Proofs.Try.prog 175 = some true := by kernel_rfl
@[simp] theorem tel_175 : tel Go.Proofs.Try.prog 175 = none := by kernel_rfl
@[simp] theorem tbool_175 : tbool Go.Proofs.Try.prog 175 = false := by kernel_rfl
@[simp] theorem tund_175 : (Go.Program.underlying Go.Proofs.Try.prog 175).isSome = true := by kernel_rfl
@[simp] theorem tarr_175 : tarr Go.Proofs.Try.prog 175 = some (0, 16) := by kernel_rfl
@[simp] theorem tsz_176 : tsz Go.Proofs.Try.prog 176 = some 0 := by kernel_rfl
@[simp] theorem tby_176 : tby Go.Proofs.Try.prog 176 = some 0 := by kernel_rfl
@[simp] theorem tz_176 : tz Go.Proofs.Try.prog 176 = some (.agg #[]) := by kernel_rfl
@[simp] theorem tagg_176 : tagg Go.Proofs.Try.prog 176 = some true := by kernel_rfl
@[simp] theorem tel_176 : tel Go.Proofs.Try.prog 176 = none := by kernel_rfl
@[simp] theorem tbool_176 : tbool Go.Proofs.Try.prog 176 = false := by kernel_rfl
@[simp] theorem tund_176 : (Go.Program.underlying Go.Proofs.Try.prog 176).isSome = true := by kernel_rfl
@[simp] theorem flds_176 : flds Go.Proofs.Try.prog 176 = some [(0, 0)] := by kernel_rfl
@[simp] theorem tsz_177 : tsz Go.Proofs.Try.prog 177 = some 0 := by kernel_rfl
@[simp] theorem tby_177 : tby Go.Proofs.Try.prog 177 = some 0 := by kernel_rfl
@[simp] theorem tz_177 : tz Go.Proofs.Try.prog 177 = some (.agg #[]) := by kernel_rfl
@[simp] theorem tagg_177 : tagg Go.Proofs.Try.prog 177 = some true := by kernel_rfl
@[simp] theorem tel_177 : tel Go.Proofs.Try.prog 177 = none := by kernel_rfl
@[simp] theorem tbool_177 : tbool Go.Proofs.Try.prog 177 = false := by kernel_rfl
@[simp] theorem tund_177 : (Go.Program.underlying Go.Proofs.Try.prog 177).isSome = true := by kernel_rfl
@[simp] theorem flds_177 : flds Go.Proofs.Try.prog 177 = some [(0, 0)] := by kernel_rfl
@[simp] theorem tsz_179 : tsz Go.Proofs.Try.prog 179 = some 1 := by kernel_rfl
@[simp] theorem tby_179 : tby Go.Proofs.Try.prog 179 = some 1 := by kernel_rfl
@[simp] theorem tz_179 : tz Go.Proofs.Try.prog 179 = some (.int .u8 0) := by kernel_rfl
@[simp] theorem tagg_179 : tagg Go.Proofs.Try.prog 179 = some false := by kernel_rfl
@[simp] theorem tel_179 : tel Go.Proofs.Try.prog 179 = none := by kernel_rfl
@[simp] theorem tbool_179 : tbool Go.Proofs.Try.prog 179 = false := by kernel_rfl
@[simp] theorem tund_179 : (Go.Program.underlying Go.Proofs.Try.prog 179).isSome = true := by kernel_rfl
@[simp] theorem tint_179 : tint Go.Proofs.Try.prog 179 = some .u8 := by kernel_rfl
@[simp] theorem tsz_180 : tsz Go.Proofs.Try.prog 180 = some 1 := by kernel_rfl
@[simp] theorem tby_180 : tby Go.Proofs.Try.prog 180 = some 1 := by kernel_rfl
@[simp] theorem tz_180 : tz Go.Proofs.Try.prog 180 = some (.int .u8 0) := by kernel_rfl
@[simp] theorem tagg_180 : tagg Go.Proofs.Try.prog 180 = some false := by kernel_rfl
@[simp] theorem tel_180 : tel Go.Proofs.Try.prog 180 = none := by kernel_rfl
@[simp] theorem tbool_180 : tbool Go.Proofs.Try.prog 180 = false := by kernel_rfl
@[simp] theorem tund_180 : (Go.Program.underlying Go.Proofs.Try.prog 180).isSome = true := by kernel_rfl
@[simp] theorem tint_180 : tint Go.Proofs.Try.prog 180 = some .u8 := by kernel_rfl
@[simp] theorem tsz_183 : tsz Go.Proofs.Try.prog 183 = some 1 := by kernel_rfl
@[simp] theorem tby_183 : tby Go.Proofs.Try.prog 183 = some 4 := by kernel_rfl
@[simp] theorem tz_183 : tz Go.Proofs.Try.prog 183 = some (.int .i32 0) := by kernel_rfl
@[simp] theorem tagg_183 : tagg Go.Proofs.Try.prog 183 = some false := by kernel_rfl
@[simp] theorem tel_183 : tel Go.Proofs.Try.prog 183 = none := by kernel_rfl
@[simp] theorem tbool_183 : tbool Go.Proofs.Try.prog 183 = false := by kernel_rfl
@[simp] theorem tund_183 : (Go.Program.underlying Go.Proofs.Try.prog 183).isSome = true := by kernel_rfl
@[simp] theorem tint_183 : tint Go.Proofs.Try.prog 183 = some .i32 := by kernel_rfl
@[simp] theorem tsz_184 : tsz Go.Proofs.Try.prog 184 = some 1 := by kernel_rfl
@[simp] theorem tby_184 : tby Go.Proofs.Try.prog 184 = some 4 := by kernel_rfl
@[simp] theorem tz_184 : tz Go.Proofs.Try.prog 184 = some (.int .i32 0) := by kernel_rfl
@[simp] theorem tagg_184 : tagg Go.Proofs.Try.prog 184 = some false := by kernel_rfl
@[simp] theorem tel_184 : tel Go.Proofs.Try.prog 184 = none := by kernel_rfl
@[simp] theorem tbool_184 : tbool Go.Proofs.Try.prog 184 = false := by kernel_rfl
@[simp] theorem tund_184 : (Go.Program.underlying Go.Proofs.Try.prog 184).isSome = true := by kernel_rfl
@[simp] theorem tint_184 : tint Go.Proofs.Try.prog 184 = some .i32 := by kernel_rfl

@[simp] theorem follows_mixed : Go.Tables.follows Go.Proofs.Try.prog.toTables .mixedOrders = true := by kernel_rfl

end Go.Am
