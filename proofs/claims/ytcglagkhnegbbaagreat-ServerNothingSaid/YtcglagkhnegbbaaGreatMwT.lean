/- Facts of the types and functions of this program, each by evaluation. -/
import Derived.Test.YtcglagkhnegbbaaGreatProg
import Derived.Test.YtcglagkhnegbbaaGreatMwBase
namespace Go.Proofs.YtcglagkhnegbbaaGreat
open Go.RowKit
set_option maxRecDepth 100000
theorem follows_mo : Go.Proofs.Tryz.prog.follows .mixedOrders = true := by kernel_rfl
theorem tok_0 : tok Go.Proofs.Tryz.prog 0 = true := by kernel_rfl
theorem tsz_0 : tsz Go.Proofs.Tryz.prog 0 = 1 := by kernel_rfl
theorem tby_0 : tbytes Go.Proofs.Tryz.prog 0 = 0 := by kernel_rfl
theorem tagg_0 : tagg Go.Proofs.Tryz.prog 0 = false := by kernel_rfl
theorem tconc_0 : tconc Go.Proofs.Tryz.prog 0 = true := by kernel_rfl
theorem tzero_0 : tzero Go.Proofs.Tryz.prog 0 = some (.tuple #[]) := by kernel_rfl
theorem tok_1 : tok Go.Proofs.Tryz.prog 1 = true := by kernel_rfl
theorem tsz_1 : tsz Go.Proofs.Tryz.prog 1 = 1 := by kernel_rfl
theorem tby_1 : tbytes Go.Proofs.Tryz.prog 1 = 8 := by kernel_rfl
theorem tagg_1 : tagg Go.Proofs.Tryz.prog 1 = false := by kernel_rfl
theorem tconc_1 : tconc Go.Proofs.Tryz.prog 1 = true := by kernel_rfl
theorem tzero_1 : tzero Go.Proofs.Tryz.prog 1 = some .nilFunc := by kernel_rfl
theorem tok_2 : tok Go.Proofs.Tryz.prog 2 = true := by kernel_rfl
theorem tsz_2 : tsz Go.Proofs.Tryz.prog 2 = 1 := by kernel_rfl
theorem tby_2 : tbytes Go.Proofs.Tryz.prog 2 = 8 := by kernel_rfl
theorem tagg_2 : tagg Go.Proofs.Tryz.prog 2 = false := by kernel_rfl
theorem tconc_2 : tconc Go.Proofs.Tryz.prog 2 = true := by kernel_rfl
theorem tzero_2 : tzero Go.Proofs.Tryz.prog 2 = some (.int .i64 0) := by kernel_rfl
theorem tkind_2 : tkind Go.Proofs.Tryz.prog 2 = some .i64 := by kernel_rfl
theorem tok_3 : tok Go.Proofs.Tryz.prog 3 = true := by kernel_rfl
theorem tsz_3 : tsz Go.Proofs.Tryz.prog 3 = 1 := by kernel_rfl
theorem tby_3 : tbytes Go.Proofs.Tryz.prog 3 = 8 := by kernel_rfl
theorem tagg_3 : tagg Go.Proofs.Tryz.prog 3 = false := by kernel_rfl
theorem tconc_3 : tconc Go.Proofs.Tryz.prog 3 = true := by kernel_rfl
theorem tzero_3 : tzero Go.Proofs.Tryz.prog 3 = some (.int .i64 0) := by kernel_rfl
theorem tkind_3 : tkind Go.Proofs.Tryz.prog 3 = some .i64 := by kernel_rfl
theorem tok_4 : tok Go.Proofs.Tryz.prog 4 = true := by kernel_rfl
theorem tsz_4 : tsz Go.Proofs.Tryz.prog 4 = 1 := by kernel_rfl
theorem tby_4 : tbytes Go.Proofs.Tryz.prog 4 = 1 := by kernel_rfl
theorem tagg_4 : tagg Go.Proofs.Tryz.prog 4 = false := by kernel_rfl
theorem tconc_4 : tconc Go.Proofs.Tryz.prog 4 = true := by kernel_rfl
theorem tzero_4 : tzero Go.Proofs.Tryz.prog 4 = some (.bool false) := by kernel_rfl
theorem tbool_4 : tbool Go.Proofs.Tryz.prog 4 = true := by kernel_rfl
theorem tok_5 : tok Go.Proofs.Tryz.prog 5 = true := by kernel_rfl
theorem tsz_5 : tsz Go.Proofs.Tryz.prog 5 = 1 := by kernel_rfl
theorem tby_5 : tbytes Go.Proofs.Tryz.prog 5 = 1 := by kernel_rfl
theorem tagg_5 : tagg Go.Proofs.Tryz.prog 5 = false := by kernel_rfl
theorem tconc_5 : tconc Go.Proofs.Tryz.prog 5 = true := by kernel_rfl
theorem tzero_5 : tzero Go.Proofs.Tryz.prog 5 = some (.int .u8 0) := by kernel_rfl
theorem tkind_5 : tkind Go.Proofs.Tryz.prog 5 = some .u8 := by kernel_rfl
theorem tok_6 : tok Go.Proofs.Tryz.prog 6 = true := by kernel_rfl
theorem tsz_6 : tsz Go.Proofs.Tryz.prog 6 = 1 := by kernel_rfl
theorem tby_6 : tbytes Go.Proofs.Tryz.prog 6 = 1 := by kernel_rfl
theorem tagg_6 : tagg Go.Proofs.Tryz.prog 6 = false := by kernel_rfl
theorem tconc_6 : tconc Go.Proofs.Tryz.prog 6 = true := by kernel_rfl
theorem tzero_6 : tzero Go.Proofs.Tryz.prog 6 = some (.int .u8 0) := by kernel_rfl
theorem tkind_6 : tkind Go.Proofs.Tryz.prog 6 = some .u8 := by kernel_rfl
theorem tok_7 : tok Go.Proofs.Tryz.prog 7 = true := by kernel_rfl
theorem tsz_7 : tsz Go.Proofs.Tryz.prog 7 = 4 := by kernel_rfl
theorem tby_7 : tbytes Go.Proofs.Tryz.prog 7 = 24 := by kernel_rfl
theorem tagg_7 : tagg Go.Proofs.Tryz.prog 7 = true := by kernel_rfl
theorem tconc_7 : tconc Go.Proofs.Tryz.prog 7 = true := by kernel_rfl
theorem tzero_7 : tzero Go.Proofs.Tryz.prog 7 = some (.agg #[.int .i64 0, .int .i64 0, .bool false, .int .u8 0]) := by kernel_rfl
theorem tfld_7_0 : tfld Go.Proofs.Tryz.prog 7 0 = some (2, 0) := by kernel_rfl
theorem fldA_7_0 : fldA Go.Proofs.Tryz.prog 7 0 = some 0 := by kernel_rfl
theorem tfld_7_1 : tfld Go.Proofs.Tryz.prog 7 1 = some (3, 1) := by kernel_rfl
theorem fldA_7_1 : fldA Go.Proofs.Tryz.prog 7 1 = some 1 := by kernel_rfl
theorem tfld_7_2 : tfld Go.Proofs.Tryz.prog 7 2 = some (4, 2) := by kernel_rfl
theorem fldA_7_2 : fldA Go.Proofs.Tryz.prog 7 2 = some 2 := by kernel_rfl
theorem tfld_7_3 : tfld Go.Proofs.Tryz.prog 7 3 = some (6, 3) := by kernel_rfl
theorem fldA_7_3 : fldA Go.Proofs.Tryz.prog 7 3 = some 3 := by kernel_rfl
theorem tok_8 : tok Go.Proofs.Tryz.prog 8 = true := by kernel_rfl
theorem tsz_8 : tsz Go.Proofs.Tryz.prog 8 = 4 := by kernel_rfl
theorem tby_8 : tbytes Go.Proofs.Tryz.prog 8 = 24 := by kernel_rfl
theorem tagg_8 : tagg Go.Proofs.Tryz.prog 8 = true := by kernel_rfl
theorem tconc_8 : tconc Go.Proofs.Tryz.prog 8 = true := by kernel_rfl
theorem tzero_8 : tzero Go.Proofs.Tryz.prog 8 = some (.agg #[.int .i64 0, .int .i64 0, .bool false, .int .u8 0]) := by kernel_rfl
theorem tfld_8_0 : tfld Go.Proofs.Tryz.prog 8 0 = some (2, 0) := by kernel_rfl
theorem fldA_8_0 : fldA Go.Proofs.Tryz.prog 8 0 = some 0 := by kernel_rfl
theorem tfld_8_1 : tfld Go.Proofs.Tryz.prog 8 1 = some (3, 1) := by kernel_rfl
theorem fldA_8_1 : fldA Go.Proofs.Tryz.prog 8 1 = some 1 := by kernel_rfl
theorem tfld_8_2 : tfld Go.Proofs.Tryz.prog 8 2 = some (4, 2) := by kernel_rfl
theorem fldA_8_2 : fldA Go.Proofs.Tryz.prog 8 2 = some 2 := by kernel_rfl
theorem tfld_8_3 : tfld Go.Proofs.Tryz.prog 8 3 = some (6, 3) := by kernel_rfl
theorem fldA_8_3 : fldA Go.Proofs.Tryz.prog 8 3 = some 3 := by kernel_rfl
theorem meth_8_Error : methB Go.Proofs.Tryz.prog 8 "Error" = some 254 := by kernel_rfl
theorem meth_8_RuntimeError : methB Go.Proofs.Tryz.prog 8 "RuntimeError" = some 255 := by kernel_rfl
theorem tok_9 : tok Go.Proofs.Tryz.prog 9 = true := by kernel_rfl
theorem tsz_9 : tsz Go.Proofs.Tryz.prog 9 = 1 := by kernel_rfl
theorem tby_9 : tbytes Go.Proofs.Tryz.prog 9 = 16 := by kernel_rfl
theorem tagg_9 : tagg Go.Proofs.Tryz.prog 9 = false := by kernel_rfl
theorem tconc_9 : tconc Go.Proofs.Tryz.prog 9 = true := by kernel_rfl
theorem tzero_9 : tzero Go.Proofs.Tryz.prog 9 = some (.string { data := #[] }) := by kernel_rfl
theorem tstr_9 : tstr Go.Proofs.Tryz.prog 9 = true := by kernel_rfl
theorem tok_10 : tok Go.Proofs.Tryz.prog 10 = true := by kernel_rfl
theorem tsz_10 : tsz Go.Proofs.Tryz.prog 10 = 1 := by kernel_rfl
theorem tby_10 : tbytes Go.Proofs.Tryz.prog 10 = 16 := by kernel_rfl
theorem tagg_10 : tagg Go.Proofs.Tryz.prog 10 = false := by kernel_rfl
theorem tconc_10 : tconc Go.Proofs.Tryz.prog 10 = true := by kernel_rfl
theorem tzero_10 : tzero Go.Proofs.Tryz.prog 10 = some (.string { data := #[] }) := by kernel_rfl
theorem tstr_10 : tstr Go.Proofs.Tryz.prog 10 = true := by kernel_rfl
theorem meth_10_Error : methB Go.Proofs.Tryz.prog 10 "Error" = some 256 := by kernel_rfl
theorem meth_10_RuntimeError : methB Go.Proofs.Tryz.prog 10 "RuntimeError" = some 257 := by kernel_rfl
theorem tok_11 : tok Go.Proofs.Tryz.prog 11 = true := by kernel_rfl
theorem tsz_11 : tsz Go.Proofs.Tryz.prog 11 = 1 := by kernel_rfl
theorem tby_11 : tbytes Go.Proofs.Tryz.prog 11 = 16 := by kernel_rfl
theorem tagg_11 : tagg Go.Proofs.Tryz.prog 11 = false := by kernel_rfl
theorem tconc_11 : tconc Go.Proofs.Tryz.prog 11 = true := by kernel_rfl
theorem tzero_11 : tzero Go.Proofs.Tryz.prog 11 = some (.string { data := #[] }) := by kernel_rfl
theorem tstr_11 : tstr Go.Proofs.Tryz.prog 11 = true := by kernel_rfl
theorem meth_11_Error : methB Go.Proofs.Tryz.prog 11 "Error" = some 258 := by kernel_rfl
theorem meth_11_RuntimeError : methB Go.Proofs.Tryz.prog 11 "RuntimeError" = some 259 := by kernel_rfl
theorem tok_12 : tok Go.Proofs.Tryz.prog 12 = true := by kernel_rfl
theorem tsz_12 : tsz Go.Proofs.Tryz.prog 12 = 1 := by kernel_rfl
theorem tby_12 : tbytes Go.Proofs.Tryz.prog 12 = 8 := by kernel_rfl
theorem tagg_12 : tagg Go.Proofs.Tryz.prog 12 = false := by kernel_rfl
theorem tconc_12 : tconc Go.Proofs.Tryz.prog 12 = true := by kernel_rfl
theorem tzero_12 : tzero Go.Proofs.Tryz.prog 12 = some (.int .u64 0) := by kernel_rfl
theorem tkind_12 : tkind Go.Proofs.Tryz.prog 12 = some .u64 := by kernel_rfl
theorem tok_13 : tok Go.Proofs.Tryz.prog 13 = true := by kernel_rfl
theorem tsz_13 : tsz Go.Proofs.Tryz.prog 13 = 2 := by kernel_rfl
theorem tby_13 : tbytes Go.Proofs.Tryz.prog 13 = 24 := by kernel_rfl
theorem tagg_13 : tagg Go.Proofs.Tryz.prog 13 = true := by kernel_rfl
theorem tconc_13 : tconc Go.Proofs.Tryz.prog 13 = true := by kernel_rfl
theorem tzero_13 : tzero Go.Proofs.Tryz.prog 13 = some (.agg #[.string { data := #[] }, .int .u64 0]) := by kernel_rfl
theorem tfld_13_0 : tfld Go.Proofs.Tryz.prog 13 0 = some (9, 0) := by kernel_rfl
theorem fldA_13_0 : fldA Go.Proofs.Tryz.prog 13 0 = some 0 := by kernel_rfl
theorem tfld_13_1 : tfld Go.Proofs.Tryz.prog 13 1 = some (12, 1) := by kernel_rfl
theorem fldA_13_1 : fldA Go.Proofs.Tryz.prog 13 1 = some 1 := by kernel_rfl
theorem tok_14 : tok Go.Proofs.Tryz.prog 14 = true := by kernel_rfl
theorem tsz_14 : tsz Go.Proofs.Tryz.prog 14 = 2 := by kernel_rfl
theorem tby_14 : tbytes Go.Proofs.Tryz.prog 14 = 24 := by kernel_rfl
theorem tagg_14 : tagg Go.Proofs.Tryz.prog 14 = true := by kernel_rfl
theorem tconc_14 : tconc Go.Proofs.Tryz.prog 14 = true := by kernel_rfl
theorem tzero_14 : tzero Go.Proofs.Tryz.prog 14 = some (.agg #[.string { data := #[] }, .int .u64 0]) := by kernel_rfl
theorem tfld_14_0 : tfld Go.Proofs.Tryz.prog 14 0 = some (9, 0) := by kernel_rfl
theorem fldA_14_0 : fldA Go.Proofs.Tryz.prog 14 0 = some 0 := by kernel_rfl
theorem tfld_14_1 : tfld Go.Proofs.Tryz.prog 14 1 = some (12, 1) := by kernel_rfl
theorem fldA_14_1 : fldA Go.Proofs.Tryz.prog 14 1 = some 1 := by kernel_rfl
theorem meth_14_Error : methB Go.Proofs.Tryz.prog 14 "Error" = some 260 := by kernel_rfl
theorem meth_14_RuntimeError : methB Go.Proofs.Tryz.prog 14 "RuntimeError" = some 261 := by kernel_rfl
theorem tok_15 : tok Go.Proofs.Tryz.prog 15 = true := by kernel_rfl
theorem tsz_15 : tsz Go.Proofs.Tryz.prog 15 = 1 := by kernel_rfl
theorem tby_15 : tbytes Go.Proofs.Tryz.prog 15 = 8 := by kernel_rfl
theorem tagg_15 : tagg Go.Proofs.Tryz.prog 15 = false := by kernel_rfl
theorem tconc_15 : tconc Go.Proofs.Tryz.prog 15 = true := by kernel_rfl
theorem tzero_15 : tzero Go.Proofs.Tryz.prog 15 = some (.pointer none) := by kernel_rfl
theorem tptr_15 : tptr Go.Proofs.Tryz.prog 15 = true := by kernel_rfl
theorem meth_15_Error : methB Go.Proofs.Tryz.prog 15 "Error" = some 262 := by kernel_rfl
theorem meth_15_RuntimeError : methB Go.Proofs.Tryz.prog 15 "RuntimeError" = some 263 := by kernel_rfl
theorem tok_16 : tok Go.Proofs.Tryz.prog 16 = true := by kernel_rfl
theorem tsz_16 : tsz Go.Proofs.Tryz.prog 16 = 1 := by kernel_rfl
theorem tby_16 : tbytes Go.Proofs.Tryz.prog 16 = 8 := by kernel_rfl
theorem tagg_16 : tagg Go.Proofs.Tryz.prog 16 = false := by kernel_rfl
theorem tconc_16 : tconc Go.Proofs.Tryz.prog 16 = true := by kernel_rfl
theorem tzero_16 : tzero Go.Proofs.Tryz.prog 16 = some (.pointer none) := by kernel_rfl
theorem tptr_16 : tptr Go.Proofs.Tryz.prog 16 = true := by kernel_rfl
theorem meth_16_Error : methB Go.Proofs.Tryz.prog 16 "Error" = some 264 := by kernel_rfl
theorem meth_16_RuntimeError : methB Go.Proofs.Tryz.prog 16 "RuntimeError" = some 265 := by kernel_rfl
theorem tok_17 : tok Go.Proofs.Tryz.prog 17 = true := by kernel_rfl
theorem tsz_17 : tsz Go.Proofs.Tryz.prog 17 = 1 := by kernel_rfl
theorem tby_17 : tbytes Go.Proofs.Tryz.prog 17 = 8 := by kernel_rfl
theorem tagg_17 : tagg Go.Proofs.Tryz.prog 17 = false := by kernel_rfl
theorem tconc_17 : tconc Go.Proofs.Tryz.prog 17 = true := by kernel_rfl
theorem tzero_17 : tzero Go.Proofs.Tryz.prog 17 = some (.pointer none) := by kernel_rfl
theorem tptr_17 : tptr Go.Proofs.Tryz.prog 17 = true := by kernel_rfl
theorem meth_17_Align : methB Go.Proofs.Tryz.prog 17 "Align" = some 266 := by kernel_rfl
theorem tok_18 : tok Go.Proofs.Tryz.prog 18 = true := by kernel_rfl
theorem tsz_18 : tsz Go.Proofs.Tryz.prog 18 = 1 := by kernel_rfl
theorem tby_18 : tbytes Go.Proofs.Tryz.prog 18 = 8 := by kernel_rfl
theorem tagg_18 : tagg Go.Proofs.Tryz.prog 18 = true := by kernel_rfl
theorem tconc_18 : tconc Go.Proofs.Tryz.prog 18 = true := by kernel_rfl
theorem tzero_18 : tzero Go.Proofs.Tryz.prog 18 = some (.agg #[.pointer none]) := by kernel_rfl
theorem tfld_18_0 : tfld Go.Proofs.Tryz.prog 18 0 = some (17, 0) := by kernel_rfl
theorem fldA_18_0 : fldA Go.Proofs.Tryz.prog 18 0 = some 0 := by kernel_rfl
theorem tok_19 : tok Go.Proofs.Tryz.prog 19 = true := by kernel_rfl
theorem tsz_19 : tsz Go.Proofs.Tryz.prog 19 = 1 := by kernel_rfl
theorem tby_19 : tbytes Go.Proofs.Tryz.prog 19 = 8 := by kernel_rfl
theorem tagg_19 : tagg Go.Proofs.Tryz.prog 19 = true := by kernel_rfl
theorem tconc_19 : tconc Go.Proofs.Tryz.prog 19 = true := by kernel_rfl
theorem tzero_19 : tzero Go.Proofs.Tryz.prog 19 = some (.agg #[.pointer none]) := by kernel_rfl
theorem tfld_19_0 : tfld Go.Proofs.Tryz.prog 19 0 = some (17, 0) := by kernel_rfl
theorem fldA_19_0 : fldA Go.Proofs.Tryz.prog 19 0 = some 0 := by kernel_rfl
theorem meth_19_Error : methB Go.Proofs.Tryz.prog 19 "Error" = some 267 := by kernel_rfl
theorem meth_19_RuntimeError : methB Go.Proofs.Tryz.prog 19 "RuntimeError" = some 268 := by kernel_rfl
theorem tok_20 : tok Go.Proofs.Tryz.prog 20 = true := by kernel_rfl
theorem tsz_20 : tsz Go.Proofs.Tryz.prog 20 = 1 := by kernel_rfl
theorem tby_20 : tbytes Go.Proofs.Tryz.prog 20 = 16 := by kernel_rfl
theorem tagg_20 : tagg Go.Proofs.Tryz.prog 20 = false := by kernel_rfl
theorem tconc_20 : tconc Go.Proofs.Tryz.prog 20 = false := by kernel_rfl
theorem tzero_20 : tzero Go.Proofs.Tryz.prog 20 = some .nilIface := by kernel_rfl
theorem tifc_20 : tifc Go.Proofs.Tryz.prog 20 = true := by kernel_rfl
theorem tok_21 : tok Go.Proofs.Tryz.prog 21 = true := by kernel_rfl
theorem tsz_21 : tsz Go.Proofs.Tryz.prog 21 = 1 := by kernel_rfl
theorem tby_21 : tbytes Go.Proofs.Tryz.prog 21 = 4 := by kernel_rfl
theorem tagg_21 : tagg Go.Proofs.Tryz.prog 21 = false := by kernel_rfl
theorem tconc_21 : tconc Go.Proofs.Tryz.prog 21 = true := by kernel_rfl
theorem tzero_21 : tzero Go.Proofs.Tryz.prog 21 = some (.int .i32 0) := by kernel_rfl
theorem tkind_21 : tkind Go.Proofs.Tryz.prog 21 = some .i32 := by kernel_rfl
theorem tok_22 : tok Go.Proofs.Tryz.prog 22 = true := by kernel_rfl
theorem tsz_22 : tsz Go.Proofs.Tryz.prog 22 = 1 := by kernel_rfl
theorem tby_22 : tbytes Go.Proofs.Tryz.prog 22 = 24 := by kernel_rfl
theorem tagg_22 : tagg Go.Proofs.Tryz.prog 22 = false := by kernel_rfl
theorem tconc_22 : tconc Go.Proofs.Tryz.prog 22 = true := by kernel_rfl
theorem tzero_22 : tzero Go.Proofs.Tryz.prog 22 = some (.slice none 0 0) := by kernel_rfl
theorem telem_22 : telem Go.Proofs.Tryz.prog 22 = some 53 := by kernel_rfl
theorem tok_23 : tok Go.Proofs.Tryz.prog 23 = true := by kernel_rfl
theorem tsz_23 : tsz Go.Proofs.Tryz.prog 23 = 1 := by kernel_rfl
theorem tby_23 : tbytes Go.Proofs.Tryz.prog 23 = 24 := by kernel_rfl
theorem tagg_23 : tagg Go.Proofs.Tryz.prog 23 = false := by kernel_rfl
theorem tconc_23 : tconc Go.Proofs.Tryz.prog 23 = true := by kernel_rfl
theorem tzero_23 : tzero Go.Proofs.Tryz.prog 23 = some (.slice none 0 0) := by kernel_rfl
theorem telem_23 : telem Go.Proofs.Tryz.prog 23 = some 25 := by kernel_rfl
theorem tok_24 : tok Go.Proofs.Tryz.prog 24 = true := by kernel_rfl
theorem tsz_24 : tsz Go.Proofs.Tryz.prog 24 = 7 := by kernel_rfl
theorem tby_24 : tbytes Go.Proofs.Tryz.prog 24 = 72 := by kernel_rfl
theorem tagg_24 : tagg Go.Proofs.Tryz.prog 24 = true := by kernel_rfl
theorem tconc_24 : tconc Go.Proofs.Tryz.prog 24 = true := by kernel_rfl
theorem tzero_24 : tzero Go.Proofs.Tryz.prog 24 = some (.agg #[.int .i64 0, .int .i64 0, .int .i64 0, .string { data := #[] }, .int .i64 0, .int .i64 0, .string { data := #[] }]) := by kernel_rfl
theorem tfld_24_0 : tfld Go.Proofs.Tryz.prog 24 0 = some (3, 0) := by kernel_rfl
theorem fldA_24_0 : fldA Go.Proofs.Tryz.prog 24 0 = some 0 := by kernel_rfl
theorem tfld_24_1 : tfld Go.Proofs.Tryz.prog 24 1 = some (3, 1) := by kernel_rfl
theorem fldA_24_1 : fldA Go.Proofs.Tryz.prog 24 1 = some 1 := by kernel_rfl
theorem tfld_24_2 : tfld Go.Proofs.Tryz.prog 24 2 = some (3, 2) := by kernel_rfl
theorem fldA_24_2 : fldA Go.Proofs.Tryz.prog 24 2 = some 2 := by kernel_rfl
theorem tfld_24_3 : tfld Go.Proofs.Tryz.prog 24 3 = some (9, 3) := by kernel_rfl
theorem fldA_24_3 : fldA Go.Proofs.Tryz.prog 24 3 = some 3 := by kernel_rfl
theorem tfld_24_4 : tfld Go.Proofs.Tryz.prog 24 4 = some (3, 4) := by kernel_rfl
theorem fldA_24_4 : fldA Go.Proofs.Tryz.prog 24 4 = some 4 := by kernel_rfl
theorem tfld_24_5 : tfld Go.Proofs.Tryz.prog 24 5 = some (3, 5) := by kernel_rfl
theorem fldA_24_5 : fldA Go.Proofs.Tryz.prog 24 5 = some 5 := by kernel_rfl
theorem tfld_24_6 : tfld Go.Proofs.Tryz.prog 24 6 = some (9, 6) := by kernel_rfl
theorem fldA_24_6 : fldA Go.Proofs.Tryz.prog 24 6 = some 6 := by kernel_rfl
theorem tok_25 : tok Go.Proofs.Tryz.prog 25 = true := by kernel_rfl
theorem tsz_25 : tsz Go.Proofs.Tryz.prog 25 = 7 := by kernel_rfl
theorem tby_25 : tbytes Go.Proofs.Tryz.prog 25 = 72 := by kernel_rfl
theorem tagg_25 : tagg Go.Proofs.Tryz.prog 25 = true := by kernel_rfl
theorem tconc_25 : tconc Go.Proofs.Tryz.prog 25 = true := by kernel_rfl
theorem tzero_25 : tzero Go.Proofs.Tryz.prog 25 = some (.agg #[.int .i64 0, .int .i64 0, .int .i64 0, .string { data := #[] }, .int .i64 0, .int .i64 0, .string { data := #[] }]) := by kernel_rfl
theorem tfld_25_0 : tfld Go.Proofs.Tryz.prog 25 0 = some (3, 0) := by kernel_rfl
theorem fldA_25_0 : fldA Go.Proofs.Tryz.prog 25 0 = some 0 := by kernel_rfl
theorem tfld_25_1 : tfld Go.Proofs.Tryz.prog 25 1 = some (3, 1) := by kernel_rfl
theorem fldA_25_1 : fldA Go.Proofs.Tryz.prog 25 1 = some 1 := by kernel_rfl
theorem tfld_25_2 : tfld Go.Proofs.Tryz.prog 25 2 = some (3, 2) := by kernel_rfl
theorem fldA_25_2 : fldA Go.Proofs.Tryz.prog 25 2 = some 2 := by kernel_rfl
theorem tfld_25_3 : tfld Go.Proofs.Tryz.prog 25 3 = some (9, 3) := by kernel_rfl
theorem fldA_25_3 : fldA Go.Proofs.Tryz.prog 25 3 = some 3 := by kernel_rfl
theorem tfld_25_4 : tfld Go.Proofs.Tryz.prog 25 4 = some (3, 4) := by kernel_rfl
theorem fldA_25_4 : fldA Go.Proofs.Tryz.prog 25 4 = some 4 := by kernel_rfl
theorem tfld_25_5 : tfld Go.Proofs.Tryz.prog 25 5 = some (3, 5) := by kernel_rfl
theorem fldA_25_5 : fldA Go.Proofs.Tryz.prog 25 5 = some 5 := by kernel_rfl
theorem tfld_25_6 : tfld Go.Proofs.Tryz.prog 25 6 = some (9, 6) := by kernel_rfl
theorem fldA_25_6 : fldA Go.Proofs.Tryz.prog 25 6 = some 6 := by kernel_rfl
theorem tok_26 : tok Go.Proofs.Tryz.prog 26 = true := by kernel_rfl
theorem tsz_26 : tsz Go.Proofs.Tryz.prog 26 = 1 := by kernel_rfl
theorem tby_26 : tbytes Go.Proofs.Tryz.prog 26 = 8 := by kernel_rfl
theorem tagg_26 : tagg Go.Proofs.Tryz.prog 26 = false := by kernel_rfl
theorem tconc_26 : tconc Go.Proofs.Tryz.prog 26 = true := by kernel_rfl
theorem tzero_26 : tzero Go.Proofs.Tryz.prog 26 = some .nilFunc := by kernel_rfl
theorem tok_27 : tok Go.Proofs.Tryz.prog 27 = true := by kernel_rfl
theorem tsz_27 : tsz Go.Proofs.Tryz.prog 27 = 1 := by kernel_rfl
theorem tby_27 : tbytes Go.Proofs.Tryz.prog 27 = 8 := by kernel_rfl
theorem tagg_27 : tagg Go.Proofs.Tryz.prog 27 = false := by kernel_rfl
theorem tconc_27 : tconc Go.Proofs.Tryz.prog 27 = true := by kernel_rfl
theorem tzero_27 : tzero Go.Proofs.Tryz.prog 27 = some .nilFunc := by kernel_rfl
theorem tok_28 : tok Go.Proofs.Tryz.prog 28 = true := by kernel_rfl
theorem tsz_28 : tsz Go.Proofs.Tryz.prog 28 = 1 := by kernel_rfl
theorem tby_28 : tbytes Go.Proofs.Tryz.prog 28 = 8 := by kernel_rfl
theorem tagg_28 : tagg Go.Proofs.Tryz.prog 28 = false := by kernel_rfl
theorem tconc_28 : tconc Go.Proofs.Tryz.prog 28 = true := by kernel_rfl
theorem tzero_28 : tzero Go.Proofs.Tryz.prog 28 = some .nilFunc := by kernel_rfl
theorem tok_29 : tok Go.Proofs.Tryz.prog 29 = true := by kernel_rfl
theorem tsz_29 : tsz Go.Proofs.Tryz.prog 29 = 1 := by kernel_rfl
theorem tby_29 : tbytes Go.Proofs.Tryz.prog 29 = 24 := by kernel_rfl
theorem tagg_29 : tagg Go.Proofs.Tryz.prog 29 = false := by kernel_rfl
theorem tconc_29 : tconc Go.Proofs.Tryz.prog 29 = true := by kernel_rfl
theorem tzero_29 : tzero Go.Proofs.Tryz.prog 29 = some (.slice none 0 0) := by kernel_rfl
theorem telem_29 : telem Go.Proofs.Tryz.prog 29 = some 50 := by kernel_rfl
theorem tok_30 : tok Go.Proofs.Tryz.prog 30 = true := by kernel_rfl
theorem tsz_30 : tsz Go.Proofs.Tryz.prog 30 = 1 := by kernel_rfl
theorem tby_30 : tbytes Go.Proofs.Tryz.prog 30 = 24 := by kernel_rfl
theorem tagg_30 : tagg Go.Proofs.Tryz.prog 30 = false := by kernel_rfl
theorem tconc_30 : tconc Go.Proofs.Tryz.prog 30 = true := by kernel_rfl
theorem tzero_30 : tzero Go.Proofs.Tryz.prog 30 = some (.slice none 0 0) := by kernel_rfl
theorem telem_30 : telem Go.Proofs.Tryz.prog 30 = some 50 := by kernel_rfl
theorem tok_31 : tok Go.Proofs.Tryz.prog 31 = true := by kernel_rfl
theorem tsz_31 : tsz Go.Proofs.Tryz.prog 31 = 1 := by kernel_rfl
theorem tby_31 : tbytes Go.Proofs.Tryz.prog 31 = 8 := by kernel_rfl
theorem tagg_31 : tagg Go.Proofs.Tryz.prog 31 = false := by kernel_rfl
theorem tconc_31 : tconc Go.Proofs.Tryz.prog 31 = true := by kernel_rfl
theorem tzero_31 : tzero Go.Proofs.Tryz.prog 31 = some (.int .i64 0) := by kernel_rfl
theorem tkind_31 : tkind Go.Proofs.Tryz.prog 31 = some .i64 := by kernel_rfl
theorem tok_32 : tok Go.Proofs.Tryz.prog 32 = true := by kernel_rfl
theorem tsz_32 : tsz Go.Proofs.Tryz.prog 32 = 1 := by kernel_rfl
theorem tby_32 : tbytes Go.Proofs.Tryz.prog 32 = 0 := by kernel_rfl
theorem tagg_32 : tagg Go.Proofs.Tryz.prog 32 = false := by kernel_rfl
theorem tconc_32 : tconc Go.Proofs.Tryz.prog 32 = true := by kernel_rfl
theorem tzero_32 : tzero Go.Proofs.Tryz.prog 32 = some (.tuple #[.slice none 0 0, .int .i64 0]) := by kernel_rfl
theorem tok_33 : tok Go.Proofs.Tryz.prog 33 = true := by kernel_rfl
theorem tsz_33 : tsz Go.Proofs.Tryz.prog 33 = 1 := by kernel_rfl
theorem tby_33 : tbytes Go.Proofs.Tryz.prog 33 = 8 := by kernel_rfl
theorem tagg_33 : tagg Go.Proofs.Tryz.prog 33 = false := by kernel_rfl
theorem tconc_33 : tconc Go.Proofs.Tryz.prog 33 = true := by kernel_rfl
theorem tzero_33 : tzero Go.Proofs.Tryz.prog 33 = some .nilFunc := by kernel_rfl
theorem tok_34 : tok Go.Proofs.Tryz.prog 34 = true := by kernel_rfl
theorem tsz_34 : tsz Go.Proofs.Tryz.prog 34 = 1 := by kernel_rfl
theorem tby_34 : tbytes Go.Proofs.Tryz.prog 34 = 8 := by kernel_rfl
theorem tagg_34 : tagg Go.Proofs.Tryz.prog 34 = false := by kernel_rfl
theorem tconc_34 : tconc Go.Proofs.Tryz.prog 34 = true := by kernel_rfl
theorem tzero_34 : tzero Go.Proofs.Tryz.prog 34 = some .nilFunc := by kernel_rfl
theorem tok_35 : tok Go.Proofs.Tryz.prog 35 = true := by kernel_rfl
theorem tsz_35 : tsz Go.Proofs.Tryz.prog 35 = 1 := by kernel_rfl
theorem tby_35 : tbytes Go.Proofs.Tryz.prog 35 = 8 := by kernel_rfl
theorem tagg_35 : tagg Go.Proofs.Tryz.prog 35 = false := by kernel_rfl
theorem tconc_35 : tconc Go.Proofs.Tryz.prog 35 = true := by kernel_rfl
theorem tzero_35 : tzero Go.Proofs.Tryz.prog 35 = some .nilFunc := by kernel_rfl
theorem tok_36 : tok Go.Proofs.Tryz.prog 36 = true := by kernel_rfl
theorem tsz_36 : tsz Go.Proofs.Tryz.prog 36 = 1 := by kernel_rfl
theorem tby_36 : tbytes Go.Proofs.Tryz.prog 36 = 8 := by kernel_rfl
theorem tagg_36 : tagg Go.Proofs.Tryz.prog 36 = false := by kernel_rfl
theorem tconc_36 : tconc Go.Proofs.Tryz.prog 36 = true := by kernel_rfl
theorem tzero_36 : tzero Go.Proofs.Tryz.prog 36 = some .nilFunc := by kernel_rfl
theorem tok_37 : tok Go.Proofs.Tryz.prog 37 = true := by kernel_rfl
theorem tsz_37 : tsz Go.Proofs.Tryz.prog 37 = 1 := by kernel_rfl
theorem tby_37 : tbytes Go.Proofs.Tryz.prog 37 = 8 := by kernel_rfl
theorem tagg_37 : tagg Go.Proofs.Tryz.prog 37 = false := by kernel_rfl
theorem tconc_37 : tconc Go.Proofs.Tryz.prog 37 = true := by kernel_rfl
theorem tzero_37 : tzero Go.Proofs.Tryz.prog 37 = some .nilFunc := by kernel_rfl
theorem tok_38 : tok Go.Proofs.Tryz.prog 38 = true := by kernel_rfl
theorem tsz_38 : tsz Go.Proofs.Tryz.prog 38 = 1 := by kernel_rfl
theorem tby_38 : tbytes Go.Proofs.Tryz.prog 38 = 8 := by kernel_rfl
theorem tagg_38 : tagg Go.Proofs.Tryz.prog 38 = false := by kernel_rfl
theorem tconc_38 : tconc Go.Proofs.Tryz.prog 38 = true := by kernel_rfl
theorem tzero_38 : tzero Go.Proofs.Tryz.prog 38 = some (.pointer none) := by kernel_rfl
theorem tptr_38 : tptr Go.Proofs.Tryz.prog 38 = true := by kernel_rfl
theorem meth_38_Bus : methB Go.Proofs.Tryz.prog 38 "Bus" = some 19 := by kernel_rfl
theorem meth_38_Copy : methB Go.Proofs.Tryz.prog 38 "Copy" = some 29 := by kernel_rfl
theorem meth_38_Define : methB Go.Proofs.Tryz.prog 38 "Define" = some 23 := by kernel_rfl
theorem meth_38_Late : methB Go.Proofs.Tryz.prog 38 "Late" = some 22 := by kernel_rfl
theorem meth_38_Param : methB Go.Proofs.Tryz.prog 38 "Param" = some 18 := by kernel_rfl
theorem meth_38_Position : methB Go.Proofs.Tryz.prog 38 "Position" = some 21 := by kernel_rfl
theorem meth_38_Refused : methB Go.Proofs.Tryz.prog 38 "Refused" = some 28 := by kernel_rfl
theorem meth_38_Room : methB Go.Proofs.Tryz.prog 38 "Room" = some 20 := by kernel_rfl
theorem meth_38_Run : methB Go.Proofs.Tryz.prog 38 "Run" = some 16 := by kernel_rfl
theorem meth_38_Send : methB Go.Proofs.Tryz.prog 38 "Send" = some 17 := by kernel_rfl
theorem meth_38_Tree : methB Go.Proofs.Tryz.prog 38 "Tree" = some 26 := by kernel_rfl
theorem meth_38_Undefine : methB Go.Proofs.Tryz.prog 38 "Undefine" = some 25 := by kernel_rfl
theorem meth_38_Waiting : methB Go.Proofs.Tryz.prog 38 "Waiting" = some 27 := by kernel_rfl
theorem meth_38_continuo_server_added : methB Go.Proofs.Tryz.prog 38 "continuo/server.added" = some 166 := by kernel_rfl
theorem meth_38_continuo_server_do : methB Go.Proofs.Tryz.prog 38 "continuo/server.do" = some 75 := by kernel_rfl
theorem meth_38_continuo_server_group : methB Go.Proofs.Tryz.prog 38 "continuo/server.group" = some 176 := by kernel_rfl
theorem meth_38_continuo_server_made : methB Go.Proofs.Tryz.prog 38 "continuo/server.made" = some 44 := by kernel_rfl
theorem meth_38_continuo_server_node : methB Go.Proofs.Tryz.prog 38 "continuo/server.node" = some 172 := by kernel_rfl
theorem meth_38_continuo_server_run : methB Go.Proofs.Tryz.prog 38 "continuo/server.run" = some 76 := by kernel_rfl
theorem tok_39 : tok Go.Proofs.Tryz.prog 39 = true := by kernel_rfl
theorem tsz_39 : tsz Go.Proofs.Tryz.prog 39 = 1 := by kernel_rfl
theorem tby_39 : tbytes Go.Proofs.Tryz.prog 39 = 8 := by kernel_rfl
theorem tagg_39 : tagg Go.Proofs.Tryz.prog 39 = false := by kernel_rfl
theorem tconc_39 : tconc Go.Proofs.Tryz.prog 39 = true := by kernel_rfl
theorem tzero_39 : tzero Go.Proofs.Tryz.prog 39 = some .nilFunc := by kernel_rfl
theorem tok_40 : tok Go.Proofs.Tryz.prog 40 = true := by kernel_rfl
theorem tsz_40 : tsz Go.Proofs.Tryz.prog 40 = 1 := by kernel_rfl
theorem tby_40 : tbytes Go.Proofs.Tryz.prog 40 = 0 := by kernel_rfl
theorem tagg_40 : tagg Go.Proofs.Tryz.prog 40 = false := by kernel_rfl
theorem tconc_40 : tconc Go.Proofs.Tryz.prog 40 = true := by kernel_rfl
theorem tzero_40 : tzero Go.Proofs.Tryz.prog 40 = some (.tuple #[.bool false, .int .i64 0]) := by kernel_rfl
theorem tok_41 : tok Go.Proofs.Tryz.prog 41 = true := by kernel_rfl
theorem tsz_41 : tsz Go.Proofs.Tryz.prog 41 = 1 := by kernel_rfl
theorem tby_41 : tbytes Go.Proofs.Tryz.prog 41 = 8 := by kernel_rfl
theorem tagg_41 : tagg Go.Proofs.Tryz.prog 41 = false := by kernel_rfl
theorem tconc_41 : tconc Go.Proofs.Tryz.prog 41 = true := by kernel_rfl
theorem tzero_41 : tzero Go.Proofs.Tryz.prog 41 = some .nilFunc := by kernel_rfl
theorem tok_42 : tok Go.Proofs.Tryz.prog 42 = true := by kernel_rfl
theorem tsz_42 : tsz Go.Proofs.Tryz.prog 42 = 1 := by kernel_rfl
theorem tby_42 : tbytes Go.Proofs.Tryz.prog 42 = 0 := by kernel_rfl
theorem tagg_42 : tagg Go.Proofs.Tryz.prog 42 = false := by kernel_rfl
theorem tconc_42 : tconc Go.Proofs.Tryz.prog 42 = true := by kernel_rfl
theorem tzero_42 : tzero Go.Proofs.Tryz.prog 42 = some (.tuple #[.int .i64 0, .int .i64 0]) := by kernel_rfl
theorem tok_43 : tok Go.Proofs.Tryz.prog 43 = true := by kernel_rfl
theorem tsz_43 : tsz Go.Proofs.Tryz.prog 43 = 1 := by kernel_rfl
theorem tby_43 : tbytes Go.Proofs.Tryz.prog 43 = 8 := by kernel_rfl
theorem tagg_43 : tagg Go.Proofs.Tryz.prog 43 = false := by kernel_rfl
theorem tconc_43 : tconc Go.Proofs.Tryz.prog 43 = true := by kernel_rfl
theorem tzero_43 : tzero Go.Proofs.Tryz.prog 43 = some .nilFunc := by kernel_rfl
theorem tok_44 : tok Go.Proofs.Tryz.prog 44 = true := by kernel_rfl
theorem tsz_44 : tsz Go.Proofs.Tryz.prog 44 = 1 := by kernel_rfl
theorem tby_44 : tbytes Go.Proofs.Tryz.prog 44 = 8 := by kernel_rfl
theorem tagg_44 : tagg Go.Proofs.Tryz.prog 44 = false := by kernel_rfl
theorem tconc_44 : tconc Go.Proofs.Tryz.prog 44 = true := by kernel_rfl
theorem tzero_44 : tzero Go.Proofs.Tryz.prog 44 = some .nilFunc := by kernel_rfl
theorem tok_45 : tok Go.Proofs.Tryz.prog 45 = true := by kernel_rfl
theorem tsz_45 : tsz Go.Proofs.Tryz.prog 45 = 1 := by kernel_rfl
theorem tby_45 : tbytes Go.Proofs.Tryz.prog 45 = 0 := by kernel_rfl
theorem tagg_45 : tagg Go.Proofs.Tryz.prog 45 = false := by kernel_rfl
theorem tconc_45 : tconc Go.Proofs.Tryz.prog 45 = true := by kernel_rfl
theorem tzero_45 : tzero Go.Proofs.Tryz.prog 45 = some (.tuple #[.int .i64 0, .int .i64 0]) := by kernel_rfl
theorem tok_46 : tok Go.Proofs.Tryz.prog 46 = true := by kernel_rfl
theorem tsz_46 : tsz Go.Proofs.Tryz.prog 46 = 1 := by kernel_rfl
theorem tby_46 : tbytes Go.Proofs.Tryz.prog 46 = 8 := by kernel_rfl
theorem tagg_46 : tagg Go.Proofs.Tryz.prog 46 = false := by kernel_rfl
theorem tconc_46 : tconc Go.Proofs.Tryz.prog 46 = true := by kernel_rfl
theorem tzero_46 : tzero Go.Proofs.Tryz.prog 46 = some .nilFunc := by kernel_rfl
theorem tok_47 : tok Go.Proofs.Tryz.prog 47 = true := by kernel_rfl
theorem tsz_47 : tsz Go.Proofs.Tryz.prog 47 = 1 := by kernel_rfl
theorem tby_47 : tbytes Go.Proofs.Tryz.prog 47 = 8 := by kernel_rfl
theorem tagg_47 : tagg Go.Proofs.Tryz.prog 47 = false := by kernel_rfl
theorem tconc_47 : tconc Go.Proofs.Tryz.prog 47 = true := by kernel_rfl
theorem tzero_47 : tzero Go.Proofs.Tryz.prog 47 = some .nilFunc := by kernel_rfl
theorem tok_48 : tok Go.Proofs.Tryz.prog 48 = true := by kernel_rfl
theorem tsz_48 : tsz Go.Proofs.Tryz.prog 48 = 1 := by kernel_rfl
theorem tby_48 : tbytes Go.Proofs.Tryz.prog 48 = 8 := by kernel_rfl
theorem tagg_48 : tagg Go.Proofs.Tryz.prog 48 = false := by kernel_rfl
theorem tconc_48 : tconc Go.Proofs.Tryz.prog 48 = true := by kernel_rfl
theorem tzero_48 : tzero Go.Proofs.Tryz.prog 48 = some .nilFunc := by kernel_rfl
theorem tok_49 : tok Go.Proofs.Tryz.prog 49 = true := by kernel_rfl
theorem tsz_49 : tsz Go.Proofs.Tryz.prog 49 = 1 := by kernel_rfl
theorem tby_49 : tbytes Go.Proofs.Tryz.prog 49 = 24 := by kernel_rfl
theorem tagg_49 : tagg Go.Proofs.Tryz.prog 49 = false := by kernel_rfl
theorem tconc_49 : tconc Go.Proofs.Tryz.prog 49 = true := by kernel_rfl
theorem tzero_49 : tzero Go.Proofs.Tryz.prog 49 = some (.slice none 0 0) := by kernel_rfl
theorem telem_49 : telem Go.Proofs.Tryz.prog 49 = some 9 := by kernel_rfl
theorem tok_50 : tok Go.Proofs.Tryz.prog 50 = true := by kernel_rfl
theorem tsz_50 : tsz Go.Proofs.Tryz.prog 50 = 1 := by kernel_rfl
theorem tby_50 : tbytes Go.Proofs.Tryz.prog 50 = 24 := by kernel_rfl
theorem tagg_50 : tagg Go.Proofs.Tryz.prog 50 = false := by kernel_rfl
theorem tconc_50 : tconc Go.Proofs.Tryz.prog 50 = true := by kernel_rfl
theorem tzero_50 : tzero Go.Proofs.Tryz.prog 50 = some (.slice none 0 0) := by kernel_rfl
theorem telem_50 : telem Go.Proofs.Tryz.prog 50 = some 3 := by kernel_rfl
theorem tok_51 : tok Go.Proofs.Tryz.prog 51 = true := by kernel_rfl
theorem tsz_51 : tsz Go.Proofs.Tryz.prog 51 = 1 := by kernel_rfl
theorem tby_51 : tbytes Go.Proofs.Tryz.prog 51 = 24 := by kernel_rfl
theorem tagg_51 : tagg Go.Proofs.Tryz.prog 51 = false := by kernel_rfl
theorem tconc_51 : tconc Go.Proofs.Tryz.prog 51 = true := by kernel_rfl
theorem tzero_51 : tzero Go.Proofs.Tryz.prog 51 = some (.slice none 0 0) := by kernel_rfl
theorem telem_51 : telem Go.Proofs.Tryz.prog 51 = some 82 := by kernel_rfl
theorem tok_52 : tok Go.Proofs.Tryz.prog 52 = true := by kernel_rfl
theorem tsz_52 : tsz Go.Proofs.Tryz.prog 52 = 4 := by kernel_rfl
theorem tby_52 : tbytes Go.Proofs.Tryz.prog 52 = 88 := by kernel_rfl
theorem tagg_52 : tagg Go.Proofs.Tryz.prog 52 = true := by kernel_rfl
theorem tconc_52 : tconc Go.Proofs.Tryz.prog 52 = true := by kernel_rfl
theorem tzero_52 : tzero Go.Proofs.Tryz.prog 52 = some (.agg #[.string { data := #[] }, .slice none 0 0, .slice none 0 0, .slice none 0 0]) := by kernel_rfl
theorem tfld_52_0 : tfld Go.Proofs.Tryz.prog 52 0 = some (9, 0) := by kernel_rfl
theorem fldA_52_0 : fldA Go.Proofs.Tryz.prog 52 0 = some 0 := by kernel_rfl
theorem tfld_52_1 : tfld Go.Proofs.Tryz.prog 52 1 = some (49, 1) := by kernel_rfl
theorem fldA_52_1 : fldA Go.Proofs.Tryz.prog 52 1 = some 1 := by kernel_rfl
theorem tfld_52_2 : tfld Go.Proofs.Tryz.prog 52 2 = some (50, 2) := by kernel_rfl
theorem fldA_52_2 : fldA Go.Proofs.Tryz.prog 52 2 = some 2 := by kernel_rfl
theorem tfld_52_3 : tfld Go.Proofs.Tryz.prog 52 3 = some (51, 3) := by kernel_rfl
theorem fldA_52_3 : fldA Go.Proofs.Tryz.prog 52 3 = some 3 := by kernel_rfl
theorem tok_53 : tok Go.Proofs.Tryz.prog 53 = true := by kernel_rfl
theorem tsz_53 : tsz Go.Proofs.Tryz.prog 53 = 4 := by kernel_rfl
theorem tby_53 : tbytes Go.Proofs.Tryz.prog 53 = 88 := by kernel_rfl
theorem tagg_53 : tagg Go.Proofs.Tryz.prog 53 = true := by kernel_rfl
theorem tconc_53 : tconc Go.Proofs.Tryz.prog 53 = true := by kernel_rfl
theorem tzero_53 : tzero Go.Proofs.Tryz.prog 53 = some (.agg #[.string { data := #[] }, .slice none 0 0, .slice none 0 0, .slice none 0 0]) := by kernel_rfl
theorem tfld_53_0 : tfld Go.Proofs.Tryz.prog 53 0 = some (9, 0) := by kernel_rfl
theorem fldA_53_0 : fldA Go.Proofs.Tryz.prog 53 0 = some 0 := by kernel_rfl
theorem tfld_53_1 : tfld Go.Proofs.Tryz.prog 53 1 = some (49, 1) := by kernel_rfl
theorem fldA_53_1 : fldA Go.Proofs.Tryz.prog 53 1 = some 1 := by kernel_rfl
theorem tfld_53_2 : tfld Go.Proofs.Tryz.prog 53 2 = some (50, 2) := by kernel_rfl
theorem fldA_53_2 : fldA Go.Proofs.Tryz.prog 53 2 = some 2 := by kernel_rfl
theorem tfld_53_3 : tfld Go.Proofs.Tryz.prog 53 3 = some (51, 3) := by kernel_rfl
theorem fldA_53_3 : fldA Go.Proofs.Tryz.prog 53 3 = some 3 := by kernel_rfl
theorem tok_54 : tok Go.Proofs.Tryz.prog 54 = true := by kernel_rfl
theorem tsz_54 : tsz Go.Proofs.Tryz.prog 54 = 1 := by kernel_rfl
theorem tby_54 : tbytes Go.Proofs.Tryz.prog 54 = 8 := by kernel_rfl
theorem tagg_54 : tagg Go.Proofs.Tryz.prog 54 = false := by kernel_rfl
theorem tconc_54 : tconc Go.Proofs.Tryz.prog 54 = true := by kernel_rfl
theorem tzero_54 : tzero Go.Proofs.Tryz.prog 54 = some .nilFunc := by kernel_rfl
theorem tok_55 : tok Go.Proofs.Tryz.prog 55 = true := by kernel_rfl
theorem tsz_55 : tsz Go.Proofs.Tryz.prog 55 = 1 := by kernel_rfl
theorem tby_55 : tbytes Go.Proofs.Tryz.prog 55 = 8 := by kernel_rfl
theorem tagg_55 : tagg Go.Proofs.Tryz.prog 55 = false := by kernel_rfl
theorem tconc_55 : tconc Go.Proofs.Tryz.prog 55 = true := by kernel_rfl
theorem tzero_55 : tzero Go.Proofs.Tryz.prog 55 = some .nilFunc := by kernel_rfl
theorem tok_56 : tok Go.Proofs.Tryz.prog 56 = true := by kernel_rfl
theorem tsz_56 : tsz Go.Proofs.Tryz.prog 56 = 1 := by kernel_rfl
theorem tby_56 : tbytes Go.Proofs.Tryz.prog 56 = 24 := by kernel_rfl
theorem tagg_56 : tagg Go.Proofs.Tryz.prog 56 = false := by kernel_rfl
theorem tconc_56 : tconc Go.Proofs.Tryz.prog 56 = true := by kernel_rfl
theorem tzero_56 : tzero Go.Proofs.Tryz.prog 56 = some (.slice none 0 0) := by kernel_rfl
theorem telem_56 : telem Go.Proofs.Tryz.prog 56 = some 117 := by kernel_rfl
theorem tok_57 : tok Go.Proofs.Tryz.prog 57 = true := by kernel_rfl
theorem tsz_57 : tsz Go.Proofs.Tryz.prog 57 = 1 := by kernel_rfl
theorem tby_57 : tbytes Go.Proofs.Tryz.prog 57 = 8 := by kernel_rfl
theorem tagg_57 : tagg Go.Proofs.Tryz.prog 57 = false := by kernel_rfl
theorem tconc_57 : tconc Go.Proofs.Tryz.prog 57 = true := by kernel_rfl
theorem tzero_57 : tzero Go.Proofs.Tryz.prog 57 = some .nilFunc := by kernel_rfl
theorem tok_58 : tok Go.Proofs.Tryz.prog 58 = true := by kernel_rfl
theorem tsz_58 : tsz Go.Proofs.Tryz.prog 58 = 1 := by kernel_rfl
theorem tby_58 : tbytes Go.Proofs.Tryz.prog 58 = 8 := by kernel_rfl
theorem tagg_58 : tagg Go.Proofs.Tryz.prog 58 = false := by kernel_rfl
theorem tconc_58 : tconc Go.Proofs.Tryz.prog 58 = true := by kernel_rfl
theorem tzero_58 : tzero Go.Proofs.Tryz.prog 58 = some .nilFunc := by kernel_rfl
theorem tok_59 : tok Go.Proofs.Tryz.prog 59 = true := by kernel_rfl
theorem tsz_59 : tsz Go.Proofs.Tryz.prog 59 = 1 := by kernel_rfl
theorem tby_59 : tbytes Go.Proofs.Tryz.prog 59 = 24 := by kernel_rfl
theorem tagg_59 : tagg Go.Proofs.Tryz.prog 59 = false := by kernel_rfl
theorem tconc_59 : tconc Go.Proofs.Tryz.prog 59 = true := by kernel_rfl
theorem tzero_59 : tzero Go.Proofs.Tryz.prog 59 = some (.slice none 0 0) := by kernel_rfl
theorem telem_59 : telem Go.Proofs.Tryz.prog 59 = some 124 := by kernel_rfl
theorem tok_60 : tok Go.Proofs.Tryz.prog 60 = true := by kernel_rfl
theorem tsz_60 : tsz Go.Proofs.Tryz.prog 60 = 1 := by kernel_rfl
theorem tby_60 : tbytes Go.Proofs.Tryz.prog 60 = 8 := by kernel_rfl
theorem tagg_60 : tagg Go.Proofs.Tryz.prog 60 = false := by kernel_rfl
theorem tconc_60 : tconc Go.Proofs.Tryz.prog 60 = true := by kernel_rfl
theorem tzero_60 : tzero Go.Proofs.Tryz.prog 60 = some .nilFunc := by kernel_rfl
theorem tok_61 : tok Go.Proofs.Tryz.prog 61 = true := by kernel_rfl
theorem tsz_61 : tsz Go.Proofs.Tryz.prog 61 = 1 := by kernel_rfl
theorem tby_61 : tbytes Go.Proofs.Tryz.prog 61 = 8 := by kernel_rfl
theorem tagg_61 : tagg Go.Proofs.Tryz.prog 61 = false := by kernel_rfl
theorem tconc_61 : tconc Go.Proofs.Tryz.prog 61 = true := by kernel_rfl
theorem tzero_61 : tzero Go.Proofs.Tryz.prog 61 = some .nilFunc := by kernel_rfl
theorem tok_62 : tok Go.Proofs.Tryz.prog 62 = true := by kernel_rfl
theorem tsz_62 : tsz Go.Proofs.Tryz.prog 62 = 1 := by kernel_rfl
theorem tby_62 : tbytes Go.Proofs.Tryz.prog 62 = 8 := by kernel_rfl
theorem tagg_62 : tagg Go.Proofs.Tryz.prog 62 = false := by kernel_rfl
theorem tconc_62 : tconc Go.Proofs.Tryz.prog 62 = true := by kernel_rfl
theorem tzero_62 : tzero Go.Proofs.Tryz.prog 62 = some .nilFunc := by kernel_rfl
theorem tok_63 : tok Go.Proofs.Tryz.prog 63 = true := by kernel_rfl
theorem tsz_63 : tsz Go.Proofs.Tryz.prog 63 = 1 := by kernel_rfl
theorem tby_63 : tbytes Go.Proofs.Tryz.prog 63 = 24 := by kernel_rfl
theorem tagg_63 : tagg Go.Proofs.Tryz.prog 63 = false := by kernel_rfl
theorem tconc_63 : tconc Go.Proofs.Tryz.prog 63 = true := by kernel_rfl
theorem tzero_63 : tzero Go.Proofs.Tryz.prog 63 = some (.slice none 0 0) := by kernel_rfl
theorem telem_63 : telem Go.Proofs.Tryz.prog 63 = some 71 := by kernel_rfl
theorem tok_64 : tok Go.Proofs.Tryz.prog 64 = true := by kernel_rfl
theorem tsz_64 : tsz Go.Proofs.Tryz.prog 64 = 1 := by kernel_rfl
theorem tby_64 : tbytes Go.Proofs.Tryz.prog 64 = 0 := by kernel_rfl
theorem tagg_64 : tagg Go.Proofs.Tryz.prog 64 = false := by kernel_rfl
theorem tconc_64 : tconc Go.Proofs.Tryz.prog 64 = true := by kernel_rfl
theorem tzero_64 : tzero Go.Proofs.Tryz.prog 64 = some (.tuple #[.pointer none, .int .i64 0]) := by kernel_rfl
theorem tok_65 : tok Go.Proofs.Tryz.prog 65 = true := by kernel_rfl
theorem tsz_65 : tsz Go.Proofs.Tryz.prog 65 = 1 := by kernel_rfl
theorem tby_65 : tbytes Go.Proofs.Tryz.prog 65 = 8 := by kernel_rfl
theorem tagg_65 : tagg Go.Proofs.Tryz.prog 65 = false := by kernel_rfl
theorem tconc_65 : tconc Go.Proofs.Tryz.prog 65 = true := by kernel_rfl
theorem tzero_65 : tzero Go.Proofs.Tryz.prog 65 = some .nilFunc := by kernel_rfl
theorem tok_66 : tok Go.Proofs.Tryz.prog 66 = true := by kernel_rfl
theorem tsz_66 : tsz Go.Proofs.Tryz.prog 66 = 1 := by kernel_rfl
theorem tby_66 : tbytes Go.Proofs.Tryz.prog 66 = 8 := by kernel_rfl
theorem tagg_66 : tagg Go.Proofs.Tryz.prog 66 = false := by kernel_rfl
theorem tconc_66 : tconc Go.Proofs.Tryz.prog 66 = true := by kernel_rfl
theorem tzero_66 : tzero Go.Proofs.Tryz.prog 66 = some (.pointer none) := by kernel_rfl
theorem tptr_66 : tptr Go.Proofs.Tryz.prog 66 = true := by kernel_rfl
theorem meth_66_Bus : methB Go.Proofs.Tryz.prog 66 "Bus" = some 65 := by kernel_rfl
theorem meth_66_Define : methB Go.Proofs.Tryz.prog 66 "Define" = some 32 := by kernel_rfl
theorem meth_66_Param : methB Go.Proofs.Tryz.prog 66 "Param" = some 66 := by kernel_rfl
theorem meth_66_Room : methB Go.Proofs.Tryz.prog 66 "Room" = some 63 := by kernel_rfl
theorem meth_66_Run : methB Go.Proofs.Tryz.prog 66 "Run" = some 47 := by kernel_rfl
theorem meth_66_Send : methB Go.Proofs.Tryz.prog 66 "Send" = some 46 := by kernel_rfl
theorem meth_66_Tree : methB Go.Proofs.Tryz.prog 66 "Tree" = some 64 := by kernel_rfl
theorem meth_66_Undefine : methB Go.Proofs.Tryz.prog 66 "Undefine" = some 62 := by kernel_rfl
theorem meth_66_continuo_continuoref28_below : methB Go.Proofs.Tryz.prog 66 "continuo/continuoref28.below" = some 119 := by kernel_rfl
theorem meth_66_continuo_continuoref28_done : methB Go.Proofs.Tryz.prog 66 "continuo/continuoref28.done" = some 79 := by kernel_rfl
theorem meth_66_continuo_continuoref28_find : methB Go.Proofs.Tryz.prog 66 "continuo/continuoref28.find" = some 99 := by kernel_rfl
theorem meth_66_continuo_continuoref28_made : methB Go.Proofs.Tryz.prog 66 "continuo/continuoref28.made" = some 118 := by kernel_rfl
theorem meth_66_continuo_continuoref28_put : methB Go.Proofs.Tryz.prog 66 "continuo/continuoref28.put" = some 122 := by kernel_rfl
theorem meth_66_continuo_continuoref28_run : methB Go.Proofs.Tryz.prog 66 "continuo/continuoref28.run" = some 80 := by kernel_rfl
theorem meth_66_continuo_continuoref28_synth : methB Go.Proofs.Tryz.prog 66 "continuo/continuoref28.synth" = some 61 := by kernel_rfl
theorem meth_66_continuo_continuoref28_take : methB Go.Proofs.Tryz.prog 66 "continuo/continuoref28.take" = some 120 := by kernel_rfl
theorem meth_66_continuo_continuoref28_tree : methB Go.Proofs.Tryz.prog 66 "continuo/continuoref28.tree" = some 98 := by kernel_rfl
theorem tok_67 : tok Go.Proofs.Tryz.prog 67 = true := by kernel_rfl
theorem tsz_67 : tsz Go.Proofs.Tryz.prog 67 = 1 := by kernel_rfl
theorem tby_67 : tbytes Go.Proofs.Tryz.prog 67 = 0 := by kernel_rfl
theorem tagg_67 : tagg Go.Proofs.Tryz.prog 67 = false := by kernel_rfl
theorem tconc_67 : tconc Go.Proofs.Tryz.prog 67 = true := by kernel_rfl
theorem tzero_67 : tzero Go.Proofs.Tryz.prog 67 = some (.tuple #[.pointer none, .int .i64 0]) := by kernel_rfl
theorem tok_68 : tok Go.Proofs.Tryz.prog 68 = true := by kernel_rfl
theorem tsz_68 : tsz Go.Proofs.Tryz.prog 68 = 1 := by kernel_rfl
theorem tby_68 : tbytes Go.Proofs.Tryz.prog 68 = 8 := by kernel_rfl
theorem tagg_68 : tagg Go.Proofs.Tryz.prog 68 = false := by kernel_rfl
theorem tconc_68 : tconc Go.Proofs.Tryz.prog 68 = true := by kernel_rfl
theorem tzero_68 : tzero Go.Proofs.Tryz.prog 68 = some .nilFunc := by kernel_rfl
theorem tok_69 : tok Go.Proofs.Tryz.prog 69 = true := by kernel_rfl
theorem tsz_69 : tsz Go.Proofs.Tryz.prog 69 = 1 := by kernel_rfl
theorem tby_69 : tbytes Go.Proofs.Tryz.prog 69 = 8 := by kernel_rfl
theorem tagg_69 : tagg Go.Proofs.Tryz.prog 69 = false := by kernel_rfl
theorem tconc_69 : tconc Go.Proofs.Tryz.prog 69 = true := by kernel_rfl
theorem tzero_69 : tzero Go.Proofs.Tryz.prog 69 = some .nilFunc := by kernel_rfl
theorem tok_70 : tok Go.Proofs.Tryz.prog 70 = true := by kernel_rfl
theorem tsz_70 : tsz Go.Proofs.Tryz.prog 70 = 10 := by kernel_rfl
theorem tby_70 : tbytes Go.Proofs.Tryz.prog 70 = 104 := by kernel_rfl
theorem tagg_70 : tagg Go.Proofs.Tryz.prog 70 = true := by kernel_rfl
theorem tconc_70 : tconc Go.Proofs.Tryz.prog 70 = true := by kernel_rfl
theorem tzero_70 : tzero Go.Proofs.Tryz.prog 70 = some (.agg #[.int .u8 0, .int .i64 0, .string { data := #[] }, .int .i64 0, .int .i64 0, .int .i64 0, .string { data := #[] }, .int .i64 0, .int .i64 0, .string { data := #[] }]) := by kernel_rfl
theorem tfld_70_0 : tfld Go.Proofs.Tryz.prog 70 0 = some (5, 0) := by kernel_rfl
theorem fldA_70_0 : fldA Go.Proofs.Tryz.prog 70 0 = some 0 := by kernel_rfl
theorem tfld_70_1 : tfld Go.Proofs.Tryz.prog 70 1 = some (3, 1) := by kernel_rfl
theorem fldA_70_1 : fldA Go.Proofs.Tryz.prog 70 1 = some 1 := by kernel_rfl
theorem tfld_70_2 : tfld Go.Proofs.Tryz.prog 70 2 = some (9, 2) := by kernel_rfl
theorem fldA_70_2 : fldA Go.Proofs.Tryz.prog 70 2 = some 2 := by kernel_rfl
theorem tfld_70_3 : tfld Go.Proofs.Tryz.prog 70 3 = some (25, 3) := by kernel_rfl
theorem fldA_70_3 : fldA Go.Proofs.Tryz.prog 70 3 = some 3 := by kernel_rfl
theorem tok_71 : tok Go.Proofs.Tryz.prog 71 = true := by kernel_rfl
theorem tsz_71 : tsz Go.Proofs.Tryz.prog 71 = 10 := by kernel_rfl
theorem tby_71 : tbytes Go.Proofs.Tryz.prog 71 = 104 := by kernel_rfl
theorem tagg_71 : tagg Go.Proofs.Tryz.prog 71 = true := by kernel_rfl
theorem tconc_71 : tconc Go.Proofs.Tryz.prog 71 = true := by kernel_rfl
theorem tzero_71 : tzero Go.Proofs.Tryz.prog 71 = some (.agg #[.int .u8 0, .int .i64 0, .string { data := #[] }, .int .i64 0, .int .i64 0, .int .i64 0, .string { data := #[] }, .int .i64 0, .int .i64 0, .string { data := #[] }]) := by kernel_rfl
theorem tfld_71_0 : tfld Go.Proofs.Tryz.prog 71 0 = some (5, 0) := by kernel_rfl
theorem fldA_71_0 : fldA Go.Proofs.Tryz.prog 71 0 = some 0 := by kernel_rfl
theorem tfld_71_1 : tfld Go.Proofs.Tryz.prog 71 1 = some (3, 1) := by kernel_rfl
theorem fldA_71_1 : fldA Go.Proofs.Tryz.prog 71 1 = some 1 := by kernel_rfl
theorem tfld_71_2 : tfld Go.Proofs.Tryz.prog 71 2 = some (9, 2) := by kernel_rfl
theorem fldA_71_2 : fldA Go.Proofs.Tryz.prog 71 2 = some 2 := by kernel_rfl
theorem tfld_71_3 : tfld Go.Proofs.Tryz.prog 71 3 = some (25, 3) := by kernel_rfl
theorem fldA_71_3 : fldA Go.Proofs.Tryz.prog 71 3 = some 3 := by kernel_rfl
theorem tok_72 : tok Go.Proofs.Tryz.prog 72 = true := by kernel_rfl
theorem tsz_72 : tsz Go.Proofs.Tryz.prog 72 = 1 := by kernel_rfl
theorem tby_72 : tbytes Go.Proofs.Tryz.prog 72 = 8 := by kernel_rfl
theorem tagg_72 : tagg Go.Proofs.Tryz.prog 72 = false := by kernel_rfl
theorem tconc_72 : tconc Go.Proofs.Tryz.prog 72 = true := by kernel_rfl
theorem tzero_72 : tzero Go.Proofs.Tryz.prog 72 = some .nilFunc := by kernel_rfl
theorem tok_73 : tok Go.Proofs.Tryz.prog 73 = true := by kernel_rfl
theorem tsz_73 : tsz Go.Proofs.Tryz.prog 73 = 1 := by kernel_rfl
theorem tby_73 : tbytes Go.Proofs.Tryz.prog 73 = 8 := by kernel_rfl
theorem tagg_73 : tagg Go.Proofs.Tryz.prog 73 = false := by kernel_rfl
theorem tconc_73 : tconc Go.Proofs.Tryz.prog 73 = true := by kernel_rfl
theorem tzero_73 : tzero Go.Proofs.Tryz.prog 73 = some .nilFunc := by kernel_rfl
theorem tok_74 : tok Go.Proofs.Tryz.prog 74 = true := by kernel_rfl
theorem tsz_74 : tsz Go.Proofs.Tryz.prog 74 = 1 := by kernel_rfl
theorem tby_74 : tbytes Go.Proofs.Tryz.prog 74 = 8 := by kernel_rfl
theorem tagg_74 : tagg Go.Proofs.Tryz.prog 74 = false := by kernel_rfl
theorem tconc_74 : tconc Go.Proofs.Tryz.prog 74 = true := by kernel_rfl
theorem tzero_74 : tzero Go.Proofs.Tryz.prog 74 = some .nilFunc := by kernel_rfl
theorem tok_75 : tok Go.Proofs.Tryz.prog 75 = true := by kernel_rfl
theorem tsz_75 : tsz Go.Proofs.Tryz.prog 75 = 1 := by kernel_rfl
theorem tby_75 : tbytes Go.Proofs.Tryz.prog 75 = 0 := by kernel_rfl
theorem tagg_75 : tagg Go.Proofs.Tryz.prog 75 = false := by kernel_rfl
theorem tconc_75 : tconc Go.Proofs.Tryz.prog 75 = true := by kernel_rfl
theorem tzero_75 : tzero Go.Proofs.Tryz.prog 75 = some (.tuple #[.slice none 0 0, .slice none 0 0, .int .i64 0]) := by kernel_rfl
theorem tok_76 : tok Go.Proofs.Tryz.prog 76 = true := by kernel_rfl
theorem tsz_76 : tsz Go.Proofs.Tryz.prog 76 = 1 := by kernel_rfl
theorem tby_76 : tbytes Go.Proofs.Tryz.prog 76 = 8 := by kernel_rfl
theorem tagg_76 : tagg Go.Proofs.Tryz.prog 76 = false := by kernel_rfl
theorem tconc_76 : tconc Go.Proofs.Tryz.prog 76 = true := by kernel_rfl
theorem tzero_76 : tzero Go.Proofs.Tryz.prog 76 = some .nilFunc := by kernel_rfl
theorem tok_77 : tok Go.Proofs.Tryz.prog 77 = true := by kernel_rfl
theorem tsz_77 : tsz Go.Proofs.Tryz.prog 77 = 1 := by kernel_rfl
theorem tby_77 : tbytes Go.Proofs.Tryz.prog 77 = 24 := by kernel_rfl
theorem tagg_77 : tagg Go.Proofs.Tryz.prog 77 = false := by kernel_rfl
theorem tconc_77 : tconc Go.Proofs.Tryz.prog 77 = true := by kernel_rfl
theorem tzero_77 : tzero Go.Proofs.Tryz.prog 77 = some (.slice none 0 0) := by kernel_rfl
theorem telem_77 : telem Go.Proofs.Tryz.prog 77 = some 30 := by kernel_rfl
theorem tok_78 : tok Go.Proofs.Tryz.prog 78 = true := by kernel_rfl
theorem tsz_78 : tsz Go.Proofs.Tryz.prog 78 = 1 := by kernel_rfl
theorem tby_78 : tbytes Go.Proofs.Tryz.prog 78 = 8 := by kernel_rfl
theorem tagg_78 : tagg Go.Proofs.Tryz.prog 78 = false := by kernel_rfl
theorem tconc_78 : tconc Go.Proofs.Tryz.prog 78 = true := by kernel_rfl
theorem tzero_78 : tzero Go.Proofs.Tryz.prog 78 = some .nilFunc := by kernel_rfl
theorem tok_79 : tok Go.Proofs.Tryz.prog 79 = true := by kernel_rfl
theorem tsz_79 : tsz Go.Proofs.Tryz.prog 79 = 1 := by kernel_rfl
theorem tby_79 : tbytes Go.Proofs.Tryz.prog 79 = 8 := by kernel_rfl
theorem tagg_79 : tagg Go.Proofs.Tryz.prog 79 = false := by kernel_rfl
theorem tconc_79 : tconc Go.Proofs.Tryz.prog 79 = true := by kernel_rfl
theorem tzero_79 : tzero Go.Proofs.Tryz.prog 79 = some .nilFunc := by kernel_rfl
theorem tok_80 : tok Go.Proofs.Tryz.prog 80 = true := by kernel_rfl
theorem tsz_80 : tsz Go.Proofs.Tryz.prog 80 = 1 := by kernel_rfl
theorem tby_80 : tbytes Go.Proofs.Tryz.prog 80 = 8 := by kernel_rfl
theorem tagg_80 : tagg Go.Proofs.Tryz.prog 80 = false := by kernel_rfl
theorem tconc_80 : tconc Go.Proofs.Tryz.prog 80 = true := by kernel_rfl
theorem tzero_80 : tzero Go.Proofs.Tryz.prog 80 = some .nilFunc := by kernel_rfl
theorem tok_81 : tok Go.Proofs.Tryz.prog 81 = true := by kernel_rfl
theorem tsz_81 : tsz Go.Proofs.Tryz.prog 81 = 4 := by kernel_rfl
theorem tby_81 : tbytes Go.Proofs.Tryz.prog 81 = 64 := by kernel_rfl
theorem tagg_81 : tagg Go.Proofs.Tryz.prog 81 = true := by kernel_rfl
theorem tconc_81 : tconc Go.Proofs.Tryz.prog 81 = true := by kernel_rfl
theorem tzero_81 : tzero Go.Proofs.Tryz.prog 81 = some (.agg #[.int .i64 0, .int .i64 0, .slice none 0 0, .slice none 0 0]) := by kernel_rfl
theorem tfld_81_0 : tfld Go.Proofs.Tryz.prog 81 0 = some (3, 0) := by kernel_rfl
theorem fldA_81_0 : fldA Go.Proofs.Tryz.prog 81 0 = some 0 := by kernel_rfl
theorem tfld_81_1 : tfld Go.Proofs.Tryz.prog 81 1 = some (3, 1) := by kernel_rfl
theorem fldA_81_1 : fldA Go.Proofs.Tryz.prog 81 1 = some 1 := by kernel_rfl
theorem tfld_81_2 : tfld Go.Proofs.Tryz.prog 81 2 = some (50, 2) := by kernel_rfl
theorem fldA_81_2 : fldA Go.Proofs.Tryz.prog 81 2 = some 2 := by kernel_rfl
theorem tfld_81_3 : tfld Go.Proofs.Tryz.prog 81 3 = some (50, 3) := by kernel_rfl
theorem fldA_81_3 : fldA Go.Proofs.Tryz.prog 81 3 = some 3 := by kernel_rfl
theorem tok_82 : tok Go.Proofs.Tryz.prog 82 = true := by kernel_rfl
theorem tsz_82 : tsz Go.Proofs.Tryz.prog 82 = 4 := by kernel_rfl
theorem tby_82 : tbytes Go.Proofs.Tryz.prog 82 = 64 := by kernel_rfl
theorem tagg_82 : tagg Go.Proofs.Tryz.prog 82 = true := by kernel_rfl
theorem tconc_82 : tconc Go.Proofs.Tryz.prog 82 = true := by kernel_rfl
theorem tzero_82 : tzero Go.Proofs.Tryz.prog 82 = some (.agg #[.int .i64 0, .int .i64 0, .slice none 0 0, .slice none 0 0]) := by kernel_rfl
theorem tfld_82_0 : tfld Go.Proofs.Tryz.prog 82 0 = some (3, 0) := by kernel_rfl
theorem fldA_82_0 : fldA Go.Proofs.Tryz.prog 82 0 = some 0 := by kernel_rfl
theorem tfld_82_1 : tfld Go.Proofs.Tryz.prog 82 1 = some (3, 1) := by kernel_rfl
theorem fldA_82_1 : fldA Go.Proofs.Tryz.prog 82 1 = some 1 := by kernel_rfl
theorem tfld_82_2 : tfld Go.Proofs.Tryz.prog 82 2 = some (50, 2) := by kernel_rfl
theorem fldA_82_2 : fldA Go.Proofs.Tryz.prog 82 2 = some 2 := by kernel_rfl
theorem tfld_82_3 : tfld Go.Proofs.Tryz.prog 82 3 = some (50, 3) := by kernel_rfl
theorem fldA_82_3 : fldA Go.Proofs.Tryz.prog 82 3 = some 3 := by kernel_rfl
theorem tok_83 : tok Go.Proofs.Tryz.prog 83 = true := by kernel_rfl
theorem tsz_83 : tsz Go.Proofs.Tryz.prog 83 = 1 := by kernel_rfl
theorem tby_83 : tbytes Go.Proofs.Tryz.prog 83 = 8 := by kernel_rfl
theorem tagg_83 : tagg Go.Proofs.Tryz.prog 83 = false := by kernel_rfl
theorem tconc_83 : tconc Go.Proofs.Tryz.prog 83 = true := by kernel_rfl
theorem tzero_83 : tzero Go.Proofs.Tryz.prog 83 = some .nilFunc := by kernel_rfl
theorem tok_84 : tok Go.Proofs.Tryz.prog 84 = true := by kernel_rfl
theorem tsz_84 : tsz Go.Proofs.Tryz.prog 84 = 1 := by kernel_rfl
theorem tby_84 : tbytes Go.Proofs.Tryz.prog 84 = 8 := by kernel_rfl
theorem tagg_84 : tagg Go.Proofs.Tryz.prog 84 = false := by kernel_rfl
theorem tconc_84 : tconc Go.Proofs.Tryz.prog 84 = true := by kernel_rfl
theorem tzero_84 : tzero Go.Proofs.Tryz.prog 84 = some .nilFunc := by kernel_rfl
theorem tok_85 : tok Go.Proofs.Tryz.prog 85 = true := by kernel_rfl
theorem tsz_85 : tsz Go.Proofs.Tryz.prog 85 = 1 := by kernel_rfl
theorem tby_85 : tbytes Go.Proofs.Tryz.prog 85 = 8 := by kernel_rfl
theorem tagg_85 : tagg Go.Proofs.Tryz.prog 85 = false := by kernel_rfl
theorem tconc_85 : tconc Go.Proofs.Tryz.prog 85 = true := by kernel_rfl
theorem tzero_85 : tzero Go.Proofs.Tryz.prog 85 = some .nilFunc := by kernel_rfl
theorem tok_86 : tok Go.Proofs.Tryz.prog 86 = true := by kernel_rfl
theorem tsz_86 : tsz Go.Proofs.Tryz.prog 86 = 1 := by kernel_rfl
theorem tby_86 : tbytes Go.Proofs.Tryz.prog 86 = 8 := by kernel_rfl
theorem tagg_86 : tagg Go.Proofs.Tryz.prog 86 = false := by kernel_rfl
theorem tconc_86 : tconc Go.Proofs.Tryz.prog 86 = true := by kernel_rfl
theorem tzero_86 : tzero Go.Proofs.Tryz.prog 86 = some .nilFunc := by kernel_rfl
theorem tok_87 : tok Go.Proofs.Tryz.prog 87 = true := by kernel_rfl
theorem tsz_87 : tsz Go.Proofs.Tryz.prog 87 = 1 := by kernel_rfl
theorem tby_87 : tbytes Go.Proofs.Tryz.prog 87 = 8 := by kernel_rfl
theorem tagg_87 : tagg Go.Proofs.Tryz.prog 87 = false := by kernel_rfl
theorem tconc_87 : tconc Go.Proofs.Tryz.prog 87 = true := by kernel_rfl
theorem tzero_87 : tzero Go.Proofs.Tryz.prog 87 = some (.map none) := by kernel_rfl
theorem tok_88 : tok Go.Proofs.Tryz.prog 88 = true := by kernel_rfl
theorem tsz_88 : tsz Go.Proofs.Tryz.prog 88 = 1 := by kernel_rfl
theorem tby_88 : tbytes Go.Proofs.Tryz.prog 88 = 8 := by kernel_rfl
theorem tagg_88 : tagg Go.Proofs.Tryz.prog 88 = false := by kernel_rfl
theorem tconc_88 : tconc Go.Proofs.Tryz.prog 88 = true := by kernel_rfl
theorem tzero_88 : tzero Go.Proofs.Tryz.prog 88 = some (.pointer none) := by kernel_rfl
theorem tptr_88 : tptr Go.Proofs.Tryz.prog 88 = true := by kernel_rfl
theorem meth_88_continuo_server_all : methB Go.Proofs.Tryz.prog 88 "continuo/server.all" = some 95 := by kernel_rfl
theorem meth_88_continuo_server_below : methB Go.Proofs.Tryz.prog 88 "continuo/server.below" = some 55 := by kernel_rfl
theorem meth_88_continuo_server_out : methB Go.Proofs.Tryz.prog 88 "continuo/server.out" = some 173 := by kernel_rfl
theorem meth_88_continuo_server_put : methB Go.Proofs.Tryz.prog 88 "continuo/server.put" = some 177 := by kernel_rfl
theorem tok_89 : tok Go.Proofs.Tryz.prog 89 = true := by kernel_rfl
theorem tsz_89 : tsz Go.Proofs.Tryz.prog 89 = 1 := by kernel_rfl
theorem tby_89 : tbytes Go.Proofs.Tryz.prog 89 = 8 := by kernel_rfl
theorem tagg_89 : tagg Go.Proofs.Tryz.prog 89 = false := by kernel_rfl
theorem tconc_89 : tconc Go.Proofs.Tryz.prog 89 = true := by kernel_rfl
theorem tzero_89 : tzero Go.Proofs.Tryz.prog 89 = some (.map none) := by kernel_rfl
theorem tok_90 : tok Go.Proofs.Tryz.prog 90 = true := by kernel_rfl
theorem tsz_90 : tsz Go.Proofs.Tryz.prog 90 = 1 := by kernel_rfl
theorem tby_90 : tbytes Go.Proofs.Tryz.prog 90 = 24 := by kernel_rfl
theorem tagg_90 : tagg Go.Proofs.Tryz.prog 90 = false := by kernel_rfl
theorem tconc_90 : tconc Go.Proofs.Tryz.prog 90 = true := by kernel_rfl
theorem tzero_90 : tzero Go.Proofs.Tryz.prog 90 = some (.slice none 0 0) := by kernel_rfl
theorem telem_90 : telem Go.Proofs.Tryz.prog 90 = some 94 := by kernel_rfl
theorem tok_91 : tok Go.Proofs.Tryz.prog 91 = true := by kernel_rfl
theorem tsz_91 : tsz Go.Proofs.Tryz.prog 91 = 10 := by kernel_rfl
theorem tby_91 : tbytes Go.Proofs.Tryz.prog 91 = 128 := by kernel_rfl
theorem tagg_91 : tagg Go.Proofs.Tryz.prog 91 = true := by kernel_rfl
theorem tconc_91 : tconc Go.Proofs.Tryz.prog 91 = true := by kernel_rfl
theorem tzero_91 : tzero Go.Proofs.Tryz.prog 91 = some (.agg #[.int .i64 0, .int .i64 0, .map none, .pointer none, .map none, .slice none 0 0, .int .i64 0, .int .i64 0, .slice none 0 0, .slice none 0 0]) := by kernel_rfl
theorem tfld_91_0 : tfld Go.Proofs.Tryz.prog 91 0 = some (3, 0) := by kernel_rfl
theorem fldA_91_0 : fldA Go.Proofs.Tryz.prog 91 0 = some 0 := by kernel_rfl
theorem tfld_91_1 : tfld Go.Proofs.Tryz.prog 91 1 = some (3, 1) := by kernel_rfl
theorem fldA_91_1 : fldA Go.Proofs.Tryz.prog 91 1 = some 1 := by kernel_rfl
theorem tfld_91_2 : tfld Go.Proofs.Tryz.prog 91 2 = some (87, 2) := by kernel_rfl
theorem fldA_91_2 : fldA Go.Proofs.Tryz.prog 91 2 = some 2 := by kernel_rfl
theorem tfld_91_3 : tfld Go.Proofs.Tryz.prog 91 3 = some (88, 3) := by kernel_rfl
theorem fldA_91_3 : fldA Go.Proofs.Tryz.prog 91 3 = some 3 := by kernel_rfl
theorem tfld_91_4 : tfld Go.Proofs.Tryz.prog 91 4 = some (89, 4) := by kernel_rfl
theorem fldA_91_4 : fldA Go.Proofs.Tryz.prog 91 4 = some 4 := by kernel_rfl
theorem tfld_91_5 : tfld Go.Proofs.Tryz.prog 91 5 = some (90, 5) := by kernel_rfl
theorem fldA_91_5 : fldA Go.Proofs.Tryz.prog 91 5 = some 5 := by kernel_rfl
theorem tfld_91_6 : tfld Go.Proofs.Tryz.prog 91 6 = some (3, 6) := by kernel_rfl
theorem fldA_91_6 : fldA Go.Proofs.Tryz.prog 91 6 = some 6 := by kernel_rfl
theorem tfld_91_7 : tfld Go.Proofs.Tryz.prog 91 7 = some (3, 7) := by kernel_rfl
theorem fldA_91_7 : fldA Go.Proofs.Tryz.prog 91 7 = some 7 := by kernel_rfl
theorem tfld_91_8 : tfld Go.Proofs.Tryz.prog 91 8 = some (59, 8) := by kernel_rfl
theorem fldA_91_8 : fldA Go.Proofs.Tryz.prog 91 8 = some 8 := by kernel_rfl
theorem tfld_91_9 : tfld Go.Proofs.Tryz.prog 91 9 = some (50, 9) := by kernel_rfl
theorem fldA_91_9 : fldA Go.Proofs.Tryz.prog 91 9 = some 9 := by kernel_rfl
theorem tok_92 : tok Go.Proofs.Tryz.prog 92 = true := by kernel_rfl
theorem tsz_92 : tsz Go.Proofs.Tryz.prog 92 = 10 := by kernel_rfl
theorem tby_92 : tbytes Go.Proofs.Tryz.prog 92 = 128 := by kernel_rfl
theorem tagg_92 : tagg Go.Proofs.Tryz.prog 92 = true := by kernel_rfl
theorem tconc_92 : tconc Go.Proofs.Tryz.prog 92 = true := by kernel_rfl
theorem tzero_92 : tzero Go.Proofs.Tryz.prog 92 = some (.agg #[.int .i64 0, .int .i64 0, .map none, .pointer none, .map none, .slice none 0 0, .int .i64 0, .int .i64 0, .slice none 0 0, .slice none 0 0]) := by kernel_rfl
theorem tfld_92_0 : tfld Go.Proofs.Tryz.prog 92 0 = some (3, 0) := by kernel_rfl
theorem fldA_92_0 : fldA Go.Proofs.Tryz.prog 92 0 = some 0 := by kernel_rfl
theorem tfld_92_1 : tfld Go.Proofs.Tryz.prog 92 1 = some (3, 1) := by kernel_rfl
theorem fldA_92_1 : fldA Go.Proofs.Tryz.prog 92 1 = some 1 := by kernel_rfl
theorem tfld_92_2 : tfld Go.Proofs.Tryz.prog 92 2 = some (87, 2) := by kernel_rfl
theorem fldA_92_2 : fldA Go.Proofs.Tryz.prog 92 2 = some 2 := by kernel_rfl
theorem tfld_92_3 : tfld Go.Proofs.Tryz.prog 92 3 = some (88, 3) := by kernel_rfl
theorem fldA_92_3 : fldA Go.Proofs.Tryz.prog 92 3 = some 3 := by kernel_rfl
theorem tfld_92_4 : tfld Go.Proofs.Tryz.prog 92 4 = some (89, 4) := by kernel_rfl
theorem fldA_92_4 : fldA Go.Proofs.Tryz.prog 92 4 = some 4 := by kernel_rfl
theorem tfld_92_5 : tfld Go.Proofs.Tryz.prog 92 5 = some (90, 5) := by kernel_rfl
theorem fldA_92_5 : fldA Go.Proofs.Tryz.prog 92 5 = some 5 := by kernel_rfl
theorem tfld_92_6 : tfld Go.Proofs.Tryz.prog 92 6 = some (3, 6) := by kernel_rfl
theorem fldA_92_6 : fldA Go.Proofs.Tryz.prog 92 6 = some 6 := by kernel_rfl
theorem tfld_92_7 : tfld Go.Proofs.Tryz.prog 92 7 = some (3, 7) := by kernel_rfl
theorem fldA_92_7 : fldA Go.Proofs.Tryz.prog 92 7 = some 7 := by kernel_rfl
theorem tfld_92_8 : tfld Go.Proofs.Tryz.prog 92 8 = some (59, 8) := by kernel_rfl
theorem fldA_92_8 : fldA Go.Proofs.Tryz.prog 92 8 = some 8 := by kernel_rfl
theorem tfld_92_9 : tfld Go.Proofs.Tryz.prog 92 9 = some (50, 9) := by kernel_rfl
theorem fldA_92_9 : fldA Go.Proofs.Tryz.prog 92 9 = some 9 := by kernel_rfl
theorem tok_93 : tok Go.Proofs.Tryz.prog 93 = true := by kernel_rfl
theorem tsz_93 : tsz Go.Proofs.Tryz.prog 93 = 9 := by kernel_rfl
theorem tby_93 : tbytes Go.Proofs.Tryz.prog 93 = 88 := by kernel_rfl
theorem tagg_93 : tagg Go.Proofs.Tryz.prog 93 = true := by kernel_rfl
theorem tconc_93 : tconc Go.Proofs.Tryz.prog 93 = true := by kernel_rfl
theorem tzero_93 : tzero Go.Proofs.Tryz.prog 93 = some (.agg #[.int .i64 0, .int .i64 0, .int .i64 0, .string { data := #[] }, .int .i64 0, .int .i64 0, .string { data := #[] }, .bool false, .int .i64 0]) := by kernel_rfl
theorem tfld_93_0 : tfld Go.Proofs.Tryz.prog 93 0 = some (25, 0) := by kernel_rfl
theorem fldA_93_0 : fldA Go.Proofs.Tryz.prog 93 0 = some 0 := by kernel_rfl
theorem tfld_93_1 : tfld Go.Proofs.Tryz.prog 93 1 = some (4, 7) := by kernel_rfl
theorem fldA_93_1 : fldA Go.Proofs.Tryz.prog 93 1 = some 7 := by kernel_rfl
theorem tfld_93_2 : tfld Go.Proofs.Tryz.prog 93 2 = some (3, 8) := by kernel_rfl
theorem fldA_93_2 : fldA Go.Proofs.Tryz.prog 93 2 = some 8 := by kernel_rfl
theorem tok_94 : tok Go.Proofs.Tryz.prog 94 = true := by kernel_rfl
theorem tsz_94 : tsz Go.Proofs.Tryz.prog 94 = 9 := by kernel_rfl
theorem tby_94 : tbytes Go.Proofs.Tryz.prog 94 = 88 := by kernel_rfl
theorem tagg_94 : tagg Go.Proofs.Tryz.prog 94 = true := by kernel_rfl
theorem tconc_94 : tconc Go.Proofs.Tryz.prog 94 = true := by kernel_rfl
theorem tzero_94 : tzero Go.Proofs.Tryz.prog 94 = some (.agg #[.int .i64 0, .int .i64 0, .int .i64 0, .string { data := #[] }, .int .i64 0, .int .i64 0, .string { data := #[] }, .bool false, .int .i64 0]) := by kernel_rfl
theorem tfld_94_0 : tfld Go.Proofs.Tryz.prog 94 0 = some (25, 0) := by kernel_rfl
theorem fldA_94_0 : fldA Go.Proofs.Tryz.prog 94 0 = some 0 := by kernel_rfl
theorem tfld_94_1 : tfld Go.Proofs.Tryz.prog 94 1 = some (4, 7) := by kernel_rfl
theorem fldA_94_1 : fldA Go.Proofs.Tryz.prog 94 1 = some 7 := by kernel_rfl
theorem tfld_94_2 : tfld Go.Proofs.Tryz.prog 94 2 = some (3, 8) := by kernel_rfl
theorem fldA_94_2 : fldA Go.Proofs.Tryz.prog 94 2 = some 8 := by kernel_rfl
theorem tok_95 : tok Go.Proofs.Tryz.prog 95 = true := by kernel_rfl
theorem tsz_95 : tsz Go.Proofs.Tryz.prog 95 = 1 := by kernel_rfl
theorem tby_95 : tbytes Go.Proofs.Tryz.prog 95 = 8 := by kernel_rfl
theorem tagg_95 : tagg Go.Proofs.Tryz.prog 95 = false := by kernel_rfl
theorem tconc_95 : tconc Go.Proofs.Tryz.prog 95 = true := by kernel_rfl
theorem tzero_95 : tzero Go.Proofs.Tryz.prog 95 = some .nilFunc := by kernel_rfl
theorem tok_96 : tok Go.Proofs.Tryz.prog 96 = true := by kernel_rfl
theorem tsz_96 : tsz Go.Proofs.Tryz.prog 96 = 1 := by kernel_rfl
theorem tby_96 : tbytes Go.Proofs.Tryz.prog 96 = 8 := by kernel_rfl
theorem tagg_96 : tagg Go.Proofs.Tryz.prog 96 = false := by kernel_rfl
theorem tconc_96 : tconc Go.Proofs.Tryz.prog 96 = true := by kernel_rfl
theorem tzero_96 : tzero Go.Proofs.Tryz.prog 96 = some .nilFunc := by kernel_rfl
theorem tok_97 : tok Go.Proofs.Tryz.prog 97 = true := by kernel_rfl
theorem tsz_97 : tsz Go.Proofs.Tryz.prog 97 = 1 := by kernel_rfl
theorem tby_97 : tbytes Go.Proofs.Tryz.prog 97 = 8 := by kernel_rfl
theorem tagg_97 : tagg Go.Proofs.Tryz.prog 97 = false := by kernel_rfl
theorem tconc_97 : tconc Go.Proofs.Tryz.prog 97 = true := by kernel_rfl
theorem tzero_97 : tzero Go.Proofs.Tryz.prog 97 = some .nilFunc := by kernel_rfl
theorem tok_98 : tok Go.Proofs.Tryz.prog 98 = true := by kernel_rfl
theorem tsz_98 : tsz Go.Proofs.Tryz.prog 98 = 1 := by kernel_rfl
theorem tby_98 : tbytes Go.Proofs.Tryz.prog 98 = 8 := by kernel_rfl
theorem tagg_98 : tagg Go.Proofs.Tryz.prog 98 = false := by kernel_rfl
theorem tconc_98 : tconc Go.Proofs.Tryz.prog 98 = true := by kernel_rfl
theorem tzero_98 : tzero Go.Proofs.Tryz.prog 98 = some .nilFunc := by kernel_rfl
theorem tok_99 : tok Go.Proofs.Tryz.prog 99 = true := by kernel_rfl
theorem tsz_99 : tsz Go.Proofs.Tryz.prog 99 = 1 := by kernel_rfl
theorem tby_99 : tbytes Go.Proofs.Tryz.prog 99 = 8 := by kernel_rfl
theorem tagg_99 : tagg Go.Proofs.Tryz.prog 99 = false := by kernel_rfl
theorem tconc_99 : tconc Go.Proofs.Tryz.prog 99 = true := by kernel_rfl
theorem tzero_99 : tzero Go.Proofs.Tryz.prog 99 = some (.pointer none) := by kernel_rfl
theorem tptr_99 : tptr Go.Proofs.Tryz.prog 99 = true := by kernel_rfl
theorem meth_99_continuo_server_param : methB Go.Proofs.Tryz.prog 99 "continuo/server.param" = some 52 := by kernel_rfl
theorem tok_100 : tok Go.Proofs.Tryz.prog 100 = true := by kernel_rfl
theorem tsz_100 : tsz Go.Proofs.Tryz.prog 100 = 1 := by kernel_rfl
theorem tby_100 : tbytes Go.Proofs.Tryz.prog 100 = 24 := by kernel_rfl
theorem tagg_100 : tagg Go.Proofs.Tryz.prog 100 = false := by kernel_rfl
theorem tconc_100 : tconc Go.Proofs.Tryz.prog 100 = true := by kernel_rfl
theorem tzero_100 : tzero Go.Proofs.Tryz.prog 100 = some (.slice none 0 0) := by kernel_rfl
theorem telem_100 : telem Go.Proofs.Tryz.prog 100 = some 88 := by kernel_rfl
theorem tok_101 : tok Go.Proofs.Tryz.prog 101 = true := by kernel_rfl
theorem tsz_101 : tsz Go.Proofs.Tryz.prog 101 = 5 := by kernel_rfl
theorem tby_101 : tbytes Go.Proofs.Tryz.prog 101 = 56 := by kernel_rfl
theorem tagg_101 : tagg Go.Proofs.Tryz.prog 101 = true := by kernel_rfl
theorem tconc_101 : tconc Go.Proofs.Tryz.prog 101 = true := by kernel_rfl
theorem tzero_101 : tzero Go.Proofs.Tryz.prog 101 = some (.agg #[.int .i64 0, .pointer none, .bool false, .pointer none, .slice none 0 0]) := by kernel_rfl
theorem tfld_101_0 : tfld Go.Proofs.Tryz.prog 101 0 = some (3, 0) := by kernel_rfl
theorem fldA_101_0 : fldA Go.Proofs.Tryz.prog 101 0 = some 0 := by kernel_rfl
theorem tfld_101_1 : tfld Go.Proofs.Tryz.prog 101 1 = some (99, 1) := by kernel_rfl
theorem fldA_101_1 : fldA Go.Proofs.Tryz.prog 101 1 = some 1 := by kernel_rfl
theorem tfld_101_2 : tfld Go.Proofs.Tryz.prog 101 2 = some (4, 2) := by kernel_rfl
theorem fldA_101_2 : fldA Go.Proofs.Tryz.prog 101 2 = some 2 := by kernel_rfl
theorem tfld_101_3 : tfld Go.Proofs.Tryz.prog 101 3 = some (88, 3) := by kernel_rfl
theorem fldA_101_3 : fldA Go.Proofs.Tryz.prog 101 3 = some 3 := by kernel_rfl
theorem tfld_101_4 : tfld Go.Proofs.Tryz.prog 101 4 = some (100, 4) := by kernel_rfl
theorem fldA_101_4 : fldA Go.Proofs.Tryz.prog 101 4 = some 4 := by kernel_rfl
theorem tok_102 : tok Go.Proofs.Tryz.prog 102 = true := by kernel_rfl
theorem tsz_102 : tsz Go.Proofs.Tryz.prog 102 = 5 := by kernel_rfl
theorem tby_102 : tbytes Go.Proofs.Tryz.prog 102 = 56 := by kernel_rfl
theorem tagg_102 : tagg Go.Proofs.Tryz.prog 102 = true := by kernel_rfl
theorem tconc_102 : tconc Go.Proofs.Tryz.prog 102 = true := by kernel_rfl
theorem tzero_102 : tzero Go.Proofs.Tryz.prog 102 = some (.agg #[.int .i64 0, .pointer none, .bool false, .pointer none, .slice none 0 0]) := by kernel_rfl
theorem tfld_102_0 : tfld Go.Proofs.Tryz.prog 102 0 = some (3, 0) := by kernel_rfl
theorem fldA_102_0 : fldA Go.Proofs.Tryz.prog 102 0 = some 0 := by kernel_rfl
theorem tfld_102_1 : tfld Go.Proofs.Tryz.prog 102 1 = some (99, 1) := by kernel_rfl
theorem fldA_102_1 : fldA Go.Proofs.Tryz.prog 102 1 = some 1 := by kernel_rfl
theorem tfld_102_2 : tfld Go.Proofs.Tryz.prog 102 2 = some (4, 2) := by kernel_rfl
theorem fldA_102_2 : fldA Go.Proofs.Tryz.prog 102 2 = some 2 := by kernel_rfl
theorem tfld_102_3 : tfld Go.Proofs.Tryz.prog 102 3 = some (88, 3) := by kernel_rfl
theorem fldA_102_3 : fldA Go.Proofs.Tryz.prog 102 3 = some 3 := by kernel_rfl
theorem tfld_102_4 : tfld Go.Proofs.Tryz.prog 102 4 = some (100, 4) := by kernel_rfl
theorem fldA_102_4 : fldA Go.Proofs.Tryz.prog 102 4 = some 4 := by kernel_rfl
theorem tok_103 : tok Go.Proofs.Tryz.prog 103 = true := by kernel_rfl
theorem tsz_103 : tsz Go.Proofs.Tryz.prog 103 = 1 := by kernel_rfl
theorem tby_103 : tbytes Go.Proofs.Tryz.prog 103 = 8 := by kernel_rfl
theorem tagg_103 : tagg Go.Proofs.Tryz.prog 103 = false := by kernel_rfl
theorem tconc_103 : tconc Go.Proofs.Tryz.prog 103 = true := by kernel_rfl
theorem tzero_103 : tzero Go.Proofs.Tryz.prog 103 = some .nilFunc := by kernel_rfl
theorem tok_104 : tok Go.Proofs.Tryz.prog 104 = true := by kernel_rfl
theorem tsz_104 : tsz Go.Proofs.Tryz.prog 104 = 1 := by kernel_rfl
theorem tby_104 : tbytes Go.Proofs.Tryz.prog 104 = 8 := by kernel_rfl
theorem tagg_104 : tagg Go.Proofs.Tryz.prog 104 = false := by kernel_rfl
theorem tconc_104 : tconc Go.Proofs.Tryz.prog 104 = true := by kernel_rfl
theorem tzero_104 : tzero Go.Proofs.Tryz.prog 104 = some (.pointer none) := by kernel_rfl
theorem tptr_104 : tptr Go.Proofs.Tryz.prog 104 = true := by kernel_rfl
theorem meth_104_Copy : methB Go.Proofs.Tryz.prog 104 "Copy" = some 57 := by kernel_rfl
theorem meth_104_Frame : methB Go.Proofs.Tryz.prog 104 "Frame" = some 71 := by kernel_rfl
theorem meth_104_continuo_synth_due : methB Go.Proofs.Tryz.prog 104 "continuo/synth.due" = some 106 := by kernel_rfl
theorem tok_105 : tok Go.Proofs.Tryz.prog 105 = true := by kernel_rfl
theorem tsz_105 : tsz Go.Proofs.Tryz.prog 105 = 5 := by kernel_rfl
theorem tby_105 : tbytes Go.Proofs.Tryz.prog 105 = 88 := by kernel_rfl
theorem tagg_105 : tagg Go.Proofs.Tryz.prog 105 = true := by kernel_rfl
theorem tconc_105 : tconc Go.Proofs.Tryz.prog 105 = true := by kernel_rfl
theorem tzero_105 : tzero Go.Proofs.Tryz.prog 105 = some (.agg #[.pointer none, .slice none 0 0, .slice none 0 0, .slice none 0 0, .bool false]) := by kernel_rfl
theorem tfld_105_0 : tfld Go.Proofs.Tryz.prog 105 0 = some (104, 0) := by kernel_rfl
theorem fldA_105_0 : fldA Go.Proofs.Tryz.prog 105 0 = some 0 := by kernel_rfl
theorem tfld_105_1 : tfld Go.Proofs.Tryz.prog 105 1 = some (50, 1) := by kernel_rfl
theorem fldA_105_1 : fldA Go.Proofs.Tryz.prog 105 1 = some 1 := by kernel_rfl
theorem tfld_105_2 : tfld Go.Proofs.Tryz.prog 105 2 = some (50, 2) := by kernel_rfl
theorem fldA_105_2 : fldA Go.Proofs.Tryz.prog 105 2 = some 2 := by kernel_rfl
theorem tfld_105_3 : tfld Go.Proofs.Tryz.prog 105 3 = some (50, 3) := by kernel_rfl
theorem fldA_105_3 : fldA Go.Proofs.Tryz.prog 105 3 = some 3 := by kernel_rfl
theorem tfld_105_4 : tfld Go.Proofs.Tryz.prog 105 4 = some (4, 4) := by kernel_rfl
theorem fldA_105_4 : fldA Go.Proofs.Tryz.prog 105 4 = some 4 := by kernel_rfl
theorem tok_106 : tok Go.Proofs.Tryz.prog 106 = true := by kernel_rfl
theorem tsz_106 : tsz Go.Proofs.Tryz.prog 106 = 5 := by kernel_rfl
theorem tby_106 : tbytes Go.Proofs.Tryz.prog 106 = 88 := by kernel_rfl
theorem tagg_106 : tagg Go.Proofs.Tryz.prog 106 = true := by kernel_rfl
theorem tconc_106 : tconc Go.Proofs.Tryz.prog 106 = true := by kernel_rfl
theorem tzero_106 : tzero Go.Proofs.Tryz.prog 106 = some (.agg #[.pointer none, .slice none 0 0, .slice none 0 0, .slice none 0 0, .bool false]) := by kernel_rfl
theorem tfld_106_0 : tfld Go.Proofs.Tryz.prog 106 0 = some (104, 0) := by kernel_rfl
theorem fldA_106_0 : fldA Go.Proofs.Tryz.prog 106 0 = some 0 := by kernel_rfl
theorem tfld_106_1 : tfld Go.Proofs.Tryz.prog 106 1 = some (50, 1) := by kernel_rfl
theorem fldA_106_1 : fldA Go.Proofs.Tryz.prog 106 1 = some 1 := by kernel_rfl
theorem tfld_106_2 : tfld Go.Proofs.Tryz.prog 106 2 = some (50, 2) := by kernel_rfl
theorem fldA_106_2 : fldA Go.Proofs.Tryz.prog 106 2 = some 2 := by kernel_rfl
theorem tfld_106_3 : tfld Go.Proofs.Tryz.prog 106 3 = some (50, 3) := by kernel_rfl
theorem fldA_106_3 : fldA Go.Proofs.Tryz.prog 106 3 = some 3 := by kernel_rfl
theorem tfld_106_4 : tfld Go.Proofs.Tryz.prog 106 4 = some (4, 4) := by kernel_rfl
theorem fldA_106_4 : fldA Go.Proofs.Tryz.prog 106 4 = some 4 := by kernel_rfl
theorem tok_107 : tok Go.Proofs.Tryz.prog 107 = true := by kernel_rfl
theorem tsz_107 : tsz Go.Proofs.Tryz.prog 107 = 1 := by kernel_rfl
theorem tby_107 : tbytes Go.Proofs.Tryz.prog 107 = 24 := by kernel_rfl
theorem tagg_107 : tagg Go.Proofs.Tryz.prog 107 = false := by kernel_rfl
theorem tconc_107 : tconc Go.Proofs.Tryz.prog 107 = true := by kernel_rfl
theorem tzero_107 : tzero Go.Proofs.Tryz.prog 107 = some (.slice none 0 0) := by kernel_rfl
theorem telem_107 : telem Go.Proofs.Tryz.prog 107 = some 185 := by kernel_rfl
theorem tok_108 : tok Go.Proofs.Tryz.prog 108 = true := by kernel_rfl
theorem tsz_108 : tsz Go.Proofs.Tryz.prog 108 = 7 := by kernel_rfl
theorem tby_108 : tbytes Go.Proofs.Tryz.prog 108 = 144 := by kernel_rfl
theorem tagg_108 : tagg Go.Proofs.Tryz.prog 108 = true := by kernel_rfl
theorem tconc_108 : tconc Go.Proofs.Tryz.prog 108 = true := by kernel_rfl
theorem tzero_108 : tzero Go.Proofs.Tryz.prog 108 = some (.agg #[.string { data := #[] }, .slice none 0 0, .slice none 0 0, .slice none 0 0, .slice none 0 0, .slice none 0 0, .int .i64 0]) := by kernel_rfl
theorem tfld_108_0 : tfld Go.Proofs.Tryz.prog 108 0 = some (53, 0) := by kernel_rfl
theorem fldA_108_0 : fldA Go.Proofs.Tryz.prog 108 0 = some 0 := by kernel_rfl
theorem tfld_108_1 : tfld Go.Proofs.Tryz.prog 108 1 = some (107, 4) := by kernel_rfl
theorem fldA_108_1 : fldA Go.Proofs.Tryz.prog 108 1 = some 4 := by kernel_rfl
theorem tfld_108_2 : tfld Go.Proofs.Tryz.prog 108 2 = some (50, 5) := by kernel_rfl
theorem fldA_108_2 : fldA Go.Proofs.Tryz.prog 108 2 = some 5 := by kernel_rfl
theorem tfld_108_3 : tfld Go.Proofs.Tryz.prog 108 3 = some (3, 6) := by kernel_rfl
theorem fldA_108_3 : fldA Go.Proofs.Tryz.prog 108 3 = some 6 := by kernel_rfl
theorem tok_109 : tok Go.Proofs.Tryz.prog 109 = true := by kernel_rfl
theorem tsz_109 : tsz Go.Proofs.Tryz.prog 109 = 7 := by kernel_rfl
theorem tby_109 : tbytes Go.Proofs.Tryz.prog 109 = 144 := by kernel_rfl
theorem tagg_109 : tagg Go.Proofs.Tryz.prog 109 = true := by kernel_rfl
theorem tconc_109 : tconc Go.Proofs.Tryz.prog 109 = true := by kernel_rfl
theorem tzero_109 : tzero Go.Proofs.Tryz.prog 109 = some (.agg #[.string { data := #[] }, .slice none 0 0, .slice none 0 0, .slice none 0 0, .slice none 0 0, .slice none 0 0, .int .i64 0]) := by kernel_rfl
theorem tfld_109_0 : tfld Go.Proofs.Tryz.prog 109 0 = some (53, 0) := by kernel_rfl
theorem fldA_109_0 : fldA Go.Proofs.Tryz.prog 109 0 = some 0 := by kernel_rfl
theorem tfld_109_1 : tfld Go.Proofs.Tryz.prog 109 1 = some (107, 4) := by kernel_rfl
theorem fldA_109_1 : fldA Go.Proofs.Tryz.prog 109 1 = some 4 := by kernel_rfl
theorem tfld_109_2 : tfld Go.Proofs.Tryz.prog 109 2 = some (50, 5) := by kernel_rfl
theorem fldA_109_2 : fldA Go.Proofs.Tryz.prog 109 2 = some 5 := by kernel_rfl
theorem tfld_109_3 : tfld Go.Proofs.Tryz.prog 109 3 = some (3, 6) := by kernel_rfl
theorem fldA_109_3 : fldA Go.Proofs.Tryz.prog 109 3 = some 6 := by kernel_rfl
theorem tok_110 : tok Go.Proofs.Tryz.prog 110 = true := by kernel_rfl
theorem tsz_110 : tsz Go.Proofs.Tryz.prog 110 = 1 := by kernel_rfl
theorem tby_110 : tbytes Go.Proofs.Tryz.prog 110 = 0 := by kernel_rfl
theorem tagg_110 : tagg Go.Proofs.Tryz.prog 110 = false := by kernel_rfl
theorem tconc_110 : tconc Go.Proofs.Tryz.prog 110 = true := by kernel_rfl
theorem tzero_110 : tzero Go.Proofs.Tryz.prog 110 = some (.tuple #[.agg #[.string { data := #[] }, .slice none 0 0, .slice none 0 0, .slice none 0 0], .bool false]) := by kernel_rfl
theorem tok_111 : tok Go.Proofs.Tryz.prog 111 = true := by kernel_rfl
theorem tsz_111 : tsz Go.Proofs.Tryz.prog 111 = 1 := by kernel_rfl
theorem tby_111 : tbytes Go.Proofs.Tryz.prog 111 = 8 := by kernel_rfl
theorem tagg_111 : tagg Go.Proofs.Tryz.prog 111 = false := by kernel_rfl
theorem tconc_111 : tconc Go.Proofs.Tryz.prog 111 = true := by kernel_rfl
theorem tzero_111 : tzero Go.Proofs.Tryz.prog 111 = some .nilFunc := by kernel_rfl
theorem tok_112 : tok Go.Proofs.Tryz.prog 112 = true := by kernel_rfl
theorem tsz_112 : tsz Go.Proofs.Tryz.prog 112 = 1 := by kernel_rfl
theorem tby_112 : tbytes Go.Proofs.Tryz.prog 112 = 0 := by kernel_rfl
theorem tagg_112 : tagg Go.Proofs.Tryz.prog 112 = false := by kernel_rfl
theorem tconc_112 : tconc Go.Proofs.Tryz.prog 112 = true := by kernel_rfl
theorem tzero_112 : tzero Go.Proofs.Tryz.prog 112 = some (.tuple #[.agg #[.string { data := #[] }, .slice none 0 0, .slice none 0 0, .slice none 0 0], .int .i64 0, .int .i64 0]) := by kernel_rfl
theorem tok_113 : tok Go.Proofs.Tryz.prog 113 = true := by kernel_rfl
theorem tsz_113 : tsz Go.Proofs.Tryz.prog 113 = 1 := by kernel_rfl
theorem tby_113 : tbytes Go.Proofs.Tryz.prog 113 = 8 := by kernel_rfl
theorem tagg_113 : tagg Go.Proofs.Tryz.prog 113 = false := by kernel_rfl
theorem tconc_113 : tconc Go.Proofs.Tryz.prog 113 = true := by kernel_rfl
theorem tzero_113 : tzero Go.Proofs.Tryz.prog 113 = some .nilFunc := by kernel_rfl
theorem tok_114 : tok Go.Proofs.Tryz.prog 114 = true := by kernel_rfl
theorem tsz_114 : tsz Go.Proofs.Tryz.prog 114 = 1 := by kernel_rfl
theorem tby_114 : tbytes Go.Proofs.Tryz.prog 114 = 8 := by kernel_rfl
theorem tagg_114 : tagg Go.Proofs.Tryz.prog 114 = false := by kernel_rfl
theorem tconc_114 : tconc Go.Proofs.Tryz.prog 114 = true := by kernel_rfl
theorem tzero_114 : tzero Go.Proofs.Tryz.prog 114 = some .nilFunc := by kernel_rfl
theorem tok_115 : tok Go.Proofs.Tryz.prog 115 = true := by kernel_rfl
theorem tsz_115 : tsz Go.Proofs.Tryz.prog 115 = 1 := by kernel_rfl
theorem tby_115 : tbytes Go.Proofs.Tryz.prog 115 = 8 := by kernel_rfl
theorem tagg_115 : tagg Go.Proofs.Tryz.prog 115 = false := by kernel_rfl
theorem tconc_115 : tconc Go.Proofs.Tryz.prog 115 = true := by kernel_rfl
theorem tzero_115 : tzero Go.Proofs.Tryz.prog 115 = some .nilFunc := by kernel_rfl
theorem tok_116 : tok Go.Proofs.Tryz.prog 116 = true := by kernel_rfl
theorem tsz_116 : tsz Go.Proofs.Tryz.prog 116 = 5 := by kernel_rfl
theorem tby_116 : tbytes Go.Proofs.Tryz.prog 116 = 48 := by kernel_rfl
theorem tagg_116 : tagg Go.Proofs.Tryz.prog 116 = true := by kernel_rfl
theorem tconc_116 : tconc Go.Proofs.Tryz.prog 116 = true := by kernel_rfl
theorem tzero_116 : tzero Go.Proofs.Tryz.prog 116 = some (.agg #[.int .i64 0, .int .i64 0, .int .i64 0, .string { data := #[] }, .bool false]) := by kernel_rfl
theorem tfld_116_0 : tfld Go.Proofs.Tryz.prog 116 0 = some (3, 0) := by kernel_rfl
theorem fldA_116_0 : fldA Go.Proofs.Tryz.prog 116 0 = some 0 := by kernel_rfl
theorem tfld_116_1 : tfld Go.Proofs.Tryz.prog 116 1 = some (3, 1) := by kernel_rfl
theorem fldA_116_1 : fldA Go.Proofs.Tryz.prog 116 1 = some 1 := by kernel_rfl
theorem tfld_116_2 : tfld Go.Proofs.Tryz.prog 116 2 = some (3, 2) := by kernel_rfl
theorem fldA_116_2 : fldA Go.Proofs.Tryz.prog 116 2 = some 2 := by kernel_rfl
theorem tfld_116_3 : tfld Go.Proofs.Tryz.prog 116 3 = some (9, 3) := by kernel_rfl
theorem fldA_116_3 : fldA Go.Proofs.Tryz.prog 116 3 = some 3 := by kernel_rfl
theorem tfld_116_4 : tfld Go.Proofs.Tryz.prog 116 4 = some (4, 4) := by kernel_rfl
theorem fldA_116_4 : fldA Go.Proofs.Tryz.prog 116 4 = some 4 := by kernel_rfl
theorem tok_117 : tok Go.Proofs.Tryz.prog 117 = true := by kernel_rfl
theorem tsz_117 : tsz Go.Proofs.Tryz.prog 117 = 5 := by kernel_rfl
theorem tby_117 : tbytes Go.Proofs.Tryz.prog 117 = 48 := by kernel_rfl
theorem tagg_117 : tagg Go.Proofs.Tryz.prog 117 = true := by kernel_rfl
theorem tconc_117 : tconc Go.Proofs.Tryz.prog 117 = true := by kernel_rfl
theorem tzero_117 : tzero Go.Proofs.Tryz.prog 117 = some (.agg #[.int .i64 0, .int .i64 0, .int .i64 0, .string { data := #[] }, .bool false]) := by kernel_rfl
theorem tfld_117_0 : tfld Go.Proofs.Tryz.prog 117 0 = some (3, 0) := by kernel_rfl
theorem fldA_117_0 : fldA Go.Proofs.Tryz.prog 117 0 = some 0 := by kernel_rfl
theorem tfld_117_1 : tfld Go.Proofs.Tryz.prog 117 1 = some (3, 1) := by kernel_rfl
theorem fldA_117_1 : fldA Go.Proofs.Tryz.prog 117 1 = some 1 := by kernel_rfl
theorem tfld_117_2 : tfld Go.Proofs.Tryz.prog 117 2 = some (3, 2) := by kernel_rfl
theorem fldA_117_2 : fldA Go.Proofs.Tryz.prog 117 2 = some 2 := by kernel_rfl
theorem tfld_117_3 : tfld Go.Proofs.Tryz.prog 117 3 = some (9, 3) := by kernel_rfl
theorem fldA_117_3 : fldA Go.Proofs.Tryz.prog 117 3 = some 3 := by kernel_rfl
theorem tfld_117_4 : tfld Go.Proofs.Tryz.prog 117 4 = some (4, 4) := by kernel_rfl
theorem fldA_117_4 : fldA Go.Proofs.Tryz.prog 117 4 = some 4 := by kernel_rfl
theorem tok_118 : tok Go.Proofs.Tryz.prog 118 = true := by kernel_rfl
theorem tsz_118 : tsz Go.Proofs.Tryz.prog 118 = 1 := by kernel_rfl
theorem tby_118 : tbytes Go.Proofs.Tryz.prog 118 = 8 := by kernel_rfl
theorem tagg_118 : tagg Go.Proofs.Tryz.prog 118 = false := by kernel_rfl
theorem tconc_118 : tconc Go.Proofs.Tryz.prog 118 = true := by kernel_rfl
theorem tzero_118 : tzero Go.Proofs.Tryz.prog 118 = some .nilFunc := by kernel_rfl
theorem tok_119 : tok Go.Proofs.Tryz.prog 119 = true := by kernel_rfl
theorem tsz_119 : tsz Go.Proofs.Tryz.prog 119 = 1 := by kernel_rfl
theorem tby_119 : tbytes Go.Proofs.Tryz.prog 119 = 8 := by kernel_rfl
theorem tagg_119 : tagg Go.Proofs.Tryz.prog 119 = false := by kernel_rfl
theorem tconc_119 : tconc Go.Proofs.Tryz.prog 119 = true := by kernel_rfl
theorem tzero_119 : tzero Go.Proofs.Tryz.prog 119 = some .nilFunc := by kernel_rfl
theorem tok_120 : tok Go.Proofs.Tryz.prog 120 = true := by kernel_rfl
theorem tsz_120 : tsz Go.Proofs.Tryz.prog 120 = 1 := by kernel_rfl
theorem tby_120 : tbytes Go.Proofs.Tryz.prog 120 = 8 := by kernel_rfl
theorem tagg_120 : tagg Go.Proofs.Tryz.prog 120 = false := by kernel_rfl
theorem tconc_120 : tconc Go.Proofs.Tryz.prog 120 = true := by kernel_rfl
theorem tzero_120 : tzero Go.Proofs.Tryz.prog 120 = some .nilFunc := by kernel_rfl
theorem tok_121 : tok Go.Proofs.Tryz.prog 121 = true := by kernel_rfl
theorem tsz_121 : tsz Go.Proofs.Tryz.prog 121 = 1 := by kernel_rfl
theorem tby_121 : tbytes Go.Proofs.Tryz.prog 121 = 8 := by kernel_rfl
theorem tagg_121 : tagg Go.Proofs.Tryz.prog 121 = false := by kernel_rfl
theorem tconc_121 : tconc Go.Proofs.Tryz.prog 121 = true := by kernel_rfl
theorem tzero_121 : tzero Go.Proofs.Tryz.prog 121 = some .nilFunc := by kernel_rfl
theorem tok_122 : tok Go.Proofs.Tryz.prog 122 = true := by kernel_rfl
theorem tsz_122 : tsz Go.Proofs.Tryz.prog 122 = 1 := by kernel_rfl
theorem tby_122 : tbytes Go.Proofs.Tryz.prog 122 = 8 := by kernel_rfl
theorem tagg_122 : tagg Go.Proofs.Tryz.prog 122 = false := by kernel_rfl
theorem tconc_122 : tconc Go.Proofs.Tryz.prog 122 = true := by kernel_rfl
theorem tzero_122 : tzero Go.Proofs.Tryz.prog 122 = some .nilFunc := by kernel_rfl
theorem tok_123 : tok Go.Proofs.Tryz.prog 123 = true := by kernel_rfl
theorem tsz_123 : tsz Go.Proofs.Tryz.prog 123 = 8 := by kernel_rfl
theorem tby_123 : tbytes Go.Proofs.Tryz.prog 123 = 80 := by kernel_rfl
theorem tagg_123 : tagg Go.Proofs.Tryz.prog 123 = true := by kernel_rfl
theorem tconc_123 : tconc Go.Proofs.Tryz.prog 123 = true := by kernel_rfl
theorem tzero_123 : tzero Go.Proofs.Tryz.prog 123 = some (.agg #[.int .i64 0, .int .i64 0, .int .i64 0, .string { data := #[] }, .int .i64 0, .int .i64 0, .string { data := #[] }, .int .i64 0]) := by kernel_rfl
theorem tfld_123_0 : tfld Go.Proofs.Tryz.prog 123 0 = some (25, 0) := by kernel_rfl
theorem fldA_123_0 : fldA Go.Proofs.Tryz.prog 123 0 = some 0 := by kernel_rfl
theorem tfld_123_1 : tfld Go.Proofs.Tryz.prog 123 1 = some (31, 7) := by kernel_rfl
theorem fldA_123_1 : fldA Go.Proofs.Tryz.prog 123 1 = some 7 := by kernel_rfl
theorem tok_124 : tok Go.Proofs.Tryz.prog 124 = true := by kernel_rfl
theorem tsz_124 : tsz Go.Proofs.Tryz.prog 124 = 8 := by kernel_rfl
theorem tby_124 : tbytes Go.Proofs.Tryz.prog 124 = 80 := by kernel_rfl
theorem tagg_124 : tagg Go.Proofs.Tryz.prog 124 = true := by kernel_rfl
theorem tconc_124 : tconc Go.Proofs.Tryz.prog 124 = true := by kernel_rfl
theorem tzero_124 : tzero Go.Proofs.Tryz.prog 124 = some (.agg #[.int .i64 0, .int .i64 0, .int .i64 0, .string { data := #[] }, .int .i64 0, .int .i64 0, .string { data := #[] }, .int .i64 0]) := by kernel_rfl
theorem tfld_124_0 : tfld Go.Proofs.Tryz.prog 124 0 = some (25, 0) := by kernel_rfl
theorem fldA_124_0 : fldA Go.Proofs.Tryz.prog 124 0 = some 0 := by kernel_rfl
theorem tfld_124_1 : tfld Go.Proofs.Tryz.prog 124 1 = some (31, 7) := by kernel_rfl
theorem fldA_124_1 : fldA Go.Proofs.Tryz.prog 124 1 = some 7 := by kernel_rfl
theorem tok_125 : tok Go.Proofs.Tryz.prog 125 = true := by kernel_rfl
theorem tsz_125 : tsz Go.Proofs.Tryz.prog 125 = 1 := by kernel_rfl
theorem tby_125 : tbytes Go.Proofs.Tryz.prog 125 = 24 := by kernel_rfl
theorem tagg_125 : tagg Go.Proofs.Tryz.prog 125 = false := by kernel_rfl
theorem tconc_125 : tconc Go.Proofs.Tryz.prog 125 = true := by kernel_rfl
theorem tzero_125 : tzero Go.Proofs.Tryz.prog 125 = some (.slice none 0 0) := by kernel_rfl
theorem telem_125 : telem Go.Proofs.Tryz.prog 125 = some 259 := by kernel_rfl
theorem tok_126 : tok Go.Proofs.Tryz.prog 126 = true := by kernel_rfl
theorem tsz_126 : tsz Go.Proofs.Tryz.prog 126 = 7 := by kernel_rfl
theorem tby_126 : tbytes Go.Proofs.Tryz.prog 126 = 160 := by kernel_rfl
theorem tagg_126 : tagg Go.Proofs.Tryz.prog 126 = true := by kernel_rfl
theorem tconc_126 : tconc Go.Proofs.Tryz.prog 126 = true := by kernel_rfl
theorem tzero_126 : tzero Go.Proofs.Tryz.prog 126 = some (.agg #[.string { data := #[] }, .slice none 0 0, .slice none 0 0, .slice none 0 0, .slice none 0 0, .slice none 0 0, .slice none 0 0]) := by kernel_rfl
theorem tfld_126_0 : tfld Go.Proofs.Tryz.prog 126 0 = some (53, 0) := by kernel_rfl
theorem fldA_126_0 : fldA Go.Proofs.Tryz.prog 126 0 = some 0 := by kernel_rfl
theorem tfld_126_1 : tfld Go.Proofs.Tryz.prog 126 1 = some (125, 4) := by kernel_rfl
theorem fldA_126_1 : fldA Go.Proofs.Tryz.prog 126 1 = some 4 := by kernel_rfl
theorem tfld_126_2 : tfld Go.Proofs.Tryz.prog 126 2 = some (50, 5) := by kernel_rfl
theorem fldA_126_2 : fldA Go.Proofs.Tryz.prog 126 2 = some 5 := by kernel_rfl
theorem tfld_126_3 : tfld Go.Proofs.Tryz.prog 126 3 = some (50, 6) := by kernel_rfl
theorem fldA_126_3 : fldA Go.Proofs.Tryz.prog 126 3 = some 6 := by kernel_rfl
theorem tok_127 : tok Go.Proofs.Tryz.prog 127 = true := by kernel_rfl
theorem tsz_127 : tsz Go.Proofs.Tryz.prog 127 = 7 := by kernel_rfl
theorem tby_127 : tbytes Go.Proofs.Tryz.prog 127 = 160 := by kernel_rfl
theorem tagg_127 : tagg Go.Proofs.Tryz.prog 127 = true := by kernel_rfl
theorem tconc_127 : tconc Go.Proofs.Tryz.prog 127 = true := by kernel_rfl
theorem tzero_127 : tzero Go.Proofs.Tryz.prog 127 = some (.agg #[.string { data := #[] }, .slice none 0 0, .slice none 0 0, .slice none 0 0, .slice none 0 0, .slice none 0 0, .slice none 0 0]) := by kernel_rfl
theorem tfld_127_0 : tfld Go.Proofs.Tryz.prog 127 0 = some (53, 0) := by kernel_rfl
theorem fldA_127_0 : fldA Go.Proofs.Tryz.prog 127 0 = some 0 := by kernel_rfl
theorem tfld_127_1 : tfld Go.Proofs.Tryz.prog 127 1 = some (125, 4) := by kernel_rfl
theorem fldA_127_1 : fldA Go.Proofs.Tryz.prog 127 1 = some 4 := by kernel_rfl
theorem tfld_127_2 : tfld Go.Proofs.Tryz.prog 127 2 = some (50, 5) := by kernel_rfl
theorem fldA_127_2 : fldA Go.Proofs.Tryz.prog 127 2 = some 5 := by kernel_rfl
theorem tfld_127_3 : tfld Go.Proofs.Tryz.prog 127 3 = some (50, 6) := by kernel_rfl
theorem fldA_127_3 : fldA Go.Proofs.Tryz.prog 127 3 = some 6 := by kernel_rfl
theorem tok_128 : tok Go.Proofs.Tryz.prog 128 = true := by kernel_rfl
theorem tsz_128 : tsz Go.Proofs.Tryz.prog 128 = 15 := by kernel_rfl
theorem tby_128 : tbytes Go.Proofs.Tryz.prog 128 = 272 := by kernel_rfl
theorem tagg_128 : tagg Go.Proofs.Tryz.prog 128 = true := by kernel_rfl
theorem tconc_128 : tconc Go.Proofs.Tryz.prog 128 = true := by kernel_rfl
theorem tzero_128 : tzero Go.Proofs.Tryz.prog 128 = some (.agg #[.int .i64 0, .int .i64 0, .bool false, .slice none 0 0, .bool false, .string { data := #[] }, .slice none 0 0, .slice none 0 0, .slice none 0 0, .slice none 0 0, .slice none 0 0, .slice none 0 0, .slice none 0 0, .slice none 0 0, .bool false]) := by kernel_rfl
theorem tfld_128_0 : tfld Go.Proofs.Tryz.prog 128 0 = some (3, 0) := by kernel_rfl
theorem fldA_128_0 : fldA Go.Proofs.Tryz.prog 128 0 = some 0 := by kernel_rfl
theorem tfld_128_1 : tfld Go.Proofs.Tryz.prog 128 1 = some (3, 1) := by kernel_rfl
theorem fldA_128_1 : fldA Go.Proofs.Tryz.prog 128 1 = some 1 := by kernel_rfl
theorem tfld_128_2 : tfld Go.Proofs.Tryz.prog 128 2 = some (4, 2) := by kernel_rfl
theorem fldA_128_2 : fldA Go.Proofs.Tryz.prog 128 2 = some 2 := by kernel_rfl
theorem tfld_128_3 : tfld Go.Proofs.Tryz.prog 128 3 = some (50, 3) := by kernel_rfl
theorem fldA_128_3 : fldA Go.Proofs.Tryz.prog 128 3 = some 3 := by kernel_rfl
theorem tfld_128_4 : tfld Go.Proofs.Tryz.prog 128 4 = some (4, 4) := by kernel_rfl
theorem fldA_128_4 : fldA Go.Proofs.Tryz.prog 128 4 = some 4 := by kernel_rfl
theorem tfld_128_5 : tfld Go.Proofs.Tryz.prog 128 5 = some (127, 5) := by kernel_rfl
theorem fldA_128_5 : fldA Go.Proofs.Tryz.prog 128 5 = some 5 := by kernel_rfl
theorem tfld_128_6 : tfld Go.Proofs.Tryz.prog 128 6 = some (50, 12) := by kernel_rfl
theorem fldA_128_6 : fldA Go.Proofs.Tryz.prog 128 6 = some 12 := by kernel_rfl
theorem tfld_128_7 : tfld Go.Proofs.Tryz.prog 128 7 = some (50, 13) := by kernel_rfl
theorem fldA_128_7 : fldA Go.Proofs.Tryz.prog 128 7 = some 13 := by kernel_rfl
theorem tfld_128_8 : tfld Go.Proofs.Tryz.prog 128 8 = some (4, 14) := by kernel_rfl
theorem fldA_128_8 : fldA Go.Proofs.Tryz.prog 128 8 = some 14 := by kernel_rfl
theorem tok_129 : tok Go.Proofs.Tryz.prog 129 = true := by kernel_rfl
theorem tsz_129 : tsz Go.Proofs.Tryz.prog 129 = 15 := by kernel_rfl
theorem tby_129 : tbytes Go.Proofs.Tryz.prog 129 = 272 := by kernel_rfl
theorem tagg_129 : tagg Go.Proofs.Tryz.prog 129 = true := by kernel_rfl
theorem tconc_129 : tconc Go.Proofs.Tryz.prog 129 = true := by kernel_rfl
theorem tzero_129 : tzero Go.Proofs.Tryz.prog 129 = some (.agg #[.int .i64 0, .int .i64 0, .bool false, .slice none 0 0, .bool false, .string { data := #[] }, .slice none 0 0, .slice none 0 0, .slice none 0 0, .slice none 0 0, .slice none 0 0, .slice none 0 0, .slice none 0 0, .slice none 0 0, .bool false]) := by kernel_rfl
theorem tfld_129_0 : tfld Go.Proofs.Tryz.prog 129 0 = some (3, 0) := by kernel_rfl
theorem fldA_129_0 : fldA Go.Proofs.Tryz.prog 129 0 = some 0 := by kernel_rfl
theorem tfld_129_1 : tfld Go.Proofs.Tryz.prog 129 1 = some (3, 1) := by kernel_rfl
theorem fldA_129_1 : fldA Go.Proofs.Tryz.prog 129 1 = some 1 := by kernel_rfl
theorem tfld_129_2 : tfld Go.Proofs.Tryz.prog 129 2 = some (4, 2) := by kernel_rfl
theorem fldA_129_2 : fldA Go.Proofs.Tryz.prog 129 2 = some 2 := by kernel_rfl
theorem tfld_129_3 : tfld Go.Proofs.Tryz.prog 129 3 = some (50, 3) := by kernel_rfl
theorem fldA_129_3 : fldA Go.Proofs.Tryz.prog 129 3 = some 3 := by kernel_rfl
theorem tfld_129_4 : tfld Go.Proofs.Tryz.prog 129 4 = some (4, 4) := by kernel_rfl
theorem fldA_129_4 : fldA Go.Proofs.Tryz.prog 129 4 = some 4 := by kernel_rfl
theorem tfld_129_5 : tfld Go.Proofs.Tryz.prog 129 5 = some (127, 5) := by kernel_rfl
theorem fldA_129_5 : fldA Go.Proofs.Tryz.prog 129 5 = some 5 := by kernel_rfl
theorem tfld_129_6 : tfld Go.Proofs.Tryz.prog 129 6 = some (50, 12) := by kernel_rfl
theorem fldA_129_6 : fldA Go.Proofs.Tryz.prog 129 6 = some 12 := by kernel_rfl
theorem tfld_129_7 : tfld Go.Proofs.Tryz.prog 129 7 = some (50, 13) := by kernel_rfl
theorem fldA_129_7 : fldA Go.Proofs.Tryz.prog 129 7 = some 13 := by kernel_rfl
theorem tfld_129_8 : tfld Go.Proofs.Tryz.prog 129 8 = some (4, 14) := by kernel_rfl
theorem fldA_129_8 : fldA Go.Proofs.Tryz.prog 129 8 = some 14 := by kernel_rfl
theorem tok_130 : tok Go.Proofs.Tryz.prog 130 = true := by kernel_rfl
theorem tsz_130 : tsz Go.Proofs.Tryz.prog 130 = 1 := by kernel_rfl
theorem tby_130 : tbytes Go.Proofs.Tryz.prog 130 = 24 := by kernel_rfl
theorem tagg_130 : tagg Go.Proofs.Tryz.prog 130 = false := by kernel_rfl
theorem tconc_130 : tconc Go.Proofs.Tryz.prog 130 = true := by kernel_rfl
theorem tzero_130 : tzero Go.Proofs.Tryz.prog 130 = some (.slice none 0 0) := by kernel_rfl
theorem telem_130 : telem Go.Proofs.Tryz.prog 130 = some 129 := by kernel_rfl
theorem tok_131 : tok Go.Proofs.Tryz.prog 131 = true := by kernel_rfl
theorem tsz_131 : tsz Go.Proofs.Tryz.prog 131 = 1 := by kernel_rfl
theorem tby_131 : tbytes Go.Proofs.Tryz.prog 131 = 24 := by kernel_rfl
theorem tagg_131 : tagg Go.Proofs.Tryz.prog 131 = false := by kernel_rfl
theorem tconc_131 : tconc Go.Proofs.Tryz.prog 131 = true := by kernel_rfl
theorem tzero_131 : tzero Go.Proofs.Tryz.prog 131 = some (.slice none 0 0) := by kernel_rfl
theorem telem_131 : telem Go.Proofs.Tryz.prog 131 = some 137 := by kernel_rfl
theorem tok_132 : tok Go.Proofs.Tryz.prog 132 = true := by kernel_rfl
theorem tsz_132 : tsz Go.Proofs.Tryz.prog 132 = 8 := by kernel_rfl
theorem tby_132 : tbytes Go.Proofs.Tryz.prog 132 = 144 := by kernel_rfl
theorem tagg_132 : tagg Go.Proofs.Tryz.prog 132 = true := by kernel_rfl
theorem tconc_132 : tconc Go.Proofs.Tryz.prog 132 = true := by kernel_rfl
theorem tzero_132 : tzero Go.Proofs.Tryz.prog 132 = some (.agg #[.int .i64 0, .slice none 0 0, .slice none 0 0, .slice none 0 0, .slice none 0 0, .int .i64 0, .int .i64 0, .slice none 0 0]) := by kernel_rfl
theorem tfld_132_0 : tfld Go.Proofs.Tryz.prog 132 0 = some (3, 0) := by kernel_rfl
theorem fldA_132_0 : fldA Go.Proofs.Tryz.prog 132 0 = some 0 := by kernel_rfl
theorem tfld_132_1 : tfld Go.Proofs.Tryz.prog 132 1 = some (22, 1) := by kernel_rfl
theorem fldA_132_1 : fldA Go.Proofs.Tryz.prog 132 1 = some 1 := by kernel_rfl
theorem tfld_132_2 : tfld Go.Proofs.Tryz.prog 132 2 = some (130, 2) := by kernel_rfl
theorem fldA_132_2 : fldA Go.Proofs.Tryz.prog 132 2 = some 2 := by kernel_rfl
theorem tfld_132_3 : tfld Go.Proofs.Tryz.prog 132 3 = some (23, 3) := by kernel_rfl
theorem fldA_132_3 : fldA Go.Proofs.Tryz.prog 132 3 = some 3 := by kernel_rfl
theorem tfld_132_4 : tfld Go.Proofs.Tryz.prog 132 4 = some (131, 4) := by kernel_rfl
theorem fldA_132_4 : fldA Go.Proofs.Tryz.prog 132 4 = some 4 := by kernel_rfl
theorem tfld_132_5 : tfld Go.Proofs.Tryz.prog 132 5 = some (3, 5) := by kernel_rfl
theorem fldA_132_5 : fldA Go.Proofs.Tryz.prog 132 5 = some 5 := by kernel_rfl
theorem tfld_132_6 : tfld Go.Proofs.Tryz.prog 132 6 = some (3, 6) := by kernel_rfl
theorem fldA_132_6 : fldA Go.Proofs.Tryz.prog 132 6 = some 6 := by kernel_rfl
theorem tfld_132_7 : tfld Go.Proofs.Tryz.prog 132 7 = some (50, 7) := by kernel_rfl
theorem fldA_132_7 : fldA Go.Proofs.Tryz.prog 132 7 = some 7 := by kernel_rfl
theorem tok_133 : tok Go.Proofs.Tryz.prog 133 = true := by kernel_rfl
theorem tsz_133 : tsz Go.Proofs.Tryz.prog 133 = 8 := by kernel_rfl
theorem tby_133 : tbytes Go.Proofs.Tryz.prog 133 = 144 := by kernel_rfl
theorem tagg_133 : tagg Go.Proofs.Tryz.prog 133 = true := by kernel_rfl
theorem tconc_133 : tconc Go.Proofs.Tryz.prog 133 = true := by kernel_rfl
theorem tzero_133 : tzero Go.Proofs.Tryz.prog 133 = some (.agg #[.int .i64 0, .slice none 0 0, .slice none 0 0, .slice none 0 0, .slice none 0 0, .int .i64 0, .int .i64 0, .slice none 0 0]) := by kernel_rfl
theorem tfld_133_0 : tfld Go.Proofs.Tryz.prog 133 0 = some (3, 0) := by kernel_rfl
theorem fldA_133_0 : fldA Go.Proofs.Tryz.prog 133 0 = some 0 := by kernel_rfl
theorem tfld_133_1 : tfld Go.Proofs.Tryz.prog 133 1 = some (22, 1) := by kernel_rfl
theorem fldA_133_1 : fldA Go.Proofs.Tryz.prog 133 1 = some 1 := by kernel_rfl
theorem tfld_133_2 : tfld Go.Proofs.Tryz.prog 133 2 = some (130, 2) := by kernel_rfl
theorem fldA_133_2 : fldA Go.Proofs.Tryz.prog 133 2 = some 2 := by kernel_rfl
theorem tfld_133_3 : tfld Go.Proofs.Tryz.prog 133 3 = some (23, 3) := by kernel_rfl
theorem fldA_133_3 : fldA Go.Proofs.Tryz.prog 133 3 = some 3 := by kernel_rfl
theorem tfld_133_4 : tfld Go.Proofs.Tryz.prog 133 4 = some (131, 4) := by kernel_rfl
theorem fldA_133_4 : fldA Go.Proofs.Tryz.prog 133 4 = some 4 := by kernel_rfl
theorem tfld_133_5 : tfld Go.Proofs.Tryz.prog 133 5 = some (3, 5) := by kernel_rfl
theorem fldA_133_5 : fldA Go.Proofs.Tryz.prog 133 5 = some 5 := by kernel_rfl
theorem tfld_133_6 : tfld Go.Proofs.Tryz.prog 133 6 = some (3, 6) := by kernel_rfl
theorem fldA_133_6 : fldA Go.Proofs.Tryz.prog 133 6 = some 6 := by kernel_rfl
theorem tfld_133_7 : tfld Go.Proofs.Tryz.prog 133 7 = some (50, 7) := by kernel_rfl
theorem fldA_133_7 : fldA Go.Proofs.Tryz.prog 133 7 = some 7 := by kernel_rfl
theorem tok_134 : tok Go.Proofs.Tryz.prog 134 = true := by kernel_rfl
theorem tsz_134 : tsz Go.Proofs.Tryz.prog 134 = 1 := by kernel_rfl
theorem tby_134 : tbytes Go.Proofs.Tryz.prog 134 = 24 := by kernel_rfl
theorem tagg_134 : tagg Go.Proofs.Tryz.prog 134 = false := by kernel_rfl
theorem tconc_134 : tconc Go.Proofs.Tryz.prog 134 = true := by kernel_rfl
theorem tzero_134 : tzero Go.Proofs.Tryz.prog 134 = some (.slice none 0 0) := by kernel_rfl
theorem telem_134 : telem Go.Proofs.Tryz.prog 134 = some 136 := by kernel_rfl
theorem tok_135 : tok Go.Proofs.Tryz.prog 135 = true := by kernel_rfl
theorem tsz_135 : tsz Go.Proofs.Tryz.prog 135 = 1 := by kernel_rfl
theorem tby_135 : tbytes Go.Proofs.Tryz.prog 135 = 8 := by kernel_rfl
theorem tagg_135 : tagg Go.Proofs.Tryz.prog 135 = false := by kernel_rfl
theorem tconc_135 : tconc Go.Proofs.Tryz.prog 135 = true := by kernel_rfl
theorem tzero_135 : tzero Go.Proofs.Tryz.prog 135 = some .nilFunc := by kernel_rfl
theorem tok_136 : tok Go.Proofs.Tryz.prog 136 = true := by kernel_rfl
theorem tsz_136 : tsz Go.Proofs.Tryz.prog 136 = 5 := by kernel_rfl
theorem tby_136 : tbytes Go.Proofs.Tryz.prog 136 = 48 := by kernel_rfl
theorem tagg_136 : tagg Go.Proofs.Tryz.prog 136 = true := by kernel_rfl
theorem tconc_136 : tconc Go.Proofs.Tryz.prog 136 = true := by kernel_rfl
theorem tzero_136 : tzero Go.Proofs.Tryz.prog 136 = some (.agg #[.int .i64 0, .int .i64 0, .int .i64 0, .string { data := #[] }, .bool false]) := by kernel_rfl
theorem tfld_136_0 : tfld Go.Proofs.Tryz.prog 136 0 = some (3, 0) := by kernel_rfl
theorem fldA_136_0 : fldA Go.Proofs.Tryz.prog 136 0 = some 0 := by kernel_rfl
theorem tfld_136_1 : tfld Go.Proofs.Tryz.prog 136 1 = some (3, 1) := by kernel_rfl
theorem fldA_136_1 : fldA Go.Proofs.Tryz.prog 136 1 = some 1 := by kernel_rfl
theorem tfld_136_2 : tfld Go.Proofs.Tryz.prog 136 2 = some (3, 2) := by kernel_rfl
theorem fldA_136_2 : fldA Go.Proofs.Tryz.prog 136 2 = some 2 := by kernel_rfl
theorem tfld_136_3 : tfld Go.Proofs.Tryz.prog 136 3 = some (9, 3) := by kernel_rfl
theorem fldA_136_3 : fldA Go.Proofs.Tryz.prog 136 3 = some 3 := by kernel_rfl
theorem tfld_136_4 : tfld Go.Proofs.Tryz.prog 136 4 = some (4, 4) := by kernel_rfl
theorem fldA_136_4 : fldA Go.Proofs.Tryz.prog 136 4 = some 4 := by kernel_rfl
theorem tok_137 : tok Go.Proofs.Tryz.prog 137 = true := by kernel_rfl
theorem tsz_137 : tsz Go.Proofs.Tryz.prog 137 = 8 := by kernel_rfl
theorem tby_137 : tbytes Go.Proofs.Tryz.prog 137 = 80 := by kernel_rfl
theorem tagg_137 : tagg Go.Proofs.Tryz.prog 137 = true := by kernel_rfl
theorem tconc_137 : tconc Go.Proofs.Tryz.prog 137 = true := by kernel_rfl
theorem tzero_137 : tzero Go.Proofs.Tryz.prog 137 = some (.agg #[.int .i64 0, .int .i64 0, .int .i64 0, .string { data := #[] }, .int .i64 0, .int .i64 0, .string { data := #[] }, .int .i64 0]) := by kernel_rfl
theorem tfld_137_0 : tfld Go.Proofs.Tryz.prog 137 0 = some (25, 0) := by kernel_rfl
theorem fldA_137_0 : fldA Go.Proofs.Tryz.prog 137 0 = some 0 := by kernel_rfl
theorem tfld_137_1 : tfld Go.Proofs.Tryz.prog 137 1 = some (31, 7) := by kernel_rfl
theorem fldA_137_1 : fldA Go.Proofs.Tryz.prog 137 1 = some 7 := by kernel_rfl
theorem tok_138 : tok Go.Proofs.Tryz.prog 138 = true := by kernel_rfl
theorem tsz_138 : tsz Go.Proofs.Tryz.prog 138 = 1 := by kernel_rfl
theorem tby_138 : tbytes Go.Proofs.Tryz.prog 138 = 8 := by kernel_rfl
theorem tagg_138 : tagg Go.Proofs.Tryz.prog 138 = false := by kernel_rfl
theorem tconc_138 : tconc Go.Proofs.Tryz.prog 138 = true := by kernel_rfl
theorem tzero_138 : tzero Go.Proofs.Tryz.prog 138 = some .nilFunc := by kernel_rfl
theorem tok_139 : tok Go.Proofs.Tryz.prog 139 = true := by kernel_rfl
theorem tsz_139 : tsz Go.Proofs.Tryz.prog 139 = 1 := by kernel_rfl
theorem tby_139 : tbytes Go.Proofs.Tryz.prog 139 = 8 := by kernel_rfl
theorem tagg_139 : tagg Go.Proofs.Tryz.prog 139 = false := by kernel_rfl
theorem tconc_139 : tconc Go.Proofs.Tryz.prog 139 = true := by kernel_rfl
theorem tzero_139 : tzero Go.Proofs.Tryz.prog 139 = some .nilFunc := by kernel_rfl
theorem tok_140 : tok Go.Proofs.Tryz.prog 140 = true := by kernel_rfl
theorem tsz_140 : tsz Go.Proofs.Tryz.prog 140 = 1 := by kernel_rfl
theorem tby_140 : tbytes Go.Proofs.Tryz.prog 140 = 8 := by kernel_rfl
theorem tagg_140 : tagg Go.Proofs.Tryz.prog 140 = false := by kernel_rfl
theorem tconc_140 : tconc Go.Proofs.Tryz.prog 140 = true := by kernel_rfl
theorem tzero_140 : tzero Go.Proofs.Tryz.prog 140 = some .nilFunc := by kernel_rfl
theorem tok_141 : tok Go.Proofs.Tryz.prog 141 = true := by kernel_rfl
theorem tsz_141 : tsz Go.Proofs.Tryz.prog 141 = 1 := by kernel_rfl
theorem tby_141 : tbytes Go.Proofs.Tryz.prog 141 = 8 := by kernel_rfl
theorem tagg_141 : tagg Go.Proofs.Tryz.prog 141 = false := by kernel_rfl
theorem tconc_141 : tconc Go.Proofs.Tryz.prog 141 = true := by kernel_rfl
theorem tzero_141 : tzero Go.Proofs.Tryz.prog 141 = some .nilFunc := by kernel_rfl
theorem tok_142 : tok Go.Proofs.Tryz.prog 142 = true := by kernel_rfl
theorem tsz_142 : tsz Go.Proofs.Tryz.prog 142 = 5 := by kernel_rfl
theorem tby_142 : tbytes Go.Proofs.Tryz.prog 142 = 24 := by kernel_rfl
theorem tagg_142 : tagg Go.Proofs.Tryz.prog 142 = true := by kernel_rfl
theorem tconc_142 : tconc Go.Proofs.Tryz.prog 142 = true := by kernel_rfl
theorem tzero_142 : tzero Go.Proofs.Tryz.prog 142 = some (.agg #[.bool false, .bool false, .bool false, .int .i64 0, .int .i64 0]) := by kernel_rfl
theorem tfld_142_0 : tfld Go.Proofs.Tryz.prog 142 0 = some (4, 0) := by kernel_rfl
theorem fldA_142_0 : fldA Go.Proofs.Tryz.prog 142 0 = some 0 := by kernel_rfl
theorem tfld_142_1 : tfld Go.Proofs.Tryz.prog 142 1 = some (4, 1) := by kernel_rfl
theorem fldA_142_1 : fldA Go.Proofs.Tryz.prog 142 1 = some 1 := by kernel_rfl
theorem tfld_142_2 : tfld Go.Proofs.Tryz.prog 142 2 = some (4, 2) := by kernel_rfl
theorem fldA_142_2 : fldA Go.Proofs.Tryz.prog 142 2 = some 2 := by kernel_rfl
theorem tfld_142_3 : tfld Go.Proofs.Tryz.prog 142 3 = some (3, 3) := by kernel_rfl
theorem fldA_142_3 : fldA Go.Proofs.Tryz.prog 142 3 = some 3 := by kernel_rfl
theorem tfld_142_4 : tfld Go.Proofs.Tryz.prog 142 4 = some (3, 4) := by kernel_rfl
theorem fldA_142_4 : fldA Go.Proofs.Tryz.prog 142 4 = some 4 := by kernel_rfl
theorem tok_143 : tok Go.Proofs.Tryz.prog 143 = true := by kernel_rfl
theorem tsz_143 : tsz Go.Proofs.Tryz.prog 143 = 5 := by kernel_rfl
theorem tby_143 : tbytes Go.Proofs.Tryz.prog 143 = 24 := by kernel_rfl
theorem tagg_143 : tagg Go.Proofs.Tryz.prog 143 = true := by kernel_rfl
theorem tconc_143 : tconc Go.Proofs.Tryz.prog 143 = true := by kernel_rfl
theorem tzero_143 : tzero Go.Proofs.Tryz.prog 143 = some (.agg #[.bool false, .bool false, .bool false, .int .i64 0, .int .i64 0]) := by kernel_rfl
theorem tfld_143_0 : tfld Go.Proofs.Tryz.prog 143 0 = some (4, 0) := by kernel_rfl
theorem fldA_143_0 : fldA Go.Proofs.Tryz.prog 143 0 = some 0 := by kernel_rfl
theorem tfld_143_1 : tfld Go.Proofs.Tryz.prog 143 1 = some (4, 1) := by kernel_rfl
theorem fldA_143_1 : fldA Go.Proofs.Tryz.prog 143 1 = some 1 := by kernel_rfl
theorem tfld_143_2 : tfld Go.Proofs.Tryz.prog 143 2 = some (4, 2) := by kernel_rfl
theorem fldA_143_2 : fldA Go.Proofs.Tryz.prog 143 2 = some 2 := by kernel_rfl
theorem tfld_143_3 : tfld Go.Proofs.Tryz.prog 143 3 = some (3, 3) := by kernel_rfl
theorem fldA_143_3 : fldA Go.Proofs.Tryz.prog 143 3 = some 3 := by kernel_rfl
theorem tfld_143_4 : tfld Go.Proofs.Tryz.prog 143 4 = some (3, 4) := by kernel_rfl
theorem fldA_143_4 : fldA Go.Proofs.Tryz.prog 143 4 = some 4 := by kernel_rfl
theorem tok_144 : tok Go.Proofs.Tryz.prog 144 = true := by kernel_rfl
theorem tsz_144 : tsz Go.Proofs.Tryz.prog 144 = 1 := by kernel_rfl
theorem tby_144 : tbytes Go.Proofs.Tryz.prog 144 = 24 := by kernel_rfl
theorem tagg_144 : tagg Go.Proofs.Tryz.prog 144 = false := by kernel_rfl
theorem tconc_144 : tconc Go.Proofs.Tryz.prog 144 = true := by kernel_rfl
theorem tzero_144 : tzero Go.Proofs.Tryz.prog 144 = some (.slice none 0 0) := by kernel_rfl
theorem telem_144 : telem Go.Proofs.Tryz.prog 144 = some 143 := by kernel_rfl
theorem tok_145 : tok Go.Proofs.Tryz.prog 145 = true := by kernel_rfl
theorem tsz_145 : tsz Go.Proofs.Tryz.prog 145 = 1 := by kernel_rfl
theorem tby_145 : tbytes Go.Proofs.Tryz.prog 145 = 8 := by kernel_rfl
theorem tagg_145 : tagg Go.Proofs.Tryz.prog 145 = false := by kernel_rfl
theorem tconc_145 : tconc Go.Proofs.Tryz.prog 145 = true := by kernel_rfl
theorem tzero_145 : tzero Go.Proofs.Tryz.prog 145 = some .nilFunc := by kernel_rfl
theorem tok_146 : tok Go.Proofs.Tryz.prog 146 = true := by kernel_rfl
theorem tsz_146 : tsz Go.Proofs.Tryz.prog 146 = 1 := by kernel_rfl
theorem tby_146 : tbytes Go.Proofs.Tryz.prog 146 = 8 := by kernel_rfl
theorem tagg_146 : tagg Go.Proofs.Tryz.prog 146 = false := by kernel_rfl
theorem tconc_146 : tconc Go.Proofs.Tryz.prog 146 = true := by kernel_rfl
theorem tzero_146 : tzero Go.Proofs.Tryz.prog 146 = some .nilFunc := by kernel_rfl
theorem tok_147 : tok Go.Proofs.Tryz.prog 147 = true := by kernel_rfl
theorem tsz_147 : tsz Go.Proofs.Tryz.prog 147 = 1 := by kernel_rfl
theorem tby_147 : tbytes Go.Proofs.Tryz.prog 147 = 8 := by kernel_rfl
theorem tagg_147 : tagg Go.Proofs.Tryz.prog 147 = false := by kernel_rfl
theorem tconc_147 : tconc Go.Proofs.Tryz.prog 147 = true := by kernel_rfl
theorem tzero_147 : tzero Go.Proofs.Tryz.prog 147 = some .nilFunc := by kernel_rfl
theorem tok_148 : tok Go.Proofs.Tryz.prog 148 = true := by kernel_rfl
theorem tsz_148 : tsz Go.Proofs.Tryz.prog 148 = 1 := by kernel_rfl
theorem tby_148 : tbytes Go.Proofs.Tryz.prog 148 = 8 := by kernel_rfl
theorem tagg_148 : tagg Go.Proofs.Tryz.prog 148 = false := by kernel_rfl
theorem tconc_148 : tconc Go.Proofs.Tryz.prog 148 = true := by kernel_rfl
theorem tzero_148 : tzero Go.Proofs.Tryz.prog 148 = some .nilFunc := by kernel_rfl
theorem tok_149 : tok Go.Proofs.Tryz.prog 149 = true := by kernel_rfl
theorem tsz_149 : tsz Go.Proofs.Tryz.prog 149 = 1 := by kernel_rfl
theorem tby_149 : tbytes Go.Proofs.Tryz.prog 149 = 8 := by kernel_rfl
theorem tagg_149 : tagg Go.Proofs.Tryz.prog 149 = false := by kernel_rfl
theorem tconc_149 : tconc Go.Proofs.Tryz.prog 149 = true := by kernel_rfl
theorem tzero_149 : tzero Go.Proofs.Tryz.prog 149 = some .nilFunc := by kernel_rfl
theorem tok_150 : tok Go.Proofs.Tryz.prog 150 = true := by kernel_rfl
theorem tsz_150 : tsz Go.Proofs.Tryz.prog 150 = 1 := by kernel_rfl
theorem tby_150 : tbytes Go.Proofs.Tryz.prog 150 = 8 := by kernel_rfl
theorem tagg_150 : tagg Go.Proofs.Tryz.prog 150 = false := by kernel_rfl
theorem tconc_150 : tconc Go.Proofs.Tryz.prog 150 = true := by kernel_rfl
theorem tzero_150 : tzero Go.Proofs.Tryz.prog 150 = some .nilFunc := by kernel_rfl
theorem tok_151 : tok Go.Proofs.Tryz.prog 151 = true := by kernel_rfl
theorem tsz_151 : tsz Go.Proofs.Tryz.prog 151 = 1 := by kernel_rfl
theorem tby_151 : tbytes Go.Proofs.Tryz.prog 151 = 8 := by kernel_rfl
theorem tagg_151 : tagg Go.Proofs.Tryz.prog 151 = false := by kernel_rfl
theorem tconc_151 : tconc Go.Proofs.Tryz.prog 151 = true := by kernel_rfl
theorem tzero_151 : tzero Go.Proofs.Tryz.prog 151 = some .nilFunc := by kernel_rfl
theorem tok_152 : tok Go.Proofs.Tryz.prog 152 = true := by kernel_rfl
theorem tsz_152 : tsz Go.Proofs.Tryz.prog 152 = 1 := by kernel_rfl
theorem tby_152 : tbytes Go.Proofs.Tryz.prog 152 = 8 := by kernel_rfl
theorem tagg_152 : tagg Go.Proofs.Tryz.prog 152 = false := by kernel_rfl
theorem tconc_152 : tconc Go.Proofs.Tryz.prog 152 = true := by kernel_rfl
theorem tzero_152 : tzero Go.Proofs.Tryz.prog 152 = some .nilFunc := by kernel_rfl
theorem tok_153 : tok Go.Proofs.Tryz.prog 153 = true := by kernel_rfl
theorem tsz_153 : tsz Go.Proofs.Tryz.prog 153 = 1 := by kernel_rfl
theorem tby_153 : tbytes Go.Proofs.Tryz.prog 153 = 8 := by kernel_rfl
theorem tagg_153 : tagg Go.Proofs.Tryz.prog 153 = false := by kernel_rfl
theorem tconc_153 : tconc Go.Proofs.Tryz.prog 153 = true := by kernel_rfl
theorem tzero_153 : tzero Go.Proofs.Tryz.prog 153 = some .nilFunc := by kernel_rfl
theorem tok_154 : tok Go.Proofs.Tryz.prog 154 = true := by kernel_rfl
theorem tsz_154 : tsz Go.Proofs.Tryz.prog 154 = 1 := by kernel_rfl
theorem tby_154 : tbytes Go.Proofs.Tryz.prog 154 = 8 := by kernel_rfl
theorem tagg_154 : tagg Go.Proofs.Tryz.prog 154 = false := by kernel_rfl
theorem tconc_154 : tconc Go.Proofs.Tryz.prog 154 = true := by kernel_rfl
theorem tzero_154 : tzero Go.Proofs.Tryz.prog 154 = some .nilFunc := by kernel_rfl
theorem tok_155 : tok Go.Proofs.Tryz.prog 155 = true := by kernel_rfl
theorem tsz_155 : tsz Go.Proofs.Tryz.prog 155 = 1 := by kernel_rfl
theorem tby_155 : tbytes Go.Proofs.Tryz.prog 155 = 8 := by kernel_rfl
theorem tagg_155 : tagg Go.Proofs.Tryz.prog 155 = false := by kernel_rfl
theorem tconc_155 : tconc Go.Proofs.Tryz.prog 155 = true := by kernel_rfl
theorem tzero_155 : tzero Go.Proofs.Tryz.prog 155 = some (.int .u64 0) := by kernel_rfl
theorem tkind_155 : tkind Go.Proofs.Tryz.prog 155 = some .u64 := by kernel_rfl
theorem tok_156 : tok Go.Proofs.Tryz.prog 156 = true := by kernel_rfl
theorem tsz_156 : tsz Go.Proofs.Tryz.prog 156 = 1 := by kernel_rfl
theorem tby_156 : tbytes Go.Proofs.Tryz.prog 156 = 8 := by kernel_rfl
theorem tagg_156 : tagg Go.Proofs.Tryz.prog 156 = false := by kernel_rfl
theorem tconc_156 : tconc Go.Proofs.Tryz.prog 156 = true := by kernel_rfl
theorem tzero_156 : tzero Go.Proofs.Tryz.prog 156 = some .nilFunc := by kernel_rfl
theorem tok_157 : tok Go.Proofs.Tryz.prog 157 = true := by kernel_rfl
theorem tsz_157 : tsz Go.Proofs.Tryz.prog 157 = 1 := by kernel_rfl
theorem tby_157 : tbytes Go.Proofs.Tryz.prog 157 = 8 := by kernel_rfl
theorem tagg_157 : tagg Go.Proofs.Tryz.prog 157 = false := by kernel_rfl
theorem tconc_157 : tconc Go.Proofs.Tryz.prog 157 = true := by kernel_rfl
theorem tzero_157 : tzero Go.Proofs.Tryz.prog 157 = some .nilFunc := by kernel_rfl
theorem tok_158 : tok Go.Proofs.Tryz.prog 158 = true := by kernel_rfl
theorem tsz_158 : tsz Go.Proofs.Tryz.prog 158 = 1 := by kernel_rfl
theorem tby_158 : tbytes Go.Proofs.Tryz.prog 158 = 8 := by kernel_rfl
theorem tagg_158 : tagg Go.Proofs.Tryz.prog 158 = false := by kernel_rfl
theorem tconc_158 : tconc Go.Proofs.Tryz.prog 158 = true := by kernel_rfl
theorem tzero_158 : tzero Go.Proofs.Tryz.prog 158 = some (.pointer none) := by kernel_rfl
theorem tptr_158 : tptr Go.Proofs.Tryz.prog 158 = true := by kernel_rfl
theorem meth_158_continuo_continuoref27_call : methB Go.Proofs.Tryz.prog 158 "continuo/continuoref27.call" = some 141 := by kernel_rfl
theorem meth_158_continuo_continuoref27_expr : methB Go.Proofs.Tryz.prog 158 "continuo/continuoref27.expr" = some 142 := by kernel_rfl
theorem meth_158_continuo_continuoref27_exprs : methB Go.Proofs.Tryz.prog 158 "continuo/continuoref27.exprs" = some 188 := by kernel_rfl
theorem meth_158_continuo_continuoref27_factor : methB Go.Proofs.Tryz.prog 158 "continuo/continuoref27.factor" = some 210 := by kernel_rfl
theorem meth_158_continuo_continuoref27_fail : methB Go.Proofs.Tryz.prog 158 "continuo/continuoref27.fail" = some 143 := by kernel_rfl
theorem meth_158_continuo_continuoref27_here : methB Go.Proofs.Tryz.prog 158 "continuo/continuoref27.here" = some 139 := by kernel_rfl
theorem meth_158_continuo_continuoref27_minus : methB Go.Proofs.Tryz.prog 158 "continuo/continuoref27.minus" = some 187 := by kernel_rfl
theorem meth_158_continuo_continuoref27_must : methB Go.Proofs.Tryz.prog 158 "continuo/continuoref27.must" = some 137 := by kernel_rfl
theorem meth_158_continuo_continuoref27_name : methB Go.Proofs.Tryz.prog 158 "continuo/continuoref27.name" = some 138 := by kernel_rfl
theorem meth_158_continuo_continuoref27_number : methB Go.Proofs.Tryz.prog 158 "continuo/continuoref27.number" = some 140 := by kernel_rfl
theorem meth_158_continuo_continuoref27_program : methB Go.Proofs.Tryz.prog 158 "continuo/continuoref27.program" = some 87 := by kernel_rfl
theorem meth_158_continuo_continuoref27_term : methB Go.Proofs.Tryz.prog 158 "continuo/continuoref27.term" = some 189 := by kernel_rfl
theorem tok_159 : tok Go.Proofs.Tryz.prog 159 = true := by kernel_rfl
theorem tsz_159 : tsz Go.Proofs.Tryz.prog 159 = 1 := by kernel_rfl
theorem tby_159 : tbytes Go.Proofs.Tryz.prog 159 = 24 := by kernel_rfl
theorem tagg_159 : tagg Go.Proofs.Tryz.prog 159 = false := by kernel_rfl
theorem tconc_159 : tconc Go.Proofs.Tryz.prog 159 = true := by kernel_rfl
theorem tzero_159 : tzero Go.Proofs.Tryz.prog 159 = some (.slice none 0 0) := by kernel_rfl
theorem telem_159 : telem Go.Proofs.Tryz.prog 159 = some 224 := by kernel_rfl
theorem tok_160 : tok Go.Proofs.Tryz.prog 160 = true := by kernel_rfl
theorem tsz_160 : tsz Go.Proofs.Tryz.prog 160 = 1 := by kernel_rfl
theorem tby_160 : tbytes Go.Proofs.Tryz.prog 160 = 8 := by kernel_rfl
theorem tagg_160 : tagg Go.Proofs.Tryz.prog 160 = false := by kernel_rfl
theorem tconc_160 : tconc Go.Proofs.Tryz.prog 160 = true := by kernel_rfl
theorem tzero_160 : tzero Go.Proofs.Tryz.prog 160 = some .nilFunc := by kernel_rfl
theorem tok_161 : tok Go.Proofs.Tryz.prog 161 = true := by kernel_rfl
theorem tsz_161 : tsz Go.Proofs.Tryz.prog 161 = 3 := by kernel_rfl
theorem tby_161 : tbytes Go.Proofs.Tryz.prog 161 = 40 := by kernel_rfl
theorem tagg_161 : tagg Go.Proofs.Tryz.prog 161 = true := by kernel_rfl
theorem tconc_161 : tconc Go.Proofs.Tryz.prog 161 = true := by kernel_rfl
theorem tzero_161 : tzero Go.Proofs.Tryz.prog 161 = some (.agg #[.slice none 0 0, .int .i64 0, .int .i64 0]) := by kernel_rfl
theorem tfld_161_0 : tfld Go.Proofs.Tryz.prog 161 0 = some (159, 0) := by kernel_rfl
theorem fldA_161_0 : fldA Go.Proofs.Tryz.prog 161 0 = some 0 := by kernel_rfl
theorem tfld_161_1 : tfld Go.Proofs.Tryz.prog 161 1 = some (3, 1) := by kernel_rfl
theorem fldA_161_1 : fldA Go.Proofs.Tryz.prog 161 1 = some 1 := by kernel_rfl
theorem tfld_161_2 : tfld Go.Proofs.Tryz.prog 161 2 = some (3, 2) := by kernel_rfl
theorem fldA_161_2 : fldA Go.Proofs.Tryz.prog 161 2 = some 2 := by kernel_rfl
theorem tok_162 : tok Go.Proofs.Tryz.prog 162 = true := by kernel_rfl
theorem tsz_162 : tsz Go.Proofs.Tryz.prog 162 = 3 := by kernel_rfl
theorem tby_162 : tbytes Go.Proofs.Tryz.prog 162 = 40 := by kernel_rfl
theorem tagg_162 : tagg Go.Proofs.Tryz.prog 162 = true := by kernel_rfl
theorem tconc_162 : tconc Go.Proofs.Tryz.prog 162 = true := by kernel_rfl
theorem tzero_162 : tzero Go.Proofs.Tryz.prog 162 = some (.agg #[.slice none 0 0, .int .i64 0, .int .i64 0]) := by kernel_rfl
theorem tfld_162_0 : tfld Go.Proofs.Tryz.prog 162 0 = some (159, 0) := by kernel_rfl
theorem fldA_162_0 : fldA Go.Proofs.Tryz.prog 162 0 = some 0 := by kernel_rfl
theorem tfld_162_1 : tfld Go.Proofs.Tryz.prog 162 1 = some (3, 1) := by kernel_rfl
theorem fldA_162_1 : fldA Go.Proofs.Tryz.prog 162 1 = some 1 := by kernel_rfl
theorem tfld_162_2 : tfld Go.Proofs.Tryz.prog 162 2 = some (3, 2) := by kernel_rfl
theorem fldA_162_2 : fldA Go.Proofs.Tryz.prog 162 2 = some 2 := by kernel_rfl
theorem tok_163 : tok Go.Proofs.Tryz.prog 163 = true := by kernel_rfl
theorem tsz_163 : tsz Go.Proofs.Tryz.prog 163 = 1 := by kernel_rfl
theorem tby_163 : tbytes Go.Proofs.Tryz.prog 163 = 24 := by kernel_rfl
theorem tagg_163 : tagg Go.Proofs.Tryz.prog 163 = false := by kernel_rfl
theorem tconc_163 : tconc Go.Proofs.Tryz.prog 163 = true := by kernel_rfl
theorem tzero_163 : tzero Go.Proofs.Tryz.prog 163 = some (.slice none 0 0) := by kernel_rfl
theorem telem_163 : telem Go.Proofs.Tryz.prog 163 = some 173 := by kernel_rfl
theorem tok_164 : tok Go.Proofs.Tryz.prog 164 = true := by kernel_rfl
theorem tsz_164 : tsz Go.Proofs.Tryz.prog 164 = 1 := by kernel_rfl
theorem tby_164 : tbytes Go.Proofs.Tryz.prog 164 = 24 := by kernel_rfl
theorem tagg_164 : tagg Go.Proofs.Tryz.prog 164 = false := by kernel_rfl
theorem tconc_164 : tconc Go.Proofs.Tryz.prog 164 = true := by kernel_rfl
theorem tzero_164 : tzero Go.Proofs.Tryz.prog 164 = some (.slice none 0 0) := by kernel_rfl
theorem telem_164 : telem Go.Proofs.Tryz.prog 164 = some 177 := by kernel_rfl
theorem tok_165 : tok Go.Proofs.Tryz.prog 165 = true := by kernel_rfl
theorem tsz_165 : tsz Go.Proofs.Tryz.prog 165 = 3 := by kernel_rfl
theorem tby_165 : tbytes Go.Proofs.Tryz.prog 165 = 64 := by kernel_rfl
theorem tagg_165 : tagg Go.Proofs.Tryz.prog 165 = true := by kernel_rfl
theorem tconc_165 : tconc Go.Proofs.Tryz.prog 165 = true := by kernel_rfl
theorem tzero_165 : tzero Go.Proofs.Tryz.prog 165 = some (.agg #[.string { data := #[] }, .slice none 0 0, .slice none 0 0]) := by kernel_rfl
theorem tfld_165_0 : tfld Go.Proofs.Tryz.prog 165 0 = some (9, 0) := by kernel_rfl
theorem fldA_165_0 : fldA Go.Proofs.Tryz.prog 165 0 = some 0 := by kernel_rfl
theorem tfld_165_1 : tfld Go.Proofs.Tryz.prog 165 1 = some (163, 1) := by kernel_rfl
theorem fldA_165_1 : fldA Go.Proofs.Tryz.prog 165 1 = some 1 := by kernel_rfl
theorem tfld_165_2 : tfld Go.Proofs.Tryz.prog 165 2 = some (164, 2) := by kernel_rfl
theorem fldA_165_2 : fldA Go.Proofs.Tryz.prog 165 2 = some 2 := by kernel_rfl
theorem tok_166 : tok Go.Proofs.Tryz.prog 166 = true := by kernel_rfl
theorem tsz_166 : tsz Go.Proofs.Tryz.prog 166 = 3 := by kernel_rfl
theorem tby_166 : tbytes Go.Proofs.Tryz.prog 166 = 64 := by kernel_rfl
theorem tagg_166 : tagg Go.Proofs.Tryz.prog 166 = true := by kernel_rfl
theorem tconc_166 : tconc Go.Proofs.Tryz.prog 166 = true := by kernel_rfl
theorem tzero_166 : tzero Go.Proofs.Tryz.prog 166 = some (.agg #[.string { data := #[] }, .slice none 0 0, .slice none 0 0]) := by kernel_rfl
theorem tfld_166_0 : tfld Go.Proofs.Tryz.prog 166 0 = some (9, 0) := by kernel_rfl
theorem fldA_166_0 : fldA Go.Proofs.Tryz.prog 166 0 = some 0 := by kernel_rfl
theorem tfld_166_1 : tfld Go.Proofs.Tryz.prog 166 1 = some (163, 1) := by kernel_rfl
theorem fldA_166_1 : fldA Go.Proofs.Tryz.prog 166 1 = some 1 := by kernel_rfl
theorem tfld_166_2 : tfld Go.Proofs.Tryz.prog 166 2 = some (164, 2) := by kernel_rfl
theorem fldA_166_2 : fldA Go.Proofs.Tryz.prog 166 2 = some 2 := by kernel_rfl
theorem tok_167 : tok Go.Proofs.Tryz.prog 167 = true := by kernel_rfl
theorem tsz_167 : tsz Go.Proofs.Tryz.prog 167 = 1 := by kernel_rfl
theorem tby_167 : tbytes Go.Proofs.Tryz.prog 167 = 8 := by kernel_rfl
theorem tagg_167 : tagg Go.Proofs.Tryz.prog 167 = false := by kernel_rfl
theorem tconc_167 : tconc Go.Proofs.Tryz.prog 167 = true := by kernel_rfl
theorem tzero_167 : tzero Go.Proofs.Tryz.prog 167 = some .nilFunc := by kernel_rfl
theorem tok_168 : tok Go.Proofs.Tryz.prog 168 = true := by kernel_rfl
theorem tsz_168 : tsz Go.Proofs.Tryz.prog 168 = 1 := by kernel_rfl
theorem tby_168 : tbytes Go.Proofs.Tryz.prog 168 = 8 := by kernel_rfl
theorem tagg_168 : tagg Go.Proofs.Tryz.prog 168 = false := by kernel_rfl
theorem tconc_168 : tconc Go.Proofs.Tryz.prog 168 = true := by kernel_rfl
theorem tzero_168 : tzero Go.Proofs.Tryz.prog 168 = some (.pointer none) := by kernel_rfl
theorem tptr_168 : tptr Go.Proofs.Tryz.prog 168 = true := by kernel_rfl
theorem meth_168_continuo_continuoref27_channels : methB Go.Proofs.Tryz.prog 168 "continuo/continuoref27.channels" = some 91 := by kernel_rfl
theorem meth_168_continuo_continuoref27_each : methB Go.Proofs.Tryz.prog 168 "continuo/continuoref27.each" = some 145 := by kernel_rfl
theorem meth_168_continuo_continuoref27_fail : methB Go.Proofs.Tryz.prog 168 "continuo/continuoref27.fail" = some 89 := by kernel_rfl
theorem meth_168_continuo_continuoref27_inputs : methB Go.Proofs.Tryz.prog 168 "continuo/continuoref27.inputs" = some 92 := by kernel_rfl
theorem meth_168_continuo_continuoref27_made : methB Go.Proofs.Tryz.prog 168 "continuo/continuoref27.made" = some 93 := by kernel_rfl
theorem meth_168_continuo_continuoref27_there : methB Go.Proofs.Tryz.prog 168 "continuo/continuoref27.there" = some 88 := by kernel_rfl
theorem tok_169 : tok Go.Proofs.Tryz.prog 169 = true := by kernel_rfl
theorem tsz_169 : tsz Go.Proofs.Tryz.prog 169 = 1 := by kernel_rfl
theorem tby_169 : tbytes Go.Proofs.Tryz.prog 169 = 24 := by kernel_rfl
theorem tagg_169 : tagg Go.Proofs.Tryz.prog 169 = false := by kernel_rfl
theorem tconc_169 : tconc Go.Proofs.Tryz.prog 169 = true := by kernel_rfl
theorem tzero_169 : tzero Go.Proofs.Tryz.prog 169 = some (.slice none 0 0) := by kernel_rfl
theorem telem_169 : telem Go.Proofs.Tryz.prog 169 = some 180 := by kernel_rfl
theorem tok_170 : tok Go.Proofs.Tryz.prog 170 = true := by kernel_rfl
theorem tsz_170 : tsz Go.Proofs.Tryz.prog 170 = 7 := by kernel_rfl
theorem tby_170 : tbytes Go.Proofs.Tryz.prog 170 = 128 := by kernel_rfl
theorem tagg_170 : tagg Go.Proofs.Tryz.prog 170 = true := by kernel_rfl
theorem tconc_170 : tconc Go.Proofs.Tryz.prog 170 = true := by kernel_rfl
theorem tzero_170 : tzero Go.Proofs.Tryz.prog 170 = some (.agg #[.string { data := #[] }, .slice none 0 0, .slice none 0 0, .slice none 0 0, .slice none 0 0, .int .i64 0, .int .i64 0]) := by kernel_rfl
theorem tfld_170_0 : tfld Go.Proofs.Tryz.prog 170 0 = some (53, 0) := by kernel_rfl
theorem fldA_170_0 : fldA Go.Proofs.Tryz.prog 170 0 = some 0 := by kernel_rfl
theorem tfld_170_1 : tfld Go.Proofs.Tryz.prog 170 1 = some (169, 4) := by kernel_rfl
theorem fldA_170_1 : fldA Go.Proofs.Tryz.prog 170 1 = some 4 := by kernel_rfl
theorem tfld_170_2 : tfld Go.Proofs.Tryz.prog 170 2 = some (3, 5) := by kernel_rfl
theorem fldA_170_2 : fldA Go.Proofs.Tryz.prog 170 2 = some 5 := by kernel_rfl
theorem tfld_170_3 : tfld Go.Proofs.Tryz.prog 170 3 = some (31, 6) := by kernel_rfl
theorem fldA_170_3 : fldA Go.Proofs.Tryz.prog 170 3 = some 6 := by kernel_rfl
theorem tok_171 : tok Go.Proofs.Tryz.prog 171 = true := by kernel_rfl
theorem tsz_171 : tsz Go.Proofs.Tryz.prog 171 = 7 := by kernel_rfl
theorem tby_171 : tbytes Go.Proofs.Tryz.prog 171 = 128 := by kernel_rfl
theorem tagg_171 : tagg Go.Proofs.Tryz.prog 171 = true := by kernel_rfl
theorem tconc_171 : tconc Go.Proofs.Tryz.prog 171 = true := by kernel_rfl
theorem tzero_171 : tzero Go.Proofs.Tryz.prog 171 = some (.agg #[.string { data := #[] }, .slice none 0 0, .slice none 0 0, .slice none 0 0, .slice none 0 0, .int .i64 0, .int .i64 0]) := by kernel_rfl
theorem tfld_171_0 : tfld Go.Proofs.Tryz.prog 171 0 = some (53, 0) := by kernel_rfl
theorem fldA_171_0 : fldA Go.Proofs.Tryz.prog 171 0 = some 0 := by kernel_rfl
theorem tfld_171_1 : tfld Go.Proofs.Tryz.prog 171 1 = some (169, 4) := by kernel_rfl
theorem fldA_171_1 : fldA Go.Proofs.Tryz.prog 171 1 = some 4 := by kernel_rfl
theorem tfld_171_2 : tfld Go.Proofs.Tryz.prog 171 2 = some (3, 5) := by kernel_rfl
theorem fldA_171_2 : fldA Go.Proofs.Tryz.prog 171 2 = some 5 := by kernel_rfl
theorem tfld_171_3 : tfld Go.Proofs.Tryz.prog 171 3 = some (31, 6) := by kernel_rfl
theorem fldA_171_3 : fldA Go.Proofs.Tryz.prog 171 3 = some 6 := by kernel_rfl
theorem tok_172 : tok Go.Proofs.Tryz.prog 172 = true := by kernel_rfl
theorem tsz_172 : tsz Go.Proofs.Tryz.prog 172 = 7 := by kernel_rfl
theorem tby_172 : tbytes Go.Proofs.Tryz.prog 172 = 96 := by kernel_rfl
theorem tagg_172 : tagg Go.Proofs.Tryz.prog 172 = true := by kernel_rfl
theorem tconc_172 : tconc Go.Proofs.Tryz.prog 172 = true := by kernel_rfl
theorem tzero_172 : tzero Go.Proofs.Tryz.prog 172 = some (.agg #[.int .i64 0, .int .i64 0, .int .i64 0, .string { data := #[] }, .int .i64 0, .slice none 0 0, .slice none 0 0]) := by kernel_rfl
theorem tfld_172_0 : tfld Go.Proofs.Tryz.prog 172 0 = some (3, 0) := by kernel_rfl
theorem fldA_172_0 : fldA Go.Proofs.Tryz.prog 172 0 = some 0 := by kernel_rfl
theorem tfld_172_1 : tfld Go.Proofs.Tryz.prog 172 1 = some (3, 1) := by kernel_rfl
theorem fldA_172_1 : fldA Go.Proofs.Tryz.prog 172 1 = some 1 := by kernel_rfl
theorem tfld_172_2 : tfld Go.Proofs.Tryz.prog 172 2 = some (3, 2) := by kernel_rfl
theorem fldA_172_2 : fldA Go.Proofs.Tryz.prog 172 2 = some 2 := by kernel_rfl
theorem tfld_172_3 : tfld Go.Proofs.Tryz.prog 172 3 = some (9, 3) := by kernel_rfl
theorem fldA_172_3 : fldA Go.Proofs.Tryz.prog 172 3 = some 3 := by kernel_rfl
theorem tfld_172_4 : tfld Go.Proofs.Tryz.prog 172 4 = some (3, 4) := by kernel_rfl
theorem fldA_172_4 : fldA Go.Proofs.Tryz.prog 172 4 = some 4 := by kernel_rfl
theorem tfld_172_5 : tfld Go.Proofs.Tryz.prog 172 5 = some (163, 5) := by kernel_rfl
theorem fldA_172_5 : fldA Go.Proofs.Tryz.prog 172 5 = some 5 := by kernel_rfl
theorem tfld_172_6 : tfld Go.Proofs.Tryz.prog 172 6 = some (50, 6) := by kernel_rfl
theorem fldA_172_6 : fldA Go.Proofs.Tryz.prog 172 6 = some 6 := by kernel_rfl
theorem tok_173 : tok Go.Proofs.Tryz.prog 173 = true := by kernel_rfl
theorem tsz_173 : tsz Go.Proofs.Tryz.prog 173 = 7 := by kernel_rfl
theorem tby_173 : tbytes Go.Proofs.Tryz.prog 173 = 96 := by kernel_rfl
theorem tagg_173 : tagg Go.Proofs.Tryz.prog 173 = true := by kernel_rfl
theorem tconc_173 : tconc Go.Proofs.Tryz.prog 173 = true := by kernel_rfl
theorem tzero_173 : tzero Go.Proofs.Tryz.prog 173 = some (.agg #[.int .i64 0, .int .i64 0, .int .i64 0, .string { data := #[] }, .int .i64 0, .slice none 0 0, .slice none 0 0]) := by kernel_rfl
theorem tfld_173_0 : tfld Go.Proofs.Tryz.prog 173 0 = some (3, 0) := by kernel_rfl
theorem fldA_173_0 : fldA Go.Proofs.Tryz.prog 173 0 = some 0 := by kernel_rfl
theorem tfld_173_1 : tfld Go.Proofs.Tryz.prog 173 1 = some (3, 1) := by kernel_rfl
theorem fldA_173_1 : fldA Go.Proofs.Tryz.prog 173 1 = some 1 := by kernel_rfl
theorem tfld_173_2 : tfld Go.Proofs.Tryz.prog 173 2 = some (3, 2) := by kernel_rfl
theorem fldA_173_2 : fldA Go.Proofs.Tryz.prog 173 2 = some 2 := by kernel_rfl
theorem tfld_173_3 : tfld Go.Proofs.Tryz.prog 173 3 = some (9, 3) := by kernel_rfl
theorem fldA_173_3 : fldA Go.Proofs.Tryz.prog 173 3 = some 3 := by kernel_rfl
theorem tfld_173_4 : tfld Go.Proofs.Tryz.prog 173 4 = some (3, 4) := by kernel_rfl
theorem fldA_173_4 : fldA Go.Proofs.Tryz.prog 173 4 = some 4 := by kernel_rfl
theorem tfld_173_5 : tfld Go.Proofs.Tryz.prog 173 5 = some (163, 5) := by kernel_rfl
theorem fldA_173_5 : fldA Go.Proofs.Tryz.prog 173 5 = some 5 := by kernel_rfl
theorem tfld_173_6 : tfld Go.Proofs.Tryz.prog 173 6 = some (50, 6) := by kernel_rfl
theorem fldA_173_6 : fldA Go.Proofs.Tryz.prog 173 6 = some 6 := by kernel_rfl
theorem tok_174 : tok Go.Proofs.Tryz.prog 174 = true := by kernel_rfl
theorem tsz_174 : tsz Go.Proofs.Tryz.prog 174 = 1 := by kernel_rfl
theorem tby_174 : tbytes Go.Proofs.Tryz.prog 174 = 8 := by kernel_rfl
theorem tagg_174 : tagg Go.Proofs.Tryz.prog 174 = false := by kernel_rfl
theorem tconc_174 : tconc Go.Proofs.Tryz.prog 174 = true := by kernel_rfl
theorem tzero_174 : tzero Go.Proofs.Tryz.prog 174 = some .nilFunc := by kernel_rfl
theorem tok_175 : tok Go.Proofs.Tryz.prog 175 = true := by kernel_rfl
theorem tsz_175 : tsz Go.Proofs.Tryz.prog 175 = 1 := by kernel_rfl
theorem tby_175 : tbytes Go.Proofs.Tryz.prog 175 = 8 := by kernel_rfl
theorem tagg_175 : tagg Go.Proofs.Tryz.prog 175 = false := by kernel_rfl
theorem tconc_175 : tconc Go.Proofs.Tryz.prog 175 = true := by kernel_rfl
theorem tzero_175 : tzero Go.Proofs.Tryz.prog 175 = some .nilFunc := by kernel_rfl
theorem tok_176 : tok Go.Proofs.Tryz.prog 176 = true := by kernel_rfl
theorem tsz_176 : tsz Go.Proofs.Tryz.prog 176 = 9 := by kernel_rfl
theorem tby_176 : tbytes Go.Proofs.Tryz.prog 176 = 120 := by kernel_rfl
theorem tagg_176 : tagg Go.Proofs.Tryz.prog 176 = true := by kernel_rfl
theorem tconc_176 : tconc Go.Proofs.Tryz.prog 176 = true := by kernel_rfl
theorem tzero_176 : tzero Go.Proofs.Tryz.prog 176 = some (.agg #[.string { data := #[] }, .int .i64 0, .int .i64 0, .int .i64 0, .int .i64 0, .string { data := #[] }, .int .i64 0, .slice none 0 0, .slice none 0 0]) := by kernel_rfl
theorem tfld_176_0 : tfld Go.Proofs.Tryz.prog 176 0 = some (9, 0) := by kernel_rfl
theorem fldA_176_0 : fldA Go.Proofs.Tryz.prog 176 0 = some 0 := by kernel_rfl
theorem tfld_176_1 : tfld Go.Proofs.Tryz.prog 176 1 = some (3, 1) := by kernel_rfl
theorem fldA_176_1 : fldA Go.Proofs.Tryz.prog 176 1 = some 1 := by kernel_rfl
theorem tfld_176_2 : tfld Go.Proofs.Tryz.prog 176 2 = some (173, 2) := by kernel_rfl
theorem fldA_176_2 : fldA Go.Proofs.Tryz.prog 176 2 = some 2 := by kernel_rfl
theorem tok_177 : tok Go.Proofs.Tryz.prog 177 = true := by kernel_rfl
theorem tsz_177 : tsz Go.Proofs.Tryz.prog 177 = 9 := by kernel_rfl
theorem tby_177 : tbytes Go.Proofs.Tryz.prog 177 = 120 := by kernel_rfl
theorem tagg_177 : tagg Go.Proofs.Tryz.prog 177 = true := by kernel_rfl
theorem tconc_177 : tconc Go.Proofs.Tryz.prog 177 = true := by kernel_rfl
theorem tzero_177 : tzero Go.Proofs.Tryz.prog 177 = some (.agg #[.string { data := #[] }, .int .i64 0, .int .i64 0, .int .i64 0, .int .i64 0, .string { data := #[] }, .int .i64 0, .slice none 0 0, .slice none 0 0]) := by kernel_rfl
theorem tfld_177_0 : tfld Go.Proofs.Tryz.prog 177 0 = some (9, 0) := by kernel_rfl
theorem fldA_177_0 : fldA Go.Proofs.Tryz.prog 177 0 = some 0 := by kernel_rfl
theorem tfld_177_1 : tfld Go.Proofs.Tryz.prog 177 1 = some (3, 1) := by kernel_rfl
theorem fldA_177_1 : fldA Go.Proofs.Tryz.prog 177 1 = some 1 := by kernel_rfl
theorem tfld_177_2 : tfld Go.Proofs.Tryz.prog 177 2 = some (173, 2) := by kernel_rfl
theorem fldA_177_2 : fldA Go.Proofs.Tryz.prog 177 2 = some 2 := by kernel_rfl
theorem tok_178 : tok Go.Proofs.Tryz.prog 178 = true := by kernel_rfl
theorem tsz_178 : tsz Go.Proofs.Tryz.prog 178 = 1 := by kernel_rfl
theorem tby_178 : tbytes Go.Proofs.Tryz.prog 178 = 8 := by kernel_rfl
theorem tagg_178 : tagg Go.Proofs.Tryz.prog 178 = false := by kernel_rfl
theorem tconc_178 : tconc Go.Proofs.Tryz.prog 178 = true := by kernel_rfl
theorem tzero_178 : tzero Go.Proofs.Tryz.prog 178 = some .nilFunc := by kernel_rfl
theorem tok_179 : tok Go.Proofs.Tryz.prog 179 = true := by kernel_rfl
theorem tsz_179 : tsz Go.Proofs.Tryz.prog 179 = 2 := by kernel_rfl
theorem tby_179 : tbytes Go.Proofs.Tryz.prog 179 = 40 := by kernel_rfl
theorem tagg_179 : tagg Go.Proofs.Tryz.prog 179 = true := by kernel_rfl
theorem tconc_179 : tconc Go.Proofs.Tryz.prog 179 = true := by kernel_rfl
theorem tzero_179 : tzero Go.Proofs.Tryz.prog 179 = some (.agg #[.string { data := #[] }, .slice none 0 0]) := by kernel_rfl
theorem tfld_179_0 : tfld Go.Proofs.Tryz.prog 179 0 = some (9, 0) := by kernel_rfl
theorem fldA_179_0 : fldA Go.Proofs.Tryz.prog 179 0 = some 0 := by kernel_rfl
theorem tfld_179_1 : tfld Go.Proofs.Tryz.prog 179 1 = some (50, 1) := by kernel_rfl
theorem fldA_179_1 : fldA Go.Proofs.Tryz.prog 179 1 = some 1 := by kernel_rfl
theorem tok_180 : tok Go.Proofs.Tryz.prog 180 = true := by kernel_rfl
theorem tsz_180 : tsz Go.Proofs.Tryz.prog 180 = 2 := by kernel_rfl
theorem tby_180 : tbytes Go.Proofs.Tryz.prog 180 = 40 := by kernel_rfl
theorem tagg_180 : tagg Go.Proofs.Tryz.prog 180 = true := by kernel_rfl
theorem tconc_180 : tconc Go.Proofs.Tryz.prog 180 = true := by kernel_rfl
theorem tzero_180 : tzero Go.Proofs.Tryz.prog 180 = some (.agg #[.string { data := #[] }, .slice none 0 0]) := by kernel_rfl
theorem tfld_180_0 : tfld Go.Proofs.Tryz.prog 180 0 = some (9, 0) := by kernel_rfl
theorem fldA_180_0 : fldA Go.Proofs.Tryz.prog 180 0 = some 0 := by kernel_rfl
theorem tfld_180_1 : tfld Go.Proofs.Tryz.prog 180 1 = some (50, 1) := by kernel_rfl
theorem fldA_180_1 : fldA Go.Proofs.Tryz.prog 180 1 = some 1 := by kernel_rfl
theorem tok_181 : tok Go.Proofs.Tryz.prog 181 = true := by kernel_rfl
theorem tsz_181 : tsz Go.Proofs.Tryz.prog 181 = 1 := by kernel_rfl
theorem tby_181 : tbytes Go.Proofs.Tryz.prog 181 = 8 := by kernel_rfl
theorem tagg_181 : tagg Go.Proofs.Tryz.prog 181 = false := by kernel_rfl
theorem tconc_181 : tconc Go.Proofs.Tryz.prog 181 = true := by kernel_rfl
theorem tzero_181 : tzero Go.Proofs.Tryz.prog 181 = some .nilFunc := by kernel_rfl
theorem tok_182 : tok Go.Proofs.Tryz.prog 182 = true := by kernel_rfl
theorem tsz_182 : tsz Go.Proofs.Tryz.prog 182 = 1 := by kernel_rfl
theorem tby_182 : tbytes Go.Proofs.Tryz.prog 182 = 8 := by kernel_rfl
theorem tagg_182 : tagg Go.Proofs.Tryz.prog 182 = false := by kernel_rfl
theorem tconc_182 : tconc Go.Proofs.Tryz.prog 182 = true := by kernel_rfl
theorem tzero_182 : tzero Go.Proofs.Tryz.prog 182 = some .nilFunc := by kernel_rfl
theorem tok_183 : tok Go.Proofs.Tryz.prog 183 = true := by kernel_rfl
theorem tsz_183 : tsz Go.Proofs.Tryz.prog 183 = 1 := by kernel_rfl
theorem tby_183 : tbytes Go.Proofs.Tryz.prog 183 = 8 := by kernel_rfl
theorem tagg_183 : tagg Go.Proofs.Tryz.prog 183 = false := by kernel_rfl
theorem tconc_183 : tconc Go.Proofs.Tryz.prog 183 = true := by kernel_rfl
theorem tzero_183 : tzero Go.Proofs.Tryz.prog 183 = some .nilFunc := by kernel_rfl
theorem tok_184 : tok Go.Proofs.Tryz.prog 184 = true := by kernel_rfl
theorem tsz_184 : tsz Go.Proofs.Tryz.prog 184 = 1 := by kernel_rfl
theorem tby_184 : tbytes Go.Proofs.Tryz.prog 184 = 8 := by kernel_rfl
theorem tagg_184 : tagg Go.Proofs.Tryz.prog 184 = false := by kernel_rfl
theorem tconc_184 : tconc Go.Proofs.Tryz.prog 184 = true := by kernel_rfl
theorem tzero_184 : tzero Go.Proofs.Tryz.prog 184 = some .nilFunc := by kernel_rfl
theorem tok_185 : tok Go.Proofs.Tryz.prog 185 = true := by kernel_rfl
theorem tsz_185 : tsz Go.Proofs.Tryz.prog 185 = 1 := by kernel_rfl
theorem tby_185 : tbytes Go.Proofs.Tryz.prog 185 = 8 := by kernel_rfl
theorem tagg_185 : tagg Go.Proofs.Tryz.prog 185 = false := by kernel_rfl
theorem tconc_185 : tconc Go.Proofs.Tryz.prog 185 = true := by kernel_rfl
theorem tzero_185 : tzero Go.Proofs.Tryz.prog 185 = some (.pointer none) := by kernel_rfl
theorem tptr_185 : tptr Go.Proofs.Tryz.prog 185 = true := by kernel_rfl
theorem meth_185_Copy : methB Go.Proofs.Tryz.prog 185 "Copy" = some 97 := by kernel_rfl
theorem meth_185_Frame : methB Go.Proofs.Tryz.prog 185 "Frame" = some 269 := by kernel_rfl
theorem meth_185_Next : methB Go.Proofs.Tryz.prog 185 "Next" = some 107 := by kernel_rfl
theorem meth_185_continuo_unit_envelope : methB Go.Proofs.Tryz.prog 185 "continuo/unit.envelope" = some 223 := by kernel_rfl
theorem meth_185_continuo_unit_inputs : methB Go.Proofs.Tryz.prog 185 "continuo/unit.inputs" = some 153 := by kernel_rfl
theorem meth_185_continuo_unit_next : methB Go.Proofs.Tryz.prog 185 "continuo/unit.next" = some 154 := by kernel_rfl
theorem tok_186 : tok Go.Proofs.Tryz.prog 186 = true := by kernel_rfl
theorem tsz_186 : tsz Go.Proofs.Tryz.prog 186 = 1 := by kernel_rfl
theorem tby_186 : tbytes Go.Proofs.Tryz.prog 186 = 8 := by kernel_rfl
theorem tagg_186 : tagg Go.Proofs.Tryz.prog 186 = false := by kernel_rfl
theorem tconc_186 : tconc Go.Proofs.Tryz.prog 186 = true := by kernel_rfl
theorem tzero_186 : tzero Go.Proofs.Tryz.prog 186 = some .nilFunc := by kernel_rfl
theorem tok_187 : tok Go.Proofs.Tryz.prog 187 = true := by kernel_rfl
theorem tsz_187 : tsz Go.Proofs.Tryz.prog 187 = 1 := by kernel_rfl
theorem tby_187 : tbytes Go.Proofs.Tryz.prog 187 = 8 := by kernel_rfl
theorem tagg_187 : tagg Go.Proofs.Tryz.prog 187 = false := by kernel_rfl
theorem tconc_187 : tconc Go.Proofs.Tryz.prog 187 = true := by kernel_rfl
theorem tzero_187 : tzero Go.Proofs.Tryz.prog 187 = some .nilFunc := by kernel_rfl
theorem tok_188 : tok Go.Proofs.Tryz.prog 188 = true := by kernel_rfl
theorem tsz_188 : tsz Go.Proofs.Tryz.prog 188 = 1 := by kernel_rfl
theorem tby_188 : tbytes Go.Proofs.Tryz.prog 188 = 8 := by kernel_rfl
theorem tagg_188 : tagg Go.Proofs.Tryz.prog 188 = false := by kernel_rfl
theorem tconc_188 : tconc Go.Proofs.Tryz.prog 188 = true := by kernel_rfl
theorem tzero_188 : tzero Go.Proofs.Tryz.prog 188 = some (.pointer none) := by kernel_rfl
theorem tptr_188 : tptr Go.Proofs.Tryz.prog 188 = true := by kernel_rfl
theorem tok_189 : tok Go.Proofs.Tryz.prog 189 = true := by kernel_rfl
theorem tsz_189 : tsz Go.Proofs.Tryz.prog 189 = 1 := by kernel_rfl
theorem tby_189 : tbytes Go.Proofs.Tryz.prog 189 = 8 := by kernel_rfl
theorem tagg_189 : tagg Go.Proofs.Tryz.prog 189 = false := by kernel_rfl
theorem tconc_189 : tconc Go.Proofs.Tryz.prog 189 = true := by kernel_rfl
theorem tzero_189 : tzero Go.Proofs.Tryz.prog 189 = some .nilFunc := by kernel_rfl
theorem tok_190 : tok Go.Proofs.Tryz.prog 190 = true := by kernel_rfl
theorem tsz_190 : tsz Go.Proofs.Tryz.prog 190 = 1 := by kernel_rfl
theorem tby_190 : tbytes Go.Proofs.Tryz.prog 190 = 8 := by kernel_rfl
theorem tagg_190 : tagg Go.Proofs.Tryz.prog 190 = false := by kernel_rfl
theorem tconc_190 : tconc Go.Proofs.Tryz.prog 190 = true := by kernel_rfl
theorem tzero_190 : tzero Go.Proofs.Tryz.prog 190 = some .nilFunc := by kernel_rfl
theorem tok_191 : tok Go.Proofs.Tryz.prog 191 = true := by kernel_rfl
theorem tsz_191 : tsz Go.Proofs.Tryz.prog 191 = 1 := by kernel_rfl
theorem tby_191 : tbytes Go.Proofs.Tryz.prog 191 = 8 := by kernel_rfl
theorem tagg_191 : tagg Go.Proofs.Tryz.prog 191 = false := by kernel_rfl
theorem tconc_191 : tconc Go.Proofs.Tryz.prog 191 = true := by kernel_rfl
theorem tzero_191 : tzero Go.Proofs.Tryz.prog 191 = some .nilFunc := by kernel_rfl
theorem tok_192 : tok Go.Proofs.Tryz.prog 192 = true := by kernel_rfl
theorem tsz_192 : tsz Go.Proofs.Tryz.prog 192 = 1 := by kernel_rfl
theorem tby_192 : tbytes Go.Proofs.Tryz.prog 192 = 8 := by kernel_rfl
theorem tagg_192 : tagg Go.Proofs.Tryz.prog 192 = false := by kernel_rfl
theorem tconc_192 : tconc Go.Proofs.Tryz.prog 192 = true := by kernel_rfl
theorem tzero_192 : tzero Go.Proofs.Tryz.prog 192 = some .nilFunc := by kernel_rfl
theorem tok_193 : tok Go.Proofs.Tryz.prog 193 = true := by kernel_rfl
theorem tsz_193 : tsz Go.Proofs.Tryz.prog 193 = 1 := by kernel_rfl
theorem tby_193 : tbytes Go.Proofs.Tryz.prog 193 = 0 := by kernel_rfl
theorem tagg_193 : tagg Go.Proofs.Tryz.prog 193 = false := by kernel_rfl
theorem tconc_193 : tconc Go.Proofs.Tryz.prog 193 = true := by kernel_rfl
theorem tzero_193 : tzero Go.Proofs.Tryz.prog 193 = some (.tuple #[.pointer none, .int .i64 0]) := by kernel_rfl
theorem tok_194 : tok Go.Proofs.Tryz.prog 194 = true := by kernel_rfl
theorem tsz_194 : tsz Go.Proofs.Tryz.prog 194 = 1 := by kernel_rfl
theorem tby_194 : tbytes Go.Proofs.Tryz.prog 194 = 8 := by kernel_rfl
theorem tagg_194 : tagg Go.Proofs.Tryz.prog 194 = false := by kernel_rfl
theorem tconc_194 : tconc Go.Proofs.Tryz.prog 194 = true := by kernel_rfl
theorem tzero_194 : tzero Go.Proofs.Tryz.prog 194 = some .nilFunc := by kernel_rfl
theorem tok_195 : tok Go.Proofs.Tryz.prog 195 = true := by kernel_rfl
theorem tsz_195 : tsz Go.Proofs.Tryz.prog 195 = 1 := by kernel_rfl
theorem tby_195 : tbytes Go.Proofs.Tryz.prog 195 = 8 := by kernel_rfl
theorem tagg_195 : tagg Go.Proofs.Tryz.prog 195 = false := by kernel_rfl
theorem tconc_195 : tconc Go.Proofs.Tryz.prog 195 = true := by kernel_rfl
theorem tzero_195 : tzero Go.Proofs.Tryz.prog 195 = some .nilFunc := by kernel_rfl
theorem tok_196 : tok Go.Proofs.Tryz.prog 196 = true := by kernel_rfl
theorem tsz_196 : tsz Go.Proofs.Tryz.prog 196 = 1 := by kernel_rfl
theorem tby_196 : tbytes Go.Proofs.Tryz.prog 196 = 8 := by kernel_rfl
theorem tagg_196 : tagg Go.Proofs.Tryz.prog 196 = false := by kernel_rfl
theorem tconc_196 : tconc Go.Proofs.Tryz.prog 196 = true := by kernel_rfl
theorem tzero_196 : tzero Go.Proofs.Tryz.prog 196 = some .nilFunc := by kernel_rfl
theorem tok_197 : tok Go.Proofs.Tryz.prog 197 = true := by kernel_rfl
theorem tsz_197 : tsz Go.Proofs.Tryz.prog 197 = 1 := by kernel_rfl
theorem tby_197 : tbytes Go.Proofs.Tryz.prog 197 = 8 := by kernel_rfl
theorem tagg_197 : tagg Go.Proofs.Tryz.prog 197 = false := by kernel_rfl
theorem tconc_197 : tconc Go.Proofs.Tryz.prog 197 = true := by kernel_rfl
theorem tzero_197 : tzero Go.Proofs.Tryz.prog 197 = some .nilFunc := by kernel_rfl
theorem tok_198 : tok Go.Proofs.Tryz.prog 198 = true := by kernel_rfl
theorem tsz_198 : tsz Go.Proofs.Tryz.prog 198 = 1 := by kernel_rfl
theorem tby_198 : tbytes Go.Proofs.Tryz.prog 198 = 8 := by kernel_rfl
theorem tagg_198 : tagg Go.Proofs.Tryz.prog 198 = false := by kernel_rfl
theorem tconc_198 : tconc Go.Proofs.Tryz.prog 198 = true := by kernel_rfl
theorem tzero_198 : tzero Go.Proofs.Tryz.prog 198 = some .nilFunc := by kernel_rfl
theorem tok_199 : tok Go.Proofs.Tryz.prog 199 = true := by kernel_rfl
theorem tsz_199 : tsz Go.Proofs.Tryz.prog 199 = 1 := by kernel_rfl
theorem tby_199 : tbytes Go.Proofs.Tryz.prog 199 = 8 := by kernel_rfl
theorem tagg_199 : tagg Go.Proofs.Tryz.prog 199 = true := by kernel_rfl
theorem tconc_199 : tconc Go.Proofs.Tryz.prog 199 = true := by kernel_rfl
theorem tzero_199 : tzero Go.Proofs.Tryz.prog 199 = some (.agg #[.int .i64 0]) := by kernel_rfl
theorem tfld_199_0 : tfld Go.Proofs.Tryz.prog 199 0 = some (31, 0) := by kernel_rfl
theorem fldA_199_0 : fldA Go.Proofs.Tryz.prog 199 0 = some 0 := by kernel_rfl
theorem tok_200 : tok Go.Proofs.Tryz.prog 200 = true := by kernel_rfl
theorem tsz_200 : tsz Go.Proofs.Tryz.prog 200 = 1 := by kernel_rfl
theorem tby_200 : tbytes Go.Proofs.Tryz.prog 200 = 8 := by kernel_rfl
theorem tagg_200 : tagg Go.Proofs.Tryz.prog 200 = true := by kernel_rfl
theorem tconc_200 : tconc Go.Proofs.Tryz.prog 200 = true := by kernel_rfl
theorem tzero_200 : tzero Go.Proofs.Tryz.prog 200 = some (.agg #[.int .i64 0]) := by kernel_rfl
theorem tfld_200_0 : tfld Go.Proofs.Tryz.prog 200 0 = some (31, 0) := by kernel_rfl
theorem fldA_200_0 : fldA Go.Proofs.Tryz.prog 200 0 = some 0 := by kernel_rfl
theorem tok_201 : tok Go.Proofs.Tryz.prog 201 = true := by kernel_rfl
theorem tsz_201 : tsz Go.Proofs.Tryz.prog 201 = 1 := by kernel_rfl
theorem tby_201 : tbytes Go.Proofs.Tryz.prog 201 = 0 := by kernel_rfl
theorem tagg_201 : tagg Go.Proofs.Tryz.prog 201 = false := by kernel_rfl
theorem tconc_201 : tconc Go.Proofs.Tryz.prog 201 = true := by kernel_rfl
theorem tzero_201 : tzero Go.Proofs.Tryz.prog 201 = some (.tuple #[.agg #[.int .i64 0], .bool false]) := by kernel_rfl
theorem tok_202 : tok Go.Proofs.Tryz.prog 202 = true := by kernel_rfl
theorem tsz_202 : tsz Go.Proofs.Tryz.prog 202 = 1 := by kernel_rfl
theorem tby_202 : tbytes Go.Proofs.Tryz.prog 202 = 8 := by kernel_rfl
theorem tagg_202 : tagg Go.Proofs.Tryz.prog 202 = false := by kernel_rfl
theorem tconc_202 : tconc Go.Proofs.Tryz.prog 202 = true := by kernel_rfl
theorem tzero_202 : tzero Go.Proofs.Tryz.prog 202 = some .nilFunc := by kernel_rfl
theorem tok_203 : tok Go.Proofs.Tryz.prog 203 = true := by kernel_rfl
theorem tsz_203 : tsz Go.Proofs.Tryz.prog 203 = 1 := by kernel_rfl
theorem tby_203 : tbytes Go.Proofs.Tryz.prog 203 = 24 := by kernel_rfl
theorem tagg_203 : tagg Go.Proofs.Tryz.prog 203 = false := by kernel_rfl
theorem tconc_203 : tconc Go.Proofs.Tryz.prog 203 = true := by kernel_rfl
theorem tzero_203 : tzero Go.Proofs.Tryz.prog 203 = some (.slice none 0 0) := by kernel_rfl
theorem telem_203 : telem Go.Proofs.Tryz.prog 203 = some 202 := by kernel_rfl
theorem tok_204 : tok Go.Proofs.Tryz.prog 204 = true := by kernel_rfl
theorem tsz_204 : tsz Go.Proofs.Tryz.prog 204 = 1 := by kernel_rfl
theorem tby_204 : tbytes Go.Proofs.Tryz.prog 204 = 8 := by kernel_rfl
theorem tagg_204 : tagg Go.Proofs.Tryz.prog 204 = false := by kernel_rfl
theorem tconc_204 : tconc Go.Proofs.Tryz.prog 204 = true := by kernel_rfl
theorem tzero_204 : tzero Go.Proofs.Tryz.prog 204 = some .nilFunc := by kernel_rfl
theorem tok_205 : tok Go.Proofs.Tryz.prog 205 = true := by kernel_rfl
theorem tsz_205 : tsz Go.Proofs.Tryz.prog 205 = 1 := by kernel_rfl
theorem tby_205 : tbytes Go.Proofs.Tryz.prog 205 = 8 := by kernel_rfl
theorem tagg_205 : tagg Go.Proofs.Tryz.prog 205 = false := by kernel_rfl
theorem tconc_205 : tconc Go.Proofs.Tryz.prog 205 = true := by kernel_rfl
theorem tzero_205 : tzero Go.Proofs.Tryz.prog 205 = some .nilFunc := by kernel_rfl
theorem tok_206 : tok Go.Proofs.Tryz.prog 206 = true := by kernel_rfl
theorem tsz_206 : tsz Go.Proofs.Tryz.prog 206 = 1 := by kernel_rfl
theorem tby_206 : tbytes Go.Proofs.Tryz.prog 206 = 8 := by kernel_rfl
theorem tagg_206 : tagg Go.Proofs.Tryz.prog 206 = false := by kernel_rfl
theorem tconc_206 : tconc Go.Proofs.Tryz.prog 206 = true := by kernel_rfl
theorem tzero_206 : tzero Go.Proofs.Tryz.prog 206 = some .nilFunc := by kernel_rfl
theorem tok_207 : tok Go.Proofs.Tryz.prog 207 = true := by kernel_rfl
theorem tsz_207 : tsz Go.Proofs.Tryz.prog 207 = 1 := by kernel_rfl
theorem tby_207 : tbytes Go.Proofs.Tryz.prog 207 = 8 := by kernel_rfl
theorem tagg_207 : tagg Go.Proofs.Tryz.prog 207 = false := by kernel_rfl
theorem tconc_207 : tconc Go.Proofs.Tryz.prog 207 = true := by kernel_rfl
theorem tzero_207 : tzero Go.Proofs.Tryz.prog 207 = some .nilFunc := by kernel_rfl
theorem tok_208 : tok Go.Proofs.Tryz.prog 208 = true := by kernel_rfl
theorem tsz_208 : tsz Go.Proofs.Tryz.prog 208 = 1 := by kernel_rfl
theorem tby_208 : tbytes Go.Proofs.Tryz.prog 208 = 8 := by kernel_rfl
theorem tagg_208 : tagg Go.Proofs.Tryz.prog 208 = false := by kernel_rfl
theorem tconc_208 : tconc Go.Proofs.Tryz.prog 208 = true := by kernel_rfl
theorem tzero_208 : tzero Go.Proofs.Tryz.prog 208 = some .nilFunc := by kernel_rfl
theorem tok_209 : tok Go.Proofs.Tryz.prog 209 = true := by kernel_rfl
theorem tsz_209 : tsz Go.Proofs.Tryz.prog 209 = 1 := by kernel_rfl
theorem tby_209 : tbytes Go.Proofs.Tryz.prog 209 = 8 := by kernel_rfl
theorem tagg_209 : tagg Go.Proofs.Tryz.prog 209 = false := by kernel_rfl
theorem tconc_209 : tconc Go.Proofs.Tryz.prog 209 = true := by kernel_rfl
theorem tzero_209 : tzero Go.Proofs.Tryz.prog 209 = some (.pointer none) := by kernel_rfl
theorem tptr_209 : tptr Go.Proofs.Tryz.prog 209 = true := by kernel_rfl
theorem tok_210 : tok Go.Proofs.Tryz.prog 210 = true := by kernel_rfl
theorem tsz_210 : tsz Go.Proofs.Tryz.prog 210 = 1 := by kernel_rfl
theorem tby_210 : tbytes Go.Proofs.Tryz.prog 210 = 8 := by kernel_rfl
theorem tagg_210 : tagg Go.Proofs.Tryz.prog 210 = false := by kernel_rfl
theorem tconc_210 : tconc Go.Proofs.Tryz.prog 210 = true := by kernel_rfl
theorem tzero_210 : tzero Go.Proofs.Tryz.prog 210 = some .nilFunc := by kernel_rfl
theorem tok_211 : tok Go.Proofs.Tryz.prog 211 = true := by kernel_rfl
theorem tsz_211 : tsz Go.Proofs.Tryz.prog 211 = 1 := by kernel_rfl
theorem tby_211 : tbytes Go.Proofs.Tryz.prog 211 = 8 := by kernel_rfl
theorem tagg_211 : tagg Go.Proofs.Tryz.prog 211 = false := by kernel_rfl
theorem tconc_211 : tconc Go.Proofs.Tryz.prog 211 = true := by kernel_rfl
theorem tzero_211 : tzero Go.Proofs.Tryz.prog 211 = some .nilFunc := by kernel_rfl
theorem tok_212 : tok Go.Proofs.Tryz.prog 212 = true := by kernel_rfl
theorem tsz_212 : tsz Go.Proofs.Tryz.prog 212 = 1 := by kernel_rfl
theorem tby_212 : tbytes Go.Proofs.Tryz.prog 212 = 8 := by kernel_rfl
theorem tagg_212 : tagg Go.Proofs.Tryz.prog 212 = false := by kernel_rfl
theorem tconc_212 : tconc Go.Proofs.Tryz.prog 212 = true := by kernel_rfl
theorem tzero_212 : tzero Go.Proofs.Tryz.prog 212 = some (.int .i64 0) := by kernel_rfl
theorem tkind_212 : tkind Go.Proofs.Tryz.prog 212 = some .i64 := by kernel_rfl
theorem tok_213 : tok Go.Proofs.Tryz.prog 213 = true := by kernel_rfl
theorem tsz_213 : tsz Go.Proofs.Tryz.prog 213 = 1 := by kernel_rfl
theorem tby_213 : tbytes Go.Proofs.Tryz.prog 213 = 0 := by kernel_rfl
theorem tagg_213 : tagg Go.Proofs.Tryz.prog 213 = false := by kernel_rfl
theorem tconc_213 : tconc Go.Proofs.Tryz.prog 213 = true := by kernel_rfl
theorem tzero_213 : tzero Go.Proofs.Tryz.prog 213 = some (.tuple #[.int .i64 0, .int .i64 0]) := by kernel_rfl
theorem tok_214 : tok Go.Proofs.Tryz.prog 214 = true := by kernel_rfl
theorem tsz_214 : tsz Go.Proofs.Tryz.prog 214 = 1 := by kernel_rfl
theorem tby_214 : tbytes Go.Proofs.Tryz.prog 214 = 8 := by kernel_rfl
theorem tagg_214 : tagg Go.Proofs.Tryz.prog 214 = false := by kernel_rfl
theorem tconc_214 : tconc Go.Proofs.Tryz.prog 214 = true := by kernel_rfl
theorem tzero_214 : tzero Go.Proofs.Tryz.prog 214 = some .nilFunc := by kernel_rfl
theorem tok_215 : tok Go.Proofs.Tryz.prog 215 = true := by kernel_rfl
theorem tsz_215 : tsz Go.Proofs.Tryz.prog 215 = 1 := by kernel_rfl
theorem tby_215 : tbytes Go.Proofs.Tryz.prog 215 = 8 := by kernel_rfl
theorem tagg_215 : tagg Go.Proofs.Tryz.prog 215 = false := by kernel_rfl
theorem tconc_215 : tconc Go.Proofs.Tryz.prog 215 = true := by kernel_rfl
theorem tzero_215 : tzero Go.Proofs.Tryz.prog 215 = some .nilFunc := by kernel_rfl
theorem tok_216 : tok Go.Proofs.Tryz.prog 216 = true := by kernel_rfl
theorem tsz_216 : tsz Go.Proofs.Tryz.prog 216 = 1 := by kernel_rfl
theorem tby_216 : tbytes Go.Proofs.Tryz.prog 216 = 8 := by kernel_rfl
theorem tagg_216 : tagg Go.Proofs.Tryz.prog 216 = false := by kernel_rfl
theorem tconc_216 : tconc Go.Proofs.Tryz.prog 216 = true := by kernel_rfl
theorem tzero_216 : tzero Go.Proofs.Tryz.prog 216 = some .nilFunc := by kernel_rfl
theorem tok_217 : tok Go.Proofs.Tryz.prog 217 = true := by kernel_rfl
theorem tsz_217 : tsz Go.Proofs.Tryz.prog 217 = 1 := by kernel_rfl
theorem tby_217 : tbytes Go.Proofs.Tryz.prog 217 = 0 := by kernel_rfl
theorem tagg_217 : tagg Go.Proofs.Tryz.prog 217 = false := by kernel_rfl
theorem tconc_217 : tconc Go.Proofs.Tryz.prog 217 = true := by kernel_rfl
theorem tzero_217 : tzero Go.Proofs.Tryz.prog 217 = some (.tuple #[.int .i64 0, .bool false]) := by kernel_rfl
theorem tok_218 : tok Go.Proofs.Tryz.prog 218 = true := by kernel_rfl
theorem tsz_218 : tsz Go.Proofs.Tryz.prog 218 = 1 := by kernel_rfl
theorem tby_218 : tbytes Go.Proofs.Tryz.prog 218 = 8 := by kernel_rfl
theorem tagg_218 : tagg Go.Proofs.Tryz.prog 218 = false := by kernel_rfl
theorem tconc_218 : tconc Go.Proofs.Tryz.prog 218 = true := by kernel_rfl
theorem tzero_218 : tzero Go.Proofs.Tryz.prog 218 = some .nilFunc := by kernel_rfl
theorem tok_219 : tok Go.Proofs.Tryz.prog 219 = true := by kernel_rfl
theorem tsz_219 : tsz Go.Proofs.Tryz.prog 219 = 1 := by kernel_rfl
theorem tby_219 : tbytes Go.Proofs.Tryz.prog 219 = 8 := by kernel_rfl
theorem tagg_219 : tagg Go.Proofs.Tryz.prog 219 = false := by kernel_rfl
theorem tconc_219 : tconc Go.Proofs.Tryz.prog 219 = true := by kernel_rfl
theorem tzero_219 : tzero Go.Proofs.Tryz.prog 219 = some .nilFunc := by kernel_rfl
theorem tok_220 : tok Go.Proofs.Tryz.prog 220 = true := by kernel_rfl
theorem tsz_220 : tsz Go.Proofs.Tryz.prog 220 = 1 := by kernel_rfl
theorem tby_220 : tbytes Go.Proofs.Tryz.prog 220 = 4 := by kernel_rfl
theorem tagg_220 : tagg Go.Proofs.Tryz.prog 220 = false := by kernel_rfl
theorem tconc_220 : tconc Go.Proofs.Tryz.prog 220 = true := by kernel_rfl
theorem tzero_220 : tzero Go.Proofs.Tryz.prog 220 = some (.int .u32 0) := by kernel_rfl
theorem tkind_220 : tkind Go.Proofs.Tryz.prog 220 = some .u32 := by kernel_rfl
theorem tok_221 : tok Go.Proofs.Tryz.prog 221 = true := by kernel_rfl
theorem tsz_221 : tsz Go.Proofs.Tryz.prog 221 = 1 := by kernel_rfl
theorem tby_221 : tbytes Go.Proofs.Tryz.prog 221 = 8 := by kernel_rfl
theorem tagg_221 : tagg Go.Proofs.Tryz.prog 221 = false := by kernel_rfl
theorem tconc_221 : tconc Go.Proofs.Tryz.prog 221 = true := by kernel_rfl
theorem tzero_221 : tzero Go.Proofs.Tryz.prog 221 = some .nilFunc := by kernel_rfl
theorem tok_222 : tok Go.Proofs.Tryz.prog 222 = true := by kernel_rfl
theorem tsz_222 : tsz Go.Proofs.Tryz.prog 222 = 1 := by kernel_rfl
theorem tby_222 : tbytes Go.Proofs.Tryz.prog 222 = 8 := by kernel_rfl
theorem tagg_222 : tagg Go.Proofs.Tryz.prog 222 = false := by kernel_rfl
theorem tconc_222 : tconc Go.Proofs.Tryz.prog 222 = true := by kernel_rfl
theorem tzero_222 : tzero Go.Proofs.Tryz.prog 222 = some (.int .u64 0) := by kernel_rfl
theorem tkind_222 : tkind Go.Proofs.Tryz.prog 222 = some .u64 := by kernel_rfl
theorem tok_223 : tok Go.Proofs.Tryz.prog 223 = true := by kernel_rfl
theorem tsz_223 : tsz Go.Proofs.Tryz.prog 223 = 4 := by kernel_rfl
theorem tby_223 : tbytes Go.Proofs.Tryz.prog 223 = 40 := by kernel_rfl
theorem tagg_223 : tagg Go.Proofs.Tryz.prog 223 = true := by kernel_rfl
theorem tconc_223 : tconc Go.Proofs.Tryz.prog 223 = true := by kernel_rfl
theorem tzero_223 : tzero Go.Proofs.Tryz.prog 223 = some (.agg #[.int .i64 0, .int .i64 0, .string { data := #[] }, .bool false]) := by kernel_rfl
theorem tfld_223_0 : tfld Go.Proofs.Tryz.prog 223 0 = some (3, 0) := by kernel_rfl
theorem fldA_223_0 : fldA Go.Proofs.Tryz.prog 223 0 = some 0 := by kernel_rfl
theorem tfld_223_1 : tfld Go.Proofs.Tryz.prog 223 1 = some (3, 1) := by kernel_rfl
theorem fldA_223_1 : fldA Go.Proofs.Tryz.prog 223 1 = some 1 := by kernel_rfl
theorem tfld_223_2 : tfld Go.Proofs.Tryz.prog 223 2 = some (9, 2) := by kernel_rfl
theorem fldA_223_2 : fldA Go.Proofs.Tryz.prog 223 2 = some 2 := by kernel_rfl
theorem tfld_223_3 : tfld Go.Proofs.Tryz.prog 223 3 = some (4, 3) := by kernel_rfl
theorem fldA_223_3 : fldA Go.Proofs.Tryz.prog 223 3 = some 3 := by kernel_rfl
theorem tok_224 : tok Go.Proofs.Tryz.prog 224 = true := by kernel_rfl
theorem tsz_224 : tsz Go.Proofs.Tryz.prog 224 = 4 := by kernel_rfl
theorem tby_224 : tbytes Go.Proofs.Tryz.prog 224 = 40 := by kernel_rfl
theorem tagg_224 : tagg Go.Proofs.Tryz.prog 224 = true := by kernel_rfl
theorem tconc_224 : tconc Go.Proofs.Tryz.prog 224 = true := by kernel_rfl
theorem tzero_224 : tzero Go.Proofs.Tryz.prog 224 = some (.agg #[.int .i64 0, .int .i64 0, .string { data := #[] }, .bool false]) := by kernel_rfl
theorem tfld_224_0 : tfld Go.Proofs.Tryz.prog 224 0 = some (3, 0) := by kernel_rfl
theorem fldA_224_0 : fldA Go.Proofs.Tryz.prog 224 0 = some 0 := by kernel_rfl
theorem tfld_224_1 : tfld Go.Proofs.Tryz.prog 224 1 = some (3, 1) := by kernel_rfl
theorem fldA_224_1 : fldA Go.Proofs.Tryz.prog 224 1 = some 1 := by kernel_rfl
theorem tfld_224_2 : tfld Go.Proofs.Tryz.prog 224 2 = some (9, 2) := by kernel_rfl
theorem fldA_224_2 : fldA Go.Proofs.Tryz.prog 224 2 = some 2 := by kernel_rfl
theorem tfld_224_3 : tfld Go.Proofs.Tryz.prog 224 3 = some (4, 3) := by kernel_rfl
theorem fldA_224_3 : fldA Go.Proofs.Tryz.prog 224 3 = some 3 := by kernel_rfl
theorem tok_225 : tok Go.Proofs.Tryz.prog 225 = true := by kernel_rfl
theorem tsz_225 : tsz Go.Proofs.Tryz.prog 225 = 1 := by kernel_rfl
theorem tby_225 : tbytes Go.Proofs.Tryz.prog 225 = 8 := by kernel_rfl
theorem tagg_225 : tagg Go.Proofs.Tryz.prog 225 = false := by kernel_rfl
theorem tconc_225 : tconc Go.Proofs.Tryz.prog 225 = true := by kernel_rfl
theorem tzero_225 : tzero Go.Proofs.Tryz.prog 225 = some .nilFunc := by kernel_rfl
theorem tok_226 : tok Go.Proofs.Tryz.prog 226 = true := by kernel_rfl
theorem tsz_226 : tsz Go.Proofs.Tryz.prog 226 = 1 := by kernel_rfl
theorem tby_226 : tbytes Go.Proofs.Tryz.prog 226 = 8 := by kernel_rfl
theorem tagg_226 : tagg Go.Proofs.Tryz.prog 226 = false := by kernel_rfl
theorem tconc_226 : tconc Go.Proofs.Tryz.prog 226 = true := by kernel_rfl
theorem tzero_226 : tzero Go.Proofs.Tryz.prog 226 = some .nilFunc := by kernel_rfl
theorem tok_227 : tok Go.Proofs.Tryz.prog 227 = true := by kernel_rfl
theorem tsz_227 : tsz Go.Proofs.Tryz.prog 227 = 1 := by kernel_rfl
theorem tby_227 : tbytes Go.Proofs.Tryz.prog 227 = 8 := by kernel_rfl
theorem tagg_227 : tagg Go.Proofs.Tryz.prog 227 = false := by kernel_rfl
theorem tconc_227 : tconc Go.Proofs.Tryz.prog 227 = true := by kernel_rfl
theorem tzero_227 : tzero Go.Proofs.Tryz.prog 227 = some .nilFunc := by kernel_rfl
theorem tok_228 : tok Go.Proofs.Tryz.prog 228 = true := by kernel_rfl
theorem tsz_228 : tsz Go.Proofs.Tryz.prog 228 = 1 := by kernel_rfl
theorem tby_228 : tbytes Go.Proofs.Tryz.prog 228 = 8 := by kernel_rfl
theorem tagg_228 : tagg Go.Proofs.Tryz.prog 228 = false := by kernel_rfl
theorem tconc_228 : tconc Go.Proofs.Tryz.prog 228 = true := by kernel_rfl
theorem tzero_228 : tzero Go.Proofs.Tryz.prog 228 = some .nilFunc := by kernel_rfl
theorem tok_229 : tok Go.Proofs.Tryz.prog 229 = true := by kernel_rfl
theorem tsz_229 : tsz Go.Proofs.Tryz.prog 229 = 1 := by kernel_rfl
theorem tby_229 : tbytes Go.Proofs.Tryz.prog 229 = 8 := by kernel_rfl
theorem tagg_229 : tagg Go.Proofs.Tryz.prog 229 = false := by kernel_rfl
theorem tconc_229 : tconc Go.Proofs.Tryz.prog 229 = true := by kernel_rfl
theorem tzero_229 : tzero Go.Proofs.Tryz.prog 229 = some .nilFunc := by kernel_rfl
theorem tok_230 : tok Go.Proofs.Tryz.prog 230 = true := by kernel_rfl
theorem tsz_230 : tsz Go.Proofs.Tryz.prog 230 = 1 := by kernel_rfl
theorem tby_230 : tbytes Go.Proofs.Tryz.prog 230 = 8 := by kernel_rfl
theorem tagg_230 : tagg Go.Proofs.Tryz.prog 230 = false := by kernel_rfl
theorem tconc_230 : tconc Go.Proofs.Tryz.prog 230 = true := by kernel_rfl
theorem tzero_230 : tzero Go.Proofs.Tryz.prog 230 = some .nilFunc := by kernel_rfl
theorem tok_231 : tok Go.Proofs.Tryz.prog 231 = true := by kernel_rfl
theorem tsz_231 : tsz Go.Proofs.Tryz.prog 231 = 1 := by kernel_rfl
theorem tby_231 : tbytes Go.Proofs.Tryz.prog 231 = 8 := by kernel_rfl
theorem tagg_231 : tagg Go.Proofs.Tryz.prog 231 = false := by kernel_rfl
theorem tconc_231 : tconc Go.Proofs.Tryz.prog 231 = true := by kernel_rfl
theorem tzero_231 : tzero Go.Proofs.Tryz.prog 231 = some .nilFunc := by kernel_rfl
theorem tok_232 : tok Go.Proofs.Tryz.prog 232 = true := by kernel_rfl
theorem tsz_232 : tsz Go.Proofs.Tryz.prog 232 = 1 := by kernel_rfl
theorem tby_232 : tbytes Go.Proofs.Tryz.prog 232 = 0 := by kernel_rfl
theorem tagg_232 : tagg Go.Proofs.Tryz.prog 232 = false := by kernel_rfl
theorem tconc_232 : tconc Go.Proofs.Tryz.prog 232 = true := by kernel_rfl
theorem tzero_232 : tzero Go.Proofs.Tryz.prog 232 = some (.tuple #[.int .i64 0, .int .i64 0, .int .i64 0]) := by kernel_rfl
theorem tok_233 : tok Go.Proofs.Tryz.prog 233 = true := by kernel_rfl
theorem tsz_233 : tsz Go.Proofs.Tryz.prog 233 = 1 := by kernel_rfl
theorem tby_233 : tbytes Go.Proofs.Tryz.prog 233 = 8 := by kernel_rfl
theorem tagg_233 : tagg Go.Proofs.Tryz.prog 233 = false := by kernel_rfl
theorem tconc_233 : tconc Go.Proofs.Tryz.prog 233 = true := by kernel_rfl
theorem tzero_233 : tzero Go.Proofs.Tryz.prog 233 = some .nilFunc := by kernel_rfl
theorem tok_234 : tok Go.Proofs.Tryz.prog 234 = true := by kernel_rfl
theorem tsz_234 : tsz Go.Proofs.Tryz.prog 234 = 1 := by kernel_rfl
theorem tby_234 : tbytes Go.Proofs.Tryz.prog 234 = 8 := by kernel_rfl
theorem tagg_234 : tagg Go.Proofs.Tryz.prog 234 = false := by kernel_rfl
theorem tconc_234 : tconc Go.Proofs.Tryz.prog 234 = true := by kernel_rfl
theorem tzero_234 : tzero Go.Proofs.Tryz.prog 234 = some .nilFunc := by kernel_rfl
theorem tok_235 : tok Go.Proofs.Tryz.prog 235 = true := by kernel_rfl
theorem tsz_235 : tsz Go.Proofs.Tryz.prog 235 = 1 := by kernel_rfl
theorem tby_235 : tbytes Go.Proofs.Tryz.prog 235 = 8 := by kernel_rfl
theorem tagg_235 : tagg Go.Proofs.Tryz.prog 235 = false := by kernel_rfl
theorem tconc_235 : tconc Go.Proofs.Tryz.prog 235 = true := by kernel_rfl
theorem tzero_235 : tzero Go.Proofs.Tryz.prog 235 = some .nilFunc := by kernel_rfl
theorem tok_236 : tok Go.Proofs.Tryz.prog 236 = true := by kernel_rfl
theorem tsz_236 : tsz Go.Proofs.Tryz.prog 236 = 1 := by kernel_rfl
theorem tby_236 : tbytes Go.Proofs.Tryz.prog 236 = 8 := by kernel_rfl
theorem tagg_236 : tagg Go.Proofs.Tryz.prog 236 = false := by kernel_rfl
theorem tconc_236 : tconc Go.Proofs.Tryz.prog 236 = true := by kernel_rfl
theorem tzero_236 : tzero Go.Proofs.Tryz.prog 236 = some .nilFunc := by kernel_rfl
theorem tok_237 : tok Go.Proofs.Tryz.prog 237 = true := by kernel_rfl
theorem tsz_237 : tsz Go.Proofs.Tryz.prog 237 = 1 := by kernel_rfl
theorem tby_237 : tbytes Go.Proofs.Tryz.prog 237 = 8 := by kernel_rfl
theorem tagg_237 : tagg Go.Proofs.Tryz.prog 237 = true := by kernel_rfl
theorem tconc_237 : tconc Go.Proofs.Tryz.prog 237 = true := by kernel_rfl
theorem tzero_237 : tzero Go.Proofs.Tryz.prog 237 = some (.agg #[.int .i64 0]) := by kernel_rfl
theorem tfld_237_0 : tfld Go.Proofs.Tryz.prog 237 0 = some (3, 0) := by kernel_rfl
theorem fldA_237_0 : fldA Go.Proofs.Tryz.prog 237 0 = some 0 := by kernel_rfl
theorem tok_238 : tok Go.Proofs.Tryz.prog 238 = true := by kernel_rfl
theorem tsz_238 : tsz Go.Proofs.Tryz.prog 238 = 1 := by kernel_rfl
theorem tby_238 : tbytes Go.Proofs.Tryz.prog 238 = 8 := by kernel_rfl
theorem tagg_238 : tagg Go.Proofs.Tryz.prog 238 = true := by kernel_rfl
theorem tconc_238 : tconc Go.Proofs.Tryz.prog 238 = true := by kernel_rfl
theorem tzero_238 : tzero Go.Proofs.Tryz.prog 238 = some (.agg #[.int .i64 0]) := by kernel_rfl
theorem tfld_238_0 : tfld Go.Proofs.Tryz.prog 238 0 = some (3, 0) := by kernel_rfl
theorem fldA_238_0 : fldA Go.Proofs.Tryz.prog 238 0 = some 0 := by kernel_rfl
theorem tok_239 : tok Go.Proofs.Tryz.prog 239 = true := by kernel_rfl
theorem tsz_239 : tsz Go.Proofs.Tryz.prog 239 = 15 := by kernel_rfl
theorem tby_239 : tbytes Go.Proofs.Tryz.prog 239 = 168 := by kernel_rfl
theorem tagg_239 : tagg Go.Proofs.Tryz.prog 239 = true := by kernel_rfl
theorem tconc_239 : tconc Go.Proofs.Tryz.prog 239 = true := by kernel_rfl
theorem tzero_239 : tzero Go.Proofs.Tryz.prog 239 = some (.agg #[.int .i64 0, .int .i64 0, .int .i64 0, .slice none 0 0, .slice none 0 0, .int .i64 0, .int .i64 0, .int .i64 0, .int .i64 0, .int .i64 0, .slice none 0 0, .int .i64 0, .int .i64 0, .int .i64 0, .bool false]) := by kernel_rfl
theorem tfld_239_0 : tfld Go.Proofs.Tryz.prog 239 0 = some (238, 0) := by kernel_rfl
theorem fldA_239_0 : fldA Go.Proofs.Tryz.prog 239 0 = some 0 := by kernel_rfl
theorem tfld_239_1 : tfld Go.Proofs.Tryz.prog 239 1 = some (82, 1) := by kernel_rfl
theorem fldA_239_1 : fldA Go.Proofs.Tryz.prog 239 1 = some 1 := by kernel_rfl
theorem tfld_239_2 : tfld Go.Proofs.Tryz.prog 239 2 = some (3, 5) := by kernel_rfl
theorem fldA_239_2 : fldA Go.Proofs.Tryz.prog 239 2 = some 5 := by kernel_rfl
theorem tfld_239_3 : tfld Go.Proofs.Tryz.prog 239 3 = some (3, 6) := by kernel_rfl
theorem fldA_239_3 : fldA Go.Proofs.Tryz.prog 239 3 = some 6 := by kernel_rfl
theorem tfld_239_4 : tfld Go.Proofs.Tryz.prog 239 4 = some (3, 7) := by kernel_rfl
theorem fldA_239_4 : fldA Go.Proofs.Tryz.prog 239 4 = some 7 := by kernel_rfl
theorem tfld_239_5 : tfld Go.Proofs.Tryz.prog 239 5 = some (3, 8) := by kernel_rfl
theorem fldA_239_5 : fldA Go.Proofs.Tryz.prog 239 5 = some 8 := by kernel_rfl
theorem tfld_239_6 : tfld Go.Proofs.Tryz.prog 239 6 = some (3, 9) := by kernel_rfl
theorem fldA_239_6 : fldA Go.Proofs.Tryz.prog 239 6 = some 9 := by kernel_rfl
theorem tfld_239_7 : tfld Go.Proofs.Tryz.prog 239 7 = some (50, 10) := by kernel_rfl
theorem fldA_239_7 : fldA Go.Proofs.Tryz.prog 239 7 = some 10 := by kernel_rfl
theorem tfld_239_8 : tfld Go.Proofs.Tryz.prog 239 8 = some (3, 11) := by kernel_rfl
theorem fldA_239_8 : fldA Go.Proofs.Tryz.prog 239 8 = some 11 := by kernel_rfl
theorem tfld_239_9 : tfld Go.Proofs.Tryz.prog 239 9 = some (3, 12) := by kernel_rfl
theorem fldA_239_9 : fldA Go.Proofs.Tryz.prog 239 9 = some 12 := by kernel_rfl
theorem tfld_239_10 : tfld Go.Proofs.Tryz.prog 239 10 = some (3, 13) := by kernel_rfl
theorem fldA_239_10 : fldA Go.Proofs.Tryz.prog 239 10 = some 13 := by kernel_rfl
theorem tfld_239_11 : tfld Go.Proofs.Tryz.prog 239 11 = some (4, 14) := by kernel_rfl
theorem fldA_239_11 : fldA Go.Proofs.Tryz.prog 239 11 = some 14 := by kernel_rfl
theorem tok_240 : tok Go.Proofs.Tryz.prog 240 = true := by kernel_rfl
theorem tsz_240 : tsz Go.Proofs.Tryz.prog 240 = 15 := by kernel_rfl
theorem tby_240 : tbytes Go.Proofs.Tryz.prog 240 = 168 := by kernel_rfl
theorem tagg_240 : tagg Go.Proofs.Tryz.prog 240 = true := by kernel_rfl
theorem tconc_240 : tconc Go.Proofs.Tryz.prog 240 = true := by kernel_rfl
theorem tzero_240 : tzero Go.Proofs.Tryz.prog 240 = some (.agg #[.int .i64 0, .int .i64 0, .int .i64 0, .slice none 0 0, .slice none 0 0, .int .i64 0, .int .i64 0, .int .i64 0, .int .i64 0, .int .i64 0, .slice none 0 0, .int .i64 0, .int .i64 0, .int .i64 0, .bool false]) := by kernel_rfl
theorem tfld_240_0 : tfld Go.Proofs.Tryz.prog 240 0 = some (238, 0) := by kernel_rfl
theorem fldA_240_0 : fldA Go.Proofs.Tryz.prog 240 0 = some 0 := by kernel_rfl
theorem tfld_240_1 : tfld Go.Proofs.Tryz.prog 240 1 = some (82, 1) := by kernel_rfl
theorem fldA_240_1 : fldA Go.Proofs.Tryz.prog 240 1 = some 1 := by kernel_rfl
theorem tfld_240_2 : tfld Go.Proofs.Tryz.prog 240 2 = some (3, 5) := by kernel_rfl
theorem fldA_240_2 : fldA Go.Proofs.Tryz.prog 240 2 = some 5 := by kernel_rfl
theorem tfld_240_3 : tfld Go.Proofs.Tryz.prog 240 3 = some (3, 6) := by kernel_rfl
theorem fldA_240_3 : fldA Go.Proofs.Tryz.prog 240 3 = some 6 := by kernel_rfl
theorem tfld_240_4 : tfld Go.Proofs.Tryz.prog 240 4 = some (3, 7) := by kernel_rfl
theorem fldA_240_4 : fldA Go.Proofs.Tryz.prog 240 4 = some 7 := by kernel_rfl
theorem tfld_240_5 : tfld Go.Proofs.Tryz.prog 240 5 = some (3, 8) := by kernel_rfl
theorem fldA_240_5 : fldA Go.Proofs.Tryz.prog 240 5 = some 8 := by kernel_rfl
theorem tfld_240_6 : tfld Go.Proofs.Tryz.prog 240 6 = some (3, 9) := by kernel_rfl
theorem fldA_240_6 : fldA Go.Proofs.Tryz.prog 240 6 = some 9 := by kernel_rfl
theorem tfld_240_7 : tfld Go.Proofs.Tryz.prog 240 7 = some (50, 10) := by kernel_rfl
theorem fldA_240_7 : fldA Go.Proofs.Tryz.prog 240 7 = some 10 := by kernel_rfl
theorem tfld_240_8 : tfld Go.Proofs.Tryz.prog 240 8 = some (3, 11) := by kernel_rfl
theorem fldA_240_8 : fldA Go.Proofs.Tryz.prog 240 8 = some 11 := by kernel_rfl
theorem tfld_240_9 : tfld Go.Proofs.Tryz.prog 240 9 = some (3, 12) := by kernel_rfl
theorem fldA_240_9 : fldA Go.Proofs.Tryz.prog 240 9 = some 12 := by kernel_rfl
theorem tfld_240_10 : tfld Go.Proofs.Tryz.prog 240 10 = some (3, 13) := by kernel_rfl
theorem fldA_240_10 : fldA Go.Proofs.Tryz.prog 240 10 = some 13 := by kernel_rfl
theorem tfld_240_11 : tfld Go.Proofs.Tryz.prog 240 11 = some (4, 14) := by kernel_rfl
theorem fldA_240_11 : fldA Go.Proofs.Tryz.prog 240 11 = some 14 := by kernel_rfl
theorem tok_241 : tok Go.Proofs.Tryz.prog 241 = true := by kernel_rfl
theorem tsz_241 : tsz Go.Proofs.Tryz.prog 241 = 1 := by kernel_rfl
theorem tby_241 : tbytes Go.Proofs.Tryz.prog 241 = 8 := by kernel_rfl
theorem tagg_241 : tagg Go.Proofs.Tryz.prog 241 = false := by kernel_rfl
theorem tconc_241 : tconc Go.Proofs.Tryz.prog 241 = true := by kernel_rfl
theorem tzero_241 : tzero Go.Proofs.Tryz.prog 241 = some .nilFunc := by kernel_rfl
theorem tok_242 : tok Go.Proofs.Tryz.prog 242 = true := by kernel_rfl
theorem tsz_242 : tsz Go.Proofs.Tryz.prog 242 = 1 := by kernel_rfl
theorem tby_242 : tbytes Go.Proofs.Tryz.prog 242 = 8 := by kernel_rfl
theorem tagg_242 : tagg Go.Proofs.Tryz.prog 242 = false := by kernel_rfl
theorem tconc_242 : tconc Go.Proofs.Tryz.prog 242 = true := by kernel_rfl
theorem tzero_242 : tzero Go.Proofs.Tryz.prog 242 = some .nilFunc := by kernel_rfl
theorem tok_243 : tok Go.Proofs.Tryz.prog 243 = true := by kernel_rfl
theorem tsz_243 : tsz Go.Proofs.Tryz.prog 243 = 1 := by kernel_rfl
theorem tby_243 : tbytes Go.Proofs.Tryz.prog 243 = 8 := by kernel_rfl
theorem tagg_243 : tagg Go.Proofs.Tryz.prog 243 = false := by kernel_rfl
theorem tconc_243 : tconc Go.Proofs.Tryz.prog 243 = true := by kernel_rfl
theorem tzero_243 : tzero Go.Proofs.Tryz.prog 243 = some .nilFunc := by kernel_rfl
theorem tok_244 : tok Go.Proofs.Tryz.prog 244 = true := by kernel_rfl
theorem tsz_244 : tsz Go.Proofs.Tryz.prog 244 = 1 := by kernel_rfl
theorem tby_244 : tbytes Go.Proofs.Tryz.prog 244 = 8 := by kernel_rfl
theorem tagg_244 : tagg Go.Proofs.Tryz.prog 244 = false := by kernel_rfl
theorem tconc_244 : tconc Go.Proofs.Tryz.prog 244 = true := by kernel_rfl
theorem tzero_244 : tzero Go.Proofs.Tryz.prog 244 = some .nilFunc := by kernel_rfl
theorem tok_245 : tok Go.Proofs.Tryz.prog 245 = true := by kernel_rfl
theorem tsz_245 : tsz Go.Proofs.Tryz.prog 245 = 1 := by kernel_rfl
theorem tby_245 : tbytes Go.Proofs.Tryz.prog 245 = 8 := by kernel_rfl
theorem tagg_245 : tagg Go.Proofs.Tryz.prog 245 = false := by kernel_rfl
theorem tconc_245 : tconc Go.Proofs.Tryz.prog 245 = true := by kernel_rfl
theorem tzero_245 : tzero Go.Proofs.Tryz.prog 245 = some .nilFunc := by kernel_rfl
theorem tok_246 : tok Go.Proofs.Tryz.prog 246 = true := by kernel_rfl
theorem tsz_246 : tsz Go.Proofs.Tryz.prog 246 = 1 := by kernel_rfl
theorem tby_246 : tbytes Go.Proofs.Tryz.prog 246 = 24 := by kernel_rfl
theorem tagg_246 : tagg Go.Proofs.Tryz.prog 246 = false := by kernel_rfl
theorem tconc_246 : tconc Go.Proofs.Tryz.prog 246 = true := by kernel_rfl
theorem tzero_246 : tzero Go.Proofs.Tryz.prog 246 = some (.slice none 0 0) := by kernel_rfl
theorem telem_246 : telem Go.Proofs.Tryz.prog 246 = some 251 := by kernel_rfl
theorem tok_247 : tok Go.Proofs.Tryz.prog 247 = true := by kernel_rfl
theorem tsz_247 : tsz Go.Proofs.Tryz.prog 247 = 4 := by kernel_rfl
theorem tby_247 : tbytes Go.Proofs.Tryz.prog 247 = 56 := by kernel_rfl
theorem tagg_247 : tagg Go.Proofs.Tryz.prog 247 = true := by kernel_rfl
theorem tconc_247 : tconc Go.Proofs.Tryz.prog 247 = true := by kernel_rfl
theorem tzero_247 : tzero Go.Proofs.Tryz.prog 247 = some (.agg #[.string { data := #[] }, .int .i64 0, .slice none 0 0, .bool false]) := by kernel_rfl
theorem tfld_247_0 : tfld Go.Proofs.Tryz.prog 247 0 = some (9, 0) := by kernel_rfl
theorem fldA_247_0 : fldA Go.Proofs.Tryz.prog 247 0 = some 0 := by kernel_rfl
theorem tfld_247_1 : tfld Go.Proofs.Tryz.prog 247 1 = some (3, 1) := by kernel_rfl
theorem fldA_247_1 : fldA Go.Proofs.Tryz.prog 247 1 = some 1 := by kernel_rfl
theorem tfld_247_2 : tfld Go.Proofs.Tryz.prog 247 2 = some (246, 2) := by kernel_rfl
theorem fldA_247_2 : fldA Go.Proofs.Tryz.prog 247 2 = some 2 := by kernel_rfl
theorem tfld_247_3 : tfld Go.Proofs.Tryz.prog 247 3 = some (4, 3) := by kernel_rfl
theorem fldA_247_3 : fldA Go.Proofs.Tryz.prog 247 3 = some 3 := by kernel_rfl
theorem tok_248 : tok Go.Proofs.Tryz.prog 248 = true := by kernel_rfl
theorem tsz_248 : tsz Go.Proofs.Tryz.prog 248 = 4 := by kernel_rfl
theorem tby_248 : tbytes Go.Proofs.Tryz.prog 248 = 56 := by kernel_rfl
theorem tagg_248 : tagg Go.Proofs.Tryz.prog 248 = true := by kernel_rfl
theorem tconc_248 : tconc Go.Proofs.Tryz.prog 248 = true := by kernel_rfl
theorem tzero_248 : tzero Go.Proofs.Tryz.prog 248 = some (.agg #[.string { data := #[] }, .int .i64 0, .slice none 0 0, .bool false]) := by kernel_rfl
theorem tfld_248_0 : tfld Go.Proofs.Tryz.prog 248 0 = some (9, 0) := by kernel_rfl
theorem fldA_248_0 : fldA Go.Proofs.Tryz.prog 248 0 = some 0 := by kernel_rfl
theorem tfld_248_1 : tfld Go.Proofs.Tryz.prog 248 1 = some (3, 1) := by kernel_rfl
theorem fldA_248_1 : fldA Go.Proofs.Tryz.prog 248 1 = some 1 := by kernel_rfl
theorem tfld_248_2 : tfld Go.Proofs.Tryz.prog 248 2 = some (246, 2) := by kernel_rfl
theorem fldA_248_2 : fldA Go.Proofs.Tryz.prog 248 2 = some 2 := by kernel_rfl
theorem tfld_248_3 : tfld Go.Proofs.Tryz.prog 248 3 = some (4, 3) := by kernel_rfl
theorem fldA_248_3 : fldA Go.Proofs.Tryz.prog 248 3 = some 3 := by kernel_rfl
theorem tok_249 : tok Go.Proofs.Tryz.prog 249 = true := by kernel_rfl
theorem tsz_249 : tsz Go.Proofs.Tryz.prog 249 = 1 := by kernel_rfl
theorem tby_249 : tbytes Go.Proofs.Tryz.prog 249 = 24 := by kernel_rfl
theorem tagg_249 : tagg Go.Proofs.Tryz.prog 249 = false := by kernel_rfl
theorem tconc_249 : tconc Go.Proofs.Tryz.prog 249 = true := by kernel_rfl
theorem tzero_249 : tzero Go.Proofs.Tryz.prog 249 = some (.slice none 0 0) := by kernel_rfl
theorem telem_249 : telem Go.Proofs.Tryz.prog 249 = some 248 := by kernel_rfl
theorem tok_250 : tok Go.Proofs.Tryz.prog 250 = true := by kernel_rfl
theorem tsz_250 : tsz Go.Proofs.Tryz.prog 250 = 1 := by kernel_rfl
theorem tby_250 : tbytes Go.Proofs.Tryz.prog 250 = 8 := by kernel_rfl
theorem tagg_250 : tagg Go.Proofs.Tryz.prog 250 = false := by kernel_rfl
theorem tconc_250 : tconc Go.Proofs.Tryz.prog 250 = true := by kernel_rfl
theorem tzero_250 : tzero Go.Proofs.Tryz.prog 250 = some .nilFunc := by kernel_rfl
theorem tok_251 : tok Go.Proofs.Tryz.prog 251 = true := by kernel_rfl
theorem tsz_251 : tsz Go.Proofs.Tryz.prog 251 = 2 := by kernel_rfl
theorem tby_251 : tbytes Go.Proofs.Tryz.prog 251 = 16 := by kernel_rfl
theorem tagg_251 : tagg Go.Proofs.Tryz.prog 251 = true := by kernel_rfl
theorem tconc_251 : tconc Go.Proofs.Tryz.prog 251 = true := by kernel_rfl
theorem tzero_251 : tzero Go.Proofs.Tryz.prog 251 = some (.agg #[.int .i64 0, .int .i64 0]) := by kernel_rfl
theorem tarr_251 : tarr Go.Proofs.Tryz.prog 251 = some (2, 3) := by kernel_rfl
theorem tok_252 : tok Go.Proofs.Tryz.prog 252 = true := by kernel_rfl
theorem tsz_252 : tsz Go.Proofs.Tryz.prog 252 = 1 := by kernel_rfl
theorem tby_252 : tbytes Go.Proofs.Tryz.prog 252 = 8 := by kernel_rfl
theorem tagg_252 : tagg Go.Proofs.Tryz.prog 252 = false := by kernel_rfl
theorem tconc_252 : tconc Go.Proofs.Tryz.prog 252 = true := by kernel_rfl
theorem tzero_252 : tzero Go.Proofs.Tryz.prog 252 = some .nilFunc := by kernel_rfl
theorem tok_253 : tok Go.Proofs.Tryz.prog 253 = true := by kernel_rfl
theorem tsz_253 : tsz Go.Proofs.Tryz.prog 253 = 1 := by kernel_rfl
theorem tby_253 : tbytes Go.Proofs.Tryz.prog 253 = 8 := by kernel_rfl
theorem tagg_253 : tagg Go.Proofs.Tryz.prog 253 = false := by kernel_rfl
theorem tconc_253 : tconc Go.Proofs.Tryz.prog 253 = true := by kernel_rfl
theorem tzero_253 : tzero Go.Proofs.Tryz.prog 253 = some .nilFunc := by kernel_rfl
theorem tok_254 : tok Go.Proofs.Tryz.prog 254 = true := by kernel_rfl
theorem tsz_254 : tsz Go.Proofs.Tryz.prog 254 = 1 := by kernel_rfl
theorem tby_254 : tbytes Go.Proofs.Tryz.prog 254 = 8 := by kernel_rfl
theorem tagg_254 : tagg Go.Proofs.Tryz.prog 254 = false := by kernel_rfl
theorem tconc_254 : tconc Go.Proofs.Tryz.prog 254 = true := by kernel_rfl
theorem tzero_254 : tzero Go.Proofs.Tryz.prog 254 = some .nilFunc := by kernel_rfl
theorem tok_255 : tok Go.Proofs.Tryz.prog 255 = true := by kernel_rfl
theorem tsz_255 : tsz Go.Proofs.Tryz.prog 255 = 1 := by kernel_rfl
theorem tby_255 : tbytes Go.Proofs.Tryz.prog 255 = 8 := by kernel_rfl
theorem tagg_255 : tagg Go.Proofs.Tryz.prog 255 = false := by kernel_rfl
theorem tconc_255 : tconc Go.Proofs.Tryz.prog 255 = true := by kernel_rfl
theorem tzero_255 : tzero Go.Proofs.Tryz.prog 255 = some .nilFunc := by kernel_rfl
theorem tok_256 : tok Go.Proofs.Tryz.prog 256 = true := by kernel_rfl
theorem tsz_256 : tsz Go.Proofs.Tryz.prog 256 = 1 := by kernel_rfl
theorem tby_256 : tbytes Go.Proofs.Tryz.prog 256 = 8 := by kernel_rfl
theorem tagg_256 : tagg Go.Proofs.Tryz.prog 256 = false := by kernel_rfl
theorem tconc_256 : tconc Go.Proofs.Tryz.prog 256 = true := by kernel_rfl
theorem tzero_256 : tzero Go.Proofs.Tryz.prog 256 = some .nilFunc := by kernel_rfl
theorem tok_257 : tok Go.Proofs.Tryz.prog 257 = true := by kernel_rfl
theorem tsz_257 : tsz Go.Proofs.Tryz.prog 257 = 1 := by kernel_rfl
theorem tby_257 : tbytes Go.Proofs.Tryz.prog 257 = 8 := by kernel_rfl
theorem tagg_257 : tagg Go.Proofs.Tryz.prog 257 = false := by kernel_rfl
theorem tconc_257 : tconc Go.Proofs.Tryz.prog 257 = true := by kernel_rfl
theorem tzero_257 : tzero Go.Proofs.Tryz.prog 257 = some .nilFunc := by kernel_rfl
theorem tok_258 : tok Go.Proofs.Tryz.prog 258 = true := by kernel_rfl
theorem tsz_258 : tsz Go.Proofs.Tryz.prog 258 = 12 := by kernel_rfl
theorem tby_258 : tbytes Go.Proofs.Tryz.prog 258 = 144 := by kernel_rfl
theorem tagg_258 : tagg Go.Proofs.Tryz.prog 258 = true := by kernel_rfl
theorem tconc_258 : tconc Go.Proofs.Tryz.prog 258 = true := by kernel_rfl
theorem tzero_258 : tzero Go.Proofs.Tryz.prog 258 = some (.agg #[.int .i64 0, .int .i64 0, .slice none 0 0, .slice none 0 0, .int .i64 0, .int .i64 0, .int .i64 0, .int .i64 0, .int .i64 0, .bool false, .int .i64 0, .slice none 0 0]) := by kernel_rfl
theorem tfld_258_0 : tfld Go.Proofs.Tryz.prog 258 0 = some (82, 0) := by kernel_rfl
theorem fldA_258_0 : fldA Go.Proofs.Tryz.prog 258 0 = some 0 := by kernel_rfl
theorem tfld_258_1 : tfld Go.Proofs.Tryz.prog 258 1 = some (3, 4) := by kernel_rfl
theorem fldA_258_1 : fldA Go.Proofs.Tryz.prog 258 1 = some 4 := by kernel_rfl
theorem tfld_258_2 : tfld Go.Proofs.Tryz.prog 258 2 = some (3, 5) := by kernel_rfl
theorem fldA_258_2 : fldA Go.Proofs.Tryz.prog 258 2 = some 5 := by kernel_rfl
theorem tfld_258_3 : tfld Go.Proofs.Tryz.prog 258 3 = some (3, 6) := by kernel_rfl
theorem fldA_258_3 : fldA Go.Proofs.Tryz.prog 258 3 = some 6 := by kernel_rfl
theorem tfld_258_4 : tfld Go.Proofs.Tryz.prog 258 4 = some (3, 7) := by kernel_rfl
theorem fldA_258_4 : fldA Go.Proofs.Tryz.prog 258 4 = some 7 := by kernel_rfl
theorem tfld_258_5 : tfld Go.Proofs.Tryz.prog 258 5 = some (3, 8) := by kernel_rfl
theorem fldA_258_5 : fldA Go.Proofs.Tryz.prog 258 5 = some 8 := by kernel_rfl
theorem tfld_258_6 : tfld Go.Proofs.Tryz.prog 258 6 = some (4, 9) := by kernel_rfl
theorem fldA_258_6 : fldA Go.Proofs.Tryz.prog 258 6 = some 9 := by kernel_rfl
theorem tfld_258_7 : tfld Go.Proofs.Tryz.prog 258 7 = some (3, 10) := by kernel_rfl
theorem fldA_258_7 : fldA Go.Proofs.Tryz.prog 258 7 = some 10 := by kernel_rfl
theorem tfld_258_8 : tfld Go.Proofs.Tryz.prog 258 8 = some (50, 11) := by kernel_rfl
theorem fldA_258_8 : fldA Go.Proofs.Tryz.prog 258 8 = some 11 := by kernel_rfl
theorem tok_259 : tok Go.Proofs.Tryz.prog 259 = true := by kernel_rfl
theorem tsz_259 : tsz Go.Proofs.Tryz.prog 259 = 12 := by kernel_rfl
theorem tby_259 : tbytes Go.Proofs.Tryz.prog 259 = 144 := by kernel_rfl
theorem tagg_259 : tagg Go.Proofs.Tryz.prog 259 = true := by kernel_rfl
theorem tconc_259 : tconc Go.Proofs.Tryz.prog 259 = true := by kernel_rfl
theorem tzero_259 : tzero Go.Proofs.Tryz.prog 259 = some (.agg #[.int .i64 0, .int .i64 0, .slice none 0 0, .slice none 0 0, .int .i64 0, .int .i64 0, .int .i64 0, .int .i64 0, .int .i64 0, .bool false, .int .i64 0, .slice none 0 0]) := by kernel_rfl
theorem tfld_259_0 : tfld Go.Proofs.Tryz.prog 259 0 = some (82, 0) := by kernel_rfl
theorem fldA_259_0 : fldA Go.Proofs.Tryz.prog 259 0 = some 0 := by kernel_rfl
theorem tfld_259_1 : tfld Go.Proofs.Tryz.prog 259 1 = some (3, 4) := by kernel_rfl
theorem fldA_259_1 : fldA Go.Proofs.Tryz.prog 259 1 = some 4 := by kernel_rfl
theorem tfld_259_2 : tfld Go.Proofs.Tryz.prog 259 2 = some (3, 5) := by kernel_rfl
theorem fldA_259_2 : fldA Go.Proofs.Tryz.prog 259 2 = some 5 := by kernel_rfl
theorem tfld_259_3 : tfld Go.Proofs.Tryz.prog 259 3 = some (3, 6) := by kernel_rfl
theorem fldA_259_3 : fldA Go.Proofs.Tryz.prog 259 3 = some 6 := by kernel_rfl
theorem tfld_259_4 : tfld Go.Proofs.Tryz.prog 259 4 = some (3, 7) := by kernel_rfl
theorem fldA_259_4 : fldA Go.Proofs.Tryz.prog 259 4 = some 7 := by kernel_rfl
theorem tfld_259_5 : tfld Go.Proofs.Tryz.prog 259 5 = some (3, 8) := by kernel_rfl
theorem fldA_259_5 : fldA Go.Proofs.Tryz.prog 259 5 = some 8 := by kernel_rfl
theorem tfld_259_6 : tfld Go.Proofs.Tryz.prog 259 6 = some (4, 9) := by kernel_rfl
theorem fldA_259_6 : fldA Go.Proofs.Tryz.prog 259 6 = some 9 := by kernel_rfl
theorem tfld_259_7 : tfld Go.Proofs.Tryz.prog 259 7 = some (3, 10) := by kernel_rfl
theorem fldA_259_7 : fldA Go.Proofs.Tryz.prog 259 7 = some 10 := by kernel_rfl
theorem tfld_259_8 : tfld Go.Proofs.Tryz.prog 259 8 = some (50, 11) := by kernel_rfl
theorem fldA_259_8 : fldA Go.Proofs.Tryz.prog 259 8 = some 11 := by kernel_rfl
theorem tok_260 : tok Go.Proofs.Tryz.prog 260 = true := by kernel_rfl
theorem tsz_260 : tsz Go.Proofs.Tryz.prog 260 = 1 := by kernel_rfl
theorem tby_260 : tbytes Go.Proofs.Tryz.prog 260 = 0 := by kernel_rfl
theorem tagg_260 : tagg Go.Proofs.Tryz.prog 260 = false := by kernel_rfl
theorem tconc_260 : tconc Go.Proofs.Tryz.prog 260 = true := by kernel_rfl
theorem tzero_260 : tzero Go.Proofs.Tryz.prog 260 = some (.tuple #[.agg #[.int .i64 0, .int .i64 0, .slice none 0 0, .slice none 0 0, .int .i64 0, .int .i64 0, .int .i64 0, .int .i64 0, .int .i64 0, .bool false, .int .i64 0, .slice none 0 0], .int .i64 0]) := by kernel_rfl
theorem tok_261 : tok Go.Proofs.Tryz.prog 261 = true := by kernel_rfl
theorem tsz_261 : tsz Go.Proofs.Tryz.prog 261 = 1 := by kernel_rfl
theorem tby_261 : tbytes Go.Proofs.Tryz.prog 261 = 8 := by kernel_rfl
theorem tagg_261 : tagg Go.Proofs.Tryz.prog 261 = false := by kernel_rfl
theorem tconc_261 : tconc Go.Proofs.Tryz.prog 261 = true := by kernel_rfl
theorem tzero_261 : tzero Go.Proofs.Tryz.prog 261 = some .nilFunc := by kernel_rfl
theorem tok_262 : tok Go.Proofs.Tryz.prog 262 = true := by kernel_rfl
theorem tsz_262 : tsz Go.Proofs.Tryz.prog 262 = 1 := by kernel_rfl
theorem tby_262 : tbytes Go.Proofs.Tryz.prog 262 = 8 := by kernel_rfl
theorem tagg_262 : tagg Go.Proofs.Tryz.prog 262 = false := by kernel_rfl
theorem tconc_262 : tconc Go.Proofs.Tryz.prog 262 = true := by kernel_rfl
theorem tzero_262 : tzero Go.Proofs.Tryz.prog 262 = some (.int .u64 0) := by kernel_rfl
theorem tkind_262 : tkind Go.Proofs.Tryz.prog 262 = some .u64 := by kernel_rfl
theorem tok_263 : tok Go.Proofs.Tryz.prog 263 = true := by kernel_rfl
theorem tsz_263 : tsz Go.Proofs.Tryz.prog 263 = 1 := by kernel_rfl
theorem tby_263 : tbytes Go.Proofs.Tryz.prog 263 = 8 := by kernel_rfl
theorem tagg_263 : tagg Go.Proofs.Tryz.prog 263 = false := by kernel_rfl
theorem tconc_263 : tconc Go.Proofs.Tryz.prog 263 = true := by kernel_rfl
theorem tzero_263 : tzero Go.Proofs.Tryz.prog 263 = some .nilFunc := by kernel_rfl
theorem tok_264 : tok Go.Proofs.Tryz.prog 264 = true := by kernel_rfl
theorem tsz_264 : tsz Go.Proofs.Tryz.prog 264 = 1 := by kernel_rfl
theorem tby_264 : tbytes Go.Proofs.Tryz.prog 264 = 8 := by kernel_rfl
theorem tagg_264 : tagg Go.Proofs.Tryz.prog 264 = false := by kernel_rfl
theorem tconc_264 : tconc Go.Proofs.Tryz.prog 264 = true := by kernel_rfl
theorem tzero_264 : tzero Go.Proofs.Tryz.prog 264 = some .nilFunc := by kernel_rfl
theorem tok_265 : tok Go.Proofs.Tryz.prog 265 = true := by kernel_rfl
theorem tsz_265 : tsz Go.Proofs.Tryz.prog 265 = 1 := by kernel_rfl
theorem tby_265 : tbytes Go.Proofs.Tryz.prog 265 = 8 := by kernel_rfl
theorem tagg_265 : tagg Go.Proofs.Tryz.prog 265 = false := by kernel_rfl
theorem tconc_265 : tconc Go.Proofs.Tryz.prog 265 = true := by kernel_rfl
theorem tzero_265 : tzero Go.Proofs.Tryz.prog 265 = some .nilFunc := by kernel_rfl
theorem tok_266 : tok Go.Proofs.Tryz.prog 266 = true := by kernel_rfl
theorem tsz_266 : tsz Go.Proofs.Tryz.prog 266 = 1 := by kernel_rfl
theorem tby_266 : tbytes Go.Proofs.Tryz.prog 266 = 8 := by kernel_rfl
theorem tagg_266 : tagg Go.Proofs.Tryz.prog 266 = false := by kernel_rfl
theorem tconc_266 : tconc Go.Proofs.Tryz.prog 266 = true := by kernel_rfl
theorem tzero_266 : tzero Go.Proofs.Tryz.prog 266 = some (.pointer none) := by kernel_rfl
theorem tptr_266 : tptr Go.Proofs.Tryz.prog 266 = true := by kernel_rfl
theorem tok_267 : tok Go.Proofs.Tryz.prog 267 = true := by kernel_rfl
theorem tsz_267 : tsz Go.Proofs.Tryz.prog 267 = 1 := by kernel_rfl
theorem tby_267 : tbytes Go.Proofs.Tryz.prog 267 = 8 := by kernel_rfl
theorem tagg_267 : tagg Go.Proofs.Tryz.prog 267 = false := by kernel_rfl
theorem tconc_267 : tconc Go.Proofs.Tryz.prog 267 = true := by kernel_rfl
theorem tzero_267 : tzero Go.Proofs.Tryz.prog 267 = some .nilFunc := by kernel_rfl
theorem tok_268 : tok Go.Proofs.Tryz.prog 268 = true := by kernel_rfl
theorem tsz_268 : tsz Go.Proofs.Tryz.prog 268 = 1 := by kernel_rfl
theorem tby_268 : tbytes Go.Proofs.Tryz.prog 268 = 8 := by kernel_rfl
theorem tagg_268 : tagg Go.Proofs.Tryz.prog 268 = false := by kernel_rfl
theorem tconc_268 : tconc Go.Proofs.Tryz.prog 268 = true := by kernel_rfl
theorem tzero_268 : tzero Go.Proofs.Tryz.prog 268 = some .nilFunc := by kernel_rfl
theorem tok_269 : tok Go.Proofs.Tryz.prog 269 = true := by kernel_rfl
theorem tsz_269 : tsz Go.Proofs.Tryz.prog 269 = 1 := by kernel_rfl
theorem tby_269 : tbytes Go.Proofs.Tryz.prog 269 = 8 := by kernel_rfl
theorem tagg_269 : tagg Go.Proofs.Tryz.prog 269 = false := by kernel_rfl
theorem tconc_269 : tconc Go.Proofs.Tryz.prog 269 = true := by kernel_rfl
theorem tzero_269 : tzero Go.Proofs.Tryz.prog 269 = some .nilFunc := by kernel_rfl
theorem tok_270 : tok Go.Proofs.Tryz.prog 270 = true := by kernel_rfl
theorem tsz_270 : tsz Go.Proofs.Tryz.prog 270 = 1 := by kernel_rfl
theorem tby_270 : tbytes Go.Proofs.Tryz.prog 270 = 8 := by kernel_rfl
theorem tagg_270 : tagg Go.Proofs.Tryz.prog 270 = false := by kernel_rfl
theorem tconc_270 : tconc Go.Proofs.Tryz.prog 270 = true := by kernel_rfl
theorem tzero_270 : tzero Go.Proofs.Tryz.prog 270 = some .nilFunc := by kernel_rfl
theorem tok_271 : tok Go.Proofs.Tryz.prog 271 = true := by kernel_rfl
theorem tsz_271 : tsz Go.Proofs.Tryz.prog 271 = 1 := by kernel_rfl
theorem tby_271 : tbytes Go.Proofs.Tryz.prog 271 = 8 := by kernel_rfl
theorem tagg_271 : tagg Go.Proofs.Tryz.prog 271 = false := by kernel_rfl
theorem tconc_271 : tconc Go.Proofs.Tryz.prog 271 = true := by kernel_rfl
theorem tzero_271 : tzero Go.Proofs.Tryz.prog 271 = some .nilFunc := by kernel_rfl
theorem tok_272 : tok Go.Proofs.Tryz.prog 272 = true := by kernel_rfl
theorem tsz_272 : tsz Go.Proofs.Tryz.prog 272 = 1 := by kernel_rfl
theorem tby_272 : tbytes Go.Proofs.Tryz.prog 272 = 8 := by kernel_rfl
theorem tagg_272 : tagg Go.Proofs.Tryz.prog 272 = false := by kernel_rfl
theorem tconc_272 : tconc Go.Proofs.Tryz.prog 272 = true := by kernel_rfl
theorem tzero_272 : tzero Go.Proofs.Tryz.prog 272 = some .nilFunc := by kernel_rfl
theorem tok_273 : tok Go.Proofs.Tryz.prog 273 = true := by kernel_rfl
theorem tsz_273 : tsz Go.Proofs.Tryz.prog 273 = 1 := by kernel_rfl
theorem tby_273 : tbytes Go.Proofs.Tryz.prog 273 = 8 := by kernel_rfl
theorem tagg_273 : tagg Go.Proofs.Tryz.prog 273 = false := by kernel_rfl
theorem tconc_273 : tconc Go.Proofs.Tryz.prog 273 = true := by kernel_rfl
theorem tzero_273 : tzero Go.Proofs.Tryz.prog 273 = some .nilFunc := by kernel_rfl
theorem tok_274 : tok Go.Proofs.Tryz.prog 274 = true := by kernel_rfl
theorem tsz_274 : tsz Go.Proofs.Tryz.prog 274 = 1 := by kernel_rfl
theorem tby_274 : tbytes Go.Proofs.Tryz.prog 274 = 8 := by kernel_rfl
theorem tagg_274 : tagg Go.Proofs.Tryz.prog 274 = false := by kernel_rfl
theorem tconc_274 : tconc Go.Proofs.Tryz.prog 274 = true := by kernel_rfl
theorem tzero_274 : tzero Go.Proofs.Tryz.prog 274 = some .nilFunc := by kernel_rfl
theorem tok_275 : tok Go.Proofs.Tryz.prog 275 = true := by kernel_rfl
theorem tsz_275 : tsz Go.Proofs.Tryz.prog 275 = 1 := by kernel_rfl
theorem tby_275 : tbytes Go.Proofs.Tryz.prog 275 = 8 := by kernel_rfl
theorem tagg_275 : tagg Go.Proofs.Tryz.prog 275 = false := by kernel_rfl
theorem tconc_275 : tconc Go.Proofs.Tryz.prog 275 = true := by kernel_rfl
theorem tzero_275 : tzero Go.Proofs.Tryz.prog 275 = some .nilFunc := by kernel_rfl
theorem tok_276 : tok Go.Proofs.Tryz.prog 276 = true := by kernel_rfl
theorem tsz_276 : tsz Go.Proofs.Tryz.prog 276 = 1 := by kernel_rfl
theorem tby_276 : tbytes Go.Proofs.Tryz.prog 276 = 8 := by kernel_rfl
theorem tagg_276 : tagg Go.Proofs.Tryz.prog 276 = false := by kernel_rfl
theorem tconc_276 : tconc Go.Proofs.Tryz.prog 276 = true := by kernel_rfl
theorem tzero_276 : tzero Go.Proofs.Tryz.prog 276 = some .nilFunc := by kernel_rfl
theorem tok_277 : tok Go.Proofs.Tryz.prog 277 = true := by kernel_rfl
theorem tsz_277 : tsz Go.Proofs.Tryz.prog 277 = 1 := by kernel_rfl
theorem tby_277 : tbytes Go.Proofs.Tryz.prog 277 = 24 := by kernel_rfl
theorem tagg_277 : tagg Go.Proofs.Tryz.prog 277 = false := by kernel_rfl
theorem tconc_277 : tconc Go.Proofs.Tryz.prog 277 = true := by kernel_rfl
theorem tzero_277 : tzero Go.Proofs.Tryz.prog 277 = some (.slice none 0 0) := by kernel_rfl
theorem telem_277 : telem Go.Proofs.Tryz.prog 277 = some 276 := by kernel_rfl
theorem tok_278 : tok Go.Proofs.Tryz.prog 278 = true := by kernel_rfl
theorem tsz_278 : tsz Go.Proofs.Tryz.prog 278 = 1 := by kernel_rfl
theorem tby_278 : tbytes Go.Proofs.Tryz.prog 278 = 8 := by kernel_rfl
theorem tagg_278 : tagg Go.Proofs.Tryz.prog 278 = false := by kernel_rfl
theorem tconc_278 : tconc Go.Proofs.Tryz.prog 278 = true := by kernel_rfl
theorem tzero_278 : tzero Go.Proofs.Tryz.prog 278 = some .nilFunc := by kernel_rfl
theorem tok_279 : tok Go.Proofs.Tryz.prog 279 = true := by kernel_rfl
theorem tsz_279 : tsz Go.Proofs.Tryz.prog 279 = 1 := by kernel_rfl
theorem tby_279 : tbytes Go.Proofs.Tryz.prog 279 = 8 := by kernel_rfl
theorem tagg_279 : tagg Go.Proofs.Tryz.prog 279 = false := by kernel_rfl
theorem tconc_279 : tconc Go.Proofs.Tryz.prog 279 = true := by kernel_rfl
theorem tzero_279 : tzero Go.Proofs.Tryz.prog 279 = some (.map none) := by kernel_rfl
theorem tok_280 : tok Go.Proofs.Tryz.prog 280 = true := by kernel_rfl
theorem tsz_280 : tsz Go.Proofs.Tryz.prog 280 = 1 := by kernel_rfl
theorem tby_280 : tbytes Go.Proofs.Tryz.prog 280 = 8 := by kernel_rfl
theorem tagg_280 : tagg Go.Proofs.Tryz.prog 280 = false := by kernel_rfl
theorem tconc_280 : tconc Go.Proofs.Tryz.prog 280 = true := by kernel_rfl
theorem tzero_280 : tzero Go.Proofs.Tryz.prog 280 = some .nilFunc := by kernel_rfl
theorem tok_281 : tok Go.Proofs.Tryz.prog 281 = true := by kernel_rfl
theorem tsz_281 : tsz Go.Proofs.Tryz.prog 281 = 1 := by kernel_rfl
theorem tby_281 : tbytes Go.Proofs.Tryz.prog 281 = 0 := by kernel_rfl
theorem tagg_281 : tagg Go.Proofs.Tryz.prog 281 = false := by kernel_rfl
theorem tconc_281 : tconc Go.Proofs.Tryz.prog 281 = true := by kernel_rfl
theorem tzero_281 : tzero Go.Proofs.Tryz.prog 281 = some (.tuple #[.pointer none, .bool false]) := by kernel_rfl
theorem tok_282 : tok Go.Proofs.Tryz.prog 282 = true := by kernel_rfl
theorem tsz_282 : tsz Go.Proofs.Tryz.prog 282 = 1 := by kernel_rfl
theorem tby_282 : tbytes Go.Proofs.Tryz.prog 282 = 8 := by kernel_rfl
theorem tagg_282 : tagg Go.Proofs.Tryz.prog 282 = false := by kernel_rfl
theorem tconc_282 : tconc Go.Proofs.Tryz.prog 282 = true := by kernel_rfl
theorem tzero_282 : tzero Go.Proofs.Tryz.prog 282 = some .nilFunc := by kernel_rfl
theorem tok_283 : tok Go.Proofs.Tryz.prog 283 = true := by kernel_rfl
theorem tsz_283 : tsz Go.Proofs.Tryz.prog 283 = 1 := by kernel_rfl
theorem tby_283 : tbytes Go.Proofs.Tryz.prog 283 = 8 := by kernel_rfl
theorem tagg_283 : tagg Go.Proofs.Tryz.prog 283 = false := by kernel_rfl
theorem tconc_283 : tconc Go.Proofs.Tryz.prog 283 = true := by kernel_rfl
theorem tzero_283 : tzero Go.Proofs.Tryz.prog 283 = some .nilFunc := by kernel_rfl
theorem tok_284 : tok Go.Proofs.Tryz.prog 284 = true := by kernel_rfl
theorem tsz_284 : tsz Go.Proofs.Tryz.prog 284 = 1 := by kernel_rfl
theorem tby_284 : tbytes Go.Proofs.Tryz.prog 284 = 8 := by kernel_rfl
theorem tagg_284 : tagg Go.Proofs.Tryz.prog 284 = false := by kernel_rfl
theorem tconc_284 : tconc Go.Proofs.Tryz.prog 284 = true := by kernel_rfl
theorem tzero_284 : tzero Go.Proofs.Tryz.prog 284 = some .nilFunc := by kernel_rfl
theorem tok_285 : tok Go.Proofs.Tryz.prog 285 = true := by kernel_rfl
theorem tsz_285 : tsz Go.Proofs.Tryz.prog 285 = 1 := by kernel_rfl
theorem tby_285 : tbytes Go.Proofs.Tryz.prog 285 = 0 := by kernel_rfl
theorem tagg_285 : tagg Go.Proofs.Tryz.prog 285 = false := by kernel_rfl
theorem tconc_285 : tconc Go.Proofs.Tryz.prog 285 = true := by kernel_rfl
theorem tzero_285 : tzero Go.Proofs.Tryz.prog 285 = some (.tuple #[.agg #[.int .i64 0, .int .i64 0, .slice none 0 0, .slice none 0 0, .int .i64 0, .int .i64 0, .int .i64 0, .int .i64 0, .int .i64 0, .bool false, .int .i64 0, .slice none 0 0], .int .i64 0]) := by kernel_rfl
theorem tok_286 : tok Go.Proofs.Tryz.prog 286 = true := by kernel_rfl
theorem tsz_286 : tsz Go.Proofs.Tryz.prog 286 = 1 := by kernel_rfl
theorem tby_286 : tbytes Go.Proofs.Tryz.prog 286 = 8 := by kernel_rfl
theorem tagg_286 : tagg Go.Proofs.Tryz.prog 286 = false := by kernel_rfl
theorem tconc_286 : tconc Go.Proofs.Tryz.prog 286 = true := by kernel_rfl
theorem tzero_286 : tzero Go.Proofs.Tryz.prog 286 = some .nilFunc := by kernel_rfl
theorem tok_287 : tok Go.Proofs.Tryz.prog 287 = true := by kernel_rfl
theorem tsz_287 : tsz Go.Proofs.Tryz.prog 287 = 1 := by kernel_rfl
theorem tby_287 : tbytes Go.Proofs.Tryz.prog 287 = 8 := by kernel_rfl
theorem tagg_287 : tagg Go.Proofs.Tryz.prog 287 = false := by kernel_rfl
theorem tconc_287 : tconc Go.Proofs.Tryz.prog 287 = true := by kernel_rfl
theorem tzero_287 : tzero Go.Proofs.Tryz.prog 287 = some (.pointer none) := by kernel_rfl
theorem tptr_287 : tptr Go.Proofs.Tryz.prog 287 = true := by kernel_rfl
theorem meth_287_Next : methB Go.Proofs.Tryz.prog 287 "Next" = some 184 := by kernel_rfl
theorem tok_288 : tok Go.Proofs.Tryz.prog 288 = true := by kernel_rfl
theorem tsz_288 : tsz Go.Proofs.Tryz.prog 288 = 1 := by kernel_rfl
theorem tby_288 : tbytes Go.Proofs.Tryz.prog 288 = 8 := by kernel_rfl
theorem tagg_288 : tagg Go.Proofs.Tryz.prog 288 = false := by kernel_rfl
theorem tconc_288 : tconc Go.Proofs.Tryz.prog 288 = true := by kernel_rfl
theorem tzero_288 : tzero Go.Proofs.Tryz.prog 288 = some .nilFunc := by kernel_rfl
theorem tok_289 : tok Go.Proofs.Tryz.prog 289 = true := by kernel_rfl
theorem tsz_289 : tsz Go.Proofs.Tryz.prog 289 = 1 := by kernel_rfl
theorem tby_289 : tbytes Go.Proofs.Tryz.prog 289 = 8 := by kernel_rfl
theorem tagg_289 : tagg Go.Proofs.Tryz.prog 289 = false := by kernel_rfl
theorem tconc_289 : tconc Go.Proofs.Tryz.prog 289 = true := by kernel_rfl
theorem tzero_289 : tzero Go.Proofs.Tryz.prog 289 = some .nilFunc := by kernel_rfl
theorem tok_290 : tok Go.Proofs.Tryz.prog 290 = true := by kernel_rfl
theorem tsz_290 : tsz Go.Proofs.Tryz.prog 290 = 1 := by kernel_rfl
theorem tby_290 : tbytes Go.Proofs.Tryz.prog 290 = 8 := by kernel_rfl
theorem tagg_290 : tagg Go.Proofs.Tryz.prog 290 = false := by kernel_rfl
theorem tconc_290 : tconc Go.Proofs.Tryz.prog 290 = true := by kernel_rfl
theorem tzero_290 : tzero Go.Proofs.Tryz.prog 290 = some .nilFunc := by kernel_rfl
theorem tok_291 : tok Go.Proofs.Tryz.prog 291 = true := by kernel_rfl
theorem tsz_291 : tsz Go.Proofs.Tryz.prog 291 = 1 := by kernel_rfl
theorem tby_291 : tbytes Go.Proofs.Tryz.prog 291 = 8 := by kernel_rfl
theorem tagg_291 : tagg Go.Proofs.Tryz.prog 291 = false := by kernel_rfl
theorem tconc_291 : tconc Go.Proofs.Tryz.prog 291 = true := by kernel_rfl
theorem tzero_291 : tzero Go.Proofs.Tryz.prog 291 = some .nilFunc := by kernel_rfl
theorem tok_292 : tok Go.Proofs.Tryz.prog 292 = true := by kernel_rfl
theorem tsz_292 : tsz Go.Proofs.Tryz.prog 292 = 1 := by kernel_rfl
theorem tby_292 : tbytes Go.Proofs.Tryz.prog 292 = 8 := by kernel_rfl
theorem tagg_292 : tagg Go.Proofs.Tryz.prog 292 = false := by kernel_rfl
theorem tconc_292 : tconc Go.Proofs.Tryz.prog 292 = true := by kernel_rfl
theorem tzero_292 : tzero Go.Proofs.Tryz.prog 292 = some .nilFunc := by kernel_rfl
theorem tok_293 : tok Go.Proofs.Tryz.prog 293 = true := by kernel_rfl
theorem tsz_293 : tsz Go.Proofs.Tryz.prog 293 = 1 := by kernel_rfl
theorem tby_293 : tbytes Go.Proofs.Tryz.prog 293 = 8 := by kernel_rfl
theorem tagg_293 : tagg Go.Proofs.Tryz.prog 293 = false := by kernel_rfl
theorem tconc_293 : tconc Go.Proofs.Tryz.prog 293 = true := by kernel_rfl
theorem tzero_293 : tzero Go.Proofs.Tryz.prog 293 = some .nilFunc := by kernel_rfl
theorem tok_294 : tok Go.Proofs.Tryz.prog 294 = true := by kernel_rfl
theorem tsz_294 : tsz Go.Proofs.Tryz.prog 294 = 1 := by kernel_rfl
theorem tby_294 : tbytes Go.Proofs.Tryz.prog 294 = 8 := by kernel_rfl
theorem tagg_294 : tagg Go.Proofs.Tryz.prog 294 = false := by kernel_rfl
theorem tconc_294 : tconc Go.Proofs.Tryz.prog 294 = true := by kernel_rfl
theorem tzero_294 : tzero Go.Proofs.Tryz.prog 294 = some .nilFunc := by kernel_rfl
theorem tok_295 : tok Go.Proofs.Tryz.prog 295 = true := by kernel_rfl
theorem tsz_295 : tsz Go.Proofs.Tryz.prog 295 = 1 := by kernel_rfl
theorem tby_295 : tbytes Go.Proofs.Tryz.prog 295 = 8 := by kernel_rfl
theorem tagg_295 : tagg Go.Proofs.Tryz.prog 295 = false := by kernel_rfl
theorem tconc_295 : tconc Go.Proofs.Tryz.prog 295 = true := by kernel_rfl
theorem tzero_295 : tzero Go.Proofs.Tryz.prog 295 = some .nilFunc := by kernel_rfl
theorem tok_296 : tok Go.Proofs.Tryz.prog 296 = true := by kernel_rfl
theorem tsz_296 : tsz Go.Proofs.Tryz.prog 296 = 1 := by kernel_rfl
theorem tby_296 : tbytes Go.Proofs.Tryz.prog 296 = 8 := by kernel_rfl
theorem tagg_296 : tagg Go.Proofs.Tryz.prog 296 = false := by kernel_rfl
theorem tconc_296 : tconc Go.Proofs.Tryz.prog 296 = true := by kernel_rfl
theorem tzero_296 : tzero Go.Proofs.Tryz.prog 296 = some .nilFunc := by kernel_rfl
theorem tok_297 : tok Go.Proofs.Tryz.prog 297 = true := by kernel_rfl
theorem tsz_297 : tsz Go.Proofs.Tryz.prog 297 = 1 := by kernel_rfl
theorem tby_297 : tbytes Go.Proofs.Tryz.prog 297 = 8 := by kernel_rfl
theorem tagg_297 : tagg Go.Proofs.Tryz.prog 297 = false := by kernel_rfl
theorem tconc_297 : tconc Go.Proofs.Tryz.prog 297 = true := by kernel_rfl
theorem tzero_297 : tzero Go.Proofs.Tryz.prog 297 = some .nilFunc := by kernel_rfl
theorem tok_298 : tok Go.Proofs.Tryz.prog 298 = true := by kernel_rfl
theorem tsz_298 : tsz Go.Proofs.Tryz.prog 298 = 1 := by kernel_rfl
theorem tby_298 : tbytes Go.Proofs.Tryz.prog 298 = 8 := by kernel_rfl
theorem tagg_298 : tagg Go.Proofs.Tryz.prog 298 = false := by kernel_rfl
theorem tconc_298 : tconc Go.Proofs.Tryz.prog 298 = true := by kernel_rfl
theorem tzero_298 : tzero Go.Proofs.Tryz.prog 298 = some (.pointer none) := by kernel_rfl
theorem tptr_298 : tptr Go.Proofs.Tryz.prog 298 = true := by kernel_rfl
theorem meth_298_continuo_unit_on : methB Go.Proofs.Tryz.prog 298 "continuo/unit.on" = some 216 := by kernel_rfl
theorem tok_299 : tok Go.Proofs.Tryz.prog 299 = true := by kernel_rfl
theorem tsz_299 : tsz Go.Proofs.Tryz.prog 299 = 1 := by kernel_rfl
theorem tby_299 : tbytes Go.Proofs.Tryz.prog 299 = 0 := by kernel_rfl
theorem tagg_299 : tagg Go.Proofs.Tryz.prog 299 = false := by kernel_rfl
theorem tconc_299 : tconc Go.Proofs.Tryz.prog 299 = true := by kernel_rfl
theorem tzero_299 : tzero Go.Proofs.Tryz.prog 299 = some (.tuple #[.int .u64 0, .int .u64 0]) := by kernel_rfl
theorem tok_300 : tok Go.Proofs.Tryz.prog 300 = true := by kernel_rfl
theorem tsz_300 : tsz Go.Proofs.Tryz.prog 300 = 1 := by kernel_rfl
theorem tby_300 : tbytes Go.Proofs.Tryz.prog 300 = 8 := by kernel_rfl
theorem tagg_300 : tagg Go.Proofs.Tryz.prog 300 = false := by kernel_rfl
theorem tconc_300 : tconc Go.Proofs.Tryz.prog 300 = true := by kernel_rfl
theorem tzero_300 : tzero Go.Proofs.Tryz.prog 300 = some .nilFunc := by kernel_rfl
theorem tok_301 : tok Go.Proofs.Tryz.prog 301 = true := by kernel_rfl
theorem tsz_301 : tsz Go.Proofs.Tryz.prog 301 = 1 := by kernel_rfl
theorem tby_301 : tbytes Go.Proofs.Tryz.prog 301 = 8 := by kernel_rfl
theorem tagg_301 : tagg Go.Proofs.Tryz.prog 301 = false := by kernel_rfl
theorem tconc_301 : tconc Go.Proofs.Tryz.prog 301 = true := by kernel_rfl
theorem tzero_301 : tzero Go.Proofs.Tryz.prog 301 = some .nilFunc := by kernel_rfl
theorem tok_302 : tok Go.Proofs.Tryz.prog 302 = true := by kernel_rfl
theorem tsz_302 : tsz Go.Proofs.Tryz.prog 302 = 1 := by kernel_rfl
theorem tby_302 : tbytes Go.Proofs.Tryz.prog 302 = 8 := by kernel_rfl
theorem tagg_302 : tagg Go.Proofs.Tryz.prog 302 = false := by kernel_rfl
theorem tconc_302 : tconc Go.Proofs.Tryz.prog 302 = true := by kernel_rfl
theorem tzero_302 : tzero Go.Proofs.Tryz.prog 302 = some .nilFunc := by kernel_rfl
theorem tok_303 : tok Go.Proofs.Tryz.prog 303 = true := by kernel_rfl
theorem tsz_303 : tsz Go.Proofs.Tryz.prog 303 = 1 := by kernel_rfl
theorem tby_303 : tbytes Go.Proofs.Tryz.prog 303 = 8 := by kernel_rfl
theorem tagg_303 : tagg Go.Proofs.Tryz.prog 303 = false := by kernel_rfl
theorem tconc_303 : tconc Go.Proofs.Tryz.prog 303 = true := by kernel_rfl
theorem tzero_303 : tzero Go.Proofs.Tryz.prog 303 = some .nilFunc := by kernel_rfl
theorem tok_304 : tok Go.Proofs.Tryz.prog 304 = true := by kernel_rfl
theorem tsz_304 : tsz Go.Proofs.Tryz.prog 304 = 1 := by kernel_rfl
theorem tby_304 : tbytes Go.Proofs.Tryz.prog 304 = 16 := by kernel_rfl
theorem tagg_304 : tagg Go.Proofs.Tryz.prog 304 = false := by kernel_rfl
theorem tconc_304 : tconc Go.Proofs.Tryz.prog 304 = false := by kernel_rfl
theorem tzero_304 : tzero Go.Proofs.Tryz.prog 304 = some .nilIface := by kernel_rfl
theorem tifc_304 : tifc Go.Proofs.Tryz.prog 304 = true := by kernel_rfl
theorem tok_305 : tok Go.Proofs.Tryz.prog 305 = true := by kernel_rfl
theorem tsz_305 : tsz Go.Proofs.Tryz.prog 305 = 1 := by kernel_rfl
theorem tby_305 : tbytes Go.Proofs.Tryz.prog 305 = 16 := by kernel_rfl
theorem tagg_305 : tagg Go.Proofs.Tryz.prog 305 = false := by kernel_rfl
theorem tconc_305 : tconc Go.Proofs.Tryz.prog 305 = false := by kernel_rfl
theorem tzero_305 : tzero Go.Proofs.Tryz.prog 305 = some .nilIface := by kernel_rfl
theorem tifc_305 : tifc Go.Proofs.Tryz.prog 305 = true := by kernel_rfl
theorem tok_306 : tok Go.Proofs.Tryz.prog 306 = true := by kernel_rfl
theorem tsz_306 : tsz Go.Proofs.Tryz.prog 306 = 1 := by kernel_rfl
theorem tby_306 : tbytes Go.Proofs.Tryz.prog 306 = 8 := by kernel_rfl
theorem tagg_306 : tagg Go.Proofs.Tryz.prog 306 = false := by kernel_rfl
theorem tconc_306 : tconc Go.Proofs.Tryz.prog 306 = true := by kernel_rfl
theorem tzero_306 : tzero Go.Proofs.Tryz.prog 306 = some (.pointer none) := by kernel_rfl
theorem tptr_306 : tptr Go.Proofs.Tryz.prog 306 = true := by kernel_rfl
theorem meth_306_Error : methB Go.Proofs.Tryz.prog 306 "Error" = some 270 := by kernel_rfl
theorem tok_307 : tok Go.Proofs.Tryz.prog 307 = true := by kernel_rfl
theorem tsz_307 : tsz Go.Proofs.Tryz.prog 307 = 4 := by kernel_rfl
theorem tby_307 : tbytes Go.Proofs.Tryz.prog 307 = 40 := by kernel_rfl
theorem tagg_307 : tagg Go.Proofs.Tryz.prog 307 = true := by kernel_rfl
theorem tconc_307 : tconc Go.Proofs.Tryz.prog 307 = true := by kernel_rfl
theorem tzero_307 : tzero Go.Proofs.Tryz.prog 307 = some (.agg #[.pointer none, .pointer none, .pointer none, .string { data := #[] }]) := by kernel_rfl
theorem tfld_307_0 : tfld Go.Proofs.Tryz.prog 307 0 = some (17, 0) := by kernel_rfl
theorem fldA_307_0 : fldA Go.Proofs.Tryz.prog 307 0 = some 0 := by kernel_rfl
theorem tfld_307_1 : tfld Go.Proofs.Tryz.prog 307 1 = some (17, 1) := by kernel_rfl
theorem fldA_307_1 : fldA Go.Proofs.Tryz.prog 307 1 = some 1 := by kernel_rfl
theorem tfld_307_2 : tfld Go.Proofs.Tryz.prog 307 2 = some (17, 2) := by kernel_rfl
theorem fldA_307_2 : fldA Go.Proofs.Tryz.prog 307 2 = some 2 := by kernel_rfl
theorem tfld_307_3 : tfld Go.Proofs.Tryz.prog 307 3 = some (9, 3) := by kernel_rfl
theorem fldA_307_3 : fldA Go.Proofs.Tryz.prog 307 3 = some 3 := by kernel_rfl
theorem tok_308 : tok Go.Proofs.Tryz.prog 308 = true := by kernel_rfl
theorem tsz_308 : tsz Go.Proofs.Tryz.prog 308 = 4 := by kernel_rfl
theorem tby_308 : tbytes Go.Proofs.Tryz.prog 308 = 40 := by kernel_rfl
theorem tagg_308 : tagg Go.Proofs.Tryz.prog 308 = true := by kernel_rfl
theorem tconc_308 : tconc Go.Proofs.Tryz.prog 308 = true := by kernel_rfl
theorem tzero_308 : tzero Go.Proofs.Tryz.prog 308 = some (.agg #[.pointer none, .pointer none, .pointer none, .string { data := #[] }]) := by kernel_rfl
theorem tfld_308_0 : tfld Go.Proofs.Tryz.prog 308 0 = some (17, 0) := by kernel_rfl
theorem fldA_308_0 : fldA Go.Proofs.Tryz.prog 308 0 = some 0 := by kernel_rfl
theorem tfld_308_1 : tfld Go.Proofs.Tryz.prog 308 1 = some (17, 1) := by kernel_rfl
theorem fldA_308_1 : fldA Go.Proofs.Tryz.prog 308 1 = some 1 := by kernel_rfl
theorem tfld_308_2 : tfld Go.Proofs.Tryz.prog 308 2 = some (17, 2) := by kernel_rfl
theorem fldA_308_2 : fldA Go.Proofs.Tryz.prog 308 2 = some 2 := by kernel_rfl
theorem tfld_308_3 : tfld Go.Proofs.Tryz.prog 308 3 = some (9, 3) := by kernel_rfl
theorem fldA_308_3 : fldA Go.Proofs.Tryz.prog 308 3 = some 3 := by kernel_rfl
theorem tok_309 : tok Go.Proofs.Tryz.prog 309 = true := by kernel_rfl
theorem tsz_309 : tsz Go.Proofs.Tryz.prog 309 = 0 := by kernel_rfl
theorem tby_309 : tbytes Go.Proofs.Tryz.prog 309 = 0 := by kernel_rfl
theorem tagg_309 : tagg Go.Proofs.Tryz.prog 309 = true := by kernel_rfl
theorem tconc_309 : tconc Go.Proofs.Tryz.prog 309 = true := by kernel_rfl
theorem tzero_309 : tzero Go.Proofs.Tryz.prog 309 = some (.agg #[]) := by kernel_rfl
theorem tarr_309 : tarr Go.Proofs.Tryz.prog 309 = some (0, 16) := by kernel_rfl
theorem tok_310 : tok Go.Proofs.Tryz.prog 310 = true := by kernel_rfl
theorem tsz_310 : tsz Go.Proofs.Tryz.prog 310 = 0 := by kernel_rfl
theorem tby_310 : tbytes Go.Proofs.Tryz.prog 310 = 0 := by kernel_rfl
theorem tagg_310 : tagg Go.Proofs.Tryz.prog 310 = true := by kernel_rfl
theorem tconc_310 : tconc Go.Proofs.Tryz.prog 310 = true := by kernel_rfl
theorem tzero_310 : tzero Go.Proofs.Tryz.prog 310 = some (.agg #[]) := by kernel_rfl
theorem tfld_310_0 : tfld Go.Proofs.Tryz.prog 310 0 = some (309, 0) := by kernel_rfl
theorem tok_311 : tok Go.Proofs.Tryz.prog 311 = true := by kernel_rfl
theorem tsz_311 : tsz Go.Proofs.Tryz.prog 311 = 0 := by kernel_rfl
theorem tby_311 : tbytes Go.Proofs.Tryz.prog 311 = 0 := by kernel_rfl
theorem tagg_311 : tagg Go.Proofs.Tryz.prog 311 = true := by kernel_rfl
theorem tconc_311 : tconc Go.Proofs.Tryz.prog 311 = true := by kernel_rfl
theorem tzero_311 : tzero Go.Proofs.Tryz.prog 311 = some (.agg #[]) := by kernel_rfl
theorem tfld_311_0 : tfld Go.Proofs.Tryz.prog 311 0 = some (309, 0) := by kernel_rfl
theorem tok_312 : tok Go.Proofs.Tryz.prog 312 = true := by kernel_rfl
theorem tsz_312 : tsz Go.Proofs.Tryz.prog 312 = 1 := by kernel_rfl
theorem tby_312 : tbytes Go.Proofs.Tryz.prog 312 = 1 := by kernel_rfl
theorem tagg_312 : tagg Go.Proofs.Tryz.prog 312 = false := by kernel_rfl
theorem tconc_312 : tconc Go.Proofs.Tryz.prog 312 = true := by kernel_rfl
theorem tzero_312 : tzero Go.Proofs.Tryz.prog 312 = some (.int .u8 0) := by kernel_rfl
theorem tkind_312 : tkind Go.Proofs.Tryz.prog 312 = some .u8 := by kernel_rfl
theorem tok_313 : tok Go.Proofs.Tryz.prog 313 = true := by kernel_rfl
theorem tsz_313 : tsz Go.Proofs.Tryz.prog 313 = 1 := by kernel_rfl
theorem tby_313 : tbytes Go.Proofs.Tryz.prog 313 = 1 := by kernel_rfl
theorem tagg_313 : tagg Go.Proofs.Tryz.prog 313 = false := by kernel_rfl
theorem tconc_313 : tconc Go.Proofs.Tryz.prog 313 = true := by kernel_rfl
theorem tzero_313 : tzero Go.Proofs.Tryz.prog 313 = some (.int .u8 0) := by kernel_rfl
theorem tkind_313 : tkind Go.Proofs.Tryz.prog 313 = some .u8 := by kernel_rfl
theorem meth_313_String : methB Go.Proofs.Tryz.prog 313 "String" = some 271 := by kernel_rfl
theorem tok_314 : tok Go.Proofs.Tryz.prog 314 = true := by kernel_rfl
theorem tsz_314 : tsz Go.Proofs.Tryz.prog 314 = 1 := by kernel_rfl
theorem tby_314 : tbytes Go.Proofs.Tryz.prog 314 = 8 := by kernel_rfl
theorem tagg_314 : tagg Go.Proofs.Tryz.prog 314 = false := by kernel_rfl
theorem tconc_314 : tconc Go.Proofs.Tryz.prog 314 = true := by kernel_rfl
theorem tzero_314 : tzero Go.Proofs.Tryz.prog 314 = some .nilFunc := by kernel_rfl
theorem tok_315 : tok Go.Proofs.Tryz.prog 315 = true := by kernel_rfl
theorem tsz_315 : tsz Go.Proofs.Tryz.prog 315 = 1 := by kernel_rfl
theorem tby_315 : tbytes Go.Proofs.Tryz.prog 315 = 8 := by kernel_rfl
theorem tagg_315 : tagg Go.Proofs.Tryz.prog 315 = false := by kernel_rfl
theorem tconc_315 : tconc Go.Proofs.Tryz.prog 315 = true := by kernel_rfl
theorem tzero_315 : tzero Go.Proofs.Tryz.prog 315 = some (.pointer none) := by kernel_rfl
theorem tptr_315 : tptr Go.Proofs.Tryz.prog 315 = true := by kernel_rfl
theorem tok_316 : tok Go.Proofs.Tryz.prog 316 = true := by kernel_rfl
theorem tsz_316 : tsz Go.Proofs.Tryz.prog 316 = 1 := by kernel_rfl
theorem tby_316 : tbytes Go.Proofs.Tryz.prog 316 = 4 := by kernel_rfl
theorem tagg_316 : tagg Go.Proofs.Tryz.prog 316 = false := by kernel_rfl
theorem tconc_316 : tconc Go.Proofs.Tryz.prog 316 = true := by kernel_rfl
theorem tzero_316 : tzero Go.Proofs.Tryz.prog 316 = some (.int .i32 0) := by kernel_rfl
theorem tkind_316 : tkind Go.Proofs.Tryz.prog 316 = some .i32 := by kernel_rfl
theorem tok_317 : tok Go.Proofs.Tryz.prog 317 = true := by kernel_rfl
theorem tsz_317 : tsz Go.Proofs.Tryz.prog 317 = 1 := by kernel_rfl
theorem tby_317 : tbytes Go.Proofs.Tryz.prog 317 = 4 := by kernel_rfl
theorem tagg_317 : tagg Go.Proofs.Tryz.prog 317 = false := by kernel_rfl
theorem tconc_317 : tconc Go.Proofs.Tryz.prog 317 = true := by kernel_rfl
theorem tzero_317 : tzero Go.Proofs.Tryz.prog 317 = some (.int .i32 0) := by kernel_rfl
theorem tkind_317 : tkind Go.Proofs.Tryz.prog 317 = some .i32 := by kernel_rfl
theorem tok_318 : tok Go.Proofs.Tryz.prog 318 = true := by kernel_rfl
theorem tsz_318 : tsz Go.Proofs.Tryz.prog 318 = 11 := by kernel_rfl
theorem tby_318 : tbytes Go.Proofs.Tryz.prog 318 = 48 := by kernel_rfl
theorem tagg_318 : tagg Go.Proofs.Tryz.prog 318 = true := by kernel_rfl
theorem tconc_318 : tconc Go.Proofs.Tryz.prog 318 = true := by kernel_rfl
theorem tzero_318 : tzero Go.Proofs.Tryz.prog 318 = some (.agg #[.int .u64 0, .int .u64 0, .int .u32 0, .int .u8 0, .int .u8 0, .int .u8 0, .int .u8 0, .nilFunc, .pointer none, .int .i32 0, .int .i32 0]) := by kernel_rfl
theorem tfld_318_0 : tfld Go.Proofs.Tryz.prog 318 0 = some (12, 0) := by kernel_rfl
theorem fldA_318_0 : fldA Go.Proofs.Tryz.prog 318 0 = some 0 := by kernel_rfl
theorem tfld_318_1 : tfld Go.Proofs.Tryz.prog 318 1 = some (12, 1) := by kernel_rfl
theorem fldA_318_1 : fldA Go.Proofs.Tryz.prog 318 1 = some 1 := by kernel_rfl
theorem tfld_318_2 : tfld Go.Proofs.Tryz.prog 318 2 = some (220, 2) := by kernel_rfl
theorem fldA_318_2 : fldA Go.Proofs.Tryz.prog 318 2 = some 2 := by kernel_rfl
theorem tfld_318_3 : tfld Go.Proofs.Tryz.prog 318 3 = some (312, 3) := by kernel_rfl
theorem fldA_318_3 : fldA Go.Proofs.Tryz.prog 318 3 = some 3 := by kernel_rfl
theorem tfld_318_4 : tfld Go.Proofs.Tryz.prog 318 4 = some (5, 4) := by kernel_rfl
theorem fldA_318_4 : fldA Go.Proofs.Tryz.prog 318 4 = some 4 := by kernel_rfl
theorem tfld_318_5 : tfld Go.Proofs.Tryz.prog 318 5 = some (5, 5) := by kernel_rfl
theorem fldA_318_5 : fldA Go.Proofs.Tryz.prog 318 5 = some 5 := by kernel_rfl
theorem tfld_318_6 : tfld Go.Proofs.Tryz.prog 318 6 = some (313, 6) := by kernel_rfl
theorem fldA_318_6 : fldA Go.Proofs.Tryz.prog 318 6 = some 6 := by kernel_rfl
theorem tfld_318_7 : tfld Go.Proofs.Tryz.prog 318 7 = some (314, 7) := by kernel_rfl
theorem fldA_318_7 : fldA Go.Proofs.Tryz.prog 318 7 = some 7 := by kernel_rfl
theorem tfld_318_8 : tfld Go.Proofs.Tryz.prog 318 8 = some (315, 8) := by kernel_rfl
theorem fldA_318_8 : fldA Go.Proofs.Tryz.prog 318 8 = some 8 := by kernel_rfl
theorem tfld_318_9 : tfld Go.Proofs.Tryz.prog 318 9 = some (316, 9) := by kernel_rfl
theorem fldA_318_9 : fldA Go.Proofs.Tryz.prog 318 9 = some 9 := by kernel_rfl
theorem tfld_318_10 : tfld Go.Proofs.Tryz.prog 318 10 = some (317, 10) := by kernel_rfl
theorem fldA_318_10 : fldA Go.Proofs.Tryz.prog 318 10 = some 10 := by kernel_rfl
theorem tok_319 : tok Go.Proofs.Tryz.prog 319 = true := by kernel_rfl
theorem tsz_319 : tsz Go.Proofs.Tryz.prog 319 = 11 := by kernel_rfl
theorem tby_319 : tbytes Go.Proofs.Tryz.prog 319 = 48 := by kernel_rfl
theorem tagg_319 : tagg Go.Proofs.Tryz.prog 319 = true := by kernel_rfl
theorem tconc_319 : tconc Go.Proofs.Tryz.prog 319 = true := by kernel_rfl
theorem tzero_319 : tzero Go.Proofs.Tryz.prog 319 = some (.agg #[.int .u64 0, .int .u64 0, .int .u32 0, .int .u8 0, .int .u8 0, .int .u8 0, .int .u8 0, .nilFunc, .pointer none, .int .i32 0, .int .i32 0]) := by kernel_rfl
theorem tfld_319_0 : tfld Go.Proofs.Tryz.prog 319 0 = some (12, 0) := by kernel_rfl
theorem fldA_319_0 : fldA Go.Proofs.Tryz.prog 319 0 = some 0 := by kernel_rfl
theorem tfld_319_1 : tfld Go.Proofs.Tryz.prog 319 1 = some (12, 1) := by kernel_rfl
theorem fldA_319_1 : fldA Go.Proofs.Tryz.prog 319 1 = some 1 := by kernel_rfl
theorem tfld_319_2 : tfld Go.Proofs.Tryz.prog 319 2 = some (220, 2) := by kernel_rfl
theorem fldA_319_2 : fldA Go.Proofs.Tryz.prog 319 2 = some 2 := by kernel_rfl
theorem tfld_319_3 : tfld Go.Proofs.Tryz.prog 319 3 = some (312, 3) := by kernel_rfl
theorem fldA_319_3 : fldA Go.Proofs.Tryz.prog 319 3 = some 3 := by kernel_rfl
theorem tfld_319_4 : tfld Go.Proofs.Tryz.prog 319 4 = some (5, 4) := by kernel_rfl
theorem fldA_319_4 : fldA Go.Proofs.Tryz.prog 319 4 = some 4 := by kernel_rfl
theorem tfld_319_5 : tfld Go.Proofs.Tryz.prog 319 5 = some (5, 5) := by kernel_rfl
theorem fldA_319_5 : fldA Go.Proofs.Tryz.prog 319 5 = some 5 := by kernel_rfl
theorem tfld_319_6 : tfld Go.Proofs.Tryz.prog 319 6 = some (313, 6) := by kernel_rfl
theorem fldA_319_6 : fldA Go.Proofs.Tryz.prog 319 6 = some 6 := by kernel_rfl
theorem tfld_319_7 : tfld Go.Proofs.Tryz.prog 319 7 = some (314, 7) := by kernel_rfl
theorem fldA_319_7 : fldA Go.Proofs.Tryz.prog 319 7 = some 7 := by kernel_rfl
theorem tfld_319_8 : tfld Go.Proofs.Tryz.prog 319 8 = some (315, 8) := by kernel_rfl
theorem fldA_319_8 : fldA Go.Proofs.Tryz.prog 319 8 = some 8 := by kernel_rfl
theorem tfld_319_9 : tfld Go.Proofs.Tryz.prog 319 9 = some (316, 9) := by kernel_rfl
theorem fldA_319_9 : fldA Go.Proofs.Tryz.prog 319 9 = some 9 := by kernel_rfl
theorem tfld_319_10 : tfld Go.Proofs.Tryz.prog 319 10 = some (317, 10) := by kernel_rfl
theorem fldA_319_10 : fldA Go.Proofs.Tryz.prog 319 10 = some 10 := by kernel_rfl
theorem tok_320 : tok Go.Proofs.Tryz.prog 320 = true := by kernel_rfl
theorem tsz_320 : tsz Go.Proofs.Tryz.prog 320 = 1 := by kernel_rfl
theorem tby_320 : tbytes Go.Proofs.Tryz.prog 320 = 16 := by kernel_rfl
theorem tagg_320 : tagg Go.Proofs.Tryz.prog 320 = true := by kernel_rfl
theorem tconc_320 : tconc Go.Proofs.Tryz.prog 320 = true := by kernel_rfl
theorem tzero_320 : tzero Go.Proofs.Tryz.prog 320 = some (.agg #[.string { data := #[] }]) := by kernel_rfl
theorem tfld_320_0 : tfld Go.Proofs.Tryz.prog 320 0 = some (9, 0) := by kernel_rfl
theorem fldA_320_0 : fldA Go.Proofs.Tryz.prog 320 0 = some 0 := by kernel_rfl
theorem tok_321 : tok Go.Proofs.Tryz.prog 321 = true := by kernel_rfl
theorem tsz_321 : tsz Go.Proofs.Tryz.prog 321 = 1 := by kernel_rfl
theorem tby_321 : tbytes Go.Proofs.Tryz.prog 321 = 16 := by kernel_rfl
theorem tagg_321 : tagg Go.Proofs.Tryz.prog 321 = true := by kernel_rfl
theorem tconc_321 : tconc Go.Proofs.Tryz.prog 321 = true := by kernel_rfl
theorem tzero_321 : tzero Go.Proofs.Tryz.prog 321 = some (.agg #[.string { data := #[] }]) := by kernel_rfl
theorem tfld_321_0 : tfld Go.Proofs.Tryz.prog 321 0 = some (9, 0) := by kernel_rfl
theorem fldA_321_0 : fldA Go.Proofs.Tryz.prog 321 0 = some 0 := by kernel_rfl
theorem tok_322 : tok Go.Proofs.Tryz.prog 322 = true := by kernel_rfl
theorem tsz_322 : tsz Go.Proofs.Tryz.prog 322 = 1 := by kernel_rfl
theorem tby_322 : tbytes Go.Proofs.Tryz.prog 322 = 8 := by kernel_rfl
theorem tagg_322 : tagg Go.Proofs.Tryz.prog 322 = false := by kernel_rfl
theorem tconc_322 : tconc Go.Proofs.Tryz.prog 322 = true := by kernel_rfl
theorem tzero_322 : tzero Go.Proofs.Tryz.prog 322 = some (.pointer none) := by kernel_rfl
theorem okF_2 : okF Go.Proofs.Tryz.prog 2 = true := by kernel_rfl
theorem okF_3 : okF Go.Proofs.Tryz.prog 3 = true := by kernel_rfl
theorem okF_4 : okF Go.Proofs.Tryz.prog 4 = true := by kernel_rfl
theorem okF_5 : okF Go.Proofs.Tryz.prog 5 = true := by kernel_rfl
theorem okF_6 : okF Go.Proofs.Tryz.prog 6 = true := by kernel_rfl
theorem okF_7 : okF Go.Proofs.Tryz.prog 7 = true := by kernel_rfl
theorem okF_8 : okF Go.Proofs.Tryz.prog 8 = true := by kernel_rfl
theorem okF_9 : okF Go.Proofs.Tryz.prog 9 = true := by kernel_rfl
theorem okF_10 : okF Go.Proofs.Tryz.prog 10 = true := by kernel_rfl
theorem okF_11 : okF Go.Proofs.Tryz.prog 11 = true := by kernel_rfl
theorem okF_12 : okF Go.Proofs.Tryz.prog 12 = true := by kernel_rfl
theorem okF_13 : okF Go.Proofs.Tryz.prog 13 = true := by kernel_rfl
theorem okF_14 : okF Go.Proofs.Tryz.prog 14 = true := by kernel_rfl
theorem okF_15 : okF Go.Proofs.Tryz.prog 15 = true := by kernel_rfl
theorem okF_16 : okF Go.Proofs.Tryz.prog 16 = true := by kernel_rfl
theorem okF_17 : okF Go.Proofs.Tryz.prog 17 = true := by kernel_rfl
theorem okF_18 : okF Go.Proofs.Tryz.prog 18 = true := by kernel_rfl
theorem okF_19 : okF Go.Proofs.Tryz.prog 19 = true := by kernel_rfl
theorem okF_20 : okF Go.Proofs.Tryz.prog 20 = true := by kernel_rfl
theorem okF_21 : okF Go.Proofs.Tryz.prog 21 = true := by kernel_rfl
theorem okF_22 : okF Go.Proofs.Tryz.prog 22 = true := by kernel_rfl
theorem okF_23 : okF Go.Proofs.Tryz.prog 23 = true := by kernel_rfl
theorem okF_24 : okF Go.Proofs.Tryz.prog 24 = true := by kernel_rfl
theorem okF_25 : okF Go.Proofs.Tryz.prog 25 = true := by kernel_rfl
theorem okF_26 : okF Go.Proofs.Tryz.prog 26 = true := by kernel_rfl
theorem okF_27 : okF Go.Proofs.Tryz.prog 27 = true := by kernel_rfl
theorem okF_28 : okF Go.Proofs.Tryz.prog 28 = true := by kernel_rfl
theorem okF_29 : okF Go.Proofs.Tryz.prog 29 = true := by kernel_rfl
theorem okF_30 : okF Go.Proofs.Tryz.prog 30 = true := by kernel_rfl
theorem okF_31 : okF Go.Proofs.Tryz.prog 31 = true := by kernel_rfl
theorem okF_32 : okF Go.Proofs.Tryz.prog 32 = true := by kernel_rfl
theorem okF_33 : okF Go.Proofs.Tryz.prog 33 = true := by kernel_rfl
theorem okF_34 : okF Go.Proofs.Tryz.prog 34 = true := by kernel_rfl
theorem okF_35 : okF Go.Proofs.Tryz.prog 35 = true := by kernel_rfl
theorem okF_36 : okF Go.Proofs.Tryz.prog 36 = true := by kernel_rfl
theorem okF_37 : okF Go.Proofs.Tryz.prog 37 = true := by kernel_rfl
theorem okF_38 : okF Go.Proofs.Tryz.prog 38 = true := by kernel_rfl
theorem okF_39 : okF Go.Proofs.Tryz.prog 39 = true := by kernel_rfl
theorem okF_40 : okF Go.Proofs.Tryz.prog 40 = true := by kernel_rfl
theorem okF_41 : okF Go.Proofs.Tryz.prog 41 = true := by kernel_rfl
theorem okF_42 : okF Go.Proofs.Tryz.prog 42 = true := by kernel_rfl
theorem okF_43 : okF Go.Proofs.Tryz.prog 43 = true := by kernel_rfl
theorem okF_44 : okF Go.Proofs.Tryz.prog 44 = true := by kernel_rfl
theorem okF_45 : okF Go.Proofs.Tryz.prog 45 = true := by kernel_rfl
theorem okF_46 : okF Go.Proofs.Tryz.prog 46 = true := by kernel_rfl
theorem okF_47 : okF Go.Proofs.Tryz.prog 47 = true := by kernel_rfl
theorem okF_48 : okF Go.Proofs.Tryz.prog 48 = true := by kernel_rfl
theorem okF_49 : okF Go.Proofs.Tryz.prog 49 = true := by kernel_rfl
theorem okF_50 : okF Go.Proofs.Tryz.prog 50 = true := by kernel_rfl
theorem okF_51 : okF Go.Proofs.Tryz.prog 51 = true := by kernel_rfl
theorem okF_52 : okF Go.Proofs.Tryz.prog 52 = true := by kernel_rfl
theorem okF_53 : okF Go.Proofs.Tryz.prog 53 = true := by kernel_rfl
theorem okF_54 : okF Go.Proofs.Tryz.prog 54 = true := by kernel_rfl
theorem okF_55 : okF Go.Proofs.Tryz.prog 55 = true := by kernel_rfl
theorem okF_56 : okF Go.Proofs.Tryz.prog 56 = true := by kernel_rfl
theorem okF_57 : okF Go.Proofs.Tryz.prog 57 = true := by kernel_rfl
theorem okF_58 : okF Go.Proofs.Tryz.prog 58 = true := by kernel_rfl
theorem okF_59 : okF Go.Proofs.Tryz.prog 59 = true := by kernel_rfl
theorem okF_60 : okF Go.Proofs.Tryz.prog 60 = true := by kernel_rfl
theorem okF_61 : okF Go.Proofs.Tryz.prog 61 = true := by kernel_rfl
theorem okF_62 : okF Go.Proofs.Tryz.prog 62 = true := by kernel_rfl
theorem okF_63 : okF Go.Proofs.Tryz.prog 63 = true := by kernel_rfl
theorem okF_64 : okF Go.Proofs.Tryz.prog 64 = true := by kernel_rfl
theorem okF_65 : okF Go.Proofs.Tryz.prog 65 = true := by kernel_rfl
theorem okF_66 : okF Go.Proofs.Tryz.prog 66 = true := by kernel_rfl
theorem okF_67 : okF Go.Proofs.Tryz.prog 67 = true := by kernel_rfl
theorem okF_68 : okF Go.Proofs.Tryz.prog 68 = true := by kernel_rfl
theorem okF_69 : okF Go.Proofs.Tryz.prog 69 = true := by kernel_rfl
theorem okF_70 : okF Go.Proofs.Tryz.prog 70 = true := by kernel_rfl
theorem okF_71 : okF Go.Proofs.Tryz.prog 71 = true := by kernel_rfl
theorem okF_72 : okF Go.Proofs.Tryz.prog 72 = true := by kernel_rfl
theorem okF_73 : okF Go.Proofs.Tryz.prog 73 = true := by kernel_rfl
theorem okF_74 : okF Go.Proofs.Tryz.prog 74 = true := by kernel_rfl
theorem okF_75 : okF Go.Proofs.Tryz.prog 75 = true := by kernel_rfl
theorem okF_76 : okF Go.Proofs.Tryz.prog 76 = true := by kernel_rfl
theorem okF_77 : okF Go.Proofs.Tryz.prog 77 = true := by kernel_rfl
theorem okF_78 : okF Go.Proofs.Tryz.prog 78 = true := by kernel_rfl
theorem okF_79 : okF Go.Proofs.Tryz.prog 79 = true := by kernel_rfl
theorem okF_80 : okF Go.Proofs.Tryz.prog 80 = true := by kernel_rfl
theorem okF_81 : okF Go.Proofs.Tryz.prog 81 = true := by kernel_rfl
theorem okF_82 : okF Go.Proofs.Tryz.prog 82 = true := by kernel_rfl
theorem okF_83 : okF Go.Proofs.Tryz.prog 83 = true := by kernel_rfl
theorem okF_84 : okF Go.Proofs.Tryz.prog 84 = true := by kernel_rfl
theorem okF_85 : okF Go.Proofs.Tryz.prog 85 = true := by kernel_rfl
theorem okF_86 : okF Go.Proofs.Tryz.prog 86 = true := by kernel_rfl
theorem okF_87 : okF Go.Proofs.Tryz.prog 87 = true := by kernel_rfl
theorem okF_88 : okF Go.Proofs.Tryz.prog 88 = true := by kernel_rfl
theorem okF_89 : okF Go.Proofs.Tryz.prog 89 = true := by kernel_rfl
theorem okF_90 : okF Go.Proofs.Tryz.prog 90 = true := by kernel_rfl
theorem okF_91 : okF Go.Proofs.Tryz.prog 91 = true := by kernel_rfl
theorem okF_92 : okF Go.Proofs.Tryz.prog 92 = true := by kernel_rfl
theorem okF_93 : okF Go.Proofs.Tryz.prog 93 = true := by kernel_rfl
theorem okF_94 : okF Go.Proofs.Tryz.prog 94 = true := by kernel_rfl
theorem okF_95 : okF Go.Proofs.Tryz.prog 95 = true := by kernel_rfl
theorem okF_96 : okF Go.Proofs.Tryz.prog 96 = true := by kernel_rfl
theorem okF_97 : okF Go.Proofs.Tryz.prog 97 = true := by kernel_rfl
theorem okF_98 : okF Go.Proofs.Tryz.prog 98 = true := by kernel_rfl
theorem okF_99 : okF Go.Proofs.Tryz.prog 99 = true := by kernel_rfl
theorem okF_100 : okF Go.Proofs.Tryz.prog 100 = true := by kernel_rfl
theorem okF_101 : okF Go.Proofs.Tryz.prog 101 = true := by kernel_rfl
theorem okF_102 : okF Go.Proofs.Tryz.prog 102 = true := by kernel_rfl
theorem okF_103 : okF Go.Proofs.Tryz.prog 103 = true := by kernel_rfl
theorem okF_104 : okF Go.Proofs.Tryz.prog 104 = true := by kernel_rfl
theorem okF_105 : okF Go.Proofs.Tryz.prog 105 = true := by kernel_rfl
theorem okF_106 : okF Go.Proofs.Tryz.prog 106 = true := by kernel_rfl
theorem okF_107 : okF Go.Proofs.Tryz.prog 107 = true := by kernel_rfl
theorem okF_108 : okF Go.Proofs.Tryz.prog 108 = true := by kernel_rfl
theorem okF_109 : okF Go.Proofs.Tryz.prog 109 = true := by kernel_rfl
theorem okF_110 : okF Go.Proofs.Tryz.prog 110 = true := by kernel_rfl
theorem okF_111 : okF Go.Proofs.Tryz.prog 111 = true := by kernel_rfl
theorem okF_112 : okF Go.Proofs.Tryz.prog 112 = true := by kernel_rfl
theorem okF_113 : okF Go.Proofs.Tryz.prog 113 = true := by kernel_rfl
theorem okF_114 : okF Go.Proofs.Tryz.prog 114 = true := by kernel_rfl
theorem okF_115 : okF Go.Proofs.Tryz.prog 115 = true := by kernel_rfl
theorem okF_116 : okF Go.Proofs.Tryz.prog 116 = true := by kernel_rfl
theorem okF_117 : okF Go.Proofs.Tryz.prog 117 = true := by kernel_rfl
theorem okF_118 : okF Go.Proofs.Tryz.prog 118 = true := by kernel_rfl
theorem okF_119 : okF Go.Proofs.Tryz.prog 119 = true := by kernel_rfl
theorem okF_120 : okF Go.Proofs.Tryz.prog 120 = true := by kernel_rfl
theorem okF_121 : okF Go.Proofs.Tryz.prog 121 = true := by kernel_rfl
theorem okF_122 : okF Go.Proofs.Tryz.prog 122 = true := by kernel_rfl
theorem okF_123 : okF Go.Proofs.Tryz.prog 123 = true := by kernel_rfl
theorem okF_124 : okF Go.Proofs.Tryz.prog 124 = true := by kernel_rfl
theorem okF_125 : okF Go.Proofs.Tryz.prog 125 = true := by kernel_rfl
theorem okF_126 : okF Go.Proofs.Tryz.prog 126 = true := by kernel_rfl
theorem okF_127 : okF Go.Proofs.Tryz.prog 127 = true := by kernel_rfl
theorem okF_128 : okF Go.Proofs.Tryz.prog 128 = true := by kernel_rfl
theorem okF_129 : okF Go.Proofs.Tryz.prog 129 = true := by kernel_rfl
theorem okF_130 : okF Go.Proofs.Tryz.prog 130 = true := by kernel_rfl
theorem okF_131 : okF Go.Proofs.Tryz.prog 131 = true := by kernel_rfl
theorem okF_132 : okF Go.Proofs.Tryz.prog 132 = true := by kernel_rfl
theorem okF_133 : okF Go.Proofs.Tryz.prog 133 = true := by kernel_rfl
theorem okF_134 : okF Go.Proofs.Tryz.prog 134 = true := by kernel_rfl
theorem okF_135 : okF Go.Proofs.Tryz.prog 135 = true := by kernel_rfl
theorem okF_136 : okF Go.Proofs.Tryz.prog 136 = true := by kernel_rfl
theorem okF_137 : okF Go.Proofs.Tryz.prog 137 = true := by kernel_rfl
theorem okF_138 : okF Go.Proofs.Tryz.prog 138 = true := by kernel_rfl
theorem okF_139 : okF Go.Proofs.Tryz.prog 139 = true := by kernel_rfl
theorem okF_140 : okF Go.Proofs.Tryz.prog 140 = true := by kernel_rfl
theorem okF_141 : okF Go.Proofs.Tryz.prog 141 = true := by kernel_rfl
theorem okF_142 : okF Go.Proofs.Tryz.prog 142 = true := by kernel_rfl
theorem okF_143 : okF Go.Proofs.Tryz.prog 143 = true := by kernel_rfl
theorem okF_144 : okF Go.Proofs.Tryz.prog 144 = true := by kernel_rfl
theorem okF_145 : okF Go.Proofs.Tryz.prog 145 = true := by kernel_rfl
theorem okF_146 : okF Go.Proofs.Tryz.prog 146 = true := by kernel_rfl
theorem okF_147 : okF Go.Proofs.Tryz.prog 147 = true := by kernel_rfl
theorem okF_148 : okF Go.Proofs.Tryz.prog 148 = true := by kernel_rfl
theorem okF_149 : okF Go.Proofs.Tryz.prog 149 = true := by kernel_rfl
theorem okF_150 : okF Go.Proofs.Tryz.prog 150 = true := by kernel_rfl
theorem okF_151 : okF Go.Proofs.Tryz.prog 151 = true := by kernel_rfl
theorem okF_152 : okF Go.Proofs.Tryz.prog 152 = true := by kernel_rfl
theorem okF_153 : okF Go.Proofs.Tryz.prog 153 = true := by kernel_rfl
theorem okF_154 : okF Go.Proofs.Tryz.prog 154 = true := by kernel_rfl
theorem okF_155 : okF Go.Proofs.Tryz.prog 155 = true := by kernel_rfl
theorem okF_156 : okF Go.Proofs.Tryz.prog 156 = true := by kernel_rfl
theorem okF_157 : okF Go.Proofs.Tryz.prog 157 = true := by kernel_rfl
theorem okF_158 : okF Go.Proofs.Tryz.prog 158 = true := by kernel_rfl
theorem okF_159 : okF Go.Proofs.Tryz.prog 159 = true := by kernel_rfl
theorem okF_160 : okF Go.Proofs.Tryz.prog 160 = true := by kernel_rfl
theorem okF_161 : okF Go.Proofs.Tryz.prog 161 = true := by kernel_rfl
theorem okF_162 : okF Go.Proofs.Tryz.prog 162 = true := by kernel_rfl
theorem okF_163 : okF Go.Proofs.Tryz.prog 163 = true := by kernel_rfl
theorem okF_164 : okF Go.Proofs.Tryz.prog 164 = true := by kernel_rfl
theorem okF_165 : okF Go.Proofs.Tryz.prog 165 = true := by kernel_rfl
theorem okF_166 : okF Go.Proofs.Tryz.prog 166 = true := by kernel_rfl
theorem okF_167 : okF Go.Proofs.Tryz.prog 167 = true := by kernel_rfl
theorem okF_168 : okF Go.Proofs.Tryz.prog 168 = true := by kernel_rfl
theorem okF_169 : okF Go.Proofs.Tryz.prog 169 = true := by kernel_rfl
theorem okF_170 : okF Go.Proofs.Tryz.prog 170 = true := by kernel_rfl
theorem okF_171 : okF Go.Proofs.Tryz.prog 171 = true := by kernel_rfl
theorem okF_172 : okF Go.Proofs.Tryz.prog 172 = true := by kernel_rfl
theorem okF_173 : okF Go.Proofs.Tryz.prog 173 = true := by kernel_rfl
theorem okF_174 : okF Go.Proofs.Tryz.prog 174 = true := by kernel_rfl
theorem okF_175 : okF Go.Proofs.Tryz.prog 175 = true := by kernel_rfl
theorem okF_176 : okF Go.Proofs.Tryz.prog 176 = true := by kernel_rfl
theorem okF_177 : okF Go.Proofs.Tryz.prog 177 = true := by kernel_rfl
theorem okF_178 : okF Go.Proofs.Tryz.prog 178 = true := by kernel_rfl
theorem okF_179 : okF Go.Proofs.Tryz.prog 179 = true := by kernel_rfl
theorem okF_180 : okF Go.Proofs.Tryz.prog 180 = true := by kernel_rfl
theorem okF_181 : okF Go.Proofs.Tryz.prog 181 = true := by kernel_rfl
theorem okF_182 : okF Go.Proofs.Tryz.prog 182 = true := by kernel_rfl
theorem okF_183 : okF Go.Proofs.Tryz.prog 183 = true := by kernel_rfl
theorem okF_184 : okF Go.Proofs.Tryz.prog 184 = true := by kernel_rfl
theorem okF_185 : okF Go.Proofs.Tryz.prog 185 = true := by kernel_rfl
theorem okF_186 : okF Go.Proofs.Tryz.prog 186 = true := by kernel_rfl
theorem okF_187 : okF Go.Proofs.Tryz.prog 187 = true := by kernel_rfl
theorem okF_188 : okF Go.Proofs.Tryz.prog 188 = true := by kernel_rfl
theorem okF_189 : okF Go.Proofs.Tryz.prog 189 = true := by kernel_rfl
theorem okF_190 : okF Go.Proofs.Tryz.prog 190 = true := by kernel_rfl
theorem okF_191 : okF Go.Proofs.Tryz.prog 191 = true := by kernel_rfl
theorem okF_192 : okF Go.Proofs.Tryz.prog 192 = true := by kernel_rfl
theorem okF_193 : okF Go.Proofs.Tryz.prog 193 = true := by kernel_rfl
theorem okF_194 : okF Go.Proofs.Tryz.prog 194 = true := by kernel_rfl
theorem okF_195 : okF Go.Proofs.Tryz.prog 195 = true := by kernel_rfl
theorem okF_196 : okF Go.Proofs.Tryz.prog 196 = true := by kernel_rfl
theorem okF_197 : okF Go.Proofs.Tryz.prog 197 = true := by kernel_rfl
theorem okF_198 : okF Go.Proofs.Tryz.prog 198 = true := by kernel_rfl
theorem okF_199 : okF Go.Proofs.Tryz.prog 199 = true := by kernel_rfl
theorem okF_200 : okF Go.Proofs.Tryz.prog 200 = true := by kernel_rfl
theorem okF_201 : okF Go.Proofs.Tryz.prog 201 = true := by kernel_rfl
theorem okF_202 : okF Go.Proofs.Tryz.prog 202 = true := by kernel_rfl
theorem okF_203 : okF Go.Proofs.Tryz.prog 203 = true := by kernel_rfl
theorem okF_204 : okF Go.Proofs.Tryz.prog 204 = true := by kernel_rfl
theorem okF_205 : okF Go.Proofs.Tryz.prog 205 = true := by kernel_rfl
theorem okF_206 : okF Go.Proofs.Tryz.prog 206 = true := by kernel_rfl
theorem okF_207 : okF Go.Proofs.Tryz.prog 207 = true := by kernel_rfl
theorem okF_208 : okF Go.Proofs.Tryz.prog 208 = true := by kernel_rfl
theorem okF_209 : okF Go.Proofs.Tryz.prog 209 = true := by kernel_rfl
theorem okF_210 : okF Go.Proofs.Tryz.prog 210 = true := by kernel_rfl
theorem okF_211 : okF Go.Proofs.Tryz.prog 211 = true := by kernel_rfl
theorem okF_212 : okF Go.Proofs.Tryz.prog 212 = true := by kernel_rfl
theorem okF_213 : okF Go.Proofs.Tryz.prog 213 = true := by kernel_rfl
theorem okF_214 : okF Go.Proofs.Tryz.prog 214 = true := by kernel_rfl
theorem okF_215 : okF Go.Proofs.Tryz.prog 215 = true := by kernel_rfl
theorem okF_216 : okF Go.Proofs.Tryz.prog 216 = true := by kernel_rfl
theorem okF_217 : okF Go.Proofs.Tryz.prog 217 = true := by kernel_rfl
theorem okF_218 : okF Go.Proofs.Tryz.prog 218 = true := by kernel_rfl
theorem okF_219 : okF Go.Proofs.Tryz.prog 219 = true := by kernel_rfl
theorem okF_220 : okF Go.Proofs.Tryz.prog 220 = true := by kernel_rfl
theorem okF_221 : okF Go.Proofs.Tryz.prog 221 = true := by kernel_rfl
theorem okF_222 : okF Go.Proofs.Tryz.prog 222 = true := by kernel_rfl
theorem okF_223 : okF Go.Proofs.Tryz.prog 223 = true := by kernel_rfl
theorem okF_224 : okF Go.Proofs.Tryz.prog 224 = true := by kernel_rfl
theorem okF_225 : okF Go.Proofs.Tryz.prog 225 = true := by kernel_rfl
theorem okF_226 : okF Go.Proofs.Tryz.prog 226 = true := by kernel_rfl
theorem okF_227 : okF Go.Proofs.Tryz.prog 227 = true := by kernel_rfl
theorem okF_228 : okF Go.Proofs.Tryz.prog 228 = true := by kernel_rfl
theorem okF_229 : okF Go.Proofs.Tryz.prog 229 = true := by kernel_rfl
theorem okF_230 : okF Go.Proofs.Tryz.prog 230 = true := by kernel_rfl
theorem okF_231 : okF Go.Proofs.Tryz.prog 231 = true := by kernel_rfl
theorem okF_232 : okF Go.Proofs.Tryz.prog 232 = true := by kernel_rfl
theorem okF_233 : okF Go.Proofs.Tryz.prog 233 = true := by kernel_rfl
theorem okF_234 : okF Go.Proofs.Tryz.prog 234 = true := by kernel_rfl
theorem okF_235 : okF Go.Proofs.Tryz.prog 235 = true := by kernel_rfl
theorem okF_237 : okF Go.Proofs.Tryz.prog 237 = true := by kernel_rfl
theorem okF_238 : okF Go.Proofs.Tryz.prog 238 = true := by kernel_rfl
theorem okF_239 : okF Go.Proofs.Tryz.prog 239 = true := by kernel_rfl
theorem okF_240 : okF Go.Proofs.Tryz.prog 240 = true := by kernel_rfl
theorem okF_241 : okF Go.Proofs.Tryz.prog 241 = true := by kernel_rfl
theorem okF_242 : okF Go.Proofs.Tryz.prog 242 = true := by kernel_rfl
theorem okF_243 : okF Go.Proofs.Tryz.prog 243 = true := by kernel_rfl
theorem okF_244 : okF Go.Proofs.Tryz.prog 244 = true := by kernel_rfl
theorem okF_245 : okF Go.Proofs.Tryz.prog 245 = true := by kernel_rfl
theorem okF_246 : okF Go.Proofs.Tryz.prog 246 = true := by kernel_rfl
theorem okF_247 : okF Go.Proofs.Tryz.prog 247 = true := by kernel_rfl
theorem okF_248 : okF Go.Proofs.Tryz.prog 248 = true := by kernel_rfl
theorem okF_250 : okF Go.Proofs.Tryz.prog 250 = true := by kernel_rfl
theorem okF_251 : okF Go.Proofs.Tryz.prog 251 = true := by kernel_rfl
theorem okF_252 : okF Go.Proofs.Tryz.prog 252 = true := by kernel_rfl
theorem okF_253 : okF Go.Proofs.Tryz.prog 253 = true := by kernel_rfl
end Go.Proofs.YtcglagkhnegbbaaGreat
