/- Facts of the types and functions of this program, each by evaluation. -/
import Derived.Test.YtefcfnmmpnjjjaaProg
import Derived.Test.YtefcfnmmpnjjjaaMwBase
namespace Go.Proofs.Ytefcfnmmpnjjjaa
open Go.RowKit
set_option maxRecDepth 100000
theorem follows_mo : Go.Proofs.Try.prog.follows .mixedOrders = true := by kernel_rfl
theorem tok_0 : tok Go.Proofs.Try.prog 0 = true := by kernel_rfl
theorem tsz_0 : tsz Go.Proofs.Try.prog 0 = 1 := by kernel_rfl
theorem tby_0 : tbytes Go.Proofs.Try.prog 0 = 0 := by kernel_rfl
theorem tagg_0 : tagg Go.Proofs.Try.prog 0 = false := by kernel_rfl
theorem tconc_0 : tconc Go.Proofs.Try.prog 0 = true := by kernel_rfl
theorem tzero_0 : tzero Go.Proofs.Try.prog 0 = some (.tuple #[]) := by kernel_rfl
theorem tok_1 : tok Go.Proofs.Try.prog 1 = true := by kernel_rfl
theorem tsz_1 : tsz Go.Proofs.Try.prog 1 = 1 := by kernel_rfl
theorem tby_1 : tbytes Go.Proofs.Try.prog 1 = 8 := by kernel_rfl
theorem tagg_1 : tagg Go.Proofs.Try.prog 1 = false := by kernel_rfl
theorem tconc_1 : tconc Go.Proofs.Try.prog 1 = true := by kernel_rfl
theorem tzero_1 : tzero Go.Proofs.Try.prog 1 = some .nilFunc := by kernel_rfl
theorem tok_2 : tok Go.Proofs.Try.prog 2 = true := by kernel_rfl
theorem tsz_2 : tsz Go.Proofs.Try.prog 2 = 1 := by kernel_rfl
theorem tby_2 : tbytes Go.Proofs.Try.prog 2 = 8 := by kernel_rfl
theorem tagg_2 : tagg Go.Proofs.Try.prog 2 = false := by kernel_rfl
theorem tconc_2 : tconc Go.Proofs.Try.prog 2 = true := by kernel_rfl
theorem tzero_2 : tzero Go.Proofs.Try.prog 2 = some (.int .i64 0) := by kernel_rfl
theorem tkind_2 : tkind Go.Proofs.Try.prog 2 = some .i64 := by kernel_rfl
theorem tok_3 : tok Go.Proofs.Try.prog 3 = true := by kernel_rfl
theorem tsz_3 : tsz Go.Proofs.Try.prog 3 = 1 := by kernel_rfl
theorem tby_3 : tbytes Go.Proofs.Try.prog 3 = 8 := by kernel_rfl
theorem tagg_3 : tagg Go.Proofs.Try.prog 3 = false := by kernel_rfl
theorem tconc_3 : tconc Go.Proofs.Try.prog 3 = true := by kernel_rfl
theorem tzero_3 : tzero Go.Proofs.Try.prog 3 = some (.int .i64 0) := by kernel_rfl
theorem tkind_3 : tkind Go.Proofs.Try.prog 3 = some .i64 := by kernel_rfl
theorem tok_4 : tok Go.Proofs.Try.prog 4 = true := by kernel_rfl
theorem tsz_4 : tsz Go.Proofs.Try.prog 4 = 1 := by kernel_rfl
theorem tby_4 : tbytes Go.Proofs.Try.prog 4 = 1 := by kernel_rfl
theorem tagg_4 : tagg Go.Proofs.Try.prog 4 = false := by kernel_rfl
theorem tconc_4 : tconc Go.Proofs.Try.prog 4 = true := by kernel_rfl
theorem tzero_4 : tzero Go.Proofs.Try.prog 4 = some (.bool false) := by kernel_rfl
theorem tbool_4 : tbool Go.Proofs.Try.prog 4 = true := by kernel_rfl
theorem tok_5 : tok Go.Proofs.Try.prog 5 = true := by kernel_rfl
theorem tsz_5 : tsz Go.Proofs.Try.prog 5 = 1 := by kernel_rfl
theorem tby_5 : tbytes Go.Proofs.Try.prog 5 = 1 := by kernel_rfl
theorem tagg_5 : tagg Go.Proofs.Try.prog 5 = false := by kernel_rfl
theorem tconc_5 : tconc Go.Proofs.Try.prog 5 = true := by kernel_rfl
theorem tzero_5 : tzero Go.Proofs.Try.prog 5 = some (.int .u8 0) := by kernel_rfl
theorem tkind_5 : tkind Go.Proofs.Try.prog 5 = some .u8 := by kernel_rfl
theorem tok_6 : tok Go.Proofs.Try.prog 6 = true := by kernel_rfl
theorem tsz_6 : tsz Go.Proofs.Try.prog 6 = 1 := by kernel_rfl
theorem tby_6 : tbytes Go.Proofs.Try.prog 6 = 1 := by kernel_rfl
theorem tagg_6 : tagg Go.Proofs.Try.prog 6 = false := by kernel_rfl
theorem tconc_6 : tconc Go.Proofs.Try.prog 6 = true := by kernel_rfl
theorem tzero_6 : tzero Go.Proofs.Try.prog 6 = some (.int .u8 0) := by kernel_rfl
theorem tkind_6 : tkind Go.Proofs.Try.prog 6 = some .u8 := by kernel_rfl
theorem tok_7 : tok Go.Proofs.Try.prog 7 = true := by kernel_rfl
theorem tsz_7 : tsz Go.Proofs.Try.prog 7 = 4 := by kernel_rfl
theorem tby_7 : tbytes Go.Proofs.Try.prog 7 = 24 := by kernel_rfl
theorem tagg_7 : tagg Go.Proofs.Try.prog 7 = true := by kernel_rfl
theorem tconc_7 : tconc Go.Proofs.Try.prog 7 = true := by kernel_rfl
theorem tzero_7 : tzero Go.Proofs.Try.prog 7 = some (.agg #[.int .i64 0, .int .i64 0, .bool false, .int .u8 0]) := by kernel_rfl
theorem tfld_7_0 : tfld Go.Proofs.Try.prog 7 0 = some (2, 0) := by kernel_rfl
theorem fldA_7_0 : fldA Go.Proofs.Try.prog 7 0 = some 0 := by kernel_rfl
theorem tfld_7_1 : tfld Go.Proofs.Try.prog 7 1 = some (3, 1) := by kernel_rfl
theorem fldA_7_1 : fldA Go.Proofs.Try.prog 7 1 = some 1 := by kernel_rfl
theorem tfld_7_2 : tfld Go.Proofs.Try.prog 7 2 = some (4, 2) := by kernel_rfl
theorem fldA_7_2 : fldA Go.Proofs.Try.prog 7 2 = some 2 := by kernel_rfl
theorem tfld_7_3 : tfld Go.Proofs.Try.prog 7 3 = some (6, 3) := by kernel_rfl
theorem fldA_7_3 : fldA Go.Proofs.Try.prog 7 3 = some 3 := by kernel_rfl
theorem tok_8 : tok Go.Proofs.Try.prog 8 = true := by kernel_rfl
theorem tsz_8 : tsz Go.Proofs.Try.prog 8 = 4 := by kernel_rfl
theorem tby_8 : tbytes Go.Proofs.Try.prog 8 = 24 := by kernel_rfl
theorem tagg_8 : tagg Go.Proofs.Try.prog 8 = true := by kernel_rfl
theorem tconc_8 : tconc Go.Proofs.Try.prog 8 = true := by kernel_rfl
theorem tzero_8 : tzero Go.Proofs.Try.prog 8 = some (.agg #[.int .i64 0, .int .i64 0, .bool false, .int .u8 0]) := by kernel_rfl
theorem tfld_8_0 : tfld Go.Proofs.Try.prog 8 0 = some (2, 0) := by kernel_rfl
theorem fldA_8_0 : fldA Go.Proofs.Try.prog 8 0 = some 0 := by kernel_rfl
theorem tfld_8_1 : tfld Go.Proofs.Try.prog 8 1 = some (3, 1) := by kernel_rfl
theorem fldA_8_1 : fldA Go.Proofs.Try.prog 8 1 = some 1 := by kernel_rfl
theorem tfld_8_2 : tfld Go.Proofs.Try.prog 8 2 = some (4, 2) := by kernel_rfl
theorem fldA_8_2 : fldA Go.Proofs.Try.prog 8 2 = some 2 := by kernel_rfl
theorem tfld_8_3 : tfld Go.Proofs.Try.prog 8 3 = some (6, 3) := by kernel_rfl
theorem fldA_8_3 : fldA Go.Proofs.Try.prog 8 3 = some 3 := by kernel_rfl
theorem meth_8_Error : methB Go.Proofs.Try.prog 8 "Error" = some 80 := by kernel_rfl
theorem meth_8_RuntimeError : methB Go.Proofs.Try.prog 8 "RuntimeError" = some 81 := by kernel_rfl
theorem tok_9 : tok Go.Proofs.Try.prog 9 = true := by kernel_rfl
theorem tsz_9 : tsz Go.Proofs.Try.prog 9 = 1 := by kernel_rfl
theorem tby_9 : tbytes Go.Proofs.Try.prog 9 = 16 := by kernel_rfl
theorem tagg_9 : tagg Go.Proofs.Try.prog 9 = false := by kernel_rfl
theorem tconc_9 : tconc Go.Proofs.Try.prog 9 = true := by kernel_rfl
theorem tzero_9 : tzero Go.Proofs.Try.prog 9 = some (.string { data := #[] }) := by kernel_rfl
theorem tstr_9 : tstr Go.Proofs.Try.prog 9 = true := by kernel_rfl
theorem tok_10 : tok Go.Proofs.Try.prog 10 = true := by kernel_rfl
theorem tsz_10 : tsz Go.Proofs.Try.prog 10 = 1 := by kernel_rfl
theorem tby_10 : tbytes Go.Proofs.Try.prog 10 = 16 := by kernel_rfl
theorem tagg_10 : tagg Go.Proofs.Try.prog 10 = false := by kernel_rfl
theorem tconc_10 : tconc Go.Proofs.Try.prog 10 = true := by kernel_rfl
theorem tzero_10 : tzero Go.Proofs.Try.prog 10 = some (.string { data := #[] }) := by kernel_rfl
theorem tstr_10 : tstr Go.Proofs.Try.prog 10 = true := by kernel_rfl
theorem meth_10_Error : methB Go.Proofs.Try.prog 10 "Error" = some 82 := by kernel_rfl
theorem meth_10_RuntimeError : methB Go.Proofs.Try.prog 10 "RuntimeError" = some 83 := by kernel_rfl
theorem tok_11 : tok Go.Proofs.Try.prog 11 = true := by kernel_rfl
theorem tsz_11 : tsz Go.Proofs.Try.prog 11 = 1 := by kernel_rfl
theorem tby_11 : tbytes Go.Proofs.Try.prog 11 = 16 := by kernel_rfl
theorem tagg_11 : tagg Go.Proofs.Try.prog 11 = false := by kernel_rfl
theorem tconc_11 : tconc Go.Proofs.Try.prog 11 = true := by kernel_rfl
theorem tzero_11 : tzero Go.Proofs.Try.prog 11 = some (.string { data := #[] }) := by kernel_rfl
theorem tstr_11 : tstr Go.Proofs.Try.prog 11 = true := by kernel_rfl
theorem meth_11_Error : methB Go.Proofs.Try.prog 11 "Error" = some 84 := by kernel_rfl
theorem meth_11_RuntimeError : methB Go.Proofs.Try.prog 11 "RuntimeError" = some 85 := by kernel_rfl
theorem tok_12 : tok Go.Proofs.Try.prog 12 = true := by kernel_rfl
theorem tsz_12 : tsz Go.Proofs.Try.prog 12 = 1 := by kernel_rfl
theorem tby_12 : tbytes Go.Proofs.Try.prog 12 = 8 := by kernel_rfl
theorem tagg_12 : tagg Go.Proofs.Try.prog 12 = false := by kernel_rfl
theorem tconc_12 : tconc Go.Proofs.Try.prog 12 = true := by kernel_rfl
theorem tzero_12 : tzero Go.Proofs.Try.prog 12 = some (.int .u64 0) := by kernel_rfl
theorem tkind_12 : tkind Go.Proofs.Try.prog 12 = some .u64 := by kernel_rfl
theorem tok_13 : tok Go.Proofs.Try.prog 13 = true := by kernel_rfl
theorem tsz_13 : tsz Go.Proofs.Try.prog 13 = 2 := by kernel_rfl
theorem tby_13 : tbytes Go.Proofs.Try.prog 13 = 24 := by kernel_rfl
theorem tagg_13 : tagg Go.Proofs.Try.prog 13 = true := by kernel_rfl
theorem tconc_13 : tconc Go.Proofs.Try.prog 13 = true := by kernel_rfl
theorem tzero_13 : tzero Go.Proofs.Try.prog 13 = some (.agg #[.string { data := #[] }, .int .u64 0]) := by kernel_rfl
theorem tfld_13_0 : tfld Go.Proofs.Try.prog 13 0 = some (9, 0) := by kernel_rfl
theorem fldA_13_0 : fldA Go.Proofs.Try.prog 13 0 = some 0 := by kernel_rfl
theorem tfld_13_1 : tfld Go.Proofs.Try.prog 13 1 = some (12, 1) := by kernel_rfl
theorem fldA_13_1 : fldA Go.Proofs.Try.prog 13 1 = some 1 := by kernel_rfl
theorem tok_14 : tok Go.Proofs.Try.prog 14 = true := by kernel_rfl
theorem tsz_14 : tsz Go.Proofs.Try.prog 14 = 2 := by kernel_rfl
theorem tby_14 : tbytes Go.Proofs.Try.prog 14 = 24 := by kernel_rfl
theorem tagg_14 : tagg Go.Proofs.Try.prog 14 = true := by kernel_rfl
theorem tconc_14 : tconc Go.Proofs.Try.prog 14 = true := by kernel_rfl
theorem tzero_14 : tzero Go.Proofs.Try.prog 14 = some (.agg #[.string { data := #[] }, .int .u64 0]) := by kernel_rfl
theorem tfld_14_0 : tfld Go.Proofs.Try.prog 14 0 = some (9, 0) := by kernel_rfl
theorem fldA_14_0 : fldA Go.Proofs.Try.prog 14 0 = some 0 := by kernel_rfl
theorem tfld_14_1 : tfld Go.Proofs.Try.prog 14 1 = some (12, 1) := by kernel_rfl
theorem fldA_14_1 : fldA Go.Proofs.Try.prog 14 1 = some 1 := by kernel_rfl
theorem meth_14_Error : methB Go.Proofs.Try.prog 14 "Error" = some 86 := by kernel_rfl
theorem meth_14_RuntimeError : methB Go.Proofs.Try.prog 14 "RuntimeError" = some 87 := by kernel_rfl
theorem tok_15 : tok Go.Proofs.Try.prog 15 = true := by kernel_rfl
theorem tsz_15 : tsz Go.Proofs.Try.prog 15 = 1 := by kernel_rfl
theorem tby_15 : tbytes Go.Proofs.Try.prog 15 = 8 := by kernel_rfl
theorem tagg_15 : tagg Go.Proofs.Try.prog 15 = false := by kernel_rfl
theorem tconc_15 : tconc Go.Proofs.Try.prog 15 = true := by kernel_rfl
theorem tzero_15 : tzero Go.Proofs.Try.prog 15 = some (.pointer none) := by kernel_rfl
theorem tptr_15 : tptr Go.Proofs.Try.prog 15 = true := by kernel_rfl
theorem meth_15_Error : methB Go.Proofs.Try.prog 15 "Error" = some 88 := by kernel_rfl
theorem meth_15_RuntimeError : methB Go.Proofs.Try.prog 15 "RuntimeError" = some 89 := by kernel_rfl
theorem tok_16 : tok Go.Proofs.Try.prog 16 = true := by kernel_rfl
theorem tsz_16 : tsz Go.Proofs.Try.prog 16 = 1 := by kernel_rfl
theorem tby_16 : tbytes Go.Proofs.Try.prog 16 = 8 := by kernel_rfl
theorem tagg_16 : tagg Go.Proofs.Try.prog 16 = false := by kernel_rfl
theorem tconc_16 : tconc Go.Proofs.Try.prog 16 = true := by kernel_rfl
theorem tzero_16 : tzero Go.Proofs.Try.prog 16 = some (.pointer none) := by kernel_rfl
theorem tptr_16 : tptr Go.Proofs.Try.prog 16 = true := by kernel_rfl
theorem meth_16_Error : methB Go.Proofs.Try.prog 16 "Error" = some 90 := by kernel_rfl
theorem meth_16_RuntimeError : methB Go.Proofs.Try.prog 16 "RuntimeError" = some 91 := by kernel_rfl
theorem tok_17 : tok Go.Proofs.Try.prog 17 = true := by kernel_rfl
theorem tsz_17 : tsz Go.Proofs.Try.prog 17 = 1 := by kernel_rfl
theorem tby_17 : tbytes Go.Proofs.Try.prog 17 = 8 := by kernel_rfl
theorem tagg_17 : tagg Go.Proofs.Try.prog 17 = false := by kernel_rfl
theorem tconc_17 : tconc Go.Proofs.Try.prog 17 = true := by kernel_rfl
theorem tzero_17 : tzero Go.Proofs.Try.prog 17 = some (.pointer none) := by kernel_rfl
theorem tptr_17 : tptr Go.Proofs.Try.prog 17 = true := by kernel_rfl
theorem meth_17_Align : methB Go.Proofs.Try.prog 17 "Align" = some 92 := by kernel_rfl
theorem tok_18 : tok Go.Proofs.Try.prog 18 = true := by kernel_rfl
theorem tsz_18 : tsz Go.Proofs.Try.prog 18 = 1 := by kernel_rfl
theorem tby_18 : tbytes Go.Proofs.Try.prog 18 = 8 := by kernel_rfl
theorem tagg_18 : tagg Go.Proofs.Try.prog 18 = true := by kernel_rfl
theorem tconc_18 : tconc Go.Proofs.Try.prog 18 = true := by kernel_rfl
theorem tzero_18 : tzero Go.Proofs.Try.prog 18 = some (.agg #[.pointer none]) := by kernel_rfl
theorem tfld_18_0 : tfld Go.Proofs.Try.prog 18 0 = some (17, 0) := by kernel_rfl
theorem fldA_18_0 : fldA Go.Proofs.Try.prog 18 0 = some 0 := by kernel_rfl
theorem tok_19 : tok Go.Proofs.Try.prog 19 = true := by kernel_rfl
theorem tsz_19 : tsz Go.Proofs.Try.prog 19 = 1 := by kernel_rfl
theorem tby_19 : tbytes Go.Proofs.Try.prog 19 = 8 := by kernel_rfl
theorem tagg_19 : tagg Go.Proofs.Try.prog 19 = true := by kernel_rfl
theorem tconc_19 : tconc Go.Proofs.Try.prog 19 = true := by kernel_rfl
theorem tzero_19 : tzero Go.Proofs.Try.prog 19 = some (.agg #[.pointer none]) := by kernel_rfl
theorem tfld_19_0 : tfld Go.Proofs.Try.prog 19 0 = some (17, 0) := by kernel_rfl
theorem fldA_19_0 : fldA Go.Proofs.Try.prog 19 0 = some 0 := by kernel_rfl
theorem meth_19_Error : methB Go.Proofs.Try.prog 19 "Error" = some 93 := by kernel_rfl
theorem meth_19_RuntimeError : methB Go.Proofs.Try.prog 19 "RuntimeError" = some 94 := by kernel_rfl
theorem tok_20 : tok Go.Proofs.Try.prog 20 = true := by kernel_rfl
theorem tsz_20 : tsz Go.Proofs.Try.prog 20 = 1 := by kernel_rfl
theorem tby_20 : tbytes Go.Proofs.Try.prog 20 = 16 := by kernel_rfl
theorem tagg_20 : tagg Go.Proofs.Try.prog 20 = false := by kernel_rfl
theorem tconc_20 : tconc Go.Proofs.Try.prog 20 = false := by kernel_rfl
theorem tzero_20 : tzero Go.Proofs.Try.prog 20 = some .nilIface := by kernel_rfl
theorem tok_21 : tok Go.Proofs.Try.prog 21 = true := by kernel_rfl
theorem tsz_21 : tsz Go.Proofs.Try.prog 21 = 1 := by kernel_rfl
theorem tby_21 : tbytes Go.Proofs.Try.prog 21 = 4 := by kernel_rfl
theorem tagg_21 : tagg Go.Proofs.Try.prog 21 = false := by kernel_rfl
theorem tconc_21 : tconc Go.Proofs.Try.prog 21 = true := by kernel_rfl
theorem tzero_21 : tzero Go.Proofs.Try.prog 21 = some (.int .i32 0) := by kernel_rfl
theorem tkind_21 : tkind Go.Proofs.Try.prog 21 = some .i32 := by kernel_rfl
theorem tok_22 : tok Go.Proofs.Try.prog 22 = true := by kernel_rfl
theorem tsz_22 : tsz Go.Proofs.Try.prog 22 = 1 := by kernel_rfl
theorem tby_22 : tbytes Go.Proofs.Try.prog 22 = 24 := by kernel_rfl
theorem tagg_22 : tagg Go.Proofs.Try.prog 22 = false := by kernel_rfl
theorem tconc_22 : tconc Go.Proofs.Try.prog 22 = true := by kernel_rfl
theorem tzero_22 : tzero Go.Proofs.Try.prog 22 = some (.slice none 0 0) := by kernel_rfl
theorem telem_22 : telem Go.Proofs.Try.prog 22 = some 3 := by kernel_rfl
theorem tok_23 : tok Go.Proofs.Try.prog 23 = true := by kernel_rfl
theorem tsz_23 : tsz Go.Proofs.Try.prog 23 = 3 := by kernel_rfl
theorem tby_23 : tbytes Go.Proofs.Try.prog 23 = 56 := by kernel_rfl
theorem tagg_23 : tagg Go.Proofs.Try.prog 23 = true := by kernel_rfl
theorem tconc_23 : tconc Go.Proofs.Try.prog 23 = true := by kernel_rfl
theorem tzero_23 : tzero Go.Proofs.Try.prog 23 = some (.agg #[.int .i64 0, .slice none 0 0, .slice none 0 0]) := by kernel_rfl
theorem tfld_23_0 : tfld Go.Proofs.Try.prog 23 0 = some (3, 0) := by kernel_rfl
theorem fldA_23_0 : fldA Go.Proofs.Try.prog 23 0 = some 0 := by kernel_rfl
theorem tfld_23_1 : tfld Go.Proofs.Try.prog 23 1 = some (22, 1) := by kernel_rfl
theorem fldA_23_1 : fldA Go.Proofs.Try.prog 23 1 = some 1 := by kernel_rfl
theorem tfld_23_2 : tfld Go.Proofs.Try.prog 23 2 = some (22, 2) := by kernel_rfl
theorem fldA_23_2 : fldA Go.Proofs.Try.prog 23 2 = some 2 := by kernel_rfl
theorem tok_24 : tok Go.Proofs.Try.prog 24 = true := by kernel_rfl
theorem tsz_24 : tsz Go.Proofs.Try.prog 24 = 3 := by kernel_rfl
theorem tby_24 : tbytes Go.Proofs.Try.prog 24 = 56 := by kernel_rfl
theorem tagg_24 : tagg Go.Proofs.Try.prog 24 = true := by kernel_rfl
theorem tconc_24 : tconc Go.Proofs.Try.prog 24 = true := by kernel_rfl
theorem tzero_24 : tzero Go.Proofs.Try.prog 24 = some (.agg #[.int .i64 0, .slice none 0 0, .slice none 0 0]) := by kernel_rfl
theorem tfld_24_0 : tfld Go.Proofs.Try.prog 24 0 = some (3, 0) := by kernel_rfl
theorem fldA_24_0 : fldA Go.Proofs.Try.prog 24 0 = some 0 := by kernel_rfl
theorem tfld_24_1 : tfld Go.Proofs.Try.prog 24 1 = some (22, 1) := by kernel_rfl
theorem fldA_24_1 : fldA Go.Proofs.Try.prog 24 1 = some 1 := by kernel_rfl
theorem tfld_24_2 : tfld Go.Proofs.Try.prog 24 2 = some (22, 2) := by kernel_rfl
theorem fldA_24_2 : fldA Go.Proofs.Try.prog 24 2 = some 2 := by kernel_rfl
theorem tok_25 : tok Go.Proofs.Try.prog 25 = true := by kernel_rfl
theorem tsz_25 : tsz Go.Proofs.Try.prog 25 = 1 := by kernel_rfl
theorem tby_25 : tbytes Go.Proofs.Try.prog 25 = 8 := by kernel_rfl
theorem tagg_25 : tagg Go.Proofs.Try.prog 25 = false := by kernel_rfl
theorem tconc_25 : tconc Go.Proofs.Try.prog 25 = true := by kernel_rfl
theorem tzero_25 : tzero Go.Proofs.Try.prog 25 = some .nilFunc := by kernel_rfl
theorem tok_26 : tok Go.Proofs.Try.prog 26 = true := by kernel_rfl
theorem tsz_26 : tsz Go.Proofs.Try.prog 26 = 1 := by kernel_rfl
theorem tby_26 : tbytes Go.Proofs.Try.prog 26 = 8 := by kernel_rfl
theorem tagg_26 : tagg Go.Proofs.Try.prog 26 = false := by kernel_rfl
theorem tconc_26 : tconc Go.Proofs.Try.prog 26 = true := by kernel_rfl
theorem tzero_26 : tzero Go.Proofs.Try.prog 26 = some .nilFunc := by kernel_rfl
theorem tok_27 : tok Go.Proofs.Try.prog 27 = true := by kernel_rfl
theorem tsz_27 : tsz Go.Proofs.Try.prog 27 = 1 := by kernel_rfl
theorem tby_27 : tbytes Go.Proofs.Try.prog 27 = 8 := by kernel_rfl
theorem tagg_27 : tagg Go.Proofs.Try.prog 27 = false := by kernel_rfl
theorem tconc_27 : tconc Go.Proofs.Try.prog 27 = true := by kernel_rfl
theorem tzero_27 : tzero Go.Proofs.Try.prog 27 = some (.int .i64 0) := by kernel_rfl
theorem tkind_27 : tkind Go.Proofs.Try.prog 27 = some .i64 := by kernel_rfl
theorem tok_28 : tok Go.Proofs.Try.prog 28 = true := by kernel_rfl
theorem tsz_28 : tsz Go.Proofs.Try.prog 28 = 1 := by kernel_rfl
theorem tby_28 : tbytes Go.Proofs.Try.prog 28 = 0 := by kernel_rfl
theorem tagg_28 : tagg Go.Proofs.Try.prog 28 = false := by kernel_rfl
theorem tconc_28 : tconc Go.Proofs.Try.prog 28 = true := by kernel_rfl
theorem tzero_28 : tzero Go.Proofs.Try.prog 28 = some (.tuple #[.slice none 0 0, .int .i64 0]) := by kernel_rfl
theorem tok_29 : tok Go.Proofs.Try.prog 29 = true := by kernel_rfl
theorem tsz_29 : tsz Go.Proofs.Try.prog 29 = 1 := by kernel_rfl
theorem tby_29 : tbytes Go.Proofs.Try.prog 29 = 8 := by kernel_rfl
theorem tagg_29 : tagg Go.Proofs.Try.prog 29 = false := by kernel_rfl
theorem tconc_29 : tconc Go.Proofs.Try.prog 29 = true := by kernel_rfl
theorem tzero_29 : tzero Go.Proofs.Try.prog 29 = some .nilFunc := by kernel_rfl
theorem tok_30 : tok Go.Proofs.Try.prog 30 = true := by kernel_rfl
theorem tsz_30 : tsz Go.Proofs.Try.prog 30 = 1 := by kernel_rfl
theorem tby_30 : tbytes Go.Proofs.Try.prog 30 = 8 := by kernel_rfl
theorem tagg_30 : tagg Go.Proofs.Try.prog 30 = false := by kernel_rfl
theorem tconc_30 : tconc Go.Proofs.Try.prog 30 = true := by kernel_rfl
theorem tzero_30 : tzero Go.Proofs.Try.prog 30 = some .nilFunc := by kernel_rfl
theorem tok_31 : tok Go.Proofs.Try.prog 31 = true := by kernel_rfl
theorem tsz_31 : tsz Go.Proofs.Try.prog 31 = 1 := by kernel_rfl
theorem tby_31 : tbytes Go.Proofs.Try.prog 31 = 0 := by kernel_rfl
theorem tagg_31 : tagg Go.Proofs.Try.prog 31 = false := by kernel_rfl
theorem tconc_31 : tconc Go.Proofs.Try.prog 31 = true := by kernel_rfl
theorem tzero_31 : tzero Go.Proofs.Try.prog 31 = some (.tuple #[.int .i64 0, .int .i64 0]) := by kernel_rfl
theorem tok_32 : tok Go.Proofs.Try.prog 32 = true := by kernel_rfl
theorem tsz_32 : tsz Go.Proofs.Try.prog 32 = 1 := by kernel_rfl
theorem tby_32 : tbytes Go.Proofs.Try.prog 32 = 8 := by kernel_rfl
theorem tagg_32 : tagg Go.Proofs.Try.prog 32 = false := by kernel_rfl
theorem tconc_32 : tconc Go.Proofs.Try.prog 32 = true := by kernel_rfl
theorem tzero_32 : tzero Go.Proofs.Try.prog 32 = some .nilFunc := by kernel_rfl
theorem tok_33 : tok Go.Proofs.Try.prog 33 = true := by kernel_rfl
theorem tsz_33 : tsz Go.Proofs.Try.prog 33 = 1 := by kernel_rfl
theorem tby_33 : tbytes Go.Proofs.Try.prog 33 = 8 := by kernel_rfl
theorem tagg_33 : tagg Go.Proofs.Try.prog 33 = false := by kernel_rfl
theorem tconc_33 : tconc Go.Proofs.Try.prog 33 = true := by kernel_rfl
theorem tzero_33 : tzero Go.Proofs.Try.prog 33 = some .nilFunc := by kernel_rfl
theorem tok_34 : tok Go.Proofs.Try.prog 34 = true := by kernel_rfl
theorem tsz_34 : tsz Go.Proofs.Try.prog 34 = 1 := by kernel_rfl
theorem tby_34 : tbytes Go.Proofs.Try.prog 34 = 8 := by kernel_rfl
theorem tagg_34 : tagg Go.Proofs.Try.prog 34 = false := by kernel_rfl
theorem tconc_34 : tconc Go.Proofs.Try.prog 34 = true := by kernel_rfl
theorem tzero_34 : tzero Go.Proofs.Try.prog 34 = some (.pointer none) := by kernel_rfl
theorem tptr_34 : tptr Go.Proofs.Try.prog 34 = true := by kernel_rfl
theorem meth_34_Count : methB Go.Proofs.Try.prog 34 "Count" = some 19 := by kernel_rfl
theorem meth_34_Run : methB Go.Proofs.Try.prog 34 "Run" = some 21 := by kernel_rfl
theorem meth_34_continuo_effect_parts : methB Go.Proofs.Try.prog 34 "continuo/effect.parts" = some 43 := by kernel_rfl
theorem tok_35 : tok Go.Proofs.Try.prog 35 = true := by kernel_rfl
theorem tsz_35 : tsz Go.Proofs.Try.prog 35 = 1 := by kernel_rfl
theorem tby_35 : tbytes Go.Proofs.Try.prog 35 = 0 := by kernel_rfl
theorem tagg_35 : tagg Go.Proofs.Try.prog 35 = false := by kernel_rfl
theorem tconc_35 : tconc Go.Proofs.Try.prog 35 = true := by kernel_rfl
theorem tzero_35 : tzero Go.Proofs.Try.prog 35 = some (.tuple #[.pointer none, .int .i64 0]) := by kernel_rfl
theorem tok_36 : tok Go.Proofs.Try.prog 36 = true := by kernel_rfl
theorem tsz_36 : tsz Go.Proofs.Try.prog 36 = 1 := by kernel_rfl
theorem tby_36 : tbytes Go.Proofs.Try.prog 36 = 8 := by kernel_rfl
theorem tagg_36 : tagg Go.Proofs.Try.prog 36 = false := by kernel_rfl
theorem tconc_36 : tconc Go.Proofs.Try.prog 36 = true := by kernel_rfl
theorem tzero_36 : tzero Go.Proofs.Try.prog 36 = some .nilFunc := by kernel_rfl
theorem tok_37 : tok Go.Proofs.Try.prog 37 = true := by kernel_rfl
theorem tsz_37 : tsz Go.Proofs.Try.prog 37 = 1 := by kernel_rfl
theorem tby_37 : tbytes Go.Proofs.Try.prog 37 = 8 := by kernel_rfl
theorem tagg_37 : tagg Go.Proofs.Try.prog 37 = false := by kernel_rfl
theorem tconc_37 : tconc Go.Proofs.Try.prog 37 = true := by kernel_rfl
theorem tzero_37 : tzero Go.Proofs.Try.prog 37 = some .nilFunc := by kernel_rfl
theorem tok_38 : tok Go.Proofs.Try.prog 38 = true := by kernel_rfl
theorem tsz_38 : tsz Go.Proofs.Try.prog 38 = 1 := by kernel_rfl
theorem tby_38 : tbytes Go.Proofs.Try.prog 38 = 8 := by kernel_rfl
theorem tagg_38 : tagg Go.Proofs.Try.prog 38 = false := by kernel_rfl
theorem tconc_38 : tconc Go.Proofs.Try.prog 38 = true := by kernel_rfl
theorem tzero_38 : tzero Go.Proofs.Try.prog 38 = some .nilFunc := by kernel_rfl
theorem tok_39 : tok Go.Proofs.Try.prog 39 = true := by kernel_rfl
theorem tsz_39 : tsz Go.Proofs.Try.prog 39 = 1 := by kernel_rfl
theorem tby_39 : tbytes Go.Proofs.Try.prog 39 = 8 := by kernel_rfl
theorem tagg_39 : tagg Go.Proofs.Try.prog 39 = false := by kernel_rfl
theorem tconc_39 : tconc Go.Proofs.Try.prog 39 = true := by kernel_rfl
theorem tzero_39 : tzero Go.Proofs.Try.prog 39 = some .nilFunc := by kernel_rfl
theorem tok_40 : tok Go.Proofs.Try.prog 40 = true := by kernel_rfl
theorem tsz_40 : tsz Go.Proofs.Try.prog 40 = 1 := by kernel_rfl
theorem tby_40 : tbytes Go.Proofs.Try.prog 40 = 8 := by kernel_rfl
theorem tagg_40 : tagg Go.Proofs.Try.prog 40 = false := by kernel_rfl
theorem tconc_40 : tconc Go.Proofs.Try.prog 40 = true := by kernel_rfl
theorem tzero_40 : tzero Go.Proofs.Try.prog 40 = some .nilFunc := by kernel_rfl
theorem tok_41 : tok Go.Proofs.Try.prog 41 = true := by kernel_rfl
theorem tsz_41 : tsz Go.Proofs.Try.prog 41 = 1 := by kernel_rfl
theorem tby_41 : tbytes Go.Proofs.Try.prog 41 = 8 := by kernel_rfl
theorem tagg_41 : tagg Go.Proofs.Try.prog 41 = false := by kernel_rfl
theorem tconc_41 : tconc Go.Proofs.Try.prog 41 = true := by kernel_rfl
theorem tzero_41 : tzero Go.Proofs.Try.prog 41 = some .nilFunc := by kernel_rfl
theorem tok_42 : tok Go.Proofs.Try.prog 42 = true := by kernel_rfl
theorem tsz_42 : tsz Go.Proofs.Try.prog 42 = 1 := by kernel_rfl
theorem tby_42 : tbytes Go.Proofs.Try.prog 42 = 8 := by kernel_rfl
theorem tagg_42 : tagg Go.Proofs.Try.prog 42 = false := by kernel_rfl
theorem tconc_42 : tconc Go.Proofs.Try.prog 42 = true := by kernel_rfl
theorem tzero_42 : tzero Go.Proofs.Try.prog 42 = some .nilFunc := by kernel_rfl
theorem tok_43 : tok Go.Proofs.Try.prog 43 = true := by kernel_rfl
theorem tsz_43 : tsz Go.Proofs.Try.prog 43 = 1 := by kernel_rfl
theorem tby_43 : tbytes Go.Proofs.Try.prog 43 = 8 := by kernel_rfl
theorem tagg_43 : tagg Go.Proofs.Try.prog 43 = false := by kernel_rfl
theorem tconc_43 : tconc Go.Proofs.Try.prog 43 = true := by kernel_rfl
theorem tzero_43 : tzero Go.Proofs.Try.prog 43 = some .nilFunc := by kernel_rfl
theorem tok_44 : tok Go.Proofs.Try.prog 44 = true := by kernel_rfl
theorem tsz_44 : tsz Go.Proofs.Try.prog 44 = 1 := by kernel_rfl
theorem tby_44 : tbytes Go.Proofs.Try.prog 44 = 24 := by kernel_rfl
theorem tagg_44 : tagg Go.Proofs.Try.prog 44 = false := by kernel_rfl
theorem tconc_44 : tconc Go.Proofs.Try.prog 44 = true := by kernel_rfl
theorem tzero_44 : tzero Go.Proofs.Try.prog 44 = some (.slice none 0 0) := by kernel_rfl
theorem telem_44 : telem Go.Proofs.Try.prog 44 = some 45 := by kernel_rfl
theorem tok_45 : tok Go.Proofs.Try.prog 45 = true := by kernel_rfl
theorem tsz_45 : tsz Go.Proofs.Try.prog 45 = 1 := by kernel_rfl
theorem tby_45 : tbytes Go.Proofs.Try.prog 45 = 24 := by kernel_rfl
theorem tagg_45 : tagg Go.Proofs.Try.prog 45 = false := by kernel_rfl
theorem tconc_45 : tconc Go.Proofs.Try.prog 45 = true := by kernel_rfl
theorem tzero_45 : tzero Go.Proofs.Try.prog 45 = some (.slice none 0 0) := by kernel_rfl
theorem telem_45 : telem Go.Proofs.Try.prog 45 = some 24 := by kernel_rfl
theorem tok_46 : tok Go.Proofs.Try.prog 46 = true := by kernel_rfl
theorem tsz_46 : tsz Go.Proofs.Try.prog 46 = 1 := by kernel_rfl
theorem tby_46 : tbytes Go.Proofs.Try.prog 46 = 8 := by kernel_rfl
theorem tagg_46 : tagg Go.Proofs.Try.prog 46 = false := by kernel_rfl
theorem tconc_46 : tconc Go.Proofs.Try.prog 46 = true := by kernel_rfl
theorem tzero_46 : tzero Go.Proofs.Try.prog 46 = some (.pointer none) := by kernel_rfl
theorem tptr_46 : tptr Go.Proofs.Try.prog 46 = true := by kernel_rfl
theorem meth_46_Flush : methB Go.Proofs.Try.prog 46 "Flush" = some 27 := by kernel_rfl
theorem meth_46_Latency : methB Go.Proofs.Try.prog 46 "Latency" = some 25 := by kernel_rfl
theorem meth_46_Run : methB Go.Proofs.Try.prog 46 "Run" = some 26 := by kernel_rfl
theorem meth_46_continuo_effect_equalize : methB Go.Proofs.Try.prog 46 "continuo/effect.equalize" = some 53 := by kernel_rfl
theorem tok_47 : tok Go.Proofs.Try.prog 47 = true := by kernel_rfl
theorem tsz_47 : tsz Go.Proofs.Try.prog 47 = 1 := by kernel_rfl
theorem tby_47 : tbytes Go.Proofs.Try.prog 47 = 0 := by kernel_rfl
theorem tagg_47 : tagg Go.Proofs.Try.prog 47 = false := by kernel_rfl
theorem tconc_47 : tconc Go.Proofs.Try.prog 47 = true := by kernel_rfl
theorem tzero_47 : tzero Go.Proofs.Try.prog 47 = some (.tuple #[.pointer none, .int .i64 0]) := by kernel_rfl
theorem tok_48 : tok Go.Proofs.Try.prog 48 = true := by kernel_rfl
theorem tsz_48 : tsz Go.Proofs.Try.prog 48 = 1 := by kernel_rfl
theorem tby_48 : tbytes Go.Proofs.Try.prog 48 = 8 := by kernel_rfl
theorem tagg_48 : tagg Go.Proofs.Try.prog 48 = false := by kernel_rfl
theorem tconc_48 : tconc Go.Proofs.Try.prog 48 = true := by kernel_rfl
theorem tzero_48 : tzero Go.Proofs.Try.prog 48 = some .nilFunc := by kernel_rfl
theorem tok_49 : tok Go.Proofs.Try.prog 49 = true := by kernel_rfl
theorem tsz_49 : tsz Go.Proofs.Try.prog 49 = 1 := by kernel_rfl
theorem tby_49 : tbytes Go.Proofs.Try.prog 49 = 8 := by kernel_rfl
theorem tagg_49 : tagg Go.Proofs.Try.prog 49 = false := by kernel_rfl
theorem tconc_49 : tconc Go.Proofs.Try.prog 49 = true := by kernel_rfl
theorem tzero_49 : tzero Go.Proofs.Try.prog 49 = some .nilFunc := by kernel_rfl
theorem tok_50 : tok Go.Proofs.Try.prog 50 = true := by kernel_rfl
theorem tsz_50 : tsz Go.Proofs.Try.prog 50 = 1 := by kernel_rfl
theorem tby_50 : tbytes Go.Proofs.Try.prog 50 = 8 := by kernel_rfl
theorem tagg_50 : tagg Go.Proofs.Try.prog 50 = false := by kernel_rfl
theorem tconc_50 : tconc Go.Proofs.Try.prog 50 = true := by kernel_rfl
theorem tzero_50 : tzero Go.Proofs.Try.prog 50 = some .nilFunc := by kernel_rfl
theorem tok_51 : tok Go.Proofs.Try.prog 51 = true := by kernel_rfl
theorem tsz_51 : tsz Go.Proofs.Try.prog 51 = 1 := by kernel_rfl
theorem tby_51 : tbytes Go.Proofs.Try.prog 51 = 8 := by kernel_rfl
theorem tagg_51 : tagg Go.Proofs.Try.prog 51 = false := by kernel_rfl
theorem tconc_51 : tconc Go.Proofs.Try.prog 51 = true := by kernel_rfl
theorem tzero_51 : tzero Go.Proofs.Try.prog 51 = some (.pointer none) := by kernel_rfl
theorem tptr_51 : tptr Go.Proofs.Try.prog 51 = true := by kernel_rfl
theorem meth_51_Level : methB Go.Proofs.Try.prog 51 "Level" = some 30 := by kernel_rfl
theorem meth_51_Run : methB Go.Proofs.Try.prog 51 "Run" = some 29 := by kernel_rfl
theorem tok_52 : tok Go.Proofs.Try.prog 52 = true := by kernel_rfl
theorem tsz_52 : tsz Go.Proofs.Try.prog 52 = 1 := by kernel_rfl
theorem tby_52 : tbytes Go.Proofs.Try.prog 52 = 0 := by kernel_rfl
theorem tagg_52 : tagg Go.Proofs.Try.prog 52 = false := by kernel_rfl
theorem tconc_52 : tconc Go.Proofs.Try.prog 52 = true := by kernel_rfl
theorem tzero_52 : tzero Go.Proofs.Try.prog 52 = some (.tuple #[.pointer none, .int .i64 0]) := by kernel_rfl
theorem tok_53 : tok Go.Proofs.Try.prog 53 = true := by kernel_rfl
theorem tsz_53 : tsz Go.Proofs.Try.prog 53 = 1 := by kernel_rfl
theorem tby_53 : tbytes Go.Proofs.Try.prog 53 = 8 := by kernel_rfl
theorem tagg_53 : tagg Go.Proofs.Try.prog 53 = false := by kernel_rfl
theorem tconc_53 : tconc Go.Proofs.Try.prog 53 = true := by kernel_rfl
theorem tzero_53 : tzero Go.Proofs.Try.prog 53 = some .nilFunc := by kernel_rfl
theorem tok_54 : tok Go.Proofs.Try.prog 54 = true := by kernel_rfl
theorem tsz_54 : tsz Go.Proofs.Try.prog 54 = 1 := by kernel_rfl
theorem tby_54 : tbytes Go.Proofs.Try.prog 54 = 8 := by kernel_rfl
theorem tagg_54 : tagg Go.Proofs.Try.prog 54 = false := by kernel_rfl
theorem tconc_54 : tconc Go.Proofs.Try.prog 54 = true := by kernel_rfl
theorem tzero_54 : tzero Go.Proofs.Try.prog 54 = some .nilFunc := by kernel_rfl
theorem tok_55 : tok Go.Proofs.Try.prog 55 = true := by kernel_rfl
theorem tsz_55 : tsz Go.Proofs.Try.prog 55 = 1 := by kernel_rfl
theorem tby_55 : tbytes Go.Proofs.Try.prog 55 = 8 := by kernel_rfl
theorem tagg_55 : tagg Go.Proofs.Try.prog 55 = false := by kernel_rfl
theorem tconc_55 : tconc Go.Proofs.Try.prog 55 = true := by kernel_rfl
theorem tzero_55 : tzero Go.Proofs.Try.prog 55 = some .nilFunc := by kernel_rfl
theorem tok_56 : tok Go.Proofs.Try.prog 56 = true := by kernel_rfl
theorem tsz_56 : tsz Go.Proofs.Try.prog 56 = 1 := by kernel_rfl
theorem tby_56 : tbytes Go.Proofs.Try.prog 56 = 8 := by kernel_rfl
theorem tagg_56 : tagg Go.Proofs.Try.prog 56 = false := by kernel_rfl
theorem tconc_56 : tconc Go.Proofs.Try.prog 56 = true := by kernel_rfl
theorem tzero_56 : tzero Go.Proofs.Try.prog 56 = some .nilFunc := by kernel_rfl
theorem tok_57 : tok Go.Proofs.Try.prog 57 = true := by kernel_rfl
theorem tsz_57 : tsz Go.Proofs.Try.prog 57 = 1 := by kernel_rfl
theorem tby_57 : tbytes Go.Proofs.Try.prog 57 = 8 := by kernel_rfl
theorem tagg_57 : tagg Go.Proofs.Try.prog 57 = false := by kernel_rfl
theorem tconc_57 : tconc Go.Proofs.Try.prog 57 = true := by kernel_rfl
theorem tzero_57 : tzero Go.Proofs.Try.prog 57 = some .nilFunc := by kernel_rfl
theorem tok_58 : tok Go.Proofs.Try.prog 58 = true := by kernel_rfl
theorem tsz_58 : tsz Go.Proofs.Try.prog 58 = 1 := by kernel_rfl
theorem tby_58 : tbytes Go.Proofs.Try.prog 58 = 24 := by kernel_rfl
theorem tagg_58 : tagg Go.Proofs.Try.prog 58 = false := by kernel_rfl
theorem tconc_58 : tconc Go.Proofs.Try.prog 58 = true := by kernel_rfl
theorem tzero_58 : tzero Go.Proofs.Try.prog 58 = some (.slice none 0 0) := by kernel_rfl
theorem telem_58 : telem Go.Proofs.Try.prog 58 = some 59 := by kernel_rfl
theorem tok_59 : tok Go.Proofs.Try.prog 59 = true := by kernel_rfl
theorem tsz_59 : tsz Go.Proofs.Try.prog 59 = 2 := by kernel_rfl
theorem tby_59 : tbytes Go.Proofs.Try.prog 59 = 16 := by kernel_rfl
theorem tagg_59 : tagg Go.Proofs.Try.prog 59 = true := by kernel_rfl
theorem tconc_59 : tconc Go.Proofs.Try.prog 59 = true := by kernel_rfl
theorem tzero_59 : tzero Go.Proofs.Try.prog 59 = some (.agg #[.int .i64 0, .int .i64 0]) := by kernel_rfl
theorem tarr_59 : tarr Go.Proofs.Try.prog 59 = some (2, 3) := by kernel_rfl
theorem tok_60 : tok Go.Proofs.Try.prog 60 = true := by kernel_rfl
theorem tsz_60 : tsz Go.Proofs.Try.prog 60 = 1 := by kernel_rfl
theorem tby_60 : tbytes Go.Proofs.Try.prog 60 = 8 := by kernel_rfl
theorem tagg_60 : tagg Go.Proofs.Try.prog 60 = false := by kernel_rfl
theorem tconc_60 : tconc Go.Proofs.Try.prog 60 = true := by kernel_rfl
theorem tzero_60 : tzero Go.Proofs.Try.prog 60 = some .nilFunc := by kernel_rfl
theorem tok_61 : tok Go.Proofs.Try.prog 61 = true := by kernel_rfl
theorem tsz_61 : tsz Go.Proofs.Try.prog 61 = 1 := by kernel_rfl
theorem tby_61 : tbytes Go.Proofs.Try.prog 61 = 8 := by kernel_rfl
theorem tagg_61 : tagg Go.Proofs.Try.prog 61 = false := by kernel_rfl
theorem tconc_61 : tconc Go.Proofs.Try.prog 61 = true := by kernel_rfl
theorem tzero_61 : tzero Go.Proofs.Try.prog 61 = some .nilFunc := by kernel_rfl
theorem tok_62 : tok Go.Proofs.Try.prog 62 = true := by kernel_rfl
theorem tsz_62 : tsz Go.Proofs.Try.prog 62 = 1 := by kernel_rfl
theorem tby_62 : tbytes Go.Proofs.Try.prog 62 = 8 := by kernel_rfl
theorem tagg_62 : tagg Go.Proofs.Try.prog 62 = false := by kernel_rfl
theorem tconc_62 : tconc Go.Proofs.Try.prog 62 = true := by kernel_rfl
theorem tzero_62 : tzero Go.Proofs.Try.prog 62 = some .nilFunc := by kernel_rfl
theorem tok_63 : tok Go.Proofs.Try.prog 63 = true := by kernel_rfl
theorem tsz_63 : tsz Go.Proofs.Try.prog 63 = 4 := by kernel_rfl
theorem tby_63 : tbytes Go.Proofs.Try.prog 63 = 64 := by kernel_rfl
theorem tagg_63 : tagg Go.Proofs.Try.prog 63 = true := by kernel_rfl
theorem tconc_63 : tconc Go.Proofs.Try.prog 63 = true := by kernel_rfl
theorem tzero_63 : tzero Go.Proofs.Try.prog 63 = some (.agg #[.slice none 0 0, .int .i64 0, .slice none 0 0, .int .i64 0]) := by kernel_rfl
theorem tfld_63_0 : tfld Go.Proofs.Try.prog 63 0 = some (22, 0) := by kernel_rfl
theorem fldA_63_0 : fldA Go.Proofs.Try.prog 63 0 = some 0 := by kernel_rfl
theorem tfld_63_1 : tfld Go.Proofs.Try.prog 63 1 = some (3, 1) := by kernel_rfl
theorem fldA_63_1 : fldA Go.Proofs.Try.prog 63 1 = some 1 := by kernel_rfl
theorem tfld_63_2 : tfld Go.Proofs.Try.prog 63 2 = some (22, 2) := by kernel_rfl
theorem fldA_63_2 : fldA Go.Proofs.Try.prog 63 2 = some 2 := by kernel_rfl
theorem tfld_63_3 : tfld Go.Proofs.Try.prog 63 3 = some (3, 3) := by kernel_rfl
theorem fldA_63_3 : fldA Go.Proofs.Try.prog 63 3 = some 3 := by kernel_rfl
theorem tok_64 : tok Go.Proofs.Try.prog 64 = true := by kernel_rfl
theorem tsz_64 : tsz Go.Proofs.Try.prog 64 = 4 := by kernel_rfl
theorem tby_64 : tbytes Go.Proofs.Try.prog 64 = 64 := by kernel_rfl
theorem tagg_64 : tagg Go.Proofs.Try.prog 64 = true := by kernel_rfl
theorem tconc_64 : tconc Go.Proofs.Try.prog 64 = true := by kernel_rfl
theorem tzero_64 : tzero Go.Proofs.Try.prog 64 = some (.agg #[.slice none 0 0, .int .i64 0, .slice none 0 0, .int .i64 0]) := by kernel_rfl
theorem tfld_64_0 : tfld Go.Proofs.Try.prog 64 0 = some (22, 0) := by kernel_rfl
theorem fldA_64_0 : fldA Go.Proofs.Try.prog 64 0 = some 0 := by kernel_rfl
theorem tfld_64_1 : tfld Go.Proofs.Try.prog 64 1 = some (3, 1) := by kernel_rfl
theorem fldA_64_1 : fldA Go.Proofs.Try.prog 64 1 = some 1 := by kernel_rfl
theorem tfld_64_2 : tfld Go.Proofs.Try.prog 64 2 = some (22, 2) := by kernel_rfl
theorem fldA_64_2 : fldA Go.Proofs.Try.prog 64 2 = some 2 := by kernel_rfl
theorem tfld_64_3 : tfld Go.Proofs.Try.prog 64 3 = some (3, 3) := by kernel_rfl
theorem fldA_64_3 : fldA Go.Proofs.Try.prog 64 3 = some 3 := by kernel_rfl
theorem tok_65 : tok Go.Proofs.Try.prog 65 = true := by kernel_rfl
theorem tsz_65 : tsz Go.Proofs.Try.prog 65 = 1 := by kernel_rfl
theorem tby_65 : tbytes Go.Proofs.Try.prog 65 = 8 := by kernel_rfl
theorem tagg_65 : tagg Go.Proofs.Try.prog 65 = false := by kernel_rfl
theorem tconc_65 : tconc Go.Proofs.Try.prog 65 = true := by kernel_rfl
theorem tzero_65 : tzero Go.Proofs.Try.prog 65 = some .nilFunc := by kernel_rfl
theorem tok_66 : tok Go.Proofs.Try.prog 66 = true := by kernel_rfl
theorem tsz_66 : tsz Go.Proofs.Try.prog 66 = 1 := by kernel_rfl
theorem tby_66 : tbytes Go.Proofs.Try.prog 66 = 8 := by kernel_rfl
theorem tagg_66 : tagg Go.Proofs.Try.prog 66 = false := by kernel_rfl
theorem tconc_66 : tconc Go.Proofs.Try.prog 66 = true := by kernel_rfl
theorem tzero_66 : tzero Go.Proofs.Try.prog 66 = some .nilFunc := by kernel_rfl
theorem tok_67 : tok Go.Proofs.Try.prog 67 = true := by kernel_rfl
theorem tsz_67 : tsz Go.Proofs.Try.prog 67 = 1 := by kernel_rfl
theorem tby_67 : tbytes Go.Proofs.Try.prog 67 = 8 := by kernel_rfl
theorem tagg_67 : tagg Go.Proofs.Try.prog 67 = false := by kernel_rfl
theorem tconc_67 : tconc Go.Proofs.Try.prog 67 = true := by kernel_rfl
theorem tzero_67 : tzero Go.Proofs.Try.prog 67 = some .nilFunc := by kernel_rfl
theorem tok_68 : tok Go.Proofs.Try.prog 68 = true := by kernel_rfl
theorem tsz_68 : tsz Go.Proofs.Try.prog 68 = 1 := by kernel_rfl
theorem tby_68 : tbytes Go.Proofs.Try.prog 68 = 8 := by kernel_rfl
theorem tagg_68 : tagg Go.Proofs.Try.prog 68 = false := by kernel_rfl
theorem tconc_68 : tconc Go.Proofs.Try.prog 68 = true := by kernel_rfl
theorem tzero_68 : tzero Go.Proofs.Try.prog 68 = some .nilFunc := by kernel_rfl
theorem tok_69 : tok Go.Proofs.Try.prog 69 = true := by kernel_rfl
theorem tsz_69 : tsz Go.Proofs.Try.prog 69 = 1 := by kernel_rfl
theorem tby_69 : tbytes Go.Proofs.Try.prog 69 = 8 := by kernel_rfl
theorem tagg_69 : tagg Go.Proofs.Try.prog 69 = false := by kernel_rfl
theorem tconc_69 : tconc Go.Proofs.Try.prog 69 = true := by kernel_rfl
theorem tzero_69 : tzero Go.Proofs.Try.prog 69 = some .nilFunc := by kernel_rfl
theorem tok_70 : tok Go.Proofs.Try.prog 70 = true := by kernel_rfl
theorem tsz_70 : tsz Go.Proofs.Try.prog 70 = 1 := by kernel_rfl
theorem tby_70 : tbytes Go.Proofs.Try.prog 70 = 8 := by kernel_rfl
theorem tagg_70 : tagg Go.Proofs.Try.prog 70 = false := by kernel_rfl
theorem tconc_70 : tconc Go.Proofs.Try.prog 70 = true := by kernel_rfl
theorem tzero_70 : tzero Go.Proofs.Try.prog 70 = some .nilFunc := by kernel_rfl
theorem tok_71 : tok Go.Proofs.Try.prog 71 = true := by kernel_rfl
theorem tsz_71 : tsz Go.Proofs.Try.prog 71 = 1 := by kernel_rfl
theorem tby_71 : tbytes Go.Proofs.Try.prog 71 = 24 := by kernel_rfl
theorem tagg_71 : tagg Go.Proofs.Try.prog 71 = false := by kernel_rfl
theorem tconc_71 : tconc Go.Proofs.Try.prog 71 = true := by kernel_rfl
theorem tzero_71 : tzero Go.Proofs.Try.prog 71 = some (.slice none 0 0) := by kernel_rfl
theorem telem_71 : telem Go.Proofs.Try.prog 71 = some 74 := by kernel_rfl
theorem tok_72 : tok Go.Proofs.Try.prog 72 = true := by kernel_rfl
theorem tsz_72 : tsz Go.Proofs.Try.prog 72 = 2 := by kernel_rfl
theorem tby_72 : tbytes Go.Proofs.Try.prog 72 = 32 := by kernel_rfl
theorem tagg_72 : tagg Go.Proofs.Try.prog 72 = true := by kernel_rfl
theorem tconc_72 : tconc Go.Proofs.Try.prog 72 = true := by kernel_rfl
theorem tzero_72 : tzero Go.Proofs.Try.prog 72 = some (.agg #[.slice none 0 0, .bool false]) := by kernel_rfl
theorem tfld_72_0 : tfld Go.Proofs.Try.prog 72 0 = some (71, 0) := by kernel_rfl
theorem fldA_72_0 : fldA Go.Proofs.Try.prog 72 0 = some 0 := by kernel_rfl
theorem tfld_72_1 : tfld Go.Proofs.Try.prog 72 1 = some (4, 1) := by kernel_rfl
theorem fldA_72_1 : fldA Go.Proofs.Try.prog 72 1 = some 1 := by kernel_rfl
theorem tok_73 : tok Go.Proofs.Try.prog 73 = true := by kernel_rfl
theorem tsz_73 : tsz Go.Proofs.Try.prog 73 = 2 := by kernel_rfl
theorem tby_73 : tbytes Go.Proofs.Try.prog 73 = 32 := by kernel_rfl
theorem tagg_73 : tagg Go.Proofs.Try.prog 73 = true := by kernel_rfl
theorem tconc_73 : tconc Go.Proofs.Try.prog 73 = true := by kernel_rfl
theorem tzero_73 : tzero Go.Proofs.Try.prog 73 = some (.agg #[.slice none 0 0, .bool false]) := by kernel_rfl
theorem tfld_73_0 : tfld Go.Proofs.Try.prog 73 0 = some (71, 0) := by kernel_rfl
theorem fldA_73_0 : fldA Go.Proofs.Try.prog 73 0 = some 0 := by kernel_rfl
theorem tfld_73_1 : tfld Go.Proofs.Try.prog 73 1 = some (4, 1) := by kernel_rfl
theorem fldA_73_1 : fldA Go.Proofs.Try.prog 73 1 = some 1 := by kernel_rfl
theorem tok_74 : tok Go.Proofs.Try.prog 74 = true := by kernel_rfl
theorem tsz_74 : tsz Go.Proofs.Try.prog 74 = 1 := by kernel_rfl
theorem tby_74 : tbytes Go.Proofs.Try.prog 74 = 8 := by kernel_rfl
theorem tagg_74 : tagg Go.Proofs.Try.prog 74 = false := by kernel_rfl
theorem tconc_74 : tconc Go.Proofs.Try.prog 74 = true := by kernel_rfl
theorem tzero_74 : tzero Go.Proofs.Try.prog 74 = some (.pointer none) := by kernel_rfl
theorem tptr_74 : tptr Go.Proofs.Try.prog 74 = true := by kernel_rfl
theorem meth_74_continuo_effect_latency : methB Go.Proofs.Try.prog 74 "continuo/effect.latency" = some 54 := by kernel_rfl
theorem meth_74_continuo_effect_later : methB Go.Proofs.Try.prog 74 "continuo/effect.later" = some 65 := by kernel_rfl
theorem tok_75 : tok Go.Proofs.Try.prog 75 = true := by kernel_rfl
theorem tsz_75 : tsz Go.Proofs.Try.prog 75 = 2 := by kernel_rfl
theorem tby_75 : tbytes Go.Proofs.Try.prog 75 = 32 := by kernel_rfl
theorem tagg_75 : tagg Go.Proofs.Try.prog 75 = true := by kernel_rfl
theorem tconc_75 : tconc Go.Proofs.Try.prog 75 = true := by kernel_rfl
theorem tzero_75 : tzero Go.Proofs.Try.prog 75 = some (.agg #[.slice none 0 0, .int .i64 0]) := by kernel_rfl
theorem tfld_75_0 : tfld Go.Proofs.Try.prog 75 0 = some (22, 0) := by kernel_rfl
theorem fldA_75_0 : fldA Go.Proofs.Try.prog 75 0 = some 0 := by kernel_rfl
theorem tfld_75_1 : tfld Go.Proofs.Try.prog 75 1 = some (3, 1) := by kernel_rfl
theorem fldA_75_1 : fldA Go.Proofs.Try.prog 75 1 = some 1 := by kernel_rfl
theorem tok_76 : tok Go.Proofs.Try.prog 76 = true := by kernel_rfl
theorem tsz_76 : tsz Go.Proofs.Try.prog 76 = 2 := by kernel_rfl
theorem tby_76 : tbytes Go.Proofs.Try.prog 76 = 32 := by kernel_rfl
theorem tagg_76 : tagg Go.Proofs.Try.prog 76 = true := by kernel_rfl
theorem tconc_76 : tconc Go.Proofs.Try.prog 76 = true := by kernel_rfl
theorem tzero_76 : tzero Go.Proofs.Try.prog 76 = some (.agg #[.slice none 0 0, .int .i64 0]) := by kernel_rfl
theorem tfld_76_0 : tfld Go.Proofs.Try.prog 76 0 = some (22, 0) := by kernel_rfl
theorem fldA_76_0 : fldA Go.Proofs.Try.prog 76 0 = some 0 := by kernel_rfl
theorem tfld_76_1 : tfld Go.Proofs.Try.prog 76 1 = some (3, 1) := by kernel_rfl
theorem fldA_76_1 : fldA Go.Proofs.Try.prog 76 1 = some 1 := by kernel_rfl
theorem tok_77 : tok Go.Proofs.Try.prog 77 = true := by kernel_rfl
theorem tsz_77 : tsz Go.Proofs.Try.prog 77 = 1 := by kernel_rfl
theorem tby_77 : tbytes Go.Proofs.Try.prog 77 = 24 := by kernel_rfl
theorem tagg_77 : tagg Go.Proofs.Try.prog 77 = false := by kernel_rfl
theorem tconc_77 : tconc Go.Proofs.Try.prog 77 = true := by kernel_rfl
theorem tzero_77 : tzero Go.Proofs.Try.prog 77 = some (.slice none 0 0) := by kernel_rfl
theorem telem_77 : telem Go.Proofs.Try.prog 77 = some 51 := by kernel_rfl
theorem tok_78 : tok Go.Proofs.Try.prog 78 = true := by kernel_rfl
theorem tsz_78 : tsz Go.Proofs.Try.prog 78 = 3 := by kernel_rfl
theorem tby_78 : tbytes Go.Proofs.Try.prog 78 = 56 := by kernel_rfl
theorem tagg_78 : tagg Go.Proofs.Try.prog 78 = true := by kernel_rfl
theorem tconc_78 : tconc Go.Proofs.Try.prog 78 = true := by kernel_rfl
theorem tzero_78 : tzero Go.Proofs.Try.prog 78 = some (.agg #[.slice none 0 0, .int .i64 0, .slice none 0 0]) := by kernel_rfl
theorem tfld_78_0 : tfld Go.Proofs.Try.prog 78 0 = some (76, 0) := by kernel_rfl
theorem fldA_78_0 : fldA Go.Proofs.Try.prog 78 0 = some 0 := by kernel_rfl
theorem tfld_78_1 : tfld Go.Proofs.Try.prog 78 1 = some (77, 2) := by kernel_rfl
theorem fldA_78_1 : fldA Go.Proofs.Try.prog 78 1 = some 2 := by kernel_rfl
theorem tok_79 : tok Go.Proofs.Try.prog 79 = true := by kernel_rfl
theorem tsz_79 : tsz Go.Proofs.Try.prog 79 = 3 := by kernel_rfl
theorem tby_79 : tbytes Go.Proofs.Try.prog 79 = 56 := by kernel_rfl
theorem tagg_79 : tagg Go.Proofs.Try.prog 79 = true := by kernel_rfl
theorem tconc_79 : tconc Go.Proofs.Try.prog 79 = true := by kernel_rfl
theorem tzero_79 : tzero Go.Proofs.Try.prog 79 = some (.agg #[.slice none 0 0, .int .i64 0, .slice none 0 0]) := by kernel_rfl
theorem tfld_79_0 : tfld Go.Proofs.Try.prog 79 0 = some (76, 0) := by kernel_rfl
theorem fldA_79_0 : fldA Go.Proofs.Try.prog 79 0 = some 0 := by kernel_rfl
theorem tfld_79_1 : tfld Go.Proofs.Try.prog 79 1 = some (77, 2) := by kernel_rfl
theorem fldA_79_1 : fldA Go.Proofs.Try.prog 79 1 = some 2 := by kernel_rfl
theorem tok_80 : tok Go.Proofs.Try.prog 80 = true := by kernel_rfl
theorem tsz_80 : tsz Go.Proofs.Try.prog 80 = 1 := by kernel_rfl
theorem tby_80 : tbytes Go.Proofs.Try.prog 80 = 8 := by kernel_rfl
theorem tagg_80 : tagg Go.Proofs.Try.prog 80 = false := by kernel_rfl
theorem tconc_80 : tconc Go.Proofs.Try.prog 80 = true := by kernel_rfl
theorem tzero_80 : tzero Go.Proofs.Try.prog 80 = some .nilFunc := by kernel_rfl
theorem tok_81 : tok Go.Proofs.Try.prog 81 = true := by kernel_rfl
theorem tsz_81 : tsz Go.Proofs.Try.prog 81 = 1 := by kernel_rfl
theorem tby_81 : tbytes Go.Proofs.Try.prog 81 = 16 := by kernel_rfl
theorem tagg_81 : tagg Go.Proofs.Try.prog 81 = false := by kernel_rfl
theorem tconc_81 : tconc Go.Proofs.Try.prog 81 = false := by kernel_rfl
theorem tzero_81 : tzero Go.Proofs.Try.prog 81 = some .nilIface := by kernel_rfl
theorem tok_82 : tok Go.Proofs.Try.prog 82 = true := by kernel_rfl
theorem tsz_82 : tsz Go.Proofs.Try.prog 82 = 1 := by kernel_rfl
theorem tby_82 : tbytes Go.Proofs.Try.prog 82 = 16 := by kernel_rfl
theorem tagg_82 : tagg Go.Proofs.Try.prog 82 = false := by kernel_rfl
theorem tconc_82 : tconc Go.Proofs.Try.prog 82 = false := by kernel_rfl
theorem tzero_82 : tzero Go.Proofs.Try.prog 82 = some .nilIface := by kernel_rfl
theorem tok_83 : tok Go.Proofs.Try.prog 83 = true := by kernel_rfl
theorem tsz_83 : tsz Go.Proofs.Try.prog 83 = 4 := by kernel_rfl
theorem tby_83 : tbytes Go.Proofs.Try.prog 83 = 72 := by kernel_rfl
theorem tagg_83 : tagg Go.Proofs.Try.prog 83 = true := by kernel_rfl
theorem tconc_83 : tconc Go.Proofs.Try.prog 83 = true := by kernel_rfl
theorem tzero_83 : tzero Go.Proofs.Try.prog 83 = some (.agg #[.nilIface, .int .i64 0, .slice none 0 0, .slice none 0 0]) := by kernel_rfl
theorem tfld_83_0 : tfld Go.Proofs.Try.prog 83 0 = some (82, 0) := by kernel_rfl
theorem fldA_83_0 : fldA Go.Proofs.Try.prog 83 0 = some 0 := by kernel_rfl
theorem tfld_83_1 : tfld Go.Proofs.Try.prog 83 1 = some (24, 1) := by kernel_rfl
theorem fldA_83_1 : fldA Go.Proofs.Try.prog 83 1 = some 1 := by kernel_rfl
theorem tok_84 : tok Go.Proofs.Try.prog 84 = true := by kernel_rfl
theorem tsz_84 : tsz Go.Proofs.Try.prog 84 = 4 := by kernel_rfl
theorem tby_84 : tbytes Go.Proofs.Try.prog 84 = 72 := by kernel_rfl
theorem tagg_84 : tagg Go.Proofs.Try.prog 84 = true := by kernel_rfl
theorem tconc_84 : tconc Go.Proofs.Try.prog 84 = true := by kernel_rfl
theorem tzero_84 : tzero Go.Proofs.Try.prog 84 = some (.agg #[.nilIface, .int .i64 0, .slice none 0 0, .slice none 0 0]) := by kernel_rfl
theorem tfld_84_0 : tfld Go.Proofs.Try.prog 84 0 = some (82, 0) := by kernel_rfl
theorem fldA_84_0 : fldA Go.Proofs.Try.prog 84 0 = some 0 := by kernel_rfl
theorem tfld_84_1 : tfld Go.Proofs.Try.prog 84 1 = some (24, 1) := by kernel_rfl
theorem fldA_84_1 : fldA Go.Proofs.Try.prog 84 1 = some 1 := by kernel_rfl
theorem tok_85 : tok Go.Proofs.Try.prog 85 = true := by kernel_rfl
theorem tsz_85 : tsz Go.Proofs.Try.prog 85 = 1 := by kernel_rfl
theorem tby_85 : tbytes Go.Proofs.Try.prog 85 = 8 := by kernel_rfl
theorem tagg_85 : tagg Go.Proofs.Try.prog 85 = false := by kernel_rfl
theorem tconc_85 : tconc Go.Proofs.Try.prog 85 = true := by kernel_rfl
theorem tzero_85 : tzero Go.Proofs.Try.prog 85 = some (.pointer none) := by kernel_rfl
theorem tptr_85 : tptr Go.Proofs.Try.prog 85 = true := by kernel_rfl
theorem meth_85_continuo_effect_resume : methB Go.Proofs.Try.prog 85 "continuo/effect.resume" = some 96 := by kernel_rfl
theorem meth_85_continuo_effect_state : methB Go.Proofs.Try.prog 85 "continuo/effect.state" = some 97 := by kernel_rfl
theorem meth_85_continuo_effect_step : methB Go.Proofs.Try.prog 85 "continuo/effect.step" = some 98 := by kernel_rfl
theorem tok_86 : tok Go.Proofs.Try.prog 86 = true := by kernel_rfl
theorem tsz_86 : tsz Go.Proofs.Try.prog 86 = 5 := by kernel_rfl
theorem tby_86 : tbytes Go.Proofs.Try.prog 86 = 40 := by kernel_rfl
theorem tagg_86 : tagg Go.Proofs.Try.prog 86 = true := by kernel_rfl
theorem tconc_86 : tconc Go.Proofs.Try.prog 86 = true := by kernel_rfl
theorem tzero_86 : tzero Go.Proofs.Try.prog 86 = some (.agg #[.int .i64 0, .int .i64 0, .int .i64 0, .int .i64 0, .int .i64 0]) := by kernel_rfl
theorem tfld_86_0 : tfld Go.Proofs.Try.prog 86 0 = some (3, 0) := by kernel_rfl
theorem fldA_86_0 : fldA Go.Proofs.Try.prog 86 0 = some 0 := by kernel_rfl
theorem tfld_86_1 : tfld Go.Proofs.Try.prog 86 1 = some (3, 1) := by kernel_rfl
theorem fldA_86_1 : fldA Go.Proofs.Try.prog 86 1 = some 1 := by kernel_rfl
theorem tfld_86_2 : tfld Go.Proofs.Try.prog 86 2 = some (3, 2) := by kernel_rfl
theorem fldA_86_2 : fldA Go.Proofs.Try.prog 86 2 = some 2 := by kernel_rfl
theorem tfld_86_3 : tfld Go.Proofs.Try.prog 86 3 = some (3, 3) := by kernel_rfl
theorem fldA_86_3 : fldA Go.Proofs.Try.prog 86 3 = some 3 := by kernel_rfl
theorem tfld_86_4 : tfld Go.Proofs.Try.prog 86 4 = some (3, 4) := by kernel_rfl
theorem fldA_86_4 : fldA Go.Proofs.Try.prog 86 4 = some 4 := by kernel_rfl
theorem tok_87 : tok Go.Proofs.Try.prog 87 = true := by kernel_rfl
theorem tsz_87 : tsz Go.Proofs.Try.prog 87 = 5 := by kernel_rfl
theorem tby_87 : tbytes Go.Proofs.Try.prog 87 = 40 := by kernel_rfl
theorem tagg_87 : tagg Go.Proofs.Try.prog 87 = true := by kernel_rfl
theorem tconc_87 : tconc Go.Proofs.Try.prog 87 = true := by kernel_rfl
theorem tzero_87 : tzero Go.Proofs.Try.prog 87 = some (.agg #[.int .i64 0, .int .i64 0, .int .i64 0, .int .i64 0, .int .i64 0]) := by kernel_rfl
theorem tfld_87_0 : tfld Go.Proofs.Try.prog 87 0 = some (3, 0) := by kernel_rfl
theorem fldA_87_0 : fldA Go.Proofs.Try.prog 87 0 = some 0 := by kernel_rfl
theorem tfld_87_1 : tfld Go.Proofs.Try.prog 87 1 = some (3, 1) := by kernel_rfl
theorem fldA_87_1 : fldA Go.Proofs.Try.prog 87 1 = some 1 := by kernel_rfl
theorem tfld_87_2 : tfld Go.Proofs.Try.prog 87 2 = some (3, 2) := by kernel_rfl
theorem fldA_87_2 : fldA Go.Proofs.Try.prog 87 2 = some 2 := by kernel_rfl
theorem tfld_87_3 : tfld Go.Proofs.Try.prog 87 3 = some (3, 3) := by kernel_rfl
theorem fldA_87_3 : fldA Go.Proofs.Try.prog 87 3 = some 3 := by kernel_rfl
theorem tfld_87_4 : tfld Go.Proofs.Try.prog 87 4 = some (3, 4) := by kernel_rfl
theorem fldA_87_4 : fldA Go.Proofs.Try.prog 87 4 = some 4 := by kernel_rfl
theorem tok_88 : tok Go.Proofs.Try.prog 88 = true := by kernel_rfl
theorem tsz_88 : tsz Go.Proofs.Try.prog 88 = 5 := by kernel_rfl
theorem tby_88 : tbytes Go.Proofs.Try.prog 88 = 40 := by kernel_rfl
theorem tagg_88 : tagg Go.Proofs.Try.prog 88 = true := by kernel_rfl
theorem tconc_88 : tconc Go.Proofs.Try.prog 88 = true := by kernel_rfl
theorem tzero_88 : tzero Go.Proofs.Try.prog 88 = some (.agg #[.int .i64 0, .int .i64 0, .int .i64 0, .int .i64 0, .int .i64 0]) := by kernel_rfl
theorem tfld_88_0 : tfld Go.Proofs.Try.prog 88 0 = some (87, 0) := by kernel_rfl
theorem fldA_88_0 : fldA Go.Proofs.Try.prog 88 0 = some 0 := by kernel_rfl
theorem tok_89 : tok Go.Proofs.Try.prog 89 = true := by kernel_rfl
theorem tsz_89 : tsz Go.Proofs.Try.prog 89 = 5 := by kernel_rfl
theorem tby_89 : tbytes Go.Proofs.Try.prog 89 = 40 := by kernel_rfl
theorem tagg_89 : tagg Go.Proofs.Try.prog 89 = true := by kernel_rfl
theorem tconc_89 : tconc Go.Proofs.Try.prog 89 = true := by kernel_rfl
theorem tzero_89 : tzero Go.Proofs.Try.prog 89 = some (.agg #[.int .i64 0, .int .i64 0, .int .i64 0, .int .i64 0, .int .i64 0]) := by kernel_rfl
theorem tfld_89_0 : tfld Go.Proofs.Try.prog 89 0 = some (87, 0) := by kernel_rfl
theorem fldA_89_0 : fldA Go.Proofs.Try.prog 89 0 = some 0 := by kernel_rfl
theorem tok_90 : tok Go.Proofs.Try.prog 90 = true := by kernel_rfl
theorem tsz_90 : tsz Go.Proofs.Try.prog 90 = 1 := by kernel_rfl
theorem tby_90 : tbytes Go.Proofs.Try.prog 90 = 8 := by kernel_rfl
theorem tagg_90 : tagg Go.Proofs.Try.prog 90 = false := by kernel_rfl
theorem tconc_90 : tconc Go.Proofs.Try.prog 90 = true := by kernel_rfl
theorem tzero_90 : tzero Go.Proofs.Try.prog 90 = some (.pointer none) := by kernel_rfl
theorem tptr_90 : tptr Go.Proofs.Try.prog 90 = true := by kernel_rfl
theorem meth_90_continuo_effect_l0 : methB Go.Proofs.Try.prog 90 "continuo/effect.l0" = some 99 := by kernel_rfl
theorem meth_90_continuo_effect_resume : methB Go.Proofs.Try.prog 90 "continuo/effect.resume" = some 100 := by kernel_rfl
theorem meth_90_continuo_effect_state : methB Go.Proofs.Try.prog 90 "continuo/effect.state" = some 101 := by kernel_rfl
theorem meth_90_continuo_effect_step : methB Go.Proofs.Try.prog 90 "continuo/effect.step" = some 102 := by kernel_rfl
theorem tok_91 : tok Go.Proofs.Try.prog 91 = true := by kernel_rfl
theorem tsz_91 : tsz Go.Proofs.Try.prog 91 = 7 := by kernel_rfl
theorem tby_91 : tbytes Go.Proofs.Try.prog 91 = 72 := by kernel_rfl
theorem tagg_91 : tagg Go.Proofs.Try.prog 91 = true := by kernel_rfl
theorem tconc_91 : tconc Go.Proofs.Try.prog 91 = true := by kernel_rfl
theorem tzero_91 : tzero Go.Proofs.Try.prog 91 = some (.agg #[.int .i64 0, .int .i64 0, .int .i64 0, .int .i64 0, .int .i64 0, .slice none 0 0, .int .i64 0]) := by kernel_rfl
theorem tfld_91_0 : tfld Go.Proofs.Try.prog 91 0 = some (87, 0) := by kernel_rfl
theorem fldA_91_0 : fldA Go.Proofs.Try.prog 91 0 = some 0 := by kernel_rfl
theorem tfld_91_1 : tfld Go.Proofs.Try.prog 91 1 = some (76, 5) := by kernel_rfl
theorem fldA_91_1 : fldA Go.Proofs.Try.prog 91 1 = some 5 := by kernel_rfl
theorem tok_92 : tok Go.Proofs.Try.prog 92 = true := by kernel_rfl
theorem tsz_92 : tsz Go.Proofs.Try.prog 92 = 7 := by kernel_rfl
theorem tby_92 : tbytes Go.Proofs.Try.prog 92 = 72 := by kernel_rfl
theorem tagg_92 : tagg Go.Proofs.Try.prog 92 = true := by kernel_rfl
theorem tconc_92 : tconc Go.Proofs.Try.prog 92 = true := by kernel_rfl
theorem tzero_92 : tzero Go.Proofs.Try.prog 92 = some (.agg #[.int .i64 0, .int .i64 0, .int .i64 0, .int .i64 0, .int .i64 0, .slice none 0 0, .int .i64 0]) := by kernel_rfl
theorem tfld_92_0 : tfld Go.Proofs.Try.prog 92 0 = some (87, 0) := by kernel_rfl
theorem fldA_92_0 : fldA Go.Proofs.Try.prog 92 0 = some 0 := by kernel_rfl
theorem tfld_92_1 : tfld Go.Proofs.Try.prog 92 1 = some (76, 5) := by kernel_rfl
theorem fldA_92_1 : fldA Go.Proofs.Try.prog 92 1 = some 5 := by kernel_rfl
theorem tok_93 : tok Go.Proofs.Try.prog 93 = true := by kernel_rfl
theorem tsz_93 : tsz Go.Proofs.Try.prog 93 = 1 := by kernel_rfl
theorem tby_93 : tbytes Go.Proofs.Try.prog 93 = 8 := by kernel_rfl
theorem tagg_93 : tagg Go.Proofs.Try.prog 93 = false := by kernel_rfl
theorem tconc_93 : tconc Go.Proofs.Try.prog 93 = true := by kernel_rfl
theorem tzero_93 : tzero Go.Proofs.Try.prog 93 = some .nilFunc := by kernel_rfl
theorem tok_94 : tok Go.Proofs.Try.prog 94 = true := by kernel_rfl
theorem tsz_94 : tsz Go.Proofs.Try.prog 94 = 1 := by kernel_rfl
theorem tby_94 : tbytes Go.Proofs.Try.prog 94 = 8 := by kernel_rfl
theorem tagg_94 : tagg Go.Proofs.Try.prog 94 = false := by kernel_rfl
theorem tconc_94 : tconc Go.Proofs.Try.prog 94 = true := by kernel_rfl
theorem tzero_94 : tzero Go.Proofs.Try.prog 94 = some .nilFunc := by kernel_rfl
theorem tok_95 : tok Go.Proofs.Try.prog 95 = true := by kernel_rfl
theorem tsz_95 : tsz Go.Proofs.Try.prog 95 = 1 := by kernel_rfl
theorem tby_95 : tbytes Go.Proofs.Try.prog 95 = 8 := by kernel_rfl
theorem tagg_95 : tagg Go.Proofs.Try.prog 95 = false := by kernel_rfl
theorem tconc_95 : tconc Go.Proofs.Try.prog 95 = true := by kernel_rfl
theorem tzero_95 : tzero Go.Proofs.Try.prog 95 = some .nilFunc := by kernel_rfl
theorem tok_96 : tok Go.Proofs.Try.prog 96 = true := by kernel_rfl
theorem tsz_96 : tsz Go.Proofs.Try.prog 96 = 8 := by kernel_rfl
theorem tby_96 : tbytes Go.Proofs.Try.prog 96 = 192 := by kernel_rfl
theorem tagg_96 : tagg Go.Proofs.Try.prog 96 = true := by kernel_rfl
theorem tconc_96 : tconc Go.Proofs.Try.prog 96 = true := by kernel_rfl
theorem tzero_96 : tzero Go.Proofs.Try.prog 96 = some (.agg #[.slice none 0 0, .slice none 0 0, .slice none 0 0, .slice none 0 0, .slice none 0 0, .slice none 0 0, .slice none 0 0, .slice none 0 0]) := by kernel_rfl
theorem tarr_96 : tarr Go.Proofs.Try.prog 96 = some (8, 58) := by kernel_rfl
theorem tok_97 : tok Go.Proofs.Try.prog 97 = true := by kernel_rfl
theorem tsz_97 : tsz Go.Proofs.Try.prog 97 = 1 := by kernel_rfl
theorem tby_97 : tbytes Go.Proofs.Try.prog 97 = 8 := by kernel_rfl
theorem tagg_97 : tagg Go.Proofs.Try.prog 97 = false := by kernel_rfl
theorem tconc_97 : tconc Go.Proofs.Try.prog 97 = true := by kernel_rfl
theorem tzero_97 : tzero Go.Proofs.Try.prog 97 = some .nilFunc := by kernel_rfl
theorem tok_98 : tok Go.Proofs.Try.prog 98 = true := by kernel_rfl
theorem tsz_98 : tsz Go.Proofs.Try.prog 98 = 1 := by kernel_rfl
theorem tby_98 : tbytes Go.Proofs.Try.prog 98 = 8 := by kernel_rfl
theorem tagg_98 : tagg Go.Proofs.Try.prog 98 = false := by kernel_rfl
theorem tconc_98 : tconc Go.Proofs.Try.prog 98 = true := by kernel_rfl
theorem tzero_98 : tzero Go.Proofs.Try.prog 98 = some .nilFunc := by kernel_rfl
theorem tok_99 : tok Go.Proofs.Try.prog 99 = true := by kernel_rfl
theorem tsz_99 : tsz Go.Proofs.Try.prog 99 = 1 := by kernel_rfl
theorem tby_99 : tbytes Go.Proofs.Try.prog 99 = 8 := by kernel_rfl
theorem tagg_99 : tagg Go.Proofs.Try.prog 99 = false := by kernel_rfl
theorem tconc_99 : tconc Go.Proofs.Try.prog 99 = true := by kernel_rfl
theorem tzero_99 : tzero Go.Proofs.Try.prog 99 = some .nilFunc := by kernel_rfl
theorem tok_100 : tok Go.Proofs.Try.prog 100 = true := by kernel_rfl
theorem tsz_100 : tsz Go.Proofs.Try.prog 100 = 1 := by kernel_rfl
theorem tby_100 : tbytes Go.Proofs.Try.prog 100 = 8 := by kernel_rfl
theorem tagg_100 : tagg Go.Proofs.Try.prog 100 = false := by kernel_rfl
theorem tconc_100 : tconc Go.Proofs.Try.prog 100 = true := by kernel_rfl
theorem tzero_100 : tzero Go.Proofs.Try.prog 100 = some .nilFunc := by kernel_rfl
theorem tok_101 : tok Go.Proofs.Try.prog 101 = true := by kernel_rfl
theorem tsz_101 : tsz Go.Proofs.Try.prog 101 = 1 := by kernel_rfl
theorem tby_101 : tbytes Go.Proofs.Try.prog 101 = 8 := by kernel_rfl
theorem tagg_101 : tagg Go.Proofs.Try.prog 101 = false := by kernel_rfl
theorem tconc_101 : tconc Go.Proofs.Try.prog 101 = true := by kernel_rfl
theorem tzero_101 : tzero Go.Proofs.Try.prog 101 = some .nilFunc := by kernel_rfl
theorem tok_102 : tok Go.Proofs.Try.prog 102 = true := by kernel_rfl
theorem tsz_102 : tsz Go.Proofs.Try.prog 102 = 1 := by kernel_rfl
theorem tby_102 : tbytes Go.Proofs.Try.prog 102 = 8 := by kernel_rfl
theorem tagg_102 : tagg Go.Proofs.Try.prog 102 = false := by kernel_rfl
theorem tconc_102 : tconc Go.Proofs.Try.prog 102 = true := by kernel_rfl
theorem tzero_102 : tzero Go.Proofs.Try.prog 102 = some .nilFunc := by kernel_rfl
theorem tok_103 : tok Go.Proofs.Try.prog 103 = true := by kernel_rfl
theorem tsz_103 : tsz Go.Proofs.Try.prog 103 = 1 := by kernel_rfl
theorem tby_103 : tbytes Go.Proofs.Try.prog 103 = 8 := by kernel_rfl
theorem tagg_103 : tagg Go.Proofs.Try.prog 103 = false := by kernel_rfl
theorem tconc_103 : tconc Go.Proofs.Try.prog 103 = true := by kernel_rfl
theorem tzero_103 : tzero Go.Proofs.Try.prog 103 = some (.pointer none) := by kernel_rfl
theorem tptr_103 : tptr Go.Proofs.Try.prog 103 = true := by kernel_rfl
theorem meth_103_continuo_effect_ago : methB Go.Proofs.Try.prog 103 "continuo/effect.ago" = some 66 := by kernel_rfl
theorem meth_103_continuo_effect_all : methB Go.Proofs.Try.prog 103 "continuo/effect.all" = some 78 := by kernel_rfl
theorem meth_103_continuo_effect_fill : methB Go.Proofs.Try.prog 103 "continuo/effect.fill" = some 79 := by kernel_rfl
theorem meth_103_continuo_effect_kept : methB Go.Proofs.Try.prog 103 "continuo/effect.kept" = some 55 := by kernel_rfl
theorem meth_103_continuo_effect_push : methB Go.Proofs.Try.prog 103 "continuo/effect.push" = some 67 := by kernel_rfl
theorem tok_104 : tok Go.Proofs.Try.prog 104 = true := by kernel_rfl
theorem tsz_104 : tsz Go.Proofs.Try.prog 104 = 1 := by kernel_rfl
theorem tby_104 : tbytes Go.Proofs.Try.prog 104 = 8 := by kernel_rfl
theorem tagg_104 : tagg Go.Proofs.Try.prog 104 = false := by kernel_rfl
theorem tconc_104 : tconc Go.Proofs.Try.prog 104 = true := by kernel_rfl
theorem tzero_104 : tzero Go.Proofs.Try.prog 104 = some .nilFunc := by kernel_rfl
theorem tok_105 : tok Go.Proofs.Try.prog 105 = true := by kernel_rfl
theorem tsz_105 : tsz Go.Proofs.Try.prog 105 = 1 := by kernel_rfl
theorem tby_105 : tbytes Go.Proofs.Try.prog 105 = 8 := by kernel_rfl
theorem tagg_105 : tagg Go.Proofs.Try.prog 105 = false := by kernel_rfl
theorem tconc_105 : tconc Go.Proofs.Try.prog 105 = true := by kernel_rfl
theorem tzero_105 : tzero Go.Proofs.Try.prog 105 = some .nilFunc := by kernel_rfl
theorem tok_106 : tok Go.Proofs.Try.prog 106 = true := by kernel_rfl
theorem tsz_106 : tsz Go.Proofs.Try.prog 106 = 1 := by kernel_rfl
theorem tby_106 : tbytes Go.Proofs.Try.prog 106 = 8 := by kernel_rfl
theorem tagg_106 : tagg Go.Proofs.Try.prog 106 = false := by kernel_rfl
theorem tconc_106 : tconc Go.Proofs.Try.prog 106 = true := by kernel_rfl
theorem tzero_106 : tzero Go.Proofs.Try.prog 106 = some (.pointer none) := by kernel_rfl
theorem tptr_106 : tptr Go.Proofs.Try.prog 106 = true := by kernel_rfl
theorem meth_106_continuo_effect_resume : methB Go.Proofs.Try.prog 106 "continuo/effect.resume" = some 103 := by kernel_rfl
theorem meth_106_continuo_effect_state : methB Go.Proofs.Try.prog 106 "continuo/effect.state" = some 104 := by kernel_rfl
theorem meth_106_continuo_effect_step : methB Go.Proofs.Try.prog 106 "continuo/effect.step" = some 105 := by kernel_rfl
theorem tok_107 : tok Go.Proofs.Try.prog 107 = true := by kernel_rfl
theorem tsz_107 : tsz Go.Proofs.Try.prog 107 = 1 := by kernel_rfl
theorem tby_107 : tbytes Go.Proofs.Try.prog 107 = 8 := by kernel_rfl
theorem tagg_107 : tagg Go.Proofs.Try.prog 107 = true := by kernel_rfl
theorem tconc_107 : tconc Go.Proofs.Try.prog 107 = true := by kernel_rfl
theorem tzero_107 : tzero Go.Proofs.Try.prog 107 = some (.agg #[.int .i64 0]) := by kernel_rfl
theorem tfld_107_0 : tfld Go.Proofs.Try.prog 107 0 = some (3, 0) := by kernel_rfl
theorem fldA_107_0 : fldA Go.Proofs.Try.prog 107 0 = some 0 := by kernel_rfl
theorem tok_108 : tok Go.Proofs.Try.prog 108 = true := by kernel_rfl
theorem tsz_108 : tsz Go.Proofs.Try.prog 108 = 1 := by kernel_rfl
theorem tby_108 : tbytes Go.Proofs.Try.prog 108 = 8 := by kernel_rfl
theorem tagg_108 : tagg Go.Proofs.Try.prog 108 = true := by kernel_rfl
theorem tconc_108 : tconc Go.Proofs.Try.prog 108 = true := by kernel_rfl
theorem tzero_108 : tzero Go.Proofs.Try.prog 108 = some (.agg #[.int .i64 0]) := by kernel_rfl
theorem tfld_108_0 : tfld Go.Proofs.Try.prog 108 0 = some (3, 0) := by kernel_rfl
theorem fldA_108_0 : fldA Go.Proofs.Try.prog 108 0 = some 0 := by kernel_rfl
theorem tok_109 : tok Go.Proofs.Try.prog 109 = true := by kernel_rfl
theorem tsz_109 : tsz Go.Proofs.Try.prog 109 = 1 := by kernel_rfl
theorem tby_109 : tbytes Go.Proofs.Try.prog 109 = 8 := by kernel_rfl
theorem tagg_109 : tagg Go.Proofs.Try.prog 109 = false := by kernel_rfl
theorem tconc_109 : tconc Go.Proofs.Try.prog 109 = true := by kernel_rfl
theorem tzero_109 : tzero Go.Proofs.Try.prog 109 = some .nilFunc := by kernel_rfl
theorem tok_110 : tok Go.Proofs.Try.prog 110 = true := by kernel_rfl
theorem tsz_110 : tsz Go.Proofs.Try.prog 110 = 1 := by kernel_rfl
theorem tby_110 : tbytes Go.Proofs.Try.prog 110 = 8 := by kernel_rfl
theorem tagg_110 : tagg Go.Proofs.Try.prog 110 = false := by kernel_rfl
theorem tconc_110 : tconc Go.Proofs.Try.prog 110 = true := by kernel_rfl
theorem tzero_110 : tzero Go.Proofs.Try.prog 110 = some (.pointer none) := by kernel_rfl
theorem tptr_110 : tptr Go.Proofs.Try.prog 110 = true := by kernel_rfl
theorem meth_110_continuo_effect_resume : methB Go.Proofs.Try.prog 110 "continuo/effect.resume" = some 106 := by kernel_rfl
theorem meth_110_continuo_effect_state : methB Go.Proofs.Try.prog 110 "continuo/effect.state" = some 107 := by kernel_rfl
theorem meth_110_continuo_effect_step : methB Go.Proofs.Try.prog 110 "continuo/effect.step" = some 108 := by kernel_rfl
theorem tok_111 : tok Go.Proofs.Try.prog 111 = true := by kernel_rfl
theorem tsz_111 : tsz Go.Proofs.Try.prog 111 = 1 := by kernel_rfl
theorem tby_111 : tbytes Go.Proofs.Try.prog 111 = 8 := by kernel_rfl
theorem tagg_111 : tagg Go.Proofs.Try.prog 111 = false := by kernel_rfl
theorem tconc_111 : tconc Go.Proofs.Try.prog 111 = true := by kernel_rfl
theorem tzero_111 : tzero Go.Proofs.Try.prog 111 = some .nilFunc := by kernel_rfl
theorem tok_112 : tok Go.Proofs.Try.prog 112 = true := by kernel_rfl
theorem tsz_112 : tsz Go.Proofs.Try.prog 112 = 2 := by kernel_rfl
theorem tby_112 : tbytes Go.Proofs.Try.prog 112 = 32 := by kernel_rfl
theorem tagg_112 : tagg Go.Proofs.Try.prog 112 = true := by kernel_rfl
theorem tconc_112 : tconc Go.Proofs.Try.prog 112 = true := by kernel_rfl
theorem tzero_112 : tzero Go.Proofs.Try.prog 112 = some (.agg #[.slice none 0 0, .int .i64 0]) := by kernel_rfl
theorem tfld_112_0 : tfld Go.Proofs.Try.prog 112 0 = some (76, 0) := by kernel_rfl
theorem fldA_112_0 : fldA Go.Proofs.Try.prog 112 0 = some 0 := by kernel_rfl
theorem tok_113 : tok Go.Proofs.Try.prog 113 = true := by kernel_rfl
theorem tsz_113 : tsz Go.Proofs.Try.prog 113 = 2 := by kernel_rfl
theorem tby_113 : tbytes Go.Proofs.Try.prog 113 = 32 := by kernel_rfl
theorem tagg_113 : tagg Go.Proofs.Try.prog 113 = true := by kernel_rfl
theorem tconc_113 : tconc Go.Proofs.Try.prog 113 = true := by kernel_rfl
theorem tzero_113 : tzero Go.Proofs.Try.prog 113 = some (.agg #[.slice none 0 0, .int .i64 0]) := by kernel_rfl
theorem tfld_113_0 : tfld Go.Proofs.Try.prog 113 0 = some (76, 0) := by kernel_rfl
theorem fldA_113_0 : fldA Go.Proofs.Try.prog 113 0 = some 0 := by kernel_rfl
theorem tok_114 : tok Go.Proofs.Try.prog 114 = true := by kernel_rfl
theorem tsz_114 : tsz Go.Proofs.Try.prog 114 = 1 := by kernel_rfl
theorem tby_114 : tbytes Go.Proofs.Try.prog 114 = 8 := by kernel_rfl
theorem tagg_114 : tagg Go.Proofs.Try.prog 114 = false := by kernel_rfl
theorem tconc_114 : tconc Go.Proofs.Try.prog 114 = true := by kernel_rfl
theorem tzero_114 : tzero Go.Proofs.Try.prog 114 = some (.pointer none) := by kernel_rfl
theorem tptr_114 : tptr Go.Proofs.Try.prog 114 = true := by kernel_rfl
theorem meth_114_continuo_effect_resume : methB Go.Proofs.Try.prog 114 "continuo/effect.resume" = some 109 := by kernel_rfl
theorem meth_114_continuo_effect_state : methB Go.Proofs.Try.prog 114 "continuo/effect.state" = some 110 := by kernel_rfl
theorem meth_114_continuo_effect_step : methB Go.Proofs.Try.prog 114 "continuo/effect.step" = some 111 := by kernel_rfl
theorem tok_115 : tok Go.Proofs.Try.prog 115 = true := by kernel_rfl
theorem tsz_115 : tsz Go.Proofs.Try.prog 115 = 3 := by kernel_rfl
theorem tby_115 : tbytes Go.Proofs.Try.prog 115 = 40 := by kernel_rfl
theorem tagg_115 : tagg Go.Proofs.Try.prog 115 = true := by kernel_rfl
theorem tconc_115 : tconc Go.Proofs.Try.prog 115 = true := by kernel_rfl
theorem tzero_115 : tzero Go.Proofs.Try.prog 115 = some (.agg #[.slice none 0 0, .int .i64 0, .int .i64 0]) := by kernel_rfl
theorem tfld_115_0 : tfld Go.Proofs.Try.prog 115 0 = some (76, 0) := by kernel_rfl
theorem fldA_115_0 : fldA Go.Proofs.Try.prog 115 0 = some 0 := by kernel_rfl
theorem tfld_115_1 : tfld Go.Proofs.Try.prog 115 1 = some (3, 2) := by kernel_rfl
theorem fldA_115_1 : fldA Go.Proofs.Try.prog 115 1 = some 2 := by kernel_rfl
theorem tok_116 : tok Go.Proofs.Try.prog 116 = true := by kernel_rfl
theorem tsz_116 : tsz Go.Proofs.Try.prog 116 = 3 := by kernel_rfl
theorem tby_116 : tbytes Go.Proofs.Try.prog 116 = 40 := by kernel_rfl
theorem tagg_116 : tagg Go.Proofs.Try.prog 116 = true := by kernel_rfl
theorem tconc_116 : tconc Go.Proofs.Try.prog 116 = true := by kernel_rfl
theorem tzero_116 : tzero Go.Proofs.Try.prog 116 = some (.agg #[.slice none 0 0, .int .i64 0, .int .i64 0]) := by kernel_rfl
theorem tfld_116_0 : tfld Go.Proofs.Try.prog 116 0 = some (76, 0) := by kernel_rfl
theorem fldA_116_0 : fldA Go.Proofs.Try.prog 116 0 = some 0 := by kernel_rfl
theorem tfld_116_1 : tfld Go.Proofs.Try.prog 116 1 = some (3, 2) := by kernel_rfl
theorem fldA_116_1 : fldA Go.Proofs.Try.prog 116 1 = some 2 := by kernel_rfl
theorem tok_117 : tok Go.Proofs.Try.prog 117 = true := by kernel_rfl
theorem tsz_117 : tsz Go.Proofs.Try.prog 117 = 1 := by kernel_rfl
theorem tby_117 : tbytes Go.Proofs.Try.prog 117 = 8 := by kernel_rfl
theorem tagg_117 : tagg Go.Proofs.Try.prog 117 = false := by kernel_rfl
theorem tconc_117 : tconc Go.Proofs.Try.prog 117 = true := by kernel_rfl
theorem tzero_117 : tzero Go.Proofs.Try.prog 117 = some (.pointer none) := by kernel_rfl
theorem tptr_117 : tptr Go.Proofs.Try.prog 117 = true := by kernel_rfl
theorem meth_117_continuo_effect_resume : methB Go.Proofs.Try.prog 117 "continuo/effect.resume" = some 112 := by kernel_rfl
theorem meth_117_continuo_effect_state : methB Go.Proofs.Try.prog 117 "continuo/effect.state" = some 113 := by kernel_rfl
theorem meth_117_continuo_effect_step : methB Go.Proofs.Try.prog 117 "continuo/effect.step" = some 114 := by kernel_rfl
theorem tok_118 : tok Go.Proofs.Try.prog 118 = true := by kernel_rfl
theorem tsz_118 : tsz Go.Proofs.Try.prog 118 = 3 := by kernel_rfl
theorem tby_118 : tbytes Go.Proofs.Try.prog 118 = 56 := by kernel_rfl
theorem tagg_118 : tagg Go.Proofs.Try.prog 118 = true := by kernel_rfl
theorem tconc_118 : tconc Go.Proofs.Try.prog 118 = true := by kernel_rfl
theorem tzero_118 : tzero Go.Proofs.Try.prog 118 = some (.agg #[.slice none 0 0, .int .i64 0, .slice none 0 0]) := by kernel_rfl
theorem tfld_118_0 : tfld Go.Proofs.Try.prog 118 0 = some (76, 0) := by kernel_rfl
theorem fldA_118_0 : fldA Go.Proofs.Try.prog 118 0 = some 0 := by kernel_rfl
theorem tfld_118_1 : tfld Go.Proofs.Try.prog 118 1 = some (22, 2) := by kernel_rfl
theorem fldA_118_1 : fldA Go.Proofs.Try.prog 118 1 = some 2 := by kernel_rfl
theorem tok_119 : tok Go.Proofs.Try.prog 119 = true := by kernel_rfl
theorem tsz_119 : tsz Go.Proofs.Try.prog 119 = 3 := by kernel_rfl
theorem tby_119 : tbytes Go.Proofs.Try.prog 119 = 56 := by kernel_rfl
theorem tagg_119 : tagg Go.Proofs.Try.prog 119 = true := by kernel_rfl
theorem tconc_119 : tconc Go.Proofs.Try.prog 119 = true := by kernel_rfl
theorem tzero_119 : tzero Go.Proofs.Try.prog 119 = some (.agg #[.slice none 0 0, .int .i64 0, .slice none 0 0]) := by kernel_rfl
theorem tfld_119_0 : tfld Go.Proofs.Try.prog 119 0 = some (76, 0) := by kernel_rfl
theorem fldA_119_0 : fldA Go.Proofs.Try.prog 119 0 = some 0 := by kernel_rfl
theorem tfld_119_1 : tfld Go.Proofs.Try.prog 119 1 = some (22, 2) := by kernel_rfl
theorem fldA_119_1 : fldA Go.Proofs.Try.prog 119 1 = some 2 := by kernel_rfl
theorem tok_120 : tok Go.Proofs.Try.prog 120 = true := by kernel_rfl
theorem tsz_120 : tsz Go.Proofs.Try.prog 120 = 1 := by kernel_rfl
theorem tby_120 : tbytes Go.Proofs.Try.prog 120 = 8 := by kernel_rfl
theorem tagg_120 : tagg Go.Proofs.Try.prog 120 = false := by kernel_rfl
theorem tconc_120 : tconc Go.Proofs.Try.prog 120 = true := by kernel_rfl
theorem tzero_120 : tzero Go.Proofs.Try.prog 120 = some (.pointer none) := by kernel_rfl
theorem tptr_120 : tptr Go.Proofs.Try.prog 120 = true := by kernel_rfl
theorem meth_120_continuo_effect_resume : methB Go.Proofs.Try.prog 120 "continuo/effect.resume" = some 115 := by kernel_rfl
theorem meth_120_continuo_effect_state : methB Go.Proofs.Try.prog 120 "continuo/effect.state" = some 116 := by kernel_rfl
theorem meth_120_continuo_effect_step : methB Go.Proofs.Try.prog 120 "continuo/effect.step" = some 117 := by kernel_rfl
theorem tok_121 : tok Go.Proofs.Try.prog 121 = true := by kernel_rfl
theorem tsz_121 : tsz Go.Proofs.Try.prog 121 = 3 := by kernel_rfl
theorem tby_121 : tbytes Go.Proofs.Try.prog 121 = 24 := by kernel_rfl
theorem tagg_121 : tagg Go.Proofs.Try.prog 121 = true := by kernel_rfl
theorem tconc_121 : tconc Go.Proofs.Try.prog 121 = true := by kernel_rfl
theorem tzero_121 : tzero Go.Proofs.Try.prog 121 = some (.agg #[.int .i64 0, .int .i64 0, .int .i64 0]) := by kernel_rfl
theorem tfld_121_0 : tfld Go.Proofs.Try.prog 121 0 = some (3, 0) := by kernel_rfl
theorem fldA_121_0 : fldA Go.Proofs.Try.prog 121 0 = some 0 := by kernel_rfl
theorem tfld_121_1 : tfld Go.Proofs.Try.prog 121 1 = some (3, 1) := by kernel_rfl
theorem fldA_121_1 : fldA Go.Proofs.Try.prog 121 1 = some 1 := by kernel_rfl
theorem tfld_121_2 : tfld Go.Proofs.Try.prog 121 2 = some (3, 2) := by kernel_rfl
theorem fldA_121_2 : fldA Go.Proofs.Try.prog 121 2 = some 2 := by kernel_rfl
theorem tok_122 : tok Go.Proofs.Try.prog 122 = true := by kernel_rfl
theorem tsz_122 : tsz Go.Proofs.Try.prog 122 = 3 := by kernel_rfl
theorem tby_122 : tbytes Go.Proofs.Try.prog 122 = 24 := by kernel_rfl
theorem tagg_122 : tagg Go.Proofs.Try.prog 122 = true := by kernel_rfl
theorem tconc_122 : tconc Go.Proofs.Try.prog 122 = true := by kernel_rfl
theorem tzero_122 : tzero Go.Proofs.Try.prog 122 = some (.agg #[.int .i64 0, .int .i64 0, .int .i64 0]) := by kernel_rfl
theorem tfld_122_0 : tfld Go.Proofs.Try.prog 122 0 = some (3, 0) := by kernel_rfl
theorem fldA_122_0 : fldA Go.Proofs.Try.prog 122 0 = some 0 := by kernel_rfl
theorem tfld_122_1 : tfld Go.Proofs.Try.prog 122 1 = some (3, 1) := by kernel_rfl
theorem fldA_122_1 : fldA Go.Proofs.Try.prog 122 1 = some 1 := by kernel_rfl
theorem tfld_122_2 : tfld Go.Proofs.Try.prog 122 2 = some (3, 2) := by kernel_rfl
theorem fldA_122_2 : fldA Go.Proofs.Try.prog 122 2 = some 2 := by kernel_rfl
theorem tok_123 : tok Go.Proofs.Try.prog 123 = true := by kernel_rfl
theorem tsz_123 : tsz Go.Proofs.Try.prog 123 = 8 := by kernel_rfl
theorem tby_123 : tbytes Go.Proofs.Try.prog 123 = 64 := by kernel_rfl
theorem tagg_123 : tagg Go.Proofs.Try.prog 123 = true := by kernel_rfl
theorem tconc_123 : tconc Go.Proofs.Try.prog 123 = true := by kernel_rfl
theorem tzero_123 : tzero Go.Proofs.Try.prog 123 = some (.agg #[.nilFunc, .nilFunc, .nilFunc, .nilFunc, .nilFunc, .nilFunc, .nilFunc, .nilFunc]) := by kernel_rfl
theorem tarr_123 : tarr Go.Proofs.Try.prog 123 = some (8, 109) := by kernel_rfl
theorem tok_124 : tok Go.Proofs.Try.prog 124 = true := by kernel_rfl
theorem tsz_124 : tsz Go.Proofs.Try.prog 124 = 1 := by kernel_rfl
theorem tby_124 : tbytes Go.Proofs.Try.prog 124 = 8 := by kernel_rfl
theorem tagg_124 : tagg Go.Proofs.Try.prog 124 = false := by kernel_rfl
theorem tconc_124 : tconc Go.Proofs.Try.prog 124 = true := by kernel_rfl
theorem tzero_124 : tzero Go.Proofs.Try.prog 124 = some .nilFunc := by kernel_rfl
theorem tok_125 : tok Go.Proofs.Try.prog 125 = true := by kernel_rfl
theorem tsz_125 : tsz Go.Proofs.Try.prog 125 = 1 := by kernel_rfl
theorem tby_125 : tbytes Go.Proofs.Try.prog 125 = 8 := by kernel_rfl
theorem tagg_125 : tagg Go.Proofs.Try.prog 125 = false := by kernel_rfl
theorem tconc_125 : tconc Go.Proofs.Try.prog 125 = true := by kernel_rfl
theorem tzero_125 : tzero Go.Proofs.Try.prog 125 = some .nilFunc := by kernel_rfl
theorem tok_126 : tok Go.Proofs.Try.prog 126 = true := by kernel_rfl
theorem tsz_126 : tsz Go.Proofs.Try.prog 126 = 1 := by kernel_rfl
theorem tby_126 : tbytes Go.Proofs.Try.prog 126 = 8 := by kernel_rfl
theorem tagg_126 : tagg Go.Proofs.Try.prog 126 = false := by kernel_rfl
theorem tconc_126 : tconc Go.Proofs.Try.prog 126 = true := by kernel_rfl
theorem tzero_126 : tzero Go.Proofs.Try.prog 126 = some .nilFunc := by kernel_rfl
theorem tok_127 : tok Go.Proofs.Try.prog 127 = true := by kernel_rfl
theorem tsz_127 : tsz Go.Proofs.Try.prog 127 = 4 := by kernel_rfl
theorem tby_127 : tbytes Go.Proofs.Try.prog 127 = 40 := by kernel_rfl
theorem tagg_127 : tagg Go.Proofs.Try.prog 127 = true := by kernel_rfl
theorem tconc_127 : tconc Go.Proofs.Try.prog 127 = true := by kernel_rfl
theorem tzero_127 : tzero Go.Proofs.Try.prog 127 = some (.agg #[.pointer none, .pointer none, .pointer none, .string { data := #[] }]) := by kernel_rfl
theorem tfld_127_0 : tfld Go.Proofs.Try.prog 127 0 = some (17, 0) := by kernel_rfl
theorem fldA_127_0 : fldA Go.Proofs.Try.prog 127 0 = some 0 := by kernel_rfl
theorem tfld_127_1 : tfld Go.Proofs.Try.prog 127 1 = some (17, 1) := by kernel_rfl
theorem fldA_127_1 : fldA Go.Proofs.Try.prog 127 1 = some 1 := by kernel_rfl
theorem tfld_127_2 : tfld Go.Proofs.Try.prog 127 2 = some (17, 2) := by kernel_rfl
theorem fldA_127_2 : fldA Go.Proofs.Try.prog 127 2 = some 2 := by kernel_rfl
theorem tfld_127_3 : tfld Go.Proofs.Try.prog 127 3 = some (9, 3) := by kernel_rfl
theorem fldA_127_3 : fldA Go.Proofs.Try.prog 127 3 = some 3 := by kernel_rfl
theorem tok_128 : tok Go.Proofs.Try.prog 128 = true := by kernel_rfl
theorem tsz_128 : tsz Go.Proofs.Try.prog 128 = 4 := by kernel_rfl
theorem tby_128 : tbytes Go.Proofs.Try.prog 128 = 40 := by kernel_rfl
theorem tagg_128 : tagg Go.Proofs.Try.prog 128 = true := by kernel_rfl
theorem tconc_128 : tconc Go.Proofs.Try.prog 128 = true := by kernel_rfl
theorem tzero_128 : tzero Go.Proofs.Try.prog 128 = some (.agg #[.pointer none, .pointer none, .pointer none, .string { data := #[] }]) := by kernel_rfl
theorem tfld_128_0 : tfld Go.Proofs.Try.prog 128 0 = some (17, 0) := by kernel_rfl
theorem fldA_128_0 : fldA Go.Proofs.Try.prog 128 0 = some 0 := by kernel_rfl
theorem tfld_128_1 : tfld Go.Proofs.Try.prog 128 1 = some (17, 1) := by kernel_rfl
theorem fldA_128_1 : fldA Go.Proofs.Try.prog 128 1 = some 1 := by kernel_rfl
theorem tfld_128_2 : tfld Go.Proofs.Try.prog 128 2 = some (17, 2) := by kernel_rfl
theorem fldA_128_2 : fldA Go.Proofs.Try.prog 128 2 = some 2 := by kernel_rfl
theorem tfld_128_3 : tfld Go.Proofs.Try.prog 128 3 = some (9, 3) := by kernel_rfl
theorem fldA_128_3 : fldA Go.Proofs.Try.prog 128 3 = some 3 := by kernel_rfl
theorem tok_129 : tok Go.Proofs.Try.prog 129 = true := by kernel_rfl
theorem tsz_129 : tsz Go.Proofs.Try.prog 129 = 0 := by kernel_rfl
theorem tby_129 : tbytes Go.Proofs.Try.prog 129 = 0 := by kernel_rfl
theorem tagg_129 : tagg Go.Proofs.Try.prog 129 = true := by kernel_rfl
theorem tconc_129 : tconc Go.Proofs.Try.prog 129 = true := by kernel_rfl
theorem tzero_129 : tzero Go.Proofs.Try.prog 129 = some (.agg #[]) := by kernel_rfl
theorem tarr_129 : tarr Go.Proofs.Try.prog 129 = some (0, 16) := by kernel_rfl
theorem tok_130 : tok Go.Proofs.Try.prog 130 = true := by kernel_rfl
theorem tsz_130 : tsz Go.Proofs.Try.prog 130 = 0 := by kernel_rfl
theorem tby_130 : tbytes Go.Proofs.Try.prog 130 = 0 := by kernel_rfl
theorem tagg_130 : tagg Go.Proofs.Try.prog 130 = true := by kernel_rfl
theorem tconc_130 : tconc Go.Proofs.Try.prog 130 = true := by kernel_rfl
theorem tzero_130 : tzero Go.Proofs.Try.prog 130 = some (.agg #[]) := by kernel_rfl
theorem tfld_130_0 : tfld Go.Proofs.Try.prog 130 0 = some (129, 0) := by kernel_rfl
theorem tok_131 : tok Go.Proofs.Try.prog 131 = true := by kernel_rfl
theorem tsz_131 : tsz Go.Proofs.Try.prog 131 = 0 := by kernel_rfl
theorem tby_131 : tbytes Go.Proofs.Try.prog 131 = 0 := by kernel_rfl
theorem tagg_131 : tagg Go.Proofs.Try.prog 131 = true := by kernel_rfl
theorem tconc_131 : tconc Go.Proofs.Try.prog 131 = true := by kernel_rfl
theorem tzero_131 : tzero Go.Proofs.Try.prog 131 = some (.agg #[]) := by kernel_rfl
theorem tfld_131_0 : tfld Go.Proofs.Try.prog 131 0 = some (129, 0) := by kernel_rfl
theorem tok_132 : tok Go.Proofs.Try.prog 132 = true := by kernel_rfl
theorem tsz_132 : tsz Go.Proofs.Try.prog 132 = 1 := by kernel_rfl
theorem tby_132 : tbytes Go.Proofs.Try.prog 132 = 4 := by kernel_rfl
theorem tagg_132 : tagg Go.Proofs.Try.prog 132 = false := by kernel_rfl
theorem tconc_132 : tconc Go.Proofs.Try.prog 132 = true := by kernel_rfl
theorem tzero_132 : tzero Go.Proofs.Try.prog 132 = some (.int .u32 0) := by kernel_rfl
theorem tkind_132 : tkind Go.Proofs.Try.prog 132 = some .u32 := by kernel_rfl
theorem tok_133 : tok Go.Proofs.Try.prog 133 = true := by kernel_rfl
theorem tsz_133 : tsz Go.Proofs.Try.prog 133 = 1 := by kernel_rfl
theorem tby_133 : tbytes Go.Proofs.Try.prog 133 = 1 := by kernel_rfl
theorem tagg_133 : tagg Go.Proofs.Try.prog 133 = false := by kernel_rfl
theorem tconc_133 : tconc Go.Proofs.Try.prog 133 = true := by kernel_rfl
theorem tzero_133 : tzero Go.Proofs.Try.prog 133 = some (.int .u8 0) := by kernel_rfl
theorem tkind_133 : tkind Go.Proofs.Try.prog 133 = some .u8 := by kernel_rfl
theorem tok_134 : tok Go.Proofs.Try.prog 134 = true := by kernel_rfl
theorem tsz_134 : tsz Go.Proofs.Try.prog 134 = 1 := by kernel_rfl
theorem tby_134 : tbytes Go.Proofs.Try.prog 134 = 1 := by kernel_rfl
theorem tagg_134 : tagg Go.Proofs.Try.prog 134 = false := by kernel_rfl
theorem tconc_134 : tconc Go.Proofs.Try.prog 134 = true := by kernel_rfl
theorem tzero_134 : tzero Go.Proofs.Try.prog 134 = some (.int .u8 0) := by kernel_rfl
theorem tkind_134 : tkind Go.Proofs.Try.prog 134 = some .u8 := by kernel_rfl
theorem meth_134_String : methB Go.Proofs.Try.prog 134 "String" = some 118 := by kernel_rfl
theorem tok_135 : tok Go.Proofs.Try.prog 135 = true := by kernel_rfl
theorem tsz_135 : tsz Go.Proofs.Try.prog 135 = 1 := by kernel_rfl
theorem tby_135 : tbytes Go.Proofs.Try.prog 135 = 8 := by kernel_rfl
theorem tagg_135 : tagg Go.Proofs.Try.prog 135 = false := by kernel_rfl
theorem tconc_135 : tconc Go.Proofs.Try.prog 135 = true := by kernel_rfl
theorem tzero_135 : tzero Go.Proofs.Try.prog 135 = some .nilFunc := by kernel_rfl
theorem tok_136 : tok Go.Proofs.Try.prog 136 = true := by kernel_rfl
theorem tsz_136 : tsz Go.Proofs.Try.prog 136 = 1 := by kernel_rfl
theorem tby_136 : tbytes Go.Proofs.Try.prog 136 = 8 := by kernel_rfl
theorem tagg_136 : tagg Go.Proofs.Try.prog 136 = false := by kernel_rfl
theorem tconc_136 : tconc Go.Proofs.Try.prog 136 = true := by kernel_rfl
theorem tzero_136 : tzero Go.Proofs.Try.prog 136 = some (.pointer none) := by kernel_rfl
theorem tptr_136 : tptr Go.Proofs.Try.prog 136 = true := by kernel_rfl
theorem tok_137 : tok Go.Proofs.Try.prog 137 = true := by kernel_rfl
theorem tsz_137 : tsz Go.Proofs.Try.prog 137 = 1 := by kernel_rfl
theorem tby_137 : tbytes Go.Proofs.Try.prog 137 = 4 := by kernel_rfl
theorem tagg_137 : tagg Go.Proofs.Try.prog 137 = false := by kernel_rfl
theorem tconc_137 : tconc Go.Proofs.Try.prog 137 = true := by kernel_rfl
theorem tzero_137 : tzero Go.Proofs.Try.prog 137 = some (.int .i32 0) := by kernel_rfl
theorem tkind_137 : tkind Go.Proofs.Try.prog 137 = some .i32 := by kernel_rfl
theorem tok_138 : tok Go.Proofs.Try.prog 138 = true := by kernel_rfl
theorem tsz_138 : tsz Go.Proofs.Try.prog 138 = 1 := by kernel_rfl
theorem tby_138 : tbytes Go.Proofs.Try.prog 138 = 4 := by kernel_rfl
theorem tagg_138 : tagg Go.Proofs.Try.prog 138 = false := by kernel_rfl
theorem tconc_138 : tconc Go.Proofs.Try.prog 138 = true := by kernel_rfl
theorem tzero_138 : tzero Go.Proofs.Try.prog 138 = some (.int .i32 0) := by kernel_rfl
theorem tkind_138 : tkind Go.Proofs.Try.prog 138 = some .i32 := by kernel_rfl
theorem tok_139 : tok Go.Proofs.Try.prog 139 = true := by kernel_rfl
theorem tsz_139 : tsz Go.Proofs.Try.prog 139 = 11 := by kernel_rfl
theorem tby_139 : tbytes Go.Proofs.Try.prog 139 = 48 := by kernel_rfl
theorem tagg_139 : tagg Go.Proofs.Try.prog 139 = true := by kernel_rfl
theorem tconc_139 : tconc Go.Proofs.Try.prog 139 = true := by kernel_rfl
theorem tzero_139 : tzero Go.Proofs.Try.prog 139 = some (.agg #[.int .u64 0, .int .u64 0, .int .u32 0, .int .u8 0, .int .u8 0, .int .u8 0, .int .u8 0, .nilFunc, .pointer none, .int .i32 0, .int .i32 0]) := by kernel_rfl
theorem tfld_139_0 : tfld Go.Proofs.Try.prog 139 0 = some (12, 0) := by kernel_rfl
theorem fldA_139_0 : fldA Go.Proofs.Try.prog 139 0 = some 0 := by kernel_rfl
theorem tfld_139_1 : tfld Go.Proofs.Try.prog 139 1 = some (12, 1) := by kernel_rfl
theorem fldA_139_1 : fldA Go.Proofs.Try.prog 139 1 = some 1 := by kernel_rfl
theorem tfld_139_2 : tfld Go.Proofs.Try.prog 139 2 = some (132, 2) := by kernel_rfl
theorem fldA_139_2 : fldA Go.Proofs.Try.prog 139 2 = some 2 := by kernel_rfl
theorem tfld_139_3 : tfld Go.Proofs.Try.prog 139 3 = some (133, 3) := by kernel_rfl
theorem fldA_139_3 : fldA Go.Proofs.Try.prog 139 3 = some 3 := by kernel_rfl
theorem tfld_139_4 : tfld Go.Proofs.Try.prog 139 4 = some (5, 4) := by kernel_rfl
theorem fldA_139_4 : fldA Go.Proofs.Try.prog 139 4 = some 4 := by kernel_rfl
theorem tfld_139_5 : tfld Go.Proofs.Try.prog 139 5 = some (5, 5) := by kernel_rfl
theorem fldA_139_5 : fldA Go.Proofs.Try.prog 139 5 = some 5 := by kernel_rfl
theorem tfld_139_6 : tfld Go.Proofs.Try.prog 139 6 = some (134, 6) := by kernel_rfl
theorem fldA_139_6 : fldA Go.Proofs.Try.prog 139 6 = some 6 := by kernel_rfl
theorem tfld_139_7 : tfld Go.Proofs.Try.prog 139 7 = some (135, 7) := by kernel_rfl
theorem fldA_139_7 : fldA Go.Proofs.Try.prog 139 7 = some 7 := by kernel_rfl
theorem tfld_139_8 : tfld Go.Proofs.Try.prog 139 8 = some (136, 8) := by kernel_rfl
theorem fldA_139_8 : fldA Go.Proofs.Try.prog 139 8 = some 8 := by kernel_rfl
theorem tfld_139_9 : tfld Go.Proofs.Try.prog 139 9 = some (137, 9) := by kernel_rfl
theorem fldA_139_9 : fldA Go.Proofs.Try.prog 139 9 = some 9 := by kernel_rfl
theorem tfld_139_10 : tfld Go.Proofs.Try.prog 139 10 = some (138, 10) := by kernel_rfl
theorem fldA_139_10 : fldA Go.Proofs.Try.prog 139 10 = some 10 := by kernel_rfl
theorem tok_140 : tok Go.Proofs.Try.prog 140 = true := by kernel_rfl
theorem tsz_140 : tsz Go.Proofs.Try.prog 140 = 11 := by kernel_rfl
theorem tby_140 : tbytes Go.Proofs.Try.prog 140 = 48 := by kernel_rfl
theorem tagg_140 : tagg Go.Proofs.Try.prog 140 = true := by kernel_rfl
theorem tconc_140 : tconc Go.Proofs.Try.prog 140 = true := by kernel_rfl
theorem tzero_140 : tzero Go.Proofs.Try.prog 140 = some (.agg #[.int .u64 0, .int .u64 0, .int .u32 0, .int .u8 0, .int .u8 0, .int .u8 0, .int .u8 0, .nilFunc, .pointer none, .int .i32 0, .int .i32 0]) := by kernel_rfl
theorem tfld_140_0 : tfld Go.Proofs.Try.prog 140 0 = some (12, 0) := by kernel_rfl
theorem fldA_140_0 : fldA Go.Proofs.Try.prog 140 0 = some 0 := by kernel_rfl
theorem tfld_140_1 : tfld Go.Proofs.Try.prog 140 1 = some (12, 1) := by kernel_rfl
theorem fldA_140_1 : fldA Go.Proofs.Try.prog 140 1 = some 1 := by kernel_rfl
theorem tfld_140_2 : tfld Go.Proofs.Try.prog 140 2 = some (132, 2) := by kernel_rfl
theorem fldA_140_2 : fldA Go.Proofs.Try.prog 140 2 = some 2 := by kernel_rfl
theorem tfld_140_3 : tfld Go.Proofs.Try.prog 140 3 = some (133, 3) := by kernel_rfl
theorem fldA_140_3 : fldA Go.Proofs.Try.prog 140 3 = some 3 := by kernel_rfl
theorem tfld_140_4 : tfld Go.Proofs.Try.prog 140 4 = some (5, 4) := by kernel_rfl
theorem fldA_140_4 : fldA Go.Proofs.Try.prog 140 4 = some 4 := by kernel_rfl
theorem tfld_140_5 : tfld Go.Proofs.Try.prog 140 5 = some (5, 5) := by kernel_rfl
theorem fldA_140_5 : fldA Go.Proofs.Try.prog 140 5 = some 5 := by kernel_rfl
theorem tfld_140_6 : tfld Go.Proofs.Try.prog 140 6 = some (134, 6) := by kernel_rfl
theorem fldA_140_6 : fldA Go.Proofs.Try.prog 140 6 = some 6 := by kernel_rfl
theorem tfld_140_7 : tfld Go.Proofs.Try.prog 140 7 = some (135, 7) := by kernel_rfl
theorem fldA_140_7 : fldA Go.Proofs.Try.prog 140 7 = some 7 := by kernel_rfl
theorem tfld_140_8 : tfld Go.Proofs.Try.prog 140 8 = some (136, 8) := by kernel_rfl
theorem fldA_140_8 : fldA Go.Proofs.Try.prog 140 8 = some 8 := by kernel_rfl
theorem tfld_140_9 : tfld Go.Proofs.Try.prog 140 9 = some (137, 9) := by kernel_rfl
theorem fldA_140_9 : fldA Go.Proofs.Try.prog 140 9 = some 9 := by kernel_rfl
theorem tfld_140_10 : tfld Go.Proofs.Try.prog 140 10 = some (138, 10) := by kernel_rfl
theorem fldA_140_10 : fldA Go.Proofs.Try.prog 140 10 = some 10 := by kernel_rfl
theorem tok_141 : tok Go.Proofs.Try.prog 141 = true := by kernel_rfl
theorem tsz_141 : tsz Go.Proofs.Try.prog 141 = 1 := by kernel_rfl
theorem tby_141 : tbytes Go.Proofs.Try.prog 141 = 8 := by kernel_rfl
theorem tagg_141 : tagg Go.Proofs.Try.prog 141 = false := by kernel_rfl
theorem tconc_141 : tconc Go.Proofs.Try.prog 141 = true := by kernel_rfl
theorem tzero_141 : tzero Go.Proofs.Try.prog 141 = some (.pointer none) := by kernel_rfl
theorem tptr_141 : tptr Go.Proofs.Try.prog 141 = true := by kernel_rfl
theorem meth_141_continuo_effect_follow : methB Go.Proofs.Try.prog 141 "continuo/effect.follow" = some 95 := by kernel_rfl
theorem tok_142 : tok Go.Proofs.Try.prog 142 = true := by kernel_rfl
theorem tsz_142 : tsz Go.Proofs.Try.prog 142 = 1 := by kernel_rfl
theorem tby_142 : tbytes Go.Proofs.Try.prog 142 = 8 := by kernel_rfl
theorem tagg_142 : tagg Go.Proofs.Try.prog 142 = false := by kernel_rfl
theorem tconc_142 : tconc Go.Proofs.Try.prog 142 = true := by kernel_rfl
theorem tzero_142 : tzero Go.Proofs.Try.prog 142 = some (.pointer none) := by kernel_rfl
theorem okF_2 : okF Go.Proofs.Try.prog 2 = true := by kernel_rfl
theorem okF_3 : okF Go.Proofs.Try.prog 3 = true := by kernel_rfl
theorem okF_4 : okF Go.Proofs.Try.prog 4 = true := by kernel_rfl
theorem okF_5 : okF Go.Proofs.Try.prog 5 = true := by kernel_rfl
theorem okF_6 : okF Go.Proofs.Try.prog 6 = true := by kernel_rfl
theorem okF_7 : okF Go.Proofs.Try.prog 7 = true := by kernel_rfl
theorem okF_8 : okF Go.Proofs.Try.prog 8 = true := by kernel_rfl
theorem okF_9 : okF Go.Proofs.Try.prog 9 = true := by kernel_rfl
theorem okF_10 : okF Go.Proofs.Try.prog 10 = true := by kernel_rfl
theorem okF_11 : okF Go.Proofs.Try.prog 11 = true := by kernel_rfl
theorem okF_12 : okF Go.Proofs.Try.prog 12 = true := by kernel_rfl
theorem okF_13 : okF Go.Proofs.Try.prog 13 = true := by kernel_rfl
theorem okF_14 : okF Go.Proofs.Try.prog 14 = true := by kernel_rfl
theorem okF_15 : okF Go.Proofs.Try.prog 15 = true := by kernel_rfl
theorem okF_16 : okF Go.Proofs.Try.prog 16 = true := by kernel_rfl
theorem okF_17 : okF Go.Proofs.Try.prog 17 = true := by kernel_rfl
theorem okF_18 : okF Go.Proofs.Try.prog 18 = true := by kernel_rfl
theorem okF_19 : okF Go.Proofs.Try.prog 19 = true := by kernel_rfl
theorem okF_20 : okF Go.Proofs.Try.prog 20 = true := by kernel_rfl
theorem okF_21 : okF Go.Proofs.Try.prog 21 = true := by kernel_rfl
theorem okF_22 : okF Go.Proofs.Try.prog 22 = true := by kernel_rfl
theorem okF_23 : okF Go.Proofs.Try.prog 23 = true := by kernel_rfl
theorem okF_24 : okF Go.Proofs.Try.prog 24 = true := by kernel_rfl
theorem okF_25 : okF Go.Proofs.Try.prog 25 = true := by kernel_rfl
theorem okF_26 : okF Go.Proofs.Try.prog 26 = true := by kernel_rfl
theorem okF_27 : okF Go.Proofs.Try.prog 27 = true := by kernel_rfl
theorem okF_28 : okF Go.Proofs.Try.prog 28 = true := by kernel_rfl
theorem okF_29 : okF Go.Proofs.Try.prog 29 = true := by kernel_rfl
theorem okF_30 : okF Go.Proofs.Try.prog 30 = true := by kernel_rfl
theorem okF_31 : okF Go.Proofs.Try.prog 31 = true := by kernel_rfl
theorem okF_32 : okF Go.Proofs.Try.prog 32 = true := by kernel_rfl
theorem okF_33 : okF Go.Proofs.Try.prog 33 = true := by kernel_rfl
theorem okF_34 : okF Go.Proofs.Try.prog 34 = true := by kernel_rfl
theorem okF_35 : okF Go.Proofs.Try.prog 35 = true := by kernel_rfl
theorem okF_36 : okF Go.Proofs.Try.prog 36 = true := by kernel_rfl
theorem okF_37 : okF Go.Proofs.Try.prog 37 = true := by kernel_rfl
theorem okF_38 : okF Go.Proofs.Try.prog 38 = true := by kernel_rfl
theorem okF_39 : okF Go.Proofs.Try.prog 39 = true := by kernel_rfl
theorem okF_40 : okF Go.Proofs.Try.prog 40 = true := by kernel_rfl
theorem okF_41 : okF Go.Proofs.Try.prog 41 = true := by kernel_rfl
theorem okF_42 : okF Go.Proofs.Try.prog 42 = true := by kernel_rfl
theorem okF_43 : okF Go.Proofs.Try.prog 43 = true := by kernel_rfl
theorem okF_44 : okF Go.Proofs.Try.prog 44 = true := by kernel_rfl
theorem okF_45 : okF Go.Proofs.Try.prog 45 = true := by kernel_rfl
theorem okF_46 : okF Go.Proofs.Try.prog 46 = true := by kernel_rfl
theorem okF_47 : okF Go.Proofs.Try.prog 47 = true := by kernel_rfl
theorem okF_48 : okF Go.Proofs.Try.prog 48 = true := by kernel_rfl
theorem okF_49 : okF Go.Proofs.Try.prog 49 = true := by kernel_rfl
theorem okF_50 : okF Go.Proofs.Try.prog 50 = true := by kernel_rfl
theorem okF_51 : okF Go.Proofs.Try.prog 51 = true := by kernel_rfl
theorem okF_52 : okF Go.Proofs.Try.prog 52 = true := by kernel_rfl
theorem okF_53 : okF Go.Proofs.Try.prog 53 = true := by kernel_rfl
theorem okF_54 : okF Go.Proofs.Try.prog 54 = true := by kernel_rfl
theorem okF_55 : okF Go.Proofs.Try.prog 55 = true := by kernel_rfl
theorem okF_56 : okF Go.Proofs.Try.prog 56 = true := by kernel_rfl
theorem okF_57 : okF Go.Proofs.Try.prog 57 = true := by kernel_rfl
theorem okF_58 : okF Go.Proofs.Try.prog 58 = true := by kernel_rfl
theorem okF_59 : okF Go.Proofs.Try.prog 59 = true := by kernel_rfl
theorem okF_60 : okF Go.Proofs.Try.prog 60 = true := by kernel_rfl
theorem okF_61 : okF Go.Proofs.Try.prog 61 = true := by kernel_rfl
theorem okF_62 : okF Go.Proofs.Try.prog 62 = true := by kernel_rfl
theorem okF_63 : okF Go.Proofs.Try.prog 63 = true := by kernel_rfl
theorem okF_64 : okF Go.Proofs.Try.prog 64 = true := by kernel_rfl
theorem okF_65 : okF Go.Proofs.Try.prog 65 = true := by kernel_rfl
theorem okF_66 : okF Go.Proofs.Try.prog 66 = true := by kernel_rfl
theorem okF_67 : okF Go.Proofs.Try.prog 67 = true := by kernel_rfl
theorem okF_68 : okF Go.Proofs.Try.prog 68 = true := by kernel_rfl
theorem okF_69 : okF Go.Proofs.Try.prog 69 = true := by kernel_rfl
theorem okF_70 : okF Go.Proofs.Try.prog 70 = true := by kernel_rfl
theorem okF_71 : okF Go.Proofs.Try.prog 71 = true := by kernel_rfl
theorem okF_72 : okF Go.Proofs.Try.prog 72 = true := by kernel_rfl
theorem okF_73 : okF Go.Proofs.Try.prog 73 = true := by kernel_rfl
theorem okF_74 : okF Go.Proofs.Try.prog 74 = true := by kernel_rfl
theorem okF_75 : okF Go.Proofs.Try.prog 75 = true := by kernel_rfl
theorem okF_76 : okF Go.Proofs.Try.prog 76 = true := by kernel_rfl
theorem okF_77 : okF Go.Proofs.Try.prog 77 = true := by kernel_rfl
theorem okF_78 : okF Go.Proofs.Try.prog 78 = true := by kernel_rfl
theorem okF_79 : okF Go.Proofs.Try.prog 79 = true := by kernel_rfl
theorem okF_95 : okF Go.Proofs.Try.prog 95 = true := by kernel_rfl
theorem okF_98 : okF Go.Proofs.Try.prog 98 = true := by kernel_rfl
theorem okF_102 : okF Go.Proofs.Try.prog 102 = true := by kernel_rfl
theorem okF_105 : okF Go.Proofs.Try.prog 105 = true := by kernel_rfl
theorem okF_108 : okF Go.Proofs.Try.prog 108 = true := by kernel_rfl
theorem okF_111 : okF Go.Proofs.Try.prog 111 = true := by kernel_rfl
theorem okF_114 : okF Go.Proofs.Try.prog 114 = true := by kernel_rfl
theorem okF_117 : okF Go.Proofs.Try.prog 117 = true := by kernel_rfl
end Go.Proofs.Ytefcfnmmpnjjjaa
