/- Facts of the types and functions of this program, each by evaluation. -/
import Derived.Test.YtcinhjefclbgjaaGreatDoorProg
import Derived.Test.YtcinhjefclbgjaaGreatDoorMwBase
namespace Go.Proofs.YtcinhjefclbgjaaGreatDoor
open Go.RowKit
set_option maxRecDepth 100000
theorem follows_mo : Go.Proofs.Tryz.prog.follows .mixedOrders = true := by kernel_rfl
theorem tok_0 : tok Go.Proofs.Tryz.prog 0 = true := by kernel_rfl
theorem tsz_0 : tsz Go.Proofs.Tryz.prog 0 = 1 := by kernel_rfl
theorem tby_0 : tbytes Go.Proofs.Tryz.prog 0 = 0 := by kernel_rfl
theorem tagg_0 : tagg Go.Proofs.Tryz.prog 0 = false := by kernel_rfl
theorem tconc_0 : tconc Go.Proofs.Tryz.prog 0 = true := by kernel_rfl
theorem tzero_0 : tzero Go.Proofs.Tryz.prog 0 = some (.tuple #[]) := by kernel_rfl
theorem tok_1 : tok Go.Proofs.Tryz.prog 1 = true := by kernel_rfl
theorem tsz_1 : tsz Go.Proofs.Tryz.prog 1 = 1 := by kernel_rfl
theorem tby_1 : tbytes Go.Proofs.Tryz.prog 1 = 8 := by kernel_rfl
theorem tagg_1 : tagg Go.Proofs.Tryz.prog 1 = false := by kernel_rfl
theorem tconc_1 : tconc Go.Proofs.Tryz.prog 1 = true := by kernel_rfl
theorem tzero_1 : tzero Go.Proofs.Tryz.prog 1 = some .nilFunc := by kernel_rfl
theorem tok_2 : tok Go.Proofs.Tryz.prog 2 = true := by kernel_rfl
theorem tsz_2 : tsz Go.Proofs.Tryz.prog 2 = 1 := by kernel_rfl
theorem tby_2 : tbytes Go.Proofs.Tryz.prog 2 = 8 := by kernel_rfl
theorem tagg_2 : tagg Go.Proofs.Tryz.prog 2 = false := by kernel_rfl
theorem tconc_2 : tconc Go.Proofs.Tryz.prog 2 = true := by kernel_rfl
theorem tzero_2 : tzero Go.Proofs.Tryz.prog 2 = some (.int .i64 0) := by kernel_rfl
theorem tkind_2 : tkind Go.Proofs.Tryz.prog 2 = some .i64 := by kernel_rfl
theorem tok_3 : tok Go.Proofs.Tryz.prog 3 = true := by kernel_rfl
theorem tsz_3 : tsz Go.Proofs.Tryz.prog 3 = 1 := by kernel_rfl
theorem tby_3 : tbytes Go.Proofs.Tryz.prog 3 = 8 := by kernel_rfl
theorem tagg_3 : tagg Go.Proofs.Tryz.prog 3 = false := by kernel_rfl
theorem tconc_3 : tconc Go.Proofs.Tryz.prog 3 = true := by kernel_rfl
theorem tzero_3 : tzero Go.Proofs.Tryz.prog 3 = some (.int .i64 0) := by kernel_rfl
theorem tkind_3 : tkind Go.Proofs.Tryz.prog 3 = some .i64 := by kernel_rfl
theorem tok_4 : tok Go.Proofs.Tryz.prog 4 = true := by kernel_rfl
theorem tsz_4 : tsz Go.Proofs.Tryz.prog 4 = 1 := by kernel_rfl
theorem tby_4 : tbytes Go.Proofs.Tryz.prog 4 = 1 := by kernel_rfl
theorem tagg_4 : tagg Go.Proofs.Tryz.prog 4 = false := by kernel_rfl
theorem tconc_4 : tconc Go.Proofs.Tryz.prog 4 = true := by kernel_rfl
theorem tzero_4 : tzero Go.Proofs.Tryz.prog 4 = some (.bool false) := by kernel_rfl
theorem tbool_4 : tbool Go.Proofs.Tryz.prog 4 = true := by kernel_rfl
theorem tok_5 : tok Go.Proofs.Tryz.prog 5 = true := by kernel_rfl
theorem tsz_5 : tsz Go.Proofs.Tryz.prog 5 = 1 := by kernel_rfl
theorem tby_5 : tbytes Go.Proofs.Tryz.prog 5 = 1 := by kernel_rfl
theorem tagg_5 : tagg Go.Proofs.Tryz.prog 5 = false := by kernel_rfl
theorem tconc_5 : tconc Go.Proofs.Tryz.prog 5 = true := by kernel_rfl
theorem tzero_5 : tzero Go.Proofs.Tryz.prog 5 = some (.int .u8 0) := by kernel_rfl
theorem tkind_5 : tkind Go.Proofs.Tryz.prog 5 = some .u8 := by kernel_rfl
theorem tok_6 : tok Go.Proofs.Tryz.prog 6 = true := by kernel_rfl
theorem tsz_6 : tsz Go.Proofs.Tryz.prog 6 = 1 := by kernel_rfl
theorem tby_6 : tbytes Go.Proofs.Tryz.prog 6 = 1 := by kernel_rfl
theorem tagg_6 : tagg Go.Proofs.Tryz.prog 6 = false := by kernel_rfl
theorem tconc_6 : tconc Go.Proofs.Tryz.prog 6 = true := by kernel_rfl
theorem tzero_6 : tzero Go.Proofs.Tryz.prog 6 = some (.int .u8 0) := by kernel_rfl
theorem tkind_6 : tkind Go.Proofs.Tryz.prog 6 = some .u8 := by kernel_rfl
theorem tok_7 : tok Go.Proofs.Tryz.prog 7 = true := by kernel_rfl
theorem tsz_7 : tsz Go.Proofs.Tryz.prog 7 = 4 := by kernel_rfl
theorem tby_7 : tbytes Go.Proofs.Tryz.prog 7 = 24 := by kernel_rfl
theorem tagg_7 : tagg Go.Proofs.Tryz.prog 7 = true := by kernel_rfl
theorem tconc_7 : tconc Go.Proofs.Tryz.prog 7 = true := by kernel_rfl
theorem tzero_7 : tzero Go.Proofs.Tryz.prog 7 = some (.agg #[.int .i64 0, .int .i64 0, .bool false, .int .u8 0]) := by kernel_rfl
theorem tfld_7_0 : tfld Go.Proofs.Tryz.prog 7 0 = some (2, 0) := by kernel_rfl
theorem fldA_7_0 : fldA Go.Proofs.Tryz.prog 7 0 = some 0 := by kernel_rfl
theorem tfld_7_1 : tfld Go.Proofs.Tryz.prog 7 1 = some (3, 1) := by kernel_rfl
theorem fldA_7_1 : fldA Go.Proofs.Tryz.prog 7 1 = some 1 := by kernel_rfl
theorem tfld_7_2 : tfld Go.Proofs.Tryz.prog 7 2 = some (4, 2) := by kernel_rfl
theorem fldA_7_2 : fldA Go.Proofs.Tryz.prog 7 2 = some 2 := by kernel_rfl
theorem tfld_7_3 : tfld Go.Proofs.Tryz.prog 7 3 = some (6, 3) := by kernel_rfl
theorem fldA_7_3 : fldA Go.Proofs.Tryz.prog 7 3 = some 3 := by kernel_rfl
theorem tok_8 : tok Go.Proofs.Tryz.prog 8 = true := by kernel_rfl
theorem tsz_8 : tsz Go.Proofs.Tryz.prog 8 = 4 := by kernel_rfl
theorem tby_8 : tbytes Go.Proofs.Tryz.prog 8 = 24 := by kernel_rfl
theorem tagg_8 : tagg Go.Proofs.Tryz.prog 8 = true := by kernel_rfl
theorem tconc_8 : tconc Go.Proofs.Tryz.prog 8 = true := by kernel_rfl
theorem tzero_8 : tzero Go.Proofs.Tryz.prog 8 = some (.agg #[.int .i64 0, .int .i64 0, .bool false, .int .u8 0]) := by kernel_rfl
theorem tfld_8_0 : tfld Go.Proofs.Tryz.prog 8 0 = some (2, 0) := by kernel_rfl
theorem fldA_8_0 : fldA Go.Proofs.Tryz.prog 8 0 = some 0 := by kernel_rfl
theorem tfld_8_1 : tfld Go.Proofs.Tryz.prog 8 1 = some (3, 1) := by kernel_rfl
theorem fldA_8_1 : fldA Go.Proofs.Tryz.prog 8 1 = some 1 := by kernel_rfl
theorem tfld_8_2 : tfld Go.Proofs.Tryz.prog 8 2 = some (4, 2) := by kernel_rfl
theorem fldA_8_2 : fldA Go.Proofs.Tryz.prog 8 2 = some 2 := by kernel_rfl
theorem tfld_8_3 : tfld Go.Proofs.Tryz.prog 8 3 = some (6, 3) := by kernel_rfl
theorem fldA_8_3 : fldA Go.Proofs.Tryz.prog 8 3 = some 3 := by kernel_rfl
theorem meth_8_Error : methB Go.Proofs.Tryz.prog 8 "Error" = some 106 := by kernel_rfl
theorem meth_8_RuntimeError : methB Go.Proofs.Tryz.prog 8 "RuntimeError" = some 107 := by kernel_rfl
theorem tok_9 : tok Go.Proofs.Tryz.prog 9 = true := by kernel_rfl
theorem tsz_9 : tsz Go.Proofs.Tryz.prog 9 = 1 := by kernel_rfl
theorem tby_9 : tbytes Go.Proofs.Tryz.prog 9 = 16 := by kernel_rfl
theorem tagg_9 : tagg Go.Proofs.Tryz.prog 9 = false := by kernel_rfl
theorem tconc_9 : tconc Go.Proofs.Tryz.prog 9 = true := by kernel_rfl
theorem tzero_9 : tzero Go.Proofs.Tryz.prog 9 = some (.string { data := #[] }) := by kernel_rfl
theorem tstr_9 : tstr Go.Proofs.Tryz.prog 9 = true := by kernel_rfl
theorem tok_10 : tok Go.Proofs.Tryz.prog 10 = true := by kernel_rfl
theorem tsz_10 : tsz Go.Proofs.Tryz.prog 10 = 1 := by kernel_rfl
theorem tby_10 : tbytes Go.Proofs.Tryz.prog 10 = 16 := by kernel_rfl
theorem tagg_10 : tagg Go.Proofs.Tryz.prog 10 = false := by kernel_rfl
theorem tconc_10 : tconc Go.Proofs.Tryz.prog 10 = true := by kernel_rfl
theorem tzero_10 : tzero Go.Proofs.Tryz.prog 10 = some (.string { data := #[] }) := by kernel_rfl
theorem tstr_10 : tstr Go.Proofs.Tryz.prog 10 = true := by kernel_rfl
theorem meth_10_Error : methB Go.Proofs.Tryz.prog 10 "Error" = some 108 := by kernel_rfl
theorem meth_10_RuntimeError : methB Go.Proofs.Tryz.prog 10 "RuntimeError" = some 109 := by kernel_rfl
theorem tok_11 : tok Go.Proofs.Tryz.prog 11 = true := by kernel_rfl
theorem tsz_11 : tsz Go.Proofs.Tryz.prog 11 = 1 := by kernel_rfl
theorem tby_11 : tbytes Go.Proofs.Tryz.prog 11 = 16 := by kernel_rfl
theorem tagg_11 : tagg Go.Proofs.Tryz.prog 11 = false := by kernel_rfl
theorem tconc_11 : tconc Go.Proofs.Tryz.prog 11 = true := by kernel_rfl
theorem tzero_11 : tzero Go.Proofs.Tryz.prog 11 = some (.string { data := #[] }) := by kernel_rfl
theorem tstr_11 : tstr Go.Proofs.Tryz.prog 11 = true := by kernel_rfl
theorem meth_11_Error : methB Go.Proofs.Tryz.prog 11 "Error" = some 110 := by kernel_rfl
theorem meth_11_RuntimeError : methB Go.Proofs.Tryz.prog 11 "RuntimeError" = some 111 := by kernel_rfl
theorem tok_12 : tok Go.Proofs.Tryz.prog 12 = true := by kernel_rfl
theorem tsz_12 : tsz Go.Proofs.Tryz.prog 12 = 1 := by kernel_rfl
theorem tby_12 : tbytes Go.Proofs.Tryz.prog 12 = 8 := by kernel_rfl
theorem tagg_12 : tagg Go.Proofs.Tryz.prog 12 = false := by kernel_rfl
theorem tconc_12 : tconc Go.Proofs.Tryz.prog 12 = true := by kernel_rfl
theorem tzero_12 : tzero Go.Proofs.Tryz.prog 12 = some (.int .u64 0) := by kernel_rfl
theorem tkind_12 : tkind Go.Proofs.Tryz.prog 12 = some .u64 := by kernel_rfl
theorem tok_13 : tok Go.Proofs.Tryz.prog 13 = true := by kernel_rfl
theorem tsz_13 : tsz Go.Proofs.Tryz.prog 13 = 2 := by kernel_rfl
theorem tby_13 : tbytes Go.Proofs.Tryz.prog 13 = 24 := by kernel_rfl
theorem tagg_13 : tagg Go.Proofs.Tryz.prog 13 = true := by kernel_rfl
theorem tconc_13 : tconc Go.Proofs.Tryz.prog 13 = true := by kernel_rfl
theorem tzero_13 : tzero Go.Proofs.Tryz.prog 13 = some (.agg #[.string { data := #[] }, .int .u64 0]) := by kernel_rfl
theorem tfld_13_0 : tfld Go.Proofs.Tryz.prog 13 0 = some (9, 0) := by kernel_rfl
theorem fldA_13_0 : fldA Go.Proofs.Tryz.prog 13 0 = some 0 := by kernel_rfl
theorem tfld_13_1 : tfld Go.Proofs.Tryz.prog 13 1 = some (12, 1) := by kernel_rfl
theorem fldA_13_1 : fldA Go.Proofs.Tryz.prog 13 1 = some 1 := by kernel_rfl
theorem tok_14 : tok Go.Proofs.Tryz.prog 14 = true := by kernel_rfl
theorem tsz_14 : tsz Go.Proofs.Tryz.prog 14 = 2 := by kernel_rfl
theorem tby_14 : tbytes Go.Proofs.Tryz.prog 14 = 24 := by kernel_rfl
theorem tagg_14 : tagg Go.Proofs.Tryz.prog 14 = true := by kernel_rfl
theorem tconc_14 : tconc Go.Proofs.Tryz.prog 14 = true := by kernel_rfl
theorem tzero_14 : tzero Go.Proofs.Tryz.prog 14 = some (.agg #[.string { data := #[] }, .int .u64 0]) := by kernel_rfl
theorem tfld_14_0 : tfld Go.Proofs.Tryz.prog 14 0 = some (9, 0) := by kernel_rfl
theorem fldA_14_0 : fldA Go.Proofs.Tryz.prog 14 0 = some 0 := by kernel_rfl
theorem tfld_14_1 : tfld Go.Proofs.Tryz.prog 14 1 = some (12, 1) := by kernel_rfl
theorem fldA_14_1 : fldA Go.Proofs.Tryz.prog 14 1 = some 1 := by kernel_rfl
theorem meth_14_Error : methB Go.Proofs.Tryz.prog 14 "Error" = some 112 := by kernel_rfl
theorem meth_14_RuntimeError : methB Go.Proofs.Tryz.prog 14 "RuntimeError" = some 113 := by kernel_rfl
theorem tok_15 : tok Go.Proofs.Tryz.prog 15 = true := by kernel_rfl
theorem tsz_15 : tsz Go.Proofs.Tryz.prog 15 = 1 := by kernel_rfl
theorem tby_15 : tbytes Go.Proofs.Tryz.prog 15 = 8 := by kernel_rfl
theorem tagg_15 : tagg Go.Proofs.Tryz.prog 15 = false := by kernel_rfl
theorem tconc_15 : tconc Go.Proofs.Tryz.prog 15 = true := by kernel_rfl
theorem tzero_15 : tzero Go.Proofs.Tryz.prog 15 = some (.pointer none) := by kernel_rfl
theorem tptr_15 : tptr Go.Proofs.Tryz.prog 15 = true := by kernel_rfl
theorem meth_15_Error : methB Go.Proofs.Tryz.prog 15 "Error" = some 114 := by kernel_rfl
theorem meth_15_RuntimeError : methB Go.Proofs.Tryz.prog 15 "RuntimeError" = some 115 := by kernel_rfl
theorem tok_16 : tok Go.Proofs.Tryz.prog 16 = true := by kernel_rfl
theorem tsz_16 : tsz Go.Proofs.Tryz.prog 16 = 1 := by kernel_rfl
theorem tby_16 : tbytes Go.Proofs.Tryz.prog 16 = 8 := by kernel_rfl
theorem tagg_16 : tagg Go.Proofs.Tryz.prog 16 = false := by kernel_rfl
theorem tconc_16 : tconc Go.Proofs.Tryz.prog 16 = true := by kernel_rfl
theorem tzero_16 : tzero Go.Proofs.Tryz.prog 16 = some (.pointer none) := by kernel_rfl
theorem tptr_16 : tptr Go.Proofs.Tryz.prog 16 = true := by kernel_rfl
theorem meth_16_Error : methB Go.Proofs.Tryz.prog 16 "Error" = some 116 := by kernel_rfl
theorem meth_16_RuntimeError : methB Go.Proofs.Tryz.prog 16 "RuntimeError" = some 117 := by kernel_rfl
theorem tok_17 : tok Go.Proofs.Tryz.prog 17 = true := by kernel_rfl
theorem tsz_17 : tsz Go.Proofs.Tryz.prog 17 = 1 := by kernel_rfl
theorem tby_17 : tbytes Go.Proofs.Tryz.prog 17 = 8 := by kernel_rfl
theorem tagg_17 : tagg Go.Proofs.Tryz.prog 17 = false := by kernel_rfl
theorem tconc_17 : tconc Go.Proofs.Tryz.prog 17 = true := by kernel_rfl
theorem tzero_17 : tzero Go.Proofs.Tryz.prog 17 = some (.pointer none) := by kernel_rfl
theorem tptr_17 : tptr Go.Proofs.Tryz.prog 17 = true := by kernel_rfl
theorem meth_17_Align : methB Go.Proofs.Tryz.prog 17 "Align" = some 118 := by kernel_rfl
theorem tok_18 : tok Go.Proofs.Tryz.prog 18 = true := by kernel_rfl
theorem tsz_18 : tsz Go.Proofs.Tryz.prog 18 = 1 := by kernel_rfl
theorem tby_18 : tbytes Go.Proofs.Tryz.prog 18 = 8 := by kernel_rfl
theorem tagg_18 : tagg Go.Proofs.Tryz.prog 18 = true := by kernel_rfl
theorem tconc_18 : tconc Go.Proofs.Tryz.prog 18 = true := by kernel_rfl
theorem tzero_18 : tzero Go.Proofs.Tryz.prog 18 = some (.agg #[.pointer none]) := by kernel_rfl
theorem tfld_18_0 : tfld Go.Proofs.Tryz.prog 18 0 = some (17, 0) := by kernel_rfl
theorem fldA_18_0 : fldA Go.Proofs.Tryz.prog 18 0 = some 0 := by kernel_rfl
theorem tok_19 : tok Go.Proofs.Tryz.prog 19 = true := by kernel_rfl
theorem tsz_19 : tsz Go.Proofs.Tryz.prog 19 = 1 := by kernel_rfl
theorem tby_19 : tbytes Go.Proofs.Tryz.prog 19 = 8 := by kernel_rfl
theorem tagg_19 : tagg Go.Proofs.Tryz.prog 19 = true := by kernel_rfl
theorem tconc_19 : tconc Go.Proofs.Tryz.prog 19 = true := by kernel_rfl
theorem tzero_19 : tzero Go.Proofs.Tryz.prog 19 = some (.agg #[.pointer none]) := by kernel_rfl
theorem tfld_19_0 : tfld Go.Proofs.Tryz.prog 19 0 = some (17, 0) := by kernel_rfl
theorem fldA_19_0 : fldA Go.Proofs.Tryz.prog 19 0 = some 0 := by kernel_rfl
theorem meth_19_Error : methB Go.Proofs.Tryz.prog 19 "Error" = some 119 := by kernel_rfl
theorem meth_19_RuntimeError : methB Go.Proofs.Tryz.prog 19 "RuntimeError" = some 120 := by kernel_rfl
theorem tok_20 : tok Go.Proofs.Tryz.prog 20 = true := by kernel_rfl
theorem tsz_20 : tsz Go.Proofs.Tryz.prog 20 = 1 := by kernel_rfl
theorem tby_20 : tbytes Go.Proofs.Tryz.prog 20 = 16 := by kernel_rfl
theorem tagg_20 : tagg Go.Proofs.Tryz.prog 20 = false := by kernel_rfl
theorem tconc_20 : tconc Go.Proofs.Tryz.prog 20 = false := by kernel_rfl
theorem tzero_20 : tzero Go.Proofs.Tryz.prog 20 = some .nilIface := by kernel_rfl
theorem tifc_20 : tifc Go.Proofs.Tryz.prog 20 = true := by kernel_rfl
theorem tok_21 : tok Go.Proofs.Tryz.prog 21 = true := by kernel_rfl
theorem tsz_21 : tsz Go.Proofs.Tryz.prog 21 = 1 := by kernel_rfl
theorem tby_21 : tbytes Go.Proofs.Tryz.prog 21 = 4 := by kernel_rfl
theorem tagg_21 : tagg Go.Proofs.Tryz.prog 21 = false := by kernel_rfl
theorem tconc_21 : tconc Go.Proofs.Tryz.prog 21 = true := by kernel_rfl
theorem tzero_21 : tzero Go.Proofs.Tryz.prog 21 = some (.int .i32 0) := by kernel_rfl
theorem tkind_21 : tkind Go.Proofs.Tryz.prog 21 = some .i32 := by kernel_rfl
theorem tok_22 : tok Go.Proofs.Tryz.prog 22 = true := by kernel_rfl
theorem tsz_22 : tsz Go.Proofs.Tryz.prog 22 = 1 := by kernel_rfl
theorem tby_22 : tbytes Go.Proofs.Tryz.prog 22 = 24 := by kernel_rfl
theorem tagg_22 : tagg Go.Proofs.Tryz.prog 22 = false := by kernel_rfl
theorem tconc_22 : tconc Go.Proofs.Tryz.prog 22 = true := by kernel_rfl
theorem tzero_22 : tzero Go.Proofs.Tryz.prog 22 = some (.slice none 0 0) := by kernel_rfl
theorem telem_22 : telem Go.Proofs.Tryz.prog 22 = some 9 := by kernel_rfl
theorem tok_23 : tok Go.Proofs.Tryz.prog 23 = true := by kernel_rfl
theorem tsz_23 : tsz Go.Proofs.Tryz.prog 23 = 1 := by kernel_rfl
theorem tby_23 : tbytes Go.Proofs.Tryz.prog 23 = 24 := by kernel_rfl
theorem tagg_23 : tagg Go.Proofs.Tryz.prog 23 = false := by kernel_rfl
theorem tconc_23 : tconc Go.Proofs.Tryz.prog 23 = true := by kernel_rfl
theorem tzero_23 : tzero Go.Proofs.Tryz.prog 23 = some (.slice none 0 0) := by kernel_rfl
theorem telem_23 : telem Go.Proofs.Tryz.prog 23 = some 45 := by kernel_rfl
theorem tok_24 : tok Go.Proofs.Tryz.prog 24 = true := by kernel_rfl
theorem tsz_24 : tsz Go.Proofs.Tryz.prog 24 = 2 := by kernel_rfl
theorem tby_24 : tbytes Go.Proofs.Tryz.prog 24 = 48 := by kernel_rfl
theorem tagg_24 : tagg Go.Proofs.Tryz.prog 24 = true := by kernel_rfl
theorem tconc_24 : tconc Go.Proofs.Tryz.prog 24 = true := by kernel_rfl
theorem tzero_24 : tzero Go.Proofs.Tryz.prog 24 = some (.agg #[.slice none 0 0, .slice none 0 0]) := by kernel_rfl
theorem tfld_24_0 : tfld Go.Proofs.Tryz.prog 24 0 = some (22, 0) := by kernel_rfl
theorem fldA_24_0 : fldA Go.Proofs.Tryz.prog 24 0 = some 0 := by kernel_rfl
theorem tfld_24_1 : tfld Go.Proofs.Tryz.prog 24 1 = some (23, 1) := by kernel_rfl
theorem fldA_24_1 : fldA Go.Proofs.Tryz.prog 24 1 = some 1 := by kernel_rfl
theorem tok_25 : tok Go.Proofs.Tryz.prog 25 = true := by kernel_rfl
theorem tsz_25 : tsz Go.Proofs.Tryz.prog 25 = 2 := by kernel_rfl
theorem tby_25 : tbytes Go.Proofs.Tryz.prog 25 = 48 := by kernel_rfl
theorem tagg_25 : tagg Go.Proofs.Tryz.prog 25 = true := by kernel_rfl
theorem tconc_25 : tconc Go.Proofs.Tryz.prog 25 = true := by kernel_rfl
theorem tzero_25 : tzero Go.Proofs.Tryz.prog 25 = some (.agg #[.slice none 0 0, .slice none 0 0]) := by kernel_rfl
theorem tfld_25_0 : tfld Go.Proofs.Tryz.prog 25 0 = some (22, 0) := by kernel_rfl
theorem fldA_25_0 : fldA Go.Proofs.Tryz.prog 25 0 = some 0 := by kernel_rfl
theorem tfld_25_1 : tfld Go.Proofs.Tryz.prog 25 1 = some (23, 1) := by kernel_rfl
theorem fldA_25_1 : fldA Go.Proofs.Tryz.prog 25 1 = some 1 := by kernel_rfl
theorem tok_26 : tok Go.Proofs.Tryz.prog 26 = true := by kernel_rfl
theorem tsz_26 : tsz Go.Proofs.Tryz.prog 26 = 1 := by kernel_rfl
theorem tby_26 : tbytes Go.Proofs.Tryz.prog 26 = 8 := by kernel_rfl
theorem tagg_26 : tagg Go.Proofs.Tryz.prog 26 = false := by kernel_rfl
theorem tconc_26 : tconc Go.Proofs.Tryz.prog 26 = true := by kernel_rfl
theorem tzero_26 : tzero Go.Proofs.Tryz.prog 26 = some .nilFunc := by kernel_rfl
theorem tok_27 : tok Go.Proofs.Tryz.prog 27 = true := by kernel_rfl
theorem tsz_27 : tsz Go.Proofs.Tryz.prog 27 = 1 := by kernel_rfl
theorem tby_27 : tbytes Go.Proofs.Tryz.prog 27 = 8 := by kernel_rfl
theorem tagg_27 : tagg Go.Proofs.Tryz.prog 27 = false := by kernel_rfl
theorem tconc_27 : tconc Go.Proofs.Tryz.prog 27 = true := by kernel_rfl
theorem tzero_27 : tzero Go.Proofs.Tryz.prog 27 = some (.pointer none) := by kernel_rfl
theorem tptr_27 : tptr Go.Proofs.Tryz.prog 27 = true := by kernel_rfl
theorem meth_27_Copy : methB Go.Proofs.Tryz.prog 27 "Copy" = some 6 := by kernel_rfl
theorem meth_27_Next : methB Go.Proofs.Tryz.prog 27 "Next" = some 5 := by kernel_rfl
theorem meth_27_continuo_pattern_ends : methB Go.Proofs.Tryz.prog 27 "continuo/pattern.ends" = some 16 := by kernel_rfl
theorem tok_28 : tok Go.Proofs.Tryz.prog 28 = true := by kernel_rfl
theorem tsz_28 : tsz Go.Proofs.Tryz.prog 28 = 1 := by kernel_rfl
theorem tby_28 : tbytes Go.Proofs.Tryz.prog 28 = 8 := by kernel_rfl
theorem tagg_28 : tagg Go.Proofs.Tryz.prog 28 = false := by kernel_rfl
theorem tconc_28 : tconc Go.Proofs.Tryz.prog 28 = true := by kernel_rfl
theorem tzero_28 : tzero Go.Proofs.Tryz.prog 28 = some (.pointer none) := by kernel_rfl
theorem tptr_28 : tptr Go.Proofs.Tryz.prog 28 = true := by kernel_rfl
theorem meth_28_Next : methB Go.Proofs.Tryz.prog 28 "Next" = some 9 := by kernel_rfl
theorem meth_28_Now : methB Go.Proofs.Tryz.prog 28 "Now" = some 11 := by kernel_rfl
theorem meth_28_Pass : methB Go.Proofs.Tryz.prog 28 "Pass" = some 8 := by kernel_rfl
theorem meth_28_Play : methB Go.Proofs.Tryz.prog 28 "Play" = some 7 := by kernel_rfl
theorem meth_28_Playing : methB Go.Proofs.Tryz.prog 28 "Playing" = some 12 := by kernel_rfl
theorem meth_28_Stop : methB Go.Proofs.Tryz.prog 28 "Stop" = some 10 := by kernel_rfl
theorem meth_28_continuo_pattern_due : methB Go.Proofs.Tryz.prog 28 "continuo/pattern.due" = some 22 := by kernel_rfl
theorem tok_29 : tok Go.Proofs.Tryz.prog 29 = true := by kernel_rfl
theorem tsz_29 : tsz Go.Proofs.Tryz.prog 29 = 1 := by kernel_rfl
theorem tby_29 : tbytes Go.Proofs.Tryz.prog 29 = 8 := by kernel_rfl
theorem tagg_29 : tagg Go.Proofs.Tryz.prog 29 = false := by kernel_rfl
theorem tconc_29 : tconc Go.Proofs.Tryz.prog 29 = true := by kernel_rfl
theorem tzero_29 : tzero Go.Proofs.Tryz.prog 29 = some (.int .i64 0) := by kernel_rfl
theorem tkind_29 : tkind Go.Proofs.Tryz.prog 29 = some .i64 := by kernel_rfl
theorem tok_30 : tok Go.Proofs.Tryz.prog 30 = true := by kernel_rfl
theorem tsz_30 : tsz Go.Proofs.Tryz.prog 30 = 1 := by kernel_rfl
theorem tby_30 : tbytes Go.Proofs.Tryz.prog 30 = 0 := by kernel_rfl
theorem tagg_30 : tagg Go.Proofs.Tryz.prog 30 = false := by kernel_rfl
theorem tconc_30 : tconc Go.Proofs.Tryz.prog 30 = true := by kernel_rfl
theorem tzero_30 : tzero Go.Proofs.Tryz.prog 30 = some (.tuple #[.int .i64 0, .bool false, .int .i64 0]) := by kernel_rfl
theorem tok_31 : tok Go.Proofs.Tryz.prog 31 = true := by kernel_rfl
theorem tsz_31 : tsz Go.Proofs.Tryz.prog 31 = 1 := by kernel_rfl
theorem tby_31 : tbytes Go.Proofs.Tryz.prog 31 = 8 := by kernel_rfl
theorem tagg_31 : tagg Go.Proofs.Tryz.prog 31 = false := by kernel_rfl
theorem tconc_31 : tconc Go.Proofs.Tryz.prog 31 = true := by kernel_rfl
theorem tzero_31 : tzero Go.Proofs.Tryz.prog 31 = some .nilFunc := by kernel_rfl
theorem tok_32 : tok Go.Proofs.Tryz.prog 32 = true := by kernel_rfl
theorem tsz_32 : tsz Go.Proofs.Tryz.prog 32 = 1 := by kernel_rfl
theorem tby_32 : tbytes Go.Proofs.Tryz.prog 32 = 8 := by kernel_rfl
theorem tagg_32 : tagg Go.Proofs.Tryz.prog 32 = false := by kernel_rfl
theorem tconc_32 : tconc Go.Proofs.Tryz.prog 32 = true := by kernel_rfl
theorem tzero_32 : tzero Go.Proofs.Tryz.prog 32 = some .nilFunc := by kernel_rfl
theorem tok_33 : tok Go.Proofs.Tryz.prog 33 = true := by kernel_rfl
theorem tsz_33 : tsz Go.Proofs.Tryz.prog 33 = 1 := by kernel_rfl
theorem tby_33 : tbytes Go.Proofs.Tryz.prog 33 = 0 := by kernel_rfl
theorem tagg_33 : tagg Go.Proofs.Tryz.prog 33 = false := by kernel_rfl
theorem tconc_33 : tconc Go.Proofs.Tryz.prog 33 = true := by kernel_rfl
theorem tzero_33 : tzero Go.Proofs.Tryz.prog 33 = some (.tuple #[.int .i64 0, .int .i64 0]) := by kernel_rfl
theorem tok_34 : tok Go.Proofs.Tryz.prog 34 = true := by kernel_rfl
theorem tsz_34 : tsz Go.Proofs.Tryz.prog 34 = 1 := by kernel_rfl
theorem tby_34 : tbytes Go.Proofs.Tryz.prog 34 = 8 := by kernel_rfl
theorem tagg_34 : tagg Go.Proofs.Tryz.prog 34 = false := by kernel_rfl
theorem tconc_34 : tconc Go.Proofs.Tryz.prog 34 = true := by kernel_rfl
theorem tzero_34 : tzero Go.Proofs.Tryz.prog 34 = some .nilFunc := by kernel_rfl
theorem tok_35 : tok Go.Proofs.Tryz.prog 35 = true := by kernel_rfl
theorem tsz_35 : tsz Go.Proofs.Tryz.prog 35 = 1 := by kernel_rfl
theorem tby_35 : tbytes Go.Proofs.Tryz.prog 35 = 24 := by kernel_rfl
theorem tagg_35 : tagg Go.Proofs.Tryz.prog 35 = false := by kernel_rfl
theorem tconc_35 : tconc Go.Proofs.Tryz.prog 35 = true := by kernel_rfl
theorem tzero_35 : tzero Go.Proofs.Tryz.prog 35 = some (.slice none 0 0) := by kernel_rfl
theorem telem_35 : telem Go.Proofs.Tryz.prog 35 = some 104 := by kernel_rfl
theorem tok_36 : tok Go.Proofs.Tryz.prog 36 = true := by kernel_rfl
theorem tsz_36 : tsz Go.Proofs.Tryz.prog 36 = 1 := by kernel_rfl
theorem tby_36 : tbytes Go.Proofs.Tryz.prog 36 = 0 := by kernel_rfl
theorem tagg_36 : tagg Go.Proofs.Tryz.prog 36 = false := by kernel_rfl
theorem tconc_36 : tconc Go.Proofs.Tryz.prog 36 = true := by kernel_rfl
theorem tzero_36 : tzero Go.Proofs.Tryz.prog 36 = some (.tuple #[.slice none 0 0, .int .i64 0]) := by kernel_rfl
theorem tok_37 : tok Go.Proofs.Tryz.prog 37 = true := by kernel_rfl
theorem tsz_37 : tsz Go.Proofs.Tryz.prog 37 = 1 := by kernel_rfl
theorem tby_37 : tbytes Go.Proofs.Tryz.prog 37 = 8 := by kernel_rfl
theorem tagg_37 : tagg Go.Proofs.Tryz.prog 37 = false := by kernel_rfl
theorem tconc_37 : tconc Go.Proofs.Tryz.prog 37 = true := by kernel_rfl
theorem tzero_37 : tzero Go.Proofs.Tryz.prog 37 = some .nilFunc := by kernel_rfl
theorem tok_38 : tok Go.Proofs.Tryz.prog 38 = true := by kernel_rfl
theorem tsz_38 : tsz Go.Proofs.Tryz.prog 38 = 1 := by kernel_rfl
theorem tby_38 : tbytes Go.Proofs.Tryz.prog 38 = 8 := by kernel_rfl
theorem tagg_38 : tagg Go.Proofs.Tryz.prog 38 = false := by kernel_rfl
theorem tconc_38 : tconc Go.Proofs.Tryz.prog 38 = true := by kernel_rfl
theorem tzero_38 : tzero Go.Proofs.Tryz.prog 38 = some .nilFunc := by kernel_rfl
theorem tok_39 : tok Go.Proofs.Tryz.prog 39 = true := by kernel_rfl
theorem tsz_39 : tsz Go.Proofs.Tryz.prog 39 = 1 := by kernel_rfl
theorem tby_39 : tbytes Go.Proofs.Tryz.prog 39 = 8 := by kernel_rfl
theorem tagg_39 : tagg Go.Proofs.Tryz.prog 39 = false := by kernel_rfl
theorem tconc_39 : tconc Go.Proofs.Tryz.prog 39 = true := by kernel_rfl
theorem tzero_39 : tzero Go.Proofs.Tryz.prog 39 = some .nilFunc := by kernel_rfl
theorem tok_40 : tok Go.Proofs.Tryz.prog 40 = true := by kernel_rfl
theorem tsz_40 : tsz Go.Proofs.Tryz.prog 40 = 1 := by kernel_rfl
theorem tby_40 : tbytes Go.Proofs.Tryz.prog 40 = 8 := by kernel_rfl
theorem tagg_40 : tagg Go.Proofs.Tryz.prog 40 = false := by kernel_rfl
theorem tconc_40 : tconc Go.Proofs.Tryz.prog 40 = true := by kernel_rfl
theorem tzero_40 : tzero Go.Proofs.Tryz.prog 40 = some .nilFunc := by kernel_rfl
theorem tok_41 : tok Go.Proofs.Tryz.prog 41 = true := by kernel_rfl
theorem tsz_41 : tsz Go.Proofs.Tryz.prog 41 = 1 := by kernel_rfl
theorem tby_41 : tbytes Go.Proofs.Tryz.prog 41 = 24 := by kernel_rfl
theorem tagg_41 : tagg Go.Proofs.Tryz.prog 41 = false := by kernel_rfl
theorem tconc_41 : tconc Go.Proofs.Tryz.prog 41 = true := by kernel_rfl
theorem tzero_41 : tzero Go.Proofs.Tryz.prog 41 = some (.slice none 0 0) := by kernel_rfl
theorem telem_41 : telem Go.Proofs.Tryz.prog 41 = some 3 := by kernel_rfl
theorem tok_42 : tok Go.Proofs.Tryz.prog 42 = true := by kernel_rfl
theorem tsz_42 : tsz Go.Proofs.Tryz.prog 42 = 1 := by kernel_rfl
theorem tby_42 : tbytes Go.Proofs.Tryz.prog 42 = 8 := by kernel_rfl
theorem tagg_42 : tagg Go.Proofs.Tryz.prog 42 = false := by kernel_rfl
theorem tconc_42 : tconc Go.Proofs.Tryz.prog 42 = true := by kernel_rfl
theorem tzero_42 : tzero Go.Proofs.Tryz.prog 42 = some .nilFunc := by kernel_rfl
theorem tok_43 : tok Go.Proofs.Tryz.prog 43 = true := by kernel_rfl
theorem tsz_43 : tsz Go.Proofs.Tryz.prog 43 = 1 := by kernel_rfl
theorem tby_43 : tbytes Go.Proofs.Tryz.prog 43 = 8 := by kernel_rfl
theorem tagg_43 : tagg Go.Proofs.Tryz.prog 43 = false := by kernel_rfl
theorem tconc_43 : tconc Go.Proofs.Tryz.prog 43 = true := by kernel_rfl
theorem tzero_43 : tzero Go.Proofs.Tryz.prog 43 = some .nilFunc := by kernel_rfl
theorem tok_44 : tok Go.Proofs.Tryz.prog 44 = true := by kernel_rfl
theorem tsz_44 : tsz Go.Proofs.Tryz.prog 44 = 7 := by kernel_rfl
theorem tby_44 : tbytes Go.Proofs.Tryz.prog 44 = 72 := by kernel_rfl
theorem tagg_44 : tagg Go.Proofs.Tryz.prog 44 = true := by kernel_rfl
theorem tconc_44 : tconc Go.Proofs.Tryz.prog 44 = true := by kernel_rfl
theorem tzero_44 : tzero Go.Proofs.Tryz.prog 44 = some (.agg #[.int .i64 0, .int .i64 0, .int .i64 0, .int .i64 0, .int .i64 0, .int .i64 0, .slice none 0 0]) := by kernel_rfl
theorem tfld_44_0 : tfld Go.Proofs.Tryz.prog 44 0 = some (3, 0) := by kernel_rfl
theorem fldA_44_0 : fldA Go.Proofs.Tryz.prog 44 0 = some 0 := by kernel_rfl
theorem tfld_44_1 : tfld Go.Proofs.Tryz.prog 44 1 = some (3, 1) := by kernel_rfl
theorem fldA_44_1 : fldA Go.Proofs.Tryz.prog 44 1 = some 1 := by kernel_rfl
theorem tfld_44_2 : tfld Go.Proofs.Tryz.prog 44 2 = some (3, 2) := by kernel_rfl
theorem fldA_44_2 : fldA Go.Proofs.Tryz.prog 44 2 = some 2 := by kernel_rfl
theorem tfld_44_3 : tfld Go.Proofs.Tryz.prog 44 3 = some (3, 3) := by kernel_rfl
theorem fldA_44_3 : fldA Go.Proofs.Tryz.prog 44 3 = some 3 := by kernel_rfl
theorem tfld_44_4 : tfld Go.Proofs.Tryz.prog 44 4 = some (3, 4) := by kernel_rfl
theorem fldA_44_4 : fldA Go.Proofs.Tryz.prog 44 4 = some 4 := by kernel_rfl
theorem tfld_44_5 : tfld Go.Proofs.Tryz.prog 44 5 = some (3, 5) := by kernel_rfl
theorem fldA_44_5 : fldA Go.Proofs.Tryz.prog 44 5 = some 5 := by kernel_rfl
theorem tfld_44_6 : tfld Go.Proofs.Tryz.prog 44 6 = some (23, 6) := by kernel_rfl
theorem fldA_44_6 : fldA Go.Proofs.Tryz.prog 44 6 = some 6 := by kernel_rfl
theorem tok_45 : tok Go.Proofs.Tryz.prog 45 = true := by kernel_rfl
theorem tsz_45 : tsz Go.Proofs.Tryz.prog 45 = 7 := by kernel_rfl
theorem tby_45 : tbytes Go.Proofs.Tryz.prog 45 = 72 := by kernel_rfl
theorem tagg_45 : tagg Go.Proofs.Tryz.prog 45 = true := by kernel_rfl
theorem tconc_45 : tconc Go.Proofs.Tryz.prog 45 = true := by kernel_rfl
theorem tzero_45 : tzero Go.Proofs.Tryz.prog 45 = some (.agg #[.int .i64 0, .int .i64 0, .int .i64 0, .int .i64 0, .int .i64 0, .int .i64 0, .slice none 0 0]) := by kernel_rfl
theorem tfld_45_0 : tfld Go.Proofs.Tryz.prog 45 0 = some (3, 0) := by kernel_rfl
theorem fldA_45_0 : fldA Go.Proofs.Tryz.prog 45 0 = some 0 := by kernel_rfl
theorem tfld_45_1 : tfld Go.Proofs.Tryz.prog 45 1 = some (3, 1) := by kernel_rfl
theorem fldA_45_1 : fldA Go.Proofs.Tryz.prog 45 1 = some 1 := by kernel_rfl
theorem tfld_45_2 : tfld Go.Proofs.Tryz.prog 45 2 = some (3, 2) := by kernel_rfl
theorem fldA_45_2 : fldA Go.Proofs.Tryz.prog 45 2 = some 2 := by kernel_rfl
theorem tfld_45_3 : tfld Go.Proofs.Tryz.prog 45 3 = some (3, 3) := by kernel_rfl
theorem fldA_45_3 : fldA Go.Proofs.Tryz.prog 45 3 = some 3 := by kernel_rfl
theorem tfld_45_4 : tfld Go.Proofs.Tryz.prog 45 4 = some (3, 4) := by kernel_rfl
theorem fldA_45_4 : fldA Go.Proofs.Tryz.prog 45 4 = some 4 := by kernel_rfl
theorem tfld_45_5 : tfld Go.Proofs.Tryz.prog 45 5 = some (3, 5) := by kernel_rfl
theorem fldA_45_5 : fldA Go.Proofs.Tryz.prog 45 5 = some 5 := by kernel_rfl
theorem tfld_45_6 : tfld Go.Proofs.Tryz.prog 45 6 = some (23, 6) := by kernel_rfl
theorem fldA_45_6 : fldA Go.Proofs.Tryz.prog 45 6 = some 6 := by kernel_rfl
theorem tok_46 : tok Go.Proofs.Tryz.prog 46 = true := by kernel_rfl
theorem tsz_46 : tsz Go.Proofs.Tryz.prog 46 = 1 := by kernel_rfl
theorem tby_46 : tbytes Go.Proofs.Tryz.prog 46 = 0 := by kernel_rfl
theorem tagg_46 : tagg Go.Proofs.Tryz.prog 46 = false := by kernel_rfl
theorem tconc_46 : tconc Go.Proofs.Tryz.prog 46 = true := by kernel_rfl
theorem tzero_46 : tzero Go.Proofs.Tryz.prog 46 = some (.tuple #[.agg #[.int .i64 0, .int .i64 0, .int .i64 0, .int .i64 0, .int .i64 0, .int .i64 0, .slice none 0 0], .int .i64 0, .int .i64 0]) := by kernel_rfl
theorem tok_47 : tok Go.Proofs.Tryz.prog 47 = true := by kernel_rfl
theorem tsz_47 : tsz Go.Proofs.Tryz.prog 47 = 1 := by kernel_rfl
theorem tby_47 : tbytes Go.Proofs.Tryz.prog 47 = 8 := by kernel_rfl
theorem tagg_47 : tagg Go.Proofs.Tryz.prog 47 = false := by kernel_rfl
theorem tconc_47 : tconc Go.Proofs.Tryz.prog 47 = true := by kernel_rfl
theorem tzero_47 : tzero Go.Proofs.Tryz.prog 47 = some .nilFunc := by kernel_rfl
theorem tok_48 : tok Go.Proofs.Tryz.prog 48 = true := by kernel_rfl
theorem tsz_48 : tsz Go.Proofs.Tryz.prog 48 = 1 := by kernel_rfl
theorem tby_48 : tbytes Go.Proofs.Tryz.prog 48 = 0 := by kernel_rfl
theorem tagg_48 : tagg Go.Proofs.Tryz.prog 48 = false := by kernel_rfl
theorem tconc_48 : tconc Go.Proofs.Tryz.prog 48 = true := by kernel_rfl
theorem tzero_48 : tzero Go.Proofs.Tryz.prog 48 = some (.tuple #[.slice none 0 0, .bool false, .int .i64 0]) := by kernel_rfl
theorem tok_49 : tok Go.Proofs.Tryz.prog 49 = true := by kernel_rfl
theorem tsz_49 : tsz Go.Proofs.Tryz.prog 49 = 1 := by kernel_rfl
theorem tby_49 : tbytes Go.Proofs.Tryz.prog 49 = 8 := by kernel_rfl
theorem tagg_49 : tagg Go.Proofs.Tryz.prog 49 = false := by kernel_rfl
theorem tconc_49 : tconc Go.Proofs.Tryz.prog 49 = true := by kernel_rfl
theorem tzero_49 : tzero Go.Proofs.Tryz.prog 49 = some .nilFunc := by kernel_rfl
theorem tok_50 : tok Go.Proofs.Tryz.prog 50 = true := by kernel_rfl
theorem tsz_50 : tsz Go.Proofs.Tryz.prog 50 = 2 := by kernel_rfl
theorem tby_50 : tbytes Go.Proofs.Tryz.prog 50 = 16 := by kernel_rfl
theorem tagg_50 : tagg Go.Proofs.Tryz.prog 50 = true := by kernel_rfl
theorem tconc_50 : tconc Go.Proofs.Tryz.prog 50 = true := by kernel_rfl
theorem tzero_50 : tzero Go.Proofs.Tryz.prog 50 = some (.agg #[.int .i64 0, .int .i64 0]) := by kernel_rfl
theorem tfld_50_0 : tfld Go.Proofs.Tryz.prog 50 0 = some (3, 0) := by kernel_rfl
theorem fldA_50_0 : fldA Go.Proofs.Tryz.prog 50 0 = some 0 := by kernel_rfl
theorem tfld_50_1 : tfld Go.Proofs.Tryz.prog 50 1 = some (3, 1) := by kernel_rfl
theorem fldA_50_1 : fldA Go.Proofs.Tryz.prog 50 1 = some 1 := by kernel_rfl
theorem tok_51 : tok Go.Proofs.Tryz.prog 51 = true := by kernel_rfl
theorem tsz_51 : tsz Go.Proofs.Tryz.prog 51 = 2 := by kernel_rfl
theorem tby_51 : tbytes Go.Proofs.Tryz.prog 51 = 16 := by kernel_rfl
theorem tagg_51 : tagg Go.Proofs.Tryz.prog 51 = true := by kernel_rfl
theorem tconc_51 : tconc Go.Proofs.Tryz.prog 51 = true := by kernel_rfl
theorem tzero_51 : tzero Go.Proofs.Tryz.prog 51 = some (.agg #[.int .i64 0, .int .i64 0]) := by kernel_rfl
theorem tfld_51_0 : tfld Go.Proofs.Tryz.prog 51 0 = some (3, 0) := by kernel_rfl
theorem fldA_51_0 : fldA Go.Proofs.Tryz.prog 51 0 = some 0 := by kernel_rfl
theorem tfld_51_1 : tfld Go.Proofs.Tryz.prog 51 1 = some (3, 1) := by kernel_rfl
theorem fldA_51_1 : fldA Go.Proofs.Tryz.prog 51 1 = some 1 := by kernel_rfl
theorem tok_52 : tok Go.Proofs.Tryz.prog 52 = true := by kernel_rfl
theorem tsz_52 : tsz Go.Proofs.Tryz.prog 52 = 1 := by kernel_rfl
theorem tby_52 : tbytes Go.Proofs.Tryz.prog 52 = 8 := by kernel_rfl
theorem tagg_52 : tagg Go.Proofs.Tryz.prog 52 = false := by kernel_rfl
theorem tconc_52 : tconc Go.Proofs.Tryz.prog 52 = true := by kernel_rfl
theorem tzero_52 : tzero Go.Proofs.Tryz.prog 52 = some (.pointer none) := by kernel_rfl
theorem tptr_52 : tptr Go.Proofs.Tryz.prog 52 = true := by kernel_rfl
theorem meth_52_continuo_pattern_agains : methB Go.Proofs.Tryz.prog 52 "continuo/pattern.agains" = some 39 := by kernel_rfl
theorem meth_52_continuo_pattern_another : methB Go.Proofs.Tryz.prog 52 "continuo/pattern.another" = some 76 := by kernel_rfl
theorem meth_52_continuo_pattern_asked : methB Go.Proofs.Tryz.prog 52 "continuo/pattern.asked" = some 64 := by kernel_rfl
theorem meth_52_continuo_pattern_both : methB Go.Proofs.Tryz.prog 52 "continuo/pattern.both" = some 40 := by kernel_rfl
theorem meth_52_continuo_pattern_chooses : methB Go.Proofs.Tryz.prog 52 "continuo/pattern.chooses" = some 41 := by kernel_rfl
theorem meth_52_continuo_pattern_copied : methB Go.Proofs.Tryz.prog 52 "continuo/pattern.copied" = some 18 := by kernel_rfl
theorem meth_52_continuo_pattern_counts : methB Go.Proofs.Tryz.prog 52 "continuo/pattern.counts" = some 36 := by kernel_rfl
theorem meth_52_continuo_pattern_inner : methB Go.Proofs.Tryz.prog 52 "continuo/pattern.inner" = some 63 := by kernel_rfl
theorem meth_52_continuo_pattern_lists : methB Go.Proofs.Tryz.prog 52 "continuo/pattern.lists" = some 35 := by kernel_rfl
theorem meth_52_continuo_pattern_more : methB Go.Proofs.Tryz.prog 52 "continuo/pattern.more" = some 60 := by kernel_rfl
theorem meth_52_continuo_pattern_next : methB Go.Proofs.Tryz.prog 52 "continuo/pattern.next" = some 17 := by kernel_rfl
theorem meth_52_continuo_pattern_number : methB Go.Proofs.Tryz.prog 52 "continuo/pattern.number" = some 34 := by kernel_rfl
theorem meth_52_continuo_pattern_pick : methB Go.Proofs.Tryz.prog 52 "continuo/pattern.pick" = some 58 := by kernel_rfl
theorem meth_52_continuo_pattern_shuffled : methB Go.Proofs.Tryz.prog 52 "continuo/pattern.shuffled" = some 75 := by kernel_rfl
theorem meth_52_continuo_pattern_stutters : methB Go.Proofs.Tryz.prog 52 "continuo/pattern.stutters" = some 37 := by kernel_rfl
theorem meth_52_continuo_pattern_takes : methB Go.Proofs.Tryz.prog 52 "continuo/pattern.takes" = some 38 := by kernel_rfl
theorem tok_53 : tok Go.Proofs.Tryz.prog 53 = true := by kernel_rfl
theorem tsz_53 : tsz Go.Proofs.Tryz.prog 53 = 5 := by kernel_rfl
theorem tby_53 : tbytes Go.Proofs.Tryz.prog 53 = 40 := by kernel_rfl
theorem tagg_53 : tagg Go.Proofs.Tryz.prog 53 = true := by kernel_rfl
theorem tconc_53 : tconc Go.Proofs.Tryz.prog 53 = true := by kernel_rfl
theorem tzero_53 : tzero Go.Proofs.Tryz.prog 53 = some (.agg #[.int .i64 0, .int .i64 0, .pointer none, .bool false, .int .i64 0]) := by kernel_rfl
theorem tfld_53_0 : tfld Go.Proofs.Tryz.prog 53 0 = some (51, 0) := by kernel_rfl
theorem fldA_53_0 : fldA Go.Proofs.Tryz.prog 53 0 = some 0 := by kernel_rfl
theorem tfld_53_1 : tfld Go.Proofs.Tryz.prog 53 1 = some (52, 2) := by kernel_rfl
theorem fldA_53_1 : fldA Go.Proofs.Tryz.prog 53 1 = some 2 := by kernel_rfl
theorem tfld_53_2 : tfld Go.Proofs.Tryz.prog 53 2 = some (4, 3) := by kernel_rfl
theorem fldA_53_2 : fldA Go.Proofs.Tryz.prog 53 2 = some 3 := by kernel_rfl
theorem tfld_53_3 : tfld Go.Proofs.Tryz.prog 53 3 = some (29, 4) := by kernel_rfl
theorem fldA_53_3 : fldA Go.Proofs.Tryz.prog 53 3 = some 4 := by kernel_rfl
theorem tok_54 : tok Go.Proofs.Tryz.prog 54 = true := by kernel_rfl
theorem tsz_54 : tsz Go.Proofs.Tryz.prog 54 = 5 := by kernel_rfl
theorem tby_54 : tbytes Go.Proofs.Tryz.prog 54 = 40 := by kernel_rfl
theorem tagg_54 : tagg Go.Proofs.Tryz.prog 54 = true := by kernel_rfl
theorem tconc_54 : tconc Go.Proofs.Tryz.prog 54 = true := by kernel_rfl
theorem tzero_54 : tzero Go.Proofs.Tryz.prog 54 = some (.agg #[.int .i64 0, .int .i64 0, .pointer none, .bool false, .int .i64 0]) := by kernel_rfl
theorem tfld_54_0 : tfld Go.Proofs.Tryz.prog 54 0 = some (51, 0) := by kernel_rfl
theorem fldA_54_0 : fldA Go.Proofs.Tryz.prog 54 0 = some 0 := by kernel_rfl
theorem tfld_54_1 : tfld Go.Proofs.Tryz.prog 54 1 = some (52, 2) := by kernel_rfl
theorem fldA_54_1 : fldA Go.Proofs.Tryz.prog 54 1 = some 2 := by kernel_rfl
theorem tfld_54_2 : tfld Go.Proofs.Tryz.prog 54 2 = some (4, 3) := by kernel_rfl
theorem fldA_54_2 : fldA Go.Proofs.Tryz.prog 54 2 = some 3 := by kernel_rfl
theorem tfld_54_3 : tfld Go.Proofs.Tryz.prog 54 3 = some (29, 4) := by kernel_rfl
theorem fldA_54_3 : fldA Go.Proofs.Tryz.prog 54 3 = some 4 := by kernel_rfl
theorem tok_55 : tok Go.Proofs.Tryz.prog 55 = true := by kernel_rfl
theorem tsz_55 : tsz Go.Proofs.Tryz.prog 55 = 1 := by kernel_rfl
theorem tby_55 : tbytes Go.Proofs.Tryz.prog 55 = 8 := by kernel_rfl
theorem tagg_55 : tagg Go.Proofs.Tryz.prog 55 = false := by kernel_rfl
theorem tconc_55 : tconc Go.Proofs.Tryz.prog 55 = true := by kernel_rfl
theorem tzero_55 : tzero Go.Proofs.Tryz.prog 55 = some .nilFunc := by kernel_rfl
theorem tok_56 : tok Go.Proofs.Tryz.prog 56 = true := by kernel_rfl
theorem tsz_56 : tsz Go.Proofs.Tryz.prog 56 = 1 := by kernel_rfl
theorem tby_56 : tbytes Go.Proofs.Tryz.prog 56 = 0 := by kernel_rfl
theorem tagg_56 : tagg Go.Proofs.Tryz.prog 56 = false := by kernel_rfl
theorem tconc_56 : tconc Go.Proofs.Tryz.prog 56 = true := by kernel_rfl
theorem tzero_56 : tzero Go.Proofs.Tryz.prog 56 = some (.tuple #[.int .i64 0, .bool false]) := by kernel_rfl
theorem tok_57 : tok Go.Proofs.Tryz.prog 57 = true := by kernel_rfl
theorem tsz_57 : tsz Go.Proofs.Tryz.prog 57 = 1 := by kernel_rfl
theorem tby_57 : tbytes Go.Proofs.Tryz.prog 57 = 8 := by kernel_rfl
theorem tagg_57 : tagg Go.Proofs.Tryz.prog 57 = false := by kernel_rfl
theorem tconc_57 : tconc Go.Proofs.Tryz.prog 57 = true := by kernel_rfl
theorem tzero_57 : tzero Go.Proofs.Tryz.prog 57 = some .nilFunc := by kernel_rfl
theorem tok_58 : tok Go.Proofs.Tryz.prog 58 = true := by kernel_rfl
theorem tsz_58 : tsz Go.Proofs.Tryz.prog 58 = 1 := by kernel_rfl
theorem tby_58 : tbytes Go.Proofs.Tryz.prog 58 = 8 := by kernel_rfl
theorem tagg_58 : tagg Go.Proofs.Tryz.prog 58 = false := by kernel_rfl
theorem tconc_58 : tconc Go.Proofs.Tryz.prog 58 = true := by kernel_rfl
theorem tzero_58 : tzero Go.Proofs.Tryz.prog 58 = some .nilFunc := by kernel_rfl
theorem tok_59 : tok Go.Proofs.Tryz.prog 59 = true := by kernel_rfl
theorem tsz_59 : tsz Go.Proofs.Tryz.prog 59 = 1 := by kernel_rfl
theorem tby_59 : tbytes Go.Proofs.Tryz.prog 59 = 8 := by kernel_rfl
theorem tagg_59 : tagg Go.Proofs.Tryz.prog 59 = false := by kernel_rfl
theorem tconc_59 : tconc Go.Proofs.Tryz.prog 59 = true := by kernel_rfl
theorem tzero_59 : tzero Go.Proofs.Tryz.prog 59 = some (.pointer none) := by kernel_rfl
theorem tptr_59 : tptr Go.Proofs.Tryz.prog 59 = true := by kernel_rfl
theorem meth_59_continuo_pattern_begin : methB Go.Proofs.Tryz.prog 59 "continuo/pattern.begin" = some 56 := by kernel_rfl
theorem meth_59_continuo_pattern_draw : methB Go.Proofs.Tryz.prog 59 "continuo/pattern.draw" = some 62 := by kernel_rfl
theorem meth_59_continuo_pattern_kid : methB Go.Proofs.Tryz.prog 59 "continuo/pattern.kid" = some 59 := by kernel_rfl
theorem meth_59_continuo_pattern_step : methB Go.Proofs.Tryz.prog 59 "continuo/pattern.step" = some 77 := by kernel_rfl
theorem tok_60 : tok Go.Proofs.Tryz.prog 60 = true := by kernel_rfl
theorem tsz_60 : tsz Go.Proofs.Tryz.prog 60 = 1 := by kernel_rfl
theorem tby_60 : tbytes Go.Proofs.Tryz.prog 60 = 8 := by kernel_rfl
theorem tagg_60 : tagg Go.Proofs.Tryz.prog 60 = false := by kernel_rfl
theorem tconc_60 : tconc Go.Proofs.Tryz.prog 60 = true := by kernel_rfl
theorem tzero_60 : tzero Go.Proofs.Tryz.prog 60 = some .nilFunc := by kernel_rfl
theorem tok_61 : tok Go.Proofs.Tryz.prog 61 = true := by kernel_rfl
theorem tsz_61 : tsz Go.Proofs.Tryz.prog 61 = 1 := by kernel_rfl
theorem tby_61 : tbytes Go.Proofs.Tryz.prog 61 = 8 := by kernel_rfl
theorem tagg_61 : tagg Go.Proofs.Tryz.prog 61 = false := by kernel_rfl
theorem tconc_61 : tconc Go.Proofs.Tryz.prog 61 = true := by kernel_rfl
theorem tzero_61 : tzero Go.Proofs.Tryz.prog 61 = some .nilFunc := by kernel_rfl
theorem tok_62 : tok Go.Proofs.Tryz.prog 62 = true := by kernel_rfl
theorem tsz_62 : tsz Go.Proofs.Tryz.prog 62 = 1 := by kernel_rfl
theorem tby_62 : tbytes Go.Proofs.Tryz.prog 62 = 24 := by kernel_rfl
theorem tagg_62 : tagg Go.Proofs.Tryz.prog 62 = false := by kernel_rfl
theorem tconc_62 : tconc Go.Proofs.Tryz.prog 62 = true := by kernel_rfl
theorem tzero_62 : tzero Go.Proofs.Tryz.prog 62 = some (.slice none 0 0) := by kernel_rfl
theorem telem_62 : telem Go.Proofs.Tryz.prog 62 = some 65 := by kernel_rfl
theorem tok_63 : tok Go.Proofs.Tryz.prog 63 = true := by kernel_rfl
theorem tsz_63 : tsz Go.Proofs.Tryz.prog 63 = 3 := by kernel_rfl
theorem tby_63 : tbytes Go.Proofs.Tryz.prog 63 = 40 := by kernel_rfl
theorem tagg_63 : tagg Go.Proofs.Tryz.prog 63 = true := by kernel_rfl
theorem tconc_63 : tconc Go.Proofs.Tryz.prog 63 = true := by kernel_rfl
theorem tzero_63 : tzero Go.Proofs.Tryz.prog 63 = some (.agg #[.int .i64 0, .int .i64 0, .slice none 0 0]) := by kernel_rfl
theorem tfld_63_0 : tfld Go.Proofs.Tryz.prog 63 0 = some (3, 0) := by kernel_rfl
theorem fldA_63_0 : fldA Go.Proofs.Tryz.prog 63 0 = some 0 := by kernel_rfl
theorem tfld_63_1 : tfld Go.Proofs.Tryz.prog 63 1 = some (3, 1) := by kernel_rfl
theorem fldA_63_1 : fldA Go.Proofs.Tryz.prog 63 1 = some 1 := by kernel_rfl
theorem tfld_63_2 : tfld Go.Proofs.Tryz.prog 63 2 = some (62, 2) := by kernel_rfl
theorem fldA_63_2 : fldA Go.Proofs.Tryz.prog 63 2 = some 2 := by kernel_rfl
theorem tok_64 : tok Go.Proofs.Tryz.prog 64 = true := by kernel_rfl
theorem tsz_64 : tsz Go.Proofs.Tryz.prog 64 = 3 := by kernel_rfl
theorem tby_64 : tbytes Go.Proofs.Tryz.prog 64 = 40 := by kernel_rfl
theorem tagg_64 : tagg Go.Proofs.Tryz.prog 64 = true := by kernel_rfl
theorem tconc_64 : tconc Go.Proofs.Tryz.prog 64 = true := by kernel_rfl
theorem tzero_64 : tzero Go.Proofs.Tryz.prog 64 = some (.agg #[.int .i64 0, .int .i64 0, .slice none 0 0]) := by kernel_rfl
theorem tfld_64_0 : tfld Go.Proofs.Tryz.prog 64 0 = some (3, 0) := by kernel_rfl
theorem fldA_64_0 : fldA Go.Proofs.Tryz.prog 64 0 = some 0 := by kernel_rfl
theorem tfld_64_1 : tfld Go.Proofs.Tryz.prog 64 1 = some (3, 1) := by kernel_rfl
theorem fldA_64_1 : fldA Go.Proofs.Tryz.prog 64 1 = some 1 := by kernel_rfl
theorem tfld_64_2 : tfld Go.Proofs.Tryz.prog 64 2 = some (62, 2) := by kernel_rfl
theorem fldA_64_2 : fldA Go.Proofs.Tryz.prog 64 2 = some 2 := by kernel_rfl
theorem tok_65 : tok Go.Proofs.Tryz.prog 65 = true := by kernel_rfl
theorem tsz_65 : tsz Go.Proofs.Tryz.prog 65 = 1 := by kernel_rfl
theorem tby_65 : tbytes Go.Proofs.Tryz.prog 65 = 8 := by kernel_rfl
theorem tagg_65 : tagg Go.Proofs.Tryz.prog 65 = false := by kernel_rfl
theorem tconc_65 : tconc Go.Proofs.Tryz.prog 65 = true := by kernel_rfl
theorem tzero_65 : tzero Go.Proofs.Tryz.prog 65 = some (.pointer none) := by kernel_rfl
theorem tptr_65 : tptr Go.Proofs.Tryz.prog 65 = true := by kernel_rfl
theorem meth_65_continuo_pattern_plays : methB Go.Proofs.Tryz.prog 65 "continuo/pattern.plays" = some 23 := by kernel_rfl
theorem tok_66 : tok Go.Proofs.Tryz.prog 66 = true := by kernel_rfl
theorem tsz_66 : tsz Go.Proofs.Tryz.prog 66 = 1 := by kernel_rfl
theorem tby_66 : tbytes Go.Proofs.Tryz.prog 66 = 8 := by kernel_rfl
theorem tagg_66 : tagg Go.Proofs.Tryz.prog 66 = false := by kernel_rfl
theorem tconc_66 : tconc Go.Proofs.Tryz.prog 66 = true := by kernel_rfl
theorem tzero_66 : tzero Go.Proofs.Tryz.prog 66 = some (.pointer none) := by kernel_rfl
theorem tptr_66 : tptr Go.Proofs.Tryz.prog 66 = true := by kernel_rfl
theorem meth_66_continuo_pattern_all : methB Go.Proofs.Tryz.prog 66 "continuo/pattern.all" = some 121 := by kernel_rfl
theorem meth_66_continuo_pattern_next : methB Go.Proofs.Tryz.prog 66 "continuo/pattern.next" = some 46 := by kernel_rfl
theorem tok_67 : tok Go.Proofs.Tryz.prog 67 = true := by kernel_rfl
theorem tsz_67 : tsz Go.Proofs.Tryz.prog 67 = 1 := by kernel_rfl
theorem tby_67 : tbytes Go.Proofs.Tryz.prog 67 = 8 := by kernel_rfl
theorem tagg_67 : tagg Go.Proofs.Tryz.prog 67 = false := by kernel_rfl
theorem tconc_67 : tconc Go.Proofs.Tryz.prog 67 = true := by kernel_rfl
theorem tzero_67 : tzero Go.Proofs.Tryz.prog 67 = some .nilFunc := by kernel_rfl
theorem tok_68 : tok Go.Proofs.Tryz.prog 68 = true := by kernel_rfl
theorem tsz_68 : tsz Go.Proofs.Tryz.prog 68 = 2 := by kernel_rfl
theorem tby_68 : tbytes Go.Proofs.Tryz.prog 68 = 16 := by kernel_rfl
theorem tagg_68 : tagg Go.Proofs.Tryz.prog 68 = true := by kernel_rfl
theorem tconc_68 : tconc Go.Proofs.Tryz.prog 68 = true := by kernel_rfl
theorem tzero_68 : tzero Go.Proofs.Tryz.prog 68 = some (.agg #[.pointer none, .int .i64 0]) := by kernel_rfl
theorem tfld_68_0 : tfld Go.Proofs.Tryz.prog 68 0 = some (66, 0) := by kernel_rfl
theorem fldA_68_0 : fldA Go.Proofs.Tryz.prog 68 0 = some 0 := by kernel_rfl
theorem tfld_68_1 : tfld Go.Proofs.Tryz.prog 68 1 = some (3, 1) := by kernel_rfl
theorem fldA_68_1 : fldA Go.Proofs.Tryz.prog 68 1 = some 1 := by kernel_rfl
theorem tok_69 : tok Go.Proofs.Tryz.prog 69 = true := by kernel_rfl
theorem tsz_69 : tsz Go.Proofs.Tryz.prog 69 = 2 := by kernel_rfl
theorem tby_69 : tbytes Go.Proofs.Tryz.prog 69 = 16 := by kernel_rfl
theorem tagg_69 : tagg Go.Proofs.Tryz.prog 69 = true := by kernel_rfl
theorem tconc_69 : tconc Go.Proofs.Tryz.prog 69 = true := by kernel_rfl
theorem tzero_69 : tzero Go.Proofs.Tryz.prog 69 = some (.agg #[.pointer none, .int .i64 0]) := by kernel_rfl
theorem tfld_69_0 : tfld Go.Proofs.Tryz.prog 69 0 = some (66, 0) := by kernel_rfl
theorem fldA_69_0 : fldA Go.Proofs.Tryz.prog 69 0 = some 0 := by kernel_rfl
theorem tfld_69_1 : tfld Go.Proofs.Tryz.prog 69 1 = some (3, 1) := by kernel_rfl
theorem fldA_69_1 : fldA Go.Proofs.Tryz.prog 69 1 = some 1 := by kernel_rfl
theorem tok_70 : tok Go.Proofs.Tryz.prog 70 = true := by kernel_rfl
theorem tsz_70 : tsz Go.Proofs.Tryz.prog 70 = 1 := by kernel_rfl
theorem tby_70 : tbytes Go.Proofs.Tryz.prog 70 = 8 := by kernel_rfl
theorem tagg_70 : tagg Go.Proofs.Tryz.prog 70 = false := by kernel_rfl
theorem tconc_70 : tconc Go.Proofs.Tryz.prog 70 = true := by kernel_rfl
theorem tzero_70 : tzero Go.Proofs.Tryz.prog 70 = some .nilFunc := by kernel_rfl
theorem tok_71 : tok Go.Proofs.Tryz.prog 71 = true := by kernel_rfl
theorem tsz_71 : tsz Go.Proofs.Tryz.prog 71 = 1 := by kernel_rfl
theorem tby_71 : tbytes Go.Proofs.Tryz.prog 71 = 8 := by kernel_rfl
theorem tagg_71 : tagg Go.Proofs.Tryz.prog 71 = false := by kernel_rfl
theorem tconc_71 : tconc Go.Proofs.Tryz.prog 71 = true := by kernel_rfl
theorem tzero_71 : tzero Go.Proofs.Tryz.prog 71 = some .nilFunc := by kernel_rfl
theorem tok_72 : tok Go.Proofs.Tryz.prog 72 = true := by kernel_rfl
theorem tsz_72 : tsz Go.Proofs.Tryz.prog 72 = 1 := by kernel_rfl
theorem tby_72 : tbytes Go.Proofs.Tryz.prog 72 = 8 := by kernel_rfl
theorem tagg_72 : tagg Go.Proofs.Tryz.prog 72 = false := by kernel_rfl
theorem tconc_72 : tconc Go.Proofs.Tryz.prog 72 = true := by kernel_rfl
theorem tzero_72 : tzero Go.Proofs.Tryz.prog 72 = some (.map none) := by kernel_rfl
theorem tok_73 : tok Go.Proofs.Tryz.prog 73 = true := by kernel_rfl
theorem tsz_73 : tsz Go.Proofs.Tryz.prog 73 = 5 := by kernel_rfl
theorem tby_73 : tbytes Go.Proofs.Tryz.prog 73 = 56 := by kernel_rfl
theorem tagg_73 : tagg Go.Proofs.Tryz.prog 73 = true := by kernel_rfl
theorem tconc_73 : tconc Go.Proofs.Tryz.prog 73 = true := by kernel_rfl
theorem tzero_73 : tzero Go.Proofs.Tryz.prog 73 = some (.agg #[.slice none 0 0, .map none, .int .i64 0, .bool false, .int .i64 0]) := by kernel_rfl
theorem tfld_73_0 : tfld Go.Proofs.Tryz.prog 73 0 = some (22, 0) := by kernel_rfl
theorem fldA_73_0 : fldA Go.Proofs.Tryz.prog 73 0 = some 0 := by kernel_rfl
theorem tfld_73_1 : tfld Go.Proofs.Tryz.prog 73 1 = some (72, 1) := by kernel_rfl
theorem fldA_73_1 : fldA Go.Proofs.Tryz.prog 73 1 = some 1 := by kernel_rfl
theorem tfld_73_2 : tfld Go.Proofs.Tryz.prog 73 2 = some (3, 2) := by kernel_rfl
theorem fldA_73_2 : fldA Go.Proofs.Tryz.prog 73 2 = some 2 := by kernel_rfl
theorem tfld_73_3 : tfld Go.Proofs.Tryz.prog 73 3 = some (4, 3) := by kernel_rfl
theorem fldA_73_3 : fldA Go.Proofs.Tryz.prog 73 3 = some 3 := by kernel_rfl
theorem tfld_73_4 : tfld Go.Proofs.Tryz.prog 73 4 = some (29, 4) := by kernel_rfl
theorem fldA_73_4 : fldA Go.Proofs.Tryz.prog 73 4 = some 4 := by kernel_rfl
theorem tok_74 : tok Go.Proofs.Tryz.prog 74 = true := by kernel_rfl
theorem tsz_74 : tsz Go.Proofs.Tryz.prog 74 = 5 := by kernel_rfl
theorem tby_74 : tbytes Go.Proofs.Tryz.prog 74 = 56 := by kernel_rfl
theorem tagg_74 : tagg Go.Proofs.Tryz.prog 74 = true := by kernel_rfl
theorem tconc_74 : tconc Go.Proofs.Tryz.prog 74 = true := by kernel_rfl
theorem tzero_74 : tzero Go.Proofs.Tryz.prog 74 = some (.agg #[.slice none 0 0, .map none, .int .i64 0, .bool false, .int .i64 0]) := by kernel_rfl
theorem tfld_74_0 : tfld Go.Proofs.Tryz.prog 74 0 = some (22, 0) := by kernel_rfl
theorem fldA_74_0 : fldA Go.Proofs.Tryz.prog 74 0 = some 0 := by kernel_rfl
theorem tfld_74_1 : tfld Go.Proofs.Tryz.prog 74 1 = some (72, 1) := by kernel_rfl
theorem fldA_74_1 : fldA Go.Proofs.Tryz.prog 74 1 = some 1 := by kernel_rfl
theorem tfld_74_2 : tfld Go.Proofs.Tryz.prog 74 2 = some (3, 2) := by kernel_rfl
theorem fldA_74_2 : fldA Go.Proofs.Tryz.prog 74 2 = some 2 := by kernel_rfl
theorem tfld_74_3 : tfld Go.Proofs.Tryz.prog 74 3 = some (4, 3) := by kernel_rfl
theorem fldA_74_3 : fldA Go.Proofs.Tryz.prog 74 3 = some 3 := by kernel_rfl
theorem tfld_74_4 : tfld Go.Proofs.Tryz.prog 74 4 = some (29, 4) := by kernel_rfl
theorem fldA_74_4 : fldA Go.Proofs.Tryz.prog 74 4 = some 4 := by kernel_rfl
theorem tok_75 : tok Go.Proofs.Tryz.prog 75 = true := by kernel_rfl
theorem tsz_75 : tsz Go.Proofs.Tryz.prog 75 = 1 := by kernel_rfl
theorem tby_75 : tbytes Go.Proofs.Tryz.prog 75 = 8 := by kernel_rfl
theorem tagg_75 : tagg Go.Proofs.Tryz.prog 75 = false := by kernel_rfl
theorem tconc_75 : tconc Go.Proofs.Tryz.prog 75 = true := by kernel_rfl
theorem tzero_75 : tzero Go.Proofs.Tryz.prog 75 = some .nilFunc := by kernel_rfl
theorem tok_76 : tok Go.Proofs.Tryz.prog 76 = true := by kernel_rfl
theorem tsz_76 : tsz Go.Proofs.Tryz.prog 76 = 1 := by kernel_rfl
theorem tby_76 : tbytes Go.Proofs.Tryz.prog 76 = 8 := by kernel_rfl
theorem tagg_76 : tagg Go.Proofs.Tryz.prog 76 = false := by kernel_rfl
theorem tconc_76 : tconc Go.Proofs.Tryz.prog 76 = true := by kernel_rfl
theorem tzero_76 : tzero Go.Proofs.Tryz.prog 76 = some .nilFunc := by kernel_rfl
theorem tok_77 : tok Go.Proofs.Tryz.prog 77 = true := by kernel_rfl
theorem tsz_77 : tsz Go.Proofs.Tryz.prog 77 = 1 := by kernel_rfl
theorem tby_77 : tbytes Go.Proofs.Tryz.prog 77 = 8 := by kernel_rfl
theorem tagg_77 : tagg Go.Proofs.Tryz.prog 77 = false := by kernel_rfl
theorem tconc_77 : tconc Go.Proofs.Tryz.prog 77 = true := by kernel_rfl
theorem tzero_77 : tzero Go.Proofs.Tryz.prog 77 = some .nilFunc := by kernel_rfl
theorem tok_78 : tok Go.Proofs.Tryz.prog 78 = true := by kernel_rfl
theorem tsz_78 : tsz Go.Proofs.Tryz.prog 78 = 1 := by kernel_rfl
theorem tby_78 : tbytes Go.Proofs.Tryz.prog 78 = 8 := by kernel_rfl
theorem tagg_78 : tagg Go.Proofs.Tryz.prog 78 = true := by kernel_rfl
theorem tconc_78 : tconc Go.Proofs.Tryz.prog 78 = true := by kernel_rfl
theorem tzero_78 : tzero Go.Proofs.Tryz.prog 78 = some (.agg #[.int .i64 0]) := by kernel_rfl
theorem tfld_78_0 : tfld Go.Proofs.Tryz.prog 78 0 = some (3, 0) := by kernel_rfl
theorem fldA_78_0 : fldA Go.Proofs.Tryz.prog 78 0 = some 0 := by kernel_rfl
theorem tok_79 : tok Go.Proofs.Tryz.prog 79 = true := by kernel_rfl
theorem tsz_79 : tsz Go.Proofs.Tryz.prog 79 = 1 := by kernel_rfl
theorem tby_79 : tbytes Go.Proofs.Tryz.prog 79 = 8 := by kernel_rfl
theorem tagg_79 : tagg Go.Proofs.Tryz.prog 79 = true := by kernel_rfl
theorem tconc_79 : tconc Go.Proofs.Tryz.prog 79 = true := by kernel_rfl
theorem tzero_79 : tzero Go.Proofs.Tryz.prog 79 = some (.agg #[.int .i64 0]) := by kernel_rfl
theorem tfld_79_0 : tfld Go.Proofs.Tryz.prog 79 0 = some (3, 0) := by kernel_rfl
theorem fldA_79_0 : fldA Go.Proofs.Tryz.prog 79 0 = some 0 := by kernel_rfl
theorem tok_80 : tok Go.Proofs.Tryz.prog 80 = true := by kernel_rfl
theorem tsz_80 : tsz Go.Proofs.Tryz.prog 80 = 1 := by kernel_rfl
theorem tby_80 : tbytes Go.Proofs.Tryz.prog 80 = 0 := by kernel_rfl
theorem tagg_80 : tagg Go.Proofs.Tryz.prog 80 = false := by kernel_rfl
theorem tconc_80 : tconc Go.Proofs.Tryz.prog 80 = true := by kernel_rfl
theorem tzero_80 : tzero Go.Proofs.Tryz.prog 80 = some (.tuple #[.agg #[.int .i64 0], .bool false]) := by kernel_rfl
theorem tok_81 : tok Go.Proofs.Tryz.prog 81 = true := by kernel_rfl
theorem tsz_81 : tsz Go.Proofs.Tryz.prog 81 = 1 := by kernel_rfl
theorem tby_81 : tbytes Go.Proofs.Tryz.prog 81 = 8 := by kernel_rfl
theorem tagg_81 : tagg Go.Proofs.Tryz.prog 81 = false := by kernel_rfl
theorem tconc_81 : tconc Go.Proofs.Tryz.prog 81 = true := by kernel_rfl
theorem tzero_81 : tzero Go.Proofs.Tryz.prog 81 = some (.pointer none) := by kernel_rfl
theorem tptr_81 : tptr Go.Proofs.Tryz.prog 81 = true := by kernel_rfl
theorem meth_81_continuo_pattern_fail : methB Go.Proofs.Tryz.prog 81 "continuo/pattern.fail" = some 31 := by kernel_rfl
theorem meth_81_continuo_pattern_kids : methB Go.Proofs.Tryz.prog 81 "continuo/pattern.kids" = some 54 := by kernel_rfl
theorem meth_81_continuo_pattern_must : methB Go.Proofs.Tryz.prog 81 "continuo/pattern.must" = some 53 := by kernel_rfl
theorem meth_81_continuo_pattern_number : methB Go.Proofs.Tryz.prog 81 "continuo/pattern.number" = some 49 := by kernel_rfl
theorem meth_81_continuo_pattern_pattern : methB Go.Proofs.Tryz.prog 81 "continuo/pattern.pattern" = some 30 := by kernel_rfl
theorem meth_81_continuo_pattern_peek : methB Go.Proofs.Tryz.prog 81 "continuo/pattern.peek" = some 47 := by kernel_rfl
theorem meth_81_continuo_pattern_word : methB Go.Proofs.Tryz.prog 81 "continuo/pattern.word" = some 50 := by kernel_rfl
theorem tok_82 : tok Go.Proofs.Tryz.prog 82 = true := by kernel_rfl
theorem tsz_82 : tsz Go.Proofs.Tryz.prog 82 = 2 := by kernel_rfl
theorem tby_82 : tbytes Go.Proofs.Tryz.prog 82 = 24 := by kernel_rfl
theorem tagg_82 : tagg Go.Proofs.Tryz.prog 82 = true := by kernel_rfl
theorem tconc_82 : tconc Go.Proofs.Tryz.prog 82 = true := by kernel_rfl
theorem tzero_82 : tzero Go.Proofs.Tryz.prog 82 = some (.agg #[.string { data := #[] }, .int .i64 0]) := by kernel_rfl
theorem tfld_82_0 : tfld Go.Proofs.Tryz.prog 82 0 = some (9, 0) := by kernel_rfl
theorem fldA_82_0 : fldA Go.Proofs.Tryz.prog 82 0 = some 0 := by kernel_rfl
theorem tfld_82_1 : tfld Go.Proofs.Tryz.prog 82 1 = some (3, 1) := by kernel_rfl
theorem fldA_82_1 : fldA Go.Proofs.Tryz.prog 82 1 = some 1 := by kernel_rfl
theorem tok_83 : tok Go.Proofs.Tryz.prog 83 = true := by kernel_rfl
theorem tsz_83 : tsz Go.Proofs.Tryz.prog 83 = 2 := by kernel_rfl
theorem tby_83 : tbytes Go.Proofs.Tryz.prog 83 = 24 := by kernel_rfl
theorem tagg_83 : tagg Go.Proofs.Tryz.prog 83 = true := by kernel_rfl
theorem tconc_83 : tconc Go.Proofs.Tryz.prog 83 = true := by kernel_rfl
theorem tzero_83 : tzero Go.Proofs.Tryz.prog 83 = some (.agg #[.string { data := #[] }, .int .i64 0]) := by kernel_rfl
theorem tfld_83_0 : tfld Go.Proofs.Tryz.prog 83 0 = some (9, 0) := by kernel_rfl
theorem fldA_83_0 : fldA Go.Proofs.Tryz.prog 83 0 = some 0 := by kernel_rfl
theorem tfld_83_1 : tfld Go.Proofs.Tryz.prog 83 1 = some (3, 1) := by kernel_rfl
theorem fldA_83_1 : fldA Go.Proofs.Tryz.prog 83 1 = some 1 := by kernel_rfl
theorem tok_84 : tok Go.Proofs.Tryz.prog 84 = true := by kernel_rfl
theorem tsz_84 : tsz Go.Proofs.Tryz.prog 84 = 1 := by kernel_rfl
theorem tby_84 : tbytes Go.Proofs.Tryz.prog 84 = 8 := by kernel_rfl
theorem tagg_84 : tagg Go.Proofs.Tryz.prog 84 = false := by kernel_rfl
theorem tconc_84 : tconc Go.Proofs.Tryz.prog 84 = true := by kernel_rfl
theorem tzero_84 : tzero Go.Proofs.Tryz.prog 84 = some .nilFunc := by kernel_rfl
theorem tok_85 : tok Go.Proofs.Tryz.prog 85 = true := by kernel_rfl
theorem tsz_85 : tsz Go.Proofs.Tryz.prog 85 = 1 := by kernel_rfl
theorem tby_85 : tbytes Go.Proofs.Tryz.prog 85 = 8 := by kernel_rfl
theorem tagg_85 : tagg Go.Proofs.Tryz.prog 85 = false := by kernel_rfl
theorem tconc_85 : tconc Go.Proofs.Tryz.prog 85 = true := by kernel_rfl
theorem tzero_85 : tzero Go.Proofs.Tryz.prog 85 = some .nilFunc := by kernel_rfl
theorem tok_86 : tok Go.Proofs.Tryz.prog 86 = true := by kernel_rfl
theorem tsz_86 : tsz Go.Proofs.Tryz.prog 86 = 1 := by kernel_rfl
theorem tby_86 : tbytes Go.Proofs.Tryz.prog 86 = 8 := by kernel_rfl
theorem tagg_86 : tagg Go.Proofs.Tryz.prog 86 = false := by kernel_rfl
theorem tconc_86 : tconc Go.Proofs.Tryz.prog 86 = true := by kernel_rfl
theorem tzero_86 : tzero Go.Proofs.Tryz.prog 86 = some .nilFunc := by kernel_rfl
theorem tok_87 : tok Go.Proofs.Tryz.prog 87 = true := by kernel_rfl
theorem tsz_87 : tsz Go.Proofs.Tryz.prog 87 = 0 := by kernel_rfl
theorem tby_87 : tbytes Go.Proofs.Tryz.prog 87 = 0 := by kernel_rfl
theorem tagg_87 : tagg Go.Proofs.Tryz.prog 87 = true := by kernel_rfl
theorem tconc_87 : tconc Go.Proofs.Tryz.prog 87 = true := by kernel_rfl
theorem tzero_87 : tzero Go.Proofs.Tryz.prog 87 = some (.agg #[]) := by kernel_rfl
theorem tok_88 : tok Go.Proofs.Tryz.prog 88 = true := by kernel_rfl
theorem tsz_88 : tsz Go.Proofs.Tryz.prog 88 = 0 := by kernel_rfl
theorem tby_88 : tbytes Go.Proofs.Tryz.prog 88 = 0 := by kernel_rfl
theorem tagg_88 : tagg Go.Proofs.Tryz.prog 88 = true := by kernel_rfl
theorem tconc_88 : tconc Go.Proofs.Tryz.prog 88 = true := by kernel_rfl
theorem tzero_88 : tzero Go.Proofs.Tryz.prog 88 = some (.agg #[]) := by kernel_rfl
theorem tok_89 : tok Go.Proofs.Tryz.prog 89 = true := by kernel_rfl
theorem tsz_89 : tsz Go.Proofs.Tryz.prog 89 = 1 := by kernel_rfl
theorem tby_89 : tbytes Go.Proofs.Tryz.prog 89 = 0 := by kernel_rfl
theorem tagg_89 : tagg Go.Proofs.Tryz.prog 89 = false := by kernel_rfl
theorem tconc_89 : tconc Go.Proofs.Tryz.prog 89 = true := by kernel_rfl
theorem tzero_89 : tzero Go.Proofs.Tryz.prog 89 = some (.tuple #[.agg #[], .bool false]) := by kernel_rfl
theorem tok_90 : tok Go.Proofs.Tryz.prog 90 = true := by kernel_rfl
theorem tsz_90 : tsz Go.Proofs.Tryz.prog 90 = 1 := by kernel_rfl
theorem tby_90 : tbytes Go.Proofs.Tryz.prog 90 = 8 := by kernel_rfl
theorem tagg_90 : tagg Go.Proofs.Tryz.prog 90 = false := by kernel_rfl
theorem tconc_90 : tconc Go.Proofs.Tryz.prog 90 = true := by kernel_rfl
theorem tzero_90 : tzero Go.Proofs.Tryz.prog 90 = some .nilFunc := by kernel_rfl
theorem tok_91 : tok Go.Proofs.Tryz.prog 91 = true := by kernel_rfl
theorem tsz_91 : tsz Go.Proofs.Tryz.prog 91 = 19 := by kernel_rfl
theorem tby_91 : tbytes Go.Proofs.Tryz.prog 91 = 152 := by kernel_rfl
theorem tagg_91 : tagg Go.Proofs.Tryz.prog 91 = true := by kernel_rfl
theorem tconc_91 : tconc Go.Proofs.Tryz.prog 91 = true := by kernel_rfl
theorem tzero_91 : tzero Go.Proofs.Tryz.prog 91 = some (.agg #[.nilFunc, .nilFunc, .nilFunc, .nilFunc, .nilFunc, .nilFunc, .nilFunc, .nilFunc, .nilFunc, .nilFunc, .nilFunc, .nilFunc, .nilFunc, .nilFunc, .nilFunc, .nilFunc, .nilFunc, .nilFunc, .nilFunc]) := by kernel_rfl
theorem tarr_91 : tarr Go.Proofs.Tryz.prog 91 = some (19, 90) := by kernel_rfl
theorem tok_92 : tok Go.Proofs.Tryz.prog 92 = true := by kernel_rfl
theorem tsz_92 : tsz Go.Proofs.Tryz.prog 92 = 1 := by kernel_rfl
theorem tby_92 : tbytes Go.Proofs.Tryz.prog 92 = 24 := by kernel_rfl
theorem tagg_92 : tagg Go.Proofs.Tryz.prog 92 = false := by kernel_rfl
theorem tconc_92 : tconc Go.Proofs.Tryz.prog 92 = true := by kernel_rfl
theorem tzero_92 : tzero Go.Proofs.Tryz.prog 92 = some (.slice none 0 0) := by kernel_rfl
theorem telem_92 : telem Go.Proofs.Tryz.prog 92 = some 52 := by kernel_rfl
theorem tok_93 : tok Go.Proofs.Tryz.prog 93 = true := by kernel_rfl
theorem tsz_93 : tsz Go.Proofs.Tryz.prog 93 = 16 := by kernel_rfl
theorem tby_93 : tbytes Go.Proofs.Tryz.prog 93 = 176 := by kernel_rfl
theorem tagg_93 : tagg Go.Proofs.Tryz.prog 93 = true := by kernel_rfl
theorem tconc_93 : tconc Go.Proofs.Tryz.prog 93 = true := by kernel_rfl
theorem tzero_93 : tzero Go.Proofs.Tryz.prog 93 = some (.agg #[.pointer none, .int .i64 0, .int .i64 0, .int .i64 0, .int .i64 0, .int .i64 0, .int .i64 0, .slice none 0 0, .bool false, .int .i64 0, .int .i64 0, .slice none 0 0, .slice none 0 0, .int .i64 0, .int .i64 0, .pointer none]) := by kernel_rfl
theorem tfld_93_0 : tfld Go.Proofs.Tryz.prog 93 0 = some (59, 0) := by kernel_rfl
theorem fldA_93_0 : fldA Go.Proofs.Tryz.prog 93 0 = some 0 := by kernel_rfl
theorem tfld_93_1 : tfld Go.Proofs.Tryz.prog 93 1 = some (45, 1) := by kernel_rfl
theorem fldA_93_1 : fldA Go.Proofs.Tryz.prog 93 1 = some 1 := by kernel_rfl
theorem tfld_93_2 : tfld Go.Proofs.Tryz.prog 93 2 = some (4, 8) := by kernel_rfl
theorem fldA_93_2 : fldA Go.Proofs.Tryz.prog 93 2 = some 8 := by kernel_rfl
theorem tfld_93_3 : tfld Go.Proofs.Tryz.prog 93 3 = some (3, 9) := by kernel_rfl
theorem fldA_93_3 : fldA Go.Proofs.Tryz.prog 93 3 = some 9 := by kernel_rfl
theorem tfld_93_4 : tfld Go.Proofs.Tryz.prog 93 4 = some (3, 10) := by kernel_rfl
theorem fldA_93_4 : fldA Go.Proofs.Tryz.prog 93 4 = some 10 := by kernel_rfl
theorem tfld_93_5 : tfld Go.Proofs.Tryz.prog 93 5 = some (92, 11) := by kernel_rfl
theorem fldA_93_5 : fldA Go.Proofs.Tryz.prog 93 5 = some 11 := by kernel_rfl
theorem tfld_93_6 : tfld Go.Proofs.Tryz.prog 93 6 = some (41, 12) := by kernel_rfl
theorem fldA_93_6 : fldA Go.Proofs.Tryz.prog 93 6 = some 12 := by kernel_rfl
theorem tfld_93_7 : tfld Go.Proofs.Tryz.prog 93 7 = some (3, 13) := by kernel_rfl
theorem fldA_93_7 : fldA Go.Proofs.Tryz.prog 93 7 = some 13 := by kernel_rfl
theorem tfld_93_8 : tfld Go.Proofs.Tryz.prog 93 8 = some (3, 14) := by kernel_rfl
theorem fldA_93_8 : fldA Go.Proofs.Tryz.prog 93 8 = some 14 := by kernel_rfl
theorem tfld_93_9 : tfld Go.Proofs.Tryz.prog 93 9 = some (52, 15) := by kernel_rfl
theorem fldA_93_9 : fldA Go.Proofs.Tryz.prog 93 9 = some 15 := by kernel_rfl
theorem tok_94 : tok Go.Proofs.Tryz.prog 94 = true := by kernel_rfl
theorem tsz_94 : tsz Go.Proofs.Tryz.prog 94 = 16 := by kernel_rfl
theorem tby_94 : tbytes Go.Proofs.Tryz.prog 94 = 176 := by kernel_rfl
theorem tagg_94 : tagg Go.Proofs.Tryz.prog 94 = true := by kernel_rfl
theorem tconc_94 : tconc Go.Proofs.Tryz.prog 94 = true := by kernel_rfl
theorem tzero_94 : tzero Go.Proofs.Tryz.prog 94 = some (.agg #[.pointer none, .int .i64 0, .int .i64 0, .int .i64 0, .int .i64 0, .int .i64 0, .int .i64 0, .slice none 0 0, .bool false, .int .i64 0, .int .i64 0, .slice none 0 0, .slice none 0 0, .int .i64 0, .int .i64 0, .pointer none]) := by kernel_rfl
theorem tfld_94_0 : tfld Go.Proofs.Tryz.prog 94 0 = some (59, 0) := by kernel_rfl
theorem fldA_94_0 : fldA Go.Proofs.Tryz.prog 94 0 = some 0 := by kernel_rfl
theorem tfld_94_1 : tfld Go.Proofs.Tryz.prog 94 1 = some (45, 1) := by kernel_rfl
theorem fldA_94_1 : fldA Go.Proofs.Tryz.prog 94 1 = some 1 := by kernel_rfl
theorem tfld_94_2 : tfld Go.Proofs.Tryz.prog 94 2 = some (4, 8) := by kernel_rfl
theorem fldA_94_2 : fldA Go.Proofs.Tryz.prog 94 2 = some 8 := by kernel_rfl
theorem tfld_94_3 : tfld Go.Proofs.Tryz.prog 94 3 = some (3, 9) := by kernel_rfl
theorem fldA_94_3 : fldA Go.Proofs.Tryz.prog 94 3 = some 9 := by kernel_rfl
theorem tfld_94_4 : tfld Go.Proofs.Tryz.prog 94 4 = some (3, 10) := by kernel_rfl
theorem fldA_94_4 : fldA Go.Proofs.Tryz.prog 94 4 = some 10 := by kernel_rfl
theorem tfld_94_5 : tfld Go.Proofs.Tryz.prog 94 5 = some (92, 11) := by kernel_rfl
theorem fldA_94_5 : fldA Go.Proofs.Tryz.prog 94 5 = some 11 := by kernel_rfl
theorem tfld_94_6 : tfld Go.Proofs.Tryz.prog 94 6 = some (41, 12) := by kernel_rfl
theorem fldA_94_6 : fldA Go.Proofs.Tryz.prog 94 6 = some 12 := by kernel_rfl
theorem tfld_94_7 : tfld Go.Proofs.Tryz.prog 94 7 = some (3, 13) := by kernel_rfl
theorem fldA_94_7 : fldA Go.Proofs.Tryz.prog 94 7 = some 13 := by kernel_rfl
theorem tfld_94_8 : tfld Go.Proofs.Tryz.prog 94 8 = some (3, 14) := by kernel_rfl
theorem fldA_94_8 : fldA Go.Proofs.Tryz.prog 94 8 = some 14 := by kernel_rfl
theorem tfld_94_9 : tfld Go.Proofs.Tryz.prog 94 9 = some (52, 15) := by kernel_rfl
theorem fldA_94_9 : fldA Go.Proofs.Tryz.prog 94 9 = some 15 := by kernel_rfl
theorem tok_95 : tok Go.Proofs.Tryz.prog 95 = true := by kernel_rfl
theorem tsz_95 : tsz Go.Proofs.Tryz.prog 95 = 1 := by kernel_rfl
theorem tby_95 : tbytes Go.Proofs.Tryz.prog 95 = 8 := by kernel_rfl
theorem tagg_95 : tagg Go.Proofs.Tryz.prog 95 = false := by kernel_rfl
theorem tconc_95 : tconc Go.Proofs.Tryz.prog 95 = true := by kernel_rfl
theorem tzero_95 : tzero Go.Proofs.Tryz.prog 95 = some .nilFunc := by kernel_rfl
theorem tok_96 : tok Go.Proofs.Tryz.prog 96 = true := by kernel_rfl
theorem tsz_96 : tsz Go.Proofs.Tryz.prog 96 = 1 := by kernel_rfl
theorem tby_96 : tbytes Go.Proofs.Tryz.prog 96 = 8 := by kernel_rfl
theorem tagg_96 : tagg Go.Proofs.Tryz.prog 96 = false := by kernel_rfl
theorem tconc_96 : tconc Go.Proofs.Tryz.prog 96 = true := by kernel_rfl
theorem tzero_96 : tzero Go.Proofs.Tryz.prog 96 = some .nilFunc := by kernel_rfl
theorem tok_97 : tok Go.Proofs.Tryz.prog 97 = true := by kernel_rfl
theorem tsz_97 : tsz Go.Proofs.Tryz.prog 97 = 1 := by kernel_rfl
theorem tby_97 : tbytes Go.Proofs.Tryz.prog 97 = 8 := by kernel_rfl
theorem tagg_97 : tagg Go.Proofs.Tryz.prog 97 = false := by kernel_rfl
theorem tconc_97 : tconc Go.Proofs.Tryz.prog 97 = true := by kernel_rfl
theorem tzero_97 : tzero Go.Proofs.Tryz.prog 97 = some .nilFunc := by kernel_rfl
theorem tok_98 : tok Go.Proofs.Tryz.prog 98 = true := by kernel_rfl
theorem tsz_98 : tsz Go.Proofs.Tryz.prog 98 = 1 := by kernel_rfl
theorem tby_98 : tbytes Go.Proofs.Tryz.prog 98 = 8 := by kernel_rfl
theorem tagg_98 : tagg Go.Proofs.Tryz.prog 98 = false := by kernel_rfl
theorem tconc_98 : tconc Go.Proofs.Tryz.prog 98 = true := by kernel_rfl
theorem tzero_98 : tzero Go.Proofs.Tryz.prog 98 = some .nilFunc := by kernel_rfl
theorem tok_99 : tok Go.Proofs.Tryz.prog 99 = true := by kernel_rfl
theorem tsz_99 : tsz Go.Proofs.Tryz.prog 99 = 3 := by kernel_rfl
theorem tby_99 : tbytes Go.Proofs.Tryz.prog 99 = 56 := by kernel_rfl
theorem tagg_99 : tagg Go.Proofs.Tryz.prog 99 = true := by kernel_rfl
theorem tconc_99 : tconc Go.Proofs.Tryz.prog 99 = true := by kernel_rfl
theorem tzero_99 : tzero Go.Proofs.Tryz.prog 99 = some (.agg #[.int .i64 0, .slice none 0 0, .slice none 0 0]) := by kernel_rfl
theorem tfld_99_0 : tfld Go.Proofs.Tryz.prog 99 0 = some (3, 0) := by kernel_rfl
theorem fldA_99_0 : fldA Go.Proofs.Tryz.prog 99 0 = some 0 := by kernel_rfl
theorem tfld_99_1 : tfld Go.Proofs.Tryz.prog 99 1 = some (22, 1) := by kernel_rfl
theorem fldA_99_1 : fldA Go.Proofs.Tryz.prog 99 1 = some 1 := by kernel_rfl
theorem tfld_99_2 : tfld Go.Proofs.Tryz.prog 99 2 = some (41, 2) := by kernel_rfl
theorem fldA_99_2 : fldA Go.Proofs.Tryz.prog 99 2 = some 2 := by kernel_rfl
theorem tok_100 : tok Go.Proofs.Tryz.prog 100 = true := by kernel_rfl
theorem tsz_100 : tsz Go.Proofs.Tryz.prog 100 = 3 := by kernel_rfl
theorem tby_100 : tbytes Go.Proofs.Tryz.prog 100 = 56 := by kernel_rfl
theorem tagg_100 : tagg Go.Proofs.Tryz.prog 100 = true := by kernel_rfl
theorem tconc_100 : tconc Go.Proofs.Tryz.prog 100 = true := by kernel_rfl
theorem tzero_100 : tzero Go.Proofs.Tryz.prog 100 = some (.agg #[.int .i64 0, .slice none 0 0, .slice none 0 0]) := by kernel_rfl
theorem tfld_100_0 : tfld Go.Proofs.Tryz.prog 100 0 = some (3, 0) := by kernel_rfl
theorem fldA_100_0 : fldA Go.Proofs.Tryz.prog 100 0 = some 0 := by kernel_rfl
theorem tfld_100_1 : tfld Go.Proofs.Tryz.prog 100 1 = some (22, 1) := by kernel_rfl
theorem fldA_100_1 : fldA Go.Proofs.Tryz.prog 100 1 = some 1 := by kernel_rfl
theorem tfld_100_2 : tfld Go.Proofs.Tryz.prog 100 2 = some (41, 2) := by kernel_rfl
theorem fldA_100_2 : fldA Go.Proofs.Tryz.prog 100 2 = some 2 := by kernel_rfl
theorem tok_101 : tok Go.Proofs.Tryz.prog 101 = true := by kernel_rfl
theorem tsz_101 : tsz Go.Proofs.Tryz.prog 101 = 1 := by kernel_rfl
theorem tby_101 : tbytes Go.Proofs.Tryz.prog 101 = 0 := by kernel_rfl
theorem tagg_101 : tagg Go.Proofs.Tryz.prog 101 = false := by kernel_rfl
theorem tconc_101 : tconc Go.Proofs.Tryz.prog 101 = true := by kernel_rfl
theorem tzero_101 : tzero Go.Proofs.Tryz.prog 101 = some (.tuple #[.agg #[.int .i64 0, .slice none 0 0, .slice none 0 0], .bool false]) := by kernel_rfl
theorem tok_102 : tok Go.Proofs.Tryz.prog 102 = true := by kernel_rfl
theorem tsz_102 : tsz Go.Proofs.Tryz.prog 102 = 1 := by kernel_rfl
theorem tby_102 : tbytes Go.Proofs.Tryz.prog 102 = 8 := by kernel_rfl
theorem tagg_102 : tagg Go.Proofs.Tryz.prog 102 = false := by kernel_rfl
theorem tconc_102 : tconc Go.Proofs.Tryz.prog 102 = true := by kernel_rfl
theorem tzero_102 : tzero Go.Proofs.Tryz.prog 102 = some .nilFunc := by kernel_rfl
theorem tok_103 : tok Go.Proofs.Tryz.prog 103 = true := by kernel_rfl
theorem tsz_103 : tsz Go.Proofs.Tryz.prog 103 = 4 := by kernel_rfl
theorem tby_103 : tbytes Go.Proofs.Tryz.prog 103 = 64 := by kernel_rfl
theorem tagg_103 : tagg Go.Proofs.Tryz.prog 103 = true := by kernel_rfl
theorem tconc_103 : tconc Go.Proofs.Tryz.prog 103 = true := by kernel_rfl
theorem tzero_103 : tzero Go.Proofs.Tryz.prog 103 = some (.agg #[.int .i64 0, .int .i64 0, .slice none 0 0, .slice none 0 0]) := by kernel_rfl
theorem tfld_103_0 : tfld Go.Proofs.Tryz.prog 103 0 = some (3, 0) := by kernel_rfl
theorem fldA_103_0 : fldA Go.Proofs.Tryz.prog 103 0 = some 0 := by kernel_rfl
theorem tfld_103_1 : tfld Go.Proofs.Tryz.prog 103 1 = some (100, 1) := by kernel_rfl
theorem fldA_103_1 : fldA Go.Proofs.Tryz.prog 103 1 = some 1 := by kernel_rfl
theorem tok_104 : tok Go.Proofs.Tryz.prog 104 = true := by kernel_rfl
theorem tsz_104 : tsz Go.Proofs.Tryz.prog 104 = 4 := by kernel_rfl
theorem tby_104 : tbytes Go.Proofs.Tryz.prog 104 = 64 := by kernel_rfl
theorem tagg_104 : tagg Go.Proofs.Tryz.prog 104 = true := by kernel_rfl
theorem tconc_104 : tconc Go.Proofs.Tryz.prog 104 = true := by kernel_rfl
theorem tzero_104 : tzero Go.Proofs.Tryz.prog 104 = some (.agg #[.int .i64 0, .int .i64 0, .slice none 0 0, .slice none 0 0]) := by kernel_rfl
theorem tfld_104_0 : tfld Go.Proofs.Tryz.prog 104 0 = some (3, 0) := by kernel_rfl
theorem fldA_104_0 : fldA Go.Proofs.Tryz.prog 104 0 = some 0 := by kernel_rfl
theorem tfld_104_1 : tfld Go.Proofs.Tryz.prog 104 1 = some (100, 1) := by kernel_rfl
theorem fldA_104_1 : fldA Go.Proofs.Tryz.prog 104 1 = some 1 := by kernel_rfl
theorem tok_105 : tok Go.Proofs.Tryz.prog 105 = true := by kernel_rfl
theorem tsz_105 : tsz Go.Proofs.Tryz.prog 105 = 1 := by kernel_rfl
theorem tby_105 : tbytes Go.Proofs.Tryz.prog 105 = 8 := by kernel_rfl
theorem tagg_105 : tagg Go.Proofs.Tryz.prog 105 = false := by kernel_rfl
theorem tconc_105 : tconc Go.Proofs.Tryz.prog 105 = true := by kernel_rfl
theorem tzero_105 : tzero Go.Proofs.Tryz.prog 105 = some .nilFunc := by kernel_rfl
theorem tok_106 : tok Go.Proofs.Tryz.prog 106 = true := by kernel_rfl
theorem tsz_106 : tsz Go.Proofs.Tryz.prog 106 = 1 := by kernel_rfl
theorem tby_106 : tbytes Go.Proofs.Tryz.prog 106 = 8 := by kernel_rfl
theorem tagg_106 : tagg Go.Proofs.Tryz.prog 106 = false := by kernel_rfl
theorem tconc_106 : tconc Go.Proofs.Tryz.prog 106 = true := by kernel_rfl
theorem tzero_106 : tzero Go.Proofs.Tryz.prog 106 = some .nilFunc := by kernel_rfl
theorem tok_107 : tok Go.Proofs.Tryz.prog 107 = true := by kernel_rfl
theorem tsz_107 : tsz Go.Proofs.Tryz.prog 107 = 1 := by kernel_rfl
theorem tby_107 : tbytes Go.Proofs.Tryz.prog 107 = 8 := by kernel_rfl
theorem tagg_107 : tagg Go.Proofs.Tryz.prog 107 = false := by kernel_rfl
theorem tconc_107 : tconc Go.Proofs.Tryz.prog 107 = true := by kernel_rfl
theorem tzero_107 : tzero Go.Proofs.Tryz.prog 107 = some .nilFunc := by kernel_rfl
theorem tok_108 : tok Go.Proofs.Tryz.prog 108 = true := by kernel_rfl
theorem tsz_108 : tsz Go.Proofs.Tryz.prog 108 = 6 := by kernel_rfl
theorem tby_108 : tbytes Go.Proofs.Tryz.prog 108 = 24 := by kernel_rfl
theorem tagg_108 : tagg Go.Proofs.Tryz.prog 108 = true := by kernel_rfl
theorem tconc_108 : tconc Go.Proofs.Tryz.prog 108 = true := by kernel_rfl
theorem tzero_108 : tzero Go.Proofs.Tryz.prog 108 = some (.agg #[.int .i64 0, .int .i64 0, .bool false, .bool false, .bool false, .bool false]) := by kernel_rfl
theorem tfld_108_0 : tfld Go.Proofs.Tryz.prog 108 0 = some (3, 0) := by kernel_rfl
theorem fldA_108_0 : fldA Go.Proofs.Tryz.prog 108 0 = some 0 := by kernel_rfl
theorem tfld_108_1 : tfld Go.Proofs.Tryz.prog 108 1 = some (3, 1) := by kernel_rfl
theorem fldA_108_1 : fldA Go.Proofs.Tryz.prog 108 1 = some 1 := by kernel_rfl
theorem tfld_108_2 : tfld Go.Proofs.Tryz.prog 108 2 = some (4, 2) := by kernel_rfl
theorem fldA_108_2 : fldA Go.Proofs.Tryz.prog 108 2 = some 2 := by kernel_rfl
theorem tfld_108_3 : tfld Go.Proofs.Tryz.prog 108 3 = some (4, 3) := by kernel_rfl
theorem fldA_108_3 : fldA Go.Proofs.Tryz.prog 108 3 = some 3 := by kernel_rfl
theorem tfld_108_4 : tfld Go.Proofs.Tryz.prog 108 4 = some (4, 4) := by kernel_rfl
theorem fldA_108_4 : fldA Go.Proofs.Tryz.prog 108 4 = some 4 := by kernel_rfl
theorem tfld_108_5 : tfld Go.Proofs.Tryz.prog 108 5 = some (4, 5) := by kernel_rfl
theorem fldA_108_5 : fldA Go.Proofs.Tryz.prog 108 5 = some 5 := by kernel_rfl
theorem tok_109 : tok Go.Proofs.Tryz.prog 109 = true := by kernel_rfl
theorem tsz_109 : tsz Go.Proofs.Tryz.prog 109 = 6 := by kernel_rfl
theorem tby_109 : tbytes Go.Proofs.Tryz.prog 109 = 24 := by kernel_rfl
theorem tagg_109 : tagg Go.Proofs.Tryz.prog 109 = true := by kernel_rfl
theorem tconc_109 : tconc Go.Proofs.Tryz.prog 109 = true := by kernel_rfl
theorem tzero_109 : tzero Go.Proofs.Tryz.prog 109 = some (.agg #[.int .i64 0, .int .i64 0, .bool false, .bool false, .bool false, .bool false]) := by kernel_rfl
theorem tfld_109_0 : tfld Go.Proofs.Tryz.prog 109 0 = some (3, 0) := by kernel_rfl
theorem fldA_109_0 : fldA Go.Proofs.Tryz.prog 109 0 = some 0 := by kernel_rfl
theorem tfld_109_1 : tfld Go.Proofs.Tryz.prog 109 1 = some (3, 1) := by kernel_rfl
theorem fldA_109_1 : fldA Go.Proofs.Tryz.prog 109 1 = some 1 := by kernel_rfl
theorem tfld_109_2 : tfld Go.Proofs.Tryz.prog 109 2 = some (4, 2) := by kernel_rfl
theorem fldA_109_2 : fldA Go.Proofs.Tryz.prog 109 2 = some 2 := by kernel_rfl
theorem tfld_109_3 : tfld Go.Proofs.Tryz.prog 109 3 = some (4, 3) := by kernel_rfl
theorem fldA_109_3 : fldA Go.Proofs.Tryz.prog 109 3 = some 3 := by kernel_rfl
theorem tfld_109_4 : tfld Go.Proofs.Tryz.prog 109 4 = some (4, 4) := by kernel_rfl
theorem fldA_109_4 : fldA Go.Proofs.Tryz.prog 109 4 = some 4 := by kernel_rfl
theorem tfld_109_5 : tfld Go.Proofs.Tryz.prog 109 5 = some (4, 5) := by kernel_rfl
theorem fldA_109_5 : fldA Go.Proofs.Tryz.prog 109 5 = some 5 := by kernel_rfl
theorem tok_110 : tok Go.Proofs.Tryz.prog 110 = true := by kernel_rfl
theorem tsz_110 : tsz Go.Proofs.Tryz.prog 110 = 114 := by kernel_rfl
theorem tby_110 : tbytes Go.Proofs.Tryz.prog 110 = 456 := by kernel_rfl
theorem tagg_110 : tagg Go.Proofs.Tryz.prog 110 = true := by kernel_rfl
theorem tconc_110 : tconc Go.Proofs.Tryz.prog 110 = true := by kernel_rfl
theorem tzero_110 : tzero Go.Proofs.Tryz.prog 110 = some (.agg #[.int .i64 0, .int .i64 0, .bool false, .bool false, .bool false, .bool false, .int .i64 0, .int .i64 0, .bool false, .bool false, .bool false, .bool false, .int .i64 0, .int .i64 0, .bool false, .bool false, .bool false, .bool false, .int .i64 0, .int .i64 0, .bool false, .bool false, .bool false, .bool false, .int .i64 0, .int .i64 0, .bool false, .bool false, .bool false, .bool false, .int .i64 0, .int .i64 0, .bool false, .bool false, .bool false, .bool false, .int .i64 0, .int .i64 0, .bool false, .bool false, .bool false, .bool false, .int .i64 0, .int .i64 0, .bool false, .bool false, .bool false, .bool false, .int .i64 0, .int .i64 0, .bool false, .bool false, .bool false, .bool false, .int .i64 0, .int .i64 0, .bool false, .bool false, .bool false, .bool false, .int .i64 0, .int .i64 0, .bool false, .bool false, .bool false, .bool false, .int .i64 0, .int .i64 0, .bool false, .bool false, .bool false, .bool false, .int .i64 0, .int .i64 0, .bool false, .bool false, .bool false, .bool false, .int .i64 0, .int .i64 0, .bool false, .bool false, .bool false, .bool false, .int .i64 0, .int .i64 0, .bool false, .bool false, .bool false, .bool false, .int .i64 0, .int .i64 0, .bool false, .bool false, .bool false, .bool false, .int .i64 0, .int .i64 0, .bool false, .bool false, .bool false, .bool false, .int .i64 0, .int .i64 0, .bool false, .bool false, .bool false, .bool false, .int .i64 0, .int .i64 0, .bool false, .bool false, .bool false, .bool false]) := by kernel_rfl
theorem tarr_110 : tarr Go.Proofs.Tryz.prog 110 = some (19, 109) := by kernel_rfl
theorem tok_111 : tok Go.Proofs.Tryz.prog 111 = true := by kernel_rfl
theorem tsz_111 : tsz Go.Proofs.Tryz.prog 111 = 1 := by kernel_rfl
theorem tby_111 : tbytes Go.Proofs.Tryz.prog 111 = 8 := by kernel_rfl
theorem tagg_111 : tagg Go.Proofs.Tryz.prog 111 = false := by kernel_rfl
theorem tconc_111 : tconc Go.Proofs.Tryz.prog 111 = true := by kernel_rfl
theorem tzero_111 : tzero Go.Proofs.Tryz.prog 111 = some .nilFunc := by kernel_rfl
theorem tok_112 : tok Go.Proofs.Tryz.prog 112 = true := by kernel_rfl
theorem tsz_112 : tsz Go.Proofs.Tryz.prog 112 = 1 := by kernel_rfl
theorem tby_112 : tbytes Go.Proofs.Tryz.prog 112 = 24 := by kernel_rfl
theorem tagg_112 : tagg Go.Proofs.Tryz.prog 112 = false := by kernel_rfl
theorem tconc_112 : tconc Go.Proofs.Tryz.prog 112 = true := by kernel_rfl
theorem tzero_112 : tzero Go.Proofs.Tryz.prog 112 = some (.slice none 0 0) := by kernel_rfl
theorem telem_112 : telem Go.Proofs.Tryz.prog 112 = some 113 := by kernel_rfl
theorem tok_113 : tok Go.Proofs.Tryz.prog 113 = true := by kernel_rfl
theorem tsz_113 : tsz Go.Proofs.Tryz.prog 113 = 1 := by kernel_rfl
theorem tby_113 : tbytes Go.Proofs.Tryz.prog 113 = 8 := by kernel_rfl
theorem tagg_113 : tagg Go.Proofs.Tryz.prog 113 = false := by kernel_rfl
theorem tconc_113 : tconc Go.Proofs.Tryz.prog 113 = true := by kernel_rfl
theorem tzero_113 : tzero Go.Proofs.Tryz.prog 113 = some (.pointer none) := by kernel_rfl
theorem tptr_113 : tptr Go.Proofs.Tryz.prog 113 = true := by kernel_rfl
theorem tok_114 : tok Go.Proofs.Tryz.prog 114 = true := by kernel_rfl
theorem tsz_114 : tsz Go.Proofs.Tryz.prog 114 = 1 := by kernel_rfl
theorem tby_114 : tbytes Go.Proofs.Tryz.prog 114 = 8 := by kernel_rfl
theorem tagg_114 : tagg Go.Proofs.Tryz.prog 114 = false := by kernel_rfl
theorem tconc_114 : tconc Go.Proofs.Tryz.prog 114 = true := by kernel_rfl
theorem tzero_114 : tzero Go.Proofs.Tryz.prog 114 = some .nilFunc := by kernel_rfl
theorem tok_115 : tok Go.Proofs.Tryz.prog 115 = true := by kernel_rfl
theorem tsz_115 : tsz Go.Proofs.Tryz.prog 115 = 1 := by kernel_rfl
theorem tby_115 : tbytes Go.Proofs.Tryz.prog 115 = 8 := by kernel_rfl
theorem tagg_115 : tagg Go.Proofs.Tryz.prog 115 = false := by kernel_rfl
theorem tconc_115 : tconc Go.Proofs.Tryz.prog 115 = true := by kernel_rfl
theorem tzero_115 : tzero Go.Proofs.Tryz.prog 115 = some .nilFunc := by kernel_rfl
theorem tok_116 : tok Go.Proofs.Tryz.prog 116 = true := by kernel_rfl
theorem tsz_116 : tsz Go.Proofs.Tryz.prog 116 = 1 := by kernel_rfl
theorem tby_116 : tbytes Go.Proofs.Tryz.prog 116 = 8 := by kernel_rfl
theorem tagg_116 : tagg Go.Proofs.Tryz.prog 116 = false := by kernel_rfl
theorem tconc_116 : tconc Go.Proofs.Tryz.prog 116 = true := by kernel_rfl
theorem tzero_116 : tzero Go.Proofs.Tryz.prog 116 = some .nilFunc := by kernel_rfl
theorem tok_117 : tok Go.Proofs.Tryz.prog 117 = true := by kernel_rfl
theorem tsz_117 : tsz Go.Proofs.Tryz.prog 117 = 1 := by kernel_rfl
theorem tby_117 : tbytes Go.Proofs.Tryz.prog 117 = 8 := by kernel_rfl
theorem tagg_117 : tagg Go.Proofs.Tryz.prog 117 = false := by kernel_rfl
theorem tconc_117 : tconc Go.Proofs.Tryz.prog 117 = true := by kernel_rfl
theorem tzero_117 : tzero Go.Proofs.Tryz.prog 117 = some .nilFunc := by kernel_rfl
theorem tok_118 : tok Go.Proofs.Tryz.prog 118 = true := by kernel_rfl
theorem tsz_118 : tsz Go.Proofs.Tryz.prog 118 = 1 := by kernel_rfl
theorem tby_118 : tbytes Go.Proofs.Tryz.prog 118 = 8 := by kernel_rfl
theorem tagg_118 : tagg Go.Proofs.Tryz.prog 118 = false := by kernel_rfl
theorem tconc_118 : tconc Go.Proofs.Tryz.prog 118 = true := by kernel_rfl
theorem tzero_118 : tzero Go.Proofs.Tryz.prog 118 = some .nilFunc := by kernel_rfl
theorem tok_119 : tok Go.Proofs.Tryz.prog 119 = true := by kernel_rfl
theorem tsz_119 : tsz Go.Proofs.Tryz.prog 119 = 1 := by kernel_rfl
theorem tby_119 : tbytes Go.Proofs.Tryz.prog 119 = 8 := by kernel_rfl
theorem tagg_119 : tagg Go.Proofs.Tryz.prog 119 = false := by kernel_rfl
theorem tconc_119 : tconc Go.Proofs.Tryz.prog 119 = true := by kernel_rfl
theorem tzero_119 : tzero Go.Proofs.Tryz.prog 119 = some .nilFunc := by kernel_rfl
theorem tok_120 : tok Go.Proofs.Tryz.prog 120 = true := by kernel_rfl
theorem tsz_120 : tsz Go.Proofs.Tryz.prog 120 = 1 := by kernel_rfl
theorem tby_120 : tbytes Go.Proofs.Tryz.prog 120 = 8 := by kernel_rfl
theorem tagg_120 : tagg Go.Proofs.Tryz.prog 120 = false := by kernel_rfl
theorem tconc_120 : tconc Go.Proofs.Tryz.prog 120 = true := by kernel_rfl
theorem tzero_120 : tzero Go.Proofs.Tryz.prog 120 = some .nilFunc := by kernel_rfl
theorem tok_121 : tok Go.Proofs.Tryz.prog 121 = true := by kernel_rfl
theorem tsz_121 : tsz Go.Proofs.Tryz.prog 121 = 1 := by kernel_rfl
theorem tby_121 : tbytes Go.Proofs.Tryz.prog 121 = 8 := by kernel_rfl
theorem tagg_121 : tagg Go.Proofs.Tryz.prog 121 = false := by kernel_rfl
theorem tconc_121 : tconc Go.Proofs.Tryz.prog 121 = true := by kernel_rfl
theorem tzero_121 : tzero Go.Proofs.Tryz.prog 121 = some .nilFunc := by kernel_rfl
theorem tok_122 : tok Go.Proofs.Tryz.prog 122 = true := by kernel_rfl
theorem tsz_122 : tsz Go.Proofs.Tryz.prog 122 = 1 := by kernel_rfl
theorem tby_122 : tbytes Go.Proofs.Tryz.prog 122 = 8 := by kernel_rfl
theorem tagg_122 : tagg Go.Proofs.Tryz.prog 122 = false := by kernel_rfl
theorem tconc_122 : tconc Go.Proofs.Tryz.prog 122 = true := by kernel_rfl
theorem tzero_122 : tzero Go.Proofs.Tryz.prog 122 = some .nilFunc := by kernel_rfl
theorem tok_123 : tok Go.Proofs.Tryz.prog 123 = true := by kernel_rfl
theorem tsz_123 : tsz Go.Proofs.Tryz.prog 123 = 19 := by kernel_rfl
theorem tby_123 : tbytes Go.Proofs.Tryz.prog 123 = 152 := by kernel_rfl
theorem tagg_123 : tagg Go.Proofs.Tryz.prog 123 = true := by kernel_rfl
theorem tconc_123 : tconc Go.Proofs.Tryz.prog 123 = true := by kernel_rfl
theorem tzero_123 : tzero Go.Proofs.Tryz.prog 123 = some (.agg #[.nilFunc, .nilFunc, .nilFunc, .nilFunc, .nilFunc, .nilFunc, .nilFunc, .nilFunc, .nilFunc, .nilFunc, .nilFunc, .nilFunc, .nilFunc, .nilFunc, .nilFunc, .nilFunc, .nilFunc, .nilFunc, .nilFunc]) := by kernel_rfl
theorem tarr_123 : tarr Go.Proofs.Tryz.prog 123 = some (19, 122) := by kernel_rfl
theorem tok_124 : tok Go.Proofs.Tryz.prog 124 = true := by kernel_rfl
theorem tsz_124 : tsz Go.Proofs.Tryz.prog 124 = 1 := by kernel_rfl
theorem tby_124 : tbytes Go.Proofs.Tryz.prog 124 = 8 := by kernel_rfl
theorem tagg_124 : tagg Go.Proofs.Tryz.prog 124 = false := by kernel_rfl
theorem tconc_124 : tconc Go.Proofs.Tryz.prog 124 = true := by kernel_rfl
theorem tzero_124 : tzero Go.Proofs.Tryz.prog 124 = some .nilFunc := by kernel_rfl
theorem tok_125 : tok Go.Proofs.Tryz.prog 125 = true := by kernel_rfl
theorem tsz_125 : tsz Go.Proofs.Tryz.prog 125 = 1 := by kernel_rfl
theorem tby_125 : tbytes Go.Proofs.Tryz.prog 125 = 8 := by kernel_rfl
theorem tagg_125 : tagg Go.Proofs.Tryz.prog 125 = false := by kernel_rfl
theorem tconc_125 : tconc Go.Proofs.Tryz.prog 125 = true := by kernel_rfl
theorem tzero_125 : tzero Go.Proofs.Tryz.prog 125 = some (.map none) := by kernel_rfl
theorem tok_126 : tok Go.Proofs.Tryz.prog 126 = true := by kernel_rfl
theorem tsz_126 : tsz Go.Proofs.Tryz.prog 126 = 1 := by kernel_rfl
theorem tby_126 : tbytes Go.Proofs.Tryz.prog 126 = 16 := by kernel_rfl
theorem tagg_126 : tagg Go.Proofs.Tryz.prog 126 = false := by kernel_rfl
theorem tconc_126 : tconc Go.Proofs.Tryz.prog 126 = false := by kernel_rfl
theorem tzero_126 : tzero Go.Proofs.Tryz.prog 126 = some .nilIface := by kernel_rfl
theorem tifc_126 : tifc Go.Proofs.Tryz.prog 126 = true := by kernel_rfl
theorem tok_127 : tok Go.Proofs.Tryz.prog 127 = true := by kernel_rfl
theorem tsz_127 : tsz Go.Proofs.Tryz.prog 127 = 1 := by kernel_rfl
theorem tby_127 : tbytes Go.Proofs.Tryz.prog 127 = 16 := by kernel_rfl
theorem tagg_127 : tagg Go.Proofs.Tryz.prog 127 = false := by kernel_rfl
theorem tconc_127 : tconc Go.Proofs.Tryz.prog 127 = false := by kernel_rfl
theorem tzero_127 : tzero Go.Proofs.Tryz.prog 127 = some .nilIface := by kernel_rfl
theorem tifc_127 : tifc Go.Proofs.Tryz.prog 127 = true := by kernel_rfl
theorem tok_128 : tok Go.Proofs.Tryz.prog 128 = true := by kernel_rfl
theorem tsz_128 : tsz Go.Proofs.Tryz.prog 128 = 1 := by kernel_rfl
theorem tby_128 : tbytes Go.Proofs.Tryz.prog 128 = 0 := by kernel_rfl
theorem tagg_128 : tagg Go.Proofs.Tryz.prog 128 = false := by kernel_rfl
theorem tconc_128 : tconc Go.Proofs.Tryz.prog 128 = true := by kernel_rfl
theorem tzero_128 : tzero Go.Proofs.Tryz.prog 128 = some (.tuple #[.int .i64 0, .nilIface]) := by kernel_rfl
theorem tok_129 : tok Go.Proofs.Tryz.prog 129 = true := by kernel_rfl
theorem tsz_129 : tsz Go.Proofs.Tryz.prog 129 = 1 := by kernel_rfl
theorem tby_129 : tbytes Go.Proofs.Tryz.prog 129 = 8 := by kernel_rfl
theorem tagg_129 : tagg Go.Proofs.Tryz.prog 129 = false := by kernel_rfl
theorem tconc_129 : tconc Go.Proofs.Tryz.prog 129 = true := by kernel_rfl
theorem tzero_129 : tzero Go.Proofs.Tryz.prog 129 = some .nilFunc := by kernel_rfl
theorem tok_130 : tok Go.Proofs.Tryz.prog 130 = true := by kernel_rfl
theorem tsz_130 : tsz Go.Proofs.Tryz.prog 130 = 19 := by kernel_rfl
theorem tby_130 : tbytes Go.Proofs.Tryz.prog 130 = 304 := by kernel_rfl
theorem tagg_130 : tagg Go.Proofs.Tryz.prog 130 = true := by kernel_rfl
theorem tconc_130 : tconc Go.Proofs.Tryz.prog 130 = true := by kernel_rfl
theorem tzero_130 : tzero Go.Proofs.Tryz.prog 130 = some (.agg #[.string { data := #[] }, .string { data := #[] }, .string { data := #[] }, .string { data := #[] }, .string { data := #[] }, .string { data := #[] }, .string { data := #[] }, .string { data := #[] }, .string { data := #[] }, .string { data := #[] }, .string { data := #[] }, .string { data := #[] }, .string { data := #[] }, .string { data := #[] }, .string { data := #[] }, .string { data := #[] }, .string { data := #[] }, .string { data := #[] }, .string { data := #[] }]) := by kernel_rfl
theorem tarr_130 : tarr Go.Proofs.Tryz.prog 130 = some (19, 9) := by kernel_rfl
theorem tok_131 : tok Go.Proofs.Tryz.prog 131 = true := by kernel_rfl
theorem tsz_131 : tsz Go.Proofs.Tryz.prog 131 = 1 := by kernel_rfl
theorem tby_131 : tbytes Go.Proofs.Tryz.prog 131 = 8 := by kernel_rfl
theorem tagg_131 : tagg Go.Proofs.Tryz.prog 131 = false := by kernel_rfl
theorem tconc_131 : tconc Go.Proofs.Tryz.prog 131 = true := by kernel_rfl
theorem tzero_131 : tzero Go.Proofs.Tryz.prog 131 = some .nilFunc := by kernel_rfl
theorem tok_132 : tok Go.Proofs.Tryz.prog 132 = true := by kernel_rfl
theorem tsz_132 : tsz Go.Proofs.Tryz.prog 132 = 1 := by kernel_rfl
theorem tby_132 : tbytes Go.Proofs.Tryz.prog 132 = 8 := by kernel_rfl
theorem tagg_132 : tagg Go.Proofs.Tryz.prog 132 = false := by kernel_rfl
theorem tconc_132 : tconc Go.Proofs.Tryz.prog 132 = true := by kernel_rfl
theorem tzero_132 : tzero Go.Proofs.Tryz.prog 132 = some .nilFunc := by kernel_rfl
theorem tok_133 : tok Go.Proofs.Tryz.prog 133 = true := by kernel_rfl
theorem tsz_133 : tsz Go.Proofs.Tryz.prog 133 = 1 := by kernel_rfl
theorem tby_133 : tbytes Go.Proofs.Tryz.prog 133 = 8 := by kernel_rfl
theorem tagg_133 : tagg Go.Proofs.Tryz.prog 133 = false := by kernel_rfl
theorem tconc_133 : tconc Go.Proofs.Tryz.prog 133 = true := by kernel_rfl
theorem tzero_133 : tzero Go.Proofs.Tryz.prog 133 = some .nilFunc := by kernel_rfl
theorem tok_134 : tok Go.Proofs.Tryz.prog 134 = true := by kernel_rfl
theorem tsz_134 : tsz Go.Proofs.Tryz.prog 134 = 1 := by kernel_rfl
theorem tby_134 : tbytes Go.Proofs.Tryz.prog 134 = 8 := by kernel_rfl
theorem tagg_134 : tagg Go.Proofs.Tryz.prog 134 = false := by kernel_rfl
theorem tconc_134 : tconc Go.Proofs.Tryz.prog 134 = true := by kernel_rfl
theorem tzero_134 : tzero Go.Proofs.Tryz.prog 134 = some .nilFunc := by kernel_rfl
theorem tok_135 : tok Go.Proofs.Tryz.prog 135 = true := by kernel_rfl
theorem tsz_135 : tsz Go.Proofs.Tryz.prog 135 = 1 := by kernel_rfl
theorem tby_135 : tbytes Go.Proofs.Tryz.prog 135 = 8 := by kernel_rfl
theorem tagg_135 : tagg Go.Proofs.Tryz.prog 135 = false := by kernel_rfl
theorem tconc_135 : tconc Go.Proofs.Tryz.prog 135 = true := by kernel_rfl
theorem tzero_135 : tzero Go.Proofs.Tryz.prog 135 = some (.int .u64 0) := by kernel_rfl
theorem tkind_135 : tkind Go.Proofs.Tryz.prog 135 = some .u64 := by kernel_rfl
theorem tok_136 : tok Go.Proofs.Tryz.prog 136 = true := by kernel_rfl
theorem tsz_136 : tsz Go.Proofs.Tryz.prog 136 = 1 := by kernel_rfl
theorem tby_136 : tbytes Go.Proofs.Tryz.prog 136 = 0 := by kernel_rfl
theorem tagg_136 : tagg Go.Proofs.Tryz.prog 136 = false := by kernel_rfl
theorem tconc_136 : tconc Go.Proofs.Tryz.prog 136 = true := by kernel_rfl
theorem tzero_136 : tzero Go.Proofs.Tryz.prog 136 = some (.tuple #[.int .i64 0, .int .i64 0, .int .i64 0]) := by kernel_rfl
theorem tok_137 : tok Go.Proofs.Tryz.prog 137 = true := by kernel_rfl
theorem tsz_137 : tsz Go.Proofs.Tryz.prog 137 = 1 := by kernel_rfl
theorem tby_137 : tbytes Go.Proofs.Tryz.prog 137 = 8 := by kernel_rfl
theorem tagg_137 : tagg Go.Proofs.Tryz.prog 137 = false := by kernel_rfl
theorem tconc_137 : tconc Go.Proofs.Tryz.prog 137 = true := by kernel_rfl
theorem tzero_137 : tzero Go.Proofs.Tryz.prog 137 = some .nilFunc := by kernel_rfl
theorem tok_138 : tok Go.Proofs.Tryz.prog 138 = true := by kernel_rfl
theorem tsz_138 : tsz Go.Proofs.Tryz.prog 138 = 1 := by kernel_rfl
theorem tby_138 : tbytes Go.Proofs.Tryz.prog 138 = 8 := by kernel_rfl
theorem tagg_138 : tagg Go.Proofs.Tryz.prog 138 = false := by kernel_rfl
theorem tconc_138 : tconc Go.Proofs.Tryz.prog 138 = true := by kernel_rfl
theorem tzero_138 : tzero Go.Proofs.Tryz.prog 138 = some .nilFunc := by kernel_rfl
theorem tok_139 : tok Go.Proofs.Tryz.prog 139 = true := by kernel_rfl
theorem tsz_139 : tsz Go.Proofs.Tryz.prog 139 = 1 := by kernel_rfl
theorem tby_139 : tbytes Go.Proofs.Tryz.prog 139 = 8 := by kernel_rfl
theorem tagg_139 : tagg Go.Proofs.Tryz.prog 139 = false := by kernel_rfl
theorem tconc_139 : tconc Go.Proofs.Tryz.prog 139 = true := by kernel_rfl
theorem tzero_139 : tzero Go.Proofs.Tryz.prog 139 = some (.int .i64 0) := by kernel_rfl
theorem tkind_139 : tkind Go.Proofs.Tryz.prog 139 = some .i64 := by kernel_rfl
theorem meth_139_Error : methB Go.Proofs.Tryz.prog 139 "Error" = some 122 := by kernel_rfl
theorem tok_140 : tok Go.Proofs.Tryz.prog 140 = true := by kernel_rfl
theorem tsz_140 : tsz Go.Proofs.Tryz.prog 140 = 1 := by kernel_rfl
theorem tby_140 : tbytes Go.Proofs.Tryz.prog 140 = 24 := by kernel_rfl
theorem tagg_140 : tagg Go.Proofs.Tryz.prog 140 = false := by kernel_rfl
theorem tconc_140 : tconc Go.Proofs.Tryz.prog 140 = true := by kernel_rfl
theorem tzero_140 : tzero Go.Proofs.Tryz.prog 140 = some (.slice none 0 0) := by kernel_rfl
theorem telem_140 : telem Go.Proofs.Tryz.prog 140 = some 5 := by kernel_rfl
theorem tok_141 : tok Go.Proofs.Tryz.prog 141 = true := by kernel_rfl
theorem tsz_141 : tsz Go.Proofs.Tryz.prog 141 = 1 := by kernel_rfl
theorem tby_141 : tbytes Go.Proofs.Tryz.prog 141 = 0 := by kernel_rfl
theorem tagg_141 : tagg Go.Proofs.Tryz.prog 141 = false := by kernel_rfl
theorem tconc_141 : tconc Go.Proofs.Tryz.prog 141 = true := by kernel_rfl
theorem tzero_141 : tzero Go.Proofs.Tryz.prog 141 = some (.tuple #[.int .i64 0, .nilIface]) := by kernel_rfl
theorem tok_142 : tok Go.Proofs.Tryz.prog 142 = true := by kernel_rfl
theorem tsz_142 : tsz Go.Proofs.Tryz.prog 142 = 1 := by kernel_rfl
theorem tby_142 : tbytes Go.Proofs.Tryz.prog 142 = 8 := by kernel_rfl
theorem tagg_142 : tagg Go.Proofs.Tryz.prog 142 = false := by kernel_rfl
theorem tconc_142 : tconc Go.Proofs.Tryz.prog 142 = true := by kernel_rfl
theorem tzero_142 : tzero Go.Proofs.Tryz.prog 142 = some .nilFunc := by kernel_rfl
theorem tok_143 : tok Go.Proofs.Tryz.prog 143 = true := by kernel_rfl
theorem tsz_143 : tsz Go.Proofs.Tryz.prog 143 = 1 := by kernel_rfl
theorem tby_143 : tbytes Go.Proofs.Tryz.prog 143 = 8 := by kernel_rfl
theorem tagg_143 : tagg Go.Proofs.Tryz.prog 143 = false := by kernel_rfl
theorem tconc_143 : tconc Go.Proofs.Tryz.prog 143 = true := by kernel_rfl
theorem tzero_143 : tzero Go.Proofs.Tryz.prog 143 = some (.pointer none) := by kernel_rfl
theorem tptr_143 : tptr Go.Proofs.Tryz.prog 143 = true := by kernel_rfl
theorem meth_143_Error : methB Go.Proofs.Tryz.prog 143 "Error" = some 123 := by kernel_rfl
theorem tok_144 : tok Go.Proofs.Tryz.prog 144 = true := by kernel_rfl
theorem tsz_144 : tsz Go.Proofs.Tryz.prog 144 = 1 := by kernel_rfl
theorem tby_144 : tbytes Go.Proofs.Tryz.prog 144 = 8 := by kernel_rfl
theorem tagg_144 : tagg Go.Proofs.Tryz.prog 144 = false := by kernel_rfl
theorem tconc_144 : tconc Go.Proofs.Tryz.prog 144 = true := by kernel_rfl
theorem tzero_144 : tzero Go.Proofs.Tryz.prog 144 = some .nilFunc := by kernel_rfl
theorem tok_145 : tok Go.Proofs.Tryz.prog 145 = true := by kernel_rfl
theorem tsz_145 : tsz Go.Proofs.Tryz.prog 145 = 1 := by kernel_rfl
theorem tby_145 : tbytes Go.Proofs.Tryz.prog 145 = 8 := by kernel_rfl
theorem tagg_145 : tagg Go.Proofs.Tryz.prog 145 = false := by kernel_rfl
theorem tconc_145 : tconc Go.Proofs.Tryz.prog 145 = true := by kernel_rfl
theorem tzero_145 : tzero Go.Proofs.Tryz.prog 145 = some .nilFunc := by kernel_rfl
theorem tok_146 : tok Go.Proofs.Tryz.prog 146 = true := by kernel_rfl
theorem tsz_146 : tsz Go.Proofs.Tryz.prog 146 = 1 := by kernel_rfl
theorem tby_146 : tbytes Go.Proofs.Tryz.prog 146 = 8 := by kernel_rfl
theorem tagg_146 : tagg Go.Proofs.Tryz.prog 146 = false := by kernel_rfl
theorem tconc_146 : tconc Go.Proofs.Tryz.prog 146 = true := by kernel_rfl
theorem tzero_146 : tzero Go.Proofs.Tryz.prog 146 = some (.int .u64 0) := by kernel_rfl
theorem tkind_146 : tkind Go.Proofs.Tryz.prog 146 = some .u64 := by kernel_rfl
theorem tok_147 : tok Go.Proofs.Tryz.prog 147 = true := by kernel_rfl
theorem tsz_147 : tsz Go.Proofs.Tryz.prog 147 = 1 := by kernel_rfl
theorem tby_147 : tbytes Go.Proofs.Tryz.prog 147 = 0 := by kernel_rfl
theorem tagg_147 : tagg Go.Proofs.Tryz.prog 147 = false := by kernel_rfl
theorem tconc_147 : tconc Go.Proofs.Tryz.prog 147 = true := by kernel_rfl
theorem tzero_147 : tzero Go.Proofs.Tryz.prog 147 = some (.tuple #[.int .u64 0, .nilIface]) := by kernel_rfl
theorem tok_148 : tok Go.Proofs.Tryz.prog 148 = true := by kernel_rfl
theorem tsz_148 : tsz Go.Proofs.Tryz.prog 148 = 1 := by kernel_rfl
theorem tby_148 : tbytes Go.Proofs.Tryz.prog 148 = 8 := by kernel_rfl
theorem tagg_148 : tagg Go.Proofs.Tryz.prog 148 = false := by kernel_rfl
theorem tconc_148 : tconc Go.Proofs.Tryz.prog 148 = true := by kernel_rfl
theorem tzero_148 : tzero Go.Proofs.Tryz.prog 148 = some .nilFunc := by kernel_rfl
theorem tok_149 : tok Go.Proofs.Tryz.prog 149 = true := by kernel_rfl
theorem tsz_149 : tsz Go.Proofs.Tryz.prog 149 = 1 := by kernel_rfl
theorem tby_149 : tbytes Go.Proofs.Tryz.prog 149 = 8 := by kernel_rfl
theorem tagg_149 : tagg Go.Proofs.Tryz.prog 149 = false := by kernel_rfl
theorem tconc_149 : tconc Go.Proofs.Tryz.prog 149 = true := by kernel_rfl
theorem tzero_149 : tzero Go.Proofs.Tryz.prog 149 = some .nilFunc := by kernel_rfl
theorem tok_150 : tok Go.Proofs.Tryz.prog 150 = true := by kernel_rfl
theorem tsz_150 : tsz Go.Proofs.Tryz.prog 150 = 3 := by kernel_rfl
theorem tby_150 : tbytes Go.Proofs.Tryz.prog 150 = 48 := by kernel_rfl
theorem tagg_150 : tagg Go.Proofs.Tryz.prog 150 = true := by kernel_rfl
theorem tconc_150 : tconc Go.Proofs.Tryz.prog 150 = true := by kernel_rfl
theorem tzero_150 : tzero Go.Proofs.Tryz.prog 150 = some (.agg #[.string { data := #[] }, .string { data := #[] }, .nilIface]) := by kernel_rfl
theorem tfld_150_0 : tfld Go.Proofs.Tryz.prog 150 0 = some (9, 0) := by kernel_rfl
theorem fldA_150_0 : fldA Go.Proofs.Tryz.prog 150 0 = some 0 := by kernel_rfl
theorem tfld_150_1 : tfld Go.Proofs.Tryz.prog 150 1 = some (9, 1) := by kernel_rfl
theorem fldA_150_1 : fldA Go.Proofs.Tryz.prog 150 1 = some 1 := by kernel_rfl
theorem tfld_150_2 : tfld Go.Proofs.Tryz.prog 150 2 = some (127, 2) := by kernel_rfl
theorem fldA_150_2 : fldA Go.Proofs.Tryz.prog 150 2 = some 2 := by kernel_rfl
theorem tok_151 : tok Go.Proofs.Tryz.prog 151 = true := by kernel_rfl
theorem tsz_151 : tsz Go.Proofs.Tryz.prog 151 = 3 := by kernel_rfl
theorem tby_151 : tbytes Go.Proofs.Tryz.prog 151 = 48 := by kernel_rfl
theorem tagg_151 : tagg Go.Proofs.Tryz.prog 151 = true := by kernel_rfl
theorem tconc_151 : tconc Go.Proofs.Tryz.prog 151 = true := by kernel_rfl
theorem tzero_151 : tzero Go.Proofs.Tryz.prog 151 = some (.agg #[.string { data := #[] }, .string { data := #[] }, .nilIface]) := by kernel_rfl
theorem tfld_151_0 : tfld Go.Proofs.Tryz.prog 151 0 = some (9, 0) := by kernel_rfl
theorem fldA_151_0 : fldA Go.Proofs.Tryz.prog 151 0 = some 0 := by kernel_rfl
theorem tfld_151_1 : tfld Go.Proofs.Tryz.prog 151 1 = some (9, 1) := by kernel_rfl
theorem fldA_151_1 : fldA Go.Proofs.Tryz.prog 151 1 = some 1 := by kernel_rfl
theorem tfld_151_2 : tfld Go.Proofs.Tryz.prog 151 2 = some (127, 2) := by kernel_rfl
theorem fldA_151_2 : fldA Go.Proofs.Tryz.prog 151 2 = some 2 := by kernel_rfl
theorem tok_152 : tok Go.Proofs.Tryz.prog 152 = true := by kernel_rfl
theorem tsz_152 : tsz Go.Proofs.Tryz.prog 152 = 1 := by kernel_rfl
theorem tby_152 : tbytes Go.Proofs.Tryz.prog 152 = 8 := by kernel_rfl
theorem tagg_152 : tagg Go.Proofs.Tryz.prog 152 = false := by kernel_rfl
theorem tconc_152 : tconc Go.Proofs.Tryz.prog 152 = true := by kernel_rfl
theorem tzero_152 : tzero Go.Proofs.Tryz.prog 152 = some .nilFunc := by kernel_rfl
theorem tok_153 : tok Go.Proofs.Tryz.prog 153 = true := by kernel_rfl
theorem tsz_153 : tsz Go.Proofs.Tryz.prog 153 = 1 := by kernel_rfl
theorem tby_153 : tbytes Go.Proofs.Tryz.prog 153 = 8 := by kernel_rfl
theorem tagg_153 : tagg Go.Proofs.Tryz.prog 153 = false := by kernel_rfl
theorem tconc_153 : tconc Go.Proofs.Tryz.prog 153 = true := by kernel_rfl
theorem tzero_153 : tzero Go.Proofs.Tryz.prog 153 = some .nilFunc := by kernel_rfl
theorem tok_154 : tok Go.Proofs.Tryz.prog 154 = true := by kernel_rfl
theorem tsz_154 : tsz Go.Proofs.Tryz.prog 154 = 1 := by kernel_rfl
theorem tby_154 : tbytes Go.Proofs.Tryz.prog 154 = 8 := by kernel_rfl
theorem tagg_154 : tagg Go.Proofs.Tryz.prog 154 = false := by kernel_rfl
theorem tconc_154 : tconc Go.Proofs.Tryz.prog 154 = true := by kernel_rfl
theorem tzero_154 : tzero Go.Proofs.Tryz.prog 154 = some .nilFunc := by kernel_rfl
theorem tok_155 : tok Go.Proofs.Tryz.prog 155 = true := by kernel_rfl
theorem tsz_155 : tsz Go.Proofs.Tryz.prog 155 = 1 := by kernel_rfl
theorem tby_155 : tbytes Go.Proofs.Tryz.prog 155 = 8 := by kernel_rfl
theorem tagg_155 : tagg Go.Proofs.Tryz.prog 155 = false := by kernel_rfl
theorem tconc_155 : tconc Go.Proofs.Tryz.prog 155 = true := by kernel_rfl
theorem tzero_155 : tzero Go.Proofs.Tryz.prog 155 = some (.pointer none) := by kernel_rfl
theorem tptr_155 : tptr Go.Proofs.Tryz.prog 155 = true := by kernel_rfl
theorem tok_156 : tok Go.Proofs.Tryz.prog 156 = true := by kernel_rfl
theorem tsz_156 : tsz Go.Proofs.Tryz.prog 156 = 1 := by kernel_rfl
theorem tby_156 : tbytes Go.Proofs.Tryz.prog 156 = 8 := by kernel_rfl
theorem tagg_156 : tagg Go.Proofs.Tryz.prog 156 = false := by kernel_rfl
theorem tconc_156 : tconc Go.Proofs.Tryz.prog 156 = true := by kernel_rfl
theorem tzero_156 : tzero Go.Proofs.Tryz.prog 156 = some (.pointer none) := by kernel_rfl
theorem tptr_156 : tptr Go.Proofs.Tryz.prog 156 = true := by kernel_rfl
theorem meth_156_Error : methB Go.Proofs.Tryz.prog 156 "Error" = some 124 := by kernel_rfl
theorem tok_157 : tok Go.Proofs.Tryz.prog 157 = true := by kernel_rfl
theorem tsz_157 : tsz Go.Proofs.Tryz.prog 157 = 1 := by kernel_rfl
theorem tby_157 : tbytes Go.Proofs.Tryz.prog 157 = 16 := by kernel_rfl
theorem tagg_157 : tagg Go.Proofs.Tryz.prog 157 = true := by kernel_rfl
theorem tconc_157 : tconc Go.Proofs.Tryz.prog 157 = true := by kernel_rfl
theorem tzero_157 : tzero Go.Proofs.Tryz.prog 157 = some (.agg #[.string { data := #[] }]) := by kernel_rfl
theorem tfld_157_0 : tfld Go.Proofs.Tryz.prog 157 0 = some (9, 0) := by kernel_rfl
theorem fldA_157_0 : fldA Go.Proofs.Tryz.prog 157 0 = some 0 := by kernel_rfl
theorem tok_158 : tok Go.Proofs.Tryz.prog 158 = true := by kernel_rfl
theorem tsz_158 : tsz Go.Proofs.Tryz.prog 158 = 1 := by kernel_rfl
theorem tby_158 : tbytes Go.Proofs.Tryz.prog 158 = 16 := by kernel_rfl
theorem tagg_158 : tagg Go.Proofs.Tryz.prog 158 = true := by kernel_rfl
theorem tconc_158 : tconc Go.Proofs.Tryz.prog 158 = true := by kernel_rfl
theorem tzero_158 : tzero Go.Proofs.Tryz.prog 158 = some (.agg #[.string { data := #[] }]) := by kernel_rfl
theorem tfld_158_0 : tfld Go.Proofs.Tryz.prog 158 0 = some (9, 0) := by kernel_rfl
theorem fldA_158_0 : fldA Go.Proofs.Tryz.prog 158 0 = some 0 := by kernel_rfl
theorem tok_159 : tok Go.Proofs.Tryz.prog 159 = true := by kernel_rfl
theorem tsz_159 : tsz Go.Proofs.Tryz.prog 159 = 1 := by kernel_rfl
theorem tby_159 : tbytes Go.Proofs.Tryz.prog 159 = 8 := by kernel_rfl
theorem tagg_159 : tagg Go.Proofs.Tryz.prog 159 = false := by kernel_rfl
theorem tconc_159 : tconc Go.Proofs.Tryz.prog 159 = true := by kernel_rfl
theorem tzero_159 : tzero Go.Proofs.Tryz.prog 159 = some .nilFunc := by kernel_rfl
theorem tok_160 : tok Go.Proofs.Tryz.prog 160 = true := by kernel_rfl
theorem tsz_160 : tsz Go.Proofs.Tryz.prog 160 = 24 := by kernel_rfl
theorem tby_160 : tbytes Go.Proofs.Tryz.prog 160 = 24 := by kernel_rfl
theorem tagg_160 : tagg Go.Proofs.Tryz.prog 160 = true := by kernel_rfl
theorem tconc_160 : tconc Go.Proofs.Tryz.prog 160 = true := by kernel_rfl
theorem tzero_160 : tzero Go.Proofs.Tryz.prog 160 = some (.agg #[.int .u8 0, .int .u8 0, .int .u8 0, .int .u8 0, .int .u8 0, .int .u8 0, .int .u8 0, .int .u8 0, .int .u8 0, .int .u8 0, .int .u8 0, .int .u8 0, .int .u8 0, .int .u8 0, .int .u8 0, .int .u8 0, .int .u8 0, .int .u8 0, .int .u8 0, .int .u8 0, .int .u8 0, .int .u8 0, .int .u8 0, .int .u8 0]) := by kernel_rfl
theorem tarr_160 : tarr Go.Proofs.Tryz.prog 160 = some (24, 5) := by kernel_rfl
theorem tok_161 : tok Go.Proofs.Tryz.prog 161 = true := by kernel_rfl
theorem tsz_161 : tsz Go.Proofs.Tryz.prog 161 = 1 := by kernel_rfl
theorem tby_161 : tbytes Go.Proofs.Tryz.prog 161 = 8 := by kernel_rfl
theorem tagg_161 : tagg Go.Proofs.Tryz.prog 161 = false := by kernel_rfl
theorem tconc_161 : tconc Go.Proofs.Tryz.prog 161 = true := by kernel_rfl
theorem tzero_161 : tzero Go.Proofs.Tryz.prog 161 = some .nilFunc := by kernel_rfl
theorem tok_162 : tok Go.Proofs.Tryz.prog 162 = true := by kernel_rfl
theorem tsz_162 : tsz Go.Proofs.Tryz.prog 162 = 1 := by kernel_rfl
theorem tby_162 : tbytes Go.Proofs.Tryz.prog 162 = 8 := by kernel_rfl
theorem tagg_162 : tagg Go.Proofs.Tryz.prog 162 = false := by kernel_rfl
theorem tconc_162 : tconc Go.Proofs.Tryz.prog 162 = true := by kernel_rfl
theorem tzero_162 : tzero Go.Proofs.Tryz.prog 162 = some .nilFunc := by kernel_rfl
theorem tok_163 : tok Go.Proofs.Tryz.prog 163 = true := by kernel_rfl
theorem tsz_163 : tsz Go.Proofs.Tryz.prog 163 = 1 := by kernel_rfl
theorem tby_163 : tbytes Go.Proofs.Tryz.prog 163 = 0 := by kernel_rfl
theorem tagg_163 : tagg Go.Proofs.Tryz.prog 163 = false := by kernel_rfl
theorem tconc_163 : tconc Go.Proofs.Tryz.prog 163 = true := by kernel_rfl
theorem tzero_163 : tzero Go.Proofs.Tryz.prog 163 = some (.tuple #[.slice none 0 0, .string { data := #[] }]) := by kernel_rfl
theorem tok_164 : tok Go.Proofs.Tryz.prog 164 = true := by kernel_rfl
theorem tsz_164 : tsz Go.Proofs.Tryz.prog 164 = 1 := by kernel_rfl
theorem tby_164 : tbytes Go.Proofs.Tryz.prog 164 = 8 := by kernel_rfl
theorem tagg_164 : tagg Go.Proofs.Tryz.prog 164 = false := by kernel_rfl
theorem tconc_164 : tconc Go.Proofs.Tryz.prog 164 = true := by kernel_rfl
theorem tzero_164 : tzero Go.Proofs.Tryz.prog 164 = some .nilFunc := by kernel_rfl
theorem tok_165 : tok Go.Proofs.Tryz.prog 165 = true := by kernel_rfl
theorem tsz_165 : tsz Go.Proofs.Tryz.prog 165 = 20 := by kernel_rfl
theorem tby_165 : tbytes Go.Proofs.Tryz.prog 165 = 160 := by kernel_rfl
theorem tagg_165 : tagg Go.Proofs.Tryz.prog 165 = true := by kernel_rfl
theorem tconc_165 : tconc Go.Proofs.Tryz.prog 165 = true := by kernel_rfl
theorem tzero_165 : tzero Go.Proofs.Tryz.prog 165 = some (.agg #[.int .u64 0, .int .u64 0, .int .u64 0, .int .u64 0, .int .u64 0, .int .u64 0, .int .u64 0, .int .u64 0, .int .u64 0, .int .u64 0, .int .u64 0, .int .u64 0, .int .u64 0, .int .u64 0, .int .u64 0, .int .u64 0, .int .u64 0, .int .u64 0, .int .u64 0, .int .u64 0]) := by kernel_rfl
theorem tarr_165 : tarr Go.Proofs.Tryz.prog 165 = some (20, 146) := by kernel_rfl
theorem tok_166 : tok Go.Proofs.Tryz.prog 166 = true := by kernel_rfl
theorem tsz_166 : tsz Go.Proofs.Tryz.prog 166 = 1 := by kernel_rfl
theorem tby_166 : tbytes Go.Proofs.Tryz.prog 166 = 4 := by kernel_rfl
theorem tagg_166 : tagg Go.Proofs.Tryz.prog 166 = false := by kernel_rfl
theorem tconc_166 : tconc Go.Proofs.Tryz.prog 166 = true := by kernel_rfl
theorem tzero_166 : tzero Go.Proofs.Tryz.prog 166 = some (.int .u32 0) := by kernel_rfl
theorem tkind_166 : tkind Go.Proofs.Tryz.prog 166 = some .u32 := by kernel_rfl
theorem tok_167 : tok Go.Proofs.Tryz.prog 167 = true := by kernel_rfl
theorem tsz_167 : tsz Go.Proofs.Tryz.prog 167 = 65 := by kernel_rfl
theorem tby_167 : tbytes Go.Proofs.Tryz.prog 167 = 65 := by kernel_rfl
theorem tagg_167 : tagg Go.Proofs.Tryz.prog 167 = true := by kernel_rfl
theorem tconc_167 : tconc Go.Proofs.Tryz.prog 167 = true := by kernel_rfl
theorem tzero_167 : tzero Go.Proofs.Tryz.prog 167 = some (.agg #[.int .u8 0, .int .u8 0, .int .u8 0, .int .u8 0, .int .u8 0, .int .u8 0, .int .u8 0, .int .u8 0, .int .u8 0, .int .u8 0, .int .u8 0, .int .u8 0, .int .u8 0, .int .u8 0, .int .u8 0, .int .u8 0, .int .u8 0, .int .u8 0, .int .u8 0, .int .u8 0, .int .u8 0, .int .u8 0, .int .u8 0, .int .u8 0, .int .u8 0, .int .u8 0, .int .u8 0, .int .u8 0, .int .u8 0, .int .u8 0, .int .u8 0, .int .u8 0, .int .u8 0, .int .u8 0, .int .u8 0, .int .u8 0, .int .u8 0, .int .u8 0, .int .u8 0, .int .u8 0, .int .u8 0, .int .u8 0, .int .u8 0, .int .u8 0, .int .u8 0, .int .u8 0, .int .u8 0, .int .u8 0, .int .u8 0, .int .u8 0, .int .u8 0, .int .u8 0, .int .u8 0, .int .u8 0, .int .u8 0, .int .u8 0, .int .u8 0, .int .u8 0, .int .u8 0, .int .u8 0, .int .u8 0, .int .u8 0, .int .u8 0, .int .u8 0, .int .u8 0]) := by kernel_rfl
theorem tarr_167 : tarr Go.Proofs.Tryz.prog 167 = some (65, 5) := by kernel_rfl
theorem tok_168 : tok Go.Proofs.Tryz.prog 168 = true := by kernel_rfl
theorem tsz_168 : tsz Go.Proofs.Tryz.prog 168 = 1 := by kernel_rfl
theorem tby_168 : tbytes Go.Proofs.Tryz.prog 168 = 8 := by kernel_rfl
theorem tagg_168 : tagg Go.Proofs.Tryz.prog 168 = false := by kernel_rfl
theorem tconc_168 : tconc Go.Proofs.Tryz.prog 168 = true := by kernel_rfl
theorem tzero_168 : tzero Go.Proofs.Tryz.prog 168 = some .nilFunc := by kernel_rfl
theorem tok_169 : tok Go.Proofs.Tryz.prog 169 = true := by kernel_rfl
theorem tsz_169 : tsz Go.Proofs.Tryz.prog 169 = 1 := by kernel_rfl
theorem tby_169 : tbytes Go.Proofs.Tryz.prog 169 = 8 := by kernel_rfl
theorem tagg_169 : tagg Go.Proofs.Tryz.prog 169 = false := by kernel_rfl
theorem tconc_169 : tconc Go.Proofs.Tryz.prog 169 = true := by kernel_rfl
theorem tzero_169 : tzero Go.Proofs.Tryz.prog 169 = some .nilFunc := by kernel_rfl
theorem tok_170 : tok Go.Proofs.Tryz.prog 170 = true := by kernel_rfl
theorem tsz_170 : tsz Go.Proofs.Tryz.prog 170 = 1 := by kernel_rfl
theorem tby_170 : tbytes Go.Proofs.Tryz.prog 170 = 8 := by kernel_rfl
theorem tagg_170 : tagg Go.Proofs.Tryz.prog 170 = false := by kernel_rfl
theorem tconc_170 : tconc Go.Proofs.Tryz.prog 170 = true := by kernel_rfl
theorem tzero_170 : tzero Go.Proofs.Tryz.prog 170 = some .nilFunc := by kernel_rfl
theorem tok_171 : tok Go.Proofs.Tryz.prog 171 = true := by kernel_rfl
theorem tsz_171 : tsz Go.Proofs.Tryz.prog 171 = 32 := by kernel_rfl
theorem tby_171 : tbytes Go.Proofs.Tryz.prog 171 = 32 := by kernel_rfl
theorem tagg_171 : tagg Go.Proofs.Tryz.prog 171 = true := by kernel_rfl
theorem tconc_171 : tconc Go.Proofs.Tryz.prog 171 = true := by kernel_rfl
theorem tzero_171 : tzero Go.Proofs.Tryz.prog 171 = some (.agg #[.int .u8 0, .int .u8 0, .int .u8 0, .int .u8 0, .int .u8 0, .int .u8 0, .int .u8 0, .int .u8 0, .int .u8 0, .int .u8 0, .int .u8 0, .int .u8 0, .int .u8 0, .int .u8 0, .int .u8 0, .int .u8 0, .int .u8 0, .int .u8 0, .int .u8 0, .int .u8 0, .int .u8 0, .int .u8 0, .int .u8 0, .int .u8 0, .int .u8 0, .int .u8 0, .int .u8 0, .int .u8 0, .int .u8 0, .int .u8 0, .int .u8 0, .int .u8 0]) := by kernel_rfl
theorem tarr_171 : tarr Go.Proofs.Tryz.prog 171 = some (32, 5) := by kernel_rfl
theorem tok_172 : tok Go.Proofs.Tryz.prog 172 = true := by kernel_rfl
theorem tsz_172 : tsz Go.Proofs.Tryz.prog 172 = 64 := by kernel_rfl
theorem tby_172 : tbytes Go.Proofs.Tryz.prog 172 = 64 := by kernel_rfl
theorem tagg_172 : tagg Go.Proofs.Tryz.prog 172 = true := by kernel_rfl
theorem tconc_172 : tconc Go.Proofs.Tryz.prog 172 = true := by kernel_rfl
theorem tzero_172 : tzero Go.Proofs.Tryz.prog 172 = some (.agg #[.int .u8 0, .int .u8 0, .int .u8 0, .int .u8 0, .int .u8 0, .int .u8 0, .int .u8 0, .int .u8 0, .int .u8 0, .int .u8 0, .int .u8 0, .int .u8 0, .int .u8 0, .int .u8 0, .int .u8 0, .int .u8 0, .int .u8 0, .int .u8 0, .int .u8 0, .int .u8 0, .int .u8 0, .int .u8 0, .int .u8 0, .int .u8 0, .int .u8 0, .int .u8 0, .int .u8 0, .int .u8 0, .int .u8 0, .int .u8 0, .int .u8 0, .int .u8 0, .int .u8 0, .int .u8 0, .int .u8 0, .int .u8 0, .int .u8 0, .int .u8 0, .int .u8 0, .int .u8 0, .int .u8 0, .int .u8 0, .int .u8 0, .int .u8 0, .int .u8 0, .int .u8 0, .int .u8 0, .int .u8 0, .int .u8 0, .int .u8 0, .int .u8 0, .int .u8 0, .int .u8 0, .int .u8 0, .int .u8 0, .int .u8 0, .int .u8 0, .int .u8 0, .int .u8 0, .int .u8 0, .int .u8 0, .int .u8 0, .int .u8 0, .int .u8 0]) := by kernel_rfl
theorem tarr_172 : tarr Go.Proofs.Tryz.prog 172 = some (64, 5) := by kernel_rfl
theorem tok_173 : tok Go.Proofs.Tryz.prog 173 = true := by kernel_rfl
theorem tsz_173 : tsz Go.Proofs.Tryz.prog 173 = 1 := by kernel_rfl
theorem tby_173 : tbytes Go.Proofs.Tryz.prog 173 = 8 := by kernel_rfl
theorem tagg_173 : tagg Go.Proofs.Tryz.prog 173 = false := by kernel_rfl
theorem tconc_173 : tconc Go.Proofs.Tryz.prog 173 = true := by kernel_rfl
theorem tzero_173 : tzero Go.Proofs.Tryz.prog 173 = some .nilFunc := by kernel_rfl
theorem tok_174 : tok Go.Proofs.Tryz.prog 174 = true := by kernel_rfl
theorem tsz_174 : tsz Go.Proofs.Tryz.prog 174 = 4 := by kernel_rfl
theorem tby_174 : tbytes Go.Proofs.Tryz.prog 174 = 40 := by kernel_rfl
theorem tagg_174 : tagg Go.Proofs.Tryz.prog 174 = true := by kernel_rfl
theorem tconc_174 : tconc Go.Proofs.Tryz.prog 174 = true := by kernel_rfl
theorem tzero_174 : tzero Go.Proofs.Tryz.prog 174 = some (.agg #[.pointer none, .pointer none, .pointer none, .string { data := #[] }]) := by kernel_rfl
theorem tfld_174_0 : tfld Go.Proofs.Tryz.prog 174 0 = some (17, 0) := by kernel_rfl
theorem fldA_174_0 : fldA Go.Proofs.Tryz.prog 174 0 = some 0 := by kernel_rfl
theorem tfld_174_1 : tfld Go.Proofs.Tryz.prog 174 1 = some (17, 1) := by kernel_rfl
theorem fldA_174_1 : fldA Go.Proofs.Tryz.prog 174 1 = some 1 := by kernel_rfl
theorem tfld_174_2 : tfld Go.Proofs.Tryz.prog 174 2 = some (17, 2) := by kernel_rfl
theorem fldA_174_2 : fldA Go.Proofs.Tryz.prog 174 2 = some 2 := by kernel_rfl
theorem tfld_174_3 : tfld Go.Proofs.Tryz.prog 174 3 = some (9, 3) := by kernel_rfl
theorem fldA_174_3 : fldA Go.Proofs.Tryz.prog 174 3 = some 3 := by kernel_rfl
theorem tok_175 : tok Go.Proofs.Tryz.prog 175 = true := by kernel_rfl
theorem tsz_175 : tsz Go.Proofs.Tryz.prog 175 = 4 := by kernel_rfl
theorem tby_175 : tbytes Go.Proofs.Tryz.prog 175 = 40 := by kernel_rfl
theorem tagg_175 : tagg Go.Proofs.Tryz.prog 175 = true := by kernel_rfl
theorem tconc_175 : tconc Go.Proofs.Tryz.prog 175 = true := by kernel_rfl
theorem tzero_175 : tzero Go.Proofs.Tryz.prog 175 = some (.agg #[.pointer none, .pointer none, .pointer none, .string { data := #[] }]) := by kernel_rfl
theorem tfld_175_0 : tfld Go.Proofs.Tryz.prog 175 0 = some (17, 0) := by kernel_rfl
theorem fldA_175_0 : fldA Go.Proofs.Tryz.prog 175 0 = some 0 := by kernel_rfl
theorem tfld_175_1 : tfld Go.Proofs.Tryz.prog 175 1 = some (17, 1) := by kernel_rfl
theorem fldA_175_1 : fldA Go.Proofs.Tryz.prog 175 1 = some 1 := by kernel_rfl
theorem tfld_175_2 : tfld Go.Proofs.Tryz.prog 175 2 = some (17, 2) := by kernel_rfl
theorem fldA_175_2 : fldA Go.Proofs.Tryz.prog 175 2 = some 2 := by kernel_rfl
theorem tfld_175_3 : tfld Go.Proofs.Tryz.prog 175 3 = some (9, 3) := by kernel_rfl
theorem fldA_175_3 : fldA Go.Proofs.Tryz.prog 175 3 = some 3 := by kernel_rfl
theorem tok_176 : tok Go.Proofs.Tryz.prog 176 = true := by kernel_rfl
theorem tsz_176 : tsz Go.Proofs.Tryz.prog 176 = 0 := by kernel_rfl
theorem tby_176 : tbytes Go.Proofs.Tryz.prog 176 = 0 := by kernel_rfl
theorem tagg_176 : tagg Go.Proofs.Tryz.prog 176 = true := by kernel_rfl
theorem tconc_176 : tconc Go.Proofs.Tryz.prog 176 = true := by kernel_rfl
theorem tzero_176 : tzero Go.Proofs.Tryz.prog 176 = some (.agg #[]) := by kernel_rfl
theorem tarr_176 : tarr Go.Proofs.Tryz.prog 176 = some (0, 16) := by kernel_rfl
theorem tok_177 : tok Go.Proofs.Tryz.prog 177 = true := by kernel_rfl
theorem tsz_177 : tsz Go.Proofs.Tryz.prog 177 = 0 := by kernel_rfl
theorem tby_177 : tbytes Go.Proofs.Tryz.prog 177 = 0 := by kernel_rfl
theorem tagg_177 : tagg Go.Proofs.Tryz.prog 177 = true := by kernel_rfl
theorem tconc_177 : tconc Go.Proofs.Tryz.prog 177 = true := by kernel_rfl
theorem tzero_177 : tzero Go.Proofs.Tryz.prog 177 = some (.agg #[]) := by kernel_rfl
theorem tfld_177_0 : tfld Go.Proofs.Tryz.prog 177 0 = some (176, 0) := by kernel_rfl
theorem tok_178 : tok Go.Proofs.Tryz.prog 178 = true := by kernel_rfl
theorem tsz_178 : tsz Go.Proofs.Tryz.prog 178 = 0 := by kernel_rfl
theorem tby_178 : tbytes Go.Proofs.Tryz.prog 178 = 0 := by kernel_rfl
theorem tagg_178 : tagg Go.Proofs.Tryz.prog 178 = true := by kernel_rfl
theorem tconc_178 : tconc Go.Proofs.Tryz.prog 178 = true := by kernel_rfl
theorem tzero_178 : tzero Go.Proofs.Tryz.prog 178 = some (.agg #[]) := by kernel_rfl
theorem tfld_178_0 : tfld Go.Proofs.Tryz.prog 178 0 = some (176, 0) := by kernel_rfl
theorem tok_179 : tok Go.Proofs.Tryz.prog 179 = true := by kernel_rfl
theorem tsz_179 : tsz Go.Proofs.Tryz.prog 179 = 1 := by kernel_rfl
theorem tby_179 : tbytes Go.Proofs.Tryz.prog 179 = 1 := by kernel_rfl
theorem tagg_179 : tagg Go.Proofs.Tryz.prog 179 = false := by kernel_rfl
theorem tconc_179 : tconc Go.Proofs.Tryz.prog 179 = true := by kernel_rfl
theorem tzero_179 : tzero Go.Proofs.Tryz.prog 179 = some (.int .u8 0) := by kernel_rfl
theorem tkind_179 : tkind Go.Proofs.Tryz.prog 179 = some .u8 := by kernel_rfl
theorem tok_180 : tok Go.Proofs.Tryz.prog 180 = true := by kernel_rfl
theorem tsz_180 : tsz Go.Proofs.Tryz.prog 180 = 1 := by kernel_rfl
theorem tby_180 : tbytes Go.Proofs.Tryz.prog 180 = 1 := by kernel_rfl
theorem tagg_180 : tagg Go.Proofs.Tryz.prog 180 = false := by kernel_rfl
theorem tconc_180 : tconc Go.Proofs.Tryz.prog 180 = true := by kernel_rfl
theorem tzero_180 : tzero Go.Proofs.Tryz.prog 180 = some (.int .u8 0) := by kernel_rfl
theorem tkind_180 : tkind Go.Proofs.Tryz.prog 180 = some .u8 := by kernel_rfl
theorem meth_180_String : methB Go.Proofs.Tryz.prog 180 "String" = some 125 := by kernel_rfl
theorem tok_181 : tok Go.Proofs.Tryz.prog 181 = true := by kernel_rfl
theorem tsz_181 : tsz Go.Proofs.Tryz.prog 181 = 1 := by kernel_rfl
theorem tby_181 : tbytes Go.Proofs.Tryz.prog 181 = 8 := by kernel_rfl
theorem tagg_181 : tagg Go.Proofs.Tryz.prog 181 = false := by kernel_rfl
theorem tconc_181 : tconc Go.Proofs.Tryz.prog 181 = true := by kernel_rfl
theorem tzero_181 : tzero Go.Proofs.Tryz.prog 181 = some .nilFunc := by kernel_rfl
theorem tok_182 : tok Go.Proofs.Tryz.prog 182 = true := by kernel_rfl
theorem tsz_182 : tsz Go.Proofs.Tryz.prog 182 = 1 := by kernel_rfl
theorem tby_182 : tbytes Go.Proofs.Tryz.prog 182 = 4 := by kernel_rfl
theorem tagg_182 : tagg Go.Proofs.Tryz.prog 182 = false := by kernel_rfl
theorem tconc_182 : tconc Go.Proofs.Tryz.prog 182 = true := by kernel_rfl
theorem tzero_182 : tzero Go.Proofs.Tryz.prog 182 = some (.int .i32 0) := by kernel_rfl
theorem tkind_182 : tkind Go.Proofs.Tryz.prog 182 = some .i32 := by kernel_rfl
theorem tok_183 : tok Go.Proofs.Tryz.prog 183 = true := by kernel_rfl
theorem tsz_183 : tsz Go.Proofs.Tryz.prog 183 = 1 := by kernel_rfl
theorem tby_183 : tbytes Go.Proofs.Tryz.prog 183 = 4 := by kernel_rfl
theorem tagg_183 : tagg Go.Proofs.Tryz.prog 183 = false := by kernel_rfl
theorem tconc_183 : tconc Go.Proofs.Tryz.prog 183 = true := by kernel_rfl
theorem tzero_183 : tzero Go.Proofs.Tryz.prog 183 = some (.int .i32 0) := by kernel_rfl
theorem tkind_183 : tkind Go.Proofs.Tryz.prog 183 = some .i32 := by kernel_rfl
theorem tok_184 : tok Go.Proofs.Tryz.prog 184 = true := by kernel_rfl
theorem tsz_184 : tsz Go.Proofs.Tryz.prog 184 = 11 := by kernel_rfl
theorem tby_184 : tbytes Go.Proofs.Tryz.prog 184 = 48 := by kernel_rfl
theorem tagg_184 : tagg Go.Proofs.Tryz.prog 184 = true := by kernel_rfl
theorem tconc_184 : tconc Go.Proofs.Tryz.prog 184 = true := by kernel_rfl
theorem tzero_184 : tzero Go.Proofs.Tryz.prog 184 = some (.agg #[.int .u64 0, .int .u64 0, .int .u32 0, .int .u8 0, .int .u8 0, .int .u8 0, .int .u8 0, .nilFunc, .pointer none, .int .i32 0, .int .i32 0]) := by kernel_rfl
theorem tfld_184_0 : tfld Go.Proofs.Tryz.prog 184 0 = some (12, 0) := by kernel_rfl
theorem fldA_184_0 : fldA Go.Proofs.Tryz.prog 184 0 = some 0 := by kernel_rfl
theorem tfld_184_1 : tfld Go.Proofs.Tryz.prog 184 1 = some (12, 1) := by kernel_rfl
theorem fldA_184_1 : fldA Go.Proofs.Tryz.prog 184 1 = some 1 := by kernel_rfl
theorem tfld_184_2 : tfld Go.Proofs.Tryz.prog 184 2 = some (166, 2) := by kernel_rfl
theorem fldA_184_2 : fldA Go.Proofs.Tryz.prog 184 2 = some 2 := by kernel_rfl
theorem tfld_184_3 : tfld Go.Proofs.Tryz.prog 184 3 = some (179, 3) := by kernel_rfl
theorem fldA_184_3 : fldA Go.Proofs.Tryz.prog 184 3 = some 3 := by kernel_rfl
theorem tfld_184_4 : tfld Go.Proofs.Tryz.prog 184 4 = some (5, 4) := by kernel_rfl
theorem fldA_184_4 : fldA Go.Proofs.Tryz.prog 184 4 = some 4 := by kernel_rfl
theorem tfld_184_5 : tfld Go.Proofs.Tryz.prog 184 5 = some (5, 5) := by kernel_rfl
theorem fldA_184_5 : fldA Go.Proofs.Tryz.prog 184 5 = some 5 := by kernel_rfl
theorem tfld_184_6 : tfld Go.Proofs.Tryz.prog 184 6 = some (180, 6) := by kernel_rfl
theorem fldA_184_6 : fldA Go.Proofs.Tryz.prog 184 6 = some 6 := by kernel_rfl
theorem tfld_184_7 : tfld Go.Proofs.Tryz.prog 184 7 = some (181, 7) := by kernel_rfl
theorem fldA_184_7 : fldA Go.Proofs.Tryz.prog 184 7 = some 7 := by kernel_rfl
theorem tfld_184_8 : tfld Go.Proofs.Tryz.prog 184 8 = some (155, 8) := by kernel_rfl
theorem fldA_184_8 : fldA Go.Proofs.Tryz.prog 184 8 = some 8 := by kernel_rfl
theorem tfld_184_9 : tfld Go.Proofs.Tryz.prog 184 9 = some (182, 9) := by kernel_rfl
theorem fldA_184_9 : fldA Go.Proofs.Tryz.prog 184 9 = some 9 := by kernel_rfl
theorem tfld_184_10 : tfld Go.Proofs.Tryz.prog 184 10 = some (183, 10) := by kernel_rfl
theorem fldA_184_10 : fldA Go.Proofs.Tryz.prog 184 10 = some 10 := by kernel_rfl
theorem tok_185 : tok Go.Proofs.Tryz.prog 185 = true := by kernel_rfl
theorem tsz_185 : tsz Go.Proofs.Tryz.prog 185 = 11 := by kernel_rfl
theorem tby_185 : tbytes Go.Proofs.Tryz.prog 185 = 48 := by kernel_rfl
theorem tagg_185 : tagg Go.Proofs.Tryz.prog 185 = true := by kernel_rfl
theorem tconc_185 : tconc Go.Proofs.Tryz.prog 185 = true := by kernel_rfl
theorem tzero_185 : tzero Go.Proofs.Tryz.prog 185 = some (.agg #[.int .u64 0, .int .u64 0, .int .u32 0, .int .u8 0, .int .u8 0, .int .u8 0, .int .u8 0, .nilFunc, .pointer none, .int .i32 0, .int .i32 0]) := by kernel_rfl
theorem tfld_185_0 : tfld Go.Proofs.Tryz.prog 185 0 = some (12, 0) := by kernel_rfl
theorem fldA_185_0 : fldA Go.Proofs.Tryz.prog 185 0 = some 0 := by kernel_rfl
theorem tfld_185_1 : tfld Go.Proofs.Tryz.prog 185 1 = some (12, 1) := by kernel_rfl
theorem fldA_185_1 : fldA Go.Proofs.Tryz.prog 185 1 = some 1 := by kernel_rfl
theorem tfld_185_2 : tfld Go.Proofs.Tryz.prog 185 2 = some (166, 2) := by kernel_rfl
theorem fldA_185_2 : fldA Go.Proofs.Tryz.prog 185 2 = some 2 := by kernel_rfl
theorem tfld_185_3 : tfld Go.Proofs.Tryz.prog 185 3 = some (179, 3) := by kernel_rfl
theorem fldA_185_3 : fldA Go.Proofs.Tryz.prog 185 3 = some 3 := by kernel_rfl
theorem tfld_185_4 : tfld Go.Proofs.Tryz.prog 185 4 = some (5, 4) := by kernel_rfl
theorem fldA_185_4 : fldA Go.Proofs.Tryz.prog 185 4 = some 4 := by kernel_rfl
theorem tfld_185_5 : tfld Go.Proofs.Tryz.prog 185 5 = some (5, 5) := by kernel_rfl
theorem fldA_185_5 : fldA Go.Proofs.Tryz.prog 185 5 = some 5 := by kernel_rfl
theorem tfld_185_6 : tfld Go.Proofs.Tryz.prog 185 6 = some (180, 6) := by kernel_rfl
theorem fldA_185_6 : fldA Go.Proofs.Tryz.prog 185 6 = some 6 := by kernel_rfl
theorem tfld_185_7 : tfld Go.Proofs.Tryz.prog 185 7 = some (181, 7) := by kernel_rfl
theorem fldA_185_7 : fldA Go.Proofs.Tryz.prog 185 7 = some 7 := by kernel_rfl
theorem tfld_185_8 : tfld Go.Proofs.Tryz.prog 185 8 = some (155, 8) := by kernel_rfl
theorem fldA_185_8 : fldA Go.Proofs.Tryz.prog 185 8 = some 8 := by kernel_rfl
theorem tfld_185_9 : tfld Go.Proofs.Tryz.prog 185 9 = some (182, 9) := by kernel_rfl
theorem fldA_185_9 : fldA Go.Proofs.Tryz.prog 185 9 = some 9 := by kernel_rfl
theorem tfld_185_10 : tfld Go.Proofs.Tryz.prog 185 10 = some (183, 10) := by kernel_rfl
theorem fldA_185_10 : fldA Go.Proofs.Tryz.prog 185 10 = some 10 := by kernel_rfl
theorem tok_186 : tok Go.Proofs.Tryz.prog 186 = true := by kernel_rfl
theorem tsz_186 : tsz Go.Proofs.Tryz.prog 186 = 1 := by kernel_rfl
theorem tby_186 : tbytes Go.Proofs.Tryz.prog 186 = 8 := by kernel_rfl
theorem tagg_186 : tagg Go.Proofs.Tryz.prog 186 = false := by kernel_rfl
theorem tconc_186 : tconc Go.Proofs.Tryz.prog 186 = true := by kernel_rfl
theorem tzero_186 : tzero Go.Proofs.Tryz.prog 186 = some .nilFunc := by kernel_rfl
theorem tok_187 : tok Go.Proofs.Tryz.prog 187 = true := by kernel_rfl
theorem tsz_187 : tsz Go.Proofs.Tryz.prog 187 = 1 := by kernel_rfl
theorem tby_187 : tbytes Go.Proofs.Tryz.prog 187 = 8 := by kernel_rfl
theorem tagg_187 : tagg Go.Proofs.Tryz.prog 187 = false := by kernel_rfl
theorem tconc_187 : tconc Go.Proofs.Tryz.prog 187 = true := by kernel_rfl
theorem tzero_187 : tzero Go.Proofs.Tryz.prog 187 = some (.pointer none) := by kernel_rfl
theorem tok_188 : tok Go.Proofs.Tryz.prog 188 = true := by kernel_rfl
theorem tsz_188 : tsz Go.Proofs.Tryz.prog 188 = 1 := by kernel_rfl
theorem tby_188 : tbytes Go.Proofs.Tryz.prog 188 = 8 := by kernel_rfl
theorem tagg_188 : tagg Go.Proofs.Tryz.prog 188 = false := by kernel_rfl
theorem tconc_188 : tconc Go.Proofs.Tryz.prog 188 = true := by kernel_rfl
theorem tzero_188 : tzero Go.Proofs.Tryz.prog 188 = some .nilFunc := by kernel_rfl
theorem tok_189 : tok Go.Proofs.Tryz.prog 189 = true := by kernel_rfl
theorem tsz_189 : tsz Go.Proofs.Tryz.prog 189 = 1 := by kernel_rfl
theorem tby_189 : tbytes Go.Proofs.Tryz.prog 189 = 8 := by kernel_rfl
theorem tagg_189 : tagg Go.Proofs.Tryz.prog 189 = false := by kernel_rfl
theorem tconc_189 : tconc Go.Proofs.Tryz.prog 189 = true := by kernel_rfl
theorem tzero_189 : tzero Go.Proofs.Tryz.prog 189 = some .nilFunc := by kernel_rfl
theorem tok_190 : tok Go.Proofs.Tryz.prog 190 = true := by kernel_rfl
theorem tsz_190 : tsz Go.Proofs.Tryz.prog 190 = 1 := by kernel_rfl
theorem tby_190 : tbytes Go.Proofs.Tryz.prog 190 = 8 := by kernel_rfl
theorem tagg_190 : tagg Go.Proofs.Tryz.prog 190 = false := by kernel_rfl
theorem tconc_190 : tconc Go.Proofs.Tryz.prog 190 = true := by kernel_rfl
theorem tzero_190 : tzero Go.Proofs.Tryz.prog 190 = some .nilFunc := by kernel_rfl
theorem okF_2 : okF Go.Proofs.Tryz.prog 2 = true := by kernel_rfl
theorem okF_3 : okF Go.Proofs.Tryz.prog 3 = true := by kernel_rfl
theorem okF_4 : okF Go.Proofs.Tryz.prog 4 = true := by kernel_rfl
theorem okF_5 : okF Go.Proofs.Tryz.prog 5 = true := by kernel_rfl
theorem okF_6 : okF Go.Proofs.Tryz.prog 6 = true := by kernel_rfl
theorem okF_7 : okF Go.Proofs.Tryz.prog 7 = true := by kernel_rfl
theorem okF_8 : okF Go.Proofs.Tryz.prog 8 = true := by kernel_rfl
theorem okF_9 : okF Go.Proofs.Tryz.prog 9 = true := by kernel_rfl
theorem okF_10 : okF Go.Proofs.Tryz.prog 10 = true := by kernel_rfl
theorem okF_11 : okF Go.Proofs.Tryz.prog 11 = true := by kernel_rfl
theorem okF_12 : okF Go.Proofs.Tryz.prog 12 = true := by kernel_rfl
theorem okF_13 : okF Go.Proofs.Tryz.prog 13 = true := by kernel_rfl
theorem okF_14 : okF Go.Proofs.Tryz.prog 14 = true := by kernel_rfl
theorem okF_15 : okF Go.Proofs.Tryz.prog 15 = true := by kernel_rfl
theorem okF_16 : okF Go.Proofs.Tryz.prog 16 = true := by kernel_rfl
theorem okF_17 : okF Go.Proofs.Tryz.prog 17 = true := by kernel_rfl
theorem okF_18 : okF Go.Proofs.Tryz.prog 18 = true := by kernel_rfl
theorem okF_19 : okF Go.Proofs.Tryz.prog 19 = true := by kernel_rfl
theorem okF_20 : okF Go.Proofs.Tryz.prog 20 = true := by kernel_rfl
theorem okF_21 : okF Go.Proofs.Tryz.prog 21 = true := by kernel_rfl
theorem okF_22 : okF Go.Proofs.Tryz.prog 22 = true := by kernel_rfl
theorem okF_23 : okF Go.Proofs.Tryz.prog 23 = true := by kernel_rfl
theorem okF_24 : okF Go.Proofs.Tryz.prog 24 = true := by kernel_rfl
theorem okF_25 : okF Go.Proofs.Tryz.prog 25 = true := by kernel_rfl
theorem okF_26 : okF Go.Proofs.Tryz.prog 26 = true := by kernel_rfl
theorem okF_27 : okF Go.Proofs.Tryz.prog 27 = true := by kernel_rfl
theorem okF_28 : okF Go.Proofs.Tryz.prog 28 = true := by kernel_rfl
theorem okF_29 : okF Go.Proofs.Tryz.prog 29 = true := by kernel_rfl
theorem okF_30 : okF Go.Proofs.Tryz.prog 30 = true := by kernel_rfl
theorem okF_31 : okF Go.Proofs.Tryz.prog 31 = true := by kernel_rfl
theorem okF_32 : okF Go.Proofs.Tryz.prog 32 = true := by kernel_rfl
theorem okF_33 : okF Go.Proofs.Tryz.prog 33 = true := by kernel_rfl
theorem okF_34 : okF Go.Proofs.Tryz.prog 34 = true := by kernel_rfl
theorem okF_35 : okF Go.Proofs.Tryz.prog 35 = true := by kernel_rfl
theorem okF_36 : okF Go.Proofs.Tryz.prog 36 = true := by kernel_rfl
theorem okF_37 : okF Go.Proofs.Tryz.prog 37 = true := by kernel_rfl
theorem okF_38 : okF Go.Proofs.Tryz.prog 38 = true := by kernel_rfl
theorem okF_39 : okF Go.Proofs.Tryz.prog 39 = true := by kernel_rfl
theorem okF_40 : okF Go.Proofs.Tryz.prog 40 = true := by kernel_rfl
theorem okF_41 : okF Go.Proofs.Tryz.prog 41 = true := by kernel_rfl
theorem okF_42 : okF Go.Proofs.Tryz.prog 42 = true := by kernel_rfl
theorem okF_43 : okF Go.Proofs.Tryz.prog 43 = true := by kernel_rfl
theorem okF_44 : okF Go.Proofs.Tryz.prog 44 = true := by kernel_rfl
theorem okF_45 : okF Go.Proofs.Tryz.prog 45 = true := by kernel_rfl
theorem okF_46 : okF Go.Proofs.Tryz.prog 46 = true := by kernel_rfl
theorem okF_47 : okF Go.Proofs.Tryz.prog 47 = true := by kernel_rfl
theorem okF_48 : okF Go.Proofs.Tryz.prog 48 = true := by kernel_rfl
theorem okF_49 : okF Go.Proofs.Tryz.prog 49 = true := by kernel_rfl
theorem okF_50 : okF Go.Proofs.Tryz.prog 50 = true := by kernel_rfl
theorem okF_51 : okF Go.Proofs.Tryz.prog 51 = true := by kernel_rfl
theorem okF_52 : okF Go.Proofs.Tryz.prog 52 = true := by kernel_rfl
theorem okF_53 : okF Go.Proofs.Tryz.prog 53 = true := by kernel_rfl
theorem okF_54 : okF Go.Proofs.Tryz.prog 54 = true := by kernel_rfl
theorem okF_55 : okF Go.Proofs.Tryz.prog 55 = true := by kernel_rfl
theorem okF_56 : okF Go.Proofs.Tryz.prog 56 = true := by kernel_rfl
theorem okF_57 : okF Go.Proofs.Tryz.prog 57 = true := by kernel_rfl
theorem okF_58 : okF Go.Proofs.Tryz.prog 58 = true := by kernel_rfl
theorem okF_59 : okF Go.Proofs.Tryz.prog 59 = true := by kernel_rfl
theorem okF_60 : okF Go.Proofs.Tryz.prog 60 = true := by kernel_rfl
theorem okF_61 : okF Go.Proofs.Tryz.prog 61 = true := by kernel_rfl
theorem okF_62 : okF Go.Proofs.Tryz.prog 62 = true := by kernel_rfl
theorem okF_63 : okF Go.Proofs.Tryz.prog 63 = true := by kernel_rfl
theorem okF_64 : okF Go.Proofs.Tryz.prog 64 = true := by kernel_rfl
theorem okF_65 : okF Go.Proofs.Tryz.prog 65 = true := by kernel_rfl
theorem okF_66 : okF Go.Proofs.Tryz.prog 66 = true := by kernel_rfl
theorem okF_67 : okF Go.Proofs.Tryz.prog 67 = true := by kernel_rfl
theorem okF_68 : okF Go.Proofs.Tryz.prog 68 = true := by kernel_rfl
theorem okF_69 : okF Go.Proofs.Tryz.prog 69 = true := by kernel_rfl
theorem okF_70 : okF Go.Proofs.Tryz.prog 70 = true := by kernel_rfl
theorem okF_71 : okF Go.Proofs.Tryz.prog 71 = true := by kernel_rfl
theorem okF_72 : okF Go.Proofs.Tryz.prog 72 = true := by kernel_rfl
theorem okF_73 : okF Go.Proofs.Tryz.prog 73 = true := by kernel_rfl
theorem okF_74 : okF Go.Proofs.Tryz.prog 74 = true := by kernel_rfl
theorem okF_75 : okF Go.Proofs.Tryz.prog 75 = true := by kernel_rfl
theorem okF_76 : okF Go.Proofs.Tryz.prog 76 = true := by kernel_rfl
theorem okF_77 : okF Go.Proofs.Tryz.prog 77 = true := by kernel_rfl
theorem okF_78 : okF Go.Proofs.Tryz.prog 78 = true := by kernel_rfl
theorem okF_79 : okF Go.Proofs.Tryz.prog 79 = true := by kernel_rfl
theorem okF_80 : okF Go.Proofs.Tryz.prog 80 = true := by kernel_rfl
theorem okF_81 : okF Go.Proofs.Tryz.prog 81 = true := by kernel_rfl
theorem okF_82 : okF Go.Proofs.Tryz.prog 82 = true := by kernel_rfl
theorem okF_83 : okF Go.Proofs.Tryz.prog 83 = true := by kernel_rfl
theorem okF_84 : okF Go.Proofs.Tryz.prog 84 = true := by kernel_rfl
theorem okF_85 : okF Go.Proofs.Tryz.prog 85 = true := by kernel_rfl
theorem okF_86 : okF Go.Proofs.Tryz.prog 86 = true := by kernel_rfl
theorem okF_87 : okF Go.Proofs.Tryz.prog 87 = true := by kernel_rfl
theorem okF_88 : okF Go.Proofs.Tryz.prog 88 = true := by kernel_rfl
theorem okF_89 : okF Go.Proofs.Tryz.prog 89 = true := by kernel_rfl
theorem okF_90 : okF Go.Proofs.Tryz.prog 90 = true := by kernel_rfl
theorem okF_91 : okF Go.Proofs.Tryz.prog 91 = true := by kernel_rfl
theorem okF_92 : okF Go.Proofs.Tryz.prog 92 = true := by kernel_rfl
theorem okF_93 : okF Go.Proofs.Tryz.prog 93 = true := by kernel_rfl
theorem okF_94 : okF Go.Proofs.Tryz.prog 94 = true := by kernel_rfl
theorem okF_95 : okF Go.Proofs.Tryz.prog 95 = true := by kernel_rfl
theorem okF_96 : okF Go.Proofs.Tryz.prog 96 = true := by kernel_rfl
theorem okF_97 : okF Go.Proofs.Tryz.prog 97 = true := by kernel_rfl
theorem okF_98 : okF Go.Proofs.Tryz.prog 98 = true := by kernel_rfl
theorem okF_99 : okF Go.Proofs.Tryz.prog 99 = true := by kernel_rfl
theorem okF_100 : okF Go.Proofs.Tryz.prog 100 = true := by kernel_rfl
theorem okF_101 : okF Go.Proofs.Tryz.prog 101 = true := by kernel_rfl
theorem okF_102 : okF Go.Proofs.Tryz.prog 102 = true := by kernel_rfl
theorem okF_103 : okF Go.Proofs.Tryz.prog 103 = true := by kernel_rfl
theorem okF_104 : okF Go.Proofs.Tryz.prog 104 = true := by kernel_rfl
theorem okF_105 : okF Go.Proofs.Tryz.prog 105 = true := by kernel_rfl
theorem okF_133 : okF Go.Proofs.Tryz.prog 133 = true := by kernel_rfl
end Go.Proofs.YtcinhjefclbgjaaGreatDoor
