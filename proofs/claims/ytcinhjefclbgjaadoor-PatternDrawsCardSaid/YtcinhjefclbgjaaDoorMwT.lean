/- Facts of the types and functions of this program, each by evaluation. -/
import Derived.Test.YtcinhjefclbgjaaDoorProg
import Derived.Test.YtcinhjefclbgjaaDoorMwBase
namespace Go.Proofs.YtcinhjefclbgjaaDoor
open Go.RowKit
set_option maxRecDepth 100000
theorem follows_mo : Go.Proofs.Tryd.prog.follows .mixedOrders = true := by kernel_rfl
theorem tok_0 : tok Go.Proofs.Tryd.prog 0 = true := by kernel_rfl
theorem tsz_0 : tsz Go.Proofs.Tryd.prog 0 = 1 := by kernel_rfl
theorem tby_0 : tbytes Go.Proofs.Tryd.prog 0 = 0 := by kernel_rfl
theorem tagg_0 : tagg Go.Proofs.Tryd.prog 0 = false := by kernel_rfl
theorem tconc_0 : tconc Go.Proofs.Tryd.prog 0 = true := by kernel_rfl
theorem tzero_0 : tzero Go.Proofs.Tryd.prog 0 = some (.tuple #[]) := by kernel_rfl
theorem tok_1 : tok Go.Proofs.Tryd.prog 1 = true := by kernel_rfl
theorem tsz_1 : tsz Go.Proofs.Tryd.prog 1 = 1 := by kernel_rfl
theorem tby_1 : tbytes Go.Proofs.Tryd.prog 1 = 8 := by kernel_rfl
theorem tagg_1 : tagg Go.Proofs.Tryd.prog 1 = false := by kernel_rfl
theorem tconc_1 : tconc Go.Proofs.Tryd.prog 1 = true := by kernel_rfl
theorem tzero_1 : tzero Go.Proofs.Tryd.prog 1 = some .nilFunc := by kernel_rfl
theorem tok_2 : tok Go.Proofs.Tryd.prog 2 = true := by kernel_rfl
theorem tsz_2 : tsz Go.Proofs.Tryd.prog 2 = 1 := by kernel_rfl
theorem tby_2 : tbytes Go.Proofs.Tryd.prog 2 = 8 := by kernel_rfl
theorem tagg_2 : tagg Go.Proofs.Tryd.prog 2 = false := by kernel_rfl
theorem tconc_2 : tconc Go.Proofs.Tryd.prog 2 = true := by kernel_rfl
theorem tzero_2 : tzero Go.Proofs.Tryd.prog 2 = some (.int .i64 0) := by kernel_rfl
theorem tkind_2 : tkind Go.Proofs.Tryd.prog 2 = some .i64 := by kernel_rfl
theorem tok_3 : tok Go.Proofs.Tryd.prog 3 = true := by kernel_rfl
theorem tsz_3 : tsz Go.Proofs.Tryd.prog 3 = 1 := by kernel_rfl
theorem tby_3 : tbytes Go.Proofs.Tryd.prog 3 = 8 := by kernel_rfl
theorem tagg_3 : tagg Go.Proofs.Tryd.prog 3 = false := by kernel_rfl
theorem tconc_3 : tconc Go.Proofs.Tryd.prog 3 = true := by kernel_rfl
theorem tzero_3 : tzero Go.Proofs.Tryd.prog 3 = some (.int .i64 0) := by kernel_rfl
theorem tkind_3 : tkind Go.Proofs.Tryd.prog 3 = some .i64 := by kernel_rfl
theorem tok_4 : tok Go.Proofs.Tryd.prog 4 = true := by kernel_rfl
theorem tsz_4 : tsz Go.Proofs.Tryd.prog 4 = 1 := by kernel_rfl
theorem tby_4 : tbytes Go.Proofs.Tryd.prog 4 = 1 := by kernel_rfl
theorem tagg_4 : tagg Go.Proofs.Tryd.prog 4 = false := by kernel_rfl
theorem tconc_4 : tconc Go.Proofs.Tryd.prog 4 = true := by kernel_rfl
theorem tzero_4 : tzero Go.Proofs.Tryd.prog 4 = some (.bool false) := by kernel_rfl
theorem tbool_4 : tbool Go.Proofs.Tryd.prog 4 = true := by kernel_rfl
theorem tok_5 : tok Go.Proofs.Tryd.prog 5 = true := by kernel_rfl
theorem tsz_5 : tsz Go.Proofs.Tryd.prog 5 = 1 := by kernel_rfl
theorem tby_5 : tbytes Go.Proofs.Tryd.prog 5 = 1 := by kernel_rfl
theorem tagg_5 : tagg Go.Proofs.Tryd.prog 5 = false := by kernel_rfl
theorem tconc_5 : tconc Go.Proofs.Tryd.prog 5 = true := by kernel_rfl
theorem tzero_5 : tzero Go.Proofs.Tryd.prog 5 = some (.int .u8 0) := by kernel_rfl
theorem tkind_5 : tkind Go.Proofs.Tryd.prog 5 = some .u8 := by kernel_rfl
theorem tok_6 : tok Go.Proofs.Tryd.prog 6 = true := by kernel_rfl
theorem tsz_6 : tsz Go.Proofs.Tryd.prog 6 = 1 := by kernel_rfl
theorem tby_6 : tbytes Go.Proofs.Tryd.prog 6 = 1 := by kernel_rfl
theorem tagg_6 : tagg Go.Proofs.Tryd.prog 6 = false := by kernel_rfl
theorem tconc_6 : tconc Go.Proofs.Tryd.prog 6 = true := by kernel_rfl
theorem tzero_6 : tzero Go.Proofs.Tryd.prog 6 = some (.int .u8 0) := by kernel_rfl
theorem tkind_6 : tkind Go.Proofs.Tryd.prog 6 = some .u8 := by kernel_rfl
theorem tok_7 : tok Go.Proofs.Tryd.prog 7 = true := by kernel_rfl
theorem tsz_7 : tsz Go.Proofs.Tryd.prog 7 = 4 := by kernel_rfl
theorem tby_7 : tbytes Go.Proofs.Tryd.prog 7 = 24 := by kernel_rfl
theorem tagg_7 : tagg Go.Proofs.Tryd.prog 7 = true := by kernel_rfl
theorem tconc_7 : tconc Go.Proofs.Tryd.prog 7 = true := by kernel_rfl
theorem tzero_7 : tzero Go.Proofs.Tryd.prog 7 = some (.agg #[.int .i64 0, .int .i64 0, .bool false, .int .u8 0]) := by kernel_rfl
theorem tfld_7_0 : tfld Go.Proofs.Tryd.prog 7 0 = some (2, 0) := by kernel_rfl
theorem fldA_7_0 : fldA Go.Proofs.Tryd.prog 7 0 = some 0 := by kernel_rfl
theorem tfld_7_1 : tfld Go.Proofs.Tryd.prog 7 1 = some (3, 1) := by kernel_rfl
theorem fldA_7_1 : fldA Go.Proofs.Tryd.prog 7 1 = some 1 := by kernel_rfl
theorem tfld_7_2 : tfld Go.Proofs.Tryd.prog 7 2 = some (4, 2) := by kernel_rfl
theorem fldA_7_2 : fldA Go.Proofs.Tryd.prog 7 2 = some 2 := by kernel_rfl
theorem tfld_7_3 : tfld Go.Proofs.Tryd.prog 7 3 = some (6, 3) := by kernel_rfl
theorem fldA_7_3 : fldA Go.Proofs.Tryd.prog 7 3 = some 3 := by kernel_rfl
theorem tok_8 : tok Go.Proofs.Tryd.prog 8 = true := by kernel_rfl
theorem tsz_8 : tsz Go.Proofs.Tryd.prog 8 = 4 := by kernel_rfl
theorem tby_8 : tbytes Go.Proofs.Tryd.prog 8 = 24 := by kernel_rfl
theorem tagg_8 : tagg Go.Proofs.Tryd.prog 8 = true := by kernel_rfl
theorem tconc_8 : tconc Go.Proofs.Tryd.prog 8 = true := by kernel_rfl
theorem tzero_8 : tzero Go.Proofs.Tryd.prog 8 = some (.agg #[.int .i64 0, .int .i64 0, .bool false, .int .u8 0]) := by kernel_rfl
theorem tfld_8_0 : tfld Go.Proofs.Tryd.prog 8 0 = some (2, 0) := by kernel_rfl
theorem fldA_8_0 : fldA Go.Proofs.Tryd.prog 8 0 = some 0 := by kernel_rfl
theorem tfld_8_1 : tfld Go.Proofs.Tryd.prog 8 1 = some (3, 1) := by kernel_rfl
theorem fldA_8_1 : fldA Go.Proofs.Tryd.prog 8 1 = some 1 := by kernel_rfl
theorem tfld_8_2 : tfld Go.Proofs.Tryd.prog 8 2 = some (4, 2) := by kernel_rfl
theorem fldA_8_2 : fldA Go.Proofs.Tryd.prog 8 2 = some 2 := by kernel_rfl
theorem tfld_8_3 : tfld Go.Proofs.Tryd.prog 8 3 = some (6, 3) := by kernel_rfl
theorem fldA_8_3 : fldA Go.Proofs.Tryd.prog 8 3 = some 3 := by kernel_rfl
theorem meth_8_Error : methB Go.Proofs.Tryd.prog 8 "Error" = some 85 := by kernel_rfl
theorem meth_8_RuntimeError : methB Go.Proofs.Tryd.prog 8 "RuntimeError" = some 86 := by kernel_rfl
theorem tok_9 : tok Go.Proofs.Tryd.prog 9 = true := by kernel_rfl
theorem tsz_9 : tsz Go.Proofs.Tryd.prog 9 = 1 := by kernel_rfl
theorem tby_9 : tbytes Go.Proofs.Tryd.prog 9 = 16 := by kernel_rfl
theorem tagg_9 : tagg Go.Proofs.Tryd.prog 9 = false := by kernel_rfl
theorem tconc_9 : tconc Go.Proofs.Tryd.prog 9 = true := by kernel_rfl
theorem tzero_9 : tzero Go.Proofs.Tryd.prog 9 = some (.string { data := #[] }) := by kernel_rfl
theorem tstr_9 : tstr Go.Proofs.Tryd.prog 9 = true := by kernel_rfl
theorem tok_10 : tok Go.Proofs.Tryd.prog 10 = true := by kernel_rfl
theorem tsz_10 : tsz Go.Proofs.Tryd.prog 10 = 1 := by kernel_rfl
theorem tby_10 : tbytes Go.Proofs.Tryd.prog 10 = 16 := by kernel_rfl
theorem tagg_10 : tagg Go.Proofs.Tryd.prog 10 = false := by kernel_rfl
theorem tconc_10 : tconc Go.Proofs.Tryd.prog 10 = true := by kernel_rfl
theorem tzero_10 : tzero Go.Proofs.Tryd.prog 10 = some (.string { data := #[] }) := by kernel_rfl
theorem tstr_10 : tstr Go.Proofs.Tryd.prog 10 = true := by kernel_rfl
theorem meth_10_Error : methB Go.Proofs.Tryd.prog 10 "Error" = some 87 := by kernel_rfl
theorem meth_10_RuntimeError : methB Go.Proofs.Tryd.prog 10 "RuntimeError" = some 88 := by kernel_rfl
theorem tok_11 : tok Go.Proofs.Tryd.prog 11 = true := by kernel_rfl
theorem tsz_11 : tsz Go.Proofs.Tryd.prog 11 = 1 := by kernel_rfl
theorem tby_11 : tbytes Go.Proofs.Tryd.prog 11 = 16 := by kernel_rfl
theorem tagg_11 : tagg Go.Proofs.Tryd.prog 11 = false := by kernel_rfl
theorem tconc_11 : tconc Go.Proofs.Tryd.prog 11 = true := by kernel_rfl
theorem tzero_11 : tzero Go.Proofs.Tryd.prog 11 = some (.string { data := #[] }) := by kernel_rfl
theorem tstr_11 : tstr Go.Proofs.Tryd.prog 11 = true := by kernel_rfl
theorem meth_11_Error : methB Go.Proofs.Tryd.prog 11 "Error" = some 89 := by kernel_rfl
theorem meth_11_RuntimeError : methB Go.Proofs.Tryd.prog 11 "RuntimeError" = some 90 := by kernel_rfl
theorem tok_12 : tok Go.Proofs.Tryd.prog 12 = true := by kernel_rfl
theorem tsz_12 : tsz Go.Proofs.Tryd.prog 12 = 1 := by kernel_rfl
theorem tby_12 : tbytes Go.Proofs.Tryd.prog 12 = 8 := by kernel_rfl
theorem tagg_12 : tagg Go.Proofs.Tryd.prog 12 = false := by kernel_rfl
theorem tconc_12 : tconc Go.Proofs.Tryd.prog 12 = true := by kernel_rfl
theorem tzero_12 : tzero Go.Proofs.Tryd.prog 12 = some (.int .u64 0) := by kernel_rfl
theorem tkind_12 : tkind Go.Proofs.Tryd.prog 12 = some .u64 := by kernel_rfl
theorem tok_13 : tok Go.Proofs.Tryd.prog 13 = true := by kernel_rfl
theorem tsz_13 : tsz Go.Proofs.Tryd.prog 13 = 2 := by kernel_rfl
theorem tby_13 : tbytes Go.Proofs.Tryd.prog 13 = 24 := by kernel_rfl
theorem tagg_13 : tagg Go.Proofs.Tryd.prog 13 = true := by kernel_rfl
theorem tconc_13 : tconc Go.Proofs.Tryd.prog 13 = true := by kernel_rfl
theorem tzero_13 : tzero Go.Proofs.Tryd.prog 13 = some (.agg #[.string { data := #[] }, .int .u64 0]) := by kernel_rfl
theorem tfld_13_0 : tfld Go.Proofs.Tryd.prog 13 0 = some (9, 0) := by kernel_rfl
theorem fldA_13_0 : fldA Go.Proofs.Tryd.prog 13 0 = some 0 := by kernel_rfl
theorem tfld_13_1 : tfld Go.Proofs.Tryd.prog 13 1 = some (12, 1) := by kernel_rfl
theorem fldA_13_1 : fldA Go.Proofs.Tryd.prog 13 1 = some 1 := by kernel_rfl
theorem tok_14 : tok Go.Proofs.Tryd.prog 14 = true := by kernel_rfl
theorem tsz_14 : tsz Go.Proofs.Tryd.prog 14 = 2 := by kernel_rfl
theorem tby_14 : tbytes Go.Proofs.Tryd.prog 14 = 24 := by kernel_rfl
theorem tagg_14 : tagg Go.Proofs.Tryd.prog 14 = true := by kernel_rfl
theorem tconc_14 : tconc Go.Proofs.Tryd.prog 14 = true := by kernel_rfl
theorem tzero_14 : tzero Go.Proofs.Tryd.prog 14 = some (.agg #[.string { data := #[] }, .int .u64 0]) := by kernel_rfl
theorem tfld_14_0 : tfld Go.Proofs.Tryd.prog 14 0 = some (9, 0) := by kernel_rfl
theorem fldA_14_0 : fldA Go.Proofs.Tryd.prog 14 0 = some 0 := by kernel_rfl
theorem tfld_14_1 : tfld Go.Proofs.Tryd.prog 14 1 = some (12, 1) := by kernel_rfl
theorem fldA_14_1 : fldA Go.Proofs.Tryd.prog 14 1 = some 1 := by kernel_rfl
theorem meth_14_Error : methB Go.Proofs.Tryd.prog 14 "Error" = some 91 := by kernel_rfl
theorem meth_14_RuntimeError : methB Go.Proofs.Tryd.prog 14 "RuntimeError" = some 92 := by kernel_rfl
theorem tok_15 : tok Go.Proofs.Tryd.prog 15 = true := by kernel_rfl
theorem tsz_15 : tsz Go.Proofs.Tryd.prog 15 = 1 := by kernel_rfl
theorem tby_15 : tbytes Go.Proofs.Tryd.prog 15 = 8 := by kernel_rfl
theorem tagg_15 : tagg Go.Proofs.Tryd.prog 15 = false := by kernel_rfl
theorem tconc_15 : tconc Go.Proofs.Tryd.prog 15 = true := by kernel_rfl
theorem tzero_15 : tzero Go.Proofs.Tryd.prog 15 = some (.pointer none) := by kernel_rfl
theorem tptr_15 : tptr Go.Proofs.Tryd.prog 15 = true := by kernel_rfl
theorem meth_15_Error : methB Go.Proofs.Tryd.prog 15 "Error" = some 93 := by kernel_rfl
theorem meth_15_RuntimeError : methB Go.Proofs.Tryd.prog 15 "RuntimeError" = some 94 := by kernel_rfl
theorem tok_16 : tok Go.Proofs.Tryd.prog 16 = true := by kernel_rfl
theorem tsz_16 : tsz Go.Proofs.Tryd.prog 16 = 1 := by kernel_rfl
theorem tby_16 : tbytes Go.Proofs.Tryd.prog 16 = 8 := by kernel_rfl
theorem tagg_16 : tagg Go.Proofs.Tryd.prog 16 = false := by kernel_rfl
theorem tconc_16 : tconc Go.Proofs.Tryd.prog 16 = true := by kernel_rfl
theorem tzero_16 : tzero Go.Proofs.Tryd.prog 16 = some (.pointer none) := by kernel_rfl
theorem tptr_16 : tptr Go.Proofs.Tryd.prog 16 = true := by kernel_rfl
theorem meth_16_Error : methB Go.Proofs.Tryd.prog 16 "Error" = some 95 := by kernel_rfl
theorem meth_16_RuntimeError : methB Go.Proofs.Tryd.prog 16 "RuntimeError" = some 96 := by kernel_rfl
theorem tok_17 : tok Go.Proofs.Tryd.prog 17 = true := by kernel_rfl
theorem tsz_17 : tsz Go.Proofs.Tryd.prog 17 = 1 := by kernel_rfl
theorem tby_17 : tbytes Go.Proofs.Tryd.prog 17 = 8 := by kernel_rfl
theorem tagg_17 : tagg Go.Proofs.Tryd.prog 17 = false := by kernel_rfl
theorem tconc_17 : tconc Go.Proofs.Tryd.prog 17 = true := by kernel_rfl
theorem tzero_17 : tzero Go.Proofs.Tryd.prog 17 = some (.pointer none) := by kernel_rfl
theorem tptr_17 : tptr Go.Proofs.Tryd.prog 17 = true := by kernel_rfl
theorem meth_17_Align : methB Go.Proofs.Tryd.prog 17 "Align" = some 97 := by kernel_rfl
theorem tok_18 : tok Go.Proofs.Tryd.prog 18 = true := by kernel_rfl
theorem tsz_18 : tsz Go.Proofs.Tryd.prog 18 = 1 := by kernel_rfl
theorem tby_18 : tbytes Go.Proofs.Tryd.prog 18 = 8 := by kernel_rfl
theorem tagg_18 : tagg Go.Proofs.Tryd.prog 18 = true := by kernel_rfl
theorem tconc_18 : tconc Go.Proofs.Tryd.prog 18 = true := by kernel_rfl
theorem tzero_18 : tzero Go.Proofs.Tryd.prog 18 = some (.agg #[.pointer none]) := by kernel_rfl
theorem tfld_18_0 : tfld Go.Proofs.Tryd.prog 18 0 = some (17, 0) := by kernel_rfl
theorem fldA_18_0 : fldA Go.Proofs.Tryd.prog 18 0 = some 0 := by kernel_rfl
theorem tok_19 : tok Go.Proofs.Tryd.prog 19 = true := by kernel_rfl
theorem tsz_19 : tsz Go.Proofs.Tryd.prog 19 = 1 := by kernel_rfl
theorem tby_19 : tbytes Go.Proofs.Tryd.prog 19 = 8 := by kernel_rfl
theorem tagg_19 : tagg Go.Proofs.Tryd.prog 19 = true := by kernel_rfl
theorem tconc_19 : tconc Go.Proofs.Tryd.prog 19 = true := by kernel_rfl
theorem tzero_19 : tzero Go.Proofs.Tryd.prog 19 = some (.agg #[.pointer none]) := by kernel_rfl
theorem tfld_19_0 : tfld Go.Proofs.Tryd.prog 19 0 = some (17, 0) := by kernel_rfl
theorem fldA_19_0 : fldA Go.Proofs.Tryd.prog 19 0 = some 0 := by kernel_rfl
theorem meth_19_Error : methB Go.Proofs.Tryd.prog 19 "Error" = some 98 := by kernel_rfl
theorem meth_19_RuntimeError : methB Go.Proofs.Tryd.prog 19 "RuntimeError" = some 99 := by kernel_rfl
theorem tok_20 : tok Go.Proofs.Tryd.prog 20 = true := by kernel_rfl
theorem tsz_20 : tsz Go.Proofs.Tryd.prog 20 = 1 := by kernel_rfl
theorem tby_20 : tbytes Go.Proofs.Tryd.prog 20 = 16 := by kernel_rfl
theorem tagg_20 : tagg Go.Proofs.Tryd.prog 20 = false := by kernel_rfl
theorem tconc_20 : tconc Go.Proofs.Tryd.prog 20 = false := by kernel_rfl
theorem tzero_20 : tzero Go.Proofs.Tryd.prog 20 = some .nilIface := by kernel_rfl
theorem tifc_20 : tifc Go.Proofs.Tryd.prog 20 = true := by kernel_rfl
theorem tok_21 : tok Go.Proofs.Tryd.prog 21 = true := by kernel_rfl
theorem tsz_21 : tsz Go.Proofs.Tryd.prog 21 = 1 := by kernel_rfl
theorem tby_21 : tbytes Go.Proofs.Tryd.prog 21 = 4 := by kernel_rfl
theorem tagg_21 : tagg Go.Proofs.Tryd.prog 21 = false := by kernel_rfl
theorem tconc_21 : tconc Go.Proofs.Tryd.prog 21 = true := by kernel_rfl
theorem tzero_21 : tzero Go.Proofs.Tryd.prog 21 = some (.int .i32 0) := by kernel_rfl
theorem tkind_21 : tkind Go.Proofs.Tryd.prog 21 = some .i32 := by kernel_rfl
theorem tok_22 : tok Go.Proofs.Tryd.prog 22 = true := by kernel_rfl
theorem tsz_22 : tsz Go.Proofs.Tryd.prog 22 = 1 := by kernel_rfl
theorem tby_22 : tbytes Go.Proofs.Tryd.prog 22 = 8 := by kernel_rfl
theorem tagg_22 : tagg Go.Proofs.Tryd.prog 22 = false := by kernel_rfl
theorem tconc_22 : tconc Go.Proofs.Tryd.prog 22 = true := by kernel_rfl
theorem tzero_22 : tzero Go.Proofs.Tryd.prog 22 = some .nilFunc := by kernel_rfl
theorem tok_23 : tok Go.Proofs.Tryd.prog 23 = true := by kernel_rfl
theorem tsz_23 : tsz Go.Proofs.Tryd.prog 23 = 1 := by kernel_rfl
theorem tby_23 : tbytes Go.Proofs.Tryd.prog 23 = 8 := by kernel_rfl
theorem tagg_23 : tagg Go.Proofs.Tryd.prog 23 = false := by kernel_rfl
theorem tconc_23 : tconc Go.Proofs.Tryd.prog 23 = true := by kernel_rfl
theorem tzero_23 : tzero Go.Proofs.Tryd.prog 23 = some (.int .i64 0) := by kernel_rfl
theorem tkind_23 : tkind Go.Proofs.Tryd.prog 23 = some .i64 := by kernel_rfl
theorem tok_24 : tok Go.Proofs.Tryd.prog 24 = true := by kernel_rfl
theorem tsz_24 : tsz Go.Proofs.Tryd.prog 24 = 1 := by kernel_rfl
theorem tby_24 : tbytes Go.Proofs.Tryd.prog 24 = 0 := by kernel_rfl
theorem tagg_24 : tagg Go.Proofs.Tryd.prog 24 = false := by kernel_rfl
theorem tconc_24 : tconc Go.Proofs.Tryd.prog 24 = true := by kernel_rfl
theorem tzero_24 : tzero Go.Proofs.Tryd.prog 24 = some (.tuple #[.int .i64 0, .int .i64 0, .int .i64 0]) := by kernel_rfl
theorem tok_25 : tok Go.Proofs.Tryd.prog 25 = true := by kernel_rfl
theorem tsz_25 : tsz Go.Proofs.Tryd.prog 25 = 1 := by kernel_rfl
theorem tby_25 : tbytes Go.Proofs.Tryd.prog 25 = 8 := by kernel_rfl
theorem tagg_25 : tagg Go.Proofs.Tryd.prog 25 = false := by kernel_rfl
theorem tconc_25 : tconc Go.Proofs.Tryd.prog 25 = true := by kernel_rfl
theorem tzero_25 : tzero Go.Proofs.Tryd.prog 25 = some .nilFunc := by kernel_rfl
theorem tok_26 : tok Go.Proofs.Tryd.prog 26 = true := by kernel_rfl
theorem tsz_26 : tsz Go.Proofs.Tryd.prog 26 = 1 := by kernel_rfl
theorem tby_26 : tbytes Go.Proofs.Tryd.prog 26 = 8 := by kernel_rfl
theorem tagg_26 : tagg Go.Proofs.Tryd.prog 26 = false := by kernel_rfl
theorem tconc_26 : tconc Go.Proofs.Tryd.prog 26 = true := by kernel_rfl
theorem tzero_26 : tzero Go.Proofs.Tryd.prog 26 = some .nilFunc := by kernel_rfl
theorem tok_27 : tok Go.Proofs.Tryd.prog 27 = true := by kernel_rfl
theorem tsz_27 : tsz Go.Proofs.Tryd.prog 27 = 1 := by kernel_rfl
theorem tby_27 : tbytes Go.Proofs.Tryd.prog 27 = 24 := by kernel_rfl
theorem tagg_27 : tagg Go.Proofs.Tryd.prog 27 = false := by kernel_rfl
theorem tconc_27 : tconc Go.Proofs.Tryd.prog 27 = true := by kernel_rfl
theorem tzero_27 : tzero Go.Proofs.Tryd.prog 27 = some (.slice none 0 0) := by kernel_rfl
theorem telem_27 : telem Go.Proofs.Tryd.prog 27 = some 29 := by kernel_rfl
theorem tok_28 : tok Go.Proofs.Tryd.prog 28 = true := by kernel_rfl
theorem tsz_28 : tsz Go.Proofs.Tryd.prog 28 = 7 := by kernel_rfl
theorem tby_28 : tbytes Go.Proofs.Tryd.prog 28 = 72 := by kernel_rfl
theorem tagg_28 : tagg Go.Proofs.Tryd.prog 28 = true := by kernel_rfl
theorem tconc_28 : tconc Go.Proofs.Tryd.prog 28 = true := by kernel_rfl
theorem tzero_28 : tzero Go.Proofs.Tryd.prog 28 = some (.agg #[.int .i64 0, .int .i64 0, .int .i64 0, .int .i64 0, .int .i64 0, .int .i64 0, .slice none 0 0]) := by kernel_rfl
theorem tfld_28_0 : tfld Go.Proofs.Tryd.prog 28 0 = some (3, 0) := by kernel_rfl
theorem fldA_28_0 : fldA Go.Proofs.Tryd.prog 28 0 = some 0 := by kernel_rfl
theorem tfld_28_1 : tfld Go.Proofs.Tryd.prog 28 1 = some (3, 1) := by kernel_rfl
theorem fldA_28_1 : fldA Go.Proofs.Tryd.prog 28 1 = some 1 := by kernel_rfl
theorem tfld_28_2 : tfld Go.Proofs.Tryd.prog 28 2 = some (3, 2) := by kernel_rfl
theorem fldA_28_2 : fldA Go.Proofs.Tryd.prog 28 2 = some 2 := by kernel_rfl
theorem tfld_28_3 : tfld Go.Proofs.Tryd.prog 28 3 = some (3, 3) := by kernel_rfl
theorem fldA_28_3 : fldA Go.Proofs.Tryd.prog 28 3 = some 3 := by kernel_rfl
theorem tfld_28_4 : tfld Go.Proofs.Tryd.prog 28 4 = some (3, 4) := by kernel_rfl
theorem fldA_28_4 : fldA Go.Proofs.Tryd.prog 28 4 = some 4 := by kernel_rfl
theorem tfld_28_5 : tfld Go.Proofs.Tryd.prog 28 5 = some (3, 5) := by kernel_rfl
theorem fldA_28_5 : fldA Go.Proofs.Tryd.prog 28 5 = some 5 := by kernel_rfl
theorem tfld_28_6 : tfld Go.Proofs.Tryd.prog 28 6 = some (27, 6) := by kernel_rfl
theorem fldA_28_6 : fldA Go.Proofs.Tryd.prog 28 6 = some 6 := by kernel_rfl
theorem tok_29 : tok Go.Proofs.Tryd.prog 29 = true := by kernel_rfl
theorem tsz_29 : tsz Go.Proofs.Tryd.prog 29 = 7 := by kernel_rfl
theorem tby_29 : tbytes Go.Proofs.Tryd.prog 29 = 72 := by kernel_rfl
theorem tagg_29 : tagg Go.Proofs.Tryd.prog 29 = true := by kernel_rfl
theorem tconc_29 : tconc Go.Proofs.Tryd.prog 29 = true := by kernel_rfl
theorem tzero_29 : tzero Go.Proofs.Tryd.prog 29 = some (.agg #[.int .i64 0, .int .i64 0, .int .i64 0, .int .i64 0, .int .i64 0, .int .i64 0, .slice none 0 0]) := by kernel_rfl
theorem tfld_29_0 : tfld Go.Proofs.Tryd.prog 29 0 = some (3, 0) := by kernel_rfl
theorem fldA_29_0 : fldA Go.Proofs.Tryd.prog 29 0 = some 0 := by kernel_rfl
theorem tfld_29_1 : tfld Go.Proofs.Tryd.prog 29 1 = some (3, 1) := by kernel_rfl
theorem fldA_29_1 : fldA Go.Proofs.Tryd.prog 29 1 = some 1 := by kernel_rfl
theorem tfld_29_2 : tfld Go.Proofs.Tryd.prog 29 2 = some (3, 2) := by kernel_rfl
theorem fldA_29_2 : fldA Go.Proofs.Tryd.prog 29 2 = some 2 := by kernel_rfl
theorem tfld_29_3 : tfld Go.Proofs.Tryd.prog 29 3 = some (3, 3) := by kernel_rfl
theorem fldA_29_3 : fldA Go.Proofs.Tryd.prog 29 3 = some 3 := by kernel_rfl
theorem tfld_29_4 : tfld Go.Proofs.Tryd.prog 29 4 = some (3, 4) := by kernel_rfl
theorem fldA_29_4 : fldA Go.Proofs.Tryd.prog 29 4 = some 4 := by kernel_rfl
theorem tfld_29_5 : tfld Go.Proofs.Tryd.prog 29 5 = some (3, 5) := by kernel_rfl
theorem fldA_29_5 : fldA Go.Proofs.Tryd.prog 29 5 = some 5 := by kernel_rfl
theorem tfld_29_6 : tfld Go.Proofs.Tryd.prog 29 6 = some (27, 6) := by kernel_rfl
theorem fldA_29_6 : fldA Go.Proofs.Tryd.prog 29 6 = some 6 := by kernel_rfl
theorem tok_30 : tok Go.Proofs.Tryd.prog 30 = true := by kernel_rfl
theorem tsz_30 : tsz Go.Proofs.Tryd.prog 30 = 1 := by kernel_rfl
theorem tby_30 : tbytes Go.Proofs.Tryd.prog 30 = 0 := by kernel_rfl
theorem tagg_30 : tagg Go.Proofs.Tryd.prog 30 = false := by kernel_rfl
theorem tconc_30 : tconc Go.Proofs.Tryd.prog 30 = true := by kernel_rfl
theorem tzero_30 : tzero Go.Proofs.Tryd.prog 30 = some (.tuple #[.agg #[.int .i64 0, .int .i64 0, .int .i64 0, .int .i64 0, .int .i64 0, .int .i64 0, .slice none 0 0], .int .i64 0, .int .i64 0]) := by kernel_rfl
theorem tok_31 : tok Go.Proofs.Tryd.prog 31 = true := by kernel_rfl
theorem tsz_31 : tsz Go.Proofs.Tryd.prog 31 = 1 := by kernel_rfl
theorem tby_31 : tbytes Go.Proofs.Tryd.prog 31 = 8 := by kernel_rfl
theorem tagg_31 : tagg Go.Proofs.Tryd.prog 31 = false := by kernel_rfl
theorem tconc_31 : tconc Go.Proofs.Tryd.prog 31 = true := by kernel_rfl
theorem tzero_31 : tzero Go.Proofs.Tryd.prog 31 = some .nilFunc := by kernel_rfl
theorem tok_32 : tok Go.Proofs.Tryd.prog 32 = true := by kernel_rfl
theorem tsz_32 : tsz Go.Proofs.Tryd.prog 32 = 1 := by kernel_rfl
theorem tby_32 : tbytes Go.Proofs.Tryd.prog 32 = 24 := by kernel_rfl
theorem tagg_32 : tagg Go.Proofs.Tryd.prog 32 = false := by kernel_rfl
theorem tconc_32 : tconc Go.Proofs.Tryd.prog 32 = true := by kernel_rfl
theorem tzero_32 : tzero Go.Proofs.Tryd.prog 32 = some (.slice none 0 0) := by kernel_rfl
theorem telem_32 : telem Go.Proofs.Tryd.prog 32 = some 3 := by kernel_rfl
theorem tok_33 : tok Go.Proofs.Tryd.prog 33 = true := by kernel_rfl
theorem tsz_33 : tsz Go.Proofs.Tryd.prog 33 = 1 := by kernel_rfl
theorem tby_33 : tbytes Go.Proofs.Tryd.prog 33 = 0 := by kernel_rfl
theorem tagg_33 : tagg Go.Proofs.Tryd.prog 33 = false := by kernel_rfl
theorem tconc_33 : tconc Go.Proofs.Tryd.prog 33 = true := by kernel_rfl
theorem tzero_33 : tzero Go.Proofs.Tryd.prog 33 = some (.tuple #[.slice none 0 0, .bool false, .int .i64 0]) := by kernel_rfl
theorem tok_34 : tok Go.Proofs.Tryd.prog 34 = true := by kernel_rfl
theorem tsz_34 : tsz Go.Proofs.Tryd.prog 34 = 1 := by kernel_rfl
theorem tby_34 : tbytes Go.Proofs.Tryd.prog 34 = 8 := by kernel_rfl
theorem tagg_34 : tagg Go.Proofs.Tryd.prog 34 = false := by kernel_rfl
theorem tconc_34 : tconc Go.Proofs.Tryd.prog 34 = true := by kernel_rfl
theorem tzero_34 : tzero Go.Proofs.Tryd.prog 34 = some .nilFunc := by kernel_rfl
theorem tok_35 : tok Go.Proofs.Tryd.prog 35 = true := by kernel_rfl
theorem tsz_35 : tsz Go.Proofs.Tryd.prog 35 = 1 := by kernel_rfl
theorem tby_35 : tbytes Go.Proofs.Tryd.prog 35 = 8 := by kernel_rfl
theorem tagg_35 : tagg Go.Proofs.Tryd.prog 35 = false := by kernel_rfl
theorem tconc_35 : tconc Go.Proofs.Tryd.prog 35 = true := by kernel_rfl
theorem tzero_35 : tzero Go.Proofs.Tryd.prog 35 = some .nilFunc := by kernel_rfl
theorem tok_36 : tok Go.Proofs.Tryd.prog 36 = true := by kernel_rfl
theorem tsz_36 : tsz Go.Proofs.Tryd.prog 36 = 1 := by kernel_rfl
theorem tby_36 : tbytes Go.Proofs.Tryd.prog 36 = 0 := by kernel_rfl
theorem tagg_36 : tagg Go.Proofs.Tryd.prog 36 = false := by kernel_rfl
theorem tconc_36 : tconc Go.Proofs.Tryd.prog 36 = true := by kernel_rfl
theorem tzero_36 : tzero Go.Proofs.Tryd.prog 36 = some (.tuple #[.int .i64 0, .int .i64 0]) := by kernel_rfl
theorem tok_37 : tok Go.Proofs.Tryd.prog 37 = true := by kernel_rfl
theorem tsz_37 : tsz Go.Proofs.Tryd.prog 37 = 1 := by kernel_rfl
theorem tby_37 : tbytes Go.Proofs.Tryd.prog 37 = 8 := by kernel_rfl
theorem tagg_37 : tagg Go.Proofs.Tryd.prog 37 = false := by kernel_rfl
theorem tconc_37 : tconc Go.Proofs.Tryd.prog 37 = true := by kernel_rfl
theorem tzero_37 : tzero Go.Proofs.Tryd.prog 37 = some .nilFunc := by kernel_rfl
theorem tok_38 : tok Go.Proofs.Tryd.prog 38 = true := by kernel_rfl
theorem tsz_38 : tsz Go.Proofs.Tryd.prog 38 = 1 := by kernel_rfl
theorem tby_38 : tbytes Go.Proofs.Tryd.prog 38 = 8 := by kernel_rfl
theorem tagg_38 : tagg Go.Proofs.Tryd.prog 38 = true := by kernel_rfl
theorem tconc_38 : tconc Go.Proofs.Tryd.prog 38 = true := by kernel_rfl
theorem tzero_38 : tzero Go.Proofs.Tryd.prog 38 = some (.agg #[.int .i64 0]) := by kernel_rfl
theorem tfld_38_0 : tfld Go.Proofs.Tryd.prog 38 0 = some (3, 0) := by kernel_rfl
theorem fldA_38_0 : fldA Go.Proofs.Tryd.prog 38 0 = some 0 := by kernel_rfl
theorem tok_39 : tok Go.Proofs.Tryd.prog 39 = true := by kernel_rfl
theorem tsz_39 : tsz Go.Proofs.Tryd.prog 39 = 1 := by kernel_rfl
theorem tby_39 : tbytes Go.Proofs.Tryd.prog 39 = 8 := by kernel_rfl
theorem tagg_39 : tagg Go.Proofs.Tryd.prog 39 = true := by kernel_rfl
theorem tconc_39 : tconc Go.Proofs.Tryd.prog 39 = true := by kernel_rfl
theorem tzero_39 : tzero Go.Proofs.Tryd.prog 39 = some (.agg #[.int .i64 0]) := by kernel_rfl
theorem tfld_39_0 : tfld Go.Proofs.Tryd.prog 39 0 = some (3, 0) := by kernel_rfl
theorem fldA_39_0 : fldA Go.Proofs.Tryd.prog 39 0 = some 0 := by kernel_rfl
theorem tok_40 : tok Go.Proofs.Tryd.prog 40 = true := by kernel_rfl
theorem tsz_40 : tsz Go.Proofs.Tryd.prog 40 = 1 := by kernel_rfl
theorem tby_40 : tbytes Go.Proofs.Tryd.prog 40 = 0 := by kernel_rfl
theorem tagg_40 : tagg Go.Proofs.Tryd.prog 40 = false := by kernel_rfl
theorem tconc_40 : tconc Go.Proofs.Tryd.prog 40 = true := by kernel_rfl
theorem tzero_40 : tzero Go.Proofs.Tryd.prog 40 = some (.tuple #[.agg #[.int .i64 0], .bool false]) := by kernel_rfl
theorem tok_41 : tok Go.Proofs.Tryd.prog 41 = true := by kernel_rfl
theorem tsz_41 : tsz Go.Proofs.Tryd.prog 41 = 1 := by kernel_rfl
theorem tby_41 : tbytes Go.Proofs.Tryd.prog 41 = 8 := by kernel_rfl
theorem tagg_41 : tagg Go.Proofs.Tryd.prog 41 = false := by kernel_rfl
theorem tconc_41 : tconc Go.Proofs.Tryd.prog 41 = true := by kernel_rfl
theorem tzero_41 : tzero Go.Proofs.Tryd.prog 41 = some (.pointer none) := by kernel_rfl
theorem tptr_41 : tptr Go.Proofs.Tryd.prog 41 = true := by kernel_rfl
theorem meth_41_continuo_pattern_fail : methB Go.Proofs.Tryd.prog 41 "continuo/pattern.fail" = some 13 := by kernel_rfl
theorem meth_41_continuo_pattern_kids : methB Go.Proofs.Tryd.prog 41 "continuo/pattern.kids" = some 24 := by kernel_rfl
theorem meth_41_continuo_pattern_must : methB Go.Proofs.Tryd.prog 41 "continuo/pattern.must" = some 23 := by kernel_rfl
theorem meth_41_continuo_pattern_number : methB Go.Proofs.Tryd.prog 41 "continuo/pattern.number" = some 19 := by kernel_rfl
theorem meth_41_continuo_pattern_pattern : methB Go.Proofs.Tryd.prog 41 "continuo/pattern.pattern" = some 12 := by kernel_rfl
theorem meth_41_continuo_pattern_peek : methB Go.Proofs.Tryd.prog 41 "continuo/pattern.peek" = some 17 := by kernel_rfl
theorem meth_41_continuo_pattern_word : methB Go.Proofs.Tryd.prog 41 "continuo/pattern.word" = some 20 := by kernel_rfl
theorem tok_42 : tok Go.Proofs.Tryd.prog 42 = true := by kernel_rfl
theorem tsz_42 : tsz Go.Proofs.Tryd.prog 42 = 2 := by kernel_rfl
theorem tby_42 : tbytes Go.Proofs.Tryd.prog 42 = 24 := by kernel_rfl
theorem tagg_42 : tagg Go.Proofs.Tryd.prog 42 = true := by kernel_rfl
theorem tconc_42 : tconc Go.Proofs.Tryd.prog 42 = true := by kernel_rfl
theorem tzero_42 : tzero Go.Proofs.Tryd.prog 42 = some (.agg #[.string { data := #[] }, .int .i64 0]) := by kernel_rfl
theorem tfld_42_0 : tfld Go.Proofs.Tryd.prog 42 0 = some (9, 0) := by kernel_rfl
theorem fldA_42_0 : fldA Go.Proofs.Tryd.prog 42 0 = some 0 := by kernel_rfl
theorem tfld_42_1 : tfld Go.Proofs.Tryd.prog 42 1 = some (3, 1) := by kernel_rfl
theorem fldA_42_1 : fldA Go.Proofs.Tryd.prog 42 1 = some 1 := by kernel_rfl
theorem tok_43 : tok Go.Proofs.Tryd.prog 43 = true := by kernel_rfl
theorem tsz_43 : tsz Go.Proofs.Tryd.prog 43 = 2 := by kernel_rfl
theorem tby_43 : tbytes Go.Proofs.Tryd.prog 43 = 24 := by kernel_rfl
theorem tagg_43 : tagg Go.Proofs.Tryd.prog 43 = true := by kernel_rfl
theorem tconc_43 : tconc Go.Proofs.Tryd.prog 43 = true := by kernel_rfl
theorem tzero_43 : tzero Go.Proofs.Tryd.prog 43 = some (.agg #[.string { data := #[] }, .int .i64 0]) := by kernel_rfl
theorem tfld_43_0 : tfld Go.Proofs.Tryd.prog 43 0 = some (9, 0) := by kernel_rfl
theorem fldA_43_0 : fldA Go.Proofs.Tryd.prog 43 0 = some 0 := by kernel_rfl
theorem tfld_43_1 : tfld Go.Proofs.Tryd.prog 43 1 = some (3, 1) := by kernel_rfl
theorem fldA_43_1 : fldA Go.Proofs.Tryd.prog 43 1 = some 1 := by kernel_rfl
theorem tok_44 : tok Go.Proofs.Tryd.prog 44 = true := by kernel_rfl
theorem tsz_44 : tsz Go.Proofs.Tryd.prog 44 = 1 := by kernel_rfl
theorem tby_44 : tbytes Go.Proofs.Tryd.prog 44 = 8 := by kernel_rfl
theorem tagg_44 : tagg Go.Proofs.Tryd.prog 44 = false := by kernel_rfl
theorem tconc_44 : tconc Go.Proofs.Tryd.prog 44 = true := by kernel_rfl
theorem tzero_44 : tzero Go.Proofs.Tryd.prog 44 = some .nilFunc := by kernel_rfl
theorem tok_45 : tok Go.Proofs.Tryd.prog 45 = true := by kernel_rfl
theorem tsz_45 : tsz Go.Proofs.Tryd.prog 45 = 1 := by kernel_rfl
theorem tby_45 : tbytes Go.Proofs.Tryd.prog 45 = 8 := by kernel_rfl
theorem tagg_45 : tagg Go.Proofs.Tryd.prog 45 = false := by kernel_rfl
theorem tconc_45 : tconc Go.Proofs.Tryd.prog 45 = true := by kernel_rfl
theorem tzero_45 : tzero Go.Proofs.Tryd.prog 45 = some .nilFunc := by kernel_rfl
theorem tok_46 : tok Go.Proofs.Tryd.prog 46 = true := by kernel_rfl
theorem tsz_46 : tsz Go.Proofs.Tryd.prog 46 = 1 := by kernel_rfl
theorem tby_46 : tbytes Go.Proofs.Tryd.prog 46 = 8 := by kernel_rfl
theorem tagg_46 : tagg Go.Proofs.Tryd.prog 46 = false := by kernel_rfl
theorem tconc_46 : tconc Go.Proofs.Tryd.prog 46 = true := by kernel_rfl
theorem tzero_46 : tzero Go.Proofs.Tryd.prog 46 = some (.pointer none) := by kernel_rfl
theorem tptr_46 : tptr Go.Proofs.Tryd.prog 46 = true := by kernel_rfl
theorem meth_46_Next : methB Go.Proofs.Tryd.prog 46 "Next" = some 16 := by kernel_rfl
theorem meth_46_continuo_pattern_ends : methB Go.Proofs.Tryd.prog 46 "continuo/pattern.ends" = some 28 := by kernel_rfl
theorem tok_47 : tok Go.Proofs.Tryd.prog 47 = true := by kernel_rfl
theorem tsz_47 : tsz Go.Proofs.Tryd.prog 47 = 1 := by kernel_rfl
theorem tby_47 : tbytes Go.Proofs.Tryd.prog 47 = 8 := by kernel_rfl
theorem tagg_47 : tagg Go.Proofs.Tryd.prog 47 = false := by kernel_rfl
theorem tconc_47 : tconc Go.Proofs.Tryd.prog 47 = true := by kernel_rfl
theorem tzero_47 : tzero Go.Proofs.Tryd.prog 47 = some .nilFunc := by kernel_rfl
theorem tok_48 : tok Go.Proofs.Tryd.prog 48 = true := by kernel_rfl
theorem tsz_48 : tsz Go.Proofs.Tryd.prog 48 = 1 := by kernel_rfl
theorem tby_48 : tbytes Go.Proofs.Tryd.prog 48 = 0 := by kernel_rfl
theorem tagg_48 : tagg Go.Proofs.Tryd.prog 48 = false := by kernel_rfl
theorem tconc_48 : tconc Go.Proofs.Tryd.prog 48 = true := by kernel_rfl
theorem tzero_48 : tzero Go.Proofs.Tryd.prog 48 = some (.tuple #[.int .i64 0, .bool false, .int .i64 0]) := by kernel_rfl
theorem tok_49 : tok Go.Proofs.Tryd.prog 49 = true := by kernel_rfl
theorem tsz_49 : tsz Go.Proofs.Tryd.prog 49 = 1 := by kernel_rfl
theorem tby_49 : tbytes Go.Proofs.Tryd.prog 49 = 8 := by kernel_rfl
theorem tagg_49 : tagg Go.Proofs.Tryd.prog 49 = false := by kernel_rfl
theorem tconc_49 : tconc Go.Proofs.Tryd.prog 49 = true := by kernel_rfl
theorem tzero_49 : tzero Go.Proofs.Tryd.prog 49 = some .nilFunc := by kernel_rfl
theorem tok_50 : tok Go.Proofs.Tryd.prog 50 = true := by kernel_rfl
theorem tsz_50 : tsz Go.Proofs.Tryd.prog 50 = 1 := by kernel_rfl
theorem tby_50 : tbytes Go.Proofs.Tryd.prog 50 = 8 := by kernel_rfl
theorem tagg_50 : tagg Go.Proofs.Tryd.prog 50 = false := by kernel_rfl
theorem tconc_50 : tconc Go.Proofs.Tryd.prog 50 = true := by kernel_rfl
theorem tzero_50 : tzero Go.Proofs.Tryd.prog 50 = some .nilFunc := by kernel_rfl
theorem tok_51 : tok Go.Proofs.Tryd.prog 51 = true := by kernel_rfl
theorem tsz_51 : tsz Go.Proofs.Tryd.prog 51 = 1 := by kernel_rfl
theorem tby_51 : tbytes Go.Proofs.Tryd.prog 51 = 8 := by kernel_rfl
theorem tagg_51 : tagg Go.Proofs.Tryd.prog 51 = false := by kernel_rfl
theorem tconc_51 : tconc Go.Proofs.Tryd.prog 51 = true := by kernel_rfl
theorem tzero_51 : tzero Go.Proofs.Tryd.prog 51 = some .nilFunc := by kernel_rfl
theorem tok_52 : tok Go.Proofs.Tryd.prog 52 = true := by kernel_rfl
theorem tsz_52 : tsz Go.Proofs.Tryd.prog 52 = 1 := by kernel_rfl
theorem tby_52 : tbytes Go.Proofs.Tryd.prog 52 = 8 := by kernel_rfl
theorem tagg_52 : tagg Go.Proofs.Tryd.prog 52 = false := by kernel_rfl
theorem tconc_52 : tconc Go.Proofs.Tryd.prog 52 = true := by kernel_rfl
theorem tzero_52 : tzero Go.Proofs.Tryd.prog 52 = some .nilFunc := by kernel_rfl
theorem tok_53 : tok Go.Proofs.Tryd.prog 53 = true := by kernel_rfl
theorem tsz_53 : tsz Go.Proofs.Tryd.prog 53 = 1 := by kernel_rfl
theorem tby_53 : tbytes Go.Proofs.Tryd.prog 53 = 8 := by kernel_rfl
theorem tagg_53 : tagg Go.Proofs.Tryd.prog 53 = false := by kernel_rfl
theorem tconc_53 : tconc Go.Proofs.Tryd.prog 53 = true := by kernel_rfl
theorem tzero_53 : tzero Go.Proofs.Tryd.prog 53 = some .nilFunc := by kernel_rfl
theorem tok_54 : tok Go.Proofs.Tryd.prog 54 = true := by kernel_rfl
theorem tsz_54 : tsz Go.Proofs.Tryd.prog 54 = 6 := by kernel_rfl
theorem tby_54 : tbytes Go.Proofs.Tryd.prog 54 = 24 := by kernel_rfl
theorem tagg_54 : tagg Go.Proofs.Tryd.prog 54 = true := by kernel_rfl
theorem tconc_54 : tconc Go.Proofs.Tryd.prog 54 = true := by kernel_rfl
theorem tzero_54 : tzero Go.Proofs.Tryd.prog 54 = some (.agg #[.int .i64 0, .int .i64 0, .bool false, .bool false, .bool false, .bool false]) := by kernel_rfl
theorem tfld_54_0 : tfld Go.Proofs.Tryd.prog 54 0 = some (3, 0) := by kernel_rfl
theorem fldA_54_0 : fldA Go.Proofs.Tryd.prog 54 0 = some 0 := by kernel_rfl
theorem tfld_54_1 : tfld Go.Proofs.Tryd.prog 54 1 = some (3, 1) := by kernel_rfl
theorem fldA_54_1 : fldA Go.Proofs.Tryd.prog 54 1 = some 1 := by kernel_rfl
theorem tfld_54_2 : tfld Go.Proofs.Tryd.prog 54 2 = some (4, 2) := by kernel_rfl
theorem fldA_54_2 : fldA Go.Proofs.Tryd.prog 54 2 = some 2 := by kernel_rfl
theorem tfld_54_3 : tfld Go.Proofs.Tryd.prog 54 3 = some (4, 3) := by kernel_rfl
theorem fldA_54_3 : fldA Go.Proofs.Tryd.prog 54 3 = some 3 := by kernel_rfl
theorem tfld_54_4 : tfld Go.Proofs.Tryd.prog 54 4 = some (4, 4) := by kernel_rfl
theorem fldA_54_4 : fldA Go.Proofs.Tryd.prog 54 4 = some 4 := by kernel_rfl
theorem tfld_54_5 : tfld Go.Proofs.Tryd.prog 54 5 = some (4, 5) := by kernel_rfl
theorem fldA_54_5 : fldA Go.Proofs.Tryd.prog 54 5 = some 5 := by kernel_rfl
theorem tok_55 : tok Go.Proofs.Tryd.prog 55 = true := by kernel_rfl
theorem tsz_55 : tsz Go.Proofs.Tryd.prog 55 = 6 := by kernel_rfl
theorem tby_55 : tbytes Go.Proofs.Tryd.prog 55 = 24 := by kernel_rfl
theorem tagg_55 : tagg Go.Proofs.Tryd.prog 55 = true := by kernel_rfl
theorem tconc_55 : tconc Go.Proofs.Tryd.prog 55 = true := by kernel_rfl
theorem tzero_55 : tzero Go.Proofs.Tryd.prog 55 = some (.agg #[.int .i64 0, .int .i64 0, .bool false, .bool false, .bool false, .bool false]) := by kernel_rfl
theorem tfld_55_0 : tfld Go.Proofs.Tryd.prog 55 0 = some (3, 0) := by kernel_rfl
theorem fldA_55_0 : fldA Go.Proofs.Tryd.prog 55 0 = some 0 := by kernel_rfl
theorem tfld_55_1 : tfld Go.Proofs.Tryd.prog 55 1 = some (3, 1) := by kernel_rfl
theorem fldA_55_1 : fldA Go.Proofs.Tryd.prog 55 1 = some 1 := by kernel_rfl
theorem tfld_55_2 : tfld Go.Proofs.Tryd.prog 55 2 = some (4, 2) := by kernel_rfl
theorem fldA_55_2 : fldA Go.Proofs.Tryd.prog 55 2 = some 2 := by kernel_rfl
theorem tfld_55_3 : tfld Go.Proofs.Tryd.prog 55 3 = some (4, 3) := by kernel_rfl
theorem fldA_55_3 : fldA Go.Proofs.Tryd.prog 55 3 = some 3 := by kernel_rfl
theorem tfld_55_4 : tfld Go.Proofs.Tryd.prog 55 4 = some (4, 4) := by kernel_rfl
theorem fldA_55_4 : fldA Go.Proofs.Tryd.prog 55 4 = some 4 := by kernel_rfl
theorem tfld_55_5 : tfld Go.Proofs.Tryd.prog 55 5 = some (4, 5) := by kernel_rfl
theorem fldA_55_5 : fldA Go.Proofs.Tryd.prog 55 5 = some 5 := by kernel_rfl
theorem tok_56 : tok Go.Proofs.Tryd.prog 56 = true := by kernel_rfl
theorem tsz_56 : tsz Go.Proofs.Tryd.prog 56 = 114 := by kernel_rfl
theorem tby_56 : tbytes Go.Proofs.Tryd.prog 56 = 456 := by kernel_rfl
theorem tagg_56 : tagg Go.Proofs.Tryd.prog 56 = true := by kernel_rfl
theorem tconc_56 : tconc Go.Proofs.Tryd.prog 56 = true := by kernel_rfl
theorem tzero_56 : tzero Go.Proofs.Tryd.prog 56 = some (.agg #[.int .i64 0, .int .i64 0, .bool false, .bool false, .bool false, .bool false, .int .i64 0, .int .i64 0, .bool false, .bool false, .bool false, .bool false, .int .i64 0, .int .i64 0, .bool false, .bool false, .bool false, .bool false, .int .i64 0, .int .i64 0, .bool false, .bool false, .bool false, .bool false, .int .i64 0, .int .i64 0, .bool false, .bool false, .bool false, .bool false, .int .i64 0, .int .i64 0, .bool false, .bool false, .bool false, .bool false, .int .i64 0, .int .i64 0, .bool false, .bool false, .bool false, .bool false, .int .i64 0, .int .i64 0, .bool false, .bool false, .bool false, .bool false, .int .i64 0, .int .i64 0, .bool false, .bool false, .bool false, .bool false, .int .i64 0, .int .i64 0, .bool false, .bool false, .bool false, .bool false, .int .i64 0, .int .i64 0, .bool false, .bool false, .bool false, .bool false, .int .i64 0, .int .i64 0, .bool false, .bool false, .bool false, .bool false, .int .i64 0, .int .i64 0, .bool false, .bool false, .bool false, .bool false, .int .i64 0, .int .i64 0, .bool false, .bool false, .bool false, .bool false, .int .i64 0, .int .i64 0, .bool false, .bool false, .bool false, .bool false, .int .i64 0, .int .i64 0, .bool false, .bool false, .bool false, .bool false, .int .i64 0, .int .i64 0, .bool false, .bool false, .bool false, .bool false, .int .i64 0, .int .i64 0, .bool false, .bool false, .bool false, .bool false, .int .i64 0, .int .i64 0, .bool false, .bool false, .bool false, .bool false]) := by kernel_rfl
theorem tarr_56 : tarr Go.Proofs.Tryd.prog 56 = some (19, 55) := by kernel_rfl
theorem tok_57 : tok Go.Proofs.Tryd.prog 57 = true := by kernel_rfl
theorem tsz_57 : tsz Go.Proofs.Tryd.prog 57 = 1 := by kernel_rfl
theorem tby_57 : tbytes Go.Proofs.Tryd.prog 57 = 8 := by kernel_rfl
theorem tagg_57 : tagg Go.Proofs.Tryd.prog 57 = false := by kernel_rfl
theorem tconc_57 : tconc Go.Proofs.Tryd.prog 57 = true := by kernel_rfl
theorem tzero_57 : tzero Go.Proofs.Tryd.prog 57 = some .nilFunc := by kernel_rfl
theorem tok_58 : tok Go.Proofs.Tryd.prog 58 = true := by kernel_rfl
theorem tsz_58 : tsz Go.Proofs.Tryd.prog 58 = 1 := by kernel_rfl
theorem tby_58 : tbytes Go.Proofs.Tryd.prog 58 = 24 := by kernel_rfl
theorem tagg_58 : tagg Go.Proofs.Tryd.prog 58 = false := by kernel_rfl
theorem tconc_58 : tconc Go.Proofs.Tryd.prog 58 = true := by kernel_rfl
theorem tzero_58 : tzero Go.Proofs.Tryd.prog 58 = some (.slice none 0 0) := by kernel_rfl
theorem telem_58 : telem Go.Proofs.Tryd.prog 58 = some 59 := by kernel_rfl
theorem tok_59 : tok Go.Proofs.Tryd.prog 59 = true := by kernel_rfl
theorem tsz_59 : tsz Go.Proofs.Tryd.prog 59 = 1 := by kernel_rfl
theorem tby_59 : tbytes Go.Proofs.Tryd.prog 59 = 8 := by kernel_rfl
theorem tagg_59 : tagg Go.Proofs.Tryd.prog 59 = false := by kernel_rfl
theorem tconc_59 : tconc Go.Proofs.Tryd.prog 59 = true := by kernel_rfl
theorem tzero_59 : tzero Go.Proofs.Tryd.prog 59 = some (.pointer none) := by kernel_rfl
theorem tptr_59 : tptr Go.Proofs.Tryd.prog 59 = true := by kernel_rfl
theorem tok_60 : tok Go.Proofs.Tryd.prog 60 = true := by kernel_rfl
theorem tsz_60 : tsz Go.Proofs.Tryd.prog 60 = 1 := by kernel_rfl
theorem tby_60 : tbytes Go.Proofs.Tryd.prog 60 = 8 := by kernel_rfl
theorem tagg_60 : tagg Go.Proofs.Tryd.prog 60 = false := by kernel_rfl
theorem tconc_60 : tconc Go.Proofs.Tryd.prog 60 = true := by kernel_rfl
theorem tzero_60 : tzero Go.Proofs.Tryd.prog 60 = some .nilFunc := by kernel_rfl
theorem tok_61 : tok Go.Proofs.Tryd.prog 61 = true := by kernel_rfl
theorem tsz_61 : tsz Go.Proofs.Tryd.prog 61 = 1 := by kernel_rfl
theorem tby_61 : tbytes Go.Proofs.Tryd.prog 61 = 8 := by kernel_rfl
theorem tagg_61 : tagg Go.Proofs.Tryd.prog 61 = false := by kernel_rfl
theorem tconc_61 : tconc Go.Proofs.Tryd.prog 61 = true := by kernel_rfl
theorem tzero_61 : tzero Go.Proofs.Tryd.prog 61 = some .nilFunc := by kernel_rfl
theorem tok_62 : tok Go.Proofs.Tryd.prog 62 = true := by kernel_rfl
theorem tsz_62 : tsz Go.Proofs.Tryd.prog 62 = 1 := by kernel_rfl
theorem tby_62 : tbytes Go.Proofs.Tryd.prog 62 = 8 := by kernel_rfl
theorem tagg_62 : tagg Go.Proofs.Tryd.prog 62 = false := by kernel_rfl
theorem tconc_62 : tconc Go.Proofs.Tryd.prog 62 = true := by kernel_rfl
theorem tzero_62 : tzero Go.Proofs.Tryd.prog 62 = some .nilFunc := by kernel_rfl
theorem tok_63 : tok Go.Proofs.Tryd.prog 63 = true := by kernel_rfl
theorem tsz_63 : tsz Go.Proofs.Tryd.prog 63 = 1 := by kernel_rfl
theorem tby_63 : tbytes Go.Proofs.Tryd.prog 63 = 8 := by kernel_rfl
theorem tagg_63 : tagg Go.Proofs.Tryd.prog 63 = false := by kernel_rfl
theorem tconc_63 : tconc Go.Proofs.Tryd.prog 63 = true := by kernel_rfl
theorem tzero_63 : tzero Go.Proofs.Tryd.prog 63 = some .nilFunc := by kernel_rfl
theorem tok_64 : tok Go.Proofs.Tryd.prog 64 = true := by kernel_rfl
theorem tsz_64 : tsz Go.Proofs.Tryd.prog 64 = 2 := by kernel_rfl
theorem tby_64 : tbytes Go.Proofs.Tryd.prog 64 = 16 := by kernel_rfl
theorem tagg_64 : tagg Go.Proofs.Tryd.prog 64 = true := by kernel_rfl
theorem tconc_64 : tconc Go.Proofs.Tryd.prog 64 = true := by kernel_rfl
theorem tzero_64 : tzero Go.Proofs.Tryd.prog 64 = some (.agg #[.int .i64 0, .int .i64 0]) := by kernel_rfl
theorem tfld_64_0 : tfld Go.Proofs.Tryd.prog 64 0 = some (3, 0) := by kernel_rfl
theorem fldA_64_0 : fldA Go.Proofs.Tryd.prog 64 0 = some 0 := by kernel_rfl
theorem tfld_64_1 : tfld Go.Proofs.Tryd.prog 64 1 = some (3, 1) := by kernel_rfl
theorem fldA_64_1 : fldA Go.Proofs.Tryd.prog 64 1 = some 1 := by kernel_rfl
theorem tok_65 : tok Go.Proofs.Tryd.prog 65 = true := by kernel_rfl
theorem tsz_65 : tsz Go.Proofs.Tryd.prog 65 = 2 := by kernel_rfl
theorem tby_65 : tbytes Go.Proofs.Tryd.prog 65 = 16 := by kernel_rfl
theorem tagg_65 : tagg Go.Proofs.Tryd.prog 65 = true := by kernel_rfl
theorem tconc_65 : tconc Go.Proofs.Tryd.prog 65 = true := by kernel_rfl
theorem tzero_65 : tzero Go.Proofs.Tryd.prog 65 = some (.agg #[.int .i64 0, .int .i64 0]) := by kernel_rfl
theorem tfld_65_0 : tfld Go.Proofs.Tryd.prog 65 0 = some (3, 0) := by kernel_rfl
theorem fldA_65_0 : fldA Go.Proofs.Tryd.prog 65 0 = some 0 := by kernel_rfl
theorem tfld_65_1 : tfld Go.Proofs.Tryd.prog 65 1 = some (3, 1) := by kernel_rfl
theorem fldA_65_1 : fldA Go.Proofs.Tryd.prog 65 1 = some 1 := by kernel_rfl
theorem tok_66 : tok Go.Proofs.Tryd.prog 66 = true := by kernel_rfl
theorem tsz_66 : tsz Go.Proofs.Tryd.prog 66 = 1 := by kernel_rfl
theorem tby_66 : tbytes Go.Proofs.Tryd.prog 66 = 8 := by kernel_rfl
theorem tagg_66 : tagg Go.Proofs.Tryd.prog 66 = false := by kernel_rfl
theorem tconc_66 : tconc Go.Proofs.Tryd.prog 66 = true := by kernel_rfl
theorem tzero_66 : tzero Go.Proofs.Tryd.prog 66 = some (.pointer none) := by kernel_rfl
theorem tptr_66 : tptr Go.Proofs.Tryd.prog 66 = true := by kernel_rfl
theorem meth_66_continuo_pattern_agains : methB Go.Proofs.Tryd.prog 66 "continuo/pattern.agains" = some 39 := by kernel_rfl
theorem meth_66_continuo_pattern_another : methB Go.Proofs.Tryd.prog 66 "continuo/pattern.another" = some 64 := by kernel_rfl
theorem meth_66_continuo_pattern_asked : methB Go.Proofs.Tryd.prog 66 "continuo/pattern.asked" = some 52 := by kernel_rfl
theorem meth_66_continuo_pattern_both : methB Go.Proofs.Tryd.prog 66 "continuo/pattern.both" = some 40 := by kernel_rfl
theorem meth_66_continuo_pattern_chooses : methB Go.Proofs.Tryd.prog 66 "continuo/pattern.chooses" = some 41 := by kernel_rfl
theorem meth_66_continuo_pattern_counts : methB Go.Proofs.Tryd.prog 66 "continuo/pattern.counts" = some 36 := by kernel_rfl
theorem meth_66_continuo_pattern_inner : methB Go.Proofs.Tryd.prog 66 "continuo/pattern.inner" = some 51 := by kernel_rfl
theorem meth_66_continuo_pattern_lists : methB Go.Proofs.Tryd.prog 66 "continuo/pattern.lists" = some 35 := by kernel_rfl
theorem meth_66_continuo_pattern_more : methB Go.Proofs.Tryd.prog 66 "continuo/pattern.more" = some 48 := by kernel_rfl
theorem meth_66_continuo_pattern_next : methB Go.Proofs.Tryd.prog 66 "continuo/pattern.next" = some 29 := by kernel_rfl
theorem meth_66_continuo_pattern_number : methB Go.Proofs.Tryd.prog 66 "continuo/pattern.number" = some 34 := by kernel_rfl
theorem meth_66_continuo_pattern_pick : methB Go.Proofs.Tryd.prog 66 "continuo/pattern.pick" = some 46 := by kernel_rfl
theorem meth_66_continuo_pattern_shuffled : methB Go.Proofs.Tryd.prog 66 "continuo/pattern.shuffled" = some 63 := by kernel_rfl
theorem meth_66_continuo_pattern_stutters : methB Go.Proofs.Tryd.prog 66 "continuo/pattern.stutters" = some 37 := by kernel_rfl
theorem meth_66_continuo_pattern_takes : methB Go.Proofs.Tryd.prog 66 "continuo/pattern.takes" = some 38 := by kernel_rfl
theorem tok_67 : tok Go.Proofs.Tryd.prog 67 = true := by kernel_rfl
theorem tsz_67 : tsz Go.Proofs.Tryd.prog 67 = 5 := by kernel_rfl
theorem tby_67 : tbytes Go.Proofs.Tryd.prog 67 = 40 := by kernel_rfl
theorem tagg_67 : tagg Go.Proofs.Tryd.prog 67 = true := by kernel_rfl
theorem tconc_67 : tconc Go.Proofs.Tryd.prog 67 = true := by kernel_rfl
theorem tzero_67 : tzero Go.Proofs.Tryd.prog 67 = some (.agg #[.int .i64 0, .int .i64 0, .pointer none, .bool false, .int .i64 0]) := by kernel_rfl
theorem tfld_67_0 : tfld Go.Proofs.Tryd.prog 67 0 = some (65, 0) := by kernel_rfl
theorem fldA_67_0 : fldA Go.Proofs.Tryd.prog 67 0 = some 0 := by kernel_rfl
theorem tfld_67_1 : tfld Go.Proofs.Tryd.prog 67 1 = some (66, 2) := by kernel_rfl
theorem fldA_67_1 : fldA Go.Proofs.Tryd.prog 67 1 = some 2 := by kernel_rfl
theorem tfld_67_2 : tfld Go.Proofs.Tryd.prog 67 2 = some (4, 3) := by kernel_rfl
theorem fldA_67_2 : fldA Go.Proofs.Tryd.prog 67 2 = some 3 := by kernel_rfl
theorem tfld_67_3 : tfld Go.Proofs.Tryd.prog 67 3 = some (23, 4) := by kernel_rfl
theorem fldA_67_3 : fldA Go.Proofs.Tryd.prog 67 3 = some 4 := by kernel_rfl
theorem tok_68 : tok Go.Proofs.Tryd.prog 68 = true := by kernel_rfl
theorem tsz_68 : tsz Go.Proofs.Tryd.prog 68 = 5 := by kernel_rfl
theorem tby_68 : tbytes Go.Proofs.Tryd.prog 68 = 40 := by kernel_rfl
theorem tagg_68 : tagg Go.Proofs.Tryd.prog 68 = true := by kernel_rfl
theorem tconc_68 : tconc Go.Proofs.Tryd.prog 68 = true := by kernel_rfl
theorem tzero_68 : tzero Go.Proofs.Tryd.prog 68 = some (.agg #[.int .i64 0, .int .i64 0, .pointer none, .bool false, .int .i64 0]) := by kernel_rfl
theorem tfld_68_0 : tfld Go.Proofs.Tryd.prog 68 0 = some (65, 0) := by kernel_rfl
theorem fldA_68_0 : fldA Go.Proofs.Tryd.prog 68 0 = some 0 := by kernel_rfl
theorem tfld_68_1 : tfld Go.Proofs.Tryd.prog 68 1 = some (66, 2) := by kernel_rfl
theorem fldA_68_1 : fldA Go.Proofs.Tryd.prog 68 1 = some 2 := by kernel_rfl
theorem tfld_68_2 : tfld Go.Proofs.Tryd.prog 68 2 = some (4, 3) := by kernel_rfl
theorem fldA_68_2 : fldA Go.Proofs.Tryd.prog 68 2 = some 3 := by kernel_rfl
theorem tfld_68_3 : tfld Go.Proofs.Tryd.prog 68 3 = some (23, 4) := by kernel_rfl
theorem fldA_68_3 : fldA Go.Proofs.Tryd.prog 68 3 = some 4 := by kernel_rfl
theorem tok_69 : tok Go.Proofs.Tryd.prog 69 = true := by kernel_rfl
theorem tsz_69 : tsz Go.Proofs.Tryd.prog 69 = 1 := by kernel_rfl
theorem tby_69 : tbytes Go.Proofs.Tryd.prog 69 = 8 := by kernel_rfl
theorem tagg_69 : tagg Go.Proofs.Tryd.prog 69 = false := by kernel_rfl
theorem tconc_69 : tconc Go.Proofs.Tryd.prog 69 = true := by kernel_rfl
theorem tzero_69 : tzero Go.Proofs.Tryd.prog 69 = some .nilFunc := by kernel_rfl
theorem tok_70 : tok Go.Proofs.Tryd.prog 70 = true := by kernel_rfl
theorem tsz_70 : tsz Go.Proofs.Tryd.prog 70 = 1 := by kernel_rfl
theorem tby_70 : tbytes Go.Proofs.Tryd.prog 70 = 8 := by kernel_rfl
theorem tagg_70 : tagg Go.Proofs.Tryd.prog 70 = false := by kernel_rfl
theorem tconc_70 : tconc Go.Proofs.Tryd.prog 70 = true := by kernel_rfl
theorem tzero_70 : tzero Go.Proofs.Tryd.prog 70 = some .nilFunc := by kernel_rfl
theorem tok_71 : tok Go.Proofs.Tryd.prog 71 = true := by kernel_rfl
theorem tsz_71 : tsz Go.Proofs.Tryd.prog 71 = 1 := by kernel_rfl
theorem tby_71 : tbytes Go.Proofs.Tryd.prog 71 = 0 := by kernel_rfl
theorem tagg_71 : tagg Go.Proofs.Tryd.prog 71 = false := by kernel_rfl
theorem tconc_71 : tconc Go.Proofs.Tryd.prog 71 = true := by kernel_rfl
theorem tzero_71 : tzero Go.Proofs.Tryd.prog 71 = some (.tuple #[.int .i64 0, .bool false]) := by kernel_rfl
theorem tok_72 : tok Go.Proofs.Tryd.prog 72 = true := by kernel_rfl
theorem tsz_72 : tsz Go.Proofs.Tryd.prog 72 = 1 := by kernel_rfl
theorem tby_72 : tbytes Go.Proofs.Tryd.prog 72 = 8 := by kernel_rfl
theorem tagg_72 : tagg Go.Proofs.Tryd.prog 72 = false := by kernel_rfl
theorem tconc_72 : tconc Go.Proofs.Tryd.prog 72 = true := by kernel_rfl
theorem tzero_72 : tzero Go.Proofs.Tryd.prog 72 = some .nilFunc := by kernel_rfl
theorem tok_73 : tok Go.Proofs.Tryd.prog 73 = true := by kernel_rfl
theorem tsz_73 : tsz Go.Proofs.Tryd.prog 73 = 1 := by kernel_rfl
theorem tby_73 : tbytes Go.Proofs.Tryd.prog 73 = 16 := by kernel_rfl
theorem tagg_73 : tagg Go.Proofs.Tryd.prog 73 = false := by kernel_rfl
theorem tconc_73 : tconc Go.Proofs.Tryd.prog 73 = false := by kernel_rfl
theorem tzero_73 : tzero Go.Proofs.Tryd.prog 73 = some .nilIface := by kernel_rfl
theorem tifc_73 : tifc Go.Proofs.Tryd.prog 73 = true := by kernel_rfl
theorem tok_74 : tok Go.Proofs.Tryd.prog 74 = true := by kernel_rfl
theorem tsz_74 : tsz Go.Proofs.Tryd.prog 74 = 1 := by kernel_rfl
theorem tby_74 : tbytes Go.Proofs.Tryd.prog 74 = 16 := by kernel_rfl
theorem tagg_74 : tagg Go.Proofs.Tryd.prog 74 = false := by kernel_rfl
theorem tconc_74 : tconc Go.Proofs.Tryd.prog 74 = false := by kernel_rfl
theorem tzero_74 : tzero Go.Proofs.Tryd.prog 74 = some .nilIface := by kernel_rfl
theorem tifc_74 : tifc Go.Proofs.Tryd.prog 74 = true := by kernel_rfl
theorem tok_75 : tok Go.Proofs.Tryd.prog 75 = true := by kernel_rfl
theorem tsz_75 : tsz Go.Proofs.Tryd.prog 75 = 1 := by kernel_rfl
theorem tby_75 : tbytes Go.Proofs.Tryd.prog 75 = 0 := by kernel_rfl
theorem tagg_75 : tagg Go.Proofs.Tryd.prog 75 = false := by kernel_rfl
theorem tconc_75 : tconc Go.Proofs.Tryd.prog 75 = true := by kernel_rfl
theorem tzero_75 : tzero Go.Proofs.Tryd.prog 75 = some (.tuple #[.int .i64 0, .nilIface]) := by kernel_rfl
theorem tok_76 : tok Go.Proofs.Tryd.prog 76 = true := by kernel_rfl
theorem tsz_76 : tsz Go.Proofs.Tryd.prog 76 = 1 := by kernel_rfl
theorem tby_76 : tbytes Go.Proofs.Tryd.prog 76 = 8 := by kernel_rfl
theorem tagg_76 : tagg Go.Proofs.Tryd.prog 76 = false := by kernel_rfl
theorem tconc_76 : tconc Go.Proofs.Tryd.prog 76 = true := by kernel_rfl
theorem tzero_76 : tzero Go.Proofs.Tryd.prog 76 = some .nilFunc := by kernel_rfl
theorem tok_77 : tok Go.Proofs.Tryd.prog 77 = true := by kernel_rfl
theorem tsz_77 : tsz Go.Proofs.Tryd.prog 77 = 19 := by kernel_rfl
theorem tby_77 : tbytes Go.Proofs.Tryd.prog 77 = 304 := by kernel_rfl
theorem tagg_77 : tagg Go.Proofs.Tryd.prog 77 = true := by kernel_rfl
theorem tconc_77 : tconc Go.Proofs.Tryd.prog 77 = true := by kernel_rfl
theorem tzero_77 : tzero Go.Proofs.Tryd.prog 77 = some (.agg #[.string { data := #[] }, .string { data := #[] }, .string { data := #[] }, .string { data := #[] }, .string { data := #[] }, .string { data := #[] }, .string { data := #[] }, .string { data := #[] }, .string { data := #[] }, .string { data := #[] }, .string { data := #[] }, .string { data := #[] }, .string { data := #[] }, .string { data := #[] }, .string { data := #[] }, .string { data := #[] }, .string { data := #[] }, .string { data := #[] }, .string { data := #[] }]) := by kernel_rfl
theorem tarr_77 : tarr Go.Proofs.Tryd.prog 77 = some (19, 9) := by kernel_rfl
theorem tok_78 : tok Go.Proofs.Tryd.prog 78 = true := by kernel_rfl
theorem tsz_78 : tsz Go.Proofs.Tryd.prog 78 = 1 := by kernel_rfl
theorem tby_78 : tbytes Go.Proofs.Tryd.prog 78 = 8 := by kernel_rfl
theorem tagg_78 : tagg Go.Proofs.Tryd.prog 78 = false := by kernel_rfl
theorem tconc_78 : tconc Go.Proofs.Tryd.prog 78 = true := by kernel_rfl
theorem tzero_78 : tzero Go.Proofs.Tryd.prog 78 = some .nilFunc := by kernel_rfl
theorem tok_79 : tok Go.Proofs.Tryd.prog 79 = true := by kernel_rfl
theorem tsz_79 : tsz Go.Proofs.Tryd.prog 79 = 1 := by kernel_rfl
theorem tby_79 : tbytes Go.Proofs.Tryd.prog 79 = 8 := by kernel_rfl
theorem tagg_79 : tagg Go.Proofs.Tryd.prog 79 = false := by kernel_rfl
theorem tconc_79 : tconc Go.Proofs.Tryd.prog 79 = true := by kernel_rfl
theorem tzero_79 : tzero Go.Proofs.Tryd.prog 79 = some .nilFunc := by kernel_rfl
theorem tok_80 : tok Go.Proofs.Tryd.prog 80 = true := by kernel_rfl
theorem tsz_80 : tsz Go.Proofs.Tryd.prog 80 = 1 := by kernel_rfl
theorem tby_80 : tbytes Go.Proofs.Tryd.prog 80 = 8 := by kernel_rfl
theorem tagg_80 : tagg Go.Proofs.Tryd.prog 80 = false := by kernel_rfl
theorem tconc_80 : tconc Go.Proofs.Tryd.prog 80 = true := by kernel_rfl
theorem tzero_80 : tzero Go.Proofs.Tryd.prog 80 = some .nilFunc := by kernel_rfl
theorem tok_81 : tok Go.Proofs.Tryd.prog 81 = true := by kernel_rfl
theorem tsz_81 : tsz Go.Proofs.Tryd.prog 81 = 1 := by kernel_rfl
theorem tby_81 : tbytes Go.Proofs.Tryd.prog 81 = 8 := by kernel_rfl
theorem tagg_81 : tagg Go.Proofs.Tryd.prog 81 = false := by kernel_rfl
theorem tconc_81 : tconc Go.Proofs.Tryd.prog 81 = true := by kernel_rfl
theorem tzero_81 : tzero Go.Proofs.Tryd.prog 81 = some (.pointer none) := by kernel_rfl
theorem tptr_81 : tptr Go.Proofs.Tryd.prog 81 = true := by kernel_rfl
theorem meth_81_continuo_pattern_begin : methB Go.Proofs.Tryd.prog 81 "continuo/pattern.begin" = some 26 := by kernel_rfl
theorem meth_81_continuo_pattern_draw : methB Go.Proofs.Tryd.prog 81 "continuo/pattern.draw" = some 50 := by kernel_rfl
theorem meth_81_continuo_pattern_kid : methB Go.Proofs.Tryd.prog 81 "continuo/pattern.kid" = some 47 := by kernel_rfl
theorem meth_81_continuo_pattern_step : methB Go.Proofs.Tryd.prog 81 "continuo/pattern.step" = some 65 := by kernel_rfl
theorem tok_82 : tok Go.Proofs.Tryd.prog 82 = true := by kernel_rfl
theorem tsz_82 : tsz Go.Proofs.Tryd.prog 82 = 1 := by kernel_rfl
theorem tby_82 : tbytes Go.Proofs.Tryd.prog 82 = 24 := by kernel_rfl
theorem tagg_82 : tagg Go.Proofs.Tryd.prog 82 = false := by kernel_rfl
theorem tconc_82 : tconc Go.Proofs.Tryd.prog 82 = true := by kernel_rfl
theorem tzero_82 : tzero Go.Proofs.Tryd.prog 82 = some (.slice none 0 0) := by kernel_rfl
theorem telem_82 : telem Go.Proofs.Tryd.prog 82 = some 66 := by kernel_rfl
theorem tok_83 : tok Go.Proofs.Tryd.prog 83 = true := by kernel_rfl
theorem tsz_83 : tsz Go.Proofs.Tryd.prog 83 = 16 := by kernel_rfl
theorem tby_83 : tbytes Go.Proofs.Tryd.prog 83 = 176 := by kernel_rfl
theorem tagg_83 : tagg Go.Proofs.Tryd.prog 83 = true := by kernel_rfl
theorem tconc_83 : tconc Go.Proofs.Tryd.prog 83 = true := by kernel_rfl
theorem tzero_83 : tzero Go.Proofs.Tryd.prog 83 = some (.agg #[.pointer none, .int .i64 0, .int .i64 0, .int .i64 0, .int .i64 0, .int .i64 0, .int .i64 0, .slice none 0 0, .bool false, .int .i64 0, .int .i64 0, .slice none 0 0, .slice none 0 0, .int .i64 0, .int .i64 0, .pointer none]) := by kernel_rfl
theorem tfld_83_0 : tfld Go.Proofs.Tryd.prog 83 0 = some (81, 0) := by kernel_rfl
theorem fldA_83_0 : fldA Go.Proofs.Tryd.prog 83 0 = some 0 := by kernel_rfl
theorem tfld_83_1 : tfld Go.Proofs.Tryd.prog 83 1 = some (29, 1) := by kernel_rfl
theorem fldA_83_1 : fldA Go.Proofs.Tryd.prog 83 1 = some 1 := by kernel_rfl
theorem tfld_83_2 : tfld Go.Proofs.Tryd.prog 83 2 = some (4, 8) := by kernel_rfl
theorem fldA_83_2 : fldA Go.Proofs.Tryd.prog 83 2 = some 8 := by kernel_rfl
theorem tfld_83_3 : tfld Go.Proofs.Tryd.prog 83 3 = some (3, 9) := by kernel_rfl
theorem fldA_83_3 : fldA Go.Proofs.Tryd.prog 83 3 = some 9 := by kernel_rfl
theorem tfld_83_4 : tfld Go.Proofs.Tryd.prog 83 4 = some (3, 10) := by kernel_rfl
theorem fldA_83_4 : fldA Go.Proofs.Tryd.prog 83 4 = some 10 := by kernel_rfl
theorem tfld_83_5 : tfld Go.Proofs.Tryd.prog 83 5 = some (82, 11) := by kernel_rfl
theorem fldA_83_5 : fldA Go.Proofs.Tryd.prog 83 5 = some 11 := by kernel_rfl
theorem tfld_83_6 : tfld Go.Proofs.Tryd.prog 83 6 = some (32, 12) := by kernel_rfl
theorem fldA_83_6 : fldA Go.Proofs.Tryd.prog 83 6 = some 12 := by kernel_rfl
theorem tfld_83_7 : tfld Go.Proofs.Tryd.prog 83 7 = some (3, 13) := by kernel_rfl
theorem fldA_83_7 : fldA Go.Proofs.Tryd.prog 83 7 = some 13 := by kernel_rfl
theorem tfld_83_8 : tfld Go.Proofs.Tryd.prog 83 8 = some (3, 14) := by kernel_rfl
theorem fldA_83_8 : fldA Go.Proofs.Tryd.prog 83 8 = some 14 := by kernel_rfl
theorem tfld_83_9 : tfld Go.Proofs.Tryd.prog 83 9 = some (66, 15) := by kernel_rfl
theorem fldA_83_9 : fldA Go.Proofs.Tryd.prog 83 9 = some 15 := by kernel_rfl
theorem tok_84 : tok Go.Proofs.Tryd.prog 84 = true := by kernel_rfl
theorem tsz_84 : tsz Go.Proofs.Tryd.prog 84 = 16 := by kernel_rfl
theorem tby_84 : tbytes Go.Proofs.Tryd.prog 84 = 176 := by kernel_rfl
theorem tagg_84 : tagg Go.Proofs.Tryd.prog 84 = true := by kernel_rfl
theorem tconc_84 : tconc Go.Proofs.Tryd.prog 84 = true := by kernel_rfl
theorem tzero_84 : tzero Go.Proofs.Tryd.prog 84 = some (.agg #[.pointer none, .int .i64 0, .int .i64 0, .int .i64 0, .int .i64 0, .int .i64 0, .int .i64 0, .slice none 0 0, .bool false, .int .i64 0, .int .i64 0, .slice none 0 0, .slice none 0 0, .int .i64 0, .int .i64 0, .pointer none]) := by kernel_rfl
theorem tfld_84_0 : tfld Go.Proofs.Tryd.prog 84 0 = some (81, 0) := by kernel_rfl
theorem fldA_84_0 : fldA Go.Proofs.Tryd.prog 84 0 = some 0 := by kernel_rfl
theorem tfld_84_1 : tfld Go.Proofs.Tryd.prog 84 1 = some (29, 1) := by kernel_rfl
theorem fldA_84_1 : fldA Go.Proofs.Tryd.prog 84 1 = some 1 := by kernel_rfl
theorem tfld_84_2 : tfld Go.Proofs.Tryd.prog 84 2 = some (4, 8) := by kernel_rfl
theorem fldA_84_2 : fldA Go.Proofs.Tryd.prog 84 2 = some 8 := by kernel_rfl
theorem tfld_84_3 : tfld Go.Proofs.Tryd.prog 84 3 = some (3, 9) := by kernel_rfl
theorem fldA_84_3 : fldA Go.Proofs.Tryd.prog 84 3 = some 9 := by kernel_rfl
theorem tfld_84_4 : tfld Go.Proofs.Tryd.prog 84 4 = some (3, 10) := by kernel_rfl
theorem fldA_84_4 : fldA Go.Proofs.Tryd.prog 84 4 = some 10 := by kernel_rfl
theorem tfld_84_5 : tfld Go.Proofs.Tryd.prog 84 5 = some (82, 11) := by kernel_rfl
theorem fldA_84_5 : fldA Go.Proofs.Tryd.prog 84 5 = some 11 := by kernel_rfl
theorem tfld_84_6 : tfld Go.Proofs.Tryd.prog 84 6 = some (32, 12) := by kernel_rfl
theorem fldA_84_6 : fldA Go.Proofs.Tryd.prog 84 6 = some 12 := by kernel_rfl
theorem tfld_84_7 : tfld Go.Proofs.Tryd.prog 84 7 = some (3, 13) := by kernel_rfl
theorem fldA_84_7 : fldA Go.Proofs.Tryd.prog 84 7 = some 13 := by kernel_rfl
theorem tfld_84_8 : tfld Go.Proofs.Tryd.prog 84 8 = some (3, 14) := by kernel_rfl
theorem fldA_84_8 : fldA Go.Proofs.Tryd.prog 84 8 = some 14 := by kernel_rfl
theorem tfld_84_9 : tfld Go.Proofs.Tryd.prog 84 9 = some (66, 15) := by kernel_rfl
theorem fldA_84_9 : fldA Go.Proofs.Tryd.prog 84 9 = some 15 := by kernel_rfl
theorem tok_85 : tok Go.Proofs.Tryd.prog 85 = true := by kernel_rfl
theorem tsz_85 : tsz Go.Proofs.Tryd.prog 85 = 0 := by kernel_rfl
theorem tby_85 : tbytes Go.Proofs.Tryd.prog 85 = 0 := by kernel_rfl
theorem tagg_85 : tagg Go.Proofs.Tryd.prog 85 = true := by kernel_rfl
theorem tconc_85 : tconc Go.Proofs.Tryd.prog 85 = true := by kernel_rfl
theorem tzero_85 : tzero Go.Proofs.Tryd.prog 85 = some (.agg #[]) := by kernel_rfl
theorem tok_86 : tok Go.Proofs.Tryd.prog 86 = true := by kernel_rfl
theorem tsz_86 : tsz Go.Proofs.Tryd.prog 86 = 0 := by kernel_rfl
theorem tby_86 : tbytes Go.Proofs.Tryd.prog 86 = 0 := by kernel_rfl
theorem tagg_86 : tagg Go.Proofs.Tryd.prog 86 = true := by kernel_rfl
theorem tconc_86 : tconc Go.Proofs.Tryd.prog 86 = true := by kernel_rfl
theorem tzero_86 : tzero Go.Proofs.Tryd.prog 86 = some (.agg #[]) := by kernel_rfl
theorem tok_87 : tok Go.Proofs.Tryd.prog 87 = true := by kernel_rfl
theorem tsz_87 : tsz Go.Proofs.Tryd.prog 87 = 1 := by kernel_rfl
theorem tby_87 : tbytes Go.Proofs.Tryd.prog 87 = 0 := by kernel_rfl
theorem tagg_87 : tagg Go.Proofs.Tryd.prog 87 = false := by kernel_rfl
theorem tconc_87 : tconc Go.Proofs.Tryd.prog 87 = true := by kernel_rfl
theorem tzero_87 : tzero Go.Proofs.Tryd.prog 87 = some (.tuple #[.agg #[], .bool false]) := by kernel_rfl
theorem tok_88 : tok Go.Proofs.Tryd.prog 88 = true := by kernel_rfl
theorem tsz_88 : tsz Go.Proofs.Tryd.prog 88 = 1 := by kernel_rfl
theorem tby_88 : tbytes Go.Proofs.Tryd.prog 88 = 8 := by kernel_rfl
theorem tagg_88 : tagg Go.Proofs.Tryd.prog 88 = false := by kernel_rfl
theorem tconc_88 : tconc Go.Proofs.Tryd.prog 88 = true := by kernel_rfl
theorem tzero_88 : tzero Go.Proofs.Tryd.prog 88 = some .nilFunc := by kernel_rfl
theorem tok_89 : tok Go.Proofs.Tryd.prog 89 = true := by kernel_rfl
theorem tsz_89 : tsz Go.Proofs.Tryd.prog 89 = 19 := by kernel_rfl
theorem tby_89 : tbytes Go.Proofs.Tryd.prog 89 = 152 := by kernel_rfl
theorem tagg_89 : tagg Go.Proofs.Tryd.prog 89 = true := by kernel_rfl
theorem tconc_89 : tconc Go.Proofs.Tryd.prog 89 = true := by kernel_rfl
theorem tzero_89 : tzero Go.Proofs.Tryd.prog 89 = some (.agg #[.nilFunc, .nilFunc, .nilFunc, .nilFunc, .nilFunc, .nilFunc, .nilFunc, .nilFunc, .nilFunc, .nilFunc, .nilFunc, .nilFunc, .nilFunc, .nilFunc, .nilFunc, .nilFunc, .nilFunc, .nilFunc, .nilFunc]) := by kernel_rfl
theorem tarr_89 : tarr Go.Proofs.Tryd.prog 89 = some (19, 88) := by kernel_rfl
theorem tok_90 : tok Go.Proofs.Tryd.prog 90 = true := by kernel_rfl
theorem tsz_90 : tsz Go.Proofs.Tryd.prog 90 = 1 := by kernel_rfl
theorem tby_90 : tbytes Go.Proofs.Tryd.prog 90 = 8 := by kernel_rfl
theorem tagg_90 : tagg Go.Proofs.Tryd.prog 90 = false := by kernel_rfl
theorem tconc_90 : tconc Go.Proofs.Tryd.prog 90 = true := by kernel_rfl
theorem tzero_90 : tzero Go.Proofs.Tryd.prog 90 = some .nilFunc := by kernel_rfl
theorem tok_91 : tok Go.Proofs.Tryd.prog 91 = true := by kernel_rfl
theorem tsz_91 : tsz Go.Proofs.Tryd.prog 91 = 1 := by kernel_rfl
theorem tby_91 : tbytes Go.Proofs.Tryd.prog 91 = 8 := by kernel_rfl
theorem tagg_91 : tagg Go.Proofs.Tryd.prog 91 = false := by kernel_rfl
theorem tconc_91 : tconc Go.Proofs.Tryd.prog 91 = true := by kernel_rfl
theorem tzero_91 : tzero Go.Proofs.Tryd.prog 91 = some .nilFunc := by kernel_rfl
theorem tok_92 : tok Go.Proofs.Tryd.prog 92 = true := by kernel_rfl
theorem tsz_92 : tsz Go.Proofs.Tryd.prog 92 = 1 := by kernel_rfl
theorem tby_92 : tbytes Go.Proofs.Tryd.prog 92 = 8 := by kernel_rfl
theorem tagg_92 : tagg Go.Proofs.Tryd.prog 92 = false := by kernel_rfl
theorem tconc_92 : tconc Go.Proofs.Tryd.prog 92 = true := by kernel_rfl
theorem tzero_92 : tzero Go.Proofs.Tryd.prog 92 = some .nilFunc := by kernel_rfl
theorem tok_93 : tok Go.Proofs.Tryd.prog 93 = true := by kernel_rfl
theorem tsz_93 : tsz Go.Proofs.Tryd.prog 93 = 1 := by kernel_rfl
theorem tby_93 : tbytes Go.Proofs.Tryd.prog 93 = 8 := by kernel_rfl
theorem tagg_93 : tagg Go.Proofs.Tryd.prog 93 = false := by kernel_rfl
theorem tconc_93 : tconc Go.Proofs.Tryd.prog 93 = true := by kernel_rfl
theorem tzero_93 : tzero Go.Proofs.Tryd.prog 93 = some .nilFunc := by kernel_rfl
theorem tok_94 : tok Go.Proofs.Tryd.prog 94 = true := by kernel_rfl
theorem tsz_94 : tsz Go.Proofs.Tryd.prog 94 = 1 := by kernel_rfl
theorem tby_94 : tbytes Go.Proofs.Tryd.prog 94 = 8 := by kernel_rfl
theorem tagg_94 : tagg Go.Proofs.Tryd.prog 94 = false := by kernel_rfl
theorem tconc_94 : tconc Go.Proofs.Tryd.prog 94 = true := by kernel_rfl
theorem tzero_94 : tzero Go.Proofs.Tryd.prog 94 = some .nilFunc := by kernel_rfl
theorem tok_95 : tok Go.Proofs.Tryd.prog 95 = true := by kernel_rfl
theorem tsz_95 : tsz Go.Proofs.Tryd.prog 95 = 19 := by kernel_rfl
theorem tby_95 : tbytes Go.Proofs.Tryd.prog 95 = 152 := by kernel_rfl
theorem tagg_95 : tagg Go.Proofs.Tryd.prog 95 = true := by kernel_rfl
theorem tconc_95 : tconc Go.Proofs.Tryd.prog 95 = true := by kernel_rfl
theorem tzero_95 : tzero Go.Proofs.Tryd.prog 95 = some (.agg #[.nilFunc, .nilFunc, .nilFunc, .nilFunc, .nilFunc, .nilFunc, .nilFunc, .nilFunc, .nilFunc, .nilFunc, .nilFunc, .nilFunc, .nilFunc, .nilFunc, .nilFunc, .nilFunc, .nilFunc, .nilFunc, .nilFunc]) := by kernel_rfl
theorem tarr_95 : tarr Go.Proofs.Tryd.prog 95 = some (19, 94) := by kernel_rfl
theorem tok_96 : tok Go.Proofs.Tryd.prog 96 = true := by kernel_rfl
theorem tsz_96 : tsz Go.Proofs.Tryd.prog 96 = 1 := by kernel_rfl
theorem tby_96 : tbytes Go.Proofs.Tryd.prog 96 = 8 := by kernel_rfl
theorem tagg_96 : tagg Go.Proofs.Tryd.prog 96 = false := by kernel_rfl
theorem tconc_96 : tconc Go.Proofs.Tryd.prog 96 = true := by kernel_rfl
theorem tzero_96 : tzero Go.Proofs.Tryd.prog 96 = some (.int .i64 0) := by kernel_rfl
theorem tkind_96 : tkind Go.Proofs.Tryd.prog 96 = some .i64 := by kernel_rfl
theorem meth_96_Error : methB Go.Proofs.Tryd.prog 96 "Error" = some 100 := by kernel_rfl
theorem tok_97 : tok Go.Proofs.Tryd.prog 97 = true := by kernel_rfl
theorem tsz_97 : tsz Go.Proofs.Tryd.prog 97 = 1 := by kernel_rfl
theorem tby_97 : tbytes Go.Proofs.Tryd.prog 97 = 24 := by kernel_rfl
theorem tagg_97 : tagg Go.Proofs.Tryd.prog 97 = false := by kernel_rfl
theorem tconc_97 : tconc Go.Proofs.Tryd.prog 97 = true := by kernel_rfl
theorem tzero_97 : tzero Go.Proofs.Tryd.prog 97 = some (.slice none 0 0) := by kernel_rfl
theorem telem_97 : telem Go.Proofs.Tryd.prog 97 = some 5 := by kernel_rfl
theorem tok_98 : tok Go.Proofs.Tryd.prog 98 = true := by kernel_rfl
theorem tsz_98 : tsz Go.Proofs.Tryd.prog 98 = 1 := by kernel_rfl
theorem tby_98 : tbytes Go.Proofs.Tryd.prog 98 = 0 := by kernel_rfl
theorem tagg_98 : tagg Go.Proofs.Tryd.prog 98 = false := by kernel_rfl
theorem tconc_98 : tconc Go.Proofs.Tryd.prog 98 = true := by kernel_rfl
theorem tzero_98 : tzero Go.Proofs.Tryd.prog 98 = some (.tuple #[.int .i64 0, .nilIface]) := by kernel_rfl
theorem tok_99 : tok Go.Proofs.Tryd.prog 99 = true := by kernel_rfl
theorem tsz_99 : tsz Go.Proofs.Tryd.prog 99 = 1 := by kernel_rfl
theorem tby_99 : tbytes Go.Proofs.Tryd.prog 99 = 8 := by kernel_rfl
theorem tagg_99 : tagg Go.Proofs.Tryd.prog 99 = false := by kernel_rfl
theorem tconc_99 : tconc Go.Proofs.Tryd.prog 99 = true := by kernel_rfl
theorem tzero_99 : tzero Go.Proofs.Tryd.prog 99 = some .nilFunc := by kernel_rfl
theorem tok_100 : tok Go.Proofs.Tryd.prog 100 = true := by kernel_rfl
theorem tsz_100 : tsz Go.Proofs.Tryd.prog 100 = 1 := by kernel_rfl
theorem tby_100 : tbytes Go.Proofs.Tryd.prog 100 = 8 := by kernel_rfl
theorem tagg_100 : tagg Go.Proofs.Tryd.prog 100 = false := by kernel_rfl
theorem tconc_100 : tconc Go.Proofs.Tryd.prog 100 = true := by kernel_rfl
theorem tzero_100 : tzero Go.Proofs.Tryd.prog 100 = some (.pointer none) := by kernel_rfl
theorem tptr_100 : tptr Go.Proofs.Tryd.prog 100 = true := by kernel_rfl
theorem meth_100_Error : methB Go.Proofs.Tryd.prog 100 "Error" = some 101 := by kernel_rfl
theorem tok_101 : tok Go.Proofs.Tryd.prog 101 = true := by kernel_rfl
theorem tsz_101 : tsz Go.Proofs.Tryd.prog 101 = 1 := by kernel_rfl
theorem tby_101 : tbytes Go.Proofs.Tryd.prog 101 = 8 := by kernel_rfl
theorem tagg_101 : tagg Go.Proofs.Tryd.prog 101 = false := by kernel_rfl
theorem tconc_101 : tconc Go.Proofs.Tryd.prog 101 = true := by kernel_rfl
theorem tzero_101 : tzero Go.Proofs.Tryd.prog 101 = some .nilFunc := by kernel_rfl
theorem tok_102 : tok Go.Proofs.Tryd.prog 102 = true := by kernel_rfl
theorem tsz_102 : tsz Go.Proofs.Tryd.prog 102 = 1 := by kernel_rfl
theorem tby_102 : tbytes Go.Proofs.Tryd.prog 102 = 8 := by kernel_rfl
theorem tagg_102 : tagg Go.Proofs.Tryd.prog 102 = false := by kernel_rfl
theorem tconc_102 : tconc Go.Proofs.Tryd.prog 102 = true := by kernel_rfl
theorem tzero_102 : tzero Go.Proofs.Tryd.prog 102 = some .nilFunc := by kernel_rfl
theorem tok_103 : tok Go.Proofs.Tryd.prog 103 = true := by kernel_rfl
theorem tsz_103 : tsz Go.Proofs.Tryd.prog 103 = 1 := by kernel_rfl
theorem tby_103 : tbytes Go.Proofs.Tryd.prog 103 = 8 := by kernel_rfl
theorem tagg_103 : tagg Go.Proofs.Tryd.prog 103 = false := by kernel_rfl
theorem tconc_103 : tconc Go.Proofs.Tryd.prog 103 = true := by kernel_rfl
theorem tzero_103 : tzero Go.Proofs.Tryd.prog 103 = some .nilFunc := by kernel_rfl
theorem tok_104 : tok Go.Proofs.Tryd.prog 104 = true := by kernel_rfl
theorem tsz_104 : tsz Go.Proofs.Tryd.prog 104 = 1 := by kernel_rfl
theorem tby_104 : tbytes Go.Proofs.Tryd.prog 104 = 8 := by kernel_rfl
theorem tagg_104 : tagg Go.Proofs.Tryd.prog 104 = false := by kernel_rfl
theorem tconc_104 : tconc Go.Proofs.Tryd.prog 104 = true := by kernel_rfl
theorem tzero_104 : tzero Go.Proofs.Tryd.prog 104 = some (.int .u64 0) := by kernel_rfl
theorem tkind_104 : tkind Go.Proofs.Tryd.prog 104 = some .u64 := by kernel_rfl
theorem tok_105 : tok Go.Proofs.Tryd.prog 105 = true := by kernel_rfl
theorem tsz_105 : tsz Go.Proofs.Tryd.prog 105 = 1 := by kernel_rfl
theorem tby_105 : tbytes Go.Proofs.Tryd.prog 105 = 8 := by kernel_rfl
theorem tagg_105 : tagg Go.Proofs.Tryd.prog 105 = false := by kernel_rfl
theorem tconc_105 : tconc Go.Proofs.Tryd.prog 105 = true := by kernel_rfl
theorem tzero_105 : tzero Go.Proofs.Tryd.prog 105 = some (.int .u64 0) := by kernel_rfl
theorem tkind_105 : tkind Go.Proofs.Tryd.prog 105 = some .u64 := by kernel_rfl
theorem tok_106 : tok Go.Proofs.Tryd.prog 106 = true := by kernel_rfl
theorem tsz_106 : tsz Go.Proofs.Tryd.prog 106 = 1 := by kernel_rfl
theorem tby_106 : tbytes Go.Proofs.Tryd.prog 106 = 0 := by kernel_rfl
theorem tagg_106 : tagg Go.Proofs.Tryd.prog 106 = false := by kernel_rfl
theorem tconc_106 : tconc Go.Proofs.Tryd.prog 106 = true := by kernel_rfl
theorem tzero_106 : tzero Go.Proofs.Tryd.prog 106 = some (.tuple #[.int .u64 0, .nilIface]) := by kernel_rfl
theorem tok_107 : tok Go.Proofs.Tryd.prog 107 = true := by kernel_rfl
theorem tsz_107 : tsz Go.Proofs.Tryd.prog 107 = 1 := by kernel_rfl
theorem tby_107 : tbytes Go.Proofs.Tryd.prog 107 = 8 := by kernel_rfl
theorem tagg_107 : tagg Go.Proofs.Tryd.prog 107 = false := by kernel_rfl
theorem tconc_107 : tconc Go.Proofs.Tryd.prog 107 = true := by kernel_rfl
theorem tzero_107 : tzero Go.Proofs.Tryd.prog 107 = some .nilFunc := by kernel_rfl
theorem tok_108 : tok Go.Proofs.Tryd.prog 108 = true := by kernel_rfl
theorem tsz_108 : tsz Go.Proofs.Tryd.prog 108 = 1 := by kernel_rfl
theorem tby_108 : tbytes Go.Proofs.Tryd.prog 108 = 8 := by kernel_rfl
theorem tagg_108 : tagg Go.Proofs.Tryd.prog 108 = false := by kernel_rfl
theorem tconc_108 : tconc Go.Proofs.Tryd.prog 108 = true := by kernel_rfl
theorem tzero_108 : tzero Go.Proofs.Tryd.prog 108 = some .nilFunc := by kernel_rfl
theorem tok_109 : tok Go.Proofs.Tryd.prog 109 = true := by kernel_rfl
theorem tsz_109 : tsz Go.Proofs.Tryd.prog 109 = 3 := by kernel_rfl
theorem tby_109 : tbytes Go.Proofs.Tryd.prog 109 = 48 := by kernel_rfl
theorem tagg_109 : tagg Go.Proofs.Tryd.prog 109 = true := by kernel_rfl
theorem tconc_109 : tconc Go.Proofs.Tryd.prog 109 = true := by kernel_rfl
theorem tzero_109 : tzero Go.Proofs.Tryd.prog 109 = some (.agg #[.string { data := #[] }, .string { data := #[] }, .nilIface]) := by kernel_rfl
theorem tfld_109_0 : tfld Go.Proofs.Tryd.prog 109 0 = some (9, 0) := by kernel_rfl
theorem fldA_109_0 : fldA Go.Proofs.Tryd.prog 109 0 = some 0 := by kernel_rfl
theorem tfld_109_1 : tfld Go.Proofs.Tryd.prog 109 1 = some (9, 1) := by kernel_rfl
theorem fldA_109_1 : fldA Go.Proofs.Tryd.prog 109 1 = some 1 := by kernel_rfl
theorem tfld_109_2 : tfld Go.Proofs.Tryd.prog 109 2 = some (74, 2) := by kernel_rfl
theorem fldA_109_2 : fldA Go.Proofs.Tryd.prog 109 2 = some 2 := by kernel_rfl
theorem tok_110 : tok Go.Proofs.Tryd.prog 110 = true := by kernel_rfl
theorem tsz_110 : tsz Go.Proofs.Tryd.prog 110 = 3 := by kernel_rfl
theorem tby_110 : tbytes Go.Proofs.Tryd.prog 110 = 48 := by kernel_rfl
theorem tagg_110 : tagg Go.Proofs.Tryd.prog 110 = true := by kernel_rfl
theorem tconc_110 : tconc Go.Proofs.Tryd.prog 110 = true := by kernel_rfl
theorem tzero_110 : tzero Go.Proofs.Tryd.prog 110 = some (.agg #[.string { data := #[] }, .string { data := #[] }, .nilIface]) := by kernel_rfl
theorem tfld_110_0 : tfld Go.Proofs.Tryd.prog 110 0 = some (9, 0) := by kernel_rfl
theorem fldA_110_0 : fldA Go.Proofs.Tryd.prog 110 0 = some 0 := by kernel_rfl
theorem tfld_110_1 : tfld Go.Proofs.Tryd.prog 110 1 = some (9, 1) := by kernel_rfl
theorem fldA_110_1 : fldA Go.Proofs.Tryd.prog 110 1 = some 1 := by kernel_rfl
theorem tfld_110_2 : tfld Go.Proofs.Tryd.prog 110 2 = some (74, 2) := by kernel_rfl
theorem fldA_110_2 : fldA Go.Proofs.Tryd.prog 110 2 = some 2 := by kernel_rfl
theorem tok_111 : tok Go.Proofs.Tryd.prog 111 = true := by kernel_rfl
theorem tsz_111 : tsz Go.Proofs.Tryd.prog 111 = 1 := by kernel_rfl
theorem tby_111 : tbytes Go.Proofs.Tryd.prog 111 = 8 := by kernel_rfl
theorem tagg_111 : tagg Go.Proofs.Tryd.prog 111 = false := by kernel_rfl
theorem tconc_111 : tconc Go.Proofs.Tryd.prog 111 = true := by kernel_rfl
theorem tzero_111 : tzero Go.Proofs.Tryd.prog 111 = some .nilFunc := by kernel_rfl
theorem tok_112 : tok Go.Proofs.Tryd.prog 112 = true := by kernel_rfl
theorem tsz_112 : tsz Go.Proofs.Tryd.prog 112 = 1 := by kernel_rfl
theorem tby_112 : tbytes Go.Proofs.Tryd.prog 112 = 8 := by kernel_rfl
theorem tagg_112 : tagg Go.Proofs.Tryd.prog 112 = false := by kernel_rfl
theorem tconc_112 : tconc Go.Proofs.Tryd.prog 112 = true := by kernel_rfl
theorem tzero_112 : tzero Go.Proofs.Tryd.prog 112 = some .nilFunc := by kernel_rfl
theorem tok_113 : tok Go.Proofs.Tryd.prog 113 = true := by kernel_rfl
theorem tsz_113 : tsz Go.Proofs.Tryd.prog 113 = 1 := by kernel_rfl
theorem tby_113 : tbytes Go.Proofs.Tryd.prog 113 = 8 := by kernel_rfl
theorem tagg_113 : tagg Go.Proofs.Tryd.prog 113 = false := by kernel_rfl
theorem tconc_113 : tconc Go.Proofs.Tryd.prog 113 = true := by kernel_rfl
theorem tzero_113 : tzero Go.Proofs.Tryd.prog 113 = some .nilFunc := by kernel_rfl
theorem tok_114 : tok Go.Proofs.Tryd.prog 114 = true := by kernel_rfl
theorem tsz_114 : tsz Go.Proofs.Tryd.prog 114 = 1 := by kernel_rfl
theorem tby_114 : tbytes Go.Proofs.Tryd.prog 114 = 8 := by kernel_rfl
theorem tagg_114 : tagg Go.Proofs.Tryd.prog 114 = false := by kernel_rfl
theorem tconc_114 : tconc Go.Proofs.Tryd.prog 114 = true := by kernel_rfl
theorem tzero_114 : tzero Go.Proofs.Tryd.prog 114 = some .nilFunc := by kernel_rfl
theorem tok_115 : tok Go.Proofs.Tryd.prog 115 = true := by kernel_rfl
theorem tsz_115 : tsz Go.Proofs.Tryd.prog 115 = 1 := by kernel_rfl
theorem tby_115 : tbytes Go.Proofs.Tryd.prog 115 = 8 := by kernel_rfl
theorem tagg_115 : tagg Go.Proofs.Tryd.prog 115 = false := by kernel_rfl
theorem tconc_115 : tconc Go.Proofs.Tryd.prog 115 = true := by kernel_rfl
theorem tzero_115 : tzero Go.Proofs.Tryd.prog 115 = some (.pointer none) := by kernel_rfl
theorem tptr_115 : tptr Go.Proofs.Tryd.prog 115 = true := by kernel_rfl
theorem tok_116 : tok Go.Proofs.Tryd.prog 116 = true := by kernel_rfl
theorem tsz_116 : tsz Go.Proofs.Tryd.prog 116 = 1 := by kernel_rfl
theorem tby_116 : tbytes Go.Proofs.Tryd.prog 116 = 8 := by kernel_rfl
theorem tagg_116 : tagg Go.Proofs.Tryd.prog 116 = false := by kernel_rfl
theorem tconc_116 : tconc Go.Proofs.Tryd.prog 116 = true := by kernel_rfl
theorem tzero_116 : tzero Go.Proofs.Tryd.prog 116 = some (.pointer none) := by kernel_rfl
theorem tptr_116 : tptr Go.Proofs.Tryd.prog 116 = true := by kernel_rfl
theorem meth_116_Error : methB Go.Proofs.Tryd.prog 116 "Error" = some 102 := by kernel_rfl
theorem tok_117 : tok Go.Proofs.Tryd.prog 117 = true := by kernel_rfl
theorem tsz_117 : tsz Go.Proofs.Tryd.prog 117 = 1 := by kernel_rfl
theorem tby_117 : tbytes Go.Proofs.Tryd.prog 117 = 16 := by kernel_rfl
theorem tagg_117 : tagg Go.Proofs.Tryd.prog 117 = true := by kernel_rfl
theorem tconc_117 : tconc Go.Proofs.Tryd.prog 117 = true := by kernel_rfl
theorem tzero_117 : tzero Go.Proofs.Tryd.prog 117 = some (.agg #[.string { data := #[] }]) := by kernel_rfl
theorem tfld_117_0 : tfld Go.Proofs.Tryd.prog 117 0 = some (9, 0) := by kernel_rfl
theorem fldA_117_0 : fldA Go.Proofs.Tryd.prog 117 0 = some 0 := by kernel_rfl
theorem tok_118 : tok Go.Proofs.Tryd.prog 118 = true := by kernel_rfl
theorem tsz_118 : tsz Go.Proofs.Tryd.prog 118 = 1 := by kernel_rfl
theorem tby_118 : tbytes Go.Proofs.Tryd.prog 118 = 16 := by kernel_rfl
theorem tagg_118 : tagg Go.Proofs.Tryd.prog 118 = true := by kernel_rfl
theorem tconc_118 : tconc Go.Proofs.Tryd.prog 118 = true := by kernel_rfl
theorem tzero_118 : tzero Go.Proofs.Tryd.prog 118 = some (.agg #[.string { data := #[] }]) := by kernel_rfl
theorem tfld_118_0 : tfld Go.Proofs.Tryd.prog 118 0 = some (9, 0) := by kernel_rfl
theorem fldA_118_0 : fldA Go.Proofs.Tryd.prog 118 0 = some 0 := by kernel_rfl
theorem tok_119 : tok Go.Proofs.Tryd.prog 119 = true := by kernel_rfl
theorem tsz_119 : tsz Go.Proofs.Tryd.prog 119 = 1 := by kernel_rfl
theorem tby_119 : tbytes Go.Proofs.Tryd.prog 119 = 8 := by kernel_rfl
theorem tagg_119 : tagg Go.Proofs.Tryd.prog 119 = false := by kernel_rfl
theorem tconc_119 : tconc Go.Proofs.Tryd.prog 119 = true := by kernel_rfl
theorem tzero_119 : tzero Go.Proofs.Tryd.prog 119 = some .nilFunc := by kernel_rfl
theorem tok_120 : tok Go.Proofs.Tryd.prog 120 = true := by kernel_rfl
theorem tsz_120 : tsz Go.Proofs.Tryd.prog 120 = 24 := by kernel_rfl
theorem tby_120 : tbytes Go.Proofs.Tryd.prog 120 = 24 := by kernel_rfl
theorem tagg_120 : tagg Go.Proofs.Tryd.prog 120 = true := by kernel_rfl
theorem tconc_120 : tconc Go.Proofs.Tryd.prog 120 = true := by kernel_rfl
theorem tzero_120 : tzero Go.Proofs.Tryd.prog 120 = some (.agg #[.int .u8 0, .int .u8 0, .int .u8 0, .int .u8 0, .int .u8 0, .int .u8 0, .int .u8 0, .int .u8 0, .int .u8 0, .int .u8 0, .int .u8 0, .int .u8 0, .int .u8 0, .int .u8 0, .int .u8 0, .int .u8 0, .int .u8 0, .int .u8 0, .int .u8 0, .int .u8 0, .int .u8 0, .int .u8 0, .int .u8 0, .int .u8 0]) := by kernel_rfl
theorem tarr_120 : tarr Go.Proofs.Tryd.prog 120 = some (24, 5) := by kernel_rfl
theorem tok_121 : tok Go.Proofs.Tryd.prog 121 = true := by kernel_rfl
theorem tsz_121 : tsz Go.Proofs.Tryd.prog 121 = 1 := by kernel_rfl
theorem tby_121 : tbytes Go.Proofs.Tryd.prog 121 = 8 := by kernel_rfl
theorem tagg_121 : tagg Go.Proofs.Tryd.prog 121 = false := by kernel_rfl
theorem tconc_121 : tconc Go.Proofs.Tryd.prog 121 = true := by kernel_rfl
theorem tzero_121 : tzero Go.Proofs.Tryd.prog 121 = some .nilFunc := by kernel_rfl
theorem tok_122 : tok Go.Proofs.Tryd.prog 122 = true := by kernel_rfl
theorem tsz_122 : tsz Go.Proofs.Tryd.prog 122 = 1 := by kernel_rfl
theorem tby_122 : tbytes Go.Proofs.Tryd.prog 122 = 8 := by kernel_rfl
theorem tagg_122 : tagg Go.Proofs.Tryd.prog 122 = false := by kernel_rfl
theorem tconc_122 : tconc Go.Proofs.Tryd.prog 122 = true := by kernel_rfl
theorem tzero_122 : tzero Go.Proofs.Tryd.prog 122 = some .nilFunc := by kernel_rfl
theorem tok_123 : tok Go.Proofs.Tryd.prog 123 = true := by kernel_rfl
theorem tsz_123 : tsz Go.Proofs.Tryd.prog 123 = 1 := by kernel_rfl
theorem tby_123 : tbytes Go.Proofs.Tryd.prog 123 = 0 := by kernel_rfl
theorem tagg_123 : tagg Go.Proofs.Tryd.prog 123 = false := by kernel_rfl
theorem tconc_123 : tconc Go.Proofs.Tryd.prog 123 = true := by kernel_rfl
theorem tzero_123 : tzero Go.Proofs.Tryd.prog 123 = some (.tuple #[.slice none 0 0, .string { data := #[] }]) := by kernel_rfl
theorem tok_124 : tok Go.Proofs.Tryd.prog 124 = true := by kernel_rfl
theorem tsz_124 : tsz Go.Proofs.Tryd.prog 124 = 1 := by kernel_rfl
theorem tby_124 : tbytes Go.Proofs.Tryd.prog 124 = 8 := by kernel_rfl
theorem tagg_124 : tagg Go.Proofs.Tryd.prog 124 = false := by kernel_rfl
theorem tconc_124 : tconc Go.Proofs.Tryd.prog 124 = true := by kernel_rfl
theorem tzero_124 : tzero Go.Proofs.Tryd.prog 124 = some .nilFunc := by kernel_rfl
theorem tok_125 : tok Go.Proofs.Tryd.prog 125 = true := by kernel_rfl
theorem tsz_125 : tsz Go.Proofs.Tryd.prog 125 = 20 := by kernel_rfl
theorem tby_125 : tbytes Go.Proofs.Tryd.prog 125 = 160 := by kernel_rfl
theorem tagg_125 : tagg Go.Proofs.Tryd.prog 125 = true := by kernel_rfl
theorem tconc_125 : tconc Go.Proofs.Tryd.prog 125 = true := by kernel_rfl
theorem tzero_125 : tzero Go.Proofs.Tryd.prog 125 = some (.agg #[.int .u64 0, .int .u64 0, .int .u64 0, .int .u64 0, .int .u64 0, .int .u64 0, .int .u64 0, .int .u64 0, .int .u64 0, .int .u64 0, .int .u64 0, .int .u64 0, .int .u64 0, .int .u64 0, .int .u64 0, .int .u64 0, .int .u64 0, .int .u64 0, .int .u64 0, .int .u64 0]) := by kernel_rfl
theorem tarr_125 : tarr Go.Proofs.Tryd.prog 125 = some (20, 105) := by kernel_rfl
theorem tok_126 : tok Go.Proofs.Tryd.prog 126 = true := by kernel_rfl
theorem tsz_126 : tsz Go.Proofs.Tryd.prog 126 = 1 := by kernel_rfl
theorem tby_126 : tbytes Go.Proofs.Tryd.prog 126 = 4 := by kernel_rfl
theorem tagg_126 : tagg Go.Proofs.Tryd.prog 126 = false := by kernel_rfl
theorem tconc_126 : tconc Go.Proofs.Tryd.prog 126 = true := by kernel_rfl
theorem tzero_126 : tzero Go.Proofs.Tryd.prog 126 = some (.int .u32 0) := by kernel_rfl
theorem tkind_126 : tkind Go.Proofs.Tryd.prog 126 = some .u32 := by kernel_rfl
theorem tok_127 : tok Go.Proofs.Tryd.prog 127 = true := by kernel_rfl
theorem tsz_127 : tsz Go.Proofs.Tryd.prog 127 = 65 := by kernel_rfl
theorem tby_127 : tbytes Go.Proofs.Tryd.prog 127 = 65 := by kernel_rfl
theorem tagg_127 : tagg Go.Proofs.Tryd.prog 127 = true := by kernel_rfl
theorem tconc_127 : tconc Go.Proofs.Tryd.prog 127 = true := by kernel_rfl
theorem tzero_127 : tzero Go.Proofs.Tryd.prog 127 = some (.agg #[.int .u8 0, .int .u8 0, .int .u8 0, .int .u8 0, .int .u8 0, .int .u8 0, .int .u8 0, .int .u8 0, .int .u8 0, .int .u8 0, .int .u8 0, .int .u8 0, .int .u8 0, .int .u8 0, .int .u8 0, .int .u8 0, .int .u8 0, .int .u8 0, .int .u8 0, .int .u8 0, .int .u8 0, .int .u8 0, .int .u8 0, .int .u8 0, .int .u8 0, .int .u8 0, .int .u8 0, .int .u8 0, .int .u8 0, .int .u8 0, .int .u8 0, .int .u8 0, .int .u8 0, .int .u8 0, .int .u8 0, .int .u8 0, .int .u8 0, .int .u8 0, .int .u8 0, .int .u8 0, .int .u8 0, .int .u8 0, .int .u8 0, .int .u8 0, .int .u8 0, .int .u8 0, .int .u8 0, .int .u8 0, .int .u8 0, .int .u8 0, .int .u8 0, .int .u8 0, .int .u8 0, .int .u8 0, .int .u8 0, .int .u8 0, .int .u8 0, .int .u8 0, .int .u8 0, .int .u8 0, .int .u8 0, .int .u8 0, .int .u8 0, .int .u8 0, .int .u8 0]) := by kernel_rfl
theorem tarr_127 : tarr Go.Proofs.Tryd.prog 127 = some (65, 5) := by kernel_rfl
theorem tok_128 : tok Go.Proofs.Tryd.prog 128 = true := by kernel_rfl
theorem tsz_128 : tsz Go.Proofs.Tryd.prog 128 = 1 := by kernel_rfl
theorem tby_128 : tbytes Go.Proofs.Tryd.prog 128 = 8 := by kernel_rfl
theorem tagg_128 : tagg Go.Proofs.Tryd.prog 128 = false := by kernel_rfl
theorem tconc_128 : tconc Go.Proofs.Tryd.prog 128 = true := by kernel_rfl
theorem tzero_128 : tzero Go.Proofs.Tryd.prog 128 = some .nilFunc := by kernel_rfl
theorem tok_129 : tok Go.Proofs.Tryd.prog 129 = true := by kernel_rfl
theorem tsz_129 : tsz Go.Proofs.Tryd.prog 129 = 1 := by kernel_rfl
theorem tby_129 : tbytes Go.Proofs.Tryd.prog 129 = 8 := by kernel_rfl
theorem tagg_129 : tagg Go.Proofs.Tryd.prog 129 = false := by kernel_rfl
theorem tconc_129 : tconc Go.Proofs.Tryd.prog 129 = true := by kernel_rfl
theorem tzero_129 : tzero Go.Proofs.Tryd.prog 129 = some .nilFunc := by kernel_rfl
theorem tok_130 : tok Go.Proofs.Tryd.prog 130 = true := by kernel_rfl
theorem tsz_130 : tsz Go.Proofs.Tryd.prog 130 = 1 := by kernel_rfl
theorem tby_130 : tbytes Go.Proofs.Tryd.prog 130 = 8 := by kernel_rfl
theorem tagg_130 : tagg Go.Proofs.Tryd.prog 130 = false := by kernel_rfl
theorem tconc_130 : tconc Go.Proofs.Tryd.prog 130 = true := by kernel_rfl
theorem tzero_130 : tzero Go.Proofs.Tryd.prog 130 = some .nilFunc := by kernel_rfl
theorem tok_131 : tok Go.Proofs.Tryd.prog 131 = true := by kernel_rfl
theorem tsz_131 : tsz Go.Proofs.Tryd.prog 131 = 32 := by kernel_rfl
theorem tby_131 : tbytes Go.Proofs.Tryd.prog 131 = 32 := by kernel_rfl
theorem tagg_131 : tagg Go.Proofs.Tryd.prog 131 = true := by kernel_rfl
theorem tconc_131 : tconc Go.Proofs.Tryd.prog 131 = true := by kernel_rfl
theorem tzero_131 : tzero Go.Proofs.Tryd.prog 131 = some (.agg #[.int .u8 0, .int .u8 0, .int .u8 0, .int .u8 0, .int .u8 0, .int .u8 0, .int .u8 0, .int .u8 0, .int .u8 0, .int .u8 0, .int .u8 0, .int .u8 0, .int .u8 0, .int .u8 0, .int .u8 0, .int .u8 0, .int .u8 0, .int .u8 0, .int .u8 0, .int .u8 0, .int .u8 0, .int .u8 0, .int .u8 0, .int .u8 0, .int .u8 0, .int .u8 0, .int .u8 0, .int .u8 0, .int .u8 0, .int .u8 0, .int .u8 0, .int .u8 0]) := by kernel_rfl
theorem tarr_131 : tarr Go.Proofs.Tryd.prog 131 = some (32, 5) := by kernel_rfl
theorem tok_132 : tok Go.Proofs.Tryd.prog 132 = true := by kernel_rfl
theorem tsz_132 : tsz Go.Proofs.Tryd.prog 132 = 64 := by kernel_rfl
theorem tby_132 : tbytes Go.Proofs.Tryd.prog 132 = 64 := by kernel_rfl
theorem tagg_132 : tagg Go.Proofs.Tryd.prog 132 = true := by kernel_rfl
theorem tconc_132 : tconc Go.Proofs.Tryd.prog 132 = true := by kernel_rfl
theorem tzero_132 : tzero Go.Proofs.Tryd.prog 132 = some (.agg #[.int .u8 0, .int .u8 0, .int .u8 0, .int .u8 0, .int .u8 0, .int .u8 0, .int .u8 0, .int .u8 0, .int .u8 0, .int .u8 0, .int .u8 0, .int .u8 0, .int .u8 0, .int .u8 0, .int .u8 0, .int .u8 0, .int .u8 0, .int .u8 0, .int .u8 0, .int .u8 0, .int .u8 0, .int .u8 0, .int .u8 0, .int .u8 0, .int .u8 0, .int .u8 0, .int .u8 0, .int .u8 0, .int .u8 0, .int .u8 0, .int .u8 0, .int .u8 0, .int .u8 0, .int .u8 0, .int .u8 0, .int .u8 0, .int .u8 0, .int .u8 0, .int .u8 0, .int .u8 0, .int .u8 0, .int .u8 0, .int .u8 0, .int .u8 0, .int .u8 0, .int .u8 0, .int .u8 0, .int .u8 0, .int .u8 0, .int .u8 0, .int .u8 0, .int .u8 0, .int .u8 0, .int .u8 0, .int .u8 0, .int .u8 0, .int .u8 0, .int .u8 0, .int .u8 0, .int .u8 0, .int .u8 0, .int .u8 0, .int .u8 0, .int .u8 0]) := by kernel_rfl
theorem tarr_132 : tarr Go.Proofs.Tryd.prog 132 = some (64, 5) := by kernel_rfl
theorem tok_133 : tok Go.Proofs.Tryd.prog 133 = true := by kernel_rfl
theorem tsz_133 : tsz Go.Proofs.Tryd.prog 133 = 1 := by kernel_rfl
theorem tby_133 : tbytes Go.Proofs.Tryd.prog 133 = 8 := by kernel_rfl
theorem tagg_133 : tagg Go.Proofs.Tryd.prog 133 = false := by kernel_rfl
theorem tconc_133 : tconc Go.Proofs.Tryd.prog 133 = true := by kernel_rfl
theorem tzero_133 : tzero Go.Proofs.Tryd.prog 133 = some .nilFunc := by kernel_rfl
theorem tok_134 : tok Go.Proofs.Tryd.prog 134 = true := by kernel_rfl
theorem tsz_134 : tsz Go.Proofs.Tryd.prog 134 = 4 := by kernel_rfl
theorem tby_134 : tbytes Go.Proofs.Tryd.prog 134 = 40 := by kernel_rfl
theorem tagg_134 : tagg Go.Proofs.Tryd.prog 134 = true := by kernel_rfl
theorem tconc_134 : tconc Go.Proofs.Tryd.prog 134 = true := by kernel_rfl
theorem tzero_134 : tzero Go.Proofs.Tryd.prog 134 = some (.agg #[.pointer none, .pointer none, .pointer none, .string { data := #[] }]) := by kernel_rfl
theorem tfld_134_0 : tfld Go.Proofs.Tryd.prog 134 0 = some (17, 0) := by kernel_rfl
theorem fldA_134_0 : fldA Go.Proofs.Tryd.prog 134 0 = some 0 := by kernel_rfl
theorem tfld_134_1 : tfld Go.Proofs.Tryd.prog 134 1 = some (17, 1) := by kernel_rfl
theorem fldA_134_1 : fldA Go.Proofs.Tryd.prog 134 1 = some 1 := by kernel_rfl
theorem tfld_134_2 : tfld Go.Proofs.Tryd.prog 134 2 = some (17, 2) := by kernel_rfl
theorem fldA_134_2 : fldA Go.Proofs.Tryd.prog 134 2 = some 2 := by kernel_rfl
theorem tfld_134_3 : tfld Go.Proofs.Tryd.prog 134 3 = some (9, 3) := by kernel_rfl
theorem fldA_134_3 : fldA Go.Proofs.Tryd.prog 134 3 = some 3 := by kernel_rfl
theorem tok_135 : tok Go.Proofs.Tryd.prog 135 = true := by kernel_rfl
theorem tsz_135 : tsz Go.Proofs.Tryd.prog 135 = 4 := by kernel_rfl
theorem tby_135 : tbytes Go.Proofs.Tryd.prog 135 = 40 := by kernel_rfl
theorem tagg_135 : tagg Go.Proofs.Tryd.prog 135 = true := by kernel_rfl
theorem tconc_135 : tconc Go.Proofs.Tryd.prog 135 = true := by kernel_rfl
theorem tzero_135 : tzero Go.Proofs.Tryd.prog 135 = some (.agg #[.pointer none, .pointer none, .pointer none, .string { data := #[] }]) := by kernel_rfl
theorem tfld_135_0 : tfld Go.Proofs.Tryd.prog 135 0 = some (17, 0) := by kernel_rfl
theorem fldA_135_0 : fldA Go.Proofs.Tryd.prog 135 0 = some 0 := by kernel_rfl
theorem tfld_135_1 : tfld Go.Proofs.Tryd.prog 135 1 = some (17, 1) := by kernel_rfl
theorem fldA_135_1 : fldA Go.Proofs.Tryd.prog 135 1 = some 1 := by kernel_rfl
theorem tfld_135_2 : tfld Go.Proofs.Tryd.prog 135 2 = some (17, 2) := by kernel_rfl
theorem fldA_135_2 : fldA Go.Proofs.Tryd.prog 135 2 = some 2 := by kernel_rfl
theorem tfld_135_3 : tfld Go.Proofs.Tryd.prog 135 3 = some (9, 3) := by kernel_rfl
theorem fldA_135_3 : fldA Go.Proofs.Tryd.prog 135 3 = some 3 := by kernel_rfl
theorem tok_136 : tok Go.Proofs.Tryd.prog 136 = true := by kernel_rfl
theorem tsz_136 : tsz Go.Proofs.Tryd.prog 136 = 0 := by kernel_rfl
theorem tby_136 : tbytes Go.Proofs.Tryd.prog 136 = 0 := by kernel_rfl
theorem tagg_136 : tagg Go.Proofs.Tryd.prog 136 = true := by kernel_rfl
theorem tconc_136 : tconc Go.Proofs.Tryd.prog 136 = true := by kernel_rfl
theorem tzero_136 : tzero Go.Proofs.Tryd.prog 136 = some (.agg #[]) := by kernel_rfl
theorem tarr_136 : tarr Go.Proofs.Tryd.prog 136 = some (0, 16) := by kernel_rfl
theorem tok_137 : tok Go.Proofs.Tryd.prog 137 = true := by kernel_rfl
theorem tsz_137 : tsz Go.Proofs.Tryd.prog 137 = 0 := by kernel_rfl
theorem tby_137 : tbytes Go.Proofs.Tryd.prog 137 = 0 := by kernel_rfl
theorem tagg_137 : tagg Go.Proofs.Tryd.prog 137 = true := by kernel_rfl
theorem tconc_137 : tconc Go.Proofs.Tryd.prog 137 = true := by kernel_rfl
theorem tzero_137 : tzero Go.Proofs.Tryd.prog 137 = some (.agg #[]) := by kernel_rfl
theorem tfld_137_0 : tfld Go.Proofs.Tryd.prog 137 0 = some (136, 0) := by kernel_rfl
theorem tok_138 : tok Go.Proofs.Tryd.prog 138 = true := by kernel_rfl
theorem tsz_138 : tsz Go.Proofs.Tryd.prog 138 = 0 := by kernel_rfl
theorem tby_138 : tbytes Go.Proofs.Tryd.prog 138 = 0 := by kernel_rfl
theorem tagg_138 : tagg Go.Proofs.Tryd.prog 138 = true := by kernel_rfl
theorem tconc_138 : tconc Go.Proofs.Tryd.prog 138 = true := by kernel_rfl
theorem tzero_138 : tzero Go.Proofs.Tryd.prog 138 = some (.agg #[]) := by kernel_rfl
theorem tfld_138_0 : tfld Go.Proofs.Tryd.prog 138 0 = some (136, 0) := by kernel_rfl
theorem tok_139 : tok Go.Proofs.Tryd.prog 139 = true := by kernel_rfl
theorem tsz_139 : tsz Go.Proofs.Tryd.prog 139 = 1 := by kernel_rfl
theorem tby_139 : tbytes Go.Proofs.Tryd.prog 139 = 1 := by kernel_rfl
theorem tagg_139 : tagg Go.Proofs.Tryd.prog 139 = false := by kernel_rfl
theorem tconc_139 : tconc Go.Proofs.Tryd.prog 139 = true := by kernel_rfl
theorem tzero_139 : tzero Go.Proofs.Tryd.prog 139 = some (.int .u8 0) := by kernel_rfl
theorem tkind_139 : tkind Go.Proofs.Tryd.prog 139 = some .u8 := by kernel_rfl
theorem tok_140 : tok Go.Proofs.Tryd.prog 140 = true := by kernel_rfl
theorem tsz_140 : tsz Go.Proofs.Tryd.prog 140 = 1 := by kernel_rfl
theorem tby_140 : tbytes Go.Proofs.Tryd.prog 140 = 1 := by kernel_rfl
theorem tagg_140 : tagg Go.Proofs.Tryd.prog 140 = false := by kernel_rfl
theorem tconc_140 : tconc Go.Proofs.Tryd.prog 140 = true := by kernel_rfl
theorem tzero_140 : tzero Go.Proofs.Tryd.prog 140 = some (.int .u8 0) := by kernel_rfl
theorem tkind_140 : tkind Go.Proofs.Tryd.prog 140 = some .u8 := by kernel_rfl
theorem meth_140_String : methB Go.Proofs.Tryd.prog 140 "String" = some 103 := by kernel_rfl
theorem tok_141 : tok Go.Proofs.Tryd.prog 141 = true := by kernel_rfl
theorem tsz_141 : tsz Go.Proofs.Tryd.prog 141 = 1 := by kernel_rfl
theorem tby_141 : tbytes Go.Proofs.Tryd.prog 141 = 8 := by kernel_rfl
theorem tagg_141 : tagg Go.Proofs.Tryd.prog 141 = false := by kernel_rfl
theorem tconc_141 : tconc Go.Proofs.Tryd.prog 141 = true := by kernel_rfl
theorem tzero_141 : tzero Go.Proofs.Tryd.prog 141 = some .nilFunc := by kernel_rfl
theorem tok_142 : tok Go.Proofs.Tryd.prog 142 = true := by kernel_rfl
theorem tsz_142 : tsz Go.Proofs.Tryd.prog 142 = 1 := by kernel_rfl
theorem tby_142 : tbytes Go.Proofs.Tryd.prog 142 = 4 := by kernel_rfl
theorem tagg_142 : tagg Go.Proofs.Tryd.prog 142 = false := by kernel_rfl
theorem tconc_142 : tconc Go.Proofs.Tryd.prog 142 = true := by kernel_rfl
theorem tzero_142 : tzero Go.Proofs.Tryd.prog 142 = some (.int .i32 0) := by kernel_rfl
theorem tkind_142 : tkind Go.Proofs.Tryd.prog 142 = some .i32 := by kernel_rfl
theorem tok_143 : tok Go.Proofs.Tryd.prog 143 = true := by kernel_rfl
theorem tsz_143 : tsz Go.Proofs.Tryd.prog 143 = 1 := by kernel_rfl
theorem tby_143 : tbytes Go.Proofs.Tryd.prog 143 = 4 := by kernel_rfl
theorem tagg_143 : tagg Go.Proofs.Tryd.prog 143 = false := by kernel_rfl
theorem tconc_143 : tconc Go.Proofs.Tryd.prog 143 = true := by kernel_rfl
theorem tzero_143 : tzero Go.Proofs.Tryd.prog 143 = some (.int .i32 0) := by kernel_rfl
theorem tkind_143 : tkind Go.Proofs.Tryd.prog 143 = some .i32 := by kernel_rfl
theorem tok_144 : tok Go.Proofs.Tryd.prog 144 = true := by kernel_rfl
theorem tsz_144 : tsz Go.Proofs.Tryd.prog 144 = 11 := by kernel_rfl
theorem tby_144 : tbytes Go.Proofs.Tryd.prog 144 = 48 := by kernel_rfl
theorem tagg_144 : tagg Go.Proofs.Tryd.prog 144 = true := by kernel_rfl
theorem tconc_144 : tconc Go.Proofs.Tryd.prog 144 = true := by kernel_rfl
theorem tzero_144 : tzero Go.Proofs.Tryd.prog 144 = some (.agg #[.int .u64 0, .int .u64 0, .int .u32 0, .int .u8 0, .int .u8 0, .int .u8 0, .int .u8 0, .nilFunc, .pointer none, .int .i32 0, .int .i32 0]) := by kernel_rfl
theorem tfld_144_0 : tfld Go.Proofs.Tryd.prog 144 0 = some (12, 0) := by kernel_rfl
theorem fldA_144_0 : fldA Go.Proofs.Tryd.prog 144 0 = some 0 := by kernel_rfl
theorem tfld_144_1 : tfld Go.Proofs.Tryd.prog 144 1 = some (12, 1) := by kernel_rfl
theorem fldA_144_1 : fldA Go.Proofs.Tryd.prog 144 1 = some 1 := by kernel_rfl
theorem tfld_144_2 : tfld Go.Proofs.Tryd.prog 144 2 = some (126, 2) := by kernel_rfl
theorem fldA_144_2 : fldA Go.Proofs.Tryd.prog 144 2 = some 2 := by kernel_rfl
theorem tfld_144_3 : tfld Go.Proofs.Tryd.prog 144 3 = some (139, 3) := by kernel_rfl
theorem fldA_144_3 : fldA Go.Proofs.Tryd.prog 144 3 = some 3 := by kernel_rfl
theorem tfld_144_4 : tfld Go.Proofs.Tryd.prog 144 4 = some (5, 4) := by kernel_rfl
theorem fldA_144_4 : fldA Go.Proofs.Tryd.prog 144 4 = some 4 := by kernel_rfl
theorem tfld_144_5 : tfld Go.Proofs.Tryd.prog 144 5 = some (5, 5) := by kernel_rfl
theorem fldA_144_5 : fldA Go.Proofs.Tryd.prog 144 5 = some 5 := by kernel_rfl
theorem tfld_144_6 : tfld Go.Proofs.Tryd.prog 144 6 = some (140, 6) := by kernel_rfl
theorem fldA_144_6 : fldA Go.Proofs.Tryd.prog 144 6 = some 6 := by kernel_rfl
theorem tfld_144_7 : tfld Go.Proofs.Tryd.prog 144 7 = some (141, 7) := by kernel_rfl
theorem fldA_144_7 : fldA Go.Proofs.Tryd.prog 144 7 = some 7 := by kernel_rfl
theorem tfld_144_8 : tfld Go.Proofs.Tryd.prog 144 8 = some (115, 8) := by kernel_rfl
theorem fldA_144_8 : fldA Go.Proofs.Tryd.prog 144 8 = some 8 := by kernel_rfl
theorem tfld_144_9 : tfld Go.Proofs.Tryd.prog 144 9 = some (142, 9) := by kernel_rfl
theorem fldA_144_9 : fldA Go.Proofs.Tryd.prog 144 9 = some 9 := by kernel_rfl
theorem tfld_144_10 : tfld Go.Proofs.Tryd.prog 144 10 = some (143, 10) := by kernel_rfl
theorem fldA_144_10 : fldA Go.Proofs.Tryd.prog 144 10 = some 10 := by kernel_rfl
theorem tok_145 : tok Go.Proofs.Tryd.prog 145 = true := by kernel_rfl
theorem tsz_145 : tsz Go.Proofs.Tryd.prog 145 = 11 := by kernel_rfl
theorem tby_145 : tbytes Go.Proofs.Tryd.prog 145 = 48 := by kernel_rfl
theorem tagg_145 : tagg Go.Proofs.Tryd.prog 145 = true := by kernel_rfl
theorem tconc_145 : tconc Go.Proofs.Tryd.prog 145 = true := by kernel_rfl
theorem tzero_145 : tzero Go.Proofs.Tryd.prog 145 = some (.agg #[.int .u64 0, .int .u64 0, .int .u32 0, .int .u8 0, .int .u8 0, .int .u8 0, .int .u8 0, .nilFunc, .pointer none, .int .i32 0, .int .i32 0]) := by kernel_rfl
theorem tfld_145_0 : tfld Go.Proofs.Tryd.prog 145 0 = some (12, 0) := by kernel_rfl
theorem fldA_145_0 : fldA Go.Proofs.Tryd.prog 145 0 = some 0 := by kernel_rfl
theorem tfld_145_1 : tfld Go.Proofs.Tryd.prog 145 1 = some (12, 1) := by kernel_rfl
theorem fldA_145_1 : fldA Go.Proofs.Tryd.prog 145 1 = some 1 := by kernel_rfl
theorem tfld_145_2 : tfld Go.Proofs.Tryd.prog 145 2 = some (126, 2) := by kernel_rfl
theorem fldA_145_2 : fldA Go.Proofs.Tryd.prog 145 2 = some 2 := by kernel_rfl
theorem tfld_145_3 : tfld Go.Proofs.Tryd.prog 145 3 = some (139, 3) := by kernel_rfl
theorem fldA_145_3 : fldA Go.Proofs.Tryd.prog 145 3 = some 3 := by kernel_rfl
theorem tfld_145_4 : tfld Go.Proofs.Tryd.prog 145 4 = some (5, 4) := by kernel_rfl
theorem fldA_145_4 : fldA Go.Proofs.Tryd.prog 145 4 = some 4 := by kernel_rfl
theorem tfld_145_5 : tfld Go.Proofs.Tryd.prog 145 5 = some (5, 5) := by kernel_rfl
theorem fldA_145_5 : fldA Go.Proofs.Tryd.prog 145 5 = some 5 := by kernel_rfl
theorem tfld_145_6 : tfld Go.Proofs.Tryd.prog 145 6 = some (140, 6) := by kernel_rfl
theorem fldA_145_6 : fldA Go.Proofs.Tryd.prog 145 6 = some 6 := by kernel_rfl
theorem tfld_145_7 : tfld Go.Proofs.Tryd.prog 145 7 = some (141, 7) := by kernel_rfl
theorem fldA_145_7 : fldA Go.Proofs.Tryd.prog 145 7 = some 7 := by kernel_rfl
theorem tfld_145_8 : tfld Go.Proofs.Tryd.prog 145 8 = some (115, 8) := by kernel_rfl
theorem fldA_145_8 : fldA Go.Proofs.Tryd.prog 145 8 = some 8 := by kernel_rfl
theorem tfld_145_9 : tfld Go.Proofs.Tryd.prog 145 9 = some (142, 9) := by kernel_rfl
theorem fldA_145_9 : fldA Go.Proofs.Tryd.prog 145 9 = some 9 := by kernel_rfl
theorem tfld_145_10 : tfld Go.Proofs.Tryd.prog 145 10 = some (143, 10) := by kernel_rfl
theorem fldA_145_10 : fldA Go.Proofs.Tryd.prog 145 10 = some 10 := by kernel_rfl
theorem tok_146 : tok Go.Proofs.Tryd.prog 146 = true := by kernel_rfl
theorem tsz_146 : tsz Go.Proofs.Tryd.prog 146 = 1 := by kernel_rfl
theorem tby_146 : tbytes Go.Proofs.Tryd.prog 146 = 8 := by kernel_rfl
theorem tagg_146 : tagg Go.Proofs.Tryd.prog 146 = false := by kernel_rfl
theorem tconc_146 : tconc Go.Proofs.Tryd.prog 146 = true := by kernel_rfl
theorem tzero_146 : tzero Go.Proofs.Tryd.prog 146 = some (.pointer none) := by kernel_rfl
theorem okF_2 : okF Go.Proofs.Tryd.prog 2 = true := by kernel_rfl
theorem okF_3 : okF Go.Proofs.Tryd.prog 3 = true := by kernel_rfl
theorem okF_4 : okF Go.Proofs.Tryd.prog 4 = true := by kernel_rfl
theorem okF_5 : okF Go.Proofs.Tryd.prog 5 = true := by kernel_rfl
theorem okF_6 : okF Go.Proofs.Tryd.prog 6 = true := by kernel_rfl
theorem okF_7 : okF Go.Proofs.Tryd.prog 7 = true := by kernel_rfl
theorem okF_8 : okF Go.Proofs.Tryd.prog 8 = true := by kernel_rfl
theorem okF_9 : okF Go.Proofs.Tryd.prog 9 = true := by kernel_rfl
theorem okF_10 : okF Go.Proofs.Tryd.prog 10 = true := by kernel_rfl
theorem okF_11 : okF Go.Proofs.Tryd.prog 11 = true := by kernel_rfl
theorem okF_12 : okF Go.Proofs.Tryd.prog 12 = true := by kernel_rfl
theorem okF_13 : okF Go.Proofs.Tryd.prog 13 = true := by kernel_rfl
theorem okF_14 : okF Go.Proofs.Tryd.prog 14 = true := by kernel_rfl
theorem okF_15 : okF Go.Proofs.Tryd.prog 15 = true := by kernel_rfl
theorem okF_16 : okF Go.Proofs.Tryd.prog 16 = true := by kernel_rfl
theorem okF_17 : okF Go.Proofs.Tryd.prog 17 = true := by kernel_rfl
theorem okF_18 : okF Go.Proofs.Tryd.prog 18 = true := by kernel_rfl
theorem okF_19 : okF Go.Proofs.Tryd.prog 19 = true := by kernel_rfl
theorem okF_20 : okF Go.Proofs.Tryd.prog 20 = true := by kernel_rfl
theorem okF_21 : okF Go.Proofs.Tryd.prog 21 = true := by kernel_rfl
theorem okF_22 : okF Go.Proofs.Tryd.prog 22 = true := by kernel_rfl
theorem okF_23 : okF Go.Proofs.Tryd.prog 23 = true := by kernel_rfl
theorem okF_24 : okF Go.Proofs.Tryd.prog 24 = true := by kernel_rfl
theorem okF_25 : okF Go.Proofs.Tryd.prog 25 = true := by kernel_rfl
theorem okF_26 : okF Go.Proofs.Tryd.prog 26 = true := by kernel_rfl
theorem okF_27 : okF Go.Proofs.Tryd.prog 27 = true := by kernel_rfl
theorem okF_28 : okF Go.Proofs.Tryd.prog 28 = true := by kernel_rfl
theorem okF_29 : okF Go.Proofs.Tryd.prog 29 = true := by kernel_rfl
theorem okF_30 : okF Go.Proofs.Tryd.prog 30 = true := by kernel_rfl
theorem okF_31 : okF Go.Proofs.Tryd.prog 31 = true := by kernel_rfl
theorem okF_32 : okF Go.Proofs.Tryd.prog 32 = true := by kernel_rfl
theorem okF_33 : okF Go.Proofs.Tryd.prog 33 = true := by kernel_rfl
theorem okF_34 : okF Go.Proofs.Tryd.prog 34 = true := by kernel_rfl
theorem okF_35 : okF Go.Proofs.Tryd.prog 35 = true := by kernel_rfl
theorem okF_36 : okF Go.Proofs.Tryd.prog 36 = true := by kernel_rfl
theorem okF_37 : okF Go.Proofs.Tryd.prog 37 = true := by kernel_rfl
theorem okF_38 : okF Go.Proofs.Tryd.prog 38 = true := by kernel_rfl
theorem okF_39 : okF Go.Proofs.Tryd.prog 39 = true := by kernel_rfl
theorem okF_40 : okF Go.Proofs.Tryd.prog 40 = true := by kernel_rfl
theorem okF_41 : okF Go.Proofs.Tryd.prog 41 = true := by kernel_rfl
theorem okF_42 : okF Go.Proofs.Tryd.prog 42 = true := by kernel_rfl
theorem okF_43 : okF Go.Proofs.Tryd.prog 43 = true := by kernel_rfl
theorem okF_44 : okF Go.Proofs.Tryd.prog 44 = true := by kernel_rfl
theorem okF_45 : okF Go.Proofs.Tryd.prog 45 = true := by kernel_rfl
theorem okF_46 : okF Go.Proofs.Tryd.prog 46 = true := by kernel_rfl
theorem okF_47 : okF Go.Proofs.Tryd.prog 47 = true := by kernel_rfl
theorem okF_48 : okF Go.Proofs.Tryd.prog 48 = true := by kernel_rfl
theorem okF_49 : okF Go.Proofs.Tryd.prog 49 = true := by kernel_rfl
theorem okF_50 : okF Go.Proofs.Tryd.prog 50 = true := by kernel_rfl
theorem okF_51 : okF Go.Proofs.Tryd.prog 51 = true := by kernel_rfl
theorem okF_52 : okF Go.Proofs.Tryd.prog 52 = true := by kernel_rfl
theorem okF_53 : okF Go.Proofs.Tryd.prog 53 = true := by kernel_rfl
theorem okF_54 : okF Go.Proofs.Tryd.prog 54 = true := by kernel_rfl
theorem okF_55 : okF Go.Proofs.Tryd.prog 55 = true := by kernel_rfl
theorem okF_56 : okF Go.Proofs.Tryd.prog 56 = true := by kernel_rfl
theorem okF_57 : okF Go.Proofs.Tryd.prog 57 = true := by kernel_rfl
theorem okF_58 : okF Go.Proofs.Tryd.prog 58 = true := by kernel_rfl
theorem okF_59 : okF Go.Proofs.Tryd.prog 59 = true := by kernel_rfl
theorem okF_60 : okF Go.Proofs.Tryd.prog 60 = true := by kernel_rfl
theorem okF_61 : okF Go.Proofs.Tryd.prog 61 = true := by kernel_rfl
theorem okF_62 : okF Go.Proofs.Tryd.prog 62 = true := by kernel_rfl
theorem okF_63 : okF Go.Proofs.Tryd.prog 63 = true := by kernel_rfl
theorem okF_64 : okF Go.Proofs.Tryd.prog 64 = true := by kernel_rfl
theorem okF_65 : okF Go.Proofs.Tryd.prog 65 = true := by kernel_rfl
theorem okF_66 : okF Go.Proofs.Tryd.prog 66 = true := by kernel_rfl
theorem okF_67 : okF Go.Proofs.Tryd.prog 67 = true := by kernel_rfl
theorem okF_68 : okF Go.Proofs.Tryd.prog 68 = true := by kernel_rfl
theorem okF_69 : okF Go.Proofs.Tryd.prog 69 = true := by kernel_rfl
theorem okF_70 : okF Go.Proofs.Tryd.prog 70 = true := by kernel_rfl
theorem okF_71 : okF Go.Proofs.Tryd.prog 71 = true := by kernel_rfl
theorem okF_72 : okF Go.Proofs.Tryd.prog 72 = true := by kernel_rfl
theorem okF_73 : okF Go.Proofs.Tryd.prog 73 = true := by kernel_rfl
theorem okF_74 : okF Go.Proofs.Tryd.prog 74 = true := by kernel_rfl
theorem okF_75 : okF Go.Proofs.Tryd.prog 75 = true := by kernel_rfl
theorem okF_76 : okF Go.Proofs.Tryd.prog 76 = true := by kernel_rfl
theorem okF_77 : okF Go.Proofs.Tryd.prog 77 = true := by kernel_rfl
theorem okF_78 : okF Go.Proofs.Tryd.prog 78 = true := by kernel_rfl
theorem okF_79 : okF Go.Proofs.Tryd.prog 79 = true := by kernel_rfl
theorem okF_80 : okF Go.Proofs.Tryd.prog 80 = true := by kernel_rfl
theorem okF_81 : okF Go.Proofs.Tryd.prog 81 = true := by kernel_rfl
theorem okF_82 : okF Go.Proofs.Tryd.prog 82 = true := by kernel_rfl
theorem okF_83 : okF Go.Proofs.Tryd.prog 83 = true := by kernel_rfl
theorem okF_84 : okF Go.Proofs.Tryd.prog 84 = true := by kernel_rfl
theorem okF_111 : okF Go.Proofs.Tryd.prog 111 = true := by kernel_rfl
end Go.Proofs.YtcinhjefclbgjaaDoor
