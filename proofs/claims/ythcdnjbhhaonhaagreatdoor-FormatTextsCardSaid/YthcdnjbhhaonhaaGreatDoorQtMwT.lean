/- Facts of the types and functions of this program, each by evaluation. -/
import Derived.Test.YthcdnjbhhaonhaaGreatDoorProg
import Derived.Test.YthcdnjbhhaonhaaGreatDoorQtMwBase


namespace Go.Proofs.YthcdnjbhhaonhaaGreatDoor
open Go.RowKit
set_option maxRecDepth 100000
theorem follows_mo : Go.Proofs.Tryz.prog.follows .mixedOrders = true := by kernel_rfl
theorem tok_3 : tok Go.Proofs.Tryz.prog 3 = true := by kernel_rfl
theorem tsz_3 : tsz Go.Proofs.Tryz.prog 3 = 1 := by kernel_rfl
theorem tby_3 : tbytes Go.Proofs.Tryz.prog 3 = 8 := by kernel_rfl
theorem tagg_3 : tagg Go.Proofs.Tryz.prog 3 = false := by kernel_rfl
theorem tzero_3 : tzero Go.Proofs.Tryz.prog 3 = some (.int .i64 0) := by kernel_rfl
theorem tkind_3 : tkind Go.Proofs.Tryz.prog 3 = some .i64 := by kernel_rfl
theorem tok_4 : tok Go.Proofs.Tryz.prog 4 = true := by kernel_rfl
theorem tsz_4 : tsz Go.Proofs.Tryz.prog 4 = 1 := by kernel_rfl
theorem tagg_4 : tagg Go.Proofs.Tryz.prog 4 = false := by kernel_rfl
theorem tzero_4 : tzero Go.Proofs.Tryz.prog 4 = some (.bool false) := by kernel_rfl
theorem tbool_4 : tbool Go.Proofs.Tryz.prog 4 = true := by kernel_rfl
theorem tok_5 : tok Go.Proofs.Tryz.prog 5 = true := by kernel_rfl
theorem tsz_5 : tsz Go.Proofs.Tryz.prog 5 = 1 := by kernel_rfl
theorem tagg_5 : tagg Go.Proofs.Tryz.prog 5 = false := by kernel_rfl
theorem tkind_5 : tkind Go.Proofs.Tryz.prog 5 = some .u8 := by kernel_rfl
theorem tok_9 : tok Go.Proofs.Tryz.prog 9 = true := by kernel_rfl
theorem tsz_9 : tsz Go.Proofs.Tryz.prog 9 = 1 := by kernel_rfl
theorem tby_9 : tbytes Go.Proofs.Tryz.prog 9 = 16 := by kernel_rfl
theorem tagg_9 : tagg Go.Proofs.Tryz.prog 9 = false := by kernel_rfl
theorem tzero_9 : tzero Go.Proofs.Tryz.prog 9 = some (.string { data := #[] }) := by kernel_rfl
theorem tstr_9 : tstr Go.Proofs.Tryz.prog 9 = true := by kernel_rfl
theorem tok_22 : tok Go.Proofs.Tryz.prog 22 = true := by kernel_rfl
theorem tsz_22 : tsz Go.Proofs.Tryz.prog 22 = 1 := by kernel_rfl
theorem tagg_22 : tagg Go.Proofs.Tryz.prog 22 = false := by kernel_rfl
theorem telem_22 : telem Go.Proofs.Tryz.prog 22 = some 72 := by kernel_rfl
theorem tok_24 : tok Go.Proofs.Tryz.prog 24 = true := by kernel_rfl
theorem tsz_24 : tsz Go.Proofs.Tryz.prog 24 = 2 := by kernel_rfl
theorem tagg_24 : tagg Go.Proofs.Tryz.prog 24 = true := by kernel_rfl
theorem tzero_24 : tzero Go.Proofs.Tryz.prog 24 = some (.agg #[.int .i64 0, .slice none 0 0]) := by kernel_rfl
theorem tfld_24_0 : tfld Go.Proofs.Tryz.prog 24 0 = some (3, 0) := by kernel_rfl
theorem fldA_24_0 : fldA Go.Proofs.Tryz.prog 24 0 = some 0 := by kernel_rfl
theorem tfld_24_1 : tfld Go.Proofs.Tryz.prog 24 1 = some (22, 1) := by kernel_rfl
theorem fldA_24_1 : fldA Go.Proofs.Tryz.prog 24 1 = some 1 := by kernel_rfl
theorem tok_28 : tok Go.Proofs.Tryz.prog 28 = true := by kernel_rfl
theorem tsz_28 : tsz Go.Proofs.Tryz.prog 28 = 1 := by kernel_rfl
theorem tagg_28 : tagg Go.Proofs.Tryz.prog 28 = false := by kernel_rfl
theorem tkind_28 : tkind Go.Proofs.Tryz.prog 28 = some .i64 := by kernel_rfl
theorem tok_33 : tok Go.Proofs.Tryz.prog 33 = true := by kernel_rfl
theorem tsz_33 : tsz Go.Proofs.Tryz.prog 33 = 1 := by kernel_rfl
theorem tagg_33 : tagg Go.Proofs.Tryz.prog 33 = false := by kernel_rfl
theorem telem_33 : telem Go.Proofs.Tryz.prog 33 = some 3 := by kernel_rfl
theorem tok_35 : tok Go.Proofs.Tryz.prog 35 = true := by kernel_rfl
theorem tsz_35 : tsz Go.Proofs.Tryz.prog 35 = 3 := by kernel_rfl
theorem tagg_35 : tagg Go.Proofs.Tryz.prog 35 = true := by kernel_rfl
theorem tzero_35 : tzero Go.Proofs.Tryz.prog 35 = some (.agg #[.int .i64 0, .int .i64 0, .slice none 0 0]) := by kernel_rfl
theorem tfld_35_0 : tfld Go.Proofs.Tryz.prog 35 0 = some (3, 0) := by kernel_rfl
theorem fldA_35_0 : fldA Go.Proofs.Tryz.prog 35 0 = some 0 := by kernel_rfl
theorem tfld_35_1 : tfld Go.Proofs.Tryz.prog 35 1 = some (3, 1) := by kernel_rfl
theorem fldA_35_1 : fldA Go.Proofs.Tryz.prog 35 1 = some 1 := by kernel_rfl
theorem tfld_35_2 : tfld Go.Proofs.Tryz.prog 35 2 = some (33, 2) := by kernel_rfl
theorem fldA_35_2 : fldA Go.Proofs.Tryz.prog 35 2 = some 2 := by kernel_rfl
theorem tok_72 : tok Go.Proofs.Tryz.prog 72 = true := by kernel_rfl
theorem tsz_72 : tsz Go.Proofs.Tryz.prog 72 = 4 := by kernel_rfl
theorem tby_72 : tbytes Go.Proofs.Tryz.prog 72 = 48 := by kernel_rfl
theorem tagg_72 : tagg Go.Proofs.Tryz.prog 72 = true := by kernel_rfl
theorem tzero_72 : tzero Go.Proofs.Tryz.prog 72 = some (.agg #[.int .i64 0, .int .i64 0, .int .i64 0, .slice none 0 0]) := by kernel_rfl
theorem tfld_72_0 : tfld Go.Proofs.Tryz.prog 72 0 = some (3, 0) := by kernel_rfl
theorem fldA_72_0 : fldA Go.Proofs.Tryz.prog 72 0 = some 0 := by kernel_rfl
theorem tfld_72_1 : tfld Go.Proofs.Tryz.prog 72 1 = some (35, 1) := by kernel_rfl
theorem fldA_72_1 : fldA Go.Proofs.Tryz.prog 72 1 = some 1 := by kernel_rfl
theorem tok_73 : tok Go.Proofs.Tryz.prog 73 = true := by kernel_rfl
theorem tsz_73 : tsz Go.Proofs.Tryz.prog 73 = 1 := by kernel_rfl
theorem tagg_73 : tagg Go.Proofs.Tryz.prog 73 = false := by kernel_rfl
theorem telem_73 : telem Go.Proofs.Tryz.prog 73 = some 9 := by kernel_rfl
theorem tok_110 : tok Go.Proofs.Tryz.prog 110 = true := by kernel_rfl
theorem tsz_110 : tsz Go.Proofs.Tryz.prog 110 = 1 := by kernel_rfl
theorem tagg_110 : tagg Go.Proofs.Tryz.prog 110 = false := by kernel_rfl
theorem tconc_110 : tconc Go.Proofs.Tryz.prog 110 = true := by kernel_rfl
theorem telem_110 : telem Go.Proofs.Tryz.prog 110 = some 3 := by kernel_rfl
theorem tok_112 : tok Go.Proofs.Tryz.prog 112 = true := by kernel_rfl
theorem tsz_112 : tsz Go.Proofs.Tryz.prog 112 = 5 := by kernel_rfl
theorem tagg_112 : tagg Go.Proofs.Tryz.prog 112 = true := by kernel_rfl
theorem tconc_112 : tconc Go.Proofs.Tryz.prog 112 = true := by kernel_rfl
theorem tzero_112 : tzero Go.Proofs.Tryz.prog 112 = some (.agg #[.int .i64 0, .int .i64 0, .int .i64 0, .bool false, .bool false]) := by kernel_rfl
theorem tfld_112_0 : tfld Go.Proofs.Tryz.prog 112 0 = some (3, 0) := by kernel_rfl
theorem fldA_112_0 : fldA Go.Proofs.Tryz.prog 112 0 = some 0 := by kernel_rfl
theorem tfld_112_1 : tfld Go.Proofs.Tryz.prog 112 1 = some (3, 1) := by kernel_rfl
theorem fldA_112_1 : fldA Go.Proofs.Tryz.prog 112 1 = some 1 := by kernel_rfl
theorem tfld_112_2 : tfld Go.Proofs.Tryz.prog 112 2 = some (3, 2) := by kernel_rfl
theorem fldA_112_2 : fldA Go.Proofs.Tryz.prog 112 2 = some 2 := by kernel_rfl
theorem tfld_112_4 : tfld Go.Proofs.Tryz.prog 112 4 = some (4, 4) := by kernel_rfl
theorem fldA_112_4 : fldA Go.Proofs.Tryz.prog 112 4 = some 4 := by kernel_rfl
theorem tok_137 : tok Go.Proofs.Tryz.prog 137 = true := by kernel_rfl
theorem tsz_137 : tsz Go.Proofs.Tryz.prog 137 = 1 := by kernel_rfl
theorem tagg_137 : tagg Go.Proofs.Tryz.prog 137 = false := by kernel_rfl
theorem tifc_137 : tifc Go.Proofs.Tryz.prog 137 = true := by kernel_rfl
theorem okF_9 : okF Go.Proofs.Tryz.prog 9 = true := by kernel_rfl
theorem okF_10 : okF Go.Proofs.Tryz.prog 10 = true := by kernel_rfl
theorem okF_11 : okF Go.Proofs.Tryz.prog 11 = true := by kernel_rfl
theorem okF_12 : okF Go.Proofs.Tryz.prog 12 = true := by kernel_rfl
theorem okF_13 : okF Go.Proofs.Tryz.prog 13 = true := by kernel_rfl
theorem okF_14 : okF Go.Proofs.Tryz.prog 14 = true := by kernel_rfl
theorem okF_15 : okF Go.Proofs.Tryz.prog 15 = true := by kernel_rfl
theorem okF_20 : okF Go.Proofs.Tryz.prog 20 = true := by kernel_rfl
theorem okF_21 : okF Go.Proofs.Tryz.prog 21 = true := by kernel_rfl
theorem okF_25 : okF Go.Proofs.Tryz.prog 25 = true := by kernel_rfl
theorem okF_26 : okF Go.Proofs.Tryz.prog 26 = true := by kernel_rfl
theorem okF_27 : okF Go.Proofs.Tryz.prog 27 = true := by kernel_rfl
theorem okF_43 : okF Go.Proofs.Tryz.prog 43 = true := by kernel_rfl
theorem okF_52 : okF Go.Proofs.Tryz.prog 52 = true := by kernel_rfl
theorem okF_53 : okF Go.Proofs.Tryz.prog 53 = true := by kernel_rfl
theorem okF_54 : okF Go.Proofs.Tryz.prog 54 = true := by kernel_rfl
theorem okF_55 : okF Go.Proofs.Tryz.prog 55 = true := by kernel_rfl
theorem okF_56 : okF Go.Proofs.Tryz.prog 56 = true := by kernel_rfl
theorem okF_57 : okF Go.Proofs.Tryz.prog 57 = true := by kernel_rfl
theorem okF_58 : okF Go.Proofs.Tryz.prog 58 = true := by kernel_rfl
theorem okF_59 : okF Go.Proofs.Tryz.prog 59 = true := by kernel_rfl
theorem okF_60 : okF Go.Proofs.Tryz.prog 60 = true := by kernel_rfl
theorem okF_61 : okF Go.Proofs.Tryz.prog 61 = true := by kernel_rfl
theorem okF_62 : okF Go.Proofs.Tryz.prog 62 = true := by kernel_rfl
theorem okF_63 : okF Go.Proofs.Tryz.prog 63 = true := by kernel_rfl
theorem okF_64 : okF Go.Proofs.Tryz.prog 64 = true := by kernel_rfl
theorem okF_65 : okF Go.Proofs.Tryz.prog 65 = true := by kernel_rfl
theorem okF_66 : okF Go.Proofs.Tryz.prog 66 = true := by kernel_rfl
theorem okF_70 : okF Go.Proofs.Tryz.prog 70 = true := by kernel_rfl
theorem okF_90 : okF Go.Proofs.Tryz.prog 90 = true := by kernel_rfl
theorem okF_91 : okF Go.Proofs.Tryz.prog 91 = true := by kernel_rfl
theorem okF_94 : okF Go.Proofs.Tryz.prog 94 = true := by kernel_rfl
theorem okF_95 : okF Go.Proofs.Tryz.prog 95 = true := by kernel_rfl
theorem okF_108 : okF Go.Proofs.Tryz.prog 108 = true := by kernel_rfl
theorem okF_129 : okF Go.Proofs.Tryz.prog 129 = true := by kernel_rfl
theorem okF_227 : okF Go.Proofs.Tryz.prog 227 = true := by kernel_rfl
theorem okF_228 : okF Go.Proofs.Tryz.prog 228 = true := by kernel_rfl
theorem okF_230 : okF Go.Proofs.Tryz.prog 230 = true := by kernel_rfl
theorem okF_231 : okF Go.Proofs.Tryz.prog 231 = true := by kernel_rfl
theorem okF_232 : okF Go.Proofs.Tryz.prog 232 = true := by kernel_rfl
end Go.Proofs.YthcdnjbhhaonhaaGreatDoor
