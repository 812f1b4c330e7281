/- Facts of the types and functions of this program, each by evaluation. -/
import Derived.Test.YthcdnjbhhaonhaaGreatDoorProg
import Derived.Test.YthcdnjbhhaonhaaGreatDoorQwMwBase


namespace Go.Proofs.YthcdnjbhhaonhaaGreatDoor
open Go.RowKit
set_option maxRecDepth 100000
theorem follows_mo : Go.Proofs.Tryz.prog.follows .mixedOrders = true := by kernel_rfl
theorem tok_3 : tok Go.Proofs.Tryz.prog 3 = true := by kernel_rfl
theorem tsz_3 : tsz Go.Proofs.Tryz.prog 3 = 1 := by kernel_rfl
theorem tby_3 : tbytes Go.Proofs.Tryz.prog 3 = 8 := by kernel_rfl
theorem tagg_3 : tagg Go.Proofs.Tryz.prog 3 = false := by kernel_rfl
theorem tzero_3 : tzero Go.Proofs.Tryz.prog 3 = some (.int .i64 0) := by kernel_rfl
theorem tkind_3 : tkind Go.Proofs.Tryz.prog 3 = some .i64 := by kernel_rfl
theorem tok_4 : tok Go.Proofs.Tryz.prog 4 = true := by kernel_rfl
theorem tsz_4 : tsz Go.Proofs.Tryz.prog 4 = 1 := by kernel_rfl
theorem tagg_4 : tagg Go.Proofs.Tryz.prog 4 = false := by kernel_rfl
theorem tzero_4 : tzero Go.Proofs.Tryz.prog 4 = some (.bool false) := by kernel_rfl
theorem tbool_4 : tbool Go.Proofs.Tryz.prog 4 = true := by kernel_rfl
theorem tok_22 : tok Go.Proofs.Tryz.prog 22 = true := by kernel_rfl
theorem tsz_22 : tsz Go.Proofs.Tryz.prog 22 = 1 := by kernel_rfl
theorem tagg_22 : tagg Go.Proofs.Tryz.prog 22 = false := by kernel_rfl
theorem telem_22 : telem Go.Proofs.Tryz.prog 22 = some 72 := by kernel_rfl
theorem tok_24 : tok Go.Proofs.Tryz.prog 24 = true := by kernel_rfl
theorem tsz_24 : tsz Go.Proofs.Tryz.prog 24 = 2 := by kernel_rfl
theorem tagg_24 : tagg Go.Proofs.Tryz.prog 24 = true := by kernel_rfl
theorem tzero_24 : tzero Go.Proofs.Tryz.prog 24 = some (.agg #[.int .i64 0, .slice none 0 0]) := by kernel_rfl
theorem tfld_24_0 : tfld Go.Proofs.Tryz.prog 24 0 = some (3, 0) := by kernel_rfl
theorem fldA_24_0 : fldA Go.Proofs.Tryz.prog 24 0 = some 0 := by kernel_rfl
theorem tfld_24_1 : tfld Go.Proofs.Tryz.prog 24 1 = some (22, 1) := by kernel_rfl
theorem fldA_24_1 : fldA Go.Proofs.Tryz.prog 24 1 = some 1 := by kernel_rfl
theorem tok_28 : tok Go.Proofs.Tryz.prog 28 = true := by kernel_rfl
theorem tsz_28 : tsz Go.Proofs.Tryz.prog 28 = 1 := by kernel_rfl
theorem tagg_28 : tagg Go.Proofs.Tryz.prog 28 = false := by kernel_rfl
theorem tzero_28 : tzero Go.Proofs.Tryz.prog 28 = some (.int .i64 0) := by kernel_rfl
theorem tkind_28 : tkind Go.Proofs.Tryz.prog 28 = some .i64 := by kernel_rfl
theorem tok_33 : tok Go.Proofs.Tryz.prog 33 = true := by kernel_rfl
theorem tsz_33 : tsz Go.Proofs.Tryz.prog 33 = 1 := by kernel_rfl
theorem tagg_33 : tagg Go.Proofs.Tryz.prog 33 = false := by kernel_rfl
theorem telem_33 : telem Go.Proofs.Tryz.prog 33 = some 3 := by kernel_rfl
theorem tok_35 : tok Go.Proofs.Tryz.prog 35 = true := by kernel_rfl
theorem tsz_35 : tsz Go.Proofs.Tryz.prog 35 = 3 := by kernel_rfl
theorem tagg_35 : tagg Go.Proofs.Tryz.prog 35 = true := by kernel_rfl
theorem tzero_35 : tzero Go.Proofs.Tryz.prog 35 = some (.agg #[.int .i64 0, .int .i64 0, .slice none 0 0]) := by kernel_rfl
theorem tfld_35_0 : tfld Go.Proofs.Tryz.prog 35 0 = some (3, 0) := by kernel_rfl
theorem fldA_35_0 : fldA Go.Proofs.Tryz.prog 35 0 = some 0 := by kernel_rfl
theorem tfld_35_1 : tfld Go.Proofs.Tryz.prog 35 1 = some (3, 1) := by kernel_rfl
theorem fldA_35_1 : fldA Go.Proofs.Tryz.prog 35 1 = some 1 := by kernel_rfl
theorem tfld_35_2 : tfld Go.Proofs.Tryz.prog 35 2 = some (33, 2) := by kernel_rfl
theorem fldA_35_2 : fldA Go.Proofs.Tryz.prog 35 2 = some 2 := by kernel_rfl
theorem tok_72 : tok Go.Proofs.Tryz.prog 72 = true := by kernel_rfl
theorem tsz_72 : tsz Go.Proofs.Tryz.prog 72 = 4 := by kernel_rfl
theorem tby_72 : tbytes Go.Proofs.Tryz.prog 72 = 48 := by kernel_rfl
theorem tagg_72 : tagg Go.Proofs.Tryz.prog 72 = true := by kernel_rfl
theorem tzero_72 : tzero Go.Proofs.Tryz.prog 72 = some (.agg #[.int .i64 0, .int .i64 0, .int .i64 0, .slice none 0 0]) := by kernel_rfl
theorem tfld_72_0 : tfld Go.Proofs.Tryz.prog 72 0 = some (3, 0) := by kernel_rfl
theorem fldA_72_0 : fldA Go.Proofs.Tryz.prog 72 0 = some 0 := by kernel_rfl
theorem tfld_72_1 : tfld Go.Proofs.Tryz.prog 72 1 = some (35, 1) := by kernel_rfl
theorem fldA_72_1 : fldA Go.Proofs.Tryz.prog 72 1 = some 1 := by kernel_rfl
theorem tok_96 : tok Go.Proofs.Tryz.prog 96 = true := by kernel_rfl
theorem tsz_96 : tsz Go.Proofs.Tryz.prog 96 = 1 := by kernel_rfl
theorem tagg_96 : tagg Go.Proofs.Tryz.prog 96 = false := by kernel_rfl
theorem tptr_96 : tptr Go.Proofs.Tryz.prog 96 = true := by kernel_rfl
theorem tok_110 : tok Go.Proofs.Tryz.prog 110 = true := by kernel_rfl
theorem tsz_110 : tsz Go.Proofs.Tryz.prog 110 = 1 := by kernel_rfl
theorem tagg_110 : tagg Go.Proofs.Tryz.prog 110 = false := by kernel_rfl
theorem tconc_110 : tconc Go.Proofs.Tryz.prog 110 = true := by kernel_rfl
theorem tzero_110 : tzero Go.Proofs.Tryz.prog 110 = some (.slice none 0 0) := by kernel_rfl
theorem telem_110 : telem Go.Proofs.Tryz.prog 110 = some 3 := by kernel_rfl
theorem tok_112 : tok Go.Proofs.Tryz.prog 112 = true := by kernel_rfl
theorem tsz_112 : tsz Go.Proofs.Tryz.prog 112 = 5 := by kernel_rfl
theorem tagg_112 : tagg Go.Proofs.Tryz.prog 112 = true := by kernel_rfl
theorem tconc_112 : tconc Go.Proofs.Tryz.prog 112 = true := by kernel_rfl
theorem tzero_112 : tzero Go.Proofs.Tryz.prog 112 = some (.agg #[.int .i64 0, .int .i64 0, .int .i64 0, .bool false, .bool false]) := by kernel_rfl
theorem tfld_112_0 : tfld Go.Proofs.Tryz.prog 112 0 = some (3, 0) := by kernel_rfl
theorem fldA_112_0 : fldA Go.Proofs.Tryz.prog 112 0 = some 0 := by kernel_rfl
theorem tfld_112_1 : tfld Go.Proofs.Tryz.prog 112 1 = some (3, 1) := by kernel_rfl
theorem fldA_112_1 : fldA Go.Proofs.Tryz.prog 112 1 = some 1 := by kernel_rfl
theorem tfld_112_2 : tfld Go.Proofs.Tryz.prog 112 2 = some (3, 2) := by kernel_rfl
theorem fldA_112_2 : fldA Go.Proofs.Tryz.prog 112 2 = some 2 := by kernel_rfl
theorem tfld_112_3 : tfld Go.Proofs.Tryz.prog 112 3 = some (4, 3) := by kernel_rfl
theorem fldA_112_3 : fldA Go.Proofs.Tryz.prog 112 3 = some 3 := by kernel_rfl
theorem tfld_112_4 : tfld Go.Proofs.Tryz.prog 112 4 = some (4, 4) := by kernel_rfl
theorem fldA_112_4 : fldA Go.Proofs.Tryz.prog 112 4 = some 4 := by kernel_rfl
theorem tok_113 : tok Go.Proofs.Tryz.prog 113 = true := by kernel_rfl
theorem tsz_113 : tsz Go.Proofs.Tryz.prog 113 = 1 := by kernel_rfl
theorem tagg_113 : tagg Go.Proofs.Tryz.prog 113 = false := by kernel_rfl
theorem tok_114 : tok Go.Proofs.Tryz.prog 114 = true := by kernel_rfl
theorem tsz_114 : tsz Go.Proofs.Tryz.prog 114 = 2 := by kernel_rfl
theorem tagg_114 : tagg Go.Proofs.Tryz.prog 114 = true := by kernel_rfl
theorem tzero_114 : tzero Go.Proofs.Tryz.prog 114 = some (.agg #[.nilFunc, .nilFunc]) := by kernel_rfl
theorem tarr_114 : tarr Go.Proofs.Tryz.prog 114 = some (2, 113) := by kernel_rfl
theorem tok_115 : tok Go.Proofs.Tryz.prog 115 = true := by kernel_rfl
theorem tsz_115 : tsz Go.Proofs.Tryz.prog 115 = 4 := by kernel_rfl
theorem tagg_115 : tagg Go.Proofs.Tryz.prog 115 = true := by kernel_rfl
theorem tzero_115 : tzero Go.Proofs.Tryz.prog 115 = some (.agg #[.nilFunc, .nilFunc, .nilFunc, .nilFunc]) := by kernel_rfl
theorem tarr_115 : tarr Go.Proofs.Tryz.prog 115 = some (2, 114) := by kernel_rfl
theorem tok_124 : tok Go.Proofs.Tryz.prog 124 = true := by kernel_rfl
theorem tsz_124 : tsz Go.Proofs.Tryz.prog 124 = 1 := by kernel_rfl
theorem tagg_124 : tagg Go.Proofs.Tryz.prog 124 = true := by kernel_rfl
theorem tconc_124 : tconc Go.Proofs.Tryz.prog 124 = true := by kernel_rfl
theorem tzero_124 : tzero Go.Proofs.Tryz.prog 124 = some (.agg #[.int .i64 0]) := by kernel_rfl
theorem tfld_124_0 : tfld Go.Proofs.Tryz.prog 124 0 = some (28, 0) := by kernel_rfl
theorem fldA_124_0 : fldA Go.Proofs.Tryz.prog 124 0 = some 0 := by kernel_rfl
theorem okF_9 : okF Go.Proofs.Tryz.prog 9 = true := by kernel_rfl
theorem okF_10 : okF Go.Proofs.Tryz.prog 10 = true := by kernel_rfl
theorem okF_20 : okF Go.Proofs.Tryz.prog 20 = true := by kernel_rfl
theorem okF_21 : okF Go.Proofs.Tryz.prog 21 = true := by kernel_rfl
theorem okF_26 : okF Go.Proofs.Tryz.prog 26 = true := by kernel_rfl
theorem okF_27 : okF Go.Proofs.Tryz.prog 27 = true := by kernel_rfl
theorem okF_28 : okF Go.Proofs.Tryz.prog 28 = true := by kernel_rfl
theorem okF_29 : okF Go.Proofs.Tryz.prog 29 = true := by kernel_rfl
theorem okF_43 : okF Go.Proofs.Tryz.prog 43 = true := by kernel_rfl
theorem okF_66 : okF Go.Proofs.Tryz.prog 66 = true := by kernel_rfl
theorem okF_68 : okF Go.Proofs.Tryz.prog 68 = true := by kernel_rfl
theorem okF_70 : okF Go.Proofs.Tryz.prog 70 = true := by kernel_rfl
theorem okF_71 : okF Go.Proofs.Tryz.prog 71 = true := by kernel_rfl
theorem okF_72 : okF Go.Proofs.Tryz.prog 72 = true := by kernel_rfl
theorem okF_73 : okF Go.Proofs.Tryz.prog 73 = true := by kernel_rfl
theorem okF_83 : okF Go.Proofs.Tryz.prog 83 = true := by kernel_rfl
theorem okF_96 : okF Go.Proofs.Tryz.prog 96 = true := by kernel_rfl
theorem okF_97 : okF Go.Proofs.Tryz.prog 97 = true := by kernel_rfl
theorem okF_103 : okF Go.Proofs.Tryz.prog 103 = true := by kernel_rfl
theorem okF_104 : okF Go.Proofs.Tryz.prog 104 = true := by kernel_rfl
theorem okF_105 : okF Go.Proofs.Tryz.prog 105 = true := by kernel_rfl
theorem okF_106 : okF Go.Proofs.Tryz.prog 106 = true := by kernel_rfl
theorem okF_107 : okF Go.Proofs.Tryz.prog 107 = true := by kernel_rfl
theorem okF_108 : okF Go.Proofs.Tryz.prog 108 = true := by kernel_rfl
theorem okF_113 : okF Go.Proofs.Tryz.prog 113 = true := by kernel_rfl
theorem okF_130 : okF Go.Proofs.Tryz.prog 130 = true := by kernel_rfl
theorem okF_131 : okF Go.Proofs.Tryz.prog 131 = true := by kernel_rfl
theorem okF_132 : okF Go.Proofs.Tryz.prog 132 = true := by kernel_rfl
theorem okF_133 : okF Go.Proofs.Tryz.prog 133 = true := by kernel_rfl
theorem okF_134 : okF Go.Proofs.Tryz.prog 134 = true := by kernel_rfl
theorem okF_135 : okF Go.Proofs.Tryz.prog 135 = true := by kernel_rfl
theorem okF_136 : okF Go.Proofs.Tryz.prog 136 = true := by kernel_rfl
theorem okF_158 : okF Go.Proofs.Tryz.prog 158 = true := by kernel_rfl
theorem okF_159 : okF Go.Proofs.Tryz.prog 159 = true := by kernel_rfl
theorem okF_227 : okF Go.Proofs.Tryz.prog 227 = true := by kernel_rfl
theorem okF_228 : okF Go.Proofs.Tryz.prog 228 = true := by kernel_rfl
theorem okF_230 : okF Go.Proofs.Tryz.prog 230 = true := by kernel_rfl
theorem okF_231 : okF Go.Proofs.Tryz.prog 231 = true := by kernel_rfl
theorem okF_232 : okF Go.Proofs.Tryz.prog 232 = true := by kernel_rfl
end Go.Proofs.YthcdnjbhhaonhaaGreatDoor
