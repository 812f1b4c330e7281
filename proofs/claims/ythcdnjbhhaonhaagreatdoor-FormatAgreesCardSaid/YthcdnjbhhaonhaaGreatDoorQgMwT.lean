/- Facts of the types and functions of this program, each by evaluation. -/
import Derived.Test.YthcdnjbhhaonhaaGreatDoorProg
import Derived.Test.YthcdnjbhhaonhaaGreatDoorQgMwBase

namespace Go.Proofs.YthcdnjbhhaonhaaGreatDoor
open Go.RowKit
open Go.Proofs.Tryz renaming prog → ZP
set_option maxRecDepth 100000
theorem follows_mo : Go.Proofs.Tryz.prog.follows .mixedOrders = true := by kernel_rfl
theorem tok_3 : tok ZP 3 = true := by kernel_rfl
theorem tsz_3 : tsz ZP 3 = 1 := by kernel_rfl
theorem tby_3 : tbytes ZP 3 = 8 := by kernel_rfl
theorem tagg_3 : tagg ZP 3 = false := by kernel_rfl
theorem tzero_3 : tzero ZP 3 = some (.int .i64 0) := by kernel_rfl
theorem tkind_3 : tkind ZP 3 = some .i64 := by kernel_rfl
theorem tok_4 : tok ZP 4 = true := by kernel_rfl
theorem tsz_4 : tsz ZP 4 = 1 := by kernel_rfl
theorem tagg_4 : tagg ZP 4 = false := by kernel_rfl
theorem tzero_4 : tzero ZP 4 = some (.bool false) := by kernel_rfl
theorem tbool_4 : tbool ZP 4 = true := by kernel_rfl
theorem tok_22 : tok ZP 22 = true := by kernel_rfl
theorem tsz_22 : tsz ZP 22 = 1 := by kernel_rfl
theorem tagg_22 : tagg ZP 22 = false := by kernel_rfl
theorem telem_22 : telem ZP 22 = some 72 := by kernel_rfl
theorem tok_24 : tok ZP 24 = true := by kernel_rfl
theorem tsz_24 : tsz ZP 24 = 2 := by kernel_rfl
theorem tby_24 : tbytes ZP 24 = 32 := by kernel_rfl
theorem tagg_24 : tagg ZP 24 = true := by kernel_rfl
theorem tzero_24 : tzero ZP 24 = some (.agg #[.int .i64 0, .slice none 0 0]) := by kernel_rfl
theorem tfld_24_0 : tfld ZP 24 0 = some (3, 0) := by kernel_rfl
theorem fldA_24_0 : fldA ZP 24 0 = some 0 := by kernel_rfl
theorem tfld_24_1 : tfld ZP 24 1 = some (22, 1) := by kernel_rfl
theorem fldA_24_1 : fldA ZP 24 1 = some 1 := by kernel_rfl
theorem tok_28 : tok ZP 28 = true := by kernel_rfl
theorem tsz_28 : tsz ZP 28 = 1 := by kernel_rfl
theorem tagg_28 : tagg ZP 28 = false := by kernel_rfl
theorem tzero_28 : tzero ZP 28 = some (.int .i64 0) := by kernel_rfl
theorem tkind_28 : tkind ZP 28 = some .i64 := by kernel_rfl
theorem tok_33 : tok ZP 33 = true := by kernel_rfl
theorem tsz_33 : tsz ZP 33 = 1 := by kernel_rfl
theorem tagg_33 : tagg ZP 33 = false := by kernel_rfl
theorem telem_33 : telem ZP 33 = some 3 := by kernel_rfl
theorem tok_35 : tok ZP 35 = true := by kernel_rfl
theorem tsz_35 : tsz ZP 35 = 3 := by kernel_rfl
theorem tagg_35 : tagg ZP 35 = true := by kernel_rfl
theorem tzero_35 : tzero ZP 35 = some (.agg #[.int .i64 0, .int .i64 0, .slice none 0 0]) := by kernel_rfl
theorem tfld_35_0 : tfld ZP 35 0 = some (3, 0) := by kernel_rfl
theorem fldA_35_0 : fldA ZP 35 0 = some 0 := by kernel_rfl
theorem tfld_35_1 : tfld ZP 35 1 = some (3, 1) := by kernel_rfl
theorem fldA_35_1 : fldA ZP 35 1 = some 1 := by kernel_rfl
theorem tfld_35_2 : tfld ZP 35 2 = some (33, 2) := by kernel_rfl
theorem fldA_35_2 : fldA ZP 35 2 = some 2 := by kernel_rfl
theorem tok_50 : tok ZP 50 = true := by kernel_rfl
theorem tsz_50 : tsz ZP 50 = 1 := by kernel_rfl
theorem tagg_50 : tagg ZP 50 = false := by kernel_rfl
theorem telem_50 : telem ZP 50 = some 24 := by kernel_rfl
theorem tok_72 : tok ZP 72 = true := by kernel_rfl
theorem tsz_72 : tsz ZP 72 = 4 := by kernel_rfl
theorem tby_72 : tbytes ZP 72 = 48 := by kernel_rfl
theorem tagg_72 : tagg ZP 72 = true := by kernel_rfl
theorem tzero_72 : tzero ZP 72 = some (.agg #[.int .i64 0, .int .i64 0, .int .i64 0, .slice none 0 0]) := by kernel_rfl
theorem tfld_72_0 : tfld ZP 72 0 = some (3, 0) := by kernel_rfl
theorem fldA_72_0 : fldA ZP 72 0 = some 0 := by kernel_rfl
theorem tfld_72_1 : tfld ZP 72 1 = some (35, 1) := by kernel_rfl
theorem fldA_72_1 : fldA ZP 72 1 = some 1 := by kernel_rfl
theorem tok_96 : tok ZP 96 = true := by kernel_rfl
theorem tsz_96 : tsz ZP 96 = 1 := by kernel_rfl
theorem tagg_96 : tagg ZP 96 = false := by kernel_rfl
theorem tptr_96 : tptr ZP 96 = true := by kernel_rfl
theorem tok_110 : tok ZP 110 = true := by kernel_rfl
theorem tsz_110 : tsz ZP 110 = 1 := by kernel_rfl
theorem tagg_110 : tagg ZP 110 = false := by kernel_rfl
theorem tconc_110 : tconc ZP 110 = true := by kernel_rfl
theorem tzero_110 : tzero ZP 110 = some (.slice none 0 0) := by kernel_rfl
theorem telem_110 : telem ZP 110 = some 3 := by kernel_rfl
theorem tok_112 : tok ZP 112 = true := by kernel_rfl
theorem tsz_112 : tsz ZP 112 = 5 := by kernel_rfl
theorem tagg_112 : tagg ZP 112 = true := by kernel_rfl
theorem tconc_112 : tconc ZP 112 = true := by kernel_rfl
theorem tzero_112 : tzero ZP 112 = some (.agg #[.int .i64 0, .int .i64 0, .int .i64 0, .bool false, .bool false]) := by kernel_rfl
theorem tfld_112_0 : tfld ZP 112 0 = some (3, 0) := by kernel_rfl
theorem fldA_112_0 : fldA ZP 112 0 = some 0 := by kernel_rfl
theorem tfld_112_1 : tfld ZP 112 1 = some (3, 1) := by kernel_rfl
theorem fldA_112_1 : fldA ZP 112 1 = some 1 := by kernel_rfl
theorem tfld_112_2 : tfld ZP 112 2 = some (3, 2) := by kernel_rfl
theorem fldA_112_2 : fldA ZP 112 2 = some 2 := by kernel_rfl
theorem tfld_112_3 : tfld ZP 112 3 = some (4, 3) := by kernel_rfl
theorem fldA_112_3 : fldA ZP 112 3 = some 3 := by kernel_rfl
theorem tfld_112_4 : tfld ZP 112 4 = some (4, 4) := by kernel_rfl
theorem fldA_112_4 : fldA ZP 112 4 = some 4 := by kernel_rfl
theorem tok_113 : tok ZP 113 = true := by kernel_rfl
theorem tsz_113 : tsz ZP 113 = 1 := by kernel_rfl
theorem tagg_113 : tagg ZP 113 = false := by kernel_rfl
theorem tok_114 : tok ZP 114 = true := by kernel_rfl
theorem tsz_114 : tsz ZP 114 = 2 := by kernel_rfl
theorem tagg_114 : tagg ZP 114 = true := by kernel_rfl
theorem tzero_114 : tzero ZP 114 = some (.agg #[.nilFunc, .nilFunc]) := by kernel_rfl
theorem tarr_114 : tarr ZP 114 = some (2, 113) := by kernel_rfl
theorem tok_115 : tok ZP 115 = true := by kernel_rfl
theorem tsz_115 : tsz ZP 115 = 4 := by kernel_rfl
theorem tagg_115 : tagg ZP 115 = true := by kernel_rfl
theorem tzero_115 : tzero ZP 115 = some (.agg #[.nilFunc, .nilFunc, .nilFunc, .nilFunc]) := by kernel_rfl
theorem tarr_115 : tarr ZP 115 = some (2, 114) := by kernel_rfl
theorem tok_124 : tok ZP 124 = true := by kernel_rfl
theorem tsz_124 : tsz ZP 124 = 1 := by kernel_rfl
theorem tagg_124 : tagg ZP 124 = true := by kernel_rfl
theorem tconc_124 : tconc ZP 124 = true := by kernel_rfl
theorem tzero_124 : tzero ZP 124 = some (.agg #[.int .i64 0]) := by kernel_rfl
theorem tfld_124_0 : tfld ZP 124 0 = some (28, 0) := by kernel_rfl
theorem fldA_124_0 : fldA ZP 124 0 = some 0 := by kernel_rfl
theorem okF_9 : okF ZP 9 = true := by kernel_rfl
theorem okF_10 : okF ZP 10 = true := by kernel_rfl
theorem okF_15 : okF ZP 15 = true := by kernel_rfl
theorem okF_20 : okF ZP 20 = true := by kernel_rfl
theorem okF_21 : okF ZP 21 = true := by kernel_rfl
theorem okF_25 : okF ZP 25 = true := by kernel_rfl
theorem okF_26 : okF ZP 26 = true := by kernel_rfl
theorem okF_27 : okF ZP 27 = true := by kernel_rfl
theorem okF_28 : okF ZP 28 = true := by kernel_rfl
theorem okF_30 : okF ZP 30 = true := by kernel_rfl
theorem okF_31 : okF ZP 31 = true := by kernel_rfl
theorem okF_32 : okF ZP 32 = true := by kernel_rfl
theorem okF_33 : okF ZP 33 = true := by kernel_rfl
theorem okF_34 : okF ZP 34 = true := by kernel_rfl
theorem okF_35 : okF ZP 35 = true := by kernel_rfl
theorem okF_36 : okF ZP 36 = true := by kernel_rfl
theorem okF_43 : okF ZP 43 = true := by kernel_rfl
theorem okF_66 : okF ZP 66 = true := by kernel_rfl
theorem okF_68 : okF ZP 68 = true := by kernel_rfl
theorem okF_69 : okF ZP 69 = true := by kernel_rfl
theorem okF_70 : okF ZP 70 = true := by kernel_rfl
theorem okF_71 : okF ZP 71 = true := by kernel_rfl
theorem okF_72 : okF ZP 72 = true := by kernel_rfl
theorem okF_73 : okF ZP 73 = true := by kernel_rfl
theorem okF_74 : okF ZP 74 = true := by kernel_rfl
theorem okF_75 : okF ZP 75 = true := by kernel_rfl
theorem okF_76 : okF ZP 76 = true := by kernel_rfl
theorem okF_77 : okF ZP 77 = true := by kernel_rfl
theorem okF_78 : okF ZP 78 = true := by kernel_rfl
theorem okF_79 : okF ZP 79 = true := by kernel_rfl
theorem okF_80 : okF ZP 80 = true := by kernel_rfl
theorem okF_81 : okF ZP 81 = true := by kernel_rfl
theorem okF_83 : okF ZP 83 = true := by kernel_rfl
theorem okF_96 : okF ZP 96 = true := by kernel_rfl
theorem okF_97 : okF ZP 97 = true := by kernel_rfl
theorem okF_98 : okF ZP 98 = true := by kernel_rfl
theorem okF_99 : okF ZP 99 = true := by kernel_rfl
theorem okF_100 : okF ZP 100 = true := by kernel_rfl
theorem okF_101 : okF ZP 101 = true := by kernel_rfl
theorem okF_102 : okF ZP 102 = true := by kernel_rfl
theorem okF_103 : okF ZP 103 = true := by kernel_rfl
theorem okF_104 : okF ZP 104 = true := by kernel_rfl
theorem okF_105 : okF ZP 105 = true := by kernel_rfl
theorem okF_106 : okF ZP 106 = true := by kernel_rfl
theorem okF_107 : okF ZP 107 = true := by kernel_rfl
theorem okF_108 : okF ZP 108 = true := by kernel_rfl
theorem okF_110 : okF ZP 110 = true := by kernel_rfl
theorem okF_111 : okF ZP 111 = true := by kernel_rfl
theorem okF_112 : okF ZP 112 = true := by kernel_rfl
theorem okF_113 : okF ZP 113 = true := by kernel_rfl
theorem okF_130 : okF ZP 130 = true := by kernel_rfl
theorem okF_131 : okF ZP 131 = true := by kernel_rfl
theorem okF_132 : okF ZP 132 = true := by kernel_rfl
theorem okF_133 : okF ZP 133 = true := by kernel_rfl
theorem okF_134 : okF ZP 134 = true := by kernel_rfl
theorem okF_135 : okF ZP 135 = true := by kernel_rfl
theorem okF_136 : okF ZP 136 = true := by kernel_rfl
theorem okF_137 : okF ZP 137 = true := by kernel_rfl
theorem okF_158 : okF ZP 158 = true := by kernel_rfl
theorem okF_159 : okF ZP 159 = true := by kernel_rfl
theorem okF_227 : okF ZP 227 = true := by kernel_rfl
theorem okF_228 : okF ZP 228 = true := by kernel_rfl
theorem okF_230 : okF ZP 230 = true := by kernel_rfl
theorem okF_231 : okF ZP 231 = true := by kernel_rfl
theorem okF_232 : okF ZP 232 = true := by kernel_rfl
end Go.Proofs.YthcdnjbhhaonhaaGreatDoor
