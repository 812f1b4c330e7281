/- Facts of the types and functions of this program, each by evaluation. -/
import Derived.Test.YthcdnjbhhaonhaaGreatDoorProg
import Derived.Test.YthcdnjbhhaonhaaGreatDoorQvMwBase

namespace Go.Proofs.YthcdnjbhhaonhaaGreatDoor
open Go.RowKit
open Go.Proofs.Tryz renaming prog → ZP
set_option maxRecDepth 100000
theorem follows_mo : Go.Proofs.Tryz.prog.follows .mixedOrders = true := by kernel_rfl
theorem tok_3 : tok ZP 3 = true := by kernel_rfl
theorem tsz_3 : tsz ZP 3 = 1 := by kernel_rfl
theorem tby_3 : tbytes ZP 3 = 8 := by kernel_rfl
theorem tagg_3 : tagg ZP 3 = false := by kernel_rfl
theorem tzero_3 : tzero ZP 3 = some (.int .i64 0) := by kernel_rfl
theorem tkind_3 : tkind ZP 3 = some .i64 := by kernel_rfl
theorem tok_4 : tok ZP 4 = true := by kernel_rfl
theorem tsz_4 : tsz ZP 4 = 1 := by kernel_rfl
theorem tagg_4 : tagg ZP 4 = false := by kernel_rfl
theorem tzero_4 : tzero ZP 4 = some (.bool false) := by kernel_rfl
theorem tbool_4 : tbool ZP 4 = true := by kernel_rfl
theorem tok_5 : tok ZP 5 = true := by kernel_rfl
theorem tsz_5 : tsz ZP 5 = 1 := by kernel_rfl
theorem tby_5 : tbytes ZP 5 = 1 := by kernel_rfl
theorem tagg_5 : tagg ZP 5 = false := by kernel_rfl
theorem tzero_5 : tzero ZP 5 = some (.int .u8 0) := by kernel_rfl
theorem tkind_5 : tkind ZP 5 = some .u8 := by kernel_rfl
theorem tok_9 : tok ZP 9 = true := by kernel_rfl
theorem tsz_9 : tsz ZP 9 = 1 := by kernel_rfl
theorem tagg_9 : tagg ZP 9 = false := by kernel_rfl
theorem tstr_9 : tstr ZP 9 = true := by kernel_rfl
theorem tok_22 : tok ZP 22 = true := by kernel_rfl
theorem tsz_22 : tsz ZP 22 = 1 := by kernel_rfl
theorem tagg_22 : tagg ZP 22 = false := by kernel_rfl
theorem telem_22 : telem ZP 22 = some 72 := by kernel_rfl
theorem tok_24 : tok ZP 24 = true := by kernel_rfl
theorem tsz_24 : tsz ZP 24 = 2 := by kernel_rfl
theorem tagg_24 : tagg ZP 24 = true := by kernel_rfl
theorem tzero_24 : tzero ZP 24 = some (.agg #[.int .i64 0, .slice none 0 0]) := by kernel_rfl
theorem tfld_24_0 : tfld ZP 24 0 = some (3, 0) := by kernel_rfl
theorem fldA_24_0 : fldA ZP 24 0 = some 0 := by kernel_rfl
theorem tfld_24_1 : tfld ZP 24 1 = some (22, 1) := by kernel_rfl
theorem fldA_24_1 : fldA ZP 24 1 = some 1 := by kernel_rfl
theorem tok_28 : tok ZP 28 = true := by kernel_rfl
theorem tsz_28 : tsz ZP 28 = 1 := by kernel_rfl
theorem tagg_28 : tagg ZP 28 = false := by kernel_rfl
theorem tkind_28 : tkind ZP 28 = some .i64 := by kernel_rfl
theorem tok_33 : tok ZP 33 = true := by kernel_rfl
theorem tsz_33 : tsz ZP 33 = 1 := by kernel_rfl
theorem tagg_33 : tagg ZP 33 = false := by kernel_rfl
theorem telem_33 : telem ZP 33 = some 3 := by kernel_rfl
theorem tok_35 : tok ZP 35 = true := by kernel_rfl
theorem tsz_35 : tsz ZP 35 = 3 := by kernel_rfl
theorem tagg_35 : tagg ZP 35 = true := by kernel_rfl
theorem tzero_35 : tzero ZP 35 = some (.agg #[.int .i64 0, .int .i64 0, .slice none 0 0]) := by kernel_rfl
theorem tfld_35_0 : tfld ZP 35 0 = some (3, 0) := by kernel_rfl
theorem fldA_35_0 : fldA ZP 35 0 = some 0 := by kernel_rfl
theorem tfld_35_1 : tfld ZP 35 1 = some (3, 1) := by kernel_rfl
theorem fldA_35_1 : fldA ZP 35 1 = some 1 := by kernel_rfl
theorem tfld_35_2 : tfld ZP 35 2 = some (33, 2) := by kernel_rfl
theorem fldA_35_2 : fldA ZP 35 2 = some 2 := by kernel_rfl
theorem tok_62 : tok ZP 62 = true := by kernel_rfl
theorem tsz_62 : tsz ZP 62 = 1 := by kernel_rfl
theorem tagg_62 : tagg ZP 62 = false := by kernel_rfl
theorem telem_62 : telem ZP 62 = some 64 := by kernel_rfl
theorem tok_64 : tok ZP 64 = true := by kernel_rfl
theorem tsz_64 : tsz ZP 64 = 5 := by kernel_rfl
theorem tby_64 : tbytes ZP 64 = 80 := by kernel_rfl
theorem tagg_64 : tagg ZP 64 = true := by kernel_rfl
theorem tzero_64 : tzero ZP 64 = some (.agg #[.int .i64 0, .int .i64 0, .string { data := #[] }, .slice none 0 0, .slice none 0 0]) := by kernel_rfl
theorem tfld_64_0 : tfld ZP 64 0 = some (3, 0) := by kernel_rfl
theorem fldA_64_0 : fldA ZP 64 0 = some 0 := by kernel_rfl
theorem tfld_64_1 : tfld ZP 64 1 = some (3, 1) := by kernel_rfl
theorem fldA_64_1 : fldA ZP 64 1 = some 1 := by kernel_rfl
theorem tfld_64_2 : tfld ZP 64 2 = some (9, 2) := by kernel_rfl
theorem fldA_64_2 : fldA ZP 64 2 = some 2 := by kernel_rfl
theorem tfld_64_3 : tfld ZP 64 3 = some (33, 3) := by kernel_rfl
theorem fldA_64_3 : fldA ZP 64 3 = some 3 := by kernel_rfl
theorem tfld_64_4 : tfld ZP 64 4 = some (62, 4) := by kernel_rfl
theorem fldA_64_4 : fldA ZP 64 4 = some 4 := by kernel_rfl
theorem tok_65 : tok ZP 65 = true := by kernel_rfl
theorem tsz_65 : tsz ZP 65 = 1 := by kernel_rfl
theorem tby_65 : tbytes ZP 65 = 8 := by kernel_rfl
theorem tagg_65 : tagg ZP 65 = false := by kernel_rfl
theorem tzero_65 : tzero ZP 65 = some .nilFunc := by kernel_rfl
theorem tok_72 : tok ZP 72 = true := by kernel_rfl
theorem tsz_72 : tsz ZP 72 = 4 := by kernel_rfl
theorem tby_72 : tbytes ZP 72 = 48 := by kernel_rfl
theorem tagg_72 : tagg ZP 72 = true := by kernel_rfl
theorem tzero_72 : tzero ZP 72 = some (.agg #[.int .i64 0, .int .i64 0, .int .i64 0, .slice none 0 0]) := by kernel_rfl
theorem tfld_72_0 : tfld ZP 72 0 = some (3, 0) := by kernel_rfl
theorem fldA_72_0 : fldA ZP 72 0 = some 0 := by kernel_rfl
theorem tfld_72_1 : tfld ZP 72 1 = some (35, 1) := by kernel_rfl
theorem fldA_72_1 : fldA ZP 72 1 = some 1 := by kernel_rfl
theorem tok_110 : tok ZP 110 = true := by kernel_rfl
theorem tsz_110 : tsz ZP 110 = 1 := by kernel_rfl
theorem tagg_110 : tagg ZP 110 = false := by kernel_rfl
theorem tconc_110 : tconc ZP 110 = true := by kernel_rfl
theorem telem_110 : telem ZP 110 = some 3 := by kernel_rfl
theorem tok_112 : tok ZP 112 = true := by kernel_rfl
theorem tsz_112 : tsz ZP 112 = 5 := by kernel_rfl
theorem tagg_112 : tagg ZP 112 = true := by kernel_rfl
theorem tconc_112 : tconc ZP 112 = true := by kernel_rfl
theorem tzero_112 : tzero ZP 112 = some (.agg #[.int .i64 0, .int .i64 0, .int .i64 0, .bool false, .bool false]) := by kernel_rfl
theorem tfld_112_0 : tfld ZP 112 0 = some (3, 0) := by kernel_rfl
theorem fldA_112_0 : fldA ZP 112 0 = some 0 := by kernel_rfl
theorem tfld_112_1 : tfld ZP 112 1 = some (3, 1) := by kernel_rfl
theorem fldA_112_1 : fldA ZP 112 1 = some 1 := by kernel_rfl
theorem tfld_112_2 : tfld ZP 112 2 = some (3, 2) := by kernel_rfl
theorem fldA_112_2 : fldA ZP 112 2 = some 2 := by kernel_rfl
theorem tfld_112_4 : tfld ZP 112 4 = some (4, 4) := by kernel_rfl
theorem fldA_112_4 : fldA ZP 112 4 = some 4 := by kernel_rfl
theorem tok_132 : tok ZP 132 = true := by kernel_rfl
theorem tsz_132 : tsz ZP 132 = 1 := by kernel_rfl
theorem tagg_132 : tagg ZP 132 = false := by kernel_rfl
theorem telem_132 : telem ZP 132 = some 5 := by kernel_rfl
theorem tok_152 : tok ZP 152 = true := by kernel_rfl
theorem tsz_152 : tsz ZP 152 = 1 := by kernel_rfl
theorem tagg_152 : tagg ZP 152 = false := by kernel_rfl
theorem tkind_152 : tkind ZP 152 = some .u64 := by kernel_rfl
theorem tok_162 : tok ZP 162 = true := by kernel_rfl
theorem tsz_162 : tsz ZP 162 = 1 := by kernel_rfl
theorem tagg_162 : tagg ZP 162 = false := by kernel_rfl
theorem telem_162 : telem ZP 162 = some 65 := by kernel_rfl
theorem okF_9 : okF ZP 9 = true := by kernel_rfl
theorem okF_10 : okF ZP 10 = true := by kernel_rfl
theorem okF_15 : okF ZP 15 = true := by kernel_rfl
theorem okF_20 : okF ZP 20 = true := by kernel_rfl
theorem okF_21 : okF ZP 21 = true := by kernel_rfl
theorem okF_25 : okF ZP 25 = true := by kernel_rfl
theorem okF_26 : okF ZP 26 = true := by kernel_rfl
theorem okF_27 : okF ZP 27 = true := by kernel_rfl
theorem okF_43 : okF ZP 43 = true := by kernel_rfl
theorem okF_46 : okF ZP 46 = true := by kernel_rfl
theorem okF_47 : okF ZP 47 = true := by kernel_rfl
theorem okF_48 : okF ZP 48 = true := by kernel_rfl
theorem okF_49 : okF ZP 49 = true := by kernel_rfl
theorem okF_50 : okF ZP 50 = true := by kernel_rfl
theorem okF_51 : okF ZP 51 = true := by kernel_rfl
theorem okF_66 : okF ZP 66 = true := by kernel_rfl
theorem okF_70 : okF ZP 70 = true := by kernel_rfl
theorem okF_87 : okF ZP 87 = true := by kernel_rfl
theorem okF_88 : okF ZP 88 = true := by kernel_rfl
theorem okF_89 : okF ZP 89 = true := by kernel_rfl
theorem okF_108 : okF ZP 108 = true := by kernel_rfl
theorem okF_115 : okF ZP 115 = true := by kernel_rfl
theorem okF_116 : okF ZP 116 = true := by kernel_rfl
theorem okF_117 : okF ZP 117 = true := by kernel_rfl
theorem okF_118 : okF ZP 118 = true := by kernel_rfl
theorem okF_119 : okF ZP 119 = true := by kernel_rfl
theorem okF_120 : okF ZP 120 = true := by kernel_rfl
theorem okF_138 : okF ZP 138 = true := by kernel_rfl
theorem okF_139 : okF ZP 139 = true := by kernel_rfl
theorem okF_140 : okF ZP 140 = true := by kernel_rfl
theorem okF_141 : okF ZP 141 = true := by kernel_rfl
theorem okF_142 : okF ZP 142 = true := by kernel_rfl
theorem okF_143 : okF ZP 143 = true := by kernel_rfl
theorem okF_144 : okF ZP 144 = true := by kernel_rfl
theorem okF_145 : okF ZP 145 = true := by kernel_rfl
theorem okF_160 : okF ZP 160 = true := by kernel_rfl
theorem okF_161 : okF ZP 161 = true := by kernel_rfl
theorem okF_162 : okF ZP 162 = true := by kernel_rfl
theorem okF_163 : okF ZP 163 = true := by kernel_rfl
theorem okF_164 : okF ZP 164 = true := by kernel_rfl
theorem okF_179 : okF ZP 179 = true := by kernel_rfl
theorem okF_180 : okF ZP 180 = true := by kernel_rfl
theorem okF_181 : okF ZP 181 = true := by kernel_rfl
theorem okF_182 : okF ZP 182 = true := by kernel_rfl
theorem okF_183 : okF ZP 183 = true := by kernel_rfl
theorem okF_184 : okF ZP 184 = true := by kernel_rfl
theorem okF_185 : okF ZP 185 = true := by kernel_rfl
theorem okF_186 : okF ZP 186 = true := by kernel_rfl
theorem okF_187 : okF ZP 187 = true := by kernel_rfl
theorem okF_188 : okF ZP 188 = true := by kernel_rfl
theorem okF_189 : okF ZP 189 = true := by kernel_rfl
theorem okF_190 : okF ZP 190 = true := by kernel_rfl
theorem okF_191 : okF ZP 191 = true := by kernel_rfl
theorem okF_192 : okF ZP 192 = true := by kernel_rfl
theorem okF_193 : okF ZP 193 = true := by kernel_rfl
theorem okF_194 : okF ZP 194 = true := by kernel_rfl
theorem okF_203 : okF ZP 203 = true := by kernel_rfl
theorem okF_204 : okF ZP 204 = true := by kernel_rfl
theorem okF_205 : okF ZP 205 = true := by kernel_rfl
theorem okF_210 : okF ZP 210 = true := by kernel_rfl
theorem okF_227 : okF ZP 227 = true := by kernel_rfl
theorem okF_228 : okF ZP 228 = true := by kernel_rfl
theorem okF_230 : okF ZP 230 = true := by kernel_rfl
theorem okF_231 : okF ZP 231 = true := by kernel_rfl
theorem okF_232 : okF ZP 232 = true := by kernel_rfl
end Go.Proofs.YthcdnjbhhaonhaaGreatDoor
