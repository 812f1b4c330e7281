/- Facts of the types and functions of this program, each by evaluation. -/
import Derived.Test.YtdkdibeimeaakabGreatDoorProg
import Derived.Test.YtdkdibeimeaakabGreatDoorQsMwBase

namespace Go.Proofs.YtdkdibeimeaakabGreatDoor
open Go.RowKit
open Go.Proofs.Tryz renaming prog → ZP
set_option maxRecDepth 100000
theorem follows_mo : Go.Proofs.Tryz.prog.follows .mixedOrders = true := by kernel_rfl
theorem tok_3 : tok ZP 3 = true := by kernel_rfl
theorem tsz_3 : tsz ZP 3 = 1 := by kernel_rfl
theorem tagg_3 : tagg ZP 3 = false := by kernel_rfl
theorem tkind_3 : tkind ZP 3 = some .i64 := by kernel_rfl
theorem tok_4 : tok ZP 4 = true := by kernel_rfl
theorem tsz_4 : tsz ZP 4 = 1 := by kernel_rfl
theorem tagg_4 : tagg ZP 4 = false := by kernel_rfl
theorem tbool_4 : tbool ZP 4 = true := by kernel_rfl
theorem tok_9 : tok ZP 9 = true := by kernel_rfl
theorem tsz_9 : tsz ZP 9 = 1 := by kernel_rfl
theorem tagg_9 : tagg ZP 9 = false := by kernel_rfl
theorem tstr_9 : tstr ZP 9 = true := by kernel_rfl
theorem tok_22 : tok ZP 22 = true := by kernel_rfl
theorem tsz_22 : tsz ZP 22 = 1 := by kernel_rfl
theorem tagg_22 : tagg ZP 22 = false := by kernel_rfl
theorem telem_22 : telem ZP 22 = some 49 := by kernel_rfl
theorem tok_25 : tok ZP 25 = true := by kernel_rfl
theorem tsz_25 : tsz ZP 25 = 1 := by kernel_rfl
theorem tagg_25 : tagg ZP 25 = false := by kernel_rfl
theorem tkind_25 : tkind ZP 25 = some .i64 := by kernel_rfl
theorem tok_40 : tok ZP 40 = true := by kernel_rfl
theorem tsz_40 : tsz ZP 40 = 7 := by kernel_rfl
theorem tagg_40 : tagg ZP 40 = true := by kernel_rfl
theorem tfld_40_0 : tfld ZP 40 0 = some (3, 0) := by kernel_rfl
theorem fldA_40_0 : fldA ZP 40 0 = some 0 := by kernel_rfl
theorem tfld_40_1 : tfld ZP 40 1 = some (3, 1) := by kernel_rfl
theorem fldA_40_1 : fldA ZP 40 1 = some 1 := by kernel_rfl
theorem tfld_40_2 : tfld ZP 40 2 = some (3, 2) := by kernel_rfl
theorem fldA_40_2 : fldA ZP 40 2 = some 2 := by kernel_rfl
theorem tfld_40_3 : tfld ZP 40 3 = some (9, 3) := by kernel_rfl
theorem fldA_40_3 : fldA ZP 40 3 = some 3 := by kernel_rfl
theorem tfld_40_4 : tfld ZP 40 4 = some (3, 4) := by kernel_rfl
theorem fldA_40_4 : fldA ZP 40 4 = some 4 := by kernel_rfl
theorem tfld_40_5 : tfld ZP 40 5 = some (3, 5) := by kernel_rfl
theorem fldA_40_5 : fldA ZP 40 5 = some 5 := by kernel_rfl
theorem tfld_40_6 : tfld ZP 40 6 = some (9, 6) := by kernel_rfl
theorem fldA_40_6 : fldA ZP 40 6 = some 6 := by kernel_rfl
theorem tok_49 : tok ZP 49 = true := by kernel_rfl
theorem tsz_49 : tsz ZP 49 = 10 := by kernel_rfl
theorem tby_49 : tbytes ZP 49 = 96 := by kernel_rfl
theorem tagg_49 : tagg ZP 49 = true := by kernel_rfl
theorem tzero_49 : tzero ZP 49 = some (.agg #[.int .i64 0, .int .i64 0, .int .i64 0, .int .i64 0, .int .i64 0, .string { data := #[] }, .int .i64 0, .int .i64 0, .string { data := #[] }, .bool false]) := by kernel_rfl
theorem tfld_49_0 : tfld ZP 49 0 = some (3, 0) := by kernel_rfl
theorem fldA_49_0 : fldA ZP 49 0 = some 0 := by kernel_rfl
theorem tfld_49_1 : tfld ZP 49 1 = some (3, 1) := by kernel_rfl
theorem fldA_49_1 : fldA ZP 49 1 = some 1 := by kernel_rfl
theorem tfld_49_2 : tfld ZP 49 2 = some (40, 2) := by kernel_rfl
theorem fldA_49_2 : fldA ZP 49 2 = some 2 := by kernel_rfl
theorem tfld_49_3 : tfld ZP 49 3 = some (4, 9) := by kernel_rfl
theorem fldA_49_3 : fldA ZP 49 3 = some 9 := by kernel_rfl
theorem tok_92 : tok ZP 92 = true := by kernel_rfl
theorem tsz_92 : tsz ZP 92 = 5 := by kernel_rfl
theorem tby_92 : tbytes ZP 92 = 24 := by kernel_rfl
theorem tagg_92 : tagg ZP 92 = true := by kernel_rfl
theorem tzero_92 : tzero ZP 92 = some (.agg #[.bool false, .bool false, .bool false, .int .i64 0, .int .i64 0]) := by kernel_rfl
theorem tfld_92_0 : tfld ZP 92 0 = some (4, 0) := by kernel_rfl
theorem fldA_92_0 : fldA ZP 92 0 = some 0 := by kernel_rfl
theorem tfld_92_1 : tfld ZP 92 1 = some (4, 1) := by kernel_rfl
theorem fldA_92_1 : fldA ZP 92 1 = some 1 := by kernel_rfl
theorem tfld_92_2 : tfld ZP 92 2 = some (4, 2) := by kernel_rfl
theorem fldA_92_2 : fldA ZP 92 2 = some 2 := by kernel_rfl
theorem tfld_92_3 : tfld ZP 92 3 = some (3, 3) := by kernel_rfl
theorem fldA_92_3 : fldA ZP 92 3 = some 3 := by kernel_rfl
theorem tfld_92_4 : tfld ZP 92 4 = some (3, 4) := by kernel_rfl
theorem fldA_92_4 : fldA ZP 92 4 = some 4 := by kernel_rfl
theorem tok_93 : tok ZP 93 = true := by kernel_rfl
theorem tsz_93 : tsz ZP 93 = 1 := by kernel_rfl
theorem tagg_93 : tagg ZP 93 = false := by kernel_rfl
theorem telem_93 : telem ZP 93 = some 92 := by kernel_rfl
theorem okF_6 : okF ZP 6 = true := by kernel_rfl
theorem okF_11 : okF ZP 11 = true := by kernel_rfl
theorem okF_12 : okF ZP 12 = true := by kernel_rfl
theorem okF_13 : okF ZP 13 = true := by kernel_rfl
theorem okF_14 : okF ZP 14 = true := by kernel_rfl
theorem okF_15 : okF ZP 15 = true := by kernel_rfl
theorem okF_21 : okF ZP 21 = true := by kernel_rfl
theorem okF_22 : okF ZP 22 = true := by kernel_rfl
theorem okF_23 : okF ZP 23 = true := by kernel_rfl
theorem okF_24 : okF ZP 24 = true := by kernel_rfl
theorem okF_33 : okF ZP 33 = true := by kernel_rfl
theorem okF_34 : okF ZP 34 = true := by kernel_rfl
theorem okF_35 : okF ZP 35 = true := by kernel_rfl
theorem okF_36 : okF ZP 36 = true := by kernel_rfl
theorem okF_37 : okF ZP 37 = true := by kernel_rfl
theorem okF_45 : okF ZP 45 = true := by kernel_rfl
theorem okF_46 : okF ZP 46 = true := by kernel_rfl
theorem okF_47 : okF ZP 47 = true := by kernel_rfl
theorem okF_48 : okF ZP 48 = true := by kernel_rfl
theorem okF_49 : okF ZP 49 = true := by kernel_rfl
theorem okF_50 : okF ZP 50 = true := by kernel_rfl
theorem okF_51 : okF ZP 51 = true := by kernel_rfl
theorem okF_65 : okF ZP 65 = true := by kernel_rfl
theorem okF_66 : okF ZP 66 = true := by kernel_rfl
theorem okF_67 : okF ZP 67 = true := by kernel_rfl
end Go.Proofs.YtdkdibeimeaakabGreatDoor
