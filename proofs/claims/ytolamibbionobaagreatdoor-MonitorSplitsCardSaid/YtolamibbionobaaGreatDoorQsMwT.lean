/- Facts of the types and functions of this program, each by evaluation. -/
import Derived.Test.YtolamibbionobaaGreatDoorProg
import Derived.Test.YtolamibbionobaaGreatDoorQsMwBase

namespace Go.Proofs.YtolamibbionobaaGreatDoor
open Go.RowKit
open Go.Proofs.Tryz renaming prog → ZP
set_option maxRecDepth 100000
theorem follows_mo : Go.Proofs.Tryz.prog.follows .mixedOrders = true := by kernel_rfl
theorem tok_3 : tok ZP 3 = true := by kernel_rfl
theorem tsz_3 : tsz ZP 3 = 1 := by kernel_rfl
theorem tagg_3 : tagg ZP 3 = false := by kernel_rfl
theorem tkind_3 : tkind ZP 3 = some .i64 := by kernel_rfl
theorem tok_4 : tok ZP 4 = true := by kernel_rfl
theorem tsz_4 : tsz ZP 4 = 1 := by kernel_rfl
theorem tagg_4 : tagg ZP 4 = false := by kernel_rfl
theorem tbool_4 : tbool ZP 4 = true := by kernel_rfl
theorem tok_5 : tok ZP 5 = true := by kernel_rfl
theorem tsz_5 : tsz ZP 5 = 1 := by kernel_rfl
theorem tby_5 : tbytes ZP 5 = 1 := by kernel_rfl
theorem tagg_5 : tagg ZP 5 = false := by kernel_rfl
theorem tzero_5 : tzero ZP 5 = some (.int .u8 0) := by kernel_rfl
theorem tkind_5 : tkind ZP 5 = some .u8 := by kernel_rfl
theorem tok_9 : tok ZP 9 = true := by kernel_rfl
theorem tsz_9 : tsz ZP 9 = 1 := by kernel_rfl
theorem tby_9 : tbytes ZP 9 = 16 := by kernel_rfl
theorem tagg_9 : tagg ZP 9 = false := by kernel_rfl
theorem tzero_9 : tzero ZP 9 = some (.string { data := #[] }) := by kernel_rfl
theorem tstr_9 : tstr ZP 9 = true := by kernel_rfl
theorem tok_23 : tok ZP 23 = true := by kernel_rfl
theorem tsz_23 : tsz ZP 23 = 1 := by kernel_rfl
theorem tagg_23 : tagg ZP 23 = false := by kernel_rfl
theorem tkind_23 : tkind ZP 23 = some .i64 := by kernel_rfl
theorem tok_62 : tok ZP 62 = true := by kernel_rfl
theorem tsz_62 : tsz ZP 62 = 1 := by kernel_rfl
theorem tagg_62 : tagg ZP 62 = false := by kernel_rfl
theorem telem_62 : telem ZP 62 = some 9 := by kernel_rfl
theorem tok_80 : tok ZP 80 = true := by kernel_rfl
theorem tsz_80 : tsz ZP 80 = 1 := by kernel_rfl
theorem tagg_80 : tagg ZP 80 = false := by kernel_rfl
theorem tifc_80 : tifc ZP 80 = true := by kernel_rfl
theorem tok_179 : tok ZP 179 = true := by kernel_rfl
theorem tsz_179 : tsz ZP 179 = 1 := by kernel_rfl
theorem tagg_179 : tagg ZP 179 = false := by kernel_rfl
theorem telem_179 : telem ZP 179 = some 5 := by kernel_rfl
theorem okF_5 : okF ZP 5 = true := by kernel_rfl
theorem okF_6 : okF ZP 6 = true := by kernel_rfl
theorem okF_7 : okF ZP 7 = true := by kernel_rfl
theorem okF_25 : okF ZP 25 = true := by kernel_rfl
theorem okF_26 : okF ZP 26 = true := by kernel_rfl
theorem okF_27 : okF ZP 27 = true := by kernel_rfl
theorem okF_28 : okF ZP 28 = true := by kernel_rfl
theorem okF_29 : okF ZP 29 = true := by kernel_rfl
theorem okF_30 : okF ZP 30 = true := by kernel_rfl
theorem okF_31 : okF ZP 31 = true := by kernel_rfl
end Go.Proofs.YtolamibbionobaaGreatDoor
