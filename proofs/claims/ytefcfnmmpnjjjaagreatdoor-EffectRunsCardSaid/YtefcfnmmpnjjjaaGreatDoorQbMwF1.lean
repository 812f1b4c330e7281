/- The functions, stripped. -/
import Derived.Test.YtefcfnmmpnjjjaaGreatDoorQbMwT
import Derived.Test.YtefcfnmmpnjjjaaGreatDoorQbMwIn
namespace Go.Proofs.YtefcfnmmpnjjjaaGreatDoor
open Go.RowKit
set_option maxRecDepth 100000
/-- continuo/continuoref31.Samples -/
def m45 : MC := (.seq (.ops [⟨some 2, .assign (.const (.int .i64 0)), 28, none⟩])
    (.seq (.seq (.ops [⟨some 3, .assign (.const (.int .i64 0)), 3, none⟩])
    (.block 0 (.loop (.seq (.seq (.ops [⟨some 4, .move (.tmp 3), 3, none⟩, ⟨some 5, .move (.tmp 0), 22, none⟩, ⟨some 6, .call { callee := .builtin .len, args := #[.tmp 5], argTypes := #[22] }, 3, none⟩, ⟨some 7, .binOp .lss 3 (.tmp 4) (.tmp 6) 3, 4, none⟩])
    (.cond (.tmp 7) .skip (.exit 0)))
    (.seq (.block 1 (.seq (.draw (.take ⟨some 10, .move (.tmp 0), 22, none⟩ (.take ⟨some 11, .move (.tmp 3), 3, none⟩ (.take ⟨some 12, .indexAddr 22 (.tmp 10) (.tmp 11), 0, none⟩ (.take ⟨some 13, .load 3 (.tmp 12), 3, none⟩ (.take ⟨some 15, .move (.tmp 0), 22, none⟩ (.take ⟨some 16, .move (.tmp 3), 3, none⟩ (.take ⟨some 17, .indexAddr 22 (.tmp 15) (.tmp 16), 0, none⟩ (.take ⟨some 18, .load 3 (.tmp 17), 3, none⟩ (.alt ⟨some 14, .call { callee := .value (.func 59), args := #[.tmp 13], argTypes := #[3] }, 3, none⟩ (.take ⟨some 19, .binOp .neq 3 (.tmp 14) (.tmp 18) 3, 4, none⟩ .done) .none))))))))))
    (.cond (.tmp 19) (.seq (.ops [⟨some 2, .assign (.const (.int .i64 1)), 28, none⟩])
    .ret) .skip)))
    (.ops [⟨some 8, .move (.tmp 3), 3, none⟩, ⟨some 9, .binOp .add 3 (.tmp 8) (.const (.int .i64 1)) 3, 3, none⟩, ⟨some 3, .assign (.tmp 9), 3, none⟩]))))))
    (.seq (.seq (.ops [⟨some 20, .move (.tmp 0), 22, none⟩, ⟨some 21, .call { callee := .builtin .len, args := #[.tmp 20], argTypes := #[22] }, 3, none⟩, ⟨some 22, .binOp .gtr 3 (.tmp 21) (.const (.int .i64 4096)) 3, 4, none⟩])
    (.cond (.tmp 22) (.seq (.ops [⟨some 2, .assign (.const (.int .i64 1)), 28, none⟩])
    .ret) .skip))
    (.seq (.ops [⟨some 2, .assign (.const (.int .i64 0)), 28, none⟩])
    .ret))))
def pl45 : Nat → Plan := fun id => if id = 4 then (.take 0 (.take 1 (.take 2 (.take 3 (.take 5 (.take 6 (.take 7 (.take 8 (.alt 4 (.take 9 .done) .none))))))))) else .done
theorem st45 : Go.Proofs.Tryz.f45.body.map (strip pl45) = some m45 := by kernel_rfl
theorem ok45 : okB pl45 Go.Proofs.Tryz.f45 1 = true := by kernel_rfl
theorem en45 {v0 w} {Q : Value → World → Prop} (h : mwpB Go.Proofs.Tryz.prog m45 (argEnv [v0]) [] w (fun e ds w => ds = [] ∧ resW Go.Proofs.Tryz.prog [.tmp 2] e w fun v => Q v w) (fun _ _ _ _ => False) (fun e ds w => ds = [] ∧ resW Go.Proofs.Tryz.prog [.tmp 2] e w fun v => Q v w) (fun _ _ _ _ => False) ⟨⟩) : Rets Go.Proofs.Tryz.prog 45 #[v0] w Q :=
  rets_of_mwp follows_mo Go.Proofs.Tryz.func45 pl45 st45 ok45 (by kernel_rfl) h
/-- continuo/continuoref31.step -/
def m46 : MC := (.seq (.ops [⟨some 2, .box 39 (.tmp 0), 0, none⟩, ⟨some 4, .alloc 39, 0, none⟩, ⟨some 5, .assign (.const (.int .i64 0)), 3, none⟩])
    (.seq (.ops [⟨some 11, .fieldAddr 39 (.tmp 2) 0, 0, none⟩, ⟨some 12, .fieldAddr 24 (.tmp 11) 1, 0, none⟩, ⟨some 13, .load 22 (.tmp 12), 22, none⟩, ⟨some 6, .assign (.tmp 13), 22, none⟩])
    (.seq (.ops [⟨some 14, .move (.tmp 1), 3, none⟩, ⟨some 7, .assign (.tmp 14), 3, none⟩])
    (.seq (.seq (.ops [⟨some 15, .fieldAddr 39 (.tmp 2) 0, 0, none⟩, ⟨some 16, .fieldAddr 24 (.tmp 15) 0, 0, none⟩, ⟨some 17, .load 3 (.tmp 16), 3, none⟩])
    (.block 0 (.seq (.ops [⟨some 19, .binOp .eql 3 (.tmp 17) (.const (.int .i64 1)) 3, 4, none⟩, ⟨some 18, .assign (.tmp 19), 4, none⟩])
    (.cond (.tmp 18) (.ops [⟨some 20, .move (.tmp 1), 3, none⟩, ⟨some 21, .move (.tmp 6), 22, none⟩, ⟨some 22, .indexAddr 22 (.tmp 21) (.const (.int .i64 0)), 0, none⟩, ⟨some 23, .load 3 (.tmp 22), 3, none⟩, ⟨some 24, .binOp .mul 3 (.tmp 20) (.tmp 23) 3, 3, none⟩, ⟨some 25, .call { callee := .value (.func 82), args := #[.tmp 24], argTypes := #[3] }, 3, none⟩, ⟨some 26, .call { callee := .value (.func 59), args := #[.tmp 25], argTypes := #[3] }, 3, none⟩, ⟨some 7, .assign (.tmp 26), 3, none⟩]) (.seq (.ops [⟨some 28, .binOp .eql 3 (.tmp 17) (.const (.int .i64 2)) 3, 4, none⟩, ⟨some 27, .assign (.tmp 28), 4, none⟩])
    (.cond (.tmp 27) (.seq (.ops [⟨some 29, .move (.tmp 6), 22, none⟩, ⟨some 30, .indexAddr 22 (.tmp 29) (.const (.int .i64 0)), 0, none⟩, ⟨some 31, .load 3 (.tmp 30), 3, none⟩, ⟨some 32, .binOp .gtr 3 (.tmp 31) (.const (.int .i64 0)) 3, 4, none⟩])
    (.cond (.tmp 32) (.draw (.take ⟨some 33, .fieldAddr 39 (.tmp 2) 1, 0, none⟩ (.take ⟨some 34, .load 22 (.tmp 33), 22, none⟩ (.take ⟨some 35, .move (.tmp 6), 22, none⟩ (.take ⟨some 36, .indexAddr 22 (.tmp 35) (.const (.int .i64 0)), 0, none⟩ (.take ⟨some 37, .load 3 (.tmp 36), 3, none⟩ (.alt ⟨some 38, .call { callee := .value (.func 83), args := #[.tmp 34, .tmp 37], argTypes := #[22, 3] }, 3, none⟩ (.take ⟨some 7, .assign (.tmp 38), 3, none⟩ .done) .none))))))) .skip)) (.seq (.ops [⟨some 40, .binOp .eql 3 (.tmp 17) (.const (.int .i64 3)) 3, 4, none⟩, ⟨some 39, .assign (.tmp 40), 4, none⟩])
    (.cond (.tmp 39) (.draw (.take ⟨some 41, .move (.tmp 1), 3, none⟩ (.take ⟨some 42, .fieldAddr 39 (.tmp 2) 1, 0, none⟩ (.take ⟨some 43, .load 22 (.tmp 42), 22, none⟩ (.take ⟨some 44, .move (.tmp 6), 22, none⟩ (.take ⟨some 45, .indexAddr 22 (.tmp 44) (.const (.int .i64 0)), 0, none⟩ (.take ⟨some 46, .load 3 (.tmp 45), 3, none⟩ (.take ⟨some 48, .move (.tmp 6), 22, none⟩ (.take ⟨some 49, .indexAddr 22 (.tmp 48) (.const (.int .i64 1)), 0, none⟩ (.take ⟨some 50, .load 3 (.tmp 49), 3, none⟩ (.alt ⟨some 47, .call { callee := .value (.func 83), args := #[.tmp 43, .tmp 46], argTypes := #[22, 3] }, 3, none⟩ (.take ⟨some 51, .binOp .mul 3 (.tmp 47) (.tmp 50) 3, 3, none⟩ (.alt ⟨some 52, .call { callee := .value (.func 82), args := #[.tmp 51], argTypes := #[3] }, 3, none⟩ (.take ⟨some 53, .binOp .add 3 (.tmp 41) (.tmp 52) 3, 3, none⟩ (.alt ⟨some 54, .call { callee := .value (.func 59), args := #[.tmp 53], argTypes := #[3] }, 3, none⟩ (.take ⟨some 7, .assign (.tmp 54), 3, none⟩ .done) .none)) .none)) .none))))))))))) (.seq (.ops [⟨some 56, .binOp .eql 3 (.tmp 17) (.const (.int .i64 4)) 3, 4, none⟩, ⟨some 55, .assign (.tmp 56), 4, none⟩])
    (.cond (.tmp 55) (.seq (.ops [⟨some 57, .fieldAddr 39 (.tmp 2) 0, 0, none⟩, ⟨some 58, .fieldAddr 24 (.tmp 57) 2, 0, none⟩, ⟨some 59, .load 22 (.tmp 58), 22, none⟩, ⟨some 8, .assign (.tmp 59), 22, none⟩])
    (.seq (.ops [⟨some 60, .move (.tmp 8), 22, none⟩, ⟨some 61, .indexAddr 22 (.tmp 60) (.const (.int .i64 0)), 0, none⟩, ⟨some 62, .load 3 (.tmp 61), 3, none⟩, ⟨some 63, .move (.tmp 1), 3, none⟩, ⟨some 64, .binOp .mul 3 (.tmp 62) (.tmp 63) 3, 3, none⟩, ⟨some 9, .assign (.tmp 64), 3, none⟩])
    (.seq (.seq (.ops [⟨some 10, .assign (.const (.int .i64 1)), 3, none⟩])
    (.block 1 (.loop (.seq (.seq (.ops [⟨some 65, .move (.tmp 10), 3, none⟩, ⟨some 66, .move (.tmp 8), 22, none⟩, ⟨some 67, .call { callee := .builtin .len, args := #[.tmp 66], argTypes := #[22] }, 3, none⟩, ⟨some 68, .binOp .lss 3 (.tmp 65) (.tmp 67) 3, 4, none⟩])
    (.cond (.tmp 68) .skip (.exit 1)))
    (.seq (.block 2 (.draw (.take ⟨some 71, .move (.tmp 9), 3, none⟩ (.take ⟨some 72, .move (.tmp 8), 22, none⟩ (.take ⟨some 73, .move (.tmp 10), 3, none⟩ (.take ⟨some 74, .indexAddr 22 (.tmp 72) (.tmp 73), 0, none⟩ (.take ⟨some 75, .load 3 (.tmp 74), 3, none⟩ (.take ⟨some 76, .fieldAddr 39 (.tmp 2) 1, 0, none⟩ (.take ⟨some 77, .load 22 (.tmp 76), 22, none⟩ (.take ⟨some 78, .move (.tmp 10), 3, none⟩ (.alt ⟨some 79, .call { callee := .value (.func 83), args := #[.tmp 77, .tmp 78], argTypes := #[22, 3] }, 3, none⟩ (.take ⟨some 80, .binOp .mul 3 (.tmp 75) (.tmp 79) 3, 3, none⟩ (.take ⟨some 81, .binOp .add 3 (.tmp 71) (.tmp 80) 3, 3, none⟩ (.take ⟨some 9, .assign (.tmp 81), 3, none⟩ .done))) .none)))))))))))
    (.ops [⟨some 69, .move (.tmp 10), 3, none⟩, ⟨some 70, .binOp .add 3 (.tmp 69) (.const (.int .i64 1)) 3, 3, none⟩, ⟨some 10, .assign (.tmp 70), 3, none⟩]))))))
    (.ops [⟨some 82, .move (.tmp 9), 3, none⟩, ⟨some 83, .call { callee := .value (.func 82), args := #[.tmp 82], argTypes := #[3] }, 3, none⟩, ⟨some 84, .call { callee := .value (.func 59), args := #[.tmp 83], argTypes := #[3] }, 3, none⟩, ⟨some 7, .assign (.tmp 84), 3, none⟩])))) (.seq (.seq (.ops [⟨some 86, .binOp .eql 3 (.tmp 17) (.const (.int .i64 5)) 3, 4, none⟩, ⟨some 85, .assign (.tmp 86), 4, none⟩])
    (.cond (.tmp 85) .skip (.ops [⟨some 87, .binOp .eql 3 (.tmp 17) (.const (.int .i64 7)) 3, 4, none⟩, ⟨some 85, .assign (.tmp 87), 4, none⟩])))
    (.cond (.tmp 85) (.seq (.ops [⟨some 88, .move (.tmp 6), 22, none⟩, ⟨some 89, .fieldAddr 39 (.tmp 2) 2, 0, none⟩, ⟨some 90, .load 3 (.tmp 89), 3, none⟩, ⟨some 91, .move (.tmp 1), 3, none⟩, ⟨some 92, .call { callee := .value (.func 84), args := #[.tmp 88, .tmp 90, .tmp 91], argTypes := #[22, 3, 3] }, 3, none⟩, ⟨some 93, .fieldAddr 39 (.tmp 2) 2, 0, none⟩, ⟨none, .store 3 (.tmp 93) (.tmp 92), 0, none⟩])
    (.seq (.seq (.ops [⟨some 94, .fieldAddr 39 (.tmp 2) 0, 0, none⟩, ⟨some 95, .fieldAddr 24 (.tmp 94) 0, 0, none⟩, ⟨some 96, .load 3 (.tmp 95), 3, none⟩, ⟨some 97, .binOp .eql 3 (.tmp 96) (.const (.int .i64 7)) 3, 4, none⟩, ⟨some 98, .move (.tmp 97), 4, none⟩, ⟨some 99, .move (.tmp 6), 22, some (some 98, true)⟩, ⟨some 100, .indexAddr 22 (.tmp 99) (.const (.int .i64 4)), 0, some (some 98, true)⟩, ⟨some 101, .load 3 (.tmp 100), 3, some (some 98, true)⟩, ⟨some 102, .binOp .gtr 3 (.tmp 101) (.const (.int .i64 0)) 3, 4, some (some 98, true)⟩, ⟨some 103, .pick (.tmp 98) (.tmp 102) (.const (.bool false)), 4, none⟩])
    (.cond (.tmp 103) (.draw (.take ⟨some 104, .fieldAddr 39 (.tmp 2) 1, 0, none⟩ (.take ⟨some 105, .load 22 (.tmp 104), 22, none⟩ (.take ⟨some 106, .move (.tmp 6), 22, none⟩ (.take ⟨some 107, .indexAddr 22 (.tmp 106) (.const (.int .i64 4)), 0, none⟩ (.take ⟨some 108, .load 3 (.tmp 107), 3, none⟩ (.alt ⟨some 109, .call { callee := .value (.func 83), args := #[.tmp 105, .tmp 108], argTypes := #[22, 3] }, 3, none⟩ (.take ⟨some 7, .assign (.tmp 109), 3, none⟩ .done) .none))))))) .skip))
    (.ops [⟨some 110, .move (.tmp 7), 3, none⟩, ⟨some 111, .move (.tmp 6), 22, none⟩, ⟨some 112, .fieldAddr 39 (.tmp 2) 2, 0, none⟩, ⟨some 113, .load 3 (.tmp 112), 3, none⟩, ⟨some 114, .call { callee := .value (.func 85), args := #[.tmp 111, .tmp 113], argTypes := #[22, 3] }, 3, none⟩, ⟨some 115, .binOp .mul 3 (.tmp 110) (.tmp 114) 3, 3, none⟩, ⟨some 116, .call { callee := .value (.func 82), args := #[.tmp 115], argTypes := #[3] }, 3, none⟩, ⟨some 117, .call { callee := .value (.func 59), args := #[.tmp 116], argTypes := #[3] }, 3, none⟩, ⟨some 7, .assign (.tmp 117), 3, none⟩]))) (.seq (.ops [⟨some 119, .binOp .eql 3 (.tmp 17) (.const (.int .i64 6)) 3, 4, none⟩, ⟨some 118, .assign (.tmp 119), 4, none⟩])
    (.cond (.tmp 118) (.seq (.seq (.ops [⟨some 120, .move (.tmp 1), 3, none⟩, ⟨some 121, .move (.tmp 6), 22, none⟩, ⟨some 122, .indexAddr 22 (.tmp 121) (.const (.int .i64 0)), 0, none⟩, ⟨some 123, .load 3 (.tmp 122), 3, none⟩, ⟨some 124, .binOp .geq 3 (.tmp 120) (.tmp 123) 3, 4, none⟩, ⟨some 125, .move (.tmp 124), 4, none⟩, ⟨some 126, .move (.tmp 1), 3, some (some 125, false)⟩, ⟨some 127, .unOp .neg 3 (.tmp 126), 3, some (some 125, false)⟩, ⟨some 128, .move (.tmp 6), 22, some (some 125, false)⟩, ⟨some 129, .indexAddr 22 (.tmp 128) (.const (.int .i64 0)), 0, some (some 125, false)⟩, ⟨some 130, .load 3 (.tmp 129), 3, some (some 125, false)⟩, ⟨some 131, .binOp .geq 3 (.tmp 127) (.tmp 130) 3, 4, some (some 125, false)⟩, ⟨some 132, .pick (.tmp 125) (.const (.bool true)) (.tmp 131), 4, none⟩])
    (.cond (.tmp 132) (.ops [⟨some 133, .fieldAddr 39 (.tmp 2) 3, 0, none⟩, ⟨none, .store 3 (.tmp 133) (.const (.int .i64 0)), 0, none⟩]) (.seq (.ops [⟨some 134, .fieldAddr 39 (.tmp 2) 3, 0, none⟩, ⟨some 135, .load 3 (.tmp 134), 3, none⟩, ⟨some 136, .binOp .geq 3 (.tmp 135) (.const (.int .i64 0)) 3, 4, none⟩])
    (.cond (.tmp 136) (.ops [⟨some 137, .fieldAddr 39 (.tmp 2) 3, 0, none⟩, ⟨some 138, .load 3 (.tmp 137), 3, none⟩, ⟨some 139, .binOp .add 3 (.tmp 138) (.const (.int .i64 1)) 3, 3, none⟩, ⟨some 140, .fieldAddr 39 (.tmp 2) 3, 0, none⟩, ⟨none, .store 3 (.tmp 140) (.tmp 139), 0, none⟩]) .skip))))
    (.seq (.draw (.take ⟨some 141, .fieldAddr 39 (.tmp 2) 3, 0, none⟩ (.take ⟨some 142, .load 3 (.tmp 141), 3, none⟩ (.take ⟨some 143, .binOp .lss 3 (.tmp 142) (.const (.int .i64 0)) 3, 4, none⟩ (.take ⟨some 144, .move (.tmp 143), 4, none⟩ (.take ⟨some 145, .fieldAddr 39 (.tmp 2) 3, 0, some (some 144, false)⟩ (.take ⟨some 146, .load 3 (.tmp 145), 3, some (some 144, false)⟩ (.take ⟨some 147, .move (.tmp 6), 22, some (some 144, false)⟩ (.take ⟨some 148, .indexAddr 22 (.tmp 147) (.const (.int .i64 1)), 0, some (some 144, false)⟩ (.take ⟨some 149, .load 3 (.tmp 148), 3, some (some 144, false)⟩ (.take ⟨some 150, .binOp .gtr 3 (.tmp 146) (.tmp 149) 3, 4, some (some 144, false)⟩ (.take ⟨some 151, .pick (.tmp 144) (.const (.bool true)) (.tmp 150), 4, none⟩ .done))))))))))))
    (.cond (.tmp 151) (.ops [⟨some 7, .assign (.const (.int .i64 0)), 3, none⟩]) .skip))) .skip))))))))))))))
    (.seq (.ops [⟨some 152, .load 39 (.tmp 2), 39, none⟩, ⟨some 153, .move (.tmp 7), 3, none⟩, ⟨none, .store 39 (.tmp 4) (.tmp 152), 0, none⟩, ⟨some 5, .assign (.tmp 153), 3, none⟩])
    .ret)))))
def pl46 : Nat → Plan := fun id => if id = 8 then (.take 0 (.take 1 (.take 2 (.take 3 (.take 4 (.alt 5 (.take 6 .done) .none)))))) else if id = 10 then (.take 0 (.take 1 (.take 2 (.take 3 (.take 4 (.take 5 (.take 7 (.take 8 (.take 9 (.alt 6 (.take 10 (.alt 11 (.take 12 (.alt 13 (.take 14 .done) .none)) .none)) .none)))))))))) else if id = 17 then (.take 0 (.take 1 (.take 2 (.take 3 (.take 4 (.take 5 (.take 6 (.take 7 (.alt 8 (.take 9 (.take 10 (.take 11 .done))) .none))))))))) else if id = 23 then (.take 0 (.take 1 (.take 2 (.take 3 (.take 4 (.alt 5 (.take 6 .done) .none)))))) else if id = 30 then (.take 0 (.take 1 (.take 2 (.take 3 (.take 4 (.take 5 (.take 6 (.take 7 (.take 8 (.take 9 (.take 10 .done))))))))))) else .done
theorem st46 : Go.Proofs.Tryz.f46.body.map (strip pl46) = some m46 := by kernel_rfl
theorem ok46 : okB pl46 Go.Proofs.Tryz.f46 2 = true := by kernel_rfl
theorem en46 {v0 v1 w} {Q : Value → World → Prop} (h : mwpB Go.Proofs.Tryz.prog m46 (argEnv [v0, v1]) [] w (fun e ds w => ds = [] ∧ resW Go.Proofs.Tryz.prog [.cell 4 39, .tmp 5] e w fun v => Q v w) (fun _ _ _ _ => False) (fun e ds w => ds = [] ∧ resW Go.Proofs.Tryz.prog [.cell 4 39, .tmp 5] e w fun v => Q v w) (fun _ _ _ _ => False) ⟨⟩) : Rets Go.Proofs.Tryz.prog 46 #[v0, v1] w Q :=
  rets_of_mwp follows_mo Go.Proofs.Tryz.func46 pl46 st46 ok46 (by kernel_rfl) h
/-- continuo/continuoref31.kept -/
def m47 : MC := (.seq (.ops [⟨some 3, .box 24 (.tmp 0), 0, none⟩, ⟨some 6, .assign (.const (.int .i64 0)), 3, none⟩])
    (.seq (.seq (.ops [⟨some 7, .fieldAddr 24 (.tmp 3) 0, 0, none⟩, ⟨some 8, .load 3 (.tmp 7), 3, none⟩, ⟨some 9, .binOp .eql 3 (.tmp 8) (.const (.int .i64 3)) 3, 4, none⟩])
    (.cond (.tmp 9) (.seq (.ops [⟨some 10, .move (.tmp 2), 3, none⟩, ⟨some 6, .assign (.tmp 10), 3, none⟩])
    .ret) .skip))
    (.seq (.ops [⟨some 11, .move (.tmp 1), 3, none⟩, ⟨some 6, .assign (.tmp 11), 3, none⟩])
    .ret)))
def pl47 : Nat → Plan := fun _ => .done
theorem st47 : Go.Proofs.Tryz.f47.body.map (strip pl47) = some m47 := by kernel_rfl
theorem ok47 : okB pl47 Go.Proofs.Tryz.f47 3 = true := by kernel_rfl
theorem en47 {v0 v1 v2 w} {Q : Value → World → Prop} (h : mwpB Go.Proofs.Tryz.prog m47 (argEnv [v0, v1, v2]) [] w (fun e ds w => ds = [] ∧ resW Go.Proofs.Tryz.prog [.tmp 6] e w fun v => Q v w) (fun _ _ _ _ => False) (fun e ds w => ds = [] ∧ resW Go.Proofs.Tryz.prog [.tmp 6] e w fun v => Q v w) (fun _ _ _ _ => False) ⟨⟩) : Rets Go.Proofs.Tryz.prog 47 #[v0, v1, v2] w Q :=
  rets_of_mwp follows_mo Go.Proofs.Tryz.func47 pl47 st47 ok47 (by kernel_rfl) h
/-- continuo/effect.begun -/
def m48 : MC := (.seq (.ops [⟨some 1, .box 24 (.tmp 0), 0, none⟩, ⟨some 2, .assign (.const .nilIface), 78, none⟩])
    (.seq (.ops [⟨some 5, .makeFunc (.func 86) #[] #[.tmp 1], 145, none⟩, ⟨some 3, .alloc 145, 0, none⟩, ⟨none, .store 145 (.tmp 3) (.tmp 5), 0, none⟩])
    (.seq (.ops [⟨some 6, .makeFunc (.func 87) #[] #[.tmp 1], 149, none⟩, ⟨some 7, .makeFunc (.func 88) #[] #[.tmp 1], 149, none⟩, ⟨some 8, .makeFunc (.func 90) #[] #[.tmp 1], 149, none⟩, ⟨some 9, .makeFunc (.func 91) #[] #[.tmp 1], 149, none⟩, ⟨some 10, .makeFunc (.func 93) #[] #[.tmp 3], 149, none⟩, ⟨some 11, .makeFunc (.func 94) #[] #[.tmp 1], 149, none⟩, ⟨some 12, .makeFunc (.func 95) #[] #[.tmp 3, .tmp 1], 149, none⟩, ⟨some 13, .build 164 #[(1, .tmp 6), (2, .tmp 7), (3, .tmp 8), (4, .tmp 9), (5, .tmp 10), (6, .tmp 11), (7, .tmp 12)], 164, none⟩, ⟨some 4, .alloc 164, 0, none⟩, ⟨none, .store 164 (.tmp 4) (.tmp 13), 0, none⟩])
    (.seq (.ops [⟨some 14, .fieldAddr 24 (.tmp 1) 0, 0, none⟩, ⟨some 15, .load 3 (.tmp 14), 3, none⟩, ⟨some 16, .indexAddr 164 (.tmp 4) (.tmp 15), 0, none⟩, ⟨some 17, .load 149 (.tmp 16), 149, none⟩, ⟨some 18, .call { callee := .value (.tmp 17), args := #[], argTypes := #[] }, 78, none⟩, ⟨some 2, .assign (.tmp 18), 78, none⟩])
    .ret))))
def pl48 : Nat → Plan := fun _ => .done
theorem st48 : Go.Proofs.Tryz.f48.body.map (strip pl48) = some m48 := by kernel_rfl
theorem ok48 : okB pl48 Go.Proofs.Tryz.f48 1 = true := by kernel_rfl
theorem en48 {v0 w} {Q : Value → World → Prop} (h : mwpB Go.Proofs.Tryz.prog m48 (argEnv [v0]) [] w (fun e ds w => ds = [] ∧ resW Go.Proofs.Tryz.prog [.tmp 2] e w fun v => Q v w) (fun _ _ _ _ => False) (fun e ds w => ds = [] ∧ resW Go.Proofs.Tryz.prog [.tmp 2] e w fun v => Q v w) (fun _ _ _ _ => False) ⟨⟩) : Rets Go.Proofs.Tryz.prog 48 #[v0] w Q :=
  rets_of_mwp follows_mo Go.Proofs.Tryz.func48 pl48 st48 ok48 (by kernel_rfl) h
/-- continuo/effect.within -/
def m53 : MC := (.seq (.ops [⟨some 6, .assign (.const (.bool false)), 4, none⟩])
    (.seq (.ops [⟨some 7, .move (.tmp 0), 3, none⟩, ⟨some 8, .move (.tmp 1), 3, none⟩, ⟨some 9, .binOp .geq 3 (.tmp 7) (.tmp 8) 3, 4, none⟩, ⟨some 10, .move (.tmp 9), 4, none⟩, ⟨some 11, .move (.tmp 0), 3, some (some 10, true)⟩, ⟨some 12, .move (.tmp 2), 3, some (some 10, true)⟩, ⟨some 13, .binOp .leq 3 (.tmp 11) (.tmp 12) 3, 4, some (some 10, true)⟩, ⟨some 14, .pick (.tmp 10) (.tmp 13) (.const (.bool false)), 4, none⟩, ⟨some 6, .assign (.tmp 14), 4, none⟩])
    .ret))
def pl53 : Nat → Plan := fun _ => .done
theorem st53 : Go.Proofs.Tryz.f53.body.map (strip pl53) = some m53 := by kernel_rfl
theorem ok53 : okB pl53 Go.Proofs.Tryz.f53 3 = true := by kernel_rfl
theorem en53 {v0 v1 v2 w} {Q : Value → World → Prop} (h : mwpB Go.Proofs.Tryz.prog m53 (argEnv [v0, v1, v2]) [] w (fun e ds w => ds = [] ∧ resW Go.Proofs.Tryz.prog [.tmp 6] e w fun v => Q v w) (fun _ _ _ _ => False) (fun e ds w => ds = [] ∧ resW Go.Proofs.Tryz.prog [.tmp 6] e w fun v => Q v w) (fun _ _ _ _ => False) ⟨⟩) : Rets Go.Proofs.Tryz.prog 53 #[v0, v1, v2] w Q :=
  rets_of_mwp follows_mo Go.Proofs.Tryz.func53 pl53 st53 ok53 (by kernel_rfl) h
/-- (*continuo/effect.history).kept -/
def m57 : MC := (.seq (.ops [⟨some 4, .assign (.const (.int .i64 0)), 3, none⟩])
    (.seq (.seq (.ops [⟨some 6, .move (.tmp 0), 169, none⟩, ⟨some 7, .nilCheck (.tmp 6), 0, none⟩, ⟨some 8, .fieldAddr 103 (.tmp 7) 0, 0, none⟩, ⟨some 9, .load 22 (.tmp 8), 22, none⟩, ⟨some 10, .call { callee := .builtin .len, args := #[.tmp 9], argTypes := #[22] }, 3, none⟩, ⟨some 11, .binOp .eql 3 (.tmp 10) (.const (.int .i64 0)) 3, 4, none⟩])
    (.cond (.tmp 11) (.seq (.ops [⟨some 12, .move (.tmp 1), 3, none⟩, ⟨some 4, .assign (.tmp 12), 3, none⟩])
    .ret) .skip))
    (.seq (.ops [⟨some 13, .move (.tmp 0), 169, none⟩, ⟨some 14, .move (.tmp 0), 169, none⟩, ⟨some 15, .nilCheck (.tmp 14), 0, none⟩, ⟨some 16, .fieldAddr 103 (.tmp 15) 0, 0, none⟩, ⟨some 17, .load 22 (.tmp 16), 22, none⟩, ⟨some 18, .call { callee := .builtin .len, args := #[.tmp 17], argTypes := #[22] }, 3, none⟩, ⟨some 19, .call { callee := .value (.func 100), args := #[.tmp 13, .tmp 18], argTypes := #[169, 3] }, 3, none⟩, ⟨some 5, .assign (.tmp 19), 3, none⟩])
    (.seq (.ops [⟨some 20, .move (.tmp 0), 169, none⟩, ⟨some 21, .move (.tmp 1), 3, none⟩, ⟨some 22, .call { callee := .value (.func 101), args := #[.tmp 20, .tmp 21], argTypes := #[169, 3] }, 0, none⟩])
    (.seq (.ops [⟨some 23, .move (.tmp 5), 3, none⟩, ⟨some 4, .assign (.tmp 23), 3, none⟩])
    .ret)))))
def pl57 : Nat → Plan := fun _ => .done
theorem st57 : Go.Proofs.Tryz.f57.body.map (strip pl57) = some m57 := by kernel_rfl
theorem ok57 : okB pl57 Go.Proofs.Tryz.f57 2 = true := by kernel_rfl
theorem en57 {v0 v1 w} {Q : Value → World → Prop} (h : mwpB Go.Proofs.Tryz.prog m57 (argEnv [v0, v1]) [] w (fun e ds w => ds = [] ∧ resW Go.Proofs.Tryz.prog [.tmp 4] e w fun v => Q v w) (fun _ _ _ _ => False) (fun e ds w => ds = [] ∧ resW Go.Proofs.Tryz.prog [.tmp 4] e w fun v => Q v w) (fun _ _ _ _ => False) ⟨⟩) : Rets Go.Proofs.Tryz.prog 57 #[v0, v1] w Q :=
  rets_of_mwp follows_mo Go.Proofs.Tryz.func57 pl57 st57 ok57 (by kernel_rfl) h
/-- continuo/effect.bound -/
def m58 : MC := (.seq (.ops [⟨some 2, .assign (.const (.int .i64 0)), 3, none⟩])
    (.seq (.ops [⟨some 3, .move (.tmp 0), 3, none⟩, ⟨some 4, .call { callee := .builtin .min, args := #[.tmp 3, .const (.int .i64 8388607)], argTypes := #[3, 3] }, 3, none⟩, ⟨some 5, .call { callee := .builtin .max, args := #[.const (.int .i64 (-8388607)), .tmp 4], argTypes := #[3, 3] }, 3, none⟩, ⟨some 2, .assign (.tmp 5), 3, none⟩])
    .ret))
def pl58 : Nat → Plan := fun _ => .done
theorem st58 : Go.Proofs.Tryz.f58.body.map (strip pl58) = some m58 := by kernel_rfl
theorem ok58 : okB pl58 Go.Proofs.Tryz.f58 1 = true := by kernel_rfl
theorem en58 {v0 w} {Q : Value → World → Prop} (h : mwpB Go.Proofs.Tryz.prog m58 (argEnv [v0]) [] w (fun e ds w => ds = [] ∧ resW Go.Proofs.Tryz.prog [.tmp 2] e w fun v => Q v w) (fun _ _ _ _ => False) (fun e ds w => ds = [] ∧ resW Go.Proofs.Tryz.prog [.tmp 2] e w fun v => Q v w) (fun _ _ _ _ => False) ⟨⟩) : Rets Go.Proofs.Tryz.prog 58 #[v0] w Q :=
  rets_of_mwp follows_mo Go.Proofs.Tryz.func58 pl58 st58 ok58 (by kernel_rfl) h
/-- continuo/continuoref31.Bounded -/
def m59 : MC := (.seq (.ops [⟨some 2, .assign (.const (.int .i64 0)), 3, none⟩])
    (.seq (.seq (.ops [⟨some 3, .move (.tmp 0), 3, none⟩, ⟨some 4, .binOp .gtr 3 (.tmp 3) (.const (.int .i64 8388607)) 3, 4, none⟩])
    (.cond (.tmp 4) (.seq (.ops [⟨some 2, .assign (.const (.int .i64 8388607)), 3, none⟩])
    .ret) .skip))
    (.seq (.seq (.ops [⟨some 5, .move (.tmp 0), 3, none⟩, ⟨some 6, .binOp .lss 3 (.tmp 5) (.const (.int .i64 (-8388607))) 3, 4, none⟩])
    (.cond (.tmp 6) (.seq (.ops [⟨some 2, .assign (.const (.int .i64 (-8388607))), 3, none⟩])
    .ret) .skip))
    (.seq (.ops [⟨some 7, .move (.tmp 0), 3, none⟩, ⟨some 2, .assign (.tmp 7), 3, none⟩])
    .ret))))
def pl59 : Nat → Plan := fun _ => .done
theorem st59 : Go.Proofs.Tryz.f59.body.map (strip pl59) = some m59 := by kernel_rfl
theorem ok59 : okB pl59 Go.Proofs.Tryz.f59 1 = true := by kernel_rfl
theorem en59 {v0 w} {Q : Value → World → Prop} (h : mwpB Go.Proofs.Tryz.prog m59 (argEnv [v0]) [] w (fun e ds w => ds = [] ∧ resW Go.Proofs.Tryz.prog [.tmp 2] e w fun v => Q v w) (fun _ _ _ _ => False) (fun e ds w => ds = [] ∧ resW Go.Proofs.Tryz.prog [.tmp 2] e w fun v => Q v w) (fun _ _ _ _ => False) ⟨⟩) : Rets Go.Proofs.Tryz.prog 59 #[v0] w Q :=
  rets_of_mwp follows_mo Go.Proofs.Tryz.func59 pl59 st59 ok59 (by kernel_rfl) h
/-- (*continuo/effect.scanner).same -/
def m61 : MC := (.seq (.ops [⟨some 7, .move (.tmp 0), 84, none⟩, ⟨some 8, .makeFunc (.func 102) #[.tmp 7] #[], 44, none⟩, ⟨some 4, .assign (.tmp 8), 44, none⟩])
    (.seq (.ops [⟨some 9, .move (.tmp 1), 22, none⟩, ⟨some 10, .call { callee := .builtin .len, args := #[.tmp 9], argTypes := #[22] }, 3, none⟩, ⟨some 11, .move (.const (.int .i64 0)), 3, none⟩])
    (.block 0 (.loop (.seq (.ops [⟨some 12, .binOp .lss 3 (.tmp 11) (.tmp 10) 3, 0, none⟩])
    (.seq (.cond (.tmp 12) .skip (.exit 0))
    (.seq (.block 1 (.seq (.ops [⟨some 13, .indexAddr 22 (.tmp 9) (.tmp 11), 0, none⟩, ⟨some 14, .load 3 (.tmp 13), 3, none⟩, ⟨some 6, .assign (.tmp 14), 3, none⟩])
    (.seq (.ops [⟨some 15, .move (.tmp 4), 44, none⟩, ⟨some 16, .call { callee := .value (.tmp 15), args := #[], argTypes := #[] }, 3, none⟩, ⟨some 17, .move (.tmp 6), 3, none⟩, ⟨some 18, .binOp .neq 3 (.tmp 16) (.tmp 17) 3, 4, none⟩])
    (.cond (.tmp 18) (.ops [⟨some 19, .build 140 #[], 140, none⟩, ⟨some 20, .makeInterface 140 (.tmp 19), 20, none⟩, ⟨none, .panic (.tmp 20), 0, none⟩]) .skip))))
    (.ops [⟨some 21, .binOp .add 3 (.tmp 11) (.const (.int .i64 1)) 3, 3, none⟩, ⟨some 11, .move (.tmp 21), 3, none⟩]))))))))
def pl61 : Nat → Plan := fun _ => .done
theorem st61 : Go.Proofs.Tryz.f61.body.map (strip pl61) = some m61 := by kernel_rfl
theorem ok61 : okB pl61 Go.Proofs.Tryz.f61 2 = true := by kernel_rfl
theorem ex61 {v0 v1 w} {Q : Value → World → Prop} {X : List PanicEntry → World → Prop} (h : mwpB Go.Proofs.Tryz.prog m61 (argEnv [v0, v1]) [] w (fun e ds w => ds = [] ∧ resW Go.Proofs.Tryz.prog [] e w fun v => Q v w) (fun _ _ _ _ => False) (fun e ds w => ds = [] ∧ resW Go.Proofs.Tryz.prog [] e w fun v => Q v w) (fun _ ch ds w => ds = [] ∧ X ch w) ⟨⟩) : Ends Go.Proofs.Tryz.prog 61 #[v0, v1] w Q X :=
  ends_of_mwp follows_mo Go.Proofs.Tryz.func61 pl61 st61 ok61 (by kernel_rfl) h
/-- (*continuo/effect.scanner).list -/
def m62 : MC := (.seq (.ops [⟨some 4, .assign (.const (.slice none 0 0)), 22, none⟩])
    (.seq (.ops [⟨some 6, .move (.tmp 0), 84, none⟩, ⟨some 7, .move (.tmp 1), 3, none⟩, ⟨some 8, .buildSlice 22 1 #[(0, .tmp 7)], 22, none⟩, ⟨some 9, .call { callee := .value (.func 61), args := #[.tmp 6, .tmp 8], argTypes := #[84, 22] }, 0, none⟩])
    (.seq (.ops [⟨some 5, .assign (.const (.slice none 0 0)), 22, none⟩])
    (.seq (.seq (.ops [⟨some 10, .move (.tmp 1), 3, none⟩, ⟨some 11, .move (.const (.int .i64 0)), 3, none⟩])
    (.block 0 (.loop (.seq (.ops [⟨some 12, .binOp .lss 3 (.tmp 11) (.tmp 10) 3, 4, none⟩])
    (.seq (.cond (.tmp 12) .skip (.exit 0))
    (.seq (.block 1 (.ops [⟨some 13, .move (.tmp 5), 22, none⟩, ⟨some 14, .move (.tmp 0), 84, none⟩, ⟨some 15, .call { callee := .value (.func 103), args := #[.tmp 14], argTypes := #[84] }, 3, none⟩, ⟨some 16, .buildSlice 22 1 #[(0, .tmp 15)], 22, none⟩, ⟨some 17, .call { callee := .builtin .append, args := #[.tmp 13, .tmp 16], argTypes := #[22, 22] }, 22, none⟩, ⟨some 5, .assign (.tmp 17), 22, none⟩]))
    (.ops [⟨some 18, .binOp .add 3 (.tmp 11) (.const (.int .i64 1)) 3, 3, none⟩, ⟨some 11, .move (.tmp 18), 3, none⟩])))))))
    (.seq (.ops [⟨some 19, .move (.tmp 5), 22, none⟩, ⟨some 4, .assign (.tmp 19), 22, none⟩])
    .ret)))))
def pl62 : Nat → Plan := fun _ => .done
theorem st62 : Go.Proofs.Tryz.f62.body.map (strip pl62) = some m62 := by kernel_rfl
theorem ok62 : okB pl62 Go.Proofs.Tryz.f62 2 = true := by kernel_rfl
theorem ex62 {v0 v1 w} {Q : Value → World → Prop} {X : List PanicEntry → World → Prop} (h : mwpB Go.Proofs.Tryz.prog m62 (argEnv [v0, v1]) [] w (fun e ds w => ds = [] ∧ resW Go.Proofs.Tryz.prog [.tmp 4] e w fun v => Q v w) (fun _ _ _ _ => False) (fun e ds w => ds = [] ∧ resW Go.Proofs.Tryz.prog [.tmp 4] e w fun v => Q v w) (fun _ ch ds w => ds = [] ∧ X ch w) ⟨⟩) : Ends Go.Proofs.Tryz.prog 62 #[v0, v1] w Q X :=
  ends_of_mwp follows_mo Go.Proofs.Tryz.func62 pl62 st62 ok62 (by kernel_rfl) h
/-- (*continuo/effect.history).fill -/
def m63 : MC := (.seq (.seq (.ops [⟨some 5, .move (.tmp 0), 169, none⟩, ⟨some 6, .nilCheck (.tmp 5), 0, none⟩, ⟨some 7, .fieldAddr 103 (.tmp 6) 0, 0, none⟩, ⟨some 8, .load 22 (.tmp 7), 22, none⟩, ⟨some 9, .call { callee := .builtin .len, args := #[.tmp 8], argTypes := #[22] }, 3, none⟩, ⟨some 10, .move (.const (.int .i64 0)), 3, none⟩])
    (.block 0 (.loop (.seq (.ops [⟨some 11, .binOp .lss 3 (.tmp 10) (.tmp 9) 3, 0, none⟩])
    (.seq (.cond (.tmp 11) .skip (.exit 0))
    (.seq (.block 1 (.seq (.ops [⟨some 12, .move (.tmp 10), 3, none⟩, ⟨some 4, .assign (.tmp 12), 3, none⟩])
    (.ops [⟨some 13, .move (.tmp 0), 169, none⟩, ⟨some 14, .nilCheck (.tmp 13), 0, none⟩, ⟨some 15, .fieldAddr 103 (.tmp 14) 0, 0, none⟩, ⟨some 16, .load 22 (.tmp 15), 22, none⟩, ⟨some 17, .move (.tmp 4), 3, none⟩, ⟨some 18, .indexAddr 22 (.tmp 16) (.tmp 17), 0, none⟩, ⟨none, .store 3 (.tmp 18) (.const (.int .i64 0)), 0, none⟩])))
    (.ops [⟨some 19, .binOp .add 3 (.tmp 10) (.const (.int .i64 1)) 3, 3, none⟩, ⟨some 10, .move (.tmp 19), 3, none⟩])))))))
    (.seq (.ops [⟨some 20, .move (.tmp 0), 169, none⟩, ⟨some 21, .nilCheck (.tmp 20), 0, none⟩, ⟨some 22, .fieldAddr 103 (.tmp 21) 1, 0, none⟩, ⟨none, .store 3 (.tmp 22) (.const (.int .i64 0)), 0, none⟩])
    (.ops [⟨some 23, .move (.tmp 0), 169, none⟩, ⟨some 24, .nilCheck (.tmp 23), 0, none⟩, ⟨some 25, .fieldAddr 103 (.tmp 24) 0, 0, none⟩, ⟨some 26, .load 22 (.tmp 25), 22, none⟩, ⟨some 27, .move (.tmp 1), 22, none⟩, ⟨some 28, .call { callee := .builtin .copy, args := #[.tmp 26, .tmp 27], argTypes := #[22, 22] }, 3, none⟩])))
def pl63 : Nat → Plan := fun _ => .done
theorem st63 : Go.Proofs.Tryz.f63.body.map (strip pl63) = some m63 := by kernel_rfl
theorem ok63 : okB pl63 Go.Proofs.Tryz.f63 2 = true := by kernel_rfl
theorem en63 {v0 v1 w} {Q : Value → World → Prop} (h : mwpB Go.Proofs.Tryz.prog m63 (argEnv [v0, v1]) [] w (fun e ds w => ds = [] ∧ resW Go.Proofs.Tryz.prog [] e w fun v => Q v w) (fun _ _ _ _ => False) (fun e ds w => ds = [] ∧ resW Go.Proofs.Tryz.prog [] e w fun v => Q v w) (fun _ _ _ _ => False) ⟨⟩) : Rets Go.Proofs.Tryz.prog 63 #[v0, v1] w Q :=
  rets_of_mwp follows_mo Go.Proofs.Tryz.func63 pl63 st63 ok63 (by kernel_rfl) h
/-- continuo/effect.writer -/
def m64 : MC := (.seq (.ops [⟨some 0, .assign (.const .nilFunc), 121, none⟩, ⟨some 1, .assign (.const .nilFunc), 33, none⟩])
    (.seq (.ops [⟨some 2, .alloc 85, 0, none⟩])
    (.seq (.ops [⟨some 3, .makeFunc (.func 104) #[] #[.tmp 2], 121, none⟩, ⟨some 0, .assign (.tmp 3), 121, none⟩])
    (.seq (.ops [⟨some 4, .move (.tmp 0), 121, none⟩, ⟨some 5, .makeFunc (.func 106) #[] #[.tmp 2], 33, none⟩, ⟨some 0, .assign (.tmp 4), 121, none⟩, ⟨some 1, .assign (.tmp 5), 33, none⟩])
    .ret))))
def pl64 : Nat → Plan := fun _ => .done
theorem st64 : Go.Proofs.Tryz.f64.body.map (strip pl64) = some m64 := by kernel_rfl
theorem ok64 : okB pl64 Go.Proofs.Tryz.f64 0 = true := by kernel_rfl
theorem en64 {w} {Q : Value → World → Prop} (h : mwpB Go.Proofs.Tryz.prog m64 (argEnv []) [] w (fun e ds w => ds = [] ∧ resW Go.Proofs.Tryz.prog [.tmp 0, .tmp 1] e w fun v => Q v w) (fun _ _ _ _ => False) (fun e ds w => ds = [] ∧ resW Go.Proofs.Tryz.prog [.tmp 0, .tmp 1] e w fun v => Q v w) (fun _ _ _ _ => False) ⟨⟩) : Rets Go.Proofs.Tryz.prog 64 #[] w Q :=
  rets_of_mwp follows_mo Go.Proofs.Tryz.func64 pl64 st64 ok64 (by kernel_rfl) h
/-- (*continuo/effect.history).all -/
def m65 : MC := (.seq (.ops [⟨some 2, .assign (.const (.slice none 0 0)), 22, none⟩])
    (.seq (.ops [⟨some 3, .assign (.const (.slice none 0 0)), 22, none⟩])
    (.seq (.seq (.ops [⟨some 5, .move (.tmp 0), 169, none⟩, ⟨some 6, .nilCheck (.tmp 5), 0, none⟩, ⟨some 7, .fieldAddr 103 (.tmp 6) 0, 0, none⟩, ⟨some 8, .load 22 (.tmp 7), 22, none⟩, ⟨some 9, .call { callee := .builtin .len, args := #[.tmp 8], argTypes := #[22] }, 3, none⟩, ⟨some 10, .move (.const (.int .i64 0)), 3, none⟩])
    (.block 0 (.loop (.seq (.ops [⟨some 11, .binOp .lss 3 (.tmp 10) (.tmp 9) 3, 0, none⟩])
    (.seq (.cond (.tmp 11) .skip (.exit 0))
    (.seq (.block 1 (.seq (.ops [⟨some 12, .move (.tmp 10), 3, none⟩, ⟨some 4, .assign (.tmp 12), 3, none⟩])
    (.ops [⟨some 13, .move (.tmp 3), 22, none⟩, ⟨some 14, .move (.tmp 0), 169, none⟩, ⟨some 15, .move (.tmp 4), 3, none⟩, ⟨some 16, .binOp .add 3 (.tmp 15) (.const (.int .i64 1)) 3, 3, none⟩, ⟨some 17, .call { callee := .value (.func 100), args := #[.tmp 14, .tmp 16], argTypes := #[169, 3] }, 3, none⟩, ⟨some 18, .buildSlice 22 1 #[(0, .tmp 17)], 22, none⟩, ⟨some 19, .call { callee := .builtin .append, args := #[.tmp 13, .tmp 18], argTypes := #[22, 22] }, 22, none⟩, ⟨some 3, .assign (.tmp 19), 22, none⟩])))
    (.ops [⟨some 20, .binOp .add 3 (.tmp 10) (.const (.int .i64 1)) 3, 3, none⟩, ⟨some 10, .move (.tmp 20), 3, none⟩])))))))
    (.seq (.ops [⟨some 21, .move (.tmp 3), 22, none⟩, ⟨some 2, .assign (.tmp 21), 22, none⟩])
    .ret))))
def pl65 : Nat → Plan := fun _ => .done
theorem st65 : Go.Proofs.Tryz.f65.body.map (strip pl65) = some m65 := by kernel_rfl
theorem ok65 : okB pl65 Go.Proofs.Tryz.f65 1 = true := by kernel_rfl
theorem en65 {v0 w} {Q : Value → World → Prop} (h : mwpB Go.Proofs.Tryz.prog m65 (argEnv [v0]) [] w (fun e ds w => ds = [] ∧ resW Go.Proofs.Tryz.prog [.tmp 2] e w fun v => Q v w) (fun _ _ _ _ => False) (fun e ds w => ds = [] ∧ resW Go.Proofs.Tryz.prog [.tmp 2] e w fun v => Q v w) (fun _ _ _ _ => False) ⟨⟩) : Rets Go.Proofs.Tryz.prog 65 #[v0] w Q :=
  rets_of_mwp follows_mo Go.Proofs.Tryz.func65 pl65 st65 ok65 (by kernel_rfl) h
/-- continuo/effect.unitState -/
def m66 : MC := (.seq (.ops [⟨some 2, .assign (.const (.slice none 0 0)), 22, none⟩])
    (.seq (.ops [⟨some 5, .move (.tmp 0), 27, none⟩, ⟨some 6, .nilCheck (.tmp 5), 0, none⟩, ⟨some 7, .fieldAddr 80 (.tmp 6) 0, 0, none⟩, ⟨some 8, .load 78 (.tmp 7), 78, none⟩, ⟨some 9, .call { callee := .invoke (.tmp 8) "continuo/effect.state", args := #[], argTypes := #[] }, 22, none⟩, ⟨some 3, .assign (.tmp 9), 22, none⟩])
    (.seq (.draw (.take ⟨some 10, .move (.tmp 0), 27, none⟩ (.take ⟨some 11, .nilCheck (.tmp 10), 0, none⟩ (.take ⟨some 12, .fieldAddr 80 (.tmp 11) 1, 0, none⟩ (.take ⟨some 13, .fieldAddr 24 (.tmp 12) 0, 0, none⟩ (.take ⟨some 14, .load 3 (.tmp 13), 3, none⟩ (.take ⟨some 15, .move (.tmp 0), 27, none⟩ (.take ⟨some 16, .nilCheck (.tmp 15), 0, none⟩ (.take ⟨some 17, .fieldAddr 80 (.tmp 16) 1, 0, none⟩ (.take ⟨some 18, .fieldAddr 24 (.tmp 17) 1, 0, none⟩ (.take ⟨some 19, .load 22 (.tmp 18), 22, none⟩ (.take ⟨some 20, .call { callee := .builtin .len, args := #[.tmp 19], argTypes := #[22] }, 3, none⟩ (.take ⟨some 21, .move (.tmp 0), 27, none⟩ (.take ⟨some 22, .nilCheck (.tmp 21), 0, none⟩ (.take ⟨some 23, .fieldAddr 80 (.tmp 22) 1, 0, none⟩ (.take ⟨some 24, .fieldAddr 24 (.tmp 23) 2, 0, none⟩ (.take ⟨some 25, .load 22 (.tmp 24), 22, none⟩ (.take ⟨some 26, .call { callee := .builtin .len, args := #[.tmp 25], argTypes := #[22] }, 3, none⟩ (.alt ⟨some 27, .buildSlice 22 3 #[(0, .tmp 14), (1, .tmp 20), (2, .tmp 26)], 22, none⟩ (.take ⟨some 4, .assign (.tmp 27), 22, none⟩ .done) .none)))))))))))))))))))
    (.seq (.ops [⟨some 28, .move (.tmp 4), 22, none⟩, ⟨some 29, .move (.tmp 0), 27, none⟩, ⟨some 30, .nilCheck (.tmp 29), 0, none⟩, ⟨some 31, .fieldAddr 80 (.tmp 30) 1, 0, none⟩, ⟨some 32, .fieldAddr 24 (.tmp 31) 1, 0, none⟩, ⟨some 33, .load 22 (.tmp 32), 22, none⟩, ⟨some 34, .call { callee := .builtin .append, args := #[.tmp 28, .tmp 33], argTypes := #[22, 22] }, 22, none⟩, ⟨some 4, .assign (.tmp 34), 22, none⟩])
    (.seq (.ops [⟨some 35, .move (.tmp 4), 22, none⟩, ⟨some 36, .move (.tmp 0), 27, none⟩, ⟨some 37, .nilCheck (.tmp 36), 0, none⟩, ⟨some 38, .fieldAddr 80 (.tmp 37) 1, 0, none⟩, ⟨some 39, .fieldAddr 24 (.tmp 38) 2, 0, none⟩, ⟨some 40, .load 22 (.tmp 39), 22, none⟩, ⟨some 41, .call { callee := .builtin .append, args := #[.tmp 35, .tmp 40], argTypes := #[22, 22] }, 22, none⟩, ⟨some 4, .assign (.tmp 41), 22, none⟩])
    (.seq (.ops [⟨some 42, .move (.tmp 4), 22, none⟩, ⟨some 43, .move (.tmp 3), 22, none⟩, ⟨some 44, .call { callee := .builtin .len, args := #[.tmp 43], argTypes := #[22] }, 3, none⟩, ⟨some 45, .buildSlice 22 1 #[(0, .tmp 44)], 22, none⟩, ⟨some 46, .call { callee := .builtin .append, args := #[.tmp 42, .tmp 45], argTypes := #[22, 22] }, 22, none⟩, ⟨some 4, .assign (.tmp 46), 22, none⟩])
    (.seq (.ops [⟨some 47, .move (.tmp 4), 22, none⟩, ⟨some 48, .move (.tmp 3), 22, none⟩, ⟨some 49, .call { callee := .builtin .append, args := #[.tmp 47, .tmp 48], argTypes := #[22, 22] }, 22, none⟩, ⟨some 2, .assign (.tmp 49), 22, none⟩])
    .ret)))))))
def pl66 : Nat → Plan := fun id => if id = 2 then (.take 0 (.take 1 (.take 2 (.take 3 (.take 4 (.take 5 (.take 6 (.take 7 (.take 8 (.take 9 (.take 10 (.take 11 (.take 12 (.take 13 (.take 14 (.take 15 (.take 16 (.alt 17 (.take 18 .done) .none)))))))))))))))))) else .done
theorem st66 : Go.Proofs.Tryz.f66.body.map (strip pl66) = some m66 := by kernel_rfl
theorem ok66 : okB pl66 Go.Proofs.Tryz.f66 1 = true := by kernel_rfl
theorem en66 {v0 w} {Q : Value → World → Prop} (h : mwpB Go.Proofs.Tryz.prog m66 (argEnv [v0]) [] w (fun e ds w => ds = [] ∧ resW Go.Proofs.Tryz.prog [.tmp 2] e w fun v => Q v w) (fun _ _ _ _ => False) (fun e ds w => ds = [] ∧ resW Go.Proofs.Tryz.prog [.tmp 2] e w fun v => Q v w) (fun _ _ _ _ => False) ⟨⟩) : Rets Go.Proofs.Tryz.prog 66 #[v0] w Q :=
  rets_of_mwp follows_mo Go.Proofs.Tryz.func66 pl66 st66 ok66 (by kernel_rfl) h
/-- continuo/effect.rounded -/
def m70 : MC := (.seq (.ops [⟨some 2, .assign (.const (.int .i64 0)), 3, none⟩])
    (.seq (.seq (.ops [⟨some 3, .move (.tmp 0), 3, none⟩, ⟨some 4, .binOp .lss 3 (.tmp 3) (.const (.int .i64 0)) 3, 4, none⟩])
    (.cond (.tmp 4) (.seq (.ops [⟨some 5, .move (.tmp 0), 3, none⟩, ⟨some 6, .unOp .neg 3 (.tmp 5), 3, none⟩, ⟨some 7, .binOp .add 3 (.tmp 6) (.const (.int .i64 32768)) 3, 3, none⟩, ⟨some 8, .binOp .quo 3 (.tmp 7) (.const (.int .i64 65536)) 3, 3, none⟩, ⟨some 9, .unOp .neg 3 (.tmp 8), 3, none⟩, ⟨some 2, .assign (.tmp 9), 3, none⟩])
    .ret) .skip))
    (.seq (.ops [⟨some 10, .move (.tmp 0), 3, none⟩, ⟨some 11, .binOp .add 3 (.tmp 10) (.const (.int .i64 32768)) 3, 3, none⟩, ⟨some 12, .binOp .quo 3 (.tmp 11) (.const (.int .i64 65536)) 3, 3, none⟩, ⟨some 2, .assign (.tmp 12), 3, none⟩])
    .ret)))
def pl70 : Nat → Plan := fun _ => .done
theorem st70 : Go.Proofs.Tryz.f70.body.map (strip pl70) = some m70 := by kernel_rfl
theorem ok70 : okB pl70 Go.Proofs.Tryz.f70 1 = true := by kernel_rfl
theorem en70 {v0 w} {Q : Value → World → Prop} (h : mwpB Go.Proofs.Tryz.prog m70 (argEnv [v0]) [] w (fun e ds w => ds = [] ∧ resW Go.Proofs.Tryz.prog [.tmp 2] e w fun v => Q v w) (fun _ _ _ _ => False) (fun e ds w => ds = [] ∧ resW Go.Proofs.Tryz.prog [.tmp 2] e w fun v => Q v w) (fun _ _ _ _ => False) ⟨⟩) : Rets Go.Proofs.Tryz.prog 70 #[v0] w Q :=
  rets_of_mwp follows_mo Go.Proofs.Tryz.func70 pl70 st70 ok70 (by kernel_rfl) h
/-- continuo/effect.taps -/
def m71 : MC := (.seq (.ops [⟨some 2, .assign (.const (.bool false)), 4, none⟩])
    (.seq (.ops [⟨some 3, .move (.tmp 0), 22, none⟩, ⟨some 4, .call { callee := .builtin .len, args := #[.tmp 3], argTypes := #[22] }, 3, none⟩, ⟨some 5, .call { callee := .value (.func 53), args := #[.tmp 4, .const (.int .i64 1), .const (.int .i64 512)], argTypes := #[3, 3, 3] }, 4, none⟩, ⟨some 6, .move (.tmp 5), 4, none⟩, ⟨some 7, .move (.tmp 0), 22, some (some 6, true)⟩, ⟨some 8, .call { callee := .value (.func 76), args := #[.tmp 7, .func 111], argTypes := #[22, 138] }, 4, some (some 6, true)⟩, ⟨some 9, .unOp .not 4 (.tmp 8), 4, some (some 6, true)⟩, ⟨some 10, .pick (.tmp 6) (.tmp 9) (.const (.bool false)), 4, none⟩, ⟨some 2, .assign (.tmp 10), 4, none⟩])
    .ret))
def pl71 : Nat → Plan := fun _ => .done
theorem st71 : Go.Proofs.Tryz.f71.body.map (strip pl71) = some m71 := by kernel_rfl
theorem ok71 : okB pl71 Go.Proofs.Tryz.f71 1 = true := by kernel_rfl
theorem en71 {v0 w} {Q : Value → World → Prop} (h : mwpB Go.Proofs.Tryz.prog m71 (argEnv [v0]) [] w (fun e ds w => ds = [] ∧ resW Go.Proofs.Tryz.prog [.tmp 2] e w fun v => Q v w) (fun _ _ _ _ => False) (fun e ds w => ds = [] ∧ resW Go.Proofs.Tryz.prog [.tmp 2] e w fun v => Q v w) (fun _ _ _ _ => False) ⟨⟩) : Rets Go.Proofs.Tryz.prog 71 #[v0] w Q :=
  rets_of_mwp follows_mo Go.Proofs.Tryz.func71 pl71 st71 ok71 (by kernel_rfl) h
/-- slices.EqualFunc[[]int,[][2]int,int,[2]int] -/
def m72 : MC := (.seq (.ops [⟨some 6, .assign (.const (.bool false)), 4, none⟩])
    (.seq (.seq (.ops [⟨some 10, .move (.tmp 0), 22, none⟩, ⟨some 11, .call { callee := .builtin .len, args := #[.tmp 10], argTypes := #[22] }, 3, none⟩, ⟨some 12, .move (.tmp 1), 132, none⟩, ⟨some 13, .call { callee := .builtin .len, args := #[.tmp 12], argTypes := #[132] }, 3, none⟩, ⟨some 14, .binOp .neq 3 (.tmp 11) (.tmp 13) 3, 4, none⟩])
    (.cond (.tmp 14) (.seq (.ops [⟨some 6, .assign (.const (.bool false)), 4, none⟩])
    .ret) .skip))
    (.seq (.seq (.ops [⟨some 15, .move (.tmp 0), 22, none⟩, ⟨some 16, .call { callee := .builtin .len, args := #[.tmp 15], argTypes := #[22] }, 3, none⟩, ⟨some 17, .move (.const (.int .i64 0)), 3, none⟩])
    (.block 0 (.loop (.seq (.ops [⟨some 18, .binOp .lss 3 (.tmp 17) (.tmp 16) 3, 0, none⟩])
    (.seq (.cond (.tmp 18) .skip (.exit 0))
    (.seq (.block 1 (.seq (.ops [⟨some 19, .move (.tmp 17), 3, none⟩, ⟨some 20, .indexAddr 22 (.tmp 15) (.tmp 17), 0, none⟩, ⟨some 21, .load 3 (.tmp 20), 3, none⟩, ⟨some 7, .assign (.tmp 19), 3, none⟩, ⟨some 8, .assign (.tmp 21), 3, none⟩])
    (.seq (.ops [⟨some 22, .move (.tmp 1), 132, none⟩, ⟨some 23, .move (.tmp 7), 3, none⟩, ⟨some 24, .indexAddr 132 (.tmp 22) (.tmp 23), 0, none⟩, ⟨some 25, .load 133 (.tmp 24), 133, none⟩, ⟨some 9, .alloc 133, 0, none⟩, ⟨none, .store 133 (.tmp 9) (.tmp 25), 0, none⟩])
    (.seq (.ops [⟨some 26, .move (.tmp 2), 135, none⟩, ⟨some 27, .move (.tmp 8), 3, none⟩, ⟨some 28, .load 133 (.tmp 9), 133, none⟩, ⟨some 29, .call { callee := .value (.tmp 26), args := #[.tmp 27, .tmp 28], argTypes := #[3, 133] }, 4, none⟩, ⟨some 30, .unOp .not 4 (.tmp 29), 4, none⟩])
    (.cond (.tmp 30) (.seq (.ops [⟨some 6, .assign (.const (.bool false)), 4, none⟩])
    .ret) .skip)))))
    (.ops [⟨some 31, .binOp .add 3 (.tmp 17) (.const (.int .i64 1)) 3, 3, none⟩, ⟨some 17, .move (.tmp 31), 3, none⟩])))))))
    (.seq (.ops [⟨some 6, .assign (.const (.bool true)), 4, none⟩])
    .ret))))
def pl72 : Nat → Plan := fun _ => .done
theorem st72 : Go.Proofs.Tryz.f72.body.map (strip pl72) = some m72 := by kernel_rfl
theorem ok72 : okB pl72 Go.Proofs.Tryz.f72 3 = true := by kernel_rfl
theorem en72 {v0 v1 v2 w} {Q : Value → World → Prop} (h : mwpB Go.Proofs.Tryz.prog m72 (argEnv [v0, v1, v2]) [] w (fun e ds w => ds = [] ∧ resW Go.Proofs.Tryz.prog [.tmp 6] e w fun v => Q v w) (fun _ _ _ _ => False) (fun e ds w => ds = [] ∧ resW Go.Proofs.Tryz.prog [.tmp 6] e w fun v => Q v w) (fun _ _ _ _ => False) ⟨⟩) : Rets Go.Proofs.Tryz.prog 72 #[v0, v1, v2] w Q :=
  rets_of_mwp follows_mo Go.Proofs.Tryz.func72 pl72 st72 ok72 (by kernel_rfl) h
/-- continuo/effect.ranges -/
def m73 : MC := (.seq (.ops [⟨some 2, .assign (.const (.slice none 0 0)), 132, none⟩])
    (.seq (.ops [⟨some 4, .build 133 #[(0, .const (.int .i64 0)), (1, .const (.int .i64 8388607))], 133, none⟩, ⟨some 5, .build 133 #[(0, .const (.int .i64 65536)), (1, .const (.int .i64 6553600))], 133, none⟩, ⟨some 6, .build 133 #[(0, .const (.int .i64 1)), (1, .const (.int .i64 65536))], 133, none⟩, ⟨some 7, .build 133 #[(0, .const (.int .i64 1)), (1, .const (.int .i64 65536))], 133, none⟩, ⟨some 8, .buildSlice 132 4 #[(0, .tmp 4), (1, .tmp 5), (2, .tmp 6), (3, .tmp 7)], 132, none⟩, ⟨some 3, .assign (.tmp 8), 132, none⟩])
    (.seq (.ops [⟨some 9, .build 133 #[(0, .const (.int .i64 0)), (1, .const (.int .i64 655360))], 133, none⟩, ⟨some 10, .buildSlice 132 1 #[(0, .tmp 9)], 132, none⟩, ⟨some 11, .build 133 #[(0, .const (.int .i64 0)), (1, .const (.int .i64 4096))], 133, none⟩, ⟨some 12, .buildSlice 132 1 #[(0, .tmp 11)], 132, none⟩, ⟨some 13, .build 133 #[(0, .const (.int .i64 1)), (1, .const (.int .i64 4096))], 133, none⟩, ⟨some 14, .build 133 #[(0, .const (.int .i64 (-65536))), (1, .const (.int .i64 65536))], 133, none⟩, ⟨some 15, .buildSlice 132 2 #[(0, .tmp 13), (1, .tmp 14)], 132, none⟩, ⟨some 16, .move (.tmp 3), 132, none⟩, ⟨some 17, .build 133 #[(0, .const (.int .i64 0)), (1, .const (.int .i64 8388607))], 133, none⟩, ⟨some 18, .build 133 #[(0, .const (.int .i64 0)), (1, .const (.int .i64 4096))], 133, none⟩, ⟨some 19, .buildSlice 132 2 #[(0, .tmp 17), (1, .tmp 18)], 132, none⟩, ⟨some 20, .move (.tmp 3), 132, none⟩, ⟨some 21, .call { callee := .value (.func 112), args := #[.tmp 20], argTypes := #[132] }, 132, none⟩, ⟨some 22, .build 133 #[(0, .const (.int .i64 0)), (1, .const (.int .i64 512))], 133, none⟩, ⟨some 23, .buildSlice 132 1 #[(0, .tmp 22)], 132, none⟩, ⟨some 24, .call { callee := .builtin .append, args := #[.tmp 21, .tmp 23], argTypes := #[132, 132] }, 132, none⟩, ⟨some 25, .build 174 #[(1, .tmp 10), (2, .tmp 12), (3, .tmp 15), (5, .tmp 16), (6, .tmp 19), (7, .tmp 24)], 174, none⟩, ⟨some 26, .move (.tmp 0), 3, none⟩, ⟨some 27, .index 174 (.tmp 25) (.tmp 26), 132, none⟩, ⟨some 2, .assign (.tmp 27), 132, none⟩])
    .ret)))
def pl73 : Nat → Plan := fun _ => .done
theorem st73 : Go.Proofs.Tryz.f73.body.map (strip pl73) = some m73 := by kernel_rfl
theorem ok73 : okB pl73 Go.Proofs.Tryz.f73 1 = true := by kernel_rfl
theorem en73 {v0 w} {Q : Value → World → Prop} (h : mwpB Go.Proofs.Tryz.prog m73 (argEnv [v0]) [] w (fun e ds w => ds = [] ∧ resW Go.Proofs.Tryz.prog [.tmp 2] e w fun v => Q v w) (fun _ _ _ _ => False) (fun e ds w => ds = [] ∧ resW Go.Proofs.Tryz.prog [.tmp 2] e w fun v => Q v w) (fun _ _ _ _ => False) ⟨⟩) : Rets Go.Proofs.Tryz.prog 73 #[v0] w Q :=
  rets_of_mwp follows_mo Go.Proofs.Tryz.func73 pl73 st73 ok73 (by kernel_rfl) h
/-- continuo/effect.Valid$1 -/
def m74 : MC := (.seq (.ops [⟨some 3, .box 133 (.tmp 1), 0, none⟩, ⟨some 4, .assign (.const (.bool false)), 4, none⟩])
    (.seq (.ops [⟨some 5, .move (.tmp 0), 3, none⟩, ⟨some 6, .indexAddr 133 (.tmp 3) (.const (.int .i64 0)), 0, none⟩, ⟨some 7, .load 3 (.tmp 6), 3, none⟩, ⟨some 8, .indexAddr 133 (.tmp 3) (.const (.int .i64 1)), 0, none⟩, ⟨some 9, .load 3 (.tmp 8), 3, none⟩, ⟨some 10, .call { callee := .value (.func 53), args := #[.tmp 5, .tmp 7, .tmp 9], argTypes := #[3, 3, 3] }, 4, none⟩, ⟨some 4, .assign (.tmp 10), 4, none⟩])
    .ret))
def pl74 : Nat → Plan := fun _ => .done
theorem st74 : Go.Proofs.Tryz.f74.body.map (strip pl74) = some m74 := by kernel_rfl
theorem ok74 : okB pl74 Go.Proofs.Tryz.f74 2 = true := by kernel_rfl
theorem en74 {v0 v1 w} {Q : Value → World → Prop} (h : mwpB Go.Proofs.Tryz.prog m74 (argEnv [v0, v1]) [] w (fun e ds w => ds = [] ∧ resW Go.Proofs.Tryz.prog [.tmp 4] e w fun v => Q v w) (fun _ _ _ _ => False) (fun e ds w => ds = [] ∧ resW Go.Proofs.Tryz.prog [.tmp 4] e w fun v => Q v w) (fun _ _ _ _ => False) ⟨⟩) : Rets Go.Proofs.Tryz.prog 74 #[v0, v1] w Q :=
  rets_of_mwp follows_mo Go.Proofs.Tryz.func74 pl74 st74 ok74 (by kernel_rfl) h
/-- continuo/effect.own -/
def m75 : MC := (.seq (.ops [⟨some 1, .box 24 (.tmp 0), 0, none⟩, ⟨some 2, .alloc 24, 0, none⟩])
    (.seq (.draw (.take ⟨some 3, .fieldAddr 24 (.tmp 1) 1, 0, none⟩ (.take ⟨some 4, .load 22 (.tmp 3), 22, none⟩ (.take ⟨some 6, .fieldAddr 24 (.tmp 1) 2, 0, none⟩ (.take ⟨some 7, .load 22 (.tmp 6), 22, none⟩ (.alt ⟨some 5, .call { callee := .value (.func 92), args := #[.tmp 4], argTypes := #[22] }, 22, none⟩ (.take ⟨some 9, .fieldAddr 24 (.tmp 1) 1, 0, none⟩ (.alt ⟨some 8, .call { callee := .value (.func 92), args := #[.tmp 7], argTypes := #[22] }, 22, none⟩ (.altL ⟨none, .store 22 (.tmp 9) (.tmp 5), 0, none⟩ (.take ⟨some 10, .fieldAddr 24 (.tmp 1) 2, 0, none⟩ (.altL ⟨none, .store 22 (.tmp 10) (.tmp 8), 0, none⟩ .done .none)) .none) .none)) .none))))))
    (.seq (.ops [⟨some 11, .load 24 (.tmp 1), 24, none⟩, ⟨none, .store 24 (.tmp 2) (.tmp 11), 0, none⟩])
    .ret)))
def pl75 : Nat → Plan := fun id => if id = 1 then (.take 0 (.take 1 (.take 3 (.take 4 (.alt 2 (.take 6 (.alt 5 (.altL 7 (.take 8 (.altL 9 .done .none)) .none) .none)) .none))))) else .done
theorem st75 : Go.Proofs.Tryz.f75.body.map (strip pl75) = some m75 := by kernel_rfl
theorem ok75 : okB pl75 Go.Proofs.Tryz.f75 1 = true := by kernel_rfl
theorem en75 {v0 w} {Q : Value → World → Prop} (h : mwpB Go.Proofs.Tryz.prog m75 (argEnv [v0]) [] w (fun e ds w => ds = [] ∧ resW Go.Proofs.Tryz.prog [.cell 2 24] e w fun v => Q v w) (fun _ _ _ _ => False) (fun e ds w => ds = [] ∧ resW Go.Proofs.Tryz.prog [.cell 2 24] e w fun v => Q v w) (fun _ _ _ _ => False) ⟨⟩) : Rets Go.Proofs.Tryz.prog 75 #[v0] w Q :=
  rets_of_mwp follows_mo Go.Proofs.Tryz.func75 pl75 st75 ok75 (by kernel_rfl) h
/-- slices.ContainsFunc[[]int,int] -/
def m76 : MC := (.seq (.ops [⟨some 4, .assign (.const (.bool false)), 4, none⟩])
    (.seq (.ops [⟨some 5, .move (.tmp 0), 22, none⟩, ⟨some 6, .move (.tmp 1), 138, none⟩, ⟨some 7, .call { callee := .value (.func 113), args := #[.tmp 5, .tmp 6], argTypes := #[22, 138] }, 3, none⟩, ⟨some 8, .binOp .geq 3 (.tmp 7) (.const (.int .i64 0)) 3, 4, none⟩, ⟨some 4, .assign (.tmp 8), 4, none⟩])
    .ret))
def pl76 : Nat → Plan := fun _ => .done
theorem st76 : Go.Proofs.Tryz.f76.body.map (strip pl76) = some m76 := by kernel_rfl
theorem ok76 : okB pl76 Go.Proofs.Tryz.f76 2 = true := by kernel_rfl
theorem en76 {v0 v1 w} {Q : Value → World → Prop} (h : mwpB Go.Proofs.Tryz.prog m76 (argEnv [v0, v1]) [] w (fun e ds w => ds = [] ∧ resW Go.Proofs.Tryz.prog [.tmp 4] e w fun v => Q v w) (fun _ _ _ _ => False) (fun e ds w => ds = [] ∧ resW Go.Proofs.Tryz.prog [.tmp 4] e w fun v => Q v w) (fun _ _ _ _ => False) ⟨⟩) : Rets Go.Proofs.Tryz.prog 76 #[v0, v1] w Q :=
  rets_of_mwp follows_mo Go.Proofs.Tryz.func76 pl76 st76 ok76 (by kernel_rfl) h
/-- continuo/effect.samples$1 -/
def m77 : MC := (.seq (.ops [⟨some 2, .assign (.const (.bool false)), 4, none⟩])
    (.seq (.ops [⟨some 3, .move (.tmp 0), 3, none⟩, ⟨some 4, .call { callee := .value (.func 53), args := #[.tmp 3, .const (.int .i64 (-8388607)), .const (.int .i64 8388607)], argTypes := #[3, 3, 3] }, 4, none⟩, ⟨some 5, .unOp .not 4 (.tmp 4), 4, none⟩, ⟨some 2, .assign (.tmp 5), 4, none⟩])
    .ret))
def pl77 : Nat → Plan := fun _ => .done
theorem st77 : Go.Proofs.Tryz.f77.body.map (strip pl77) = some m77 := by kernel_rfl
theorem ok77 : okB pl77 Go.Proofs.Tryz.f77 1 = true := by kernel_rfl
theorem en77 {v0 w} {Q : Value → World → Prop} (h : mwpB Go.Proofs.Tryz.prog m77 (argEnv [v0]) [] w (fun e ds w => ds = [] ∧ resW Go.Proofs.Tryz.prog [.tmp 2] e w fun v => Q v w) (fun _ _ _ _ => False) (fun e ds w => ds = [] ∧ resW Go.Proofs.Tryz.prog [.tmp 2] e w fun v => Q v w) (fun _ _ _ _ => False) ⟨⟩) : Rets Go.Proofs.Tryz.prog 77 #[v0] w Q :=
  rets_of_mwp follows_mo Go.Proofs.Tryz.func77 pl77 st77 ok77 (by kernel_rfl) h
/-- continuo/continuoref31.Taps -/
def m79 : MC := (.seq (.ops [⟨some 2, .assign (.const (.bool false)), 4, none⟩])
    (.seq (.seq (.ops [⟨some 3, .assign (.const (.int .i64 0)), 3, none⟩])
    (.block 0 (.loop (.seq (.seq (.ops [⟨some 4, .move (.tmp 3), 3, none⟩, ⟨some 5, .move (.tmp 0), 22, none⟩, ⟨some 6, .call { callee := .builtin .len, args := #[.tmp 5], argTypes := #[22] }, 3, none⟩, ⟨some 7, .binOp .lss 3 (.tmp 4) (.tmp 6) 3, 4, none⟩])
    (.cond (.tmp 7) .skip (.exit 0)))
    (.seq (.block 1 (.seq (.ops [⟨some 10, .move (.tmp 0), 22, none⟩, ⟨some 11, .move (.tmp 3), 3, none⟩, ⟨some 12, .indexAddr 22 (.tmp 10) (.tmp 11), 0, none⟩, ⟨some 13, .load 3 (.tmp 12), 3, none⟩, ⟨some 14, .call { callee := .value (.func 80), args := #[.tmp 13, .const (.int .i64 (-65536)), .const (.int .i64 65536)], argTypes := #[3, 3, 3] }, 4, none⟩, ⟨some 15, .unOp .not 4 (.tmp 14), 4, none⟩])
    (.cond (.tmp 15) (.seq (.ops [⟨some 2, .assign (.const (.bool false)), 4, none⟩])
    .ret) .skip)))
    (.ops [⟨some 8, .move (.tmp 3), 3, none⟩, ⟨some 9, .binOp .add 3 (.tmp 8) (.const (.int .i64 1)) 3, 3, none⟩, ⟨some 3, .assign (.tmp 9), 3, none⟩]))))))
    (.seq (.ops [⟨some 16, .move (.tmp 0), 22, none⟩, ⟨some 17, .call { callee := .builtin .len, args := #[.tmp 16], argTypes := #[22] }, 3, none⟩, ⟨some 18, .call { callee := .value (.func 80), args := #[.tmp 17, .const (.int .i64 1), .const (.int .i64 512)], argTypes := #[3, 3, 3] }, 4, none⟩, ⟨some 2, .assign (.tmp 18), 4, none⟩])
    .ret)))
def pl79 : Nat → Plan := fun _ => .done
theorem st79 : Go.Proofs.Tryz.f79.body.map (strip pl79) = some m79 := by kernel_rfl
theorem ok79 : okB pl79 Go.Proofs.Tryz.f79 1 = true := by kernel_rfl
theorem en79 {v0 w} {Q : Value → World → Prop} (h : mwpB Go.Proofs.Tryz.prog m79 (argEnv [v0]) [] w (fun e ds w => ds = [] ∧ resW Go.Proofs.Tryz.prog [.tmp 2] e w fun v => Q v w) (fun _ _ _ _ => False) (fun e ds w => ds = [] ∧ resW Go.Proofs.Tryz.prog [.tmp 2] e w fun v => Q v w) (fun _ _ _ _ => False) ⟨⟩) : Rets Go.Proofs.Tryz.prog 79 #[v0] w Q :=
  rets_of_mwp follows_mo Go.Proofs.Tryz.func79 pl79 st79 ok79 (by kernel_rfl) h
/-- continuo/continuoref31.from -/
def m80 : MC := (.seq (.ops [⟨some 6, .assign (.const (.bool false)), 4, none⟩])
    (.seq (.ops [⟨some 7, .move (.tmp 0), 3, none⟩, ⟨some 8, .move (.tmp 1), 3, none⟩, ⟨some 9, .binOp .geq 3 (.tmp 7) (.tmp 8) 3, 4, none⟩, ⟨some 10, .move (.tmp 9), 4, none⟩, ⟨some 11, .move (.tmp 0), 3, some (some 10, true)⟩, ⟨some 12, .move (.tmp 2), 3, some (some 10, true)⟩, ⟨some 13, .binOp .leq 3 (.tmp 11) (.tmp 12) 3, 4, some (some 10, true)⟩, ⟨some 14, .pick (.tmp 10) (.tmp 13) (.const (.bool false)), 4, none⟩, ⟨some 6, .assign (.tmp 14), 4, none⟩])
    .ret))
def pl80 : Nat → Plan := fun _ => .done
theorem st80 : Go.Proofs.Tryz.f80.body.map (strip pl80) = some m80 := by kernel_rfl
theorem ok80 : okB pl80 Go.Proofs.Tryz.f80 3 = true := by kernel_rfl
theorem en80 {v0 v1 v2 w} {Q : Value → World → Prop} (h : mwpB Go.Proofs.Tryz.prog m80 (argEnv [v0, v1, v2]) [] w (fun e ds w => ds = [] ∧ resW Go.Proofs.Tryz.prog [.tmp 6] e w fun v => Q v w) (fun _ _ _ _ => False) (fun e ds w => ds = [] ∧ resW Go.Proofs.Tryz.prog [.tmp 6] e w fun v => Q v w) (fun _ _ _ _ => False) ⟨⟩) : Rets Go.Proofs.Tryz.prog 80 #[v0, v1, v2] w Q :=
  rets_of_mwp follows_mo Go.Proofs.Tryz.func80 pl80 st80 ok80 (by kernel_rfl) h
/-- continuo/continuoref31.press -/
def m81 : MC := (.seq (.ops [⟨some 2, .assign (.const (.bool false)), 4, none⟩])
    (.seq (.ops [⟨some 3, .move (.tmp 0), 22, none⟩, ⟨some 4, .indexAddr 22 (.tmp 3) (.const (.int .i64 0)), 0, none⟩, ⟨some 5, .load 3 (.tmp 4), 3, none⟩, ⟨some 6, .call { callee := .value (.func 80), args := #[.tmp 5, .const (.int .i64 0), .const (.int .i64 8388607)], argTypes := #[3, 3, 3] }, 4, none⟩, ⟨some 7, .move (.tmp 6), 4, none⟩, ⟨some 8, .move (.tmp 0), 22, some (some 7, true)⟩, ⟨some 9, .indexAddr 22 (.tmp 8) (.const (.int .i64 1)), 0, some (some 7, true)⟩, ⟨some 10, .load 3 (.tmp 9), 3, some (some 7, true)⟩, ⟨some 11, .call { callee := .value (.func 80), args := #[.tmp 10, .const (.int .i64 65536), .const (.int .i64 6553600)], argTypes := #[3, 3, 3] }, 4, some (some 7, true)⟩, ⟨some 12, .pick (.tmp 7) (.tmp 11) (.const (.bool false)), 4, none⟩, ⟨some 13, .move (.tmp 12), 4, none⟩, ⟨some 14, .move (.tmp 0), 22, some (some 13, true)⟩, ⟨some 15, .indexAddr 22 (.tmp 14) (.const (.int .i64 2)), 0, some (some 13, true)⟩, ⟨some 16, .load 3 (.tmp 15), 3, some (some 13, true)⟩, ⟨some 17, .call { callee := .value (.func 80), args := #[.tmp 16, .const (.int .i64 1), .const (.int .i64 65536)], argTypes := #[3, 3, 3] }, 4, some (some 13, true)⟩, ⟨some 18, .pick (.tmp 13) (.tmp 17) (.const (.bool false)), 4, none⟩, ⟨some 19, .move (.tmp 18), 4, none⟩, ⟨some 20, .move (.tmp 0), 22, some (some 19, true)⟩, ⟨some 21, .indexAddr 22 (.tmp 20) (.const (.int .i64 3)), 0, some (some 19, true)⟩, ⟨some 22, .load 3 (.tmp 21), 3, some (some 19, true)⟩, ⟨some 23, .call { callee := .value (.func 80), args := #[.tmp 22, .const (.int .i64 1), .const (.int .i64 65536)], argTypes := #[3, 3, 3] }, 4, some (some 19, true)⟩, ⟨some 24, .pick (.tmp 19) (.tmp 23) (.const (.bool false)), 4, none⟩, ⟨some 2, .assign (.tmp 24), 4, none⟩])
    .ret))
def pl81 : Nat → Plan := fun _ => .done
theorem st81 : Go.Proofs.Tryz.f81.body.map (strip pl81) = some m81 := by kernel_rfl
theorem ok81 : okB pl81 Go.Proofs.Tryz.f81 1 = true := by kernel_rfl
theorem en81 {v0 w} {Q : Value → World → Prop} (h : mwpB Go.Proofs.Tryz.prog m81 (argEnv [v0]) [] w (fun e ds w => ds = [] ∧ resW Go.Proofs.Tryz.prog [.tmp 2] e w fun v => Q v w) (fun _ _ _ _ => False) (fun e ds w => ds = [] ∧ resW Go.Proofs.Tryz.prog [.tmp 2] e w fun v => Q v w) (fun _ _ _ _ => False) ⟨⟩) : Rets Go.Proofs.Tryz.prog 81 #[v0] w Q :=
  rets_of_mwp follows_mo Go.Proofs.Tryz.func81 pl81 st81 ok81 (by kernel_rfl) h
/-- continuo/continuoref31.Rounded -/
def m82 : MC := (.seq (.ops [⟨some 2, .assign (.const (.int .i64 0)), 3, none⟩])
    (.seq (.seq (.ops [⟨some 3, .move (.tmp 0), 3, none⟩, ⟨some 4, .binOp .lss 3 (.tmp 3) (.const (.int .i64 0)) 3, 4, none⟩])
    (.cond (.tmp 4) (.seq (.ops [⟨some 5, .move (.tmp 0), 3, none⟩, ⟨some 6, .unOp .neg 3 (.tmp 5), 3, none⟩, ⟨some 7, .binOp .mul 3 (.tmp 6) (.const (.int .i64 2)) 3, 3, none⟩, ⟨some 8, .binOp .add 3 (.tmp 7) (.const (.int .i64 65536)) 3, 3, none⟩, ⟨some 9, .binOp .quo 3 (.tmp 8) (.const (.int .i64 131072)) 3, 3, none⟩, ⟨some 10, .unOp .neg 3 (.tmp 9), 3, none⟩, ⟨some 2, .assign (.tmp 10), 3, none⟩])
    .ret) .skip))
    (.seq (.ops [⟨some 11, .move (.tmp 0), 3, none⟩, ⟨some 12, .binOp .mul 3 (.tmp 11) (.const (.int .i64 2)) 3, 3, none⟩, ⟨some 13, .binOp .add 3 (.tmp 12) (.const (.int .i64 65536)) 3, 3, none⟩, ⟨some 14, .binOp .quo 3 (.tmp 13) (.const (.int .i64 131072)) 3, 3, none⟩, ⟨some 2, .assign (.tmp 14), 3, none⟩])
    .ret)))
def pl82 : Nat → Plan := fun _ => .done
theorem st82 : Go.Proofs.Tryz.f82.body.map (strip pl82) = some m82 := by kernel_rfl
theorem ok82 : okB pl82 Go.Proofs.Tryz.f82 1 = true := by kernel_rfl
theorem en82 {v0 w} {Q : Value → World → Prop} (h : mwpB Go.Proofs.Tryz.prog m82 (argEnv [v0]) [] w (fun e ds w => ds = [] ∧ resW Go.Proofs.Tryz.prog [.tmp 2] e w fun v => Q v w) (fun _ _ _ _ => False) (fun e ds w => ds = [] ∧ resW Go.Proofs.Tryz.prog [.tmp 2] e w fun v => Q v w) (fun _ _ _ _ => False) ⟨⟩) : Rets Go.Proofs.Tryz.prog 82 #[v0] w Q :=
  rets_of_mwp follows_mo Go.Proofs.Tryz.func82 pl82 st82 ok82 (by kernel_rfl) h
/-- continuo/continuoref31.ago -/
def m83 : MC := (.seq (.ops [⟨some 4, .assign (.const (.int .i64 0)), 3, none⟩])
    (.seq (.ops [⟨some 5, .move (.tmp 0), 22, none⟩, ⟨some 6, .move (.tmp 0), 22, none⟩, ⟨some 7, .call { callee := .builtin .len, args := #[.tmp 6], argTypes := #[22] }, 3, none⟩, ⟨some 8, .move (.tmp 1), 3, none⟩, ⟨some 9, .binOp .sub 3 (.tmp 7) (.tmp 8) 3, 3, none⟩, ⟨some 10, .indexAddr 22 (.tmp 5) (.tmp 9), 0, none⟩, ⟨some 11, .load 3 (.tmp 10), 3, none⟩, ⟨some 4, .assign (.tmp 11), 3, none⟩])
    .ret))
def pl83 : Nat → Plan := fun _ => .done
theorem st83 : Go.Proofs.Tryz.f83.body.map (strip pl83) = some m83 := by kernel_rfl
theorem ok83 : okB pl83 Go.Proofs.Tryz.f83 2 = true := by kernel_rfl
theorem en83 {v0 v1 w} {Q : Value → World → Prop} (h : mwpB Go.Proofs.Tryz.prog m83 (argEnv [v0, v1]) [] w (fun e ds w => ds = [] ∧ resW Go.Proofs.Tryz.prog [.tmp 4] e w fun v => Q v w) (fun _ _ _ _ => False) (fun e ds w => ds = [] ∧ resW Go.Proofs.Tryz.prog [.tmp 4] e w fun v => Q v w) (fun _ _ _ _ => False) ⟨⟩) : Rets Go.Proofs.Tryz.prog 83 #[v0, v1] w Q :=
  rets_of_mwp follows_mo Go.Proofs.Tryz.func83 pl83 st83 ok83 (by kernel_rfl) h
/-- continuo/continuoref31.follow -/
def m84 : MC := (.seq (.ops [⟨some 6, .assign (.const (.int .i64 0)), 3, none⟩])
    (.seq (.seq (.ops [⟨some 7, .move (.tmp 2), 3, none⟩, ⟨some 8, .binOp .lss 3 (.tmp 7) (.const (.int .i64 0)) 3, 4, none⟩])
    (.cond (.tmp 8) (.ops [⟨some 9, .move (.tmp 2), 3, none⟩, ⟨some 10, .unOp .neg 3 (.tmp 9), 3, none⟩, ⟨some 2, .assign (.tmp 10), 3, none⟩]) .skip))
    (.seq (.seq (.ops [⟨some 11, .move (.tmp 2), 3, none⟩, ⟨some 12, .move (.tmp 1), 3, none⟩, ⟨some 13, .binOp .gtr 3 (.tmp 11) (.tmp 12) 3, 4, none⟩])
    (.cond (.tmp 13) (.seq (.ops [⟨some 14, .move (.tmp 1), 3, none⟩, ⟨some 15, .move (.tmp 2), 3, none⟩, ⟨some 16, .move (.tmp 1), 3, none⟩, ⟨some 17, .binOp .sub 3 (.tmp 15) (.tmp 16) 3, 3, none⟩, ⟨some 18, .move (.tmp 0), 22, none⟩, ⟨some 19, .indexAddr 22 (.tmp 18) (.const (.int .i64 2)), 0, none⟩, ⟨some 20, .load 3 (.tmp 19), 3, none⟩, ⟨some 21, .binOp .mul 3 (.tmp 17) (.tmp 20) 3, 3, none⟩, ⟨some 22, .call { callee := .value (.func 82), args := #[.tmp 21], argTypes := #[3] }, 3, none⟩, ⟨some 23, .binOp .add 3 (.tmp 14) (.tmp 22) 3, 3, none⟩, ⟨some 6, .assign (.tmp 23), 3, none⟩])
    .ret) .skip))
    (.seq (.ops [⟨some 24, .move (.tmp 1), 3, none⟩, ⟨some 25, .move (.tmp 2), 3, none⟩, ⟨some 26, .move (.tmp 1), 3, none⟩, ⟨some 27, .binOp .sub 3 (.tmp 25) (.tmp 26) 3, 3, none⟩, ⟨some 28, .move (.tmp 0), 22, none⟩, ⟨some 29, .indexAddr 22 (.tmp 28) (.const (.int .i64 3)), 0, none⟩, ⟨some 30, .load 3 (.tmp 29), 3, none⟩, ⟨some 31, .binOp .mul 3 (.tmp 27) (.tmp 30) 3, 3, none⟩, ⟨some 32, .call { callee := .value (.func 82), args := #[.tmp 31], argTypes := #[3] }, 3, none⟩, ⟨some 33, .binOp .add 3 (.tmp 24) (.tmp 32) 3, 3, none⟩, ⟨some 6, .assign (.tmp 33), 3, none⟩])
    .ret))))
def pl84 : Nat → Plan := fun _ => .done
theorem st84 : Go.Proofs.Tryz.f84.body.map (strip pl84) = some m84 := by kernel_rfl
theorem ok84 : okB pl84 Go.Proofs.Tryz.f84 3 = true := by kernel_rfl
theorem en84 {v0 v1 v2 w} {Q : Value → World → Prop} (h : mwpB Go.Proofs.Tryz.prog m84 (argEnv [v0, v1, v2]) [] w (fun e ds w => ds = [] ∧ resW Go.Proofs.Tryz.prog [.tmp 6] e w fun v => Q v w) (fun _ _ _ _ => False) (fun e ds w => ds = [] ∧ resW Go.Proofs.Tryz.prog [.tmp 6] e w fun v => Q v w) (fun _ _ _ _ => False) ⟨⟩) : Rets Go.Proofs.Tryz.prog 84 #[v0, v1, v2] w Q :=
  rets_of_mwp follows_mo Go.Proofs.Tryz.func84 pl84 st84 ok84 (by kernel_rfl) h
/-- continuo/continuoref31.gain -/
def m85 : MC := (.seq (.ops [⟨some 4, .assign (.const (.int .i64 0)), 3, none⟩])
    (.seq (.seq (.ops [⟨some 5, .move (.tmp 1), 3, none⟩, ⟨some 6, .move (.tmp 0), 22, none⟩, ⟨some 7, .indexAddr 22 (.tmp 6) (.const (.int .i64 0)), 0, none⟩, ⟨some 8, .load 3 (.tmp 7), 3, none⟩, ⟨some 9, .binOp .leq 3 (.tmp 5) (.tmp 8) 3, 4, none⟩])
    (.cond (.tmp 9) (.seq (.ops [⟨some 4, .assign (.const (.int .i64 65536)), 3, none⟩])
    .ret) .skip))
    (.seq (.draw (.take ⟨some 10, .move (.tmp 0), 22, none⟩ (.take ⟨some 11, .indexAddr 22 (.tmp 10) (.const (.int .i64 0)), 0, none⟩ (.take ⟨some 12, .load 3 (.tmp 11), 3, none⟩ (.take ⟨some 13, .binOp .mul 3 (.tmp 12) (.const (.int .i64 65536)) 3, 3, none⟩ (.take ⟨some 14, .move (.tmp 1), 3, none⟩ (.take ⟨some 15, .move (.tmp 0), 22, none⟩ (.take ⟨some 16, .indexAddr 22 (.tmp 15) (.const (.int .i64 0)), 0, none⟩ (.take ⟨some 17, .load 3 (.tmp 16), 3, none⟩ (.take ⟨some 18, .binOp .sub 3 (.tmp 14) (.tmp 17) 3, 3, none⟩ (.take ⟨some 19, .binOp .mul 3 (.tmp 18) (.const (.int .i64 65536)) 3, 3, none⟩ (.take ⟨some 20, .binOp .mul 3 (.tmp 19) (.const (.int .i64 65536)) 3, 3, none⟩ (.take ⟨some 21, .move (.tmp 0), 22, none⟩ (.take ⟨some 22, .indexAddr 22 (.tmp 21) (.const (.int .i64 1)), 0, none⟩ (.take ⟨some 23, .load 3 (.tmp 22), 3, none⟩ (.take ⟨some 24, .binOp .quo 3 (.tmp 20) (.tmp 23) 3, 3, none⟩ (.take ⟨some 25, .binOp .add 3 (.tmp 13) (.tmp 24) 3, 3, none⟩ (.take ⟨some 26, .move (.tmp 1), 3, none⟩ (.take ⟨some 27, .binOp .quo 3 (.tmp 25) (.tmp 26) 3, 3, none⟩ (.take ⟨some 4, .assign (.tmp 27), 3, none⟩ .done))))))))))))))))))))
    .ret)))
def pl85 : Nat → Plan := fun id => if id = 3 then (.take 0 (.take 1 (.take 2 (.take 3 (.take 4 (.take 5 (.take 6 (.take 7 (.take 8 (.take 9 (.take 10 (.take 11 (.take 12 (.take 13 (.take 14 (.take 15 (.take 16 (.take 17 (.take 18 .done))))))))))))))))))) else .done
theorem st85 : Go.Proofs.Tryz.f85.body.map (strip pl85) = some m85 := by kernel_rfl
theorem ok85 : okB pl85 Go.Proofs.Tryz.f85 2 = true := by kernel_rfl
theorem en85 {v0 v1 w} {Q : Value → World → Prop} (h : mwpB Go.Proofs.Tryz.prog m85 (argEnv [v0, v1]) [] w (fun e ds w => ds = [] ∧ resW Go.Proofs.Tryz.prog [.tmp 4] e w fun v => Q v w) (fun _ _ _ _ => False) (fun e ds w => ds = [] ∧ resW Go.Proofs.Tryz.prog [.tmp 4] e w fun v => Q v w) (fun _ _ _ _ => False) ⟨⟩) : Rets Go.Proofs.Tryz.prog 85 #[v0, v1] w Q :=
  rets_of_mwp follows_mo Go.Proofs.Tryz.func85 pl85 st85 ok85 (by kernel_rfl) h
/-- continuo/effect.begun$1 -/
def m86 : MC := (.seq (.ops [⟨some 1, .alloc 98, 0, none⟩])
    (.seq (.draw (.take ⟨some 2, .fieldAddr 24 (.tmp 0) 1, 0, none⟩ (.take ⟨some 3, .load 22 (.tmp 2), 22, none⟩ (.take ⟨some 4, .indexAddr 22 (.tmp 3) (.const (.int .i64 0)), 0, none⟩ (.take ⟨some 5, .load 3 (.tmp 4), 3, none⟩ (.take ⟨some 6, .fieldAddr 24 (.tmp 0) 1, 0, none⟩ (.take ⟨some 7, .load 22 (.tmp 6), 22, none⟩ (.take ⟨some 8, .indexAddr 22 (.tmp 7) (.const (.int .i64 1)), 0, none⟩ (.take ⟨some 9, .load 3 (.tmp 8), 3, none⟩ (.take ⟨some 10, .fieldAddr 24 (.tmp 0) 1, 0, none⟩ (.take ⟨some 11, .load 22 (.tmp 10), 22, none⟩ (.take ⟨some 12, .indexAddr 22 (.tmp 11) (.const (.int .i64 2)), 0, none⟩ (.take ⟨some 13, .load 3 (.tmp 12), 3, none⟩ (.take ⟨some 14, .fieldAddr 24 (.tmp 0) 1, 0, none⟩ (.take ⟨some 15, .load 22 (.tmp 14), 22, none⟩ (.take ⟨some 16, .indexAddr 22 (.tmp 15) (.const (.int .i64 3)), 0, none⟩ (.take ⟨some 17, .load 3 (.tmp 16), 3, none⟩ (.take ⟨some 18, .build 98 #[(0, .tmp 5), (1, .tmp 9), (2, .tmp 13), (3, .tmp 17), (4, .const (.int .i64 0))], 98, none⟩ (.altL ⟨none, .store 98 (.tmp 1) (.tmp 18), 0, none⟩ .done .none)))))))))))))))))))
    .ret))
def pl86 : Nat → Plan := fun id => if id = 1 then (.take 0 (.take 1 (.take 2 (.take 3 (.take 4 (.take 5 (.take 6 (.take 7 (.take 8 (.take 9 (.take 10 (.take 11 (.take 12 (.take 13 (.take 14 (.take 15 (.take 16 (.altL 17 .done .none)))))))))))))))))) else .done
theorem st86 : Go.Proofs.Tryz.f86.body.map (strip pl86) = some m86 := by kernel_rfl
theorem ok86 : okB pl86 Go.Proofs.Tryz.f86 1 = true := by kernel_rfl
theorem en86 {v0 w} {Q : Value → World → Prop} (h : mwpB Go.Proofs.Tryz.prog m86 (argEnv [v0]) [] w (fun e ds w => ds = [] ∧ resW Go.Proofs.Tryz.prog [.cell 1 98] e w fun v => Q v w) (fun _ _ _ _ => False) (fun e ds w => ds = [] ∧ resW Go.Proofs.Tryz.prog [.cell 1 98] e w fun v => Q v w) (fun _ _ _ _ => False) ⟨⟩) : Rets Go.Proofs.Tryz.prog 86 #[v0] w Q :=
  rets_of_mwp follows_mo Go.Proofs.Tryz.func86 pl86 st86 ok86 (by kernel_rfl) h
/-- continuo/effect.begun$2 -/
def m87 : MC := (.seq (.ops [⟨some 1, .assign (.const .nilIface), 78, none⟩])
    (.seq (.ops [⟨some 2, .fieldAddr 24 (.tmp 0) 1, 0, none⟩, ⟨some 3, .load 22 (.tmp 2), 22, none⟩, ⟨some 4, .indexAddr 22 (.tmp 3) (.const (.int .i64 0)), 0, none⟩, ⟨some 5, .load 3 (.tmp 4), 3, none⟩, ⟨some 6, .build 148 #[(0, .tmp 5)], 148, none⟩, ⟨some 7, .box 148 (.tmp 6), 146, none⟩, ⟨some 8, .makeInterface 146 (.tmp 7), 78, none⟩, ⟨some 1, .assign (.tmp 8), 78, none⟩])
    .ret))
def pl87 : Nat → Plan := fun _ => .done
theorem st87 : Go.Proofs.Tryz.f87.body.map (strip pl87) = some m87 := by kernel_rfl
theorem ok87 : okB pl87 Go.Proofs.Tryz.f87 1 = true := by kernel_rfl
theorem en87 {v0 w} {Q : Value → World → Prop} (h : mwpB Go.Proofs.Tryz.prog m87 (argEnv [v0]) [] w (fun e ds w => ds = [] ∧ resW Go.Proofs.Tryz.prog [.tmp 1] e w fun v => Q v w) (fun _ _ _ _ => False) (fun e ds w => ds = [] ∧ resW Go.Proofs.Tryz.prog [.tmp 1] e w fun v => Q v w) (fun _ _ _ _ => False) ⟨⟩) : Rets Go.Proofs.Tryz.prog 87 #[v0] w Q :=
  rets_of_mwp follows_mo Go.Proofs.Tryz.func87 pl87 st87 ok87 (by kernel_rfl) h
/-- continuo/effect.begun$3 -/
def m88 : MC := (.seq (.ops [⟨some 1, .assign (.const .nilIface), 78, none⟩])
    (.seq (.ops [⟨some 2, .fieldAddr 24 (.tmp 0) 1, 0, none⟩, ⟨some 3, .load 22 (.tmp 2), 22, none⟩, ⟨some 4, .indexAddr 22 (.tmp 3) (.const (.int .i64 0)), 0, none⟩, ⟨some 5, .load 3 (.tmp 4), 3, none⟩, ⟨some 6, .call { callee := .value (.func 89), args := #[.tmp 5], argTypes := #[3] }, 103, none⟩, ⟨some 7, .build 153 #[(0, .tmp 6)], 153, none⟩, ⟨some 8, .box 153 (.tmp 7), 150, none⟩, ⟨some 9, .makeInterface 150 (.tmp 8), 78, none⟩, ⟨some 1, .assign (.tmp 9), 78, none⟩])
    .ret))
def pl88 : Nat → Plan := fun _ => .done
theorem st88 : Go.Proofs.Tryz.f88.body.map (strip pl88) = some m88 := by kernel_rfl
theorem ok88 : okB pl88 Go.Proofs.Tryz.f88 1 = true := by kernel_rfl
theorem en88 {v0 w} {Q : Value → World → Prop} (h : mwpB Go.Proofs.Tryz.prog m88 (argEnv [v0]) [] w (fun e ds w => ds = [] ∧ resW Go.Proofs.Tryz.prog [.tmp 1] e w fun v => Q v w) (fun _ _ _ _ => False) (fun e ds w => ds = [] ∧ resW Go.Proofs.Tryz.prog [.tmp 1] e w fun v => Q v w) (fun _ _ _ _ => False) ⟨⟩) : Rets Go.Proofs.Tryz.prog 88 #[v0] w Q :=
  rets_of_mwp follows_mo Go.Proofs.Tryz.func88 pl88 st88 ok88 (by kernel_rfl) h
/-- continuo/effect.past -/
def m89 : MC := (.seq (.ops [⟨some 2, .alloc 103, 0, none⟩])
    (.seq (.ops [⟨some 3, .move (.tmp 0), 3, none⟩, ⟨some 4, .makeSlice 22 (.tmp 3) (.tmp 3), 22, none⟩, ⟨some 5, .build 103 #[(0, .tmp 4)], 103, none⟩, ⟨none, .store 103 (.tmp 2) (.tmp 5), 0, none⟩])
    .ret))
def pl89 : Nat → Plan := fun _ => .done
theorem st89 : Go.Proofs.Tryz.f89.body.map (strip pl89) = some m89 := by kernel_rfl
theorem ok89 : okB pl89 Go.Proofs.Tryz.f89 1 = true := by kernel_rfl
theorem en89 {v0 w} {Q : Value → World → Prop} (h : mwpB Go.Proofs.Tryz.prog m89 (argEnv [v0]) [] w (fun e ds w => ds = [] ∧ resW Go.Proofs.Tryz.prog [.cell 2 103] e w fun v => Q v w) (fun _ _ _ _ => False) (fun e ds w => ds = [] ∧ resW Go.Proofs.Tryz.prog [.cell 2 103] e w fun v => Q v w) (fun _ _ _ _ => False) ⟨⟩) : Rets Go.Proofs.Tryz.prog 89 #[v0] w Q :=
  rets_of_mwp follows_mo Go.Proofs.Tryz.func89 pl89 st89 ok89 (by kernel_rfl) h
/-- continuo/effect.begun$4 -/
def m90 : MC := (.seq (.ops [⟨some 1, .assign (.const .nilIface), 78, none⟩])
    (.seq (.draw (.take ⟨some 2, .fieldAddr 24 (.tmp 0) 1, 0, none⟩ (.take ⟨some 3, .load 22 (.tmp 2), 22, none⟩ (.take ⟨some 4, .indexAddr 22 (.tmp 3) (.const (.int .i64 0)), 0, none⟩ (.take ⟨some 5, .load 3 (.tmp 4), 3, none⟩ (.take ⟨some 7, .fieldAddr 24 (.tmp 0) 1, 0, none⟩ (.take ⟨some 8, .load 22 (.tmp 7), 22, none⟩ (.take ⟨some 9, .indexAddr 22 (.tmp 8) (.const (.int .i64 1)), 0, none⟩ (.take ⟨some 10, .load 3 (.tmp 9), 3, none⟩ (.alt ⟨some 6, .call { callee := .value (.func 89), args := #[.tmp 5], argTypes := #[3] }, 103, none⟩ (.take ⟨some 11, .build 156 #[(0, .tmp 6), (1, .tmp 10)], 156, none⟩ (.alt ⟨some 12, .box 156 (.tmp 11), 154, none⟩ (.take ⟨some 13, .makeInterface 154 (.tmp 12), 78, none⟩ (.take ⟨some 1, .assign (.tmp 13), 78, none⟩ .done)) .none)) .none))))))))))
    .ret))
def pl90 : Nat → Plan := fun id => if id = 1 then (.take 0 (.take 1 (.take 2 (.take 3 (.take 5 (.take 6 (.take 7 (.take 8 (.alt 4 (.take 9 (.alt 10 (.take 11 (.take 12 .done)) .none)) .none))))))))) else .done
theorem st90 : Go.Proofs.Tryz.f90.body.map (strip pl90) = some m90 := by kernel_rfl
theorem ok90 : okB pl90 Go.Proofs.Tryz.f90 1 = true := by kernel_rfl
theorem en90 {v0 w} {Q : Value → World → Prop} (h : mwpB Go.Proofs.Tryz.prog m90 (argEnv [v0]) [] w (fun e ds w => ds = [] ∧ resW Go.Proofs.Tryz.prog [.tmp 1] e w fun v => Q v w) (fun _ _ _ _ => False) (fun e ds w => ds = [] ∧ resW Go.Proofs.Tryz.prog [.tmp 1] e w fun v => Q v w) (fun _ _ _ _ => False) ⟨⟩) : Rets Go.Proofs.Tryz.prog 90 #[v0] w Q :=
  rets_of_mwp follows_mo Go.Proofs.Tryz.func90 pl90 st90 ok90 (by kernel_rfl) h
/-- continuo/effect.begun$5 -/
def m91 : MC := (.seq (.ops [⟨some 1, .assign (.const .nilIface), 78, none⟩])
    (.seq (.draw (.take ⟨some 2, .fieldAddr 24 (.tmp 0) 2, 0, none⟩ (.take ⟨some 3, .load 22 (.tmp 2), 22, none⟩ (.take ⟨some 4, .call { callee := .builtin .len, args := #[.tmp 3], argTypes := #[22] }, 3, none⟩ (.take ⟨some 5, .binOp .sub 3 (.tmp 4) (.const (.int .i64 1)) 3, 3, none⟩ (.take ⟨some 7, .fieldAddr 24 (.tmp 0) 2, 0, none⟩ (.take ⟨some 8, .load 22 (.tmp 7), 22, none⟩ (.alt ⟨some 6, .call { callee := .value (.func 89), args := #[.tmp 5], argTypes := #[3] }, 103, none⟩ (.alt ⟨some 9, .call { callee := .value (.func 92), args := #[.tmp 8], argTypes := #[22] }, 22, none⟩ (.take ⟨some 10, .build 160 #[(0, .tmp 6), (1, .tmp 9)], 160, none⟩ (.alt ⟨some 11, .box 160 (.tmp 10), 157, none⟩ (.take ⟨some 12, .makeInterface 157 (.tmp 11), 78, none⟩ (.take ⟨some 1, .assign (.tmp 12), 78, none⟩ .done)) .none)) .none) .none))))))))
    .ret))
def pl91 : Nat → Plan := fun id => if id = 1 then (.take 0 (.take 1 (.take 2 (.take 3 (.take 5 (.take 6 (.alt 4 (.alt 7 (.take 8 (.alt 9 (.take 10 (.take 11 .done)) .none)) .none) .none))))))) else .done
theorem st91 : Go.Proofs.Tryz.f91.body.map (strip pl91) = some m91 := by kernel_rfl
theorem ok91 : okB pl91 Go.Proofs.Tryz.f91 1 = true := by kernel_rfl
theorem en91 {v0 w} {Q : Value → World → Prop} (h : mwpB Go.Proofs.Tryz.prog m91 (argEnv [v0]) [] w (fun e ds w => ds = [] ∧ resW Go.Proofs.Tryz.prog [.tmp 1] e w fun v => Q v w) (fun _ _ _ _ => False) (fun e ds w => ds = [] ∧ resW Go.Proofs.Tryz.prog [.tmp 1] e w fun v => Q v w) (fun _ _ _ _ => False) ⟨⟩) : Rets Go.Proofs.Tryz.prog 91 #[v0] w Q :=
  rets_of_mwp follows_mo Go.Proofs.Tryz.func91 pl91 st91 ok91 (by kernel_rfl) h
/-- slices.Clone[[]int,int] -/
def m92 : MC := (.seq (.ops [⟨some 2, .assign (.const (.slice none 0 0)), 22, none⟩])
    (.seq (.seq (.ops [⟨some 3, .move (.tmp 0), 22, none⟩, ⟨some 4, .binOp .eql 22 (.tmp 3) (.const (.slice none 0 0)) 22, 4, none⟩])
    (.cond (.tmp 4) (.seq (.ops [⟨some 2, .assign (.const (.slice none 0 0)), 22, none⟩])
    .ret) .skip))
    (.seq (.ops [⟨some 5, .buildSlice 22 0 #[], 22, none⟩, ⟨some 6, .move (.tmp 0), 22, none⟩, ⟨some 7, .call { callee := .builtin .append, args := #[.tmp 5, .tmp 6], argTypes := #[22, 22] }, 22, none⟩, ⟨some 2, .assign (.tmp 7), 22, none⟩])
    .ret)))
def pl92 : Nat → Plan := fun _ => .done
theorem st92 : Go.Proofs.Tryz.f92.body.map (strip pl92) = some m92 := by kernel_rfl
theorem ok92 : okB pl92 Go.Proofs.Tryz.f92 1 = true := by kernel_rfl
theorem en92 {v0 w} {Q : Value → World → Prop} (h : mwpB Go.Proofs.Tryz.prog m92 (argEnv [v0]) [] w (fun e ds w => ds = [] ∧ resW Go.Proofs.Tryz.prog [.tmp 2] e w fun v => Q v w) (fun _ _ _ _ => False) (fun e ds w => ds = [] ∧ resW Go.Proofs.Tryz.prog [.tmp 2] e w fun v => Q v w) (fun _ _ _ _ => False) ⟨⟩) : Rets Go.Proofs.Tryz.prog 92 #[v0] w Q :=
  rets_of_mwp follows_mo Go.Proofs.Tryz.func92 pl92 st92 ok92 (by kernel_rfl) h
/-- continuo/effect.begun$6 -/
def m93 : MC := (.seq (.ops [⟨some 1, .assign (.const .nilIface), 78, none⟩])
    (.seq (.ops [⟨some 2, .load 145 (.tmp 0), 145, none⟩, ⟨some 3, .call { callee := .value (.tmp 2), args := #[], argTypes := #[] }, 98, none⟩, ⟨some 4, .build 100 #[(0, .tmp 3)], 100, none⟩, ⟨some 5, .box 100 (.tmp 4), 96, none⟩, ⟨some 6, .makeInterface 96 (.tmp 5), 78, none⟩, ⟨some 1, .assign (.tmp 6), 78, none⟩])
    .ret))
def pl93 : Nat → Plan := fun _ => .done
theorem st93 : Go.Proofs.Tryz.f93.body.map (strip pl93) = some m93 := by kernel_rfl
theorem ok93 : okB pl93 Go.Proofs.Tryz.f93 1 = true := by kernel_rfl
theorem en93 {v0 w} {Q : Value → World → Prop} (h : mwpB Go.Proofs.Tryz.prog m93 (argEnv [v0]) [] w (fun e ds w => ds = [] ∧ resW Go.Proofs.Tryz.prog [.tmp 1] e w fun v => Q v w) (fun _ _ _ _ => False) (fun e ds w => ds = [] ∧ resW Go.Proofs.Tryz.prog [.tmp 1] e w fun v => Q v w) (fun _ _ _ _ => False) ⟨⟩) : Rets Go.Proofs.Tryz.prog 93 #[v0] w Q :=
  rets_of_mwp follows_mo Go.Proofs.Tryz.func93 pl93 st93 ok93 (by kernel_rfl) h
/-- continuo/effect.begun$7 -/
def m94 : MC := (.seq (.ops [⟨some 1, .assign (.const .nilIface), 78, none⟩])
    (.seq (.draw (.take ⟨some 2, .fieldAddr 24 (.tmp 0) 1, 0, none⟩ (.take ⟨some 3, .load 22 (.tmp 2), 22, none⟩ (.take ⟨some 4, .indexAddr 22 (.tmp 3) (.const (.int .i64 0)), 0, none⟩ (.take ⟨some 5, .load 3 (.tmp 4), 3, none⟩ (.take ⟨some 6, .fieldAddr 24 (.tmp 0) 1, 0, none⟩ (.take ⟨some 7, .load 22 (.tmp 6), 22, none⟩ (.take ⟨some 8, .indexAddr 22 (.tmp 7) (.const (.int .i64 1)), 0, none⟩ (.take ⟨some 9, .load 3 (.tmp 8), 3, none⟩ (.take ⟨some 10, .build 163 #[(0, .tmp 5), (1, .tmp 9), (2, .const (.int .i64 4097))], 163, none⟩ (.alt ⟨some 11, .box 163 (.tmp 10), 161, none⟩ (.take ⟨some 12, .makeInterface 161 (.tmp 11), 78, none⟩ (.take ⟨some 1, .assign (.tmp 12), 78, none⟩ .done)) .none)))))))))))
    .ret))
def pl94 : Nat → Plan := fun id => if id = 1 then (.take 0 (.take 1 (.take 2 (.take 3 (.take 4 (.take 5 (.take 6 (.take 7 (.take 8 (.alt 9 (.take 10 (.take 11 .done)) .none)))))))))) else .done
theorem st94 : Go.Proofs.Tryz.f94.body.map (strip pl94) = some m94 := by kernel_rfl
theorem ok94 : okB pl94 Go.Proofs.Tryz.f94 1 = true := by kernel_rfl
theorem en94 {v0 w} {Q : Value → World → Prop} (h : mwpB Go.Proofs.Tryz.prog m94 (argEnv [v0]) [] w (fun e ds w => ds = [] ∧ resW Go.Proofs.Tryz.prog [.tmp 1] e w fun v => Q v w) (fun _ _ _ _ => False) (fun e ds w => ds = [] ∧ resW Go.Proofs.Tryz.prog [.tmp 1] e w fun v => Q v w) (fun _ _ _ _ => False) ⟨⟩) : Rets Go.Proofs.Tryz.prog 94 #[v0] w Q :=
  rets_of_mwp follows_mo Go.Proofs.Tryz.func94 pl94 st94 ok94 (by kernel_rfl) h
/-- continuo/effect.begun$8 -/
def m95 : MC := (.seq (.ops [⟨some 2, .assign (.const .nilIface), 78, none⟩])
    (.seq (.draw (.take ⟨some 3, .load 145 (.tmp 0), 145, none⟩ (.take ⟨some 5, .fieldAddr 24 (.tmp 1) 1, 0, none⟩ (.take ⟨some 6, .load 22 (.tmp 5), 22, none⟩ (.take ⟨some 7, .indexAddr 22 (.tmp 6) (.const (.int .i64 4)), 0, none⟩ (.take ⟨some 8, .load 3 (.tmp 7), 3, none⟩ (.alt ⟨some 4, .call { callee := .value (.tmp 3), args := #[], argTypes := #[] }, 98, none⟩ (.alt ⟨some 9, .call { callee := .value (.func 89), args := #[.tmp 8], argTypes := #[3] }, 103, none⟩ (.take ⟨some 10, .build 105 #[(0, .tmp 4), (1, .tmp 9)], 105, none⟩ (.alt ⟨some 11, .box 105 (.tmp 10), 101, none⟩ (.take ⟨some 12, .makeInterface 101 (.tmp 11), 78, none⟩ (.take ⟨some 2, .assign (.tmp 12), 78, none⟩ .done)) .none)) .none) .none)))))))
    .ret))
def pl95 : Nat → Plan := fun id => if id = 1 then (.take 0 (.take 2 (.take 3 (.take 4 (.take 5 (.alt 1 (.alt 6 (.take 7 (.alt 8 (.take 9 (.take 10 .done)) .none)) .none) .none)))))) else .done
theorem st95 : Go.Proofs.Tryz.f95.body.map (strip pl95) = some m95 := by kernel_rfl
theorem ok95 : okB pl95 Go.Proofs.Tryz.f95 2 = true := by kernel_rfl
theorem en95 {v0 v1 w} {Q : Value → World → Prop} (h : mwpB Go.Proofs.Tryz.prog m95 (argEnv [v0, v1]) [] w (fun e ds w => ds = [] ∧ resW Go.Proofs.Tryz.prog [.tmp 2] e w fun v => Q v w) (fun _ _ _ _ => False) (fun e ds w => ds = [] ∧ resW Go.Proofs.Tryz.prog [.tmp 2] e w fun v => Q v w) (fun _ _ _ _ => False) ⟨⟩) : Rets Go.Proofs.Tryz.prog 95 #[v0, v1] w Q :=
  rets_of_mwp follows_mo Go.Proofs.Tryz.func95 pl95 st95 ok95 (by kernel_rfl) h
/-- (*continuo/effect.history).ago -/
def m100 : MC := (.seq (.ops [⟨some 4, .assign (.const (.int .i64 0)), 3, none⟩])
    (.seq (.seq (.ops [⟨some 5, .move (.tmp 1), 3, none⟩, ⟨some 6, .move (.tmp 0), 169, none⟩, ⟨some 7, .nilCheck (.tmp 6), 0, none⟩, ⟨some 8, .fieldAddr 103 (.tmp 7) 0, 0, none⟩, ⟨some 9, .load 22 (.tmp 8), 22, none⟩, ⟨some 10, .call { callee := .builtin .len, args := #[.tmp 9], argTypes := #[22] }, 3, none⟩, ⟨some 11, .binOp .gtr 3 (.tmp 5) (.tmp 10) 3, 4, none⟩])
    (.cond (.tmp 11) (.seq (.ops [⟨some 4, .assign (.const (.int .i64 0)), 3, none⟩])
    .ret) .skip))
    (.seq (.draw (.take ⟨some 12, .move (.tmp 0), 169, none⟩ (.take ⟨some 13, .nilCheck (.tmp 12), 0, none⟩ (.take ⟨some 14, .fieldAddr 103 (.tmp 13) 0, 0, none⟩ (.take ⟨some 15, .load 22 (.tmp 14), 22, none⟩ (.take ⟨some 16, .move (.tmp 0), 169, none⟩ (.take ⟨some 17, .nilCheck (.tmp 16), 0, none⟩ (.take ⟨some 18, .fieldAddr 103 (.tmp 17) 1, 0, none⟩ (.take ⟨some 19, .load 3 (.tmp 18), 3, none⟩ (.take ⟨some 20, .move (.tmp 1), 3, none⟩ (.take ⟨some 21, .binOp .add 3 (.tmp 19) (.tmp 20) 3, 3, none⟩ (.take ⟨some 22, .binOp .sub 3 (.tmp 21) (.const (.int .i64 1)) 3, 3, none⟩ (.take ⟨some 23, .move (.tmp 0), 169, none⟩ (.take ⟨some 24, .nilCheck (.tmp 23), 0, none⟩ (.take ⟨some 25, .fieldAddr 103 (.tmp 24) 0, 0, none⟩ (.take ⟨some 26, .load 22 (.tmp 25), 22, none⟩ (.take ⟨some 27, .call { callee := .builtin .len, args := #[.tmp 26], argTypes := #[22] }, 3, none⟩ (.take ⟨some 28, .binOp .rem 3 (.tmp 22) (.tmp 27) 3, 3, none⟩ (.take ⟨some 29, .indexAddr 22 (.tmp 15) (.tmp 28), 0, none⟩ (.take ⟨some 30, .load 3 (.tmp 29), 3, none⟩ (.take ⟨some 4, .assign (.tmp 30), 3, none⟩ .done)))))))))))))))))))))
    .ret)))
def pl100 : Nat → Plan := fun id => if id = 3 then (.take 0 (.take 1 (.take 2 (.take 3 (.take 4 (.take 5 (.take 6 (.take 7 (.take 8 (.take 9 (.take 10 (.take 11 (.take 12 (.take 13 (.take 14 (.take 15 (.take 16 (.take 17 (.take 18 (.take 19 .done)))))))))))))))))))) else .done
theorem st100 : Go.Proofs.Tryz.f100.body.map (strip pl100) = some m100 := by kernel_rfl
theorem ok100 : okB pl100 Go.Proofs.Tryz.f100 2 = true := by kernel_rfl
theorem en100 {v0 v1 w} {Q : Value → World → Prop} (h : mwpB Go.Proofs.Tryz.prog m100 (argEnv [v0, v1]) [] w (fun e ds w => ds = [] ∧ resW Go.Proofs.Tryz.prog [.tmp 4] e w fun v => Q v w) (fun _ _ _ _ => False) (fun e ds w => ds = [] ∧ resW Go.Proofs.Tryz.prog [.tmp 4] e w fun v => Q v w) (fun _ _ _ _ => False) ⟨⟩) : Rets Go.Proofs.Tryz.prog 100 #[v0, v1] w Q :=
  rets_of_mwp follows_mo Go.Proofs.Tryz.func100 pl100 st100 ok100 (by kernel_rfl) h
/-- (*continuo/effect.history).push -/
def m101 : MC := (.seq (.ops [⟨some 4, .move (.tmp 0), 169, none⟩, ⟨some 5, .nilCheck (.tmp 4), 0, none⟩, ⟨some 6, .fieldAddr 103 (.tmp 5) 0, 0, none⟩, ⟨some 7, .load 22 (.tmp 6), 22, none⟩, ⟨some 8, .call { callee := .builtin .len, args := #[.tmp 7], argTypes := #[22] }, 3, none⟩, ⟨some 9, .binOp .gtr 3 (.tmp 8) (.const (.int .i64 0)) 3, 4, none⟩])
    (.cond (.tmp 9) (.seq (.draw (.take ⟨some 10, .move (.tmp 0), 169, none⟩ (.take ⟨some 11, .move (.tmp 0), 169, none⟩ (.take ⟨some 12, .nilCheck (.tmp 11), 0, none⟩ (.take ⟨some 13, .fieldAddr 103 (.tmp 12) 1, 0, none⟩ (.take ⟨some 14, .load 3 (.tmp 13), 3, none⟩ (.take ⟨some 15, .move (.tmp 0), 169, none⟩ (.take ⟨some 16, .nilCheck (.tmp 15), 0, none⟩ (.take ⟨some 17, .fieldAddr 103 (.tmp 16) 0, 0, none⟩ (.take ⟨some 18, .load 22 (.tmp 17), 22, none⟩ (.take ⟨some 19, .call { callee := .builtin .len, args := #[.tmp 18], argTypes := #[22] }, 3, none⟩ (.take ⟨some 20, .binOp .add 3 (.tmp 14) (.tmp 19) 3, 3, none⟩ (.take ⟨some 21, .binOp .sub 3 (.tmp 20) (.const (.int .i64 1)) 3, 3, none⟩ (.take ⟨some 22, .move (.tmp 0), 169, none⟩ (.take ⟨some 23, .nilCheck (.tmp 22), 0, none⟩ (.take ⟨some 24, .fieldAddr 103 (.tmp 23) 0, 0, none⟩ (.take ⟨some 25, .load 22 (.tmp 24), 22, none⟩ (.take ⟨some 26, .call { callee := .builtin .len, args := #[.tmp 25], argTypes := #[22] }, 3, none⟩ (.take ⟨some 27, .binOp .rem 3 (.tmp 21) (.tmp 26) 3, 3, none⟩ (.take ⟨some 28, .nilCheck (.tmp 10), 0, none⟩ (.take ⟨some 29, .fieldAddr 103 (.tmp 28) 1, 0, none⟩ (.altL ⟨none, .store 3 (.tmp 29) (.tmp 27), 0, none⟩ .done .none))))))))))))))))))))))
    (.draw (.take ⟨some 30, .move (.tmp 0), 169, none⟩ (.take ⟨some 31, .nilCheck (.tmp 30), 0, none⟩ (.take ⟨some 32, .fieldAddr 103 (.tmp 31) 0, 0, none⟩ (.take ⟨some 33, .load 22 (.tmp 32), 22, none⟩ (.take ⟨some 34, .move (.tmp 0), 169, none⟩ (.take ⟨some 35, .nilCheck (.tmp 34), 0, none⟩ (.take ⟨some 36, .fieldAddr 103 (.tmp 35) 1, 0, none⟩ (.take ⟨some 37, .load 3 (.tmp 36), 3, none⟩ (.take ⟨some 38, .move (.tmp 1), 3, none⟩ (.take ⟨some 39, .indexAddr 22 (.tmp 33) (.tmp 37), 0, none⟩ (.altL ⟨none, .store 3 (.tmp 39) (.tmp 38), 0, none⟩ .done .none))))))))))))) .skip))
def pl101 : Nat → Plan := fun id => if id = 1 then (.take 0 (.take 1 (.take 2 (.take 3 (.take 4 (.take 5 (.take 6 (.take 7 (.take 8 (.take 9 (.take 10 (.take 11 (.take 12 (.take 13 (.take 14 (.take 15 (.take 16 (.take 17 (.take 18 (.take 19 (.altL 20 .done .none))))))))))))))))))))) else if id = 2 then (.take 0 (.take 1 (.take 2 (.take 3 (.take 4 (.take 5 (.take 6 (.take 7 (.take 8 (.take 9 (.altL 10 .done .none))))))))))) else .done
theorem st101 : Go.Proofs.Tryz.f101.body.map (strip pl101) = some m101 := by kernel_rfl
theorem ok101 : okB pl101 Go.Proofs.Tryz.f101 2 = true := by kernel_rfl
theorem en101 {v0 v1 w} {Q : Value → World → Prop} (h : mwpB Go.Proofs.Tryz.prog m101 (argEnv [v0, v1]) [] w (fun e ds w => ds = [] ∧ resW Go.Proofs.Tryz.prog [] e w fun v => Q v w) (fun _ _ _ _ => False) (fun e ds w => ds = [] ∧ resW Go.Proofs.Tryz.prog [] e w fun v => Q v w) (fun _ _ _ _ => False) ⟨⟩) : Rets Go.Proofs.Tryz.prog 101 #[v0, v1] w Q :=
  rets_of_mwp follows_mo Go.Proofs.Tryz.func101 pl101 st101 ok101 (by kernel_rfl) h
/-- (*continuo/effect.scanner).number -/
def m102 : MC := (.seq (.ops [⟨some 2, .assign (.const (.int .i64 0)), 3, none⟩])
    (.seq (.seq (.ops [⟨some 5, .move (.tmp 0), 84, none⟩, ⟨some 6, .nilCheck (.tmp 5), 0, none⟩, ⟨some 7, .fieldAddr 88 (.tmp 6) 0, 0, none⟩, ⟨some 8, .load 85 (.tmp 7), 85, none⟩, ⟨some 9, .call { callee := .builtin .len, args := #[.tmp 8], argTypes := #[85] }, 3, none⟩, ⟨some 10, .binOp .eql 3 (.tmp 9) (.const (.int .i64 0)) 3, 4, none⟩])
    (.cond (.tmp 10) (.ops [⟨some 11, .build 140 #[], 140, none⟩, ⟨some 12, .makeInterface 140 (.tmp 11), 20, none⟩, ⟨none, .panic (.tmp 12), 0, none⟩]) .skip))
    (.seq (.ops [⟨some 14, .move (.tmp 0), 84, none⟩, ⟨some 15, .nilCheck (.tmp 14), 0, none⟩, ⟨some 16, .fieldAddr 88 (.tmp 15) 0, 0, none⟩, ⟨some 17, .load 85 (.tmp 16), 85, none⟩, ⟨some 18, .indexAddr 85 (.tmp 17) (.const (.int .i64 0)), 0, none⟩, ⟨some 19, .load 9 (.tmp 18), 9, none⟩, ⟨some 20, .call { callee := .value (.func 115), args := #[.tmp 19], argTypes := #[9] }, 179, none⟩, ⟨some 13, .move (.tmp 20), 179, none⟩, ⟨some 21, .extract (.tmp 13) 0, 3, none⟩, ⟨some 22, .extract (.tmp 13) 1, 178, none⟩, ⟨some 3, .assign (.tmp 21), 3, none⟩, ⟨some 4, .assign (.tmp 22), 178, none⟩])
    (.seq (.seq (.draw (.take ⟨some 23, .move (.tmp 4), 178, none⟩ (.take ⟨some 24, .binOp .neq 178 (.tmp 23) (.const .nilIface) 178, 4, none⟩ (.take ⟨some 25, .move (.tmp 24), 4, none⟩ (.take ⟨some 26, .move (.tmp 3), 3, some (some 25, false)⟩ (.take ⟨some 28, .move (.tmp 0), 84, some (some 25, false)⟩ (.take ⟨some 29, .nilCheck (.tmp 28), 0, some (some 25, false)⟩ (.take ⟨some 30, .fieldAddr 88 (.tmp 29) 0, 0, some (some 25, false)⟩ (.take ⟨some 31, .load 85 (.tmp 30), 85, some (some 25, false)⟩ (.take ⟨some 32, .indexAddr 85 (.tmp 31) (.const (.int .i64 0)), 0, some (some 25, false)⟩ (.take ⟨some 33, .load 9 (.tmp 32), 9, some (some 25, false)⟩ (.alt ⟨some 27, .call { callee := .value (.func 105), args := #[.tmp 26], argTypes := #[3] }, 9, some (some 25, false)⟩ (.take ⟨some 34, .binOp .neq 9 (.tmp 27) (.tmp 33) 9, 4, some (some 25, false)⟩ (.take ⟨some 35, .pick (.tmp 25) (.const (.bool true)) (.tmp 34), 4, none⟩ .done)) .none))))))))))))
    (.cond (.tmp 35) (.ops [⟨some 36, .build 140 #[], 140, none⟩, ⟨some 37, .makeInterface 140 (.tmp 36), 20, none⟩, ⟨none, .panic (.tmp 37), 0, none⟩]) .skip))
    (.seq (.ops [⟨some 38, .move (.tmp 0), 84, none⟩, ⟨some 39, .move (.tmp 0), 84, none⟩, ⟨some 40, .nilCheck (.tmp 39), 0, none⟩, ⟨some 41, .fieldAddr 88 (.tmp 40) 0, 0, none⟩, ⟨some 42, .load 85 (.tmp 41), 85, none⟩, ⟨some 43, .slice 85 (.tmp 42) (some (.const (.int .i64 1))) none none, 85, none⟩, ⟨some 44, .nilCheck (.tmp 38), 0, none⟩, ⟨some 45, .fieldAddr 88 (.tmp 44) 0, 0, none⟩, ⟨none, .store 85 (.tmp 45) (.tmp 43), 0, none⟩])
    (.seq (.ops [⟨some 46, .move (.tmp 3), 3, none⟩, ⟨some 2, .assign (.tmp 46), 3, none⟩])
    .ret))))))
def pl102 : Nat → Plan := fun id => if id = 4 then (.take 0 (.take 1 (.take 2 (.take 3 (.take 5 (.take 6 (.take 7 (.take 8 (.take 9 (.take 10 (.alt 4 (.take 11 (.take 12 .done)) .none))))))))))) else .done
theorem st102 : Go.Proofs.Tryz.f102.body.map (strip pl102) = some m102 := by kernel_rfl
theorem ok102 : okB pl102 Go.Proofs.Tryz.f102 1 = true := by kernel_rfl
theorem ex102 {v0 w} {Q : Value → World → Prop} {X : List PanicEntry → World → Prop} (h : mwpB Go.Proofs.Tryz.prog m102 (argEnv [v0]) [] w (fun e ds w => ds = [] ∧ resW Go.Proofs.Tryz.prog [.tmp 2] e w fun v => Q v w) (fun _ _ _ _ => False) (fun e ds w => ds = [] ∧ resW Go.Proofs.Tryz.prog [.tmp 2] e w fun v => Q v w) (fun _ ch ds w => ds = [] ∧ X ch w) ⟨⟩) : Ends Go.Proofs.Tryz.prog 102 #[v0] w Q X :=
  ends_of_mwp follows_mo Go.Proofs.Tryz.func102 pl102 st102 ok102 (by kernel_rfl) h
/-- (*continuo/effect.scanner).sample -/
def m103 : MC := (.seq (.ops [⟨some 2, .assign (.const (.int .i64 0)), 3, none⟩])
    (.seq (.ops [⟨some 4, .move (.tmp 0), 84, none⟩, ⟨some 5, .call { callee := .value (.func 102), args := #[.tmp 4], argTypes := #[84] }, 3, none⟩, ⟨some 3, .assign (.tmp 5), 3, none⟩])
    (.seq (.seq (.ops [⟨some 6, .move (.tmp 3), 3, none⟩, ⟨some 7, .call { callee := .value (.func 53), args := #[.tmp 6, .const (.int .i64 (-8388607)), .const (.int .i64 8388607)], argTypes := #[3, 3, 3] }, 4, none⟩, ⟨some 8, .unOp .not 4 (.tmp 7), 4, none⟩])
    (.cond (.tmp 8) (.ops [⟨some 9, .build 140 #[], 140, none⟩, ⟨some 10, .makeInterface 140 (.tmp 9), 20, none⟩, ⟨none, .panic (.tmp 10), 0, none⟩]) .skip))
    (.seq (.ops [⟨some 11, .move (.tmp 3), 3, none⟩, ⟨some 2, .assign (.tmp 11), 3, none⟩])
    .ret))))
def pl103 : Nat → Plan := fun _ => .done
theorem st103 : Go.Proofs.Tryz.f103.body.map (strip pl103) = some m103 := by kernel_rfl
theorem ok103 : okB pl103 Go.Proofs.Tryz.f103 1 = true := by kernel_rfl
theorem ex103 {v0 w} {Q : Value → World → Prop} {X : List PanicEntry → World → Prop} (h : mwpB Go.Proofs.Tryz.prog m103 (argEnv [v0]) [] w (fun e ds w => ds = [] ∧ resW Go.Proofs.Tryz.prog [.tmp 2] e w fun v => Q v w) (fun _ _ _ _ => False) (fun e ds w => ds = [] ∧ resW Go.Proofs.Tryz.prog [.tmp 2] e w fun v => Q v w) (fun _ ch ds w => ds = [] ∧ X ch w) ⟨⟩) : Ends Go.Proofs.Tryz.prog 103 #[v0] w Q X :=
  ends_of_mwp follows_mo Go.Proofs.Tryz.func103 pl103 st103 ok103 (by kernel_rfl) h
/-- continuo/effect.writer$1 -/
def m104 : MC := (.seq (.ops [⟨some 5, .move (.tmp 0), 22, none⟩, ⟨some 6, .call { callee := .builtin .len, args := #[.tmp 5], argTypes := #[22] }, 3, none⟩, ⟨some 7, .move (.const (.int .i64 0)), 3, none⟩])
    (.block 0 (.loop (.seq (.ops [⟨some 8, .binOp .lss 3 (.tmp 7) (.tmp 6) 3, 0, none⟩])
    (.seq (.cond (.tmp 8) .skip (.exit 0))
    (.seq (.block 1 (.seq (.ops [⟨some 9, .indexAddr 22 (.tmp 5) (.tmp 7), 0, none⟩, ⟨some 10, .load 3 (.tmp 9), 3, none⟩, ⟨some 4, .assign (.tmp 10), 3, none⟩])
    (.draw (.take ⟨some 11, .load 85 (.tmp 1), 85, none⟩ (.take ⟨some 12, .move (.tmp 4), 3, none⟩ (.alt ⟨some 13, .call { callee := .value (.func 105), args := #[.tmp 12], argTypes := #[3] }, 9, none⟩ (.alt ⟨some 14, .buildSlice 85 1 #[(0, .tmp 13)], 85, none⟩ (.alt ⟨some 15, .call { callee := .builtin .append, args := #[.tmp 11, .tmp 14], argTypes := #[85, 85] }, 85, none⟩ (.altL ⟨none, .store 85 (.tmp 1) (.tmp 15), 0, none⟩ .done .none) .none) .none) .none))))))
    (.ops [⟨some 16, .binOp .add 3 (.tmp 7) (.const (.int .i64 1)) 3, 3, none⟩, ⟨some 7, .move (.tmp 16), 3, none⟩])))))))
def pl104 : Nat → Plan := fun id => if id = 3 then (.take 0 (.take 1 (.alt 2 (.alt 3 (.alt 4 (.altL 5 .done .none) .none) .none) .none))) else .done
theorem st104 : Go.Proofs.Tryz.f104.body.map (strip pl104) = some m104 := by kernel_rfl
theorem ok104 : okB pl104 Go.Proofs.Tryz.f104 2 = true := by kernel_rfl
theorem en104 {v0 v1 w} {Q : Value → World → Prop} (h : mwpB Go.Proofs.Tryz.prog m104 (argEnv [v0, v1]) [] w (fun e ds w => ds = [] ∧ resW Go.Proofs.Tryz.prog [] e w fun v => Q v w) (fun _ _ _ _ => False) (fun e ds w => ds = [] ∧ resW Go.Proofs.Tryz.prog [] e w fun v => Q v w) (fun _ _ _ _ => False) ⟨⟩) : Rets Go.Proofs.Tryz.prog 104 #[v0, v1] w Q :=
  rets_of_mwp follows_mo Go.Proofs.Tryz.func104 pl104 st104 ok104 (by kernel_rfl) h
/-- continuo/effect.writer$2 -/
def m106 : MC := (.seq (.ops [⟨some 1, .assign (.const (.string { data := #[] })), 9, none⟩])
    (.seq (.ops [⟨some 2, .load 85 (.tmp 0), 85, none⟩, ⟨some 3, .call { callee := .value (.func 107), args := #[.tmp 2, .const (.string { data := #[32] })], argTypes := #[85, 9] }, 9, none⟩, ⟨some 1, .assign (.tmp 3), 9, none⟩])
    .ret))
def pl106 : Nat → Plan := fun _ => .done
theorem st106 : Go.Proofs.Tryz.f106.body.map (strip pl106) = some m106 := by kernel_rfl
theorem ok106 : okB pl106 Go.Proofs.Tryz.f106 1 = true := by kernel_rfl
theorem en106 {v0 w} {Q : Value → World → Prop} (h : mwpB Go.Proofs.Tryz.prog m106 (argEnv [v0]) [] w (fun e ds w => ds = [] ∧ resW Go.Proofs.Tryz.prog [.tmp 1] e w fun v => Q v w) (fun _ _ _ _ => False) (fun e ds w => ds = [] ∧ resW Go.Proofs.Tryz.prog [.tmp 1] e w fun v => Q v w) (fun _ _ _ _ => False) ⟨⟩) : Rets Go.Proofs.Tryz.prog 106 #[v0] w Q :=
  rets_of_mwp follows_mo Go.Proofs.Tryz.func106 pl106 st106 ok106 (by kernel_rfl) h
/-- continuo/effect.taps$1 -/
def m111 : MC := (.seq (.ops [⟨some 2, .assign (.const (.bool false)), 4, none⟩])
    (.seq (.ops [⟨some 3, .move (.tmp 0), 3, none⟩, ⟨some 4, .call { callee := .value (.func 53), args := #[.tmp 3, .const (.int .i64 (-65536)), .const (.int .i64 65536)], argTypes := #[3, 3, 3] }, 4, none⟩, ⟨some 5, .unOp .not 4 (.tmp 4), 4, none⟩, ⟨some 2, .assign (.tmp 5), 4, none⟩])
    .ret))
def pl111 : Nat → Plan := fun _ => .done
theorem st111 : Go.Proofs.Tryz.f111.body.map (strip pl111) = some m111 := by kernel_rfl
theorem ok111 : okB pl111 Go.Proofs.Tryz.f111 1 = true := by kernel_rfl
theorem en111 {v0 w} {Q : Value → World → Prop} (h : mwpB Go.Proofs.Tryz.prog m111 (argEnv [v0]) [] w (fun e ds w => ds = [] ∧ resW Go.Proofs.Tryz.prog [.tmp 2] e w fun v => Q v w) (fun _ _ _ _ => False) (fun e ds w => ds = [] ∧ resW Go.Proofs.Tryz.prog [.tmp 2] e w fun v => Q v w) (fun _ _ _ _ => False) ⟨⟩) : Rets Go.Proofs.Tryz.prog 111 #[v0] w Q :=
  rets_of_mwp follows_mo Go.Proofs.Tryz.func111 pl111 st111 ok111 (by kernel_rfl) h
/-- slices.Clone[[][2]int,[2]int] -/
def m112 : MC := (.seq (.ops [⟨some 2, .assign (.const (.slice none 0 0)), 132, none⟩])
    (.seq (.seq (.ops [⟨some 3, .move (.tmp 0), 132, none⟩, ⟨some 4, .binOp .eql 132 (.tmp 3) (.const (.slice none 0 0)) 132, 4, none⟩])
    (.cond (.tmp 4) (.seq (.ops [⟨some 2, .assign (.const (.slice none 0 0)), 132, none⟩])
    .ret) .skip))
    (.seq (.ops [⟨some 5, .buildSlice 132 0 #[], 132, none⟩, ⟨some 6, .move (.tmp 0), 132, none⟩, ⟨some 7, .call { callee := .builtin .append, args := #[.tmp 5, .tmp 6], argTypes := #[132, 132] }, 132, none⟩, ⟨some 2, .assign (.tmp 7), 132, none⟩])
    .ret)))
def pl112 : Nat → Plan := fun _ => .done
theorem st112 : Go.Proofs.Tryz.f112.body.map (strip pl112) = some m112 := by kernel_rfl
theorem ok112 : okB pl112 Go.Proofs.Tryz.f112 1 = true := by kernel_rfl
theorem en112 {v0 w} {Q : Value → World → Prop} (h : mwpB Go.Proofs.Tryz.prog m112 (argEnv [v0]) [] w (fun e ds w => ds = [] ∧ resW Go.Proofs.Tryz.prog [.tmp 2] e w fun v => Q v w) (fun _ _ _ _ => False) (fun e ds w => ds = [] ∧ resW Go.Proofs.Tryz.prog [.tmp 2] e w fun v => Q v w) (fun _ _ _ _ => False) ⟨⟩) : Rets Go.Proofs.Tryz.prog 112 #[v0] w Q :=
  rets_of_mwp follows_mo Go.Proofs.Tryz.func112 pl112 st112 ok112 (by kernel_rfl) h
/-- slices.IndexFunc[[]int,int] -/
def m113 : MC := (.seq (.ops [⟨some 4, .assign (.const (.int .i64 0)), 3, none⟩])
    (.seq (.seq (.ops [⟨some 6, .move (.tmp 0), 22, none⟩, ⟨some 7, .call { callee := .builtin .len, args := #[.tmp 6], argTypes := #[22] }, 3, none⟩, ⟨some 8, .move (.const (.int .i64 0)), 3, none⟩])
    (.block 0 (.loop (.seq (.ops [⟨some 9, .binOp .lss 3 (.tmp 8) (.tmp 7) 3, 0, none⟩])
    (.seq (.cond (.tmp 9) .skip (.exit 0))
    (.seq (.block 1 (.seq (.ops [⟨some 10, .move (.tmp 8), 3, none⟩, ⟨some 5, .assign (.tmp 10), 3, none⟩])
    (.seq (.ops [⟨some 11, .move (.tmp 1), 138, none⟩, ⟨some 12, .move (.tmp 0), 22, none⟩, ⟨some 13, .move (.tmp 5), 3, none⟩, ⟨some 14, .indexAddr 22 (.tmp 12) (.tmp 13), 0, none⟩, ⟨some 15, .load 3 (.tmp 14), 3, none⟩, ⟨some 16, .call { callee := .value (.tmp 11), args := #[.tmp 15], argTypes := #[3] }, 4, none⟩])
    (.cond (.tmp 16) (.seq (.ops [⟨some 17, .move (.tmp 5), 3, none⟩, ⟨some 4, .assign (.tmp 17), 3, none⟩])
    .ret) .skip))))
    (.ops [⟨some 18, .binOp .add 3 (.tmp 8) (.const (.int .i64 1)) 3, 3, none⟩, ⟨some 8, .move (.tmp 18), 3, none⟩])))))))
    (.seq (.ops [⟨some 4, .assign (.const (.int .i64 (-1))), 3, none⟩])
    .ret)))
def pl113 : Nat → Plan := fun _ => .done
theorem st113 : Go.Proofs.Tryz.f113.body.map (strip pl113) = some m113 := by kernel_rfl
theorem ok113 : okB pl113 Go.Proofs.Tryz.f113 2 = true := by kernel_rfl
theorem en113 {v0 v1 w} {Q : Value → World → Prop} (h : mwpB Go.Proofs.Tryz.prog m113 (argEnv [v0, v1]) [] w (fun e ds w => ds = [] ∧ resW Go.Proofs.Tryz.prog [.tmp 4] e w fun v => Q v w) (fun _ _ _ _ => False) (fun e ds w => ds = [] ∧ resW Go.Proofs.Tryz.prog [.tmp 4] e w fun v => Q v w) (fun _ _ _ _ => False) ⟨⟩) : Rets Go.Proofs.Tryz.prog 113 #[v0, v1] w Q :=
  rets_of_mwp follows_mo Go.Proofs.Tryz.func113 pl113 st113 ok113 (by kernel_rfl) h
/-- (*continuo/effect.level).follow -/
def m177 : MC := (.seq (.ops [⟨some 4, .assign (.const (.int .i64 0)), 3, none⟩])
    (.seq (.ops [⟨some 7, .move (.tmp 1), 3, none⟩, ⟨some 8, .move (.tmp 1), 3, none⟩, ⟨some 9, .unOp .neg 3 (.tmp 8), 3, none⟩, ⟨some 10, .call { callee := .builtin .max, args := #[.tmp 7, .tmp 9], argTypes := #[3, 3] }, 3, none⟩, ⟨some 5, .assign (.tmp 10), 3, none⟩])
    (.seq (.ops [⟨some 11, .move (.tmp 0), 247, none⟩, ⟨some 12, .nilCheck (.tmp 11), 0, none⟩, ⟨some 13, .fieldAddr 98 (.tmp 12) 3, 0, none⟩, ⟨some 14, .load 3 (.tmp 13), 3, none⟩, ⟨some 6, .assign (.tmp 14), 3, none⟩])
    (.seq (.seq (.ops [⟨some 15, .move (.tmp 5), 3, none⟩, ⟨some 16, .move (.tmp 0), 247, none⟩, ⟨some 17, .nilCheck (.tmp 16), 0, none⟩, ⟨some 18, .fieldAddr 98 (.tmp 17) 4, 0, none⟩, ⟨some 19, .load 3 (.tmp 18), 3, none⟩, ⟨some 20, .binOp .gtr 3 (.tmp 15) (.tmp 19) 3, 4, none⟩])
    (.cond (.tmp 20) (.ops [⟨some 21, .move (.tmp 0), 247, none⟩, ⟨some 22, .nilCheck (.tmp 21), 0, none⟩, ⟨some 23, .fieldAddr 98 (.tmp 22) 2, 0, none⟩, ⟨some 24, .load 3 (.tmp 23), 3, none⟩, ⟨some 6, .assign (.tmp 24), 3, none⟩]) .skip))
    (.seq (.draw (.take ⟨some 25, .move (.tmp 0), 247, none⟩ (.take ⟨some 26, .nilCheck (.tmp 25), 0, none⟩ (.take ⟨some 27, .fieldAddr 98 (.tmp 26) 4, 0, none⟩ (.take ⟨some 28, .load 3 (.tmp 27), 3, none⟩ (.take ⟨some 29, .move (.tmp 5), 3, none⟩ (.take ⟨some 30, .move (.tmp 0), 247, none⟩ (.take ⟨some 31, .nilCheck (.tmp 30), 0, none⟩ (.take ⟨some 32, .fieldAddr 98 (.tmp 31) 4, 0, none⟩ (.take ⟨some 33, .load 3 (.tmp 32), 3, none⟩ (.take ⟨some 34, .binOp .sub 3 (.tmp 29) (.tmp 33) 3, 3, none⟩ (.take ⟨some 35, .move (.tmp 6), 3, none⟩ (.take ⟨some 36, .binOp .mul 3 (.tmp 34) (.tmp 35) 3, 3, none⟩ (.alt ⟨some 37, .call { callee := .value (.func 70), args := #[.tmp 36], argTypes := #[3] }, 3, none⟩ (.take ⟨some 38, .binOp .add 3 (.tmp 28) (.tmp 37) 3, 3, none⟩ (.take ⟨some 39, .nilCheck (.tmp 25), 0, none⟩ (.take ⟨some 40, .fieldAddr 98 (.tmp 39) 4, 0, none⟩ (.altL ⟨none, .store 3 (.tmp 40) (.tmp 38), 0, none⟩ .done .none)))) .none))))))))))))))
    (.seq (.seq (.draw (.take ⟨some 41, .move (.tmp 0), 247, none⟩ (.take ⟨some 42, .nilCheck (.tmp 41), 0, none⟩ (.take ⟨some 43, .fieldAddr 98 (.tmp 42) 4, 0, none⟩ (.take ⟨some 44, .load 3 (.tmp 43), 3, none⟩ (.take ⟨some 45, .move (.tmp 0), 247, none⟩ (.take ⟨some 46, .nilCheck (.tmp 45), 0, none⟩ (.take ⟨some 47, .fieldAddr 98 (.tmp 46) 0, 0, none⟩ (.take ⟨some 48, .load 3 (.tmp 47), 3, none⟩ (.take ⟨some 49, .binOp .leq 3 (.tmp 44) (.tmp 48) 3, 4, none⟩ .done))))))))))
    (.cond (.tmp 49) (.seq (.ops [⟨some 4, .assign (.const (.int .i64 65536)), 3, none⟩])
    .ret) .skip))
    (.seq (.draw (.take ⟨some 50, .move (.tmp 0), 247, none⟩ (.take ⟨some 51, .nilCheck (.tmp 50), 0, none⟩ (.take ⟨some 52, .fieldAddr 98 (.tmp 51) 0, 0, none⟩ (.take ⟨some 53, .load 3 (.tmp 52), 3, none⟩ (.take ⟨some 54, .binOp .mul 3 (.tmp 53) (.const (.int .i64 65536)) 3, 3, none⟩ (.take ⟨some 55, .move (.tmp 0), 247, none⟩ (.take ⟨some 56, .nilCheck (.tmp 55), 0, none⟩ (.take ⟨some 57, .fieldAddr 98 (.tmp 56) 4, 0, none⟩ (.take ⟨some 58, .load 3 (.tmp 57), 3, none⟩ (.take ⟨some 59, .move (.tmp 0), 247, none⟩ (.take ⟨some 60, .nilCheck (.tmp 59), 0, none⟩ (.take ⟨some 61, .fieldAddr 98 (.tmp 60) 0, 0, none⟩ (.take ⟨some 62, .load 3 (.tmp 61), 3, none⟩ (.take ⟨some 63, .binOp .sub 3 (.tmp 58) (.tmp 62) 3, 3, none⟩ (.take ⟨some 64, .binOp .mul 3 (.tmp 63) (.const (.int .i64 65536)) 3, 3, none⟩ (.take ⟨some 65, .binOp .mul 3 (.tmp 64) (.const (.int .i64 65536)) 3, 3, none⟩ (.take ⟨some 66, .move (.tmp 0), 247, none⟩ (.take ⟨some 67, .nilCheck (.tmp 66), 0, none⟩ (.take ⟨some 68, .fieldAddr 98 (.tmp 67) 1, 0, none⟩ (.take ⟨some 69, .load 3 (.tmp 68), 3, none⟩ (.take ⟨some 70, .binOp .quo 3 (.tmp 65) (.tmp 69) 3, 3, none⟩ (.take ⟨some 71, .binOp .add 3 (.tmp 54) (.tmp 70) 3, 3, none⟩ (.take ⟨some 72, .move (.tmp 0), 247, none⟩ (.take ⟨some 73, .nilCheck (.tmp 72), 0, none⟩ (.take ⟨some 74, .fieldAddr 98 (.tmp 73) 4, 0, none⟩ (.take ⟨some 75, .load 3 (.tmp 74), 3, none⟩ (.take ⟨some 76, .binOp .quo 3 (.tmp 71) (.tmp 75) 3, 3, none⟩ (.take ⟨some 4, .assign (.tmp 76), 3, none⟩ .done)))))))))))))))))))))))))))))
    .ret)))))))
def pl177 : Nat → Plan := fun id => if id = 5 then (.take 0 (.take 1 (.take 2 (.take 3 (.take 4 (.take 5 (.take 6 (.take 7 (.take 8 (.take 9 (.take 10 (.take 11 (.alt 12 (.take 13 (.take 14 (.take 15 (.altL 16 .done .none)))) .none))))))))))))) else if id = 6 then (.take 0 (.take 1 (.take 2 (.take 3 (.take 4 (.take 5 (.take 6 (.take 7 (.take 8 .done))))))))) else if id = 8 then (.take 0 (.take 1 (.take 2 (.take 3 (.take 4 (.take 5 (.take 6 (.take 7 (.take 8 (.take 9 (.take 10 (.take 11 (.take 12 (.take 13 (.take 14 (.take 15 (.take 16 (.take 17 (.take 18 (.take 19 (.take 20 (.take 21 (.take 22 (.take 23 (.take 24 (.take 25 (.take 26 (.take 27 .done)))))))))))))))))))))))))))) else .done
theorem st177 : Go.Proofs.Tryz.f177.body.map (strip pl177) = some m177 := by kernel_rfl
theorem ok177 : okB pl177 Go.Proofs.Tryz.f177 2 = true := by kernel_rfl
theorem en177 {v0 v1 w} {Q : Value → World → Prop} (h : mwpB Go.Proofs.Tryz.prog m177 (argEnv [v0, v1]) [] w (fun e ds w => ds = [] ∧ resW Go.Proofs.Tryz.prog [.tmp 4] e w fun v => Q v w) (fun _ _ _ _ => False) (fun e ds w => ds = [] ∧ resW Go.Proofs.Tryz.prog [.tmp 4] e w fun v => Q v w) (fun _ _ _ _ => False) ⟨⟩) : Rets Go.Proofs.Tryz.prog 177 #[v0, v1] w Q :=
  rets_of_mwp follows_mo Go.Proofs.Tryz.func177 pl177 st177 ok177 (by kernel_rfl) h
/-- (*continuo/effect.presses).resume -/
def m178 : MC := (.ops [⟨some 4, .move (.tmp 0), 96, none⟩, ⟨some 5, .move (.tmp 1), 22, none⟩, ⟨some 6, .indexAddr 22 (.tmp 5) (.const (.int .i64 0)), 0, none⟩, ⟨some 7, .load 3 (.tmp 6), 3, none⟩, ⟨some 8, .nilCheck (.tmp 4), 0, none⟩, ⟨some 9, .fieldAddr 100 (.tmp 8) 0, 0, none⟩, ⟨some 10, .fieldAddr 98 (.tmp 9) 4, 0, none⟩, ⟨none, .store 3 (.tmp 10) (.tmp 7), 0, none⟩])
def pl178 : Nat → Plan := fun _ => .done
theorem st178 : Go.Proofs.Tryz.f178.body.map (strip pl178) = some m178 := by kernel_rfl
theorem ok178 : okB pl178 Go.Proofs.Tryz.f178 2 = true := by kernel_rfl
theorem en178 {v0 v1 w} {Q : Value → World → Prop} (h : mwpB Go.Proofs.Tryz.prog m178 (argEnv [v0, v1]) [] w (fun e ds w => ds = [] ∧ resW Go.Proofs.Tryz.prog [] e w fun v => Q v w) (fun _ _ _ _ => False) (fun e ds w => ds = [] ∧ resW Go.Proofs.Tryz.prog [] e w fun v => Q v w) (fun _ _ _ _ => False) ⟨⟩) : Rets Go.Proofs.Tryz.prog 178 #[v0, v1] w Q :=
  rets_of_mwp follows_mo Go.Proofs.Tryz.func178 pl178 st178 ok178 (by kernel_rfl) h
/-- (*continuo/effect.presses).state -/
def m179 : MC := (.seq (.ops [⟨some 2, .assign (.const (.slice none 0 0)), 22, none⟩])
    (.seq (.ops [⟨some 3, .move (.tmp 0), 96, none⟩, ⟨some 4, .nilCheck (.tmp 3), 0, none⟩, ⟨some 5, .fieldAddr 100 (.tmp 4) 0, 0, none⟩, ⟨some 6, .fieldAddr 98 (.tmp 5) 4, 0, none⟩, ⟨some 7, .load 3 (.tmp 6), 3, none⟩, ⟨some 8, .buildSlice 22 1 #[(0, .tmp 7)], 22, none⟩, ⟨some 2, .assign (.tmp 8), 22, none⟩])
    .ret))
def pl179 : Nat → Plan := fun _ => .done
theorem st179 : Go.Proofs.Tryz.f179.body.map (strip pl179) = some m179 := by kernel_rfl
theorem ok179 : okB pl179 Go.Proofs.Tryz.f179 1 = true := by kernel_rfl
theorem en179 {v0 w} {Q : Value → World → Prop} (h : mwpB Go.Proofs.Tryz.prog m179 (argEnv [v0]) [] w (fun e ds w => ds = [] ∧ resW Go.Proofs.Tryz.prog [.tmp 2] e w fun v => Q v w) (fun _ _ _ _ => False) (fun e ds w => ds = [] ∧ resW Go.Proofs.Tryz.prog [.tmp 2] e w fun v => Q v w) (fun _ _ _ _ => False) ⟨⟩) : Rets Go.Proofs.Tryz.prog 179 #[v0] w Q :=
  rets_of_mwp follows_mo Go.Proofs.Tryz.func179 pl179 st179 ok179 (by kernel_rfl) h
/-- (*continuo/effect.presses).step -/
def m180 : MC := (.seq (.ops [⟨some 4, .assign (.const (.int .i64 0)), 3, none⟩])
    (.seq (.ops [⟨some 5, .move (.tmp 1), 3, none⟩, ⟨some 6, .move (.tmp 0), 96, none⟩, ⟨some 7, .nilCheck (.tmp 6), 0, none⟩, ⟨some 8, .fieldAddr 100 (.tmp 7) 0, 0, none⟩, ⟨some 9, .move (.tmp 1), 3, none⟩, ⟨some 10, .call { callee := .value (.func 177), args := #[.tmp 8, .tmp 9], argTypes := #[98, 3] }, 3, none⟩, ⟨some 11, .binOp .mul 3 (.tmp 5) (.tmp 10) 3, 3, none⟩, ⟨some 12, .call { callee := .value (.func 70), args := #[.tmp 11], argTypes := #[3] }, 3, none⟩, ⟨some 4, .assign (.tmp 12), 3, none⟩])
    .ret))
def pl180 : Nat → Plan := fun _ => .done
theorem st180 : Go.Proofs.Tryz.f180.body.map (strip pl180) = some m180 := by kernel_rfl
theorem ok180 : okB pl180 Go.Proofs.Tryz.f180 2 = true := by kernel_rfl
theorem en180 {v0 v1 w} {Q : Value → World → Prop} (h : mwpB Go.Proofs.Tryz.prog m180 (argEnv [v0, v1]) [] w (fun e ds w => ds = [] ∧ resW Go.Proofs.Tryz.prog [.tmp 4] e w fun v => Q v w) (fun _ _ _ _ => False) (fun e ds w => ds = [] ∧ resW Go.Proofs.Tryz.prog [.tmp 4] e w fun v => Q v w) (fun _ _ _ _ => False) ⟨⟩) : Rets Go.Proofs.Tryz.prog 180 #[v0, v1] w Q :=
  rets_of_mwp follows_mo Go.Proofs.Tryz.func180 pl180 st180 ok180 (by kernel_rfl) h
/-- (*continuo/effect.looks).l0 -/
def m181 : MC := (.seq (.ops [⟨some 2, .assign (.const (.int .i64 0)), 3, none⟩])
    (.seq (.ops [⟨some 3, .move (.tmp 0), 101, none⟩, ⟨some 4, .nilCheck (.tmp 3), 0, none⟩, ⟨some 5, .fieldAddr 105 (.tmp 4) 0, 0, none⟩, ⟨some 6, .fieldAddr 98 (.tmp 5) 4, 0, none⟩, ⟨some 7, .load 3 (.tmp 6), 3, none⟩, ⟨some 2, .assign (.tmp 7), 3, none⟩])
    .ret))
def pl181 : Nat → Plan := fun _ => .done
theorem st181 : Go.Proofs.Tryz.f181.body.map (strip pl181) = some m181 := by kernel_rfl
theorem ok181 : okB pl181 Go.Proofs.Tryz.f181 1 = true := by kernel_rfl
theorem en181 {v0 w} {Q : Value → World → Prop} (h : mwpB Go.Proofs.Tryz.prog m181 (argEnv [v0]) [] w (fun e ds w => ds = [] ∧ resW Go.Proofs.Tryz.prog [.tmp 2] e w fun v => Q v w) (fun _ _ _ _ => False) (fun e ds w => ds = [] ∧ resW Go.Proofs.Tryz.prog [.tmp 2] e w fun v => Q v w) (fun _ _ _ _ => False) ⟨⟩) : Rets Go.Proofs.Tryz.prog 181 #[v0] w Q :=
  rets_of_mwp follows_mo Go.Proofs.Tryz.func181 pl181 st181 ok181 (by kernel_rfl) h
/-- (*continuo/effect.looks).resume -/
def m182 : MC := (.seq (.ops [⟨some 4, .move (.tmp 0), 101, none⟩, ⟨some 5, .move (.tmp 1), 22, none⟩, ⟨some 6, .indexAddr 22 (.tmp 5) (.const (.int .i64 0)), 0, none⟩, ⟨some 7, .load 3 (.tmp 6), 3, none⟩, ⟨some 8, .nilCheck (.tmp 4), 0, none⟩, ⟨some 9, .fieldAddr 105 (.tmp 8) 0, 0, none⟩, ⟨some 10, .fieldAddr 98 (.tmp 9) 4, 0, none⟩, ⟨none, .store 3 (.tmp 10) (.tmp 7), 0, none⟩])
    (.draw (.take ⟨some 11, .move (.tmp 0), 101, none⟩ (.take ⟨some 12, .nilCheck (.tmp 11), 0, none⟩ (.take ⟨some 13, .fieldAddr 105 (.tmp 12) 1, 0, none⟩ (.take ⟨some 14, .move (.tmp 1), 22, none⟩ (.take ⟨some 15, .slice 22 (.tmp 14) (some (.const (.int .i64 1))) none none, 22, none⟩ (.alt ⟨some 16, .call { callee := .value (.func 63), args := #[.tmp 13, .tmp 15], argTypes := #[103, 22] }, 0, none⟩ .done .none))))))))
def pl182 : Nat → Plan := fun id => if id = 1 then (.take 0 (.take 1 (.take 2 (.take 3 (.take 4 (.alt 5 .done .none)))))) else .done
theorem st182 : Go.Proofs.Tryz.f182.body.map (strip pl182) = some m182 := by kernel_rfl
theorem ok182 : okB pl182 Go.Proofs.Tryz.f182 2 = true := by kernel_rfl
theorem en182 {v0 v1 w} {Q : Value → World → Prop} (h : mwpB Go.Proofs.Tryz.prog m182 (argEnv [v0, v1]) [] w (fun e ds w => ds = [] ∧ resW Go.Proofs.Tryz.prog [] e w fun v => Q v w) (fun _ _ _ _ => False) (fun e ds w => ds = [] ∧ resW Go.Proofs.Tryz.prog [] e w fun v => Q v w) (fun _ _ _ _ => False) ⟨⟩) : Rets Go.Proofs.Tryz.prog 182 #[v0, v1] w Q :=
  rets_of_mwp follows_mo Go.Proofs.Tryz.func182 pl182 st182 ok182 (by kernel_rfl) h
/-- (*continuo/effect.looks).state -/
def m183 : MC := (.seq (.ops [⟨some 2, .assign (.const (.slice none 0 0)), 22, none⟩])
    (.seq (.draw (.take ⟨some 3, .move (.tmp 0), 101, none⟩ (.take ⟨some 6, .move (.tmp 0), 101, none⟩ (.take ⟨some 7, .nilCheck (.tmp 6), 0, none⟩ (.take ⟨some 8, .fieldAddr 105 (.tmp 7) 1, 0, none⟩ (.alt ⟨some 4, .call { callee := .value (.func 181), args := #[.tmp 3], argTypes := #[101] }, 3, none⟩ (.alt ⟨some 5, .buildSlice 22 1 #[(0, .tmp 4)], 22, none⟩ (.alt ⟨some 9, .call { callee := .value (.func 65), args := #[.tmp 8], argTypes := #[103] }, 22, none⟩ (.alt ⟨some 10, .call { callee := .builtin .append, args := #[.tmp 5, .tmp 9], argTypes := #[22, 22] }, 22, none⟩ (.take ⟨some 2, .assign (.tmp 10), 22, none⟩ .done) .none) .none) (.alt ⟨some 9, .call { callee := .value (.func 65), args := #[.tmp 8], argTypes := #[103] }, 22, none⟩ (.alt ⟨some 5, .buildSlice 22 1 #[(0, .tmp 4)], 22, none⟩ (.alt ⟨some 10, .call { callee := .builtin .append, args := #[.tmp 5, .tmp 9], argTypes := #[22, 22] }, 22, none⟩ (.take ⟨some 2, .assign (.tmp 10), 22, none⟩ .done) .none) .none) .none)) .none))))))
    .ret))
def pl183 : Nat → Plan := fun id => if id = 1 then (.take 0 (.take 3 (.take 4 (.take 5 (.alt 1 (.alt 2 (.alt 6 (.alt 7 (.take 8 .done) .none) .none) (.alt 6 (.alt 2 (.alt 7 (.take 8 .done) .none) .none) .none)) .none))))) else .done
theorem st183 : Go.Proofs.Tryz.f183.body.map (strip pl183) = some m183 := by kernel_rfl
theorem ok183 : okB pl183 Go.Proofs.Tryz.f183 1 = true := by kernel_rfl
theorem en183 {v0 w} {Q : Value → World → Prop} (h : mwpB Go.Proofs.Tryz.prog m183 (argEnv [v0]) [] w (fun e ds w => ds = [] ∧ resW Go.Proofs.Tryz.prog [.tmp 2] e w fun v => Q v w) (fun _ _ _ _ => False) (fun e ds w => ds = [] ∧ resW Go.Proofs.Tryz.prog [.tmp 2] e w fun v => Q v w) (fun _ _ _ _ => False) ⟨⟩) : Rets Go.Proofs.Tryz.prog 183 #[v0] w Q :=
  rets_of_mwp follows_mo Go.Proofs.Tryz.func183 pl183 st183 ok183 (by kernel_rfl) h
/-- (*continuo/effect.looks).step -/
def m184 : MC := (.seq (.ops [⟨some 4, .assign (.const (.int .i64 0)), 3, none⟩])
    (.seq (.ops [⟨some 6, .move (.tmp 0), 101, none⟩, ⟨some 7, .nilCheck (.tmp 6), 0, none⟩, ⟨some 8, .fieldAddr 105 (.tmp 7) 0, 0, none⟩, ⟨some 9, .move (.tmp 1), 3, none⟩, ⟨some 10, .call { callee := .value (.func 177), args := #[.tmp 8, .tmp 9], argTypes := #[98, 3] }, 3, none⟩, ⟨some 5, .assign (.tmp 10), 3, none⟩])
    (.seq (.ops [⟨some 11, .move (.tmp 0), 101, none⟩, ⟨some 12, .nilCheck (.tmp 11), 0, none⟩, ⟨some 13, .fieldAddr 105 (.tmp 12) 1, 0, none⟩, ⟨some 14, .move (.tmp 1), 3, none⟩, ⟨some 15, .call { callee := .value (.func 57), args := #[.tmp 13, .tmp 14], argTypes := #[103, 3] }, 3, none⟩, ⟨some 16, .move (.tmp 5), 3, none⟩, ⟨some 17, .binOp .mul 3 (.tmp 15) (.tmp 16) 3, 3, none⟩, ⟨some 18, .call { callee := .value (.func 70), args := #[.tmp 17], argTypes := #[3] }, 3, none⟩, ⟨some 4, .assign (.tmp 18), 3, none⟩])
    .ret)))
def pl184 : Nat → Plan := fun _ => .done
theorem st184 : Go.Proofs.Tryz.f184.body.map (strip pl184) = some m184 := by kernel_rfl
theorem ok184 : okB pl184 Go.Proofs.Tryz.f184 2 = true := by kernel_rfl
theorem en184 {v0 v1 w} {Q : Value → World → Prop} (h : mwpB Go.Proofs.Tryz.prog m184 (argEnv [v0, v1]) [] w (fun e ds w => ds = [] ∧ resW Go.Proofs.Tryz.prog [.tmp 4] e w fun v => Q v w) (fun _ _ _ _ => False) (fun e ds w => ds = [] ∧ resW Go.Proofs.Tryz.prog [.tmp 4] e w fun v => Q v w) (fun _ _ _ _ => False) ⟨⟩) : Rets Go.Proofs.Tryz.prog 184 #[v0, v1] w Q :=
  rets_of_mwp follows_mo Go.Proofs.Tryz.func184 pl184 st184 ok184 (by kernel_rfl) h
/-- (*continuo/effect.gains).resume -/
def m185 : MC := .skip
def pl185 : Nat → Plan := fun _ => .done
theorem st185 : Go.Proofs.Tryz.f185.body.map (strip pl185) = some m185 := by kernel_rfl
theorem ok185 : okB pl185 Go.Proofs.Tryz.f185 2 = true := by kernel_rfl
theorem en185 {v0 v1 w} {Q : Value → World → Prop} (h : mwpB Go.Proofs.Tryz.prog m185 (argEnv [v0, v1]) [] w (fun e ds w => ds = [] ∧ resW Go.Proofs.Tryz.prog [] e w fun v => Q v w) (fun _ _ _ _ => False) (fun e ds w => ds = [] ∧ resW Go.Proofs.Tryz.prog [] e w fun v => Q v w) (fun _ _ _ _ => False) ⟨⟩) : Rets Go.Proofs.Tryz.prog 185 #[v0, v1] w Q :=
  rets_of_mwp follows_mo Go.Proofs.Tryz.func185 pl185 st185 ok185 (by kernel_rfl) h
/-- (*continuo/effect.gains).state -/
def m186 : MC := (.seq (.ops [⟨some 2, .assign (.const (.slice none 0 0)), 22, none⟩])
    (.seq (.ops [⟨some 2, .assign (.const (.slice none 0 0)), 22, none⟩])
    .ret))
def pl186 : Nat → Plan := fun _ => .done
theorem st186 : Go.Proofs.Tryz.f186.body.map (strip pl186) = some m186 := by kernel_rfl
theorem ok186 : okB pl186 Go.Proofs.Tryz.f186 1 = true := by kernel_rfl
theorem en186 {v0 w} {Q : Value → World → Prop} (h : mwpB Go.Proofs.Tryz.prog m186 (argEnv [v0]) [] w (fun e ds w => ds = [] ∧ resW Go.Proofs.Tryz.prog [.tmp 2] e w fun v => Q v w) (fun _ _ _ _ => False) (fun e ds w => ds = [] ∧ resW Go.Proofs.Tryz.prog [.tmp 2] e w fun v => Q v w) (fun _ _ _ _ => False) ⟨⟩) : Rets Go.Proofs.Tryz.prog 186 #[v0] w Q :=
  rets_of_mwp follows_mo Go.Proofs.Tryz.func186 pl186 st186 ok186 (by kernel_rfl) h
/-- (*continuo/effect.gains).step -/
def m187 : MC := (.seq (.ops [⟨some 4, .assign (.const (.int .i64 0)), 3, none⟩])
    (.seq (.ops [⟨some 5, .move (.tmp 1), 3, none⟩, ⟨some 6, .move (.tmp 0), 146, none⟩, ⟨some 7, .nilCheck (.tmp 6), 0, none⟩, ⟨some 8, .fieldAddr 148 (.tmp 7) 0, 0, none⟩, ⟨some 9, .load 3 (.tmp 8), 3, none⟩, ⟨some 10, .binOp .mul 3 (.tmp 5) (.tmp 9) 3, 3, none⟩, ⟨some 11, .call { callee := .value (.func 70), args := #[.tmp 10], argTypes := #[3] }, 3, none⟩, ⟨some 12, .call { callee := .value (.func 58), args := #[.tmp 11], argTypes := #[3] }, 3, none⟩, ⟨some 4, .assign (.tmp 12), 3, none⟩])
    .ret))
def pl187 : Nat → Plan := fun _ => .done
theorem st187 : Go.Proofs.Tryz.f187.body.map (strip pl187) = some m187 := by kernel_rfl
theorem ok187 : okB pl187 Go.Proofs.Tryz.f187 2 = true := by kernel_rfl
theorem en187 {v0 v1 w} {Q : Value → World → Prop} (h : mwpB Go.Proofs.Tryz.prog m187 (argEnv [v0, v1]) [] w (fun e ds w => ds = [] ∧ resW Go.Proofs.Tryz.prog [.tmp 4] e w fun v => Q v w) (fun _ _ _ _ => False) (fun e ds w => ds = [] ∧ resW Go.Proofs.Tryz.prog [.tmp 4] e w fun v => Q v w) (fun _ _ _ _ => False) ⟨⟩) : Rets Go.Proofs.Tryz.prog 187 #[v0, v1] w Q :=
  rets_of_mwp follows_mo Go.Proofs.Tryz.func187 pl187 st187 ok187 (by kernel_rfl) h
/-- (*continuo/effect.delays).resume -/
def m188 : MC := (.ops [⟨some 4, .move (.tmp 0), 150, none⟩, ⟨some 5, .nilCheck (.tmp 4), 0, none⟩, ⟨some 6, .fieldAddr 153 (.tmp 5) 0, 0, none⟩, ⟨some 7, .move (.tmp 1), 22, none⟩, ⟨some 8, .call { callee := .value (.func 63), args := #[.tmp 6, .tmp 7], argTypes := #[103, 22] }, 0, none⟩])
def pl188 : Nat → Plan := fun _ => .done
theorem st188 : Go.Proofs.Tryz.f188.body.map (strip pl188) = some m188 := by kernel_rfl
theorem ok188 : okB pl188 Go.Proofs.Tryz.f188 2 = true := by kernel_rfl
theorem en188 {v0 v1 w} {Q : Value → World → Prop} (h : mwpB Go.Proofs.Tryz.prog m188 (argEnv [v0, v1]) [] w (fun e ds w => ds = [] ∧ resW Go.Proofs.Tryz.prog [] e w fun v => Q v w) (fun _ _ _ _ => False) (fun e ds w => ds = [] ∧ resW Go.Proofs.Tryz.prog [] e w fun v => Q v w) (fun _ _ _ _ => False) ⟨⟩) : Rets Go.Proofs.Tryz.prog 188 #[v0, v1] w Q :=
  rets_of_mwp follows_mo Go.Proofs.Tryz.func188 pl188 st188 ok188 (by kernel_rfl) h
/-- (*continuo/effect.delays).state -/
def m189 : MC := (.seq (.ops [⟨some 2, .assign (.const (.slice none 0 0)), 22, none⟩])
    (.seq (.ops [⟨some 3, .move (.tmp 0), 150, none⟩, ⟨some 4, .nilCheck (.tmp 3), 0, none⟩, ⟨some 5, .fieldAddr 153 (.tmp 4) 0, 0, none⟩, ⟨some 6, .call { callee := .value (.func 65), args := #[.tmp 5], argTypes := #[103] }, 22, none⟩, ⟨some 2, .assign (.tmp 6), 22, none⟩])
    .ret))
def pl189 : Nat → Plan := fun _ => .done
theorem st189 : Go.Proofs.Tryz.f189.body.map (strip pl189) = some m189 := by kernel_rfl
theorem ok189 : okB pl189 Go.Proofs.Tryz.f189 1 = true := by kernel_rfl
theorem en189 {v0 w} {Q : Value → World → Prop} (h : mwpB Go.Proofs.Tryz.prog m189 (argEnv [v0]) [] w (fun e ds w => ds = [] ∧ resW Go.Proofs.Tryz.prog [.tmp 2] e w fun v => Q v w) (fun _ _ _ _ => False) (fun e ds w => ds = [] ∧ resW Go.Proofs.Tryz.prog [.tmp 2] e w fun v => Q v w) (fun _ _ _ _ => False) ⟨⟩) : Rets Go.Proofs.Tryz.prog 189 #[v0] w Q :=
  rets_of_mwp follows_mo Go.Proofs.Tryz.func189 pl189 st189 ok189 (by kernel_rfl) h
/-- (*continuo/effect.delays).step -/
def m190 : MC := (.seq (.ops [⟨some 4, .assign (.const (.int .i64 0)), 3, none⟩])
    (.seq (.ops [⟨some 5, .move (.tmp 0), 150, none⟩, ⟨some 6, .nilCheck (.tmp 5), 0, none⟩, ⟨some 7, .fieldAddr 153 (.tmp 6) 0, 0, none⟩, ⟨some 8, .move (.tmp 1), 3, none⟩, ⟨some 9, .call { callee := .value (.func 57), args := #[.tmp 7, .tmp 8], argTypes := #[103, 3] }, 3, none⟩, ⟨some 4, .assign (.tmp 9), 3, none⟩])
    .ret))
def pl190 : Nat → Plan := fun _ => .done
theorem st190 : Go.Proofs.Tryz.f190.body.map (strip pl190) = some m190 := by kernel_rfl
theorem ok190 : okB pl190 Go.Proofs.Tryz.f190 2 = true := by kernel_rfl
theorem en190 {v0 v1 w} {Q : Value → World → Prop} (h : mwpB Go.Proofs.Tryz.prog m190 (argEnv [v0, v1]) [] w (fun e ds w => ds = [] ∧ resW Go.Proofs.Tryz.prog [.tmp 4] e w fun v => Q v w) (fun _ _ _ _ => False) (fun e ds w => ds = [] ∧ resW Go.Proofs.Tryz.prog [.tmp 4] e w fun v => Q v w) (fun _ _ _ _ => False) ⟨⟩) : Rets Go.Proofs.Tryz.prog 190 #[v0, v1] w Q :=
  rets_of_mwp follows_mo Go.Proofs.Tryz.func190 pl190 st190 ok190 (by kernel_rfl) h
/-- (*continuo/effect.echoes).resume -/
def m191 : MC := (.ops [⟨some 4, .move (.tmp 0), 154, none⟩, ⟨some 5, .nilCheck (.tmp 4), 0, none⟩, ⟨some 6, .fieldAddr 156 (.tmp 5) 0, 0, none⟩, ⟨some 7, .move (.tmp 1), 22, none⟩, ⟨some 8, .call { callee := .value (.func 63), args := #[.tmp 6, .tmp 7], argTypes := #[103, 22] }, 0, none⟩])
def pl191 : Nat → Plan := fun _ => .done
theorem st191 : Go.Proofs.Tryz.f191.body.map (strip pl191) = some m191 := by kernel_rfl
theorem ok191 : okB pl191 Go.Proofs.Tryz.f191 2 = true := by kernel_rfl
theorem en191 {v0 v1 w} {Q : Value → World → Prop} (h : mwpB Go.Proofs.Tryz.prog m191 (argEnv [v0, v1]) [] w (fun e ds w => ds = [] ∧ resW Go.Proofs.Tryz.prog [] e w fun v => Q v w) (fun _ _ _ _ => False) (fun e ds w => ds = [] ∧ resW Go.Proofs.Tryz.prog [] e w fun v => Q v w) (fun _ _ _ _ => False) ⟨⟩) : Rets Go.Proofs.Tryz.prog 191 #[v0, v1] w Q :=
  rets_of_mwp follows_mo Go.Proofs.Tryz.func191 pl191 st191 ok191 (by kernel_rfl) h
/-- (*continuo/effect.echoes).state -/
def m192 : MC := (.seq (.ops [⟨some 2, .assign (.const (.slice none 0 0)), 22, none⟩])
    (.seq (.ops [⟨some 3, .move (.tmp 0), 154, none⟩, ⟨some 4, .nilCheck (.tmp 3), 0, none⟩, ⟨some 5, .fieldAddr 156 (.tmp 4) 0, 0, none⟩, ⟨some 6, .call { callee := .value (.func 65), args := #[.tmp 5], argTypes := #[103] }, 22, none⟩, ⟨some 2, .assign (.tmp 6), 22, none⟩])
    .ret))
def pl192 : Nat → Plan := fun _ => .done
theorem st192 : Go.Proofs.Tryz.f192.body.map (strip pl192) = some m192 := by kernel_rfl
theorem ok192 : okB pl192 Go.Proofs.Tryz.f192 1 = true := by kernel_rfl
theorem en192 {v0 w} {Q : Value → World → Prop} (h : mwpB Go.Proofs.Tryz.prog m192 (argEnv [v0]) [] w (fun e ds w => ds = [] ∧ resW Go.Proofs.Tryz.prog [.tmp 2] e w fun v => Q v w) (fun _ _ _ _ => False) (fun e ds w => ds = [] ∧ resW Go.Proofs.Tryz.prog [.tmp 2] e w fun v => Q v w) (fun _ _ _ _ => False) ⟨⟩) : Rets Go.Proofs.Tryz.prog 192 #[v0] w Q :=
  rets_of_mwp follows_mo Go.Proofs.Tryz.func192 pl192 st192 ok192 (by kernel_rfl) h
/-- (*continuo/effect.echoes).step -/
def m193 : MC := (.seq (.ops [⟨some 4, .assign (.const (.int .i64 0)), 3, none⟩])
    (.seq (.draw (.take ⟨some 6, .move (.tmp 1), 3, none⟩ (.take ⟨some 7, .move (.tmp 0), 154, none⟩ (.take ⟨some 8, .nilCheck (.tmp 7), 0, none⟩ (.take ⟨some 9, .fieldAddr 156 (.tmp 8) 0, 0, none⟩ (.take ⟨some 10, .move (.tmp 0), 154, none⟩ (.take ⟨some 11, .nilCheck (.tmp 10), 0, none⟩ (.take ⟨some 12, .fieldAddr 156 (.tmp 11) 0, 0, none⟩ (.take ⟨some 13, .fieldAddr 103 (.tmp 12) 0, 0, none⟩ (.take ⟨some 14, .load 22 (.tmp 13), 22, none⟩ (.take ⟨some 15, .call { callee := .builtin .len, args := #[.tmp 14], argTypes := #[22] }, 3, none⟩ (.take ⟨some 17, .move (.tmp 0), 154, none⟩ (.take ⟨some 18, .nilCheck (.tmp 17), 0, none⟩ (.take ⟨some 19, .fieldAddr 156 (.tmp 18) 1, 0, none⟩ (.take ⟨some 20, .load 3 (.tmp 19), 3, none⟩ (.alt ⟨some 16, .call { callee := .value (.func 100), args := #[.tmp 9, .tmp 15], argTypes := #[103, 3] }, 3, none⟩ (.take ⟨some 21, .binOp .mul 3 (.tmp 16) (.tmp 20) 3, 3, none⟩ (.alt ⟨some 22, .call { callee := .value (.func 70), args := #[.tmp 21], argTypes := #[3] }, 3, none⟩ (.take ⟨some 23, .binOp .add 3 (.tmp 6) (.tmp 22) 3, 3, none⟩ (.alt ⟨some 24, .call { callee := .value (.func 58), args := #[.tmp 23], argTypes := #[3] }, 3, none⟩ (.take ⟨some 5, .assign (.tmp 24), 3, none⟩ .done) .none)) .none)) .none))))))))))))))))
    (.seq (.ops [⟨some 25, .move (.tmp 0), 154, none⟩, ⟨some 26, .nilCheck (.tmp 25), 0, none⟩, ⟨some 27, .fieldAddr 156 (.tmp 26) 0, 0, none⟩, ⟨some 28, .move (.tmp 5), 3, none⟩, ⟨some 29, .call { callee := .value (.func 101), args := #[.tmp 27, .tmp 28], argTypes := #[103, 3] }, 0, none⟩])
    (.seq (.ops [⟨some 30, .move (.tmp 5), 3, none⟩, ⟨some 4, .assign (.tmp 30), 3, none⟩])
    .ret))))
def pl193 : Nat → Plan := fun id => if id = 1 then (.take 0 (.take 1 (.take 2 (.take 3 (.take 4 (.take 5 (.take 6 (.take 7 (.take 8 (.take 9 (.take 11 (.take 12 (.take 13 (.take 14 (.alt 10 (.take 15 (.alt 16 (.take 17 (.alt 18 (.take 19 .done) .none)) .none)) .none))))))))))))))) else .done
theorem st193 : Go.Proofs.Tryz.f193.body.map (strip pl193) = some m193 := by kernel_rfl
theorem ok193 : okB pl193 Go.Proofs.Tryz.f193 2 = true := by kernel_rfl
theorem en193 {v0 v1 w} {Q : Value → World → Prop} (h : mwpB Go.Proofs.Tryz.prog m193 (argEnv [v0, v1]) [] w (fun e ds w => ds = [] ∧ resW Go.Proofs.Tryz.prog [.tmp 4] e w fun v => Q v w) (fun _ _ _ _ => False) (fun e ds w => ds = [] ∧ resW Go.Proofs.Tryz.prog [.tmp 4] e w fun v => Q v w) (fun _ _ _ _ => False) ⟨⟩) : Rets Go.Proofs.Tryz.prog 193 #[v0, v1] w Q :=
  rets_of_mwp follows_mo Go.Proofs.Tryz.func193 pl193 st193 ok193 (by kernel_rfl) h
/-- (*continuo/effect.filters).resume -/
def m194 : MC := (.ops [⟨some 4, .move (.tmp 0), 157, none⟩, ⟨some 5, .nilCheck (.tmp 4), 0, none⟩, ⟨some 6, .fieldAddr 160 (.tmp 5) 0, 0, none⟩, ⟨some 7, .move (.tmp 1), 22, none⟩, ⟨some 8, .call { callee := .value (.func 63), args := #[.tmp 6, .tmp 7], argTypes := #[103, 22] }, 0, none⟩])
def pl194 : Nat → Plan := fun _ => .done
theorem st194 : Go.Proofs.Tryz.f194.body.map (strip pl194) = some m194 := by kernel_rfl
theorem ok194 : okB pl194 Go.Proofs.Tryz.f194 2 = true := by kernel_rfl
theorem en194 {v0 v1 w} {Q : Value → World → Prop} (h : mwpB Go.Proofs.Tryz.prog m194 (argEnv [v0, v1]) [] w (fun e ds w => ds = [] ∧ resW Go.Proofs.Tryz.prog [] e w fun v => Q v w) (fun _ _ _ _ => False) (fun e ds w => ds = [] ∧ resW Go.Proofs.Tryz.prog [] e w fun v => Q v w) (fun _ _ _ _ => False) ⟨⟩) : Rets Go.Proofs.Tryz.prog 194 #[v0, v1] w Q :=
  rets_of_mwp follows_mo Go.Proofs.Tryz.func194 pl194 st194 ok194 (by kernel_rfl) h
/-- (*continuo/effect.filters).state -/
def m195 : MC := (.seq (.ops [⟨some 2, .assign (.const (.slice none 0 0)), 22, none⟩])
    (.seq (.ops [⟨some 3, .move (.tmp 0), 157, none⟩, ⟨some 4, .nilCheck (.tmp 3), 0, none⟩, ⟨some 5, .fieldAddr 160 (.tmp 4) 0, 0, none⟩, ⟨some 6, .call { callee := .value (.func 65), args := #[.tmp 5], argTypes := #[103] }, 22, none⟩, ⟨some 2, .assign (.tmp 6), 22, none⟩])
    .ret))
def pl195 : Nat → Plan := fun _ => .done
theorem st195 : Go.Proofs.Tryz.f195.body.map (strip pl195) = some m195 := by kernel_rfl
theorem ok195 : okB pl195 Go.Proofs.Tryz.f195 1 = true := by kernel_rfl
theorem en195 {v0 w} {Q : Value → World → Prop} (h : mwpB Go.Proofs.Tryz.prog m195 (argEnv [v0]) [] w (fun e ds w => ds = [] ∧ resW Go.Proofs.Tryz.prog [.tmp 2] e w fun v => Q v w) (fun _ _ _ _ => False) (fun e ds w => ds = [] ∧ resW Go.Proofs.Tryz.prog [.tmp 2] e w fun v => Q v w) (fun _ _ _ _ => False) ⟨⟩) : Rets Go.Proofs.Tryz.prog 195 #[v0] w Q :=
  rets_of_mwp follows_mo Go.Proofs.Tryz.func195 pl195 st195 ok195 (by kernel_rfl) h
/-- (*continuo/effect.filters).step -/
def m196 : MC := (.seq (.ops [⟨some 4, .assign (.const (.int .i64 0)), 3, none⟩])
    (.seq (.ops [⟨some 8, .move (.tmp 0), 157, none⟩, ⟨some 9, .nilCheck (.tmp 8), 0, none⟩, ⟨some 10, .fieldAddr 160 (.tmp 9) 1, 0, none⟩, ⟨some 11, .load 22 (.tmp 10), 22, none⟩, ⟨some 12, .indexAddr 22 (.tmp 11) (.const (.int .i64 0)), 0, none⟩, ⟨some 13, .load 3 (.tmp 12), 3, none⟩, ⟨some 14, .move (.tmp 1), 3, none⟩, ⟨some 15, .binOp .mul 3 (.tmp 13) (.tmp 14) 3, 3, none⟩, ⟨some 5, .assign (.tmp 15), 3, none⟩])
    (.seq (.seq (.ops [⟨some 16, .move (.tmp 0), 157, none⟩, ⟨some 17, .nilCheck (.tmp 16), 0, none⟩, ⟨some 18, .fieldAddr 160 (.tmp 17) 1, 0, none⟩, ⟨some 19, .load 22 (.tmp 18), 22, none⟩, ⟨some 20, .slice 22 (.tmp 19) (some (.const (.int .i64 1))) none none, 22, none⟩, ⟨some 21, .call { callee := .builtin .len, args := #[.tmp 20], argTypes := #[22] }, 3, none⟩, ⟨some 22, .move (.const (.int .i64 0)), 3, none⟩])
    (.block 0 (.loop (.seq (.ops [⟨some 23, .binOp .lss 3 (.tmp 22) (.tmp 21) 3, 0, none⟩])
    (.seq (.cond (.tmp 23) .skip (.exit 0))
    (.seq (.block 1 (.seq (.ops [⟨some 24, .move (.tmp 22), 3, none⟩, ⟨some 25, .indexAddr 22 (.tmp 20) (.tmp 22), 0, none⟩, ⟨some 26, .load 3 (.tmp 25), 3, none⟩, ⟨some 6, .assign (.tmp 24), 3, none⟩, ⟨some 7, .assign (.tmp 26), 3, none⟩])
    (.ops [⟨some 27, .move (.tmp 5), 3, none⟩, ⟨some 28, .move (.tmp 7), 3, none⟩, ⟨some 29, .move (.tmp 0), 157, none⟩, ⟨some 30, .nilCheck (.tmp 29), 0, none⟩, ⟨some 31, .fieldAddr 160 (.tmp 30) 0, 0, none⟩, ⟨some 32, .move (.tmp 6), 3, none⟩, ⟨some 33, .binOp .add 3 (.tmp 32) (.const (.int .i64 1)) 3, 3, none⟩, ⟨some 34, .call { callee := .value (.func 100), args := #[.tmp 31, .tmp 33], argTypes := #[103, 3] }, 3, none⟩, ⟨some 35, .binOp .mul 3 (.tmp 28) (.tmp 34) 3, 3, none⟩, ⟨some 36, .binOp .add 3 (.tmp 27) (.tmp 35) 3, 3, none⟩, ⟨some 5, .assign (.tmp 36), 3, none⟩])))
    (.ops [⟨some 37, .binOp .add 3 (.tmp 22) (.const (.int .i64 1)) 3, 3, none⟩, ⟨some 22, .move (.tmp 37), 3, none⟩])))))))
    (.seq (.ops [⟨some 38, .move (.tmp 0), 157, none⟩, ⟨some 39, .nilCheck (.tmp 38), 0, none⟩, ⟨some 40, .fieldAddr 160 (.tmp 39) 0, 0, none⟩, ⟨some 41, .move (.tmp 1), 3, none⟩, ⟨some 42, .call { callee := .value (.func 101), args := #[.tmp 40, .tmp 41], argTypes := #[103, 3] }, 0, none⟩])
    (.seq (.ops [⟨some 43, .move (.tmp 5), 3, none⟩, ⟨some 44, .call { callee := .value (.func 70), args := #[.tmp 43], argTypes := #[3] }, 3, none⟩, ⟨some 45, .call { callee := .value (.func 58), args := #[.tmp 44], argTypes := #[3] }, 3, none⟩, ⟨some 4, .assign (.tmp 45), 3, none⟩])
    .ret)))))
def pl196 : Nat → Plan := fun _ => .done
theorem st196 : Go.Proofs.Tryz.f196.body.map (strip pl196) = some m196 := by kernel_rfl
theorem ok196 : okB pl196 Go.Proofs.Tryz.f196 2 = true := by kernel_rfl
theorem en196 {v0 v1 w} {Q : Value → World → Prop} (h : mwpB Go.Proofs.Tryz.prog m196 (argEnv [v0, v1]) [] w (fun e ds w => ds = [] ∧ resW Go.Proofs.Tryz.prog [.tmp 4] e w fun v => Q v w) (fun _ _ _ _ => False) (fun e ds w => ds = [] ∧ resW Go.Proofs.Tryz.prog [.tmp 4] e w fun v => Q v w) (fun _ _ _ _ => False) ⟨⟩) : Rets Go.Proofs.Tryz.prog 196 #[v0, v1] w Q :=
  rets_of_mwp follows_mo Go.Proofs.Tryz.func196 pl196 st196 ok196 (by kernel_rfl) h
/-- (*continuo/effect.gates).resume -/
def m197 : MC := (.ops [⟨some 4, .move (.tmp 0), 161, none⟩, ⟨some 5, .move (.tmp 1), 22, none⟩, ⟨some 6, .indexAddr 22 (.tmp 5) (.const (.int .i64 0)), 0, none⟩, ⟨some 7, .load 3 (.tmp 6), 3, none⟩, ⟨some 8, .nilCheck (.tmp 4), 0, none⟩, ⟨some 9, .fieldAddr 163 (.tmp 8) 2, 0, none⟩, ⟨none, .store 3 (.tmp 9) (.tmp 7), 0, none⟩])
def pl197 : Nat → Plan := fun _ => .done
theorem st197 : Go.Proofs.Tryz.f197.body.map (strip pl197) = some m197 := by kernel_rfl
theorem ok197 : okB pl197 Go.Proofs.Tryz.f197 2 = true := by kernel_rfl
theorem en197 {v0 v1 w} {Q : Value → World → Prop} (h : mwpB Go.Proofs.Tryz.prog m197 (argEnv [v0, v1]) [] w (fun e ds w => ds = [] ∧ resW Go.Proofs.Tryz.prog [] e w fun v => Q v w) (fun _ _ _ _ => False) (fun e ds w => ds = [] ∧ resW Go.Proofs.Tryz.prog [] e w fun v => Q v w) (fun _ _ _ _ => False) ⟨⟩) : Rets Go.Proofs.Tryz.prog 197 #[v0, v1] w Q :=
  rets_of_mwp follows_mo Go.Proofs.Tryz.func197 pl197 st197 ok197 (by kernel_rfl) h
/-- (*continuo/effect.gates).state -/
def m198 : MC := (.seq (.ops [⟨some 2, .assign (.const (.slice none 0 0)), 22, none⟩])
    (.seq (.ops [⟨some 3, .move (.tmp 0), 161, none⟩, ⟨some 4, .nilCheck (.tmp 3), 0, none⟩, ⟨some 5, .fieldAddr 163 (.tmp 4) 2, 0, none⟩, ⟨some 6, .load 3 (.tmp 5), 3, none⟩, ⟨some 7, .buildSlice 22 1 #[(0, .tmp 6)], 22, none⟩, ⟨some 2, .assign (.tmp 7), 22, none⟩])
    .ret))
def pl198 : Nat → Plan := fun _ => .done
theorem st198 : Go.Proofs.Tryz.f198.body.map (strip pl198) = some m198 := by kernel_rfl
theorem ok198 : okB pl198 Go.Proofs.Tryz.f198 1 = true := by kernel_rfl
theorem en198 {v0 w} {Q : Value → World → Prop} (h : mwpB Go.Proofs.Tryz.prog m198 (argEnv [v0]) [] w (fun e ds w => ds = [] ∧ resW Go.Proofs.Tryz.prog [.tmp 2] e w fun v => Q v w) (fun _ _ _ _ => False) (fun e ds w => ds = [] ∧ resW Go.Proofs.Tryz.prog [.tmp 2] e w fun v => Q v w) (fun _ _ _ _ => False) ⟨⟩) : Rets Go.Proofs.Tryz.prog 198 #[v0] w Q :=
  rets_of_mwp follows_mo Go.Proofs.Tryz.func198 pl198 st198 ok198 (by kernel_rfl) h
/-- (*continuo/effect.gates).step -/
def m199 : MC := (.seq (.ops [⟨some 4, .assign (.const (.int .i64 0)), 3, none⟩])
    (.seq (.seq (.ops [⟨some 5, .move (.tmp 1), 3, none⟩, ⟨some 6, .move (.tmp 1), 3, none⟩, ⟨some 7, .unOp .neg 3 (.tmp 6), 3, none⟩, ⟨some 8, .call { callee := .builtin .max, args := #[.tmp 5, .tmp 7], argTypes := #[3, 3] }, 3, none⟩, ⟨some 9, .move (.tmp 0), 161, none⟩, ⟨some 10, .nilCheck (.tmp 9), 0, none⟩, ⟨some 11, .fieldAddr 163 (.tmp 10) 0, 0, none⟩, ⟨some 12, .load 3 (.tmp 11), 3, none⟩, ⟨some 13, .binOp .geq 3 (.tmp 8) (.tmp 12) 3, 4, none⟩])
    (.cond (.tmp 13) (.ops [⟨some 14, .move (.tmp 0), 161, none⟩, ⟨some 15, .nilCheck (.tmp 14), 0, none⟩, ⟨some 16, .fieldAddr 163 (.tmp 15) 2, 0, none⟩, ⟨none, .store 3 (.tmp 16) (.const (.int .i64 0)), 0, none⟩]) (.ops [⟨some 17, .move (.tmp 0), 161, none⟩, ⟨some 18, .move (.tmp 0), 161, none⟩, ⟨some 19, .nilCheck (.tmp 18), 0, none⟩, ⟨some 20, .fieldAddr 163 (.tmp 19) 2, 0, none⟩, ⟨some 21, .load 3 (.tmp 20), 3, none⟩, ⟨some 22, .binOp .add 3 (.tmp 21) (.const (.int .i64 1)) 3, 3, none⟩, ⟨some 23, .call { callee := .builtin .min, args := #[.tmp 22, .const (.int .i64 4097)], argTypes := #[3, 3] }, 3, none⟩, ⟨some 24, .nilCheck (.tmp 17), 0, none⟩, ⟨some 25, .fieldAddr 163 (.tmp 24) 2, 0, none⟩, ⟨none, .store 3 (.tmp 25) (.tmp 23), 0, none⟩])))
    (.seq (.seq (.draw (.take ⟨some 26, .move (.tmp 0), 161, none⟩ (.take ⟨some 27, .nilCheck (.tmp 26), 0, none⟩ (.take ⟨some 28, .fieldAddr 163 (.tmp 27) 2, 0, none⟩ (.take ⟨some 29, .load 3 (.tmp 28), 3, none⟩ (.take ⟨some 30, .move (.tmp 0), 161, none⟩ (.take ⟨some 31, .nilCheck (.tmp 30), 0, none⟩ (.take ⟨some 32, .fieldAddr 163 (.tmp 31) 1, 0, none⟩ (.take ⟨some 33, .load 3 (.tmp 32), 3, none⟩ (.take ⟨some 34, .binOp .gtr 3 (.tmp 29) (.tmp 33) 3, 4, none⟩ .done))))))))))
    (.cond (.tmp 34) (.seq (.ops [⟨some 4, .assign (.const (.int .i64 0)), 3, none⟩])
    .ret) .skip))
    (.seq (.ops [⟨some 35, .move (.tmp 1), 3, none⟩, ⟨some 4, .assign (.tmp 35), 3, none⟩])
    .ret))))
def pl199 : Nat → Plan := fun id => if id = 4 then (.take 0 (.take 1 (.take 2 (.take 3 (.take 4 (.take 5 (.take 6 (.take 7 (.take 8 .done))))))))) else .done
theorem st199 : Go.Proofs.Tryz.f199.body.map (strip pl199) = some m199 := by kernel_rfl
theorem ok199 : okB pl199 Go.Proofs.Tryz.f199 2 = true := by kernel_rfl
theorem en199 {v0 v1 w} {Q : Value → World → Prop} (h : mwpB Go.Proofs.Tryz.prog m199 (argEnv [v0, v1]) [] w (fun e ds w => ds = [] ∧ resW Go.Proofs.Tryz.prog [.tmp 4] e w fun v => Q v w) (fun _ _ _ _ => False) (fun e ds w => ds = [] ∧ resW Go.Proofs.Tryz.prog [.tmp 4] e w fun v => Q v w) (fun _ _ _ _ => False) ⟨⟩) : Rets Go.Proofs.Tryz.prog 199 #[v0, v1] w Q :=
  rets_of_mwp follows_mo Go.Proofs.Tryz.func199 pl199 st199 ok199 (by kernel_rfl) h
end Go.Proofs.YtefcfnmmpnjjjaaGreatDoor
