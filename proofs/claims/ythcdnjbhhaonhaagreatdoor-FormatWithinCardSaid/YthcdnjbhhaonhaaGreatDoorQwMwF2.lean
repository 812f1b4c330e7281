/- The functions, stripped. -/
import Derived.Test.YthcdnjbhhaonhaaGreatDoorQwMwT
import Derived.Test.YthcdnjbhhaonhaaGreatDoorQwMwIn


namespace Go.Proofs.YthcdnjbhhaonhaaGreatDoor
open Go.RowKit
set_option maxRecDepth 100000
/-- continuo/format.meetings$1 -/
def m130 : MC := (.seq (.ops [⟨some 4, .alloc 35, 0, none⟩, ⟨some 5, .assign (.const (.bool false)), 4, none⟩])
    (.seq (.ops [⟨some 6, .move (.tmp 0), 86, none⟩, ⟨some 7, .typeAssert (.tmp 6) 86 110 false, 110, none⟩, ⟨some 8, .move (.tmp 1), 86, none⟩, ⟨some 9, .call { callee := .value (.func 131), args := #[.tmp 7, .tmp 8], argTypes := #[110, 86] }, 91, none⟩, ⟨some 10, .extract (.tmp 9) 0, 35, none⟩, ⟨some 11, .extract (.tmp 9) 1, 4, none⟩, ⟨none, .store 35 (.tmp 4) (.tmp 10), 0, none⟩, ⟨some 5, .assign (.tmp 11), 4, none⟩])
    .ret))
def pl130 : Nat → Plan := fun _ => .done
theorem st130 : Go.Proofs.Tryz.f130.body.map (strip pl130) = some m130 := by kernel_rfl
theorem ok130 : okB pl130 Go.Proofs.Tryz.f130 2 = true := by kernel_rfl
theorem en130 {v0 v1 w} {Q : Value → World → Prop} (h : mwpB Go.Proofs.Tryz.prog m130 (argEnv [v0, v1]) [] w (fun e ds w => ds = [] ∧ resW Go.Proofs.Tryz.prog [.cell 4 35, .tmp 5] e w fun v => Q v w) (fun _ _ _ _ => False) (fun e ds w => ds = [] ∧ resW Go.Proofs.Tryz.prog [.cell 4 35, .tmp 5] e w fun v => Q v w) (fun _ _ _ _ => False) ⟨⟩) : Rets Go.Proofs.Tryz.prog 130 #[v0, v1] w Q :=
  rets_of_mwp follows_mo Go.Proofs.Tryz.func130 pl130 st130 ok130 (by kernel_rfl) h
/-- continuo/format.kept -/
def m131 : MC := (.seq (.ops [⟨some 4, .alloc 35, 0, none⟩, ⟨some 5, .assign (.const (.bool false)), 4, none⟩])
    (.seq (.ops [⟨some 6, .assign (.const (.slice none 0 0)), 33, none⟩])
    (.seq (.seq (.ops [⟨some 9, .move (.tmp 0), 110, none⟩, ⟨some 10, .call { callee := .builtin .len, args := #[.tmp 9], argTypes := #[110] }, 3, none⟩, ⟨some 11, .move (.const (.int .i64 0)), 3, none⟩])
    (.block 0 (.loop (.seq (.ops [⟨some 12, .binOp .lss 3 (.tmp 11) (.tmp 10) 3, 0, none⟩])
    (.seq (.cond (.tmp 12) .skip (.exit 0))
    (.seq (.block 1 (.seq (.ops [⟨some 13, .indexAddr 110 (.tmp 9) (.tmp 11), 0, none⟩, ⟨some 14, .load 3 (.tmp 13), 3, none⟩, ⟨some 8, .assign (.tmp 14), 3, none⟩])
    (.seq (.ops [⟨some 15, .move (.tmp 1), 86, none⟩, ⟨some 16, .move (.tmp 8), 3, none⟩, ⟨some 17, .call { callee := .invoke (.tmp 15) "continuo/format.has", args := #[.tmp 16], argTypes := #[3] }, 4, none⟩])
    (.cond (.tmp 17) (.ops [⟨some 18, .move (.tmp 6), 33, none⟩, ⟨some 19, .move (.tmp 8), 3, none⟩, ⟨some 20, .buildSlice 33 1 #[(0, .tmp 19)], 33, none⟩, ⟨some 21, .call { callee := .builtin .append, args := #[.tmp 18, .tmp 20], argTypes := #[33, 33] }, 33, none⟩, ⟨some 6, .assign (.tmp 21), 33, none⟩]) .skip))))
    (.ops [⟨some 22, .binOp .add 3 (.tmp 11) (.const (.int .i64 1)) 3, 3, none⟩, ⟨some 11, .move (.tmp 22), 3, none⟩])))))))
    (.seq (.ops [⟨some 23, .move (.tmp 6), 33, none⟩, ⟨some 24, .call { callee := .value (.func 158), args := #[.tmp 23], argTypes := #[33] }, 35, none⟩, ⟨some 25, .move (.tmp 6), 33, none⟩, ⟨some 26, .call { callee := .builtin .len, args := #[.tmp 25], argTypes := #[33] }, 3, none⟩, ⟨some 27, .binOp .gtr 3 (.tmp 26) (.const (.int .i64 0)) 3, 4, none⟩, ⟨none, .store 35 (.tmp 4) (.tmp 24), 0, none⟩, ⟨some 5, .assign (.tmp 27), 4, none⟩])
    .ret))))
def pl131 : Nat → Plan := fun _ => .done
theorem st131 : Go.Proofs.Tryz.f131.body.map (strip pl131) = some m131 := by kernel_rfl
theorem ok131 : okB pl131 Go.Proofs.Tryz.f131 2 = true := by kernel_rfl
theorem en131 {v0 v1 w} {Q : Value → World → Prop} (h : mwpB Go.Proofs.Tryz.prog m131 (argEnv [v0, v1]) [] w (fun e ds w => ds = [] ∧ resW Go.Proofs.Tryz.prog [.cell 4 35, .tmp 5] e w fun v => Q v w) (fun _ _ _ _ => False) (fun e ds w => ds = [] ∧ resW Go.Proofs.Tryz.prog [.cell 4 35, .tmp 5] e w fun v => Q v w) (fun _ _ _ _ => False) ⟨⟩) : Rets Go.Proofs.Tryz.prog 131 #[v0, v1] w Q :=
  rets_of_mwp follows_mo Go.Proofs.Tryz.func131 pl131 st131 ok131 (by kernel_rfl) h
/-- continuo/format.meetings$2 -/
def m132 : MC := (.seq (.ops [⟨some 4, .alloc 35, 0, none⟩, ⟨some 5, .assign (.const (.bool false)), 4, none⟩])
    (.seq (.ops [⟨some 6, .move (.tmp 0), 86, none⟩, ⟨some 7, .typeAssert (.tmp 6) 86 110 false, 110, none⟩, ⟨some 8, .move (.tmp 1), 86, none⟩, ⟨some 9, .call { callee := .value (.func 131), args := #[.tmp 7, .tmp 8], argTypes := #[110, 86] }, 91, none⟩, ⟨some 10, .extract (.tmp 9) 0, 35, none⟩, ⟨some 11, .extract (.tmp 9) 1, 4, none⟩, ⟨none, .store 35 (.tmp 4) (.tmp 10), 0, none⟩, ⟨some 5, .assign (.tmp 11), 4, none⟩])
    .ret))
def pl132 : Nat → Plan := fun _ => .done
theorem st132 : Go.Proofs.Tryz.f132.body.map (strip pl132) = some m132 := by kernel_rfl
theorem ok132 : okB pl132 Go.Proofs.Tryz.f132 2 = true := by kernel_rfl
theorem en132 {v0 v1 w} {Q : Value → World → Prop} (h : mwpB Go.Proofs.Tryz.prog m132 (argEnv [v0, v1]) [] w (fun e ds w => ds = [] ∧ resW Go.Proofs.Tryz.prog [.cell 4 35, .tmp 5] e w fun v => Q v w) (fun _ _ _ _ => False) (fun e ds w => ds = [] ∧ resW Go.Proofs.Tryz.prog [.cell 4 35, .tmp 5] e w fun v => Q v w) (fun _ _ _ _ => False) ⟨⟩) : Rets Go.Proofs.Tryz.prog 132 #[v0, v1] w Q :=
  rets_of_mwp follows_mo Go.Proofs.Tryz.func132 pl132 st132 ok132 (by kernel_rfl) h
/-- continuo/format.meetings$3 -/
def m133 : MC := (.seq (.ops [⟨some 4, .alloc 35, 0, none⟩, ⟨some 5, .assign (.const (.bool false)), 4, none⟩])
    (.seq (.ops [⟨some 6, .move (.tmp 1), 86, none⟩, ⟨some 7, .typeAssert (.tmp 6) 86 110 false, 110, none⟩, ⟨some 8, .move (.tmp 0), 86, none⟩, ⟨some 9, .call { callee := .value (.func 131), args := #[.tmp 7, .tmp 8], argTypes := #[110, 86] }, 91, none⟩, ⟨some 10, .extract (.tmp 9) 0, 35, none⟩, ⟨some 11, .extract (.tmp 9) 1, 4, none⟩, ⟨none, .store 35 (.tmp 4) (.tmp 10), 0, none⟩, ⟨some 5, .assign (.tmp 11), 4, none⟩])
    .ret))
def pl133 : Nat → Plan := fun _ => .done
theorem st133 : Go.Proofs.Tryz.f133.body.map (strip pl133) = some m133 := by kernel_rfl
theorem ok133 : okB pl133 Go.Proofs.Tryz.f133 2 = true := by kernel_rfl
theorem en133 {v0 v1 w} {Q : Value → World → Prop} (h : mwpB Go.Proofs.Tryz.prog m133 (argEnv [v0, v1]) [] w (fun e ds w => ds = [] ∧ resW Go.Proofs.Tryz.prog [.cell 4 35, .tmp 5] e w fun v => Q v w) (fun _ _ _ _ => False) (fun e ds w => ds = [] ∧ resW Go.Proofs.Tryz.prog [.cell 4 35, .tmp 5] e w fun v => Q v w) (fun _ _ _ _ => False) ⟨⟩) : Rets Go.Proofs.Tryz.prog 133 #[v0, v1] w Q :=
  rets_of_mwp follows_mo Go.Proofs.Tryz.func133 pl133 st133 ok133 (by kernel_rfl) h
/-- continuo/format.meetings$4 -/
def m134 : MC := (.seq (.ops [⟨some 4, .alloc 35, 0, none⟩, ⟨some 5, .assign (.const (.bool false)), 4, none⟩])
    (.seq (.draw (.take ⟨some 6, .move (.tmp 0), 86, none⟩ (.take ⟨some 7, .typeAssert (.tmp 6) 86 112 false, 112, none⟩ (.take ⟨some 8, .move (.tmp 1), 86, none⟩ (.take ⟨some 9, .typeAssert (.tmp 8) 86 112 false, 112, none⟩ (.alt ⟨some 10, .call { callee := .value (.func 135), args := #[.tmp 7, .tmp 9], argTypes := #[112, 112] }, 91, none⟩ (.take ⟨some 11, .extract (.tmp 10) 0, 35, none⟩ (.take ⟨some 12, .extract (.tmp 10) 1, 4, none⟩ (.altL ⟨none, .store 35 (.tmp 4) (.tmp 11), 0, none⟩ (.take ⟨some 5, .assign (.tmp 12), 4, none⟩ .done) .none))) .none))))))
    .ret))
def pl134 : Nat → Plan := fun id => if id = 1 then (.take 0 (.take 1 (.take 2 (.take 3 (.alt 4 (.take 5 (.take 6 (.altL 7 (.take 8 .done) .none))) .none))))) else .done
theorem st134 : Go.Proofs.Tryz.f134.body.map (strip pl134) = some m134 := by kernel_rfl
theorem ok134 : okB pl134 Go.Proofs.Tryz.f134 2 = true := by kernel_rfl
theorem en134 {v0 v1 w} {Q : Value → World → Prop} (h : mwpB Go.Proofs.Tryz.prog m134 (argEnv [v0, v1]) [] w (fun e ds w => ds = [] ∧ resW Go.Proofs.Tryz.prog [.cell 4 35, .tmp 5] e w fun v => Q v w) (fun _ _ _ _ => False) (fun e ds w => ds = [] ∧ resW Go.Proofs.Tryz.prog [.cell 4 35, .tmp 5] e w fun v => Q v w) (fun _ _ _ _ => False) ⟨⟩) : Rets Go.Proofs.Tryz.prog 134 #[v0, v1] w Q :=
  rets_of_mwp follows_mo Go.Proofs.Tryz.func134 pl134 st134 ok134 (by kernel_rfl) h
/-- continuo/format.common -/
def m135 : MC := (.seq (.ops [⟨some 2, .box 112 (.tmp 0), 0, none⟩, ⟨some 3, .box 112 (.tmp 1), 0, none⟩, ⟨some 4, .alloc 35, 0, none⟩, ⟨some 5, .assign (.const (.bool false)), 4, none⟩])
    (.seq (.draw (.take ⟨some 13, .fieldAddr 112 (.tmp 2) 0, 0, none⟩ (.take ⟨some 14, .load 3 (.tmp 13), 3, none⟩ (.take ⟨some 15, .fieldAddr 112 (.tmp 3) 0, 0, none⟩ (.take ⟨some 16, .load 3 (.tmp 15), 3, none⟩ (.take ⟨some 17, .call { callee := .builtin .max, args := #[.tmp 14, .tmp 16], argTypes := #[3, 3] }, 3, none⟩ (.take ⟨some 18, .fieldAddr 112 (.tmp 2) 1, 0, none⟩ (.take ⟨some 19, .load 3 (.tmp 18), 3, none⟩ (.take ⟨some 20, .fieldAddr 112 (.tmp 3) 1, 0, none⟩ (.take ⟨some 21, .load 3 (.tmp 20), 3, none⟩ (.take ⟨some 22, .call { callee := .builtin .min, args := #[.tmp 19, .tmp 21], argTypes := #[3, 3] }, 3, none⟩ (.take ⟨some 6, .assign (.tmp 17), 3, none⟩ (.take ⟨some 7, .assign (.tmp 22), 3, none⟩ .done)))))))))))))
    (.seq (.draw (.take ⟨some 23, .fieldAddr 112 (.tmp 2) 0, 0, none⟩ (.take ⟨some 24, .load 3 (.tmp 23), 3, none⟩ (.take ⟨some 25, .move (.tmp 6), 3, none⟩ (.take ⟨some 26, .fieldAddr 112 (.tmp 2) 0, 0, none⟩ (.take ⟨some 27, .load 3 (.tmp 26), 3, none⟩ (.take ⟨some 28, .binOp .sub 3 (.tmp 25) (.tmp 27) 3, 3, none⟩ (.take ⟨some 29, .call { callee := .builtin .max, args := #[.tmp 28, .const (.int .i64 0)], argTypes := #[3, 3] }, 3, none⟩ (.take ⟨some 30, .fieldAddr 112 (.tmp 2) 2, 0, none⟩ (.take ⟨some 31, .load 3 (.tmp 30), 3, none⟩ (.take ⟨some 32, .binOp .add 3 (.tmp 29) (.tmp 31) 3, 3, none⟩ (.take ⟨some 33, .binOp .sub 3 (.tmp 32) (.const (.int .i64 1)) 3, 3, none⟩ (.take ⟨some 34, .fieldAddr 112 (.tmp 2) 2, 0, none⟩ (.take ⟨some 35, .load 3 (.tmp 34), 3, none⟩ (.take ⟨some 36, .binOp .quo 3 (.tmp 33) (.tmp 35) 3, 3, none⟩ (.take ⟨some 37, .fieldAddr 112 (.tmp 2) 2, 0, none⟩ (.take ⟨some 38, .load 3 (.tmp 37), 3, none⟩ (.take ⟨some 39, .binOp .mul 3 (.tmp 36) (.tmp 38) 3, 3, none⟩ (.take ⟨some 40, .binOp .add 3 (.tmp 24) (.tmp 39) 3, 3, none⟩ (.take ⟨some 8, .assign (.tmp 40), 3, none⟩ .done))))))))))))))))))))
    (.seq (.seq (.ops [⟨some 9, .assign (.const (.int .i64 0)), 3, none⟩])
    (.block 0 (.loop (.seq (.seq (.ops [⟨some 41, .move (.tmp 9), 3, none⟩, ⟨some 42, .fieldAddr 112 (.tmp 3) 2, 0, none⟩, ⟨some 43, .load 3 (.tmp 42), 3, none⟩, ⟨some 44, .binOp .lss 3 (.tmp 41) (.tmp 43) 3, 4, none⟩, ⟨some 45, .move (.tmp 44), 4, none⟩, ⟨some 46, .move (.tmp 8), 3, some (some 45, true)⟩, ⟨some 47, .move (.tmp 7), 3, some (some 45, true)⟩, ⟨some 48, .binOp .leq 3 (.tmp 46) (.tmp 47) 3, 4, some (some 45, true)⟩, ⟨some 49, .pick (.tmp 45) (.tmp 48) (.const (.bool false)), 4, none⟩, ⟨some 50, .move (.tmp 49), 4, none⟩, ⟨some 51, .load 112 (.tmp 3), 112, some (some 50, true)⟩, ⟨some 52, .move (.tmp 8), 3, some (some 50, true)⟩, ⟨some 53, .call { callee := .value (.func 108), args := #[.tmp 51, .tmp 52], argTypes := #[112, 3] }, 4, some (some 50, true)⟩, ⟨some 54, .unOp .not 4 (.tmp 53), 4, some (some 50, true)⟩, ⟨some 55, .pick (.tmp 50) (.tmp 54) (.const (.bool false)), 4, none⟩])
    (.cond (.tmp 55) .skip (.exit 0)))
    (.seq (.block 1 (.ops [⟨some 58, .move (.tmp 8), 3, none⟩, ⟨some 59, .fieldAddr 112 (.tmp 2) 2, 0, none⟩, ⟨some 60, .load 3 (.tmp 59), 3, none⟩, ⟨some 61, .binOp .add 3 (.tmp 58) (.tmp 60) 3, 3, none⟩, ⟨some 8, .assign (.tmp 61), 3, none⟩]))
    (.ops [⟨some 56, .move (.tmp 9), 3, none⟩, ⟨some 57, .binOp .add 3 (.tmp 56) (.const (.int .i64 1)) 3, 3, none⟩, ⟨some 9, .assign (.tmp 57), 3, none⟩]))))))
    (.seq (.seq (.ops [⟨some 62, .move (.tmp 8), 3, none⟩, ⟨some 63, .move (.tmp 7), 3, none⟩, ⟨some 64, .binOp .gtr 3 (.tmp 62) (.tmp 63) 3, 4, none⟩, ⟨some 65, .move (.tmp 64), 4, none⟩, ⟨some 66, .load 112 (.tmp 3), 112, some (some 65, false)⟩, ⟨some 67, .move (.tmp 8), 3, some (some 65, false)⟩, ⟨some 68, .call { callee := .value (.func 108), args := #[.tmp 66, .tmp 67], argTypes := #[112, 3] }, 4, some (some 65, false)⟩, ⟨some 69, .unOp .not 4 (.tmp 68), 4, some (some 65, false)⟩, ⟨some 70, .pick (.tmp 65) (.const (.bool true)) (.tmp 69), 4, none⟩])
    (.cond (.tmp 70) (.seq (.ops [⟨some 71, .build 35 #[], 35, none⟩, ⟨none, .store 35 (.tmp 4) (.tmp 71), 0, none⟩, ⟨some 5, .assign (.const (.bool false)), 4, none⟩])
    .ret) .skip))
    (.seq (.draw (.take ⟨some 72, .fieldAddr 112 (.tmp 2) 2, 0, none⟩ (.take ⟨some 73, .load 3 (.tmp 72), 3, none⟩ (.take ⟨some 74, .fieldAddr 112 (.tmp 2) 2, 0, none⟩ (.take ⟨some 75, .load 3 (.tmp 74), 3, none⟩ (.take ⟨some 76, .fieldAddr 112 (.tmp 3) 2, 0, none⟩ (.take ⟨some 77, .load 3 (.tmp 76), 3, none⟩ (.take ⟨some 80, .fieldAddr 112 (.tmp 3) 2, 0, none⟩ (.take ⟨some 81, .load 3 (.tmp 80), 3, none⟩ (.alt ⟨some 78, .call { callee := .value (.func 159), args := #[.tmp 75, .tmp 77], argTypes := #[3, 3] }, 3, none⟩ (.take ⟨some 79, .binOp .quo 3 (.tmp 73) (.tmp 78) 3, 3, none⟩ (.take ⟨some 82, .binOp .mul 3 (.tmp 79) (.tmp 81) 3, 3, none⟩ (.take ⟨some 10, .assign (.tmp 82), 3, none⟩ .done))) .none))))))))))
    (.seq (.ops [⟨some 83, .move (.tmp 8), 3, none⟩, ⟨some 84, .move (.tmp 7), 3, none⟩, ⟨some 85, .move (.tmp 8), 3, none⟩, ⟨some 86, .binOp .sub 3 (.tmp 84) (.tmp 85) 3, 3, none⟩, ⟨some 87, .move (.tmp 10), 3, none⟩, ⟨some 88, .binOp .quo 3 (.tmp 86) (.tmp 87) 3, 3, none⟩, ⟨some 89, .move (.tmp 10), 3, none⟩, ⟨some 90, .binOp .mul 3 (.tmp 88) (.tmp 89) 3, 3, none⟩, ⟨some 91, .binOp .add 3 (.tmp 83) (.tmp 90) 3, 3, none⟩, ⟨some 11, .assign (.tmp 91), 3, none⟩])
    (.seq (.ops [⟨some 92, .move (.tmp 11), 3, none⟩, ⟨some 93, .move (.tmp 8), 3, none⟩, ⟨some 94, .binOp .sub 3 (.tmp 92) (.tmp 93) 3, 3, none⟩, ⟨some 95, .move (.tmp 10), 3, none⟩, ⟨some 96, .binOp .quo 3 (.tmp 94) (.tmp 95) 3, 3, none⟩, ⟨some 97, .binOp .add 3 (.tmp 96) (.const (.int .i64 1)) 3, 3, none⟩, ⟨some 12, .assign (.tmp 97), 3, none⟩])
    (.seq (.block 2 (.seq (.ops [⟨some 99, .move (.tmp 12), 3, none⟩, ⟨some 100, .binOp .eql 3 (.tmp 99) (.const (.int .i64 1)) 3, 4, none⟩, ⟨some 98, .assign (.tmp 100), 4, none⟩])
    (.cond (.tmp 98) (.seq (.ops [⟨some 101, .move (.tmp 8), 3, none⟩, ⟨some 102, .buildSlice 33 1 #[(0, .tmp 101)], 33, none⟩, ⟨some 103, .call { callee := .value (.func 158), args := #[.tmp 102], argTypes := #[33] }, 35, none⟩, ⟨none, .store 35 (.tmp 4) (.tmp 103), 0, none⟩, ⟨some 5, .assign (.const (.bool true)), 4, none⟩])
    .ret) (.seq (.ops [⟨some 105, .move (.tmp 10), 3, none⟩, ⟨some 106, .binOp .gtr 3 (.tmp 105) (.const (.int .i64 1000)) 3, 4, none⟩, ⟨some 107, .move (.tmp 106), 4, none⟩, ⟨some 108, .move (.tmp 12), 3, some (some 107, false)⟩, ⟨some 109, .binOp .leq 3 (.tmp 108) (.const (.int .i64 20)) 3, 4, some (some 107, false)⟩, ⟨some 110, .pick (.tmp 107) (.const (.bool true)) (.tmp 109), 4, none⟩, ⟨some 104, .assign (.tmp 110), 4, none⟩])
    (.cond (.tmp 104) (.seq (.ops [⟨some 111, .move (.tmp 8), 3, none⟩, ⟨some 112, .move (.tmp 11), 3, none⟩, ⟨some 113, .move (.tmp 10), 3, none⟩, ⟨some 114, .build 112 #[(0, .tmp 111), (1, .tmp 112), (2, .tmp 113), (3, .const (.bool false)), (4, .const (.bool true))], 112, none⟩, ⟨some 115, .call { callee := .value (.func 106), args := #[.tmp 114, .const (.int .i64 20)], argTypes := #[112, 3] }, 33, none⟩, ⟨some 116, .call { callee := .value (.func 158), args := #[.tmp 115], argTypes := #[33] }, 35, none⟩, ⟨none, .store 35 (.tmp 4) (.tmp 116), 0, none⟩, ⟨some 5, .assign (.const (.bool true)), 4, none⟩])
    .ret) (.seq (.ops [⟨some 118, .fieldAddr 112 (.tmp 2) 3, 0, none⟩, ⟨some 119, .load 4 (.tmp 118), 4, none⟩, ⟨some 120, .move (.tmp 119), 4, none⟩, ⟨some 121, .fieldAddr 112 (.tmp 3) 3, 0, some (some 120, true)⟩, ⟨some 122, .load 4 (.tmp 121), 4, some (some 120, true)⟩, ⟨some 123, .pick (.tmp 120) (.tmp 122) (.const (.bool false)), 4, none⟩, ⟨some 117, .assign (.tmp 123), 4, none⟩])
    (.cond (.tmp 117) (.seq (.ops [⟨some 124, .move (.tmp 8), 3, none⟩, ⟨some 125, .move (.tmp 11), 3, none⟩, ⟨some 126, .buildSlice 33 2 #[(0, .tmp 124), (1, .tmp 125)], 33, none⟩, ⟨some 127, .build 35 #[(0, .const (.int .i64 3)), (2, .tmp 126)], 35, none⟩, ⟨none, .store 35 (.tmp 4) (.tmp 127), 0, none⟩, ⟨some 5, .assign (.const (.bool true)), 4, none⟩])
    .ret) .skip)))))))
    (.seq (.ops [⟨some 128, .move (.tmp 8), 3, none⟩, ⟨some 129, .move (.tmp 11), 3, none⟩, ⟨some 130, .move (.tmp 10), 3, none⟩, ⟨some 131, .buildSlice 33 3 #[(0, .tmp 128), (1, .tmp 129), (2, .tmp 130)], 33, none⟩, ⟨some 132, .build 35 #[(0, .const (.int .i64 4)), (2, .tmp 131)], 35, none⟩, ⟨none, .store 35 (.tmp 4) (.tmp 132), 0, none⟩, ⟨some 5, .assign (.const (.bool true)), 4, none⟩])
    .ret))))))))))
def pl135 : Nat → Plan := fun id => if id = 1 then (.take 0 (.take 1 (.take 2 (.take 3 (.take 4 (.take 5 (.take 6 (.take 7 (.take 8 (.take 9 (.take 10 (.take 11 .done)))))))))))) else if id = 2 then (.take 0 (.take 1 (.take 2 (.take 3 (.take 4 (.take 5 (.take 6 (.take 7 (.take 8 (.take 9 (.take 10 (.take 11 (.take 12 (.take 13 (.take 14 (.take 15 (.take 16 (.take 17 (.take 18 .done))))))))))))))))))) else if id = 9 then (.take 0 (.take 1 (.take 2 (.take 3 (.take 4 (.take 5 (.take 8 (.take 9 (.alt 6 (.take 7 (.take 10 (.take 11 .done))) .none))))))))) else .done
theorem st135 : Go.Proofs.Tryz.f135.body.map (strip pl135) = some m135 := by kernel_rfl
theorem ok135 : okB pl135 Go.Proofs.Tryz.f135 2 = true := by kernel_rfl
theorem en135 {v0 v1 w} {Q : Value → World → Prop} (h : mwpB Go.Proofs.Tryz.prog m135 (argEnv [v0, v1]) [] w (fun e ds w => ds = [] ∧ resW Go.Proofs.Tryz.prog [.cell 4 35, .tmp 5] e w fun v => Q v w) (fun _ _ _ _ => False) (fun e ds w => ds = [] ∧ resW Go.Proofs.Tryz.prog [.cell 4 35, .tmp 5] e w fun v => Q v w) (fun _ _ _ _ => False) ⟨⟩) : Rets Go.Proofs.Tryz.prog 135 #[v0, v1] w Q :=
  rets_of_mwp follows_mo Go.Proofs.Tryz.func135 pl135 st135 ok135 (by kernel_rfl) h
/-- slices.IndexFunc[[]int,int] -/
def m136 : MC := (.seq (.ops [⟨some 4, .assign (.const (.int .i64 0)), 3, none⟩])
    (.seq (.seq (.ops [⟨some 6, .move (.tmp 0), 33, none⟩, ⟨some 7, .call { callee := .builtin .len, args := #[.tmp 6], argTypes := #[33] }, 3, none⟩, ⟨some 8, .move (.const (.int .i64 0)), 3, none⟩])
    (.block 0 (.loop (.seq (.ops [⟨some 9, .binOp .lss 3 (.tmp 8) (.tmp 7) 3, 0, none⟩])
    (.seq (.cond (.tmp 9) .skip (.exit 0))
    (.seq (.block 1 (.seq (.ops [⟨some 10, .move (.tmp 8), 3, none⟩, ⟨some 5, .assign (.tmp 10), 3, none⟩])
    (.seq (.ops [⟨some 11, .move (.tmp 1), 88, none⟩, ⟨some 12, .move (.tmp 0), 33, none⟩, ⟨some 13, .move (.tmp 5), 3, none⟩, ⟨some 14, .indexAddr 33 (.tmp 12) (.tmp 13), 0, none⟩, ⟨some 15, .load 3 (.tmp 14), 3, none⟩, ⟨some 16, .call { callee := .value (.tmp 11), args := #[.tmp 15], argTypes := #[3] }, 4, none⟩])
    (.cond (.tmp 16) (.seq (.ops [⟨some 17, .move (.tmp 5), 3, none⟩, ⟨some 4, .assign (.tmp 17), 3, none⟩])
    .ret) .skip))))
    (.ops [⟨some 18, .binOp .add 3 (.tmp 8) (.const (.int .i64 1)) 3, 3, none⟩, ⟨some 8, .move (.tmp 18), 3, none⟩])))))))
    (.seq (.ops [⟨some 4, .assign (.const (.int .i64 (-1))), 3, none⟩])
    .ret)))
def pl136 : Nat → Plan := fun _ => .done
theorem st136 : Go.Proofs.Tryz.f136.body.map (strip pl136) = some m136 := by kernel_rfl
theorem ok136 : okB pl136 Go.Proofs.Tryz.f136 2 = true := by kernel_rfl
theorem en136 {v0 v1 w} {Q : Value → World → Prop} (h : mwpB Go.Proofs.Tryz.prog m136 (argEnv [v0, v1]) [] w (fun e ds w => ds = [] ∧ resW Go.Proofs.Tryz.prog [.tmp 4] e w fun v => Q v w) (fun _ _ _ _ => False) (fun e ds w => ds = [] ∧ resW Go.Proofs.Tryz.prog [.tmp 4] e w fun v => Q v w) (fun _ _ _ _ => False) ⟨⟩) : Rets Go.Proofs.Tryz.prog 136 #[v0, v1] w Q :=
  rets_of_mwp follows_mo Go.Proofs.Tryz.func136 pl136 st136 ok136 (by kernel_rfl) h
/-- continuo/format.listed -/
def m158 : MC := (.seq (.ops [⟨some 2, .alloc 35, 0, none⟩])
    (.seq (.seq (.ops [⟨some 3, .move (.tmp 0), 33, none⟩, ⟨some 4, .call { callee := .builtin .len, args := #[.tmp 3], argTypes := #[33] }, 3, none⟩, ⟨some 5, .binOp .eql 3 (.tmp 4) (.const (.int .i64 1)) 3, 4, none⟩])
    (.cond (.tmp 5) (.seq (.ops [⟨some 6, .move (.tmp 0), 33, none⟩, ⟨some 7, .build 35 #[(0, .const (.int .i64 1)), (2, .tmp 6)], 35, none⟩, ⟨none, .store 35 (.tmp 2) (.tmp 7), 0, none⟩])
    .ret) .skip))
    (.seq (.ops [⟨some 8, .move (.tmp 0), 33, none⟩, ⟨some 9, .build 35 #[(0, .const (.int .i64 2)), (2, .tmp 8)], 35, none⟩, ⟨none, .store 35 (.tmp 2) (.tmp 9), 0, none⟩])
    .ret)))
def pl158 : Nat → Plan := fun _ => .done
theorem st158 : Go.Proofs.Tryz.f158.body.map (strip pl158) = some m158 := by kernel_rfl
theorem ok158 : okB pl158 Go.Proofs.Tryz.f158 1 = true := by kernel_rfl
theorem en158 {v0 w} {Q : Value → World → Prop} (h : mwpB Go.Proofs.Tryz.prog m158 (argEnv [v0]) [] w (fun e ds w => ds = [] ∧ resW Go.Proofs.Tryz.prog [.cell 2 35] e w fun v => Q v w) (fun _ _ _ _ => False) (fun e ds w => ds = [] ∧ resW Go.Proofs.Tryz.prog [.cell 2 35] e w fun v => Q v w) (fun _ _ _ _ => False) ⟨⟩) : Rets Go.Proofs.Tryz.prog 158 #[v0] w Q :=
  rets_of_mwp follows_mo Go.Proofs.Tryz.func158 pl158 st158 ok158 (by kernel_rfl) h
/-- continuo/format.greatest -/
def m159 : MC := (.seq (.ops [⟨some 4, .assign (.const (.int .i64 0)), 3, none⟩])
    (.seq (.block 0 (.loop (.seq (.seq (.ops [⟨some 5, .move (.tmp 1), 3, none⟩, ⟨some 6, .binOp .gtr 3 (.tmp 5) (.const (.int .i64 0)) 3, 4, none⟩])
    (.cond (.tmp 6) .skip (.exit 0)))
    (.block 1 (.draw (.take ⟨some 7, .move (.tmp 1), 3, none⟩ (.take ⟨some 8, .move (.tmp 0), 3, none⟩ (.take ⟨some 9, .move (.tmp 1), 3, none⟩ (.take ⟨some 10, .binOp .rem 3 (.tmp 8) (.tmp 9) 3, 3, none⟩ (.take ⟨some 0, .assign (.tmp 7), 3, none⟩ (.take ⟨some 1, .assign (.tmp 10), 3, none⟩ .done)))))))))))
    (.seq (.ops [⟨some 11, .move (.tmp 0), 3, none⟩, ⟨some 4, .assign (.tmp 11), 3, none⟩])
    .ret)))
def pl159 : Nat → Plan := fun id => if id = 2 then (.take 0 (.take 1 (.take 2 (.take 3 (.take 4 (.take 5 .done)))))) else .done
theorem st159 : Go.Proofs.Tryz.f159.body.map (strip pl159) = some m159 := by kernel_rfl
theorem ok159 : okB pl159 Go.Proofs.Tryz.f159 2 = true := by kernel_rfl
theorem en159 {v0 v1 w} {Q : Value → World → Prop} (h : mwpB Go.Proofs.Tryz.prog m159 (argEnv [v0, v1]) [] w (fun e ds w => ds = [] ∧ resW Go.Proofs.Tryz.prog [.tmp 4] e w fun v => Q v w) (fun _ _ _ _ => False) (fun e ds w => ds = [] ∧ resW Go.Proofs.Tryz.prog [.tmp 4] e w fun v => Q v w) (fun _ _ _ _ => False) ⟨⟩) : Rets Go.Proofs.Tryz.prog 159 #[v0, v1] w Q :=
  rets_of_mwp follows_mo Go.Proofs.Tryz.func159 pl159 st159 ok159 (by kernel_rfl) h
/-- (continuo/format.list).has -/
def m227 : MC := (.seq (.ops [⟨some 4, .assign (.const (.bool false)), 4, none⟩])
    (.seq (.ops [⟨some 5, .move (.tmp 0), 110, none⟩, ⟨some 6, .move (.tmp 1), 3, none⟩, ⟨some 7, .call { callee := .value (.func 230), args := #[.tmp 5, .tmp 6], argTypes := #[110, 3] }, 4, none⟩, ⟨some 4, .assign (.tmp 7), 4, none⟩])
    .ret))
def pl227 : Nat → Plan := fun _ => .done
theorem st227 : Go.Proofs.Tryz.f227.body.map (strip pl227) = some m227 := by kernel_rfl
theorem ok227 : okB pl227 Go.Proofs.Tryz.f227 2 = true := by kernel_rfl
theorem en227 {v0 v1 w} {Q : Value → World → Prop} (h : mwpB Go.Proofs.Tryz.prog m227 (argEnv [v0, v1]) [] w (fun e ds w => ds = [] ∧ resW Go.Proofs.Tryz.prog [.tmp 4] e w fun v => Q v w) (fun _ _ _ _ => False) (fun e ds w => ds = [] ∧ resW Go.Proofs.Tryz.prog [.tmp 4] e w fun v => Q v w) (fun _ _ _ _ => False) ⟨⟩) : Rets Go.Proofs.Tryz.prog 227 #[v0, v1] w Q :=
  rets_of_mwp follows_mo Go.Proofs.Tryz.func227 pl227 st227 ok227 (by kernel_rfl) h
/-- (continuo/format.list).right -/
def m228 : MC := (.seq (.ops [⟨some 2, .assign (.const (.bool false)), 4, none⟩])
    (.seq (.ops [⟨some 6, .makeMap 202 none, 202, none⟩, ⟨some 3, .assign (.tmp 6), 202, none⟩])
    (.seq (.seq (.ops [⟨some 7, .move (.tmp 0), 110, none⟩, ⟨some 8, .call { callee := .builtin .len, args := #[.tmp 7], argTypes := #[110] }, 3, none⟩, ⟨some 9, .move (.const (.int .i64 0)), 3, none⟩])
    (.block 0 (.loop (.seq (.ops [⟨some 10, .binOp .lss 3 (.tmp 9) (.tmp 8) 3, 0, none⟩])
    (.seq (.cond (.tmp 10) .skip (.exit 0))
    (.seq (.block 1 (.seq (.ops [⟨some 11, .indexAddr 110 (.tmp 7) (.tmp 9), 0, none⟩, ⟨some 12, .load 3 (.tmp 11), 3, none⟩, ⟨some 5, .assign (.tmp 12), 3, none⟩])
    (.seq (.seq (.ops [⟨some 13, .move (.tmp 3), 202, none⟩, ⟨some 14, .move (.tmp 5), 3, none⟩, ⟨some 15, .lookup 202 (.tmp 13) (.tmp 14) false, 4, none⟩, ⟨some 16, .move (.tmp 15), 4, none⟩, ⟨some 17, .move (.tmp 5), 3, some (some 16, false)⟩, ⟨some 18, .binOp .lss 3 (.tmp 17) (.const (.int .i64 0)) 3, 4, some (some 16, false)⟩, ⟨some 19, .pick (.tmp 16) (.const (.bool true)) (.tmp 18), 4, none⟩, ⟨some 20, .move (.tmp 19), 4, none⟩, ⟨some 21, .move (.tmp 5), 3, some (some 20, false)⟩, ⟨some 22, .binOp .gtr 3 (.tmp 21) (.const (.int .i64 1000000000)) 3, 4, some (some 20, false)⟩, ⟨some 23, .pick (.tmp 20) (.const (.bool true)) (.tmp 22), 4, none⟩])
    (.cond (.tmp 23) (.seq (.ops [⟨some 2, .assign (.const (.bool false)), 4, none⟩])
    .ret) .skip))
    (.ops [⟨some 24, .move (.tmp 3), 202, none⟩, ⟨some 25, .move (.tmp 5), 3, none⟩, ⟨none, .mapUpdate 202 (.tmp 24) (.tmp 25) (.const (.bool true)), 0, none⟩]))))
    (.ops [⟨some 26, .binOp .add 3 (.tmp 9) (.const (.int .i64 1)) 3, 3, none⟩, ⟨some 9, .move (.tmp 26), 3, none⟩])))))))
    (.seq (.ops [⟨some 27, .move (.tmp 0), 110, none⟩, ⟨some 28, .call { callee := .builtin .len, args := #[.tmp 27], argTypes := #[110] }, 3, none⟩, ⟨some 29, .binOp .geq 3 (.tmp 28) (.const (.int .i64 1)) 3, 4, none⟩, ⟨some 30, .move (.tmp 29), 4, none⟩, ⟨some 31, .move (.tmp 0), 110, some (some 30, true)⟩, ⟨some 32, .call { callee := .builtin .len, args := #[.tmp 31], argTypes := #[110] }, 3, some (some 30, true)⟩, ⟨some 33, .binOp .leq 3 (.tmp 32) (.const (.int .i64 20)) 3, 4, some (some 30, true)⟩, ⟨some 34, .pick (.tmp 30) (.tmp 33) (.const (.bool false)), 4, none⟩, ⟨some 2, .assign (.tmp 34), 4, none⟩])
    .ret))))
def pl228 : Nat → Plan := fun _ => .done
theorem st228 : Go.Proofs.Tryz.f228.body.map (strip pl228) = some m228 := by kernel_rfl
theorem ok228 : okB pl228 Go.Proofs.Tryz.f228 1 = true := by kernel_rfl
theorem en228 {v0 w} {Q : Value → World → Prop} (h : mwpB Go.Proofs.Tryz.prog m228 (argEnv [v0]) [] w (fun e ds w => ds = [] ∧ resW Go.Proofs.Tryz.prog [.tmp 2] e w fun v => Q v w) (fun _ _ _ _ => False) (fun e ds w => ds = [] ∧ resW Go.Proofs.Tryz.prog [.tmp 2] e w fun v => Q v w) (fun _ _ _ _ => False) ⟨⟩) : Rets Go.Proofs.Tryz.prog 228 #[v0] w Q :=
  rets_of_mwp follows_mo Go.Proofs.Tryz.func228 pl228 st228 ok228 (by kernel_rfl) h
/-- slices.Contains[continuo/format.list,int] -/
def m230 : MC := (.seq (.ops [⟨some 4, .assign (.const (.bool false)), 4, none⟩])
    (.seq (.ops [⟨some 5, .move (.tmp 0), 110, none⟩, ⟨some 6, .move (.tmp 1), 3, none⟩, ⟨some 7, .call { callee := .value (.func 231), args := #[.tmp 5, .tmp 6], argTypes := #[110, 3] }, 3, none⟩, ⟨some 8, .binOp .geq 3 (.tmp 7) (.const (.int .i64 0)) 3, 4, none⟩, ⟨some 4, .assign (.tmp 8), 4, none⟩])
    .ret))
def pl230 : Nat → Plan := fun _ => .done
theorem st230 : Go.Proofs.Tryz.f230.body.map (strip pl230) = some m230 := by kernel_rfl
theorem ok230 : okB pl230 Go.Proofs.Tryz.f230 2 = true := by kernel_rfl
theorem en230 {v0 v1 w} {Q : Value → World → Prop} (h : mwpB Go.Proofs.Tryz.prog m230 (argEnv [v0, v1]) [] w (fun e ds w => ds = [] ∧ resW Go.Proofs.Tryz.prog [.tmp 4] e w fun v => Q v w) (fun _ _ _ _ => False) (fun e ds w => ds = [] ∧ resW Go.Proofs.Tryz.prog [.tmp 4] e w fun v => Q v w) (fun _ _ _ _ => False) ⟨⟩) : Rets Go.Proofs.Tryz.prog 230 #[v0, v1] w Q :=
  rets_of_mwp follows_mo Go.Proofs.Tryz.func230 pl230 st230 ok230 (by kernel_rfl) h
/-- slices.Index[continuo/format.list,int] -/
def m231 : MC := (.seq (.ops [⟨some 4, .assign (.const (.int .i64 0)), 3, none⟩])
    (.seq (.seq (.ops [⟨some 6, .move (.tmp 0), 110, none⟩, ⟨some 7, .call { callee := .builtin .len, args := #[.tmp 6], argTypes := #[110] }, 3, none⟩, ⟨some 8, .move (.const (.int .i64 0)), 3, none⟩])
    (.block 0 (.loop (.seq (.ops [⟨some 9, .binOp .lss 3 (.tmp 8) (.tmp 7) 3, 0, none⟩])
    (.seq (.cond (.tmp 9) .skip (.exit 0))
    (.seq (.block 1 (.seq (.ops [⟨some 10, .move (.tmp 8), 3, none⟩, ⟨some 5, .assign (.tmp 10), 3, none⟩])
    (.seq (.ops [⟨some 11, .move (.tmp 1), 3, none⟩, ⟨some 12, .move (.tmp 0), 110, none⟩, ⟨some 13, .move (.tmp 5), 3, none⟩, ⟨some 14, .indexAddr 110 (.tmp 12) (.tmp 13), 0, none⟩, ⟨some 15, .load 3 (.tmp 14), 3, none⟩, ⟨some 16, .binOp .eql 3 (.tmp 11) (.tmp 15) 3, 4, none⟩])
    (.cond (.tmp 16) (.seq (.ops [⟨some 17, .move (.tmp 5), 3, none⟩, ⟨some 4, .assign (.tmp 17), 3, none⟩])
    .ret) .skip))))
    (.ops [⟨some 18, .binOp .add 3 (.tmp 8) (.const (.int .i64 1)) 3, 3, none⟩, ⟨some 8, .move (.tmp 18), 3, none⟩])))))))
    (.seq (.ops [⟨some 4, .assign (.const (.int .i64 (-1))), 3, none⟩])
    .ret)))
def pl231 : Nat → Plan := fun _ => .done
theorem st231 : Go.Proofs.Tryz.f231.body.map (strip pl231) = some m231 := by kernel_rfl
theorem ok231 : okB pl231 Go.Proofs.Tryz.f231 2 = true := by kernel_rfl
theorem en231 {v0 v1 w} {Q : Value → World → Prop} (h : mwpB Go.Proofs.Tryz.prog m231 (argEnv [v0, v1]) [] w (fun e ds w => ds = [] ∧ resW Go.Proofs.Tryz.prog [.tmp 4] e w fun v => Q v w) (fun _ _ _ _ => False) (fun e ds w => ds = [] ∧ resW Go.Proofs.Tryz.prog [.tmp 4] e w fun v => Q v w) (fun _ _ _ _ => False) ⟨⟩) : Rets Go.Proofs.Tryz.prog 231 #[v0, v1] w Q :=
  rets_of_mwp follows_mo Go.Proofs.Tryz.func231 pl231 st231 ok231 (by kernel_rfl) h
/-- (continuo/format.steps).right -/
def m232 : MC := (.seq (.ops [⟨some 1, .box 112 (.tmp 0), 0, none⟩, ⟨some 2, .assign (.const (.bool false)), 4, none⟩])
    (.seq (.ops [⟨some 3, .fieldAddr 112 (.tmp 1) 4, 0, none⟩, ⟨some 4, .load 4 (.tmp 3), 4, none⟩, ⟨some 5, .move (.tmp 4), 4, none⟩, ⟨some 6, .fieldAddr 112 (.tmp 1) 0, 0, some (some 5, true)⟩, ⟨some 7, .load 3 (.tmp 6), 3, some (some 5, true)⟩, ⟨some 8, .binOp .geq 3 (.tmp 7) (.const (.int .i64 0)) 3, 4, some (some 5, true)⟩, ⟨some 9, .pick (.tmp 5) (.tmp 8) (.const (.bool false)), 4, none⟩, ⟨some 10, .move (.tmp 9), 4, none⟩, ⟨some 11, .fieldAddr 112 (.tmp 1) 0, 0, some (some 10, true)⟩, ⟨some 12, .load 3 (.tmp 11), 3, some (some 10, true)⟩, ⟨some 13, .fieldAddr 112 (.tmp 1) 1, 0, some (some 10, true)⟩, ⟨some 14, .load 3 (.tmp 13), 3, some (some 10, true)⟩, ⟨some 15, .binOp .leq 3 (.tmp 12) (.tmp 14) 3, 4, some (some 10, true)⟩, ⟨some 16, .pick (.tmp 10) (.tmp 15) (.const (.bool false)), 4, none⟩, ⟨some 17, .move (.tmp 16), 4, none⟩, ⟨some 18, .fieldAddr 112 (.tmp 1) 1, 0, some (some 17, true)⟩, ⟨some 19, .load 3 (.tmp 18), 3, some (some 17, true)⟩, ⟨some 20, .binOp .leq 3 (.tmp 19) (.const (.int .i64 1000000000)) 3, 4, some (some 17, true)⟩, ⟨some 21, .pick (.tmp 17) (.tmp 20) (.const (.bool false)), 4, none⟩, ⟨some 22, .move (.tmp 21), 4, none⟩, ⟨some 23, .fieldAddr 112 (.tmp 1) 2, 0, some (some 22, true)⟩, ⟨some 24, .load 3 (.tmp 23), 3, some (some 22, true)⟩, ⟨some 25, .binOp .geq 3 (.tmp 24) (.const (.int .i64 1)) 3, 4, some (some 22, true)⟩, ⟨some 26, .pick (.tmp 22) (.tmp 25) (.const (.bool false)), 4, none⟩, ⟨some 27, .move (.tmp 26), 4, none⟩, ⟨some 28, .fieldAddr 112 (.tmp 1) 2, 0, some (some 27, true)⟩, ⟨some 29, .load 3 (.tmp 28), 3, some (some 27, true)⟩, ⟨some 30, .binOp .leq 3 (.tmp 29) (.const (.int .i64 1000)) 3, 4, some (some 27, true)⟩, ⟨some 31, .pick (.tmp 27) (.tmp 30) (.const (.bool false)), 4, none⟩, ⟨some 2, .assign (.tmp 31), 4, none⟩])
    .ret))
def pl232 : Nat → Plan := fun _ => .done
theorem st232 : Go.Proofs.Tryz.f232.body.map (strip pl232) = some m232 := by kernel_rfl
theorem ok232 : okB pl232 Go.Proofs.Tryz.f232 1 = true := by kernel_rfl
theorem en232 {v0 w} {Q : Value → World → Prop} (h : mwpB Go.Proofs.Tryz.prog m232 (argEnv [v0]) [] w (fun e ds w => ds = [] ∧ resW Go.Proofs.Tryz.prog [.tmp 2] e w fun v => Q v w) (fun _ _ _ _ => False) (fun e ds w => ds = [] ∧ resW Go.Proofs.Tryz.prog [.tmp 2] e w fun v => Q v w) (fun _ _ _ _ => False) ⟨⟩) : Rets Go.Proofs.Tryz.prog 232 #[v0] w Q :=
  rets_of_mwp follows_mo Go.Proofs.Tryz.func232 pl232 st232 ok232 (by kernel_rfl) h
end Go.Proofs.YthcdnjbhhaonhaaGreatDoor
