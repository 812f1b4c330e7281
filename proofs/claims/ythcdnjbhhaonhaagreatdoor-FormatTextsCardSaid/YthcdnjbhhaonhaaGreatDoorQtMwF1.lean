/- The functions, stripped. -/
import Derived.Test.YthcdnjbhhaonhaaGreatDoorQtMwT
import Derived.Test.YthcdnjbhhaonhaaGreatDoorQtMwIn


namespace Go.Proofs.YthcdnjbhhaonhaaGreatDoor
open Go.RowKit
set_option maxRecDepth 100000
/-- continuo/format.media -/
def m52 : MC := (.seq (.ops [⟨some 0, .assign (.const (.slice none 0 0)), 73, none⟩])
    (.seq (.ops [⟨some 1, .buildSlice 73 4 #[(0, .const (.string { data := #[] })), (1, .const (.string { data := #[97, 117, 100, 105, 111] })), (2, .const (.string { data := #[118, 105, 100, 101, 111] })), (3, .const (.string { data := #[110, 111, 116, 101, 115] }))], 73, none⟩, ⟨some 0, .assign (.tmp 1), 73, none⟩])
    .ret))
def pl52 : Nat → Plan := fun _ => .done
theorem st52 : Go.Proofs.Tryz.f52.body.map (strip pl52) = some m52 := by kernel_rfl
theorem ok52 : okB pl52 Go.Proofs.Tryz.f52 0 = true := by kernel_rfl
theorem en52 {w} {Q : Value → World → Prop} (h : mwpB Go.Proofs.Tryz.prog m52 (argEnv []) [] w (fun e ds w => ds = [] ∧ resW Go.Proofs.Tryz.prog [.tmp 0] e w fun v => Q v w) (fun _ _ _ _ => False) (fun e ds w => ds = [] ∧ resW Go.Proofs.Tryz.prog [.tmp 0] e w fun v => Q v w) (fun _ _ _ _ => False) ⟨⟩) : Rets Go.Proofs.Tryz.prog 52 #[] w Q :=
  rets_of_mwp follows_mo Go.Proofs.Tryz.func52 pl52 st52 ok52 (by kernel_rfl) h
/-- continuo/format.keys -/
def m53 : MC := (.seq (.ops [⟨some 0, .assign (.const (.slice none 0 0)), 73, none⟩])
    (.seq (.ops [⟨some 1, .buildSlice 73 7 #[(0, .const (.string { data := #[] })), (1, .const (.string { data := #[101, 110, 99, 111, 100, 105, 110, 103] })), (2, .const (.string { data := #[114, 97, 116, 101] })), (3, .const (.string { data := #[99, 104, 97, 110, 110, 101, 108, 115] })), (4, .const (.string { data := #[119, 105, 100, 116, 104] })), (5, .const (.string { data := #[104, 101, 105, 103, 104, 116] })), (6, .const (.string { data := #[109, 111, 100, 105, 102, 105, 101, 114] }))], 73, none⟩, ⟨some 0, .assign (.tmp 1), 73, none⟩])
    .ret))
def pl53 : Nat → Plan := fun _ => .done
theorem st53 : Go.Proofs.Tryz.f53.body.map (strip pl53) = some m53 := by kernel_rfl
theorem ok53 : okB pl53 Go.Proofs.Tryz.f53 0 = true := by kernel_rfl
theorem en53 {w} {Q : Value → World → Prop} (h : mwpB Go.Proofs.Tryz.prog m53 (argEnv []) [] w (fun e ds w => ds = [] ∧ resW Go.Proofs.Tryz.prog [.tmp 0] e w fun v => Q v w) (fun _ _ _ _ => False) (fun e ds w => ds = [] ∧ resW Go.Proofs.Tryz.prog [.tmp 0] e w fun v => Q v w) (fun _ _ _ _ => False) ⟨⟩) : Rets Go.Proofs.Tryz.prog 53 #[] w Q :=
  rets_of_mwp follows_mo Go.Proofs.Tryz.func53 pl53 st53 ok53 (by kernel_rfl) h
/-- continuo/format.shown -/
def m54 : MC := (.seq (.ops [⟨some 1, .box 35 (.tmp 0), 0, none⟩, ⟨some 2, .assign (.const (.string { data := #[] })), 9, none⟩])
    (.seq (.ops [⟨some 7, .fieldAddr 35 (.tmp 1) 1, 0, none⟩, ⟨some 8, .load 3 (.tmp 7), 3, none⟩, ⟨some 9, .call { callee := .value (.func 90), args := #[.tmp 8], argTypes := #[3] }, 9, none⟩, ⟨some 3, .assign (.tmp 9), 9, none⟩])
    (.seq (.seq (.ops [⟨some 10, .fieldAddr 35 (.tmp 1) 0, 0, none⟩, ⟨some 11, .load 3 (.tmp 10), 3, none⟩])
    (.block 0 (.seq (.ops [⟨some 13, .binOp .eql 3 (.tmp 11) (.const (.int .i64 2)) 3, 4, none⟩, ⟨some 12, .assign (.tmp 13), 4, none⟩])
    (.cond (.tmp 12) (.seq (.ops [⟨some 4, .assign (.const (.slice none 0 0)), 73, none⟩])
    (.seq (.seq (.ops [⟨some 14, .fieldAddr 35 (.tmp 1) 2, 0, none⟩, ⟨some 15, .load 33 (.tmp 14), 33, none⟩, ⟨some 16, .call { callee := .builtin .len, args := #[.tmp 15], argTypes := #[33] }, 3, none⟩, ⟨some 17, .move (.const (.int .i64 0)), 3, none⟩])
    (.block 1 (.loop (.seq (.ops [⟨some 18, .binOp .lss 3 (.tmp 17) (.tmp 16) 3, 0, none⟩])
    (.seq (.cond (.tmp 18) .skip (.exit 1))
    (.seq (.block 2 (.seq (.ops [⟨some 19, .indexAddr 33 (.tmp 15) (.tmp 17), 0, none⟩, ⟨some 20, .load 3 (.tmp 19), 3, none⟩, ⟨some 6, .assign (.tmp 20), 3, none⟩])
    (.ops [⟨some 21, .move (.tmp 4), 73, none⟩, ⟨some 22, .move (.tmp 6), 3, none⟩, ⟨some 23, .call { callee := .value (.func 90), args := #[.tmp 22], argTypes := #[3] }, 9, none⟩, ⟨some 24, .buildSlice 73 1 #[(0, .tmp 23)], 73, none⟩, ⟨some 25, .call { callee := .builtin .append, args := #[.tmp 21, .tmp 24], argTypes := #[73, 73] }, 73, none⟩, ⟨some 4, .assign (.tmp 25), 73, none⟩])))
    (.ops [⟨some 26, .binOp .add 3 (.tmp 17) (.const (.int .i64 1)) 3, 3, none⟩, ⟨some 17, .move (.tmp 26), 3, none⟩])))))))
    (.ops [⟨some 27, .move (.tmp 3), 9, none⟩, ⟨some 28, .move (.tmp 4), 73, none⟩, ⟨some 29, .call { callee := .value (.func 91), args := #[.tmp 28, .const (.string { data := #[44] })], argTypes := #[73, 9] }, 9, none⟩, ⟨some 30, .binOp .add 9 (.const (.string { data := #[32, 111, 102, 32] })) (.tmp 29) 9, 9, none⟩, ⟨some 31, .binOp .add 9 (.tmp 27) (.tmp 30) 9, 9, none⟩, ⟨some 3, .assign (.tmp 31), 9, none⟩]))) (.seq (.seq (.ops [⟨some 33, .binOp .eql 3 (.tmp 11) (.const (.int .i64 3)) 3, 4, none⟩, ⟨some 32, .assign (.tmp 33), 4, none⟩])
    (.cond (.tmp 32) .skip (.ops [⟨some 34, .binOp .eql 3 (.tmp 11) (.const (.int .i64 4)) 3, 4, none⟩, ⟨some 32, .assign (.tmp 34), 4, none⟩])))
    (.cond (.tmp 32) (.draw (.take ⟨some 35, .move (.tmp 3), 9, none⟩ (.take ⟨some 36, .fieldAddr 35 (.tmp 1) 2, 0, none⟩ (.take ⟨some 37, .load 33 (.tmp 36), 33, none⟩ (.take ⟨some 38, .indexAddr 33 (.tmp 37) (.const (.int .i64 0)), 0, none⟩ (.take ⟨some 39, .load 3 (.tmp 38), 3, none⟩ (.take ⟨some 43, .fieldAddr 35 (.tmp 1) 2, 0, none⟩ (.take ⟨some 44, .load 33 (.tmp 43), 33, none⟩ (.take ⟨some 45, .indexAddr 33 (.tmp 44) (.const (.int .i64 1)), 0, none⟩ (.take ⟨some 46, .load 3 (.tmp 45), 3, none⟩ (.alt ⟨some 40, .call { callee := .value (.func 90), args := #[.tmp 39], argTypes := #[3] }, 9, none⟩ (.take ⟨some 41, .binOp .add 9 (.const (.string { data := #[32, 111, 102, 32] })) (.tmp 40) 9, 9, none⟩ (.take ⟨some 42, .binOp .add 9 (.tmp 41) (.const (.string { data := #[46, 46] })) 9, 9, none⟩ (.alt ⟨some 47, .call { callee := .value (.func 90), args := #[.tmp 46], argTypes := #[3] }, 9, none⟩ (.take ⟨some 48, .binOp .add 9 (.tmp 42) (.tmp 47) 9, 9, none⟩ (.take ⟨some 49, .binOp .add 9 (.tmp 35) (.tmp 48) 9, 9, none⟩ (.take ⟨some 3, .assign (.tmp 49), 9, none⟩ .done))) .none))) .none))))))))))) .skip))))))
    (.seq (.seq (.ops [⟨some 50, .fieldAddr 35 (.tmp 1) 0, 0, none⟩, ⟨some 51, .load 3 (.tmp 50), 3, none⟩, ⟨some 52, .binOp .eql 3 (.tmp 51) (.const (.int .i64 4)) 3, 4, none⟩])
    (.cond (.tmp 52) (.ops [⟨some 53, .move (.tmp 3), 9, none⟩, ⟨some 54, .fieldAddr 35 (.tmp 1) 2, 0, none⟩, ⟨some 55, .load 33 (.tmp 54), 33, none⟩, ⟨some 56, .indexAddr 33 (.tmp 55) (.const (.int .i64 2)), 0, none⟩, ⟨some 57, .load 3 (.tmp 56), 3, none⟩, ⟨some 58, .call { callee := .value (.func 90), args := #[.tmp 57], argTypes := #[3] }, 9, none⟩, ⟨some 59, .binOp .add 9 (.const (.string { data := #[47] })) (.tmp 58) 9, 9, none⟩, ⟨some 60, .binOp .add 9 (.tmp 53) (.tmp 59) 9, 9, none⟩, ⟨some 3, .assign (.tmp 60), 9, none⟩]) .skip))
    (.seq (.ops [⟨some 61, .move (.tmp 3), 9, none⟩, ⟨some 2, .assign (.tmp 61), 9, none⟩])
    .ret)))))
def pl54 : Nat → Plan := fun id => if id = 13 then (.take 0 (.take 1 (.take 2 (.take 3 (.take 4 (.take 8 (.take 9 (.take 10 (.take 11 (.alt 5 (.take 6 (.take 7 (.alt 12 (.take 13 (.take 14 (.take 15 .done))) .none))) .none)))))))))) else .done
theorem st54 : Go.Proofs.Tryz.f54.body.map (strip pl54) = some m54 := by kernel_rfl
theorem ok54 : okB pl54 Go.Proofs.Tryz.f54 1 = true := by kernel_rfl
theorem en54 {v0 w} {Q : Value → World → Prop} (h : mwpB Go.Proofs.Tryz.prog m54 (argEnv [v0]) [] w (fun e ds w => ds = [] ∧ resW Go.Proofs.Tryz.prog [.tmp 2] e w fun v => Q v w) (fun _ _ _ _ => False) (fun e ds w => ds = [] ∧ resW Go.Proofs.Tryz.prog [.tmp 2] e w fun v => Q v w) (fun _ _ _ _ => False) ⟨⟩) : Rets Go.Proofs.Tryz.prog 54 #[v0] w Q :=
  rets_of_mwp follows_mo Go.Proofs.Tryz.func54 pl54 st54 ok54 (by kernel_rfl) h
/-- slices.Index[[]string,string] -/
def m56 : MC := (.seq (.ops [⟨some 4, .assign (.const (.int .i64 0)), 3, none⟩])
    (.seq (.seq (.ops [⟨some 6, .move (.tmp 0), 73, none⟩, ⟨some 7, .call { callee := .builtin .len, args := #[.tmp 6], argTypes := #[73] }, 3, none⟩, ⟨some 8, .move (.const (.int .i64 0)), 3, none⟩])
    (.block 0 (.loop (.seq (.ops [⟨some 9, .binOp .lss 3 (.tmp 8) (.tmp 7) 3, 0, none⟩])
    (.seq (.cond (.tmp 9) .skip (.exit 0))
    (.seq (.block 1 (.seq (.ops [⟨some 10, .move (.tmp 8), 3, none⟩, ⟨some 5, .assign (.tmp 10), 3, none⟩])
    (.seq (.ops [⟨some 11, .move (.tmp 1), 9, none⟩, ⟨some 12, .move (.tmp 0), 73, none⟩, ⟨some 13, .move (.tmp 5), 3, none⟩, ⟨some 14, .indexAddr 73 (.tmp 12) (.tmp 13), 0, none⟩, ⟨some 15, .load 9 (.tmp 14), 9, none⟩, ⟨some 16, .binOp .eql 9 (.tmp 11) (.tmp 15) 9, 4, none⟩])
    (.cond (.tmp 16) (.seq (.ops [⟨some 17, .move (.tmp 5), 3, none⟩, ⟨some 4, .assign (.tmp 17), 3, none⟩])
    .ret) .skip))))
    (.ops [⟨some 18, .binOp .add 3 (.tmp 8) (.const (.int .i64 1)) 3, 3, none⟩, ⟨some 8, .move (.tmp 18), 3, none⟩])))))))
    (.seq (.ops [⟨some 4, .assign (.const (.int .i64 (-1))), 3, none⟩])
    .ret)))
def pl56 : Nat → Plan := fun _ => .done
theorem st56 : Go.Proofs.Tryz.f56.body.map (strip pl56) = some m56 := by kernel_rfl
theorem ok56 : okB pl56 Go.Proofs.Tryz.f56 2 = true := by kernel_rfl
theorem en56 {v0 v1 w} {Q : Value → World → Prop} (h : mwpB Go.Proofs.Tryz.prog m56 (argEnv [v0, v1]) [] w (fun e ds w => ds = [] ∧ resW Go.Proofs.Tryz.prog [.tmp 4] e w fun v => Q v w) (fun _ _ _ _ => False) (fun e ds w => ds = [] ∧ resW Go.Proofs.Tryz.prog [.tmp 4] e w fun v => Q v w) (fun _ _ _ _ => False) ⟨⟩) : Rets Go.Proofs.Tryz.prog 56 #[v0, v1] w Q :=
  rets_of_mwp follows_mo Go.Proofs.Tryz.func56 pl56 st56 ok56 (by kernel_rfl) h
/-- continuo/format.choice -/
def m58 : MC := (.seq (.ops [⟨some 6, .alloc 35, 0, none⟩])
    (.seq (.ops [⟨some 16, .move (.tmp 0), 9, none⟩, ⟨some 17, .call { callee := .value (.func 94), args := #[.tmp 16], argTypes := #[9] }, 3, none⟩, ⟨some 18, .move (.tmp 0), 9, none⟩, ⟨some 19, .call { callee := .value (.func 94), args := #[.tmp 18], argTypes := #[9] }, 3, none⟩, ⟨some 20, .buildSlice 33 1 #[(0, .tmp 19)], 33, none⟩, ⟨some 21, .build 35 #[(0, .const (.int .i64 1)), (1, .tmp 17), (2, .tmp 20)], 35, none⟩, ⟨some 7, .alloc 35, 0, none⟩, ⟨none, .store 35 (.tmp 7) (.tmp 21), 0, none⟩])
    (.seq (.seq (.ops [⟨some 22, .move (.tmp 2), 4, none⟩, ⟨some 23, .unOp .not 4 (.tmp 22), 4, none⟩])
    (.cond (.tmp 23) (.seq (.ops [⟨some 24, .load 35 (.tmp 7), 35, none⟩, ⟨none, .store 35 (.tmp 6) (.tmp 24), 0, none⟩])
    .ret) .skip))
    (.seq (.seq (.ops [⟨some 26, .move (.tmp 1), 9, none⟩, ⟨some 27, .call { callee := .value (.func 57), args := #[.tmp 26, .const (.string { data := #[46, 46] })], argTypes := #[9, 9] }, 78, none⟩, ⟨some 25, .move (.tmp 27), 78, none⟩, ⟨some 28, .extract (.tmp 25) 0, 9, none⟩, ⟨some 29, .extract (.tmp 25) 1, 9, none⟩, ⟨some 30, .extract (.tmp 25) 2, 4, none⟩, ⟨some 8, .assign (.tmp 28), 9, none⟩, ⟨some 9, .assign (.tmp 29), 9, none⟩, ⟨some 10, .assign (.tmp 30), 4, none⟩])
    (.seq (.ops [⟨some 31, .move (.tmp 10), 4, none⟩])
    (.cond (.tmp 31) (.seq (.ops [⟨some 33, .move (.tmp 9), 9, none⟩, ⟨some 34, .call { callee := .value (.func 57), args := #[.tmp 33, .const (.string { data := #[47] })], argTypes := #[9, 9] }, 78, none⟩, ⟨some 32, .move (.tmp 34), 78, none⟩, ⟨some 35, .extract (.tmp 32) 0, 9, none⟩, ⟨some 36, .extract (.tmp 32) 1, 9, none⟩, ⟨some 37, .extract (.tmp 32) 2, 4, none⟩, ⟨some 11, .assign (.tmp 35), 9, none⟩, ⟨some 12, .assign (.tmp 36), 9, none⟩, ⟨some 13, .assign (.tmp 37), 4, none⟩])
    (.seq (.ops [⟨some 38, .move (.tmp 8), 9, none⟩, ⟨some 39, .call { callee := .value (.func 94), args := #[.tmp 38], argTypes := #[9] }, 3, none⟩, ⟨some 40, .move (.tmp 11), 9, none⟩, ⟨some 41, .call { callee := .value (.func 94), args := #[.tmp 40], argTypes := #[9] }, 3, none⟩, ⟨some 42, .buildSlice 33 2 #[(0, .tmp 39), (1, .tmp 41)], 33, none⟩, ⟨some 43, .fieldAddr 35 (.tmp 7) 0, 0, none⟩, ⟨none, .store 3 (.tmp 43) (.const (.int .i64 3)), 0, none⟩, ⟨some 44, .fieldAddr 35 (.tmp 7) 2, 0, none⟩, ⟨none, .store 33 (.tmp 44) (.tmp 42), 0, none⟩])
    (.seq (.seq (.ops [⟨some 45, .move (.tmp 13), 4, none⟩])
    (.cond (.tmp 45) (.draw (.take ⟨some 46, .fieldAddr 35 (.tmp 7) 2, 0, none⟩ (.take ⟨some 47, .load 33 (.tmp 46), 33, none⟩ (.take ⟨some 48, .move (.tmp 12), 9, none⟩ (.take ⟨some 52, .fieldAddr 35 (.tmp 7) 0, 0, none⟩ (.alt ⟨some 49, .call { callee := .value (.func 94), args := #[.tmp 48], argTypes := #[9] }, 3, none⟩ (.alt ⟨some 50, .buildSlice 33 1 #[(0, .tmp 49)], 33, none⟩ (.alt ⟨some 51, .call { callee := .builtin .append, args := #[.tmp 47, .tmp 50], argTypes := #[33, 33] }, 33, none⟩ (.altL ⟨none, .store 3 (.tmp 52) (.const (.int .i64 4)), 0, none⟩ (.take ⟨some 53, .fieldAddr 35 (.tmp 7) 2, 0, none⟩ (.altL ⟨none, .store 33 (.tmp 53) (.tmp 51), 0, none⟩ .done .none)) .none) .none) .none) .none)))))) .skip))
    (.seq (.ops [⟨some 54, .load 35 (.tmp 7), 35, none⟩, ⟨none, .store 35 (.tmp 6) (.tmp 54), 0, none⟩])
    .ret)))) .skip)))
    (.seq (.ops [⟨some 55, .fieldAddr 35 (.tmp 7) 0, 0, none⟩, ⟨none, .store 3 (.tmp 55) (.const (.int .i64 2)), 0, none⟩, ⟨some 56, .fieldAddr 35 (.tmp 7) 2, 0, none⟩, ⟨none, .store 33 (.tmp 56) (.const (.slice none 0 0)), 0, none⟩])
    (.seq (.seq (.ops [⟨some 57, .move (.tmp 1), 9, none⟩, ⟨some 58, .call { callee := .value (.func 55), args := #[.tmp 57, .const (.string { data := #[44] })], argTypes := #[9, 9] }, 73, none⟩, ⟨some 59, .call { callee := .builtin .len, args := #[.tmp 58], argTypes := #[73] }, 3, none⟩, ⟨some 60, .move (.const (.int .i64 0)), 3, none⟩])
    (.block 0 (.loop (.seq (.ops [⟨some 61, .binOp .lss 3 (.tmp 60) (.tmp 59) 3, 0, none⟩])
    (.seq (.cond (.tmp 61) .skip (.exit 0))
    (.seq (.block 1 (.seq (.ops [⟨some 62, .indexAddr 73 (.tmp 58) (.tmp 60), 0, none⟩, ⟨some 63, .load 9 (.tmp 62), 9, none⟩, ⟨some 15, .assign (.tmp 63), 9, none⟩])
    (.draw (.take ⟨some 64, .fieldAddr 35 (.tmp 7) 2, 0, none⟩ (.take ⟨some 65, .load 33 (.tmp 64), 33, none⟩ (.take ⟨some 66, .move (.tmp 15), 9, none⟩ (.alt ⟨some 67, .call { callee := .value (.func 94), args := #[.tmp 66], argTypes := #[9] }, 3, none⟩ (.alt ⟨some 68, .buildSlice 33 1 #[(0, .tmp 67)], 33, none⟩ (.alt ⟨some 69, .call { callee := .builtin .append, args := #[.tmp 65, .tmp 68], argTypes := #[33, 33] }, 33, none⟩ (.take ⟨some 70, .fieldAddr 35 (.tmp 7) 2, 0, none⟩ (.altL ⟨none, .store 33 (.tmp 70) (.tmp 69), 0, none⟩ .done .none)) .none) .none) .none)))))))
    (.ops [⟨some 71, .binOp .add 3 (.tmp 60) (.const (.int .i64 1)) 3, 3, none⟩, ⟨some 60, .move (.tmp 71), 3, none⟩])))))))
    (.seq (.ops [⟨some 72, .load 35 (.tmp 7), 35, none⟩, ⟨none, .store 35 (.tmp 6) (.tmp 72), 0, none⟩])
    .ret)))))))
def pl58 : Nat → Plan := fun id => if id = 9 then (.take 0 (.take 1 (.take 2 (.take 6 (.alt 3 (.alt 4 (.alt 5 (.altL 7 (.take 8 (.altL 9 .done .none)) .none) .none) .none) .none))))) else if id = 15 then (.take 0 (.take 1 (.take 2 (.alt 3 (.alt 4 (.alt 5 (.take 6 (.altL 7 .done .none)) .none) .none) .none)))) else .done
theorem st58 : Go.Proofs.Tryz.f58.body.map (strip pl58) = some m58 := by kernel_rfl
theorem ok58 : okB pl58 Go.Proofs.Tryz.f58 3 = true := by kernel_rfl
theorem en58 {v0 v1 v2 w} {Q : Value → World → Prop} (h : mwpB Go.Proofs.Tryz.prog m58 (argEnv [v0, v1, v2]) [] w (fun e ds w => ds = [] ∧ resW Go.Proofs.Tryz.prog [.cell 6 35] e w fun v => Q v w) (fun _ _ _ _ => False) (fun e ds w => ds = [] ∧ resW Go.Proofs.Tryz.prog [.cell 6 35] e w fun v => Q v w) (fun _ _ _ _ => False) ⟨⟩) : Rets Go.Proofs.Tryz.prog 58 #[v0, v1, v2] w Q :=
  rets_of_mwp follows_mo Go.Proofs.Tryz.func58 pl58 st58 ok58 (by kernel_rfl) h
/-- continuo/continuoref02.Cut -/
def m59 : MC := (.seq (.ops [⟨some 4, .assign (.const (.slice none 0 0)), 73, none⟩])
    (.seq (.ops [⟨some 5, .assign (.const (.slice none 0 0)), 73, none⟩])
    (.seq (.ops [⟨some 6, .assign (.const (.int .i64 0)), 3, none⟩])
    (.seq (.seq (.ops [⟨some 7, .assign (.const (.int .i64 0)), 3, none⟩])
    (.block 0 (.loop (.seq (.seq (.ops [⟨some 8, .move (.tmp 7), 3, none⟩, ⟨some 9, .move (.tmp 0), 9, none⟩, ⟨some 10, .call { callee := .builtin .len, args := #[.tmp 9], argTypes := #[9] }, 3, none⟩, ⟨some 11, .binOp .lss 3 (.tmp 8) (.tmp 10) 3, 4, none⟩])
    (.cond (.tmp 11) .skip (.exit 0)))
    (.seq (.block 1 (.seq (.ops [⟨some 14, .move (.tmp 0), 9, none⟩, ⟨some 15, .move (.tmp 7), 3, none⟩, ⟨some 16, .index 9 (.tmp 14) (.tmp 15), 5, none⟩, ⟨some 17, .move (.tmp 1), 5, none⟩, ⟨some 18, .binOp .eql 5 (.tmp 16) (.tmp 17) 5, 4, none⟩])
    (.cond (.tmp 18) (.seq (.ops [⟨some 19, .move (.tmp 5), 73, none⟩, ⟨some 20, .move (.tmp 0), 9, none⟩, ⟨some 21, .move (.tmp 6), 3, none⟩, ⟨some 22, .move (.tmp 7), 3, none⟩, ⟨some 23, .slice 9 (.tmp 20) (some (.tmp 21)) (some (.tmp 22)) none, 9, none⟩, ⟨some 24, .buildSlice 73 1 #[(0, .tmp 23)], 73, none⟩, ⟨some 25, .call { callee := .builtin .append, args := #[.tmp 19, .tmp 24], argTypes := #[73, 73] }, 73, none⟩, ⟨some 5, .assign (.tmp 25), 73, none⟩])
    (.ops [⟨some 26, .move (.tmp 7), 3, none⟩, ⟨some 27, .binOp .add 3 (.tmp 26) (.const (.int .i64 1)) 3, 3, none⟩, ⟨some 6, .assign (.tmp 27), 3, none⟩])) .skip)))
    (.ops [⟨some 12, .move (.tmp 7), 3, none⟩, ⟨some 13, .binOp .add 3 (.tmp 12) (.const (.int .i64 1)) 3, 3, none⟩, ⟨some 7, .assign (.tmp 13), 3, none⟩]))))))
    (.seq (.ops [⟨some 28, .move (.tmp 5), 73, none⟩, ⟨some 29, .move (.tmp 0), 9, none⟩, ⟨some 30, .move (.tmp 6), 3, none⟩, ⟨some 31, .slice 9 (.tmp 29) (some (.tmp 30)) none none, 9, none⟩, ⟨some 32, .buildSlice 73 1 #[(0, .tmp 31)], 73, none⟩, ⟨some 33, .call { callee := .builtin .append, args := #[.tmp 28, .tmp 32], argTypes := #[73, 73] }, 73, none⟩, ⟨some 4, .assign (.tmp 33), 73, none⟩])
    .ret)))))
def pl59 : Nat → Plan := fun _ => .done
theorem st59 : Go.Proofs.Tryz.f59.body.map (strip pl59) = some m59 := by kernel_rfl
theorem ok59 : okB pl59 Go.Proofs.Tryz.f59 2 = true := by kernel_rfl
theorem en59 {v0 v1 w} {Q : Value → World → Prop} (h : mwpB Go.Proofs.Tryz.prog m59 (argEnv [v0, v1]) [] w (fun e ds w => ds = [] ∧ resW Go.Proofs.Tryz.prog [.tmp 4] e w fun v => Q v w) (fun _ _ _ _ => False) (fun e ds w => ds = [] ∧ resW Go.Proofs.Tryz.prog [.tmp 4] e w fun v => Q v w) (fun _ _ _ _ => False) ⟨⟩) : Rets Go.Proofs.Tryz.prog 59 #[v0, v1] w Q :=
  rets_of_mwp follows_mo Go.Proofs.Tryz.func59 pl59 st59 ok59 (by kernel_rfl) h
/-- continuo/continuoref02.find -/
def m60 : MC := (.seq (.ops [⟨some 4, .assign (.const (.int .i64 0)), 3, none⟩])
    (.seq (.seq (.ops [⟨some 5, .assign (.const (.int .i64 1)), 3, none⟩])
    (.block 0 (.loop (.seq (.seq (.ops [⟨some 6, .move (.tmp 5), 3, none⟩, ⟨some 7, .move (.tmp 0), 73, none⟩, ⟨some 8, .call { callee := .builtin .len, args := #[.tmp 7], argTypes := #[73] }, 3, none⟩, ⟨some 9, .binOp .lss 3 (.tmp 6) (.tmp 8) 3, 4, none⟩])
    (.cond (.tmp 9) .skip (.exit 0)))
    (.seq (.block 1 (.seq (.ops [⟨some 12, .move (.tmp 0), 73, none⟩, ⟨some 13, .move (.tmp 5), 3, none⟩, ⟨some 14, .indexAddr 73 (.tmp 12) (.tmp 13), 0, none⟩, ⟨some 15, .load 9 (.tmp 14), 9, none⟩, ⟨some 16, .move (.tmp 1), 9, none⟩, ⟨some 17, .binOp .eql 9 (.tmp 15) (.tmp 16) 9, 4, none⟩])
    (.cond (.tmp 17) (.seq (.ops [⟨some 18, .move (.tmp 5), 3, none⟩, ⟨some 4, .assign (.tmp 18), 3, none⟩])
    .ret) .skip)))
    (.ops [⟨some 10, .move (.tmp 5), 3, none⟩, ⟨some 11, .binOp .add 3 (.tmp 10) (.const (.int .i64 1)) 3, 3, none⟩, ⟨some 5, .assign (.tmp 11), 3, none⟩]))))))
    (.seq (.ops [⟨some 4, .assign (.const (.int .i64 0)), 3, none⟩])
    .ret)))
def pl60 : Nat → Plan := fun _ => .done
theorem st60 : Go.Proofs.Tryz.f60.body.map (strip pl60) = some m60 := by kernel_rfl
theorem ok60 : okB pl60 Go.Proofs.Tryz.f60 2 = true := by kernel_rfl
theorem en60 {v0 v1 w} {Q : Value → World → Prop} (h : mwpB Go.Proofs.Tryz.prog m60 (argEnv [v0, v1]) [] w (fun e ds w => ds = [] ∧ resW Go.Proofs.Tryz.prog [.tmp 4] e w fun v => Q v w) (fun _ _ _ _ => False) (fun e ds w => ds = [] ∧ resW Go.Proofs.Tryz.prog [.tmp 4] e w fun v => Q v w) (fun _ _ _ _ => False) ⟨⟩) : Rets Go.Proofs.Tryz.prog 60 #[v0, v1] w Q :=
  rets_of_mwp follows_mo Go.Proofs.Tryz.func60 pl60 st60 ok60 (by kernel_rfl) h
/-- continuo/continuoref02.media -/
def m61 : MC := (.seq (.ops [⟨some 0, .assign (.const (.slice none 0 0)), 73, none⟩])
    (.seq (.ops [⟨some 1, .buildSlice 73 4 #[(0, .const (.string { data := #[] })), (1, .const (.string { data := #[97, 117, 100, 105, 111] })), (2, .const (.string { data := #[118, 105, 100, 101, 111] })), (3, .const (.string { data := #[110, 111, 116, 101, 115] }))], 73, none⟩, ⟨some 0, .assign (.tmp 1), 73, none⟩])
    .ret))
def pl61 : Nat → Plan := fun _ => .done
theorem st61 : Go.Proofs.Tryz.f61.body.map (strip pl61) = some m61 := by kernel_rfl
theorem ok61 : okB pl61 Go.Proofs.Tryz.f61 0 = true := by kernel_rfl
theorem en61 {w} {Q : Value → World → Prop} (h : mwpB Go.Proofs.Tryz.prog m61 (argEnv []) [] w (fun e ds w => ds = [] ∧ resW Go.Proofs.Tryz.prog [.tmp 0] e w fun v => Q v w) (fun _ _ _ _ => False) (fun e ds w => ds = [] ∧ resW Go.Proofs.Tryz.prog [.tmp 0] e w fun v => Q v w) (fun _ _ _ _ => False) ⟨⟩) : Rets Go.Proofs.Tryz.prog 61 #[] w Q :=
  rets_of_mwp follows_mo Go.Proofs.Tryz.func61 pl61 st61 ok61 (by kernel_rfl) h
/-- continuo/continuoref02.Digits -/
def m62 : MC := (.seq (.ops [⟨some 4, .assign (.const (.int .i64 0)), 3, none⟩])
    (.seq (.ops [⟨some 5, .assign (.const (.int .i64 0)), 3, none⟩])
    (.seq (.seq (.ops [⟨some 6, .assign (.const (.int .i64 0)), 3, none⟩])
    (.block 0 (.loop (.seq (.seq (.ops [⟨some 7, .move (.tmp 6), 3, none⟩, ⟨some 8, .move (.tmp 0), 9, none⟩, ⟨some 9, .call { callee := .builtin .len, args := #[.tmp 8], argTypes := #[9] }, 3, none⟩, ⟨some 10, .binOp .lss 3 (.tmp 7) (.tmp 9) 3, 4, none⟩])
    (.cond (.tmp 10) .skip (.exit 0)))
    (.seq (.block 1 (.seq (.seq (.ops [⟨some 13, .move (.tmp 0), 9, none⟩, ⟨some 14, .move (.tmp 6), 3, none⟩, ⟨some 15, .index 9 (.tmp 13) (.tmp 14), 5, none⟩, ⟨some 16, .binOp .lss 5 (.tmp 15) (.const (.int .u8 48)) 5, 4, none⟩, ⟨some 17, .move (.tmp 16), 4, none⟩, ⟨some 18, .move (.tmp 0), 9, some (some 17, false)⟩, ⟨some 19, .move (.tmp 6), 3, some (some 17, false)⟩, ⟨some 20, .index 9 (.tmp 18) (.tmp 19), 5, some (some 17, false)⟩, ⟨some 21, .binOp .gtr 5 (.tmp 20) (.const (.int .u8 57)) 5, 4, some (some 17, false)⟩, ⟨some 22, .pick (.tmp 17) (.const (.bool true)) (.tmp 21), 4, none⟩, ⟨some 23, .move (.tmp 22), 4, none⟩, ⟨some 24, .move (.tmp 5), 3, some (some 23, false)⟩, ⟨some 25, .move (.tmp 1), 3, some (some 23, false)⟩, ⟨some 26, .move (.tmp 0), 9, some (some 23, false)⟩, ⟨some 27, .move (.tmp 6), 3, some (some 23, false)⟩, ⟨some 28, .index 9 (.tmp 26) (.tmp 27), 5, some (some 23, false)⟩, ⟨some 29, .binOp .sub 5 (.tmp 28) (.const (.int .u8 48)) 5, 5, some (some 23, false)⟩, ⟨some 30, .convert 5 3 (.tmp 29), 3, some (some 23, false)⟩, ⟨some 31, .binOp .sub 3 (.tmp 25) (.tmp 30) 3, 3, some (some 23, false)⟩, ⟨some 32, .binOp .quo 3 (.tmp 31) (.const (.int .i64 10)) 3, 3, some (some 23, false)⟩, ⟨some 33, .binOp .gtr 3 (.tmp 24) (.tmp 32) 3, 4, some (some 23, false)⟩, ⟨some 34, .pick (.tmp 23) (.const (.bool true)) (.tmp 33), 4, none⟩])
    (.cond (.tmp 34) (.seq (.ops [⟨some 4, .assign (.const (.int .i64 (-1))), 3, none⟩])
    .ret) .skip))
    (.ops [⟨some 35, .move (.tmp 5), 3, none⟩, ⟨some 36, .binOp .mul 3 (.const (.int .i64 10)) (.tmp 35) 3, 3, none⟩, ⟨some 37, .move (.tmp 0), 9, none⟩, ⟨some 38, .move (.tmp 6), 3, none⟩, ⟨some 39, .index 9 (.tmp 37) (.tmp 38), 5, none⟩, ⟨some 40, .binOp .sub 5 (.tmp 39) (.const (.int .u8 48)) 5, 5, none⟩, ⟨some 41, .convert 5 3 (.tmp 40), 3, none⟩, ⟨some 42, .binOp .add 3 (.tmp 36) (.tmp 41) 3, 3, none⟩, ⟨some 5, .assign (.tmp 42), 3, none⟩])))
    (.ops [⟨some 11, .move (.tmp 6), 3, none⟩, ⟨some 12, .binOp .add 3 (.tmp 11) (.const (.int .i64 1)) 3, 3, none⟩, ⟨some 6, .assign (.tmp 12), 3, none⟩]))))))
    (.seq (.seq (.ops [⟨some 43, .move (.tmp 0), 9, none⟩, ⟨some 44, .binOp .eql 9 (.tmp 43) (.const (.string { data := #[] })) 9, 4, none⟩, ⟨some 45, .move (.tmp 44), 4, none⟩, ⟨some 46, .move (.tmp 0), 9, some (some 45, false)⟩, ⟨some 47, .index 9 (.tmp 46) (.const (.int .i64 0)), 5, some (some 45, false)⟩, ⟨some 48, .binOp .eql 5 (.tmp 47) (.const (.int .u8 48)) 5, 4, some (some 45, false)⟩, ⟨some 49, .move (.tmp 48), 4, some (some 45, false)⟩, ⟨some 50, .move (.tmp 0), 9, some (some 49, true)⟩, ⟨some 51, .call { callee := .builtin .len, args := #[.tmp 50], argTypes := #[9] }, 3, some (some 49, true)⟩, ⟨some 52, .binOp .gtr 3 (.tmp 51) (.const (.int .i64 1)) 3, 4, some (some 49, true)⟩, ⟨some 53, .pick (.tmp 49) (.tmp 52) (.const (.bool false)), 4, some (some 45, false)⟩, ⟨some 54, .pick (.tmp 45) (.const (.bool true)) (.tmp 53), 4, none⟩])
    (.cond (.tmp 54) (.seq (.ops [⟨some 4, .assign (.const (.int .i64 (-1))), 3, none⟩])
    .ret) .skip))
    (.seq (.ops [⟨some 55, .move (.tmp 5), 3, none⟩, ⟨some 4, .assign (.tmp 55), 3, none⟩])
    .ret)))))
def pl62 : Nat → Plan := fun _ => .done
theorem st62 : Go.Proofs.Tryz.f62.body.map (strip pl62) = some m62 := by kernel_rfl
theorem ok62 : okB pl62 Go.Proofs.Tryz.f62 2 = true := by kernel_rfl
theorem en62 {v0 v1 w} {Q : Value → World → Prop} (h : mwpB Go.Proofs.Tryz.prog m62 (argEnv [v0, v1]) [] w (fun e ds w => ds = [] ∧ resW Go.Proofs.Tryz.prog [.tmp 4] e w fun v => Q v w) (fun _ _ _ _ => False) (fun e ds w => ds = [] ∧ resW Go.Proofs.Tryz.prog [.tmp 4] e w fun v => Q v w) (fun _ _ _ _ => False) ⟨⟩) : Rets Go.Proofs.Tryz.prog 62 #[v0, v1] w Q :=
  rets_of_mwp follows_mo Go.Proofs.Tryz.func62 pl62 st62 ok62 (by kernel_rfl) h
/-- continuo/continuoref02.heard -/
def m63 : MC := (.seq (.ops [⟨some 2, .assign (.const (.int .i64 0)), 3, none⟩, ⟨some 3, .assign (.const (.slice none 0 0)), 33, none⟩])
    (.seq (.seq (.ops [⟨some 4, .assign (.const (.int .i64 0)), 3, none⟩])
    (.block 0 (.loop (.seq (.seq (.ops [⟨some 10, .move (.tmp 4), 3, none⟩, ⟨some 11, .binOp .add 3 (.tmp 10) (.const (.int .i64 1)) 3, 3, none⟩, ⟨some 12, .move (.tmp 0), 9, none⟩, ⟨some 13, .call { callee := .builtin .len, args := #[.tmp 12], argTypes := #[9] }, 3, none⟩, ⟨some 14, .binOp .lss 3 (.tmp 11) (.tmp 13) 3, 4, none⟩])
    (.cond (.tmp 14) .skip (.exit 0)))
    (.seq (.block 1 (.seq (.seq (.ops [⟨some 17, .move (.tmp 0), 9, none⟩, ⟨some 18, .move (.tmp 4), 3, none⟩, ⟨some 19, .index 9 (.tmp 17) (.tmp 18), 5, none⟩, ⟨some 20, .binOp .neq 5 (.tmp 19) (.const (.int .u8 46)) 5, 4, none⟩, ⟨some 21, .move (.tmp 20), 4, none⟩, ⟨some 22, .move (.tmp 0), 9, some (some 21, false)⟩, ⟨some 23, .move (.tmp 4), 3, some (some 21, false)⟩, ⟨some 24, .binOp .add 3 (.tmp 23) (.const (.int .i64 1)) 3, 3, some (some 21, false)⟩, ⟨some 25, .index 9 (.tmp 22) (.tmp 24), 5, some (some 21, false)⟩, ⟨some 26, .binOp .neq 5 (.tmp 25) (.const (.int .u8 46)) 5, 4, some (some 21, false)⟩, ⟨some 27, .pick (.tmp 21) (.const (.bool true)) (.tmp 26), 4, none⟩])
    (.cond (.tmp 27) (.exit 1) .skip))
    (.seq (.ops [⟨some 28, .move (.tmp 0), 9, none⟩, ⟨some 29, .move (.tmp 4), 3, none⟩, ⟨some 30, .binOp .add 3 (.tmp 29) (.const (.int .i64 2)) 3, 3, none⟩, ⟨some 31, .slice 9 (.tmp 28) (some (.tmp 30)) none none, 9, none⟩, ⟨some 32, .call { callee := .value (.func 59), args := #[.tmp 31, .const (.int .u8 47)], argTypes := #[9, 5] }, 73, none⟩, ⟨some 5, .assign (.tmp 32), 73, none⟩])
    (.seq (.draw (.take ⟨some 33, .move (.tmp 0), 9, none⟩ (.take ⟨some 34, .move (.tmp 4), 3, none⟩ (.take ⟨some 35, .slice 9 (.tmp 33) none (some (.tmp 34)) none, 9, none⟩ (.take ⟨some 37, .move (.tmp 5), 73, none⟩ (.take ⟨some 38, .indexAddr 73 (.tmp 37) (.const (.int .i64 0)), 0, none⟩ (.take ⟨some 39, .load 9 (.tmp 38), 9, none⟩ (.alt ⟨some 36, .call { callee := .value (.func 62), args := #[.tmp 35, .const (.int .i64 1000000000)], argTypes := #[9, 3] }, 3, none⟩ (.alt ⟨some 40, .call { callee := .value (.func 62), args := #[.tmp 39, .const (.int .i64 1000000000)], argTypes := #[9, 3] }, 3, none⟩ (.alt ⟨some 41, .buildSlice 33 2 #[(0, .tmp 36), (1, .tmp 40)], 33, none⟩ (.take ⟨some 6, .assign (.tmp 41), 33, none⟩ .done) .none) .none) .none))))))))
    (.seq (.seq (.ops [⟨some 42, .move (.tmp 5), 73, none⟩, ⟨some 43, .call { callee := .builtin .len, args := #[.tmp 42], argTypes := #[73] }, 3, none⟩, ⟨some 44, .binOp .eql 3 (.tmp 43) (.const (.int .i64 2)) 3, 4, none⟩])
    (.cond (.tmp 44) (.seq (.ops [⟨some 45, .move (.tmp 6), 33, none⟩, ⟨some 46, .move (.tmp 5), 73, none⟩, ⟨some 47, .indexAddr 73 (.tmp 46) (.const (.int .i64 1)), 0, none⟩, ⟨some 48, .load 9 (.tmp 47), 9, none⟩, ⟨some 49, .call { callee := .value (.func 62), args := #[.tmp 48, .const (.int .i64 1000000000)], argTypes := #[9, 3] }, 3, none⟩, ⟨some 50, .buildSlice 33 1 #[(0, .tmp 49)], 33, none⟩, ⟨some 51, .call { callee := .builtin .append, args := #[.tmp 45, .tmp 50], argTypes := #[33, 33] }, 33, none⟩, ⟨some 2, .assign (.const (.int .i64 4)), 3, none⟩, ⟨some 3, .assign (.tmp 51), 33, none⟩])
    .ret) .skip))
    (.seq (.ops [⟨some 52, .move (.tmp 6), 33, none⟩, ⟨some 2, .assign (.const (.int .i64 3)), 3, none⟩, ⟨some 3, .assign (.tmp 52), 33, none⟩])
    .ret))))))
    (.ops [⟨some 15, .move (.tmp 4), 3, none⟩, ⟨some 16, .binOp .add 3 (.tmp 15) (.const (.int .i64 1)) 3, 3, none⟩, ⟨some 4, .assign (.tmp 16), 3, none⟩]))))))
    (.seq (.ops [⟨some 7, .assign (.const (.slice none 0 0)), 33, none⟩])
    (.seq (.ops [⟨some 53, .move (.tmp 0), 9, none⟩, ⟨some 54, .call { callee := .value (.func 59), args := #[.tmp 53, .const (.int .u8 44)], argTypes := #[9, 5] }, 73, none⟩, ⟨some 8, .assign (.tmp 54), 73, none⟩])
    (.seq (.seq (.ops [⟨some 9, .assign (.const (.int .i64 0)), 3, none⟩])
    (.block 2 (.loop (.seq (.seq (.ops [⟨some 55, .move (.tmp 9), 3, none⟩, ⟨some 56, .move (.tmp 8), 73, none⟩, ⟨some 57, .call { callee := .builtin .len, args := #[.tmp 56], argTypes := #[73] }, 3, none⟩, ⟨some 58, .binOp .lss 3 (.tmp 55) (.tmp 57) 3, 4, none⟩])
    (.cond (.tmp 58) .skip (.exit 2)))
    (.seq (.block 3 (.ops [⟨some 61, .move (.tmp 7), 33, none⟩, ⟨some 62, .move (.tmp 8), 73, none⟩, ⟨some 63, .move (.tmp 9), 3, none⟩, ⟨some 64, .indexAddr 73 (.tmp 62) (.tmp 63), 0, none⟩, ⟨some 65, .load 9 (.tmp 64), 9, none⟩, ⟨some 66, .call { callee := .value (.func 62), args := #[.tmp 65, .const (.int .i64 1000000000)], argTypes := #[9, 3] }, 3, none⟩, ⟨some 67, .buildSlice 33 1 #[(0, .tmp 66)], 33, none⟩, ⟨some 68, .call { callee := .builtin .append, args := #[.tmp 61, .tmp 67], argTypes := #[33, 33] }, 33, none⟩, ⟨some 7, .assign (.tmp 68), 33, none⟩]))
    (.ops [⟨some 59, .move (.tmp 9), 3, none⟩, ⟨some 60, .binOp .add 3 (.tmp 59) (.const (.int .i64 1)) 3, 3, none⟩, ⟨some 9, .assign (.tmp 60), 3, none⟩]))))))
    (.seq (.ops [⟨some 69, .move (.tmp 7), 33, none⟩, ⟨some 2, .assign (.const (.int .i64 2)), 3, none⟩, ⟨some 3, .assign (.tmp 69), 33, none⟩])
    .ret))))))
def pl63 : Nat → Plan := fun id => if id = 6 then (.take 0 (.take 1 (.take 2 (.take 4 (.take 5 (.take 6 (.alt 3 (.alt 7 (.alt 8 (.take 9 .done) .none) .none) .none))))))) else .done
theorem st63 : Go.Proofs.Tryz.f63.body.map (strip pl63) = some m63 := by kernel_rfl
theorem ok63 : okB pl63 Go.Proofs.Tryz.f63 1 = true := by kernel_rfl
theorem en63 {v0 w} {Q : Value → World → Prop} (h : mwpB Go.Proofs.Tryz.prog m63 (argEnv [v0]) [] w (fun e ds w => ds = [] ∧ resW Go.Proofs.Tryz.prog [.tmp 2, .tmp 3] e w fun v => Q v w) (fun _ _ _ _ => False) (fun e ds w => ds = [] ∧ resW Go.Proofs.Tryz.prog [.tmp 2, .tmp 3] e w fun v => Q v w) (fun _ _ _ _ => False) ⟨⟩) : Rets Go.Proofs.Tryz.prog 63 #[v0] w Q :=
  rets_of_mwp follows_mo Go.Proofs.Tryz.func63 pl63 st63 ok63 (by kernel_rfl) h
/-- continuo/continuoref02.words -/
def m64 : MC := (.seq (.ops [⟨some 0, .assign (.const (.slice none 0 0)), 73, none⟩])
    (.seq (.ops [⟨some 1, .buildSlice 73 7 #[(0, .const (.string { data := #[] })), (1, .const (.string { data := #[101, 110, 99, 111, 100, 105, 110, 103] })), (2, .const (.string { data := #[114, 97, 116, 101] })), (3, .const (.string { data := #[99, 104, 97, 110, 110, 101, 108, 115] })), (4, .const (.string { data := #[119, 105, 100, 116, 104] })), (5, .const (.string { data := #[104, 101, 105, 103, 104, 116] })), (6, .const (.string { data := #[109, 111, 100, 105, 102, 105, 101, 114] }))], 73, none⟩, ⟨some 0, .assign (.tmp 1), 73, none⟩])
    .ret))
def pl64 : Nat → Plan := fun _ => .done
theorem st64 : Go.Proofs.Tryz.f64.body.map (strip pl64) = some m64 := by kernel_rfl
theorem ok64 : okB pl64 Go.Proofs.Tryz.f64 0 = true := by kernel_rfl
theorem en64 {w} {Q : Value → World → Prop} (h : mwpB Go.Proofs.Tryz.prog m64 (argEnv []) [] w (fun e ds w => ds = [] ∧ resW Go.Proofs.Tryz.prog [.tmp 0] e w fun v => Q v w) (fun _ _ _ _ => False) (fun e ds w => ds = [] ∧ resW Go.Proofs.Tryz.prog [.tmp 0] e w fun v => Q v w) (fun _ _ _ _ => False) ⟨⟩) : Rets Go.Proofs.Tryz.prog 64 #[] w Q :=
  rets_of_mwp follows_mo Go.Proofs.Tryz.func64 pl64 st64 ok64 (by kernel_rfl) h
/-- continuo/continuoref02.said -/
def m65 : MC := (.seq (.ops [⟨some 1, .box 35 (.tmp 0), 0, none⟩, ⟨some 2, .assign (.const (.string { data := #[] })), 9, none⟩])
    (.seq (.ops [⟨some 5, .fieldAddr 35 (.tmp 1) 1, 0, none⟩, ⟨some 6, .load 3 (.tmp 5), 3, none⟩, ⟨some 7, .call { callee := .value (.func 95), args := #[.tmp 6], argTypes := #[3] }, 9, none⟩, ⟨some 3, .assign (.tmp 7), 9, none⟩])
    (.seq (.seq (.ops [⟨some 8, .fieldAddr 35 (.tmp 1) 0, 0, none⟩, ⟨some 9, .load 3 (.tmp 8), 3, none⟩])
    (.block 0 (.seq (.ops [⟨some 11, .binOp .eql 3 (.tmp 9) (.const (.int .i64 2)) 3, 4, none⟩, ⟨some 10, .assign (.tmp 11), 4, none⟩])
    (.cond (.tmp 10) (.seq (.ops [⟨some 12, .move (.tmp 3), 9, none⟩, ⟨some 13, .binOp .add 9 (.tmp 12) (.const (.string { data := #[32, 111, 102, 32] })) 9, 9, none⟩, ⟨some 3, .assign (.tmp 13), 9, none⟩])
    (.seq (.ops [⟨some 4, .assign (.const (.int .i64 0)), 3, none⟩])
    (.block 1 (.loop (.seq (.seq (.ops [⟨some 14, .move (.tmp 4), 3, none⟩, ⟨some 15, .fieldAddr 35 (.tmp 1) 2, 0, none⟩, ⟨some 16, .load 33 (.tmp 15), 33, none⟩, ⟨some 17, .call { callee := .builtin .len, args := #[.tmp 16], argTypes := #[33] }, 3, none⟩, ⟨some 18, .binOp .lss 3 (.tmp 14) (.tmp 17) 3, 4, none⟩])
    (.cond (.tmp 18) .skip (.exit 1)))
    (.seq (.block 2 (.seq (.seq (.ops [⟨some 21, .move (.tmp 4), 3, none⟩, ⟨some 22, .binOp .gtr 3 (.tmp 21) (.const (.int .i64 0)) 3, 4, none⟩])
    (.cond (.tmp 22) (.ops [⟨some 23, .move (.tmp 3), 9, none⟩, ⟨some 24, .binOp .add 9 (.tmp 23) (.const (.string { data := #[44] })) 9, 9, none⟩, ⟨some 3, .assign (.tmp 24), 9, none⟩]) .skip))
    (.ops [⟨some 25, .move (.tmp 3), 9, none⟩, ⟨some 26, .fieldAddr 35 (.tmp 1) 2, 0, none⟩, ⟨some 27, .load 33 (.tmp 26), 33, none⟩, ⟨some 28, .move (.tmp 4), 3, none⟩, ⟨some 29, .indexAddr 33 (.tmp 27) (.tmp 28), 0, none⟩, ⟨some 30, .load 3 (.tmp 29), 3, none⟩, ⟨some 31, .call { callee := .value (.func 95), args := #[.tmp 30], argTypes := #[3] }, 9, none⟩, ⟨some 32, .binOp .add 9 (.tmp 25) (.tmp 31) 9, 9, none⟩, ⟨some 3, .assign (.tmp 32), 9, none⟩])))
    (.ops [⟨some 19, .move (.tmp 4), 3, none⟩, ⟨some 20, .binOp .add 3 (.tmp 19) (.const (.int .i64 1)) 3, 3, none⟩, ⟨some 4, .assign (.tmp 20), 3, none⟩]))))))) (.seq (.seq (.ops [⟨some 34, .binOp .eql 3 (.tmp 9) (.const (.int .i64 3)) 3, 4, none⟩, ⟨some 33, .assign (.tmp 34), 4, none⟩])
    (.cond (.tmp 33) .skip (.ops [⟨some 35, .binOp .eql 3 (.tmp 9) (.const (.int .i64 4)) 3, 4, none⟩, ⟨some 33, .assign (.tmp 35), 4, none⟩])))
    (.cond (.tmp 33) (.seq (.draw (.take ⟨some 36, .move (.tmp 3), 9, none⟩ (.take ⟨some 37, .fieldAddr 35 (.tmp 1) 2, 0, none⟩ (.take ⟨some 38, .load 33 (.tmp 37), 33, none⟩ (.take ⟨some 39, .indexAddr 33 (.tmp 38) (.const (.int .i64 0)), 0, none⟩ (.take ⟨some 40, .load 3 (.tmp 39), 3, none⟩ (.take ⟨some 44, .fieldAddr 35 (.tmp 1) 2, 0, none⟩ (.take ⟨some 45, .load 33 (.tmp 44), 33, none⟩ (.take ⟨some 46, .indexAddr 33 (.tmp 45) (.const (.int .i64 1)), 0, none⟩ (.take ⟨some 47, .load 3 (.tmp 46), 3, none⟩ (.alt ⟨some 41, .call { callee := .value (.func 95), args := #[.tmp 40], argTypes := #[3] }, 9, none⟩ (.take ⟨some 42, .binOp .add 9 (.const (.string { data := #[32, 111, 102, 32] })) (.tmp 41) 9, 9, none⟩ (.take ⟨some 43, .binOp .add 9 (.tmp 42) (.const (.string { data := #[46, 46] })) 9, 9, none⟩ (.alt ⟨some 48, .call { callee := .value (.func 95), args := #[.tmp 47], argTypes := #[3] }, 9, none⟩ (.take ⟨some 49, .binOp .add 9 (.tmp 43) (.tmp 48) 9, 9, none⟩ (.take ⟨some 50, .binOp .add 9 (.tmp 36) (.tmp 49) 9, 9, none⟩ (.take ⟨some 3, .assign (.tmp 50), 9, none⟩ .done))) .none))) .none)))))))))))
    (.seq (.ops [⟨some 51, .fieldAddr 35 (.tmp 1) 0, 0, none⟩, ⟨some 52, .load 3 (.tmp 51), 3, none⟩, ⟨some 53, .binOp .eql 3 (.tmp 52) (.const (.int .i64 4)) 3, 4, none⟩])
    (.cond (.tmp 53) (.ops [⟨some 54, .move (.tmp 3), 9, none⟩, ⟨some 55, .fieldAddr 35 (.tmp 1) 2, 0, none⟩, ⟨some 56, .load 33 (.tmp 55), 33, none⟩, ⟨some 57, .indexAddr 33 (.tmp 56) (.const (.int .i64 2)), 0, none⟩, ⟨some 58, .load 3 (.tmp 57), 3, none⟩, ⟨some 59, .call { callee := .value (.func 95), args := #[.tmp 58], argTypes := #[3] }, 9, none⟩, ⟨some 60, .binOp .add 9 (.const (.string { data := #[47] })) (.tmp 59) 9, 9, none⟩, ⟨some 61, .binOp .add 9 (.tmp 54) (.tmp 60) 9, 9, none⟩, ⟨some 3, .assign (.tmp 61), 9, none⟩]) .skip))) .skip))))))
    (.seq (.ops [⟨some 62, .move (.tmp 3), 9, none⟩, ⟨some 2, .assign (.tmp 62), 9, none⟩])
    .ret))))
def pl65 : Nat → Plan := fun id => if id = 13 then (.take 0 (.take 1 (.take 2 (.take 3 (.take 4 (.take 8 (.take 9 (.take 10 (.take 11 (.alt 5 (.take 6 (.take 7 (.alt 12 (.take 13 (.take 14 (.take 15 .done))) .none))) .none)))))))))) else .done
theorem st65 : Go.Proofs.Tryz.f65.body.map (strip pl65) = some m65 := by kernel_rfl
theorem ok65 : okB pl65 Go.Proofs.Tryz.f65 1 = true := by kernel_rfl
theorem en65 {v0 w} {Q : Value → World → Prop} (h : mwpB Go.Proofs.Tryz.prog m65 (argEnv [v0]) [] w (fun e ds w => ds = [] ∧ resW Go.Proofs.Tryz.prog [.tmp 2] e w fun v => Q v w) (fun _ _ _ _ => False) (fun e ds w => ds = [] ∧ resW Go.Proofs.Tryz.prog [.tmp 2] e w fun v => Q v w) (fun _ _ _ _ => False) ⟨⟩) : Rets Go.Proofs.Tryz.prog 65 #[v0] w Q :=
  rets_of_mwp follows_mo Go.Proofs.Tryz.func65 pl65 st65 ok65 (by kernel_rfl) h
/-- continuo/format.numbers -/
def m66 : MC := (.seq (.ops [⟨some 1, .box 35 (.tmp 0), 0, none⟩, ⟨some 2, .assign (.const .nilIface), 86, none⟩])
    (.seq (.block 0 (.seq (.seq (.ops [⟨some 4, .fieldAddr 35 (.tmp 1) 0, 0, none⟩, ⟨some 5, .load 3 (.tmp 4), 3, none⟩, ⟨some 6, .binOp .eql 3 (.tmp 5) (.const (.int .i64 1)) 3, 4, none⟩, ⟨some 7, .move (.tmp 6), 4, none⟩, ⟨some 8, .fieldAddr 35 (.tmp 1) 2, 0, some (some 7, true)⟩, ⟨some 9, .load 33 (.tmp 8), 33, some (some 7, true)⟩, ⟨some 10, .call { callee := .builtin .len, args := #[.tmp 9], argTypes := #[33] }, 3, some (some 7, true)⟩, ⟨some 11, .binOp .eql 3 (.tmp 10) (.const (.int .i64 1)) 3, 4, some (some 7, true)⟩, ⟨some 12, .pick (.tmp 7) (.tmp 11) (.const (.bool false)), 4, none⟩, ⟨some 3, .assign (.tmp 12), 4, none⟩])
    (.cond (.tmp 3) .skip (.ops [⟨some 13, .fieldAddr 35 (.tmp 1) 0, 0, none⟩, ⟨some 14, .load 3 (.tmp 13), 3, none⟩, ⟨some 15, .binOp .eql 3 (.tmp 14) (.const (.int .i64 2)) 3, 4, none⟩, ⟨some 3, .assign (.tmp 15), 4, none⟩])))
    (.cond (.tmp 3) (.seq (.ops [⟨some 16, .fieldAddr 35 (.tmp 1) 2, 0, none⟩, ⟨some 17, .load 33 (.tmp 16), 33, none⟩, ⟨some 18, .makeInterface 110 (.tmp 17), 86, none⟩, ⟨some 2, .assign (.tmp 18), 86, none⟩])
    .ret) (.seq (.ops [⟨some 20, .fieldAddr 35 (.tmp 1) 0, 0, none⟩, ⟨some 21, .load 3 (.tmp 20), 3, none⟩, ⟨some 22, .binOp .eql 3 (.tmp 21) (.const (.int .i64 3)) 3, 4, none⟩, ⟨some 23, .move (.tmp 22), 4, none⟩, ⟨some 24, .fieldAddr 35 (.tmp 1) 2, 0, some (some 23, true)⟩, ⟨some 25, .load 33 (.tmp 24), 33, some (some 23, true)⟩, ⟨some 26, .call { callee := .builtin .len, args := #[.tmp 25], argTypes := #[33] }, 3, some (some 23, true)⟩, ⟨some 27, .binOp .eql 3 (.tmp 26) (.const (.int .i64 2)) 3, 4, some (some 23, true)⟩, ⟨some 28, .pick (.tmp 23) (.tmp 27) (.const (.bool false)), 4, none⟩, ⟨some 19, .assign (.tmp 28), 4, none⟩])
    (.cond (.tmp 19) (.seq (.draw (.take ⟨some 29, .fieldAddr 35 (.tmp 1) 2, 0, none⟩ (.take ⟨some 30, .load 33 (.tmp 29), 33, none⟩ (.take ⟨some 31, .indexAddr 33 (.tmp 30) (.const (.int .i64 0)), 0, none⟩ (.take ⟨some 32, .load 3 (.tmp 31), 3, none⟩ (.take ⟨some 33, .fieldAddr 35 (.tmp 1) 2, 0, none⟩ (.take ⟨some 34, .load 33 (.tmp 33), 33, none⟩ (.take ⟨some 35, .indexAddr 33 (.tmp 34) (.const (.int .i64 1)), 0, none⟩ (.take ⟨some 36, .load 3 (.tmp 35), 3, none⟩ (.take ⟨some 37, .build 112 #[(0, .tmp 32), (1, .tmp 36), (2, .const (.int .i64 1)), (3, .const (.bool true)), (4, .const (.bool true))], 112, none⟩ (.take ⟨some 38, .makeInterface 112 (.tmp 37), 86, none⟩ (.take ⟨some 2, .assign (.tmp 38), 86, none⟩ .done))))))))))))
    .ret) (.seq (.ops [⟨some 40, .fieldAddr 35 (.tmp 1) 0, 0, none⟩, ⟨some 41, .load 3 (.tmp 40), 3, none⟩, ⟨some 42, .binOp .eql 3 (.tmp 41) (.const (.int .i64 4)) 3, 4, none⟩, ⟨some 43, .move (.tmp 42), 4, none⟩, ⟨some 44, .fieldAddr 35 (.tmp 1) 2, 0, some (some 43, true)⟩, ⟨some 45, .load 33 (.tmp 44), 33, some (some 43, true)⟩, ⟨some 46, .call { callee := .builtin .len, args := #[.tmp 45], argTypes := #[33] }, 3, some (some 43, true)⟩, ⟨some 47, .binOp .eql 3 (.tmp 46) (.const (.int .i64 3)) 3, 4, some (some 43, true)⟩, ⟨some 48, .pick (.tmp 43) (.tmp 47) (.const (.bool false)), 4, none⟩, ⟨some 39, .assign (.tmp 48), 4, none⟩])
    (.cond (.tmp 39) (.seq (.draw (.take ⟨some 49, .fieldAddr 35 (.tmp 1) 2, 0, none⟩ (.take ⟨some 50, .load 33 (.tmp 49), 33, none⟩ (.take ⟨some 51, .indexAddr 33 (.tmp 50) (.const (.int .i64 0)), 0, none⟩ (.take ⟨some 52, .load 3 (.tmp 51), 3, none⟩ (.take ⟨some 53, .fieldAddr 35 (.tmp 1) 2, 0, none⟩ (.take ⟨some 54, .load 33 (.tmp 53), 33, none⟩ (.take ⟨some 55, .indexAddr 33 (.tmp 54) (.const (.int .i64 1)), 0, none⟩ (.take ⟨some 56, .load 3 (.tmp 55), 3, none⟩ (.take ⟨some 57, .fieldAddr 35 (.tmp 1) 2, 0, none⟩ (.take ⟨some 58, .load 33 (.tmp 57), 33, none⟩ (.take ⟨some 59, .indexAddr 33 (.tmp 58) (.const (.int .i64 2)), 0, none⟩ (.take ⟨some 60, .load 3 (.tmp 59), 3, none⟩ (.take ⟨some 61, .build 112 #[(0, .tmp 52), (1, .tmp 56), (2, .tmp 60), (3, .const (.bool false)), (4, .const (.bool true))], 112, none⟩ (.take ⟨some 62, .makeInterface 112 (.tmp 61), 86, none⟩ (.take ⟨some 2, .assign (.tmp 62), 86, none⟩ .done))))))))))))))))
    .ret) .skip)))))))
    (.seq (.ops [⟨some 63, .build 112 #[], 112, none⟩, ⟨some 64, .makeInterface 112 (.tmp 63), 86, none⟩, ⟨some 2, .assign (.tmp 64), 86, none⟩])
    .ret)))
def pl66 : Nat → Plan := fun id => if id = 5 then (.take 0 (.take 1 (.take 2 (.take 3 (.take 4 (.take 5 (.take 6 (.take 7 (.take 8 (.take 9 (.take 10 .done))))))))))) else if id = 7 then (.take 0 (.take 1 (.take 2 (.take 3 (.take 4 (.take 5 (.take 6 (.take 7 (.take 8 (.take 9 (.take 10 (.take 11 (.take 12 (.take 13 (.take 14 .done))))))))))))))) else .done
theorem st66 : Go.Proofs.Tryz.f66.body.map (strip pl66) = some m66 := by kernel_rfl
theorem ok66 : okB pl66 Go.Proofs.Tryz.f66 1 = true := by kernel_rfl
theorem en66 {v0 w} {Q : Value → World → Prop} (h : mwpB Go.Proofs.Tryz.prog m66 (argEnv [v0]) [] w (fun e ds w => ds = [] ∧ resW Go.Proofs.Tryz.prog [.tmp 2] e w fun v => Q v w) (fun _ _ _ _ => False) (fun e ds w => ds = [] ∧ resW Go.Proofs.Tryz.prog [.tmp 2] e w fun v => Q v w) (fun _ _ _ _ => False) ⟨⟩) : Rets Go.Proofs.Tryz.prog 66 #[v0] w Q :=
  rets_of_mwp follows_mo Go.Proofs.Tryz.func66 pl66 st66 ok66 (by kernel_rfl) h
/-- continuo/continuoref02.step -/
def m70 : MC := (.seq (.ops [⟨some 1, .box 35 (.tmp 0), 0, none⟩, ⟨some 2, .assign (.const (.int .i64 0)), 3, none⟩])
    (.seq (.seq (.ops [⟨some 3, .fieldAddr 35 (.tmp 1) 0, 0, none⟩, ⟨some 4, .load 3 (.tmp 3), 3, none⟩, ⟨some 5, .binOp .eql 3 (.tmp 4) (.const (.int .i64 4)) 3, 4, none⟩])
    (.cond (.tmp 5) (.seq (.ops [⟨some 6, .fieldAddr 35 (.tmp 1) 2, 0, none⟩, ⟨some 7, .load 33 (.tmp 6), 33, none⟩, ⟨some 8, .indexAddr 33 (.tmp 7) (.const (.int .i64 2)), 0, none⟩, ⟨some 9, .load 3 (.tmp 8), 3, none⟩, ⟨some 2, .assign (.tmp 9), 3, none⟩])
    .ret) .skip))
    (.seq (.ops [⟨some 2, .assign (.const (.int .i64 1)), 3, none⟩])
    .ret)))
def pl70 : Nat → Plan := fun _ => .done
theorem st70 : Go.Proofs.Tryz.f70.body.map (strip pl70) = some m70 := by kernel_rfl
theorem ok70 : okB pl70 Go.Proofs.Tryz.f70 1 = true := by kernel_rfl
theorem en70 {v0 w} {Q : Value → World → Prop} (h : mwpB Go.Proofs.Tryz.prog m70 (argEnv [v0]) [] w (fun e ds w => ds = [] ∧ resW Go.Proofs.Tryz.prog [.tmp 2] e w fun v => Q v w) (fun _ _ _ _ => False) (fun e ds w => ds = [] ∧ resW Go.Proofs.Tryz.prog [.tmp 2] e w fun v => Q v w) (fun _ _ _ _ => False) ⟨⟩) : Rets Go.Proofs.Tryz.prog 70 #[v0] w Q :=
  rets_of_mwp follows_mo Go.Proofs.Tryz.func70 pl70 st70 ok70 (by kernel_rfl) h
/-- continuo/format.number -/
def m94 : MC := (.seq (.ops [⟨some 2, .assign (.const (.int .i64 0)), 3, none⟩])
    (.seq (.ops [⟨some 6, .move (.tmp 0), 9, none⟩, ⟨some 7, .call { callee := .value (.func 129), args := #[.tmp 6], argTypes := #[9] }, 138, none⟩, ⟨some 5, .move (.tmp 7), 138, none⟩, ⟨some 8, .extract (.tmp 5) 0, 3, none⟩, ⟨some 9, .extract (.tmp 5) 1, 137, none⟩, ⟨some 3, .assign (.tmp 8), 3, none⟩, ⟨some 4, .assign (.tmp 9), 137, none⟩])
    (.seq (.seq (.ops [⟨some 10, .move (.tmp 4), 137, none⟩, ⟨some 11, .binOp .neq 137 (.tmp 10) (.const .nilIface) 137, 4, none⟩, ⟨some 12, .move (.tmp 11), 4, none⟩, ⟨some 13, .move (.tmp 3), 3, some (some 12, false)⟩, ⟨some 14, .call { callee := .value (.func 90), args := #[.tmp 13], argTypes := #[3] }, 9, some (some 12, false)⟩, ⟨some 15, .move (.tmp 0), 9, some (some 12, false)⟩, ⟨some 16, .binOp .neq 9 (.tmp 14) (.tmp 15) 9, 4, some (some 12, false)⟩, ⟨some 17, .pick (.tmp 12) (.const (.bool true)) (.tmp 16), 4, none⟩])
    (.cond (.tmp 17) (.seq (.ops [⟨some 2, .assign (.const (.int .i64 (-1))), 3, none⟩])
    .ret) .skip))
    (.seq (.ops [⟨some 18, .move (.tmp 3), 3, none⟩, ⟨some 2, .assign (.tmp 18), 3, none⟩])
    .ret))))
def pl94 : Nat → Plan := fun _ => .done
theorem st94 : Go.Proofs.Tryz.f94.body.map (strip pl94) = some m94 := by kernel_rfl
theorem ok94 : okB pl94 Go.Proofs.Tryz.f94 1 = true := by kernel_rfl
theorem en94 {v0 w} {Q : Value → World → Prop} (h : mwpB Go.Proofs.Tryz.prog m94 (argEnv [v0]) [] w (fun e ds w => ds = [] ∧ resW Go.Proofs.Tryz.prog [.tmp 2] e w fun v => Q v w) (fun _ _ _ _ => False) (fun e ds w => ds = [] ∧ resW Go.Proofs.Tryz.prog [.tmp 2] e w fun v => Q v w) (fun _ _ _ _ => False) ⟨⟩) : Rets Go.Proofs.Tryz.prog 94 #[v0] w Q :=
  rets_of_mwp follows_mo Go.Proofs.Tryz.func94 pl94 st94 ok94 (by kernel_rfl) h
/-- continuo/continuoref02.Decimal -/
def m95 : MC := (.seq (.ops [⟨some 2, .assign (.const (.string { data := #[] })), 9, none⟩])
    (.seq (.ops [⟨some 3, .assign (.const (.string { data := #[48, 49, 50, 51, 52, 53, 54, 55, 56, 57] })), 9, none⟩])
    (.seq (.seq (.ops [⟨some 4, .move (.tmp 0), 3, none⟩, ⟨some 5, .binOp .lss 3 (.tmp 4) (.const (.int .i64 0)) 3, 4, none⟩])
    (.cond (.tmp 5) (.seq (.seq (.ops [⟨some 6, .move (.tmp 0), 3, none⟩, ⟨some 7, .binOp .gtr 3 (.tmp 6) (.const (.int .i64 (-10))) 3, 4, none⟩])
    (.cond (.tmp 7) (.seq (.ops [⟨some 8, .move (.tmp 3), 9, none⟩, ⟨some 9, .move (.tmp 0), 3, none⟩, ⟨some 10, .unOp .neg 3 (.tmp 9), 3, none⟩, ⟨some 11, .move (.tmp 0), 3, none⟩, ⟨some 12, .unOp .neg 3 (.tmp 11), 3, none⟩, ⟨some 13, .binOp .add 3 (.tmp 12) (.const (.int .i64 1)) 3, 3, none⟩, ⟨some 14, .slice 9 (.tmp 8) (some (.tmp 10)) (some (.tmp 13)) none, 9, none⟩, ⟨some 15, .binOp .add 9 (.const (.string { data := #[45] })) (.tmp 14) 9, 9, none⟩, ⟨some 2, .assign (.tmp 15), 9, none⟩])
    .ret) .skip))
    (.seq (.draw (.take ⟨some 16, .move (.tmp 0), 3, none⟩ (.take ⟨some 17, .binOp .quo 3 (.tmp 16) (.const (.int .i64 10)) 3, 3, none⟩ (.take ⟨some 19, .move (.tmp 3), 9, none⟩ (.take ⟨some 20, .move (.tmp 0), 3, none⟩ (.take ⟨some 21, .binOp .rem 3 (.tmp 20) (.const (.int .i64 10)) 3, 3, none⟩ (.take ⟨some 22, .unOp .neg 3 (.tmp 21), 3, none⟩ (.take ⟨some 23, .move (.tmp 0), 3, none⟩ (.take ⟨some 24, .binOp .rem 3 (.tmp 23) (.const (.int .i64 10)) 3, 3, none⟩ (.take ⟨some 25, .unOp .neg 3 (.tmp 24), 3, none⟩ (.take ⟨some 26, .binOp .add 3 (.tmp 25) (.const (.int .i64 1)) 3, 3, none⟩ (.take ⟨some 27, .slice 9 (.tmp 19) (some (.tmp 22)) (some (.tmp 26)) none, 9, none⟩ (.alt ⟨some 18, .call { callee := .value (.func 95), args := #[.tmp 17], argTypes := #[3] }, 9, none⟩ (.take ⟨some 28, .binOp .add 9 (.tmp 18) (.tmp 27) 9, 9, none⟩ (.take ⟨some 2, .assign (.tmp 28), 9, none⟩ .done)) .none)))))))))))))
    .ret)) .skip))
    (.seq (.seq (.ops [⟨some 29, .move (.tmp 0), 3, none⟩, ⟨some 30, .binOp .lss 3 (.tmp 29) (.const (.int .i64 10)) 3, 4, none⟩])
    (.cond (.tmp 30) (.seq (.ops [⟨some 31, .move (.tmp 3), 9, none⟩, ⟨some 32, .move (.tmp 0), 3, none⟩, ⟨some 33, .move (.tmp 0), 3, none⟩, ⟨some 34, .binOp .add 3 (.tmp 33) (.const (.int .i64 1)) 3, 3, none⟩, ⟨some 35, .slice 9 (.tmp 31) (some (.tmp 32)) (some (.tmp 34)) none, 9, none⟩, ⟨some 2, .assign (.tmp 35), 9, none⟩])
    .ret) .skip))
    (.seq (.draw (.take ⟨some 36, .move (.tmp 0), 3, none⟩ (.take ⟨some 37, .binOp .quo 3 (.tmp 36) (.const (.int .i64 10)) 3, 3, none⟩ (.take ⟨some 39, .move (.tmp 3), 9, none⟩ (.take ⟨some 40, .move (.tmp 0), 3, none⟩ (.take ⟨some 41, .binOp .rem 3 (.tmp 40) (.const (.int .i64 10)) 3, 3, none⟩ (.take ⟨some 42, .move (.tmp 0), 3, none⟩ (.take ⟨some 43, .binOp .rem 3 (.tmp 42) (.const (.int .i64 10)) 3, 3, none⟩ (.take ⟨some 44, .binOp .add 3 (.tmp 43) (.const (.int .i64 1)) 3, 3, none⟩ (.take ⟨some 45, .slice 9 (.tmp 39) (some (.tmp 41)) (some (.tmp 44)) none, 9, none⟩ (.alt ⟨some 38, .call { callee := .value (.func 95), args := #[.tmp 37], argTypes := #[3] }, 9, none⟩ (.take ⟨some 46, .binOp .add 9 (.tmp 38) (.tmp 45) 9, 9, none⟩ (.take ⟨some 2, .assign (.tmp 46), 9, none⟩ .done)) .none)))))))))))
    .ret)))))
def pl95 : Nat → Plan := fun id => if id = 5 then (.take 0 (.take 1 (.take 3 (.take 4 (.take 5 (.take 6 (.take 7 (.take 8 (.take 9 (.take 10 (.take 11 (.alt 2 (.take 12 (.take 13 .done)) .none)))))))))))) else if id = 8 then (.take 0 (.take 1 (.take 3 (.take 4 (.take 5 (.take 6 (.take 7 (.take 8 (.take 9 (.alt 2 (.take 10 (.take 11 .done)) .none)))))))))) else .done
theorem st95 : Go.Proofs.Tryz.f95.body.map (strip pl95) = some m95 := by kernel_rfl
theorem ok95 : okB pl95 Go.Proofs.Tryz.f95 1 = true := by kernel_rfl
theorem en95 {v0 w} {Q : Value → World → Prop} (h : mwpB Go.Proofs.Tryz.prog m95 (argEnv [v0]) [] w (fun e ds w => ds = [] ∧ resW Go.Proofs.Tryz.prog [.tmp 2] e w fun v => Q v w) (fun _ _ _ _ => False) (fun e ds w => ds = [] ∧ resW Go.Proofs.Tryz.prog [.tmp 2] e w fun v => Q v w) (fun _ _ _ _ => False) ⟨⟩) : Rets Go.Proofs.Tryz.prog 95 #[v0] w Q :=
  rets_of_mwp follows_mo Go.Proofs.Tryz.func95 pl95 st95 ok95 (by kernel_rfl) h
/-- (continuo/format.steps).has -/
def m108 : MC := (.seq (.ops [⟨some 2, .box 112 (.tmp 0), 0, none⟩, ⟨some 4, .assign (.const (.bool false)), 4, none⟩])
    (.seq (.ops [⟨some 5, .move (.tmp 1), 3, none⟩, ⟨some 6, .fieldAddr 112 (.tmp 2) 0, 0, none⟩, ⟨some 7, .load 3 (.tmp 6), 3, none⟩, ⟨some 8, .binOp .geq 3 (.tmp 5) (.tmp 7) 3, 4, none⟩, ⟨some 9, .move (.tmp 8), 4, none⟩, ⟨some 10, .move (.tmp 1), 3, some (some 9, true)⟩, ⟨some 11, .fieldAddr 112 (.tmp 2) 1, 0, some (some 9, true)⟩, ⟨some 12, .load 3 (.tmp 11), 3, some (some 9, true)⟩, ⟨some 13, .binOp .leq 3 (.tmp 10) (.tmp 12) 3, 4, some (some 9, true)⟩, ⟨some 14, .pick (.tmp 9) (.tmp 13) (.const (.bool false)), 4, none⟩, ⟨some 15, .move (.tmp 14), 4, none⟩, ⟨some 16, .move (.tmp 1), 3, some (some 15, true)⟩, ⟨some 17, .fieldAddr 112 (.tmp 2) 0, 0, some (some 15, true)⟩, ⟨some 18, .load 3 (.tmp 17), 3, some (some 15, true)⟩, ⟨some 19, .binOp .sub 3 (.tmp 16) (.tmp 18) 3, 3, some (some 15, true)⟩, ⟨some 20, .fieldAddr 112 (.tmp 2) 2, 0, some (some 15, true)⟩, ⟨some 21, .load 3 (.tmp 20), 3, some (some 15, true)⟩, ⟨some 22, .binOp .rem 3 (.tmp 19) (.tmp 21) 3, 3, some (some 15, true)⟩, ⟨some 23, .binOp .eql 3 (.tmp 22) (.const (.int .i64 0)) 3, 4, some (some 15, true)⟩, ⟨some 24, .pick (.tmp 15) (.tmp 23) (.const (.bool false)), 4, none⟩, ⟨some 4, .assign (.tmp 24), 4, none⟩])
    .ret))
def pl108 : Nat → Plan := fun _ => .done
theorem st108 : Go.Proofs.Tryz.f108.body.map (strip pl108) = some m108 := by kernel_rfl
theorem ok108 : okB pl108 Go.Proofs.Tryz.f108 2 = true := by kernel_rfl
theorem en108 {v0 v1 w} {Q : Value → World → Prop} (h : mwpB Go.Proofs.Tryz.prog m108 (argEnv [v0, v1]) [] w (fun e ds w => ds = [] ∧ resW Go.Proofs.Tryz.prog [.tmp 4] e w fun v => Q v w) (fun _ _ _ _ => False) (fun e ds w => ds = [] ∧ resW Go.Proofs.Tryz.prog [.tmp 4] e w fun v => Q v w) (fun _ _ _ _ => False) ⟨⟩) : Rets Go.Proofs.Tryz.prog 108 #[v0, v1] w Q :=
  rets_of_mwp follows_mo Go.Proofs.Tryz.func108 pl108 st108 ok108 (by kernel_rfl) h
/-- continuo/format.join$1 -/
def m109 : MC := (.seq (.ops [⟨some 5, .call { callee := .builtin .recover, args := #[], argTypes := #[] }, 20, none⟩, ⟨some 6, .typeAssert (.tmp 5) 20 124 true, 125, none⟩, ⟨some 4, .move (.tmp 6), 125, none⟩, ⟨some 7, .extract (.tmp 4) 0, 124, none⟩, ⟨some 8, .extract (.tmp 4) 1, 4, none⟩, ⟨some 2, .alloc 124, 0, none⟩, ⟨none, .store 124 (.tmp 2) (.tmp 7), 0, none⟩, ⟨some 3, .assign (.tmp 8), 4, none⟩])
    (.seq (.ops [⟨some 9, .move (.tmp 3), 4, none⟩])
    (.cond (.tmp 9) (.draw (.take ⟨some 10, .build 24 #[], 24, none⟩ (.take ⟨some 11, .fieldAddr 124 (.tmp 2) 0, 0, none⟩ (.take ⟨some 12, .load 28 (.tmp 11), 28, none⟩ (.alt ⟨none, .store 24 (.tmp 0) (.tmp 10), 0, none⟩ (.altL ⟨none, .store 28 (.tmp 1) (.tmp 12), 0, none⟩ .done .none) .none))))) .skip)))
end Go.Proofs.YthcdnjbhhaonhaaGreatDoor
