/- The functions, stripped. -/
import Derived.Test.YtefcfnmmpnjjjaaGreatDoorMwT
import Derived.Test.YtefcfnmmpnjjjaaGreatDoorMwOps
namespace Go.Proofs.YtefcfnmmpnjjjaaGreatDoor
open Go.RowKit
set_option maxRecDepth 100000
/-- continuo/continuoref31.kept -/
def m47 : MC := (.seq (.ops [⟨some 3, .box 24 (.tmp 0), 0, none⟩, ⟨some 6, .assign (.const (.int .i64 0)), 3, none⟩])
    (.seq (.seq (.ops [⟨some 7, .fieldAddr 24 (.tmp 3) 0, 0, none⟩, ⟨some 8, .load 3 (.tmp 7), 3, none⟩, ⟨some 9, .binOp .eql 3 (.tmp 8) (.const (.int .i64 3)) 3, 4, none⟩])
    (.cond (.tmp 9) (.seq (.ops [⟨some 10, .move (.tmp 2), 3, none⟩, ⟨some 6, .assign (.tmp 10), 3, none⟩])
    .ret) .skip))
    (.seq (.ops [⟨some 11, .move (.tmp 1), 3, none⟩, ⟨some 6, .assign (.tmp 11), 3, none⟩])
    .ret)))
def pl47 : Nat → Plan := fun _ => .done
theorem st47 : Go.Proofs.Tryz.f47.body.map (strip pl47) = some m47 := by kernel_rfl
theorem ok47 : okB pl47 Go.Proofs.Tryz.f47 3 = true := by kernel_rfl
theorem en47 {v0 v1 v2 w} {Q : Value → World → Prop} (h : mwpB Go.Proofs.Tryz.prog m47 (argEnv [v0, v1, v2]) [] w (fun e ds w => ds = [] ∧ resW Go.Proofs.Tryz.prog [.tmp 6] e w fun v => Q v w) (fun _ _ _ _ => False) (fun e ds w => ds = [] ∧ resW Go.Proofs.Tryz.prog [.tmp 6] e w fun v => Q v w) (fun _ _ _ => False) ⟨⟩) : Rets Go.Proofs.Tryz.prog 47 #[v0, v1, v2] w Q :=
  rets_of_mwp follows_mo Go.Proofs.Tryz.func47 pl47 st47 ok47 (by kernel_rfl) h
/-- continuo/effect.begun -/
def m48 : MC := (.seq (.ops [⟨some 1, .box 24 (.tmp 0), 0, none⟩, ⟨some 2, .assign (.const .nilIface), 78, none⟩])
    (.seq (.ops [⟨some 5, .makeFunc (.func 86) #[] #[.tmp 1], 145, none⟩, ⟨some 3, .alloc 145, 0, none⟩, ⟨none, .store 145 (.tmp 3) (.tmp 5), 0, none⟩])
    (.seq (.ops [⟨some 6, .makeFunc (.func 87) #[] #[.tmp 1], 149, none⟩, ⟨some 7, .makeFunc (.func 88) #[] #[.tmp 1], 149, none⟩, ⟨some 8, .makeFunc (.func 90) #[] #[.tmp 1], 149, none⟩, ⟨some 9, .makeFunc (.func 91) #[] #[.tmp 1], 149, none⟩, ⟨some 10, .makeFunc (.func 93) #[] #[.tmp 3], 149, none⟩, ⟨some 11, .makeFunc (.func 94) #[] #[.tmp 1], 149, none⟩, ⟨some 12, .makeFunc (.func 95) #[] #[.tmp 3, .tmp 1], 149, none⟩, ⟨some 13, .build 164 #[(1, .tmp 6), (2, .tmp 7), (3, .tmp 8), (4, .tmp 9), (5, .tmp 10), (6, .tmp 11), (7, .tmp 12)], 164, none⟩, ⟨some 4, .alloc 164, 0, none⟩, ⟨none, .store 164 (.tmp 4) (.tmp 13), 0, none⟩])
    (.seq (.ops [⟨some 14, .fieldAddr 24 (.tmp 1) 0, 0, none⟩, ⟨some 15, .load 3 (.tmp 14), 3, none⟩, ⟨some 16, .indexAddr 164 (.tmp 4) (.tmp 15), 0, none⟩, ⟨some 17, .load 149 (.tmp 16), 149, none⟩, ⟨some 18, .call { callee := .value (.tmp 17), args := #[], argTypes := #[] }, 78, none⟩, ⟨some 2, .assign (.tmp 18), 78, none⟩])
    .ret))))
def pl48 : Nat → Plan := fun _ => .done
theorem st48 : Go.Proofs.Tryz.f48.body.map (strip pl48) = some m48 := by kernel_rfl
theorem ok48 : okB pl48 Go.Proofs.Tryz.f48 1 = true := by kernel_rfl
theorem en48 {v0 w} {Q : Value → World → Prop} (h : mwpB Go.Proofs.Tryz.prog m48 (argEnv [v0]) [] w (fun e ds w => ds = [] ∧ resW Go.Proofs.Tryz.prog [.tmp 2] e w fun v => Q v w) (fun _ _ _ _ => False) (fun e ds w => ds = [] ∧ resW Go.Proofs.Tryz.prog [.tmp 2] e w fun v => Q v w) (fun _ _ _ => False) ⟨⟩) : Rets Go.Proofs.Tryz.prog 48 #[v0] w Q :=
  rets_of_mwp follows_mo Go.Proofs.Tryz.func48 pl48 st48 ok48 (by kernel_rfl) h
/-- slices.ContainsFunc[[][]continuo/api.Effect,[]continuo/api.Effect] -/
def m49 : MC := (.seq (.ops [⟨some 4, .assign (.const (.bool false)), 4, none⟩])
    (.seq (.ops [⟨some 5, .move (.tmp 0), 47, none⟩, ⟨some 6, .move (.tmp 1), 109, none⟩, ⟨some 7, .call { callee := .value (.func 96), args := #[.tmp 5, .tmp 6], argTypes := #[47, 109] }, 3, none⟩, ⟨some 8, .binOp .geq 3 (.tmp 7) (.const (.int .i64 0)) 3, 4, none⟩, ⟨some 4, .assign (.tmp 8), 4, none⟩])
    .ret))
def pl49 : Nat → Plan := fun _ => .done
theorem st49 : Go.Proofs.Tryz.f49.body.map (strip pl49) = some m49 := by kernel_rfl
theorem ok49 : okB pl49 Go.Proofs.Tryz.f49 2 = true := by kernel_rfl
theorem en49 {v0 v1 w} {Q : Value → World → Prop} (h : mwpB Go.Proofs.Tryz.prog m49 (argEnv [v0, v1]) [] w (fun e ds w => ds = [] ∧ resW Go.Proofs.Tryz.prog [.tmp 4] e w fun v => Q v w) (fun _ _ _ _ => False) (fun e ds w => ds = [] ∧ resW Go.Proofs.Tryz.prog [.tmp 4] e w fun v => Q v w) (fun _ _ _ => False) ⟨⟩) : Rets Go.Proofs.Tryz.prog 49 #[v0, v1] w Q :=
  rets_of_mwp follows_mo Go.Proofs.Tryz.func49 pl49 st49 ok49 (by kernel_rfl) h
/-- continuo/effect.NewHost$1 -/
def m50 : MC := (.seq (.ops [⟨some 2, .assign (.const (.bool false)), 4, none⟩])
    (.seq (.ops [⟨some 3, .move (.tmp 0), 59, none⟩, ⟨some 4, .call { callee := .value (.func 51), args := #[.tmp 3, .func 52], argTypes := #[59, 73] }, 4, none⟩, ⟨some 2, .assign (.tmp 4), 4, none⟩])
    .ret))
def pl50 : Nat → Plan := fun _ => .done
theorem st50 : Go.Proofs.Tryz.f50.body.map (strip pl50) = some m50 := by kernel_rfl
theorem ok50 : okB pl50 Go.Proofs.Tryz.f50 1 = true := by kernel_rfl
theorem en50 {v0 w} {Q : Value → World → Prop} (h : mwpB Go.Proofs.Tryz.prog m50 (argEnv [v0]) [] w (fun e ds w => ds = [] ∧ resW Go.Proofs.Tryz.prog [.tmp 2] e w fun v => Q v w) (fun _ _ _ _ => False) (fun e ds w => ds = [] ∧ resW Go.Proofs.Tryz.prog [.tmp 2] e w fun v => Q v w) (fun _ _ _ => False) ⟨⟩) : Rets Go.Proofs.Tryz.prog 50 #[v0] w Q :=
  rets_of_mwp follows_mo Go.Proofs.Tryz.func50 pl50 st50 ok50 (by kernel_rfl) h
/-- slices.ContainsFunc[[]continuo/api.Effect,continuo/api.Effect] -/
def m51 : MC := (.seq (.ops [⟨some 4, .assign (.const (.bool false)), 4, none⟩])
    (.seq (.ops [⟨some 5, .move (.tmp 0), 59, none⟩, ⟨some 6, .move (.tmp 1), 73, none⟩, ⟨some 7, .call { callee := .value (.func 97), args := #[.tmp 5, .tmp 6], argTypes := #[59, 73] }, 3, none⟩, ⟨some 8, .binOp .geq 3 (.tmp 7) (.const (.int .i64 0)) 3, 4, none⟩, ⟨some 4, .assign (.tmp 8), 4, none⟩])
    .ret))
def pl51 : Nat → Plan := fun _ => .done
theorem st51 : Go.Proofs.Tryz.f51.body.map (strip pl51) = some m51 := by kernel_rfl
theorem ok51 : okB pl51 Go.Proofs.Tryz.f51 2 = true := by kernel_rfl
theorem en51 {v0 v1 w} {Q : Value → World → Prop} (h : mwpB Go.Proofs.Tryz.prog m51 (argEnv [v0, v1]) [] w (fun e ds w => ds = [] ∧ resW Go.Proofs.Tryz.prog [.tmp 4] e w fun v => Q v w) (fun _ _ _ _ => False) (fun e ds w => ds = [] ∧ resW Go.Proofs.Tryz.prog [.tmp 4] e w fun v => Q v w) (fun _ _ _ => False) ⟨⟩) : Rets Go.Proofs.Tryz.prog 51 #[v0, v1] w Q :=
  rets_of_mwp follows_mo Go.Proofs.Tryz.func51 pl51 st51 ok51 (by kernel_rfl) h
/-- continuo/effect.NewHost$1$1 -/
def m52 : MC := (.seq (.ops [⟨some 1, .box 24 (.tmp 0), 0, none⟩, ⟨some 2, .assign (.const (.bool false)), 4, none⟩])
    (.seq (.ops [⟨some 3, .load 24 (.tmp 1), 24, none⟩, ⟨some 4, .call { callee := .value (.func 35), args := #[.tmp 3], argTypes := #[24] }, 4, none⟩, ⟨some 5, .unOp .not 4 (.tmp 4), 4, none⟩, ⟨some 2, .assign (.tmp 5), 4, none⟩])
    .ret))
def pl52 : Nat → Plan := fun _ => .done
theorem st52 : Go.Proofs.Tryz.f52.body.map (strip pl52) = some m52 := by kernel_rfl
theorem ok52 : okB pl52 Go.Proofs.Tryz.f52 1 = true := by kernel_rfl
theorem en52 {v0 w} {Q : Value → World → Prop} (h : mwpB Go.Proofs.Tryz.prog m52 (argEnv [v0]) [] w (fun e ds w => ds = [] ∧ resW Go.Proofs.Tryz.prog [.tmp 2] e w fun v => Q v w) (fun _ _ _ _ => False) (fun e ds w => ds = [] ∧ resW Go.Proofs.Tryz.prog [.tmp 2] e w fun v => Q v w) (fun _ _ _ => False) ⟨⟩) : Rets Go.Proofs.Tryz.prog 52 #[v0] w Q :=
  rets_of_mwp follows_mo Go.Proofs.Tryz.func52 pl52 st52 ok52 (by kernel_rfl) h
/-- continuo/effect.within -/
def m53 : MC := (.seq (.ops [⟨some 6, .assign (.const (.bool false)), 4, none⟩])
    (.seq (.ops [⟨some 7, .move (.tmp 0), 3, none⟩, ⟨some 8, .move (.tmp 1), 3, none⟩, ⟨some 9, .binOp .geq 3 (.tmp 7) (.tmp 8) 3, 4, none⟩, ⟨some 10, .move (.tmp 9), 4, none⟩, ⟨some 11, .move (.tmp 0), 3, some (some 10, true)⟩, ⟨some 12, .move (.tmp 2), 3, some (some 10, true)⟩, ⟨some 13, .binOp .leq 3 (.tmp 11) (.tmp 12) 3, 4, some (some 10, true)⟩, ⟨some 14, .pick (.tmp 10) (.tmp 13) (.const (.bool false)), 4, none⟩, ⟨some 6, .assign (.tmp 14), 4, none⟩])
    .ret))
def pl53 : Nat → Plan := fun _ => .done
theorem st53 : Go.Proofs.Tryz.f53.body.map (strip pl53) = some m53 := by kernel_rfl
theorem ok53 : okB pl53 Go.Proofs.Tryz.f53 3 = true := by kernel_rfl
theorem en53 {v0 v1 v2 w} {Q : Value → World → Prop} (h : mwpB Go.Proofs.Tryz.prog m53 (argEnv [v0, v1, v2]) [] w (fun e ds w => ds = [] ∧ resW Go.Proofs.Tryz.prog [.tmp 6] e w fun v => Q v w) (fun _ _ _ _ => False) (fun e ds w => ds = [] ∧ resW Go.Proofs.Tryz.prog [.tmp 6] e w fun v => Q v w) (fun _ _ _ => False) ⟨⟩) : Rets Go.Proofs.Tryz.prog 53 #[v0, v1, v2] w Q :=
  rets_of_mwp follows_mo Go.Proofs.Tryz.func53 pl53 st53 ok53 (by kernel_rfl) h
/-- continuo/effect.NewHost$2 -/
def m54 : MC := (.seq (.ops [⟨some 2, .assign (.const (.bool false)), 4, none⟩])
    (.seq (.ops [⟨some 3, .move (.tmp 0), 59, none⟩, ⟨some 4, .call { callee := .builtin .len, args := #[.tmp 3], argTypes := #[59] }, 3, none⟩, ⟨some 5, .binOp .gtr 3 (.tmp 4) (.const (.int .i64 8)) 3, 4, none⟩, ⟨some 2, .assign (.tmp 5), 4, none⟩])
    .ret))
def pl54 : Nat → Plan := fun _ => .done
theorem st54 : Go.Proofs.Tryz.f54.body.map (strip pl54) = some m54 := by kernel_rfl
theorem ok54 : okB pl54 Go.Proofs.Tryz.f54 1 = true := by kernel_rfl
theorem en54 {v0 w} {Q : Value → World → Prop} (h : mwpB Go.Proofs.Tryz.prog m54 (argEnv [v0]) [] w (fun e ds w => ds = [] ∧ resW Go.Proofs.Tryz.prog [.tmp 2] e w fun v => Q v w) (fun _ _ _ _ => False) (fun e ds w => ds = [] ∧ resW Go.Proofs.Tryz.prog [.tmp 2] e w fun v => Q v w) (fun _ _ _ => False) ⟨⟩) : Rets Go.Proofs.Tryz.prog 54 #[v0] w Q :=
  rets_of_mwp follows_mo Go.Proofs.Tryz.func54 pl54 st54 ok54 (by kernel_rfl) h
/-- (*continuo/effect.Host).equalize -/
def m55 : MC := (.seq (.ops [⟨some 4, .move (.tmp 0), 50, none⟩, ⟨some 5, .nilCheck (.tmp 4), 0, none⟩, ⟨some 6, .fieldAddr 113 (.tmp 5) 0, 0, none⟩, ⟨some 7, .load 111 (.tmp 6), 111, none⟩, ⟨some 8, .call { callee := .builtin .len, args := #[.tmp 7], argTypes := #[111] }, 3, none⟩, ⟨some 9, .move (.const (.int .i64 0)), 3, none⟩])
    (.block 0 (.loop (.seq (.ops [⟨some 10, .binOp .lss 3 (.tmp 9) (.tmp 8) 3, 0, none⟩])
    (.seq (.cond (.tmp 10) .skip (.exit 0))
    (.seq (.block 1 (.seq (.ops [⟨some 11, .indexAddr 111 (.tmp 7) (.tmp 9), 0, none⟩, ⟨some 12, .load 114 (.tmp 11), 114, none⟩, ⟨some 3, .assign (.tmp 12), 114, none⟩])
    (.seq (.ops [⟨some 13, .move (.tmp 0), 50, none⟩, ⟨some 14, .nilCheck (.tmp 13), 0, none⟩, ⟨some 15, .fieldAddr 113 (.tmp 14) 1, 0, none⟩, ⟨some 16, .load 4 (.tmp 15), 4, none⟩])
    (.cond (.tmp 16) (.ops [⟨some 17, .move (.tmp 3), 114, none⟩, ⟨some 18, .move (.tmp 0), 50, none⟩, ⟨some 19, .call { callee := .value (.func 29), args := #[.tmp 18], argTypes := #[50] }, 3, none⟩, ⟨some 20, .move (.tmp 3), 114, none⟩, ⟨some 21, .call { callee := .value (.func 67), args := #[.tmp 20], argTypes := #[114] }, 3, none⟩, ⟨some 22, .binOp .sub 3 (.tmp 19) (.tmp 21) 3, 3, none⟩, ⟨some 23, .call { callee := .value (.func 98), args := #[.tmp 17, .tmp 22], argTypes := #[114, 3] }, 0, none⟩]) .skip))))
    (.ops [⟨some 24, .binOp .add 3 (.tmp 9) (.const (.int .i64 1)) 3, 3, none⟩, ⟨some 9, .move (.tmp 24), 3, none⟩])))))))
def pl55 : Nat → Plan := fun _ => .done
theorem st55 : Go.Proofs.Tryz.f55.body.map (strip pl55) = some m55 := by kernel_rfl
theorem ok55 : okB pl55 Go.Proofs.Tryz.f55 1 = true := by kernel_rfl
theorem en55 {v0 w} {Q : Value → World → Prop} (h : mwpB Go.Proofs.Tryz.prog m55 (argEnv [v0]) [] w (fun e ds w => ds = [] ∧ resW Go.Proofs.Tryz.prog [] e w fun v => Q v w) (fun _ _ _ _ => False) (fun e ds w => ds = [] ∧ resW Go.Proofs.Tryz.prog [] e w fun v => Q v w) (fun _ _ _ => False) ⟨⟩) : Rets Go.Proofs.Tryz.prog 55 #[v0] w Q :=
  rets_of_mwp follows_mo Go.Proofs.Tryz.func55 pl55 st55 ok55 (by kernel_rfl) h
/-- continuo/continuoref31.aligned -/
def m56 : MC := (.seq (.ops [⟨some 1, .box 56 (.tmp 0), 0, none⟩, ⟨some 2, .alloc 56, 0, none⟩])
    (.seq (.ops [⟨some 7, .load 56 (.tmp 1), 56, none⟩, ⟨some 8, .call { callee := .value (.func 32), args := #[.tmp 7], argTypes := #[56] }, 22, none⟩, ⟨some 3, .assign (.tmp 8), 22, none⟩])
    (.seq (.ops [⟨some 4, .assign (.const (.slice none 0 0)), 54, none⟩])
    (.seq (.seq (.ops [⟨some 5, .assign (.const (.int .i64 0)), 3, none⟩])
    (.block 0 (.loop (.seq (.seq (.ops [⟨some 9, .move (.tmp 5), 3, none⟩, ⟨some 10, .move (.tmp 3), 22, none⟩, ⟨some 11, .call { callee := .builtin .len, args := #[.tmp 10], argTypes := #[22] }, 3, none⟩, ⟨some 12, .binOp .lss 3 (.tmp 9) (.tmp 11) 3, 4, none⟩])
    (.cond (.tmp 12) .skip (.exit 0)))
    (.seq (.block 1 (.seq (.ops [⟨some 6, .assign (.const (.slice none 0 0)), 22, none⟩])
    (.seq (.seq (.ops [⟨some 15, .move (.tmp 5), 3, none⟩, ⟨some 16, .fieldAddr 56 (.tmp 1) 1, 0, none⟩, ⟨some 17, .load 54 (.tmp 16), 54, none⟩, ⟨some 18, .call { callee := .builtin .len, args := #[.tmp 17], argTypes := #[54] }, 3, none⟩, ⟨some 19, .binOp .lss 3 (.tmp 15) (.tmp 18) 3, 4, none⟩])
    (.cond (.tmp 19) (.ops [⟨some 20, .fieldAddr 56 (.tmp 1) 1, 0, none⟩, ⟨some 21, .load 54 (.tmp 20), 54, none⟩, ⟨some 22, .move (.tmp 5), 3, none⟩, ⟨some 23, .indexAddr 54 (.tmp 21) (.tmp 22), 0, none⟩, ⟨some 24, .load 22 (.tmp 23), 22, none⟩, ⟨some 6, .assign (.tmp 24), 22, none⟩]) .skip))
    (.ops [⟨some 25, .move (.tmp 4), 54, none⟩, ⟨some 26, .move (.tmp 6), 22, none⟩, ⟨some 27, .move (.tmp 3), 22, none⟩, ⟨some 28, .move (.tmp 5), 3, none⟩, ⟨some 29, .indexAddr 22 (.tmp 27) (.tmp 28), 0, none⟩, ⟨some 30, .load 3 (.tmp 29), 3, none⟩, ⟨some 31, .call { callee := .value (.func 99), args := #[.tmp 26, .tmp 30], argTypes := #[22, 3] }, 22, none⟩, ⟨some 32, .buildSlice 54 1 #[(0, .tmp 31)], 54, none⟩, ⟨some 33, .call { callee := .builtin .append, args := #[.tmp 25, .tmp 32], argTypes := #[54, 54] }, 54, none⟩, ⟨some 4, .assign (.tmp 33), 54, none⟩]))))
    (.ops [⟨some 13, .move (.tmp 5), 3, none⟩, ⟨some 14, .binOp .add 3 (.tmp 13) (.const (.int .i64 1)) 3, 3, none⟩, ⟨some 5, .assign (.tmp 14), 3, none⟩]))))))
    (.seq (.ops [⟨some 34, .move (.tmp 4), 54, none⟩, ⟨some 35, .fieldAddr 56 (.tmp 1) 1, 0, none⟩, ⟨none, .store 54 (.tmp 35) (.tmp 34), 0, none⟩])
    (.seq (.ops [⟨some 36, .load 56 (.tmp 1), 56, none⟩, ⟨none, .store 56 (.tmp 2) (.tmp 36), 0, none⟩])
    .ret))))))
def pl56 : Nat → Plan := fun _ => .done
theorem st56 : Go.Proofs.Tryz.f56.body.map (strip pl56) = some m56 := by kernel_rfl
theorem ok56 : okB pl56 Go.Proofs.Tryz.f56 1 = true := by kernel_rfl
theorem en56 {v0 w} {Q : Value → World → Prop} (h : mwpB Go.Proofs.Tryz.prog m56 (argEnv [v0]) [] w (fun e ds w => ds = [] ∧ resW Go.Proofs.Tryz.prog [.cell 2 56] e w fun v => Q v w) (fun _ _ _ _ => False) (fun e ds w => ds = [] ∧ resW Go.Proofs.Tryz.prog [.cell 2 56] e w fun v => Q v w) (fun _ _ _ => False) ⟨⟩) : Rets Go.Proofs.Tryz.prog 56 #[v0] w Q :=
  rets_of_mwp follows_mo Go.Proofs.Tryz.func56 pl56 st56 ok56 (by kernel_rfl) h
/-- (*continuo/effect.history).kept -/
def m57 : MC := (.seq (.ops [⟨some 4, .assign (.const (.int .i64 0)), 3, none⟩])
    (.seq (.seq (.ops [⟨some 6, .move (.tmp 0), 169, none⟩, ⟨some 7, .nilCheck (.tmp 6), 0, none⟩, ⟨some 8, .fieldAddr 103 (.tmp 7) 0, 0, none⟩, ⟨some 9, .load 22 (.tmp 8), 22, none⟩, ⟨some 10, .call { callee := .builtin .len, args := #[.tmp 9], argTypes := #[22] }, 3, none⟩, ⟨some 11, .binOp .eql 3 (.tmp 10) (.const (.int .i64 0)) 3, 4, none⟩])
    (.cond (.tmp 11) (.seq (.ops [⟨some 12, .move (.tmp 1), 3, none⟩, ⟨some 4, .assign (.tmp 12), 3, none⟩])
    .ret) .skip))
    (.seq (.ops [⟨some 13, .move (.tmp 0), 169, none⟩, ⟨some 14, .move (.tmp 0), 169, none⟩, ⟨some 15, .nilCheck (.tmp 14), 0, none⟩, ⟨some 16, .fieldAddr 103 (.tmp 15) 0, 0, none⟩, ⟨some 17, .load 22 (.tmp 16), 22, none⟩, ⟨some 18, .call { callee := .builtin .len, args := #[.tmp 17], argTypes := #[22] }, 3, none⟩, ⟨some 19, .call { callee := .value (.func 100), args := #[.tmp 13, .tmp 18], argTypes := #[169, 3] }, 3, none⟩, ⟨some 5, .assign (.tmp 19), 3, none⟩])
    (.seq (.ops [⟨some 20, .move (.tmp 0), 169, none⟩, ⟨some 21, .move (.tmp 1), 3, none⟩, ⟨some 22, .call { callee := .value (.func 101), args := #[.tmp 20, .tmp 21], argTypes := #[169, 3] }, 0, none⟩])
    (.seq (.ops [⟨some 23, .move (.tmp 5), 3, none⟩, ⟨some 4, .assign (.tmp 23), 3, none⟩])
    .ret)))))
def pl57 : Nat → Plan := fun _ => .done
theorem st57 : Go.Proofs.Tryz.f57.body.map (strip pl57) = some m57 := by kernel_rfl
theorem ok57 : okB pl57 Go.Proofs.Tryz.f57 2 = true := by kernel_rfl
theorem en57 {v0 v1 w} {Q : Value → World → Prop} (h : mwpB Go.Proofs.Tryz.prog m57 (argEnv [v0, v1]) [] w (fun e ds w => ds = [] ∧ resW Go.Proofs.Tryz.prog [.tmp 4] e w fun v => Q v w) (fun _ _ _ _ => False) (fun e ds w => ds = [] ∧ resW Go.Proofs.Tryz.prog [.tmp 4] e w fun v => Q v w) (fun _ _ _ => False) ⟨⟩) : Rets Go.Proofs.Tryz.prog 57 #[v0, v1] w Q :=
  rets_of_mwp follows_mo Go.Proofs.Tryz.func57 pl57 st57 ok57 (by kernel_rfl) h
/-- continuo/effect.bound -/
def m58 : MC := (.seq (.ops [⟨some 2, .assign (.const (.int .i64 0)), 3, none⟩])
    (.seq (.ops [⟨some 3, .move (.tmp 0), 3, none⟩, ⟨some 4, .call { callee := .builtin .min, args := #[.tmp 3, .const (.int .i64 8388607)], argTypes := #[3, 3] }, 3, none⟩, ⟨some 5, .call { callee := .builtin .max, args := #[.const (.int .i64 (-8388607)), .tmp 4], argTypes := #[3, 3] }, 3, none⟩, ⟨some 2, .assign (.tmp 5), 3, none⟩])
    .ret))
def pl58 : Nat → Plan := fun _ => .done
theorem st58 : Go.Proofs.Tryz.f58.body.map (strip pl58) = some m58 := by kernel_rfl
theorem ok58 : okB pl58 Go.Proofs.Tryz.f58 1 = true := by kernel_rfl
theorem en58 {v0 w} {Q : Value → World → Prop} (h : mwpB Go.Proofs.Tryz.prog m58 (argEnv [v0]) [] w (fun e ds w => ds = [] ∧ resW Go.Proofs.Tryz.prog [.tmp 2] e w fun v => Q v w) (fun _ _ _ _ => False) (fun e ds w => ds = [] ∧ resW Go.Proofs.Tryz.prog [.tmp 2] e w fun v => Q v w) (fun _ _ _ => False) ⟨⟩) : Rets Go.Proofs.Tryz.prog 58 #[v0] w Q :=
  rets_of_mwp follows_mo Go.Proofs.Tryz.func58 pl58 st58 ok58 (by kernel_rfl) h
/-- continuo/continuoref31.Bounded -/
def m59 : MC := (.seq (.ops [⟨some 2, .assign (.const (.int .i64 0)), 3, none⟩])
    (.seq (.seq (.ops [⟨some 3, .move (.tmp 0), 3, none⟩, ⟨some 4, .binOp .gtr 3 (.tmp 3) (.const (.int .i64 8388607)) 3, 4, none⟩])
    (.cond (.tmp 4) (.seq (.ops [⟨some 2, .assign (.const (.int .i64 8388607)), 3, none⟩])
    .ret) .skip))
    (.seq (.seq (.ops [⟨some 5, .move (.tmp 0), 3, none⟩, ⟨some 6, .binOp .lss 3 (.tmp 5) (.const (.int .i64 (-8388607))) 3, 4, none⟩])
    (.cond (.tmp 6) (.seq (.ops [⟨some 2, .assign (.const (.int .i64 (-8388607))), 3, none⟩])
    .ret) .skip))
    (.seq (.ops [⟨some 7, .move (.tmp 0), 3, none⟩, ⟨some 2, .assign (.tmp 7), 3, none⟩])
    .ret))))
def pl59 : Nat → Plan := fun _ => .done
theorem st59 : Go.Proofs.Tryz.f59.body.map (strip pl59) = some m59 := by kernel_rfl
theorem ok59 : okB pl59 Go.Proofs.Tryz.f59 1 = true := by kernel_rfl
theorem en59 {v0 w} {Q : Value → World → Prop} (h : mwpB Go.Proofs.Tryz.prog m59 (argEnv [v0]) [] w (fun e ds w => ds = [] ∧ resW Go.Proofs.Tryz.prog [.tmp 2] e w fun v => Q v w) (fun _ _ _ _ => False) (fun e ds w => ds = [] ∧ resW Go.Proofs.Tryz.prog [.tmp 2] e w fun v => Q v w) (fun _ _ _ => False) ⟨⟩) : Rets Go.Proofs.Tryz.prog 59 #[v0] w Q :=
  rets_of_mwp follows_mo Go.Proofs.Tryz.func59 pl59 st59 ok59 (by kernel_rfl) h
/-- continuo/continuoref31.Changed -/
def m60 : MC := (.seq (.ops [⟨some 2, .box 39 (.tmp 0), 0, none⟩, ⟨some 3, .box 24 (.tmp 1), 0, none⟩, ⟨some 4, .alloc 39, 0, none⟩])
    (.seq (.ops [⟨some 8, .load 24 (.tmp 3), 24, none⟩, ⟨some 9, .call { callee := .value (.func 15), args := #[.tmp 8], argTypes := #[24] }, 40, none⟩, ⟨some 7, .move (.tmp 9), 40, none⟩, ⟨some 10, .extract (.tmp 7) 0, 39, none⟩, ⟨some 11, .extract (.tmp 7) 1, 28, none⟩, ⟨some 5, .alloc 39, 0, none⟩, ⟨none, .store 39 (.tmp 5) (.tmp 10), 0, none⟩, ⟨some 6, .assign (.tmp 11), 28, none⟩])
    (.seq (.seq (.ops [⟨some 12, .fieldAddr 39 (.tmp 2) 0, 0, none⟩, ⟨some 13, .fieldAddr 24 (.tmp 12) 0, 0, none⟩, ⟨some 14, .load 3 (.tmp 13), 3, none⟩, ⟨some 15, .fieldAddr 24 (.tmp 3) 0, 0, none⟩, ⟨some 16, .load 3 (.tmp 15), 3, none⟩, ⟨some 17, .binOp .neq 3 (.tmp 14) (.tmp 16) 3, 4, none⟩])
    (.cond (.tmp 17) (.seq (.ops [⟨some 18, .load 39 (.tmp 5), 39, none⟩, ⟨none, .store 39 (.tmp 4) (.tmp 18), 0, none⟩])
    .ret) .skip))
    (.seq (.draw (.take ⟨some 19, .fieldAddr 39 (.tmp 2) 2, 0, none⟩ (.take ⟨some 20, .load 3 (.tmp 19), 3, none⟩ (.take ⟨some 21, .fieldAddr 39 (.tmp 2) 3, 0, none⟩ (.take ⟨some 22, .load 3 (.tmp 21), 3, none⟩ (.take ⟨some 23, .fieldAddr 39 (.tmp 5) 2, 0, none⟩ (.alt ⟨none, .store 3 (.tmp 23) (.tmp 20), 0, none⟩ (.take ⟨some 24, .fieldAddr 39 (.tmp 5) 3, 0, none⟩ (.altL ⟨none, .store 3 (.tmp 24) (.tmp 22), 0, none⟩ .done .none)) .none)))))))
    (.seq (.ops [⟨some 25, .fieldAddr 39 (.tmp 2) 1, 0, none⟩, ⟨some 26, .load 22 (.tmp 25), 22, none⟩, ⟨some 27, .fieldAddr 39 (.tmp 5) 1, 0, none⟩, ⟨some 28, .load 22 (.tmp 27), 22, none⟩, ⟨some 29, .call { callee := .builtin .len, args := #[.tmp 28], argTypes := #[22] }, 3, none⟩, ⟨some 30, .call { callee := .value (.func 99), args := #[.tmp 26, .tmp 29], argTypes := #[22, 3] }, 22, none⟩, ⟨some 31, .fieldAddr 39 (.tmp 5) 1, 0, none⟩, ⟨none, .store 22 (.tmp 31) (.tmp 30), 0, none⟩])
    (.seq (.ops [⟨some 32, .load 39 (.tmp 5), 39, none⟩, ⟨none, .store 39 (.tmp 4) (.tmp 32), 0, none⟩])
    .ret))))))
def pl60 : Nat → Plan := fun id => if id = 4 then (.take 0 (.take 1 (.take 2 (.take 3 (.take 4 (.alt 5 (.take 6 (.altL 7 .done .none)) .none)))))) else .done
theorem st60 : Go.Proofs.Tryz.f60.body.map (strip pl60) = some m60 := by kernel_rfl
theorem ok60 : okB pl60 Go.Proofs.Tryz.f60 2 = true := by kernel_rfl
theorem en60 {v0 v1 w} {Q : Value → World → Prop} (h : mwpB Go.Proofs.Tryz.prog m60 (argEnv [v0, v1]) [] w (fun e ds w => ds = [] ∧ resW Go.Proofs.Tryz.prog [.cell 4 39] e w fun v => Q v w) (fun _ _ _ _ => False) (fun e ds w => ds = [] ∧ resW Go.Proofs.Tryz.prog [.cell 4 39] e w fun v => Q v w) (fun _ _ _ => False) ⟨⟩) : Rets Go.Proofs.Tryz.prog 60 #[v0, v1] w Q :=
  rets_of_mwp follows_mo Go.Proofs.Tryz.func60 pl60 st60 ok60 (by kernel_rfl) h
/-- (*continuo/effect.scanner).same -/
def m61 : MC := (.seq (.ops [⟨some 7, .move (.tmp 0), 84, none⟩, ⟨some 8, .makeFunc (.func 102) #[.tmp 7] #[], 44, none⟩, ⟨some 4, .assign (.tmp 8), 44, none⟩])
    (.seq (.ops [⟨some 9, .move (.tmp 1), 22, none⟩, ⟨some 10, .call { callee := .builtin .len, args := #[.tmp 9], argTypes := #[22] }, 3, none⟩, ⟨some 11, .move (.const (.int .i64 0)), 3, none⟩])
    (.block 0 (.loop (.seq (.ops [⟨some 12, .binOp .lss 3 (.tmp 11) (.tmp 10) 3, 0, none⟩])
    (.seq (.cond (.tmp 12) .skip (.exit 0))
    (.seq (.block 1 (.seq (.ops [⟨some 13, .indexAddr 22 (.tmp 9) (.tmp 11), 0, none⟩, ⟨some 14, .load 3 (.tmp 13), 3, none⟩, ⟨some 6, .assign (.tmp 14), 3, none⟩])
    (.seq (.ops [⟨some 15, .move (.tmp 4), 44, none⟩, ⟨some 16, .call { callee := .value (.tmp 15), args := #[], argTypes := #[] }, 3, none⟩, ⟨some 17, .move (.tmp 6), 3, none⟩, ⟨some 18, .binOp .neq 3 (.tmp 16) (.tmp 17) 3, 4, none⟩])
    (.cond (.tmp 18) (.ops [⟨some 19, .build 140 #[], 140, none⟩, ⟨some 20, .makeInterface 140 (.tmp 19), 20, none⟩, ⟨none, .panic (.tmp 20), 0, none⟩]) .skip))))
    (.ops [⟨some 21, .binOp .add 3 (.tmp 11) (.const (.int .i64 1)) 3, 3, none⟩, ⟨some 11, .move (.tmp 21), 3, none⟩]))))))))
def pl61 : Nat → Plan := fun _ => .done
theorem st61 : Go.Proofs.Tryz.f61.body.map (strip pl61) = some m61 := by kernel_rfl
theorem ok61 : okB pl61 Go.Proofs.Tryz.f61 2 = true := by kernel_rfl
theorem en61 {v0 v1 w} {Q : Value → World → Prop} (h : mwpB Go.Proofs.Tryz.prog m61 (argEnv [v0, v1]) [] w (fun e ds w => ds = [] ∧ resW Go.Proofs.Tryz.prog [] e w fun v => Q v w) (fun _ _ _ _ => False) (fun e ds w => ds = [] ∧ resW Go.Proofs.Tryz.prog [] e w fun v => Q v w) (fun _ _ _ => False) ⟨⟩) : Rets Go.Proofs.Tryz.prog 61 #[v0, v1] w Q :=
  rets_of_mwp follows_mo Go.Proofs.Tryz.func61 pl61 st61 ok61 (by kernel_rfl) h
/-- (*continuo/effect.scanner).list -/
def m62 : MC := (.seq (.ops [⟨some 4, .assign (.const (.slice none 0 0)), 22, none⟩])
    (.seq (.ops [⟨some 6, .move (.tmp 0), 84, none⟩, ⟨some 7, .move (.tmp 1), 3, none⟩, ⟨some 8, .buildSlice 22 1 #[(0, .tmp 7)], 22, none⟩, ⟨some 9, .call { callee := .value (.func 61), args := #[.tmp 6, .tmp 8], argTypes := #[84, 22] }, 0, none⟩])
    (.seq (.ops [⟨some 5, .assign (.const (.slice none 0 0)), 22, none⟩])
    (.seq (.seq (.ops [⟨some 10, .move (.tmp 1), 3, none⟩, ⟨some 11, .move (.const (.int .i64 0)), 3, none⟩])
    (.block 0 (.loop (.seq (.ops [⟨some 12, .binOp .lss 3 (.tmp 11) (.tmp 10) 3, 4, none⟩])
    (.seq (.cond (.tmp 12) .skip (.exit 0))
    (.seq (.block 1 (.ops [⟨some 13, .move (.tmp 5), 22, none⟩, ⟨some 14, .move (.tmp 0), 84, none⟩, ⟨some 15, .call { callee := .value (.func 103), args := #[.tmp 14], argTypes := #[84] }, 3, none⟩, ⟨some 16, .buildSlice 22 1 #[(0, .tmp 15)], 22, none⟩, ⟨some 17, .call { callee := .builtin .append, args := #[.tmp 13, .tmp 16], argTypes := #[22, 22] }, 22, none⟩, ⟨some 5, .assign (.tmp 17), 22, none⟩]))
    (.ops [⟨some 18, .binOp .add 3 (.tmp 11) (.const (.int .i64 1)) 3, 3, none⟩, ⟨some 11, .move (.tmp 18), 3, none⟩])))))))
    (.seq (.ops [⟨some 19, .move (.tmp 5), 22, none⟩, ⟨some 4, .assign (.tmp 19), 22, none⟩])
    .ret)))))
def pl62 : Nat → Plan := fun _ => .done
theorem st62 : Go.Proofs.Tryz.f62.body.map (strip pl62) = some m62 := by kernel_rfl
theorem ok62 : okB pl62 Go.Proofs.Tryz.f62 2 = true := by kernel_rfl
theorem en62 {v0 v1 w} {Q : Value → World → Prop} (h : mwpB Go.Proofs.Tryz.prog m62 (argEnv [v0, v1]) [] w (fun e ds w => ds = [] ∧ resW Go.Proofs.Tryz.prog [.tmp 4] e w fun v => Q v w) (fun _ _ _ _ => False) (fun e ds w => ds = [] ∧ resW Go.Proofs.Tryz.prog [.tmp 4] e w fun v => Q v w) (fun _ _ _ => False) ⟨⟩) : Rets Go.Proofs.Tryz.prog 62 #[v0, v1] w Q :=
  rets_of_mwp follows_mo Go.Proofs.Tryz.func62 pl62 st62 ok62 (by kernel_rfl) h
/-- (*continuo/effect.history).fill -/
def m63 : MC := (.seq (.seq (.ops [⟨some 5, .move (.tmp 0), 169, none⟩, ⟨some 6, .nilCheck (.tmp 5), 0, none⟩, ⟨some 7, .fieldAddr 103 (.tmp 6) 0, 0, none⟩, ⟨some 8, .load 22 (.tmp 7), 22, none⟩, ⟨some 9, .call { callee := .builtin .len, args := #[.tmp 8], argTypes := #[22] }, 3, none⟩, ⟨some 10, .move (.const (.int .i64 0)), 3, none⟩])
    (.block 0 (.loop (.seq (.ops [⟨some 11, .binOp .lss 3 (.tmp 10) (.tmp 9) 3, 0, none⟩])
    (.seq (.cond (.tmp 11) .skip (.exit 0))
    (.seq (.block 1 (.seq (.ops [⟨some 12, .move (.tmp 10), 3, none⟩, ⟨some 4, .assign (.tmp 12), 3, none⟩])
    (.ops [⟨some 13, .move (.tmp 0), 169, none⟩, ⟨some 14, .nilCheck (.tmp 13), 0, none⟩, ⟨some 15, .fieldAddr 103 (.tmp 14) 0, 0, none⟩, ⟨some 16, .load 22 (.tmp 15), 22, none⟩, ⟨some 17, .move (.tmp 4), 3, none⟩, ⟨some 18, .indexAddr 22 (.tmp 16) (.tmp 17), 0, none⟩, ⟨none, .store 3 (.tmp 18) (.const (.int .i64 0)), 0, none⟩])))
    (.ops [⟨some 19, .binOp .add 3 (.tmp 10) (.const (.int .i64 1)) 3, 3, none⟩, ⟨some 10, .move (.tmp 19), 3, none⟩])))))))
    (.seq (.ops [⟨some 20, .move (.tmp 0), 169, none⟩, ⟨some 21, .nilCheck (.tmp 20), 0, none⟩, ⟨some 22, .fieldAddr 103 (.tmp 21) 1, 0, none⟩, ⟨none, .store 3 (.tmp 22) (.const (.int .i64 0)), 0, none⟩])
    (.ops [⟨some 23, .move (.tmp 0), 169, none⟩, ⟨some 24, .nilCheck (.tmp 23), 0, none⟩, ⟨some 25, .fieldAddr 103 (.tmp 24) 0, 0, none⟩, ⟨some 26, .load 22 (.tmp 25), 22, none⟩, ⟨some 27, .move (.tmp 1), 22, none⟩, ⟨some 28, .call { callee := .builtin .copy, args := #[.tmp 26, .tmp 27], argTypes := #[22, 22] }, 3, none⟩])))
def pl63 : Nat → Plan := fun _ => .done
theorem st63 : Go.Proofs.Tryz.f63.body.map (strip pl63) = some m63 := by kernel_rfl
theorem ok63 : okB pl63 Go.Proofs.Tryz.f63 2 = true := by kernel_rfl
theorem en63 {v0 v1 w} {Q : Value → World → Prop} (h : mwpB Go.Proofs.Tryz.prog m63 (argEnv [v0, v1]) [] w (fun e ds w => ds = [] ∧ resW Go.Proofs.Tryz.prog [] e w fun v => Q v w) (fun _ _ _ _ => False) (fun e ds w => ds = [] ∧ resW Go.Proofs.Tryz.prog [] e w fun v => Q v w) (fun _ _ _ => False) ⟨⟩) : Rets Go.Proofs.Tryz.prog 63 #[v0, v1] w Q :=
  rets_of_mwp follows_mo Go.Proofs.Tryz.func63 pl63 st63 ok63 (by kernel_rfl) h
/-- continuo/effect.writer -/
def m64 : MC := (.seq (.ops [⟨some 0, .assign (.const .nilFunc), 121, none⟩, ⟨some 1, .assign (.const .nilFunc), 33, none⟩])
    (.seq (.ops [⟨some 2, .alloc 85, 0, none⟩])
    (.seq (.ops [⟨some 3, .makeFunc (.func 104) #[] #[.tmp 2], 121, none⟩, ⟨some 0, .assign (.tmp 3), 121, none⟩])
    (.seq (.ops [⟨some 4, .move (.tmp 0), 121, none⟩, ⟨some 5, .makeFunc (.func 106) #[] #[.tmp 2], 33, none⟩, ⟨some 0, .assign (.tmp 4), 121, none⟩, ⟨some 1, .assign (.tmp 5), 33, none⟩])
    .ret))))
def pl64 : Nat → Plan := fun _ => .done
theorem st64 : Go.Proofs.Tryz.f64.body.map (strip pl64) = some m64 := by kernel_rfl
theorem ok64 : okB pl64 Go.Proofs.Tryz.f64 0 = true := by kernel_rfl
theorem en64 {w} {Q : Value → World → Prop} (h : mwpB Go.Proofs.Tryz.prog m64 (argEnv []) [] w (fun e ds w => ds = [] ∧ resW Go.Proofs.Tryz.prog [.tmp 0, .tmp 1] e w fun v => Q v w) (fun _ _ _ _ => False) (fun e ds w => ds = [] ∧ resW Go.Proofs.Tryz.prog [.tmp 0, .tmp 1] e w fun v => Q v w) (fun _ _ _ => False) ⟨⟩) : Rets Go.Proofs.Tryz.prog 64 #[] w Q :=
  rets_of_mwp follows_mo Go.Proofs.Tryz.func64 pl64 st64 ok64 (by kernel_rfl) h
/-- (*continuo/effect.history).all -/
def m65 : MC := (.seq (.ops [⟨some 2, .assign (.const (.slice none 0 0)), 22, none⟩])
    (.seq (.ops [⟨some 3, .assign (.const (.slice none 0 0)), 22, none⟩])
    (.seq (.seq (.ops [⟨some 5, .move (.tmp 0), 169, none⟩, ⟨some 6, .nilCheck (.tmp 5), 0, none⟩, ⟨some 7, .fieldAddr 103 (.tmp 6) 0, 0, none⟩, ⟨some 8, .load 22 (.tmp 7), 22, none⟩, ⟨some 9, .call { callee := .builtin .len, args := #[.tmp 8], argTypes := #[22] }, 3, none⟩, ⟨some 10, .move (.const (.int .i64 0)), 3, none⟩])
    (.block 0 (.loop (.seq (.ops [⟨some 11, .binOp .lss 3 (.tmp 10) (.tmp 9) 3, 0, none⟩])
    (.seq (.cond (.tmp 11) .skip (.exit 0))
    (.seq (.block 1 (.seq (.ops [⟨some 12, .move (.tmp 10), 3, none⟩, ⟨some 4, .assign (.tmp 12), 3, none⟩])
    (.ops [⟨some 13, .move (.tmp 3), 22, none⟩, ⟨some 14, .move (.tmp 0), 169, none⟩, ⟨some 15, .move (.tmp 4), 3, none⟩, ⟨some 16, .binOp .add 3 (.tmp 15) (.const (.int .i64 1)) 3, 3, none⟩, ⟨some 17, .call { callee := .value (.func 100), args := #[.tmp 14, .tmp 16], argTypes := #[169, 3] }, 3, none⟩, ⟨some 18, .buildSlice 22 1 #[(0, .tmp 17)], 22, none⟩, ⟨some 19, .call { callee := .builtin .append, args := #[.tmp 13, .tmp 18], argTypes := #[22, 22] }, 22, none⟩, ⟨some 3, .assign (.tmp 19), 22, none⟩])))
    (.ops [⟨some 20, .binOp .add 3 (.tmp 10) (.const (.int .i64 1)) 3, 3, none⟩, ⟨some 10, .move (.tmp 20), 3, none⟩])))))))
    (.seq (.ops [⟨some 21, .move (.tmp 3), 22, none⟩, ⟨some 2, .assign (.tmp 21), 22, none⟩])
    .ret))))
def pl65 : Nat → Plan := fun _ => .done
theorem st65 : Go.Proofs.Tryz.f65.body.map (strip pl65) = some m65 := by kernel_rfl
theorem ok65 : okB pl65 Go.Proofs.Tryz.f65 1 = true := by kernel_rfl
theorem en65 {v0 w} {Q : Value → World → Prop} (h : mwpB Go.Proofs.Tryz.prog m65 (argEnv [v0]) [] w (fun e ds w => ds = [] ∧ resW Go.Proofs.Tryz.prog [.tmp 2] e w fun v => Q v w) (fun _ _ _ _ => False) (fun e ds w => ds = [] ∧ resW Go.Proofs.Tryz.prog [.tmp 2] e w fun v => Q v w) (fun _ _ _ => False) ⟨⟩) : Rets Go.Proofs.Tryz.prog 65 #[v0] w Q :=
  rets_of_mwp follows_mo Go.Proofs.Tryz.func65 pl65 st65 ok65 (by kernel_rfl) h
/-- continuo/effect.unitState -/
def m66 : MC := (.seq (.ops [⟨some 2, .assign (.const (.slice none 0 0)), 22, none⟩])
    (.seq (.ops [⟨some 5, .move (.tmp 0), 27, none⟩, ⟨some 6, .nilCheck (.tmp 5), 0, none⟩, ⟨some 7, .fieldAddr 80 (.tmp 6) 0, 0, none⟩, ⟨some 8, .load 78 (.tmp 7), 78, none⟩, ⟨some 9, .call { callee := .invoke (.tmp 8) "continuo/effect.state", args := #[], argTypes := #[] }, 22, none⟩, ⟨some 3, .assign (.tmp 9), 22, none⟩])
    (.seq (.draw (.take ⟨some 10, .move (.tmp 0), 27, none⟩ (.take ⟨some 11, .nilCheck (.tmp 10), 0, none⟩ (.take ⟨some 12, .fieldAddr 80 (.tmp 11) 1, 0, none⟩ (.take ⟨some 13, .fieldAddr 24 (.tmp 12) 0, 0, none⟩ (.take ⟨some 14, .load 3 (.tmp 13), 3, none⟩ (.take ⟨some 15, .move (.tmp 0), 27, none⟩ (.take ⟨some 16, .nilCheck (.tmp 15), 0, none⟩ (.take ⟨some 17, .fieldAddr 80 (.tmp 16) 1, 0, none⟩ (.take ⟨some 18, .fieldAddr 24 (.tmp 17) 1, 0, none⟩ (.take ⟨some 19, .load 22 (.tmp 18), 22, none⟩ (.take ⟨some 20, .call { callee := .builtin .len, args := #[.tmp 19], argTypes := #[22] }, 3, none⟩ (.take ⟨some 21, .move (.tmp 0), 27, none⟩ (.take ⟨some 22, .nilCheck (.tmp 21), 0, none⟩ (.take ⟨some 23, .fieldAddr 80 (.tmp 22) 1, 0, none⟩ (.take ⟨some 24, .fieldAddr 24 (.tmp 23) 2, 0, none⟩ (.take ⟨some 25, .load 22 (.tmp 24), 22, none⟩ (.take ⟨some 26, .call { callee := .builtin .len, args := #[.tmp 25], argTypes := #[22] }, 3, none⟩ (.alt ⟨some 27, .buildSlice 22 3 #[(0, .tmp 14), (1, .tmp 20), (2, .tmp 26)], 22, none⟩ (.take ⟨some 4, .assign (.tmp 27), 22, none⟩ .done) .none)))))))))))))))))))
    (.seq (.ops [⟨some 28, .move (.tmp 4), 22, none⟩, ⟨some 29, .move (.tmp 0), 27, none⟩, ⟨some 30, .nilCheck (.tmp 29), 0, none⟩, ⟨some 31, .fieldAddr 80 (.tmp 30) 1, 0, none⟩, ⟨some 32, .fieldAddr 24 (.tmp 31) 1, 0, none⟩, ⟨some 33, .load 22 (.tmp 32), 22, none⟩, ⟨some 34, .call { callee := .builtin .append, args := #[.tmp 28, .tmp 33], argTypes := #[22, 22] }, 22, none⟩, ⟨some 4, .assign (.tmp 34), 22, none⟩])
    (.seq (.ops [⟨some 35, .move (.tmp 4), 22, none⟩, ⟨some 36, .move (.tmp 0), 27, none⟩, ⟨some 37, .nilCheck (.tmp 36), 0, none⟩, ⟨some 38, .fieldAddr 80 (.tmp 37) 1, 0, none⟩, ⟨some 39, .fieldAddr 24 (.tmp 38) 2, 0, none⟩, ⟨some 40, .load 22 (.tmp 39), 22, none⟩, ⟨some 41, .call { callee := .builtin .append, args := #[.tmp 35, .tmp 40], argTypes := #[22, 22] }, 22, none⟩, ⟨some 4, .assign (.tmp 41), 22, none⟩])
    (.seq (.ops [⟨some 42, .move (.tmp 4), 22, none⟩, ⟨some 43, .move (.tmp 3), 22, none⟩, ⟨some 44, .call { callee := .builtin .len, args := #[.tmp 43], argTypes := #[22] }, 3, none⟩, ⟨some 45, .buildSlice 22 1 #[(0, .tmp 44)], 22, none⟩, ⟨some 46, .call { callee := .builtin .append, args := #[.tmp 42, .tmp 45], argTypes := #[22, 22] }, 22, none⟩, ⟨some 4, .assign (.tmp 46), 22, none⟩])
    (.seq (.ops [⟨some 47, .move (.tmp 4), 22, none⟩, ⟨some 48, .move (.tmp 3), 22, none⟩, ⟨some 49, .call { callee := .builtin .append, args := #[.tmp 47, .tmp 48], argTypes := #[22, 22] }, 22, none⟩, ⟨some 2, .assign (.tmp 49), 22, none⟩])
    .ret)))))))
def pl66 : Nat → Plan := fun id => if id = 2 then (.take 0 (.take 1 (.take 2 (.take 3 (.take 4 (.take 5 (.take 6 (.take 7 (.take 8 (.take 9 (.take 10 (.take 11 (.take 12 (.take 13 (.take 14 (.take 15 (.take 16 (.alt 17 (.take 18 .done) .none)))))))))))))))))) else .done
theorem st66 : Go.Proofs.Tryz.f66.body.map (strip pl66) = some m66 := by kernel_rfl
theorem ok66 : okB pl66 Go.Proofs.Tryz.f66 1 = true := by kernel_rfl
theorem en66 {v0 w} {Q : Value → World → Prop} (h : mwpB Go.Proofs.Tryz.prog m66 (argEnv [v0]) [] w (fun e ds w => ds = [] ∧ resW Go.Proofs.Tryz.prog [.tmp 2] e w fun v => Q v w) (fun _ _ _ _ => False) (fun e ds w => ds = [] ∧ resW Go.Proofs.Tryz.prog [.tmp 2] e w fun v => Q v w) (fun _ _ _ => False) ⟨⟩) : Rets Go.Proofs.Tryz.prog 66 #[v0] w Q :=
  rets_of_mwp follows_mo Go.Proofs.Tryz.func66 pl66 st66 ok66 (by kernel_rfl) h
/-- (*continuo/effect.lane).latency -/
def m67 : MC := (.seq (.ops [⟨some 2, .assign (.const (.int .i64 0)), 3, none⟩])
    (.seq (.ops [⟨some 3, .assign (.const (.int .i64 0)), 3, none⟩])
    (.seq (.seq (.ops [⟨some 6, .move (.tmp 0), 114, none⟩, ⟨some 7, .nilCheck (.tmp 6), 0, none⟩, ⟨some 8, .fieldAddr 117 (.tmp 7) 1, 0, none⟩, ⟨some 9, .load 115 (.tmp 8), 115, none⟩, ⟨some 10, .call { callee := .builtin .len, args := #[.tmp 9], argTypes := #[115] }, 3, none⟩, ⟨some 11, .move (.const (.int .i64 0)), 3, none⟩])
    (.block 0 (.loop (.seq (.ops [⟨some 12, .binOp .lss 3 (.tmp 11) (.tmp 10) 3, 0, none⟩])
    (.seq (.cond (.tmp 12) .skip (.exit 0))
    (.seq (.block 1 (.seq (.ops [⟨some 13, .indexAddr 115 (.tmp 9) (.tmp 11), 0, none⟩, ⟨some 14, .load 27 (.tmp 13), 27, none⟩, ⟨some 5, .assign (.tmp 14), 27, none⟩])
    (.ops [⟨some 15, .move (.tmp 3), 3, none⟩, ⟨some 16, .move (.tmp 5), 27, none⟩, ⟨some 17, .nilCheck (.tmp 16), 0, none⟩, ⟨some 18, .fieldAddr 80 (.tmp 17) 1, 0, none⟩, ⟨some 19, .load 24 (.tmp 18), 24, none⟩, ⟨some 20, .call { callee := .value (.func 108), args := #[.tmp 19], argTypes := #[24] }, 3, none⟩, ⟨some 21, .binOp .add 3 (.tmp 15) (.tmp 20) 3, 3, none⟩, ⟨some 3, .assign (.tmp 21), 3, none⟩])))
    (.ops [⟨some 22, .binOp .add 3 (.tmp 11) (.const (.int .i64 1)) 3, 3, none⟩, ⟨some 11, .move (.tmp 22), 3, none⟩])))))))
    (.seq (.ops [⟨some 23, .move (.tmp 3), 3, none⟩, ⟨some 2, .assign (.tmp 23), 3, none⟩])
    .ret))))
def pl67 : Nat → Plan := fun _ => .done
theorem st67 : Go.Proofs.Tryz.f67.body.map (strip pl67) = some m67 := by kernel_rfl
theorem ok67 : okB pl67 Go.Proofs.Tryz.f67 1 = true := by kernel_rfl
theorem en67 {v0 w} {Q : Value → World → Prop} (h : mwpB Go.Proofs.Tryz.prog m67 (argEnv [v0]) [] w (fun e ds w => ds = [] ∧ resW Go.Proofs.Tryz.prog [.tmp 2] e w fun v => Q v w) (fun _ _ _ _ => False) (fun e ds w => ds = [] ∧ resW Go.Proofs.Tryz.prog [.tmp 2] e w fun v => Q v w) (fun _ _ _ => False) ⟨⟩) : Rets Go.Proofs.Tryz.prog 67 #[v0] w Q :=
  rets_of_mwp follows_mo Go.Proofs.Tryz.func67 pl67 st67 ok67 (by kernel_rfl) h
/-- continuo/continuoref31.late -/
def m68 : MC := (.seq (.ops [⟨some 2, .assign (.const (.int .i64 0)), 3, none⟩])
    (.seq (.ops [⟨some 3, .assign (.const (.int .i64 0)), 3, none⟩])
    (.seq (.seq (.ops [⟨some 4, .assign (.const (.int .i64 0)), 3, none⟩])
    (.block 0 (.loop (.seq (.seq (.ops [⟨some 5, .move (.tmp 4), 3, none⟩, ⟨some 6, .move (.tmp 0), 118, none⟩, ⟨some 7, .call { callee := .builtin .len, args := #[.tmp 6], argTypes := #[118] }, 3, none⟩, ⟨some 8, .binOp .lss 3 (.tmp 5) (.tmp 7) 3, 4, none⟩])
    (.cond (.tmp 8) .skip (.exit 0)))
    (.seq (.block 1 (.ops [⟨some 11, .move (.tmp 3), 3, none⟩, ⟨some 12, .move (.tmp 0), 118, none⟩, ⟨some 13, .move (.tmp 4), 3, none⟩, ⟨some 14, .indexAddr 118 (.tmp 12) (.tmp 13), 0, none⟩, ⟨some 15, .fieldAddr 39 (.tmp 14) 0, 0, none⟩, ⟨some 16, .load 24 (.tmp 15), 24, none⟩, ⟨some 17, .call { callee := .value (.func 109), args := #[.tmp 16], argTypes := #[24] }, 3, none⟩, ⟨some 18, .binOp .add 3 (.tmp 11) (.tmp 17) 3, 3, none⟩, ⟨some 3, .assign (.tmp 18), 3, none⟩]))
    (.ops [⟨some 9, .move (.tmp 4), 3, none⟩, ⟨some 10, .binOp .add 3 (.tmp 9) (.const (.int .i64 1)) 3, 3, none⟩, ⟨some 4, .assign (.tmp 10), 3, none⟩]))))))
    (.seq (.ops [⟨some 19, .move (.tmp 3), 3, none⟩, ⟨some 2, .assign (.tmp 19), 3, none⟩])
    .ret))))
def pl68 : Nat → Plan := fun _ => .done
theorem st68 : Go.Proofs.Tryz.f68.body.map (strip pl68) = some m68 := by kernel_rfl
theorem ok68 : okB pl68 Go.Proofs.Tryz.f68 1 = true := by kernel_rfl
theorem en68 {v0 w} {Q : Value → World → Prop} (h : mwpB Go.Proofs.Tryz.prog m68 (argEnv [v0]) [] w (fun e ds w => ds = [] ∧ resW Go.Proofs.Tryz.prog [.tmp 2] e w fun v => Q v w) (fun _ _ _ _ => False) (fun e ds w => ds = [] ∧ resW Go.Proofs.Tryz.prog [.tmp 2] e w fun v => Q v w) (fun _ _ _ => False) ⟨⟩) : Rets Go.Proofs.Tryz.prog 68 #[v0] w Q :=
  rets_of_mwp follows_mo Go.Proofs.Tryz.func68 pl68 st68 ok68 (by kernel_rfl) h
/-- (*continuo/effect.Parts).parts -/
def m69 : MC := (.seq (.ops [⟨some 1, .box 71 (.tmp 0), 0, none⟩, ⟨some 2, .assign (.const .nilFunc), 129, none⟩])
    (.seq (.ops [⟨some 3, .makeFunc (.func 110) #[] #[.tmp 1], 128, none⟩, ⟨some 2, .assign (.tmp 3), 129, none⟩])
    .ret))
def pl69 : Nat → Plan := fun _ => .done
theorem st69 : Go.Proofs.Tryz.f69.body.map (strip pl69) = some m69 := by kernel_rfl
theorem ok69 : okB pl69 Go.Proofs.Tryz.f69 1 = true := by kernel_rfl
theorem en69 {v0 w} {Q : Value → World → Prop} (h : mwpB Go.Proofs.Tryz.prog m69 (argEnv [v0]) [] w (fun e ds w => ds = [] ∧ resW Go.Proofs.Tryz.prog [.tmp 2] e w fun v => Q v w) (fun _ _ _ _ => False) (fun e ds w => ds = [] ∧ resW Go.Proofs.Tryz.prog [.tmp 2] e w fun v => Q v w) (fun _ _ _ => False) ⟨⟩) : Rets Go.Proofs.Tryz.prog 69 #[v0] w Q :=
  rets_of_mwp follows_mo Go.Proofs.Tryz.func69 pl69 st69 ok69 (by kernel_rfl) h
/-- continuo/effect.rounded -/
def m70 : MC := (.seq (.ops [⟨some 2, .assign (.const (.int .i64 0)), 3, none⟩])
    (.seq (.seq (.ops [⟨some 3, .move (.tmp 0), 3, none⟩, ⟨some 4, .binOp .lss 3 (.tmp 3) (.const (.int .i64 0)) 3, 4, none⟩])
    (.cond (.tmp 4) (.seq (.ops [⟨some 5, .move (.tmp 0), 3, none⟩, ⟨some 6, .unOp .neg 3 (.tmp 5), 3, none⟩, ⟨some 7, .binOp .add 3 (.tmp 6) (.const (.int .i64 32768)) 3, 3, none⟩, ⟨some 8, .binOp .quo 3 (.tmp 7) (.const (.int .i64 65536)) 3, 3, none⟩, ⟨some 9, .unOp .neg 3 (.tmp 8), 3, none⟩, ⟨some 2, .assign (.tmp 9), 3, none⟩])
    .ret) .skip))
    (.seq (.ops [⟨some 10, .move (.tmp 0), 3, none⟩, ⟨some 11, .binOp .add 3 (.tmp 10) (.const (.int .i64 32768)) 3, 3, none⟩, ⟨some 12, .binOp .quo 3 (.tmp 11) (.const (.int .i64 65536)) 3, 3, none⟩, ⟨some 2, .assign (.tmp 12), 3, none⟩])
    .ret)))
def pl70 : Nat → Plan := fun _ => .done
theorem st70 : Go.Proofs.Tryz.f70.body.map (strip pl70) = some m70 := by kernel_rfl
theorem ok70 : okB pl70 Go.Proofs.Tryz.f70 1 = true := by kernel_rfl
theorem en70 {v0 w} {Q : Value → World → Prop} (h : mwpB Go.Proofs.Tryz.prog m70 (argEnv [v0]) [] w (fun e ds w => ds = [] ∧ resW Go.Proofs.Tryz.prog [.tmp 2] e w fun v => Q v w) (fun _ _ _ _ => False) (fun e ds w => ds = [] ∧ resW Go.Proofs.Tryz.prog [.tmp 2] e w fun v => Q v w) (fun _ _ _ => False) ⟨⟩) : Rets Go.Proofs.Tryz.prog 70 #[v0] w Q :=
  rets_of_mwp follows_mo Go.Proofs.Tryz.func70 pl70 st70 ok70 (by kernel_rfl) h
/-- continuo/effect.taps -/
def m71 : MC := (.seq (.ops [⟨some 2, .assign (.const (.bool false)), 4, none⟩])
    (.seq (.ops [⟨some 3, .move (.tmp 0), 22, none⟩, ⟨some 4, .call { callee := .builtin .len, args := #[.tmp 3], argTypes := #[22] }, 3, none⟩, ⟨some 5, .call { callee := .value (.func 53), args := #[.tmp 4, .const (.int .i64 1), .const (.int .i64 512)], argTypes := #[3, 3, 3] }, 4, none⟩, ⟨some 6, .move (.tmp 5), 4, none⟩, ⟨some 7, .move (.tmp 0), 22, some (some 6, true)⟩, ⟨some 8, .call { callee := .value (.func 76), args := #[.tmp 7, .func 111], argTypes := #[22, 138] }, 4, some (some 6, true)⟩, ⟨some 9, .unOp .not 4 (.tmp 8), 4, some (some 6, true)⟩, ⟨some 10, .pick (.tmp 6) (.tmp 9) (.const (.bool false)), 4, none⟩, ⟨some 2, .assign (.tmp 10), 4, none⟩])
    .ret))
def pl71 : Nat → Plan := fun _ => .done
theorem st71 : Go.Proofs.Tryz.f71.body.map (strip pl71) = some m71 := by kernel_rfl
theorem ok71 : okB pl71 Go.Proofs.Tryz.f71 1 = true := by kernel_rfl
theorem en71 {v0 w} {Q : Value → World → Prop} (h : mwpB Go.Proofs.Tryz.prog m71 (argEnv [v0]) [] w (fun e ds w => ds = [] ∧ resW Go.Proofs.Tryz.prog [.tmp 2] e w fun v => Q v w) (fun _ _ _ _ => False) (fun e ds w => ds = [] ∧ resW Go.Proofs.Tryz.prog [.tmp 2] e w fun v => Q v w) (fun _ _ _ => False) ⟨⟩) : Rets Go.Proofs.Tryz.prog 71 #[v0] w Q :=
  rets_of_mwp follows_mo Go.Proofs.Tryz.func71 pl71 st71 ok71 (by kernel_rfl) h
/-- slices.EqualFunc[[]int,[][2]int,int,[2]int] -/
def m72 : MC := (.seq (.ops [⟨some 6, .assign (.const (.bool false)), 4, none⟩])
    (.seq (.seq (.ops [⟨some 10, .move (.tmp 0), 22, none⟩, ⟨some 11, .call { callee := .builtin .len, args := #[.tmp 10], argTypes := #[22] }, 3, none⟩, ⟨some 12, .move (.tmp 1), 132, none⟩, ⟨some 13, .call { callee := .builtin .len, args := #[.tmp 12], argTypes := #[132] }, 3, none⟩, ⟨some 14, .binOp .neq 3 (.tmp 11) (.tmp 13) 3, 4, none⟩])
    (.cond (.tmp 14) (.seq (.ops [⟨some 6, .assign (.const (.bool false)), 4, none⟩])
    .ret) .skip))
    (.seq (.seq (.ops [⟨some 15, .move (.tmp 0), 22, none⟩, ⟨some 16, .call { callee := .builtin .len, args := #[.tmp 15], argTypes := #[22] }, 3, none⟩, ⟨some 17, .move (.const (.int .i64 0)), 3, none⟩])
    (.block 0 (.loop (.seq (.ops [⟨some 18, .binOp .lss 3 (.tmp 17) (.tmp 16) 3, 0, none⟩])
    (.seq (.cond (.tmp 18) .skip (.exit 0))
    (.seq (.block 1 (.seq (.ops [⟨some 19, .move (.tmp 17), 3, none⟩, ⟨some 20, .indexAddr 22 (.tmp 15) (.tmp 17), 0, none⟩, ⟨some 21, .load 3 (.tmp 20), 3, none⟩, ⟨some 7, .assign (.tmp 19), 3, none⟩, ⟨some 8, .assign (.tmp 21), 3, none⟩])
    (.seq (.ops [⟨some 22, .move (.tmp 1), 132, none⟩, ⟨some 23, .move (.tmp 7), 3, none⟩, ⟨some 24, .indexAddr 132 (.tmp 22) (.tmp 23), 0, none⟩, ⟨some 25, .load 133 (.tmp 24), 133, none⟩, ⟨some 9, .alloc 133, 0, none⟩, ⟨none, .store 133 (.tmp 9) (.tmp 25), 0, none⟩])
    (.seq (.ops [⟨some 26, .move (.tmp 2), 135, none⟩, ⟨some 27, .move (.tmp 8), 3, none⟩, ⟨some 28, .load 133 (.tmp 9), 133, none⟩, ⟨some 29, .call { callee := .value (.tmp 26), args := #[.tmp 27, .tmp 28], argTypes := #[3, 133] }, 4, none⟩, ⟨some 30, .unOp .not 4 (.tmp 29), 4, none⟩])
    (.cond (.tmp 30) (.seq (.ops [⟨some 6, .assign (.const (.bool false)), 4, none⟩])
    .ret) .skip)))))
    (.ops [⟨some 31, .binOp .add 3 (.tmp 17) (.const (.int .i64 1)) 3, 3, none⟩, ⟨some 17, .move (.tmp 31), 3, none⟩])))))))
    (.seq (.ops [⟨some 6, .assign (.const (.bool true)), 4, none⟩])
    .ret))))
def pl72 : Nat → Plan := fun _ => .done
theorem st72 : Go.Proofs.Tryz.f72.body.map (strip pl72) = some m72 := by kernel_rfl
theorem ok72 : okB pl72 Go.Proofs.Tryz.f72 3 = true := by kernel_rfl
theorem en72 {v0 v1 v2 w} {Q : Value → World → Prop} (h : mwpB Go.Proofs.Tryz.prog m72 (argEnv [v0, v1, v2]) [] w (fun e ds w => ds = [] ∧ resW Go.Proofs.Tryz.prog [.tmp 6] e w fun v => Q v w) (fun _ _ _ _ => False) (fun e ds w => ds = [] ∧ resW Go.Proofs.Tryz.prog [.tmp 6] e w fun v => Q v w) (fun _ _ _ => False) ⟨⟩) : Rets Go.Proofs.Tryz.prog 72 #[v0, v1, v2] w Q :=
  rets_of_mwp follows_mo Go.Proofs.Tryz.func72 pl72 st72 ok72 (by kernel_rfl) h
/-- continuo/effect.ranges -/
def m73 : MC := (.seq (.ops [⟨some 2, .assign (.const (.slice none 0 0)), 132, none⟩])
    (.seq (.ops [⟨some 4, .build 133 #[(0, .const (.int .i64 0)), (1, .const (.int .i64 8388607))], 133, none⟩, ⟨some 5, .build 133 #[(0, .const (.int .i64 65536)), (1, .const (.int .i64 6553600))], 133, none⟩, ⟨some 6, .build 133 #[(0, .const (.int .i64 1)), (1, .const (.int .i64 65536))], 133, none⟩, ⟨some 7, .build 133 #[(0, .const (.int .i64 1)), (1, .const (.int .i64 65536))], 133, none⟩, ⟨some 8, .buildSlice 132 4 #[(0, .tmp 4), (1, .tmp 5), (2, .tmp 6), (3, .tmp 7)], 132, none⟩, ⟨some 3, .assign (.tmp 8), 132, none⟩])
    (.seq (.ops [⟨some 9, .build 133 #[(0, .const (.int .i64 0)), (1, .const (.int .i64 655360))], 133, none⟩, ⟨some 10, .buildSlice 132 1 #[(0, .tmp 9)], 132, none⟩, ⟨some 11, .build 133 #[(0, .const (.int .i64 0)), (1, .const (.int .i64 4096))], 133, none⟩, ⟨some 12, .buildSlice 132 1 #[(0, .tmp 11)], 132, none⟩, ⟨some 13, .build 133 #[(0, .const (.int .i64 1)), (1, .const (.int .i64 4096))], 133, none⟩, ⟨some 14, .build 133 #[(0, .const (.int .i64 (-65536))), (1, .const (.int .i64 65536))], 133, none⟩, ⟨some 15, .buildSlice 132 2 #[(0, .tmp 13), (1, .tmp 14)], 132, none⟩, ⟨some 16, .move (.tmp 3), 132, none⟩, ⟨some 17, .build 133 #[(0, .const (.int .i64 0)), (1, .const (.int .i64 8388607))], 133, none⟩, ⟨some 18, .build 133 #[(0, .const (.int .i64 0)), (1, .const (.int .i64 4096))], 133, none⟩, ⟨some 19, .buildSlice 132 2 #[(0, .tmp 17), (1, .tmp 18)], 132, none⟩, ⟨some 20, .move (.tmp 3), 132, none⟩, ⟨some 21, .call { callee := .value (.func 112), args := #[.tmp 20], argTypes := #[132] }, 132, none⟩, ⟨some 22, .build 133 #[(0, .const (.int .i64 0)), (1, .const (.int .i64 512))], 133, none⟩, ⟨some 23, .buildSlice 132 1 #[(0, .tmp 22)], 132, none⟩, ⟨some 24, .call { callee := .builtin .append, args := #[.tmp 21, .tmp 23], argTypes := #[132, 132] }, 132, none⟩, ⟨some 25, .build 174 #[(1, .tmp 10), (2, .tmp 12), (3, .tmp 15), (5, .tmp 16), (6, .tmp 19), (7, .tmp 24)], 174, none⟩, ⟨some 26, .move (.tmp 0), 3, none⟩, ⟨some 27, .index 174 (.tmp 25) (.tmp 26), 132, none⟩, ⟨some 2, .assign (.tmp 27), 132, none⟩])
    .ret)))
def pl73 : Nat → Plan := fun _ => .done
theorem st73 : Go.Proofs.Tryz.f73.body.map (strip pl73) = some m73 := by kernel_rfl
theorem ok73 : okB pl73 Go.Proofs.Tryz.f73 1 = true := by kernel_rfl
theorem en73 {v0 w} {Q : Value → World → Prop} (h : mwpB Go.Proofs.Tryz.prog m73 (argEnv [v0]) [] w (fun e ds w => ds = [] ∧ resW Go.Proofs.Tryz.prog [.tmp 2] e w fun v => Q v w) (fun _ _ _ _ => False) (fun e ds w => ds = [] ∧ resW Go.Proofs.Tryz.prog [.tmp 2] e w fun v => Q v w) (fun _ _ _ => False) ⟨⟩) : Rets Go.Proofs.Tryz.prog 73 #[v0] w Q :=
  rets_of_mwp follows_mo Go.Proofs.Tryz.func73 pl73 st73 ok73 (by kernel_rfl) h
/-- continuo/effect.Valid$1 -/
def m74 : MC := (.seq (.ops [⟨some 3, .box 133 (.tmp 1), 0, none⟩, ⟨some 4, .assign (.const (.bool false)), 4, none⟩])
    (.seq (.ops [⟨some 5, .move (.tmp 0), 3, none⟩, ⟨some 6, .indexAddr 133 (.tmp 3) (.const (.int .i64 0)), 0, none⟩, ⟨some 7, .load 3 (.tmp 6), 3, none⟩, ⟨some 8, .indexAddr 133 (.tmp 3) (.const (.int .i64 1)), 0, none⟩, ⟨some 9, .load 3 (.tmp 8), 3, none⟩, ⟨some 10, .call { callee := .value (.func 53), args := #[.tmp 5, .tmp 7, .tmp 9], argTypes := #[3, 3, 3] }, 4, none⟩, ⟨some 4, .assign (.tmp 10), 4, none⟩])
    .ret))
def pl74 : Nat → Plan := fun _ => .done
theorem st74 : Go.Proofs.Tryz.f74.body.map (strip pl74) = some m74 := by kernel_rfl
theorem ok74 : okB pl74 Go.Proofs.Tryz.f74 2 = true := by kernel_rfl
theorem en74 {v0 v1 w} {Q : Value → World → Prop} (h : mwpB Go.Proofs.Tryz.prog m74 (argEnv [v0, v1]) [] w (fun e ds w => ds = [] ∧ resW Go.Proofs.Tryz.prog [.tmp 4] e w fun v => Q v w) (fun _ _ _ _ => False) (fun e ds w => ds = [] ∧ resW Go.Proofs.Tryz.prog [.tmp 4] e w fun v => Q v w) (fun _ _ _ => False) ⟨⟩) : Rets Go.Proofs.Tryz.prog 74 #[v0, v1] w Q :=
  rets_of_mwp follows_mo Go.Proofs.Tryz.func74 pl74 st74 ok74 (by kernel_rfl) h
/-- continuo/effect.own -/
def m75 : MC := (.seq (.ops [⟨some 1, .box 24 (.tmp 0), 0, none⟩, ⟨some 2, .alloc 24, 0, none⟩])
    (.seq (.draw (.take ⟨some 3, .fieldAddr 24 (.tmp 1) 1, 0, none⟩ (.take ⟨some 4, .load 22 (.tmp 3), 22, none⟩ (.take ⟨some 6, .fieldAddr 24 (.tmp 1) 2, 0, none⟩ (.take ⟨some 7, .load 22 (.tmp 6), 22, none⟩ (.alt ⟨some 5, .call { callee := .value (.func 92), args := #[.tmp 4], argTypes := #[22] }, 22, none⟩ (.take ⟨some 9, .fieldAddr 24 (.tmp 1) 1, 0, none⟩ (.alt ⟨some 8, .call { callee := .value (.func 92), args := #[.tmp 7], argTypes := #[22] }, 22, none⟩ (.altL ⟨none, .store 22 (.tmp 9) (.tmp 5), 0, none⟩ (.take ⟨some 10, .fieldAddr 24 (.tmp 1) 2, 0, none⟩ (.altL ⟨none, .store 22 (.tmp 10) (.tmp 8), 0, none⟩ .done .none)) .none) .none)) .none))))))
    (.seq (.ops [⟨some 11, .load 24 (.tmp 1), 24, none⟩, ⟨none, .store 24 (.tmp 2) (.tmp 11), 0, none⟩])
    .ret)))
def pl75 : Nat → Plan := fun id => if id = 1 then (.take 0 (.take 1 (.take 3 (.take 4 (.alt 2 (.take 6 (.alt 5 (.altL 7 (.take 8 (.altL 9 .done .none)) .none) .none)) .none))))) else .done
theorem st75 : Go.Proofs.Tryz.f75.body.map (strip pl75) = some m75 := by kernel_rfl
theorem ok75 : okB pl75 Go.Proofs.Tryz.f75 1 = true := by kernel_rfl
theorem en75 {v0 w} {Q : Value → World → Prop} (h : mwpB Go.Proofs.Tryz.prog m75 (argEnv [v0]) [] w (fun e ds w => ds = [] ∧ resW Go.Proofs.Tryz.prog [.cell 2 24] e w fun v => Q v w) (fun _ _ _ _ => False) (fun e ds w => ds = [] ∧ resW Go.Proofs.Tryz.prog [.cell 2 24] e w fun v => Q v w) (fun _ _ _ => False) ⟨⟩) : Rets Go.Proofs.Tryz.prog 75 #[v0] w Q :=
  rets_of_mwp follows_mo Go.Proofs.Tryz.func75 pl75 st75 ok75 (by kernel_rfl) h
/-- slices.ContainsFunc[[]int,int] -/
def m76 : MC := (.seq (.ops [⟨some 4, .assign (.const (.bool false)), 4, none⟩])
    (.seq (.ops [⟨some 5, .move (.tmp 0), 22, none⟩, ⟨some 6, .move (.tmp 1), 138, none⟩, ⟨some 7, .call { callee := .value (.func 113), args := #[.tmp 5, .tmp 6], argTypes := #[22, 138] }, 3, none⟩, ⟨some 8, .binOp .geq 3 (.tmp 7) (.const (.int .i64 0)) 3, 4, none⟩, ⟨some 4, .assign (.tmp 8), 4, none⟩])
    .ret))
def pl76 : Nat → Plan := fun _ => .done
theorem st76 : Go.Proofs.Tryz.f76.body.map (strip pl76) = some m76 := by kernel_rfl
theorem ok76 : okB pl76 Go.Proofs.Tryz.f76 2 = true := by kernel_rfl
theorem en76 {v0 v1 w} {Q : Value → World → Prop} (h : mwpB Go.Proofs.Tryz.prog m76 (argEnv [v0, v1]) [] w (fun e ds w => ds = [] ∧ resW Go.Proofs.Tryz.prog [.tmp 4] e w fun v => Q v w) (fun _ _ _ _ => False) (fun e ds w => ds = [] ∧ resW Go.Proofs.Tryz.prog [.tmp 4] e w fun v => Q v w) (fun _ _ _ => False) ⟨⟩) : Rets Go.Proofs.Tryz.prog 76 #[v0, v1] w Q :=
  rets_of_mwp follows_mo Go.Proofs.Tryz.func76 pl76 st76 ok76 (by kernel_rfl) h
/-- continuo/effect.samples$1 -/
def m77 : MC := (.seq (.ops [⟨some 2, .assign (.const (.bool false)), 4, none⟩])
    (.seq (.ops [⟨some 3, .move (.tmp 0), 3, none⟩, ⟨some 4, .call { callee := .value (.func 53), args := #[.tmp 3, .const (.int .i64 (-8388607)), .const (.int .i64 8388607)], argTypes := #[3, 3, 3] }, 4, none⟩, ⟨some 5, .unOp .not 4 (.tmp 4), 4, none⟩, ⟨some 2, .assign (.tmp 5), 4, none⟩])
    .ret))
def pl77 : Nat → Plan := fun _ => .done
theorem st77 : Go.Proofs.Tryz.f77.body.map (strip pl77) = some m77 := by kernel_rfl
theorem ok77 : okB pl77 Go.Proofs.Tryz.f77 1 = true := by kernel_rfl
theorem en77 {v0 w} {Q : Value → World → Prop} (h : mwpB Go.Proofs.Tryz.prog m77 (argEnv [v0]) [] w (fun e ds w => ds = [] ∧ resW Go.Proofs.Tryz.prog [.tmp 2] e w fun v => Q v w) (fun _ _ _ _ => False) (fun e ds w => ds = [] ∧ resW Go.Proofs.Tryz.prog [.tmp 2] e w fun v => Q v w) (fun _ _ _ => False) ⟨⟩) : Rets Go.Proofs.Tryz.prog 77 #[v0] w Q :=
  rets_of_mwp follows_mo Go.Proofs.Tryz.func77 pl77 st77 ok77 (by kernel_rfl) h
/-- strings.Split -/
def m78 : MC := (.seq (.ops [⟨some 4, .assign (.const (.slice none 0 0)), 85, none⟩])
    (.seq (.ops [⟨some 5, .move (.tmp 0), 9, none⟩, ⟨some 6, .move (.tmp 1), 9, none⟩, ⟨some 7, .call { callee := .value (.func 114), args := #[.tmp 5, .tmp 6, .const (.int .i64 0), .const (.int .i64 (-1))], argTypes := #[9, 9, 3, 3] }, 85, none⟩, ⟨some 4, .assign (.tmp 7), 85, none⟩])
    .ret))
def pl78 : Nat → Plan := fun _ => .done
theorem st78 : Go.Proofs.Tryz.f78.body.map (strip pl78) = some m78 := by kernel_rfl
theorem ok78 : okB pl78 Go.Proofs.Tryz.f78 2 = true := by kernel_rfl
theorem en78 {v0 v1 w} {Q : Value → World → Prop} (h : mwpB Go.Proofs.Tryz.prog m78 (argEnv [v0, v1]) [] w (fun e ds w => ds = [] ∧ resW Go.Proofs.Tryz.prog [.tmp 4] e w fun v => Q v w) (fun _ _ _ _ => False) (fun e ds w => ds = [] ∧ resW Go.Proofs.Tryz.prog [.tmp 4] e w fun v => Q v w) (fun _ _ _ => False) ⟨⟩) : Rets Go.Proofs.Tryz.prog 78 #[v0, v1] w Q :=
  rets_of_mwp follows_mo Go.Proofs.Tryz.func78 pl78 st78 ok78 (by kernel_rfl) h
/-- continuo/continuoref31.Taps -/
def m79 : MC := (.seq (.ops [⟨some 2, .assign (.const (.bool false)), 4, none⟩])
    (.seq (.seq (.ops [⟨some 3, .assign (.const (.int .i64 0)), 3, none⟩])
    (.block 0 (.loop (.seq (.seq (.ops [⟨some 4, .move (.tmp 3), 3, none⟩, ⟨some 5, .move (.tmp 0), 22, none⟩, ⟨some 6, .call { callee := .builtin .len, args := #[.tmp 5], argTypes := #[22] }, 3, none⟩, ⟨some 7, .binOp .lss 3 (.tmp 4) (.tmp 6) 3, 4, none⟩])
    (.cond (.tmp 7) .skip (.exit 0)))
    (.seq (.block 1 (.seq (.ops [⟨some 10, .move (.tmp 0), 22, none⟩, ⟨some 11, .move (.tmp 3), 3, none⟩, ⟨some 12, .indexAddr 22 (.tmp 10) (.tmp 11), 0, none⟩, ⟨some 13, .load 3 (.tmp 12), 3, none⟩, ⟨some 14, .call { callee := .value (.func 80), args := #[.tmp 13, .const (.int .i64 (-65536)), .const (.int .i64 65536)], argTypes := #[3, 3, 3] }, 4, none⟩, ⟨some 15, .unOp .not 4 (.tmp 14), 4, none⟩])
    (.cond (.tmp 15) (.seq (.ops [⟨some 2, .assign (.const (.bool false)), 4, none⟩])
    .ret) .skip)))
    (.ops [⟨some 8, .move (.tmp 3), 3, none⟩, ⟨some 9, .binOp .add 3 (.tmp 8) (.const (.int .i64 1)) 3, 3, none⟩, ⟨some 3, .assign (.tmp 9), 3, none⟩]))))))
    (.seq (.ops [⟨some 16, .move (.tmp 0), 22, none⟩, ⟨some 17, .call { callee := .builtin .len, args := #[.tmp 16], argTypes := #[22] }, 3, none⟩, ⟨some 18, .call { callee := .value (.func 80), args := #[.tmp 17, .const (.int .i64 1), .const (.int .i64 512)], argTypes := #[3, 3, 3] }, 4, none⟩, ⟨some 2, .assign (.tmp 18), 4, none⟩])
    .ret)))
def pl79 : Nat → Plan := fun _ => .done
theorem st79 : Go.Proofs.Tryz.f79.body.map (strip pl79) = some m79 := by kernel_rfl
theorem ok79 : okB pl79 Go.Proofs.Tryz.f79 1 = true := by kernel_rfl
theorem en79 {v0 w} {Q : Value → World → Prop} (h : mwpB Go.Proofs.Tryz.prog m79 (argEnv [v0]) [] w (fun e ds w => ds = [] ∧ resW Go.Proofs.Tryz.prog [.tmp 2] e w fun v => Q v w) (fun _ _ _ _ => False) (fun e ds w => ds = [] ∧ resW Go.Proofs.Tryz.prog [.tmp 2] e w fun v => Q v w) (fun _ _ _ => False) ⟨⟩) : Rets Go.Proofs.Tryz.prog 79 #[v0] w Q :=
  rets_of_mwp follows_mo Go.Proofs.Tryz.func79 pl79 st79 ok79 (by kernel_rfl) h
/-- continuo/continuoref31.from -/
def m80 : MC := (.seq (.ops [⟨some 6, .assign (.const (.bool false)), 4, none⟩])
    (.seq (.ops [⟨some 7, .move (.tmp 0), 3, none⟩, ⟨some 8, .move (.tmp 1), 3, none⟩, ⟨some 9, .binOp .geq 3 (.tmp 7) (.tmp 8) 3, 4, none⟩, ⟨some 10, .move (.tmp 9), 4, none⟩, ⟨some 11, .move (.tmp 0), 3, some (some 10, true)⟩, ⟨some 12, .move (.tmp 2), 3, some (some 10, true)⟩, ⟨some 13, .binOp .leq 3 (.tmp 11) (.tmp 12) 3, 4, some (some 10, true)⟩, ⟨some 14, .pick (.tmp 10) (.tmp 13) (.const (.bool false)), 4, none⟩, ⟨some 6, .assign (.tmp 14), 4, none⟩])
    .ret))
def pl80 : Nat → Plan := fun _ => .done
theorem st80 : Go.Proofs.Tryz.f80.body.map (strip pl80) = some m80 := by kernel_rfl
theorem ok80 : okB pl80 Go.Proofs.Tryz.f80 3 = true := by kernel_rfl
theorem en80 {v0 v1 v2 w} {Q : Value → World → Prop} (h : mwpB Go.Proofs.Tryz.prog m80 (argEnv [v0, v1, v2]) [] w (fun e ds w => ds = [] ∧ resW Go.Proofs.Tryz.prog [.tmp 6] e w fun v => Q v w) (fun _ _ _ _ => False) (fun e ds w => ds = [] ∧ resW Go.Proofs.Tryz.prog [.tmp 6] e w fun v => Q v w) (fun _ _ _ => False) ⟨⟩) : Rets Go.Proofs.Tryz.prog 80 #[v0, v1, v2] w Q :=
  rets_of_mwp follows_mo Go.Proofs.Tryz.func80 pl80 st80 ok80 (by kernel_rfl) h
/-- continuo/continuoref31.press -/
def m81 : MC := (.seq (.ops [⟨some 2, .assign (.const (.bool false)), 4, none⟩])
    (.seq (.ops [⟨some 3, .move (.tmp 0), 22, none⟩, ⟨some 4, .indexAddr 22 (.tmp 3) (.const (.int .i64 0)), 0, none⟩, ⟨some 5, .load 3 (.tmp 4), 3, none⟩, ⟨some 6, .call { callee := .value (.func 80), args := #[.tmp 5, .const (.int .i64 0), .const (.int .i64 8388607)], argTypes := #[3, 3, 3] }, 4, none⟩, ⟨some 7, .move (.tmp 6), 4, none⟩, ⟨some 8, .move (.tmp 0), 22, some (some 7, true)⟩, ⟨some 9, .indexAddr 22 (.tmp 8) (.const (.int .i64 1)), 0, some (some 7, true)⟩, ⟨some 10, .load 3 (.tmp 9), 3, some (some 7, true)⟩, ⟨some 11, .call { callee := .value (.func 80), args := #[.tmp 10, .const (.int .i64 65536), .const (.int .i64 6553600)], argTypes := #[3, 3, 3] }, 4, some (some 7, true)⟩, ⟨some 12, .pick (.tmp 7) (.tmp 11) (.const (.bool false)), 4, none⟩, ⟨some 13, .move (.tmp 12), 4, none⟩, ⟨some 14, .move (.tmp 0), 22, some (some 13, true)⟩, ⟨some 15, .indexAddr 22 (.tmp 14) (.const (.int .i64 2)), 0, some (some 13, true)⟩, ⟨some 16, .load 3 (.tmp 15), 3, some (some 13, true)⟩, ⟨some 17, .call { callee := .value (.func 80), args := #[.tmp 16, .const (.int .i64 1), .const (.int .i64 65536)], argTypes := #[3, 3, 3] }, 4, some (some 13, true)⟩, ⟨some 18, .pick (.tmp 13) (.tmp 17) (.const (.bool false)), 4, none⟩, ⟨some 19, .move (.tmp 18), 4, none⟩, ⟨some 20, .move (.tmp 0), 22, some (some 19, true)⟩, ⟨some 21, .indexAddr 22 (.tmp 20) (.const (.int .i64 3)), 0, some (some 19, true)⟩, ⟨some 22, .load 3 (.tmp 21), 3, some (some 19, true)⟩, ⟨some 23, .call { callee := .value (.func 80), args := #[.tmp 22, .const (.int .i64 1), .const (.int .i64 65536)], argTypes := #[3, 3, 3] }, 4, some (some 19, true)⟩, ⟨some 24, .pick (.tmp 19) (.tmp 23) (.const (.bool false)), 4, none⟩, ⟨some 2, .assign (.tmp 24), 4, none⟩])
    .ret))
def pl81 : Nat → Plan := fun _ => .done
theorem st81 : Go.Proofs.Tryz.f81.body.map (strip pl81) = some m81 := by kernel_rfl
theorem ok81 : okB pl81 Go.Proofs.Tryz.f81 1 = true := by kernel_rfl
theorem en81 {v0 w} {Q : Value → World → Prop} (h : mwpB Go.Proofs.Tryz.prog m81 (argEnv [v0]) [] w (fun e ds w => ds = [] ∧ resW Go.Proofs.Tryz.prog [.tmp 2] e w fun v => Q v w) (fun _ _ _ _ => False) (fun e ds w => ds = [] ∧ resW Go.Proofs.Tryz.prog [.tmp 2] e w fun v => Q v w) (fun _ _ _ => False) ⟨⟩) : Rets Go.Proofs.Tryz.prog 81 #[v0] w Q :=
  rets_of_mwp follows_mo Go.Proofs.Tryz.func81 pl81 st81 ok81 (by kernel_rfl) h
/-- continuo/continuoref31.Rounded -/
def m82 : MC := (.seq (.ops [⟨some 2, .assign (.const (.int .i64 0)), 3, none⟩])
    (.seq (.seq (.ops [⟨some 3, .move (.tmp 0), 3, none⟩, ⟨some 4, .binOp .lss 3 (.tmp 3) (.const (.int .i64 0)) 3, 4, none⟩])
    (.cond (.tmp 4) (.seq (.ops [⟨some 5, .move (.tmp 0), 3, none⟩, ⟨some 6, .unOp .neg 3 (.tmp 5), 3, none⟩, ⟨some 7, .binOp .mul 3 (.tmp 6) (.const (.int .i64 2)) 3, 3, none⟩, ⟨some 8, .binOp .add 3 (.tmp 7) (.const (.int .i64 65536)) 3, 3, none⟩, ⟨some 9, .binOp .quo 3 (.tmp 8) (.const (.int .i64 131072)) 3, 3, none⟩, ⟨some 10, .unOp .neg 3 (.tmp 9), 3, none⟩, ⟨some 2, .assign (.tmp 10), 3, none⟩])
    .ret) .skip))
    (.seq (.ops [⟨some 11, .move (.tmp 0), 3, none⟩, ⟨some 12, .binOp .mul 3 (.tmp 11) (.const (.int .i64 2)) 3, 3, none⟩, ⟨some 13, .binOp .add 3 (.tmp 12) (.const (.int .i64 65536)) 3, 3, none⟩, ⟨some 14, .binOp .quo 3 (.tmp 13) (.const (.int .i64 131072)) 3, 3, none⟩, ⟨some 2, .assign (.tmp 14), 3, none⟩])
    .ret)))
def pl82 : Nat → Plan := fun _ => .done
theorem st82 : Go.Proofs.Tryz.f82.body.map (strip pl82) = some m82 := by kernel_rfl
theorem ok82 : okB pl82 Go.Proofs.Tryz.f82 1 = true := by kernel_rfl
theorem en82 {v0 w} {Q : Value → World → Prop} (h : mwpB Go.Proofs.Tryz.prog m82 (argEnv [v0]) [] w (fun e ds w => ds = [] ∧ resW Go.Proofs.Tryz.prog [.tmp 2] e w fun v => Q v w) (fun _ _ _ _ => False) (fun e ds w => ds = [] ∧ resW Go.Proofs.Tryz.prog [.tmp 2] e w fun v => Q v w) (fun _ _ _ => False) ⟨⟩) : Rets Go.Proofs.Tryz.prog 82 #[v0] w Q :=
  rets_of_mwp follows_mo Go.Proofs.Tryz.func82 pl82 st82 ok82 (by kernel_rfl) h
/-- continuo/continuoref31.ago -/
def m83 : MC := (.seq (.ops [⟨some 4, .assign (.const (.int .i64 0)), 3, none⟩])
    (.seq (.ops [⟨some 5, .move (.tmp 0), 22, none⟩, ⟨some 6, .move (.tmp 0), 22, none⟩, ⟨some 7, .call { callee := .builtin .len, args := #[.tmp 6], argTypes := #[22] }, 3, none⟩, ⟨some 8, .move (.tmp 1), 3, none⟩, ⟨some 9, .binOp .sub 3 (.tmp 7) (.tmp 8) 3, 3, none⟩, ⟨some 10, .indexAddr 22 (.tmp 5) (.tmp 9), 0, none⟩, ⟨some 11, .load 3 (.tmp 10), 3, none⟩, ⟨some 4, .assign (.tmp 11), 3, none⟩])
    .ret))
def pl83 : Nat → Plan := fun _ => .done
theorem st83 : Go.Proofs.Tryz.f83.body.map (strip pl83) = some m83 := by kernel_rfl
theorem ok83 : okB pl83 Go.Proofs.Tryz.f83 2 = true := by kernel_rfl
theorem en83 {v0 v1 w} {Q : Value → World → Prop} (h : mwpB Go.Proofs.Tryz.prog m83 (argEnv [v0, v1]) [] w (fun e ds w => ds = [] ∧ resW Go.Proofs.Tryz.prog [.tmp 4] e w fun v => Q v w) (fun _ _ _ _ => False) (fun e ds w => ds = [] ∧ resW Go.Proofs.Tryz.prog [.tmp 4] e w fun v => Q v w) (fun _ _ _ => False) ⟨⟩) : Rets Go.Proofs.Tryz.prog 83 #[v0, v1] w Q :=
  rets_of_mwp follows_mo Go.Proofs.Tryz.func83 pl83 st83 ok83 (by kernel_rfl) h
/-- continuo/continuoref31.follow -/
def m84 : MC := (.seq (.ops [⟨some 6, .assign (.const (.int .i64 0)), 3, none⟩])
    (.seq (.seq (.ops [⟨some 7, .move (.tmp 2), 3, none⟩, ⟨some 8, .binOp .lss 3 (.tmp 7) (.const (.int .i64 0)) 3, 4, none⟩])
    (.cond (.tmp 8) (.ops [⟨some 9, .move (.tmp 2), 3, none⟩, ⟨some 10, .unOp .neg 3 (.tmp 9), 3, none⟩, ⟨some 2, .assign (.tmp 10), 3, none⟩]) .skip))
    (.seq (.seq (.ops [⟨some 11, .move (.tmp 2), 3, none⟩, ⟨some 12, .move (.tmp 1), 3, none⟩, ⟨some 13, .binOp .gtr 3 (.tmp 11) (.tmp 12) 3, 4, none⟩])
    (.cond (.tmp 13) (.seq (.ops [⟨some 14, .move (.tmp 1), 3, none⟩, ⟨some 15, .move (.tmp 2), 3, none⟩, ⟨some 16, .move (.tmp 1), 3, none⟩, ⟨some 17, .binOp .sub 3 (.tmp 15) (.tmp 16) 3, 3, none⟩, ⟨some 18, .move (.tmp 0), 22, none⟩, ⟨some 19, .indexAddr 22 (.tmp 18) (.const (.int .i64 2)), 0, none⟩, ⟨some 20, .load 3 (.tmp 19), 3, none⟩, ⟨some 21, .binOp .mul 3 (.tmp 17) (.tmp 20) 3, 3, none⟩, ⟨some 22, .call { callee := .value (.func 82), args := #[.tmp 21], argTypes := #[3] }, 3, none⟩, ⟨some 23, .binOp .add 3 (.tmp 14) (.tmp 22) 3, 3, none⟩, ⟨some 6, .assign (.tmp 23), 3, none⟩])
    .ret) .skip))
    (.seq (.ops [⟨some 24, .move (.tmp 1), 3, none⟩, ⟨some 25, .move (.tmp 2), 3, none⟩, ⟨some 26, .move (.tmp 1), 3, none⟩, ⟨some 27, .binOp .sub 3 (.tmp 25) (.tmp 26) 3, 3, none⟩, ⟨some 28, .move (.tmp 0), 22, none⟩, ⟨some 29, .indexAddr 22 (.tmp 28) (.const (.int .i64 3)), 0, none⟩, ⟨some 30, .load 3 (.tmp 29), 3, none⟩, ⟨some 31, .binOp .mul 3 (.tmp 27) (.tmp 30) 3, 3, none⟩, ⟨some 32, .call { callee := .value (.func 82), args := #[.tmp 31], argTypes := #[3] }, 3, none⟩, ⟨some 33, .binOp .add 3 (.tmp 24) (.tmp 32) 3, 3, none⟩, ⟨some 6, .assign (.tmp 33), 3, none⟩])
    .ret))))
def pl84 : Nat → Plan := fun _ => .done
theorem st84 : Go.Proofs.Tryz.f84.body.map (strip pl84) = some m84 := by kernel_rfl
theorem ok84 : okB pl84 Go.Proofs.Tryz.f84 3 = true := by kernel_rfl
theorem en84 {v0 v1 v2 w} {Q : Value → World → Prop} (h : mwpB Go.Proofs.Tryz.prog m84 (argEnv [v0, v1, v2]) [] w (fun e ds w => ds = [] ∧ resW Go.Proofs.Tryz.prog [.tmp 6] e w fun v => Q v w) (fun _ _ _ _ => False) (fun e ds w => ds = [] ∧ resW Go.Proofs.Tryz.prog [.tmp 6] e w fun v => Q v w) (fun _ _ _ => False) ⟨⟩) : Rets Go.Proofs.Tryz.prog 84 #[v0, v1, v2] w Q :=
  rets_of_mwp follows_mo Go.Proofs.Tryz.func84 pl84 st84 ok84 (by kernel_rfl) h
/-- continuo/continuoref31.gain -/
def m85 : MC := (.seq (.ops [⟨some 4, .assign (.const (.int .i64 0)), 3, none⟩])
    (.seq (.seq (.ops [⟨some 5, .move (.tmp 1), 3, none⟩, ⟨some 6, .move (.tmp 0), 22, none⟩, ⟨some 7, .indexAddr 22 (.tmp 6) (.const (.int .i64 0)), 0, none⟩, ⟨some 8, .load 3 (.tmp 7), 3, none⟩, ⟨some 9, .binOp .leq 3 (.tmp 5) (.tmp 8) 3, 4, none⟩])
    (.cond (.tmp 9) (.seq (.ops [⟨some 4, .assign (.const (.int .i64 65536)), 3, none⟩])
    .ret) .skip))
    (.seq (.draw (.take ⟨some 10, .move (.tmp 0), 22, none⟩ (.take ⟨some 11, .indexAddr 22 (.tmp 10) (.const (.int .i64 0)), 0, none⟩ (.take ⟨some 12, .load 3 (.tmp 11), 3, none⟩ (.take ⟨some 13, .binOp .mul 3 (.tmp 12) (.const (.int .i64 65536)) 3, 3, none⟩ (.take ⟨some 14, .move (.tmp 1), 3, none⟩ (.take ⟨some 15, .move (.tmp 0), 22, none⟩ (.take ⟨some 16, .indexAddr 22 (.tmp 15) (.const (.int .i64 0)), 0, none⟩ (.take ⟨some 17, .load 3 (.tmp 16), 3, none⟩ (.take ⟨some 18, .binOp .sub 3 (.tmp 14) (.tmp 17) 3, 3, none⟩ (.take ⟨some 19, .binOp .mul 3 (.tmp 18) (.const (.int .i64 65536)) 3, 3, none⟩ (.take ⟨some 20, .binOp .mul 3 (.tmp 19) (.const (.int .i64 65536)) 3, 3, none⟩ (.take ⟨some 21, .move (.tmp 0), 22, none⟩ (.take ⟨some 22, .indexAddr 22 (.tmp 21) (.const (.int .i64 1)), 0, none⟩ (.take ⟨some 23, .load 3 (.tmp 22), 3, none⟩ (.take ⟨some 24, .binOp .quo 3 (.tmp 20) (.tmp 23) 3, 3, none⟩ (.take ⟨some 25, .binOp .add 3 (.tmp 13) (.tmp 24) 3, 3, none⟩ (.take ⟨some 26, .move (.tmp 1), 3, none⟩ (.take ⟨some 27, .binOp .quo 3 (.tmp 25) (.tmp 26) 3, 3, none⟩ (.take ⟨some 4, .assign (.tmp 27), 3, none⟩ .done))))))))))))))))))))
    .ret)))
def pl85 : Nat → Plan := fun id => if id = 3 then (.take 0 (.take 1 (.take 2 (.take 3 (.take 4 (.take 5 (.take 6 (.take 7 (.take 8 (.take 9 (.take 10 (.take 11 (.take 12 (.take 13 (.take 14 (.take 15 (.take 16 (.take 17 (.take 18 .done))))))))))))))))))) else .done
theorem st85 : Go.Proofs.Tryz.f85.body.map (strip pl85) = some m85 := by kernel_rfl
theorem ok85 : okB pl85 Go.Proofs.Tryz.f85 2 = true := by kernel_rfl
theorem en85 {v0 v1 w} {Q : Value → World → Prop} (h : mwpB Go.Proofs.Tryz.prog m85 (argEnv [v0, v1]) [] w (fun e ds w => ds = [] ∧ resW Go.Proofs.Tryz.prog [.tmp 4] e w fun v => Q v w) (fun _ _ _ _ => False) (fun e ds w => ds = [] ∧ resW Go.Proofs.Tryz.prog [.tmp 4] e w fun v => Q v w) (fun _ _ _ => False) ⟨⟩) : Rets Go.Proofs.Tryz.prog 85 #[v0, v1] w Q :=
  rets_of_mwp follows_mo Go.Proofs.Tryz.func85 pl85 st85 ok85 (by kernel_rfl) h
/-- continuo/effect.begun$1 -/
def m86 : MC := (.seq (.ops [⟨some 1, .alloc 98, 0, none⟩])
    (.seq (.draw (.take ⟨some 2, .fieldAddr 24 (.tmp 0) 1, 0, none⟩ (.take ⟨some 3, .load 22 (.tmp 2), 22, none⟩ (.take ⟨some 4, .indexAddr 22 (.tmp 3) (.const (.int .i64 0)), 0, none⟩ (.take ⟨some 5, .load 3 (.tmp 4), 3, none⟩ (.take ⟨some 6, .fieldAddr 24 (.tmp 0) 1, 0, none⟩ (.take ⟨some 7, .load 22 (.tmp 6), 22, none⟩ (.take ⟨some 8, .indexAddr 22 (.tmp 7) (.const (.int .i64 1)), 0, none⟩ (.take ⟨some 9, .load 3 (.tmp 8), 3, none⟩ (.take ⟨some 10, .fieldAddr 24 (.tmp 0) 1, 0, none⟩ (.take ⟨some 11, .load 22 (.tmp 10), 22, none⟩ (.take ⟨some 12, .indexAddr 22 (.tmp 11) (.const (.int .i64 2)), 0, none⟩ (.take ⟨some 13, .load 3 (.tmp 12), 3, none⟩ (.take ⟨some 14, .fieldAddr 24 (.tmp 0) 1, 0, none⟩ (.take ⟨some 15, .load 22 (.tmp 14), 22, none⟩ (.take ⟨some 16, .indexAddr 22 (.tmp 15) (.const (.int .i64 3)), 0, none⟩ (.take ⟨some 17, .load 3 (.tmp 16), 3, none⟩ (.take ⟨some 18, .build 98 #[(0, .tmp 5), (1, .tmp 9), (2, .tmp 13), (3, .tmp 17), (4, .const (.int .i64 0))], 98, none⟩ (.altL ⟨none, .store 98 (.tmp 1) (.tmp 18), 0, none⟩ .done .none)))))))))))))))))))
    .ret))
def pl86 : Nat → Plan := fun id => if id = 1 then (.take 0 (.take 1 (.take 2 (.take 3 (.take 4 (.take 5 (.take 6 (.take 7 (.take 8 (.take 9 (.take 10 (.take 11 (.take 12 (.take 13 (.take 14 (.take 15 (.take 16 (.altL 17 .done .none)))))))))))))))))) else .done
theorem st86 : Go.Proofs.Tryz.f86.body.map (strip pl86) = some m86 := by kernel_rfl
theorem ok86 : okB pl86 Go.Proofs.Tryz.f86 1 = true := by kernel_rfl
theorem en86 {v0 w} {Q : Value → World → Prop} (h : mwpB Go.Proofs.Tryz.prog m86 (argEnv [v0]) [] w (fun e ds w => ds = [] ∧ resW Go.Proofs.Tryz.prog [.cell 1 98] e w fun v => Q v w) (fun _ _ _ _ => False) (fun e ds w => ds = [] ∧ resW Go.Proofs.Tryz.prog [.cell 1 98] e w fun v => Q v w) (fun _ _ _ => False) ⟨⟩) : Rets Go.Proofs.Tryz.prog 86 #[v0] w Q :=
  rets_of_mwp follows_mo Go.Proofs.Tryz.func86 pl86 st86 ok86 (by kernel_rfl) h
/-- continuo/effect.begun$2 -/
def m87 : MC := (.seq (.ops [⟨some 1, .assign (.const .nilIface), 78, none⟩])
    (.seq (.ops [⟨some 2, .fieldAddr 24 (.tmp 0) 1, 0, none⟩, ⟨some 3, .load 22 (.tmp 2), 22, none⟩, ⟨some 4, .indexAddr 22 (.tmp 3) (.const (.int .i64 0)), 0, none⟩, ⟨some 5, .load 3 (.tmp 4), 3, none⟩, ⟨some 6, .build 148 #[(0, .tmp 5)], 148, none⟩, ⟨some 7, .box 148 (.tmp 6), 146, none⟩, ⟨some 8, .makeInterface 146 (.tmp 7), 78, none⟩, ⟨some 1, .assign (.tmp 8), 78, none⟩])
    .ret))
def pl87 : Nat → Plan := fun _ => .done
theorem st87 : Go.Proofs.Tryz.f87.body.map (strip pl87) = some m87 := by kernel_rfl
theorem ok87 : okB pl87 Go.Proofs.Tryz.f87 1 = true := by kernel_rfl
theorem en87 {v0 w} {Q : Value → World → Prop} (h : mwpB Go.Proofs.Tryz.prog m87 (argEnv [v0]) [] w (fun e ds w => ds = [] ∧ resW Go.Proofs.Tryz.prog [.tmp 1] e w fun v => Q v w) (fun _ _ _ _ => False) (fun e ds w => ds = [] ∧ resW Go.Proofs.Tryz.prog [.tmp 1] e w fun v => Q v w) (fun _ _ _ => False) ⟨⟩) : Rets Go.Proofs.Tryz.prog 87 #[v0] w Q :=
  rets_of_mwp follows_mo Go.Proofs.Tryz.func87 pl87 st87 ok87 (by kernel_rfl) h
/-- continuo/effect.begun$3 -/
def m88 : MC := (.seq (.ops [⟨some 1, .assign (.const .nilIface), 78, none⟩])
    (.seq (.ops [⟨some 2, .fieldAddr 24 (.tmp 0) 1, 0, none⟩, ⟨some 3, .load 22 (.tmp 2), 22, none⟩, ⟨some 4, .indexAddr 22 (.tmp 3) (.const (.int .i64 0)), 0, none⟩, ⟨some 5, .load 3 (.tmp 4), 3, none⟩, ⟨some 6, .call { callee := .value (.func 89), args := #[.tmp 5], argTypes := #[3] }, 103, none⟩, ⟨some 7, .build 153 #[(0, .tmp 6)], 153, none⟩, ⟨some 8, .box 153 (.tmp 7), 150, none⟩, ⟨some 9, .makeInterface 150 (.tmp 8), 78, none⟩, ⟨some 1, .assign (.tmp 9), 78, none⟩])
    .ret))
def pl88 : Nat → Plan := fun _ => .done
theorem st88 : Go.Proofs.Tryz.f88.body.map (strip pl88) = some m88 := by kernel_rfl
theorem ok88 : okB pl88 Go.Proofs.Tryz.f88 1 = true := by kernel_rfl
theorem en88 {v0 w} {Q : Value → World → Prop} (h : mwpB Go.Proofs.Tryz.prog m88 (argEnv [v0]) [] w (fun e ds w => ds = [] ∧ resW Go.Proofs.Tryz.prog [.tmp 1] e w fun v => Q v w) (fun _ _ _ _ => False) (fun e ds w => ds = [] ∧ resW Go.Proofs.Tryz.prog [.tmp 1] e w fun v => Q v w) (fun _ _ _ => False) ⟨⟩) : Rets Go.Proofs.Tryz.prog 88 #[v0] w Q :=
  rets_of_mwp follows_mo Go.Proofs.Tryz.func88 pl88 st88 ok88 (by kernel_rfl) h
/-- continuo/effect.past -/
def m89 : MC := (.seq (.ops [⟨some 2, .alloc 103, 0, none⟩])
    (.seq (.ops [⟨some 3, .move (.tmp 0), 3, none⟩, ⟨some 4, .makeSlice 22 (.tmp 3) (.tmp 3), 22, none⟩, ⟨some 5, .build 103 #[(0, .tmp 4)], 103, none⟩, ⟨none, .store 103 (.tmp 2) (.tmp 5), 0, none⟩])
    .ret))
def pl89 : Nat → Plan := fun _ => .done
theorem st89 : Go.Proofs.Tryz.f89.body.map (strip pl89) = some m89 := by kernel_rfl
theorem ok89 : okB pl89 Go.Proofs.Tryz.f89 1 = true := by kernel_rfl
theorem en89 {v0 w} {Q : Value → World → Prop} (h : mwpB Go.Proofs.Tryz.prog m89 (argEnv [v0]) [] w (fun e ds w => ds = [] ∧ resW Go.Proofs.Tryz.prog [.cell 2 103] e w fun v => Q v w) (fun _ _ _ _ => False) (fun e ds w => ds = [] ∧ resW Go.Proofs.Tryz.prog [.cell 2 103] e w fun v => Q v w) (fun _ _ _ => False) ⟨⟩) : Rets Go.Proofs.Tryz.prog 89 #[v0] w Q :=
  rets_of_mwp follows_mo Go.Proofs.Tryz.func89 pl89 st89 ok89 (by kernel_rfl) h
/-- continuo/effect.begun$4 -/
def m90 : MC := (.seq (.ops [⟨some 1, .assign (.const .nilIface), 78, none⟩])
    (.seq (.draw (.take ⟨some 2, .fieldAddr 24 (.tmp 0) 1, 0, none⟩ (.take ⟨some 3, .load 22 (.tmp 2), 22, none⟩ (.take ⟨some 4, .indexAddr 22 (.tmp 3) (.const (.int .i64 0)), 0, none⟩ (.take ⟨some 5, .load 3 (.tmp 4), 3, none⟩ (.take ⟨some 7, .fieldAddr 24 (.tmp 0) 1, 0, none⟩ (.take ⟨some 8, .load 22 (.tmp 7), 22, none⟩ (.take ⟨some 9, .indexAddr 22 (.tmp 8) (.const (.int .i64 1)), 0, none⟩ (.take ⟨some 10, .load 3 (.tmp 9), 3, none⟩ (.alt ⟨some 6, .call { callee := .value (.func 89), args := #[.tmp 5], argTypes := #[3] }, 103, none⟩ (.take ⟨some 11, .build 156 #[(0, .tmp 6), (1, .tmp 10)], 156, none⟩ (.alt ⟨some 12, .box 156 (.tmp 11), 154, none⟩ (.take ⟨some 13, .makeInterface 154 (.tmp 12), 78, none⟩ (.take ⟨some 1, .assign (.tmp 13), 78, none⟩ .done)) .none)) .none))))))))))
    .ret))
def pl90 : Nat → Plan := fun id => if id = 1 then (.take 0 (.take 1 (.take 2 (.take 3 (.take 5 (.take 6 (.take 7 (.take 8 (.alt 4 (.take 9 (.alt 10 (.take 11 (.take 12 .done)) .none)) .none))))))))) else .done
theorem st90 : Go.Proofs.Tryz.f90.body.map (strip pl90) = some m90 := by kernel_rfl
theorem ok90 : okB pl90 Go.Proofs.Tryz.f90 1 = true := by kernel_rfl
theorem en90 {v0 w} {Q : Value → World → Prop} (h : mwpB Go.Proofs.Tryz.prog m90 (argEnv [v0]) [] w (fun e ds w => ds = [] ∧ resW Go.Proofs.Tryz.prog [.tmp 1] e w fun v => Q v w) (fun _ _ _ _ => False) (fun e ds w => ds = [] ∧ resW Go.Proofs.Tryz.prog [.tmp 1] e w fun v => Q v w) (fun _ _ _ => False) ⟨⟩) : Rets Go.Proofs.Tryz.prog 90 #[v0] w Q :=
  rets_of_mwp follows_mo Go.Proofs.Tryz.func90 pl90 st90 ok90 (by kernel_rfl) h
/-- continuo/effect.begun$5 -/
def m91 : MC := (.seq (.ops [⟨some 1, .assign (.const .nilIface), 78, none⟩])
    (.seq (.draw (.take ⟨some 2, .fieldAddr 24 (.tmp 0) 2, 0, none⟩ (.take ⟨some 3, .load 22 (.tmp 2), 22, none⟩ (.take ⟨some 4, .call { callee := .builtin .len, args := #[.tmp 3], argTypes := #[22] }, 3, none⟩ (.take ⟨some 5, .binOp .sub 3 (.tmp 4) (.const (.int .i64 1)) 3, 3, none⟩ (.take ⟨some 7, .fieldAddr 24 (.tmp 0) 2, 0, none⟩ (.take ⟨some 8, .load 22 (.tmp 7), 22, none⟩ (.alt ⟨some 6, .call { callee := .value (.func 89), args := #[.tmp 5], argTypes := #[3] }, 103, none⟩ (.alt ⟨some 9, .call { callee := .value (.func 92), args := #[.tmp 8], argTypes := #[22] }, 22, none⟩ (.take ⟨some 10, .build 160 #[(0, .tmp 6), (1, .tmp 9)], 160, none⟩ (.alt ⟨some 11, .box 160 (.tmp 10), 157, none⟩ (.take ⟨some 12, .makeInterface 157 (.tmp 11), 78, none⟩ (.take ⟨some 1, .assign (.tmp 12), 78, none⟩ .done)) .none)) .none) .none))))))))
    .ret))
def pl91 : Nat → Plan := fun id => if id = 1 then (.take 0 (.take 1 (.take 2 (.take 3 (.take 5 (.take 6 (.alt 4 (.alt 7 (.take 8 (.alt 9 (.take 10 (.take 11 .done)) .none)) .none) .none))))))) else .done
theorem st91 : Go.Proofs.Tryz.f91.body.map (strip pl91) = some m91 := by kernel_rfl
theorem ok91 : okB pl91 Go.Proofs.Tryz.f91 1 = true := by kernel_rfl
theorem en91 {v0 w} {Q : Value → World → Prop} (h : mwpB Go.Proofs.Tryz.prog m91 (argEnv [v0]) [] w (fun e ds w => ds = [] ∧ resW Go.Proofs.Tryz.prog [.tmp 1] e w fun v => Q v w) (fun _ _ _ _ => False) (fun e ds w => ds = [] ∧ resW Go.Proofs.Tryz.prog [.tmp 1] e w fun v => Q v w) (fun _ _ _ => False) ⟨⟩) : Rets Go.Proofs.Tryz.prog 91 #[v0] w Q :=
  rets_of_mwp follows_mo Go.Proofs.Tryz.func91 pl91 st91 ok91 (by kernel_rfl) h
/-- slices.Clone[[]int,int] -/
def m92 : MC := (.seq (.ops [⟨some 2, .assign (.const (.slice none 0 0)), 22, none⟩])
    (.seq (.seq (.ops [⟨some 3, .move (.tmp 0), 22, none⟩, ⟨some 4, .binOp .eql 22 (.tmp 3) (.const (.slice none 0 0)) 22, 4, none⟩])
    (.cond (.tmp 4) (.seq (.ops [⟨some 2, .assign (.const (.slice none 0 0)), 22, none⟩])
    .ret) .skip))
    (.seq (.ops [⟨some 5, .buildSlice 22 0 #[], 22, none⟩, ⟨some 6, .move (.tmp 0), 22, none⟩, ⟨some 7, .call { callee := .builtin .append, args := #[.tmp 5, .tmp 6], argTypes := #[22, 22] }, 22, none⟩, ⟨some 2, .assign (.tmp 7), 22, none⟩])
    .ret)))
def pl92 : Nat → Plan := fun _ => .done
theorem st92 : Go.Proofs.Tryz.f92.body.map (strip pl92) = some m92 := by kernel_rfl
theorem ok92 : okB pl92 Go.Proofs.Tryz.f92 1 = true := by kernel_rfl
theorem en92 {v0 w} {Q : Value → World → Prop} (h : mwpB Go.Proofs.Tryz.prog m92 (argEnv [v0]) [] w (fun e ds w => ds = [] ∧ resW Go.Proofs.Tryz.prog [.tmp 2] e w fun v => Q v w) (fun _ _ _ _ => False) (fun e ds w => ds = [] ∧ resW Go.Proofs.Tryz.prog [.tmp 2] e w fun v => Q v w) (fun _ _ _ => False) ⟨⟩) : Rets Go.Proofs.Tryz.prog 92 #[v0] w Q :=
  rets_of_mwp follows_mo Go.Proofs.Tryz.func92 pl92 st92 ok92 (by kernel_rfl) h
/-- continuo/effect.begun$6 -/
def m93 : MC := (.seq (.ops [⟨some 1, .assign (.const .nilIface), 78, none⟩])
    (.seq (.ops [⟨some 2, .load 145 (.tmp 0), 145, none⟩, ⟨some 3, .call { callee := .value (.tmp 2), args := #[], argTypes := #[] }, 98, none⟩, ⟨some 4, .build 100 #[(0, .tmp 3)], 100, none⟩, ⟨some 5, .box 100 (.tmp 4), 96, none⟩, ⟨some 6, .makeInterface 96 (.tmp 5), 78, none⟩, ⟨some 1, .assign (.tmp 6), 78, none⟩])
    .ret))
def pl93 : Nat → Plan := fun _ => .done
theorem st93 : Go.Proofs.Tryz.f93.body.map (strip pl93) = some m93 := by kernel_rfl
theorem ok93 : okB pl93 Go.Proofs.Tryz.f93 1 = true := by kernel_rfl
theorem en93 {v0 w} {Q : Value → World → Prop} (h : mwpB Go.Proofs.Tryz.prog m93 (argEnv [v0]) [] w (fun e ds w => ds = [] ∧ resW Go.Proofs.Tryz.prog [.tmp 1] e w fun v => Q v w) (fun _ _ _ _ => False) (fun e ds w => ds = [] ∧ resW Go.Proofs.Tryz.prog [.tmp 1] e w fun v => Q v w) (fun _ _ _ => False) ⟨⟩) : Rets Go.Proofs.Tryz.prog 93 #[v0] w Q :=
  rets_of_mwp follows_mo Go.Proofs.Tryz.func93 pl93 st93 ok93 (by kernel_rfl) h
/-- continuo/effect.begun$7 -/
def m94 : MC := (.seq (.ops [⟨some 1, .assign (.const .nilIface), 78, none⟩])
    (.seq (.draw (.take ⟨some 2, .fieldAddr 24 (.tmp 0) 1, 0, none⟩ (.take ⟨some 3, .load 22 (.tmp 2), 22, none⟩ (.take ⟨some 4, .indexAddr 22 (.tmp 3) (.const (.int .i64 0)), 0, none⟩ (.take ⟨some 5, .load 3 (.tmp 4), 3, none⟩ (.take ⟨some 6, .fieldAddr 24 (.tmp 0) 1, 0, none⟩ (.take ⟨some 7, .load 22 (.tmp 6), 22, none⟩ (.take ⟨some 8, .indexAddr 22 (.tmp 7) (.const (.int .i64 1)), 0, none⟩ (.take ⟨some 9, .load 3 (.tmp 8), 3, none⟩ (.take ⟨some 10, .build 163 #[(0, .tmp 5), (1, .tmp 9), (2, .const (.int .i64 4097))], 163, none⟩ (.alt ⟨some 11, .box 163 (.tmp 10), 161, none⟩ (.take ⟨some 12, .makeInterface 161 (.tmp 11), 78, none⟩ (.take ⟨some 1, .assign (.tmp 12), 78, none⟩ .done)) .none)))))))))))
    .ret))
def pl94 : Nat → Plan := fun id => if id = 1 then (.take 0 (.take 1 (.take 2 (.take 3 (.take 4 (.take 5 (.take 6 (.take 7 (.take 8 (.alt 9 (.take 10 (.take 11 .done)) .none)))))))))) else .done
theorem st94 : Go.Proofs.Tryz.f94.body.map (strip pl94) = some m94 := by kernel_rfl
theorem ok94 : okB pl94 Go.Proofs.Tryz.f94 1 = true := by kernel_rfl
theorem en94 {v0 w} {Q : Value → World → Prop} (h : mwpB Go.Proofs.Tryz.prog m94 (argEnv [v0]) [] w (fun e ds w => ds = [] ∧ resW Go.Proofs.Tryz.prog [.tmp 1] e w fun v => Q v w) (fun _ _ _ _ => False) (fun e ds w => ds = [] ∧ resW Go.Proofs.Tryz.prog [.tmp 1] e w fun v => Q v w) (fun _ _ _ => False) ⟨⟩) : Rets Go.Proofs.Tryz.prog 94 #[v0] w Q :=
  rets_of_mwp follows_mo Go.Proofs.Tryz.func94 pl94 st94 ok94 (by kernel_rfl) h
/-- continuo/effect.begun$8 -/
def m95 : MC := (.seq (.ops [⟨some 2, .assign (.const .nilIface), 78, none⟩])
    (.seq (.draw (.take ⟨some 3, .load 145 (.tmp 0), 145, none⟩ (.take ⟨some 5, .fieldAddr 24 (.tmp 1) 1, 0, none⟩ (.take ⟨some 6, .load 22 (.tmp 5), 22, none⟩ (.take ⟨some 7, .indexAddr 22 (.tmp 6) (.const (.int .i64 4)), 0, none⟩ (.take ⟨some 8, .load 3 (.tmp 7), 3, none⟩ (.alt ⟨some 4, .call { callee := .value (.tmp 3), args := #[], argTypes := #[] }, 98, none⟩ (.alt ⟨some 9, .call { callee := .value (.func 89), args := #[.tmp 8], argTypes := #[3] }, 103, none⟩ (.take ⟨some 10, .build 105 #[(0, .tmp 4), (1, .tmp 9)], 105, none⟩ (.alt ⟨some 11, .box 105 (.tmp 10), 101, none⟩ (.take ⟨some 12, .makeInterface 101 (.tmp 11), 78, none⟩ (.take ⟨some 2, .assign (.tmp 12), 78, none⟩ .done)) .none)) .none) .none)))))))
    .ret))
def pl95 : Nat → Plan := fun id => if id = 1 then (.take 0 (.take 2 (.take 3 (.take 4 (.take 5 (.alt 1 (.alt 6 (.take 7 (.alt 8 (.take 9 (.take 10 .done)) .none)) .none) .none)))))) else .done
theorem st95 : Go.Proofs.Tryz.f95.body.map (strip pl95) = some m95 := by kernel_rfl
theorem ok95 : okB pl95 Go.Proofs.Tryz.f95 2 = true := by kernel_rfl
theorem en95 {v0 v1 w} {Q : Value → World → Prop} (h : mwpB Go.Proofs.Tryz.prog m95 (argEnv [v0, v1]) [] w (fun e ds w => ds = [] ∧ resW Go.Proofs.Tryz.prog [.tmp 2] e w fun v => Q v w) (fun _ _ _ _ => False) (fun e ds w => ds = [] ∧ resW Go.Proofs.Tryz.prog [.tmp 2] e w fun v => Q v w) (fun _ _ _ => False) ⟨⟩) : Rets Go.Proofs.Tryz.prog 95 #[v0, v1] w Q :=
  rets_of_mwp follows_mo Go.Proofs.Tryz.func95 pl95 st95 ok95 (by kernel_rfl) h
/-- slices.IndexFunc[[][]continuo/api.Effect,[]continuo/api.Effect] -/
def m96 : MC := (.seq (.ops [⟨some 4, .assign (.const (.int .i64 0)), 3, none⟩])
    (.seq (.seq (.ops [⟨some 6, .move (.tmp 0), 47, none⟩, ⟨some 7, .call { callee := .builtin .len, args := #[.tmp 6], argTypes := #[47] }, 3, none⟩, ⟨some 8, .move (.const (.int .i64 0)), 3, none⟩])
    (.block 0 (.loop (.seq (.ops [⟨some 9, .binOp .lss 3 (.tmp 8) (.tmp 7) 3, 0, none⟩])
    (.seq (.cond (.tmp 9) .skip (.exit 0))
    (.seq (.block 1 (.seq (.ops [⟨some 10, .move (.tmp 8), 3, none⟩, ⟨some 5, .assign (.tmp 10), 3, none⟩])
    (.seq (.ops [⟨some 11, .move (.tmp 1), 109, none⟩, ⟨some 12, .move (.tmp 0), 47, none⟩, ⟨some 13, .move (.tmp 5), 3, none⟩, ⟨some 14, .indexAddr 47 (.tmp 12) (.tmp 13), 0, none⟩, ⟨some 15, .load 59 (.tmp 14), 59, none⟩, ⟨some 16, .call { callee := .value (.tmp 11), args := #[.tmp 15], argTypes := #[59] }, 4, none⟩])
    (.cond (.tmp 16) (.seq (.ops [⟨some 17, .move (.tmp 5), 3, none⟩, ⟨some 4, .assign (.tmp 17), 3, none⟩])
    .ret) .skip))))
    (.ops [⟨some 18, .binOp .add 3 (.tmp 8) (.const (.int .i64 1)) 3, 3, none⟩, ⟨some 8, .move (.tmp 18), 3, none⟩])))))))
    (.seq (.ops [⟨some 4, .assign (.const (.int .i64 (-1))), 3, none⟩])
    .ret)))
def pl96 : Nat → Plan := fun _ => .done
theorem st96 : Go.Proofs.Tryz.f96.body.map (strip pl96) = some m96 := by kernel_rfl
theorem ok96 : okB pl96 Go.Proofs.Tryz.f96 2 = true := by kernel_rfl
theorem en96 {v0 v1 w} {Q : Value → World → Prop} (h : mwpB Go.Proofs.Tryz.prog m96 (argEnv [v0, v1]) [] w (fun e ds w => ds = [] ∧ resW Go.Proofs.Tryz.prog [.tmp 4] e w fun v => Q v w) (fun _ _ _ _ => False) (fun e ds w => ds = [] ∧ resW Go.Proofs.Tryz.prog [.tmp 4] e w fun v => Q v w) (fun _ _ _ => False) ⟨⟩) : Rets Go.Proofs.Tryz.prog 96 #[v0, v1] w Q :=
  rets_of_mwp follows_mo Go.Proofs.Tryz.func96 pl96 st96 ok96 (by kernel_rfl) h
/-- slices.IndexFunc[[]continuo/api.Effect,continuo/api.Effect] -/
def m97 : MC := (.seq (.ops [⟨some 4, .assign (.const (.int .i64 0)), 3, none⟩])
    (.seq (.seq (.ops [⟨some 6, .move (.tmp 0), 59, none⟩, ⟨some 7, .call { callee := .builtin .len, args := #[.tmp 6], argTypes := #[59] }, 3, none⟩, ⟨some 8, .move (.const (.int .i64 0)), 3, none⟩])
    (.block 0 (.loop (.seq (.ops [⟨some 9, .binOp .lss 3 (.tmp 8) (.tmp 7) 3, 0, none⟩])
    (.seq (.cond (.tmp 9) .skip (.exit 0))
    (.seq (.block 1 (.seq (.ops [⟨some 10, .move (.tmp 8), 3, none⟩, ⟨some 5, .assign (.tmp 10), 3, none⟩])
    (.seq (.ops [⟨some 11, .move (.tmp 1), 73, none⟩, ⟨some 12, .move (.tmp 0), 59, none⟩, ⟨some 13, .move (.tmp 5), 3, none⟩, ⟨some 14, .indexAddr 59 (.tmp 12) (.tmp 13), 0, none⟩, ⟨some 15, .load 24 (.tmp 14), 24, none⟩, ⟨some 16, .call { callee := .value (.tmp 11), args := #[.tmp 15], argTypes := #[24] }, 4, none⟩])
    (.cond (.tmp 16) (.seq (.ops [⟨some 17, .move (.tmp 5), 3, none⟩, ⟨some 4, .assign (.tmp 17), 3, none⟩])
    .ret) .skip))))
    (.ops [⟨some 18, .binOp .add 3 (.tmp 8) (.const (.int .i64 1)) 3, 3, none⟩, ⟨some 8, .move (.tmp 18), 3, none⟩])))))))
    (.seq (.ops [⟨some 4, .assign (.const (.int .i64 (-1))), 3, none⟩])
    .ret)))
def pl97 : Nat → Plan := fun _ => .done
theorem st97 : Go.Proofs.Tryz.f97.body.map (strip pl97) = some m97 := by kernel_rfl
theorem ok97 : okB pl97 Go.Proofs.Tryz.f97 2 = true := by kernel_rfl
theorem en97 {v0 v1 w} {Q : Value → World → Prop} (h : mwpB Go.Proofs.Tryz.prog m97 (argEnv [v0, v1]) [] w (fun e ds w => ds = [] ∧ resW Go.Proofs.Tryz.prog [.tmp 4] e w fun v => Q v w) (fun _ _ _ _ => False) (fun e ds w => ds = [] ∧ resW Go.Proofs.Tryz.prog [.tmp 4] e w fun v => Q v w) (fun _ _ _ => False) ⟨⟩) : Rets Go.Proofs.Tryz.prog 97 #[v0, v1] w Q :=
  rets_of_mwp follows_mo Go.Proofs.Tryz.func97 pl97 st97 ok97 (by kernel_rfl) h
/-- (*continuo/effect.lane).later -/
def m98 : MC := (.seq (.seq (.ops [⟨some 5, .move (.tmp 1), 3, none⟩, ⟨some 6, .move (.tmp 0), 114, none⟩, ⟨some 7, .nilCheck (.tmp 6), 0, none⟩, ⟨some 8, .fieldAddr 117 (.tmp 7) 0, 0, none⟩, ⟨some 9, .fieldAddr 103 (.tmp 8) 0, 0, none⟩, ⟨some 10, .load 22 (.tmp 9), 22, none⟩, ⟨some 11, .call { callee := .builtin .len, args := #[.tmp 10], argTypes := #[22] }, 3, none⟩, ⟨some 12, .binOp .eql 3 (.tmp 5) (.tmp 11) 3, 4, none⟩])
    (.cond (.tmp 12) .ret .skip))
    (.seq (.ops [⟨some 13, .move (.tmp 0), 114, none⟩, ⟨some 14, .nilCheck (.tmp 13), 0, none⟩, ⟨some 15, .fieldAddr 117 (.tmp 14) 0, 0, none⟩, ⟨some 16, .call { callee := .value (.func 65), args := #[.tmp 15], argTypes := #[103] }, 22, none⟩, ⟨some 4, .assign (.tmp 16), 22, none⟩])
    (.seq (.ops [⟨some 17, .move (.tmp 0), 114, none⟩, ⟨some 18, .move (.tmp 1), 3, none⟩, ⟨some 19, .call { callee := .value (.func 89), args := #[.tmp 18], argTypes := #[3] }, 103, none⟩, ⟨some 20, .nilCheck (.tmp 17), 0, none⟩, ⟨some 21, .fieldAddr 117 (.tmp 20) 0, 0, none⟩, ⟨none, .store 103 (.tmp 21) (.tmp 19), 0, none⟩])
    (.ops [⟨some 22, .move (.tmp 0), 114, none⟩, ⟨some 23, .nilCheck (.tmp 22), 0, none⟩, ⟨some 24, .fieldAddr 117 (.tmp 23) 0, 0, none⟩, ⟨some 25, .move (.tmp 4), 22, none⟩, ⟨some 26, .call { callee := .value (.func 63), args := #[.tmp 24, .tmp 25], argTypes := #[103, 22] }, 0, none⟩]))))
def pl98 : Nat → Plan := fun _ => .done
theorem st98 : Go.Proofs.Tryz.f98.body.map (strip pl98) = some m98 := by kernel_rfl
theorem ok98 : okB pl98 Go.Proofs.Tryz.f98 2 = true := by kernel_rfl
theorem en98 {v0 v1 w} {Q : Value → World → Prop} (h : mwpB Go.Proofs.Tryz.prog m98 (argEnv [v0, v1]) [] w (fun e ds w => ds = [] ∧ resW Go.Proofs.Tryz.prog [] e w fun v => Q v w) (fun _ _ _ _ => False) (fun e ds w => ds = [] ∧ resW Go.Proofs.Tryz.prog [] e w fun v => Q v w) (fun _ _ _ => False) ⟨⟩) : Rets Go.Proofs.Tryz.prog 98 #[v0, v1] w Q :=
  rets_of_mwp follows_mo Go.Proofs.Tryz.func98 pl98 st98 ok98 (by kernel_rfl) h
/-- continuo/continuoref31.resized -/
def m99 : MC := (.seq (.ops [⟨some 4, .assign (.const (.slice none 0 0)), 22, none⟩])
    (.seq (.ops [⟨some 7, .move (.tmp 1), 3, none⟩, ⟨some 8, .makeSlice 22 (.tmp 7) (.tmp 7), 22, none⟩, ⟨some 5, .assign (.tmp 8), 22, none⟩])
    (.seq (.seq (.ops [⟨some 6, .assign (.const (.int .i64 1)), 3, none⟩])
    (.block 0 (.loop (.seq (.seq (.ops [⟨some 9, .move (.tmp 6), 3, none⟩, ⟨some 10, .move (.tmp 1), 3, none⟩, ⟨some 11, .binOp .leq 3 (.tmp 9) (.tmp 10) 3, 4, none⟩, ⟨some 12, .move (.tmp 11), 4, none⟩, ⟨some 13, .move (.tmp 6), 3, some (some 12, true)⟩, ⟨some 14, .move (.tmp 0), 22, some (some 12, true)⟩, ⟨some 15, .call { callee := .builtin .len, args := #[.tmp 14], argTypes := #[22] }, 3, some (some 12, true)⟩, ⟨some 16, .binOp .leq 3 (.tmp 13) (.tmp 15) 3, 4, some (some 12, true)⟩, ⟨some 17, .pick (.tmp 12) (.tmp 16) (.const (.bool false)), 4, none⟩])
    (.cond (.tmp 17) .skip (.exit 0)))
    (.seq (.block 1 (.ops [⟨some 20, .move (.tmp 5), 22, none⟩, ⟨some 21, .move (.tmp 1), 3, none⟩, ⟨some 22, .move (.tmp 6), 3, none⟩, ⟨some 23, .binOp .sub 3 (.tmp 21) (.tmp 22) 3, 3, none⟩, ⟨some 24, .move (.tmp 0), 22, none⟩, ⟨some 25, .move (.tmp 0), 22, none⟩, ⟨some 26, .call { callee := .builtin .len, args := #[.tmp 25], argTypes := #[22] }, 3, none⟩, ⟨some 27, .move (.tmp 6), 3, none⟩, ⟨some 28, .binOp .sub 3 (.tmp 26) (.tmp 27) 3, 3, none⟩, ⟨some 29, .indexAddr 22 (.tmp 24) (.tmp 28), 0, none⟩, ⟨some 30, .load 3 (.tmp 29), 3, none⟩, ⟨some 31, .indexAddr 22 (.tmp 20) (.tmp 23), 0, none⟩, ⟨none, .store 3 (.tmp 31) (.tmp 30), 0, none⟩]))
    (.ops [⟨some 18, .move (.tmp 6), 3, none⟩, ⟨some 19, .binOp .add 3 (.tmp 18) (.const (.int .i64 1)) 3, 3, none⟩, ⟨some 6, .assign (.tmp 19), 3, none⟩]))))))
    (.seq (.ops [⟨some 32, .move (.tmp 5), 22, none⟩, ⟨some 4, .assign (.tmp 32), 22, none⟩])
    .ret))))
def pl99 : Nat → Plan := fun _ => .done
theorem st99 : Go.Proofs.Tryz.f99.body.map (strip pl99) = some m99 := by kernel_rfl
theorem ok99 : okB pl99 Go.Proofs.Tryz.f99 2 = true := by kernel_rfl
theorem en99 {v0 v1 w} {Q : Value → World → Prop} (h : mwpB Go.Proofs.Tryz.prog m99 (argEnv [v0, v1]) [] w (fun e ds w => ds = [] ∧ resW Go.Proofs.Tryz.prog [.tmp 4] e w fun v => Q v w) (fun _ _ _ _ => False) (fun e ds w => ds = [] ∧ resW Go.Proofs.Tryz.prog [.tmp 4] e w fun v => Q v w) (fun _ _ _ => False) ⟨⟩) : Rets Go.Proofs.Tryz.prog 99 #[v0, v1] w Q :=
  rets_of_mwp follows_mo Go.Proofs.Tryz.func99 pl99 st99 ok99 (by kernel_rfl) h
/-- (*continuo/effect.history).ago -/
def m100 : MC := (.seq (.ops [⟨some 4, .assign (.const (.int .i64 0)), 3, none⟩])
    (.seq (.seq (.ops [⟨some 5, .move (.tmp 1), 3, none⟩, ⟨some 6, .move (.tmp 0), 169, none⟩, ⟨some 7, .nilCheck (.tmp 6), 0, none⟩, ⟨some 8, .fieldAddr 103 (.tmp 7) 0, 0, none⟩, ⟨some 9, .load 22 (.tmp 8), 22, none⟩, ⟨some 10, .call { callee := .builtin .len, args := #[.tmp 9], argTypes := #[22] }, 3, none⟩, ⟨some 11, .binOp .gtr 3 (.tmp 5) (.tmp 10) 3, 4, none⟩])
    (.cond (.tmp 11) (.seq (.ops [⟨some 4, .assign (.const (.int .i64 0)), 3, none⟩])
    .ret) .skip))
    (.seq (.draw (.take ⟨some 12, .move (.tmp 0), 169, none⟩ (.take ⟨some 13, .nilCheck (.tmp 12), 0, none⟩ (.take ⟨some 14, .fieldAddr 103 (.tmp 13) 0, 0, none⟩ (.take ⟨some 15, .load 22 (.tmp 14), 22, none⟩ (.take ⟨some 16, .move (.tmp 0), 169, none⟩ (.take ⟨some 17, .nilCheck (.tmp 16), 0, none⟩ (.take ⟨some 18, .fieldAddr 103 (.tmp 17) 1, 0, none⟩ (.take ⟨some 19, .load 3 (.tmp 18), 3, none⟩ (.take ⟨some 20, .move (.tmp 1), 3, none⟩ (.take ⟨some 21, .binOp .add 3 (.tmp 19) (.tmp 20) 3, 3, none⟩ (.take ⟨some 22, .binOp .sub 3 (.tmp 21) (.const (.int .i64 1)) 3, 3, none⟩ (.take ⟨some 23, .move (.tmp 0), 169, none⟩ (.take ⟨some 24, .nilCheck (.tmp 23), 0, none⟩ (.take ⟨some 25, .fieldAddr 103 (.tmp 24) 0, 0, none⟩ (.take ⟨some 26, .load 22 (.tmp 25), 22, none⟩ (.take ⟨some 27, .call { callee := .builtin .len, args := #[.tmp 26], argTypes := #[22] }, 3, none⟩ (.take ⟨some 28, .binOp .rem 3 (.tmp 22) (.tmp 27) 3, 3, none⟩ (.take ⟨some 29, .indexAddr 22 (.tmp 15) (.tmp 28), 0, none⟩ (.take ⟨some 30, .load 3 (.tmp 29), 3, none⟩ (.take ⟨some 4, .assign (.tmp 30), 3, none⟩ .done)))))))))))))))))))))
    .ret)))
def pl100 : Nat → Plan := fun id => if id = 3 then (.take 0 (.take 1 (.take 2 (.take 3 (.take 4 (.take 5 (.take 6 (.take 7 (.take 8 (.take 9 (.take 10 (.take 11 (.take 12 (.take 13 (.take 14 (.take 15 (.take 16 (.take 17 (.take 18 (.take 19 .done)))))))))))))))))))) else .done
theorem st100 : Go.Proofs.Tryz.f100.body.map (strip pl100) = some m100 := by kernel_rfl
theorem ok100 : okB pl100 Go.Proofs.Tryz.f100 2 = true := by kernel_rfl
theorem en100 {v0 v1 w} {Q : Value → World → Prop} (h : mwpB Go.Proofs.Tryz.prog m100 (argEnv [v0, v1]) [] w (fun e ds w => ds = [] ∧ resW Go.Proofs.Tryz.prog [.tmp 4] e w fun v => Q v w) (fun _ _ _ _ => False) (fun e ds w => ds = [] ∧ resW Go.Proofs.Tryz.prog [.tmp 4] e w fun v => Q v w) (fun _ _ _ => False) ⟨⟩) : Rets Go.Proofs.Tryz.prog 100 #[v0, v1] w Q :=
  rets_of_mwp follows_mo Go.Proofs.Tryz.func100 pl100 st100 ok100 (by kernel_rfl) h
/-- (*continuo/effect.history).push -/
def m101 : MC := (.seq (.ops [⟨some 4, .move (.tmp 0), 169, none⟩, ⟨some 5, .nilCheck (.tmp 4), 0, none⟩, ⟨some 6, .fieldAddr 103 (.tmp 5) 0, 0, none⟩, ⟨some 7, .load 22 (.tmp 6), 22, none⟩, ⟨some 8, .call { callee := .builtin .len, args := #[.tmp 7], argTypes := #[22] }, 3, none⟩, ⟨some 9, .binOp .gtr 3 (.tmp 8) (.const (.int .i64 0)) 3, 4, none⟩])
    (.cond (.tmp 9) (.seq (.draw (.take ⟨some 10, .move (.tmp 0), 169, none⟩ (.take ⟨some 11, .move (.tmp 0), 169, none⟩ (.take ⟨some 12, .nilCheck (.tmp 11), 0, none⟩ (.take ⟨some 13, .fieldAddr 103 (.tmp 12) 1, 0, none⟩ (.take ⟨some 14, .load 3 (.tmp 13), 3, none⟩ (.take ⟨some 15, .move (.tmp 0), 169, none⟩ (.take ⟨some 16, .nilCheck (.tmp 15), 0, none⟩ (.take ⟨some 17, .fieldAddr 103 (.tmp 16) 0, 0, none⟩ (.take ⟨some 18, .load 22 (.tmp 17), 22, none⟩ (.take ⟨some 19, .call { callee := .builtin .len, args := #[.tmp 18], argTypes := #[22] }, 3, none⟩ (.take ⟨some 20, .binOp .add 3 (.tmp 14) (.tmp 19) 3, 3, none⟩ (.take ⟨some 21, .binOp .sub 3 (.tmp 20) (.const (.int .i64 1)) 3, 3, none⟩ (.take ⟨some 22, .move (.tmp 0), 169, none⟩ (.take ⟨some 23, .nilCheck (.tmp 22), 0, none⟩ (.take ⟨some 24, .fieldAddr 103 (.tmp 23) 0, 0, none⟩ (.take ⟨some 25, .load 22 (.tmp 24), 22, none⟩ (.take ⟨some 26, .call { callee := .builtin .len, args := #[.tmp 25], argTypes := #[22] }, 3, none⟩ (.take ⟨some 27, .binOp .rem 3 (.tmp 21) (.tmp 26) 3, 3, none⟩ (.take ⟨some 28, .nilCheck (.tmp 10), 0, none⟩ (.take ⟨some 29, .fieldAddr 103 (.tmp 28) 1, 0, none⟩ (.altL ⟨none, .store 3 (.tmp 29) (.tmp 27), 0, none⟩ .done .none))))))))))))))))))))))
    (.draw (.take ⟨some 30, .move (.tmp 0), 169, none⟩ (.take ⟨some 31, .nilCheck (.tmp 30), 0, none⟩ (.take ⟨some 32, .fieldAddr 103 (.tmp 31) 0, 0, none⟩ (.take ⟨some 33, .load 22 (.tmp 32), 22, none⟩ (.take ⟨some 34, .move (.tmp 0), 169, none⟩ (.take ⟨some 35, .nilCheck (.tmp 34), 0, none⟩ (.take ⟨some 36, .fieldAddr 103 (.tmp 35) 1, 0, none⟩ (.take ⟨some 37, .load 3 (.tmp 36), 3, none⟩ (.take ⟨some 38, .move (.tmp 1), 3, none⟩ (.take ⟨some 39, .indexAddr 22 (.tmp 33) (.tmp 37), 0, none⟩ (.altL ⟨none, .store 3 (.tmp 39) (.tmp 38), 0, none⟩ .done .none))))))))))))) .skip))
def pl101 : Nat → Plan := fun id => if id = 1 then (.take 0 (.take 1 (.take 2 (.take 3 (.take 4 (.take 5 (.take 6 (.take 7 (.take 8 (.take 9 (.take 10 (.take 11 (.take 12 (.take 13 (.take 14 (.take 15 (.take 16 (.take 17 (.take 18 (.take 19 (.altL 20 .done .none))))))))))))))))))))) else if id = 2 then (.take 0 (.take 1 (.take 2 (.take 3 (.take 4 (.take 5 (.take 6 (.take 7 (.take 8 (.take 9 (.altL 10 .done .none))))))))))) else .done
theorem st101 : Go.Proofs.Tryz.f101.body.map (strip pl101) = some m101 := by kernel_rfl
theorem ok101 : okB pl101 Go.Proofs.Tryz.f101 2 = true := by kernel_rfl
theorem en101 {v0 v1 w} {Q : Value → World → Prop} (h : mwpB Go.Proofs.Tryz.prog m101 (argEnv [v0, v1]) [] w (fun e ds w => ds = [] ∧ resW Go.Proofs.Tryz.prog [] e w fun v => Q v w) (fun _ _ _ _ => False) (fun e ds w => ds = [] ∧ resW Go.Proofs.Tryz.prog [] e w fun v => Q v w) (fun _ _ _ => False) ⟨⟩) : Rets Go.Proofs.Tryz.prog 101 #[v0, v1] w Q :=
  rets_of_mwp follows_mo Go.Proofs.Tryz.func101 pl101 st101 ok101 (by kernel_rfl) h
/-- (*continuo/effect.scanner).number -/
def m102 : MC := (.seq (.ops [⟨some 2, .assign (.const (.int .i64 0)), 3, none⟩])
    (.seq (.seq (.ops [⟨some 5, .move (.tmp 0), 84, none⟩, ⟨some 6, .nilCheck (.tmp 5), 0, none⟩, ⟨some 7, .fieldAddr 88 (.tmp 6) 0, 0, none⟩, ⟨some 8, .load 85 (.tmp 7), 85, none⟩, ⟨some 9, .call { callee := .builtin .len, args := #[.tmp 8], argTypes := #[85] }, 3, none⟩, ⟨some 10, .binOp .eql 3 (.tmp 9) (.const (.int .i64 0)) 3, 4, none⟩])
    (.cond (.tmp 10) (.ops [⟨some 11, .build 140 #[], 140, none⟩, ⟨some 12, .makeInterface 140 (.tmp 11), 20, none⟩, ⟨none, .panic (.tmp 12), 0, none⟩]) .skip))
    (.seq (.ops [⟨some 14, .move (.tmp 0), 84, none⟩, ⟨some 15, .nilCheck (.tmp 14), 0, none⟩, ⟨some 16, .fieldAddr 88 (.tmp 15) 0, 0, none⟩, ⟨some 17, .load 85 (.tmp 16), 85, none⟩, ⟨some 18, .indexAddr 85 (.tmp 17) (.const (.int .i64 0)), 0, none⟩, ⟨some 19, .load 9 (.tmp 18), 9, none⟩, ⟨some 20, .call { callee := .value (.func 115), args := #[.tmp 19], argTypes := #[9] }, 179, none⟩, ⟨some 13, .move (.tmp 20), 179, none⟩, ⟨some 21, .extract (.tmp 13) 0, 3, none⟩, ⟨some 22, .extract (.tmp 13) 1, 178, none⟩, ⟨some 3, .assign (.tmp 21), 3, none⟩, ⟨some 4, .assign (.tmp 22), 178, none⟩])
    (.seq (.seq (.draw (.take ⟨some 23, .move (.tmp 4), 178, none⟩ (.take ⟨some 24, .binOp .neq 178 (.tmp 23) (.const .nilIface) 178, 4, none⟩ (.take ⟨some 25, .move (.tmp 24), 4, none⟩ (.take ⟨some 26, .move (.tmp 3), 3, some (some 25, false)⟩ (.take ⟨some 28, .move (.tmp 0), 84, some (some 25, false)⟩ (.take ⟨some 29, .nilCheck (.tmp 28), 0, some (some 25, false)⟩ (.take ⟨some 30, .fieldAddr 88 (.tmp 29) 0, 0, some (some 25, false)⟩ (.take ⟨some 31, .load 85 (.tmp 30), 85, some (some 25, false)⟩ (.take ⟨some 32, .indexAddr 85 (.tmp 31) (.const (.int .i64 0)), 0, some (some 25, false)⟩ (.take ⟨some 33, .load 9 (.tmp 32), 9, some (some 25, false)⟩ (.alt ⟨some 27, .call { callee := .value (.func 105), args := #[.tmp 26], argTypes := #[3] }, 9, some (some 25, false)⟩ (.take ⟨some 34, .binOp .neq 9 (.tmp 27) (.tmp 33) 9, 4, some (some 25, false)⟩ (.take ⟨some 35, .pick (.tmp 25) (.const (.bool true)) (.tmp 34), 4, none⟩ .done)) .none))))))))))))
    (.cond (.tmp 35) (.ops [⟨some 36, .build 140 #[], 140, none⟩, ⟨some 37, .makeInterface 140 (.tmp 36), 20, none⟩, ⟨none, .panic (.tmp 37), 0, none⟩]) .skip))
    (.seq (.ops [⟨some 38, .move (.tmp 0), 84, none⟩, ⟨some 39, .move (.tmp 0), 84, none⟩, ⟨some 40, .nilCheck (.tmp 39), 0, none⟩, ⟨some 41, .fieldAddr 88 (.tmp 40) 0, 0, none⟩, ⟨some 42, .load 85 (.tmp 41), 85, none⟩, ⟨some 43, .slice 85 (.tmp 42) (some (.const (.int .i64 1))) none none, 85, none⟩, ⟨some 44, .nilCheck (.tmp 38), 0, none⟩, ⟨some 45, .fieldAddr 88 (.tmp 44) 0, 0, none⟩, ⟨none, .store 85 (.tmp 45) (.tmp 43), 0, none⟩])
    (.seq (.ops [⟨some 46, .move (.tmp 3), 3, none⟩, ⟨some 2, .assign (.tmp 46), 3, none⟩])
    .ret))))))
def pl102 : Nat → Plan := fun id => if id = 4 then (.take 0 (.take 1 (.take 2 (.take 3 (.take 5 (.take 6 (.take 7 (.take 8 (.take 9 (.take 10 (.alt 4 (.take 11 (.take 12 .done)) .none))))))))))) else .done
theorem st102 : Go.Proofs.Tryz.f102.body.map (strip pl102) = some m102 := by kernel_rfl
theorem ok102 : okB pl102 Go.Proofs.Tryz.f102 1 = true := by kernel_rfl
theorem en102 {v0 w} {Q : Value → World → Prop} (h : mwpB Go.Proofs.Tryz.prog m102 (argEnv [v0]) [] w (fun e ds w => ds = [] ∧ resW Go.Proofs.Tryz.prog [.tmp 2] e w fun v => Q v w) (fun _ _ _ _ => False) (fun e ds w => ds = [] ∧ resW Go.Proofs.Tryz.prog [.tmp 2] e w fun v => Q v w) (fun _ _ _ => False) ⟨⟩) : Rets Go.Proofs.Tryz.prog 102 #[v0] w Q :=
  rets_of_mwp follows_mo Go.Proofs.Tryz.func102 pl102 st102 ok102 (by kernel_rfl) h
/-- (*continuo/effect.scanner).sample -/
def m103 : MC := (.seq (.ops [⟨some 2, .assign (.const (.int .i64 0)), 3, none⟩])
    (.seq (.ops [⟨some 4, .move (.tmp 0), 84, none⟩, ⟨some 5, .call { callee := .value (.func 102), args := #[.tmp 4], argTypes := #[84] }, 3, none⟩, ⟨some 3, .assign (.tmp 5), 3, none⟩])
    (.seq (.seq (.ops [⟨some 6, .move (.tmp 3), 3, none⟩, ⟨some 7, .call { callee := .value (.func 53), args := #[.tmp 6, .const (.int .i64 (-8388607)), .const (.int .i64 8388607)], argTypes := #[3, 3, 3] }, 4, none⟩, ⟨some 8, .unOp .not 4 (.tmp 7), 4, none⟩])
    (.cond (.tmp 8) (.ops [⟨some 9, .build 140 #[], 140, none⟩, ⟨some 10, .makeInterface 140 (.tmp 9), 20, none⟩, ⟨none, .panic (.tmp 10), 0, none⟩]) .skip))
    (.seq (.ops [⟨some 11, .move (.tmp 3), 3, none⟩, ⟨some 2, .assign (.tmp 11), 3, none⟩])
    .ret))))
def pl103 : Nat → Plan := fun _ => .done
theorem st103 : Go.Proofs.Tryz.f103.body.map (strip pl103) = some m103 := by kernel_rfl
theorem ok103 : okB pl103 Go.Proofs.Tryz.f103 1 = true := by kernel_rfl
theorem en103 {v0 w} {Q : Value → World → Prop} (h : mwpB Go.Proofs.Tryz.prog m103 (argEnv [v0]) [] w (fun e ds w => ds = [] ∧ resW Go.Proofs.Tryz.prog [.tmp 2] e w fun v => Q v w) (fun _ _ _ _ => False) (fun e ds w => ds = [] ∧ resW Go.Proofs.Tryz.prog [.tmp 2] e w fun v => Q v w) (fun _ _ _ => False) ⟨⟩) : Rets Go.Proofs.Tryz.prog 103 #[v0] w Q :=
  rets_of_mwp follows_mo Go.Proofs.Tryz.func103 pl103 st103 ok103 (by kernel_rfl) h
/-- continuo/effect.writer$1 -/
def m104 : MC := (.seq (.ops [⟨some 5, .move (.tmp 0), 22, none⟩, ⟨some 6, .call { callee := .builtin .len, args := #[.tmp 5], argTypes := #[22] }, 3, none⟩, ⟨some 7, .move (.const (.int .i64 0)), 3, none⟩])
    (.block 0 (.loop (.seq (.ops [⟨some 8, .binOp .lss 3 (.tmp 7) (.tmp 6) 3, 0, none⟩])
    (.seq (.cond (.tmp 8) .skip (.exit 0))
    (.seq (.block 1 (.seq (.ops [⟨some 9, .indexAddr 22 (.tmp 5) (.tmp 7), 0, none⟩, ⟨some 10, .load 3 (.tmp 9), 3, none⟩, ⟨some 4, .assign (.tmp 10), 3, none⟩])
    (.draw (.take ⟨some 11, .load 85 (.tmp 1), 85, none⟩ (.take ⟨some 12, .move (.tmp 4), 3, none⟩ (.alt ⟨some 13, .call { callee := .value (.func 105), args := #[.tmp 12], argTypes := #[3] }, 9, none⟩ (.alt ⟨some 14, .buildSlice 85 1 #[(0, .tmp 13)], 85, none⟩ (.alt ⟨some 15, .call { callee := .builtin .append, args := #[.tmp 11, .tmp 14], argTypes := #[85, 85] }, 85, none⟩ (.altL ⟨none, .store 85 (.tmp 1) (.tmp 15), 0, none⟩ .done .none) .none) .none) .none))))))
    (.ops [⟨some 16, .binOp .add 3 (.tmp 7) (.const (.int .i64 1)) 3, 3, none⟩, ⟨some 7, .move (.tmp 16), 3, none⟩])))))))
def pl104 : Nat → Plan := fun id => if id = 3 then (.take 0 (.take 1 (.alt 2 (.alt 3 (.alt 4 (.altL 5 .done .none) .none) .none) .none))) else .done
theorem st104 : Go.Proofs.Tryz.f104.body.map (strip pl104) = some m104 := by kernel_rfl
theorem ok104 : okB pl104 Go.Proofs.Tryz.f104 2 = true := by kernel_rfl
theorem en104 {v0 v1 w} {Q : Value → World → Prop} (h : mwpB Go.Proofs.Tryz.prog m104 (argEnv [v0, v1]) [] w (fun e ds w => ds = [] ∧ resW Go.Proofs.Tryz.prog [] e w fun v => Q v w) (fun _ _ _ _ => False) (fun e ds w => ds = [] ∧ resW Go.Proofs.Tryz.prog [] e w fun v => Q v w) (fun _ _ _ => False) ⟨⟩) : Rets Go.Proofs.Tryz.prog 104 #[v0, v1] w Q :=
  rets_of_mwp follows_mo Go.Proofs.Tryz.func104 pl104 st104 ok104 (by kernel_rfl) h
/-- strconv.Itoa -/
def m105 : MC := (.seq (.ops [⟨some 2, .assign (.const (.string { data := #[] })), 9, none⟩])
    (.seq (.ops [⟨some 3, .move (.tmp 0), 3, none⟩, ⟨some 4, .call { callee := .value (.func 116), args := #[.tmp 3], argTypes := #[3] }, 9, none⟩, ⟨some 2, .assign (.tmp 4), 9, none⟩])
    .ret))
def pl105 : Nat → Plan := fun _ => .done
theorem st105 : Go.Proofs.Tryz.f105.body.map (strip pl105) = some m105 := by kernel_rfl
theorem ok105 : okB pl105 Go.Proofs.Tryz.f105 1 = true := by kernel_rfl
theorem en105 {v0 w} {Q : Value → World → Prop} (h : mwpB Go.Proofs.Tryz.prog m105 (argEnv [v0]) [] w (fun e ds w => ds = [] ∧ resW Go.Proofs.Tryz.prog [.tmp 2] e w fun v => Q v w) (fun _ _ _ _ => False) (fun e ds w => ds = [] ∧ resW Go.Proofs.Tryz.prog [.tmp 2] e w fun v => Q v w) (fun _ _ _ => False) ⟨⟩) : Rets Go.Proofs.Tryz.prog 105 #[v0] w Q :=
  rets_of_mwp follows_mo Go.Proofs.Tryz.func105 pl105 st105 ok105 (by kernel_rfl) h
/-- continuo/effect.writer$2 -/
def m106 : MC := (.seq (.ops [⟨some 1, .assign (.const (.string { data := #[] })), 9, none⟩])
    (.seq (.ops [⟨some 2, .load 85 (.tmp 0), 85, none⟩, ⟨some 3, .call { callee := .value (.func 107), args := #[.tmp 2, .const (.string { data := #[32] })], argTypes := #[85, 9] }, 9, none⟩, ⟨some 1, .assign (.tmp 3), 9, none⟩])
    .ret))
def pl106 : Nat → Plan := fun _ => .done
theorem st106 : Go.Proofs.Tryz.f106.body.map (strip pl106) = some m106 := by kernel_rfl
theorem ok106 : okB pl106 Go.Proofs.Tryz.f106 1 = true := by kernel_rfl
theorem en106 {v0 w} {Q : Value → World → Prop} (h : mwpB Go.Proofs.Tryz.prog m106 (argEnv [v0]) [] w (fun e ds w => ds = [] ∧ resW Go.Proofs.Tryz.prog [.tmp 1] e w fun v => Q v w) (fun _ _ _ _ => False) (fun e ds w => ds = [] ∧ resW Go.Proofs.Tryz.prog [.tmp 1] e w fun v => Q v w) (fun _ _ _ => False) ⟨⟩) : Rets Go.Proofs.Tryz.prog 106 #[v0] w Q :=
  rets_of_mwp follows_mo Go.Proofs.Tryz.func106 pl106 st106 ok106 (by kernel_rfl) h
/-- strings.Join -/
def m107 : MC := (.seq (.ops [⟨some 4, .assign (.const (.string { data := #[] })), 9, none⟩])
    (.seq (.seq (.ops [⟨some 11, .move (.tmp 0), 85, none⟩, ⟨some 12, .call { callee := .builtin .len, args := #[.tmp 11], argTypes := #[85] }, 3, none⟩])
    (.block 0 (.seq (.ops [⟨some 14, .binOp .eql 3 (.tmp 12) (.const (.int .i64 0)) 3, 4, none⟩, ⟨some 13, .assign (.tmp 14), 4, none⟩])
    (.cond (.tmp 13) (.seq (.ops [⟨some 4, .assign (.const (.string { data := #[] })), 9, none⟩])
    .ret) (.seq (.ops [⟨some 16, .binOp .eql 3 (.tmp 12) (.const (.int .i64 1)) 3, 4, none⟩, ⟨some 15, .assign (.tmp 16), 4, none⟩])
    (.cond (.tmp 15) (.seq (.ops [⟨some 17, .move (.tmp 0), 85, none⟩, ⟨some 18, .indexAddr 85 (.tmp 17) (.const (.int .i64 0)), 0, none⟩, ⟨some 19, .load 9 (.tmp 18), 9, none⟩, ⟨some 4, .assign (.tmp 19), 9, none⟩])
    .ret) .skip))))))
    (.seq (.ops [⟨some 5, .assign (.const (.int .i64 0)), 3, none⟩])
    (.seq (.seq (.ops [⟨some 20, .move (.tmp 1), 9, none⟩, ⟨some 21, .call { callee := .builtin .len, args := #[.tmp 20], argTypes := #[9] }, 3, none⟩, ⟨some 22, .binOp .gtr 3 (.tmp 21) (.const (.int .i64 0)) 3, 4, none⟩])
    (.cond (.tmp 22) (.seq (.seq (.ops [⟨some 23, .move (.tmp 1), 9, none⟩, ⟨some 24, .call { callee := .builtin .len, args := #[.tmp 23], argTypes := #[9] }, 3, none⟩, ⟨some 25, .move (.tmp 0), 85, none⟩, ⟨some 26, .call { callee := .builtin .len, args := #[.tmp 25], argTypes := #[85] }, 3, none⟩, ⟨some 27, .binOp .sub 3 (.tmp 26) (.const (.int .i64 1)) 3, 3, none⟩, ⟨some 28, .binOp .quo 3 (.const (.int .i64 9223372036854775807)) (.tmp 27) 3, 3, none⟩, ⟨some 29, .binOp .geq 3 (.tmp 24) (.tmp 28) 3, 4, none⟩])
    (.cond (.tmp 29) (.ops [⟨some 30, .makeInterface 9 (.const (.string { data := #[115, 116, 114, 105, 110, 103, 115, 58, 32, 74, 111, 105, 110, 32, 111, 117, 116, 112, 117, 116, 32, 108, 101, 110, 103, 116, 104, 32, 111, 118, 101, 114, 102, 108, 111, 119] })), 20, none⟩, ⟨none, .panic (.tmp 30), 0, none⟩]) .skip))
    (.ops [⟨some 31, .move (.tmp 5), 3, none⟩, ⟨some 32, .move (.tmp 1), 9, none⟩, ⟨some 33, .call { callee := .builtin .len, args := #[.tmp 32], argTypes := #[9] }, 3, none⟩, ⟨some 34, .move (.tmp 0), 85, none⟩, ⟨some 35, .call { callee := .builtin .len, args := #[.tmp 34], argTypes := #[85] }, 3, none⟩, ⟨some 36, .binOp .sub 3 (.tmp 35) (.const (.int .i64 1)) 3, 3, none⟩, ⟨some 37, .binOp .mul 3 (.tmp 33) (.tmp 36) 3, 3, none⟩, ⟨some 38, .binOp .add 3 (.tmp 31) (.tmp 37) 3, 3, none⟩, ⟨some 5, .assign (.tmp 38), 3, none⟩])) .skip))
    (.seq (.seq (.ops [⟨some 39, .move (.tmp 0), 85, none⟩, ⟨some 40, .call { callee := .builtin .len, args := #[.tmp 39], argTypes := #[85] }, 3, none⟩, ⟨some 41, .move (.const (.int .i64 0)), 3, none⟩])
    (.block 1 (.loop (.seq (.ops [⟨some 42, .binOp .lss 3 (.tmp 41) (.tmp 40) 3, 0, none⟩])
    (.seq (.cond (.tmp 42) .skip (.exit 1))
    (.seq (.block 2 (.seq (.ops [⟨some 43, .indexAddr 85 (.tmp 39) (.tmp 41), 0, none⟩, ⟨some 44, .load 9 (.tmp 43), 9, none⟩, ⟨some 7, .assign (.tmp 44), 9, none⟩])
    (.seq (.seq (.ops [⟨some 45, .move (.tmp 7), 9, none⟩, ⟨some 46, .call { callee := .builtin .len, args := #[.tmp 45], argTypes := #[9] }, 3, none⟩, ⟨some 47, .move (.tmp 5), 3, none⟩, ⟨some 48, .binOp .sub 3 (.const (.int .i64 9223372036854775807)) (.tmp 47) 3, 3, none⟩, ⟨some 49, .binOp .gtr 3 (.tmp 46) (.tmp 48) 3, 4, none⟩])
    (.cond (.tmp 49) (.ops [⟨some 50, .makeInterface 9 (.const (.string { data := #[115, 116, 114, 105, 110, 103, 115, 58, 32, 74, 111, 105, 110, 32, 111, 117, 116, 112, 117, 116, 32, 108, 101, 110, 103, 116, 104, 32, 111, 118, 101, 114, 102, 108, 111, 119] })), 20, none⟩, ⟨none, .panic (.tmp 50), 0, none⟩]) .skip))
    (.ops [⟨some 51, .move (.tmp 5), 3, none⟩, ⟨some 52, .move (.tmp 7), 9, none⟩, ⟨some 53, .call { callee := .builtin .len, args := #[.tmp 52], argTypes := #[9] }, 3, none⟩, ⟨some 54, .binOp .add 3 (.tmp 51) (.tmp 53) 3, 3, none⟩, ⟨some 5, .assign (.tmp 54), 3, none⟩]))))
    (.ops [⟨some 55, .binOp .add 3 (.tmp 41) (.const (.int .i64 1)) 3, 3, none⟩, ⟨some 41, .move (.tmp 55), 3, none⟩])))))))
    (.seq (.ops [⟨some 8, .alloc 184, 0, none⟩])
    (.seq (.ops [⟨some 56, .move (.tmp 5), 3, none⟩, ⟨some 57, .call { callee := .value (.func 117), args := #[.tmp 8, .tmp 56], argTypes := #[184, 3] }, 0, none⟩])
    (.seq (.ops [⟨some 58, .move (.tmp 0), 85, none⟩, ⟨some 59, .indexAddr 85 (.tmp 58) (.const (.int .i64 0)), 0, none⟩, ⟨some 60, .load 9 (.tmp 59), 9, none⟩, ⟨some 61, .call { callee := .value (.func 118), args := #[.tmp 8, .tmp 60], argTypes := #[184, 9] }, 179, none⟩])
    (.seq (.seq (.ops [⟨some 62, .move (.tmp 0), 85, none⟩, ⟨some 63, .slice 85 (.tmp 62) (some (.const (.int .i64 1))) none none, 85, none⟩, ⟨some 64, .call { callee := .builtin .len, args := #[.tmp 63], argTypes := #[85] }, 3, none⟩, ⟨some 65, .move (.const (.int .i64 0)), 3, none⟩])
    (.block 3 (.loop (.seq (.ops [⟨some 66, .binOp .lss 3 (.tmp 65) (.tmp 64) 3, 0, none⟩])
    (.seq (.cond (.tmp 66) .skip (.exit 3))
    (.seq (.block 4 (.seq (.ops [⟨some 67, .indexAddr 85 (.tmp 63) (.tmp 65), 0, none⟩, ⟨some 68, .load 9 (.tmp 67), 9, none⟩, ⟨some 10, .assign (.tmp 68), 9, none⟩])
    (.seq (.ops [⟨some 69, .move (.tmp 1), 9, none⟩, ⟨some 70, .call { callee := .value (.func 118), args := #[.tmp 8, .tmp 69], argTypes := #[184, 9] }, 179, none⟩])
    (.ops [⟨some 71, .move (.tmp 10), 9, none⟩, ⟨some 72, .call { callee := .value (.func 118), args := #[.tmp 8, .tmp 71], argTypes := #[184, 9] }, 179, none⟩]))))
    (.ops [⟨some 73, .binOp .add 3 (.tmp 65) (.const (.int .i64 1)) 3, 3, none⟩, ⟨some 65, .move (.tmp 73), 3, none⟩])))))))
    (.seq (.ops [⟨some 74, .call { callee := .value (.func 119), args := #[.tmp 8], argTypes := #[184] }, 9, none⟩, ⟨some 4, .assign (.tmp 74), 9, none⟩])
    .ret))))))))))
def pl107 : Nat → Plan := fun _ => .done
theorem st107 : Go.Proofs.Tryz.f107.body.map (strip pl107) = some m107 := by kernel_rfl
theorem ok107 : okB pl107 Go.Proofs.Tryz.f107 2 = true := by kernel_rfl
theorem en107 {v0 v1 w} {Q : Value → World → Prop} (h : mwpB Go.Proofs.Tryz.prog m107 (argEnv [v0, v1]) [] w (fun e ds w => ds = [] ∧ resW Go.Proofs.Tryz.prog [.tmp 4] e w fun v => Q v w) (fun _ _ _ _ => False) (fun e ds w => ds = [] ∧ resW Go.Proofs.Tryz.prog [.tmp 4] e w fun v => Q v w) (fun _ _ _ => False) ⟨⟩) : Rets Go.Proofs.Tryz.prog 107 #[v0, v1] w Q :=
  rets_of_mwp follows_mo Go.Proofs.Tryz.func107 pl107 st107 ok107 (by kernel_rfl) h
/-- continuo/effect.latency -/
def m108 : MC := (.seq (.ops [⟨some 1, .box 24 (.tmp 0), 0, none⟩, ⟨some 2, .assign (.const (.int .i64 0)), 3, none⟩])
    (.seq (.seq (.ops [⟨some 3, .fieldAddr 24 (.tmp 1) 0, 0, none⟩, ⟨some 4, .load 3 (.tmp 3), 3, none⟩])
    (.block 0 (.seq (.ops [⟨some 6, .binOp .eql 3 (.tmp 4) (.const (.int .i64 2)) 3, 4, none⟩, ⟨some 5, .assign (.tmp 6), 4, none⟩])
    (.cond (.tmp 5) (.seq (.ops [⟨some 7, .fieldAddr 24 (.tmp 1) 1, 0, none⟩, ⟨some 8, .load 22 (.tmp 7), 22, none⟩, ⟨some 9, .indexAddr 22 (.tmp 8) (.const (.int .i64 0)), 0, none⟩, ⟨some 10, .load 3 (.tmp 9), 3, none⟩, ⟨some 2, .assign (.tmp 10), 3, none⟩])
    .ret) (.seq (.ops [⟨some 12, .binOp .eql 3 (.tmp 4) (.const (.int .i64 7)) 3, 4, none⟩, ⟨some 11, .assign (.tmp 12), 4, none⟩])
    (.cond (.tmp 11) (.seq (.ops [⟨some 13, .fieldAddr 24 (.tmp 1) 1, 0, none⟩, ⟨some 14, .load 22 (.tmp 13), 22, none⟩, ⟨some 15, .indexAddr 22 (.tmp 14) (.const (.int .i64 4)), 0, none⟩, ⟨some 16, .load 3 (.tmp 15), 3, none⟩, ⟨some 2, .assign (.tmp 16), 3, none⟩])
    .ret) .skip))))))
    (.seq (.ops [⟨some 2, .assign (.const (.int .i64 0)), 3, none⟩])
    .ret)))
def pl108 : Nat → Plan := fun _ => .done
theorem st108 : Go.Proofs.Tryz.f108.body.map (strip pl108) = some m108 := by kernel_rfl
theorem ok108 : okB pl108 Go.Proofs.Tryz.f108 1 = true := by kernel_rfl
theorem en108 {v0 w} {Q : Value → World → Prop} (h : mwpB Go.Proofs.Tryz.prog m108 (argEnv [v0]) [] w (fun e ds w => ds = [] ∧ resW Go.Proofs.Tryz.prog [.tmp 2] e w fun v => Q v w) (fun _ _ _ _ => False) (fun e ds w => ds = [] ∧ resW Go.Proofs.Tryz.prog [.tmp 2] e w fun v => Q v w) (fun _ _ _ => False) ⟨⟩) : Rets Go.Proofs.Tryz.prog 108 #[v0] w Q :=
  rets_of_mwp follows_mo Go.Proofs.Tryz.func108 pl108 st108 ok108 (by kernel_rfl) h
/-- continuo/continuoref31.latency -/
def m109 : MC := (.seq (.ops [⟨some 1, .box 24 (.tmp 0), 0, none⟩, ⟨some 2, .assign (.const (.int .i64 0)), 3, none⟩])
    (.seq (.seq (.ops [⟨some 3, .fieldAddr 24 (.tmp 1) 0, 0, none⟩, ⟨some 4, .load 3 (.tmp 3), 3, none⟩, ⟨some 5, .binOp .eql 3 (.tmp 4) (.const (.int .i64 2)) 3, 4, none⟩])
    (.cond (.tmp 5) (.seq (.ops [⟨some 6, .fieldAddr 24 (.tmp 1) 1, 0, none⟩, ⟨some 7, .load 22 (.tmp 6), 22, none⟩, ⟨some 8, .indexAddr 22 (.tmp 7) (.const (.int .i64 0)), 0, none⟩, ⟨some 9, .load 3 (.tmp 8), 3, none⟩, ⟨some 2, .assign (.tmp 9), 3, none⟩])
    .ret) .skip))
    (.seq (.seq (.ops [⟨some 10, .fieldAddr 24 (.tmp 1) 0, 0, none⟩, ⟨some 11, .load 3 (.tmp 10), 3, none⟩, ⟨some 12, .binOp .eql 3 (.tmp 11) (.const (.int .i64 7)) 3, 4, none⟩])
    (.cond (.tmp 12) (.seq (.ops [⟨some 13, .fieldAddr 24 (.tmp 1) 1, 0, none⟩, ⟨some 14, .load 22 (.tmp 13), 22, none⟩, ⟨some 15, .indexAddr 22 (.tmp 14) (.const (.int .i64 4)), 0, none⟩, ⟨some 16, .load 3 (.tmp 15), 3, none⟩, ⟨some 2, .assign (.tmp 16), 3, none⟩])
    .ret) .skip))
    (.seq (.ops [⟨some 2, .assign (.const (.int .i64 0)), 3, none⟩])
    .ret))))
def pl109 : Nat → Plan := fun _ => .done
theorem st109 : Go.Proofs.Tryz.f109.body.map (strip pl109) = some m109 := by kernel_rfl
theorem ok109 : okB pl109 Go.Proofs.Tryz.f109 1 = true := by kernel_rfl
theorem en109 {v0 w} {Q : Value → World → Prop} (h : mwpB Go.Proofs.Tryz.prog m109 (argEnv [v0]) [] w (fun e ds w => ds = [] ∧ resW Go.Proofs.Tryz.prog [.tmp 2] e w fun v => Q v w) (fun _ _ _ _ => False) (fun e ds w => ds = [] ∧ resW Go.Proofs.Tryz.prog [.tmp 2] e w fun v => Q v w) (fun _ _ _ => False) ⟨⟩) : Rets Go.Proofs.Tryz.prog 109 #[v0] w Q :=
  rets_of_mwp follows_mo Go.Proofs.Tryz.func109 pl109 st109 ok109 (by kernel_rfl) h
/-- (*continuo/effect.Parts).parts$1 -/
def m110 : MC := (.seq (.ops [⟨some 3, .assign (.const (.int .i64 0)), 3, none⟩])
    (.block 0 (.loop (.seq (.seq (.ops [⟨some 4, .move (.tmp 3), 3, none⟩, ⟨some 5, .load 71 (.tmp 1), 71, none⟩, ⟨some 6, .nilCheck (.tmp 5), 0, none⟩, ⟨some 7, .fieldAddr 127 (.tmp 6) 0, 0, none⟩, ⟨some 8, .load 22 (.tmp 7), 22, none⟩, ⟨some 9, .call { callee := .builtin .len, args := #[.tmp 8], argTypes := #[22] }, 3, none⟩, ⟨some 10, .binOp .lss 3 (.tmp 4) (.tmp 9) 3, 4, none⟩])
    (.cond (.tmp 10) .skip (.exit 0)))
    (.seq (.block 1 (.seq (.draw (.take ⟨some 17, .move (.tmp 0), 172, none⟩ (.take ⟨some 18, .move (.tmp 3), 3, none⟩ (.take ⟨some 19, .load 71 (.tmp 1), 71, none⟩ (.take ⟨some 20, .nilCheck (.tmp 19), 0, none⟩ (.take ⟨some 21, .fieldAddr 127 (.tmp 20) 0, 0, none⟩ (.take ⟨some 22, .load 22 (.tmp 21), 22, none⟩ (.take ⟨some 23, .move (.tmp 3), 3, none⟩ (.take ⟨some 24, .move (.tmp 3), 3, none⟩ (.take ⟨some 25, .load 71 (.tmp 1), 71, none⟩ (.take ⟨some 26, .nilCheck (.tmp 25), 0, none⟩ (.take ⟨some 27, .fieldAddr 127 (.tmp 26) 1, 0, none⟩ (.take ⟨some 28, .load 3 (.tmp 27), 3, none⟩ (.take ⟨some 29, .binOp .add 3 (.tmp 24) (.tmp 28) 3, 3, none⟩ (.take ⟨some 30, .load 71 (.tmp 1), 71, none⟩ (.take ⟨some 31, .nilCheck (.tmp 30), 0, none⟩ (.take ⟨some 32, .fieldAddr 127 (.tmp 31) 0, 0, none⟩ (.take ⟨some 33, .load 22 (.tmp 32), 22, none⟩ (.take ⟨some 34, .call { callee := .builtin .len, args := #[.tmp 33], argTypes := #[22] }, 3, none⟩ (.take ⟨some 35, .call { callee := .builtin .min, args := #[.tmp 29, .tmp 34], argTypes := #[3, 3] }, 3, none⟩ (.take ⟨some 36, .slice 22 (.tmp 22) (some (.tmp 23)) (some (.tmp 35)) none, 22, none⟩ (.alt ⟨some 37, .call { callee := .value (.tmp 17), args := #[.tmp 18, .tmp 36], argTypes := #[3, 22] }, 4, none⟩ (.take ⟨some 38, .unOp .not 4 (.tmp 37), 4, none⟩ .done) .none))))))))))))))))))))))
    (.cond (.tmp 38) .ret .skip)))
    (.ops [⟨some 11, .move (.tmp 3), 3, none⟩, ⟨some 12, .load 71 (.tmp 1), 71, none⟩, ⟨some 13, .nilCheck (.tmp 12), 0, none⟩, ⟨some 14, .fieldAddr 127 (.tmp 13) 1, 0, none⟩, ⟨some 15, .load 3 (.tmp 14), 3, none⟩, ⟨some 16, .binOp .add 3 (.tmp 11) (.tmp 15) 3, 3, none⟩, ⟨some 3, .assign (.tmp 16), 3, none⟩]))))))
def pl110 : Nat → Plan := fun id => if id = 3 then (.take 0 (.take 1 (.take 2 (.take 3 (.take 4 (.take 5 (.take 6 (.take 7 (.take 8 (.take 9 (.take 10 (.take 11 (.take 12 (.take 13 (.take 14 (.take 15 (.take 16 (.take 17 (.take 18 (.take 19 (.alt 20 (.take 21 .done) .none))))))))))))))))))))) else .done
theorem st110 : Go.Proofs.Tryz.f110.body.map (strip pl110) = some m110 := by kernel_rfl
theorem ok110 : okB pl110 Go.Proofs.Tryz.f110 2 = true := by kernel_rfl
theorem en110 {v0 v1 w} {Q : Value → World → Prop} (h : mwpB Go.Proofs.Tryz.prog m110 (argEnv [v0, v1]) [] w (fun e ds w => ds = [] ∧ resW Go.Proofs.Tryz.prog [] e w fun v => Q v w) (fun _ _ _ _ => False) (fun e ds w => ds = [] ∧ resW Go.Proofs.Tryz.prog [] e w fun v => Q v w) (fun _ _ _ => False) ⟨⟩) : Rets Go.Proofs.Tryz.prog 110 #[v0, v1] w Q :=
  rets_of_mwp follows_mo Go.Proofs.Tryz.func110 pl110 st110 ok110 (by kernel_rfl) h
/-- continuo/effect.taps$1 -/
def m111 : MC := (.seq (.ops [⟨some 2, .assign (.const (.bool false)), 4, none⟩])
    (.seq (.ops [⟨some 3, .move (.tmp 0), 3, none⟩, ⟨some 4, .call { callee := .value (.func 53), args := #[.tmp 3, .const (.int .i64 (-65536)), .const (.int .i64 65536)], argTypes := #[3, 3, 3] }, 4, none⟩, ⟨some 5, .unOp .not 4 (.tmp 4), 4, none⟩, ⟨some 2, .assign (.tmp 5), 4, none⟩])
    .ret))
def pl111 : Nat → Plan := fun _ => .done
theorem st111 : Go.Proofs.Tryz.f111.body.map (strip pl111) = some m111 := by kernel_rfl
theorem ok111 : okB pl111 Go.Proofs.Tryz.f111 1 = true := by kernel_rfl
theorem en111 {v0 w} {Q : Value → World → Prop} (h : mwpB Go.Proofs.Tryz.prog m111 (argEnv [v0]) [] w (fun e ds w => ds = [] ∧ resW Go.Proofs.Tryz.prog [.tmp 2] e w fun v => Q v w) (fun _ _ _ _ => False) (fun e ds w => ds = [] ∧ resW Go.Proofs.Tryz.prog [.tmp 2] e w fun v => Q v w) (fun _ _ _ => False) ⟨⟩) : Rets Go.Proofs.Tryz.prog 111 #[v0] w Q :=
  rets_of_mwp follows_mo Go.Proofs.Tryz.func111 pl111 st111 ok111 (by kernel_rfl) h
/-- slices.Clone[[][2]int,[2]int] -/
def m112 : MC := (.seq (.ops [⟨some 2, .assign (.const (.slice none 0 0)), 132, none⟩])
    (.seq (.seq (.ops [⟨some 3, .move (.tmp 0), 132, none⟩, ⟨some 4, .binOp .eql 132 (.tmp 3) (.const (.slice none 0 0)) 132, 4, none⟩])
    (.cond (.tmp 4) (.seq (.ops [⟨some 2, .assign (.const (.slice none 0 0)), 132, none⟩])
    .ret) .skip))
    (.seq (.ops [⟨some 5, .buildSlice 132 0 #[], 132, none⟩, ⟨some 6, .move (.tmp 0), 132, none⟩, ⟨some 7, .call { callee := .builtin .append, args := #[.tmp 5, .tmp 6], argTypes := #[132, 132] }, 132, none⟩, ⟨some 2, .assign (.tmp 7), 132, none⟩])
    .ret)))
def pl112 : Nat → Plan := fun _ => .done
theorem st112 : Go.Proofs.Tryz.f112.body.map (strip pl112) = some m112 := by kernel_rfl
theorem ok112 : okB pl112 Go.Proofs.Tryz.f112 1 = true := by kernel_rfl
theorem en112 {v0 w} {Q : Value → World → Prop} (h : mwpB Go.Proofs.Tryz.prog m112 (argEnv [v0]) [] w (fun e ds w => ds = [] ∧ resW Go.Proofs.Tryz.prog [.tmp 2] e w fun v => Q v w) (fun _ _ _ _ => False) (fun e ds w => ds = [] ∧ resW Go.Proofs.Tryz.prog [.tmp 2] e w fun v => Q v w) (fun _ _ _ => False) ⟨⟩) : Rets Go.Proofs.Tryz.prog 112 #[v0] w Q :=
  rets_of_mwp follows_mo Go.Proofs.Tryz.func112 pl112 st112 ok112 (by kernel_rfl) h
/-- slices.IndexFunc[[]int,int] -/
def m113 : MC := (.seq (.ops [⟨some 4, .assign (.const (.int .i64 0)), 3, none⟩])
    (.seq (.seq (.ops [⟨some 6, .move (.tmp 0), 22, none⟩, ⟨some 7, .call { callee := .builtin .len, args := #[.tmp 6], argTypes := #[22] }, 3, none⟩, ⟨some 8, .move (.const (.int .i64 0)), 3, none⟩])
    (.block 0 (.loop (.seq (.ops [⟨some 9, .binOp .lss 3 (.tmp 8) (.tmp 7) 3, 0, none⟩])
    (.seq (.cond (.tmp 9) .skip (.exit 0))
    (.seq (.block 1 (.seq (.ops [⟨some 10, .move (.tmp 8), 3, none⟩, ⟨some 5, .assign (.tmp 10), 3, none⟩])
    (.seq (.ops [⟨some 11, .move (.tmp 1), 138, none⟩, ⟨some 12, .move (.tmp 0), 22, none⟩, ⟨some 13, .move (.tmp 5), 3, none⟩, ⟨some 14, .indexAddr 22 (.tmp 12) (.tmp 13), 0, none⟩, ⟨some 15, .load 3 (.tmp 14), 3, none⟩, ⟨some 16, .call { callee := .value (.tmp 11), args := #[.tmp 15], argTypes := #[3] }, 4, none⟩])
    (.cond (.tmp 16) (.seq (.ops [⟨some 17, .move (.tmp 5), 3, none⟩, ⟨some 4, .assign (.tmp 17), 3, none⟩])
    .ret) .skip))))
    (.ops [⟨some 18, .binOp .add 3 (.tmp 8) (.const (.int .i64 1)) 3, 3, none⟩, ⟨some 8, .move (.tmp 18), 3, none⟩])))))))
    (.seq (.ops [⟨some 4, .assign (.const (.int .i64 (-1))), 3, none⟩])
    .ret)))
def pl113 : Nat → Plan := fun _ => .done
theorem st113 : Go.Proofs.Tryz.f113.body.map (strip pl113) = some m113 := by kernel_rfl
theorem ok113 : okB pl113 Go.Proofs.Tryz.f113 2 = true := by kernel_rfl
theorem en113 {v0 v1 w} {Q : Value → World → Prop} (h : mwpB Go.Proofs.Tryz.prog m113 (argEnv [v0, v1]) [] w (fun e ds w => ds = [] ∧ resW Go.Proofs.Tryz.prog [.tmp 4] e w fun v => Q v w) (fun _ _ _ _ => False) (fun e ds w => ds = [] ∧ resW Go.Proofs.Tryz.prog [.tmp 4] e w fun v => Q v w) (fun _ _ _ => False) ⟨⟩) : Rets Go.Proofs.Tryz.prog 113 #[v0, v1] w Q :=
  rets_of_mwp follows_mo Go.Proofs.Tryz.func113 pl113 st113 ok113 (by kernel_rfl) h
/-- strings.genSplit -/
def m114 : MC := (.seq (.ops [⟨some 8, .assign (.const (.slice none 0 0)), 85, none⟩])
    (.seq (.seq (.ops [⟨some 12, .move (.tmp 3), 3, none⟩, ⟨some 13, .binOp .eql 3 (.tmp 12) (.const (.int .i64 0)) 3, 4, none⟩])
    (.cond (.tmp 13) (.seq (.ops [⟨some 8, .assign (.const (.slice none 0 0)), 85, none⟩])
    .ret) .skip))
    (.seq (.seq (.ops [⟨some 14, .move (.tmp 1), 9, none⟩, ⟨some 15, .binOp .eql 9 (.tmp 14) (.const (.string { data := #[] })) 9, 4, none⟩])
    (.cond (.tmp 15) (.seq (.ops [⟨some 16, .move (.tmp 0), 9, none⟩, ⟨some 17, .move (.tmp 3), 3, none⟩, ⟨some 18, .call { callee := .value (.func 120), args := #[.tmp 16, .tmp 17], argTypes := #[9, 3] }, 85, none⟩, ⟨some 8, .assign (.tmp 18), 85, none⟩])
    .ret) .skip))
    (.seq (.seq (.ops [⟨some 19, .move (.tmp 3), 3, none⟩, ⟨some 20, .binOp .lss 3 (.tmp 19) (.const (.int .i64 0)) 3, 4, none⟩])
    (.cond (.tmp 20) (.ops [⟨some 21, .move (.tmp 0), 9, none⟩, ⟨some 22, .move (.tmp 1), 9, none⟩, ⟨some 23, .call { callee := .value (.func 121), args := #[.tmp 21, .tmp 22], argTypes := #[9, 9] }, 3, none⟩, ⟨some 24, .binOp .add 3 (.tmp 23) (.const (.int .i64 1)) 3, 3, none⟩, ⟨some 3, .assign (.tmp 24), 3, none⟩]) .skip))
    (.seq (.ops [⟨some 25, .move (.tmp 3), 3, none⟩, ⟨some 26, .move (.tmp 0), 9, none⟩, ⟨some 27, .call { callee := .builtin .len, args := #[.tmp 26], argTypes := #[9] }, 3, none⟩, ⟨some 28, .binOp .add 3 (.tmp 27) (.const (.int .i64 1)) 3, 3, none⟩, ⟨some 29, .call { callee := .builtin .min, args := #[.tmp 25, .tmp 28], argTypes := #[3, 3] }, 3, none⟩, ⟨some 3, .assign (.tmp 29), 3, none⟩])
    (.seq (.ops [⟨some 30, .move (.tmp 3), 3, none⟩, ⟨some 31, .makeSlice 85 (.tmp 30) (.tmp 30), 85, none⟩, ⟨some 9, .assign (.tmp 31), 85, none⟩])
    (.seq (.ops [⟨some 32, .move (.tmp 3), 3, none⟩, ⟨some 33, .binOp .sub 3 (.tmp 32) (.const (.int .i64 1)) 3, 3, none⟩, ⟨some 3, .assign (.tmp 33), 3, none⟩])
    (.seq (.ops [⟨some 10, .assign (.const (.int .i64 0)), 3, none⟩])
    (.seq (.block 0 (.loop (.seq (.seq (.ops [⟨some 34, .move (.tmp 10), 3, none⟩, ⟨some 35, .move (.tmp 3), 3, none⟩, ⟨some 36, .binOp .lss 3 (.tmp 34) (.tmp 35) 3, 4, none⟩])
    (.cond (.tmp 36) .skip (.exit 0)))
    (.block 1 (.seq (.ops [⟨some 37, .move (.tmp 0), 9, none⟩, ⟨some 38, .move (.tmp 1), 9, none⟩, ⟨some 39, .call { callee := .value (.func 122), args := #[.tmp 37, .tmp 38], argTypes := #[9, 9] }, 3, none⟩, ⟨some 11, .assign (.tmp 39), 3, none⟩])
    (.seq (.seq (.ops [⟨some 40, .move (.tmp 11), 3, none⟩, ⟨some 41, .binOp .lss 3 (.tmp 40) (.const (.int .i64 0)) 3, 4, none⟩])
    (.cond (.tmp 41) (.exit 0) .skip))
    (.seq (.ops [⟨some 42, .move (.tmp 9), 85, none⟩, ⟨some 43, .move (.tmp 10), 3, none⟩, ⟨some 44, .move (.tmp 0), 9, none⟩, ⟨some 45, .move (.tmp 11), 3, none⟩, ⟨some 46, .move (.tmp 2), 3, none⟩, ⟨some 47, .binOp .add 3 (.tmp 45) (.tmp 46) 3, 3, none⟩, ⟨some 48, .slice 9 (.tmp 44) none (some (.tmp 47)) none, 9, none⟩, ⟨some 49, .indexAddr 85 (.tmp 42) (.tmp 43), 0, none⟩, ⟨none, .store 9 (.tmp 49) (.tmp 48), 0, none⟩])
    (.seq (.ops [⟨some 50, .move (.tmp 0), 9, none⟩, ⟨some 51, .move (.tmp 11), 3, none⟩, ⟨some 52, .move (.tmp 1), 9, none⟩, ⟨some 53, .call { callee := .builtin .len, args := #[.tmp 52], argTypes := #[9] }, 3, none⟩, ⟨some 54, .binOp .add 3 (.tmp 51) (.tmp 53) 3, 3, none⟩, ⟨some 55, .slice 9 (.tmp 50) (some (.tmp 54)) none none, 9, none⟩, ⟨some 0, .assign (.tmp 55), 9, none⟩])
    (.ops [⟨some 56, .move (.tmp 10), 3, none⟩, ⟨some 57, .binOp .add 3 (.tmp 56) (.const (.int .i64 1)) 3, 3, none⟩, ⟨some 10, .assign (.tmp 57), 3, none⟩])))))))))
    (.seq (.ops [⟨some 58, .move (.tmp 9), 85, none⟩, ⟨some 59, .move (.tmp 10), 3, none⟩, ⟨some 60, .move (.tmp 0), 9, none⟩, ⟨some 61, .indexAddr 85 (.tmp 58) (.tmp 59), 0, none⟩, ⟨none, .store 9 (.tmp 61) (.tmp 60), 0, none⟩])
    (.seq (.ops [⟨some 62, .move (.tmp 9), 85, none⟩, ⟨some 63, .move (.tmp 10), 3, none⟩, ⟨some 64, .binOp .add 3 (.tmp 63) (.const (.int .i64 1)) 3, 3, none⟩, ⟨some 65, .slice 85 (.tmp 62) none (some (.tmp 64)) none, 85, none⟩, ⟨some 8, .assign (.tmp 65), 85, none⟩])
    .ret)))))))))))
def pl114 : Nat → Plan := fun _ => .done
theorem st114 : Go.Proofs.Tryz.f114.body.map (strip pl114) = some m114 := by kernel_rfl
theorem ok114 : okB pl114 Go.Proofs.Tryz.f114 4 = true := by kernel_rfl
theorem en114 {v0 v1 v2 v3 w} {Q : Value → World → Prop} (h : mwpB Go.Proofs.Tryz.prog m114 (argEnv [v0, v1, v2, v3]) [] w (fun e ds w => ds = [] ∧ resW Go.Proofs.Tryz.prog [.tmp 8] e w fun v => Q v w) (fun _ _ _ _ => False) (fun e ds w => ds = [] ∧ resW Go.Proofs.Tryz.prog [.tmp 8] e w fun v => Q v w) (fun _ _ _ => False) ⟨⟩) : Rets Go.Proofs.Tryz.prog 114 #[v0, v1, v2, v3] w Q :=
  rets_of_mwp follows_mo Go.Proofs.Tryz.func114 pl114 st114 ok114 (by kernel_rfl) h
/-- strconv.Atoi -/
def m115 : MC := (.seq (.ops [⟨some 2, .assign (.const (.int .i64 0)), 3, none⟩, ⟨some 3, .assign (.const .nilIface), 178, none⟩])
    (.seq (.ops [⟨some 7, .move (.tmp 0), 9, none⟩, ⟨some 8, .call { callee := .value (.func 123), args := #[.tmp 7], argTypes := #[9] }, 179, none⟩, ⟨some 6, .move (.tmp 8), 179, none⟩, ⟨some 9, .extract (.tmp 6) 0, 3, none⟩, ⟨some 10, .extract (.tmp 6) 1, 178, none⟩, ⟨some 4, .assign (.tmp 9), 3, none⟩, ⟨some 5, .assign (.tmp 10), 178, none⟩])
    (.seq (.seq (.ops [⟨some 11, .move (.tmp 5), 178, none⟩, ⟨some 12, .binOp .neq 178 (.tmp 11) (.const .nilIface) 178, 4, none⟩])
    (.cond (.tmp 12) (.seq (.ops [⟨some 13, .move (.tmp 4), 3, none⟩, ⟨some 14, .move (.tmp 0), 9, none⟩, ⟨some 15, .move (.tmp 5), 178, none⟩, ⟨some 16, .call { callee := .value (.func 124), args := #[.const (.string { data := #[65, 116, 111, 105] }), .tmp 14, .const (.int .i64 0), .const (.int .i64 0), .tmp 15], argTypes := #[9, 9, 3, 3, 178] }, 178, none⟩, ⟨some 2, .assign (.tmp 13), 3, none⟩, ⟨some 3, .assign (.tmp 16), 178, none⟩])
    .ret) .skip))
    (.seq (.ops [⟨some 17, .move (.tmp 4), 3, none⟩, ⟨some 2, .assign (.tmp 17), 3, none⟩, ⟨some 3, .assign (.const .nilIface), 178, none⟩])
    .ret))))
def pl115 : Nat → Plan := fun _ => .done
theorem st115 : Go.Proofs.Tryz.f115.body.map (strip pl115) = some m115 := by kernel_rfl
theorem ok115 : okB pl115 Go.Proofs.Tryz.f115 1 = true := by kernel_rfl
theorem en115 {v0 w} {Q : Value → World → Prop} (h : mwpB Go.Proofs.Tryz.prog m115 (argEnv [v0]) [] w (fun e ds w => ds = [] ∧ resW Go.Proofs.Tryz.prog [.tmp 2, .tmp 3] e w fun v => Q v w) (fun _ _ _ _ => False) (fun e ds w => ds = [] ∧ resW Go.Proofs.Tryz.prog [.tmp 2, .tmp 3] e w fun v => Q v w) (fun _ _ _ => False) ⟨⟩) : Rets Go.Proofs.Tryz.prog 115 #[v0] w Q :=
  rets_of_mwp follows_mo Go.Proofs.Tryz.func115 pl115 st115 ok115 (by kernel_rfl) h
/-- internal/strconv.Itoa -/
def m116 : MC := (.seq (.ops [⟨some 2, .assign (.const (.string { data := #[] })), 9, none⟩])
    (.seq (.ops [⟨some 3, .move (.tmp 0), 3, none⟩, ⟨some 4, .call { callee := .value (.func 125), args := #[.tmp 3, .const (.int .i64 10)], argTypes := #[2, 3] }, 9, none⟩, ⟨some 2, .assign (.tmp 4), 9, none⟩])
    .ret))
def pl116 : Nat → Plan := fun _ => .done
theorem st116 : Go.Proofs.Tryz.f116.body.map (strip pl116) = some m116 := by kernel_rfl
theorem ok116 : okB pl116 Go.Proofs.Tryz.f116 1 = true := by kernel_rfl
theorem en116 {v0 w} {Q : Value → World → Prop} (h : mwpB Go.Proofs.Tryz.prog m116 (argEnv [v0]) [] w (fun e ds w => ds = [] ∧ resW Go.Proofs.Tryz.prog [.tmp 2] e w fun v => Q v w) (fun _ _ _ _ => False) (fun e ds w => ds = [] ∧ resW Go.Proofs.Tryz.prog [.tmp 2] e w fun v => Q v w) (fun _ _ _ => False) ⟨⟩) : Rets Go.Proofs.Tryz.prog 116 #[v0] w Q :=
  rets_of_mwp follows_mo Go.Proofs.Tryz.func116 pl116 st116 ok116 (by kernel_rfl) h
/-- (*strings.Builder).Grow -/
def m117 : MC := (.seq (.ops [⟨some 4, .move (.tmp 0), 181, none⟩, ⟨some 5, .call { callee := .value (.func 126), args := #[.tmp 4], argTypes := #[181] }, 0, none⟩])
    (.seq (.seq (.ops [⟨some 6, .move (.tmp 1), 3, none⟩, ⟨some 7, .binOp .lss 3 (.tmp 6) (.const (.int .i64 0)) 3, 4, none⟩])
    (.cond (.tmp 7) (.ops [⟨some 8, .makeInterface 9 (.const (.string { data := #[115, 116, 114, 105, 110, 103, 115, 46, 66, 117, 105, 108, 100, 101, 114, 46, 71, 114, 111, 119, 58, 32, 110, 101, 103, 97, 116, 105, 118, 101, 32, 99, 111, 117, 110, 116] })), 20, none⟩, ⟨none, .panic (.tmp 8), 0, none⟩]) .skip))
    (.seq (.draw (.take ⟨some 9, .move (.tmp 0), 181, none⟩ (.take ⟨some 10, .nilCheck (.tmp 9), 0, none⟩ (.take ⟨some 11, .fieldAddr 184 (.tmp 10) 1, 0, none⟩ (.take ⟨some 12, .load 182 (.tmp 11), 182, none⟩ (.take ⟨some 14, .move (.tmp 0), 181, none⟩ (.take ⟨some 15, .nilCheck (.tmp 14), 0, none⟩ (.take ⟨some 16, .fieldAddr 184 (.tmp 15) 1, 0, none⟩ (.take ⟨some 17, .load 182 (.tmp 16), 182, none⟩ (.take ⟨some 18, .call { callee := .builtin .len, args := #[.tmp 17], argTypes := #[182] }, 3, none⟩ (.take ⟨some 20, .move (.tmp 1), 3, none⟩ (.alt ⟨some 13, .call { callee := .builtin .cap, args := #[.tmp 12], argTypes := #[182] }, 3, none⟩ (.take ⟨some 19, .binOp .sub 3 (.tmp 13) (.tmp 18) 3, 3, none⟩ (.take ⟨some 21, .binOp .lss 3 (.tmp 19) (.tmp 20) 3, 4, none⟩ .done)) .none))))))))))))
    (.cond (.tmp 21) (.ops [⟨some 22, .move (.tmp 0), 181, none⟩, ⟨some 23, .move (.tmp 1), 3, none⟩, ⟨some 24, .call { callee := .value (.func 127), args := #[.tmp 22, .tmp 23], argTypes := #[181, 3] }, 0, none⟩]) .skip))))
def pl117 : Nat → Plan := fun id => if id = 3 then (.take 0 (.take 1 (.take 2 (.take 3 (.take 5 (.take 6 (.take 7 (.take 8 (.take 9 (.take 11 (.alt 4 (.take 10 (.take 12 .done)) .none))))))))))) else .done
theorem st117 : Go.Proofs.Tryz.f117.body.map (strip pl117) = some m117 := by kernel_rfl
theorem ok117 : okB pl117 Go.Proofs.Tryz.f117 2 = true := by kernel_rfl
theorem en117 {v0 v1 w} {Q : Value → World → Prop} (h : mwpB Go.Proofs.Tryz.prog m117 (argEnv [v0, v1]) [] w (fun e ds w => ds = [] ∧ resW Go.Proofs.Tryz.prog [] e w fun v => Q v w) (fun _ _ _ _ => False) (fun e ds w => ds = [] ∧ resW Go.Proofs.Tryz.prog [] e w fun v => Q v w) (fun _ _ _ => False) ⟨⟩) : Rets Go.Proofs.Tryz.prog 117 #[v0, v1] w Q :=
  rets_of_mwp follows_mo Go.Proofs.Tryz.func117 pl117 st117 ok117 (by kernel_rfl) h
/-- (*strings.Builder).WriteString -/
def m118 : MC := (.seq (.ops [⟨some 4, .assign (.const (.int .i64 0)), 3, none⟩, ⟨some 5, .assign (.const .nilIface), 178, none⟩])
    (.seq (.ops [⟨some 6, .move (.tmp 0), 181, none⟩, ⟨some 7, .call { callee := .value (.func 126), args := #[.tmp 6], argTypes := #[181] }, 0, none⟩])
    (.seq (.ops [⟨some 8, .move (.tmp 0), 181, none⟩, ⟨some 9, .move (.tmp 0), 181, none⟩, ⟨some 10, .nilCheck (.tmp 9), 0, none⟩, ⟨some 11, .fieldAddr 184 (.tmp 10) 1, 0, none⟩, ⟨some 12, .load 182 (.tmp 11), 182, none⟩, ⟨some 13, .move (.tmp 1), 9, none⟩, ⟨some 14, .call { callee := .builtin .append, args := #[.tmp 12, .tmp 13], argTypes := #[182, 9] }, 182, none⟩, ⟨some 15, .nilCheck (.tmp 8), 0, none⟩, ⟨some 16, .fieldAddr 184 (.tmp 15) 1, 0, none⟩, ⟨none, .store 182 (.tmp 16) (.tmp 14), 0, none⟩])
    (.seq (.ops [⟨some 17, .move (.tmp 1), 9, none⟩, ⟨some 18, .call { callee := .builtin .len, args := #[.tmp 17], argTypes := #[9] }, 3, none⟩, ⟨some 4, .assign (.tmp 18), 3, none⟩, ⟨some 5, .assign (.const .nilIface), 178, none⟩])
    .ret))))
def pl118 : Nat → Plan := fun _ => .done
theorem st118 : Go.Proofs.Tryz.f118.body.map (strip pl118) = some m118 := by kernel_rfl
theorem ok118 : okB pl118 Go.Proofs.Tryz.f118 2 = true := by kernel_rfl
theorem en118 {v0 v1 w} {Q : Value → World → Prop} (h : mwpB Go.Proofs.Tryz.prog m118 (argEnv [v0, v1]) [] w (fun e ds w => ds = [] ∧ resW Go.Proofs.Tryz.prog [.tmp 4, .tmp 5] e w fun v => Q v w) (fun _ _ _ _ => False) (fun e ds w => ds = [] ∧ resW Go.Proofs.Tryz.prog [.tmp 4, .tmp 5] e w fun v => Q v w) (fun _ _ _ => False) ⟨⟩) : Rets Go.Proofs.Tryz.prog 118 #[v0, v1] w Q :=
  rets_of_mwp follows_mo Go.Proofs.Tryz.func118 pl118 st118 ok118 (by kernel_rfl) h
/-- (*strings.Builder).String -/
def m119 : MC := (.seq (.ops [⟨some 2, .assign (.const (.string { data := #[] })), 9, none⟩])
    (.seq (.draw (.take ⟨some 3, .move (.tmp 0), 181, none⟩ (.take ⟨some 4, .nilCheck (.tmp 3), 0, none⟩ (.take ⟨some 5, .fieldAddr 184 (.tmp 4) 1, 0, none⟩ (.take ⟨some 6, .load 182 (.tmp 5), 182, none⟩ (.take ⟨some 8, .move (.tmp 0), 181, none⟩ (.take ⟨some 9, .nilCheck (.tmp 8), 0, none⟩ (.take ⟨some 10, .fieldAddr 184 (.tmp 9) 1, 0, none⟩ (.take ⟨some 11, .load 182 (.tmp 10), 182, none⟩ (.take ⟨some 12, .call { callee := .builtin .len, args := #[.tmp 11], argTypes := #[182] }, 3, none⟩ (.alt ⟨some 7, .call { callee := .builtin .unsafeSliceData, args := #[.tmp 6], argTypes := #[182] }, 189, none⟩ (.alt ⟨some 13, .call { callee := .builtin .unsafeString, args := #[.tmp 7, .tmp 12], argTypes := #[189, 3] }, 9, none⟩ (.take ⟨some 2, .assign (.tmp 13), 9, none⟩ .done) .none) .none)))))))))))
    .ret))
def pl119 : Nat → Plan := fun id => if id = 1 then (.take 0 (.take 1 (.take 2 (.take 3 (.take 5 (.take 6 (.take 7 (.take 8 (.take 9 (.alt 4 (.alt 10 (.take 11 .done) .none) .none)))))))))) else .done
theorem st119 : Go.Proofs.Tryz.f119.body.map (strip pl119) = some m119 := by kernel_rfl
theorem ok119 : okB pl119 Go.Proofs.Tryz.f119 1 = true := by kernel_rfl
theorem en119 {v0 w} {Q : Value → World → Prop} (h : mwpB Go.Proofs.Tryz.prog m119 (argEnv [v0]) [] w (fun e ds w => ds = [] ∧ resW Go.Proofs.Tryz.prog [.tmp 2] e w fun v => Q v w) (fun _ _ _ _ => False) (fun e ds w => ds = [] ∧ resW Go.Proofs.Tryz.prog [.tmp 2] e w fun v => Q v w) (fun _ _ _ => False) ⟨⟩) : Rets Go.Proofs.Tryz.prog 119 #[v0] w Q :=
  rets_of_mwp follows_mo Go.Proofs.Tryz.func119 pl119 st119 ok119 (by kernel_rfl) h
/-- strings.explode -/
def m120 : MC := (.seq (.ops [⟨some 4, .assign (.const (.slice none 0 0)), 85, none⟩])
    (.seq (.ops [⟨some 10, .move (.tmp 0), 9, none⟩, ⟨some 11, .call { callee := .value (.func 128), args := #[.tmp 10], argTypes := #[9] }, 3, none⟩, ⟨some 5, .assign (.tmp 11), 3, none⟩])
    (.seq (.seq (.ops [⟨some 12, .move (.tmp 1), 3, none⟩, ⟨some 13, .binOp .lss 3 (.tmp 12) (.const (.int .i64 0)) 3, 4, none⟩, ⟨some 14, .move (.tmp 13), 4, none⟩, ⟨some 15, .move (.tmp 1), 3, some (some 14, false)⟩, ⟨some 16, .move (.tmp 5), 3, some (some 14, false)⟩, ⟨some 17, .binOp .gtr 3 (.tmp 15) (.tmp 16) 3, 4, some (some 14, false)⟩, ⟨some 18, .pick (.tmp 14) (.const (.bool true)) (.tmp 17), 4, none⟩])
    (.cond (.tmp 18) (.ops [⟨some 19, .move (.tmp 5), 3, none⟩, ⟨some 1, .assign (.tmp 19), 3, none⟩]) .skip))
    (.seq (.ops [⟨some 20, .move (.tmp 1), 3, none⟩, ⟨some 21, .makeSlice 85 (.tmp 20) (.tmp 20), 85, none⟩, ⟨some 6, .assign (.tmp 21), 85, none⟩])
    (.seq (.seq (.ops [⟨some 7, .assign (.const (.int .i64 0)), 3, none⟩])
    (.block 0 (.loop (.seq (.seq (.ops [⟨some 22, .move (.tmp 7), 3, none⟩, ⟨some 23, .move (.tmp 1), 3, none⟩, ⟨some 24, .binOp .sub 3 (.tmp 23) (.const (.int .i64 1)) 3, 3, none⟩, ⟨some 25, .binOp .lss 3 (.tmp 22) (.tmp 24) 3, 4, none⟩])
    (.cond (.tmp 25) .skip (.exit 0)))
    (.seq (.block 1 (.seq (.ops [⟨some 29, .move (.tmp 0), 9, none⟩, ⟨some 30, .call { callee := .value (.func 129), args := #[.tmp 29], argTypes := #[9] }, 191, none⟩, ⟨some 28, .move (.tmp 30), 191, none⟩, ⟨some 31, .extract (.tmp 28) 0, 21, none⟩, ⟨some 32, .extract (.tmp 28) 1, 3, none⟩, ⟨some 8, .assign (.tmp 31), 21, none⟩, ⟨some 9, .assign (.tmp 32), 3, none⟩])
    (.seq (.ops [⟨some 33, .move (.tmp 6), 85, none⟩, ⟨some 34, .move (.tmp 7), 3, none⟩, ⟨some 35, .move (.tmp 0), 9, none⟩, ⟨some 36, .move (.tmp 9), 3, none⟩, ⟨some 37, .slice 9 (.tmp 35) none (some (.tmp 36)) none, 9, none⟩, ⟨some 38, .indexAddr 85 (.tmp 33) (.tmp 34), 0, none⟩, ⟨none, .store 9 (.tmp 38) (.tmp 37), 0, none⟩])
    (.ops [⟨some 39, .move (.tmp 0), 9, none⟩, ⟨some 40, .move (.tmp 9), 3, none⟩, ⟨some 41, .slice 9 (.tmp 39) (some (.tmp 40)) none none, 9, none⟩, ⟨some 0, .assign (.tmp 41), 9, none⟩]))))
    (.ops [⟨some 26, .move (.tmp 7), 3, none⟩, ⟨some 27, .binOp .add 3 (.tmp 26) (.const (.int .i64 1)) 3, 3, none⟩, ⟨some 7, .assign (.tmp 27), 3, none⟩]))))))
    (.seq (.seq (.ops [⟨some 42, .move (.tmp 1), 3, none⟩, ⟨some 43, .binOp .gtr 3 (.tmp 42) (.const (.int .i64 0)) 3, 4, none⟩])
    (.cond (.tmp 43) (.ops [⟨some 44, .move (.tmp 6), 85, none⟩, ⟨some 45, .move (.tmp 1), 3, none⟩, ⟨some 46, .binOp .sub 3 (.tmp 45) (.const (.int .i64 1)) 3, 3, none⟩, ⟨some 47, .move (.tmp 0), 9, none⟩, ⟨some 48, .indexAddr 85 (.tmp 44) (.tmp 46), 0, none⟩, ⟨none, .store 9 (.tmp 48) (.tmp 47), 0, none⟩]) .skip))
    (.seq (.ops [⟨some 49, .move (.tmp 6), 85, none⟩, ⟨some 4, .assign (.tmp 49), 85, none⟩])
    .ret)))))))
def pl120 : Nat → Plan := fun _ => .done
theorem st120 : Go.Proofs.Tryz.f120.body.map (strip pl120) = some m120 := by kernel_rfl
theorem ok120 : okB pl120 Go.Proofs.Tryz.f120 2 = true := by kernel_rfl
theorem en120 {v0 v1 w} {Q : Value → World → Prop} (h : mwpB Go.Proofs.Tryz.prog m120 (argEnv [v0, v1]) [] w (fun e ds w => ds = [] ∧ resW Go.Proofs.Tryz.prog [.tmp 4] e w fun v => Q v w) (fun _ _ _ _ => False) (fun e ds w => ds = [] ∧ resW Go.Proofs.Tryz.prog [.tmp 4] e w fun v => Q v w) (fun _ _ _ => False) ⟨⟩) : Rets Go.Proofs.Tryz.prog 120 #[v0, v1] w Q :=
  rets_of_mwp follows_mo Go.Proofs.Tryz.func120 pl120 st120 ok120 (by kernel_rfl) h
/-- strings.Count -/
def m121 : MC := (.seq (.ops [⟨some 4, .assign (.const (.int .i64 0)), 3, none⟩])
    (.seq (.seq (.ops [⟨some 7, .move (.tmp 1), 9, none⟩, ⟨some 8, .call { callee := .builtin .len, args := #[.tmp 7], argTypes := #[9] }, 3, none⟩, ⟨some 9, .binOp .eql 3 (.tmp 8) (.const (.int .i64 0)) 3, 4, none⟩])
    (.cond (.tmp 9) (.seq (.ops [⟨some 10, .move (.tmp 0), 9, none⟩, ⟨some 11, .call { callee := .value (.func 128), args := #[.tmp 10], argTypes := #[9] }, 3, none⟩, ⟨some 12, .binOp .add 3 (.tmp 11) (.const (.int .i64 1)) 3, 3, none⟩, ⟨some 4, .assign (.tmp 12), 3, none⟩])
    .ret) .skip))
    (.seq (.seq (.ops [⟨some 13, .move (.tmp 1), 9, none⟩, ⟨some 14, .call { callee := .builtin .len, args := #[.tmp 13], argTypes := #[9] }, 3, none⟩, ⟨some 15, .binOp .eql 3 (.tmp 14) (.const (.int .i64 1)) 3, 4, none⟩])
    (.cond (.tmp 15) (.seq (.ops [⟨some 16, .move (.tmp 0), 9, none⟩, ⟨some 17, .move (.tmp 1), 9, none⟩, ⟨some 18, .index 9 (.tmp 17) (.const (.int .i64 0)), 5, none⟩, ⟨some 19, .call { callee := .value (.func 130), args := #[.tmp 16, .tmp 18], argTypes := #[9, 5] }, 3, none⟩, ⟨some 4, .assign (.tmp 19), 3, none⟩])
    .ret) .skip))
    (.seq (.ops [⟨some 5, .assign (.const (.int .i64 0)), 3, none⟩])
    (.block 0 (.loop (.block 1 (.seq (.ops [⟨some 20, .move (.tmp 0), 9, none⟩, ⟨some 21, .move (.tmp 1), 9, none⟩, ⟨some 22, .call { callee := .value (.func 122), args := #[.tmp 20, .tmp 21], argTypes := #[9, 9] }, 3, none⟩, ⟨some 6, .assign (.tmp 22), 3, none⟩])
    (.seq (.seq (.ops [⟨some 23, .move (.tmp 6), 3, none⟩, ⟨some 24, .binOp .eql 3 (.tmp 23) (.const (.int .i64 (-1))) 3, 4, none⟩])
    (.cond (.tmp 24) (.seq (.ops [⟨some 25, .move (.tmp 5), 3, none⟩, ⟨some 4, .assign (.tmp 25), 3, none⟩])
    .ret) .skip))
    (.seq (.ops [⟨some 26, .move (.tmp 5), 3, none⟩, ⟨some 27, .binOp .add 3 (.tmp 26) (.const (.int .i64 1)) 3, 3, none⟩, ⟨some 5, .assign (.tmp 27), 3, none⟩])
    (.ops [⟨some 28, .move (.tmp 0), 9, none⟩, ⟨some 29, .move (.tmp 6), 3, none⟩, ⟨some 30, .move (.tmp 1), 9, none⟩, ⟨some 31, .call { callee := .builtin .len, args := #[.tmp 30], argTypes := #[9] }, 3, none⟩, ⟨some 32, .binOp .add 3 (.tmp 29) (.tmp 31) 3, 3, none⟩, ⟨some 33, .slice 9 (.tmp 28) (some (.tmp 32)) none none, 9, none⟩, ⟨some 0, .assign (.tmp 33), 9, none⟩])))))))))))
def pl121 : Nat → Plan := fun _ => .done
theorem st121 : Go.Proofs.Tryz.f121.body.map (strip pl121) = some m121 := by kernel_rfl
theorem ok121 : okB pl121 Go.Proofs.Tryz.f121 2 = true := by kernel_rfl
theorem en121 {v0 v1 w} {Q : Value → World → Prop} (h : mwpB Go.Proofs.Tryz.prog m121 (argEnv [v0, v1]) [] w (fun e ds w => ds = [] ∧ resW Go.Proofs.Tryz.prog [.tmp 4] e w fun v => Q v w) (fun _ _ _ _ => False) (fun e ds w => ds = [] ∧ resW Go.Proofs.Tryz.prog [.tmp 4] e w fun v => Q v w) (fun _ _ _ => False) ⟨⟩) : Rets Go.Proofs.Tryz.prog 121 #[v0, v1] w Q :=
  rets_of_mwp follows_mo Go.Proofs.Tryz.func121 pl121 st121 ok121 (by kernel_rfl) h
/-- strings.Index -/
def m122 : MC := (.seq (.ops [⟨some 4, .assign (.const (.int .i64 0)), 3, none⟩])
    (.seq (.ops [⟨some 5, .move (.tmp 0), 9, none⟩, ⟨some 6, .move (.tmp 1), 9, none⟩, ⟨some 7, .call { callee := .value (.func 131), args := #[.tmp 5, .tmp 6], argTypes := #[9, 9] }, 3, none⟩, ⟨some 4, .assign (.tmp 7), 3, none⟩])
    .ret))
def pl122 : Nat → Plan := fun _ => .done
theorem st122 : Go.Proofs.Tryz.f122.body.map (strip pl122) = some m122 := by kernel_rfl
theorem ok122 : okB pl122 Go.Proofs.Tryz.f122 2 = true := by kernel_rfl
theorem en122 {v0 v1 w} {Q : Value → World → Prop} (h : mwpB Go.Proofs.Tryz.prog m122 (argEnv [v0, v1]) [] w (fun e ds w => ds = [] ∧ resW Go.Proofs.Tryz.prog [.tmp 4] e w fun v => Q v w) (fun _ _ _ _ => False) (fun e ds w => ds = [] ∧ resW Go.Proofs.Tryz.prog [.tmp 4] e w fun v => Q v w) (fun _ _ _ => False) ⟨⟩) : Rets Go.Proofs.Tryz.prog 122 #[v0, v1] w Q :=
  rets_of_mwp follows_mo Go.Proofs.Tryz.func122 pl122 st122 ok122 (by kernel_rfl) h
/-- internal/strconv.Atoi -/
def m123 : MC := (.seq (.ops [⟨some 2, .assign (.const (.int .i64 0)), 3, none⟩, ⟨some 3, .assign (.const .nilIface), 178, none⟩])
    (.seq (.ops [⟨some 11, .move (.tmp 0), 9, none⟩, ⟨some 12, .call { callee := .builtin .len, args := #[.tmp 11], argTypes := #[9] }, 3, none⟩, ⟨some 4, .assign (.tmp 12), 3, none⟩])
    (.seq (.seq (.ops [⟨some 13, .move (.const (.bool false)), 4, none⟩, ⟨some 14, .move (.tmp 4), 3, some (some 13, true)⟩, ⟨some 15, .binOp .lss 3 (.const (.int .i64 0)) (.tmp 14) 3, 4, some (some 13, true)⟩, ⟨some 16, .move (.tmp 15), 4, some (some 13, true)⟩, ⟨some 17, .move (.tmp 4), 3, some (some 16, true)⟩, ⟨some 18, .binOp .lss 3 (.tmp 17) (.const (.int .i64 10)) 3, 4, some (some 16, true)⟩, ⟨some 19, .pick (.tmp 16) (.tmp 18) (.const (.bool false)), 4, some (some 13, true)⟩, ⟨some 20, .pick (.tmp 13) (.tmp 19) (.const (.bool false)), 4, none⟩, ⟨some 21, .move (.tmp 20), 4, none⟩, ⟨some 22, .move (.const (.bool true)), 4, some (some 21, false)⟩, ⟨some 23, .move (.tmp 4), 3, some (some 22, true)⟩, ⟨some 24, .binOp .lss 3 (.const (.int .i64 0)) (.tmp 23) 3, 4, some (some 22, true)⟩, ⟨some 25, .move (.tmp 24), 4, some (some 22, true)⟩, ⟨some 26, .move (.tmp 4), 3, some (some 25, true)⟩, ⟨some 27, .binOp .lss 3 (.tmp 26) (.const (.int .i64 19)) 3, 4, some (some 25, true)⟩, ⟨some 28, .pick (.tmp 25) (.tmp 27) (.const (.bool false)), 4, some (some 22, true)⟩, ⟨some 29, .pick (.tmp 22) (.tmp 28) (.const (.bool false)), 4, some (some 21, false)⟩, ⟨some 30, .pick (.tmp 21) (.const (.bool true)) (.tmp 29), 4, none⟩])
    (.cond (.tmp 30) (.seq (.ops [⟨some 31, .move (.tmp 0), 9, none⟩, ⟨some 5, .assign (.tmp 31), 9, none⟩])
    (.seq (.seq (.ops [⟨some 32, .move (.tmp 0), 9, none⟩, ⟨some 33, .index 9 (.tmp 32) (.const (.int .i64 0)), 5, none⟩, ⟨some 34, .binOp .eql 5 (.tmp 33) (.const (.int .u8 45)) 5, 4, none⟩, ⟨some 35, .move (.tmp 34), 4, none⟩, ⟨some 36, .move (.tmp 0), 9, some (some 35, false)⟩, ⟨some 37, .index 9 (.tmp 36) (.const (.int .i64 0)), 5, some (some 35, false)⟩, ⟨some 38, .binOp .eql 5 (.tmp 37) (.const (.int .u8 43)) 5, 4, some (some 35, false)⟩, ⟨some 39, .pick (.tmp 35) (.const (.bool true)) (.tmp 38), 4, none⟩])
    (.cond (.tmp 39) (.seq (.ops [⟨some 40, .move (.tmp 0), 9, none⟩, ⟨some 41, .slice 9 (.tmp 40) (some (.const (.int .i64 1))) none none, 9, none⟩, ⟨some 0, .assign (.tmp 41), 9, none⟩])
    (.seq (.ops [⟨some 42, .move (.tmp 0), 9, none⟩, ⟨some 43, .call { callee := .builtin .len, args := #[.tmp 42], argTypes := #[9] }, 3, none⟩, ⟨some 44, .binOp .lss 3 (.tmp 43) (.const (.int .i64 1)) 3, 4, none⟩])
    (.cond (.tmp 44) (.seq (.ops [⟨some 45, .makeInterface 194 (.const (.int .i64 2)), 178, none⟩, ⟨some 2, .assign (.const (.int .i64 0)), 3, none⟩, ⟨some 3, .assign (.tmp 45), 178, none⟩])
    .ret) .skip))) .skip))
    (.seq (.ops [⟨some 6, .assign (.const (.int .i64 0)), 3, none⟩])
    (.seq (.seq (.ops [⟨some 46, .move (.tmp 0), 9, none⟩, ⟨some 47, .convert 9 182 (.tmp 46), 182, none⟩, ⟨some 48, .call { callee := .builtin .len, args := #[.tmp 47], argTypes := #[182] }, 3, none⟩, ⟨some 49, .move (.const (.int .i64 0)), 3, none⟩])
    (.block 0 (.loop (.seq (.ops [⟨some 50, .binOp .lss 3 (.tmp 49) (.tmp 48) 3, 0, none⟩])
    (.seq (.cond (.tmp 50) .skip (.exit 0))
    (.seq (.block 1 (.seq (.ops [⟨some 51, .indexAddr 182 (.tmp 47) (.tmp 49), 0, none⟩, ⟨some 52, .load 5 (.tmp 51), 5, none⟩, ⟨some 8, .assign (.tmp 52), 5, none⟩])
    (.seq (.ops [⟨some 53, .move (.tmp 8), 5, none⟩, ⟨some 54, .binOp .sub 5 (.tmp 53) (.const (.int .u8 48)) 5, 5, none⟩, ⟨some 8, .assign (.tmp 54), 5, none⟩])
    (.seq (.seq (.ops [⟨some 55, .move (.tmp 8), 5, none⟩, ⟨some 56, .binOp .gtr 5 (.tmp 55) (.const (.int .u8 9)) 5, 4, none⟩])
    (.cond (.tmp 56) (.seq (.ops [⟨some 57, .makeInterface 194 (.const (.int .i64 2)), 178, none⟩, ⟨some 2, .assign (.const (.int .i64 0)), 3, none⟩, ⟨some 3, .assign (.tmp 57), 178, none⟩])
    .ret) .skip))
    (.ops [⟨some 58, .move (.tmp 6), 3, none⟩, ⟨some 59, .binOp .mul 3 (.tmp 58) (.const (.int .i64 10)) 3, 3, none⟩, ⟨some 60, .move (.tmp 8), 5, none⟩, ⟨some 61, .convert 5 3 (.tmp 60), 3, none⟩, ⟨some 62, .binOp .add 3 (.tmp 59) (.tmp 61) 3, 3, none⟩, ⟨some 6, .assign (.tmp 62), 3, none⟩])))))
    (.ops [⟨some 63, .binOp .add 3 (.tmp 49) (.const (.int .i64 1)) 3, 3, none⟩, ⟨some 49, .move (.tmp 63), 3, none⟩])))))))
    (.seq (.seq (.ops [⟨some 64, .move (.tmp 5), 9, none⟩, ⟨some 65, .index 9 (.tmp 64) (.const (.int .i64 0)), 5, none⟩, ⟨some 66, .binOp .eql 5 (.tmp 65) (.const (.int .u8 45)) 5, 4, none⟩])
    (.cond (.tmp 66) (.ops [⟨some 67, .move (.tmp 6), 3, none⟩, ⟨some 68, .unOp .neg 3 (.tmp 67), 3, none⟩, ⟨some 6, .assign (.tmp 68), 3, none⟩]) .skip))
    (.seq (.ops [⟨some 69, .move (.tmp 6), 3, none⟩, ⟨some 2, .assign (.tmp 69), 3, none⟩, ⟨some 3, .assign (.const .nilIface), 178, none⟩])
    .ret)))))) .skip))
    (.seq (.ops [⟨some 71, .move (.tmp 0), 9, none⟩, ⟨some 72, .call { callee := .value (.func 132), args := #[.tmp 71, .const (.int .i64 10), .const (.int .i64 0)], argTypes := #[9, 3, 3] }, 195, none⟩, ⟨some 70, .move (.tmp 72), 195, none⟩, ⟨some 73, .extract (.tmp 70) 0, 2, none⟩, ⟨some 74, .extract (.tmp 70) 1, 178, none⟩, ⟨some 9, .assign (.tmp 73), 2, none⟩, ⟨some 10, .assign (.tmp 74), 178, none⟩])
    (.seq (.ops [⟨some 75, .move (.tmp 9), 2, none⟩, ⟨some 76, .move (.tmp 10), 178, none⟩, ⟨some 2, .assign (.tmp 75), 3, none⟩, ⟨some 3, .assign (.tmp 76), 178, none⟩])
    .ret)))))
def pl123 : Nat → Plan := fun _ => .done
theorem st123 : Go.Proofs.Tryz.f123.body.map (strip pl123) = some m123 := by kernel_rfl
theorem ok123 : okB pl123 Go.Proofs.Tryz.f123 1 = true := by kernel_rfl
theorem en123 {v0 w} {Q : Value → World → Prop} (h : mwpB Go.Proofs.Tryz.prog m123 (argEnv [v0]) [] w (fun e ds w => ds = [] ∧ resW Go.Proofs.Tryz.prog [.tmp 2, .tmp 3] e w fun v => Q v w) (fun _ _ _ _ => False) (fun e ds w => ds = [] ∧ resW Go.Proofs.Tryz.prog [.tmp 2, .tmp 3] e w fun v => Q v w) (fun _ _ _ => False) ⟨⟩) : Rets Go.Proofs.Tryz.prog 123 #[v0] w Q :=
  rets_of_mwp follows_mo Go.Proofs.Tryz.func123 pl123 st123 ok123 (by kernel_rfl) h
/-- strconv.toError -/
def m124 : MC := (.seq (.ops [⟨some 10, .assign (.const .nilIface), 178, none⟩])
    (.seq (.seq (.ops [⟨some 11, .move (.tmp 4), 178, none⟩])
    (.block 0 (.seq (.ops [⟨some 13, .makeInterface 194 (.const (.int .i64 2)), 178, none⟩, ⟨some 14, .binOp .eql 178 (.tmp 11) (.tmp 13) 178, 4, none⟩, ⟨some 12, .assign (.tmp 14), 4, none⟩])
    (.cond (.tmp 12) (.seq (.ops [⟨some 15, .move (.tmp 0), 9, none⟩, ⟨some 16, .move (.tmp 1), 9, none⟩, ⟨some 17, .call { callee := .value (.func 133), args := #[.tmp 15, .tmp 16], argTypes := #[9, 9] }, 197, none⟩, ⟨some 18, .makeInterface 197 (.tmp 17), 178, none⟩, ⟨some 10, .assign (.tmp 18), 178, none⟩])
    .ret) (.seq (.ops [⟨some 20, .makeInterface 194 (.const (.int .i64 1)), 178, none⟩, ⟨some 21, .binOp .eql 178 (.tmp 11) (.tmp 20) 178, 4, none⟩, ⟨some 19, .assign (.tmp 21), 4, none⟩])
    (.cond (.tmp 19) (.seq (.ops [⟨some 22, .move (.tmp 0), 9, none⟩, ⟨some 23, .move (.tmp 1), 9, none⟩, ⟨some 24, .call { callee := .value (.func 134), args := #[.tmp 22, .tmp 23], argTypes := #[9, 9] }, 197, none⟩, ⟨some 25, .makeInterface 197 (.tmp 24), 178, none⟩, ⟨some 10, .assign (.tmp 25), 178, none⟩])
    .ret) (.seq (.ops [⟨some 27, .makeInterface 194 (.const (.int .i64 3)), 178, none⟩, ⟨some 28, .binOp .eql 178 (.tmp 11) (.tmp 27) 178, 4, none⟩, ⟨some 26, .assign (.tmp 28), 4, none⟩])
    (.cond (.tmp 26) (.seq (.ops [⟨some 29, .move (.tmp 0), 9, none⟩, ⟨some 30, .move (.tmp 1), 9, none⟩, ⟨some 31, .move (.tmp 2), 3, none⟩, ⟨some 32, .call { callee := .value (.func 135), args := #[.tmp 29, .tmp 30, .tmp 31], argTypes := #[9, 9, 3] }, 197, none⟩, ⟨some 33, .makeInterface 197 (.tmp 32), 178, none⟩, ⟨some 10, .assign (.tmp 33), 178, none⟩])
    .ret) (.seq (.ops [⟨some 35, .makeInterface 194 (.const (.int .i64 4)), 178, none⟩, ⟨some 36, .binOp .eql 178 (.tmp 11) (.tmp 35) 178, 4, none⟩, ⟨some 34, .assign (.tmp 36), 4, none⟩])
    (.cond (.tmp 34) (.seq (.ops [⟨some 37, .move (.tmp 0), 9, none⟩, ⟨some 38, .move (.tmp 1), 9, none⟩, ⟨some 39, .move (.tmp 3), 3, none⟩, ⟨some 40, .call { callee := .value (.func 136), args := #[.tmp 37, .tmp 38, .tmp 39], argTypes := #[9, 9, 3] }, 197, none⟩, ⟨some 41, .makeInterface 197 (.tmp 40), 178, none⟩, ⟨some 10, .assign (.tmp 41), 178, none⟩])
    .ret) .skip))))))))))
    (.seq (.ops [⟨some 42, .move (.tmp 4), 178, none⟩, ⟨some 10, .assign (.tmp 42), 178, none⟩])
    .ret)))
def pl124 : Nat → Plan := fun _ => .done
theorem st124 : Go.Proofs.Tryz.f124.body.map (strip pl124) = some m124 := by kernel_rfl
theorem ok124 : okB pl124 Go.Proofs.Tryz.f124 5 = true := by kernel_rfl
theorem en124 {v0 v1 v2 v3 v4 w} {Q : Value → World → Prop} (h : mwpB Go.Proofs.Tryz.prog m124 (argEnv [v0, v1, v2, v3, v4]) [] w (fun e ds w => ds = [] ∧ resW Go.Proofs.Tryz.prog [.tmp 10] e w fun v => Q v w) (fun _ _ _ _ => False) (fun e ds w => ds = [] ∧ resW Go.Proofs.Tryz.prog [.tmp 10] e w fun v => Q v w) (fun _ _ _ => False) ⟨⟩) : Rets Go.Proofs.Tryz.prog 124 #[v0, v1, v2, v3, v4] w Q :=
  rets_of_mwp follows_mo Go.Proofs.Tryz.func124 pl124 st124 ok124 (by kernel_rfl) h
/-- internal/strconv.FormatInt -/
def m125 : MC := (.seq (.ops [⟨some 4, .assign (.const (.string { data := #[] })), 9, none⟩])
    (.seq (.seq (.ops [⟨some 10, .move (.tmp 1), 3, none⟩, ⟨some 11, .binOp .eql 3 (.tmp 10) (.const (.int .i64 10)) 3, 4, none⟩])
    (.cond (.tmp 11) (.seq (.seq (.ops [⟨some 12, .move (.tmp 0), 2, none⟩, ⟨some 13, .binOp .leq 2 (.const (.int .i64 0)) (.tmp 12) 2, 4, none⟩, ⟨some 14, .move (.tmp 13), 4, none⟩, ⟨some 15, .move (.tmp 0), 2, some (some 14, true)⟩, ⟨some 16, .binOp .lss 2 (.tmp 15) (.const (.int .i64 100)) 2, 4, some (some 14, true)⟩, ⟨some 17, .pick (.tmp 14) (.tmp 16) (.const (.bool false)), 4, none⟩])
    (.cond (.tmp 17) (.seq (.ops [⟨some 18, .move (.tmp 0), 2, none⟩, ⟨some 19, .call { callee := .value (.func 137), args := #[.tmp 18], argTypes := #[3] }, 9, none⟩, ⟨some 4, .assign (.tmp 19), 9, none⟩])
    .ret) .skip))
    (.seq (.ops [⟨some 5, .alloc 200, 0, none⟩])
    (.seq (.ops [⟨some 20, .move (.tmp 0), 2, none⟩, ⟨some 21, .convert 2 201 (.tmp 20), 201, none⟩, ⟨some 6, .assign (.tmp 21), 201, none⟩])
    (.seq (.seq (.ops [⟨some 22, .move (.tmp 0), 2, none⟩, ⟨some 23, .binOp .lss 2 (.tmp 22) (.const (.int .i64 0)) 2, 4, none⟩])
    (.cond (.tmp 23) (.ops [⟨some 24, .move (.tmp 6), 201, none⟩, ⟨some 25, .unOp .neg 201 (.tmp 24), 201, none⟩, ⟨some 6, .assign (.tmp 25), 201, none⟩]) .skip))
    (.seq (.ops [⟨some 26, .move (.tmp 6), 201, none⟩, ⟨some 27, .call { callee := .value (.func 138), args := #[.tmp 26], argTypes := #[201] }, 3, none⟩, ⟨some 7, .assign (.tmp 27), 3, none⟩])
    (.seq (.ops [⟨some 28, .move (.tmp 7), 3, none⟩, ⟨some 29, .binOp .add 3 (.const (.int .i64 1)) (.tmp 28) 3, 3, none⟩, ⟨some 30, .slice 200 (.tmp 5) (some (.const (.int .i64 1))) (some (.tmp 29)) none, 182, none⟩, ⟨some 31, .move (.tmp 6), 201, none⟩, ⟨some 32, .call { callee := .value (.func 139), args := #[.tmp 30, .tmp 31], argTypes := #[182, 201] }, 0, none⟩])
    (.seq (.seq (.ops [⟨some 33, .move (.tmp 0), 2, none⟩, ⟨some 34, .binOp .lss 2 (.tmp 33) (.const (.int .i64 0)) 2, 4, none⟩])
    (.cond (.tmp 34) (.seq (.ops [⟨some 35, .indexAddr 200 (.tmp 5) (.const (.int .i64 0)), 0, none⟩, ⟨none, .store 5 (.tmp 35) (.const (.int .u8 45)), 0, none⟩])
    (.seq (.ops [⟨some 36, .move (.tmp 7), 3, none⟩, ⟨some 37, .binOp .add 3 (.const (.int .i64 1)) (.tmp 36) 3, 3, none⟩, ⟨some 38, .slice 200 (.tmp 5) none (some (.tmp 37)) none, 182, none⟩, ⟨some 39, .convert 182 9 (.tmp 38), 9, none⟩, ⟨some 4, .assign (.tmp 39), 9, none⟩])
    .ret)) .skip))
    (.seq (.ops [⟨some 40, .move (.tmp 7), 3, none⟩, ⟨some 41, .binOp .add 3 (.const (.int .i64 1)) (.tmp 40) 3, 3, none⟩, ⟨some 42, .slice 200 (.tmp 5) (some (.const (.int .i64 1))) (some (.tmp 41)) none, 182, none⟩, ⟨some 43, .convert 182 9 (.tmp 42), 9, none⟩, ⟨some 4, .assign (.tmp 43), 9, none⟩])
    .ret)))))))) .skip))
    (.seq (.ops [⟨some 45, .move (.tmp 0), 2, none⟩, ⟨some 46, .convert 2 201 (.tmp 45), 201, none⟩, ⟨some 47, .move (.tmp 1), 3, none⟩, ⟨some 48, .move (.tmp 0), 2, none⟩, ⟨some 49, .binOp .lss 2 (.tmp 48) (.const (.int .i64 0)) 2, 4, none⟩, ⟨some 50, .call { callee := .value (.func 140), args := #[.const (.slice none 0 0), .tmp 46, .tmp 47, .tmp 49, .const (.bool false)], argTypes := #[182, 201, 3, 4, 4] }, 204, none⟩, ⟨some 44, .move (.tmp 50), 204, none⟩, ⟨some 51, .extract (.tmp 44) 0, 182, none⟩, ⟨some 52, .extract (.tmp 44) 1, 9, none⟩, ⟨some 8, .assign (.tmp 51), 182, none⟩, ⟨some 9, .assign (.tmp 52), 9, none⟩])
    (.seq (.ops [⟨some 53, .move (.tmp 9), 9, none⟩, ⟨some 4, .assign (.tmp 53), 9, none⟩])
    .ret))))
def pl125 : Nat → Plan := fun _ => .done
theorem st125 : Go.Proofs.Tryz.f125.body.map (strip pl125) = some m125 := by kernel_rfl
theorem ok125 : okB pl125 Go.Proofs.Tryz.f125 2 = true := by kernel_rfl
theorem en125 {v0 v1 w} {Q : Value → World → Prop} (h : mwpB Go.Proofs.Tryz.prog m125 (argEnv [v0, v1]) [] w (fun e ds w => ds = [] ∧ resW Go.Proofs.Tryz.prog [.tmp 4] e w fun v => Q v w) (fun _ _ _ _ => False) (fun e ds w => ds = [] ∧ resW Go.Proofs.Tryz.prog [.tmp 4] e w fun v => Q v w) (fun _ _ _ => False) ⟨⟩) : Rets Go.Proofs.Tryz.prog 125 #[v0, v1] w Q :=
  rets_of_mwp follows_mo Go.Proofs.Tryz.func125 pl125 st125 ok125 (by kernel_rfl) h
/-- (*strings.Builder).copyCheck -/
def m126 : MC := (.seq (.ops [⟨some 2, .move (.tmp 0), 181, none⟩, ⟨some 3, .nilCheck (.tmp 2), 0, none⟩, ⟨some 4, .fieldAddr 184 (.tmp 3) 0, 0, none⟩, ⟨some 5, .load 181 (.tmp 4), 181, none⟩, ⟨some 6, .binOp .eql 181 (.tmp 5) (.const (.pointer none)) 181, 4, none⟩])
    (.cond (.tmp 6) (.ops [⟨some 7, .move (.tmp 0), 181, none⟩, ⟨some 8, .move (.tmp 0), 181, none⟩, ⟨some 9, .convert 181 206 (.tmp 8), 206, none⟩, ⟨some 10, .call { callee := .value (.func 141), args := #[.tmp 9], argTypes := #[206] }, 206, none⟩, ⟨some 11, .convert 206 181 (.tmp 10), 181, none⟩, ⟨some 12, .nilCheck (.tmp 7), 0, none⟩, ⟨some 13, .fieldAddr 184 (.tmp 12) 0, 0, none⟩, ⟨none, .store 181 (.tmp 13) (.tmp 11), 0, none⟩]) (.seq (.ops [⟨some 14, .move (.tmp 0), 181, none⟩, ⟨some 15, .nilCheck (.tmp 14), 0, none⟩, ⟨some 16, .fieldAddr 184 (.tmp 15) 0, 0, none⟩, ⟨some 17, .load 181 (.tmp 16), 181, none⟩, ⟨some 18, .move (.tmp 0), 181, none⟩, ⟨some 19, .binOp .neq 181 (.tmp 17) (.tmp 18) 181, 4, none⟩])
    (.cond (.tmp 19) .bad .skip))))
def pl126 : Nat → Plan := fun _ => .done
theorem st126 : Go.Proofs.Tryz.f126.body.map (strip pl126) = some m126 := by kernel_rfl
theorem ok126 : okB pl126 Go.Proofs.Tryz.f126 1 = true := by kernel_rfl
theorem en126 {v0 w} {Q : Value → World → Prop} (h : mwpB Go.Proofs.Tryz.prog m126 (argEnv [v0]) [] w (fun e ds w => ds = [] ∧ resW Go.Proofs.Tryz.prog [] e w fun v => Q v w) (fun _ _ _ _ => False) (fun e ds w => ds = [] ∧ resW Go.Proofs.Tryz.prog [] e w fun v => Q v w) (fun _ _ _ => False) ⟨⟩) : Rets Go.Proofs.Tryz.prog 126 #[v0] w Q :=
  rets_of_mwp follows_mo Go.Proofs.Tryz.func126 pl126 st126 ok126 (by kernel_rfl) h
/-- (*strings.Builder).grow -/
def m127 : MC := (.seq (.draw (.take ⟨some 5, .move (.tmp 0), 181, none⟩ (.take ⟨some 6, .nilCheck (.tmp 5), 0, none⟩ (.take ⟨some 7, .fieldAddr 184 (.tmp 6) 1, 0, none⟩ (.take ⟨some 8, .load 182 (.tmp 7), 182, none⟩ (.take ⟨some 11, .move (.tmp 1), 3, none⟩ (.take ⟨some 14, .move (.tmp 0), 181, none⟩ (.take ⟨some 15, .nilCheck (.tmp 14), 0, none⟩ (.take ⟨some 16, .fieldAddr 184 (.tmp 15) 1, 0, none⟩ (.take ⟨some 17, .load 182 (.tmp 16), 182, none⟩ (.take ⟨some 18, .call { callee := .builtin .len, args := #[.tmp 17], argTypes := #[182] }, 3, none⟩ (.alt ⟨some 9, .call { callee := .builtin .cap, args := #[.tmp 8], argTypes := #[182] }, 3, none⟩ (.take ⟨some 10, .binOp .mul 3 (.const (.int .i64 2)) (.tmp 9) 3, 3, none⟩ (.take ⟨some 12, .binOp .add 3 (.tmp 10) (.tmp 11) 3, 3, none⟩ (.alt ⟨some 13, .call { callee := .value (.func 142), args := #[.tmp 12], argTypes := #[3] }, 182, none⟩ (.take ⟨some 19, .slice 182 (.tmp 13) none (some (.tmp 18)) none, 182, none⟩ (.take ⟨some 4, .assign (.tmp 19), 182, none⟩ .done)) .none))) .none))))))))))))
    (.seq (.ops [⟨some 20, .move (.tmp 4), 182, none⟩, ⟨some 21, .move (.tmp 0), 181, none⟩, ⟨some 22, .nilCheck (.tmp 21), 0, none⟩, ⟨some 23, .fieldAddr 184 (.tmp 22) 1, 0, none⟩, ⟨some 24, .load 182 (.tmp 23), 182, none⟩, ⟨some 25, .call { callee := .builtin .copy, args := #[.tmp 20, .tmp 24], argTypes := #[182, 182] }, 3, none⟩])
    (.ops [⟨some 26, .move (.tmp 0), 181, none⟩, ⟨some 27, .move (.tmp 4), 182, none⟩, ⟨some 28, .nilCheck (.tmp 26), 0, none⟩, ⟨some 29, .fieldAddr 184 (.tmp 28) 1, 0, none⟩, ⟨none, .store 182 (.tmp 29) (.tmp 27), 0, none⟩])))
def pl127 : Nat → Plan := fun id => if id = 0 then (.take 0 (.take 1 (.take 2 (.take 3 (.take 6 (.take 9 (.take 10 (.take 11 (.take 12 (.take 13 (.alt 4 (.take 5 (.take 7 (.alt 8 (.take 14 (.take 15 .done)) .none))) .none))))))))))) else .done
theorem st127 : Go.Proofs.Tryz.f127.body.map (strip pl127) = some m127 := by kernel_rfl
theorem ok127 : okB pl127 Go.Proofs.Tryz.f127 2 = true := by kernel_rfl
theorem en127 {v0 v1 w} {Q : Value → World → Prop} (h : mwpB Go.Proofs.Tryz.prog m127 (argEnv [v0, v1]) [] w (fun e ds w => ds = [] ∧ resW Go.Proofs.Tryz.prog [] e w fun v => Q v w) (fun _ _ _ _ => False) (fun e ds w => ds = [] ∧ resW Go.Proofs.Tryz.prog [] e w fun v => Q v w) (fun _ _ _ => False) ⟨⟩) : Rets Go.Proofs.Tryz.prog 127 #[v0, v1] w Q :=
  rets_of_mwp follows_mo Go.Proofs.Tryz.func127 pl127 st127 ok127 (by kernel_rfl) h
/-- unicode/utf8.RuneCountInString -/
def m128 : MC := (.seq (.ops [⟨some 2, .assign (.const (.int .i64 0)), 3, none⟩])
    (.seq (.seq (.ops [⟨some 3, .move (.tmp 0), 9, none⟩, ⟨some 4, .range 9 (.tmp 3), 0, none⟩])
    (.block 0 (.loop (.seq (.ops [⟨some 5, .next (.tmp 4) true, 0, none⟩, ⟨some 6, .extract (.tmp 5) 0, 4, none⟩])
    (.seq (.cond (.tmp 6) .skip (.exit 0))
    (.block 1 (.ops [⟨some 7, .move (.tmp 2), 3, none⟩, ⟨some 8, .binOp .add 3 (.tmp 7) (.const (.int .i64 1)) 3, 3, none⟩, ⟨some 2, .assign (.tmp 8), 3, none⟩])))))))
    (.seq (.ops [⟨some 9, .move (.tmp 2), 3, none⟩, ⟨some 2, .assign (.tmp 9), 3, none⟩])
    .ret)))
def pl128 : Nat → Plan := fun _ => .done
theorem st128 : Go.Proofs.Tryz.f128.body.map (strip pl128) = some m128 := by kernel_rfl
theorem ok128 : okB pl128 Go.Proofs.Tryz.f128 1 = true := by kernel_rfl
theorem en128 {v0 w} {Q : Value → World → Prop} (h : mwpB Go.Proofs.Tryz.prog m128 (argEnv [v0]) [] w (fun e ds w => ds = [] ∧ resW Go.Proofs.Tryz.prog [.tmp 2] e w fun v => Q v w) (fun _ _ _ _ => False) (fun e ds w => ds = [] ∧ resW Go.Proofs.Tryz.prog [.tmp 2] e w fun v => Q v w) (fun _ _ _ => False) ⟨⟩) : Rets Go.Proofs.Tryz.prog 128 #[v0] w Q :=
  rets_of_mwp follows_mo Go.Proofs.Tryz.func128 pl128 st128 ok128 (by kernel_rfl) h
/-- unicode/utf8.DecodeRuneInString -/
def m129 : MC := (.seq (.ops [⟨some 2, .assign (.const (.int .i32 0)), 21, none⟩, ⟨some 3, .assign (.const (.int .i64 0)), 3, none⟩])
    (.seq (.seq (.ops [⟨some 4, .move (.tmp 0), 9, none⟩, ⟨some 5, .binOp .neq 9 (.tmp 4) (.const (.string { data := #[] })) 9, 4, none⟩, ⟨some 6, .move (.tmp 5), 4, none⟩, ⟨some 7, .move (.tmp 0), 9, some (some 6, true)⟩, ⟨some 8, .index 9 (.tmp 7) (.const (.int .i64 0)), 5, some (some 6, true)⟩, ⟨some 9, .binOp .lss 5 (.tmp 8) (.const (.int .u8 128)) 5, 4, some (some 6, true)⟩, ⟨some 10, .pick (.tmp 6) (.tmp 9) (.const (.bool false)), 4, none⟩])
    (.cond (.tmp 10) (.seq (.ops [⟨some 11, .move (.tmp 0), 9, none⟩, ⟨some 12, .index 9 (.tmp 11) (.const (.int .i64 0)), 5, none⟩, ⟨some 13, .convert 5 21 (.tmp 12), 21, none⟩, ⟨some 2, .assign (.tmp 13), 21, none⟩, ⟨some 3, .assign (.const (.int .i64 1)), 3, none⟩])
    .ret) (.ops [⟨some 15, .move (.tmp 0), 9, none⟩, ⟨some 16, .call { callee := .value (.func 143), args := #[.tmp 15], argTypes := #[9] }, 191, none⟩, ⟨some 14, .move (.tmp 16), 191, none⟩, ⟨some 17, .extract (.tmp 14) 0, 21, none⟩, ⟨some 18, .extract (.tmp 14) 1, 3, none⟩, ⟨some 2, .assign (.tmp 17), 21, none⟩, ⟨some 3, .assign (.tmp 18), 3, none⟩])))
    .ret))
def pl129 : Nat → Plan := fun _ => .done
theorem st129 : Go.Proofs.Tryz.f129.body.map (strip pl129) = some m129 := by kernel_rfl
theorem ok129 : okB pl129 Go.Proofs.Tryz.f129 1 = true := by kernel_rfl
theorem en129 {v0 w} {Q : Value → World → Prop} (h : mwpB Go.Proofs.Tryz.prog m129 (argEnv [v0]) [] w (fun e ds w => ds = [] ∧ resW Go.Proofs.Tryz.prog [.tmp 2, .tmp 3] e w fun v => Q v w) (fun _ _ _ _ => False) (fun e ds w => ds = [] ∧ resW Go.Proofs.Tryz.prog [.tmp 2, .tmp 3] e w fun v => Q v w) (fun _ _ _ => False) ⟨⟩) : Rets Go.Proofs.Tryz.prog 129 #[v0] w Q :=
  rets_of_mwp follows_mo Go.Proofs.Tryz.func129 pl129 st129 ok129 (by kernel_rfl) h
/-- internal/stringslite.Index -/
def m131 : MC := (.seq (.ops [⟨some 4, .assign (.const (.int .i64 0)), 3, none⟩])
    (.seq (.ops [⟨some 14, .move (.tmp 1), 9, none⟩, ⟨some 15, .call { callee := .builtin .len, args := #[.tmp 14], argTypes := #[9] }, 3, none⟩, ⟨some 5, .assign (.tmp 15), 3, none⟩])
    (.seq (.block 0 (.seq (.ops [⟨some 17, .move (.tmp 5), 3, none⟩, ⟨some 18, .binOp .eql 3 (.tmp 17) (.const (.int .i64 0)) 3, 4, none⟩, ⟨some 19, .move (.tmp 18), 4, none⟩, ⟨some 20, .move (.tmp 1), 9, some (some 19, false)⟩, ⟨some 21, .move (.tmp 0), 9, some (some 19, false)⟩, ⟨some 22, .binOp .eql 9 (.tmp 20) (.tmp 21) 9, 4, some (some 19, false)⟩, ⟨some 23, .pick (.tmp 19) (.const (.bool true)) (.tmp 22), 4, none⟩, ⟨some 16, .assign (.tmp 23), 4, none⟩])
    (.cond (.tmp 16) (.seq (.ops [⟨some 4, .assign (.const (.int .i64 0)), 3, none⟩])
    .ret) (.seq (.ops [⟨some 25, .move (.tmp 5), 3, none⟩, ⟨some 26, .binOp .eql 3 (.tmp 25) (.const (.int .i64 1)) 3, 4, none⟩, ⟨some 24, .assign (.tmp 26), 4, none⟩])
    (.cond (.tmp 24) (.seq (.ops [⟨some 27, .move (.tmp 0), 9, none⟩, ⟨some 28, .move (.tmp 1), 9, none⟩, ⟨some 29, .index 9 (.tmp 28) (.const (.int .i64 0)), 5, none⟩, ⟨some 30, .call { callee := .value (.func 144), args := #[.tmp 27, .tmp 29], argTypes := #[9, 5] }, 3, none⟩, ⟨some 4, .assign (.tmp 30), 3, none⟩])
    .ret) (.seq (.ops [⟨some 32, .move (.tmp 5), 3, none⟩, ⟨some 33, .move (.tmp 0), 9, none⟩, ⟨some 34, .call { callee := .builtin .len, args := #[.tmp 33], argTypes := #[9] }, 3, none⟩, ⟨some 35, .binOp .geq 3 (.tmp 32) (.tmp 34) 3, 4, none⟩, ⟨some 31, .assign (.tmp 35), 4, none⟩])
    (.cond (.tmp 31) (.seq (.ops [⟨some 4, .assign (.const (.int .i64 (-1))), 3, none⟩])
    .ret) (.seq (.ops [⟨some 37, .move (.tmp 5), 3, none⟩, ⟨some 38, .load 3 (.global 0), 3, none⟩, ⟨some 39, .binOp .leq 3 (.tmp 37) (.tmp 38) 3, 4, none⟩, ⟨some 40, .move (.tmp 39), 4, none⟩, ⟨some 41, .move (.tmp 0), 9, some (some 40, true)⟩, ⟨some 42, .call { callee := .builtin .len, args := #[.tmp 41], argTypes := #[9] }, 3, some (some 40, true)⟩, ⟨some 43, .binOp .leq 3 (.tmp 42) (.const (.int .i64 64)) 3, 4, some (some 40, true)⟩, ⟨some 44, .pick (.tmp 40) (.tmp 43) (.const (.bool false)), 4, none⟩, ⟨some 36, .assign (.tmp 44), 4, none⟩])
    (.cond (.tmp 36) (.seq (.ops [⟨some 45, .move (.tmp 0), 9, none⟩, ⟨some 46, .move (.tmp 1), 9, none⟩, ⟨some 47, .call { callee := .value (.func 145), args := #[.tmp 45, .tmp 46], argTypes := #[9, 9] }, 3, none⟩, ⟨some 4, .assign (.tmp 47), 3, none⟩])
    .ret) .skip)))))))))
    (.seq (.ops [⟨some 48, .move (.tmp 1), 9, none⟩, ⟨some 49, .index 9 (.tmp 48) (.const (.int .i64 0)), 5, none⟩, ⟨some 6, .assign (.tmp 49), 5, none⟩])
    (.seq (.ops [⟨some 50, .move (.tmp 1), 9, none⟩, ⟨some 51, .index 9 (.tmp 50) (.const (.int .i64 1)), 5, none⟩, ⟨some 7, .assign (.tmp 51), 5, none⟩])
    (.seq (.ops [⟨some 8, .assign (.const (.int .i64 0)), 3, none⟩])
    (.seq (.ops [⟨some 52, .move (.tmp 0), 9, none⟩, ⟨some 53, .call { callee := .builtin .len, args := #[.tmp 52], argTypes := #[9] }, 3, none⟩, ⟨some 54, .move (.tmp 5), 3, none⟩, ⟨some 55, .binOp .sub 3 (.tmp 53) (.tmp 54) 3, 3, none⟩, ⟨some 56, .binOp .add 3 (.tmp 55) (.const (.int .i64 1)) 3, 3, none⟩, ⟨some 9, .assign (.tmp 56), 3, none⟩])
    (.seq (.ops [⟨some 10, .assign (.const (.int .i64 0)), 3, none⟩])
    (.seq (.block 1 (.loop (.seq (.seq (.ops [⟨some 57, .move (.tmp 8), 3, none⟩, ⟨some 58, .move (.tmp 9), 3, none⟩, ⟨some 59, .binOp .lss 3 (.tmp 57) (.tmp 58) 3, 4, none⟩])
    (.cond (.tmp 59) .skip (.exit 1)))
    (.block 2 (.seq (.seq (.ops [⟨some 60, .move (.tmp 0), 9, none⟩, ⟨some 61, .move (.tmp 8), 3, none⟩, ⟨some 62, .index 9 (.tmp 60) (.tmp 61), 5, none⟩, ⟨some 63, .move (.tmp 6), 5, none⟩, ⟨some 64, .binOp .neq 5 (.tmp 62) (.tmp 63) 5, 4, none⟩])
    (.cond (.tmp 64) (.seq (.ops [⟨some 65, .move (.tmp 0), 9, none⟩, ⟨some 66, .move (.tmp 8), 3, none⟩, ⟨some 67, .binOp .add 3 (.tmp 66) (.const (.int .i64 1)) 3, 3, none⟩, ⟨some 68, .move (.tmp 9), 3, none⟩, ⟨some 69, .slice 9 (.tmp 65) (some (.tmp 67)) (some (.tmp 68)) none, 9, none⟩, ⟨some 70, .move (.tmp 6), 5, none⟩, ⟨some 71, .call { callee := .value (.func 144), args := #[.tmp 69, .tmp 70], argTypes := #[9, 5] }, 3, none⟩, ⟨some 11, .assign (.tmp 71), 3, none⟩])
    (.seq (.seq (.ops [⟨some 72, .move (.tmp 11), 3, none⟩, ⟨some 73, .binOp .lss 3 (.tmp 72) (.const (.int .i64 0)) 3, 4, none⟩])
    (.cond (.tmp 73) (.seq (.ops [⟨some 4, .assign (.const (.int .i64 (-1))), 3, none⟩])
    .ret) .skip))
    (.ops [⟨some 74, .move (.tmp 8), 3, none⟩, ⟨some 75, .move (.tmp 11), 3, none⟩, ⟨some 76, .binOp .add 3 (.tmp 75) (.const (.int .i64 1)) 3, 3, none⟩, ⟨some 77, .binOp .add 3 (.tmp 74) (.tmp 76) 3, 3, none⟩, ⟨some 8, .assign (.tmp 77), 3, none⟩]))) .skip))
    (.seq (.seq (.ops [⟨some 78, .move (.tmp 0), 9, none⟩, ⟨some 79, .move (.tmp 8), 3, none⟩, ⟨some 80, .binOp .add 3 (.tmp 79) (.const (.int .i64 1)) 3, 3, none⟩, ⟨some 81, .index 9 (.tmp 78) (.tmp 80), 5, none⟩, ⟨some 82, .move (.tmp 7), 5, none⟩, ⟨some 83, .binOp .eql 5 (.tmp 81) (.tmp 82) 5, 4, none⟩, ⟨some 84, .move (.tmp 83), 4, none⟩, ⟨some 85, .move (.tmp 0), 9, some (some 84, true)⟩, ⟨some 86, .move (.tmp 8), 3, some (some 84, true)⟩, ⟨some 87, .move (.tmp 8), 3, some (some 84, true)⟩, ⟨some 88, .move (.tmp 5), 3, some (some 84, true)⟩, ⟨some 89, .binOp .add 3 (.tmp 87) (.tmp 88) 3, 3, some (some 84, true)⟩, ⟨some 90, .slice 9 (.tmp 85) (some (.tmp 86)) (some (.tmp 89)) none, 9, some (some 84, true)⟩, ⟨some 91, .move (.tmp 1), 9, some (some 84, true)⟩, ⟨some 92, .binOp .eql 9 (.tmp 90) (.tmp 91) 9, 4, some (some 84, true)⟩, ⟨some 93, .pick (.tmp 84) (.tmp 92) (.const (.bool false)), 4, none⟩])
    (.cond (.tmp 93) (.seq (.ops [⟨some 94, .move (.tmp 8), 3, none⟩, ⟨some 4, .assign (.tmp 94), 3, none⟩])
    .ret) .skip))
    (.seq (.ops [⟨some 95, .move (.tmp 8), 3, none⟩, ⟨some 96, .binOp .add 3 (.tmp 95) (.const (.int .i64 1)) 3, 3, none⟩, ⟨some 8, .assign (.tmp 96), 3, none⟩])
    (.seq (.ops [⟨some 97, .move (.tmp 10), 3, none⟩, ⟨some 98, .binOp .add 3 (.tmp 97) (.const (.int .i64 1)) 3, 3, none⟩, ⟨some 10, .assign (.tmp 98), 3, none⟩])
    (.seq (.ops [⟨some 99, .move (.tmp 5), 3, none⟩, ⟨some 100, .load 3 (.global 0), 3, none⟩, ⟨some 101, .binOp .leq 3 (.tmp 99) (.tmp 100) 3, 4, none⟩, ⟨some 102, .move (.tmp 101), 4, none⟩, ⟨some 103, .move (.tmp 10), 3, some (some 102, true)⟩, ⟨some 104, .move (.tmp 8), 3, some (some 102, true)⟩, ⟨some 105, .call { callee := .value (.func 146), args := #[.tmp 104], argTypes := #[3] }, 3, some (some 102, true)⟩, ⟨some 106, .binOp .gtr 3 (.tmp 103) (.tmp 105) 3, 4, some (some 102, true)⟩, ⟨some 107, .pick (.tmp 102) (.tmp 106) (.const (.bool false)), 4, none⟩])
    (.cond (.tmp 107) (.seq (.ops [⟨some 108, .move (.tmp 0), 9, none⟩, ⟨some 109, .move (.tmp 8), 3, none⟩, ⟨some 110, .slice 9 (.tmp 108) (some (.tmp 109)) none none, 9, none⟩, ⟨some 111, .move (.tmp 1), 9, none⟩, ⟨some 112, .call { callee := .value (.func 145), args := #[.tmp 110, .tmp 111], argTypes := #[9, 9] }, 3, none⟩, ⟨some 12, .assign (.tmp 112), 3, none⟩])
    (.seq (.seq (.ops [⟨some 113, .move (.tmp 12), 3, none⟩, ⟨some 114, .binOp .geq 3 (.tmp 113) (.const (.int .i64 0)) 3, 4, none⟩])
    (.cond (.tmp 114) (.seq (.ops [⟨some 115, .move (.tmp 12), 3, none⟩, ⟨some 116, .move (.tmp 8), 3, none⟩, ⟨some 117, .binOp .add 3 (.tmp 115) (.tmp 116) 3, 3, none⟩, ⟨some 4, .assign (.tmp 117), 3, none⟩])
    .ret) .skip))
    (.seq (.ops [⟨some 4, .assign (.const (.int .i64 (-1))), 3, none⟩])
    .ret))) (.seq (.ops [⟨some 118, .move (.tmp 5), 3, none⟩, ⟨some 119, .load 3 (.global 0), 3, none⟩, ⟨some 120, .binOp .gtr 3 (.tmp 118) (.tmp 119) 3, 4, none⟩, ⟨some 121, .move (.tmp 120), 4, none⟩, ⟨some 122, .move (.tmp 10), 3, some (some 121, true)⟩, ⟨some 123, .move (.tmp 8), 3, some (some 121, true)⟩, ⟨some 124, .binOp .shr 3 (.tmp 123) (.const (.int .u64 4)) 209, 3, some (some 121, true)⟩, ⟨some 125, .binOp .add 3 (.const (.int .i64 4)) (.tmp 124) 3, 3, some (some 121, true)⟩, ⟨some 126, .binOp .geq 3 (.tmp 122) (.tmp 125) 3, 4, some (some 121, true)⟩, ⟨some 127, .pick (.tmp 121) (.tmp 126) (.const (.bool false)), 4, none⟩, ⟨some 128, .move (.tmp 127), 4, none⟩, ⟨some 129, .move (.tmp 8), 3, some (some 128, true)⟩, ⟨some 130, .move (.tmp 9), 3, some (some 128, true)⟩, ⟨some 131, .binOp .lss 3 (.tmp 129) (.tmp 130) 3, 4, some (some 128, true)⟩, ⟨some 132, .pick (.tmp 128) (.tmp 131) (.const (.bool false)), 4, none⟩])
    (.cond (.tmp 132) (.seq (.ops [⟨some 133, .move (.tmp 0), 9, none⟩, ⟨some 134, .move (.tmp 8), 3, none⟩, ⟨some 135, .slice 9 (.tmp 133) (some (.tmp 134)) none none, 9, none⟩, ⟨some 136, .move (.tmp 1), 9, none⟩, ⟨some 137, .call { callee := .value (.func 147), args := #[.tmp 135, .tmp 136], argTypes := #[9, 9] }, 3, none⟩, ⟨some 13, .assign (.tmp 137), 3, none⟩])
    (.seq (.seq (.ops [⟨some 138, .move (.tmp 13), 3, none⟩, ⟨some 139, .binOp .lss 3 (.tmp 138) (.const (.int .i64 0)) 3, 4, none⟩])
    (.cond (.tmp 139) (.seq (.ops [⟨some 4, .assign (.const (.int .i64 (-1))), 3, none⟩])
    .ret) .skip))
    (.seq (.ops [⟨some 140, .move (.tmp 8), 3, none⟩, ⟨some 141, .move (.tmp 13), 3, none⟩, ⟨some 142, .binOp .add 3 (.tmp 140) (.tmp 141) 3, 3, none⟩, ⟨some 4, .assign (.tmp 142), 3, none⟩])
    .ret))) .skip))))))))))))
    (.seq (.ops [⟨some 4, .assign (.const (.int .i64 (-1))), 3, none⟩])
    .ret))))))))))
def pl131 : Nat → Plan := fun _ => .done
theorem st131 : Go.Proofs.Tryz.f131.body.map (strip pl131) = some m131 := by kernel_rfl
theorem ok131 : okB pl131 Go.Proofs.Tryz.f131 2 = true := by kernel_rfl
theorem en131 {v0 v1 w} {Q : Value → World → Prop} (h : mwpB Go.Proofs.Tryz.prog m131 (argEnv [v0, v1]) [] w (fun e ds w => ds = [] ∧ resW Go.Proofs.Tryz.prog [.tmp 4] e w fun v => Q v w) (fun _ _ _ _ => False) (fun e ds w => ds = [] ∧ resW Go.Proofs.Tryz.prog [.tmp 4] e w fun v => Q v w) (fun _ _ _ => False) ⟨⟩) : Rets Go.Proofs.Tryz.prog 131 #[v0, v1] w Q :=
  rets_of_mwp follows_mo Go.Proofs.Tryz.func131 pl131 st131 ok131 (by kernel_rfl) h
/-- internal/strconv.ParseInt -/
def m132 : MC := (.seq (.ops [⟨some 6, .assign (.const (.int .i64 0)), 2, none⟩, ⟨some 7, .assign (.const .nilIface), 178, none⟩])
    (.seq (.seq (.ops [⟨some 12, .move (.tmp 0), 9, none⟩, ⟨some 13, .binOp .eql 9 (.tmp 12) (.const (.string { data := #[] })) 9, 4, none⟩])
    (.cond (.tmp 13) (.seq (.ops [⟨some 14, .makeInterface 194 (.const (.int .i64 2)), 178, none⟩, ⟨some 6, .assign (.const (.int .i64 0)), 2, none⟩, ⟨some 7, .assign (.tmp 14), 178, none⟩])
    .ret) .skip))
    (.seq (.ops [⟨some 8, .assign (.const (.bool false)), 4, none⟩])
    (.seq (.seq (.ops [⟨some 15, .move (.tmp 0), 9, none⟩, ⟨some 16, .index 9 (.tmp 15) (.const (.int .i64 0)), 5, none⟩])
    (.block 0 (.seq (.ops [⟨some 18, .binOp .eql 5 (.tmp 16) (.const (.int .u8 43)) 5, 4, none⟩, ⟨some 17, .assign (.tmp 18), 4, none⟩])
    (.cond (.tmp 17) (.ops [⟨some 19, .move (.tmp 0), 9, none⟩, ⟨some 20, .slice 9 (.tmp 19) (some (.const (.int .i64 1))) none none, 9, none⟩, ⟨some 0, .assign (.tmp 20), 9, none⟩]) (.seq (.ops [⟨some 22, .binOp .eql 5 (.tmp 16) (.const (.int .u8 45)) 5, 4, none⟩, ⟨some 21, .assign (.tmp 22), 4, none⟩])
    (.cond (.tmp 21) (.seq (.ops [⟨some 23, .move (.tmp 0), 9, none⟩, ⟨some 24, .slice 9 (.tmp 23) (some (.const (.int .i64 1))) none none, 9, none⟩, ⟨some 0, .assign (.tmp 24), 9, none⟩])
    (.ops [⟨some 8, .assign (.const (.bool true)), 4, none⟩])) .skip))))))
    (.seq (.ops [⟨some 9, .assign (.const (.int .u64 0)), 201, none⟩])
    (.seq (.ops [⟨some 26, .move (.tmp 0), 9, none⟩, ⟨some 27, .move (.tmp 1), 3, none⟩, ⟨some 28, .move (.tmp 2), 3, none⟩, ⟨some 29, .call { callee := .value (.func 148), args := #[.tmp 26, .tmp 27, .tmp 28], argTypes := #[9, 3, 3] }, 210, none⟩, ⟨some 25, .move (.tmp 29), 210, none⟩, ⟨some 30, .extract (.tmp 25) 0, 201, none⟩, ⟨some 31, .extract (.tmp 25) 1, 178, none⟩, ⟨some 9, .assign (.tmp 30), 201, none⟩, ⟨some 7, .assign (.tmp 31), 178, none⟩])
    (.seq (.seq (.ops [⟨some 32, .move (.tmp 7), 178, none⟩, ⟨some 33, .binOp .neq 178 (.tmp 32) (.const .nilIface) 178, 4, none⟩, ⟨some 34, .move (.tmp 33), 4, none⟩, ⟨some 35, .move (.tmp 7), 178, some (some 34, true)⟩, ⟨some 36, .makeInterface 194 (.const (.int .i64 1)), 178, some (some 34, true)⟩, ⟨some 37, .binOp .neq 178 (.tmp 35) (.tmp 36) 178, 4, some (some 34, true)⟩, ⟨some 38, .pick (.tmp 34) (.tmp 37) (.const (.bool false)), 4, none⟩])
    (.cond (.tmp 38) (.seq (.ops [⟨some 39, .move (.tmp 7), 178, none⟩, ⟨some 6, .assign (.const (.int .i64 0)), 2, none⟩, ⟨some 7, .assign (.tmp 39), 178, none⟩])
    .ret) .skip))
    (.seq (.seq (.ops [⟨some 40, .move (.tmp 2), 3, none⟩, ⟨some 41, .binOp .eql 3 (.tmp 40) (.const (.int .i64 0)) 3, 4, none⟩])
    (.cond (.tmp 41) (.ops [⟨some 2, .assign (.const (.int .i64 64)), 3, none⟩]) .skip))
    (.seq (.ops [⟨some 42, .move (.tmp 2), 3, none⟩, ⟨some 43, .binOp .sub 3 (.tmp 42) (.const (.int .i64 1)) 3, 3, none⟩, ⟨some 44, .convert 3 209 (.tmp 43), 209, none⟩, ⟨some 45, .binOp .shl 201 (.const (.int .u64 1)) (.tmp 44) 209, 201, none⟩, ⟨some 10, .assign (.tmp 45), 201, none⟩])
    (.seq (.seq (.ops [⟨some 46, .move (.tmp 8), 4, none⟩, ⟨some 47, .unOp .not 4 (.tmp 46), 4, none⟩, ⟨some 48, .move (.tmp 47), 4, none⟩, ⟨some 49, .move (.tmp 9), 201, some (some 48, true)⟩, ⟨some 50, .move (.tmp 10), 201, some (some 48, true)⟩, ⟨some 51, .binOp .geq 201 (.tmp 49) (.tmp 50) 201, 4, some (some 48, true)⟩, ⟨some 52, .pick (.tmp 48) (.tmp 51) (.const (.bool false)), 4, none⟩])
    (.cond (.tmp 52) (.seq (.ops [⟨some 53, .move (.tmp 10), 201, none⟩, ⟨some 54, .binOp .sub 201 (.tmp 53) (.const (.int .u64 1)) 201, 201, none⟩, ⟨some 55, .convert 201 2 (.tmp 54), 2, none⟩, ⟨some 56, .makeInterface 194 (.const (.int .i64 1)), 178, none⟩, ⟨some 6, .assign (.tmp 55), 2, none⟩, ⟨some 7, .assign (.tmp 56), 178, none⟩])
    .ret) .skip))
    (.seq (.seq (.ops [⟨some 57, .move (.tmp 8), 4, none⟩, ⟨some 58, .move (.tmp 57), 4, none⟩, ⟨some 59, .move (.tmp 9), 201, some (some 58, true)⟩, ⟨some 60, .move (.tmp 10), 201, some (some 58, true)⟩, ⟨some 61, .binOp .gtr 201 (.tmp 59) (.tmp 60) 201, 4, some (some 58, true)⟩, ⟨some 62, .pick (.tmp 58) (.tmp 61) (.const (.bool false)), 4, none⟩])
    (.cond (.tmp 62) (.seq (.ops [⟨some 63, .move (.tmp 10), 201, none⟩, ⟨some 64, .convert 201 2 (.tmp 63), 2, none⟩, ⟨some 65, .unOp .neg 2 (.tmp 64), 2, none⟩, ⟨some 66, .makeInterface 194 (.const (.int .i64 1)), 178, none⟩, ⟨some 6, .assign (.tmp 65), 2, none⟩, ⟨some 7, .assign (.tmp 66), 178, none⟩])
    .ret) .skip))
    (.seq (.ops [⟨some 67, .move (.tmp 9), 201, none⟩, ⟨some 68, .convert 201 2 (.tmp 67), 2, none⟩, ⟨some 11, .assign (.tmp 68), 2, none⟩])
    (.seq (.seq (.ops [⟨some 69, .move (.tmp 8), 4, none⟩])
    (.cond (.tmp 69) (.ops [⟨some 70, .move (.tmp 11), 2, none⟩, ⟨some 71, .unOp .neg 2 (.tmp 70), 2, none⟩, ⟨some 11, .assign (.tmp 71), 2, none⟩]) .skip))
    (.seq (.ops [⟨some 72, .move (.tmp 11), 2, none⟩, ⟨some 6, .assign (.tmp 72), 2, none⟩, ⟨some 7, .assign (.const .nilIface), 178, none⟩])
    .ret))))))))))))))
def pl132 : Nat → Plan := fun _ => .done
theorem st132 : Go.Proofs.Tryz.f132.body.map (strip pl132) = some m132 := by kernel_rfl
theorem ok132 : okB pl132 Go.Proofs.Tryz.f132 3 = true := by kernel_rfl
theorem en132 {v0 v1 v2 w} {Q : Value → World → Prop} (h : mwpB Go.Proofs.Tryz.prog m132 (argEnv [v0, v1, v2]) [] w (fun e ds w => ds = [] ∧ resW Go.Proofs.Tryz.prog [.tmp 6, .tmp 7] e w fun v => Q v w) (fun _ _ _ _ => False) (fun e ds w => ds = [] ∧ resW Go.Proofs.Tryz.prog [.tmp 6, .tmp 7] e w fun v => Q v w) (fun _ _ _ => False) ⟨⟩) : Rets Go.Proofs.Tryz.prog 132 #[v0, v1, v2] w Q :=
  rets_of_mwp follows_mo Go.Proofs.Tryz.func132 pl132 st132 ok132 (by kernel_rfl) h
/-- strconv.syntaxError -/
def m133 : MC := (.seq (.ops [⟨some 4, .assign (.const (.pointer none)), 197, none⟩])
    (.seq (.draw (.take ⟨some 5, .move (.tmp 0), 9, none⟩ (.take ⟨some 6, .move (.tmp 1), 9, none⟩ (.take ⟨some 8, .load 178 (.global 1), 178, none⟩ (.alt ⟨some 7, .call { callee := .value (.func 149), args := #[.tmp 6], argTypes := #[9] }, 9, none⟩ (.take ⟨some 9, .build 214 #[(0, .tmp 5), (1, .tmp 7), (2, .tmp 8)], 214, none⟩ (.alt ⟨some 10, .box 214 (.tmp 9), 197, none⟩ (.take ⟨some 4, .assign (.tmp 10), 197, none⟩ .done) .none)) .none)))))
    .ret))
def pl133 : Nat → Plan := fun id => if id = 1 then (.take 0 (.take 1 (.take 3 (.alt 2 (.take 4 (.alt 5 (.take 6 .done) .none)) .none)))) else .done
theorem st133 : Go.Proofs.Tryz.f133.body.map (strip pl133) = some m133 := by kernel_rfl
theorem ok133 : okB pl133 Go.Proofs.Tryz.f133 2 = true := by kernel_rfl
theorem en133 {v0 v1 w} {Q : Value → World → Prop} (h : mwpB Go.Proofs.Tryz.prog m133 (argEnv [v0, v1]) [] w (fun e ds w => ds = [] ∧ resW Go.Proofs.Tryz.prog [.tmp 4] e w fun v => Q v w) (fun _ _ _ _ => False) (fun e ds w => ds = [] ∧ resW Go.Proofs.Tryz.prog [.tmp 4] e w fun v => Q v w) (fun _ _ _ => False) ⟨⟩) : Rets Go.Proofs.Tryz.prog 133 #[v0, v1] w Q :=
  rets_of_mwp follows_mo Go.Proofs.Tryz.func133 pl133 st133 ok133 (by kernel_rfl) h
/-- strconv.rangeError -/
def m134 : MC := (.seq (.ops [⟨some 4, .assign (.const (.pointer none)), 197, none⟩])
    (.seq (.draw (.take ⟨some 5, .move (.tmp 0), 9, none⟩ (.take ⟨some 6, .move (.tmp 1), 9, none⟩ (.take ⟨some 8, .load 178 (.global 2), 178, none⟩ (.alt ⟨some 7, .call { callee := .value (.func 149), args := #[.tmp 6], argTypes := #[9] }, 9, none⟩ (.take ⟨some 9, .build 214 #[(0, .tmp 5), (1, .tmp 7), (2, .tmp 8)], 214, none⟩ (.alt ⟨some 10, .box 214 (.tmp 9), 197, none⟩ (.take ⟨some 4, .assign (.tmp 10), 197, none⟩ .done) .none)) .none)))))
    .ret))
def pl134 : Nat → Plan := fun id => if id = 1 then (.take 0 (.take 1 (.take 3 (.alt 2 (.take 4 (.alt 5 (.take 6 .done) .none)) .none)))) else .done
theorem st134 : Go.Proofs.Tryz.f134.body.map (strip pl134) = some m134 := by kernel_rfl
theorem ok134 : okB pl134 Go.Proofs.Tryz.f134 2 = true := by kernel_rfl
theorem en134 {v0 v1 w} {Q : Value → World → Prop} (h : mwpB Go.Proofs.Tryz.prog m134 (argEnv [v0, v1]) [] w (fun e ds w => ds = [] ∧ resW Go.Proofs.Tryz.prog [.tmp 4] e w fun v => Q v w) (fun _ _ _ _ => False) (fun e ds w => ds = [] ∧ resW Go.Proofs.Tryz.prog [.tmp 4] e w fun v => Q v w) (fun _ _ _ => False) ⟨⟩) : Rets Go.Proofs.Tryz.prog 134 #[v0, v1] w Q :=
  rets_of_mwp follows_mo Go.Proofs.Tryz.func134 pl134 st134 ok134 (by kernel_rfl) h
/-- strconv.baseError -/
def m135 : MC := (.seq (.ops [⟨some 6, .assign (.const (.pointer none)), 197, none⟩])
    (.seq (.ops [⟨some 7, .move (.tmp 0), 9, none⟩, ⟨some 8, .move (.tmp 1), 9, none⟩, ⟨some 9, .call { callee := .value (.func 149), args := #[.tmp 8], argTypes := #[9] }, 9, none⟩, ⟨some 10, .move (.tmp 2), 3, none⟩, ⟨some 11, .call { callee := .value (.func 105), args := #[.tmp 10], argTypes := #[3] }, 9, none⟩, ⟨some 12, .binOp .add 9 (.const (.string { data := #[105, 110, 118, 97, 108, 105, 100, 32, 98, 97, 115, 101, 32] })) (.tmp 11) 9, 9, none⟩, ⟨some 13, .call { callee := .value (.func 150), args := #[.tmp 12], argTypes := #[9] }, 178, none⟩, ⟨some 14, .build 214 #[(0, .tmp 7), (1, .tmp 9), (2, .tmp 13)], 214, none⟩, ⟨some 15, .box 214 (.tmp 14), 197, none⟩, ⟨some 6, .assign (.tmp 15), 197, none⟩])
    .ret))
def pl135 : Nat → Plan := fun _ => .done
theorem st135 : Go.Proofs.Tryz.f135.body.map (strip pl135) = some m135 := by kernel_rfl
theorem ok135 : okB pl135 Go.Proofs.Tryz.f135 3 = true := by kernel_rfl
theorem en135 {v0 v1 v2 w} {Q : Value → World → Prop} (h : mwpB Go.Proofs.Tryz.prog m135 (argEnv [v0, v1, v2]) [] w (fun e ds w => ds = [] ∧ resW Go.Proofs.Tryz.prog [.tmp 6] e w fun v => Q v w) (fun _ _ _ _ => False) (fun e ds w => ds = [] ∧ resW Go.Proofs.Tryz.prog [.tmp 6] e w fun v => Q v w) (fun _ _ _ => False) ⟨⟩) : Rets Go.Proofs.Tryz.prog 135 #[v0, v1, v2] w Q :=
  rets_of_mwp follows_mo Go.Proofs.Tryz.func135 pl135 st135 ok135 (by kernel_rfl) h
/-- strconv.bitSizeError -/
def m136 : MC := (.seq (.ops [⟨some 6, .assign (.const (.pointer none)), 197, none⟩])
    (.seq (.ops [⟨some 7, .move (.tmp 0), 9, none⟩, ⟨some 8, .move (.tmp 1), 9, none⟩, ⟨some 9, .call { callee := .value (.func 149), args := #[.tmp 8], argTypes := #[9] }, 9, none⟩, ⟨some 10, .move (.tmp 2), 3, none⟩, ⟨some 11, .call { callee := .value (.func 105), args := #[.tmp 10], argTypes := #[3] }, 9, none⟩, ⟨some 12, .binOp .add 9 (.const (.string { data := #[105, 110, 118, 97, 108, 105, 100, 32, 98, 105, 116, 32, 115, 105, 122, 101, 32] })) (.tmp 11) 9, 9, none⟩, ⟨some 13, .call { callee := .value (.func 150), args := #[.tmp 12], argTypes := #[9] }, 178, none⟩, ⟨some 14, .build 214 #[(0, .tmp 7), (1, .tmp 9), (2, .tmp 13)], 214, none⟩, ⟨some 15, .box 214 (.tmp 14), 197, none⟩, ⟨some 6, .assign (.tmp 15), 197, none⟩])
    .ret))
def pl136 : Nat → Plan := fun _ => .done
theorem st136 : Go.Proofs.Tryz.f136.body.map (strip pl136) = some m136 := by kernel_rfl
theorem ok136 : okB pl136 Go.Proofs.Tryz.f136 3 = true := by kernel_rfl
theorem en136 {v0 v1 v2 w} {Q : Value → World → Prop} (h : mwpB Go.Proofs.Tryz.prog m136 (argEnv [v0, v1, v2]) [] w (fun e ds w => ds = [] ∧ resW Go.Proofs.Tryz.prog [.tmp 6] e w fun v => Q v w) (fun _ _ _ _ => False) (fun e ds w => ds = [] ∧ resW Go.Proofs.Tryz.prog [.tmp 6] e w fun v => Q v w) (fun _ _ _ => False) ⟨⟩) : Rets Go.Proofs.Tryz.prog 136 #[v0, v1, v2] w Q :=
  rets_of_mwp follows_mo Go.Proofs.Tryz.func136 pl136 st136 ok136 (by kernel_rfl) h
/-- internal/strconv.small -/
def m137 : MC := (.seq (.ops [⟨some 2, .assign (.const (.string { data := #[] })), 9, none⟩])
    (.seq (.seq (.ops [⟨some 3, .move (.tmp 0), 3, none⟩, ⟨some 4, .binOp .lss 3 (.tmp 3) (.const (.int .i64 10)) 3, 4, none⟩])
    (.cond (.tmp 4) (.seq (.ops [⟨some 5, .move (.tmp 0), 3, none⟩, ⟨some 6, .move (.tmp 0), 3, none⟩, ⟨some 7, .binOp .add 3 (.tmp 6) (.const (.int .i64 1)) 3, 3, none⟩, ⟨some 8, .slice 9 (.const (.string { data := #[48, 49, 50, 51, 52, 53, 54, 55, 56, 57, 97, 98, 99, 100, 101, 102, 103, 104, 105, 106, 107, 108, 109, 110, 111, 112, 113, 114, 115, 116, 117, 118, 119, 120, 121, 122] })) (some (.tmp 5)) (some (.tmp 7)) none, 9, none⟩, ⟨some 2, .assign (.tmp 8), 9, none⟩])
    .ret) .skip))
    (.seq (.ops [⟨some 9, .move (.tmp 0), 3, none⟩, ⟨some 10, .binOp .mul 3 (.tmp 9) (.const (.int .i64 2)) 3, 3, none⟩, ⟨some 11, .move (.tmp 0), 3, none⟩, ⟨some 12, .binOp .mul 3 (.tmp 11) (.const (.int .i64 2)) 3, 3, none⟩, ⟨some 13, .binOp .add 3 (.tmp 12) (.const (.int .i64 2)) 3, 3, none⟩, ⟨some 14, .slice 9 (.const (.string { data := #[48, 48, 48, 49, 48, 50, 48, 51, 48, 52, 48, 53, 48, 54, 48, 55, 48, 56, 48, 57, 49, 48, 49, 49, 49, 50, 49, 51, 49, 52, 49, 53, 49, 54, 49, 55, 49, 56, 49, 57, 50, 48, 50, 49, 50, 50, 50, 51, 50, 52, 50, 53, 50, 54, 50, 55, 50, 56, 50, 57, 51, 48, 51, 49, 51, 50, 51, 51, 51, 52, 51, 53, 51, 54, 51, 55, 51, 56, 51, 57, 52, 48, 52, 49, 52, 50, 52, 51, 52, 52, 52, 53, 52, 54, 52, 55, 52, 56, 52, 57, 53, 48, 53, 49, 53, 50, 53, 51, 53, 52, 53, 53, 53, 54, 53, 55, 53, 56, 53, 57, 54, 48, 54, 49, 54, 50, 54, 51, 54, 52, 54, 53, 54, 54, 54, 55, 54, 56, 54, 57, 55, 48, 55, 49, 55, 50, 55, 51, 55, 52, 55, 53, 55, 54, 55, 55, 55, 56, 55, 57, 56, 48, 56, 49, 56, 50, 56, 51, 56, 52, 56, 53, 56, 54, 56, 55, 56, 56, 56, 57, 57, 48, 57, 49, 57, 50, 57, 51, 57, 52, 57, 53, 57, 54, 57, 55, 57, 56, 57, 57] })) (some (.tmp 10)) (some (.tmp 13)) none, 9, none⟩, ⟨some 2, .assign (.tmp 14), 9, none⟩])
    .ret)))
def pl137 : Nat → Plan := fun _ => .done
theorem st137 : Go.Proofs.Tryz.f137.body.map (strip pl137) = some m137 := by kernel_rfl
theorem ok137 : okB pl137 Go.Proofs.Tryz.f137 1 = true := by kernel_rfl
theorem en137 {v0 w} {Q : Value → World → Prop} (h : mwpB Go.Proofs.Tryz.prog m137 (argEnv [v0]) [] w (fun e ds w => ds = [] ∧ resW Go.Proofs.Tryz.prog [.tmp 2] e w fun v => Q v w) (fun _ _ _ _ => False) (fun e ds w => ds = [] ∧ resW Go.Proofs.Tryz.prog [.tmp 2] e w fun v => Q v w) (fun _ _ _ => False) ⟨⟩) : Rets Go.Proofs.Tryz.prog 137 #[v0] w Q :=
  rets_of_mwp follows_mo Go.Proofs.Tryz.func137 pl137 st137 ok137 (by kernel_rfl) h
/-- internal/strconv.numDigits -/
def m138 : MC := (.seq (.ops [⟨some 2, .assign (.const (.int .i64 0)), 3, none⟩])
    (.seq (.ops [⟨some 4, .move (.tmp 0), 201, none⟩, ⟨some 5, .call { callee := .value (.func 152), args := #[.tmp 4], argTypes := #[201] }, 3, none⟩, ⟨some 6, .call { callee := .value (.func 151), args := #[.tmp 5], argTypes := #[3] }, 3, none⟩, ⟨some 3, .assign (.tmp 6), 3, none⟩])
    (.seq (.ops [⟨some 7, .move (.tmp 3), 3, none⟩, ⟨some 8, .move (.tmp 0), 201, none⟩, ⟨some 9, .move (.tmp 3), 3, none⟩, ⟨some 10, .indexAddr 217 (.global 3) (.tmp 9), 0, none⟩, ⟨some 11, .load 201 (.tmp 10), 201, none⟩, ⟨some 12, .binOp .geq 201 (.tmp 8) (.tmp 11) 201, 4, none⟩, ⟨some 13, .call { callee := .value (.func 153), args := #[.tmp 12], argTypes := #[4] }, 3, none⟩, ⟨some 14, .binOp .add 3 (.tmp 7) (.tmp 13) 3, 3, none⟩, ⟨some 2, .assign (.tmp 14), 3, none⟩])
    .ret)))
def pl138 : Nat → Plan := fun _ => .done
theorem st138 : Go.Proofs.Tryz.f138.body.map (strip pl138) = some m138 := by kernel_rfl
theorem ok138 : okB pl138 Go.Proofs.Tryz.f138 1 = true := by kernel_rfl
theorem en138 {v0 w} {Q : Value → World → Prop} (h : mwpB Go.Proofs.Tryz.prog m138 (argEnv [v0]) [] w (fun e ds w => ds = [] ∧ resW Go.Proofs.Tryz.prog [.tmp 2] e w fun v => Q v w) (fun _ _ _ _ => False) (fun e ds w => ds = [] ∧ resW Go.Proofs.Tryz.prog [.tmp 2] e w fun v => Q v w) (fun _ _ _ => False) ⟨⟩) : Rets Go.Proofs.Tryz.prog 138 #[v0] w Q :=
  rets_of_mwp follows_mo Go.Proofs.Tryz.func138 pl138 st138 ok138 (by kernel_rfl) h
/-- internal/strconv.formatBase10 -/
def m139 : MC := (.seq (.ops [⟨some 17, .move (.tmp 0), 182, none⟩, ⟨some 18, .call { callee := .builtin .len, args := #[.tmp 17], argTypes := #[182] }, 3, none⟩, ⟨some 4, .assign (.tmp 18), 3, none⟩])
    (.seq (.block 0 (.loop (.seq (.seq (.ops [⟨some 19, .move (.tmp 4), 3, none⟩, ⟨some 20, .binOp .geq 3 (.tmp 19) (.const (.int .i64 8)) 3, 4, none⟩])
    (.cond (.tmp 20) .skip (.exit 0)))
    (.block 1 (.seq (.ops [⟨some 21, .move (.tmp 1), 201, none⟩, ⟨some 22, .binOp .rem 201 (.tmp 21) (.const (.int .u64 100000000)) 201, 201, none⟩, ⟨some 23, .convert 201 218 (.tmp 22), 218, none⟩, ⟨some 5, .assign (.tmp 23), 218, none⟩])
    (.seq (.ops [⟨some 24, .move (.tmp 1), 201, none⟩, ⟨some 25, .binOp .quo 201 (.tmp 24) (.const (.int .u64 100000000)) 201, 201, none⟩, ⟨some 1, .assign (.tmp 25), 201, none⟩])
    (.seq (.ops [⟨some 26, .move (.tmp 5), 218, none⟩, ⟨some 27, .binOp .quo 218 (.tmp 26) (.const (.int .u32 10000)) 218, 218, none⟩, ⟨some 28, .move (.tmp 5), 218, none⟩, ⟨some 29, .binOp .rem 218 (.tmp 28) (.const (.int .u32 10000)) 218, 218, none⟩, ⟨some 6, .assign (.tmp 27), 218, none⟩, ⟨some 7, .assign (.tmp 29), 218, none⟩])
    (.seq (.ops [⟨some 30, .move (.tmp 7), 218, none⟩, ⟨some 31, .binOp .quo 218 (.tmp 30) (.const (.int .u32 100)) 218, 218, none⟩, ⟨some 32, .binOp .mul 218 (.tmp 31) (.const (.int .u32 2)) 218, 218, none⟩, ⟨some 33, .move (.tmp 7), 218, none⟩, ⟨some 34, .binOp .rem 218 (.tmp 33) (.const (.int .u32 100)) 218, 218, none⟩, ⟨some 35, .binOp .mul 218 (.tmp 34) (.const (.int .u32 2)) 218, 218, none⟩, ⟨some 8, .assign (.tmp 32), 218, none⟩, ⟨some 9, .assign (.tmp 35), 218, none⟩])
    (.seq (.ops [⟨some 36, .move (.tmp 6), 218, none⟩, ⟨some 37, .binOp .quo 218 (.tmp 36) (.const (.int .u32 100)) 218, 218, none⟩, ⟨some 38, .binOp .mul 218 (.tmp 37) (.const (.int .u32 2)) 218, 218, none⟩, ⟨some 39, .move (.tmp 6), 218, none⟩, ⟨some 40, .binOp .rem 218 (.tmp 39) (.const (.int .u32 100)) 218, 218, none⟩, ⟨some 41, .binOp .mul 218 (.tmp 40) (.const (.int .u32 2)) 218, 218, none⟩, ⟨some 10, .assign (.tmp 38), 218, none⟩, ⟨some 11, .assign (.tmp 41), 218, none⟩])
    (.seq (.draw (.take ⟨some 42, .move (.tmp 0), 182, none⟩ (.take ⟨some 43, .move (.tmp 4), 3, none⟩ (.take ⟨some 44, .binOp .sub 3 (.tmp 43) (.const (.int .i64 1)) 3, 3, none⟩ (.take ⟨some 45, .move (.tmp 0), 182, none⟩ (.take ⟨some 46, .move (.tmp 4), 3, none⟩ (.take ⟨some 47, .binOp .sub 3 (.tmp 46) (.const (.int .i64 2)) 3, 3, none⟩ (.take ⟨some 48, .move (.tmp 9), 218, none⟩ (.take ⟨some 49, .binOp .add 218 (.tmp 48) (.const (.int .u32 1)) 218, 218, none⟩ (.take ⟨some 50, .index 9 (.const (.string { data := #[48, 48, 48, 49, 48, 50, 48, 51, 48, 52, 48, 53, 48, 54, 48, 55, 48, 56, 48, 57, 49, 48, 49, 49, 49, 50, 49, 51, 49, 52, 49, 53, 49, 54, 49, 55, 49, 56, 49, 57, 50, 48, 50, 49, 50, 50, 50, 51, 50, 52, 50, 53, 50, 54, 50, 55, 50, 56, 50, 57, 51, 48, 51, 49, 51, 50, 51, 51, 51, 52, 51, 53, 51, 54, 51, 55, 51, 56, 51, 57, 52, 48, 52, 49, 52, 50, 52, 51, 52, 52, 52, 53, 52, 54, 52, 55, 52, 56, 52, 57, 53, 48, 53, 49, 53, 50, 53, 51, 53, 52, 53, 53, 53, 54, 53, 55, 53, 56, 53, 57, 54, 48, 54, 49, 54, 50, 54, 51, 54, 52, 54, 53, 54, 54, 54, 55, 54, 56, 54, 57, 55, 48, 55, 49, 55, 50, 55, 51, 55, 52, 55, 53, 55, 54, 55, 55, 55, 56, 55, 57, 56, 48, 56, 49, 56, 50, 56, 51, 56, 52, 56, 53, 56, 54, 56, 55, 56, 56, 56, 57, 57, 48, 57, 49, 57, 50, 57, 51, 57, 52, 57, 53, 57, 54, 57, 55, 57, 56, 57, 57] })) (.tmp 49), 5, none⟩ (.take ⟨some 51, .move (.tmp 9), 218, none⟩ (.take ⟨some 52, .index 9 (.const (.string { data := #[48, 48, 48, 49, 48, 50, 48, 51, 48, 52, 48, 53, 48, 54, 48, 55, 48, 56, 48, 57, 49, 48, 49, 49, 49, 50, 49, 51, 49, 52, 49, 53, 49, 54, 49, 55, 49, 56, 49, 57, 50, 48, 50, 49, 50, 50, 50, 51, 50, 52, 50, 53, 50, 54, 50, 55, 50, 56, 50, 57, 51, 48, 51, 49, 51, 50, 51, 51, 51, 52, 51, 53, 51, 54, 51, 55, 51, 56, 51, 57, 52, 48, 52, 49, 52, 50, 52, 51, 52, 52, 52, 53, 52, 54, 52, 55, 52, 56, 52, 57, 53, 48, 53, 49, 53, 50, 53, 51, 53, 52, 53, 53, 53, 54, 53, 55, 53, 56, 53, 57, 54, 48, 54, 49, 54, 50, 54, 51, 54, 52, 54, 53, 54, 54, 54, 55, 54, 56, 54, 57, 55, 48, 55, 49, 55, 50, 55, 51, 55, 52, 55, 53, 55, 54, 55, 55, 55, 56, 55, 57, 56, 48, 56, 49, 56, 50, 56, 51, 56, 52, 56, 53, 56, 54, 56, 55, 56, 56, 56, 57, 57, 48, 57, 49, 57, 50, 57, 51, 57, 52, 57, 53, 57, 54, 57, 55, 57, 56, 57, 57] })) (.tmp 51), 5, none⟩ (.take ⟨some 53, .indexAddr 182 (.tmp 42) (.tmp 44), 0, none⟩ (.altL ⟨none, .store 5 (.tmp 53) (.tmp 50), 0, none⟩ (.take ⟨some 54, .indexAddr 182 (.tmp 45) (.tmp 47), 0, none⟩ (.altL ⟨none, .store 5 (.tmp 54) (.tmp 52), 0, none⟩ .done .none)) .none))))))))))))))
    (.seq (.draw (.take ⟨some 55, .move (.tmp 0), 182, none⟩ (.take ⟨some 56, .move (.tmp 4), 3, none⟩ (.take ⟨some 57, .binOp .sub 3 (.tmp 56) (.const (.int .i64 3)) 3, 3, none⟩ (.take ⟨some 58, .move (.tmp 0), 182, none⟩ (.take ⟨some 59, .move (.tmp 4), 3, none⟩ (.take ⟨some 60, .binOp .sub 3 (.tmp 59) (.const (.int .i64 4)) 3, 3, none⟩ (.take ⟨some 61, .move (.tmp 8), 218, none⟩ (.take ⟨some 62, .binOp .add 218 (.tmp 61) (.const (.int .u32 1)) 218, 218, none⟩ (.take ⟨some 63, .index 9 (.const (.string { data := #[48, 48, 48, 49, 48, 50, 48, 51, 48, 52, 48, 53, 48, 54, 48, 55, 48, 56, 48, 57, 49, 48, 49, 49, 49, 50, 49, 51, 49, 52, 49, 53, 49, 54, 49, 55, 49, 56, 49, 57, 50, 48, 50, 49, 50, 50, 50, 51, 50, 52, 50, 53, 50, 54, 50, 55, 50, 56, 50, 57, 51, 48, 51, 49, 51, 50, 51, 51, 51, 52, 51, 53, 51, 54, 51, 55, 51, 56, 51, 57, 52, 48, 52, 49, 52, 50, 52, 51, 52, 52, 52, 53, 52, 54, 52, 55, 52, 56, 52, 57, 53, 48, 53, 49, 53, 50, 53, 51, 53, 52, 53, 53, 53, 54, 53, 55, 53, 56, 53, 57, 54, 48, 54, 49, 54, 50, 54, 51, 54, 52, 54, 53, 54, 54, 54, 55, 54, 56, 54, 57, 55, 48, 55, 49, 55, 50, 55, 51, 55, 52, 55, 53, 55, 54, 55, 55, 55, 56, 55, 57, 56, 48, 56, 49, 56, 50, 56, 51, 56, 52, 56, 53, 56, 54, 56, 55, 56, 56, 56, 57, 57, 48, 57, 49, 57, 50, 57, 51, 57, 52, 57, 53, 57, 54, 57, 55, 57, 56, 57, 57] })) (.tmp 62), 5, none⟩ (.take ⟨some 64, .move (.tmp 8), 218, none⟩ (.take ⟨some 65, .index 9 (.const (.string { data := #[48, 48, 48, 49, 48, 50, 48, 51, 48, 52, 48, 53, 48, 54, 48, 55, 48, 56, 48, 57, 49, 48, 49, 49, 49, 50, 49, 51, 49, 52, 49, 53, 49, 54, 49, 55, 49, 56, 49, 57, 50, 48, 50, 49, 50, 50, 50, 51, 50, 52, 50, 53, 50, 54, 50, 55, 50, 56, 50, 57, 51, 48, 51, 49, 51, 50, 51, 51, 51, 52, 51, 53, 51, 54, 51, 55, 51, 56, 51, 57, 52, 48, 52, 49, 52, 50, 52, 51, 52, 52, 52, 53, 52, 54, 52, 55, 52, 56, 52, 57, 53, 48, 53, 49, 53, 50, 53, 51, 53, 52, 53, 53, 53, 54, 53, 55, 53, 56, 53, 57, 54, 48, 54, 49, 54, 50, 54, 51, 54, 52, 54, 53, 54, 54, 54, 55, 54, 56, 54, 57, 55, 48, 55, 49, 55, 50, 55, 51, 55, 52, 55, 53, 55, 54, 55, 55, 55, 56, 55, 57, 56, 48, 56, 49, 56, 50, 56, 51, 56, 52, 56, 53, 56, 54, 56, 55, 56, 56, 56, 57, 57, 48, 57, 49, 57, 50, 57, 51, 57, 52, 57, 53, 57, 54, 57, 55, 57, 56, 57, 57] })) (.tmp 64), 5, none⟩ (.take ⟨some 66, .indexAddr 182 (.tmp 55) (.tmp 57), 0, none⟩ (.altL ⟨none, .store 5 (.tmp 66) (.tmp 63), 0, none⟩ (.take ⟨some 67, .indexAddr 182 (.tmp 58) (.tmp 60), 0, none⟩ (.altL ⟨none, .store 5 (.tmp 67) (.tmp 65), 0, none⟩ .done .none)) .none))))))))))))))
    (.seq (.draw (.take ⟨some 68, .move (.tmp 0), 182, none⟩ (.take ⟨some 69, .move (.tmp 4), 3, none⟩ (.take ⟨some 70, .binOp .sub 3 (.tmp 69) (.const (.int .i64 5)) 3, 3, none⟩ (.take ⟨some 71, .move (.tmp 0), 182, none⟩ (.take ⟨some 72, .move (.tmp 4), 3, none⟩ (.take ⟨some 73, .binOp .sub 3 (.tmp 72) (.const (.int .i64 6)) 3, 3, none⟩ (.take ⟨some 74, .move (.tmp 11), 218, none⟩ (.take ⟨some 75, .binOp .add 218 (.tmp 74) (.const (.int .u32 1)) 218, 218, none⟩ (.take ⟨some 76, .index 9 (.const (.string { data := #[48, 48, 48, 49, 48, 50, 48, 51, 48, 52, 48, 53, 48, 54, 48, 55, 48, 56, 48, 57, 49, 48, 49, 49, 49, 50, 49, 51, 49, 52, 49, 53, 49, 54, 49, 55, 49, 56, 49, 57, 50, 48, 50, 49, 50, 50, 50, 51, 50, 52, 50, 53, 50, 54, 50, 55, 50, 56, 50, 57, 51, 48, 51, 49, 51, 50, 51, 51, 51, 52, 51, 53, 51, 54, 51, 55, 51, 56, 51, 57, 52, 48, 52, 49, 52, 50, 52, 51, 52, 52, 52, 53, 52, 54, 52, 55, 52, 56, 52, 57, 53, 48, 53, 49, 53, 50, 53, 51, 53, 52, 53, 53, 53, 54, 53, 55, 53, 56, 53, 57, 54, 48, 54, 49, 54, 50, 54, 51, 54, 52, 54, 53, 54, 54, 54, 55, 54, 56, 54, 57, 55, 48, 55, 49, 55, 50, 55, 51, 55, 52, 55, 53, 55, 54, 55, 55, 55, 56, 55, 57, 56, 48, 56, 49, 56, 50, 56, 51, 56, 52, 56, 53, 56, 54, 56, 55, 56, 56, 56, 57, 57, 48, 57, 49, 57, 50, 57, 51, 57, 52, 57, 53, 57, 54, 57, 55, 57, 56, 57, 57] })) (.tmp 75), 5, none⟩ (.take ⟨some 77, .move (.tmp 11), 218, none⟩ (.take ⟨some 78, .index 9 (.const (.string { data := #[48, 48, 48, 49, 48, 50, 48, 51, 48, 52, 48, 53, 48, 54, 48, 55, 48, 56, 48, 57, 49, 48, 49, 49, 49, 50, 49, 51, 49, 52, 49, 53, 49, 54, 49, 55, 49, 56, 49, 57, 50, 48, 50, 49, 50, 50, 50, 51, 50, 52, 50, 53, 50, 54, 50, 55, 50, 56, 50, 57, 51, 48, 51, 49, 51, 50, 51, 51, 51, 52, 51, 53, 51, 54, 51, 55, 51, 56, 51, 57, 52, 48, 52, 49, 52, 50, 52, 51, 52, 52, 52, 53, 52, 54, 52, 55, 52, 56, 52, 57, 53, 48, 53, 49, 53, 50, 53, 51, 53, 52, 53, 53, 53, 54, 53, 55, 53, 56, 53, 57, 54, 48, 54, 49, 54, 50, 54, 51, 54, 52, 54, 53, 54, 54, 54, 55, 54, 56, 54, 57, 55, 48, 55, 49, 55, 50, 55, 51, 55, 52, 55, 53, 55, 54, 55, 55, 55, 56, 55, 57, 56, 48, 56, 49, 56, 50, 56, 51, 56, 52, 56, 53, 56, 54, 56, 55, 56, 56, 56, 57, 57, 48, 57, 49, 57, 50, 57, 51, 57, 52, 57, 53, 57, 54, 57, 55, 57, 56, 57, 57] })) (.tmp 77), 5, none⟩ (.take ⟨some 79, .indexAddr 182 (.tmp 68) (.tmp 70), 0, none⟩ (.altL ⟨none, .store 5 (.tmp 79) (.tmp 76), 0, none⟩ (.take ⟨some 80, .indexAddr 182 (.tmp 71) (.tmp 73), 0, none⟩ (.altL ⟨none, .store 5 (.tmp 80) (.tmp 78), 0, none⟩ .done .none)) .none))))))))))))))
    (.seq (.draw (.take ⟨some 81, .move (.tmp 0), 182, none⟩ (.take ⟨some 82, .move (.tmp 4), 3, none⟩ (.take ⟨some 83, .binOp .sub 3 (.tmp 82) (.const (.int .i64 7)) 3, 3, none⟩ (.take ⟨some 84, .move (.tmp 0), 182, none⟩ (.take ⟨some 85, .move (.tmp 4), 3, none⟩ (.take ⟨some 86, .binOp .sub 3 (.tmp 85) (.const (.int .i64 8)) 3, 3, none⟩ (.take ⟨some 87, .move (.tmp 10), 218, none⟩ (.take ⟨some 88, .binOp .add 218 (.tmp 87) (.const (.int .u32 1)) 218, 218, none⟩ (.take ⟨some 89, .index 9 (.const (.string { data := #[48, 48, 48, 49, 48, 50, 48, 51, 48, 52, 48, 53, 48, 54, 48, 55, 48, 56, 48, 57, 49, 48, 49, 49, 49, 50, 49, 51, 49, 52, 49, 53, 49, 54, 49, 55, 49, 56, 49, 57, 50, 48, 50, 49, 50, 50, 50, 51, 50, 52, 50, 53, 50, 54, 50, 55, 50, 56, 50, 57, 51, 48, 51, 49, 51, 50, 51, 51, 51, 52, 51, 53, 51, 54, 51, 55, 51, 56, 51, 57, 52, 48, 52, 49, 52, 50, 52, 51, 52, 52, 52, 53, 52, 54, 52, 55, 52, 56, 52, 57, 53, 48, 53, 49, 53, 50, 53, 51, 53, 52, 53, 53, 53, 54, 53, 55, 53, 56, 53, 57, 54, 48, 54, 49, 54, 50, 54, 51, 54, 52, 54, 53, 54, 54, 54, 55, 54, 56, 54, 57, 55, 48, 55, 49, 55, 50, 55, 51, 55, 52, 55, 53, 55, 54, 55, 55, 55, 56, 55, 57, 56, 48, 56, 49, 56, 50, 56, 51, 56, 52, 56, 53, 56, 54, 56, 55, 56, 56, 56, 57, 57, 48, 57, 49, 57, 50, 57, 51, 57, 52, 57, 53, 57, 54, 57, 55, 57, 56, 57, 57] })) (.tmp 88), 5, none⟩ (.take ⟨some 90, .move (.tmp 10), 218, none⟩ (.take ⟨some 91, .index 9 (.const (.string { data := #[48, 48, 48, 49, 48, 50, 48, 51, 48, 52, 48, 53, 48, 54, 48, 55, 48, 56, 48, 57, 49, 48, 49, 49, 49, 50, 49, 51, 49, 52, 49, 53, 49, 54, 49, 55, 49, 56, 49, 57, 50, 48, 50, 49, 50, 50, 50, 51, 50, 52, 50, 53, 50, 54, 50, 55, 50, 56, 50, 57, 51, 48, 51, 49, 51, 50, 51, 51, 51, 52, 51, 53, 51, 54, 51, 55, 51, 56, 51, 57, 52, 48, 52, 49, 52, 50, 52, 51, 52, 52, 52, 53, 52, 54, 52, 55, 52, 56, 52, 57, 53, 48, 53, 49, 53, 50, 53, 51, 53, 52, 53, 53, 53, 54, 53, 55, 53, 56, 53, 57, 54, 48, 54, 49, 54, 50, 54, 51, 54, 52, 54, 53, 54, 54, 54, 55, 54, 56, 54, 57, 55, 48, 55, 49, 55, 50, 55, 51, 55, 52, 55, 53, 55, 54, 55, 55, 55, 56, 55, 57, 56, 48, 56, 49, 56, 50, 56, 51, 56, 52, 56, 53, 56, 54, 56, 55, 56, 56, 56, 57, 57, 48, 57, 49, 57, 50, 57, 51, 57, 52, 57, 53, 57, 54, 57, 55, 57, 56, 57, 57] })) (.tmp 90), 5, none⟩ (.take ⟨some 92, .indexAddr 182 (.tmp 81) (.tmp 83), 0, none⟩ (.altL ⟨none, .store 5 (.tmp 92) (.tmp 89), 0, none⟩ (.take ⟨some 93, .indexAddr 182 (.tmp 84) (.tmp 86), 0, none⟩ (.altL ⟨none, .store 5 (.tmp 93) (.tmp 91), 0, none⟩ .done .none)) .none))))))))))))))
    (.ops [⟨some 94, .move (.tmp 4), 3, none⟩, ⟨some 95, .binOp .sub 3 (.tmp 94) (.const (.int .i64 8)) 3, 3, none⟩, ⟨some 4, .assign (.tmp 95), 3, none⟩]))))))))))))))
    (.seq (.ops [⟨some 96, .move (.tmp 1), 201, none⟩, ⟨some 97, .convert 201 218 (.tmp 96), 218, none⟩, ⟨some 12, .assign (.tmp 97), 218, none⟩])
    (.seq (.seq (.ops [⟨some 98, .move (.tmp 4), 3, none⟩, ⟨some 99, .binOp .geq 3 (.tmp 98) (.const (.int .i64 4)) 3, 4, none⟩])
    (.cond (.tmp 99) (.seq (.ops [⟨some 100, .move (.tmp 12), 218, none⟩, ⟨some 101, .binOp .rem 218 (.tmp 100) (.const (.int .u32 10000)) 218, 218, none⟩, ⟨some 13, .assign (.tmp 101), 218, none⟩])
    (.seq (.ops [⟨some 102, .move (.tmp 12), 218, none⟩, ⟨some 103, .binOp .quo 218 (.tmp 102) (.const (.int .u32 10000)) 218, 218, none⟩, ⟨some 12, .assign (.tmp 103), 218, none⟩])
    (.seq (.ops [⟨some 104, .move (.tmp 13), 218, none⟩, ⟨some 105, .binOp .quo 218 (.tmp 104) (.const (.int .u32 100)) 218, 218, none⟩, ⟨some 106, .binOp .mul 218 (.tmp 105) (.const (.int .u32 2)) 218, 218, none⟩, ⟨some 107, .move (.tmp 13), 218, none⟩, ⟨some 108, .binOp .rem 218 (.tmp 107) (.const (.int .u32 100)) 218, 218, none⟩, ⟨some 109, .binOp .mul 218 (.tmp 108) (.const (.int .u32 2)) 218, 218, none⟩, ⟨some 14, .assign (.tmp 106), 218, none⟩, ⟨some 15, .assign (.tmp 109), 218, none⟩])
    (.seq (.draw (.take ⟨some 110, .move (.tmp 0), 182, none⟩ (.take ⟨some 111, .move (.tmp 4), 3, none⟩ (.take ⟨some 112, .binOp .sub 3 (.tmp 111) (.const (.int .i64 1)) 3, 3, none⟩ (.take ⟨some 113, .move (.tmp 0), 182, none⟩ (.take ⟨some 114, .move (.tmp 4), 3, none⟩ (.take ⟨some 115, .binOp .sub 3 (.tmp 114) (.const (.int .i64 2)) 3, 3, none⟩ (.take ⟨some 116, .move (.tmp 15), 218, none⟩ (.take ⟨some 117, .binOp .add 218 (.tmp 116) (.const (.int .u32 1)) 218, 218, none⟩ (.take ⟨some 118, .index 9 (.const (.string { data := #[48, 48, 48, 49, 48, 50, 48, 51, 48, 52, 48, 53, 48, 54, 48, 55, 48, 56, 48, 57, 49, 48, 49, 49, 49, 50, 49, 51, 49, 52, 49, 53, 49, 54, 49, 55, 49, 56, 49, 57, 50, 48, 50, 49, 50, 50, 50, 51, 50, 52, 50, 53, 50, 54, 50, 55, 50, 56, 50, 57, 51, 48, 51, 49, 51, 50, 51, 51, 51, 52, 51, 53, 51, 54, 51, 55, 51, 56, 51, 57, 52, 48, 52, 49, 52, 50, 52, 51, 52, 52, 52, 53, 52, 54, 52, 55, 52, 56, 52, 57, 53, 48, 53, 49, 53, 50, 53, 51, 53, 52, 53, 53, 53, 54, 53, 55, 53, 56, 53, 57, 54, 48, 54, 49, 54, 50, 54, 51, 54, 52, 54, 53, 54, 54, 54, 55, 54, 56, 54, 57, 55, 48, 55, 49, 55, 50, 55, 51, 55, 52, 55, 53, 55, 54, 55, 55, 55, 56, 55, 57, 56, 48, 56, 49, 56, 50, 56, 51, 56, 52, 56, 53, 56, 54, 56, 55, 56, 56, 56, 57, 57, 48, 57, 49, 57, 50, 57, 51, 57, 52, 57, 53, 57, 54, 57, 55, 57, 56, 57, 57] })) (.tmp 117), 5, none⟩ (.take ⟨some 119, .move (.tmp 15), 218, none⟩ (.take ⟨some 120, .index 9 (.const (.string { data := #[48, 48, 48, 49, 48, 50, 48, 51, 48, 52, 48, 53, 48, 54, 48, 55, 48, 56, 48, 57, 49, 48, 49, 49, 49, 50, 49, 51, 49, 52, 49, 53, 49, 54, 49, 55, 49, 56, 49, 57, 50, 48, 50, 49, 50, 50, 50, 51, 50, 52, 50, 53, 50, 54, 50, 55, 50, 56, 50, 57, 51, 48, 51, 49, 51, 50, 51, 51, 51, 52, 51, 53, 51, 54, 51, 55, 51, 56, 51, 57, 52, 48, 52, 49, 52, 50, 52, 51, 52, 52, 52, 53, 52, 54, 52, 55, 52, 56, 52, 57, 53, 48, 53, 49, 53, 50, 53, 51, 53, 52, 53, 53, 53, 54, 53, 55, 53, 56, 53, 57, 54, 48, 54, 49, 54, 50, 54, 51, 54, 52, 54, 53, 54, 54, 54, 55, 54, 56, 54, 57, 55, 48, 55, 49, 55, 50, 55, 51, 55, 52, 55, 53, 55, 54, 55, 55, 55, 56, 55, 57, 56, 48, 56, 49, 56, 50, 56, 51, 56, 52, 56, 53, 56, 54, 56, 55, 56, 56, 56, 57, 57, 48, 57, 49, 57, 50, 57, 51, 57, 52, 57, 53, 57, 54, 57, 55, 57, 56, 57, 57] })) (.tmp 119), 5, none⟩ (.take ⟨some 121, .indexAddr 182 (.tmp 110) (.tmp 112), 0, none⟩ (.altL ⟨none, .store 5 (.tmp 121) (.tmp 118), 0, none⟩ (.take ⟨some 122, .indexAddr 182 (.tmp 113) (.tmp 115), 0, none⟩ (.altL ⟨none, .store 5 (.tmp 122) (.tmp 120), 0, none⟩ .done .none)) .none))))))))))))))
    (.seq (.draw (.take ⟨some 123, .move (.tmp 0), 182, none⟩ (.take ⟨some 124, .move (.tmp 4), 3, none⟩ (.take ⟨some 125, .binOp .sub 3 (.tmp 124) (.const (.int .i64 3)) 3, 3, none⟩ (.take ⟨some 126, .move (.tmp 0), 182, none⟩ (.take ⟨some 127, .move (.tmp 4), 3, none⟩ (.take ⟨some 128, .binOp .sub 3 (.tmp 127) (.const (.int .i64 4)) 3, 3, none⟩ (.take ⟨some 129, .move (.tmp 14), 218, none⟩ (.take ⟨some 130, .binOp .add 218 (.tmp 129) (.const (.int .u32 1)) 218, 218, none⟩ (.take ⟨some 131, .index 9 (.const (.string { data := #[48, 48, 48, 49, 48, 50, 48, 51, 48, 52, 48, 53, 48, 54, 48, 55, 48, 56, 48, 57, 49, 48, 49, 49, 49, 50, 49, 51, 49, 52, 49, 53, 49, 54, 49, 55, 49, 56, 49, 57, 50, 48, 50, 49, 50, 50, 50, 51, 50, 52, 50, 53, 50, 54, 50, 55, 50, 56, 50, 57, 51, 48, 51, 49, 51, 50, 51, 51, 51, 52, 51, 53, 51, 54, 51, 55, 51, 56, 51, 57, 52, 48, 52, 49, 52, 50, 52, 51, 52, 52, 52, 53, 52, 54, 52, 55, 52, 56, 52, 57, 53, 48, 53, 49, 53, 50, 53, 51, 53, 52, 53, 53, 53, 54, 53, 55, 53, 56, 53, 57, 54, 48, 54, 49, 54, 50, 54, 51, 54, 52, 54, 53, 54, 54, 54, 55, 54, 56, 54, 57, 55, 48, 55, 49, 55, 50, 55, 51, 55, 52, 55, 53, 55, 54, 55, 55, 55, 56, 55, 57, 56, 48, 56, 49, 56, 50, 56, 51, 56, 52, 56, 53, 56, 54, 56, 55, 56, 56, 56, 57, 57, 48, 57, 49, 57, 50, 57, 51, 57, 52, 57, 53, 57, 54, 57, 55, 57, 56, 57, 57] })) (.tmp 130), 5, none⟩ (.take ⟨some 132, .move (.tmp 14), 218, none⟩ (.take ⟨some 133, .index 9 (.const (.string { data := #[48, 48, 48, 49, 48, 50, 48, 51, 48, 52, 48, 53, 48, 54, 48, 55, 48, 56, 48, 57, 49, 48, 49, 49, 49, 50, 49, 51, 49, 52, 49, 53, 49, 54, 49, 55, 49, 56, 49, 57, 50, 48, 50, 49, 50, 50, 50, 51, 50, 52, 50, 53, 50, 54, 50, 55, 50, 56, 50, 57, 51, 48, 51, 49, 51, 50, 51, 51, 51, 52, 51, 53, 51, 54, 51, 55, 51, 56, 51, 57, 52, 48, 52, 49, 52, 50, 52, 51, 52, 52, 52, 53, 52, 54, 52, 55, 52, 56, 52, 57, 53, 48, 53, 49, 53, 50, 53, 51, 53, 52, 53, 53, 53, 54, 53, 55, 53, 56, 53, 57, 54, 48, 54, 49, 54, 50, 54, 51, 54, 52, 54, 53, 54, 54, 54, 55, 54, 56, 54, 57, 55, 48, 55, 49, 55, 50, 55, 51, 55, 52, 55, 53, 55, 54, 55, 55, 55, 56, 55, 57, 56, 48, 56, 49, 56, 50, 56, 51, 56, 52, 56, 53, 56, 54, 56, 55, 56, 56, 56, 57, 57, 48, 57, 49, 57, 50, 57, 51, 57, 52, 57, 53, 57, 54, 57, 55, 57, 56, 57, 57] })) (.tmp 132), 5, none⟩ (.take ⟨some 134, .indexAddr 182 (.tmp 123) (.tmp 125), 0, none⟩ (.altL ⟨none, .store 5 (.tmp 134) (.tmp 131), 0, none⟩ (.take ⟨some 135, .indexAddr 182 (.tmp 126) (.tmp 128), 0, none⟩ (.altL ⟨none, .store 5 (.tmp 135) (.tmp 133), 0, none⟩ .done .none)) .none))))))))))))))
    (.ops [⟨some 136, .move (.tmp 4), 3, none⟩, ⟨some 137, .binOp .sub 3 (.tmp 136) (.const (.int .i64 4)) 3, 3, none⟩, ⟨some 4, .assign (.tmp 137), 3, none⟩])))))) .skip))
    (.seq (.seq (.ops [⟨some 138, .move (.tmp 4), 3, none⟩, ⟨some 139, .binOp .geq 3 (.tmp 138) (.const (.int .i64 2)) 3, 4, none⟩])
    (.cond (.tmp 139) (.seq (.ops [⟨some 140, .move (.tmp 12), 218, none⟩, ⟨some 141, .binOp .rem 218 (.tmp 140) (.const (.int .u32 100)) 218, 218, none⟩, ⟨some 142, .binOp .mul 218 (.tmp 141) (.const (.int .u32 2)) 218, 218, none⟩, ⟨some 16, .assign (.tmp 142), 218, none⟩])
    (.seq (.ops [⟨some 143, .move (.tmp 12), 218, none⟩, ⟨some 144, .binOp .quo 218 (.tmp 143) (.const (.int .u32 100)) 218, 218, none⟩, ⟨some 12, .assign (.tmp 144), 218, none⟩])
    (.seq (.draw (.take ⟨some 145, .move (.tmp 0), 182, none⟩ (.take ⟨some 146, .move (.tmp 4), 3, none⟩ (.take ⟨some 147, .binOp .sub 3 (.tmp 146) (.const (.int .i64 1)) 3, 3, none⟩ (.take ⟨some 148, .move (.tmp 0), 182, none⟩ (.take ⟨some 149, .move (.tmp 4), 3, none⟩ (.take ⟨some 150, .binOp .sub 3 (.tmp 149) (.const (.int .i64 2)) 3, 3, none⟩ (.take ⟨some 151, .move (.tmp 16), 218, none⟩ (.take ⟨some 152, .binOp .add 218 (.tmp 151) (.const (.int .u32 1)) 218, 218, none⟩ (.take ⟨some 153, .index 9 (.const (.string { data := #[48, 48, 48, 49, 48, 50, 48, 51, 48, 52, 48, 53, 48, 54, 48, 55, 48, 56, 48, 57, 49, 48, 49, 49, 49, 50, 49, 51, 49, 52, 49, 53, 49, 54, 49, 55, 49, 56, 49, 57, 50, 48, 50, 49, 50, 50, 50, 51, 50, 52, 50, 53, 50, 54, 50, 55, 50, 56, 50, 57, 51, 48, 51, 49, 51, 50, 51, 51, 51, 52, 51, 53, 51, 54, 51, 55, 51, 56, 51, 57, 52, 48, 52, 49, 52, 50, 52, 51, 52, 52, 52, 53, 52, 54, 52, 55, 52, 56, 52, 57, 53, 48, 53, 49, 53, 50, 53, 51, 53, 52, 53, 53, 53, 54, 53, 55, 53, 56, 53, 57, 54, 48, 54, 49, 54, 50, 54, 51, 54, 52, 54, 53, 54, 54, 54, 55, 54, 56, 54, 57, 55, 48, 55, 49, 55, 50, 55, 51, 55, 52, 55, 53, 55, 54, 55, 55, 55, 56, 55, 57, 56, 48, 56, 49, 56, 50, 56, 51, 56, 52, 56, 53, 56, 54, 56, 55, 56, 56, 56, 57, 57, 48, 57, 49, 57, 50, 57, 51, 57, 52, 57, 53, 57, 54, 57, 55, 57, 56, 57, 57] })) (.tmp 152), 5, none⟩ (.take ⟨some 154, .move (.tmp 16), 218, none⟩ (.take ⟨some 155, .index 9 (.const (.string { data := #[48, 48, 48, 49, 48, 50, 48, 51, 48, 52, 48, 53, 48, 54, 48, 55, 48, 56, 48, 57, 49, 48, 49, 49, 49, 50, 49, 51, 49, 52, 49, 53, 49, 54, 49, 55, 49, 56, 49, 57, 50, 48, 50, 49, 50, 50, 50, 51, 50, 52, 50, 53, 50, 54, 50, 55, 50, 56, 50, 57, 51, 48, 51, 49, 51, 50, 51, 51, 51, 52, 51, 53, 51, 54, 51, 55, 51, 56, 51, 57, 52, 48, 52, 49, 52, 50, 52, 51, 52, 52, 52, 53, 52, 54, 52, 55, 52, 56, 52, 57, 53, 48, 53, 49, 53, 50, 53, 51, 53, 52, 53, 53, 53, 54, 53, 55, 53, 56, 53, 57, 54, 48, 54, 49, 54, 50, 54, 51, 54, 52, 54, 53, 54, 54, 54, 55, 54, 56, 54, 57, 55, 48, 55, 49, 55, 50, 55, 51, 55, 52, 55, 53, 55, 54, 55, 55, 55, 56, 55, 57, 56, 48, 56, 49, 56, 50, 56, 51, 56, 52, 56, 53, 56, 54, 56, 55, 56, 56, 56, 57, 57, 48, 57, 49, 57, 50, 57, 51, 57, 52, 57, 53, 57, 54, 57, 55, 57, 56, 57, 57] })) (.tmp 154), 5, none⟩ (.take ⟨some 156, .indexAddr 182 (.tmp 145) (.tmp 147), 0, none⟩ (.altL ⟨none, .store 5 (.tmp 156) (.tmp 153), 0, none⟩ (.take ⟨some 157, .indexAddr 182 (.tmp 148) (.tmp 150), 0, none⟩ (.altL ⟨none, .store 5 (.tmp 157) (.tmp 155), 0, none⟩ .done .none)) .none))))))))))))))
    (.ops [⟨some 158, .move (.tmp 4), 3, none⟩, ⟨some 159, .binOp .sub 3 (.tmp 158) (.const (.int .i64 2)) 3, 3, none⟩, ⟨some 4, .assign (.tmp 159), 3, none⟩])))) .skip))
    (.seq (.ops [⟨some 160, .move (.tmp 4), 3, none⟩, ⟨some 161, .binOp .gtr 3 (.tmp 160) (.const (.int .i64 0)) 3, 4, none⟩])
    (.cond (.tmp 161) (.ops [⟨some 162, .move (.tmp 0), 182, none⟩, ⟨some 163, .move (.tmp 12), 218, none⟩, ⟨some 164, .binOp .add 218 (.const (.int .u32 48)) (.tmp 163) 218, 218, none⟩, ⟨some 165, .convert 218 5 (.tmp 164), 5, none⟩, ⟨some 166, .indexAddr 182 (.tmp 162) (.const (.int .i64 0)), 0, none⟩, ⟨none, .store 5 (.tmp 166) (.tmp 165), 0, none⟩]) .skip)))))))
def pl139 : Nat → Plan := fun id => if id = 7 then (.take 0 (.take 1 (.take 2 (.take 3 (.take 4 (.take 5 (.take 6 (.take 7 (.take 8 (.take 9 (.take 10 (.take 11 (.altL 12 (.take 13 (.altL 14 .done .none)) .none))))))))))))) else if id = 8 then (.take 0 (.take 1 (.take 2 (.take 3 (.take 4 (.take 5 (.take 6 (.take 7 (.take 8 (.take 9 (.take 10 (.take 11 (.altL 12 (.take 13 (.altL 14 .done .none)) .none))))))))))))) else if id = 9 then (.take 0 (.take 1 (.take 2 (.take 3 (.take 4 (.take 5 (.take 6 (.take 7 (.take 8 (.take 9 (.take 10 (.take 11 (.altL 12 (.take 13 (.altL 14 .done .none)) .none))))))))))))) else if id = 10 then (.take 0 (.take 1 (.take 2 (.take 3 (.take 4 (.take 5 (.take 6 (.take 7 (.take 8 (.take 9 (.take 10 (.take 11 (.altL 12 (.take 13 (.altL 14 .done .none)) .none))))))))))))) else if id = 17 then (.take 0 (.take 1 (.take 2 (.take 3 (.take 4 (.take 5 (.take 6 (.take 7 (.take 8 (.take 9 (.take 10 (.take 11 (.altL 12 (.take 13 (.altL 14 .done .none)) .none))))))))))))) else if id = 18 then (.take 0 (.take 1 (.take 2 (.take 3 (.take 4 (.take 5 (.take 6 (.take 7 (.take 8 (.take 9 (.take 10 (.take 11 (.altL 12 (.take 13 (.altL 14 .done .none)) .none))))))))))))) else if id = 23 then (.take 0 (.take 1 (.take 2 (.take 3 (.take 4 (.take 5 (.take 6 (.take 7 (.take 8 (.take 9 (.take 10 (.take 11 (.altL 12 (.take 13 (.altL 14 .done .none)) .none))))))))))))) else .done
theorem st139 : Go.Proofs.Tryz.f139.body.map (strip pl139) = some m139 := by kernel_rfl
theorem ok139 : okB pl139 Go.Proofs.Tryz.f139 2 = true := by kernel_rfl
theorem en139 {v0 v1 w} {Q : Value → World → Prop} (h : mwpB Go.Proofs.Tryz.prog m139 (argEnv [v0, v1]) [] w (fun e ds w => ds = [] ∧ resW Go.Proofs.Tryz.prog [] e w fun v => Q v w) (fun _ _ _ _ => False) (fun e ds w => ds = [] ∧ resW Go.Proofs.Tryz.prog [] e w fun v => Q v w) (fun _ _ _ => False) ⟨⟩) : Rets Go.Proofs.Tryz.prog 139 #[v0, v1] w Q :=
  rets_of_mwp follows_mo Go.Proofs.Tryz.func139 pl139 st139 ok139 (by kernel_rfl) h
end Go.Proofs.YtefcfnmmpnjjjaaGreatDoor
