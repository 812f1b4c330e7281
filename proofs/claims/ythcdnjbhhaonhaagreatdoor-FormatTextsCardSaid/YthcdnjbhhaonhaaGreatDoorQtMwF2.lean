/- The functions, stripped. -/
import Derived.Test.YthcdnjbhhaonhaaGreatDoorQtMwT
import Derived.Test.YthcdnjbhhaonhaaGreatDoorQtMwIn


namespace Go.Proofs.YthcdnjbhhaonhaaGreatDoor
open Go.RowKit
set_option maxRecDepth 100000
/-- (continuo/format.list).has -/
def m227 : MC := (.seq (.ops [⟨some 4, .assign (.const (.bool false)), 4, none⟩])
    (.seq (.ops [⟨some 5, .move (.tmp 0), 110, none⟩, ⟨some 6, .move (.tmp 1), 3, none⟩, ⟨some 7, .call { callee := .value (.func 230), args := #[.tmp 5, .tmp 6], argTypes := #[110, 3] }, 4, none⟩, ⟨some 4, .assign (.tmp 7), 4, none⟩])
    .ret))
def pl227 : Nat → Plan := fun _ => .done
theorem st227 : Go.Proofs.Tryz.f227.body.map (strip pl227) = some m227 := by kernel_rfl
theorem ok227 : okB pl227 Go.Proofs.Tryz.f227 2 = true := by kernel_rfl
theorem en227 {v0 v1 w} {Q : Value → World → Prop} (h : mwpB Go.Proofs.Tryz.prog m227 (argEnv [v0, v1]) [] w (fun e ds w => ds = [] ∧ resW Go.Proofs.Tryz.prog [.tmp 4] e w fun v => Q v w) (fun _ _ _ _ => False) (fun e ds w => ds = [] ∧ resW Go.Proofs.Tryz.prog [.tmp 4] e w fun v => Q v w) (fun _ _ _ _ => False) ⟨⟩) : Rets Go.Proofs.Tryz.prog 227 #[v0, v1] w Q :=
  rets_of_mwp follows_mo Go.Proofs.Tryz.func227 pl227 st227 ok227 (by kernel_rfl) h
/-- (continuo/format.list).right -/
def m228 : MC := (.seq (.ops [⟨some 2, .assign (.const (.bool false)), 4, none⟩])
    (.seq (.ops [⟨some 6, .makeMap 202 none, 202, none⟩, ⟨some 3, .assign (.tmp 6), 202, none⟩])
    (.seq (.seq (.ops [⟨some 7, .move (.tmp 0), 110, none⟩, ⟨some 8, .call { callee := .builtin .len, args := #[.tmp 7], argTypes := #[110] }, 3, none⟩, ⟨some 9, .move (.const (.int .i64 0)), 3, none⟩])
    (.block 0 (.loop (.seq (.ops [⟨some 10, .binOp .lss 3 (.tmp 9) (.tmp 8) 3, 0, none⟩])
    (.seq (.cond (.tmp 10) .skip (.exit 0))
    (.seq (.block 1 (.seq (.ops [⟨some 11, .indexAddr 110 (.tmp 7) (.tmp 9), 0, none⟩, ⟨some 12, .load 3 (.tmp 11), 3, none⟩, ⟨some 5, .assign (.tmp 12), 3, none⟩])
    (.seq (.seq (.ops [⟨some 13, .move (.tmp 3), 202, none⟩, ⟨some 14, .move (.tmp 5), 3, none⟩, ⟨some 15, .lookup 202 (.tmp 13) (.tmp 14) false, 4, none⟩, ⟨some 16, .move (.tmp 15), 4, none⟩, ⟨some 17, .move (.tmp 5), 3, some (some 16, false)⟩, ⟨some 18, .binOp .lss 3 (.tmp 17) (.const (.int .i64 0)) 3, 4, some (some 16, false)⟩, ⟨some 19, .pick (.tmp 16) (.const (.bool true)) (.tmp 18), 4, none⟩, ⟨some 20, .move (.tmp 19), 4, none⟩, ⟨some 21, .move (.tmp 5), 3, some (some 20, false)⟩, ⟨some 22, .binOp .gtr 3 (.tmp 21) (.const (.int .i64 1000000000)) 3, 4, some (some 20, false)⟩, ⟨some 23, .pick (.tmp 20) (.const (.bool true)) (.tmp 22), 4, none⟩])
    (.cond (.tmp 23) (.seq (.ops [⟨some 2, .assign (.const (.bool false)), 4, none⟩])
    .ret) .skip))
    (.ops [⟨some 24, .move (.tmp 3), 202, none⟩, ⟨some 25, .move (.tmp 5), 3, none⟩, ⟨none, .mapUpdate 202 (.tmp 24) (.tmp 25) (.const (.bool true)), 0, none⟩]))))
    (.ops [⟨some 26, .binOp .add 3 (.tmp 9) (.const (.int .i64 1)) 3, 3, none⟩, ⟨some 9, .move (.tmp 26), 3, none⟩])))))))
    (.seq (.ops [⟨some 27, .move (.tmp 0), 110, none⟩, ⟨some 28, .call { callee := .builtin .len, args := #[.tmp 27], argTypes := #[110] }, 3, none⟩, ⟨some 29, .binOp .geq 3 (.tmp 28) (.const (.int .i64 1)) 3, 4, none⟩, ⟨some 30, .move (.tmp 29), 4, none⟩, ⟨some 31, .move (.tmp 0), 110, some (some 30, true)⟩, ⟨some 32, .call { callee := .builtin .len, args := #[.tmp 31], argTypes := #[110] }, 3, some (some 30, true)⟩, ⟨some 33, .binOp .leq 3 (.tmp 32) (.const (.int .i64 20)) 3, 4, some (some 30, true)⟩, ⟨some 34, .pick (.tmp 30) (.tmp 33) (.const (.bool false)), 4, none⟩, ⟨some 2, .assign (.tmp 34), 4, none⟩])
    .ret))))
def pl228 : Nat → Plan := fun _ => .done
theorem st228 : Go.Proofs.Tryz.f228.body.map (strip pl228) = some m228 := by kernel_rfl
theorem ok228 : okB pl228 Go.Proofs.Tryz.f228 1 = true := by kernel_rfl
theorem en228 {v0 w} {Q : Value → World → Prop} (h : mwpB Go.Proofs.Tryz.prog m228 (argEnv [v0]) [] w (fun e ds w => ds = [] ∧ resW Go.Proofs.Tryz.prog [.tmp 2] e w fun v => Q v w) (fun _ _ _ _ => False) (fun e ds w => ds = [] ∧ resW Go.Proofs.Tryz.prog [.tmp 2] e w fun v => Q v w) (fun _ _ _ _ => False) ⟨⟩) : Rets Go.Proofs.Tryz.prog 228 #[v0] w Q :=
  rets_of_mwp follows_mo Go.Proofs.Tryz.func228 pl228 st228 ok228 (by kernel_rfl) h
/-- slices.Contains[continuo/format.list,int] -/
def m230 : MC := (.seq (.ops [⟨some 4, .assign (.const (.bool false)), 4, none⟩])
    (.seq (.ops [⟨some 5, .move (.tmp 0), 110, none⟩, ⟨some 6, .move (.tmp 1), 3, none⟩, ⟨some 7, .call { callee := .value (.func 231), args := #[.tmp 5, .tmp 6], argTypes := #[110, 3] }, 3, none⟩, ⟨some 8, .binOp .geq 3 (.tmp 7) (.const (.int .i64 0)) 3, 4, none⟩, ⟨some 4, .assign (.tmp 8), 4, none⟩])
    .ret))
def pl230 : Nat → Plan := fun _ => .done
theorem st230 : Go.Proofs.Tryz.f230.body.map (strip pl230) = some m230 := by kernel_rfl
theorem ok230 : okB pl230 Go.Proofs.Tryz.f230 2 = true := by kernel_rfl
theorem en230 {v0 v1 w} {Q : Value → World → Prop} (h : mwpB Go.Proofs.Tryz.prog m230 (argEnv [v0, v1]) [] w (fun e ds w => ds = [] ∧ resW Go.Proofs.Tryz.prog [.tmp 4] e w fun v => Q v w) (fun _ _ _ _ => False) (fun e ds w => ds = [] ∧ resW Go.Proofs.Tryz.prog [.tmp 4] e w fun v => Q v w) (fun _ _ _ _ => False) ⟨⟩) : Rets Go.Proofs.Tryz.prog 230 #[v0, v1] w Q :=
  rets_of_mwp follows_mo Go.Proofs.Tryz.func230 pl230 st230 ok230 (by kernel_rfl) h
/-- slices.Index[continuo/format.list,int] -/
def m231 : MC := (.seq (.ops [⟨some 4, .assign (.const (.int .i64 0)), 3, none⟩])
    (.seq (.seq (.ops [⟨some 6, .move (.tmp 0), 110, none⟩, ⟨some 7, .call { callee := .builtin .len, args := #[.tmp 6], argTypes := #[110] }, 3, none⟩, ⟨some 8, .move (.const (.int .i64 0)), 3, none⟩])
    (.block 0 (.loop (.seq (.ops [⟨some 9, .binOp .lss 3 (.tmp 8) (.tmp 7) 3, 0, none⟩])
    (.seq (.cond (.tmp 9) .skip (.exit 0))
    (.seq (.block 1 (.seq (.ops [⟨some 10, .move (.tmp 8), 3, none⟩, ⟨some 5, .assign (.tmp 10), 3, none⟩])
    (.seq (.ops [⟨some 11, .move (.tmp 1), 3, none⟩, ⟨some 12, .move (.tmp 0), 110, none⟩, ⟨some 13, .move (.tmp 5), 3, none⟩, ⟨some 14, .indexAddr 110 (.tmp 12) (.tmp 13), 0, none⟩, ⟨some 15, .load 3 (.tmp 14), 3, none⟩, ⟨some 16, .binOp .eql 3 (.tmp 11) (.tmp 15) 3, 4, none⟩])
    (.cond (.tmp 16) (.seq (.ops [⟨some 17, .move (.tmp 5), 3, none⟩, ⟨some 4, .assign (.tmp 17), 3, none⟩])
    .ret) .skip))))
    (.ops [⟨some 18, .binOp .add 3 (.tmp 8) (.const (.int .i64 1)) 3, 3, none⟩, ⟨some 8, .move (.tmp 18), 3, none⟩])))))))
    (.seq (.ops [⟨some 4, .assign (.const (.int .i64 (-1))), 3, none⟩])
    .ret)))
def pl231 : Nat → Plan := fun _ => .done
theorem st231 : Go.Proofs.Tryz.f231.body.map (strip pl231) = some m231 := by kernel_rfl
theorem ok231 : okB pl231 Go.Proofs.Tryz.f231 2 = true := by kernel_rfl
theorem en231 {v0 v1 w} {Q : Value → World → Prop} (h : mwpB Go.Proofs.Tryz.prog m231 (argEnv [v0, v1]) [] w (fun e ds w => ds = [] ∧ resW Go.Proofs.Tryz.prog [.tmp 4] e w fun v => Q v w) (fun _ _ _ _ => False) (fun e ds w => ds = [] ∧ resW Go.Proofs.Tryz.prog [.tmp 4] e w fun v => Q v w) (fun _ _ _ _ => False) ⟨⟩) : Rets Go.Proofs.Tryz.prog 231 #[v0, v1] w Q :=
  rets_of_mwp follows_mo Go.Proofs.Tryz.func231 pl231 st231 ok231 (by kernel_rfl) h
/-- (continuo/format.steps).right -/
def m232 : MC := (.seq (.ops [⟨some 1, .box 112 (.tmp 0), 0, none⟩, ⟨some 2, .assign (.const (.bool false)), 4, none⟩])
    (.seq (.ops [⟨some 3, .fieldAddr 112 (.tmp 1) 4, 0, none⟩, ⟨some 4, .load 4 (.tmp 3), 4, none⟩, ⟨some 5, .move (.tmp 4), 4, none⟩, ⟨some 6, .fieldAddr 112 (.tmp 1) 0, 0, some (some 5, true)⟩, ⟨some 7, .load 3 (.tmp 6), 3, some (some 5, true)⟩, ⟨some 8, .binOp .geq 3 (.tmp 7) (.const (.int .i64 0)) 3, 4, some (some 5, true)⟩, ⟨some 9, .pick (.tmp 5) (.tmp 8) (.const (.bool false)), 4, none⟩, ⟨some 10, .move (.tmp 9), 4, none⟩, ⟨some 11, .fieldAddr 112 (.tmp 1) 0, 0, some (some 10, true)⟩, ⟨some 12, .load 3 (.tmp 11), 3, some (some 10, true)⟩, ⟨some 13, .fieldAddr 112 (.tmp 1) 1, 0, some (some 10, true)⟩, ⟨some 14, .load 3 (.tmp 13), 3, some (some 10, true)⟩, ⟨some 15, .binOp .leq 3 (.tmp 12) (.tmp 14) 3, 4, some (some 10, true)⟩, ⟨some 16, .pick (.tmp 10) (.tmp 15) (.const (.bool false)), 4, none⟩, ⟨some 17, .move (.tmp 16), 4, none⟩, ⟨some 18, .fieldAddr 112 (.tmp 1) 1, 0, some (some 17, true)⟩, ⟨some 19, .load 3 (.tmp 18), 3, some (some 17, true)⟩, ⟨some 20, .binOp .leq 3 (.tmp 19) (.const (.int .i64 1000000000)) 3, 4, some (some 17, true)⟩, ⟨some 21, .pick (.tmp 17) (.tmp 20) (.const (.bool false)), 4, none⟩, ⟨some 22, .move (.tmp 21), 4, none⟩, ⟨some 23, .fieldAddr 112 (.tmp 1) 2, 0, some (some 22, true)⟩, ⟨some 24, .load 3 (.tmp 23), 3, some (some 22, true)⟩, ⟨some 25, .binOp .geq 3 (.tmp 24) (.const (.int .i64 1)) 3, 4, some (some 22, true)⟩, ⟨some 26, .pick (.tmp 22) (.tmp 25) (.const (.bool false)), 4, none⟩, ⟨some 27, .move (.tmp 26), 4, none⟩, ⟨some 28, .fieldAddr 112 (.tmp 1) 2, 0, some (some 27, true)⟩, ⟨some 29, .load 3 (.tmp 28), 3, some (some 27, true)⟩, ⟨some 30, .binOp .leq 3 (.tmp 29) (.const (.int .i64 1000)) 3, 4, some (some 27, true)⟩, ⟨some 31, .pick (.tmp 27) (.tmp 30) (.const (.bool false)), 4, none⟩, ⟨some 2, .assign (.tmp 31), 4, none⟩])
    .ret))
def pl232 : Nat → Plan := fun _ => .done
theorem st232 : Go.Proofs.Tryz.f232.body.map (strip pl232) = some m232 := by kernel_rfl
theorem ok232 : okB pl232 Go.Proofs.Tryz.f232 1 = true := by kernel_rfl
theorem en232 {v0 w} {Q : Value → World → Prop} (h : mwpB Go.Proofs.Tryz.prog m232 (argEnv [v0]) [] w (fun e ds w => ds = [] ∧ resW Go.Proofs.Tryz.prog [.tmp 2] e w fun v => Q v w) (fun _ _ _ _ => False) (fun e ds w => ds = [] ∧ resW Go.Proofs.Tryz.prog [.tmp 2] e w fun v => Q v w) (fun _ _ _ _ => False) ⟨⟩) : Rets Go.Proofs.Tryz.prog 232 #[v0] w Q :=
  rets_of_mwp follows_mo Go.Proofs.Tryz.func232 pl232 st232 ok232 (by kernel_rfl) h
end Go.Proofs.YthcdnjbhhaonhaaGreatDoor
