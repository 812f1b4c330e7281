/- The functions, stripped. -/
import Derived.Test.YtefcfnmmpnjjjaaMwT
import Derived.Test.YtefcfnmmpnjjjaaMwIn
namespace Go.Proofs.Ytefcfnmmpnjjjaa
open Go.RowKit
set_option maxRecDepth 100000
/-- gosem.cut.init -/
def m2 : MC := (.ops [⟨some 0, .call { callee := .value (.func 1), args := #[], argTypes := #[] }, 0, none⟩])
def pl2 : Nat → Plan := fun _ => .done
theorem st2 : Go.Proofs.Try.f2.body.map (strip pl2) = some m2 := by kernel_rfl
theorem ok2 : okB pl2 Go.Proofs.Try.f2 0 = true := by kernel_rfl
theorem en2 {w} {Q : Value → World → Prop} (h : mwpB Go.Proofs.Try.prog m2 (argEnv []) [] w (fun e ds w => ds = [] ∧ resW Go.Proofs.Try.prog [] e w fun v => Q v w) (fun _ _ _ _ => False) (fun e ds w => ds = [] ∧ resW Go.Proofs.Try.prog [] e w fun v => Q v w) (fun _ _ _ => False) ⟨⟩) : Rets Go.Proofs.Try.prog 2 #[] w Q :=
  rets_of_mwp follows_mo Go.Proofs.Try.func2 pl2 st2 ok2 (by kernel_rfl) h
/-- continuo/continuolaw31.EffectBounds -/
def m3 : MC := (.seq (.ops [⟨some 2, .box 24 (.tmp 0), 0, none⟩, ⟨some 4, .assign (.const (.bool false)), 4, none⟩])
    (.seq (.seq (.ops [⟨some 8, .call { callee := .value (.func 7), args := #[], argTypes := #[] }, 4, none⟩, ⟨some 9, .unOp .not 4 (.tmp 8), 4, none⟩])
    (.cond (.tmp 9) (.seq (.ops [⟨some 4, .assign (.const (.bool false)), 4, none⟩])
    .ret) .skip))
    (.seq (.seq (.ops [⟨some 10, .load 24 (.tmp 2), 24, none⟩, ⟨some 11, .move (.tmp 1), 22, none⟩, ⟨some 12, .call { callee := .value (.func 8), args := #[.tmp 10, .tmp 11], argTypes := #[24, 22] }, 4, none⟩])
    (.cond (.tmp 12) (.seq (.ops [⟨some 4, .assign (.const (.bool true)), 4, none⟩])
    .ret) .skip))
    (.seq (.ops [⟨some 14, .load 24 (.tmp 2), 24, none⟩, ⟨some 15, .move (.tmp 1), 22, none⟩, ⟨some 16, .call { callee := .value (.func 9), args := #[.tmp 14, .tmp 15], argTypes := #[24, 22] }, 28, none⟩, ⟨some 13, .move (.tmp 16), 28, none⟩, ⟨some 17, .extract (.tmp 13) 0, 22, none⟩, ⟨some 18, .extract (.tmp 13) 1, 27, none⟩, ⟨some 5, .assign (.tmp 17), 22, none⟩, ⟨some 6, .assign (.tmp 18), 27, none⟩])
    (.seq (.seq (.ops [⟨some 19, .move (.tmp 6), 27, none⟩, ⟨some 20, .binOp .neq 27 (.tmp 19) (.const (.int .i64 0)) 27, 4, none⟩])
    (.cond (.tmp 20) (.seq (.ops [⟨some 4, .assign (.const (.bool true)), 4, none⟩])
    .ret) .skip))
    (.seq (.seq (.ops [⟨some 7, .assign (.const (.int .i64 0)), 3, none⟩])
    (.block 0 (.loop (.seq (.seq (.ops [⟨some 21, .move (.tmp 7), 3, none⟩, ⟨some 22, .move (.tmp 5), 22, none⟩, ⟨some 23, .call { callee := .builtin .len, args := #[.tmp 22], argTypes := #[22] }, 3, none⟩, ⟨some 24, .binOp .lss 3 (.tmp 21) (.tmp 23) 3, 4, none⟩])
    (.cond (.tmp 24) .skip (.exit 0)))
    (.seq (.block 1 (.seq (.seq (.draw (.take ⟨some 27, .move (.tmp 5), 22, none⟩ (.take ⟨some 28, .move (.tmp 7), 3, none⟩ (.take ⟨some 29, .indexAddr 22 (.tmp 27) (.tmp 28), 0, none⟩ (.take ⟨some 30, .load 3 (.tmp 29), 3, none⟩ (.take ⟨some 32, .move (.tmp 5), 22, none⟩ (.take ⟨some 33, .move (.tmp 7), 3, none⟩ (.take ⟨some 34, .indexAddr 22 (.tmp 32) (.tmp 33), 0, none⟩ (.take ⟨some 35, .load 3 (.tmp 34), 3, none⟩ (.alt ⟨some 31, .call { callee := .value (.func 10), args := #[.tmp 30], argTypes := #[3] }, 3, none⟩ (.take ⟨some 36, .binOp .neq 3 (.tmp 31) (.tmp 35) 3, 4, none⟩ .done) .none))))))))))
    (.cond (.tmp 36) (.seq (.ops [⟨some 4, .assign (.const (.bool false)), 4, none⟩])
    .ret) .skip))
    (.seq (.draw (.take ⟨some 37, .fieldAddr 24 (.tmp 2) 0, 0, none⟩ (.take ⟨some 38, .load 3 (.tmp 37), 3, none⟩ (.take ⟨some 39, .binOp .eql 3 (.tmp 38) (.const (.int .i64 5)) 3, 4, none⟩ (.take ⟨some 40, .move (.tmp 39), 4, none⟩ (.take ⟨some 41, .move (.tmp 5), 22, some (some 40, true)⟩ (.take ⟨some 42, .move (.tmp 7), 3, some (some 40, true)⟩ (.take ⟨some 43, .indexAddr 22 (.tmp 41) (.tmp 42), 0, some (some 40, true)⟩ (.take ⟨some 44, .load 3 (.tmp 43), 3, some (some 40, true)⟩ (.take ⟨some 45, .binOp .gtr 3 (.tmp 44) (.const (.int .i64 0)) 3, 4, some (some 40, true)⟩ (.take ⟨some 46, .move (.tmp 45), 4, some (some 40, true)⟩ (.take ⟨some 47, .move (.tmp 5), 22, some (some 46, true)⟩ (.take ⟨some 48, .move (.tmp 7), 3, some (some 46, true)⟩ (.take ⟨some 49, .indexAddr 22 (.tmp 47) (.tmp 48), 0, some (some 46, true)⟩ (.take ⟨some 50, .load 3 (.tmp 49), 3, some (some 46, true)⟩ (.take ⟨some 51, .move (.tmp 1), 22, some (some 46, true)⟩ (.take ⟨some 52, .move (.tmp 7), 3, some (some 46, true)⟩ (.take ⟨some 53, .indexAddr 22 (.tmp 51) (.tmp 52), 0, some (some 46, true)⟩ (.take ⟨some 54, .load 3 (.tmp 53), 3, some (some 46, true)⟩ (.take ⟨some 55, .binOp .gtr 3 (.tmp 50) (.tmp 54) 3, 4, some (some 46, true)⟩ (.take ⟨some 56, .pick (.tmp 46) (.tmp 55) (.const (.bool false)), 4, some (some 40, true)⟩ (.take ⟨some 57, .move (.tmp 56), 4, some (some 40, true)⟩ (.take ⟨some 58, .move (.tmp 5), 22, some (some 57, false)⟩ (.take ⟨some 59, .move (.tmp 7), 3, some (some 57, false)⟩ (.take ⟨some 60, .indexAddr 22 (.tmp 58) (.tmp 59), 0, some (some 57, false)⟩ (.take ⟨some 61, .load 3 (.tmp 60), 3, some (some 57, false)⟩ (.take ⟨some 62, .binOp .lss 3 (.tmp 61) (.const (.int .i64 0)) 3, 4, some (some 57, false)⟩ (.take ⟨some 63, .move (.tmp 62), 4, some (some 57, false)⟩ (.take ⟨some 64, .move (.tmp 5), 22, some (some 63, true)⟩ (.take ⟨some 65, .move (.tmp 7), 3, some (some 63, true)⟩ (.take ⟨some 66, .indexAddr 22 (.tmp 64) (.tmp 65), 0, some (some 63, true)⟩ (.take ⟨some 67, .load 3 (.tmp 66), 3, some (some 63, true)⟩ (.take ⟨some 68, .move (.tmp 1), 22, some (some 63, true)⟩ (.take ⟨some 69, .move (.tmp 7), 3, some (some 63, true)⟩ (.take ⟨some 70, .indexAddr 22 (.tmp 68) (.tmp 69), 0, some (some 63, true)⟩ (.take ⟨some 71, .load 3 (.tmp 70), 3, some (some 63, true)⟩ (.take ⟨some 72, .binOp .lss 3 (.tmp 67) (.tmp 71) 3, 4, some (some 63, true)⟩ (.take ⟨some 73, .pick (.tmp 63) (.tmp 72) (.const (.bool false)), 4, some (some 57, false)⟩ (.take ⟨some 74, .pick (.tmp 57) (.const (.bool true)) (.tmp 73), 4, some (some 40, true)⟩ (.take ⟨some 75, .pick (.tmp 40) (.tmp 74) (.const (.bool false)), 4, none⟩ .done))))))))))))))))))))))))))))))))))))))))
    (.cond (.tmp 75) (.seq (.ops [⟨some 4, .assign (.const (.bool false)), 4, none⟩])
    .ret) .skip))))
    (.ops [⟨some 25, .move (.tmp 7), 3, none⟩, ⟨some 26, .binOp .add 3 (.tmp 25) (.const (.int .i64 1)) 3, 3, none⟩, ⟨some 7, .assign (.tmp 26), 3, none⟩]))))))
    (.seq (.ops [⟨some 76, .move (.tmp 5), 22, none⟩, ⟨some 77, .call { callee := .builtin .len, args := #[.tmp 76], argTypes := #[22] }, 3, none⟩, ⟨some 78, .move (.tmp 1), 22, none⟩, ⟨some 79, .call { callee := .builtin .len, args := #[.tmp 78], argTypes := #[22] }, 3, none⟩, ⟨some 80, .binOp .eql 3 (.tmp 77) (.tmp 79) 3, 4, none⟩, ⟨some 4, .assign (.tmp 80), 4, none⟩])
    .ret)))))))
def pl3 : Nat → Plan := fun id => if id = 11 then (.take 0 (.take 1 (.take 2 (.take 3 (.take 5 (.take 6 (.take 7 (.take 8 (.alt 4 (.take 9 .done) .none))))))))) else if id = 13 then (.take 0 (.take 1 (.take 2 (.take 3 (.take 4 (.take 5 (.take 6 (.take 7 (.take 8 (.take 9 (.take 10 (.take 11 (.take 12 (.take 13 (.take 14 (.take 15 (.take 16 (.take 17 (.take 18 (.take 19 (.take 20 (.take 21 (.take 22 (.take 23 (.take 24 (.take 25 (.take 26 (.take 27 (.take 28 (.take 29 (.take 30 (.take 31 (.take 32 (.take 33 (.take 34 (.take 35 (.take 36 (.take 37 (.take 38 .done))))))))))))))))))))))))))))))))))))))) else .done
theorem st3 : Go.Proofs.Try.f3.body.map (strip pl3) = some m3 := by kernel_rfl
theorem ok3 : okB pl3 Go.Proofs.Try.f3 2 = true := by kernel_rfl
theorem en3 {v0 v1 w} {Q : Value → World → Prop} (h : mwpB Go.Proofs.Try.prog m3 (argEnv [v0, v1]) [] w (fun e ds w => ds = [] ∧ resW Go.Proofs.Try.prog [.tmp 4] e w fun v => Q v w) (fun _ _ _ _ => False) (fun e ds w => ds = [] ∧ resW Go.Proofs.Try.prog [.tmp 4] e w fun v => Q v w) (fun _ _ _ => False) ⟨⟩) : Rets Go.Proofs.Try.prog 3 #[v0, v1] w Q :=
  rets_of_mwp follows_mo Go.Proofs.Try.func3 pl3 st3 ok3 (by kernel_rfl) h
/-- continuo/continuolaw31.EffectValid -/
def m4 : MC := (.seq (.ops [⟨some 1, .box 24 (.tmp 0), 0, none⟩, ⟨some 2, .assign (.const (.bool false)), 4, none⟩])
    (.seq (.seq (.ops [⟨some 7, .call { callee := .value (.func 7), args := #[], argTypes := #[] }, 4, none⟩, ⟨some 8, .unOp .not 4 (.tmp 7), 4, none⟩])
    (.cond (.tmp 8) (.seq (.ops [⟨some 2, .assign (.const (.bool false)), 4, none⟩])
    .ret) .skip))
    (.seq (.seq (.ops [⟨some 9, .load 24 (.tmp 1), 24, none⟩, ⟨some 10, .call { callee := .value (.func 8), args := #[.tmp 9, .const (.slice none 0 0)], argTypes := #[24, 22] }, 4, none⟩])
    (.cond (.tmp 10) (.seq (.ops [⟨some 2, .assign (.const (.bool true)), 4, none⟩])
    .ret) .skip))
    (.seq (.ops [⟨some 12, .load 24 (.tmp 1), 24, none⟩, ⟨some 13, .call { callee := .value (.func 11), args := #[.tmp 12], argTypes := #[24] }, 31, none⟩, ⟨some 11, .move (.tmp 13), 31, none⟩, ⟨some 14, .extract (.tmp 11) 0, 3, none⟩, ⟨some 15, .extract (.tmp 11) 1, 27, none⟩, ⟨some 3, .assign (.tmp 14), 3, none⟩, ⟨some 4, .assign (.tmp 15), 27, none⟩])
    (.seq (.ops [⟨some 17, .load 24 (.tmp 1), 24, none⟩, ⟨some 18, .call { callee := .value (.func 12), args := #[.tmp 17], argTypes := #[24] }, 31, none⟩, ⟨some 16, .move (.tmp 18), 31, none⟩, ⟨some 19, .extract (.tmp 16) 0, 3, none⟩, ⟨some 20, .extract (.tmp 16) 1, 27, none⟩, ⟨some 5, .assign (.tmp 19), 3, none⟩, ⟨some 6, .assign (.tmp 20), 27, none⟩])
    (.seq (.seq (.draw (.take ⟨some 21, .move (.tmp 3), 3, none⟩ (.take ⟨some 22, .move (.tmp 5), 3, none⟩ (.take ⟨some 23, .binOp .neq 3 (.tmp 21) (.tmp 22) 3, 4, none⟩ (.take ⟨some 24, .move (.tmp 23), 4, none⟩ (.take ⟨some 25, .move (.tmp 4), 27, some (some 24, false)⟩ (.take ⟨some 26, .move (.tmp 6), 27, some (some 24, false)⟩ (.take ⟨some 27, .binOp .neq 27 (.tmp 25) (.tmp 26) 27, 4, some (some 24, false)⟩ (.take ⟨some 28, .pick (.tmp 24) (.const (.bool true)) (.tmp 27), 4, none⟩ (.take ⟨some 29, .move (.tmp 28), 4, none⟩ (.take ⟨some 30, .load 24 (.tmp 1), 24, some (some 29, false)⟩ (.take ⟨some 32, .load 24 (.tmp 1), 24, some (some 29, false)⟩ (.alt ⟨some 31, .call { callee := .value (.func 13), args := #[.tmp 30], argTypes := #[24] }, 4, some (some 29, false)⟩ (.alt ⟨some 33, .call { callee := .value (.func 14), args := #[.tmp 32], argTypes := #[24] }, 4, some (some 29, false)⟩ (.take ⟨some 34, .binOp .neq 4 (.tmp 31) (.tmp 33) 4, 4, some (some 29, false)⟩ (.take ⟨some 35, .pick (.tmp 29) (.const (.bool true)) (.tmp 34), 4, none⟩ .done)) .none) .none)))))))))))))
    (.cond (.tmp 35) (.seq (.ops [⟨some 2, .assign (.const (.bool false)), 4, none⟩])
    .ret) .skip))
    (.seq (.ops [⟨some 37, .load 24 (.tmp 1), 24, none⟩, ⟨some 38, .call { callee := .value (.func 15), args := #[.tmp 37], argTypes := #[24] }, 31, none⟩, ⟨some 36, .move (.tmp 38), 31, none⟩, ⟨some 39, .extract (.tmp 36) 0, 3, none⟩, ⟨some 40, .extract (.tmp 36) 1, 27, none⟩, ⟨some 3, .assign (.tmp 39), 3, none⟩, ⟨some 4, .assign (.tmp 40), 27, none⟩])
    (.seq (.ops [⟨some 42, .load 24 (.tmp 1), 24, none⟩, ⟨some 43, .call { callee := .value (.func 16), args := #[.tmp 42], argTypes := #[24] }, 31, none⟩, ⟨some 41, .move (.tmp 43), 31, none⟩, ⟨some 44, .extract (.tmp 41) 0, 3, none⟩, ⟨some 45, .extract (.tmp 41) 1, 27, none⟩, ⟨some 5, .assign (.tmp 44), 3, none⟩, ⟨some 6, .assign (.tmp 45), 27, none⟩])
    (.seq (.ops [⟨some 46, .move (.tmp 3), 3, none⟩, ⟨some 47, .move (.tmp 5), 3, none⟩, ⟨some 48, .binOp .eql 3 (.tmp 46) (.tmp 47) 3, 4, none⟩, ⟨some 49, .move (.tmp 48), 4, none⟩, ⟨some 50, .move (.tmp 4), 27, some (some 49, true)⟩, ⟨some 51, .move (.tmp 6), 27, some (some 49, true)⟩, ⟨some 52, .binOp .eql 27 (.tmp 50) (.tmp 51) 27, 4, some (some 49, true)⟩, ⟨some 53, .pick (.tmp 49) (.tmp 52) (.const (.bool false)), 4, none⟩, ⟨some 2, .assign (.tmp 53), 4, none⟩])
    .ret)))))))))
def pl4 : Nat → Plan := fun id => if id = 7 then (.take 0 (.take 1 (.take 2 (.take 3 (.take 4 (.take 5 (.take 6 (.take 7 (.take 8 (.take 9 (.take 11 (.alt 10 (.alt 12 (.take 13 (.take 14 .done)) .none) .none)))))))))))) else .done
theorem st4 : Go.Proofs.Try.f4.body.map (strip pl4) = some m4 := by kernel_rfl
theorem ok4 : okB pl4 Go.Proofs.Try.f4 1 = true := by kernel_rfl
theorem en4 {v0 w} {Q : Value → World → Prop} (h : mwpB Go.Proofs.Try.prog m4 (argEnv [v0]) [] w (fun e ds w => ds = [] ∧ resW Go.Proofs.Try.prog [.tmp 2] e w fun v => Q v w) (fun _ _ _ _ => False) (fun e ds w => ds = [] ∧ resW Go.Proofs.Try.prog [.tmp 2] e w fun v => Q v w) (fun _ _ _ => False) ⟨⟩) : Rets Go.Proofs.Try.prog 4 #[v0] w Q :=
  rets_of_mwp follows_mo Go.Proofs.Try.func4 pl4 st4 ok4 (by kernel_rfl) h
/-- continuo/continuolaw31.EffectParts -/
def m5 : MC := (.seq (.ops [⟨some 8, .assign (.const (.bool false)), 4, none⟩])
    (.seq (.seq (.ops [⟨some 21, .call { callee := .value (.func 7), args := #[], argTypes := #[] }, 4, none⟩, ⟨some 22, .unOp .not 4 (.tmp 21), 4, none⟩])
    (.cond (.tmp 22) (.seq (.ops [⟨some 8, .assign (.const (.bool false)), 4, none⟩])
    .ret) .skip))
    (.seq (.seq (.ops [⟨some 23, .move (.tmp 0), 22, none⟩, ⟨some 24, .call { callee := .builtin .len, args := #[.tmp 23], argTypes := #[22] }, 3, none⟩, ⟨some 25, .binOp .gtr 3 (.tmp 24) (.const (.int .i64 600)) 3, 4, none⟩, ⟨some 26, .move (.tmp 25), 4, none⟩, ⟨some 27, .move (.tmp 2), 22, some (some 26, false)⟩, ⟨some 28, .call { callee := .builtin .len, args := #[.tmp 27], argTypes := #[22] }, 3, some (some 26, false)⟩, ⟨some 29, .binOp .gtr 3 (.tmp 28) (.const (.int .i64 700)) 3, 4, some (some 26, false)⟩, ⟨some 30, .move (.tmp 29), 4, some (some 26, false)⟩, ⟨some 31, .move (.tmp 2), 22, some (some 30, true)⟩, ⟨some 32, .call { callee := .builtin .len, args := #[.tmp 31], argTypes := #[22] }, 3, some (some 30, true)⟩, ⟨some 33, .binOp .leq 3 (.tmp 32) (.const (.int .i64 4096)) 3, 4, some (some 30, true)⟩, ⟨some 34, .pick (.tmp 30) (.tmp 33) (.const (.bool false)), 4, some (some 26, false)⟩, ⟨some 35, .pick (.tmp 26) (.const (.bool true)) (.tmp 34), 4, none⟩, ⟨some 36, .move (.tmp 35), 4, none⟩, ⟨some 37, .move (.tmp 2), 22, some (some 36, false)⟩, ⟨some 38, .call { callee := .builtin .len, args := #[.tmp 37], argTypes := #[22] }, 3, some (some 36, false)⟩, ⟨some 39, .binOp .gtr 3 (.tmp 38) (.const (.int .i64 5000)) 3, 4, some (some 36, false)⟩, ⟨some 40, .pick (.tmp 36) (.const (.bool true)) (.tmp 39), 4, none⟩, ⟨some 41, .move (.tmp 40), 4, none⟩, ⟨some 42, .move (.tmp 3), 3, some (some 41, false)⟩, ⟨some 43, .binOp .lss 3 (.tmp 42) (.const (.int .i64 0)) 3, 4, some (some 41, false)⟩, ⟨some 44, .pick (.tmp 41) (.const (.bool true)) (.tmp 43), 4, none⟩])
    (.cond (.tmp 44) (.seq (.ops [⟨some 8, .assign (.const (.bool true)), 4, none⟩])
    .ret) .skip))
    (.seq (.ops [⟨some 46, .move (.tmp 0), 22, none⟩, ⟨some 47, .move (.tmp 1), 3, none⟩, ⟨some 48, .call { callee := .value (.func 17), args := #[.tmp 46, .tmp 47], argTypes := #[22, 3] }, 35, none⟩, ⟨some 45, .move (.tmp 48), 35, none⟩, ⟨some 49, .extract (.tmp 45) 0, 34, none⟩, ⟨some 50, .extract (.tmp 45) 1, 27, none⟩, ⟨some 9, .assign (.tmp 49), 34, none⟩, ⟨some 10, .assign (.tmp 50), 27, none⟩])
    (.seq (.ops [⟨some 52, .move (.tmp 0), 22, none⟩, ⟨some 53, .move (.tmp 1), 3, none⟩, ⟨some 54, .call { callee := .value (.func 18), args := #[.tmp 52, .tmp 53], argTypes := #[22, 3] }, 31, none⟩, ⟨some 51, .move (.tmp 54), 31, none⟩, ⟨some 55, .extract (.tmp 51) 0, 3, none⟩, ⟨some 56, .extract (.tmp 51) 1, 27, none⟩, ⟨some 11, .assign (.tmp 55), 3, none⟩, ⟨some 12, .assign (.tmp 56), 27, none⟩])
    (.seq (.seq (.ops [⟨some 57, .move (.tmp 10), 27, none⟩, ⟨some 58, .move (.tmp 12), 27, none⟩, ⟨some 59, .binOp .neq 27 (.tmp 57) (.tmp 58) 27, 4, none⟩, ⟨some 60, .move (.tmp 59), 4, none⟩, ⟨some 61, .move (.tmp 10), 27, some (some 60, false)⟩, ⟨some 62, .binOp .neq 27 (.tmp 61) (.const (.int .i64 0)) 27, 4, some (some 60, false)⟩, ⟨some 63, .pick (.tmp 60) (.const (.bool true)) (.tmp 62), 4, none⟩])
    (.cond (.tmp 63) (.seq (.ops [⟨some 64, .move (.tmp 10), 27, none⟩, ⟨some 65, .move (.tmp 12), 27, none⟩, ⟨some 66, .binOp .eql 27 (.tmp 64) (.tmp 65) 27, 4, none⟩, ⟨some 67, .move (.tmp 66), 4, none⟩, ⟨some 68, .move (.tmp 9), 34, some (some 67, true)⟩, ⟨some 69, .binOp .eql 34 (.tmp 68) (.const (.pointer none)) 34, 4, some (some 67, true)⟩, ⟨some 70, .pick (.tmp 67) (.tmp 69) (.const (.bool false)), 4, none⟩, ⟨some 8, .assign (.tmp 70), 4, none⟩])
    .ret) .skip))
    (.seq (.seq (.ops [⟨some 71, .move (.tmp 9), 34, none⟩, ⟨some 72, .call { callee := .value (.func 19), args := #[.tmp 71], argTypes := #[34] }, 3, none⟩, ⟨some 73, .move (.tmp 11), 3, none⟩, ⟨some 74, .binOp .neq 3 (.tmp 72) (.tmp 73) 3, 4, none⟩])
    (.cond (.tmp 74) (.seq (.ops [⟨some 8, .assign (.const (.bool false)), 4, none⟩])
    .ret) .skip))
    (.seq (.seq (.ops [⟨some 75, .move (.tmp 2), 22, none⟩, ⟨some 76, .call { callee := .value (.func 20), args := #[.tmp 75], argTypes := #[22] }, 27, none⟩, ⟨some 13, .assign (.tmp 76), 27, none⟩])
    (.seq (.ops [⟨some 77, .move (.tmp 13), 27, none⟩, ⟨some 78, .binOp .neq 27 (.tmp 77) (.const (.int .i64 0)) 27, 4, none⟩])
    (.cond (.tmp 78) (.seq (.ops [⟨some 80, .move (.tmp 9), 34, none⟩, ⟨some 81, .move (.tmp 2), 22, none⟩, ⟨some 82, .call { callee := .value (.func 21), args := #[.tmp 80, .tmp 81], argTypes := #[34, 22] }, 28, none⟩, ⟨some 79, .move (.tmp 82), 28, none⟩, ⟨some 83, .extract (.tmp 79) 0, 22, none⟩, ⟨some 84, .extract (.tmp 79) 1, 27, none⟩, ⟨some 14, .assign (.tmp 83), 22, none⟩, ⟨some 15, .assign (.tmp 84), 27, none⟩])
    (.seq (.ops [⟨some 85, .move (.tmp 14), 22, none⟩, ⟨some 86, .call { callee := .builtin .len, args := #[.tmp 85], argTypes := #[22] }, 3, none⟩, ⟨some 87, .binOp .eql 3 (.tmp 86) (.const (.int .i64 0)) 3, 4, none⟩, ⟨some 88, .move (.tmp 87), 4, none⟩, ⟨some 89, .move (.tmp 15), 27, some (some 88, true)⟩, ⟨some 90, .move (.tmp 13), 27, some (some 88, true)⟩, ⟨some 91, .binOp .eql 27 (.tmp 89) (.tmp 90) 27, 4, some (some 88, true)⟩, ⟨some 92, .pick (.tmp 88) (.tmp 91) (.const (.bool false)), 4, none⟩, ⟨some 8, .assign (.tmp 92), 4, none⟩])
    .ret)) .skip)))
    (.seq (.ops [⟨some 93, .move (.tmp 0), 22, none⟩, ⟨some 94, .move (.tmp 2), 22, none⟩, ⟨some 95, .call { callee := .value (.func 22), args := #[.tmp 93, .tmp 94], argTypes := #[22, 22] }, 22, none⟩, ⟨some 16, .assign (.tmp 95), 22, none⟩])
    (.seq (.ops [⟨some 96, .move (.tmp 3), 3, none⟩, ⟨some 97, .move (.tmp 2), 22, none⟩, ⟨some 98, .call { callee := .builtin .len, args := #[.tmp 97], argTypes := #[22] }, 3, none⟩, ⟨some 99, .binOp .add 3 (.tmp 98) (.const (.int .i64 1)) 3, 3, none⟩, ⟨some 100, .binOp .rem 3 (.tmp 96) (.tmp 99) 3, 3, none⟩, ⟨some 17, .assign (.tmp 100), 3, none⟩])
    (.seq (.ops [⟨some 102, .move (.tmp 9), 34, none⟩, ⟨some 103, .move (.tmp 2), 22, none⟩, ⟨some 104, .move (.tmp 17), 3, none⟩, ⟨some 105, .slice 22 (.tmp 103) none (some (.tmp 104)) none, 22, none⟩, ⟨some 106, .call { callee := .value (.func 21), args := #[.tmp 102, .tmp 105], argTypes := #[34, 22] }, 28, none⟩, ⟨some 101, .move (.tmp 106), 28, none⟩, ⟨some 107, .extract (.tmp 101) 0, 22, none⟩, ⟨some 108, .extract (.tmp 101) 1, 27, none⟩, ⟨some 18, .assign (.tmp 107), 22, none⟩, ⟨some 10, .assign (.tmp 108), 27, none⟩])
    (.seq (.ops [⟨some 110, .move (.tmp 9), 34, none⟩, ⟨some 111, .move (.tmp 2), 22, none⟩, ⟨some 112, .move (.tmp 17), 3, none⟩, ⟨some 113, .slice 22 (.tmp 111) (some (.tmp 112)) none none, 22, none⟩, ⟨some 114, .call { callee := .value (.func 21), args := #[.tmp 110, .tmp 113], argTypes := #[34, 22] }, 28, none⟩, ⟨some 109, .move (.tmp 114), 28, none⟩, ⟨some 115, .extract (.tmp 109) 0, 22, none⟩, ⟨some 116, .extract (.tmp 109) 1, 27, none⟩, ⟨some 19, .assign (.tmp 115), 22, none⟩, ⟨some 12, .assign (.tmp 116), 27, none⟩])
    (.seq (.seq (.ops [⟨some 117, .move (.tmp 10), 27, none⟩, ⟨some 118, .binOp .neq 27 (.tmp 117) (.const (.int .i64 0)) 27, 4, none⟩, ⟨some 119, .move (.tmp 118), 4, none⟩, ⟨some 120, .move (.tmp 12), 27, some (some 119, false)⟩, ⟨some 121, .binOp .neq 27 (.tmp 120) (.const (.int .i64 0)) 27, 4, some (some 119, false)⟩, ⟨some 122, .pick (.tmp 119) (.const (.bool true)) (.tmp 121), 4, none⟩, ⟨some 123, .move (.tmp 122), 4, none⟩, ⟨some 124, .move (.tmp 18), 22, some (some 123, false)⟩, ⟨some 125, .call { callee := .builtin .append, args := #[.const (.slice none 0 0), .tmp 124], argTypes := #[22, 22] }, 22, some (some 123, false)⟩, ⟨some 126, .move (.tmp 19), 22, some (some 123, false)⟩, ⟨some 127, .call { callee := .builtin .append, args := #[.tmp 125, .tmp 126], argTypes := #[22, 22] }, 22, some (some 123, false)⟩, ⟨some 128, .move (.tmp 16), 22, some (some 123, false)⟩, ⟨some 129, .call { callee := .value (.func 23), args := #[.tmp 127, .tmp 128], argTypes := #[22, 22] }, 4, some (some 123, false)⟩, ⟨some 130, .unOp .not 4 (.tmp 129), 4, some (some 123, false)⟩, ⟨some 131, .pick (.tmp 123) (.const (.bool true)) (.tmp 130), 4, none⟩])
    (.cond (.tmp 131) (.seq (.ops [⟨some 8, .assign (.const (.bool false)), 4, none⟩])
    .ret) .skip))
    (.seq (.ops [⟨some 133, .move (.tmp 0), 22, none⟩, ⟨some 134, .build 24 #[(0, .const (.int .i64 4)), (2, .tmp 133)], 24, none⟩, ⟨some 135, .move (.tmp 2), 22, none⟩, ⟨some 136, .call { callee := .value (.func 9), args := #[.tmp 134, .tmp 135], argTypes := #[24, 22] }, 28, none⟩, ⟨some 132, .move (.tmp 136), 28, none⟩, ⟨some 137, .extract (.tmp 132) 0, 22, none⟩, ⟨some 138, .extract (.tmp 132) 1, 27, none⟩, ⟨some 20, .assign (.tmp 137), 22, none⟩, ⟨some 10, .assign (.tmp 138), 27, none⟩])
    (.seq (.ops [⟨some 139, .move (.tmp 10), 27, none⟩, ⟨some 140, .binOp .eql 27 (.tmp 139) (.const (.int .i64 0)) 27, 4, none⟩, ⟨some 141, .move (.tmp 140), 4, none⟩, ⟨some 142, .move (.tmp 20), 22, some (some 141, true)⟩, ⟨some 143, .move (.tmp 16), 22, some (some 141, true)⟩, ⟨some 144, .call { callee := .value (.func 23), args := #[.tmp 142, .tmp 143], argTypes := #[22, 22] }, 4, some (some 141, true)⟩, ⟨some 145, .pick (.tmp 141) (.tmp 144) (.const (.bool false)), 4, none⟩, ⟨some 8, .assign (.tmp 145), 4, none⟩])
    .ret)))))))))))))))
def pl5 : Nat → Plan := fun _ => .done
theorem st5 : Go.Proofs.Try.f5.body.map (strip pl5) = some m5 := by kernel_rfl
theorem ok5 : okB pl5 Go.Proofs.Try.f5 4 = true := by kernel_rfl
theorem en5 {v0 v1 v2 v3 w} {Q : Value → World → Prop} (h : mwpB Go.Proofs.Try.prog m5 (argEnv [v0, v1, v2, v3]) [] w (fun e ds w => ds = [] ∧ resW Go.Proofs.Try.prog [.tmp 8] e w fun v => Q v w) (fun _ _ _ _ => False) (fun e ds w => ds = [] ∧ resW Go.Proofs.Try.prog [.tmp 8] e w fun v => Q v w) (fun _ _ _ => False) ⟨⟩) : Rets Go.Proofs.Try.prog 5 #[v0, v1, v2, v3] w Q :=
  rets_of_mwp follows_mo Go.Proofs.Try.func5 pl5 st5 ok5 (by kernel_rfl) h
/-- continuo/continuolaw31.EffectEqual -/
def m6 : MC := (.seq (.ops [⟨some 6, .assign (.const (.bool false)), 4, none⟩])
    (.seq (.seq (.ops [⟨some 20, .call { callee := .value (.func 7), args := #[], argTypes := #[] }, 4, none⟩, ⟨some 21, .unOp .not 4 (.tmp 20), 4, none⟩])
    (.cond (.tmp 21) (.seq (.ops [⟨some 6, .assign (.const (.bool false)), 4, none⟩])
    .ret) .skip))
    (.seq (.seq (.ops [⟨some 22, .move (.tmp 0), 22, none⟩, ⟨some 23, .call { callee := .builtin .len, args := #[.tmp 22], argTypes := #[22] }, 3, none⟩, ⟨some 24, .binOp .lss 3 (.tmp 23) (.const (.int .i64 1)) 3, 4, none⟩, ⟨some 25, .move (.tmp 24), 4, none⟩, ⟨some 26, .move (.tmp 0), 22, some (some 25, false)⟩, ⟨some 27, .call { callee := .builtin .len, args := #[.tmp 26], argTypes := #[22] }, 3, some (some 25, false)⟩, ⟨some 28, .binOp .gtr 3 (.tmp 27) (.const (.int .i64 8)) 3, 4, some (some 25, false)⟩, ⟨some 29, .pick (.tmp 25) (.const (.bool true)) (.tmp 28), 4, none⟩, ⟨some 30, .move (.tmp 29), 4, none⟩, ⟨some 31, .move (.tmp 1), 22, some (some 30, false)⟩, ⟨some 32, .call { callee := .builtin .len, args := #[.tmp 31], argTypes := #[22] }, 3, some (some 30, false)⟩, ⟨some 33, .move (.tmp 0), 22, some (some 30, false)⟩, ⟨some 34, .call { callee := .builtin .len, args := #[.tmp 33], argTypes := #[22] }, 3, some (some 30, false)⟩, ⟨some 35, .binOp .neq 3 (.tmp 32) (.tmp 34) 3, 4, some (some 30, false)⟩, ⟨some 36, .pick (.tmp 30) (.const (.bool true)) (.tmp 35), 4, none⟩, ⟨some 37, .move (.tmp 36), 4, none⟩, ⟨some 38, .move (.tmp 2), 22, some (some 37, false)⟩, ⟨some 39, .call { callee := .builtin .len, args := #[.tmp 38], argTypes := #[22] }, 3, some (some 37, false)⟩, ⟨some 40, .binOp .gtr 3 (.tmp 39) (.const (.int .i64 400)) 3, 4, some (some 37, false)⟩, ⟨some 41, .pick (.tmp 37) (.const (.bool true)) (.tmp 40), 4, none⟩, ⟨some 42, .move (.tmp 41), 4, none⟩, ⟨some 43, .move (.tmp 2), 22, some (some 42, false)⟩, ⟨some 44, .call { callee := .value (.func 20), args := #[.tmp 43], argTypes := #[22] }, 27, some (some 42, false)⟩, ⟨some 45, .binOp .neq 27 (.tmp 44) (.const (.int .i64 0)) 27, 4, some (some 42, false)⟩, ⟨some 46, .pick (.tmp 42) (.const (.bool true)) (.tmp 45), 4, none⟩])
    (.cond (.tmp 46) (.seq (.ops [⟨some 6, .assign (.const (.bool true)), 4, none⟩])
    .ret) .skip))
    (.seq (.ops [⟨some 7, .assign (.const (.slice none 0 0)), 44, none⟩, ⟨some 8, .assign (.const (.slice none 0 0)), 44, none⟩])
    (.seq (.ops [⟨some 9, .assign (.const (.int .i64 0)), 3, none⟩])
    (.seq (.seq (.ops [⟨some 10, .assign (.const (.int .i64 0)), 3, none⟩])
    (.block 0 (.loop (.seq (.seq (.ops [⟨some 47, .move (.tmp 10), 3, none⟩, ⟨some 48, .move (.tmp 0), 22, none⟩, ⟨some 49, .call { callee := .builtin .len, args := #[.tmp 48], argTypes := #[22] }, 3, none⟩, ⟨some 50, .binOp .lss 3 (.tmp 47) (.tmp 49) 3, 4, none⟩])
    (.cond (.tmp 50) .skip (.exit 0)))
    (.seq (.block 1 (.seq (.seq (.ops [⟨some 53, .move (.tmp 0), 22, none⟩, ⟨some 54, .move (.tmp 10), 3, none⟩, ⟨some 55, .indexAddr 22 (.tmp 53) (.tmp 54), 0, none⟩, ⟨some 56, .load 3 (.tmp 55), 3, none⟩, ⟨some 57, .binOp .lss 3 (.tmp 56) (.const (.int .i64 0)) 3, 4, none⟩, ⟨some 58, .move (.tmp 57), 4, none⟩, ⟨some 59, .move (.tmp 0), 22, some (some 58, false)⟩, ⟨some 60, .move (.tmp 10), 3, some (some 58, false)⟩, ⟨some 61, .indexAddr 22 (.tmp 59) (.tmp 60), 0, some (some 58, false)⟩, ⟨some 62, .load 3 (.tmp 61), 3, some (some 58, false)⟩, ⟨some 63, .binOp .gtr 3 (.tmp 62) (.const (.int .i64 600)) 3, 4, some (some 58, false)⟩, ⟨some 64, .pick (.tmp 58) (.const (.bool true)) (.tmp 63), 4, none⟩, ⟨some 65, .move (.tmp 64), 4, none⟩, ⟨some 66, .move (.tmp 1), 22, some (some 65, false)⟩, ⟨some 67, .move (.tmp 10), 3, some (some 65, false)⟩, ⟨some 68, .indexAddr 22 (.tmp 66) (.tmp 67), 0, some (some 65, false)⟩, ⟨some 69, .load 3 (.tmp 68), 3, some (some 65, false)⟩, ⟨some 70, .binOp .lss 3 (.tmp 69) (.const (.int .i64 0)) 3, 4, some (some 65, false)⟩, ⟨some 71, .pick (.tmp 65) (.const (.bool true)) (.tmp 70), 4, none⟩, ⟨some 72, .move (.tmp 71), 4, none⟩, ⟨some 73, .move (.tmp 1), 22, some (some 72, false)⟩, ⟨some 74, .move (.tmp 10), 3, some (some 72, false)⟩, ⟨some 75, .indexAddr 22 (.tmp 73) (.tmp 74), 0, some (some 72, false)⟩, ⟨some 76, .load 3 (.tmp 75), 3, some (some 72, false)⟩, ⟨some 77, .binOp .gtr 3 (.tmp 76) (.const (.int .i64 655360)) 3, 4, some (some 72, false)⟩, ⟨some 78, .pick (.tmp 72) (.const (.bool true)) (.tmp 77), 4, none⟩])
    (.cond (.tmp 78) (.seq (.ops [⟨some 6, .assign (.const (.bool true)), 4, none⟩])
    .ret) .skip))
    (.seq (.ops [⟨some 79, .move (.tmp 9), 3, none⟩, ⟨some 80, .move (.tmp 0), 22, none⟩, ⟨some 81, .move (.tmp 10), 3, none⟩, ⟨some 82, .indexAddr 22 (.tmp 80) (.tmp 81), 0, none⟩, ⟨some 83, .load 3 (.tmp 82), 3, none⟩, ⟨some 84, .call { callee := .builtin .max, args := #[.tmp 79, .tmp 83], argTypes := #[3, 3] }, 3, none⟩, ⟨some 9, .assign (.tmp 84), 3, none⟩])
    (.seq (.ops [⟨some 85, .move (.tmp 1), 22, none⟩, ⟨some 86, .move (.tmp 10), 3, none⟩, ⟨some 87, .indexAddr 22 (.tmp 85) (.tmp 86), 0, none⟩, ⟨some 88, .load 3 (.tmp 87), 3, none⟩, ⟨some 89, .buildSlice 22 1 #[(0, .tmp 88)], 22, none⟩, ⟨some 90, .build 24 #[(0, .const (.int .i64 1)), (1, .tmp 89)], 24, none⟩, ⟨some 11, .alloc 24, 0, none⟩, ⟨none, .store 24 (.tmp 11) (.tmp 90), 0, none⟩])
    (.seq (.draw (.take ⟨some 91, .move (.tmp 7), 44, none⟩ (.take ⟨some 92, .move (.tmp 0), 22, none⟩ (.take ⟨some 93, .move (.tmp 10), 3, none⟩ (.take ⟨some 94, .indexAddr 22 (.tmp 92) (.tmp 93), 0, none⟩ (.take ⟨some 95, .load 3 (.tmp 94), 3, none⟩ (.take ⟨some 98, .load 24 (.tmp 11), 24, none⟩ (.alt ⟨some 96, .buildSlice 22 1 #[(0, .tmp 95)], 22, none⟩ (.take ⟨some 97, .build 24 #[(0, .const (.int .i64 2)), (1, .tmp 96)], 24, none⟩ (.alt ⟨some 99, .buildSlice 45 2 #[(0, .tmp 97), (1, .tmp 98)], 45, none⟩ (.alt ⟨some 100, .buildSlice 44 1 #[(0, .tmp 99)], 44, none⟩ (.alt ⟨some 101, .call { callee := .builtin .append, args := #[.tmp 91, .tmp 100], argTypes := #[44, 44] }, 44, none⟩ (.take ⟨some 7, .assign (.tmp 101), 44, none⟩ .done) .none) .none) .none)) .none))))))))
    (.ops [⟨some 102, .move (.tmp 8), 44, none⟩, ⟨some 103, .load 24 (.tmp 11), 24, none⟩, ⟨some 104, .buildSlice 45 1 #[(0, .tmp 103)], 45, none⟩, ⟨some 105, .buildSlice 44 1 #[(0, .tmp 104)], 44, none⟩, ⟨some 106, .call { callee := .builtin .append, args := #[.tmp 102, .tmp 105], argTypes := #[44, 44] }, 44, none⟩, ⟨some 8, .assign (.tmp 106), 44, none⟩]))))))
    (.ops [⟨some 51, .move (.tmp 10), 3, none⟩, ⟨some 52, .binOp .add 3 (.tmp 51) (.const (.int .i64 1)) 3, 3, none⟩, ⟨some 10, .assign (.tmp 52), 3, none⟩]))))))
    (.seq (.ops [⟨some 108, .move (.tmp 7), 44, none⟩, ⟨some 109, .call { callee := .value (.func 24), args := #[.tmp 108, .const (.bool true)], argTypes := #[44, 4] }, 47, none⟩, ⟨some 107, .move (.tmp 109), 47, none⟩, ⟨some 110, .extract (.tmp 107) 0, 46, none⟩, ⟨some 111, .extract (.tmp 107) 1, 27, none⟩, ⟨some 12, .assign (.tmp 110), 46, none⟩, ⟨some 13, .assign (.tmp 111), 27, none⟩])
    (.seq (.ops [⟨some 113, .move (.tmp 8), 44, none⟩, ⟨some 114, .call { callee := .value (.func 24), args := #[.tmp 113, .const (.bool false)], argTypes := #[44, 4] }, 47, none⟩, ⟨some 112, .move (.tmp 114), 47, none⟩, ⟨some 115, .extract (.tmp 112) 0, 46, none⟩, ⟨some 116, .extract (.tmp 112) 1, 27, none⟩, ⟨some 14, .assign (.tmp 115), 46, none⟩, ⟨some 15, .assign (.tmp 116), 27, none⟩])
    (.seq (.seq (.ops [⟨some 117, .move (.tmp 13), 27, none⟩, ⟨some 118, .binOp .neq 27 (.tmp 117) (.const (.int .i64 0)) 27, 4, none⟩, ⟨some 119, .move (.tmp 118), 4, none⟩, ⟨some 120, .move (.tmp 15), 27, some (some 119, false)⟩, ⟨some 121, .binOp .neq 27 (.tmp 120) (.const (.int .i64 0)) 27, 4, some (some 119, false)⟩, ⟨some 122, .pick (.tmp 119) (.const (.bool true)) (.tmp 121), 4, none⟩, ⟨some 123, .move (.tmp 122), 4, none⟩, ⟨some 124, .move (.tmp 12), 46, some (some 123, false)⟩, ⟨some 125, .call { callee := .value (.func 25), args := #[.tmp 124], argTypes := #[46] }, 3, some (some 123, false)⟩, ⟨some 126, .move (.tmp 9), 3, some (some 123, false)⟩, ⟨some 127, .binOp .neq 3 (.tmp 125) (.tmp 126) 3, 4, some (some 123, false)⟩, ⟨some 128, .pick (.tmp 123) (.const (.bool true)) (.tmp 127), 4, none⟩])
    (.cond (.tmp 128) (.seq (.ops [⟨some 6, .assign (.const (.bool false)), 4, none⟩])
    .ret) .skip))
    (.seq (.ops [⟨some 130, .move (.tmp 12), 46, none⟩, ⟨some 131, .move (.tmp 2), 22, none⟩, ⟨some 132, .call { callee := .value (.func 26), args := #[.tmp 130, .tmp 131], argTypes := #[46, 22] }, 28, none⟩, ⟨some 129, .move (.tmp 132), 28, none⟩, ⟨some 133, .extract (.tmp 129) 0, 22, none⟩, ⟨some 134, .extract (.tmp 129) 1, 27, none⟩, ⟨some 16, .assign (.tmp 133), 22, none⟩, ⟨some 13, .assign (.tmp 134), 27, none⟩])
    (.seq (.ops [⟨some 136, .move (.tmp 12), 46, none⟩, ⟨some 137, .move (.tmp 9), 3, none⟩, ⟨some 138, .call { callee := .value (.func 27), args := #[.tmp 136, .tmp 137], argTypes := #[46, 3] }, 28, none⟩, ⟨some 135, .move (.tmp 138), 28, none⟩, ⟨some 139, .extract (.tmp 135) 0, 22, none⟩, ⟨some 140, .extract (.tmp 135) 1, 27, none⟩, ⟨some 17, .assign (.tmp 139), 22, none⟩, ⟨some 15, .assign (.tmp 140), 27, none⟩])
    (.seq (.ops [⟨some 142, .move (.tmp 14), 46, none⟩, ⟨some 143, .move (.tmp 2), 22, none⟩, ⟨some 144, .call { callee := .value (.func 26), args := #[.tmp 142, .tmp 143], argTypes := #[46, 22] }, 28, none⟩, ⟨some 141, .move (.tmp 144), 28, none⟩, ⟨some 145, .extract (.tmp 141) 0, 22, none⟩, ⟨some 146, .extract (.tmp 141) 1, 27, none⟩, ⟨some 18, .assign (.tmp 145), 22, none⟩, ⟨some 19, .assign (.tmp 146), 27, none⟩])
    (.seq (.seq (.ops [⟨some 147, .move (.tmp 13), 27, none⟩, ⟨some 148, .binOp .neq 27 (.tmp 147) (.const (.int .i64 0)) 27, 4, none⟩, ⟨some 149, .move (.tmp 148), 4, none⟩, ⟨some 150, .move (.tmp 15), 27, some (some 149, false)⟩, ⟨some 151, .binOp .neq 27 (.tmp 150) (.const (.int .i64 0)) 27, 4, some (some 149, false)⟩, ⟨some 152, .pick (.tmp 149) (.const (.bool true)) (.tmp 151), 4, none⟩, ⟨some 153, .move (.tmp 152), 4, none⟩, ⟨some 154, .move (.tmp 19), 27, some (some 153, false)⟩, ⟨some 155, .binOp .neq 27 (.tmp 154) (.const (.int .i64 0)) 27, 4, some (some 153, false)⟩, ⟨some 156, .pick (.tmp 153) (.const (.bool true)) (.tmp 155), 4, none⟩])
    (.cond (.tmp 156) (.seq (.ops [⟨some 6, .assign (.const (.bool false)), 4, none⟩])
    .ret) .skip))
    (.seq (.draw (.take ⟨some 157, .move (.tmp 16), 22, none⟩ (.take ⟨some 159, .move (.tmp 17), 22, none⟩ (.take ⟨some 161, .move (.tmp 9), 3, none⟩ (.take ⟨some 163, .move (.tmp 18), 22, none⟩ (.alt ⟨some 158, .call { callee := .builtin .append, args := #[.const (.slice none 0 0), .tmp 157], argTypes := #[22, 22] }, 22, none⟩ (.alt ⟨some 160, .call { callee := .builtin .append, args := #[.tmp 158, .tmp 159], argTypes := #[22, 22] }, 22, none⟩ (.alt ⟨some 162, .makeSlice 22 (.tmp 161) (.tmp 161), 22, none⟩ (.alt ⟨some 164, .call { callee := .builtin .append, args := #[.tmp 162, .tmp 163], argTypes := #[22, 22] }, 22, none⟩ (.alt ⟨some 165, .call { callee := .value (.func 23), args := #[.tmp 160, .tmp 164], argTypes := #[22, 22] }, 4, none⟩ (.take ⟨some 6, .assign (.tmp 165), 4, none⟩ .done) .none) .none) .none) (.alt ⟨some 162, .makeSlice 22 (.tmp 161) (.tmp 161), 22, none⟩ (.alt ⟨some 160, .call { callee := .builtin .append, args := #[.tmp 158, .tmp 159], argTypes := #[22, 22] }, 22, none⟩ (.alt ⟨some 164, .call { callee := .builtin .append, args := #[.tmp 162, .tmp 163], argTypes := #[22, 22] }, 22, none⟩ (.alt ⟨some 165, .call { callee := .value (.func 23), args := #[.tmp 160, .tmp 164], argTypes := #[22, 22] }, 4, none⟩ (.take ⟨some 6, .assign (.tmp 165), 4, none⟩ .done) .none) .none) .none) .none)) (.alt ⟨some 162, .makeSlice 22 (.tmp 161) (.tmp 161), 22, none⟩ (.alt ⟨some 158, .call { callee := .builtin .append, args := #[.const (.slice none 0 0), .tmp 157], argTypes := #[22, 22] }, 22, none⟩ (.alt ⟨some 160, .call { callee := .builtin .append, args := #[.tmp 158, .tmp 159], argTypes := #[22, 22] }, 22, none⟩ (.alt ⟨some 164, .call { callee := .builtin .append, args := #[.tmp 162, .tmp 163], argTypes := #[22, 22] }, 22, none⟩ (.alt ⟨some 165, .call { callee := .value (.func 23), args := #[.tmp 160, .tmp 164], argTypes := #[22, 22] }, 4, none⟩ (.take ⟨some 6, .assign (.tmp 165), 4, none⟩ .done) .none) .none) .none) .none) .none)))))))
    .ret))))))))))))))
def pl6 : Nat → Plan := fun id => if id = 14 then (.take 0 (.take 1 (.take 2 (.take 3 (.take 4 (.take 7 (.alt 5 (.take 6 (.alt 8 (.alt 9 (.alt 10 (.take 11 .done) .none) .none) .none)) .none))))))) else if id = 25 then (.take 0 (.take 2 (.take 4 (.take 6 (.alt 1 (.alt 3 (.alt 5 (.alt 7 (.alt 8 (.take 9 .done) .none) .none) .none) (.alt 5 (.alt 3 (.alt 7 (.alt 8 (.take 9 .done) .none) .none) .none) .none)) (.alt 5 (.alt 1 (.alt 3 (.alt 7 (.alt 8 (.take 9 .done) .none) .none) .none) .none) .none)))))) else .done
theorem st6 : Go.Proofs.Try.f6.body.map (strip pl6) = some m6 := by kernel_rfl
theorem ok6 : okB pl6 Go.Proofs.Try.f6 3 = true := by kernel_rfl
theorem en6 {v0 v1 v2 w} {Q : Value → World → Prop} (h : mwpB Go.Proofs.Try.prog m6 (argEnv [v0, v1, v2]) [] w (fun e ds w => ds = [] ∧ resW Go.Proofs.Try.prog [.tmp 6] e w fun v => Q v w) (fun _ _ _ _ => False) (fun e ds w => ds = [] ∧ resW Go.Proofs.Try.prog [.tmp 6] e w fun v => Q v w) (fun _ _ _ => False) ⟨⟩) : Rets Go.Proofs.Try.prog 6 #[v0, v1, v2] w Q :=
  rets_of_mwp follows_mo Go.Proofs.Try.func6 pl6 st6 ok6 (by kernel_rfl) h
/-- continuo/continuolaw31.awake -/
def m7 : MC := (.seq (.ops [⟨some 0, .assign (.const (.bool false)), 4, none⟩])
    (.seq (.ops [⟨some 5, .buildSlice 22 2 #[(0, .const (.int .i64 2)), (1, .const (.int .i64 32768))], 22, none⟩, ⟨some 6, .build 24 #[(0, .const (.int .i64 3)), (1, .tmp 5)], 24, none⟩, ⟨some 7, .buildSlice 22 5 #[(0, .const (.int .i64 100)), (1, .const (.int .i64 0)), (2, .const (.int .i64 0)), (3, .const (.int .i64 0)), (4, .const (.int .i64 0))], 22, none⟩, ⟨some 8, .call { callee := .value (.func 9), args := #[.tmp 6, .tmp 7], argTypes := #[24, 22] }, 28, none⟩, ⟨some 4, .move (.tmp 8), 28, none⟩, ⟨some 9, .extract (.tmp 4) 0, 22, none⟩, ⟨some 10, .extract (.tmp 4) 1, 27, none⟩, ⟨some 1, .assign (.tmp 9), 22, none⟩, ⟨some 2, .assign (.tmp 10), 27, none⟩])
    (.seq (.seq (.ops [⟨some 11, .move (.tmp 2), 27, none⟩, ⟨some 12, .binOp .neq 27 (.tmp 11) (.const (.int .i64 0)) 27, 4, none⟩, ⟨some 13, .move (.tmp 12), 4, none⟩, ⟨some 14, .move (.tmp 1), 22, some (some 13, false)⟩, ⟨some 15, .call { callee := .builtin .len, args := #[.tmp 14], argTypes := #[22] }, 3, some (some 13, false)⟩, ⟨some 16, .binOp .neq 3 (.tmp 15) (.const (.int .i64 5)) 3, 4, some (some 13, false)⟩, ⟨some 17, .pick (.tmp 13) (.const (.bool true)) (.tmp 16), 4, none⟩, ⟨some 18, .move (.tmp 17), 4, none⟩, ⟨some 19, .move (.tmp 1), 22, some (some 18, false)⟩, ⟨some 20, .indexAddr 22 (.tmp 19) (.const (.int .i64 0)), 0, some (some 18, false)⟩, ⟨some 21, .load 3 (.tmp 20), 3, some (some 18, false)⟩, ⟨some 22, .binOp .neq 3 (.tmp 21) (.const (.int .i64 100)) 3, 4, some (some 18, false)⟩, ⟨some 23, .pick (.tmp 18) (.const (.bool true)) (.tmp 22), 4, none⟩, ⟨some 24, .move (.tmp 23), 4, none⟩, ⟨some 25, .move (.tmp 1), 22, some (some 24, false)⟩, ⟨some 26, .indexAddr 22 (.tmp 25) (.const (.int .i64 2)), 0, some (some 24, false)⟩, ⟨some 27, .load 3 (.tmp 26), 3, some (some 24, false)⟩, ⟨some 28, .binOp .neq 3 (.tmp 27) (.const (.int .i64 50)) 3, 4, some (some 24, false)⟩, ⟨some 29, .pick (.tmp 24) (.const (.bool true)) (.tmp 28), 4, none⟩, ⟨some 30, .move (.tmp 29), 4, none⟩, ⟨some 31, .move (.tmp 1), 22, some (some 30, false)⟩, ⟨some 32, .indexAddr 22 (.tmp 31) (.const (.int .i64 4)), 0, some (some 30, false)⟩, ⟨some 33, .load 3 (.tmp 32), 3, some (some 30, false)⟩, ⟨some 34, .binOp .neq 3 (.tmp 33) (.const (.int .i64 25)) 3, 4, some (some 30, false)⟩, ⟨some 35, .pick (.tmp 30) (.const (.bool true)) (.tmp 34), 4, none⟩])
    (.cond (.tmp 35) (.seq (.ops [⟨some 0, .assign (.const (.bool false)), 4, none⟩])
    .ret) .skip))
    (.seq (.ops [⟨some 37, .buildSlice 22 4 #[(0, .const (.int .i64 100)), (1, .const (.int .i64 131072)), (2, .const (.int .i64 65536)), (3, .const (.int .i64 65536))], 22, none⟩, ⟨some 38, .build 24 #[(0, .const (.int .i64 5)), (1, .tmp 37)], 24, none⟩, ⟨some 39, .call { callee := .value (.func 28), args := #[.tmp 38], argTypes := #[24] }, 52, none⟩, ⟨some 36, .move (.tmp 39), 52, none⟩, ⟨some 40, .extract (.tmp 36) 0, 51, none⟩, ⟨some 41, .extract (.tmp 36) 1, 27, none⟩, ⟨some 3, .assign (.tmp 40), 51, none⟩, ⟨some 2, .assign (.tmp 41), 27, none⟩])
    (.seq (.seq (.ops [⟨some 42, .move (.tmp 2), 27, none⟩, ⟨some 43, .binOp .neq 27 (.tmp 42) (.const (.int .i64 0)) 27, 4, none⟩])
    (.cond (.tmp 43) (.seq (.ops [⟨some 0, .assign (.const (.bool false)), 4, none⟩])
    .ret) .skip))
    (.seq (.ops [⟨some 45, .move (.tmp 3), 51, none⟩, ⟨some 46, .buildSlice 22 1 #[(0, .const (.int .i64 300))], 22, none⟩, ⟨some 47, .call { callee := .value (.func 29), args := #[.tmp 45, .tmp 46], argTypes := #[51, 22] }, 28, none⟩, ⟨some 44, .move (.tmp 47), 28, none⟩, ⟨some 48, .extract (.tmp 44) 0, 22, none⟩, ⟨some 49, .extract (.tmp 44) 1, 27, none⟩, ⟨some 1, .assign (.tmp 48), 22, none⟩, ⟨some 2, .assign (.tmp 49), 27, none⟩])
    (.seq (.ops [⟨some 50, .move (.tmp 2), 27, none⟩, ⟨some 51, .binOp .eql 27 (.tmp 50) (.const (.int .i64 0)) 27, 4, none⟩, ⟨some 52, .move (.tmp 51), 4, none⟩, ⟨some 53, .move (.tmp 1), 22, some (some 52, true)⟩, ⟨some 54, .call { callee := .builtin .len, args := #[.tmp 53], argTypes := #[22] }, 3, some (some 52, true)⟩, ⟨some 55, .binOp .eql 3 (.tmp 54) (.const (.int .i64 1)) 3, 4, some (some 52, true)⟩, ⟨some 56, .pick (.tmp 52) (.tmp 55) (.const (.bool false)), 4, none⟩, ⟨some 57, .move (.tmp 56), 4, none⟩, ⟨some 58, .move (.tmp 1), 22, some (some 57, true)⟩, ⟨some 59, .indexAddr 22 (.tmp 58) (.const (.int .i64 0)), 0, some (some 57, true)⟩, ⟨some 60, .load 3 (.tmp 59), 3, some (some 57, true)⟩, ⟨some 61, .binOp .eql 3 (.tmp 60) (.const (.int .i64 200)) 3, 4, some (some 57, true)⟩, ⟨some 62, .pick (.tmp 57) (.tmp 61) (.const (.bool false)), 4, none⟩, ⟨some 63, .move (.tmp 62), 4, none⟩, ⟨some 64, .move (.tmp 3), 51, some (some 63, true)⟩, ⟨some 65, .call { callee := .value (.func 30), args := #[.tmp 64], argTypes := #[51] }, 3, some (some 63, true)⟩, ⟨some 66, .binOp .eql 3 (.tmp 65) (.const (.int .i64 300)) 3, 4, some (some 63, true)⟩, ⟨some 67, .pick (.tmp 63) (.tmp 66) (.const (.bool false)), 4, none⟩, ⟨some 0, .assign (.tmp 67), 4, none⟩])
    .ret)))))))
def pl7 : Nat → Plan := fun _ => .done
theorem st7 : Go.Proofs.Try.f7.body.map (strip pl7) = some m7 := by kernel_rfl
theorem ok7 : okB pl7 Go.Proofs.Try.f7 0 = true := by kernel_rfl
theorem en7 {w} {Q : Value → World → Prop} (h : mwpB Go.Proofs.Try.prog m7 (argEnv []) [] w (fun e ds w => ds = [] ∧ resW Go.Proofs.Try.prog [.tmp 0] e w fun v => Q v w) (fun _ _ _ _ => False) (fun e ds w => ds = [] ∧ resW Go.Proofs.Try.prog [.tmp 0] e w fun v => Q v w) (fun _ _ _ => False) ⟨⟩) : Rets Go.Proofs.Try.prog 7 #[] w Q :=
  rets_of_mwp follows_mo Go.Proofs.Try.func7 pl7 st7 ok7 (by kernel_rfl) h
/-- continuo/continuolaw31.long -/
def m8 : MC := (.seq (.ops [⟨some 2, .box 24 (.tmp 0), 0, none⟩, ⟨some 4, .assign (.const (.bool false)), 4, none⟩])
    (.seq (.ops [⟨some 5, .fieldAddr 24 (.tmp 2) 1, 0, none⟩, ⟨some 6, .load 22 (.tmp 5), 22, none⟩, ⟨some 7, .call { callee := .builtin .len, args := #[.tmp 6], argTypes := #[22] }, 3, none⟩, ⟨some 8, .binOp .gtr 3 (.tmp 7) (.const (.int .i64 20)) 3, 4, none⟩, ⟨some 9, .move (.tmp 8), 4, none⟩, ⟨some 10, .fieldAddr 24 (.tmp 2) 2, 0, some (some 9, false)⟩, ⟨some 11, .load 22 (.tmp 10), 22, some (some 9, false)⟩, ⟨some 12, .call { callee := .builtin .len, args := #[.tmp 11], argTypes := #[22] }, 3, some (some 9, false)⟩, ⟨some 13, .binOp .gtr 3 (.tmp 12) (.const (.int .i64 600)) 3, 4, some (some 9, false)⟩, ⟨some 14, .pick (.tmp 9) (.const (.bool true)) (.tmp 13), 4, none⟩, ⟨some 15, .move (.tmp 14), 4, none⟩, ⟨some 16, .move (.tmp 1), 22, some (some 15, false)⟩, ⟨some 17, .call { callee := .builtin .len, args := #[.tmp 16], argTypes := #[22] }, 3, some (some 15, false)⟩, ⟨some 18, .binOp .gtr 3 (.tmp 17) (.const (.int .i64 700)) 3, 4, some (some 15, false)⟩, ⟨some 19, .move (.tmp 18), 4, some (some 15, false)⟩, ⟨some 20, .move (.tmp 1), 22, some (some 19, true)⟩, ⟨some 21, .call { callee := .builtin .len, args := #[.tmp 20], argTypes := #[22] }, 3, some (some 19, true)⟩, ⟨some 22, .binOp .leq 3 (.tmp 21) (.const (.int .i64 4096)) 3, 4, some (some 19, true)⟩, ⟨some 23, .pick (.tmp 19) (.tmp 22) (.const (.bool false)), 4, some (some 15, false)⟩, ⟨some 24, .pick (.tmp 15) (.const (.bool true)) (.tmp 23), 4, none⟩, ⟨some 25, .move (.tmp 24), 4, none⟩, ⟨some 26, .move (.tmp 1), 22, some (some 25, false)⟩, ⟨some 27, .call { callee := .builtin .len, args := #[.tmp 26], argTypes := #[22] }, 3, some (some 25, false)⟩, ⟨some 28, .binOp .gtr 3 (.tmp 27) (.const (.int .i64 5000)) 3, 4, some (some 25, false)⟩, ⟨some 29, .pick (.tmp 25) (.const (.bool true)) (.tmp 28), 4, none⟩, ⟨some 4, .assign (.tmp 29), 4, none⟩])
    .ret))
def pl8 : Nat → Plan := fun _ => .done
theorem st8 : Go.Proofs.Try.f8.body.map (strip pl8) = some m8 := by kernel_rfl
theorem ok8 : okB pl8 Go.Proofs.Try.f8 2 = true := by kernel_rfl
theorem en8 {v0 v1 w} {Q : Value → World → Prop} (h : mwpB Go.Proofs.Try.prog m8 (argEnv [v0, v1]) [] w (fun e ds w => ds = [] ∧ resW Go.Proofs.Try.prog [.tmp 4] e w fun v => Q v w) (fun _ _ _ _ => False) (fun e ds w => ds = [] ∧ resW Go.Proofs.Try.prog [.tmp 4] e w fun v => Q v w) (fun _ _ _ => False) ⟨⟩) : Rets Go.Proofs.Try.prog 8 #[v0, v1] w Q :=
  rets_of_mwp follows_mo Go.Proofs.Try.func8 pl8 st8 ok8 (by kernel_rfl) h
/-- continuo/effect.Run -/
def m9 : MC := (.seq (.ops [⟨some 2, .box 24 (.tmp 0), 0, none⟩, ⟨some 4, .assign (.const (.slice none 0 0)), 22, none⟩, ⟨some 5, .assign (.const (.int .i64 0)), 27, none⟩])
    (.seq (.ops [⟨some 9, .load 24 (.tmp 2), 24, none⟩, ⟨some 10, .call { callee := .value (.func 28), args := #[.tmp 9], argTypes := #[24] }, 52, none⟩, ⟨some 8, .move (.tmp 10), 52, none⟩, ⟨some 11, .extract (.tmp 8) 0, 51, none⟩, ⟨some 12, .extract (.tmp 8) 1, 27, none⟩, ⟨some 6, .assign (.tmp 11), 51, none⟩, ⟨some 7, .assign (.tmp 12), 27, none⟩])
    (.seq (.seq (.ops [⟨some 13, .move (.tmp 7), 27, none⟩, ⟨some 14, .binOp .neq 27 (.tmp 13) (.const (.int .i64 0)) 27, 4, none⟩])
    (.cond (.tmp 14) (.seq (.ops [⟨some 15, .move (.tmp 7), 27, none⟩, ⟨some 4, .assign (.const (.slice none 0 0)), 22, none⟩, ⟨some 5, .assign (.tmp 15), 27, none⟩])
    .ret) .skip))
    (.seq (.ops [⟨some 16, .move (.tmp 6), 51, none⟩, ⟨some 17, .move (.tmp 1), 22, none⟩, ⟨some 18, .call { callee := .value (.func 29), args := #[.tmp 16, .tmp 17], argTypes := #[51, 22] }, 28, none⟩, ⟨some 19, .extract (.tmp 18) 0, 22, none⟩, ⟨some 20, .extract (.tmp 18) 1, 27, none⟩, ⟨some 4, .assign (.tmp 19), 22, none⟩, ⟨some 5, .assign (.tmp 20), 27, none⟩])
    .ret))))
def pl9 : Nat → Plan := fun _ => .done
theorem st9 : Go.Proofs.Try.f9.body.map (strip pl9) = some m9 := by kernel_rfl
theorem ok9 : okB pl9 Go.Proofs.Try.f9 2 = true := by kernel_rfl
theorem en9 {v0 v1 w} {Q : Value → World → Prop} (h : mwpB Go.Proofs.Try.prog m9 (argEnv [v0, v1]) [] w (fun e ds w => ds = [] ∧ resW Go.Proofs.Try.prog [.tmp 4, .tmp 5] e w fun v => Q v w) (fun _ _ _ _ => False) (fun e ds w => ds = [] ∧ resW Go.Proofs.Try.prog [.tmp 4, .tmp 5] e w fun v => Q v w) (fun _ _ _ => False) ⟨⟩) : Rets Go.Proofs.Try.prog 9 #[v0, v1] w Q :=
  rets_of_mwp follows_mo Go.Proofs.Try.func9 pl9 st9 ok9 (by kernel_rfl) h
/-- continuo/continuoref31.Bounded -/
def m10 : MC := (.seq (.ops [⟨some 2, .assign (.const (.int .i64 0)), 3, none⟩])
    (.seq (.seq (.ops [⟨some 3, .move (.tmp 0), 3, none⟩, ⟨some 4, .binOp .gtr 3 (.tmp 3) (.const (.int .i64 8388607)) 3, 4, none⟩])
    (.cond (.tmp 4) (.seq (.ops [⟨some 2, .assign (.const (.int .i64 8388607)), 3, none⟩])
    .ret) .skip))
    (.seq (.seq (.ops [⟨some 5, .move (.tmp 0), 3, none⟩, ⟨some 6, .binOp .lss 3 (.tmp 5) (.const (.int .i64 (-8388607))) 3, 4, none⟩])
    (.cond (.tmp 6) (.seq (.ops [⟨some 2, .assign (.const (.int .i64 (-8388607))), 3, none⟩])
    .ret) .skip))
    (.seq (.ops [⟨some 7, .move (.tmp 0), 3, none⟩, ⟨some 2, .assign (.tmp 7), 3, none⟩])
    .ret))))
def pl10 : Nat → Plan := fun _ => .done
theorem st10 : Go.Proofs.Try.f10.body.map (strip pl10) = some m10 := by kernel_rfl
theorem ok10 : okB pl10 Go.Proofs.Try.f10 1 = true := by kernel_rfl
theorem en10 {v0 w} {Q : Value → World → Prop} (h : mwpB Go.Proofs.Try.prog m10 (argEnv [v0]) [] w (fun e ds w => ds = [] ∧ resW Go.Proofs.Try.prog [.tmp 2] e w fun v => Q v w) (fun _ _ _ _ => False) (fun e ds w => ds = [] ∧ resW Go.Proofs.Try.prog [.tmp 2] e w fun v => Q v w) (fun _ _ _ => False) ⟨⟩) : Rets Go.Proofs.Try.prog 10 #[v0] w Q :=
  rets_of_mwp follows_mo Go.Proofs.Try.func10 pl10 st10 ok10 (by kernel_rfl) h
/-- continuo/effect.Latency -/
def m11 : MC := (.seq (.ops [⟨some 1, .box 24 (.tmp 0), 0, none⟩, ⟨some 2, .assign (.const (.int .i64 0)), 3, none⟩, ⟨some 3, .assign (.const (.int .i64 0)), 27, none⟩])
    (.seq (.seq (.ops [⟨some 4, .load 24 (.tmp 1), 24, none⟩, ⟨some 5, .call { callee := .value (.func 13), args := #[.tmp 4], argTypes := #[24] }, 4, none⟩, ⟨some 6, .unOp .not 4 (.tmp 5), 4, none⟩])
    (.cond (.tmp 6) (.seq (.ops [⟨some 2, .assign (.const (.int .i64 0)), 3, none⟩, ⟨some 3, .assign (.const (.int .i64 1)), 27, none⟩])
    .ret) .skip))
    (.seq (.ops [⟨some 7, .load 24 (.tmp 1), 24, none⟩, ⟨some 8, .call { callee := .value (.func 31), args := #[.tmp 7], argTypes := #[24] }, 3, none⟩, ⟨some 2, .assign (.tmp 8), 3, none⟩, ⟨some 3, .assign (.const (.int .i64 0)), 27, none⟩])
    .ret)))
def pl11 : Nat → Plan := fun _ => .done
theorem st11 : Go.Proofs.Try.f11.body.map (strip pl11) = some m11 := by kernel_rfl
theorem ok11 : okB pl11 Go.Proofs.Try.f11 1 = true := by kernel_rfl
theorem en11 {v0 w} {Q : Value → World → Prop} (h : mwpB Go.Proofs.Try.prog m11 (argEnv [v0]) [] w (fun e ds w => ds = [] ∧ resW Go.Proofs.Try.prog [.tmp 2, .tmp 3] e w fun v => Q v w) (fun _ _ _ _ => False) (fun e ds w => ds = [] ∧ resW Go.Proofs.Try.prog [.tmp 2, .tmp 3] e w fun v => Q v w) (fun _ _ _ => False) ⟨⟩) : Rets Go.Proofs.Try.prog 11 #[v0] w Q :=
  rets_of_mwp follows_mo Go.Proofs.Try.func11 pl11 st11 ok11 (by kernel_rfl) h
/-- continuo/continuoref31.Latency -/
def m12 : MC := (.seq (.ops [⟨some 1, .box 24 (.tmp 0), 0, none⟩, ⟨some 2, .assign (.const (.int .i64 0)), 3, none⟩, ⟨some 3, .assign (.const (.int .i64 0)), 27, none⟩])
    (.seq (.seq (.ops [⟨some 4, .load 24 (.tmp 1), 24, none⟩, ⟨some 5, .call { callee := .value (.func 14), args := #[.tmp 4], argTypes := #[24] }, 4, none⟩, ⟨some 6, .unOp .not 4 (.tmp 5), 4, none⟩])
    (.cond (.tmp 6) (.seq (.ops [⟨some 2, .assign (.const (.int .i64 0)), 3, none⟩, ⟨some 3, .assign (.const (.int .i64 1)), 27, none⟩])
    .ret) .skip))
    (.seq (.ops [⟨some 7, .load 24 (.tmp 1), 24, none⟩, ⟨some 8, .call { callee := .value (.func 32), args := #[.tmp 7], argTypes := #[24] }, 3, none⟩, ⟨some 2, .assign (.tmp 8), 3, none⟩, ⟨some 3, .assign (.const (.int .i64 0)), 27, none⟩])
    .ret)))
def pl12 : Nat → Plan := fun _ => .done
theorem st12 : Go.Proofs.Try.f12.body.map (strip pl12) = some m12 := by kernel_rfl
theorem ok12 : okB pl12 Go.Proofs.Try.f12 1 = true := by kernel_rfl
theorem en12 {v0 w} {Q : Value → World → Prop} (h : mwpB Go.Proofs.Try.prog m12 (argEnv [v0]) [] w (fun e ds w => ds = [] ∧ resW Go.Proofs.Try.prog [.tmp 2, .tmp 3] e w fun v => Q v w) (fun _ _ _ _ => False) (fun e ds w => ds = [] ∧ resW Go.Proofs.Try.prog [.tmp 2, .tmp 3] e w fun v => Q v w) (fun _ _ _ => False) ⟨⟩) : Rets Go.Proofs.Try.prog 12 #[v0] w Q :=
  rets_of_mwp follows_mo Go.Proofs.Try.func12 pl12 st12 ok12 (by kernel_rfl) h
/-- continuo/effect.Valid -/
def m13 : MC := (.seq (.ops [⟨some 1, .box 24 (.tmp 0), 0, none⟩, ⟨some 2, .assign (.const (.bool false)), 4, none⟩])
    (.seq (.seq (.ops [⟨some 3, .fieldAddr 24 (.tmp 1) 0, 0, none⟩, ⟨some 4, .load 3 (.tmp 3), 3, none⟩, ⟨some 5, .call { callee := .value (.func 33), args := #[.tmp 4, .const (.int .i64 1), .const (.int .i64 7)], argTypes := #[3, 3, 3] }, 4, none⟩, ⟨some 6, .unOp .not 4 (.tmp 5), 4, none⟩, ⟨some 7, .move (.tmp 6), 4, none⟩, ⟨some 8, .fieldAddr 24 (.tmp 1) 0, 0, some (some 7, false)⟩, ⟨some 9, .load 3 (.tmp 8), 3, some (some 7, false)⟩, ⟨some 10, .binOp .eql 3 (.tmp 9) (.const (.int .i64 4)) 3, 4, some (some 7, false)⟩, ⟨some 11, .move (.tmp 10), 4, some (some 7, false)⟩, ⟨some 12, .fieldAddr 24 (.tmp 1) 2, 0, some (some 11, true)⟩, ⟨some 13, .load 22 (.tmp 12), 22, some (some 11, true)⟩, ⟨some 14, .call { callee := .value (.func 34), args := #[.tmp 13], argTypes := #[22] }, 4, some (some 11, true)⟩, ⟨some 15, .unOp .not 4 (.tmp 14), 4, some (some 11, true)⟩, ⟨some 16, .pick (.tmp 11) (.tmp 15) (.const (.bool false)), 4, some (some 7, false)⟩, ⟨some 17, .pick (.tmp 7) (.const (.bool true)) (.tmp 16), 4, none⟩, ⟨some 18, .move (.tmp 17), 4, none⟩, ⟨some 19, .fieldAddr 24 (.tmp 1) 0, 0, some (some 18, false)⟩, ⟨some 20, .load 3 (.tmp 19), 3, some (some 18, false)⟩, ⟨some 21, .binOp .neq 3 (.tmp 20) (.const (.int .i64 4)) 3, 4, some (some 18, false)⟩, ⟨some 22, .move (.tmp 21), 4, some (some 18, false)⟩, ⟨some 23, .fieldAddr 24 (.tmp 1) 2, 0, some (some 22, true)⟩, ⟨some 24, .load 22 (.tmp 23), 22, some (some 22, true)⟩, ⟨some 25, .call { callee := .builtin .len, args := #[.tmp 24], argTypes := #[22] }, 3, some (some 22, true)⟩, ⟨some 26, .binOp .gtr 3 (.tmp 25) (.const (.int .i64 0)) 3, 4, some (some 22, true)⟩, ⟨some 27, .pick (.tmp 22) (.tmp 26) (.const (.bool false)), 4, some (some 18, false)⟩, ⟨some 28, .pick (.tmp 18) (.const (.bool true)) (.tmp 27), 4, none⟩])
    (.cond (.tmp 28) (.seq (.ops [⟨some 2, .assign (.const (.bool false)), 4, none⟩])
    .ret) .skip))
    (.seq (.draw (.take ⟨some 29, .fieldAddr 24 (.tmp 1) 1, 0, none⟩ (.take ⟨some 30, .load 22 (.tmp 29), 22, none⟩ (.take ⟨some 31, .fieldAddr 24 (.tmp 1) 0, 0, none⟩ (.take ⟨some 32, .load 3 (.tmp 31), 3, none⟩ (.alt ⟨some 33, .call { callee := .value (.func 36), args := #[.tmp 32], argTypes := #[3] }, 58, none⟩ (.alt ⟨some 34, .call { callee := .value (.func 35), args := #[.tmp 30, .tmp 33, .func 37], argTypes := #[22, 58, 61] }, 4, none⟩ (.take ⟨some 2, .assign (.tmp 34), 4, none⟩ .done) .none) .none))))))
    .ret)))
def pl13 : Nat → Plan := fun id => if id = 3 then (.take 0 (.take 1 (.take 2 (.take 3 (.alt 4 (.alt 5 (.take 6 .done) .none) .none))))) else .done
theorem st13 : Go.Proofs.Try.f13.body.map (strip pl13) = some m13 := by kernel_rfl
theorem ok13 : okB pl13 Go.Proofs.Try.f13 1 = true := by kernel_rfl
theorem en13 {v0 w} {Q : Value → World → Prop} (h : mwpB Go.Proofs.Try.prog m13 (argEnv [v0]) [] w (fun e ds w => ds = [] ∧ resW Go.Proofs.Try.prog [.tmp 2] e w fun v => Q v w) (fun _ _ _ _ => False) (fun e ds w => ds = [] ∧ resW Go.Proofs.Try.prog [.tmp 2] e w fun v => Q v w) (fun _ _ _ => False) ⟨⟩) : Rets Go.Proofs.Try.prog 13 #[v0] w Q :=
  rets_of_mwp follows_mo Go.Proofs.Try.func13 pl13 st13 ok13 (by kernel_rfl) h
/-- continuo/continuoref31.Valid -/
def m14 : MC := (.seq (.ops [⟨some 1, .box 24 (.tmp 0), 0, none⟩, ⟨some 2, .assign (.const (.bool false)), 4, none⟩])
    (.seq (.seq (.ops [⟨some 4, .fieldAddr 24 (.tmp 1) 0, 0, none⟩, ⟨some 5, .load 3 (.tmp 4), 3, none⟩, ⟨some 6, .binOp .eql 3 (.tmp 5) (.const (.int .i64 4)) 3, 4, none⟩])
    (.cond (.tmp 6) (.seq (.ops [⟨some 7, .fieldAddr 24 (.tmp 1) 1, 0, none⟩, ⟨some 8, .load 22 (.tmp 7), 22, none⟩, ⟨some 9, .call { callee := .builtin .len, args := #[.tmp 8], argTypes := #[22] }, 3, none⟩, ⟨some 10, .binOp .eql 3 (.tmp 9) (.const (.int .i64 0)) 3, 4, none⟩, ⟨some 11, .move (.tmp 10), 4, none⟩, ⟨some 12, .fieldAddr 24 (.tmp 1) 2, 0, some (some 11, true)⟩, ⟨some 13, .load 22 (.tmp 12), 22, some (some 11, true)⟩, ⟨some 14, .call { callee := .value (.func 38), args := #[.tmp 13], argTypes := #[22] }, 4, some (some 11, true)⟩, ⟨some 15, .pick (.tmp 11) (.tmp 14) (.const (.bool false)), 4, none⟩, ⟨some 2, .assign (.tmp 15), 4, none⟩])
    .ret) .skip))
    (.seq (.seq (.ops [⟨some 16, .fieldAddr 24 (.tmp 1) 2, 0, none⟩, ⟨some 17, .load 22 (.tmp 16), 22, none⟩, ⟨some 18, .call { callee := .builtin .len, args := #[.tmp 17], argTypes := #[22] }, 3, none⟩, ⟨some 19, .binOp .gtr 3 (.tmp 18) (.const (.int .i64 0)) 3, 4, none⟩])
    (.cond (.tmp 19) (.seq (.ops [⟨some 2, .assign (.const (.bool false)), 4, none⟩])
    .ret) .skip))
    (.seq (.ops [⟨some 20, .fieldAddr 24 (.tmp 1) 1, 0, none⟩, ⟨some 21, .load 22 (.tmp 20), 22, none⟩, ⟨some 3, .assign (.tmp 21), 22, none⟩])
    (.seq (.seq (.ops [⟨some 22, .fieldAddr 24 (.tmp 1) 0, 0, none⟩, ⟨some 23, .load 3 (.tmp 22), 3, none⟩])
    (.block 0 (.seq (.ops [⟨some 25, .binOp .eql 3 (.tmp 23) (.const (.int .i64 1)) 3, 4, none⟩, ⟨some 24, .assign (.tmp 25), 4, none⟩])
    (.cond (.tmp 24) (.seq (.ops [⟨some 26, .move (.tmp 3), 22, none⟩, ⟨some 27, .call { callee := .builtin .len, args := #[.tmp 26], argTypes := #[22] }, 3, none⟩, ⟨some 28, .binOp .eql 3 (.tmp 27) (.const (.int .i64 1)) 3, 4, none⟩, ⟨some 29, .move (.tmp 28), 4, none⟩, ⟨some 30, .move (.tmp 3), 22, some (some 29, true)⟩, ⟨some 31, .indexAddr 22 (.tmp 30) (.const (.int .i64 0)), 0, some (some 29, true)⟩, ⟨some 32, .load 3 (.tmp 31), 3, some (some 29, true)⟩, ⟨some 33, .call { callee := .value (.func 39), args := #[.tmp 32, .const (.int .i64 0), .const (.int .i64 655360)], argTypes := #[3, 3, 3] }, 4, some (some 29, true)⟩, ⟨some 34, .pick (.tmp 29) (.tmp 33) (.const (.bool false)), 4, none⟩, ⟨some 2, .assign (.tmp 34), 4, none⟩])
    .ret) (.seq (.ops [⟨some 36, .binOp .eql 3 (.tmp 23) (.const (.int .i64 2)) 3, 4, none⟩, ⟨some 35, .assign (.tmp 36), 4, none⟩])
    (.cond (.tmp 35) (.seq (.ops [⟨some 37, .move (.tmp 3), 22, none⟩, ⟨some 38, .call { callee := .builtin .len, args := #[.tmp 37], argTypes := #[22] }, 3, none⟩, ⟨some 39, .binOp .eql 3 (.tmp 38) (.const (.int .i64 1)) 3, 4, none⟩, ⟨some 40, .move (.tmp 39), 4, none⟩, ⟨some 41, .move (.tmp 3), 22, some (some 40, true)⟩, ⟨some 42, .indexAddr 22 (.tmp 41) (.const (.int .i64 0)), 0, some (some 40, true)⟩, ⟨some 43, .load 3 (.tmp 42), 3, some (some 40, true)⟩, ⟨some 44, .call { callee := .value (.func 39), args := #[.tmp 43, .const (.int .i64 0), .const (.int .i64 4096)], argTypes := #[3, 3, 3] }, 4, some (some 40, true)⟩, ⟨some 45, .pick (.tmp 40) (.tmp 44) (.const (.bool false)), 4, none⟩, ⟨some 2, .assign (.tmp 45), 4, none⟩])
    .ret) (.seq (.ops [⟨some 47, .binOp .eql 3 (.tmp 23) (.const (.int .i64 3)) 3, 4, none⟩, ⟨some 46, .assign (.tmp 47), 4, none⟩])
    (.cond (.tmp 46) (.seq (.ops [⟨some 48, .move (.tmp 3), 22, none⟩, ⟨some 49, .call { callee := .builtin .len, args := #[.tmp 48], argTypes := #[22] }, 3, none⟩, ⟨some 50, .binOp .eql 3 (.tmp 49) (.const (.int .i64 2)) 3, 4, none⟩, ⟨some 51, .move (.tmp 50), 4, none⟩, ⟨some 52, .move (.tmp 3), 22, some (some 51, true)⟩, ⟨some 53, .indexAddr 22 (.tmp 52) (.const (.int .i64 0)), 0, some (some 51, true)⟩, ⟨some 54, .load 3 (.tmp 53), 3, some (some 51, true)⟩, ⟨some 55, .call { callee := .value (.func 39), args := #[.tmp 54, .const (.int .i64 1), .const (.int .i64 4096)], argTypes := #[3, 3, 3] }, 4, some (some 51, true)⟩, ⟨some 56, .pick (.tmp 51) (.tmp 55) (.const (.bool false)), 4, none⟩, ⟨some 57, .move (.tmp 56), 4, none⟩, ⟨some 58, .move (.tmp 3), 22, some (some 57, true)⟩, ⟨some 59, .indexAddr 22 (.tmp 58) (.const (.int .i64 1)), 0, some (some 57, true)⟩, ⟨some 60, .load 3 (.tmp 59), 3, some (some 57, true)⟩, ⟨some 61, .call { callee := .value (.func 39), args := #[.tmp 60, .const (.int .i64 (-65536)), .const (.int .i64 65536)], argTypes := #[3, 3, 3] }, 4, some (some 57, true)⟩, ⟨some 62, .pick (.tmp 57) (.tmp 61) (.const (.bool false)), 4, none⟩, ⟨some 2, .assign (.tmp 62), 4, none⟩])
    .ret) (.seq (.ops [⟨some 64, .binOp .eql 3 (.tmp 23) (.const (.int .i64 5)) 3, 4, none⟩, ⟨some 63, .assign (.tmp 64), 4, none⟩])
    (.cond (.tmp 63) (.seq (.ops [⟨some 65, .move (.tmp 3), 22, none⟩, ⟨some 66, .call { callee := .builtin .len, args := #[.tmp 65], argTypes := #[22] }, 3, none⟩, ⟨some 67, .binOp .eql 3 (.tmp 66) (.const (.int .i64 4)) 3, 4, none⟩, ⟨some 68, .move (.tmp 67), 4, none⟩, ⟨some 69, .move (.tmp 3), 22, some (some 68, true)⟩, ⟨some 70, .call { callee := .value (.func 40), args := #[.tmp 69], argTypes := #[22] }, 4, some (some 68, true)⟩, ⟨some 71, .pick (.tmp 68) (.tmp 70) (.const (.bool false)), 4, none⟩, ⟨some 2, .assign (.tmp 71), 4, none⟩])
    .ret) (.seq (.ops [⟨some 73, .binOp .eql 3 (.tmp 23) (.const (.int .i64 6)) 3, 4, none⟩, ⟨some 72, .assign (.tmp 73), 4, none⟩])
    (.cond (.tmp 72) (.seq (.ops [⟨some 74, .move (.tmp 3), 22, none⟩, ⟨some 75, .call { callee := .builtin .len, args := #[.tmp 74], argTypes := #[22] }, 3, none⟩, ⟨some 76, .binOp .eql 3 (.tmp 75) (.const (.int .i64 2)) 3, 4, none⟩, ⟨some 77, .move (.tmp 76), 4, none⟩, ⟨some 78, .move (.tmp 3), 22, some (some 77, true)⟩, ⟨some 79, .indexAddr 22 (.tmp 78) (.const (.int .i64 0)), 0, some (some 77, true)⟩, ⟨some 80, .load 3 (.tmp 79), 3, some (some 77, true)⟩, ⟨some 81, .call { callee := .value (.func 39), args := #[.tmp 80, .const (.int .i64 0), .const (.int .i64 8388607)], argTypes := #[3, 3, 3] }, 4, some (some 77, true)⟩, ⟨some 82, .pick (.tmp 77) (.tmp 81) (.const (.bool false)), 4, none⟩, ⟨some 83, .move (.tmp 82), 4, none⟩, ⟨some 84, .move (.tmp 3), 22, some (some 83, true)⟩, ⟨some 85, .indexAddr 22 (.tmp 84) (.const (.int .i64 1)), 0, some (some 83, true)⟩, ⟨some 86, .load 3 (.tmp 85), 3, some (some 83, true)⟩, ⟨some 87, .call { callee := .value (.func 39), args := #[.tmp 86, .const (.int .i64 0), .const (.int .i64 4096)], argTypes := #[3, 3, 3] }, 4, some (some 83, true)⟩, ⟨some 88, .pick (.tmp 83) (.tmp 87) (.const (.bool false)), 4, none⟩, ⟨some 2, .assign (.tmp 88), 4, none⟩])
    .ret) (.seq (.ops [⟨some 90, .binOp .eql 3 (.tmp 23) (.const (.int .i64 7)) 3, 4, none⟩, ⟨some 89, .assign (.tmp 90), 4, none⟩])
    (.cond (.tmp 89) (.seq (.ops [⟨some 91, .move (.tmp 3), 22, none⟩, ⟨some 92, .call { callee := .builtin .len, args := #[.tmp 91], argTypes := #[22] }, 3, none⟩, ⟨some 93, .binOp .eql 3 (.tmp 92) (.const (.int .i64 5)) 3, 4, none⟩, ⟨some 94, .move (.tmp 93), 4, none⟩, ⟨some 95, .move (.tmp 3), 22, some (some 94, true)⟩, ⟨some 96, .call { callee := .value (.func 40), args := #[.tmp 95], argTypes := #[22] }, 4, some (some 94, true)⟩, ⟨some 97, .pick (.tmp 94) (.tmp 96) (.const (.bool false)), 4, none⟩, ⟨some 98, .move (.tmp 97), 4, none⟩, ⟨some 99, .move (.tmp 3), 22, some (some 98, true)⟩, ⟨some 100, .indexAddr 22 (.tmp 99) (.const (.int .i64 4)), 0, some (some 98, true)⟩, ⟨some 101, .load 3 (.tmp 100), 3, some (some 98, true)⟩, ⟨some 102, .call { callee := .value (.func 39), args := #[.tmp 101, .const (.int .i64 0), .const (.int .i64 512)], argTypes := #[3, 3, 3] }, 4, some (some 98, true)⟩, ⟨some 103, .pick (.tmp 98) (.tmp 102) (.const (.bool false)), 4, none⟩, ⟨some 2, .assign (.tmp 103), 4, none⟩])
    .ret) .skip))))))))))))))
    (.seq (.ops [⟨some 2, .assign (.const (.bool false)), 4, none⟩])
    .ret))))))
def pl14 : Nat → Plan := fun _ => .done
theorem st14 : Go.Proofs.Try.f14.body.map (strip pl14) = some m14 := by kernel_rfl
theorem ok14 : okB pl14 Go.Proofs.Try.f14 1 = true := by kernel_rfl
theorem en14 {v0 w} {Q : Value → World → Prop} (h : mwpB Go.Proofs.Try.prog m14 (argEnv [v0]) [] w (fun e ds w => ds = [] ∧ resW Go.Proofs.Try.prog [.tmp 2] e w fun v => Q v w) (fun _ _ _ _ => False) (fun e ds w => ds = [] ∧ resW Go.Proofs.Try.prog [.tmp 2] e w fun v => Q v w) (fun _ _ _ => False) ⟨⟩) : Rets Go.Proofs.Try.prog 14 #[v0] w Q :=
  rets_of_mwp follows_mo Go.Proofs.Try.func14 pl14 st14 ok14 (by kernel_rfl) h
/-- continuo/effect.Tail -/
def m15 : MC := (.seq (.ops [⟨some 1, .box 24 (.tmp 0), 0, none⟩, ⟨some 2, .assign (.const (.int .i64 0)), 3, none⟩, ⟨some 3, .assign (.const (.int .i64 0)), 27, none⟩])
    (.seq (.block 0 (.seq (.ops [⟨some 5, .load 24 (.tmp 1), 24, none⟩, ⟨some 6, .call { callee := .value (.func 13), args := #[.tmp 5], argTypes := #[24] }, 4, none⟩, ⟨some 7, .unOp .not 4 (.tmp 6), 4, none⟩, ⟨some 4, .assign (.tmp 7), 4, none⟩])
    (.cond (.tmp 4) (.seq (.ops [⟨some 2, .assign (.const (.int .i64 0)), 3, none⟩, ⟨some 3, .assign (.const (.int .i64 1)), 27, none⟩])
    .ret) (.seq (.ops [⟨some 9, .fieldAddr 24 (.tmp 1) 0, 0, none⟩, ⟨some 10, .load 3 (.tmp 9), 3, none⟩, ⟨some 11, .binOp .eql 3 (.tmp 10) (.const (.int .i64 4)) 3, 4, none⟩, ⟨some 8, .assign (.tmp 11), 4, none⟩])
    (.cond (.tmp 8) (.seq (.ops [⟨some 12, .fieldAddr 24 (.tmp 1) 2, 0, none⟩, ⟨some 13, .load 22 (.tmp 12), 22, none⟩, ⟨some 14, .call { callee := .builtin .len, args := #[.tmp 13], argTypes := #[22] }, 3, none⟩, ⟨some 15, .binOp .sub 3 (.tmp 14) (.const (.int .i64 1)) 3, 3, none⟩, ⟨some 2, .assign (.tmp 15), 3, none⟩, ⟨some 3, .assign (.const (.int .i64 0)), 27, none⟩])
    .ret) (.seq (.ops [⟨some 17, .fieldAddr 24 (.tmp 1) 0, 0, none⟩, ⟨some 18, .load 3 (.tmp 17), 3, none⟩, ⟨some 19, .binOp .eql 3 (.tmp 18) (.const (.int .i64 3)) 3, 4, none⟩, ⟨some 20, .move (.tmp 19), 4, none⟩, ⟨some 21, .fieldAddr 24 (.tmp 1) 1, 0, some (some 20, true)⟩, ⟨some 22, .load 22 (.tmp 21), 22, some (some 20, true)⟩, ⟨some 23, .indexAddr 22 (.tmp 22) (.const (.int .i64 1)), 0, some (some 20, true)⟩, ⟨some 24, .load 3 (.tmp 23), 3, some (some 20, true)⟩, ⟨some 25, .binOp .neq 3 (.tmp 24) (.const (.int .i64 0)) 3, 4, some (some 20, true)⟩, ⟨some 26, .pick (.tmp 20) (.tmp 25) (.const (.bool false)), 4, none⟩, ⟨some 16, .assign (.tmp 26), 4, none⟩])
    (.cond (.tmp 16) (.seq (.ops [⟨some 2, .assign (.const (.int .i64 1000000)), 3, none⟩, ⟨some 3, .assign (.const (.int .i64 0)), 27, none⟩])
    .ret) .skip)))))))
    (.seq (.ops [⟨some 27, .load 24 (.tmp 1), 24, none⟩, ⟨some 28, .call { callee := .value (.func 31), args := #[.tmp 27], argTypes := #[24] }, 3, none⟩, ⟨some 2, .assign (.tmp 28), 3, none⟩, ⟨some 3, .assign (.const (.int .i64 0)), 27, none⟩])
    .ret)))
def pl15 : Nat → Plan := fun _ => .done
theorem st15 : Go.Proofs.Try.f15.body.map (strip pl15) = some m15 := by kernel_rfl
theorem ok15 : okB pl15 Go.Proofs.Try.f15 1 = true := by kernel_rfl
theorem en15 {v0 w} {Q : Value → World → Prop} (h : mwpB Go.Proofs.Try.prog m15 (argEnv [v0]) [] w (fun e ds w => ds = [] ∧ resW Go.Proofs.Try.prog [.tmp 2, .tmp 3] e w fun v => Q v w) (fun _ _ _ _ => False) (fun e ds w => ds = [] ∧ resW Go.Proofs.Try.prog [.tmp 2, .tmp 3] e w fun v => Q v w) (fun _ _ _ => False) ⟨⟩) : Rets Go.Proofs.Try.prog 15 #[v0] w Q :=
  rets_of_mwp follows_mo Go.Proofs.Try.func15 pl15 st15 ok15 (by kernel_rfl) h
/-- continuo/continuoref31.Tail -/
def m16 : MC := (.seq (.ops [⟨some 1, .box 24 (.tmp 0), 0, none⟩, ⟨some 2, .assign (.const (.int .i64 0)), 3, none⟩, ⟨some 3, .assign (.const (.int .i64 0)), 27, none⟩])
    (.seq (.seq (.ops [⟨some 4, .load 24 (.tmp 1), 24, none⟩, ⟨some 5, .call { callee := .value (.func 14), args := #[.tmp 4], argTypes := #[24] }, 4, none⟩, ⟨some 6, .unOp .not 4 (.tmp 5), 4, none⟩])
    (.cond (.tmp 6) (.seq (.ops [⟨some 2, .assign (.const (.int .i64 0)), 3, none⟩, ⟨some 3, .assign (.const (.int .i64 1)), 27, none⟩])
    .ret) .skip))
    (.seq (.seq (.ops [⟨some 7, .fieldAddr 24 (.tmp 1) 0, 0, none⟩, ⟨some 8, .load 3 (.tmp 7), 3, none⟩, ⟨some 9, .binOp .eql 3 (.tmp 8) (.const (.int .i64 4)) 3, 4, none⟩])
    (.cond (.tmp 9) (.seq (.ops [⟨some 10, .fieldAddr 24 (.tmp 1) 2, 0, none⟩, ⟨some 11, .load 22 (.tmp 10), 22, none⟩, ⟨some 12, .call { callee := .builtin .len, args := #[.tmp 11], argTypes := #[22] }, 3, none⟩, ⟨some 13, .binOp .sub 3 (.tmp 12) (.const (.int .i64 1)) 3, 3, none⟩, ⟨some 2, .assign (.tmp 13), 3, none⟩, ⟨some 3, .assign (.const (.int .i64 0)), 27, none⟩])
    .ret) .skip))
    (.seq (.seq (.ops [⟨some 14, .fieldAddr 24 (.tmp 1) 0, 0, none⟩, ⟨some 15, .load 3 (.tmp 14), 3, none⟩, ⟨some 16, .binOp .eql 3 (.tmp 15) (.const (.int .i64 3)) 3, 4, none⟩, ⟨some 17, .move (.tmp 16), 4, none⟩, ⟨some 18, .fieldAddr 24 (.tmp 1) 1, 0, some (some 17, true)⟩, ⟨some 19, .load 22 (.tmp 18), 22, some (some 17, true)⟩, ⟨some 20, .indexAddr 22 (.tmp 19) (.const (.int .i64 1)), 0, some (some 17, true)⟩, ⟨some 21, .load 3 (.tmp 20), 3, some (some 17, true)⟩, ⟨some 22, .binOp .neq 3 (.tmp 21) (.const (.int .i64 0)) 3, 4, some (some 17, true)⟩, ⟨some 23, .pick (.tmp 17) (.tmp 22) (.const (.bool false)), 4, none⟩])
    (.cond (.tmp 23) (.seq (.ops [⟨some 2, .assign (.const (.int .i64 1000000)), 3, none⟩, ⟨some 3, .assign (.const (.int .i64 0)), 27, none⟩])
    .ret) .skip))
    (.seq (.ops [⟨some 24, .load 24 (.tmp 1), 24, none⟩, ⟨some 25, .call { callee := .value (.func 32), args := #[.tmp 24], argTypes := #[24] }, 3, none⟩, ⟨some 2, .assign (.tmp 25), 3, none⟩, ⟨some 3, .assign (.const (.int .i64 0)), 27, none⟩])
    .ret)))))
def pl16 : Nat → Plan := fun _ => .done
theorem st16 : Go.Proofs.Try.f16.body.map (strip pl16) = some m16 := by kernel_rfl
theorem ok16 : okB pl16 Go.Proofs.Try.f16 1 = true := by kernel_rfl
theorem en16 {v0 w} {Q : Value → World → Prop} (h : mwpB Go.Proofs.Try.prog m16 (argEnv [v0]) [] w (fun e ds w => ds = [] ∧ resW Go.Proofs.Try.prog [.tmp 2, .tmp 3] e w fun v => Q v w) (fun _ _ _ _ => False) (fun e ds w => ds = [] ∧ resW Go.Proofs.Try.prog [.tmp 2, .tmp 3] e w fun v => Q v w) (fun _ _ _ => False) ⟨⟩) : Rets Go.Proofs.Try.prog 16 #[v0] w Q :=
  rets_of_mwp follows_mo Go.Proofs.Try.func16 pl16 st16 ok16 (by kernel_rfl) h
/-- continuo/effect.NewParts -/
def m17 : MC := (.seq (.ops [⟨some 4, .assign (.const (.pointer none)), 34, none⟩, ⟨some 5, .assign (.const (.int .i64 0)), 27, none⟩])
    (.seq (.block 0 (.seq (.ops [⟨some 7, .move (.tmp 0), 22, none⟩, ⟨some 8, .call { callee := .value (.func 34), args := #[.tmp 7], argTypes := #[22] }, 4, none⟩, ⟨some 9, .unOp .not 4 (.tmp 8), 4, none⟩, ⟨some 6, .assign (.tmp 9), 4, none⟩])
    (.cond (.tmp 6) (.seq (.ops [⟨some 4, .assign (.const (.pointer none)), 34, none⟩, ⟨some 5, .assign (.const (.int .i64 1)), 27, none⟩])
    .ret) (.seq (.ops [⟨some 11, .move (.tmp 1), 3, none⟩, ⟨some 12, .call { callee := .value (.func 33), args := #[.tmp 11, .const (.int .i64 1), .const (.int .i64 512)], argTypes := #[3, 3, 3] }, 4, none⟩, ⟨some 13, .unOp .not 4 (.tmp 12), 4, none⟩, ⟨some 10, .assign (.tmp 13), 4, none⟩])
    (.cond (.tmp 10) (.seq (.ops [⟨some 4, .assign (.const (.pointer none)), 34, none⟩, ⟨some 5, .assign (.const (.int .i64 7)), 27, none⟩])
    .ret) .skip)))))
    (.seq (.draw (.take ⟨some 14, .move (.tmp 0), 22, none⟩ (.take ⟨some 16, .move (.tmp 1), 3, none⟩ (.take ⟨some 17, .move (.tmp 0), 22, none⟩ (.take ⟨some 18, .call { callee := .builtin .len, args := #[.tmp 17], argTypes := #[22] }, 3, none⟩ (.alt ⟨some 15, .call { callee := .value (.func 41), args := #[.tmp 14], argTypes := #[22] }, 22, none⟩ (.alt ⟨some 19, .makeSlice 22 (.tmp 18) (.tmp 18), 22, none⟩ (.take ⟨some 20, .build 64 #[(0, .tmp 15), (1, .tmp 16), (2, .tmp 19)], 64, none⟩ (.alt ⟨some 21, .box 64 (.tmp 20), 34, none⟩ (.take ⟨some 4, .assign (.tmp 21), 34, none⟩ (.take ⟨some 5, .assign (.const (.int .i64 0)), 27, none⟩ .done)) .none)) .none) (.alt ⟨some 19, .makeSlice 22 (.tmp 18) (.tmp 18), 22, none⟩ (.alt ⟨some 15, .call { callee := .value (.func 41), args := #[.tmp 14], argTypes := #[22] }, 22, none⟩ (.take ⟨some 20, .build 64 #[(0, .tmp 15), (1, .tmp 16), (2, .tmp 19)], 64, none⟩ (.alt ⟨some 21, .box 64 (.tmp 20), 34, none⟩ (.take ⟨some 4, .assign (.tmp 21), 34, none⟩ (.take ⟨some 5, .assign (.const (.int .i64 0)), 27, none⟩ .done)) .none)) .none) .none)))))))
    .ret)))
def pl17 : Nat → Plan := fun id => if id = 5 then (.take 0 (.take 2 (.take 3 (.take 4 (.alt 1 (.alt 5 (.take 6 (.alt 7 (.take 8 (.take 9 .done)) .none)) .none) (.alt 5 (.alt 1 (.take 6 (.alt 7 (.take 8 (.take 9 .done)) .none)) .none) .none)))))) else .done
theorem st17 : Go.Proofs.Try.f17.body.map (strip pl17) = some m17 := by kernel_rfl
theorem ok17 : okB pl17 Go.Proofs.Try.f17 2 = true := by kernel_rfl
theorem en17 {v0 v1 w} {Q : Value → World → Prop} (h : mwpB Go.Proofs.Try.prog m17 (argEnv [v0, v1]) [] w (fun e ds w => ds = [] ∧ resW Go.Proofs.Try.prog [.tmp 4, .tmp 5] e w fun v => Q v w) (fun _ _ _ _ => False) (fun e ds w => ds = [] ∧ resW Go.Proofs.Try.prog [.tmp 4, .tmp 5] e w fun v => Q v w) (fun _ _ _ => False) ⟨⟩) : Rets Go.Proofs.Try.prog 17 #[v0, v1] w Q :=
  rets_of_mwp follows_mo Go.Proofs.Try.func17 pl17 st17 ok17 (by kernel_rfl) h
/-- continuo/continuoref31.Parts -/
def m18 : MC := (.seq (.ops [⟨some 4, .assign (.const (.int .i64 0)), 3, none⟩, ⟨some 5, .assign (.const (.int .i64 0)), 27, none⟩])
    (.seq (.seq (.ops [⟨some 6, .move (.tmp 0), 22, none⟩, ⟨some 7, .call { callee := .value (.func 38), args := #[.tmp 6], argTypes := #[22] }, 4, none⟩, ⟨some 8, .unOp .not 4 (.tmp 7), 4, none⟩])
    (.cond (.tmp 8) (.seq (.ops [⟨some 4, .assign (.const (.int .i64 0)), 3, none⟩, ⟨some 5, .assign (.const (.int .i64 1)), 27, none⟩])
    .ret) .skip))
    (.seq (.seq (.ops [⟨some 9, .move (.tmp 1), 3, none⟩, ⟨some 10, .binOp .lss 3 (.tmp 9) (.const (.int .i64 1)) 3, 4, none⟩, ⟨some 11, .move (.tmp 10), 4, none⟩, ⟨some 12, .move (.tmp 1), 3, some (some 11, false)⟩, ⟨some 13, .binOp .gtr 3 (.tmp 12) (.const (.int .i64 512)) 3, 4, some (some 11, false)⟩, ⟨some 14, .pick (.tmp 11) (.const (.bool true)) (.tmp 13), 4, none⟩])
    (.cond (.tmp 14) (.seq (.ops [⟨some 4, .assign (.const (.int .i64 0)), 3, none⟩, ⟨some 5, .assign (.const (.int .i64 7)), 27, none⟩])
    .ret) .skip))
    (.seq (.ops [⟨some 15, .move (.tmp 0), 22, none⟩, ⟨some 16, .call { callee := .builtin .len, args := #[.tmp 15], argTypes := #[22] }, 3, none⟩, ⟨some 17, .move (.tmp 1), 3, none⟩, ⟨some 18, .binOp .add 3 (.tmp 16) (.tmp 17) 3, 3, none⟩, ⟨some 19, .binOp .sub 3 (.tmp 18) (.const (.int .i64 1)) 3, 3, none⟩, ⟨some 20, .move (.tmp 1), 3, none⟩, ⟨some 21, .binOp .quo 3 (.tmp 19) (.tmp 20) 3, 3, none⟩, ⟨some 4, .assign (.tmp 21), 3, none⟩, ⟨some 5, .assign (.const (.int .i64 0)), 27, none⟩])
    .ret))))
def pl18 : Nat → Plan := fun _ => .done
theorem st18 : Go.Proofs.Try.f18.body.map (strip pl18) = some m18 := by kernel_rfl
theorem ok18 : okB pl18 Go.Proofs.Try.f18 2 = true := by kernel_rfl
theorem en18 {v0 v1 w} {Q : Value → World → Prop} (h : mwpB Go.Proofs.Try.prog m18 (argEnv [v0, v1]) [] w (fun e ds w => ds = [] ∧ resW Go.Proofs.Try.prog [.tmp 4, .tmp 5] e w fun v => Q v w) (fun _ _ _ _ => False) (fun e ds w => ds = [] ∧ resW Go.Proofs.Try.prog [.tmp 4, .tmp 5] e w fun v => Q v w) (fun _ _ _ => False) ⟨⟩) : Rets Go.Proofs.Try.prog 18 #[v0, v1] w Q :=
  rets_of_mwp follows_mo Go.Proofs.Try.func18 pl18 st18 ok18 (by kernel_rfl) h
/-- (*continuo/effect.Parts).Count -/
def m19 : MC := (.seq (.ops [⟨some 2, .assign (.const (.int .i64 0)), 3, none⟩])
    (.seq (.seq (.ops [⟨some 3, .move (.tmp 0), 34, none⟩, ⟨some 4, .binOp .eql 34 (.tmp 3) (.const (.pointer none)) 34, 4, none⟩])
    (.cond (.tmp 4) (.seq (.ops [⟨some 2, .assign (.const (.int .i64 0)), 3, none⟩])
    .ret) .skip))
    (.seq (.draw (.take ⟨some 5, .move (.tmp 0), 34, none⟩ (.take ⟨some 6, .nilCheck (.tmp 5), 0, none⟩ (.take ⟨some 7, .fieldAddr 64 (.tmp 6) 0, 0, none⟩ (.take ⟨some 8, .load 22 (.tmp 7), 22, none⟩ (.take ⟨some 9, .call { callee := .builtin .len, args := #[.tmp 8], argTypes := #[22] }, 3, none⟩ (.take ⟨some 10, .move (.tmp 0), 34, none⟩ (.take ⟨some 11, .nilCheck (.tmp 10), 0, none⟩ (.take ⟨some 12, .fieldAddr 64 (.tmp 11) 1, 0, none⟩ (.take ⟨some 13, .load 3 (.tmp 12), 3, none⟩ (.take ⟨some 14, .binOp .add 3 (.tmp 9) (.tmp 13) 3, 3, none⟩ (.take ⟨some 15, .binOp .sub 3 (.tmp 14) (.const (.int .i64 1)) 3, 3, none⟩ (.take ⟨some 16, .move (.tmp 0), 34, none⟩ (.take ⟨some 17, .nilCheck (.tmp 16), 0, none⟩ (.take ⟨some 18, .fieldAddr 64 (.tmp 17) 1, 0, none⟩ (.take ⟨some 19, .load 3 (.tmp 18), 3, none⟩ (.take ⟨some 20, .binOp .quo 3 (.tmp 15) (.tmp 19) 3, 3, none⟩ (.take ⟨some 2, .assign (.tmp 20), 3, none⟩ .done))))))))))))))))))
    .ret)))
def pl19 : Nat → Plan := fun id => if id = 3 then (.take 0 (.take 1 (.take 2 (.take 3 (.take 4 (.take 5 (.take 6 (.take 7 (.take 8 (.take 9 (.take 10 (.take 11 (.take 12 (.take 13 (.take 14 (.take 15 (.take 16 .done))))))))))))))))) else .done
theorem st19 : Go.Proofs.Try.f19.body.map (strip pl19) = some m19 := by kernel_rfl
theorem ok19 : okB pl19 Go.Proofs.Try.f19 1 = true := by kernel_rfl
theorem en19 {v0 w} {Q : Value → World → Prop} (h : mwpB Go.Proofs.Try.prog m19 (argEnv [v0]) [] w (fun e ds w => ds = [] ∧ resW Go.Proofs.Try.prog [.tmp 2] e w fun v => Q v w) (fun _ _ _ _ => False) (fun e ds w => ds = [] ∧ resW Go.Proofs.Try.prog [.tmp 2] e w fun v => Q v w) (fun _ _ _ => False) ⟨⟩) : Rets Go.Proofs.Try.prog 19 #[v0] w Q :=
  rets_of_mwp follows_mo Go.Proofs.Try.func19 pl19 st19 ok19 (by kernel_rfl) h
/-- continuo/continuoref31.Samples -/
def m20 : MC := (.seq (.ops [⟨some 2, .assign (.const (.int .i64 0)), 27, none⟩])
    (.seq (.seq (.ops [⟨some 3, .assign (.const (.int .i64 0)), 3, none⟩])
    (.block 0 (.loop (.seq (.seq (.ops [⟨some 4, .move (.tmp 3), 3, none⟩, ⟨some 5, .move (.tmp 0), 22, none⟩, ⟨some 6, .call { callee := .builtin .len, args := #[.tmp 5], argTypes := #[22] }, 3, none⟩, ⟨some 7, .binOp .lss 3 (.tmp 4) (.tmp 6) 3, 4, none⟩])
    (.cond (.tmp 7) .skip (.exit 0)))
    (.seq (.block 1 (.seq (.draw (.take ⟨some 10, .move (.tmp 0), 22, none⟩ (.take ⟨some 11, .move (.tmp 3), 3, none⟩ (.take ⟨some 12, .indexAddr 22 (.tmp 10) (.tmp 11), 0, none⟩ (.take ⟨some 13, .load 3 (.tmp 12), 3, none⟩ (.take ⟨some 15, .move (.tmp 0), 22, none⟩ (.take ⟨some 16, .move (.tmp 3), 3, none⟩ (.take ⟨some 17, .indexAddr 22 (.tmp 15) (.tmp 16), 0, none⟩ (.take ⟨some 18, .load 3 (.tmp 17), 3, none⟩ (.alt ⟨some 14, .call { callee := .value (.func 10), args := #[.tmp 13], argTypes := #[3] }, 3, none⟩ (.take ⟨some 19, .binOp .neq 3 (.tmp 14) (.tmp 18) 3, 4, none⟩ .done) .none))))))))))
    (.cond (.tmp 19) (.seq (.ops [⟨some 2, .assign (.const (.int .i64 1)), 27, none⟩])
    .ret) .skip)))
    (.ops [⟨some 8, .move (.tmp 3), 3, none⟩, ⟨some 9, .binOp .add 3 (.tmp 8) (.const (.int .i64 1)) 3, 3, none⟩, ⟨some 3, .assign (.tmp 9), 3, none⟩]))))))
    (.seq (.seq (.ops [⟨some 20, .move (.tmp 0), 22, none⟩, ⟨some 21, .call { callee := .builtin .len, args := #[.tmp 20], argTypes := #[22] }, 3, none⟩, ⟨some 22, .binOp .gtr 3 (.tmp 21) (.const (.int .i64 4096)) 3, 4, none⟩])
    (.cond (.tmp 22) (.seq (.ops [⟨some 2, .assign (.const (.int .i64 1)), 27, none⟩])
    .ret) .skip))
    (.seq (.ops [⟨some 2, .assign (.const (.int .i64 0)), 27, none⟩])
    .ret))))
def pl20 : Nat → Plan := fun id => if id = 4 then (.take 0 (.take 1 (.take 2 (.take 3 (.take 5 (.take 6 (.take 7 (.take 8 (.alt 4 (.take 9 .done) .none))))))))) else .done
theorem st20 : Go.Proofs.Try.f20.body.map (strip pl20) = some m20 := by kernel_rfl
theorem ok20 : okB pl20 Go.Proofs.Try.f20 1 = true := by kernel_rfl
theorem en20 {v0 w} {Q : Value → World → Prop} (h : mwpB Go.Proofs.Try.prog m20 (argEnv [v0]) [] w (fun e ds w => ds = [] ∧ resW Go.Proofs.Try.prog [.tmp 2] e w fun v => Q v w) (fun _ _ _ _ => False) (fun e ds w => ds = [] ∧ resW Go.Proofs.Try.prog [.tmp 2] e w fun v => Q v w) (fun _ _ _ => False) ⟨⟩) : Rets Go.Proofs.Try.prog 20 #[v0] w Q :=
  rets_of_mwp follows_mo Go.Proofs.Try.func20 pl20 st20 ok20 (by kernel_rfl) h
noncomputable def rf21_0 : Code := subC [1, 1, 1, 1, 0, 1, 0, 0, 1, 1, 0, 0, 1, 0, 1, 0] (bodyC Go.Proofs.Try.f21)
noncomputable def ra21_0 : Code := subC [0] rf21_0
noncomputable def rb21_0 : Code := subC [1] rf21_0
/-- (*continuo/effect.Parts).Run -/
noncomputable def m21 : MC := (.seq (.ops [⟨some 2, .box 34 (.tmp 0), 0, none⟩, ⟨some 4, .assign (.const (.slice none 0 0)), 22, none⟩, ⟨some 5, .assign (.const (.int .i64 0)), 27, none⟩])
    (.seq (.seq (.ops [⟨some 14, .load 34 (.tmp 2), 34, none⟩, ⟨some 15, .binOp .eql 34 (.tmp 14) (.const (.pointer none)) 34, 4, none⟩, ⟨some 16, .move (.tmp 15), 4, none⟩, ⟨some 17, .move (.tmp 1), 22, some (some 16, false)⟩, ⟨some 18, .call { callee := .value (.func 42), args := #[.tmp 17], argTypes := #[22] }, 4, some (some 16, false)⟩, ⟨some 19, .unOp .not 4 (.tmp 18), 4, some (some 16, false)⟩, ⟨some 20, .pick (.tmp 16) (.const (.bool true)) (.tmp 19), 4, none⟩])
    (.cond (.tmp 20) (.seq (.ops [⟨some 4, .assign (.const (.slice none 0 0)), 22, none⟩, ⟨some 5, .assign (.const (.int .i64 1)), 27, none⟩])
    .ret) .skip))
    (.seq (.ops [⟨some 6, .assign (.const (.slice none 0 0)), 22, none⟩])
    (.seq (.ops [⟨some 21, .load 34 (.tmp 2), 34, none⟩, ⟨some 22, .nilCheck (.tmp 21), 0, none⟩, ⟨some 23, .fieldAddr 64 (.tmp 22) 2, 0, none⟩, ⟨some 24, .load 22 (.tmp 23), 22, none⟩, ⟨some 25, .call { callee := .builtin .len, args := #[.tmp 24], argTypes := #[22] }, 3, none⟩, ⟨some 7, .alloc 3, 0, none⟩, ⟨none, .store 3 (.tmp 7) (.tmp 25), 0, none⟩])
    (.seq (.seq (.ops [⟨some 26, .move (.tmp 1), 22, none⟩, ⟨some 27, .call { callee := .builtin .len, args := #[.tmp 26], argTypes := #[22] }, 3, none⟩, ⟨some 28, .move (.const (.int .i64 0)), 3, none⟩])
    (.block 0 (.loop (.seq (.ops [⟨some 29, .binOp .lss 3 (.tmp 28) (.tmp 27) 3, 0, none⟩])
    (.seq (.cond (.tmp 29) .skip (.exit 0))
    (.seq (.block 1 (.seq (.ops [⟨some 30, .indexAddr 22 (.tmp 26) (.tmp 28), 0, none⟩, ⟨some 31, .load 3 (.tmp 30), 3, none⟩, ⟨some 9, .alloc 3, 0, none⟩, ⟨none, .store 3 (.tmp 9) (.tmp 31), 0, none⟩])
    (.seq (.seq (.ops [⟨some 32, .load 34 (.tmp 2), 34, none⟩, ⟨some 33, .call { callee := .value (.func 43), args := #[.tmp 32], argTypes := #[34] }, 66, none⟩])
    (.block 2 (.raw rf21_0)))
    (.seq (.draw (.take ⟨some 65, .move (.tmp 6), 22, none⟩ (.take ⟨some 66, .load 34 (.tmp 2), 34, none⟩ (.take ⟨some 67, .nilCheck (.tmp 66), 0, none⟩ (.take ⟨some 68, .fieldAddr 64 (.tmp 67) 2, 0, none⟩ (.take ⟨some 69, .load 22 (.tmp 68), 22, none⟩ (.take ⟨some 70, .load 34 (.tmp 2), 34, none⟩ (.take ⟨some 71, .nilCheck (.tmp 70), 0, none⟩ (.take ⟨some 72, .fieldAddr 64 (.tmp 71) 3, 0, none⟩ (.take ⟨some 73, .load 3 (.tmp 72), 3, none⟩ (.take ⟨some 74, .indexAddr 22 (.tmp 69) (.tmp 73), 0, none⟩ (.take ⟨some 75, .load 3 (.tmp 74), 3, none⟩ (.alt ⟨some 76, .call { callee := .value (.func 45), args := #[.tmp 75], argTypes := #[3] }, 3, none⟩ (.alt ⟨some 77, .call { callee := .value (.func 44), args := #[.tmp 76], argTypes := #[3] }, 3, none⟩ (.alt ⟨some 78, .buildSlice 22 1 #[(0, .tmp 77)], 22, none⟩ (.alt ⟨some 79, .call { callee := .builtin .append, args := #[.tmp 65, .tmp 78], argTypes := #[22, 22] }, 22, none⟩ (.take ⟨some 6, .assign (.tmp 79), 22, none⟩ .done) .none) .none) .none) .none)))))))))))))
    (.seq (.draw (.take ⟨some 80, .load 34 (.tmp 2), 34, none⟩ (.take ⟨some 81, .nilCheck (.tmp 80), 0, none⟩ (.take ⟨some 82, .fieldAddr 64 (.tmp 81) 2, 0, none⟩ (.take ⟨some 83, .load 22 (.tmp 82), 22, none⟩ (.take ⟨some 84, .load 34 (.tmp 2), 34, none⟩ (.take ⟨some 85, .nilCheck (.tmp 84), 0, none⟩ (.take ⟨some 86, .fieldAddr 64 (.tmp 85) 3, 0, none⟩ (.take ⟨some 87, .load 3 (.tmp 86), 3, none⟩ (.take ⟨some 88, .indexAddr 22 (.tmp 83) (.tmp 87), 0, none⟩ (.altL ⟨none, .store 3 (.tmp 88) (.const (.int .i64 0)), 0, none⟩ .done .none)))))))))))
    (.draw (.take ⟨some 89, .load 34 (.tmp 2), 34, none⟩ (.take ⟨some 90, .load 34 (.tmp 2), 34, none⟩ (.take ⟨some 91, .nilCheck (.tmp 90), 0, none⟩ (.take ⟨some 92, .fieldAddr 64 (.tmp 91) 3, 0, none⟩ (.take ⟨some 93, .load 3 (.tmp 92), 3, none⟩ (.take ⟨some 94, .binOp .add 3 (.tmp 93) (.const (.int .i64 1)) 3, 3, none⟩ (.take ⟨some 95, .load 3 (.tmp 7), 3, none⟩ (.take ⟨some 96, .binOp .rem 3 (.tmp 94) (.tmp 95) 3, 3, none⟩ (.take ⟨some 97, .nilCheck (.tmp 89), 0, none⟩ (.take ⟨some 98, .fieldAddr 64 (.tmp 97) 3, 0, none⟩ (.altL ⟨none, .store 3 (.tmp 98) (.tmp 96), 0, none⟩ .done .none)))))))))))))))))
    (.ops [⟨some 99, .binOp .add 3 (.tmp 28) (.const (.int .i64 1)) 3, 3, none⟩, ⟨some 28, .move (.tmp 99), 3, none⟩])))))))
    (.seq (.ops [⟨some 100, .move (.tmp 6), 22, none⟩, ⟨some 4, .assign (.tmp 100), 22, none⟩, ⟨some 5, .assign (.const (.int .i64 0)), 27, none⟩])
    .ret))))))
def pl21 : Nat → Plan := fun id => if id = 14 then (.take 0 (.take 1 (.take 2 (.take 3 (.take 4 (.take 5 (.take 6 (.take 7 (.take 8 (.take 9 (.take 10 (.take 11 (.take 12 (.take 13 (.take 14 (.take 15 (.take 16 (.take 17 (.take 18 (.take 19 (.take 20 (.altL 21 .done .none)))))))))))))))))))))) else if id = 16 then (.take 0 (.take 1 (.take 2 (.take 3 (.take 4 (.take 5 (.take 6 (.take 7 (.take 8 (.take 9 (.take 10 (.alt 11 (.alt 12 (.alt 13 (.alt 14 (.take 15 .done) .none) .none) .none) .none)))))))))))) else if id = 17 then (.take 0 (.take 1 (.take 2 (.take 3 (.take 4 (.take 5 (.take 6 (.take 7 (.take 8 (.altL 9 .done .none)))))))))) else if id = 18 then (.take 0 (.take 1 (.take 2 (.take 3 (.take 4 (.take 5 (.take 6 (.take 7 (.take 8 (.take 9 (.altL 10 .done .none))))))))))) else .done
theorem st21 : Go.Proofs.Try.f21.body.map (strip pl21) = some m21 := by kernel_rfl
theorem rfE21_0 : rf21_0 = .rangeFunc (.tmp 33) #[34, 35] ra21_0 rb21_0 := by kernel_rfl
noncomputable def mra21_0 : MC := (.seq (.ops [⟨some 10, .assign (.tmp 34), 3, none⟩])
    (.ops [⟨some 11, .assign (.tmp 35), 22, none⟩]))
noncomputable def mrb21_0 : MC := (.block 3 (.seq (.ops [⟨some 36, .move (.tmp 11), 22, none⟩, ⟨some 37, .call { callee := .builtin .len, args := #[.tmp 36], argTypes := #[22] }, 3, none⟩, ⟨some 38, .move (.const (.int .i64 0)), 3, none⟩])
    (.block 4 (.loop (.seq (.ops [⟨some 39, .binOp .lss 3 (.tmp 38) (.tmp 37) 3, 0, none⟩])
    (.seq (.cond (.tmp 39) .skip (.exit 4))
    (.seq (.block 5 (.seq (.ops [⟨some 40, .move (.tmp 38), 3, none⟩, ⟨some 41, .indexAddr 22 (.tmp 36) (.tmp 38), 0, none⟩, ⟨some 42, .load 3 (.tmp 41), 3, none⟩, ⟨some 12, .assign (.tmp 40), 3, none⟩, ⟨some 13, .assign (.tmp 42), 3, none⟩])
    (.draw (.take ⟨some 43, .load 34 (.tmp 2), 34, none⟩ (.take ⟨some 44, .nilCheck (.tmp 43), 0, none⟩ (.take ⟨some 45, .fieldAddr 64 (.tmp 44) 2, 0, none⟩ (.take ⟨some 46, .load 22 (.tmp 45), 22, none⟩ (.take ⟨some 47, .load 34 (.tmp 2), 34, none⟩ (.take ⟨some 48, .nilCheck (.tmp 47), 0, none⟩ (.take ⟨some 49, .fieldAddr 64 (.tmp 48) 3, 0, none⟩ (.take ⟨some 50, .load 3 (.tmp 49), 3, none⟩ (.take ⟨some 51, .move (.tmp 10), 3, none⟩ (.take ⟨some 52, .binOp .add 3 (.tmp 50) (.tmp 51) 3, 3, none⟩ (.take ⟨some 53, .move (.tmp 12), 3, none⟩ (.take ⟨some 54, .binOp .add 3 (.tmp 52) (.tmp 53) 3, 3, none⟩ (.take ⟨some 55, .load 3 (.tmp 7), 3, none⟩ (.take ⟨some 56, .binOp .rem 3 (.tmp 54) (.tmp 55) 3, 3, none⟩ (.take ⟨some 57, .indexAddr 22 (.tmp 46) (.tmp 56), 0, none⟩ (.take ⟨some 58, .load 3 (.tmp 57), 3, none⟩ (.take ⟨some 59, .move (.tmp 13), 3, none⟩ (.take ⟨some 60, .load 3 (.tmp 9), 3, none⟩ (.take ⟨some 61, .binOp .mul 3 (.tmp 59) (.tmp 60) 3, 3, none⟩ (.take ⟨some 62, .binOp .add 3 (.tmp 58) (.tmp 61) 3, 3, none⟩ (.take ⟨some 63, .indexAddr 22 (.tmp 46) (.tmp 56), 0, none⟩ (.altL ⟨none, .store 3 (.tmp 63) (.tmp 62), 0, none⟩ .done .none)))))))))))))))))))))))))
    (.ops [⟨some 64, .binOp .add 3 (.tmp 38) (.const (.int .i64 1)) 3, 3, none⟩, ⟨some 38, .move (.tmp 64), 3, none⟩]))))))))
theorem stra21_0 : strip pl21 ra21_0 = mra21_0 := by kernel_rfl
theorem okra21_0 : (plansOk pl21 ra21_0 && noDefer ra21_0) = true := by kernel_rfl
theorem strb21_0 : strip pl21 rb21_0 = mrb21_0 := by kernel_rfl
theorem okrb21_0 : (plansOk pl21 rb21_0 && noDefer rb21_0) = true := by kernel_rfl
theorem ok21 : okB pl21 Go.Proofs.Try.f21 2 = true := by kernel_rfl
theorem en21 {v0 v1 w} {Q : Value → World → Prop} (h : mwpB Go.Proofs.Try.prog m21 (argEnv [v0, v1]) [] w (fun e ds w => ds = [] ∧ resW Go.Proofs.Try.prog [.tmp 4, .tmp 5] e w fun v => Q v w) (fun _ _ _ _ => False) (fun e ds w => ds = [] ∧ resW Go.Proofs.Try.prog [.tmp 4, .tmp 5] e w fun v => Q v w) (fun _ _ _ => False) ⟨⟩) : Rets Go.Proofs.Try.prog 21 #[v0, v1] w Q :=
  rets_of_mwp follows_mo Go.Proofs.Try.func21 pl21 st21 ok21 (by kernel_rfl) h
theorem enM21 {v0 v1 w} {Q : Value → World → Prop} (h : mwpB Go.Proofs.Try.prog m21 (argEnv [v0, v1]) [] w (fun e ds w => endW Go.Proofs.Try.prog [.tmp 4, .tmp 5] ds e w Q) (fun _ _ _ _ => False) (fun e ds w => endW Go.Proofs.Try.prog [.tmp 4, .tmp 5] ds e w Q) (fun _ _ _ => False) ⟨⟩) : Rets Go.Proofs.Try.prog 21 #[v0, v1] w Q :=
  rets_of_mwpM follows_mo Go.Proofs.Try.func21 pl21 st21 ok21 (by kernel_rfl) h
/-- continuo/continuoref31.Filter -/
def m22 : MC := (.seq (.ops [⟨some 4, .assign (.const (.slice none 0 0)), 22, none⟩])
    (.seq (.ops [⟨some 5, .assign (.const (.slice none 0 0)), 22, none⟩])
    (.seq (.seq (.ops [⟨some 6, .assign (.const (.int .i64 0)), 3, none⟩])
    (.block 0 (.loop (.seq (.seq (.ops [⟨some 9, .move (.tmp 6), 3, none⟩, ⟨some 10, .move (.tmp 1), 22, none⟩, ⟨some 11, .call { callee := .builtin .len, args := #[.tmp 10], argTypes := #[22] }, 3, none⟩, ⟨some 12, .binOp .lss 3 (.tmp 9) (.tmp 11) 3, 4, none⟩])
    (.cond (.tmp 12) .skip (.exit 0)))
    (.seq (.block 1 (.seq (.ops [⟨some 7, .assign (.const (.int .i64 0)), 3, none⟩])
    (.seq (.seq (.ops [⟨some 8, .assign (.const (.int .i64 0)), 3, none⟩])
    (.block 2 (.loop (.seq (.seq (.ops [⟨some 15, .move (.tmp 8), 3, none⟩, ⟨some 16, .move (.tmp 0), 22, none⟩, ⟨some 17, .call { callee := .builtin .len, args := #[.tmp 16], argTypes := #[22] }, 3, none⟩, ⟨some 18, .binOp .lss 3 (.tmp 15) (.tmp 17) 3, 4, none⟩, ⟨some 19, .move (.tmp 18), 4, none⟩, ⟨some 20, .move (.tmp 8), 3, some (some 19, true)⟩, ⟨some 21, .move (.tmp 6), 3, some (some 19, true)⟩, ⟨some 22, .binOp .leq 3 (.tmp 20) (.tmp 21) 3, 4, some (some 19, true)⟩, ⟨some 23, .pick (.tmp 19) (.tmp 22) (.const (.bool false)), 4, none⟩])
    (.cond (.tmp 23) .skip (.exit 2)))
    (.seq (.block 3 (.draw (.take ⟨some 26, .move (.tmp 7), 3, none⟩ (.take ⟨some 27, .move (.tmp 0), 22, none⟩ (.take ⟨some 28, .move (.tmp 8), 3, none⟩ (.take ⟨some 29, .indexAddr 22 (.tmp 27) (.tmp 28), 0, none⟩ (.take ⟨some 30, .load 3 (.tmp 29), 3, none⟩ (.take ⟨some 31, .move (.tmp 1), 22, none⟩ (.take ⟨some 32, .move (.tmp 6), 3, none⟩ (.take ⟨some 33, .move (.tmp 8), 3, none⟩ (.take ⟨some 34, .binOp .sub 3 (.tmp 32) (.tmp 33) 3, 3, none⟩ (.take ⟨some 35, .indexAddr 22 (.tmp 31) (.tmp 34), 0, none⟩ (.take ⟨some 36, .load 3 (.tmp 35), 3, none⟩ (.take ⟨some 37, .binOp .mul 3 (.tmp 30) (.tmp 36) 3, 3, none⟩ (.take ⟨some 38, .binOp .add 3 (.tmp 26) (.tmp 37) 3, 3, none⟩ (.take ⟨some 7, .assign (.tmp 38), 3, none⟩ .done))))))))))))))))
    (.ops [⟨some 24, .move (.tmp 8), 3, none⟩, ⟨some 25, .binOp .add 3 (.tmp 24) (.const (.int .i64 1)) 3, 3, none⟩, ⟨some 8, .assign (.tmp 25), 3, none⟩]))))))
    (.ops [⟨some 39, .move (.tmp 5), 22, none⟩, ⟨some 40, .move (.tmp 7), 3, none⟩, ⟨some 41, .call { callee := .value (.func 46), args := #[.tmp 40], argTypes := #[3] }, 3, none⟩, ⟨some 42, .call { callee := .value (.func 10), args := #[.tmp 41], argTypes := #[3] }, 3, none⟩, ⟨some 43, .buildSlice 22 1 #[(0, .tmp 42)], 22, none⟩, ⟨some 44, .call { callee := .builtin .append, args := #[.tmp 39, .tmp 43], argTypes := #[22, 22] }, 22, none⟩, ⟨some 5, .assign (.tmp 44), 22, none⟩]))))
    (.ops [⟨some 13, .move (.tmp 6), 3, none⟩, ⟨some 14, .binOp .add 3 (.tmp 13) (.const (.int .i64 1)) 3, 3, none⟩, ⟨some 6, .assign (.tmp 14), 3, none⟩]))))))
    (.seq (.ops [⟨some 45, .move (.tmp 5), 22, none⟩, ⟨some 4, .assign (.tmp 45), 22, none⟩])
    .ret))))
def pl22 : Nat → Plan := fun id => if id = 9 then (.take 0 (.take 1 (.take 2 (.take 3 (.take 4 (.take 5 (.take 6 (.take 7 (.take 8 (.take 9 (.take 10 (.take 11 (.take 12 (.take 13 .done)))))))))))))) else .done
theorem st22 : Go.Proofs.Try.f22.body.map (strip pl22) = some m22 := by kernel_rfl
theorem ok22 : okB pl22 Go.Proofs.Try.f22 2 = true := by kernel_rfl
theorem en22 {v0 v1 w} {Q : Value → World → Prop} (h : mwpB Go.Proofs.Try.prog m22 (argEnv [v0, v1]) [] w (fun e ds w => ds = [] ∧ resW Go.Proofs.Try.prog [.tmp 4] e w fun v => Q v w) (fun _ _ _ _ => False) (fun e ds w => ds = [] ∧ resW Go.Proofs.Try.prog [.tmp 4] e w fun v => Q v w) (fun _ _ _ => False) ⟨⟩) : Rets Go.Proofs.Try.prog 22 #[v0, v1] w Q :=
  rets_of_mwp follows_mo Go.Proofs.Try.func22 pl22 st22 ok22 (by kernel_rfl) h
/-- continuo/continuolaw31.ints -/
def m23 : MC := (.seq (.ops [⟨some 4, .assign (.const (.bool false)), 4, none⟩])
    (.seq (.seq (.ops [⟨some 6, .move (.tmp 0), 22, none⟩, ⟨some 7, .call { callee := .builtin .len, args := #[.tmp 6], argTypes := #[22] }, 3, none⟩, ⟨some 8, .move (.tmp 1), 22, none⟩, ⟨some 9, .call { callee := .builtin .len, args := #[.tmp 8], argTypes := #[22] }, 3, none⟩, ⟨some 10, .binOp .neq 3 (.tmp 7) (.tmp 9) 3, 4, none⟩])
    (.cond (.tmp 10) (.seq (.ops [⟨some 4, .assign (.const (.bool false)), 4, none⟩])
    .ret) .skip))
    (.seq (.seq (.ops [⟨some 5, .assign (.const (.int .i64 0)), 3, none⟩])
    (.block 0 (.loop (.seq (.seq (.ops [⟨some 11, .move (.tmp 5), 3, none⟩, ⟨some 12, .move (.tmp 0), 22, none⟩, ⟨some 13, .call { callee := .builtin .len, args := #[.tmp 12], argTypes := #[22] }, 3, none⟩, ⟨some 14, .binOp .lss 3 (.tmp 11) (.tmp 13) 3, 4, none⟩])
    (.cond (.tmp 14) .skip (.exit 0)))
    (.seq (.block 1 (.seq (.draw (.take ⟨some 17, .move (.tmp 0), 22, none⟩ (.take ⟨some 18, .move (.tmp 5), 3, none⟩ (.take ⟨some 19, .indexAddr 22 (.tmp 17) (.tmp 18), 0, none⟩ (.take ⟨some 20, .load 3 (.tmp 19), 3, none⟩ (.take ⟨some 21, .move (.tmp 1), 22, none⟩ (.take ⟨some 22, .move (.tmp 5), 3, none⟩ (.take ⟨some 23, .indexAddr 22 (.tmp 21) (.tmp 22), 0, none⟩ (.take ⟨some 24, .load 3 (.tmp 23), 3, none⟩ (.take ⟨some 25, .binOp .neq 3 (.tmp 20) (.tmp 24) 3, 4, none⟩ .done))))))))))
    (.cond (.tmp 25) (.seq (.ops [⟨some 4, .assign (.const (.bool false)), 4, none⟩])
    .ret) .skip)))
    (.ops [⟨some 15, .move (.tmp 5), 3, none⟩, ⟨some 16, .binOp .add 3 (.tmp 15) (.const (.int .i64 1)) 3, 3, none⟩, ⟨some 5, .assign (.tmp 16), 3, none⟩]))))))
    (.seq (.ops [⟨some 4, .assign (.const (.bool true)), 4, none⟩])
    .ret))))
def pl23 : Nat → Plan := fun id => if id = 6 then (.take 0 (.take 1 (.take 2 (.take 3 (.take 4 (.take 5 (.take 6 (.take 7 (.take 8 .done))))))))) else .done
theorem st23 : Go.Proofs.Try.f23.body.map (strip pl23) = some m23 := by kernel_rfl
theorem ok23 : okB pl23 Go.Proofs.Try.f23 2 = true := by kernel_rfl
theorem en23 {v0 v1 w} {Q : Value → World → Prop} (h : mwpB Go.Proofs.Try.prog m23 (argEnv [v0, v1]) [] w (fun e ds w => ds = [] ∧ resW Go.Proofs.Try.prog [.tmp 4] e w fun v => Q v w) (fun _ _ _ _ => False) (fun e ds w => ds = [] ∧ resW Go.Proofs.Try.prog [.tmp 4] e w fun v => Q v w) (fun _ _ _ => False) ⟨⟩) : Rets Go.Proofs.Try.prog 23 #[v0, v1] w Q :=
  rets_of_mwp follows_mo Go.Proofs.Try.func23 pl23 st23 ok23 (by kernel_rfl) h
/-- continuo/effect.NewHost -/
def m24 : MC := (.seq (.ops [⟨some 4, .assign (.const (.pointer none)), 46, none⟩, ⟨some 5, .assign (.const (.int .i64 0)), 27, none⟩])
    (.seq (.seq (.ops [⟨some 12, .move (.tmp 0), 44, none⟩, ⟨some 13, .call { callee := .value (.func 47), args := #[.tmp 12, .func 48], argTypes := #[44, 70] }, 4, none⟩])
    (.cond (.tmp 13) (.seq (.ops [⟨some 4, .assign (.const (.pointer none)), 46, none⟩, ⟨some 5, .assign (.const (.int .i64 1)), 27, none⟩])
    .ret) .skip))
    (.seq (.seq (.ops [⟨some 14, .move (.tmp 0), 44, none⟩, ⟨some 15, .call { callee := .builtin .len, args := #[.tmp 14], argTypes := #[44] }, 3, none⟩, ⟨some 16, .call { callee := .value (.func 33), args := #[.tmp 15, .const (.int .i64 1), .const (.int .i64 8)], argTypes := #[3, 3, 3] }, 4, none⟩, ⟨some 17, .unOp .not 4 (.tmp 16), 4, none⟩, ⟨some 18, .move (.tmp 17), 4, none⟩, ⟨some 19, .move (.tmp 0), 44, some (some 18, false)⟩, ⟨some 20, .call { callee := .value (.func 47), args := #[.tmp 19, .func 51], argTypes := #[44, 70] }, 4, some (some 18, false)⟩, ⟨some 21, .pick (.tmp 18) (.const (.bool true)) (.tmp 20), 4, none⟩])
    (.cond (.tmp 21) (.seq (.ops [⟨some 4, .assign (.const (.pointer none)), 46, none⟩, ⟨some 5, .assign (.const (.int .i64 11)), 27, none⟩])
    .ret) .skip))
    (.seq (.ops [⟨some 22, .move (.tmp 1), 4, none⟩, ⟨some 23, .build 73 #[(1, .tmp 22)], 73, none⟩, ⟨some 24, .box 73 (.tmp 23), 46, none⟩, ⟨some 6, .assign (.tmp 24), 46, none⟩])
    (.seq (.seq (.ops [⟨some 25, .move (.tmp 0), 44, none⟩, ⟨some 26, .call { callee := .builtin .len, args := #[.tmp 25], argTypes := #[44] }, 3, none⟩, ⟨some 27, .move (.const (.int .i64 0)), 3, none⟩])
    (.block 0 (.loop (.seq (.ops [⟨some 28, .binOp .lss 3 (.tmp 27) (.tmp 26) 3, 0, none⟩])
    (.seq (.cond (.tmp 28) .skip (.exit 0))
    (.seq (.block 1 (.seq (.ops [⟨some 29, .indexAddr 44 (.tmp 25) (.tmp 27), 0, none⟩, ⟨some 30, .load 45 (.tmp 29), 45, none⟩, ⟨some 8, .assign (.tmp 30), 45, none⟩])
    (.seq (.ops [⟨some 31, .build 79 #[], 79, none⟩, ⟨some 32, .box 79 (.tmp 31), 74, none⟩, ⟨some 9, .assign (.tmp 32), 74, none⟩])
    (.seq (.seq (.ops [⟨some 33, .move (.tmp 8), 45, none⟩, ⟨some 34, .call { callee := .builtin .len, args := #[.tmp 33], argTypes := #[45] }, 3, none⟩, ⟨some 35, .move (.const (.int .i64 0)), 3, none⟩])
    (.block 2 (.loop (.seq (.ops [⟨some 36, .binOp .lss 3 (.tmp 35) (.tmp 34) 3, 0, none⟩])
    (.seq (.cond (.tmp 36) .skip (.exit 2))
    (.seq (.block 3 (.seq (.ops [⟨some 37, .indexAddr 45 (.tmp 33) (.tmp 35), 0, none⟩, ⟨some 38, .load 24 (.tmp 37), 24, none⟩, ⟨some 11, .alloc 24, 0, none⟩, ⟨none, .store 24 (.tmp 11) (.tmp 38), 0, none⟩])
    (.draw (.take ⟨some 39, .move (.tmp 9), 74, none⟩ (.take ⟨some 40, .move (.tmp 9), 74, none⟩ (.take ⟨some 41, .nilCheck (.tmp 40), 0, none⟩ (.take ⟨some 42, .fieldAddr 79 (.tmp 41) 1, 0, none⟩ (.take ⟨some 43, .load 77 (.tmp 42), 77, none⟩ (.take ⟨some 44, .load 24 (.tmp 11), 24, none⟩ (.alt ⟨some 45, .call { callee := .value (.func 52), args := #[.tmp 44], argTypes := #[24] }, 51, none⟩ (.alt ⟨some 46, .buildSlice 77 1 #[(0, .tmp 45)], 77, none⟩ (.alt ⟨some 47, .call { callee := .builtin .append, args := #[.tmp 43, .tmp 46], argTypes := #[77, 77] }, 77, none⟩ (.take ⟨some 48, .nilCheck (.tmp 39), 0, none⟩ (.take ⟨some 49, .fieldAddr 79 (.tmp 48) 1, 0, none⟩ (.altL ⟨none, .store 77 (.tmp 49) (.tmp 47), 0, none⟩ .done .none))) .none) .none) .none))))))))))
    (.ops [⟨some 50, .binOp .add 3 (.tmp 35) (.const (.int .i64 1)) 3, 3, none⟩, ⟨some 35, .move (.tmp 50), 3, none⟩])))))))
    (.ops [⟨some 51, .move (.tmp 6), 46, none⟩, ⟨some 52, .move (.tmp 6), 46, none⟩, ⟨some 53, .nilCheck (.tmp 52), 0, none⟩, ⟨some 54, .fieldAddr 73 (.tmp 53) 0, 0, none⟩, ⟨some 55, .load 71 (.tmp 54), 71, none⟩, ⟨some 56, .move (.tmp 9), 74, none⟩, ⟨some 57, .buildSlice 71 1 #[(0, .tmp 56)], 71, none⟩, ⟨some 58, .call { callee := .builtin .append, args := #[.tmp 55, .tmp 57], argTypes := #[71, 71] }, 71, none⟩, ⟨some 59, .nilCheck (.tmp 51), 0, none⟩, ⟨some 60, .fieldAddr 73 (.tmp 59) 0, 0, none⟩, ⟨none, .store 71 (.tmp 60) (.tmp 58), 0, none⟩])))))
    (.ops [⟨some 61, .binOp .add 3 (.tmp 27) (.const (.int .i64 1)) 3, 3, none⟩, ⟨some 27, .move (.tmp 61), 3, none⟩])))))))
    (.seq (.ops [⟨some 62, .move (.tmp 6), 46, none⟩, ⟨some 63, .call { callee := .value (.func 53), args := #[.tmp 62], argTypes := #[46] }, 0, none⟩])
    (.seq (.ops [⟨some 64, .move (.tmp 6), 46, none⟩, ⟨some 4, .assign (.tmp 64), 46, none⟩, ⟨some 5, .assign (.const (.int .i64 0)), 27, none⟩])
    .ret)))))))
def pl24 : Nat → Plan := fun id => if id = 13 then (.take 0 (.take 1 (.take 2 (.take 3 (.take 4 (.take 5 (.alt 6 (.alt 7 (.alt 8 (.take 9 (.take 10 (.altL 11 .done .none))) .none) .none) .none))))))) else .done
theorem st24 : Go.Proofs.Try.f24.body.map (strip pl24) = some m24 := by kernel_rfl
theorem ok24 : okB pl24 Go.Proofs.Try.f24 2 = true := by kernel_rfl
theorem en24 {v0 v1 w} {Q : Value → World → Prop} (h : mwpB Go.Proofs.Try.prog m24 (argEnv [v0, v1]) [] w (fun e ds w => ds = [] ∧ resW Go.Proofs.Try.prog [.tmp 4, .tmp 5] e w fun v => Q v w) (fun _ _ _ _ => False) (fun e ds w => ds = [] ∧ resW Go.Proofs.Try.prog [.tmp 4, .tmp 5] e w fun v => Q v w) (fun _ _ _ => False) ⟨⟩) : Rets Go.Proofs.Try.prog 24 #[v0, v1] w Q :=
  rets_of_mwp follows_mo Go.Proofs.Try.func24 pl24 st24 ok24 (by kernel_rfl) h
/-- (*continuo/effect.Host).Latency -/
def m25 : MC := (.seq (.ops [⟨some 2, .assign (.const (.int .i64 0)), 3, none⟩])
    (.seq (.seq (.ops [⟨some 6, .move (.tmp 0), 46, none⟩, ⟨some 7, .binOp .eql 46 (.tmp 6) (.const (.pointer none)) 46, 4, none⟩])
    (.cond (.tmp 7) (.seq (.ops [⟨some 2, .assign (.const (.int .i64 0)), 3, none⟩])
    .ret) .skip))
    (.seq (.ops [⟨some 3, .assign (.const (.int .i64 0)), 3, none⟩])
    (.seq (.seq (.ops [⟨some 8, .move (.tmp 0), 46, none⟩, ⟨some 9, .nilCheck (.tmp 8), 0, none⟩, ⟨some 10, .fieldAddr 73 (.tmp 9) 0, 0, none⟩, ⟨some 11, .load 71 (.tmp 10), 71, none⟩, ⟨some 12, .call { callee := .builtin .len, args := #[.tmp 11], argTypes := #[71] }, 3, none⟩, ⟨some 13, .move (.const (.int .i64 0)), 3, none⟩])
    (.block 0 (.loop (.seq (.ops [⟨some 14, .binOp .lss 3 (.tmp 13) (.tmp 12) 3, 0, none⟩])
    (.seq (.cond (.tmp 14) .skip (.exit 0))
    (.seq (.block 1 (.seq (.ops [⟨some 15, .indexAddr 71 (.tmp 11) (.tmp 13), 0, none⟩, ⟨some 16, .load 74 (.tmp 15), 74, none⟩, ⟨some 5, .assign (.tmp 16), 74, none⟩])
    (.ops [⟨some 17, .move (.tmp 3), 3, none⟩, ⟨some 18, .move (.tmp 5), 74, none⟩, ⟨some 19, .call { callee := .value (.func 54), args := #[.tmp 18], argTypes := #[74] }, 3, none⟩, ⟨some 20, .call { callee := .builtin .max, args := #[.tmp 17, .tmp 19], argTypes := #[3, 3] }, 3, none⟩, ⟨some 3, .assign (.tmp 20), 3, none⟩])))
    (.ops [⟨some 21, .binOp .add 3 (.tmp 13) (.const (.int .i64 1)) 3, 3, none⟩, ⟨some 13, .move (.tmp 21), 3, none⟩])))))))
    (.seq (.ops [⟨some 22, .move (.tmp 3), 3, none⟩, ⟨some 2, .assign (.tmp 22), 3, none⟩])
    .ret)))))
def pl25 : Nat → Plan := fun _ => .done
theorem st25 : Go.Proofs.Try.f25.body.map (strip pl25) = some m25 := by kernel_rfl
theorem ok25 : okB pl25 Go.Proofs.Try.f25 1 = true := by kernel_rfl
theorem en25 {v0 w} {Q : Value → World → Prop} (h : mwpB Go.Proofs.Try.prog m25 (argEnv [v0]) [] w (fun e ds w => ds = [] ∧ resW Go.Proofs.Try.prog [.tmp 2] e w fun v => Q v w) (fun _ _ _ _ => False) (fun e ds w => ds = [] ∧ resW Go.Proofs.Try.prog [.tmp 2] e w fun v => Q v w) (fun _ _ _ => False) ⟨⟩) : Rets Go.Proofs.Try.prog 25 #[v0] w Q :=
  rets_of_mwp follows_mo Go.Proofs.Try.func25 pl25 st25 ok25 (by kernel_rfl) h
/-- (*continuo/effect.Host).Run -/
def m26 : MC := (.seq (.ops [⟨some 4, .assign (.const (.slice none 0 0)), 22, none⟩, ⟨some 5, .assign (.const (.int .i64 0)), 27, none⟩])
    (.seq (.seq (.ops [⟨some 15, .move (.tmp 0), 46, none⟩, ⟨some 16, .binOp .eql 46 (.tmp 15) (.const (.pointer none)) 46, 4, none⟩, ⟨some 17, .move (.tmp 16), 4, none⟩, ⟨some 18, .move (.tmp 1), 22, some (some 17, false)⟩, ⟨some 19, .call { callee := .value (.func 42), args := #[.tmp 18], argTypes := #[22] }, 4, some (some 17, false)⟩, ⟨some 20, .unOp .not 4 (.tmp 19), 4, some (some 17, false)⟩, ⟨some 21, .pick (.tmp 17) (.const (.bool true)) (.tmp 20), 4, none⟩])
    (.cond (.tmp 21) (.seq (.ops [⟨some 4, .assign (.const (.slice none 0 0)), 22, none⟩, ⟨some 5, .assign (.const (.int .i64 1)), 27, none⟩])
    .ret) .skip))
    (.seq (.ops [⟨some 6, .assign (.const (.slice none 0 0)), 22, none⟩])
    (.seq (.seq (.ops [⟨some 22, .move (.tmp 1), 22, none⟩, ⟨some 23, .call { callee := .builtin .len, args := #[.tmp 22], argTypes := #[22] }, 3, none⟩, ⟨some 24, .move (.const (.int .i64 0)), 3, none⟩])
    (.block 0 (.loop (.seq (.ops [⟨some 25, .binOp .lss 3 (.tmp 24) (.tmp 23) 3, 0, none⟩])
    (.seq (.cond (.tmp 25) .skip (.exit 0))
    (.seq (.block 1 (.seq (.ops [⟨some 26, .indexAddr 22 (.tmp 22) (.tmp 24), 0, none⟩, ⟨some 27, .load 3 (.tmp 26), 3, none⟩, ⟨some 8, .assign (.tmp 27), 3, none⟩])
    (.seq (.ops [⟨some 9, .assign (.const (.int .i64 0)), 3, none⟩])
    (.seq (.seq (.ops [⟨some 28, .move (.tmp 0), 46, none⟩, ⟨some 29, .nilCheck (.tmp 28), 0, none⟩, ⟨some 30, .fieldAddr 73 (.tmp 29) 0, 0, none⟩, ⟨some 31, .load 71 (.tmp 30), 71, none⟩, ⟨some 32, .call { callee := .builtin .len, args := #[.tmp 31], argTypes := #[71] }, 3, none⟩, ⟨some 33, .move (.const (.int .i64 0)), 3, none⟩])
    (.block 2 (.loop (.seq (.ops [⟨some 34, .binOp .lss 3 (.tmp 33) (.tmp 32) 3, 0, none⟩])
    (.seq (.cond (.tmp 34) .skip (.exit 2))
    (.seq (.block 3 (.seq (.ops [⟨some 35, .indexAddr 71 (.tmp 31) (.tmp 33), 0, none⟩, ⟨some 36, .load 74 (.tmp 35), 74, none⟩, ⟨some 11, .assign (.tmp 36), 74, none⟩])
    (.seq (.ops [⟨some 37, .move (.tmp 11), 74, none⟩, ⟨some 38, .nilCheck (.tmp 37), 0, none⟩, ⟨some 39, .fieldAddr 79 (.tmp 38) 0, 0, none⟩, ⟨some 40, .move (.tmp 8), 3, none⟩, ⟨some 41, .call { callee := .value (.func 55), args := #[.tmp 39, .tmp 40], argTypes := #[76, 3] }, 3, none⟩, ⟨some 12, .assign (.tmp 41), 3, none⟩])
    (.seq (.seq (.ops [⟨some 42, .move (.tmp 11), 74, none⟩, ⟨some 43, .nilCheck (.tmp 42), 0, none⟩, ⟨some 44, .fieldAddr 79 (.tmp 43) 1, 0, none⟩, ⟨some 45, .load 77 (.tmp 44), 77, none⟩, ⟨some 46, .call { callee := .builtin .len, args := #[.tmp 45], argTypes := #[77] }, 3, none⟩, ⟨some 47, .move (.const (.int .i64 0)), 3, none⟩])
    (.block 4 (.loop (.seq (.ops [⟨some 48, .binOp .lss 3 (.tmp 47) (.tmp 46) 3, 0, none⟩])
    (.seq (.cond (.tmp 48) .skip (.exit 4))
    (.seq (.block 5 (.seq (.ops [⟨some 49, .indexAddr 77 (.tmp 45) (.tmp 47), 0, none⟩, ⟨some 50, .load 51 (.tmp 49), 51, none⟩, ⟨some 14, .assign (.tmp 50), 51, none⟩])
    (.ops [⟨some 51, .move (.tmp 14), 51, none⟩, ⟨some 52, .nilCheck (.tmp 51), 0, none⟩, ⟨some 53, .fieldAddr 84 (.tmp 52) 0, 0, none⟩, ⟨some 54, .load 82 (.tmp 53), 82, none⟩, ⟨some 55, .move (.tmp 12), 3, none⟩, ⟨some 56, .call { callee := .invoke (.tmp 54) "continuo/effect.step", args := #[.tmp 55], argTypes := #[3] }, 3, none⟩, ⟨some 12, .assign (.tmp 56), 3, none⟩])))
    (.ops [⟨some 57, .binOp .add 3 (.tmp 47) (.const (.int .i64 1)) 3, 3, none⟩, ⟨some 47, .move (.tmp 57), 3, none⟩])))))))
    (.ops [⟨some 58, .move (.tmp 9), 3, none⟩, ⟨some 59, .move (.tmp 12), 3, none⟩, ⟨some 60, .binOp .add 3 (.tmp 58) (.tmp 59) 3, 3, none⟩, ⟨some 9, .assign (.tmp 60), 3, none⟩])))))
    (.ops [⟨some 61, .binOp .add 3 (.tmp 33) (.const (.int .i64 1)) 3, 3, none⟩, ⟨some 33, .move (.tmp 61), 3, none⟩])))))))
    (.ops [⟨some 62, .move (.tmp 6), 22, none⟩, ⟨some 63, .move (.tmp 9), 3, none⟩, ⟨some 64, .call { callee := .value (.func 44), args := #[.tmp 63], argTypes := #[3] }, 3, none⟩, ⟨some 65, .buildSlice 22 1 #[(0, .tmp 64)], 22, none⟩, ⟨some 66, .call { callee := .builtin .append, args := #[.tmp 62, .tmp 65], argTypes := #[22, 22] }, 22, none⟩, ⟨some 6, .assign (.tmp 66), 22, none⟩])))))
    (.ops [⟨some 67, .binOp .add 3 (.tmp 24) (.const (.int .i64 1)) 3, 3, none⟩, ⟨some 24, .move (.tmp 67), 3, none⟩])))))))
    (.seq (.ops [⟨some 68, .move (.tmp 6), 22, none⟩, ⟨some 4, .assign (.tmp 68), 22, none⟩, ⟨some 5, .assign (.const (.int .i64 0)), 27, none⟩])
    .ret)))))
def pl26 : Nat → Plan := fun _ => .done
theorem st26 : Go.Proofs.Try.f26.body.map (strip pl26) = some m26 := by kernel_rfl
theorem ok26 : okB pl26 Go.Proofs.Try.f26 2 = true := by kernel_rfl
theorem en26 {v0 v1 w} {Q : Value → World → Prop} (h : mwpB Go.Proofs.Try.prog m26 (argEnv [v0, v1]) [] w (fun e ds w => ds = [] ∧ resW Go.Proofs.Try.prog [.tmp 4, .tmp 5] e w fun v => Q v w) (fun _ _ _ _ => False) (fun e ds w => ds = [] ∧ resW Go.Proofs.Try.prog [.tmp 4, .tmp 5] e w fun v => Q v w) (fun _ _ _ => False) ⟨⟩) : Rets Go.Proofs.Try.prog 26 #[v0, v1] w Q :=
  rets_of_mwp follows_mo Go.Proofs.Try.func26 pl26 st26 ok26 (by kernel_rfl) h
/-- (*continuo/effect.Host).Flush -/
def m27 : MC := (.seq (.ops [⟨some 4, .assign (.const (.slice none 0 0)), 22, none⟩, ⟨some 5, .assign (.const (.int .i64 0)), 27, none⟩])
    (.seq (.block 0 (.seq (.ops [⟨some 7, .move (.tmp 0), 46, none⟩, ⟨some 8, .binOp .eql 46 (.tmp 7) (.const (.pointer none)) 46, 4, none⟩, ⟨some 6, .assign (.tmp 8), 4, none⟩])
    (.cond (.tmp 6) (.seq (.ops [⟨some 4, .assign (.const (.slice none 0 0)), 22, none⟩, ⟨some 5, .assign (.const (.int .i64 1)), 27, none⟩])
    .ret) (.seq (.ops [⟨some 10, .move (.tmp 1), 3, none⟩, ⟨some 11, .call { callee := .value (.func 33), args := #[.tmp 10, .const (.int .i64 0), .const (.int .i64 4096)], argTypes := #[3, 3, 3] }, 4, none⟩, ⟨some 12, .unOp .not 4 (.tmp 11), 4, none⟩, ⟨some 9, .assign (.tmp 12), 4, none⟩])
    (.cond (.tmp 9) (.seq (.ops [⟨some 4, .assign (.const (.slice none 0 0)), 22, none⟩, ⟨some 5, .assign (.const (.int .i64 7)), 27, none⟩])
    .ret) .skip)))))
    (.seq (.ops [⟨some 13, .move (.tmp 0), 46, none⟩, ⟨some 14, .move (.tmp 1), 3, none⟩, ⟨some 15, .makeSlice 22 (.tmp 14) (.tmp 14), 22, none⟩, ⟨some 16, .call { callee := .value (.func 26), args := #[.tmp 13, .tmp 15], argTypes := #[46, 22] }, 28, none⟩, ⟨some 17, .extract (.tmp 16) 0, 22, none⟩, ⟨some 18, .extract (.tmp 16) 1, 27, none⟩, ⟨some 4, .assign (.tmp 17), 22, none⟩, ⟨some 5, .assign (.tmp 18), 27, none⟩])
    .ret)))
def pl27 : Nat → Plan := fun _ => .done
theorem st27 : Go.Proofs.Try.f27.body.map (strip pl27) = some m27 := by kernel_rfl
theorem ok27 : okB pl27 Go.Proofs.Try.f27 2 = true := by kernel_rfl
theorem en27 {v0 v1 w} {Q : Value → World → Prop} (h : mwpB Go.Proofs.Try.prog m27 (argEnv [v0, v1]) [] w (fun e ds w => ds = [] ∧ resW Go.Proofs.Try.prog [.tmp 4, .tmp 5] e w fun v => Q v w) (fun _ _ _ _ => False) (fun e ds w => ds = [] ∧ resW Go.Proofs.Try.prog [.tmp 4, .tmp 5] e w fun v => Q v w) (fun _ _ _ => False) ⟨⟩) : Rets Go.Proofs.Try.prog 27 #[v0, v1] w Q :=
  rets_of_mwp follows_mo Go.Proofs.Try.func27 pl27 st27 ok27 (by kernel_rfl) h
/-- continuo/effect.New -/
def m28 : MC := (.seq (.ops [⟨some 1, .box 24 (.tmp 0), 0, none⟩, ⟨some 2, .assign (.const (.pointer none)), 51, none⟩, ⟨some 3, .assign (.const (.int .i64 0)), 27, none⟩])
    (.seq (.seq (.ops [⟨some 4, .load 24 (.tmp 1), 24, none⟩, ⟨some 5, .call { callee := .value (.func 13), args := #[.tmp 4], argTypes := #[24] }, 4, none⟩, ⟨some 6, .unOp .not 4 (.tmp 5), 4, none⟩])
    (.cond (.tmp 6) (.seq (.ops [⟨some 2, .assign (.const (.pointer none)), 51, none⟩, ⟨some 3, .assign (.const (.int .i64 1)), 27, none⟩])
    .ret) .skip))
    (.seq (.ops [⟨some 7, .load 24 (.tmp 1), 24, none⟩, ⟨some 8, .call { callee := .value (.func 52), args := #[.tmp 7], argTypes := #[24] }, 51, none⟩, ⟨some 2, .assign (.tmp 8), 51, none⟩, ⟨some 3, .assign (.const (.int .i64 0)), 27, none⟩])
    .ret)))
def pl28 : Nat → Plan := fun _ => .done
theorem st28 : Go.Proofs.Try.f28.body.map (strip pl28) = some m28 := by kernel_rfl
theorem ok28 : okB pl28 Go.Proofs.Try.f28 1 = true := by kernel_rfl
theorem en28 {v0 w} {Q : Value → World → Prop} (h : mwpB Go.Proofs.Try.prog m28 (argEnv [v0]) [] w (fun e ds w => ds = [] ∧ resW Go.Proofs.Try.prog [.tmp 2, .tmp 3] e w fun v => Q v w) (fun _ _ _ _ => False) (fun e ds w => ds = [] ∧ resW Go.Proofs.Try.prog [.tmp 2, .tmp 3] e w fun v => Q v w) (fun _ _ _ => False) ⟨⟩) : Rets Go.Proofs.Try.prog 28 #[v0] w Q :=
  rets_of_mwp follows_mo Go.Proofs.Try.func28 pl28 st28 ok28 (by kernel_rfl) h
/-- (*continuo/effect.Unit).Run -/
def m29 : MC := (.seq (.ops [⟨some 4, .assign (.const (.slice none 0 0)), 22, none⟩, ⟨some 5, .assign (.const (.int .i64 0)), 27, none⟩])
    (.seq (.seq (.ops [⟨some 9, .move (.tmp 0), 51, none⟩, ⟨some 10, .binOp .eql 51 (.tmp 9) (.const (.pointer none)) 51, 4, none⟩, ⟨some 11, .move (.tmp 10), 4, none⟩, ⟨some 12, .move (.tmp 1), 22, some (some 11, false)⟩, ⟨some 13, .call { callee := .value (.func 42), args := #[.tmp 12], argTypes := #[22] }, 4, some (some 11, false)⟩, ⟨some 14, .unOp .not 4 (.tmp 13), 4, some (some 11, false)⟩, ⟨some 15, .pick (.tmp 11) (.const (.bool true)) (.tmp 14), 4, none⟩])
    (.cond (.tmp 15) (.seq (.ops [⟨some 4, .assign (.const (.slice none 0 0)), 22, none⟩, ⟨some 5, .assign (.const (.int .i64 1)), 27, none⟩])
    .ret) .skip))
    (.seq (.ops [⟨some 6, .assign (.const (.slice none 0 0)), 22, none⟩])
    (.seq (.seq (.ops [⟨some 16, .move (.tmp 1), 22, none⟩, ⟨some 17, .call { callee := .builtin .len, args := #[.tmp 16], argTypes := #[22] }, 3, none⟩, ⟨some 18, .move (.const (.int .i64 0)), 3, none⟩])
    (.block 0 (.loop (.seq (.ops [⟨some 19, .binOp .lss 3 (.tmp 18) (.tmp 17) 3, 0, none⟩])
    (.seq (.cond (.tmp 19) .skip (.exit 0))
    (.seq (.block 1 (.seq (.ops [⟨some 20, .indexAddr 22 (.tmp 16) (.tmp 18), 0, none⟩, ⟨some 21, .load 3 (.tmp 20), 3, none⟩, ⟨some 8, .assign (.tmp 21), 3, none⟩])
    (.ops [⟨some 22, .move (.tmp 6), 22, none⟩, ⟨some 23, .move (.tmp 0), 51, none⟩, ⟨some 24, .nilCheck (.tmp 23), 0, none⟩, ⟨some 25, .fieldAddr 84 (.tmp 24) 0, 0, none⟩, ⟨some 26, .load 82 (.tmp 25), 82, none⟩, ⟨some 27, .move (.tmp 8), 3, none⟩, ⟨some 28, .call { callee := .invoke (.tmp 26) "continuo/effect.step", args := #[.tmp 27], argTypes := #[3] }, 3, none⟩, ⟨some 29, .buildSlice 22 1 #[(0, .tmp 28)], 22, none⟩, ⟨some 30, .call { callee := .builtin .append, args := #[.tmp 22, .tmp 29], argTypes := #[22, 22] }, 22, none⟩, ⟨some 6, .assign (.tmp 30), 22, none⟩])))
    (.ops [⟨some 31, .binOp .add 3 (.tmp 18) (.const (.int .i64 1)) 3, 3, none⟩, ⟨some 18, .move (.tmp 31), 3, none⟩])))))))
    (.seq (.ops [⟨some 32, .move (.tmp 6), 22, none⟩, ⟨some 4, .assign (.tmp 32), 22, none⟩, ⟨some 5, .assign (.const (.int .i64 0)), 27, none⟩])
    .ret)))))
def pl29 : Nat → Plan := fun _ => .done
theorem st29 : Go.Proofs.Try.f29.body.map (strip pl29) = some m29 := by kernel_rfl
theorem ok29 : okB pl29 Go.Proofs.Try.f29 2 = true := by kernel_rfl
theorem en29 {v0 v1 w} {Q : Value → World → Prop} (h : mwpB Go.Proofs.Try.prog m29 (argEnv [v0, v1]) [] w (fun e ds w => ds = [] ∧ resW Go.Proofs.Try.prog [.tmp 4, .tmp 5] e w fun v => Q v w) (fun _ _ _ _ => False) (fun e ds w => ds = [] ∧ resW Go.Proofs.Try.prog [.tmp 4, .tmp 5] e w fun v => Q v w) (fun _ _ _ => False) ⟨⟩) : Rets Go.Proofs.Try.prog 29 #[v0, v1] w Q :=
  rets_of_mwp follows_mo Go.Proofs.Try.func29 pl29 st29 ok29 (by kernel_rfl) h
/-- (*continuo/effect.Unit).Level -/
def m30 : MC := (.seq (.ops [⟨some 2, .assign (.const (.int .i64 0)), 3, none⟩])
    (.seq (.seq (.ops [⟨some 5, .move (.tmp 0), 51, none⟩, ⟨some 6, .binOp .eql 51 (.tmp 5) (.const (.pointer none)) 51, 4, none⟩])
    (.cond (.tmp 6) (.seq (.ops [⟨some 2, .assign (.const (.int .i64 0)), 3, none⟩])
    .ret) .skip))
    (.seq (.seq (.ops [⟨some 7, .move (.tmp 0), 51, none⟩, ⟨some 8, .nilCheck (.tmp 7), 0, none⟩, ⟨some 9, .fieldAddr 84 (.tmp 8) 0, 0, none⟩, ⟨some 10, .load 82 (.tmp 9), 82, none⟩])
    (.block 0 (.seq (.ops [⟨some 11, .typeAssert (.tmp 10) 82 85 true, 0, none⟩, ⟨some 12, .extract (.tmp 11) 1, 4, none⟩, ⟨some 13, .extract (.tmp 11) 0, 85, none⟩])
    (.cond (.tmp 12) (.seq (.ops [⟨some 3, .assign (.tmp 13), 85, none⟩])
    (.seq (.ops [⟨some 14, .move (.tmp 3), 85, none⟩, ⟨some 15, .nilCheck (.tmp 14), 0, none⟩, ⟨some 16, .fieldAddr 89 (.tmp 15) 0, 0, none⟩, ⟨some 17, .fieldAddr 87 (.tmp 16) 4, 0, none⟩, ⟨some 18, .load 3 (.tmp 17), 3, none⟩, ⟨some 2, .assign (.tmp 18), 3, none⟩])
    .ret)) (.seq (.ops [⟨some 19, .typeAssert (.tmp 10) 82 90 true, 0, none⟩, ⟨some 20, .extract (.tmp 19) 1, 4, none⟩, ⟨some 21, .extract (.tmp 19) 0, 90, none⟩])
    (.cond (.tmp 20) (.seq (.ops [⟨some 4, .assign (.tmp 21), 90, none⟩])
    (.seq (.ops [⟨some 22, .move (.tmp 4), 90, none⟩, ⟨some 23, .nilCheck (.tmp 22), 0, none⟩, ⟨some 24, .fieldAddr 92 (.tmp 23) 0, 0, none⟩, ⟨some 25, .fieldAddr 87 (.tmp 24) 4, 0, none⟩, ⟨some 26, .load 3 (.tmp 25), 3, none⟩, ⟨some 2, .assign (.tmp 26), 3, none⟩])
    .ret)) .skip))))))
    (.seq (.ops [⟨some 2, .assign (.const (.int .i64 0)), 3, none⟩])
    .ret))))
def pl30 : Nat → Plan := fun _ => .done
theorem st30 : Go.Proofs.Try.f30.body.map (strip pl30) = some m30 := by kernel_rfl
theorem ok30 : okB pl30 Go.Proofs.Try.f30 1 = true := by kernel_rfl
theorem en30 {v0 w} {Q : Value → World → Prop} (h : mwpB Go.Proofs.Try.prog m30 (argEnv [v0]) [] w (fun e ds w => ds = [] ∧ resW Go.Proofs.Try.prog [.tmp 2] e w fun v => Q v w) (fun _ _ _ _ => False) (fun e ds w => ds = [] ∧ resW Go.Proofs.Try.prog [.tmp 2] e w fun v => Q v w) (fun _ _ _ => False) ⟨⟩) : Rets Go.Proofs.Try.prog 30 #[v0] w Q :=
  rets_of_mwp follows_mo Go.Proofs.Try.func30 pl30 st30 ok30 (by kernel_rfl) h
/-- continuo/effect.latency -/
def m31 : MC := (.seq (.ops [⟨some 1, .box 24 (.tmp 0), 0, none⟩, ⟨some 2, .assign (.const (.int .i64 0)), 3, none⟩])
    (.seq (.seq (.ops [⟨some 3, .fieldAddr 24 (.tmp 1) 0, 0, none⟩, ⟨some 4, .load 3 (.tmp 3), 3, none⟩])
    (.block 0 (.seq (.ops [⟨some 6, .binOp .eql 3 (.tmp 4) (.const (.int .i64 2)) 3, 4, none⟩, ⟨some 5, .assign (.tmp 6), 4, none⟩])
    (.cond (.tmp 5) (.seq (.ops [⟨some 7, .fieldAddr 24 (.tmp 1) 1, 0, none⟩, ⟨some 8, .load 22 (.tmp 7), 22, none⟩, ⟨some 9, .indexAddr 22 (.tmp 8) (.const (.int .i64 0)), 0, none⟩, ⟨some 10, .load 3 (.tmp 9), 3, none⟩, ⟨some 2, .assign (.tmp 10), 3, none⟩])
    .ret) (.seq (.ops [⟨some 12, .binOp .eql 3 (.tmp 4) (.const (.int .i64 7)) 3, 4, none⟩, ⟨some 11, .assign (.tmp 12), 4, none⟩])
    (.cond (.tmp 11) (.seq (.ops [⟨some 13, .fieldAddr 24 (.tmp 1) 1, 0, none⟩, ⟨some 14, .load 22 (.tmp 13), 22, none⟩, ⟨some 15, .indexAddr 22 (.tmp 14) (.const (.int .i64 4)), 0, none⟩, ⟨some 16, .load 3 (.tmp 15), 3, none⟩, ⟨some 2, .assign (.tmp 16), 3, none⟩])
    .ret) .skip))))))
    (.seq (.ops [⟨some 2, .assign (.const (.int .i64 0)), 3, none⟩])
    .ret)))
def pl31 : Nat → Plan := fun _ => .done
theorem st31 : Go.Proofs.Try.f31.body.map (strip pl31) = some m31 := by kernel_rfl
theorem ok31 : okB pl31 Go.Proofs.Try.f31 1 = true := by kernel_rfl
theorem en31 {v0 w} {Q : Value → World → Prop} (h : mwpB Go.Proofs.Try.prog m31 (argEnv [v0]) [] w (fun e ds w => ds = [] ∧ resW Go.Proofs.Try.prog [.tmp 2] e w fun v => Q v w) (fun _ _ _ _ => False) (fun e ds w => ds = [] ∧ resW Go.Proofs.Try.prog [.tmp 2] e w fun v => Q v w) (fun _ _ _ => False) ⟨⟩) : Rets Go.Proofs.Try.prog 31 #[v0] w Q :=
  rets_of_mwp follows_mo Go.Proofs.Try.func31 pl31 st31 ok31 (by kernel_rfl) h
/-- continuo/continuoref31.latency -/
def m32 : MC := (.seq (.ops [⟨some 1, .box 24 (.tmp 0), 0, none⟩, ⟨some 2, .assign (.const (.int .i64 0)), 3, none⟩])
    (.seq (.seq (.ops [⟨some 3, .fieldAddr 24 (.tmp 1) 0, 0, none⟩, ⟨some 4, .load 3 (.tmp 3), 3, none⟩, ⟨some 5, .binOp .eql 3 (.tmp 4) (.const (.int .i64 2)) 3, 4, none⟩])
    (.cond (.tmp 5) (.seq (.ops [⟨some 6, .fieldAddr 24 (.tmp 1) 1, 0, none⟩, ⟨some 7, .load 22 (.tmp 6), 22, none⟩, ⟨some 8, .indexAddr 22 (.tmp 7) (.const (.int .i64 0)), 0, none⟩, ⟨some 9, .load 3 (.tmp 8), 3, none⟩, ⟨some 2, .assign (.tmp 9), 3, none⟩])
    .ret) .skip))
    (.seq (.seq (.ops [⟨some 10, .fieldAddr 24 (.tmp 1) 0, 0, none⟩, ⟨some 11, .load 3 (.tmp 10), 3, none⟩, ⟨some 12, .binOp .eql 3 (.tmp 11) (.const (.int .i64 7)) 3, 4, none⟩])
    (.cond (.tmp 12) (.seq (.ops [⟨some 13, .fieldAddr 24 (.tmp 1) 1, 0, none⟩, ⟨some 14, .load 22 (.tmp 13), 22, none⟩, ⟨some 15, .indexAddr 22 (.tmp 14) (.const (.int .i64 4)), 0, none⟩, ⟨some 16, .load 3 (.tmp 15), 3, none⟩, ⟨some 2, .assign (.tmp 16), 3, none⟩])
    .ret) .skip))
    (.seq (.ops [⟨some 2, .assign (.const (.int .i64 0)), 3, none⟩])
    .ret))))
def pl32 : Nat → Plan := fun _ => .done
theorem st32 : Go.Proofs.Try.f32.body.map (strip pl32) = some m32 := by kernel_rfl
theorem ok32 : okB pl32 Go.Proofs.Try.f32 1 = true := by kernel_rfl
theorem en32 {v0 w} {Q : Value → World → Prop} (h : mwpB Go.Proofs.Try.prog m32 (argEnv [v0]) [] w (fun e ds w => ds = [] ∧ resW Go.Proofs.Try.prog [.tmp 2] e w fun v => Q v w) (fun _ _ _ _ => False) (fun e ds w => ds = [] ∧ resW Go.Proofs.Try.prog [.tmp 2] e w fun v => Q v w) (fun _ _ _ => False) ⟨⟩) : Rets Go.Proofs.Try.prog 32 #[v0] w Q :=
  rets_of_mwp follows_mo Go.Proofs.Try.func32 pl32 st32 ok32 (by kernel_rfl) h
/-- continuo/effect.within -/
def m33 : MC := (.seq (.ops [⟨some 6, .assign (.const (.bool false)), 4, none⟩])
    (.seq (.ops [⟨some 7, .move (.tmp 0), 3, none⟩, ⟨some 8, .move (.tmp 1), 3, none⟩, ⟨some 9, .binOp .geq 3 (.tmp 7) (.tmp 8) 3, 4, none⟩, ⟨some 10, .move (.tmp 9), 4, none⟩, ⟨some 11, .move (.tmp 0), 3, some (some 10, true)⟩, ⟨some 12, .move (.tmp 2), 3, some (some 10, true)⟩, ⟨some 13, .binOp .leq 3 (.tmp 11) (.tmp 12) 3, 4, some (some 10, true)⟩, ⟨some 14, .pick (.tmp 10) (.tmp 13) (.const (.bool false)), 4, none⟩, ⟨some 6, .assign (.tmp 14), 4, none⟩])
    .ret))
def pl33 : Nat → Plan := fun _ => .done
theorem st33 : Go.Proofs.Try.f33.body.map (strip pl33) = some m33 := by kernel_rfl
theorem ok33 : okB pl33 Go.Proofs.Try.f33 3 = true := by kernel_rfl
theorem en33 {v0 v1 v2 w} {Q : Value → World → Prop} (h : mwpB Go.Proofs.Try.prog m33 (argEnv [v0, v1, v2]) [] w (fun e ds w => ds = [] ∧ resW Go.Proofs.Try.prog [.tmp 6] e w fun v => Q v w) (fun _ _ _ _ => False) (fun e ds w => ds = [] ∧ resW Go.Proofs.Try.prog [.tmp 6] e w fun v => Q v w) (fun _ _ _ => False) ⟨⟩) : Rets Go.Proofs.Try.prog 33 #[v0, v1, v2] w Q :=
  rets_of_mwp follows_mo Go.Proofs.Try.func33 pl33 st33 ok33 (by kernel_rfl) h
/-- continuo/effect.taps -/
def m34 : MC := (.seq (.ops [⟨some 2, .assign (.const (.bool false)), 4, none⟩])
    (.seq (.ops [⟨some 3, .move (.tmp 0), 22, none⟩, ⟨some 4, .call { callee := .builtin .len, args := #[.tmp 3], argTypes := #[22] }, 3, none⟩, ⟨some 5, .call { callee := .value (.func 33), args := #[.tmp 4, .const (.int .i64 1), .const (.int .i64 512)], argTypes := #[3, 3, 3] }, 4, none⟩, ⟨some 6, .move (.tmp 5), 4, none⟩, ⟨some 7, .move (.tmp 0), 22, some (some 6, true)⟩, ⟨some 8, .call { callee := .value (.func 56), args := #[.tmp 7, .func 57], argTypes := #[22, 94] }, 4, some (some 6, true)⟩, ⟨some 9, .unOp .not 4 (.tmp 8), 4, some (some 6, true)⟩, ⟨some 10, .pick (.tmp 6) (.tmp 9) (.const (.bool false)), 4, none⟩, ⟨some 2, .assign (.tmp 10), 4, none⟩])
    .ret))
def pl34 : Nat → Plan := fun _ => .done
theorem st34 : Go.Proofs.Try.f34.body.map (strip pl34) = some m34 := by kernel_rfl
theorem ok34 : okB pl34 Go.Proofs.Try.f34 1 = true := by kernel_rfl
theorem en34 {v0 w} {Q : Value → World → Prop} (h : mwpB Go.Proofs.Try.prog m34 (argEnv [v0]) [] w (fun e ds w => ds = [] ∧ resW Go.Proofs.Try.prog [.tmp 2] e w fun v => Q v w) (fun _ _ _ _ => False) (fun e ds w => ds = [] ∧ resW Go.Proofs.Try.prog [.tmp 2] e w fun v => Q v w) (fun _ _ _ => False) ⟨⟩) : Rets Go.Proofs.Try.prog 34 #[v0] w Q :=
  rets_of_mwp follows_mo Go.Proofs.Try.func34 pl34 st34 ok34 (by kernel_rfl) h
/-- slices.EqualFunc[[]int,[][2]int,int,[2]int] -/
def m35 : MC := (.seq (.ops [⟨some 6, .assign (.const (.bool false)), 4, none⟩])
    (.seq (.seq (.ops [⟨some 10, .move (.tmp 0), 22, none⟩, ⟨some 11, .call { callee := .builtin .len, args := #[.tmp 10], argTypes := #[22] }, 3, none⟩, ⟨some 12, .move (.tmp 1), 58, none⟩, ⟨some 13, .call { callee := .builtin .len, args := #[.tmp 12], argTypes := #[58] }, 3, none⟩, ⟨some 14, .binOp .neq 3 (.tmp 11) (.tmp 13) 3, 4, none⟩])
    (.cond (.tmp 14) (.seq (.ops [⟨some 6, .assign (.const (.bool false)), 4, none⟩])
    .ret) .skip))
    (.seq (.seq (.ops [⟨some 15, .move (.tmp 0), 22, none⟩, ⟨some 16, .call { callee := .builtin .len, args := #[.tmp 15], argTypes := #[22] }, 3, none⟩, ⟨some 17, .move (.const (.int .i64 0)), 3, none⟩])
    (.block 0 (.loop (.seq (.ops [⟨some 18, .binOp .lss 3 (.tmp 17) (.tmp 16) 3, 0, none⟩])
    (.seq (.cond (.tmp 18) .skip (.exit 0))
    (.seq (.block 1 (.seq (.ops [⟨some 19, .move (.tmp 17), 3, none⟩, ⟨some 20, .indexAddr 22 (.tmp 15) (.tmp 17), 0, none⟩, ⟨some 21, .load 3 (.tmp 20), 3, none⟩, ⟨some 7, .assign (.tmp 19), 3, none⟩, ⟨some 8, .assign (.tmp 21), 3, none⟩])
    (.seq (.ops [⟨some 22, .move (.tmp 1), 58, none⟩, ⟨some 23, .move (.tmp 7), 3, none⟩, ⟨some 24, .indexAddr 58 (.tmp 22) (.tmp 23), 0, none⟩, ⟨some 25, .load 59 (.tmp 24), 59, none⟩, ⟨some 9, .alloc 59, 0, none⟩, ⟨none, .store 59 (.tmp 9) (.tmp 25), 0, none⟩])
    (.seq (.ops [⟨some 26, .move (.tmp 2), 61, none⟩, ⟨some 27, .move (.tmp 8), 3, none⟩, ⟨some 28, .load 59 (.tmp 9), 59, none⟩, ⟨some 29, .call { callee := .value (.tmp 26), args := #[.tmp 27, .tmp 28], argTypes := #[3, 59] }, 4, none⟩, ⟨some 30, .unOp .not 4 (.tmp 29), 4, none⟩])
    (.cond (.tmp 30) (.seq (.ops [⟨some 6, .assign (.const (.bool false)), 4, none⟩])
    .ret) .skip)))))
    (.ops [⟨some 31, .binOp .add 3 (.tmp 17) (.const (.int .i64 1)) 3, 3, none⟩, ⟨some 17, .move (.tmp 31), 3, none⟩])))))))
    (.seq (.ops [⟨some 6, .assign (.const (.bool true)), 4, none⟩])
    .ret))))
def pl35 : Nat → Plan := fun _ => .done
theorem st35 : Go.Proofs.Try.f35.body.map (strip pl35) = some m35 := by kernel_rfl
theorem ok35 : okB pl35 Go.Proofs.Try.f35 3 = true := by kernel_rfl
theorem en35 {v0 v1 v2 w} {Q : Value → World → Prop} (h : mwpB Go.Proofs.Try.prog m35 (argEnv [v0, v1, v2]) [] w (fun e ds w => ds = [] ∧ resW Go.Proofs.Try.prog [.tmp 6] e w fun v => Q v w) (fun _ _ _ _ => False) (fun e ds w => ds = [] ∧ resW Go.Proofs.Try.prog [.tmp 6] e w fun v => Q v w) (fun _ _ _ => False) ⟨⟩) : Rets Go.Proofs.Try.prog 35 #[v0, v1, v2] w Q :=
  rets_of_mwp follows_mo Go.Proofs.Try.func35 pl35 st35 ok35 (by kernel_rfl) h
/-- continuo/effect.ranges -/
def m36 : MC := (.seq (.ops [⟨some 2, .assign (.const (.slice none 0 0)), 58, none⟩])
    (.seq (.ops [⟨some 4, .build 59 #[(0, .const (.int .i64 0)), (1, .const (.int .i64 8388607))], 59, none⟩, ⟨some 5, .build 59 #[(0, .const (.int .i64 65536)), (1, .const (.int .i64 6553600))], 59, none⟩, ⟨some 6, .build 59 #[(0, .const (.int .i64 1)), (1, .const (.int .i64 65536))], 59, none⟩, ⟨some 7, .build 59 #[(0, .const (.int .i64 1)), (1, .const (.int .i64 65536))], 59, none⟩, ⟨some 8, .buildSlice 58 4 #[(0, .tmp 4), (1, .tmp 5), (2, .tmp 6), (3, .tmp 7)], 58, none⟩, ⟨some 3, .assign (.tmp 8), 58, none⟩])
    (.seq (.ops [⟨some 9, .build 59 #[(0, .const (.int .i64 0)), (1, .const (.int .i64 655360))], 59, none⟩, ⟨some 10, .buildSlice 58 1 #[(0, .tmp 9)], 58, none⟩, ⟨some 11, .build 59 #[(0, .const (.int .i64 0)), (1, .const (.int .i64 4096))], 59, none⟩, ⟨some 12, .buildSlice 58 1 #[(0, .tmp 11)], 58, none⟩, ⟨some 13, .build 59 #[(0, .const (.int .i64 1)), (1, .const (.int .i64 4096))], 59, none⟩, ⟨some 14, .build 59 #[(0, .const (.int .i64 (-65536))), (1, .const (.int .i64 65536))], 59, none⟩, ⟨some 15, .buildSlice 58 2 #[(0, .tmp 13), (1, .tmp 14)], 58, none⟩, ⟨some 16, .move (.tmp 3), 58, none⟩, ⟨some 17, .build 59 #[(0, .const (.int .i64 0)), (1, .const (.int .i64 8388607))], 59, none⟩, ⟨some 18, .build 59 #[(0, .const (.int .i64 0)), (1, .const (.int .i64 4096))], 59, none⟩, ⟨some 19, .buildSlice 58 2 #[(0, .tmp 17), (1, .tmp 18)], 58, none⟩, ⟨some 20, .move (.tmp 3), 58, none⟩, ⟨some 21, .call { callee := .value (.func 58), args := #[.tmp 20], argTypes := #[58] }, 58, none⟩, ⟨some 22, .build 59 #[(0, .const (.int .i64 0)), (1, .const (.int .i64 512))], 59, none⟩, ⟨some 23, .buildSlice 58 1 #[(0, .tmp 22)], 58, none⟩, ⟨some 24, .call { callee := .builtin .append, args := #[.tmp 21, .tmp 23], argTypes := #[58, 58] }, 58, none⟩, ⟨some 25, .build 96 #[(1, .tmp 10), (2, .tmp 12), (3, .tmp 15), (5, .tmp 16), (6, .tmp 19), (7, .tmp 24)], 96, none⟩, ⟨some 26, .move (.tmp 0), 3, none⟩, ⟨some 27, .index 96 (.tmp 25) (.tmp 26), 58, none⟩, ⟨some 2, .assign (.tmp 27), 58, none⟩])
    .ret)))
def pl36 : Nat → Plan := fun _ => .done
theorem st36 : Go.Proofs.Try.f36.body.map (strip pl36) = some m36 := by kernel_rfl
theorem ok36 : okB pl36 Go.Proofs.Try.f36 1 = true := by kernel_rfl
theorem en36 {v0 w} {Q : Value → World → Prop} (h : mwpB Go.Proofs.Try.prog m36 (argEnv [v0]) [] w (fun e ds w => ds = [] ∧ resW Go.Proofs.Try.prog [.tmp 2] e w fun v => Q v w) (fun _ _ _ _ => False) (fun e ds w => ds = [] ∧ resW Go.Proofs.Try.prog [.tmp 2] e w fun v => Q v w) (fun _ _ _ => False) ⟨⟩) : Rets Go.Proofs.Try.prog 36 #[v0] w Q :=
  rets_of_mwp follows_mo Go.Proofs.Try.func36 pl36 st36 ok36 (by kernel_rfl) h
/-- continuo/effect.Valid$1 -/
def m37 : MC := (.seq (.ops [⟨some 3, .box 59 (.tmp 1), 0, none⟩, ⟨some 4, .assign (.const (.bool false)), 4, none⟩])
    (.seq (.ops [⟨some 5, .move (.tmp 0), 3, none⟩, ⟨some 6, .indexAddr 59 (.tmp 3) (.const (.int .i64 0)), 0, none⟩, ⟨some 7, .load 3 (.tmp 6), 3, none⟩, ⟨some 8, .indexAddr 59 (.tmp 3) (.const (.int .i64 1)), 0, none⟩, ⟨some 9, .load 3 (.tmp 8), 3, none⟩, ⟨some 10, .call { callee := .value (.func 33), args := #[.tmp 5, .tmp 7, .tmp 9], argTypes := #[3, 3, 3] }, 4, none⟩, ⟨some 4, .assign (.tmp 10), 4, none⟩])
    .ret))
def pl37 : Nat → Plan := fun _ => .done
theorem st37 : Go.Proofs.Try.f37.body.map (strip pl37) = some m37 := by kernel_rfl
theorem ok37 : okB pl37 Go.Proofs.Try.f37 2 = true := by kernel_rfl
theorem en37 {v0 v1 w} {Q : Value → World → Prop} (h : mwpB Go.Proofs.Try.prog m37 (argEnv [v0, v1]) [] w (fun e ds w => ds = [] ∧ resW Go.Proofs.Try.prog [.tmp 4] e w fun v => Q v w) (fun _ _ _ _ => False) (fun e ds w => ds = [] ∧ resW Go.Proofs.Try.prog [.tmp 4] e w fun v => Q v w) (fun _ _ _ => False) ⟨⟩) : Rets Go.Proofs.Try.prog 37 #[v0, v1] w Q :=
  rets_of_mwp follows_mo Go.Proofs.Try.func37 pl37 st37 ok37 (by kernel_rfl) h
/-- continuo/continuoref31.Taps -/
def m38 : MC := (.seq (.ops [⟨some 2, .assign (.const (.bool false)), 4, none⟩])
    (.seq (.seq (.ops [⟨some 3, .assign (.const (.int .i64 0)), 3, none⟩])
    (.block 0 (.loop (.seq (.seq (.ops [⟨some 4, .move (.tmp 3), 3, none⟩, ⟨some 5, .move (.tmp 0), 22, none⟩, ⟨some 6, .call { callee := .builtin .len, args := #[.tmp 5], argTypes := #[22] }, 3, none⟩, ⟨some 7, .binOp .lss 3 (.tmp 4) (.tmp 6) 3, 4, none⟩])
    (.cond (.tmp 7) .skip (.exit 0)))
    (.seq (.block 1 (.seq (.ops [⟨some 10, .move (.tmp 0), 22, none⟩, ⟨some 11, .move (.tmp 3), 3, none⟩, ⟨some 12, .indexAddr 22 (.tmp 10) (.tmp 11), 0, none⟩, ⟨some 13, .load 3 (.tmp 12), 3, none⟩, ⟨some 14, .call { callee := .value (.func 39), args := #[.tmp 13, .const (.int .i64 (-65536)), .const (.int .i64 65536)], argTypes := #[3, 3, 3] }, 4, none⟩, ⟨some 15, .unOp .not 4 (.tmp 14), 4, none⟩])
    (.cond (.tmp 15) (.seq (.ops [⟨some 2, .assign (.const (.bool false)), 4, none⟩])
    .ret) .skip)))
    (.ops [⟨some 8, .move (.tmp 3), 3, none⟩, ⟨some 9, .binOp .add 3 (.tmp 8) (.const (.int .i64 1)) 3, 3, none⟩, ⟨some 3, .assign (.tmp 9), 3, none⟩]))))))
    (.seq (.ops [⟨some 16, .move (.tmp 0), 22, none⟩, ⟨some 17, .call { callee := .builtin .len, args := #[.tmp 16], argTypes := #[22] }, 3, none⟩, ⟨some 18, .call { callee := .value (.func 39), args := #[.tmp 17, .const (.int .i64 1), .const (.int .i64 512)], argTypes := #[3, 3, 3] }, 4, none⟩, ⟨some 2, .assign (.tmp 18), 4, none⟩])
    .ret)))
def pl38 : Nat → Plan := fun _ => .done
theorem st38 : Go.Proofs.Try.f38.body.map (strip pl38) = some m38 := by kernel_rfl
theorem ok38 : okB pl38 Go.Proofs.Try.f38 1 = true := by kernel_rfl
theorem en38 {v0 w} {Q : Value → World → Prop} (h : mwpB Go.Proofs.Try.prog m38 (argEnv [v0]) [] w (fun e ds w => ds = [] ∧ resW Go.Proofs.Try.prog [.tmp 2] e w fun v => Q v w) (fun _ _ _ _ => False) (fun e ds w => ds = [] ∧ resW Go.Proofs.Try.prog [.tmp 2] e w fun v => Q v w) (fun _ _ _ => False) ⟨⟩) : Rets Go.Proofs.Try.prog 38 #[v0] w Q :=
  rets_of_mwp follows_mo Go.Proofs.Try.func38 pl38 st38 ok38 (by kernel_rfl) h
/-- continuo/continuoref31.from -/
def m39 : MC := (.seq (.ops [⟨some 6, .assign (.const (.bool false)), 4, none⟩])
    (.seq (.ops [⟨some 7, .move (.tmp 0), 3, none⟩, ⟨some 8, .move (.tmp 1), 3, none⟩, ⟨some 9, .binOp .geq 3 (.tmp 7) (.tmp 8) 3, 4, none⟩, ⟨some 10, .move (.tmp 9), 4, none⟩, ⟨some 11, .move (.tmp 0), 3, some (some 10, true)⟩, ⟨some 12, .move (.tmp 2), 3, some (some 10, true)⟩, ⟨some 13, .binOp .leq 3 (.tmp 11) (.tmp 12) 3, 4, some (some 10, true)⟩, ⟨some 14, .pick (.tmp 10) (.tmp 13) (.const (.bool false)), 4, none⟩, ⟨some 6, .assign (.tmp 14), 4, none⟩])
    .ret))
def pl39 : Nat → Plan := fun _ => .done
theorem st39 : Go.Proofs.Try.f39.body.map (strip pl39) = some m39 := by kernel_rfl
theorem ok39 : okB pl39 Go.Proofs.Try.f39 3 = true := by kernel_rfl
theorem en39 {v0 v1 v2 w} {Q : Value → World → Prop} (h : mwpB Go.Proofs.Try.prog m39 (argEnv [v0, v1, v2]) [] w (fun e ds w => ds = [] ∧ resW Go.Proofs.Try.prog [.tmp 6] e w fun v => Q v w) (fun _ _ _ _ => False) (fun e ds w => ds = [] ∧ resW Go.Proofs.Try.prog [.tmp 6] e w fun v => Q v w) (fun _ _ _ => False) ⟨⟩) : Rets Go.Proofs.Try.prog 39 #[v0, v1, v2] w Q :=
  rets_of_mwp follows_mo Go.Proofs.Try.func39 pl39 st39 ok39 (by kernel_rfl) h
/-- continuo/continuoref31.press -/
def m40 : MC := (.seq (.ops [⟨some 2, .assign (.const (.bool false)), 4, none⟩])
    (.seq (.ops [⟨some 3, .move (.tmp 0), 22, none⟩, ⟨some 4, .indexAddr 22 (.tmp 3) (.const (.int .i64 0)), 0, none⟩, ⟨some 5, .load 3 (.tmp 4), 3, none⟩, ⟨some 6, .call { callee := .value (.func 39), args := #[.tmp 5, .const (.int .i64 0), .const (.int .i64 8388607)], argTypes := #[3, 3, 3] }, 4, none⟩, ⟨some 7, .move (.tmp 6), 4, none⟩, ⟨some 8, .move (.tmp 0), 22, some (some 7, true)⟩, ⟨some 9, .indexAddr 22 (.tmp 8) (.const (.int .i64 1)), 0, some (some 7, true)⟩, ⟨some 10, .load 3 (.tmp 9), 3, some (some 7, true)⟩, ⟨some 11, .call { callee := .value (.func 39), args := #[.tmp 10, .const (.int .i64 65536), .const (.int .i64 6553600)], argTypes := #[3, 3, 3] }, 4, some (some 7, true)⟩, ⟨some 12, .pick (.tmp 7) (.tmp 11) (.const (.bool false)), 4, none⟩, ⟨some 13, .move (.tmp 12), 4, none⟩, ⟨some 14, .move (.tmp 0), 22, some (some 13, true)⟩, ⟨some 15, .indexAddr 22 (.tmp 14) (.const (.int .i64 2)), 0, some (some 13, true)⟩, ⟨some 16, .load 3 (.tmp 15), 3, some (some 13, true)⟩, ⟨some 17, .call { callee := .value (.func 39), args := #[.tmp 16, .const (.int .i64 1), .const (.int .i64 65536)], argTypes := #[3, 3, 3] }, 4, some (some 13, true)⟩, ⟨some 18, .pick (.tmp 13) (.tmp 17) (.const (.bool false)), 4, none⟩, ⟨some 19, .move (.tmp 18), 4, none⟩, ⟨some 20, .move (.tmp 0), 22, some (some 19, true)⟩, ⟨some 21, .indexAddr 22 (.tmp 20) (.const (.int .i64 3)), 0, some (some 19, true)⟩, ⟨some 22, .load 3 (.tmp 21), 3, some (some 19, true)⟩, ⟨some 23, .call { callee := .value (.func 39), args := #[.tmp 22, .const (.int .i64 1), .const (.int .i64 65536)], argTypes := #[3, 3, 3] }, 4, some (some 19, true)⟩, ⟨some 24, .pick (.tmp 19) (.tmp 23) (.const (.bool false)), 4, none⟩, ⟨some 2, .assign (.tmp 24), 4, none⟩])
    .ret))
def pl40 : Nat → Plan := fun _ => .done
theorem st40 : Go.Proofs.Try.f40.body.map (strip pl40) = some m40 := by kernel_rfl
theorem ok40 : okB pl40 Go.Proofs.Try.f40 1 = true := by kernel_rfl
theorem en40 {v0 w} {Q : Value → World → Prop} (h : mwpB Go.Proofs.Try.prog m40 (argEnv [v0]) [] w (fun e ds w => ds = [] ∧ resW Go.Proofs.Try.prog [.tmp 2] e w fun v => Q v w) (fun _ _ _ _ => False) (fun e ds w => ds = [] ∧ resW Go.Proofs.Try.prog [.tmp 2] e w fun v => Q v w) (fun _ _ _ => False) ⟨⟩) : Rets Go.Proofs.Try.prog 40 #[v0] w Q :=
  rets_of_mwp follows_mo Go.Proofs.Try.func40 pl40 st40 ok40 (by kernel_rfl) h
/-- slices.Clone[[]int,int] -/
def m41 : MC := (.seq (.ops [⟨some 2, .assign (.const (.slice none 0 0)), 22, none⟩])
    (.seq (.seq (.ops [⟨some 3, .move (.tmp 0), 22, none⟩, ⟨some 4, .binOp .eql 22 (.tmp 3) (.const (.slice none 0 0)) 22, 4, none⟩])
    (.cond (.tmp 4) (.seq (.ops [⟨some 2, .assign (.const (.slice none 0 0)), 22, none⟩])
    .ret) .skip))
    (.seq (.ops [⟨some 5, .buildSlice 22 0 #[], 22, none⟩, ⟨some 6, .move (.tmp 0), 22, none⟩, ⟨some 7, .call { callee := .builtin .append, args := #[.tmp 5, .tmp 6], argTypes := #[22, 22] }, 22, none⟩, ⟨some 2, .assign (.tmp 7), 22, none⟩])
    .ret)))
def pl41 : Nat → Plan := fun _ => .done
theorem st41 : Go.Proofs.Try.f41.body.map (strip pl41) = some m41 := by kernel_rfl
theorem ok41 : okB pl41 Go.Proofs.Try.f41 1 = true := by kernel_rfl
theorem en41 {v0 w} {Q : Value → World → Prop} (h : mwpB Go.Proofs.Try.prog m41 (argEnv [v0]) [] w (fun e ds w => ds = [] ∧ resW Go.Proofs.Try.prog [.tmp 2] e w fun v => Q v w) (fun _ _ _ _ => False) (fun e ds w => ds = [] ∧ resW Go.Proofs.Try.prog [.tmp 2] e w fun v => Q v w) (fun _ _ _ => False) ⟨⟩) : Rets Go.Proofs.Try.prog 41 #[v0] w Q :=
  rets_of_mwp follows_mo Go.Proofs.Try.func41 pl41 st41 ok41 (by kernel_rfl) h
/-- continuo/effect.samples -/
def m42 : MC := (.seq (.ops [⟨some 2, .assign (.const (.bool false)), 4, none⟩])
    (.seq (.ops [⟨some 3, .move (.tmp 0), 22, none⟩, ⟨some 4, .call { callee := .builtin .len, args := #[.tmp 3], argTypes := #[22] }, 3, none⟩, ⟨some 5, .binOp .leq 3 (.tmp 4) (.const (.int .i64 4096)) 3, 4, none⟩, ⟨some 6, .move (.tmp 5), 4, none⟩, ⟨some 7, .move (.tmp 0), 22, some (some 6, true)⟩, ⟨some 8, .call { callee := .value (.func 56), args := #[.tmp 7, .func 59], argTypes := #[22, 94] }, 4, some (some 6, true)⟩, ⟨some 9, .unOp .not 4 (.tmp 8), 4, some (some 6, true)⟩, ⟨some 10, .pick (.tmp 6) (.tmp 9) (.const (.bool false)), 4, none⟩, ⟨some 2, .assign (.tmp 10), 4, none⟩])
    .ret))
def pl42 : Nat → Plan := fun _ => .done
theorem st42 : Go.Proofs.Try.f42.body.map (strip pl42) = some m42 := by kernel_rfl
theorem ok42 : okB pl42 Go.Proofs.Try.f42 1 = true := by kernel_rfl
theorem en42 {v0 w} {Q : Value → World → Prop} (h : mwpB Go.Proofs.Try.prog m42 (argEnv [v0]) [] w (fun e ds w => ds = [] ∧ resW Go.Proofs.Try.prog [.tmp 2] e w fun v => Q v w) (fun _ _ _ _ => False) (fun e ds w => ds = [] ∧ resW Go.Proofs.Try.prog [.tmp 2] e w fun v => Q v w) (fun _ _ _ => False) ⟨⟩) : Rets Go.Proofs.Try.prog 42 #[v0] w Q :=
  rets_of_mwp follows_mo Go.Proofs.Try.func42 pl42 st42 ok42 (by kernel_rfl) h
/-- (*continuo/effect.Parts).parts -/
def m43 : MC := (.seq (.ops [⟨some 1, .box 34 (.tmp 0), 0, none⟩, ⟨some 2, .assign (.const .nilFunc), 66, none⟩])
    (.seq (.ops [⟨some 3, .makeFunc (.func 60) #[] #[.tmp 1], 65, none⟩, ⟨some 2, .assign (.tmp 3), 66, none⟩])
    .ret))
def pl43 : Nat → Plan := fun _ => .done
theorem st43 : Go.Proofs.Try.f43.body.map (strip pl43) = some m43 := by kernel_rfl
theorem ok43 : okB pl43 Go.Proofs.Try.f43 1 = true := by kernel_rfl
theorem en43 {v0 w} {Q : Value → World → Prop} (h : mwpB Go.Proofs.Try.prog m43 (argEnv [v0]) [] w (fun e ds w => ds = [] ∧ resW Go.Proofs.Try.prog [.tmp 2] e w fun v => Q v w) (fun _ _ _ _ => False) (fun e ds w => ds = [] ∧ resW Go.Proofs.Try.prog [.tmp 2] e w fun v => Q v w) (fun _ _ _ => False) ⟨⟩) : Rets Go.Proofs.Try.prog 43 #[v0] w Q :=
  rets_of_mwp follows_mo Go.Proofs.Try.func43 pl43 st43 ok43 (by kernel_rfl) h
/-- continuo/effect.bound -/
def m44 : MC := (.seq (.ops [⟨some 2, .assign (.const (.int .i64 0)), 3, none⟩])
    (.seq (.ops [⟨some 3, .move (.tmp 0), 3, none⟩, ⟨some 4, .call { callee := .builtin .min, args := #[.tmp 3, .const (.int .i64 8388607)], argTypes := #[3, 3] }, 3, none⟩, ⟨some 5, .call { callee := .builtin .max, args := #[.const (.int .i64 (-8388607)), .tmp 4], argTypes := #[3, 3] }, 3, none⟩, ⟨some 2, .assign (.tmp 5), 3, none⟩])
    .ret))
def pl44 : Nat → Plan := fun _ => .done
theorem st44 : Go.Proofs.Try.f44.body.map (strip pl44) = some m44 := by kernel_rfl
theorem ok44 : okB pl44 Go.Proofs.Try.f44 1 = true := by kernel_rfl
theorem en44 {v0 w} {Q : Value → World → Prop} (h : mwpB Go.Proofs.Try.prog m44 (argEnv [v0]) [] w (fun e ds w => ds = [] ∧ resW Go.Proofs.Try.prog [.tmp 2] e w fun v => Q v w) (fun _ _ _ _ => False) (fun e ds w => ds = [] ∧ resW Go.Proofs.Try.prog [.tmp 2] e w fun v => Q v w) (fun _ _ _ => False) ⟨⟩) : Rets Go.Proofs.Try.prog 44 #[v0] w Q :=
  rets_of_mwp follows_mo Go.Proofs.Try.func44 pl44 st44 ok44 (by kernel_rfl) h
/-- continuo/effect.rounded -/
def m45 : MC := (.seq (.ops [⟨some 2, .assign (.const (.int .i64 0)), 3, none⟩])
    (.seq (.seq (.ops [⟨some 3, .move (.tmp 0), 3, none⟩, ⟨some 4, .binOp .lss 3 (.tmp 3) (.const (.int .i64 0)) 3, 4, none⟩])
    (.cond (.tmp 4) (.seq (.ops [⟨some 5, .move (.tmp 0), 3, none⟩, ⟨some 6, .unOp .neg 3 (.tmp 5), 3, none⟩, ⟨some 7, .binOp .add 3 (.tmp 6) (.const (.int .i64 32768)) 3, 3, none⟩, ⟨some 8, .binOp .quo 3 (.tmp 7) (.const (.int .i64 65536)) 3, 3, none⟩, ⟨some 9, .unOp .neg 3 (.tmp 8), 3, none⟩, ⟨some 2, .assign (.tmp 9), 3, none⟩])
    .ret) .skip))
    (.seq (.ops [⟨some 10, .move (.tmp 0), 3, none⟩, ⟨some 11, .binOp .add 3 (.tmp 10) (.const (.int .i64 32768)) 3, 3, none⟩, ⟨some 12, .binOp .quo 3 (.tmp 11) (.const (.int .i64 65536)) 3, 3, none⟩, ⟨some 2, .assign (.tmp 12), 3, none⟩])
    .ret)))
def pl45 : Nat → Plan := fun _ => .done
theorem st45 : Go.Proofs.Try.f45.body.map (strip pl45) = some m45 := by kernel_rfl
theorem ok45 : okB pl45 Go.Proofs.Try.f45 1 = true := by kernel_rfl
theorem en45 {v0 w} {Q : Value → World → Prop} (h : mwpB Go.Proofs.Try.prog m45 (argEnv [v0]) [] w (fun e ds w => ds = [] ∧ resW Go.Proofs.Try.prog [.tmp 2] e w fun v => Q v w) (fun _ _ _ _ => False) (fun e ds w => ds = [] ∧ resW Go.Proofs.Try.prog [.tmp 2] e w fun v => Q v w) (fun _ _ _ => False) ⟨⟩) : Rets Go.Proofs.Try.prog 45 #[v0] w Q :=
  rets_of_mwp follows_mo Go.Proofs.Try.func45 pl45 st45 ok45 (by kernel_rfl) h
/-- continuo/continuoref31.Rounded -/
def m46 : MC := (.seq (.ops [⟨some 2, .assign (.const (.int .i64 0)), 3, none⟩])
    (.seq (.seq (.ops [⟨some 3, .move (.tmp 0), 3, none⟩, ⟨some 4, .binOp .lss 3 (.tmp 3) (.const (.int .i64 0)) 3, 4, none⟩])
    (.cond (.tmp 4) (.seq (.ops [⟨some 5, .move (.tmp 0), 3, none⟩, ⟨some 6, .unOp .neg 3 (.tmp 5), 3, none⟩, ⟨some 7, .binOp .mul 3 (.tmp 6) (.const (.int .i64 2)) 3, 3, none⟩, ⟨some 8, .binOp .add 3 (.tmp 7) (.const (.int .i64 65536)) 3, 3, none⟩, ⟨some 9, .binOp .quo 3 (.tmp 8) (.const (.int .i64 131072)) 3, 3, none⟩, ⟨some 10, .unOp .neg 3 (.tmp 9), 3, none⟩, ⟨some 2, .assign (.tmp 10), 3, none⟩])
    .ret) .skip))
    (.seq (.ops [⟨some 11, .move (.tmp 0), 3, none⟩, ⟨some 12, .binOp .mul 3 (.tmp 11) (.const (.int .i64 2)) 3, 3, none⟩, ⟨some 13, .binOp .add 3 (.tmp 12) (.const (.int .i64 65536)) 3, 3, none⟩, ⟨some 14, .binOp .quo 3 (.tmp 13) (.const (.int .i64 131072)) 3, 3, none⟩, ⟨some 2, .assign (.tmp 14), 3, none⟩])
    .ret)))
def pl46 : Nat → Plan := fun _ => .done
theorem st46 : Go.Proofs.Try.f46.body.map (strip pl46) = some m46 := by kernel_rfl
theorem ok46 : okB pl46 Go.Proofs.Try.f46 1 = true := by kernel_rfl
theorem en46 {v0 w} {Q : Value → World → Prop} (h : mwpB Go.Proofs.Try.prog m46 (argEnv [v0]) [] w (fun e ds w => ds = [] ∧ resW Go.Proofs.Try.prog [.tmp 2] e w fun v => Q v w) (fun _ _ _ _ => False) (fun e ds w => ds = [] ∧ resW Go.Proofs.Try.prog [.tmp 2] e w fun v => Q v w) (fun _ _ _ => False) ⟨⟩) : Rets Go.Proofs.Try.prog 46 #[v0] w Q :=
  rets_of_mwp follows_mo Go.Proofs.Try.func46 pl46 st46 ok46 (by kernel_rfl) h
/-- slices.ContainsFunc[[][]continuo/api.Effect,[]continuo/api.Effect] -/
def m47 : MC := (.seq (.ops [⟨some 4, .assign (.const (.bool false)), 4, none⟩])
    (.seq (.ops [⟨some 5, .move (.tmp 0), 44, none⟩, ⟨some 6, .move (.tmp 1), 70, none⟩, ⟨some 7, .call { callee := .value (.func 61), args := #[.tmp 5, .tmp 6], argTypes := #[44, 70] }, 3, none⟩, ⟨some 8, .binOp .geq 3 (.tmp 7) (.const (.int .i64 0)) 3, 4, none⟩, ⟨some 4, .assign (.tmp 8), 4, none⟩])
    .ret))
def pl47 : Nat → Plan := fun _ => .done
theorem st47 : Go.Proofs.Try.f47.body.map (strip pl47) = some m47 := by kernel_rfl
theorem ok47 : okB pl47 Go.Proofs.Try.f47 2 = true := by kernel_rfl
theorem en47 {v0 v1 w} {Q : Value → World → Prop} (h : mwpB Go.Proofs.Try.prog m47 (argEnv [v0, v1]) [] w (fun e ds w => ds = [] ∧ resW Go.Proofs.Try.prog [.tmp 4] e w fun v => Q v w) (fun _ _ _ _ => False) (fun e ds w => ds = [] ∧ resW Go.Proofs.Try.prog [.tmp 4] e w fun v => Q v w) (fun _ _ _ => False) ⟨⟩) : Rets Go.Proofs.Try.prog 47 #[v0, v1] w Q :=
  rets_of_mwp follows_mo Go.Proofs.Try.func47 pl47 st47 ok47 (by kernel_rfl) h
/-- continuo/effect.NewHost$1 -/
def m48 : MC := (.seq (.ops [⟨some 2, .assign (.const (.bool false)), 4, none⟩])
    (.seq (.ops [⟨some 3, .move (.tmp 0), 45, none⟩, ⟨some 4, .call { callee := .value (.func 49), args := #[.tmp 3, .func 50], argTypes := #[45, 33] }, 4, none⟩, ⟨some 2, .assign (.tmp 4), 4, none⟩])
    .ret))
def pl48 : Nat → Plan := fun _ => .done
theorem st48 : Go.Proofs.Try.f48.body.map (strip pl48) = some m48 := by kernel_rfl
theorem ok48 : okB pl48 Go.Proofs.Try.f48 1 = true := by kernel_rfl
theorem en48 {v0 w} {Q : Value → World → Prop} (h : mwpB Go.Proofs.Try.prog m48 (argEnv [v0]) [] w (fun e ds w => ds = [] ∧ resW Go.Proofs.Try.prog [.tmp 2] e w fun v => Q v w) (fun _ _ _ _ => False) (fun e ds w => ds = [] ∧ resW Go.Proofs.Try.prog [.tmp 2] e w fun v => Q v w) (fun _ _ _ => False) ⟨⟩) : Rets Go.Proofs.Try.prog 48 #[v0] w Q :=
  rets_of_mwp follows_mo Go.Proofs.Try.func48 pl48 st48 ok48 (by kernel_rfl) h
/-- slices.ContainsFunc[[]continuo/api.Effect,continuo/api.Effect] -/
def m49 : MC := (.seq (.ops [⟨some 4, .assign (.const (.bool false)), 4, none⟩])
    (.seq (.ops [⟨some 5, .move (.tmp 0), 45, none⟩, ⟨some 6, .move (.tmp 1), 33, none⟩, ⟨some 7, .call { callee := .value (.func 62), args := #[.tmp 5, .tmp 6], argTypes := #[45, 33] }, 3, none⟩, ⟨some 8, .binOp .geq 3 (.tmp 7) (.const (.int .i64 0)) 3, 4, none⟩, ⟨some 4, .assign (.tmp 8), 4, none⟩])
    .ret))
def pl49 : Nat → Plan := fun _ => .done
theorem st49 : Go.Proofs.Try.f49.body.map (strip pl49) = some m49 := by kernel_rfl
theorem ok49 : okB pl49 Go.Proofs.Try.f49 2 = true := by kernel_rfl
theorem en49 {v0 v1 w} {Q : Value → World → Prop} (h : mwpB Go.Proofs.Try.prog m49 (argEnv [v0, v1]) [] w (fun e ds w => ds = [] ∧ resW Go.Proofs.Try.prog [.tmp 4] e w fun v => Q v w) (fun _ _ _ _ => False) (fun e ds w => ds = [] ∧ resW Go.Proofs.Try.prog [.tmp 4] e w fun v => Q v w) (fun _ _ _ => False) ⟨⟩) : Rets Go.Proofs.Try.prog 49 #[v0, v1] w Q :=
  rets_of_mwp follows_mo Go.Proofs.Try.func49 pl49 st49 ok49 (by kernel_rfl) h
/-- continuo/effect.NewHost$1$1 -/
def m50 : MC := (.seq (.ops [⟨some 1, .box 24 (.tmp 0), 0, none⟩, ⟨some 2, .assign (.const (.bool false)), 4, none⟩])
    (.seq (.ops [⟨some 3, .load 24 (.tmp 1), 24, none⟩, ⟨some 4, .call { callee := .value (.func 13), args := #[.tmp 3], argTypes := #[24] }, 4, none⟩, ⟨some 5, .unOp .not 4 (.tmp 4), 4, none⟩, ⟨some 2, .assign (.tmp 5), 4, none⟩])
    .ret))
def pl50 : Nat → Plan := fun _ => .done
theorem st50 : Go.Proofs.Try.f50.body.map (strip pl50) = some m50 := by kernel_rfl
theorem ok50 : okB pl50 Go.Proofs.Try.f50 1 = true := by kernel_rfl
theorem en50 {v0 w} {Q : Value → World → Prop} (h : mwpB Go.Proofs.Try.prog m50 (argEnv [v0]) [] w (fun e ds w => ds = [] ∧ resW Go.Proofs.Try.prog [.tmp 2] e w fun v => Q v w) (fun _ _ _ _ => False) (fun e ds w => ds = [] ∧ resW Go.Proofs.Try.prog [.tmp 2] e w fun v => Q v w) (fun _ _ _ => False) ⟨⟩) : Rets Go.Proofs.Try.prog 50 #[v0] w Q :=
  rets_of_mwp follows_mo Go.Proofs.Try.func50 pl50 st50 ok50 (by kernel_rfl) h
/-- continuo/effect.NewHost$2 -/
def m51 : MC := (.seq (.ops [⟨some 2, .assign (.const (.bool false)), 4, none⟩])
    (.seq (.ops [⟨some 3, .move (.tmp 0), 45, none⟩, ⟨some 4, .call { callee := .builtin .len, args := #[.tmp 3], argTypes := #[45] }, 3, none⟩, ⟨some 5, .binOp .gtr 3 (.tmp 4) (.const (.int .i64 8)) 3, 4, none⟩, ⟨some 2, .assign (.tmp 5), 4, none⟩])
    .ret))
def pl51 : Nat → Plan := fun _ => .done
theorem st51 : Go.Proofs.Try.f51.body.map (strip pl51) = some m51 := by kernel_rfl
theorem ok51 : okB pl51 Go.Proofs.Try.f51 1 = true := by kernel_rfl
theorem en51 {v0 w} {Q : Value → World → Prop} (h : mwpB Go.Proofs.Try.prog m51 (argEnv [v0]) [] w (fun e ds w => ds = [] ∧ resW Go.Proofs.Try.prog [.tmp 2] e w fun v => Q v w) (fun _ _ _ _ => False) (fun e ds w => ds = [] ∧ resW Go.Proofs.Try.prog [.tmp 2] e w fun v => Q v w) (fun _ _ _ => False) ⟨⟩) : Rets Go.Proofs.Try.prog 51 #[v0] w Q :=
  rets_of_mwp follows_mo Go.Proofs.Try.func51 pl51 st51 ok51 (by kernel_rfl) h
/-- continuo/effect.unit -/
def m52 : MC := (.seq (.ops [⟨some 1, .box 24 (.tmp 0), 0, none⟩, ⟨some 2, .assign (.const (.pointer none)), 51, none⟩])
    (.seq (.draw (.take ⟨some 3, .load 24 (.tmp 1), 24, none⟩ (.take ⟨some 5, .load 24 (.tmp 1), 24, none⟩ (.alt ⟨some 4, .call { callee := .value (.func 63), args := #[.tmp 3], argTypes := #[24] }, 82, none⟩ (.alt ⟨some 6, .call { callee := .value (.func 64), args := #[.tmp 5], argTypes := #[24] }, 24, none⟩ (.take ⟨some 7, .build 84 #[(0, .tmp 4), (1, .tmp 6)], 84, none⟩ (.alt ⟨some 8, .box 84 (.tmp 7), 51, none⟩ (.take ⟨some 2, .assign (.tmp 8), 51, none⟩ .done) .none)) .none) .none))))
    .ret))
def pl52 : Nat → Plan := fun id => if id = 1 then (.take 0 (.take 2 (.alt 1 (.alt 3 (.take 4 (.alt 5 (.take 6 .done) .none)) .none) .none))) else .done
theorem st52 : Go.Proofs.Try.f52.body.map (strip pl52) = some m52 := by kernel_rfl
theorem ok52 : okB pl52 Go.Proofs.Try.f52 1 = true := by kernel_rfl
theorem en52 {v0 w} {Q : Value → World → Prop} (h : mwpB Go.Proofs.Try.prog m52 (argEnv [v0]) [] w (fun e ds w => ds = [] ∧ resW Go.Proofs.Try.prog [.tmp 2] e w fun v => Q v w) (fun _ _ _ _ => False) (fun e ds w => ds = [] ∧ resW Go.Proofs.Try.prog [.tmp 2] e w fun v => Q v w) (fun _ _ _ => False) ⟨⟩) : Rets Go.Proofs.Try.prog 52 #[v0] w Q :=
  rets_of_mwp follows_mo Go.Proofs.Try.func52 pl52 st52 ok52 (by kernel_rfl) h
/-- (*continuo/effect.Host).equalize -/
def m53 : MC := (.seq (.ops [⟨some 4, .move (.tmp 0), 46, none⟩, ⟨some 5, .nilCheck (.tmp 4), 0, none⟩, ⟨some 6, .fieldAddr 73 (.tmp 5) 0, 0, none⟩, ⟨some 7, .load 71 (.tmp 6), 71, none⟩, ⟨some 8, .call { callee := .builtin .len, args := #[.tmp 7], argTypes := #[71] }, 3, none⟩, ⟨some 9, .move (.const (.int .i64 0)), 3, none⟩])
    (.block 0 (.loop (.seq (.ops [⟨some 10, .binOp .lss 3 (.tmp 9) (.tmp 8) 3, 0, none⟩])
    (.seq (.cond (.tmp 10) .skip (.exit 0))
    (.seq (.block 1 (.seq (.ops [⟨some 11, .indexAddr 71 (.tmp 7) (.tmp 9), 0, none⟩, ⟨some 12, .load 74 (.tmp 11), 74, none⟩, ⟨some 3, .assign (.tmp 12), 74, none⟩])
    (.seq (.ops [⟨some 13, .move (.tmp 0), 46, none⟩, ⟨some 14, .nilCheck (.tmp 13), 0, none⟩, ⟨some 15, .fieldAddr 73 (.tmp 14) 1, 0, none⟩, ⟨some 16, .load 4 (.tmp 15), 4, none⟩])
    (.cond (.tmp 16) (.ops [⟨some 17, .move (.tmp 3), 74, none⟩, ⟨some 18, .move (.tmp 0), 46, none⟩, ⟨some 19, .call { callee := .value (.func 25), args := #[.tmp 18], argTypes := #[46] }, 3, none⟩, ⟨some 20, .move (.tmp 3), 74, none⟩, ⟨some 21, .call { callee := .value (.func 54), args := #[.tmp 20], argTypes := #[74] }, 3, none⟩, ⟨some 22, .binOp .sub 3 (.tmp 19) (.tmp 21) 3, 3, none⟩, ⟨some 23, .call { callee := .value (.func 65), args := #[.tmp 17, .tmp 22], argTypes := #[74, 3] }, 0, none⟩]) .skip))))
    (.ops [⟨some 24, .binOp .add 3 (.tmp 9) (.const (.int .i64 1)) 3, 3, none⟩, ⟨some 9, .move (.tmp 24), 3, none⟩])))))))
def pl53 : Nat → Plan := fun _ => .done
theorem st53 : Go.Proofs.Try.f53.body.map (strip pl53) = some m53 := by kernel_rfl
theorem ok53 : okB pl53 Go.Proofs.Try.f53 1 = true := by kernel_rfl
theorem en53 {v0 w} {Q : Value → World → Prop} (h : mwpB Go.Proofs.Try.prog m53 (argEnv [v0]) [] w (fun e ds w => ds = [] ∧ resW Go.Proofs.Try.prog [] e w fun v => Q v w) (fun _ _ _ _ => False) (fun e ds w => ds = [] ∧ resW Go.Proofs.Try.prog [] e w fun v => Q v w) (fun _ _ _ => False) ⟨⟩) : Rets Go.Proofs.Try.prog 53 #[v0] w Q :=
  rets_of_mwp follows_mo Go.Proofs.Try.func53 pl53 st53 ok53 (by kernel_rfl) h
/-- (*continuo/effect.lane).latency -/
def m54 : MC := (.seq (.ops [⟨some 2, .assign (.const (.int .i64 0)), 3, none⟩])
    (.seq (.ops [⟨some 3, .assign (.const (.int .i64 0)), 3, none⟩])
    (.seq (.seq (.ops [⟨some 6, .move (.tmp 0), 74, none⟩, ⟨some 7, .nilCheck (.tmp 6), 0, none⟩, ⟨some 8, .fieldAddr 79 (.tmp 7) 1, 0, none⟩, ⟨some 9, .load 77 (.tmp 8), 77, none⟩, ⟨some 10, .call { callee := .builtin .len, args := #[.tmp 9], argTypes := #[77] }, 3, none⟩, ⟨some 11, .move (.const (.int .i64 0)), 3, none⟩])
    (.block 0 (.loop (.seq (.ops [⟨some 12, .binOp .lss 3 (.tmp 11) (.tmp 10) 3, 0, none⟩])
    (.seq (.cond (.tmp 12) .skip (.exit 0))
    (.seq (.block 1 (.seq (.ops [⟨some 13, .indexAddr 77 (.tmp 9) (.tmp 11), 0, none⟩, ⟨some 14, .load 51 (.tmp 13), 51, none⟩, ⟨some 5, .assign (.tmp 14), 51, none⟩])
    (.ops [⟨some 15, .move (.tmp 3), 3, none⟩, ⟨some 16, .move (.tmp 5), 51, none⟩, ⟨some 17, .nilCheck (.tmp 16), 0, none⟩, ⟨some 18, .fieldAddr 84 (.tmp 17) 1, 0, none⟩, ⟨some 19, .load 24 (.tmp 18), 24, none⟩, ⟨some 20, .call { callee := .value (.func 31), args := #[.tmp 19], argTypes := #[24] }, 3, none⟩, ⟨some 21, .binOp .add 3 (.tmp 15) (.tmp 20) 3, 3, none⟩, ⟨some 3, .assign (.tmp 21), 3, none⟩])))
    (.ops [⟨some 22, .binOp .add 3 (.tmp 11) (.const (.int .i64 1)) 3, 3, none⟩, ⟨some 11, .move (.tmp 22), 3, none⟩])))))))
    (.seq (.ops [⟨some 23, .move (.tmp 3), 3, none⟩, ⟨some 2, .assign (.tmp 23), 3, none⟩])
    .ret))))
def pl54 : Nat → Plan := fun _ => .done
theorem st54 : Go.Proofs.Try.f54.body.map (strip pl54) = some m54 := by kernel_rfl
theorem ok54 : okB pl54 Go.Proofs.Try.f54 1 = true := by kernel_rfl
theorem en54 {v0 w} {Q : Value → World → Prop} (h : mwpB Go.Proofs.Try.prog m54 (argEnv [v0]) [] w (fun e ds w => ds = [] ∧ resW Go.Proofs.Try.prog [.tmp 2] e w fun v => Q v w) (fun _ _ _ _ => False) (fun e ds w => ds = [] ∧ resW Go.Proofs.Try.prog [.tmp 2] e w fun v => Q v w) (fun _ _ _ => False) ⟨⟩) : Rets Go.Proofs.Try.prog 54 #[v0] w Q :=
  rets_of_mwp follows_mo Go.Proofs.Try.func54 pl54 st54 ok54 (by kernel_rfl) h
/-- (*continuo/effect.history).kept -/
def m55 : MC := (.seq (.ops [⟨some 4, .assign (.const (.int .i64 0)), 3, none⟩])
    (.seq (.seq (.ops [⟨some 6, .move (.tmp 0), 103, none⟩, ⟨some 7, .nilCheck (.tmp 6), 0, none⟩, ⟨some 8, .fieldAddr 76 (.tmp 7) 0, 0, none⟩, ⟨some 9, .load 22 (.tmp 8), 22, none⟩, ⟨some 10, .call { callee := .builtin .len, args := #[.tmp 9], argTypes := #[22] }, 3, none⟩, ⟨some 11, .binOp .eql 3 (.tmp 10) (.const (.int .i64 0)) 3, 4, none⟩])
    (.cond (.tmp 11) (.seq (.ops [⟨some 12, .move (.tmp 1), 3, none⟩, ⟨some 4, .assign (.tmp 12), 3, none⟩])
    .ret) .skip))
    (.seq (.ops [⟨some 13, .move (.tmp 0), 103, none⟩, ⟨some 14, .move (.tmp 0), 103, none⟩, ⟨some 15, .nilCheck (.tmp 14), 0, none⟩, ⟨some 16, .fieldAddr 76 (.tmp 15) 0, 0, none⟩, ⟨some 17, .load 22 (.tmp 16), 22, none⟩, ⟨some 18, .call { callee := .builtin .len, args := #[.tmp 17], argTypes := #[22] }, 3, none⟩, ⟨some 19, .call { callee := .value (.func 66), args := #[.tmp 13, .tmp 18], argTypes := #[103, 3] }, 3, none⟩, ⟨some 5, .assign (.tmp 19), 3, none⟩])
    (.seq (.ops [⟨some 20, .move (.tmp 0), 103, none⟩, ⟨some 21, .move (.tmp 1), 3, none⟩, ⟨some 22, .call { callee := .value (.func 67), args := #[.tmp 20, .tmp 21], argTypes := #[103, 3] }, 0, none⟩])
    (.seq (.ops [⟨some 23, .move (.tmp 5), 3, none⟩, ⟨some 4, .assign (.tmp 23), 3, none⟩])
    .ret)))))
def pl55 : Nat → Plan := fun _ => .done
theorem st55 : Go.Proofs.Try.f55.body.map (strip pl55) = some m55 := by kernel_rfl
theorem ok55 : okB pl55 Go.Proofs.Try.f55 2 = true := by kernel_rfl
theorem en55 {v0 v1 w} {Q : Value → World → Prop} (h : mwpB Go.Proofs.Try.prog m55 (argEnv [v0, v1]) [] w (fun e ds w => ds = [] ∧ resW Go.Proofs.Try.prog [.tmp 4] e w fun v => Q v w) (fun _ _ _ _ => False) (fun e ds w => ds = [] ∧ resW Go.Proofs.Try.prog [.tmp 4] e w fun v => Q v w) (fun _ _ _ => False) ⟨⟩) : Rets Go.Proofs.Try.prog 55 #[v0, v1] w Q :=
  rets_of_mwp follows_mo Go.Proofs.Try.func55 pl55 st55 ok55 (by kernel_rfl) h
/-- slices.ContainsFunc[[]int,int] -/
def m56 : MC := (.seq (.ops [⟨some 4, .assign (.const (.bool false)), 4, none⟩])
    (.seq (.ops [⟨some 5, .move (.tmp 0), 22, none⟩, ⟨some 6, .move (.tmp 1), 94, none⟩, ⟨some 7, .call { callee := .value (.func 68), args := #[.tmp 5, .tmp 6], argTypes := #[22, 94] }, 3, none⟩, ⟨some 8, .binOp .geq 3 (.tmp 7) (.const (.int .i64 0)) 3, 4, none⟩, ⟨some 4, .assign (.tmp 8), 4, none⟩])
    .ret))
def pl56 : Nat → Plan := fun _ => .done
theorem st56 : Go.Proofs.Try.f56.body.map (strip pl56) = some m56 := by kernel_rfl
theorem ok56 : okB pl56 Go.Proofs.Try.f56 2 = true := by kernel_rfl
theorem en56 {v0 v1 w} {Q : Value → World → Prop} (h : mwpB Go.Proofs.Try.prog m56 (argEnv [v0, v1]) [] w (fun e ds w => ds = [] ∧ resW Go.Proofs.Try.prog [.tmp 4] e w fun v => Q v w) (fun _ _ _ _ => False) (fun e ds w => ds = [] ∧ resW Go.Proofs.Try.prog [.tmp 4] e w fun v => Q v w) (fun _ _ _ => False) ⟨⟩) : Rets Go.Proofs.Try.prog 56 #[v0, v1] w Q :=
  rets_of_mwp follows_mo Go.Proofs.Try.func56 pl56 st56 ok56 (by kernel_rfl) h
/-- continuo/effect.taps$1 -/
def m57 : MC := (.seq (.ops [⟨some 2, .assign (.const (.bool false)), 4, none⟩])
    (.seq (.ops [⟨some 3, .move (.tmp 0), 3, none⟩, ⟨some 4, .call { callee := .value (.func 33), args := #[.tmp 3, .const (.int .i64 (-65536)), .const (.int .i64 65536)], argTypes := #[3, 3, 3] }, 4, none⟩, ⟨some 5, .unOp .not 4 (.tmp 4), 4, none⟩, ⟨some 2, .assign (.tmp 5), 4, none⟩])
    .ret))
def pl57 : Nat → Plan := fun _ => .done
theorem st57 : Go.Proofs.Try.f57.body.map (strip pl57) = some m57 := by kernel_rfl
theorem ok57 : okB pl57 Go.Proofs.Try.f57 1 = true := by kernel_rfl
theorem en57 {v0 w} {Q : Value → World → Prop} (h : mwpB Go.Proofs.Try.prog m57 (argEnv [v0]) [] w (fun e ds w => ds = [] ∧ resW Go.Proofs.Try.prog [.tmp 2] e w fun v => Q v w) (fun _ _ _ _ => False) (fun e ds w => ds = [] ∧ resW Go.Proofs.Try.prog [.tmp 2] e w fun v => Q v w) (fun _ _ _ => False) ⟨⟩) : Rets Go.Proofs.Try.prog 57 #[v0] w Q :=
  rets_of_mwp follows_mo Go.Proofs.Try.func57 pl57 st57 ok57 (by kernel_rfl) h
/-- slices.Clone[[][2]int,[2]int] -/
def m58 : MC := (.seq (.ops [⟨some 2, .assign (.const (.slice none 0 0)), 58, none⟩])
    (.seq (.seq (.ops [⟨some 3, .move (.tmp 0), 58, none⟩, ⟨some 4, .binOp .eql 58 (.tmp 3) (.const (.slice none 0 0)) 58, 4, none⟩])
    (.cond (.tmp 4) (.seq (.ops [⟨some 2, .assign (.const (.slice none 0 0)), 58, none⟩])
    .ret) .skip))
    (.seq (.ops [⟨some 5, .buildSlice 58 0 #[], 58, none⟩, ⟨some 6, .move (.tmp 0), 58, none⟩, ⟨some 7, .call { callee := .builtin .append, args := #[.tmp 5, .tmp 6], argTypes := #[58, 58] }, 58, none⟩, ⟨some 2, .assign (.tmp 7), 58, none⟩])
    .ret)))
def pl58 : Nat → Plan := fun _ => .done
theorem st58 : Go.Proofs.Try.f58.body.map (strip pl58) = some m58 := by kernel_rfl
theorem ok58 : okB pl58 Go.Proofs.Try.f58 1 = true := by kernel_rfl
theorem en58 {v0 w} {Q : Value → World → Prop} (h : mwpB Go.Proofs.Try.prog m58 (argEnv [v0]) [] w (fun e ds w => ds = [] ∧ resW Go.Proofs.Try.prog [.tmp 2] e w fun v => Q v w) (fun _ _ _ _ => False) (fun e ds w => ds = [] ∧ resW Go.Proofs.Try.prog [.tmp 2] e w fun v => Q v w) (fun _ _ _ => False) ⟨⟩) : Rets Go.Proofs.Try.prog 58 #[v0] w Q :=
  rets_of_mwp follows_mo Go.Proofs.Try.func58 pl58 st58 ok58 (by kernel_rfl) h
/-- continuo/effect.samples$1 -/
def m59 : MC := (.seq (.ops [⟨some 2, .assign (.const (.bool false)), 4, none⟩])
    (.seq (.ops [⟨some 3, .move (.tmp 0), 3, none⟩, ⟨some 4, .call { callee := .value (.func 33), args := #[.tmp 3, .const (.int .i64 (-8388607)), .const (.int .i64 8388607)], argTypes := #[3, 3, 3] }, 4, none⟩, ⟨some 5, .unOp .not 4 (.tmp 4), 4, none⟩, ⟨some 2, .assign (.tmp 5), 4, none⟩])
    .ret))
def pl59 : Nat → Plan := fun _ => .done
theorem st59 : Go.Proofs.Try.f59.body.map (strip pl59) = some m59 := by kernel_rfl
theorem ok59 : okB pl59 Go.Proofs.Try.f59 1 = true := by kernel_rfl
theorem en59 {v0 w} {Q : Value → World → Prop} (h : mwpB Go.Proofs.Try.prog m59 (argEnv [v0]) [] w (fun e ds w => ds = [] ∧ resW Go.Proofs.Try.prog [.tmp 2] e w fun v => Q v w) (fun _ _ _ _ => False) (fun e ds w => ds = [] ∧ resW Go.Proofs.Try.prog [.tmp 2] e w fun v => Q v w) (fun _ _ _ => False) ⟨⟩) : Rets Go.Proofs.Try.prog 59 #[v0] w Q :=
  rets_of_mwp follows_mo Go.Proofs.Try.func59 pl59 st59 ok59 (by kernel_rfl) h
/-- (*continuo/effect.Parts).parts$1 -/
def m60 : MC := (.seq (.ops [⟨some 3, .assign (.const (.int .i64 0)), 3, none⟩])
    (.block 0 (.loop (.seq (.seq (.ops [⟨some 4, .move (.tmp 3), 3, none⟩, ⟨some 5, .load 34 (.tmp 1), 34, none⟩, ⟨some 6, .nilCheck (.tmp 5), 0, none⟩, ⟨some 7, .fieldAddr 64 (.tmp 6) 0, 0, none⟩, ⟨some 8, .load 22 (.tmp 7), 22, none⟩, ⟨some 9, .call { callee := .builtin .len, args := #[.tmp 8], argTypes := #[22] }, 3, none⟩, ⟨some 10, .binOp .lss 3 (.tmp 4) (.tmp 9) 3, 4, none⟩])
    (.cond (.tmp 10) .skip (.exit 0)))
    (.seq (.block 1 (.seq (.draw (.take ⟨some 17, .move (.tmp 0), 97, none⟩ (.take ⟨some 18, .move (.tmp 3), 3, none⟩ (.take ⟨some 19, .load 34 (.tmp 1), 34, none⟩ (.take ⟨some 20, .nilCheck (.tmp 19), 0, none⟩ (.take ⟨some 21, .fieldAddr 64 (.tmp 20) 0, 0, none⟩ (.take ⟨some 22, .load 22 (.tmp 21), 22, none⟩ (.take ⟨some 23, .move (.tmp 3), 3, none⟩ (.take ⟨some 24, .move (.tmp 3), 3, none⟩ (.take ⟨some 25, .load 34 (.tmp 1), 34, none⟩ (.take ⟨some 26, .nilCheck (.tmp 25), 0, none⟩ (.take ⟨some 27, .fieldAddr 64 (.tmp 26) 1, 0, none⟩ (.take ⟨some 28, .load 3 (.tmp 27), 3, none⟩ (.take ⟨some 29, .binOp .add 3 (.tmp 24) (.tmp 28) 3, 3, none⟩ (.take ⟨some 30, .load 34 (.tmp 1), 34, none⟩ (.take ⟨some 31, .nilCheck (.tmp 30), 0, none⟩ (.take ⟨some 32, .fieldAddr 64 (.tmp 31) 0, 0, none⟩ (.take ⟨some 33, .load 22 (.tmp 32), 22, none⟩ (.take ⟨some 34, .call { callee := .builtin .len, args := #[.tmp 33], argTypes := #[22] }, 3, none⟩ (.take ⟨some 35, .call { callee := .builtin .min, args := #[.tmp 29, .tmp 34], argTypes := #[3, 3] }, 3, none⟩ (.take ⟨some 36, .slice 22 (.tmp 22) (some (.tmp 23)) (some (.tmp 35)) none, 22, none⟩ (.altL ⟨some 37, .call { callee := .value (.tmp 17), args := #[.tmp 18, .tmp 36], argTypes := #[3, 22] }, 4, none⟩ (.take ⟨some 38, .unOp .not 4 (.tmp 37), 4, none⟩ .done) .none))))))))))))))))))))))
    (.cond (.tmp 38) .ret .skip)))
    (.ops [⟨some 11, .move (.tmp 3), 3, none⟩, ⟨some 12, .load 34 (.tmp 1), 34, none⟩, ⟨some 13, .nilCheck (.tmp 12), 0, none⟩, ⟨some 14, .fieldAddr 64 (.tmp 13) 1, 0, none⟩, ⟨some 15, .load 3 (.tmp 14), 3, none⟩, ⟨some 16, .binOp .add 3 (.tmp 11) (.tmp 15) 3, 3, none⟩, ⟨some 3, .assign (.tmp 16), 3, none⟩]))))))
def pl60 : Nat → Plan := fun id => if id = 3 then (.take 0 (.take 1 (.take 2 (.take 3 (.take 4 (.take 5 (.take 6 (.take 7 (.take 8 (.take 9 (.take 10 (.take 11 (.take 12 (.take 13 (.take 14 (.take 15 (.take 16 (.take 17 (.take 18 (.take 19 (.altL 20 (.take 21 .done) .none))))))))))))))))))))) else .done
theorem st60 : Go.Proofs.Try.f60.body.map (strip pl60) = some m60 := by kernel_rfl
theorem ok60 : okB pl60 Go.Proofs.Try.f60 2 = true := by kernel_rfl
theorem en60 {v0 v1 w} {Q : Value → World → Prop} (h : mwpB Go.Proofs.Try.prog m60 (argEnv [v0, v1]) [] w (fun e ds w => ds = [] ∧ resW Go.Proofs.Try.prog [] e w fun v => Q v w) (fun _ _ _ _ => False) (fun e ds w => ds = [] ∧ resW Go.Proofs.Try.prog [] e w fun v => Q v w) (fun _ _ _ => False) ⟨⟩) : Rets Go.Proofs.Try.prog 60 #[v0, v1] w Q :=
  rets_of_mwp follows_mo Go.Proofs.Try.func60 pl60 st60 ok60 (by kernel_rfl) h
/-- slices.IndexFunc[[][]continuo/api.Effect,[]continuo/api.Effect] -/
def m61 : MC := (.seq (.ops [⟨some 4, .assign (.const (.int .i64 0)), 3, none⟩])
    (.seq (.seq (.ops [⟨some 6, .move (.tmp 0), 44, none⟩, ⟨some 7, .call { callee := .builtin .len, args := #[.tmp 6], argTypes := #[44] }, 3, none⟩, ⟨some 8, .move (.const (.int .i64 0)), 3, none⟩])
    (.block 0 (.loop (.seq (.ops [⟨some 9, .binOp .lss 3 (.tmp 8) (.tmp 7) 3, 0, none⟩])
    (.seq (.cond (.tmp 9) .skip (.exit 0))
    (.seq (.block 1 (.seq (.ops [⟨some 10, .move (.tmp 8), 3, none⟩, ⟨some 5, .assign (.tmp 10), 3, none⟩])
    (.seq (.ops [⟨some 11, .move (.tmp 1), 70, none⟩, ⟨some 12, .move (.tmp 0), 44, none⟩, ⟨some 13, .move (.tmp 5), 3, none⟩, ⟨some 14, .indexAddr 44 (.tmp 12) (.tmp 13), 0, none⟩, ⟨some 15, .load 45 (.tmp 14), 45, none⟩, ⟨some 16, .call { callee := .value (.tmp 11), args := #[.tmp 15], argTypes := #[45] }, 4, none⟩])
    (.cond (.tmp 16) (.seq (.ops [⟨some 17, .move (.tmp 5), 3, none⟩, ⟨some 4, .assign (.tmp 17), 3, none⟩])
    .ret) .skip))))
    (.ops [⟨some 18, .binOp .add 3 (.tmp 8) (.const (.int .i64 1)) 3, 3, none⟩, ⟨some 8, .move (.tmp 18), 3, none⟩])))))))
    (.seq (.ops [⟨some 4, .assign (.const (.int .i64 (-1))), 3, none⟩])
    .ret)))
def pl61 : Nat → Plan := fun _ => .done
theorem st61 : Go.Proofs.Try.f61.body.map (strip pl61) = some m61 := by kernel_rfl
theorem ok61 : okB pl61 Go.Proofs.Try.f61 2 = true := by kernel_rfl
theorem en61 {v0 v1 w} {Q : Value → World → Prop} (h : mwpB Go.Proofs.Try.prog m61 (argEnv [v0, v1]) [] w (fun e ds w => ds = [] ∧ resW Go.Proofs.Try.prog [.tmp 4] e w fun v => Q v w) (fun _ _ _ _ => False) (fun e ds w => ds = [] ∧ resW Go.Proofs.Try.prog [.tmp 4] e w fun v => Q v w) (fun _ _ _ => False) ⟨⟩) : Rets Go.Proofs.Try.prog 61 #[v0, v1] w Q :=
  rets_of_mwp follows_mo Go.Proofs.Try.func61 pl61 st61 ok61 (by kernel_rfl) h
/-- slices.IndexFunc[[]continuo/api.Effect,continuo/api.Effect] -/
def m62 : MC := (.seq (.ops [⟨some 4, .assign (.const (.int .i64 0)), 3, none⟩])
    (.seq (.seq (.ops [⟨some 6, .move (.tmp 0), 45, none⟩, ⟨some 7, .call { callee := .builtin .len, args := #[.tmp 6], argTypes := #[45] }, 3, none⟩, ⟨some 8, .move (.const (.int .i64 0)), 3, none⟩])
    (.block 0 (.loop (.seq (.ops [⟨some 9, .binOp .lss 3 (.tmp 8) (.tmp 7) 3, 0, none⟩])
    (.seq (.cond (.tmp 9) .skip (.exit 0))
    (.seq (.block 1 (.seq (.ops [⟨some 10, .move (.tmp 8), 3, none⟩, ⟨some 5, .assign (.tmp 10), 3, none⟩])
    (.seq (.ops [⟨some 11, .move (.tmp 1), 33, none⟩, ⟨some 12, .move (.tmp 0), 45, none⟩, ⟨some 13, .move (.tmp 5), 3, none⟩, ⟨some 14, .indexAddr 45 (.tmp 12) (.tmp 13), 0, none⟩, ⟨some 15, .load 24 (.tmp 14), 24, none⟩, ⟨some 16, .call { callee := .value (.tmp 11), args := #[.tmp 15], argTypes := #[24] }, 4, none⟩])
    (.cond (.tmp 16) (.seq (.ops [⟨some 17, .move (.tmp 5), 3, none⟩, ⟨some 4, .assign (.tmp 17), 3, none⟩])
    .ret) .skip))))
    (.ops [⟨some 18, .binOp .add 3 (.tmp 8) (.const (.int .i64 1)) 3, 3, none⟩, ⟨some 8, .move (.tmp 18), 3, none⟩])))))))
    (.seq (.ops [⟨some 4, .assign (.const (.int .i64 (-1))), 3, none⟩])
    .ret)))
def pl62 : Nat → Plan := fun _ => .done
theorem st62 : Go.Proofs.Try.f62.body.map (strip pl62) = some m62 := by kernel_rfl
theorem ok62 : okB pl62 Go.Proofs.Try.f62 2 = true := by kernel_rfl
theorem en62 {v0 v1 w} {Q : Value → World → Prop} (h : mwpB Go.Proofs.Try.prog m62 (argEnv [v0, v1]) [] w (fun e ds w => ds = [] ∧ resW Go.Proofs.Try.prog [.tmp 4] e w fun v => Q v w) (fun _ _ _ _ => False) (fun e ds w => ds = [] ∧ resW Go.Proofs.Try.prog [.tmp 4] e w fun v => Q v w) (fun _ _ _ => False) ⟨⟩) : Rets Go.Proofs.Try.prog 62 #[v0, v1] w Q :=
  rets_of_mwp follows_mo Go.Proofs.Try.func62 pl62 st62 ok62 (by kernel_rfl) h
/-- continuo/effect.begun -/
def m63 : MC := (.seq (.ops [⟨some 1, .box 24 (.tmp 0), 0, none⟩, ⟨some 2, .assign (.const .nilIface), 82, none⟩])
    (.seq (.ops [⟨some 5, .makeFunc (.func 69) #[] #[.tmp 1], 105, none⟩, ⟨some 3, .alloc 105, 0, none⟩, ⟨none, .store 105 (.tmp 3) (.tmp 5), 0, none⟩])
    (.seq (.ops [⟨some 6, .makeFunc (.func 70) #[] #[.tmp 1], 109, none⟩, ⟨some 7, .makeFunc (.func 71) #[] #[.tmp 1], 109, none⟩, ⟨some 8, .makeFunc (.func 73) #[] #[.tmp 1], 109, none⟩, ⟨some 9, .makeFunc (.func 74) #[] #[.tmp 1], 109, none⟩, ⟨some 10, .makeFunc (.func 75) #[] #[.tmp 3], 109, none⟩, ⟨some 11, .makeFunc (.func 76) #[] #[.tmp 1], 109, none⟩, ⟨some 12, .makeFunc (.func 77) #[] #[.tmp 3, .tmp 1], 109, none⟩, ⟨some 13, .build 123 #[(1, .tmp 6), (2, .tmp 7), (3, .tmp 8), (4, .tmp 9), (5, .tmp 10), (6, .tmp 11), (7, .tmp 12)], 123, none⟩, ⟨some 4, .alloc 123, 0, none⟩, ⟨none, .store 123 (.tmp 4) (.tmp 13), 0, none⟩])
    (.seq (.ops [⟨some 14, .fieldAddr 24 (.tmp 1) 0, 0, none⟩, ⟨some 15, .load 3 (.tmp 14), 3, none⟩, ⟨some 16, .indexAddr 123 (.tmp 4) (.tmp 15), 0, none⟩, ⟨some 17, .load 109 (.tmp 16), 109, none⟩, ⟨some 18, .call { callee := .value (.tmp 17), args := #[], argTypes := #[] }, 82, none⟩, ⟨some 2, .assign (.tmp 18), 82, none⟩])
    .ret))))
def pl63 : Nat → Plan := fun _ => .done
theorem st63 : Go.Proofs.Try.f63.body.map (strip pl63) = some m63 := by kernel_rfl
theorem ok63 : okB pl63 Go.Proofs.Try.f63 1 = true := by kernel_rfl
theorem en63 {v0 w} {Q : Value → World → Prop} (h : mwpB Go.Proofs.Try.prog m63 (argEnv [v0]) [] w (fun e ds w => ds = [] ∧ resW Go.Proofs.Try.prog [.tmp 2] e w fun v => Q v w) (fun _ _ _ _ => False) (fun e ds w => ds = [] ∧ resW Go.Proofs.Try.prog [.tmp 2] e w fun v => Q v w) (fun _ _ _ => False) ⟨⟩) : Rets Go.Proofs.Try.prog 63 #[v0] w Q :=
  rets_of_mwp follows_mo Go.Proofs.Try.func63 pl63 st63 ok63 (by kernel_rfl) h
/-- continuo/effect.own -/
def m64 : MC := (.seq (.ops [⟨some 1, .box 24 (.tmp 0), 0, none⟩, ⟨some 2, .alloc 24, 0, none⟩])
    (.seq (.draw (.take ⟨some 3, .fieldAddr 24 (.tmp 1) 1, 0, none⟩ (.take ⟨some 4, .load 22 (.tmp 3), 22, none⟩ (.take ⟨some 6, .fieldAddr 24 (.tmp 1) 2, 0, none⟩ (.take ⟨some 7, .load 22 (.tmp 6), 22, none⟩ (.alt ⟨some 5, .call { callee := .value (.func 41), args := #[.tmp 4], argTypes := #[22] }, 22, none⟩ (.take ⟨some 9, .fieldAddr 24 (.tmp 1) 1, 0, none⟩ (.alt ⟨some 8, .call { callee := .value (.func 41), args := #[.tmp 7], argTypes := #[22] }, 22, none⟩ (.altL ⟨none, .store 22 (.tmp 9) (.tmp 5), 0, none⟩ (.take ⟨some 10, .fieldAddr 24 (.tmp 1) 2, 0, none⟩ (.altL ⟨none, .store 22 (.tmp 10) (.tmp 8), 0, none⟩ .done .none)) .none) .none)) .none))))))
    (.seq (.ops [⟨some 11, .load 24 (.tmp 1), 24, none⟩, ⟨none, .store 24 (.tmp 2) (.tmp 11), 0, none⟩])
    .ret)))
def pl64 : Nat → Plan := fun id => if id = 1 then (.take 0 (.take 1 (.take 3 (.take 4 (.alt 2 (.take 6 (.alt 5 (.altL 7 (.take 8 (.altL 9 .done .none)) .none) .none)) .none))))) else .done
theorem st64 : Go.Proofs.Try.f64.body.map (strip pl64) = some m64 := by kernel_rfl
theorem ok64 : okB pl64 Go.Proofs.Try.f64 1 = true := by kernel_rfl
theorem en64 {v0 w} {Q : Value → World → Prop} (h : mwpB Go.Proofs.Try.prog m64 (argEnv [v0]) [] w (fun e ds w => ds = [] ∧ resW Go.Proofs.Try.prog [.cell 2 24] e w fun v => Q v w) (fun _ _ _ _ => False) (fun e ds w => ds = [] ∧ resW Go.Proofs.Try.prog [.cell 2 24] e w fun v => Q v w) (fun _ _ _ => False) ⟨⟩) : Rets Go.Proofs.Try.prog 64 #[v0] w Q :=
  rets_of_mwp follows_mo Go.Proofs.Try.func64 pl64 st64 ok64 (by kernel_rfl) h
/-- (*continuo/effect.lane).later -/
def m65 : MC := (.seq (.seq (.ops [⟨some 5, .move (.tmp 1), 3, none⟩, ⟨some 6, .move (.tmp 0), 74, none⟩, ⟨some 7, .nilCheck (.tmp 6), 0, none⟩, ⟨some 8, .fieldAddr 79 (.tmp 7) 0, 0, none⟩, ⟨some 9, .fieldAddr 76 (.tmp 8) 0, 0, none⟩, ⟨some 10, .load 22 (.tmp 9), 22, none⟩, ⟨some 11, .call { callee := .builtin .len, args := #[.tmp 10], argTypes := #[22] }, 3, none⟩, ⟨some 12, .binOp .eql 3 (.tmp 5) (.tmp 11) 3, 4, none⟩])
    (.cond (.tmp 12) .ret .skip))
    (.seq (.ops [⟨some 13, .move (.tmp 0), 74, none⟩, ⟨some 14, .nilCheck (.tmp 13), 0, none⟩, ⟨some 15, .fieldAddr 79 (.tmp 14) 0, 0, none⟩, ⟨some 16, .call { callee := .value (.func 78), args := #[.tmp 15], argTypes := #[76] }, 22, none⟩, ⟨some 4, .assign (.tmp 16), 22, none⟩])
    (.seq (.ops [⟨some 17, .move (.tmp 0), 74, none⟩, ⟨some 18, .move (.tmp 1), 3, none⟩, ⟨some 19, .call { callee := .value (.func 72), args := #[.tmp 18], argTypes := #[3] }, 76, none⟩, ⟨some 20, .nilCheck (.tmp 17), 0, none⟩, ⟨some 21, .fieldAddr 79 (.tmp 20) 0, 0, none⟩, ⟨none, .store 76 (.tmp 21) (.tmp 19), 0, none⟩])
    (.ops [⟨some 22, .move (.tmp 0), 74, none⟩, ⟨some 23, .nilCheck (.tmp 22), 0, none⟩, ⟨some 24, .fieldAddr 79 (.tmp 23) 0, 0, none⟩, ⟨some 25, .move (.tmp 4), 22, none⟩, ⟨some 26, .call { callee := .value (.func 79), args := #[.tmp 24, .tmp 25], argTypes := #[76, 22] }, 0, none⟩]))))
def pl65 : Nat → Plan := fun _ => .done
theorem st65 : Go.Proofs.Try.f65.body.map (strip pl65) = some m65 := by kernel_rfl
theorem ok65 : okB pl65 Go.Proofs.Try.f65 2 = true := by kernel_rfl
theorem en65 {v0 v1 w} {Q : Value → World → Prop} (h : mwpB Go.Proofs.Try.prog m65 (argEnv [v0, v1]) [] w (fun e ds w => ds = [] ∧ resW Go.Proofs.Try.prog [] e w fun v => Q v w) (fun _ _ _ _ => False) (fun e ds w => ds = [] ∧ resW Go.Proofs.Try.prog [] e w fun v => Q v w) (fun _ _ _ => False) ⟨⟩) : Rets Go.Proofs.Try.prog 65 #[v0, v1] w Q :=
  rets_of_mwp follows_mo Go.Proofs.Try.func65 pl65 st65 ok65 (by kernel_rfl) h
/-- (*continuo/effect.history).ago -/
def m66 : MC := (.seq (.ops [⟨some 4, .assign (.const (.int .i64 0)), 3, none⟩])
    (.seq (.seq (.ops [⟨some 5, .move (.tmp 1), 3, none⟩, ⟨some 6, .move (.tmp 0), 103, none⟩, ⟨some 7, .nilCheck (.tmp 6), 0, none⟩, ⟨some 8, .fieldAddr 76 (.tmp 7) 0, 0, none⟩, ⟨some 9, .load 22 (.tmp 8), 22, none⟩, ⟨some 10, .call { callee := .builtin .len, args := #[.tmp 9], argTypes := #[22] }, 3, none⟩, ⟨some 11, .binOp .gtr 3 (.tmp 5) (.tmp 10) 3, 4, none⟩])
    (.cond (.tmp 11) (.seq (.ops [⟨some 4, .assign (.const (.int .i64 0)), 3, none⟩])
    .ret) .skip))
    (.seq (.draw (.take ⟨some 12, .move (.tmp 0), 103, none⟩ (.take ⟨some 13, .nilCheck (.tmp 12), 0, none⟩ (.take ⟨some 14, .fieldAddr 76 (.tmp 13) 0, 0, none⟩ (.take ⟨some 15, .load 22 (.tmp 14), 22, none⟩ (.take ⟨some 16, .move (.tmp 0), 103, none⟩ (.take ⟨some 17, .nilCheck (.tmp 16), 0, none⟩ (.take ⟨some 18, .fieldAddr 76 (.tmp 17) 1, 0, none⟩ (.take ⟨some 19, .load 3 (.tmp 18), 3, none⟩ (.take ⟨some 20, .move (.tmp 1), 3, none⟩ (.take ⟨some 21, .binOp .add 3 (.tmp 19) (.tmp 20) 3, 3, none⟩ (.take ⟨some 22, .binOp .sub 3 (.tmp 21) (.const (.int .i64 1)) 3, 3, none⟩ (.take ⟨some 23, .move (.tmp 0), 103, none⟩ (.take ⟨some 24, .nilCheck (.tmp 23), 0, none⟩ (.take ⟨some 25, .fieldAddr 76 (.tmp 24) 0, 0, none⟩ (.take ⟨some 26, .load 22 (.tmp 25), 22, none⟩ (.take ⟨some 27, .call { callee := .builtin .len, args := #[.tmp 26], argTypes := #[22] }, 3, none⟩ (.take ⟨some 28, .binOp .rem 3 (.tmp 22) (.tmp 27) 3, 3, none⟩ (.take ⟨some 29, .indexAddr 22 (.tmp 15) (.tmp 28), 0, none⟩ (.take ⟨some 30, .load 3 (.tmp 29), 3, none⟩ (.take ⟨some 4, .assign (.tmp 30), 3, none⟩ .done)))))))))))))))))))))
    .ret)))
def pl66 : Nat → Plan := fun id => if id = 3 then (.take 0 (.take 1 (.take 2 (.take 3 (.take 4 (.take 5 (.take 6 (.take 7 (.take 8 (.take 9 (.take 10 (.take 11 (.take 12 (.take 13 (.take 14 (.take 15 (.take 16 (.take 17 (.take 18 (.take 19 .done)))))))))))))))))))) else .done
theorem st66 : Go.Proofs.Try.f66.body.map (strip pl66) = some m66 := by kernel_rfl
theorem ok66 : okB pl66 Go.Proofs.Try.f66 2 = true := by kernel_rfl
theorem en66 {v0 v1 w} {Q : Value → World → Prop} (h : mwpB Go.Proofs.Try.prog m66 (argEnv [v0, v1]) [] w (fun e ds w => ds = [] ∧ resW Go.Proofs.Try.prog [.tmp 4] e w fun v => Q v w) (fun _ _ _ _ => False) (fun e ds w => ds = [] ∧ resW Go.Proofs.Try.prog [.tmp 4] e w fun v => Q v w) (fun _ _ _ => False) ⟨⟩) : Rets Go.Proofs.Try.prog 66 #[v0, v1] w Q :=
  rets_of_mwp follows_mo Go.Proofs.Try.func66 pl66 st66 ok66 (by kernel_rfl) h
/-- (*continuo/effect.history).push -/
def m67 : MC := (.seq (.ops [⟨some 4, .move (.tmp 0), 103, none⟩, ⟨some 5, .nilCheck (.tmp 4), 0, none⟩, ⟨some 6, .fieldAddr 76 (.tmp 5) 0, 0, none⟩, ⟨some 7, .load 22 (.tmp 6), 22, none⟩, ⟨some 8, .call { callee := .builtin .len, args := #[.tmp 7], argTypes := #[22] }, 3, none⟩, ⟨some 9, .binOp .gtr 3 (.tmp 8) (.const (.int .i64 0)) 3, 4, none⟩])
    (.cond (.tmp 9) (.seq (.draw (.take ⟨some 10, .move (.tmp 0), 103, none⟩ (.take ⟨some 11, .move (.tmp 0), 103, none⟩ (.take ⟨some 12, .nilCheck (.tmp 11), 0, none⟩ (.take ⟨some 13, .fieldAddr 76 (.tmp 12) 1, 0, none⟩ (.take ⟨some 14, .load 3 (.tmp 13), 3, none⟩ (.take ⟨some 15, .move (.tmp 0), 103, none⟩ (.take ⟨some 16, .nilCheck (.tmp 15), 0, none⟩ (.take ⟨some 17, .fieldAddr 76 (.tmp 16) 0, 0, none⟩ (.take ⟨some 18, .load 22 (.tmp 17), 22, none⟩ (.take ⟨some 19, .call { callee := .builtin .len, args := #[.tmp 18], argTypes := #[22] }, 3, none⟩ (.take ⟨some 20, .binOp .add 3 (.tmp 14) (.tmp 19) 3, 3, none⟩ (.take ⟨some 21, .binOp .sub 3 (.tmp 20) (.const (.int .i64 1)) 3, 3, none⟩ (.take ⟨some 22, .move (.tmp 0), 103, none⟩ (.take ⟨some 23, .nilCheck (.tmp 22), 0, none⟩ (.take ⟨some 24, .fieldAddr 76 (.tmp 23) 0, 0, none⟩ (.take ⟨some 25, .load 22 (.tmp 24), 22, none⟩ (.take ⟨some 26, .call { callee := .builtin .len, args := #[.tmp 25], argTypes := #[22] }, 3, none⟩ (.take ⟨some 27, .binOp .rem 3 (.tmp 21) (.tmp 26) 3, 3, none⟩ (.take ⟨some 28, .nilCheck (.tmp 10), 0, none⟩ (.take ⟨some 29, .fieldAddr 76 (.tmp 28) 1, 0, none⟩ (.altL ⟨none, .store 3 (.tmp 29) (.tmp 27), 0, none⟩ .done .none))))))))))))))))))))))
    (.draw (.take ⟨some 30, .move (.tmp 0), 103, none⟩ (.take ⟨some 31, .nilCheck (.tmp 30), 0, none⟩ (.take ⟨some 32, .fieldAddr 76 (.tmp 31) 0, 0, none⟩ (.take ⟨some 33, .load 22 (.tmp 32), 22, none⟩ (.take ⟨some 34, .move (.tmp 0), 103, none⟩ (.take ⟨some 35, .nilCheck (.tmp 34), 0, none⟩ (.take ⟨some 36, .fieldAddr 76 (.tmp 35) 1, 0, none⟩ (.take ⟨some 37, .load 3 (.tmp 36), 3, none⟩ (.take ⟨some 38, .move (.tmp 1), 3, none⟩ (.take ⟨some 39, .indexAddr 22 (.tmp 33) (.tmp 37), 0, none⟩ (.altL ⟨none, .store 3 (.tmp 39) (.tmp 38), 0, none⟩ .done .none))))))))))))) .skip))
def pl67 : Nat → Plan := fun id => if id = 1 then (.take 0 (.take 1 (.take 2 (.take 3 (.take 4 (.take 5 (.take 6 (.take 7 (.take 8 (.take 9 (.take 10 (.take 11 (.take 12 (.take 13 (.take 14 (.take 15 (.take 16 (.take 17 (.take 18 (.take 19 (.altL 20 .done .none))))))))))))))))))))) else if id = 2 then (.take 0 (.take 1 (.take 2 (.take 3 (.take 4 (.take 5 (.take 6 (.take 7 (.take 8 (.take 9 (.altL 10 .done .none))))))))))) else .done
theorem st67 : Go.Proofs.Try.f67.body.map (strip pl67) = some m67 := by kernel_rfl
theorem ok67 : okB pl67 Go.Proofs.Try.f67 2 = true := by kernel_rfl
theorem en67 {v0 v1 w} {Q : Value → World → Prop} (h : mwpB Go.Proofs.Try.prog m67 (argEnv [v0, v1]) [] w (fun e ds w => ds = [] ∧ resW Go.Proofs.Try.prog [] e w fun v => Q v w) (fun _ _ _ _ => False) (fun e ds w => ds = [] ∧ resW Go.Proofs.Try.prog [] e w fun v => Q v w) (fun _ _ _ => False) ⟨⟩) : Rets Go.Proofs.Try.prog 67 #[v0, v1] w Q :=
  rets_of_mwp follows_mo Go.Proofs.Try.func67 pl67 st67 ok67 (by kernel_rfl) h
/-- slices.IndexFunc[[]int,int] -/
def m68 : MC := (.seq (.ops [⟨some 4, .assign (.const (.int .i64 0)), 3, none⟩])
    (.seq (.seq (.ops [⟨some 6, .move (.tmp 0), 22, none⟩, ⟨some 7, .call { callee := .builtin .len, args := #[.tmp 6], argTypes := #[22] }, 3, none⟩, ⟨some 8, .move (.const (.int .i64 0)), 3, none⟩])
    (.block 0 (.loop (.seq (.ops [⟨some 9, .binOp .lss 3 (.tmp 8) (.tmp 7) 3, 0, none⟩])
    (.seq (.cond (.tmp 9) .skip (.exit 0))
    (.seq (.block 1 (.seq (.ops [⟨some 10, .move (.tmp 8), 3, none⟩, ⟨some 5, .assign (.tmp 10), 3, none⟩])
    (.seq (.ops [⟨some 11, .move (.tmp 1), 94, none⟩, ⟨some 12, .move (.tmp 0), 22, none⟩, ⟨some 13, .move (.tmp 5), 3, none⟩, ⟨some 14, .indexAddr 22 (.tmp 12) (.tmp 13), 0, none⟩, ⟨some 15, .load 3 (.tmp 14), 3, none⟩, ⟨some 16, .call { callee := .value (.tmp 11), args := #[.tmp 15], argTypes := #[3] }, 4, none⟩])
    (.cond (.tmp 16) (.seq (.ops [⟨some 17, .move (.tmp 5), 3, none⟩, ⟨some 4, .assign (.tmp 17), 3, none⟩])
    .ret) .skip))))
    (.ops [⟨some 18, .binOp .add 3 (.tmp 8) (.const (.int .i64 1)) 3, 3, none⟩, ⟨some 8, .move (.tmp 18), 3, none⟩])))))))
    (.seq (.ops [⟨some 4, .assign (.const (.int .i64 (-1))), 3, none⟩])
    .ret)))
def pl68 : Nat → Plan := fun _ => .done
theorem st68 : Go.Proofs.Try.f68.body.map (strip pl68) = some m68 := by kernel_rfl
theorem ok68 : okB pl68 Go.Proofs.Try.f68 2 = true := by kernel_rfl
theorem en68 {v0 v1 w} {Q : Value → World → Prop} (h : mwpB Go.Proofs.Try.prog m68 (argEnv [v0, v1]) [] w (fun e ds w => ds = [] ∧ resW Go.Proofs.Try.prog [.tmp 4] e w fun v => Q v w) (fun _ _ _ _ => False) (fun e ds w => ds = [] ∧ resW Go.Proofs.Try.prog [.tmp 4] e w fun v => Q v w) (fun _ _ _ => False) ⟨⟩) : Rets Go.Proofs.Try.prog 68 #[v0, v1] w Q :=
  rets_of_mwp follows_mo Go.Proofs.Try.func68 pl68 st68 ok68 (by kernel_rfl) h
/-- continuo/effect.begun$1 -/
def m69 : MC := (.seq (.ops [⟨some 1, .alloc 87, 0, none⟩])
    (.seq (.draw (.take ⟨some 2, .fieldAddr 24 (.tmp 0) 1, 0, none⟩ (.take ⟨some 3, .load 22 (.tmp 2), 22, none⟩ (.take ⟨some 4, .indexAddr 22 (.tmp 3) (.const (.int .i64 0)), 0, none⟩ (.take ⟨some 5, .load 3 (.tmp 4), 3, none⟩ (.take ⟨some 6, .fieldAddr 24 (.tmp 0) 1, 0, none⟩ (.take ⟨some 7, .load 22 (.tmp 6), 22, none⟩ (.take ⟨some 8, .indexAddr 22 (.tmp 7) (.const (.int .i64 1)), 0, none⟩ (.take ⟨some 9, .load 3 (.tmp 8), 3, none⟩ (.take ⟨some 10, .fieldAddr 24 (.tmp 0) 1, 0, none⟩ (.take ⟨some 11, .load 22 (.tmp 10), 22, none⟩ (.take ⟨some 12, .indexAddr 22 (.tmp 11) (.const (.int .i64 2)), 0, none⟩ (.take ⟨some 13, .load 3 (.tmp 12), 3, none⟩ (.take ⟨some 14, .fieldAddr 24 (.tmp 0) 1, 0, none⟩ (.take ⟨some 15, .load 22 (.tmp 14), 22, none⟩ (.take ⟨some 16, .indexAddr 22 (.tmp 15) (.const (.int .i64 3)), 0, none⟩ (.take ⟨some 17, .load 3 (.tmp 16), 3, none⟩ (.take ⟨some 18, .build 87 #[(0, .tmp 5), (1, .tmp 9), (2, .tmp 13), (3, .tmp 17), (4, .const (.int .i64 0))], 87, none⟩ (.altL ⟨none, .store 87 (.tmp 1) (.tmp 18), 0, none⟩ .done .none)))))))))))))))))))
    .ret))
def pl69 : Nat → Plan := fun id => if id = 1 then (.take 0 (.take 1 (.take 2 (.take 3 (.take 4 (.take 5 (.take 6 (.take 7 (.take 8 (.take 9 (.take 10 (.take 11 (.take 12 (.take 13 (.take 14 (.take 15 (.take 16 (.altL 17 .done .none)))))))))))))))))) else .done
theorem st69 : Go.Proofs.Try.f69.body.map (strip pl69) = some m69 := by kernel_rfl
theorem ok69 : okB pl69 Go.Proofs.Try.f69 1 = true := by kernel_rfl
theorem en69 {v0 w} {Q : Value → World → Prop} (h : mwpB Go.Proofs.Try.prog m69 (argEnv [v0]) [] w (fun e ds w => ds = [] ∧ resW Go.Proofs.Try.prog [.cell 1 87] e w fun v => Q v w) (fun _ _ _ _ => False) (fun e ds w => ds = [] ∧ resW Go.Proofs.Try.prog [.cell 1 87] e w fun v => Q v w) (fun _ _ _ => False) ⟨⟩) : Rets Go.Proofs.Try.prog 69 #[v0] w Q :=
  rets_of_mwp follows_mo Go.Proofs.Try.func69 pl69 st69 ok69 (by kernel_rfl) h
/-- continuo/effect.begun$2 -/
def m70 : MC := (.seq (.ops [⟨some 1, .assign (.const .nilIface), 82, none⟩])
    (.seq (.ops [⟨some 2, .fieldAddr 24 (.tmp 0) 1, 0, none⟩, ⟨some 3, .load 22 (.tmp 2), 22, none⟩, ⟨some 4, .indexAddr 22 (.tmp 3) (.const (.int .i64 0)), 0, none⟩, ⟨some 5, .load 3 (.tmp 4), 3, none⟩, ⟨some 6, .build 108 #[(0, .tmp 5)], 108, none⟩, ⟨some 7, .box 108 (.tmp 6), 106, none⟩, ⟨some 8, .makeInterface 106 (.tmp 7), 82, none⟩, ⟨some 1, .assign (.tmp 8), 82, none⟩])
    .ret))
def pl70 : Nat → Plan := fun _ => .done
theorem st70 : Go.Proofs.Try.f70.body.map (strip pl70) = some m70 := by kernel_rfl
theorem ok70 : okB pl70 Go.Proofs.Try.f70 1 = true := by kernel_rfl
theorem en70 {v0 w} {Q : Value → World → Prop} (h : mwpB Go.Proofs.Try.prog m70 (argEnv [v0]) [] w (fun e ds w => ds = [] ∧ resW Go.Proofs.Try.prog [.tmp 1] e w fun v => Q v w) (fun _ _ _ _ => False) (fun e ds w => ds = [] ∧ resW Go.Proofs.Try.prog [.tmp 1] e w fun v => Q v w) (fun _ _ _ => False) ⟨⟩) : Rets Go.Proofs.Try.prog 70 #[v0] w Q :=
  rets_of_mwp follows_mo Go.Proofs.Try.func70 pl70 st70 ok70 (by kernel_rfl) h
/-- continuo/effect.begun$3 -/
def m71 : MC := (.seq (.ops [⟨some 1, .assign (.const .nilIface), 82, none⟩])
    (.seq (.ops [⟨some 2, .fieldAddr 24 (.tmp 0) 1, 0, none⟩, ⟨some 3, .load 22 (.tmp 2), 22, none⟩, ⟨some 4, .indexAddr 22 (.tmp 3) (.const (.int .i64 0)), 0, none⟩, ⟨some 5, .load 3 (.tmp 4), 3, none⟩, ⟨some 6, .call { callee := .value (.func 72), args := #[.tmp 5], argTypes := #[3] }, 76, none⟩, ⟨some 7, .build 113 #[(0, .tmp 6)], 113, none⟩, ⟨some 8, .box 113 (.tmp 7), 110, none⟩, ⟨some 9, .makeInterface 110 (.tmp 8), 82, none⟩, ⟨some 1, .assign (.tmp 9), 82, none⟩])
    .ret))
def pl71 : Nat → Plan := fun _ => .done
theorem st71 : Go.Proofs.Try.f71.body.map (strip pl71) = some m71 := by kernel_rfl
theorem ok71 : okB pl71 Go.Proofs.Try.f71 1 = true := by kernel_rfl
theorem en71 {v0 w} {Q : Value → World → Prop} (h : mwpB Go.Proofs.Try.prog m71 (argEnv [v0]) [] w (fun e ds w => ds = [] ∧ resW Go.Proofs.Try.prog [.tmp 1] e w fun v => Q v w) (fun _ _ _ _ => False) (fun e ds w => ds = [] ∧ resW Go.Proofs.Try.prog [.tmp 1] e w fun v => Q v w) (fun _ _ _ => False) ⟨⟩) : Rets Go.Proofs.Try.prog 71 #[v0] w Q :=
  rets_of_mwp follows_mo Go.Proofs.Try.func71 pl71 st71 ok71 (by kernel_rfl) h
/-- continuo/effect.past -/
def m72 : MC := (.seq (.ops [⟨some 2, .alloc 76, 0, none⟩])
    (.seq (.ops [⟨some 3, .move (.tmp 0), 3, none⟩, ⟨some 4, .makeSlice 22 (.tmp 3) (.tmp 3), 22, none⟩, ⟨some 5, .build 76 #[(0, .tmp 4)], 76, none⟩, ⟨none, .store 76 (.tmp 2) (.tmp 5), 0, none⟩])
    .ret))
def pl72 : Nat → Plan := fun _ => .done
theorem st72 : Go.Proofs.Try.f72.body.map (strip pl72) = some m72 := by kernel_rfl
theorem ok72 : okB pl72 Go.Proofs.Try.f72 1 = true := by kernel_rfl
theorem en72 {v0 w} {Q : Value → World → Prop} (h : mwpB Go.Proofs.Try.prog m72 (argEnv [v0]) [] w (fun e ds w => ds = [] ∧ resW Go.Proofs.Try.prog [.cell 2 76] e w fun v => Q v w) (fun _ _ _ _ => False) (fun e ds w => ds = [] ∧ resW Go.Proofs.Try.prog [.cell 2 76] e w fun v => Q v w) (fun _ _ _ => False) ⟨⟩) : Rets Go.Proofs.Try.prog 72 #[v0] w Q :=
  rets_of_mwp follows_mo Go.Proofs.Try.func72 pl72 st72 ok72 (by kernel_rfl) h
/-- continuo/effect.begun$4 -/
def m73 : MC := (.seq (.ops [⟨some 1, .assign (.const .nilIface), 82, none⟩])
    (.seq (.draw (.take ⟨some 2, .fieldAddr 24 (.tmp 0) 1, 0, none⟩ (.take ⟨some 3, .load 22 (.tmp 2), 22, none⟩ (.take ⟨some 4, .indexAddr 22 (.tmp 3) (.const (.int .i64 0)), 0, none⟩ (.take ⟨some 5, .load 3 (.tmp 4), 3, none⟩ (.take ⟨some 7, .fieldAddr 24 (.tmp 0) 1, 0, none⟩ (.take ⟨some 8, .load 22 (.tmp 7), 22, none⟩ (.take ⟨some 9, .indexAddr 22 (.tmp 8) (.const (.int .i64 1)), 0, none⟩ (.take ⟨some 10, .load 3 (.tmp 9), 3, none⟩ (.alt ⟨some 6, .call { callee := .value (.func 72), args := #[.tmp 5], argTypes := #[3] }, 76, none⟩ (.take ⟨some 11, .build 116 #[(0, .tmp 6), (1, .tmp 10)], 116, none⟩ (.alt ⟨some 12, .box 116 (.tmp 11), 114, none⟩ (.take ⟨some 13, .makeInterface 114 (.tmp 12), 82, none⟩ (.take ⟨some 1, .assign (.tmp 13), 82, none⟩ .done)) .none)) .none))))))))))
    .ret))
def pl73 : Nat → Plan := fun id => if id = 1 then (.take 0 (.take 1 (.take 2 (.take 3 (.take 5 (.take 6 (.take 7 (.take 8 (.alt 4 (.take 9 (.alt 10 (.take 11 (.take 12 .done)) .none)) .none))))))))) else .done
theorem st73 : Go.Proofs.Try.f73.body.map (strip pl73) = some m73 := by kernel_rfl
theorem ok73 : okB pl73 Go.Proofs.Try.f73 1 = true := by kernel_rfl
theorem en73 {v0 w} {Q : Value → World → Prop} (h : mwpB Go.Proofs.Try.prog m73 (argEnv [v0]) [] w (fun e ds w => ds = [] ∧ resW Go.Proofs.Try.prog [.tmp 1] e w fun v => Q v w) (fun _ _ _ _ => False) (fun e ds w => ds = [] ∧ resW Go.Proofs.Try.prog [.tmp 1] e w fun v => Q v w) (fun _ _ _ => False) ⟨⟩) : Rets Go.Proofs.Try.prog 73 #[v0] w Q :=
  rets_of_mwp follows_mo Go.Proofs.Try.func73 pl73 st73 ok73 (by kernel_rfl) h
/-- continuo/effect.begun$5 -/
def m74 : MC := (.seq (.ops [⟨some 1, .assign (.const .nilIface), 82, none⟩])
    (.seq (.draw (.take ⟨some 2, .fieldAddr 24 (.tmp 0) 2, 0, none⟩ (.take ⟨some 3, .load 22 (.tmp 2), 22, none⟩ (.take ⟨some 4, .call { callee := .builtin .len, args := #[.tmp 3], argTypes := #[22] }, 3, none⟩ (.take ⟨some 5, .binOp .sub 3 (.tmp 4) (.const (.int .i64 1)) 3, 3, none⟩ (.take ⟨some 7, .fieldAddr 24 (.tmp 0) 2, 0, none⟩ (.take ⟨some 8, .load 22 (.tmp 7), 22, none⟩ (.alt ⟨some 6, .call { callee := .value (.func 72), args := #[.tmp 5], argTypes := #[3] }, 76, none⟩ (.alt ⟨some 9, .call { callee := .value (.func 41), args := #[.tmp 8], argTypes := #[22] }, 22, none⟩ (.take ⟨some 10, .build 119 #[(0, .tmp 6), (1, .tmp 9)], 119, none⟩ (.alt ⟨some 11, .box 119 (.tmp 10), 117, none⟩ (.take ⟨some 12, .makeInterface 117 (.tmp 11), 82, none⟩ (.take ⟨some 1, .assign (.tmp 12), 82, none⟩ .done)) .none)) .none) .none))))))))
    .ret))
def pl74 : Nat → Plan := fun id => if id = 1 then (.take 0 (.take 1 (.take 2 (.take 3 (.take 5 (.take 6 (.alt 4 (.alt 7 (.take 8 (.alt 9 (.take 10 (.take 11 .done)) .none)) .none) .none))))))) else .done
theorem st74 : Go.Proofs.Try.f74.body.map (strip pl74) = some m74 := by kernel_rfl
theorem ok74 : okB pl74 Go.Proofs.Try.f74 1 = true := by kernel_rfl
theorem en74 {v0 w} {Q : Value → World → Prop} (h : mwpB Go.Proofs.Try.prog m74 (argEnv [v0]) [] w (fun e ds w => ds = [] ∧ resW Go.Proofs.Try.prog [.tmp 1] e w fun v => Q v w) (fun _ _ _ _ => False) (fun e ds w => ds = [] ∧ resW Go.Proofs.Try.prog [.tmp 1] e w fun v => Q v w) (fun _ _ _ => False) ⟨⟩) : Rets Go.Proofs.Try.prog 74 #[v0] w Q :=
  rets_of_mwp follows_mo Go.Proofs.Try.func74 pl74 st74 ok74 (by kernel_rfl) h
/-- continuo/effect.begun$6 -/
def m75 : MC := (.seq (.ops [⟨some 1, .assign (.const .nilIface), 82, none⟩])
    (.seq (.ops [⟨some 2, .load 105 (.tmp 0), 105, none⟩, ⟨some 3, .call { callee := .value (.tmp 2), args := #[], argTypes := #[] }, 87, none⟩, ⟨some 4, .build 89 #[(0, .tmp 3)], 89, none⟩, ⟨some 5, .box 89 (.tmp 4), 85, none⟩, ⟨some 6, .makeInterface 85 (.tmp 5), 82, none⟩, ⟨some 1, .assign (.tmp 6), 82, none⟩])
    .ret))
def pl75 : Nat → Plan := fun _ => .done
theorem st75 : Go.Proofs.Try.f75.body.map (strip pl75) = some m75 := by kernel_rfl
theorem ok75 : okB pl75 Go.Proofs.Try.f75 1 = true := by kernel_rfl
theorem en75 {v0 w} {Q : Value → World → Prop} (h : mwpB Go.Proofs.Try.prog m75 (argEnv [v0]) [] w (fun e ds w => ds = [] ∧ resW Go.Proofs.Try.prog [.tmp 1] e w fun v => Q v w) (fun _ _ _ _ => False) (fun e ds w => ds = [] ∧ resW Go.Proofs.Try.prog [.tmp 1] e w fun v => Q v w) (fun _ _ _ => False) ⟨⟩) : Rets Go.Proofs.Try.prog 75 #[v0] w Q :=
  rets_of_mwp follows_mo Go.Proofs.Try.func75 pl75 st75 ok75 (by kernel_rfl) h
/-- continuo/effect.begun$7 -/
def m76 : MC := (.seq (.ops [⟨some 1, .assign (.const .nilIface), 82, none⟩])
    (.seq (.draw (.take ⟨some 2, .fieldAddr 24 (.tmp 0) 1, 0, none⟩ (.take ⟨some 3, .load 22 (.tmp 2), 22, none⟩ (.take ⟨some 4, .indexAddr 22 (.tmp 3) (.const (.int .i64 0)), 0, none⟩ (.take ⟨some 5, .load 3 (.tmp 4), 3, none⟩ (.take ⟨some 6, .fieldAddr 24 (.tmp 0) 1, 0, none⟩ (.take ⟨some 7, .load 22 (.tmp 6), 22, none⟩ (.take ⟨some 8, .indexAddr 22 (.tmp 7) (.const (.int .i64 1)), 0, none⟩ (.take ⟨some 9, .load 3 (.tmp 8), 3, none⟩ (.take ⟨some 10, .build 122 #[(0, .tmp 5), (1, .tmp 9), (2, .const (.int .i64 4097))], 122, none⟩ (.alt ⟨some 11, .box 122 (.tmp 10), 120, none⟩ (.take ⟨some 12, .makeInterface 120 (.tmp 11), 82, none⟩ (.take ⟨some 1, .assign (.tmp 12), 82, none⟩ .done)) .none)))))))))))
    .ret))
def pl76 : Nat → Plan := fun id => if id = 1 then (.take 0 (.take 1 (.take 2 (.take 3 (.take 4 (.take 5 (.take 6 (.take 7 (.take 8 (.alt 9 (.take 10 (.take 11 .done)) .none)))))))))) else .done
theorem st76 : Go.Proofs.Try.f76.body.map (strip pl76) = some m76 := by kernel_rfl
theorem ok76 : okB pl76 Go.Proofs.Try.f76 1 = true := by kernel_rfl
theorem en76 {v0 w} {Q : Value → World → Prop} (h : mwpB Go.Proofs.Try.prog m76 (argEnv [v0]) [] w (fun e ds w => ds = [] ∧ resW Go.Proofs.Try.prog [.tmp 1] e w fun v => Q v w) (fun _ _ _ _ => False) (fun e ds w => ds = [] ∧ resW Go.Proofs.Try.prog [.tmp 1] e w fun v => Q v w) (fun _ _ _ => False) ⟨⟩) : Rets Go.Proofs.Try.prog 76 #[v0] w Q :=
  rets_of_mwp follows_mo Go.Proofs.Try.func76 pl76 st76 ok76 (by kernel_rfl) h
/-- continuo/effect.begun$8 -/
def m77 : MC := (.seq (.ops [⟨some 2, .assign (.const .nilIface), 82, none⟩])
    (.seq (.draw (.take ⟨some 3, .load 105 (.tmp 0), 105, none⟩ (.take ⟨some 5, .fieldAddr 24 (.tmp 1) 1, 0, none⟩ (.take ⟨some 6, .load 22 (.tmp 5), 22, none⟩ (.take ⟨some 7, .indexAddr 22 (.tmp 6) (.const (.int .i64 4)), 0, none⟩ (.take ⟨some 8, .load 3 (.tmp 7), 3, none⟩ (.alt ⟨some 4, .call { callee := .value (.tmp 3), args := #[], argTypes := #[] }, 87, none⟩ (.alt ⟨some 9, .call { callee := .value (.func 72), args := #[.tmp 8], argTypes := #[3] }, 76, none⟩ (.take ⟨some 10, .build 92 #[(0, .tmp 4), (1, .tmp 9)], 92, none⟩ (.alt ⟨some 11, .box 92 (.tmp 10), 90, none⟩ (.take ⟨some 12, .makeInterface 90 (.tmp 11), 82, none⟩ (.take ⟨some 2, .assign (.tmp 12), 82, none⟩ .done)) .none)) .none) .none)))))))
    .ret))
def pl77 : Nat → Plan := fun id => if id = 1 then (.take 0 (.take 2 (.take 3 (.take 4 (.take 5 (.alt 1 (.alt 6 (.take 7 (.alt 8 (.take 9 (.take 10 .done)) .none)) .none) .none)))))) else .done
theorem st77 : Go.Proofs.Try.f77.body.map (strip pl77) = some m77 := by kernel_rfl
theorem ok77 : okB pl77 Go.Proofs.Try.f77 2 = true := by kernel_rfl
theorem en77 {v0 v1 w} {Q : Value → World → Prop} (h : mwpB Go.Proofs.Try.prog m77 (argEnv [v0, v1]) [] w (fun e ds w => ds = [] ∧ resW Go.Proofs.Try.prog [.tmp 2] e w fun v => Q v w) (fun _ _ _ _ => False) (fun e ds w => ds = [] ∧ resW Go.Proofs.Try.prog [.tmp 2] e w fun v => Q v w) (fun _ _ _ => False) ⟨⟩) : Rets Go.Proofs.Try.prog 77 #[v0, v1] w Q :=
  rets_of_mwp follows_mo Go.Proofs.Try.func77 pl77 st77 ok77 (by kernel_rfl) h
/-- (*continuo/effect.history).all -/
def m78 : MC := (.seq (.ops [⟨some 2, .assign (.const (.slice none 0 0)), 22, none⟩])
    (.seq (.ops [⟨some 3, .assign (.const (.slice none 0 0)), 22, none⟩])
    (.seq (.seq (.ops [⟨some 5, .move (.tmp 0), 103, none⟩, ⟨some 6, .nilCheck (.tmp 5), 0, none⟩, ⟨some 7, .fieldAddr 76 (.tmp 6) 0, 0, none⟩, ⟨some 8, .load 22 (.tmp 7), 22, none⟩, ⟨some 9, .call { callee := .builtin .len, args := #[.tmp 8], argTypes := #[22] }, 3, none⟩, ⟨some 10, .move (.const (.int .i64 0)), 3, none⟩])
    (.block 0 (.loop (.seq (.ops [⟨some 11, .binOp .lss 3 (.tmp 10) (.tmp 9) 3, 0, none⟩])
    (.seq (.cond (.tmp 11) .skip (.exit 0))
    (.seq (.block 1 (.seq (.ops [⟨some 12, .move (.tmp 10), 3, none⟩, ⟨some 4, .assign (.tmp 12), 3, none⟩])
    (.ops [⟨some 13, .move (.tmp 3), 22, none⟩, ⟨some 14, .move (.tmp 0), 103, none⟩, ⟨some 15, .move (.tmp 4), 3, none⟩, ⟨some 16, .binOp .add 3 (.tmp 15) (.const (.int .i64 1)) 3, 3, none⟩, ⟨some 17, .call { callee := .value (.func 66), args := #[.tmp 14, .tmp 16], argTypes := #[103, 3] }, 3, none⟩, ⟨some 18, .buildSlice 22 1 #[(0, .tmp 17)], 22, none⟩, ⟨some 19, .call { callee := .builtin .append, args := #[.tmp 13, .tmp 18], argTypes := #[22, 22] }, 22, none⟩, ⟨some 3, .assign (.tmp 19), 22, none⟩])))
    (.ops [⟨some 20, .binOp .add 3 (.tmp 10) (.const (.int .i64 1)) 3, 3, none⟩, ⟨some 10, .move (.tmp 20), 3, none⟩])))))))
    (.seq (.ops [⟨some 21, .move (.tmp 3), 22, none⟩, ⟨some 2, .assign (.tmp 21), 22, none⟩])
    .ret))))
def pl78 : Nat → Plan := fun _ => .done
theorem st78 : Go.Proofs.Try.f78.body.map (strip pl78) = some m78 := by kernel_rfl
theorem ok78 : okB pl78 Go.Proofs.Try.f78 1 = true := by kernel_rfl
theorem en78 {v0 w} {Q : Value → World → Prop} (h : mwpB Go.Proofs.Try.prog m78 (argEnv [v0]) [] w (fun e ds w => ds = [] ∧ resW Go.Proofs.Try.prog [.tmp 2] e w fun v => Q v w) (fun _ _ _ _ => False) (fun e ds w => ds = [] ∧ resW Go.Proofs.Try.prog [.tmp 2] e w fun v => Q v w) (fun _ _ _ => False) ⟨⟩) : Rets Go.Proofs.Try.prog 78 #[v0] w Q :=
  rets_of_mwp follows_mo Go.Proofs.Try.func78 pl78 st78 ok78 (by kernel_rfl) h
/-- (*continuo/effect.history).fill -/
def m79 : MC := (.seq (.seq (.ops [⟨some 5, .move (.tmp 0), 103, none⟩, ⟨some 6, .nilCheck (.tmp 5), 0, none⟩, ⟨some 7, .fieldAddr 76 (.tmp 6) 0, 0, none⟩, ⟨some 8, .load 22 (.tmp 7), 22, none⟩, ⟨some 9, .call { callee := .builtin .len, args := #[.tmp 8], argTypes := #[22] }, 3, none⟩, ⟨some 10, .move (.const (.int .i64 0)), 3, none⟩])
    (.block 0 (.loop (.seq (.ops [⟨some 11, .binOp .lss 3 (.tmp 10) (.tmp 9) 3, 0, none⟩])
    (.seq (.cond (.tmp 11) .skip (.exit 0))
    (.seq (.block 1 (.seq (.ops [⟨some 12, .move (.tmp 10), 3, none⟩, ⟨some 4, .assign (.tmp 12), 3, none⟩])
    (.ops [⟨some 13, .move (.tmp 0), 103, none⟩, ⟨some 14, .nilCheck (.tmp 13), 0, none⟩, ⟨some 15, .fieldAddr 76 (.tmp 14) 0, 0, none⟩, ⟨some 16, .load 22 (.tmp 15), 22, none⟩, ⟨some 17, .move (.tmp 4), 3, none⟩, ⟨some 18, .indexAddr 22 (.tmp 16) (.tmp 17), 0, none⟩, ⟨none, .store 3 (.tmp 18) (.const (.int .i64 0)), 0, none⟩])))
    (.ops [⟨some 19, .binOp .add 3 (.tmp 10) (.const (.int .i64 1)) 3, 3, none⟩, ⟨some 10, .move (.tmp 19), 3, none⟩])))))))
    (.seq (.ops [⟨some 20, .move (.tmp 0), 103, none⟩, ⟨some 21, .nilCheck (.tmp 20), 0, none⟩, ⟨some 22, .fieldAddr 76 (.tmp 21) 1, 0, none⟩, ⟨none, .store 3 (.tmp 22) (.const (.int .i64 0)), 0, none⟩])
    (.ops [⟨some 23, .move (.tmp 0), 103, none⟩, ⟨some 24, .nilCheck (.tmp 23), 0, none⟩, ⟨some 25, .fieldAddr 76 (.tmp 24) 0, 0, none⟩, ⟨some 26, .load 22 (.tmp 25), 22, none⟩, ⟨some 27, .move (.tmp 1), 22, none⟩, ⟨some 28, .call { callee := .builtin .copy, args := #[.tmp 26, .tmp 27], argTypes := #[22, 22] }, 3, none⟩])))
def pl79 : Nat → Plan := fun _ => .done
theorem st79 : Go.Proofs.Try.f79.body.map (strip pl79) = some m79 := by kernel_rfl
theorem ok79 : okB pl79 Go.Proofs.Try.f79 2 = true := by kernel_rfl
theorem en79 {v0 v1 w} {Q : Value → World → Prop} (h : mwpB Go.Proofs.Try.prog m79 (argEnv [v0, v1]) [] w (fun e ds w => ds = [] ∧ resW Go.Proofs.Try.prog [] e w fun v => Q v w) (fun _ _ _ _ => False) (fun e ds w => ds = [] ∧ resW Go.Proofs.Try.prog [] e w fun v => Q v w) (fun _ _ _ => False) ⟨⟩) : Rets Go.Proofs.Try.prog 79 #[v0, v1] w Q :=
  rets_of_mwp follows_mo Go.Proofs.Try.func79 pl79 st79 ok79 (by kernel_rfl) h
/-- (*continuo/effect.level).follow -/
def m95 : MC := (.seq (.ops [⟨some 4, .assign (.const (.int .i64 0)), 3, none⟩])
    (.seq (.ops [⟨some 7, .move (.tmp 1), 3, none⟩, ⟨some 8, .move (.tmp 1), 3, none⟩, ⟨some 9, .unOp .neg 3 (.tmp 8), 3, none⟩, ⟨some 10, .call { callee := .builtin .max, args := #[.tmp 7, .tmp 9], argTypes := #[3, 3] }, 3, none⟩, ⟨some 5, .assign (.tmp 10), 3, none⟩])
    (.seq (.ops [⟨some 11, .move (.tmp 0), 141, none⟩, ⟨some 12, .nilCheck (.tmp 11), 0, none⟩, ⟨some 13, .fieldAddr 87 (.tmp 12) 3, 0, none⟩, ⟨some 14, .load 3 (.tmp 13), 3, none⟩, ⟨some 6, .assign (.tmp 14), 3, none⟩])
    (.seq (.seq (.ops [⟨some 15, .move (.tmp 5), 3, none⟩, ⟨some 16, .move (.tmp 0), 141, none⟩, ⟨some 17, .nilCheck (.tmp 16), 0, none⟩, ⟨some 18, .fieldAddr 87 (.tmp 17) 4, 0, none⟩, ⟨some 19, .load 3 (.tmp 18), 3, none⟩, ⟨some 20, .binOp .gtr 3 (.tmp 15) (.tmp 19) 3, 4, none⟩])
    (.cond (.tmp 20) (.ops [⟨some 21, .move (.tmp 0), 141, none⟩, ⟨some 22, .nilCheck (.tmp 21), 0, none⟩, ⟨some 23, .fieldAddr 87 (.tmp 22) 2, 0, none⟩, ⟨some 24, .load 3 (.tmp 23), 3, none⟩, ⟨some 6, .assign (.tmp 24), 3, none⟩]) .skip))
    (.seq (.draw (.take ⟨some 25, .move (.tmp 0), 141, none⟩ (.take ⟨some 26, .nilCheck (.tmp 25), 0, none⟩ (.take ⟨some 27, .fieldAddr 87 (.tmp 26) 4, 0, none⟩ (.take ⟨some 28, .load 3 (.tmp 27), 3, none⟩ (.take ⟨some 29, .move (.tmp 5), 3, none⟩ (.take ⟨some 30, .move (.tmp 0), 141, none⟩ (.take ⟨some 31, .nilCheck (.tmp 30), 0, none⟩ (.take ⟨some 32, .fieldAddr 87 (.tmp 31) 4, 0, none⟩ (.take ⟨some 33, .load 3 (.tmp 32), 3, none⟩ (.take ⟨some 34, .binOp .sub 3 (.tmp 29) (.tmp 33) 3, 3, none⟩ (.take ⟨some 35, .move (.tmp 6), 3, none⟩ (.take ⟨some 36, .binOp .mul 3 (.tmp 34) (.tmp 35) 3, 3, none⟩ (.alt ⟨some 37, .call { callee := .value (.func 45), args := #[.tmp 36], argTypes := #[3] }, 3, none⟩ (.take ⟨some 38, .binOp .add 3 (.tmp 28) (.tmp 37) 3, 3, none⟩ (.take ⟨some 39, .nilCheck (.tmp 25), 0, none⟩ (.take ⟨some 40, .fieldAddr 87 (.tmp 39) 4, 0, none⟩ (.altL ⟨none, .store 3 (.tmp 40) (.tmp 38), 0, none⟩ .done .none)))) .none))))))))))))))
    (.seq (.seq (.draw (.take ⟨some 41, .move (.tmp 0), 141, none⟩ (.take ⟨some 42, .nilCheck (.tmp 41), 0, none⟩ (.take ⟨some 43, .fieldAddr 87 (.tmp 42) 4, 0, none⟩ (.take ⟨some 44, .load 3 (.tmp 43), 3, none⟩ (.take ⟨some 45, .move (.tmp 0), 141, none⟩ (.take ⟨some 46, .nilCheck (.tmp 45), 0, none⟩ (.take ⟨some 47, .fieldAddr 87 (.tmp 46) 0, 0, none⟩ (.take ⟨some 48, .load 3 (.tmp 47), 3, none⟩ (.take ⟨some 49, .binOp .leq 3 (.tmp 44) (.tmp 48) 3, 4, none⟩ .done))))))))))
    (.cond (.tmp 49) (.seq (.ops [⟨some 4, .assign (.const (.int .i64 65536)), 3, none⟩])
    .ret) .skip))
    (.seq (.draw (.take ⟨some 50, .move (.tmp 0), 141, none⟩ (.take ⟨some 51, .nilCheck (.tmp 50), 0, none⟩ (.take ⟨some 52, .fieldAddr 87 (.tmp 51) 0, 0, none⟩ (.take ⟨some 53, .load 3 (.tmp 52), 3, none⟩ (.take ⟨some 54, .binOp .mul 3 (.tmp 53) (.const (.int .i64 65536)) 3, 3, none⟩ (.take ⟨some 55, .move (.tmp 0), 141, none⟩ (.take ⟨some 56, .nilCheck (.tmp 55), 0, none⟩ (.take ⟨some 57, .fieldAddr 87 (.tmp 56) 4, 0, none⟩ (.take ⟨some 58, .load 3 (.tmp 57), 3, none⟩ (.take ⟨some 59, .move (.tmp 0), 141, none⟩ (.take ⟨some 60, .nilCheck (.tmp 59), 0, none⟩ (.take ⟨some 61, .fieldAddr 87 (.tmp 60) 0, 0, none⟩ (.take ⟨some 62, .load 3 (.tmp 61), 3, none⟩ (.take ⟨some 63, .binOp .sub 3 (.tmp 58) (.tmp 62) 3, 3, none⟩ (.take ⟨some 64, .binOp .mul 3 (.tmp 63) (.const (.int .i64 65536)) 3, 3, none⟩ (.take ⟨some 65, .binOp .mul 3 (.tmp 64) (.const (.int .i64 65536)) 3, 3, none⟩ (.take ⟨some 66, .move (.tmp 0), 141, none⟩ (.take ⟨some 67, .nilCheck (.tmp 66), 0, none⟩ (.take ⟨some 68, .fieldAddr 87 (.tmp 67) 1, 0, none⟩ (.take ⟨some 69, .load 3 (.tmp 68), 3, none⟩ (.take ⟨some 70, .binOp .quo 3 (.tmp 65) (.tmp 69) 3, 3, none⟩ (.take ⟨some 71, .binOp .add 3 (.tmp 54) (.tmp 70) 3, 3, none⟩ (.take ⟨some 72, .move (.tmp 0), 141, none⟩ (.take ⟨some 73, .nilCheck (.tmp 72), 0, none⟩ (.take ⟨some 74, .fieldAddr 87 (.tmp 73) 4, 0, none⟩ (.take ⟨some 75, .load 3 (.tmp 74), 3, none⟩ (.take ⟨some 76, .binOp .quo 3 (.tmp 71) (.tmp 75) 3, 3, none⟩ (.take ⟨some 4, .assign (.tmp 76), 3, none⟩ .done)))))))))))))))))))))))))))))
    .ret)))))))
def pl95 : Nat → Plan := fun id => if id = 5 then (.take 0 (.take 1 (.take 2 (.take 3 (.take 4 (.take 5 (.take 6 (.take 7 (.take 8 (.take 9 (.take 10 (.take 11 (.alt 12 (.take 13 (.take 14 (.take 15 (.altL 16 .done .none)))) .none))))))))))))) else if id = 6 then (.take 0 (.take 1 (.take 2 (.take 3 (.take 4 (.take 5 (.take 6 (.take 7 (.take 8 .done))))))))) else if id = 8 then (.take 0 (.take 1 (.take 2 (.take 3 (.take 4 (.take 5 (.take 6 (.take 7 (.take 8 (.take 9 (.take 10 (.take 11 (.take 12 (.take 13 (.take 14 (.take 15 (.take 16 (.take 17 (.take 18 (.take 19 (.take 20 (.take 21 (.take 22 (.take 23 (.take 24 (.take 25 (.take 26 (.take 27 .done)))))))))))))))))))))))))))) else .done
theorem st95 : Go.Proofs.Try.f95.body.map (strip pl95) = some m95 := by kernel_rfl
theorem ok95 : okB pl95 Go.Proofs.Try.f95 2 = true := by kernel_rfl
theorem en95 {v0 v1 w} {Q : Value → World → Prop} (h : mwpB Go.Proofs.Try.prog m95 (argEnv [v0, v1]) [] w (fun e ds w => ds = [] ∧ resW Go.Proofs.Try.prog [.tmp 4] e w fun v => Q v w) (fun _ _ _ _ => False) (fun e ds w => ds = [] ∧ resW Go.Proofs.Try.prog [.tmp 4] e w fun v => Q v w) (fun _ _ _ => False) ⟨⟩) : Rets Go.Proofs.Try.prog 95 #[v0, v1] w Q :=
  rets_of_mwp follows_mo Go.Proofs.Try.func95 pl95 st95 ok95 (by kernel_rfl) h
end Go.Proofs.Ytefcfnmmpnjjjaa
