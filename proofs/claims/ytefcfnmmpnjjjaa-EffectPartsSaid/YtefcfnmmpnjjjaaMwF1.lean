/- The functions, stripped. -/
import Derived.Test.YtefcfnmmpnjjjaaMwT
import Derived.Test.YtefcfnmmpnjjjaaMwIn
namespace Go.Proofs.Ytefcfnmmpnjjjaa
open Go.RowKit
set_option maxRecDepth 100000
/-- (*continuo/effect.presses).step -/
def m98 : MC := (.seq (.ops [⟨some 4, .assign (.const (.int .i64 0)), 3, none⟩])
    (.seq (.ops [⟨some 5, .move (.tmp 1), 3, none⟩, ⟨some 6, .move (.tmp 0), 85, none⟩, ⟨some 7, .nilCheck (.tmp 6), 0, none⟩, ⟨some 8, .fieldAddr 89 (.tmp 7) 0, 0, none⟩, ⟨some 9, .move (.tmp 1), 3, none⟩, ⟨some 10, .call { callee := .value (.func 95), args := #[.tmp 8, .tmp 9], argTypes := #[87, 3] }, 3, none⟩, ⟨some 11, .binOp .mul 3 (.tmp 5) (.tmp 10) 3, 3, none⟩, ⟨some 12, .call { callee := .value (.func 45), args := #[.tmp 11], argTypes := #[3] }, 3, none⟩, ⟨some 4, .assign (.tmp 12), 3, none⟩])
    .ret))
def pl98 : Nat → Plan := fun _ => .done
theorem st98 : Go.Proofs.Try.f98.body.map (strip pl98) = some m98 := by kernel_rfl
theorem ok98 : okB pl98 Go.Proofs.Try.f98 2 = true := by kernel_rfl
theorem en98 {v0 v1 w} {Q : Value → World → Prop} (h : mwpB Go.Proofs.Try.prog m98 (argEnv [v0, v1]) [] w (fun e ds w => ds = [] ∧ resW Go.Proofs.Try.prog [.tmp 4] e w fun v => Q v w) (fun _ _ _ _ => False) (fun e ds w => ds = [] ∧ resW Go.Proofs.Try.prog [.tmp 4] e w fun v => Q v w) (fun _ _ _ => False) ⟨⟩) : Rets Go.Proofs.Try.prog 98 #[v0, v1] w Q :=
  rets_of_mwp follows_mo Go.Proofs.Try.func98 pl98 st98 ok98 (by kernel_rfl) h
/-- (*continuo/effect.looks).step -/
def m102 : MC := (.seq (.ops [⟨some 4, .assign (.const (.int .i64 0)), 3, none⟩])
    (.seq (.ops [⟨some 6, .move (.tmp 0), 90, none⟩, ⟨some 7, .nilCheck (.tmp 6), 0, none⟩, ⟨some 8, .fieldAddr 92 (.tmp 7) 0, 0, none⟩, ⟨some 9, .move (.tmp 1), 3, none⟩, ⟨some 10, .call { callee := .value (.func 95), args := #[.tmp 8, .tmp 9], argTypes := #[87, 3] }, 3, none⟩, ⟨some 5, .assign (.tmp 10), 3, none⟩])
    (.seq (.ops [⟨some 11, .move (.tmp 0), 90, none⟩, ⟨some 12, .nilCheck (.tmp 11), 0, none⟩, ⟨some 13, .fieldAddr 92 (.tmp 12) 1, 0, none⟩, ⟨some 14, .move (.tmp 1), 3, none⟩, ⟨some 15, .call { callee := .value (.func 55), args := #[.tmp 13, .tmp 14], argTypes := #[76, 3] }, 3, none⟩, ⟨some 16, .move (.tmp 5), 3, none⟩, ⟨some 17, .binOp .mul 3 (.tmp 15) (.tmp 16) 3, 3, none⟩, ⟨some 18, .call { callee := .value (.func 45), args := #[.tmp 17], argTypes := #[3] }, 3, none⟩, ⟨some 4, .assign (.tmp 18), 3, none⟩])
    .ret)))
def pl102 : Nat → Plan := fun _ => .done
theorem st102 : Go.Proofs.Try.f102.body.map (strip pl102) = some m102 := by kernel_rfl
theorem ok102 : okB pl102 Go.Proofs.Try.f102 2 = true := by kernel_rfl
theorem en102 {v0 v1 w} {Q : Value → World → Prop} (h : mwpB Go.Proofs.Try.prog m102 (argEnv [v0, v1]) [] w (fun e ds w => ds = [] ∧ resW Go.Proofs.Try.prog [.tmp 4] e w fun v => Q v w) (fun _ _ _ _ => False) (fun e ds w => ds = [] ∧ resW Go.Proofs.Try.prog [.tmp 4] e w fun v => Q v w) (fun _ _ _ => False) ⟨⟩) : Rets Go.Proofs.Try.prog 102 #[v0, v1] w Q :=
  rets_of_mwp follows_mo Go.Proofs.Try.func102 pl102 st102 ok102 (by kernel_rfl) h
/-- (*continuo/effect.gains).step -/
def m105 : MC := (.seq (.ops [⟨some 4, .assign (.const (.int .i64 0)), 3, none⟩])
    (.seq (.ops [⟨some 5, .move (.tmp 1), 3, none⟩, ⟨some 6, .move (.tmp 0), 106, none⟩, ⟨some 7, .nilCheck (.tmp 6), 0, none⟩, ⟨some 8, .fieldAddr 108 (.tmp 7) 0, 0, none⟩, ⟨some 9, .load 3 (.tmp 8), 3, none⟩, ⟨some 10, .binOp .mul 3 (.tmp 5) (.tmp 9) 3, 3, none⟩, ⟨some 11, .call { callee := .value (.func 45), args := #[.tmp 10], argTypes := #[3] }, 3, none⟩, ⟨some 12, .call { callee := .value (.func 44), args := #[.tmp 11], argTypes := #[3] }, 3, none⟩, ⟨some 4, .assign (.tmp 12), 3, none⟩])
    .ret))
def pl105 : Nat → Plan := fun _ => .done
theorem st105 : Go.Proofs.Try.f105.body.map (strip pl105) = some m105 := by kernel_rfl
theorem ok105 : okB pl105 Go.Proofs.Try.f105 2 = true := by kernel_rfl
theorem en105 {v0 v1 w} {Q : Value → World → Prop} (h : mwpB Go.Proofs.Try.prog m105 (argEnv [v0, v1]) [] w (fun e ds w => ds = [] ∧ resW Go.Proofs.Try.prog [.tmp 4] e w fun v => Q v w) (fun _ _ _ _ => False) (fun e ds w => ds = [] ∧ resW Go.Proofs.Try.prog [.tmp 4] e w fun v => Q v w) (fun _ _ _ => False) ⟨⟩) : Rets Go.Proofs.Try.prog 105 #[v0, v1] w Q :=
  rets_of_mwp follows_mo Go.Proofs.Try.func105 pl105 st105 ok105 (by kernel_rfl) h
/-- (*continuo/effect.delays).step -/
def m108 : MC := (.seq (.ops [⟨some 4, .assign (.const (.int .i64 0)), 3, none⟩])
    (.seq (.ops [⟨some 5, .move (.tmp 0), 110, none⟩, ⟨some 6, .nilCheck (.tmp 5), 0, none⟩, ⟨some 7, .fieldAddr 113 (.tmp 6) 0, 0, none⟩, ⟨some 8, .move (.tmp 1), 3, none⟩, ⟨some 9, .call { callee := .value (.func 55), args := #[.tmp 7, .tmp 8], argTypes := #[76, 3] }, 3, none⟩, ⟨some 4, .assign (.tmp 9), 3, none⟩])
    .ret))
def pl108 : Nat → Plan := fun _ => .done
theorem st108 : Go.Proofs.Try.f108.body.map (strip pl108) = some m108 := by kernel_rfl
theorem ok108 : okB pl108 Go.Proofs.Try.f108 2 = true := by kernel_rfl
theorem en108 {v0 v1 w} {Q : Value → World → Prop} (h : mwpB Go.Proofs.Try.prog m108 (argEnv [v0, v1]) [] w (fun e ds w => ds = [] ∧ resW Go.Proofs.Try.prog [.tmp 4] e w fun v => Q v w) (fun _ _ _ _ => False) (fun e ds w => ds = [] ∧ resW Go.Proofs.Try.prog [.tmp 4] e w fun v => Q v w) (fun _ _ _ => False) ⟨⟩) : Rets Go.Proofs.Try.prog 108 #[v0, v1] w Q :=
  rets_of_mwp follows_mo Go.Proofs.Try.func108 pl108 st108 ok108 (by kernel_rfl) h
/-- (*continuo/effect.echoes).step -/
def m111 : MC := (.seq (.ops [⟨some 4, .assign (.const (.int .i64 0)), 3, none⟩])
    (.seq (.draw (.take ⟨some 6, .move (.tmp 1), 3, none⟩ (.take ⟨some 7, .move (.tmp 0), 114, none⟩ (.take ⟨some 8, .nilCheck (.tmp 7), 0, none⟩ (.take ⟨some 9, .fieldAddr 116 (.tmp 8) 0, 0, none⟩ (.take ⟨some 10, .move (.tmp 0), 114, none⟩ (.take ⟨some 11, .nilCheck (.tmp 10), 0, none⟩ (.take ⟨some 12, .fieldAddr 116 (.tmp 11) 0, 0, none⟩ (.take ⟨some 13, .fieldAddr 76 (.tmp 12) 0, 0, none⟩ (.take ⟨some 14, .load 22 (.tmp 13), 22, none⟩ (.take ⟨some 15, .call { callee := .builtin .len, args := #[.tmp 14], argTypes := #[22] }, 3, none⟩ (.take ⟨some 17, .move (.tmp 0), 114, none⟩ (.take ⟨some 18, .nilCheck (.tmp 17), 0, none⟩ (.take ⟨some 19, .fieldAddr 116 (.tmp 18) 1, 0, none⟩ (.take ⟨some 20, .load 3 (.tmp 19), 3, none⟩ (.alt ⟨some 16, .call { callee := .value (.func 66), args := #[.tmp 9, .tmp 15], argTypes := #[76, 3] }, 3, none⟩ (.take ⟨some 21, .binOp .mul 3 (.tmp 16) (.tmp 20) 3, 3, none⟩ (.alt ⟨some 22, .call { callee := .value (.func 45), args := #[.tmp 21], argTypes := #[3] }, 3, none⟩ (.take ⟨some 23, .binOp .add 3 (.tmp 6) (.tmp 22) 3, 3, none⟩ (.alt ⟨some 24, .call { callee := .value (.func 44), args := #[.tmp 23], argTypes := #[3] }, 3, none⟩ (.take ⟨some 5, .assign (.tmp 24), 3, none⟩ .done) .none)) .none)) .none))))))))))))))))
    (.seq (.ops [⟨some 25, .move (.tmp 0), 114, none⟩, ⟨some 26, .nilCheck (.tmp 25), 0, none⟩, ⟨some 27, .fieldAddr 116 (.tmp 26) 0, 0, none⟩, ⟨some 28, .move (.tmp 5), 3, none⟩, ⟨some 29, .call { callee := .value (.func 67), args := #[.tmp 27, .tmp 28], argTypes := #[76, 3] }, 0, none⟩])
    (.seq (.ops [⟨some 30, .move (.tmp 5), 3, none⟩, ⟨some 4, .assign (.tmp 30), 3, none⟩])
    .ret))))
def pl111 : Nat → Plan := fun id => if id = 1 then (.take 0 (.take 1 (.take 2 (.take 3 (.take 4 (.take 5 (.take 6 (.take 7 (.take 8 (.take 9 (.take 11 (.take 12 (.take 13 (.take 14 (.alt 10 (.take 15 (.alt 16 (.take 17 (.alt 18 (.take 19 .done) .none)) .none)) .none))))))))))))))) else .done
theorem st111 : Go.Proofs.Try.f111.body.map (strip pl111) = some m111 := by kernel_rfl
theorem ok111 : okB pl111 Go.Proofs.Try.f111 2 = true := by kernel_rfl
theorem en111 {v0 v1 w} {Q : Value → World → Prop} (h : mwpB Go.Proofs.Try.prog m111 (argEnv [v0, v1]) [] w (fun e ds w => ds = [] ∧ resW Go.Proofs.Try.prog [.tmp 4] e w fun v => Q v w) (fun _ _ _ _ => False) (fun e ds w => ds = [] ∧ resW Go.Proofs.Try.prog [.tmp 4] e w fun v => Q v w) (fun _ _ _ => False) ⟨⟩) : Rets Go.Proofs.Try.prog 111 #[v0, v1] w Q :=
  rets_of_mwp follows_mo Go.Proofs.Try.func111 pl111 st111 ok111 (by kernel_rfl) h
/-- (*continuo/effect.filters).step -/
def m114 : MC := (.seq (.ops [⟨some 4, .assign (.const (.int .i64 0)), 3, none⟩])
    (.seq (.ops [⟨some 8, .move (.tmp 0), 117, none⟩, ⟨some 9, .nilCheck (.tmp 8), 0, none⟩, ⟨some 10, .fieldAddr 119 (.tmp 9) 1, 0, none⟩, ⟨some 11, .load 22 (.tmp 10), 22, none⟩, ⟨some 12, .indexAddr 22 (.tmp 11) (.const (.int .i64 0)), 0, none⟩, ⟨some 13, .load 3 (.tmp 12), 3, none⟩, ⟨some 14, .move (.tmp 1), 3, none⟩, ⟨some 15, .binOp .mul 3 (.tmp 13) (.tmp 14) 3, 3, none⟩, ⟨some 5, .assign (.tmp 15), 3, none⟩])
    (.seq (.seq (.ops [⟨some 16, .move (.tmp 0), 117, none⟩, ⟨some 17, .nilCheck (.tmp 16), 0, none⟩, ⟨some 18, .fieldAddr 119 (.tmp 17) 1, 0, none⟩, ⟨some 19, .load 22 (.tmp 18), 22, none⟩, ⟨some 20, .slice 22 (.tmp 19) (some (.const (.int .i64 1))) none none, 22, none⟩, ⟨some 21, .call { callee := .builtin .len, args := #[.tmp 20], argTypes := #[22] }, 3, none⟩, ⟨some 22, .move (.const (.int .i64 0)), 3, none⟩])
    (.block 0 (.loop (.seq (.ops [⟨some 23, .binOp .lss 3 (.tmp 22) (.tmp 21) 3, 0, none⟩])
    (.seq (.cond (.tmp 23) .skip (.exit 0))
    (.seq (.block 1 (.seq (.ops [⟨some 24, .move (.tmp 22), 3, none⟩, ⟨some 25, .indexAddr 22 (.tmp 20) (.tmp 22), 0, none⟩, ⟨some 26, .load 3 (.tmp 25), 3, none⟩, ⟨some 6, .assign (.tmp 24), 3, none⟩, ⟨some 7, .assign (.tmp 26), 3, none⟩])
    (.ops [⟨some 27, .move (.tmp 5), 3, none⟩, ⟨some 28, .move (.tmp 7), 3, none⟩, ⟨some 29, .move (.tmp 0), 117, none⟩, ⟨some 30, .nilCheck (.tmp 29), 0, none⟩, ⟨some 31, .fieldAddr 119 (.tmp 30) 0, 0, none⟩, ⟨some 32, .move (.tmp 6), 3, none⟩, ⟨some 33, .binOp .add 3 (.tmp 32) (.const (.int .i64 1)) 3, 3, none⟩, ⟨some 34, .call { callee := .value (.func 66), args := #[.tmp 31, .tmp 33], argTypes := #[76, 3] }, 3, none⟩, ⟨some 35, .binOp .mul 3 (.tmp 28) (.tmp 34) 3, 3, none⟩, ⟨some 36, .binOp .add 3 (.tmp 27) (.tmp 35) 3, 3, none⟩, ⟨some 5, .assign (.tmp 36), 3, none⟩])))
    (.ops [⟨some 37, .binOp .add 3 (.tmp 22) (.const (.int .i64 1)) 3, 3, none⟩, ⟨some 22, .move (.tmp 37), 3, none⟩])))))))
    (.seq (.ops [⟨some 38, .move (.tmp 0), 117, none⟩, ⟨some 39, .nilCheck (.tmp 38), 0, none⟩, ⟨some 40, .fieldAddr 119 (.tmp 39) 0, 0, none⟩, ⟨some 41, .move (.tmp 1), 3, none⟩, ⟨some 42, .call { callee := .value (.func 67), args := #[.tmp 40, .tmp 41], argTypes := #[76, 3] }, 0, none⟩])
    (.seq (.ops [⟨some 43, .move (.tmp 5), 3, none⟩, ⟨some 44, .call { callee := .value (.func 45), args := #[.tmp 43], argTypes := #[3] }, 3, none⟩, ⟨some 45, .call { callee := .value (.func 44), args := #[.tmp 44], argTypes := #[3] }, 3, none⟩, ⟨some 4, .assign (.tmp 45), 3, none⟩])
    .ret)))))
def pl114 : Nat → Plan := fun _ => .done
theorem st114 : Go.Proofs.Try.f114.body.map (strip pl114) = some m114 := by kernel_rfl
theorem ok114 : okB pl114 Go.Proofs.Try.f114 2 = true := by kernel_rfl
theorem en114 {v0 v1 w} {Q : Value → World → Prop} (h : mwpB Go.Proofs.Try.prog m114 (argEnv [v0, v1]) [] w (fun e ds w => ds = [] ∧ resW Go.Proofs.Try.prog [.tmp 4] e w fun v => Q v w) (fun _ _ _ _ => False) (fun e ds w => ds = [] ∧ resW Go.Proofs.Try.prog [.tmp 4] e w fun v => Q v w) (fun _ _ _ => False) ⟨⟩) : Rets Go.Proofs.Try.prog 114 #[v0, v1] w Q :=
  rets_of_mwp follows_mo Go.Proofs.Try.func114 pl114 st114 ok114 (by kernel_rfl) h
/-- (*continuo/effect.gates).step -/
def m117 : MC := (.seq (.ops [⟨some 4, .assign (.const (.int .i64 0)), 3, none⟩])
    (.seq (.seq (.ops [⟨some 5, .move (.tmp 1), 3, none⟩, ⟨some 6, .move (.tmp 1), 3, none⟩, ⟨some 7, .unOp .neg 3 (.tmp 6), 3, none⟩, ⟨some 8, .call { callee := .builtin .max, args := #[.tmp 5, .tmp 7], argTypes := #[3, 3] }, 3, none⟩, ⟨some 9, .move (.tmp 0), 120, none⟩, ⟨some 10, .nilCheck (.tmp 9), 0, none⟩, ⟨some 11, .fieldAddr 122 (.tmp 10) 0, 0, none⟩, ⟨some 12, .load 3 (.tmp 11), 3, none⟩, ⟨some 13, .binOp .geq 3 (.tmp 8) (.tmp 12) 3, 4, none⟩])
    (.cond (.tmp 13) (.ops [⟨some 14, .move (.tmp 0), 120, none⟩, ⟨some 15, .nilCheck (.tmp 14), 0, none⟩, ⟨some 16, .fieldAddr 122 (.tmp 15) 2, 0, none⟩, ⟨none, .store 3 (.tmp 16) (.const (.int .i64 0)), 0, none⟩]) (.ops [⟨some 17, .move (.tmp 0), 120, none⟩, ⟨some 18, .move (.tmp 0), 120, none⟩, ⟨some 19, .nilCheck (.tmp 18), 0, none⟩, ⟨some 20, .fieldAddr 122 (.tmp 19) 2, 0, none⟩, ⟨some 21, .load 3 (.tmp 20), 3, none⟩, ⟨some 22, .binOp .add 3 (.tmp 21) (.const (.int .i64 1)) 3, 3, none⟩, ⟨some 23, .call { callee := .builtin .min, args := #[.tmp 22, .const (.int .i64 4097)], argTypes := #[3, 3] }, 3, none⟩, ⟨some 24, .nilCheck (.tmp 17), 0, none⟩, ⟨some 25, .fieldAddr 122 (.tmp 24) 2, 0, none⟩, ⟨none, .store 3 (.tmp 25) (.tmp 23), 0, none⟩])))
    (.seq (.seq (.draw (.take ⟨some 26, .move (.tmp 0), 120, none⟩ (.take ⟨some 27, .nilCheck (.tmp 26), 0, none⟩ (.take ⟨some 28, .fieldAddr 122 (.tmp 27) 2, 0, none⟩ (.take ⟨some 29, .load 3 (.tmp 28), 3, none⟩ (.take ⟨some 30, .move (.tmp 0), 120, none⟩ (.take ⟨some 31, .nilCheck (.tmp 30), 0, none⟩ (.take ⟨some 32, .fieldAddr 122 (.tmp 31) 1, 0, none⟩ (.take ⟨some 33, .load 3 (.tmp 32), 3, none⟩ (.take ⟨some 34, .binOp .gtr 3 (.tmp 29) (.tmp 33) 3, 4, none⟩ .done))))))))))
    (.cond (.tmp 34) (.seq (.ops [⟨some 4, .assign (.const (.int .i64 0)), 3, none⟩])
    .ret) .skip))
    (.seq (.ops [⟨some 35, .move (.tmp 1), 3, none⟩, ⟨some 4, .assign (.tmp 35), 3, none⟩])
    .ret))))
def pl117 : Nat → Plan := fun id => if id = 4 then (.take 0 (.take 1 (.take 2 (.take 3 (.take 4 (.take 5 (.take 6 (.take 7 (.take 8 .done))))))))) else .done
theorem st117 : Go.Proofs.Try.f117.body.map (strip pl117) = some m117 := by kernel_rfl
theorem ok117 : okB pl117 Go.Proofs.Try.f117 2 = true := by kernel_rfl
theorem en117 {v0 v1 w} {Q : Value → World → Prop} (h : mwpB Go.Proofs.Try.prog m117 (argEnv [v0, v1]) [] w (fun e ds w => ds = [] ∧ resW Go.Proofs.Try.prog [.tmp 4] e w fun v => Q v w) (fun _ _ _ _ => False) (fun e ds w => ds = [] ∧ resW Go.Proofs.Try.prog [.tmp 4] e w fun v => Q v w) (fun _ _ _ => False) ⟨⟩) : Rets Go.Proofs.Try.prog 117 #[v0, v1] w Q :=
  rets_of_mwp follows_mo Go.Proofs.Try.func117 pl117 st117 ok117 (by kernel_rfl) h
end Go.Proofs.Ytefcfnmmpnjjjaa
