/- The functions, stripped. -/
import Derived.Test.YtdkdibeimeaakabGreatDoorQsMwT
import Derived.Test.YtdkdibeimeaakabGreatDoorQsMwIn

namespace Go.Proofs.YtdkdibeimeaakabGreatDoor
open Go.RowKit
open Go.Operand renaming tmp → ZT
open Go.Proofs.Tryz renaming prog → ZP
set_option maxRecDepth 100000
def m5 : MC := (.seq (.ops [⟨some 8,.assign (.const (.bool false)),4,none⟩])
    (.seq (.seq (.ops [⟨some 18,.move (ZT 0),22,none⟩,⟨some 19,.call ⟨.builtin .len,#[ZT 18],#[22]⟩,3,none⟩,⟨some 20,.binOp .gtr 3 (ZT 19) (.const (.int .i64 310)) 3,4,none⟩,⟨some 21,.move (ZT 20),4,none⟩,⟨some 22,.move (ZT 1),22,some (some 21,false)⟩,⟨some 23,.call ⟨.builtin .len,#[ZT 22],#[22]⟩,3,some (some 21,false)⟩,⟨some 24,.binOp .gtr 3 (ZT 23) (.const (.int .i64 310)) 3,4,some (some 21,false)⟩,⟨some 25,.pick (ZT 21) (.const (.bool true)) (ZT 24),4,none⟩])
    (.cond (ZT 25) (.seq (.ops [⟨some 26,.call ⟨.value (.func 6),#[],#[]⟩,4,none⟩,⟨some 8,.assign (ZT 26),4,none⟩])
    .ret) .skip))
    (.seq (.ops [⟨some 28,.move (ZT 0),22,none⟩,⟨some 29,.move (ZT 1),22,none⟩,⟨some 30,.call ⟨.value (.func 21),#[ZT 28,ZT 29],#[22,22]⟩,42,none⟩,⟨some 27,.move (ZT 30),42,none⟩,⟨some 31,.extract (ZT 27) 0,22,none⟩,⟨some 32,.extract (ZT 27) 1,25,none⟩,⟨some 9,.assign (ZT 31),22,none⟩,⟨some 10,.assign (ZT 32),25,none⟩])
    (.seq (.ops [⟨some 34,.move (ZT 0),22,none⟩,⟨some 35,.move (ZT 1),22,none⟩,⟨some 36,.call ⟨.value (.func 22),#[ZT 34,ZT 35],#[22,22]⟩,42,none⟩,⟨some 33,.move (ZT 36),42,none⟩,⟨some 37,.extract (ZT 33) 0,22,none⟩,⟨some 38,.extract (ZT 33) 1,25,none⟩,⟨some 11,.assign (ZT 37),22,none⟩,⟨some 12,.assign (ZT 38),25,none⟩])
    (.seq (.ops [⟨some 40,.move (ZT 0),22,none⟩,⟨some 41,.move (ZT 2),3,none⟩,⟨some 42,.move (ZT 3),3,none⟩,⟨some 43,.call ⟨.value (.func 23),#[ZT 40,ZT 41,ZT 42],#[22,3,3]⟩,42,none⟩,⟨some 39,.move (ZT 43),42,none⟩,⟨some 44,.extract (ZT 39) 0,22,none⟩,⟨some 45,.extract (ZT 39) 1,25,none⟩,⟨some 13,.assign (ZT 44),22,none⟩,⟨some 14,.assign (ZT 45),25,none⟩])
    (.seq (.ops [⟨some 47,.move (ZT 0),22,none⟩,⟨some 48,.move (ZT 2),3,none⟩,⟨some 49,.move (ZT 3),3,none⟩,⟨some 50,.call ⟨.value (.func 24),#[ZT 47,ZT 48,ZT 49],#[22,3,3]⟩,42,none⟩,⟨some 46,.move (ZT 50),42,none⟩,⟨some 51,.extract (ZT 46) 0,22,none⟩,⟨some 52,.extract (ZT 46) 1,25,none⟩,⟨some 15,.assign (ZT 51),22,none⟩,⟨some 16,.assign (ZT 52),25,none⟩])
    (.seq (.seq (.ops [⟨some 53,.move (ZT 9),22,none⟩,⟨some 54,.move (ZT 11),22,none⟩,⟨some 55,.call ⟨.value (.func 11),#[ZT 53,ZT 54],#[22,22]⟩,4,none⟩,⟨some 56,.unOp .not 4 (ZT 55),4,none⟩,⟨some 57,.move (ZT 56),4,none⟩,⟨some 58,.move (ZT 10),25,some (some 57,false)⟩,⟨some 59,.move (ZT 12),25,some (some 57,false)⟩,⟨some 60,.binOp .neq 25 (ZT 58) (ZT 59) 25,4,some (some 57,false)⟩,⟨some 61,.pick (ZT 57) (.const (.bool true)) (ZT 60),4,none⟩,⟨some 62,.move (ZT 61),4,none⟩,⟨some 63,.move (ZT 13),22,some (some 62,false)⟩,⟨some 64,.move (ZT 15),22,some (some 62,false)⟩,⟨some 65,.call ⟨.value (.func 11),#[ZT 63,ZT 64],#[22,22]⟩,4,some (some 62,false)⟩,⟨some 66,.unOp .not 4 (ZT 65),4,some (some 62,false)⟩,⟨some 67,.pick (ZT 62) (.const (.bool true)) (ZT 66),4,none⟩,⟨some 68,.move (ZT 67),4,none⟩,⟨some 69,.move (ZT 14),25,some (some 68,false)⟩,⟨some 70,.move (ZT 16),25,some (some 68,false)⟩,⟨some 71,.binOp .neq 25 (ZT 69) (ZT 70) 25,4,some (some 68,false)⟩,⟨some 72,.pick (ZT 68) (.const (.bool true)) (ZT 71),4,none⟩])
    (.cond (ZT 72) (.seq (.ops [⟨some 8,.assign (.const (.bool false)),4,none⟩])
    .ret) .skip))
    (.seq (.seq (.ops [⟨some 73,.move (ZT 16),25,none⟩,⟨some 74,.binOp .neq 25 (ZT 73) (.const (.int .i64 0)) 25,4,none⟩])
    (.cond (ZT 74) (.seq (.ops [⟨some 75,.call ⟨.value (.func 6),#[],#[]⟩,4,none⟩,⟨some 8,.assign (ZT 75),4,none⟩])
    .ret) .skip))
    (.seq (.ops [⟨some 77,.move (ZT 13),22,none⟩,⟨some 78,.move (ZT 2),3,none⟩,⟨some 79,.unOp .neg 3 (ZT 78),3,none⟩,⟨some 80,.move (ZT 3),3,none⟩,⟨some 81,.call ⟨.value (.func 23),#[ZT 77,ZT 79,ZT 80],#[22,3,3]⟩,42,none⟩,⟨some 76,.move (ZT 81),42,none⟩,⟨some 82,.extract (ZT 76) 0,22,none⟩,⟨some 83,.extract (ZT 76) 1,25,none⟩,⟨some 17,.assign (ZT 82),22,none⟩,⟨some 10,.assign (ZT 83),25,none⟩])
    (.seq (.ops [⟨some 84,.move (ZT 10),25,none⟩,⟨some 85,.binOp .eql 25 (ZT 84) (.const (.int .i64 0)) 25,4,none⟩,⟨some 86,.move (ZT 85),4,none⟩,⟨some 87,.move (ZT 17),22,some (some 86,true)⟩,⟨some 88,.move (ZT 0),22,some (some 86,true)⟩,⟨some 89,.call ⟨.value (.func 11),#[ZT 87,ZT 88],#[22,22]⟩,4,some (some 86,true)⟩,⟨some 90,.pick (ZT 86) (ZT 89) (.const (.bool false)),4,none⟩,⟨some 91,.move (ZT 90),4,none⟩,⟨some 92,.call ⟨.value (.func 6),#[],#[]⟩,4,some (some 91,true)⟩,⟨some 93,.pick (ZT 91) (ZT 92) (.const (.bool false)),4,none⟩,⟨some 8,.assign (ZT 93),4,none⟩])
    .ret))))))))))
def pl5 : Nat → Plan := fun _ => .done
theorem st5 : Go.Proofs.Tryz.f5.body.map (strip pl5) = some m5 := by kernel_rfl
theorem ok5 : okB pl5 Go.Proofs.Tryz.f5 4 = true := by kernel_rfl
theorem en5 {v0 v1 v2 v3 w} {Q : Value → World → Prop} (h : mwpB ZP m5 (argEnv [v0, v1, v2, v3]) [] w (fun e ds w => ds = [] ∧ resW ZP [.tmp 8] e w fun v => Q v w) (fun _ _ _ _ => False) (fun e ds w => ds = [] ∧ resW ZP [.tmp 8] e w fun v => Q v w) (fun _ _ _ _ => False) ⟨⟩) : Rets ZP 5 #[v0, v1, v2, v3] w Q :=
  rets_of_mwp follows_mo Go.Proofs.Tryz.func5 pl5 st5 ok5 (by kernel_rfl) h
def m11 : MC := (.seq (.ops [⟨some 4,.assign (.const (.bool false)),4,none⟩])
    (.seq (.seq (.ops [⟨some 6,.move (ZT 0),22,none⟩,⟨some 7,.call ⟨.builtin .len,#[ZT 6],#[22]⟩,3,none⟩,⟨some 8,.move (ZT 1),22,none⟩,⟨some 9,.call ⟨.builtin .len,#[ZT 8],#[22]⟩,3,none⟩,⟨some 10,.binOp .neq 3 (ZT 7) (ZT 9) 3,4,none⟩])
    (.cond (ZT 10) (.seq (.ops [⟨some 4,.assign (.const (.bool false)),4,none⟩])
    .ret) .skip))
    (.seq (.seq (.ops [⟨some 5,.assign (.const (.int .i64 0)),3,none⟩])
    (.block 0 (.loop (.seq (.seq (.ops [⟨some 11,.move (ZT 5),3,none⟩,⟨some 12,.move (ZT 0),22,none⟩,⟨some 13,.call ⟨.builtin .len,#[ZT 12],#[22]⟩,3,none⟩,⟨some 14,.binOp .lss 3 (ZT 11) (ZT 13) 3,4,none⟩])
    (.cond (ZT 14) .skip (.exit 0)))
    (.seq (.block 1 (.seq (.draw (.take ⟨some 17,.move (ZT 0),22,none⟩ (.take ⟨some 18,.move (ZT 5),3,none⟩ (.take ⟨some 19,.indexAddr 22 (ZT 17) (ZT 18),0,none⟩ (.take ⟨some 20,.load 49 (ZT 19),49,none⟩ (.take ⟨some 21,.move (ZT 1),22,none⟩ (.take ⟨some 22,.move (ZT 5),3,none⟩ (.take ⟨some 23,.indexAddr 22 (ZT 21) (ZT 22),0,none⟩ (.take ⟨some 24,.load 49 (ZT 23),49,none⟩ (.take ⟨some 25,.binOp .neq 49 (ZT 20) (ZT 24) 49,4,none⟩ .done))))))))))
    (.cond (ZT 25) (.seq (.ops [⟨some 4,.assign (.const (.bool false)),4,none⟩])
    .ret) .skip)))
    (.ops [⟨some 15,.move (ZT 5),3,none⟩,⟨some 16,.binOp .add 3 (ZT 15) (.const (.int .i64 1)) 3,3,none⟩,⟨some 5,.assign (ZT 16),3,none⟩]))))))
    (.seq (.ops [⟨some 4,.assign (.const (.bool true)),4,none⟩])
    .ret))))
def pl11 : Nat → Plan := fun id => if id = 6 then (.take 0 (.take 1 (.take 2 (.take 3 (.take 4 (.take 5 (.take 6 (.take 7 (.take 8 .done))))))))) else .done
theorem st11 : Go.Proofs.Tryz.f11.body.map (strip pl11) = some m11 := by kernel_rfl
theorem ok11 : okB pl11 Go.Proofs.Tryz.f11 2 = true := by kernel_rfl
theorem en11 {v0 v1 w} {Q : Value → World → Prop} (h : mwpB ZP m11 (argEnv [v0, v1]) [] w (fun e ds w => ds = [] ∧ resW ZP [.tmp 4] e w fun v => Q v w) (fun _ _ _ _ => False) (fun e ds w => ds = [] ∧ resW ZP [.tmp 4] e w fun v => Q v w) (fun _ _ _ _ => False) ⟨⟩) : Rets ZP 11 #[v0, v1] w Q :=
  rets_of_mwp follows_mo Go.Proofs.Tryz.func11 pl11 st11 ok11 (by kernel_rfl) h
def m12 : MC := (.seq (.ops [⟨some 2,.assign (.const (.int .i64 0)),3,none⟩,⟨some 3,.assign (.const (.int .i64 0)),25,none⟩])
    (.seq (.seq (.ops [⟨some 6,.move (ZT 0),22,none⟩,⟨some 7,.call ⟨.builtin .len,#[ZT 6],#[22]⟩,3,none⟩,⟨some 8,.binOp .gtr 3 (ZT 7) (.const (.int .i64 300)) 3,4,none⟩])
    (.cond (ZT 8) (.seq (.ops [⟨some 2,.assign (.const (.int .i64 0)),3,none⟩,⟨some 3,.assign (.const (.int .i64 4)),25,none⟩])
    .ret) .skip))
    (.seq (.seq (.ops [⟨some 9,.move (ZT 0),22,none⟩,⟨some 10,.call ⟨.builtin .len,#[ZT 9],#[22]⟩,3,none⟩,⟨some 11,.move (.const (.int .i64 0)),3,none⟩])
    (.block 0 (.loop (.seq (.ops [⟨some 12,.binOp .lss 3 (ZT 11) (ZT 10) 3,0,none⟩])
    (.seq (.cond (ZT 12) .skip (.exit 0))
    (.seq (.block 1 (.seq (.ops [⟨some 13,.move (ZT 11),3,none⟩,⟨some 14,.indexAddr 22 (ZT 9) (ZT 11),0,none⟩,⟨some 15,.load 49 (ZT 14),49,none⟩,⟨some 5,.alloc 49,0,none⟩,⟨some 4,.assign (ZT 13),3,none⟩,⟨none,.store 49 (ZT 5) (ZT 15),0,none⟩])
    (.block 2 (.seq (.ops [⟨some 17,.fieldAddr 49 (ZT 5) 0,0,none⟩,⟨some 18,.load 3 (ZT 17),3,none⟩,⟨some 19,.fieldAddr 49 (ZT 5) 1,0,none⟩,⟨some 20,.load 3 (ZT 19),3,none⟩,⟨some 21,.call ⟨.value (.func 33),#[ZT 18,ZT 20],#[3,3]⟩,4,none⟩,⟨some 22,.unOp .not 4 (ZT 21),4,none⟩,⟨some 16,.assign (ZT 22),4,none⟩])
    (.cond (ZT 16) (.seq (.ops [⟨some 23,.move (ZT 4),3,none⟩,⟨some 2,.assign (ZT 23),3,none⟩,⟨some 3,.assign (.const (.int .i64 7)),25,none⟩])
    .ret) (.seq (.draw (.take ⟨some 25, .move (.tmp 4), 3, none⟩ (.take ⟨some 26, .binOp .gtr 3 (.tmp 25) (.const (.int .i64 0)) 3, 4, none⟩ (.take ⟨some 27, .move (.tmp 26), 4, none⟩ (.take ⟨some 28, .move (.tmp 0), 22, some (some 27, true)⟩ (.take ⟨some 29, .move (.tmp 4), 3, some (some 27, true)⟩ (.take ⟨some 30, .binOp .sub 3 (.tmp 29) (.const (.int .i64 1)) 3, 3, some (some 27, true)⟩ (.take ⟨some 31, .indexAddr 22 (.tmp 28) (.tmp 30), 0, some (some 27, true)⟩ (.take ⟨some 32, .load 49 (.tmp 31), 49, some (some 27, true)⟩ (.take ⟨some 34, .load 49 (.tmp 5), 49, some (some 27, true)⟩ (.alt ⟨some 33, .call ⟨.value (.func 34), #[.tmp 32], #[49]⟩, 3, some (some 27, true)⟩ (.alt ⟨some 35, .call ⟨.value (.func 34), #[.tmp 34], #[49]⟩, 3, some (some 27, true)⟩ (.take ⟨some 36, .binOp .gtr 3 (.tmp 33) (.tmp 35) 3, 4, some (some 27, true)⟩ (.take ⟨some 37, .pick (.tmp 27) (.tmp 36) (.const (.bool false)), 4, none⟩ (.take ⟨some 24, .assign (.tmp 37), 4, none⟩ .done))) .none) .none)))))))))))
    (.cond (ZT 24) (.seq (.ops [⟨some 38,.move (ZT 4),3,none⟩,⟨some 2,.assign (ZT 38),3,none⟩,⟨some 3,.assign (.const (.int .i64 9)),25,none⟩])
    .ret) (.seq (.ops [⟨some 40, .fieldAddr 49 (.tmp 5) 2, 0, none⟩, ⟨some 41, .fieldAddr 40 (.tmp 40) 0, 0, none⟩, ⟨some 42, .load 3 (.tmp 41), 3, none⟩, ⟨some 43, .binOp .neq 3 (.tmp 42) (.const (.int .i64 0)) 3, 4, none⟩, ⟨some 44, .move (.tmp 43), 4, none⟩, ⟨some 45, .fieldAddr 49 (.tmp 5) 2, 0, some (some 44, false)⟩, ⟨some 46, .load 40 (.tmp 45), 40, some (some 44, false)⟩, ⟨some 47, .call ⟨.value (.func 35), #[.tmp 46], #[40]⟩, 4, some (some 44, false)⟩, ⟨some 48, .unOp .not 4 (.tmp 47), 4, some (some 44, false)⟩, ⟨some 49, .pick (.tmp 44) (.const (.bool true)) (.tmp 48), 4, none⟩, ⟨some 39, .assign (.tmp 49), 4, none⟩])
    (.cond (ZT 39) (.seq (.ops [⟨some 50,.move (ZT 4),3,none⟩,⟨some 2,.assign (ZT 50),3,none⟩,⟨some 3,.assign (.const (.int .i64 1)),25,none⟩])
    .ret) (.seq (.ops [⟨some 52, .fieldAddr 49 (.tmp 5) 3, 0, none⟩, ⟨some 53, .load 4 (.tmp 52), 4, none⟩, ⟨some 54, .move (.tmp 53), 4, none⟩, ⟨some 55, .fieldAddr 49 (.tmp 5) 2, 0, some (some 54, true)⟩, ⟨some 56, .fieldAddr 40 (.tmp 55) 1, 0, some (some 54, true)⟩, ⟨some 57, .load 3 (.tmp 56), 3, some (some 54, true)⟩, ⟨some 58, .binOp .neq 3 (.tmp 57) (.const (.int .i64 4)) 3, 4, some (some 54, true)⟩, ⟨some 59, .pick (.tmp 54) (.tmp 58) (.const (.bool false)), 4, none⟩, ⟨some 51, .assign (.tmp 59), 4, none⟩])
    (.cond (ZT 51) (.seq (.ops [⟨some 60,.move (ZT 4),3,none⟩,⟨some 2,.assign (ZT 60),3,none⟩,⟨some 3,.assign (.const (.int .i64 10)),25,none⟩])
    .ret) .skip)))))))))))
    (.ops [⟨some 61,.binOp .add 3 (ZT 11) (.const (.int .i64 1)) 3,3,none⟩,⟨some 11,.move (ZT 61),3,none⟩])))))))
    (.seq (.ops [⟨some 2,.assign (.const (.int .i64 (-1))),3,none⟩,⟨some 3,.assign (.const (.int .i64 0)),25,none⟩])
    .ret))))
def pl12 : Nat → Plan := fun id => if id = 8 then (.take 0 (.take 1 (.take 2 (.take 3 (.take 4 (.take 5 (.take 6 (.take 7 (.take 9 (.alt 8 (.alt 10 (.take 11 (.take 12 (.take 13 .done))) .none) .none)))))))))) else .done
theorem st12 : Go.Proofs.Tryz.f12.body.map (strip pl12) = some m12 := by kernel_rfl
theorem ok12 : okB pl12 Go.Proofs.Tryz.f12 1 = true := by kernel_rfl
theorem en12 {v0 w} {Q : Value → World → Prop} (h : mwpB ZP m12 (argEnv [v0]) [] w (fun e ds w => ds = [] ∧ resW ZP [.tmp 2, .tmp 3] e w fun v => Q v w) (fun _ _ _ _ => False) (fun e ds w => ds = [] ∧ resW ZP [.tmp 2, .tmp 3] e w fun v => Q v w) (fun _ _ _ _ => False) ⟨⟩) : Rets ZP 12 #[v0] w Q :=
  rets_of_mwp follows_mo Go.Proofs.Tryz.func12 pl12 st12 ok12 (by kernel_rfl) h
def m13 : MC := (.seq (.ops [⟨some 2,.assign (.const (.int .i64 0)),3,none⟩,⟨some 3,.assign (.const (.int .i64 0)),25,none⟩])
    (.seq (.seq (.ops [⟨some 6,.move (ZT 0),22,none⟩,⟨some 7,.call ⟨.builtin .len,#[ZT 6],#[22]⟩,3,none⟩,⟨some 8,.binOp .gtr 3 (ZT 7) (.const (.int .i64 300)) 3,4,none⟩])
    (.cond (ZT 8) (.seq (.ops [⟨some 2,.assign (.const (.int .i64 0)),3,none⟩,⟨some 3,.assign (.const (.int .i64 4)),25,none⟩])
    .ret) .skip))
    (.seq (.seq (.ops [⟨some 4,.assign (.const (.int .i64 0)),3,none⟩])
    (.block 0 (.loop (.seq (.seq (.ops [⟨some 9,.move (ZT 4),3,none⟩,⟨some 10,.move (ZT 0),22,none⟩,⟨some 11,.call ⟨.builtin .len,#[ZT 10],#[22]⟩,3,none⟩,⟨some 12,.binOp .lss 3 (ZT 9) (ZT 11) 3,4,none⟩])
    (.cond (ZT 12) .skip (.exit 0)))
    (.seq (.block 1 (.seq (.ops [⟨some 15,.move (ZT 0),22,none⟩,⟨some 16,.move (ZT 4),3,none⟩,⟨some 17,.indexAddr 22 (ZT 15) (ZT 16),0,none⟩,⟨some 18,.load 49 (ZT 17),49,none⟩,⟨some 19,.call ⟨.value (.func 36),#[ZT 18],#[49]⟩,25,none⟩,⟨some 5,.assign (ZT 19),25,none⟩])
    (.seq (.seq (.draw (.take ⟨some 20,.move (ZT 5),25,none⟩ (.take ⟨some 21,.binOp .neq 25 (ZT 20) (.const (.int .i64 7)) 25,4,none⟩ (.take ⟨some 22,.move (ZT 21),4,none⟩ (.take ⟨some 23,.move (ZT 4),3,some (some 22,true)⟩ (.take ⟨some 24,.binOp .gtr 3 (ZT 23) (.const (.int .i64 0)) 3,4,some (some 22,true)⟩ (.take ⟨some 25,.pick (ZT 22) (ZT 24) (.const (.bool false)),4,none⟩ (.take ⟨some 26,.move (ZT 25),4,none⟩ (.take ⟨some 27,.move (ZT 0),22,some (some 26,true)⟩ (.take ⟨some 28,.move (ZT 4),3,some (some 26,true)⟩ (.take ⟨some 29,.indexAddr 22 (ZT 27) (ZT 28),0,some (some 26,true)⟩ (.take ⟨some 30,.load 49 (ZT 29),49,some (some 26,true)⟩ (.take ⟨some 31,.move (ZT 0),22,some (some 26,true)⟩ (.take ⟨some 32,.move (ZT 4),3,some (some 26,true)⟩ (.take ⟨some 33,.binOp .sub 3 (ZT 32) (.const (.int .i64 1)) 3,3,some (some 26,true)⟩ (.take ⟨some 34,.indexAddr 22 (ZT 31) (ZT 33),0,some (some 26,true)⟩ (.take ⟨some 35,.load 49 (ZT 34),49,some (some 26,true)⟩ (.alt ⟨some 36,.call ⟨.value (.func 37),#[ZT 30,ZT 35],#[49,49]⟩,4,some (some 26,true)⟩ (.take ⟨some 37,.pick (ZT 26) (ZT 36) (.const (.bool false)),4,none⟩ .done) .none))))))))))))))))))
    (.cond (ZT 37) (.ops [⟨some 5,.assign (.const (.int .i64 9)),25,none⟩]) .skip))
    (.seq (.ops [⟨some 38,.move (ZT 5),25,none⟩,⟨some 39,.binOp .neq 25 (ZT 38) (.const (.int .i64 0)) 25,4,none⟩])
    (.cond (ZT 39) (.seq (.ops [⟨some 40,.move (ZT 4),3,none⟩,⟨some 41,.move (ZT 5),25,none⟩,⟨some 2,.assign (ZT 40),3,none⟩,⟨some 3,.assign (ZT 41),25,none⟩])
    .ret) .skip)))))
    (.ops [⟨some 13,.move (ZT 4),3,none⟩,⟨some 14,.binOp .add 3 (ZT 13) (.const (.int .i64 1)) 3,3,none⟩,⟨some 4,.assign (ZT 14),3,none⟩]))))))
    (.seq (.ops [⟨some 2,.assign (.const (.int .i64 (-1))),3,none⟩,⟨some 3,.assign (.const (.int .i64 0)),25,none⟩])
    .ret))))
def pl13 : Nat → Plan := fun id => if id = 7 then (.take 0 (.take 1 (.take 2 (.take 3 (.take 4 (.take 5 (.take 6 (.take 7 (.take 8 (.take 9 (.take 10 (.take 11 (.take 12 (.take 13 (.take 14 (.take 15 (.alt 16 (.take 17 .done) .none))))))))))))))))) else .done
theorem st13 : Go.Proofs.Tryz.f13.body.map (strip pl13) = some m13 := by kernel_rfl
theorem ok13 : okB pl13 Go.Proofs.Tryz.f13 1 = true := by kernel_rfl
theorem en13 {v0 w} {Q : Value → World → Prop} (h : mwpB ZP m13 (argEnv [v0]) [] w (fun e ds w => ds = [] ∧ resW ZP [.tmp 2, .tmp 3] e w fun v => Q v w) (fun _ _ _ _ => False) (fun e ds w => ds = [] ∧ resW ZP [.tmp 2, .tmp 3] e w fun v => Q v w) (fun _ _ _ _ => False) ⟨⟩) : Rets ZP 13 #[v0] w Q :=
  rets_of_mwp follows_mo Go.Proofs.Tryz.func13 pl13 st13 ok13 (by kernel_rfl) h
def m14 : MC := (.seq (.ops [⟨some 2,.assign (.const (.bool false)),4,none⟩])
    (.seq (.ops [⟨some 6,.move (ZT 0),22,none⟩,⟨some 7,.call ⟨.value (.func 12),#[ZT 6],#[22]⟩,31,none⟩,⟨some 5,.move (ZT 7),31,none⟩,⟨some 8,.extract (ZT 5) 0,3,none⟩,⟨some 9,.extract (ZT 5) 1,25,none⟩,⟨some 3,.assign (ZT 8),3,none⟩,⟨some 4,.assign (ZT 9),25,none⟩])
    (.seq (.ops [⟨some 10,.move (ZT 4),25,none⟩,⟨some 11,.binOp .eql 25 (ZT 10) (.const (.int .i64 0)) 25,4,none⟩,⟨some 2,.assign (ZT 11),4,none⟩])
    .ret)))
def pl14 : Nat → Plan := fun _ => .done
theorem st14 : Go.Proofs.Tryz.f14.body.map (strip pl14) = some m14 := by kernel_rfl
theorem ok14 : okB pl14 Go.Proofs.Tryz.f14 1 = true := by kernel_rfl
theorem en14 {v0 w} {Q : Value → World → Prop} (h : mwpB ZP m14 (argEnv [v0]) [] w (fun e ds w => ds = [] ∧ resW ZP [.tmp 2] e w fun v => Q v w) (fun _ _ _ _ => False) (fun e ds w => ds = [] ∧ resW ZP [.tmp 2] e w fun v => Q v w) (fun _ _ _ _ => False) ⟨⟩) : Rets ZP 14 #[v0] w Q :=
  rets_of_mwp follows_mo Go.Proofs.Tryz.func14 pl14 st14 ok14 (by kernel_rfl) h
def m15 : MC := (.seq (.ops [⟨some 2,.assign (.const (.bool false)),4,none⟩])
    (.seq (.ops [⟨some 6,.move (ZT 0),22,none⟩,⟨some 7,.call ⟨.value (.func 13),#[ZT 6],#[22]⟩,31,none⟩,⟨some 5,.move (ZT 7),31,none⟩,⟨some 8,.extract (ZT 5) 0,3,none⟩,⟨some 9,.extract (ZT 5) 1,25,none⟩,⟨some 3,.assign (ZT 8),3,none⟩,⟨some 4,.assign (ZT 9),25,none⟩])
    (.seq (.ops [⟨some 10,.move (ZT 4),25,none⟩,⟨some 11,.binOp .eql 25 (ZT 10) (.const (.int .i64 0)) 25,4,none⟩,⟨some 2,.assign (ZT 11),4,none⟩])
    .ret)))
def pl15 : Nat → Plan := fun _ => .done
theorem st15 : Go.Proofs.Tryz.f15.body.map (strip pl15) = some m15 := by kernel_rfl
theorem ok15 : okB pl15 Go.Proofs.Tryz.f15 1 = true := by kernel_rfl
theorem en15 {v0 w} {Q : Value → World → Prop} (h : mwpB ZP m15 (argEnv [v0]) [] w (fun e ds w => ds = [] ∧ resW ZP [.tmp 2] e w fun v => Q v w) (fun _ _ _ _ => False) (fun e ds w => ds = [] ∧ resW ZP [.tmp 2] e w fun v => Q v w) (fun _ _ _ _ => False) ⟨⟩) : Rets ZP 15 #[v0] w Q :=
  rets_of_mwp follows_mo Go.Proofs.Tryz.func15 pl15 st15 ok15 (by kernel_rfl) h
def m21 : MC := (.seq (.ops [⟨some 4,.assign (.const (.slice none 0 0)),22,none⟩,⟨some 5,.assign (.const (.int .i64 0)),25,none⟩])
    (.seq (.block 0 (.seq (.ops [⟨some 7,.move (ZT 0),22,none⟩,⟨some 8,.call ⟨.value (.func 14),#[ZT 7],#[22]⟩,4,none⟩,⟨some 9,.unOp .not 4 (ZT 8),4,none⟩,⟨some 10,.move (ZT 9),4,none⟩,⟨some 11,.move (ZT 1),22,some (some 10,false)⟩,⟨some 12,.call ⟨.value (.func 14),#[ZT 11],#[22]⟩,4,some (some 10,false)⟩,⟨some 13,.unOp .not 4 (ZT 12),4,some (some 10,false)⟩,⟨some 14,.pick (ZT 10) (.const (.bool true)) (ZT 13),4,none⟩,⟨some 6,.assign (ZT 14),4,none⟩])
    (.cond (ZT 6) (.seq (.ops [⟨some 4,.assign (.const (.slice none 0 0)),22,none⟩,⟨some 5,.assign (.const (.int .i64 1)),25,none⟩])
    .ret) (.seq (.ops [⟨some 16, .move (.tmp 0), 22, none⟩, ⟨some 17, .call ⟨.builtin .len, #[.tmp 16], #[22]⟩, 3, none⟩, ⟨some 18, .move (.tmp 1), 22, none⟩, ⟨some 19, .call ⟨.builtin .len, #[.tmp 18], #[22]⟩, 3, none⟩, ⟨some 20, .binOp .add 3 (.tmp 17) (.tmp 19) 3, 3, none⟩, ⟨some 21, .binOp .gtr 3 (.tmp 20) (.const (.int .i64 300)) 3, 4, none⟩, ⟨some 15, .assign (.tmp 21), 4, none⟩])
    (.cond (ZT 15) (.seq (.ops [⟨some 4,.assign (.const (.slice none 0 0)),22,none⟩,⟨some 5,.assign (.const (.int .i64 4)),25,none⟩])
    .ret) .skip)))))
    (.seq (.ops [⟨some 22,.move (ZT 0),22,none⟩,⟨some 23,.move (ZT 1),22,none⟩,⟨some 24,.call ⟨.value (.func 45),#[ZT 22,ZT 23,.func 46],#[22,22,67]⟩,22,none⟩,⟨some 4,.assign (ZT 24),22,none⟩,⟨some 5,.assign (.const (.int .i64 0)),25,none⟩])
    .ret)))
def pl21 : Nat → Plan := fun _ => .done
theorem st21 : Go.Proofs.Tryz.f21.body.map (strip pl21) = some m21 := by kernel_rfl
theorem ok21 : okB pl21 Go.Proofs.Tryz.f21 2 = true := by kernel_rfl
theorem en21 {v0 v1 w} {Q : Value → World → Prop} (h : mwpB ZP m21 (argEnv [v0, v1]) [] w (fun e ds w => ds = [] ∧ resW ZP [.tmp 4, .tmp 5] e w fun v => Q v w) (fun _ _ _ _ => False) (fun e ds w => ds = [] ∧ resW ZP [.tmp 4, .tmp 5] e w fun v => Q v w) (fun _ _ _ _ => False) ⟨⟩) : Rets ZP 21 #[v0, v1] w Q :=
  rets_of_mwp follows_mo Go.Proofs.Tryz.func21 pl21 st21 ok21 (by kernel_rfl) h
def m22 : MC := (.seq (.ops [⟨some 4,.assign (.const (.slice none 0 0)),22,none⟩,⟨some 5,.assign (.const (.int .i64 0)),25,none⟩])
    (.seq (.block 0 (.seq (.ops [⟨some 9,.move (ZT 0),22,none⟩,⟨some 10,.call ⟨.value (.func 15),#[ZT 9],#[22]⟩,4,none⟩,⟨some 11,.unOp .not 4 (ZT 10),4,none⟩,⟨some 12,.move (ZT 11),4,none⟩,⟨some 13,.move (ZT 1),22,some (some 12,false)⟩,⟨some 14,.call ⟨.value (.func 15),#[ZT 13],#[22]⟩,4,some (some 12,false)⟩,⟨some 15,.unOp .not 4 (ZT 14),4,some (some 12,false)⟩,⟨some 16,.pick (ZT 12) (.const (.bool true)) (ZT 15),4,none⟩,⟨some 8,.assign (ZT 16),4,none⟩])
    (.cond (ZT 8) (.seq (.ops [⟨some 4,.assign (.const (.slice none 0 0)),22,none⟩,⟨some 5,.assign (.const (.int .i64 1)),25,none⟩])
    .ret) (.seq (.ops [⟨some 18, .move (.tmp 0), 22, none⟩, ⟨some 19, .call ⟨.builtin .len, #[.tmp 18], #[22]⟩, 3, none⟩, ⟨some 20, .move (.tmp 1), 22, none⟩, ⟨some 21, .call ⟨.builtin .len, #[.tmp 20], #[22]⟩, 3, none⟩, ⟨some 22, .binOp .add 3 (.tmp 19) (.tmp 21) 3, 3, none⟩, ⟨some 23, .binOp .gtr 3 (.tmp 22) (.const (.int .i64 300)) 3, 4, none⟩, ⟨some 17, .assign (.tmp 23), 4, none⟩])
    (.cond (ZT 17) (.seq (.ops [⟨some 4,.assign (.const (.slice none 0 0)),22,none⟩,⟨some 5,.assign (.const (.int .i64 4)),25,none⟩])
    .ret) .skip)))))
    (.seq (.ops [⟨some 24,.buildSlice 22 0 #[],22,none⟩,⟨some 25,.move (ZT 0),22,none⟩,⟨some 26,.call ⟨.builtin .append,#[ZT 24,ZT 25],#[22,22]⟩,22,none⟩,⟨some 6,.assign (ZT 26),22,none⟩])
    (.seq (.seq (.ops [⟨some 7,.assign (.const (.int .i64 0)),3,none⟩])
    (.block 1 (.loop (.seq (.seq (.ops [⟨some 27,.move (ZT 7),3,none⟩,⟨some 28,.move (ZT 1),22,none⟩,⟨some 29,.call ⟨.builtin .len,#[ZT 28],#[22]⟩,3,none⟩,⟨some 30,.binOp .lss 3 (ZT 27) (ZT 29) 3,4,none⟩])
    (.cond (ZT 30) .skip (.exit 1)))
    (.seq (.block 2 (.ops [⟨some 33,.move (ZT 6),22,none⟩,⟨some 34,.move (ZT 1),22,none⟩,⟨some 35,.move (ZT 7),3,none⟩,⟨some 36,.indexAddr 22 (ZT 34) (ZT 35),0,none⟩,⟨some 37,.load 49 (ZT 36),49,none⟩,⟨some 38,.call ⟨.value (.func 47),#[ZT 33,ZT 37],#[22,49]⟩,22,none⟩,⟨some 6,.assign (ZT 38),22,none⟩]))
    (.ops [⟨some 31,.move (ZT 7),3,none⟩,⟨some 32,.binOp .add 3 (ZT 31) (.const (.int .i64 1)) 3,3,none⟩,⟨some 7,.assign (ZT 32),3,none⟩]))))))
    (.seq (.ops [⟨some 39,.move (ZT 6),22,none⟩,⟨some 4,.assign (ZT 39),22,none⟩,⟨some 5,.assign (.const (.int .i64 0)),25,none⟩])
    .ret)))))
def pl22 : Nat → Plan := fun _ => .done
theorem st22 : Go.Proofs.Tryz.f22.body.map (strip pl22) = some m22 := by kernel_rfl
theorem ok22 : okB pl22 Go.Proofs.Tryz.f22 2 = true := by kernel_rfl
theorem en22 {v0 v1 w} {Q : Value → World → Prop} (h : mwpB ZP m22 (argEnv [v0, v1]) [] w (fun e ds w => ds = [] ∧ resW ZP [.tmp 4, .tmp 5] e w fun v => Q v w) (fun _ _ _ _ => False) (fun e ds w => ds = [] ∧ resW ZP [.tmp 4, .tmp 5] e w fun v => Q v w) (fun _ _ _ _ => False) ⟨⟩) : Rets ZP 22 #[v0, v1] w Q :=
  rets_of_mwp follows_mo Go.Proofs.Tryz.func22 pl22 st22 ok22 (by kernel_rfl) h
def m23 : MC := (.seq (.ops [⟨some 6,.assign (.const (.slice none 0 0)),22,none⟩,⟨some 7,.assign (.const (.int .i64 0)),25,none⟩])
    (.seq (.block 0 (.seq (.ops [⟨some 14,.move (ZT 0),22,none⟩,⟨some 15,.call ⟨.value (.func 14),#[ZT 14],#[22]⟩,4,none⟩,⟨some 16,.unOp .not 4 (ZT 15),4,none⟩,⟨some 13,.assign (ZT 16),4,none⟩])
    (.cond (ZT 13) (.seq (.ops [⟨some 6,.assign (.const (.slice none 0 0)),22,none⟩,⟨some 7,.assign (.const (.int .i64 1)),25,none⟩])
    .ret) (.seq (.ops [⟨some 18, .move (.tmp 1), 3, none⟩, ⟨some 19, .call ⟨.value (.func 48), #[.tmp 18, .const (.int .i64 (-1000000)), .const (.int .i64 1000000)], #[3, 3, 3]⟩, 4, none⟩, ⟨some 20, .unOp .not 4 (.tmp 19), 4, none⟩, ⟨some 21, .move (.tmp 20), 4, none⟩, ⟨some 22, .move (.tmp 2), 3, some (some 21, false)⟩, ⟨some 23, .binOp .lss 3 (.tmp 22) (.const (.int .i64 1)) 3, 4, some (some 21, false)⟩, ⟨some 24, .pick (.tmp 21) (.const (.bool true)) (.tmp 23), 4, none⟩, ⟨some 17, .assign (.tmp 24), 4, none⟩])
    (.cond (ZT 17) (.seq (.ops [⟨some 6,.assign (.const (.slice none 0 0)),22,none⟩,⟨some 7,.assign (.const (.int .i64 7)),25,none⟩])
    .ret) .skip)))))
    (.seq (.ops [⟨some 25,.move (ZT 2),3,none⟩,⟨some 26,.move (ZT 1),3,none⟩,⟨some 27,.move (ZT 1),3,none⟩,⟨some 28,.unOp .neg 3 (ZT 27),3,none⟩,⟨some 29,.call ⟨.builtin .max,#[ZT 26,ZT 28],#[3,3]⟩,3,none⟩,⟨some 30,.call ⟨.value (.func 49),#[ZT 25,ZT 29],#[3,3]⟩,3,none⟩,⟨some 8,.assign (ZT 30),3,none⟩])
    (.seq (.draw (.take ⟨some 31,.move (ZT 1),3,none⟩ (.take ⟨some 32,.move (ZT 8),3,none⟩ (.take ⟨some 33,.binOp .quo 3 (ZT 31) (ZT 32) 3,3,none⟩ (.take ⟨some 34,.move (ZT 2),3,none⟩ (.take ⟨some 35,.move (ZT 8),3,none⟩ (.take ⟨some 36,.binOp .quo 3 (ZT 34) (ZT 35) 3,3,none⟩ (.take ⟨some 1,.assign (ZT 33),3,none⟩ (.take ⟨some 2,.assign (ZT 36),3,none⟩ .done)))))))))
    (.seq (.seq (.ops [⟨some 37,.move (ZT 0),22,none⟩,⟨some 38,.call ⟨.builtin .len,#[ZT 37],#[22]⟩,3,none⟩,⟨some 39,.move (.const (.int .i64 0)),3,none⟩])
    (.block 1 (.loop (.seq (.ops [⟨some 40,.binOp .lss 3 (ZT 39) (ZT 38) 3,0,none⟩])
    (.seq (.cond (ZT 40) .skip (.exit 1))
    (.seq (.block 2 (.seq (.ops [⟨some 41,.indexAddr 22 (ZT 37) (ZT 39),0,none⟩,⟨some 42,.load 49 (ZT 41),49,none⟩,⟨some 10,.alloc 49,0,none⟩,⟨none,.store 49 (ZT 10) (ZT 42),0,none⟩])
    (.seq (.seq (.ops [⟨some 43,.move (ZT 2),3,none⟩,⟨some 44,.binOp .rem 3 (.const (.int .i64 960)) (ZT 43) 3,3,none⟩,⟨some 45,.binOp .neq 3 (ZT 44) (.const (.int .i64 0)) 3,4,none⟩])
    (.cond (ZT 45) (.seq (.ops [⟨some 6,.assign (.const (.slice none 0 0)),22,none⟩,⟨some 7,.assign (.const (.int .i64 7)),25,none⟩])
    .ret) .skip))
    (.seq (.draw (.take ⟨some 46,.load 49 (ZT 10),49,none⟩ (.take ⟨some 48,.move (ZT 1),3,none⟩ (.take ⟨some 49,.move (ZT 2),3,none⟩ (.take ⟨some 50,.binOp .quo 3 (.const (.int .i64 960)) (ZT 49) 3,3,none⟩ (.take ⟨some 51,.binOp .mul 3 (ZT 48) (ZT 50) 3,3,none⟩ (.alt ⟨some 47,.call ⟨.value (.func 34),#[ZT 46],#[49]⟩,3,none⟩ (.take ⟨some 52,.binOp .add 3 (ZT 47) (ZT 51) 3,3,none⟩ (.take ⟨some 11,.assign (ZT 52),3,none⟩ .done)) .none)))))))
    (.seq (.ops [⟨some 53,.move (ZT 11),3,none⟩,⟨some 54,.move (ZT 11),3,none⟩,⟨some 55,.unOp .neg 3 (ZT 54),3,none⟩,⟨some 56,.call ⟨.builtin .max,#[ZT 53,ZT 55],#[3,3]⟩,3,none⟩,⟨some 57,.call ⟨.value (.func 49),#[.const (.int .i64 960),ZT 56],#[3,3]⟩,3,none⟩,⟨some 12,.assign (ZT 57),3,none⟩])
    (.seq (.draw (.take ⟨some 58,.move (ZT 11),3,none⟩ (.take ⟨some 59,.move (ZT 12),3,none⟩ (.take ⟨some 60,.binOp .quo 3 (ZT 58) (ZT 59) 3,3,none⟩ (.take ⟨some 61,.move (ZT 12),3,none⟩ (.take ⟨some 62,.binOp .quo 3 (.const (.int .i64 960)) (ZT 61) 3,3,none⟩ (.take ⟨some 63,.fieldAddr 49 (ZT 10) 0,0,none⟩ (.altL ⟨none,.store 3 (ZT 63) (ZT 60),0,none⟩ (.take ⟨some 64,.fieldAddr 49 (ZT 10) 1,0,none⟩ (.altL ⟨none,.store 3 (ZT 64) (ZT 62),0,none⟩ .done .none)) .none))))))))
    (.seq (.seq (.ops [⟨some 65,.fieldAddr 49 (ZT 10) 0,0,none⟩,⟨some 66,.load 3 (ZT 65),3,none⟩,⟨some 67,.fieldAddr 49 (ZT 10) 1,0,none⟩,⟨some 68,.load 3 (ZT 67),3,none⟩,⟨some 69,.call ⟨.value (.func 33),#[ZT 66,ZT 68],#[3,3]⟩,4,none⟩,⟨some 70,.unOp .not 4 (ZT 69),4,none⟩])
    (.cond (ZT 70) (.seq (.ops [⟨some 6,.assign (.const (.slice none 0 0)),22,none⟩,⟨some 7,.assign (.const (.int .i64 7)),25,none⟩])
    .ret) .skip))
    (.ops [⟨some 71,.move (ZT 6),22,none⟩,⟨some 72,.load 49 (ZT 10),49,none⟩,⟨some 73,.buildSlice 22 1 #[(0,ZT 72)],22,none⟩,⟨some 74,.call ⟨.builtin .append,#[ZT 71,ZT 73],#[22,22]⟩,22,none⟩,⟨some 6,.assign (ZT 74),22,none⟩]))))))))
    (.ops [⟨some 75,.binOp .add 3 (ZT 39) (.const (.int .i64 1)) 3,3,none⟩,⟨some 39,.move (ZT 75),3,none⟩])))))))
    (.seq (.ops [⟨some 76,.move (ZT 6),22,none⟩,⟨some 6,.assign (ZT 76),22,none⟩,⟨some 7,.assign (.const (.int .i64 0)),25,none⟩])
    .ret))))))
def pl23 : Nat → Plan := fun id => if id = 6 then (.take 0 (.take 1 (.take 2 (.take 3 (.take 4 (.take 5 (.take 6 (.take 7 .done)))))))) else if id = 12 then (.take 0 (.take 2 (.take 3 (.take 4 (.take 5 (.alt 1 (.take 6 (.take 7 .done)) .none)))))) else if id = 14 then (.take 0 (.take 1 (.take 2 (.take 3 (.take 4 (.take 5 (.altL 6 (.take 7 (.altL 8 .done .none)) .none))))))) else .done
theorem st23 : Go.Proofs.Tryz.f23.body.map (strip pl23) = some m23 := by kernel_rfl
theorem ok23 : okB pl23 Go.Proofs.Tryz.f23 3 = true := by kernel_rfl
theorem en23 {v0 v1 v2 w} {Q : Value → World → Prop} (h : mwpB ZP m23 (argEnv [v0, v1, v2]) [] w (fun e ds w => ds = [] ∧ resW ZP [.tmp 6, .tmp 7] e w fun v => Q v w) (fun _ _ _ _ => False) (fun e ds w => ds = [] ∧ resW ZP [.tmp 6, .tmp 7] e w fun v => Q v w) (fun _ _ _ _ => False) ⟨⟩) : Rets ZP 23 #[v0, v1, v2] w Q :=
  rets_of_mwp follows_mo Go.Proofs.Tryz.func23 pl23 st23 ok23 (by kernel_rfl) h
def m24 : MC := (.seq (.ops [⟨some 6,.assign (.const (.slice none 0 0)),22,none⟩,⟨some 7,.assign (.const (.int .i64 0)),25,none⟩])
    (.seq (.block 0 (.seq (.ops [⟨some 16,.move (ZT 0),22,none⟩,⟨some 17,.call ⟨.value (.func 15),#[ZT 16],#[22]⟩,4,none⟩,⟨some 18,.unOp .not 4 (ZT 17),4,none⟩,⟨some 15,.assign (ZT 18),4,none⟩])
    (.cond (ZT 15) (.seq (.ops [⟨some 6,.assign (.const (.slice none 0 0)),22,none⟩,⟨some 7,.assign (.const (.int .i64 1)),25,none⟩])
    .ret) (.seq (.ops [⟨some 20, .move (.tmp 1), 3, none⟩, ⟨some 21, .binOp .lss 3 (.tmp 20) (.const (.int .i64 (-1000000))) 3, 4, none⟩, ⟨some 22, .move (.tmp 21), 4, none⟩, ⟨some 23, .move (.tmp 1), 3, some (some 22, false)⟩, ⟨some 24, .binOp .gtr 3 (.tmp 23) (.const (.int .i64 1000000)) 3, 4, some (some 22, false)⟩, ⟨some 25, .pick (.tmp 22) (.const (.bool true)) (.tmp 24), 4, none⟩, ⟨some 26, .move (.tmp 25), 4, none⟩, ⟨some 27, .move (.tmp 2), 3, some (some 26, false)⟩, ⟨some 28, .binOp .lss 3 (.tmp 27) (.const (.int .i64 1)) 3, 4, some (some 26, false)⟩, ⟨some 29, .pick (.tmp 26) (.const (.bool true)) (.tmp 28), 4, none⟩, ⟨some 19, .assign (.tmp 29), 4, none⟩])
    (.cond (ZT 19) (.seq (.ops [⟨some 6,.assign (.const (.slice none 0 0)),22,none⟩,⟨some 7,.assign (.const (.int .i64 7)),25,none⟩])
    .ret) .skip)))))
    (.seq (.ops [⟨some 30,.move (ZT 2),3,none⟩,⟨some 31,.move (ZT 1),3,none⟩,⟨some 32,.move (ZT 1),3,none⟩,⟨some 33,.unOp .neg 3 (ZT 32),3,none⟩,⟨some 34,.call ⟨.builtin .max,#[ZT 31,ZT 33],#[3,3]⟩,3,none⟩,⟨some 35,.call ⟨.value (.func 50),#[ZT 30,ZT 34],#[3,3]⟩,3,none⟩,⟨some 8,.assign (ZT 35),3,none⟩])
    (.seq (.draw (.take ⟨some 36,.move (ZT 1),3,none⟩ (.take ⟨some 37,.move (ZT 8),3,none⟩ (.take ⟨some 38,.binOp .quo 3 (ZT 36) (ZT 37) 3,3,none⟩ (.take ⟨some 39,.move (ZT 2),3,none⟩ (.take ⟨some 40,.move (ZT 8),3,none⟩ (.take ⟨some 41,.binOp .quo 3 (ZT 39) (ZT 40) 3,3,none⟩ (.take ⟨some 1,.assign (ZT 38),3,none⟩ (.take ⟨some 2,.assign (ZT 41),3,none⟩ .done)))))))))
    (.seq (.ops [⟨some 9,.assign (.const (.slice none 0 0)),22,none⟩])
    (.seq (.seq (.ops [⟨some 10,.assign (.const (.int .i64 0)),3,none⟩])
    (.block 1 (.loop (.seq (.seq (.ops [⟨some 42,.move (ZT 10),3,none⟩,⟨some 43,.move (ZT 0),22,none⟩,⟨some 44,.call ⟨.builtin .len,#[ZT 43],#[22]⟩,3,none⟩,⟨some 45,.binOp .lss 3 (ZT 42) (ZT 44) 3,4,none⟩])
    (.cond (ZT 45) .skip (.exit 1)))
    (.seq (.block 2 (.seq (.seq (.ops [⟨some 48,.move (ZT 2),3,none⟩,⟨some 49,.binOp .gtr 3 (ZT 48) (.const (.int .i64 960)) 3,4,none⟩,⟨some 50,.move (ZT 49),4,none⟩,⟨some 51,.move (ZT 2),3,some (some 50,false)⟩,⟨some 52,.binOp .rem 3 (.const (.int .i64 960)) (ZT 51) 3,3,some (some 50,false)⟩,⟨some 53,.binOp .neq 3 (ZT 52) (.const (.int .i64 0)) 3,4,some (some 50,false)⟩,⟨some 54,.pick (ZT 50) (.const (.bool true)) (ZT 53),4,none⟩])
    (.cond (ZT 54) (.seq (.ops [⟨some 6,.assign (.const (.slice none 0 0)),22,none⟩,⟨some 7,.assign (.const (.int .i64 7)),25,none⟩])
    .ret) .skip))
    (.seq (.ops [⟨some 55,.move (ZT 0),22,none⟩,⟨some 56,.move (ZT 10),3,none⟩,⟨some 57,.indexAddr 22 (ZT 55) (ZT 56),0,none⟩,⟨some 58,.load 49 (ZT 57),49,none⟩,⟨some 11,.alloc 49,0,none⟩,⟨none,.store 49 (ZT 11) (ZT 58),0,none⟩])
    (.seq (.draw (.take ⟨some 59,.fieldAddr 49 (ZT 11) 0,0,none⟩ (.take ⟨some 60,.load 3 (ZT 59),3,none⟩ (.take ⟨some 61,.move (ZT 2),3,none⟩ (.take ⟨some 62,.binOp .mul 3 (ZT 60) (ZT 61) 3,3,none⟩ (.take ⟨some 63,.move (ZT 1),3,none⟩ (.take ⟨some 64,.fieldAddr 49 (ZT 11) 1,0,none⟩ (.take ⟨some 65,.load 3 (ZT 64),3,none⟩ (.take ⟨some 66,.binOp .mul 3 (ZT 63) (ZT 65) 3,3,none⟩ (.take ⟨some 67,.binOp .add 3 (ZT 62) (ZT 66) 3,3,none⟩ (.take ⟨some 68,.fieldAddr 49 (ZT 11) 1,0,none⟩ (.take ⟨some 69,.load 3 (ZT 68),3,none⟩ (.take ⟨some 70,.move (ZT 2),3,none⟩ (.take ⟨some 71,.binOp .mul 3 (ZT 69) (ZT 70) 3,3,none⟩ (.take ⟨some 12,.assign (ZT 67),3,none⟩ (.take ⟨some 13,.assign (ZT 71),3,none⟩ .done))))))))))))))))
    (.seq (.seq (.ops [⟨some 72,.move (ZT 12),3,none⟩,⟨some 73,.binOp .lss 3 (ZT 72) (.const (.int .i64 0)) 3,4,none⟩])
    (.cond (ZT 73) (.seq (.ops [⟨some 6,.assign (.const (.slice none 0 0)),22,none⟩,⟨some 7,.assign (.const (.int .i64 7)),25,none⟩])
    .ret) .skip))
    (.seq (.ops [⟨some 74,.move (ZT 13),3,none⟩,⟨some 75,.move (ZT 12),3,none⟩,⟨some 76,.call ⟨.value (.func 50),#[ZT 74,ZT 75],#[3,3]⟩,3,none⟩,⟨some 14,.assign (ZT 76),3,none⟩])
    (.seq (.draw (.take ⟨some 77,.move (ZT 12),3,none⟩ (.take ⟨some 78,.move (ZT 14),3,none⟩ (.take ⟨some 79,.binOp .quo 3 (ZT 77) (ZT 78) 3,3,none⟩ (.take ⟨some 80,.move (ZT 13),3,none⟩ (.take ⟨some 81,.move (ZT 14),3,none⟩ (.take ⟨some 82,.binOp .quo 3 (ZT 80) (ZT 81) 3,3,none⟩ (.take ⟨some 83,.fieldAddr 49 (ZT 11) 0,0,none⟩ (.altL ⟨none,.store 3 (ZT 83) (ZT 79),0,none⟩ (.take ⟨some 84,.fieldAddr 49 (ZT 11) 1,0,none⟩ (.altL ⟨none,.store 3 (ZT 84) (ZT 82),0,none⟩ .done .none)) .none)))))))))
    (.seq (.seq (.ops [⟨some 85,.fieldAddr 49 (ZT 11) 0,0,none⟩,⟨some 86,.load 3 (ZT 85),3,none⟩,⟨some 87,.fieldAddr 49 (ZT 11) 1,0,none⟩,⟨some 88,.load 3 (ZT 87),3,none⟩,⟨some 89,.call ⟨.value (.func 51),#[ZT 86,ZT 88],#[3,3]⟩,4,none⟩,⟨some 90,.unOp .not 4 (ZT 89),4,none⟩])
    (.cond (ZT 90) (.seq (.ops [⟨some 6,.assign (.const (.slice none 0 0)),22,none⟩,⟨some 7,.assign (.const (.int .i64 7)),25,none⟩])
    .ret) .skip))
    (.ops [⟨some 91,.move (ZT 9),22,none⟩,⟨some 92,.load 49 (ZT 11),49,none⟩,⟨some 93,.buildSlice 22 1 #[(0,ZT 92)],22,none⟩,⟨some 94,.call ⟨.builtin .append,#[ZT 91,ZT 93],#[22,22]⟩,22,none⟩,⟨some 9,.assign (ZT 94),22,none⟩])))))))))
    (.ops [⟨some 46,.move (ZT 10),3,none⟩,⟨some 47,.binOp .add 3 (ZT 46) (.const (.int .i64 1)) 3,3,none⟩,⟨some 10,.assign (ZT 47),3,none⟩]))))))
    (.seq (.ops [⟨some 95,.move (ZT 9),22,none⟩,⟨some 6,.assign (ZT 95),22,none⟩,⟨some 7,.assign (.const (.int .i64 0)),25,none⟩])
    .ret)))))))
def pl24 : Nat → Plan := fun id => if id = 6 then (.take 0 (.take 1 (.take 2 (.take 3 (.take 4 (.take 5 (.take 6 (.take 7 .done)))))))) else if id = 14 then (.take 0 (.take 1 (.take 2 (.take 3 (.take 4 (.take 5 (.take 6 (.take 7 (.take 8 (.take 9 (.take 10 (.take 11 (.take 12 (.take 13 (.take 14 .done))))))))))))))) else if id = 18 then (.take 0 (.take 1 (.take 2 (.take 3 (.take 4 (.take 5 (.take 6 (.altL 7 (.take 8 (.altL 9 .done .none)) .none)))))))) else .done
theorem st24 : Go.Proofs.Tryz.f24.body.map (strip pl24) = some m24 := by kernel_rfl
theorem ok24 : okB pl24 Go.Proofs.Tryz.f24 3 = true := by kernel_rfl
theorem en24 {v0 v1 v2 w} {Q : Value → World → Prop} (h : mwpB ZP m24 (argEnv [v0, v1, v2]) [] w (fun e ds w => ds = [] ∧ resW ZP [.tmp 6, .tmp 7] e w fun v => Q v w) (fun _ _ _ _ => False) (fun e ds w => ds = [] ∧ resW ZP [.tmp 6, .tmp 7] e w fun v => Q v w) (fun _ _ _ _ => False) ⟨⟩) : Rets ZP 24 #[v0, v1, v2] w Q :=
  rets_of_mwp follows_mo Go.Proofs.Tryz.func24 pl24 st24 ok24 (by kernel_rfl) h
def m33 : MC := (.seq (.ops [⟨some 4,.assign (.const (.bool false)),4,none⟩])
    (.seq (.ops [⟨some 5,.move (ZT 0),3,none⟩,⟨some 6,.call ⟨.value (.func 48),#[ZT 5,.const (.int .i64 0),.const (.int .i64 1000000)],#[3,3,3]⟩,4,none⟩,⟨some 7,.move (ZT 6),4,none⟩,⟨some 8,.move (ZT 1),3,some (some 7,true)⟩,⟨some 9,.binOp .geq 3 (ZT 8) (.const (.int .i64 1)) 3,4,some (some 7,true)⟩,⟨some 10,.pick (ZT 7) (ZT 9) (.const (.bool false)),4,none⟩,⟨some 11,.move (ZT 10),4,none⟩,⟨some 12,.move (ZT 1),3,some (some 11,true)⟩,⟨some 13,.binOp .rem 3 (.const (.int .i64 960)) (ZT 12) 3,3,some (some 11,true)⟩,⟨some 14,.binOp .eql 3 (ZT 13) (.const (.int .i64 0)) 3,4,some (some 11,true)⟩,⟨some 15,.pick (ZT 11) (ZT 14) (.const (.bool false)),4,none⟩,⟨some 16,.move (ZT 15),4,none⟩,⟨some 17,.move (ZT 1),3,some (some 16,true)⟩,⟨some 18,.move (ZT 0),3,some (some 16,true)⟩,⟨some 19,.call ⟨.value (.func 49),#[ZT 17,ZT 18],#[3,3]⟩,3,some (some 16,true)⟩,⟨some 20,.binOp .eql 3 (ZT 19) (.const (.int .i64 1)) 3,4,some (some 16,true)⟩,⟨some 21,.pick (ZT 16) (ZT 20) (.const (.bool false)),4,none⟩,⟨some 4,.assign (ZT 21),4,none⟩])
    .ret))
def pl33 : Nat → Plan := fun _ => .done
theorem st33 : Go.Proofs.Tryz.f33.body.map (strip pl33) = some m33 := by kernel_rfl
theorem ok33 : okB pl33 Go.Proofs.Tryz.f33 2 = true := by kernel_rfl
theorem en33 {v0 v1 w} {Q : Value → World → Prop} (h : mwpB ZP m33 (argEnv [v0, v1]) [] w (fun e ds w => ds = [] ∧ resW ZP [.tmp 4] e w fun v => Q v w) (fun _ _ _ _ => False) (fun e ds w => ds = [] ∧ resW ZP [.tmp 4] e w fun v => Q v w) (fun _ _ _ _ => False) ⟨⟩) : Rets ZP 33 #[v0, v1] w Q :=
  rets_of_mwp follows_mo Go.Proofs.Tryz.func33 pl33 st33 ok33 (by kernel_rfl) h
def m34 : MC := (.seq (.ops [⟨some 1,.box 49 (ZT 0),0,none⟩,⟨some 2,.assign (.const (.int .i64 0)),3,none⟩])
    (.seq (.draw (.take ⟨some 3,.fieldAddr 49 (ZT 1) 0,0,none⟩ (.take ⟨some 4,.load 3 (ZT 3),3,none⟩ (.take ⟨some 5,.fieldAddr 49 (ZT 1) 1,0,none⟩ (.take ⟨some 6,.load 3 (ZT 5),3,none⟩ (.take ⟨some 7,.binOp .quo 3 (.const (.int .i64 960)) (ZT 6) 3,3,none⟩ (.take ⟨some 8,.binOp .mul 3 (ZT 4) (ZT 7) 3,3,none⟩ (.take ⟨some 2,.assign (ZT 8),3,none⟩ .done))))))))
    .ret))
def pl34 : Nat → Plan := fun id => if id = 1 then (.take 0 (.take 1 (.take 2 (.take 3 (.take 4 (.take 5 (.take 6 .done))))))) else .done
theorem st34 : Go.Proofs.Tryz.f34.body.map (strip pl34) = some m34 := by kernel_rfl
theorem ok34 : okB pl34 Go.Proofs.Tryz.f34 1 = true := by kernel_rfl
theorem en34 {v0 w} {Q : Value → World → Prop} (h : mwpB ZP m34 (argEnv [v0]) [] w (fun e ds w => ds = [] ∧ resW ZP [.tmp 2] e w fun v => Q v w) (fun _ _ _ _ => False) (fun e ds w => ds = [] ∧ resW ZP [.tmp 2] e w fun v => Q v w) (fun _ _ _ _ => False) ⟨⟩) : Rets ZP 34 #[v0] w Q :=
  rets_of_mwp follows_mo Go.Proofs.Tryz.func34 pl34 st34 ok34 (by kernel_rfl) h
def m35 : MC := (.seq (.ops [⟨some 1,.box 40 (ZT 0),0,none⟩,⟨some 2,.assign (.const (.bool false)),4,none⟩])
    (.seq (.seq (.ops [⟨some 4,.fieldAddr 40 (ZT 1) 1,0,none⟩,⟨some 5,.load 3 (ZT 4),3,none⟩,⟨some 6,.call ⟨.value (.func 65),#[ZT 5,.const (.int .i64 1),.const (.int .i64 7)],#[3,3,3]⟩,4,none⟩,⟨some 7,.unOp .not 4 (ZT 6),4,none⟩,⟨some 8,.move (ZT 7),4,none⟩,⟨some 9,.fieldAddr 40 (ZT 1) 0,0,some (some 8,false)⟩,⟨some 10,.load 3 (ZT 9),3,some (some 8,false)⟩,⟨some 11,.call ⟨.value (.func 65),#[ZT 10,.const (.int .i64 0),.const (.int .i64 1000000000)],#[3,3,3]⟩,4,some (some 8,false)⟩,⟨some 12,.unOp .not 4 (ZT 11),4,some (some 8,false)⟩,⟨some 13,.pick (ZT 8) (.const (.bool true)) (ZT 12),4,none⟩,⟨some 14,.move (ZT 13),4,none⟩,⟨some 15,.fieldAddr 40 (ZT 1) 2,0,some (some 14,false)⟩,⟨some 16,.load 3 (ZT 15),3,some (some 14,false)⟩,⟨some 17,.call ⟨.value (.func 65),#[ZT 16,.const (.int .i64 1),.const (.int .i64 1000000000)],#[3,3,3]⟩,4,some (some 14,false)⟩,⟨some 18,.unOp .not 4 (ZT 17),4,some (some 14,false)⟩,⟨some 19,.pick (ZT 14) (.const (.bool true)) (ZT 18),4,none⟩,⟨some 20,.move (ZT 19),4,none⟩,⟨some 21,.fieldAddr 40 (ZT 1) 4,0,some (some 20,false)⟩,⟨some 22,.load 3 (ZT 21),3,some (some 20,false)⟩,⟨some 23,.call ⟨.value (.func 65),#[ZT 22,.const (.int .i64 0),.const (.int .i64 1000000000)],#[3,3,3]⟩,4,some (some 20,false)⟩,⟨some 24,.unOp .not 4 (ZT 23),4,some (some 20,false)⟩,⟨some 25,.pick (ZT 20) (.const (.bool true)) (ZT 24),4,none⟩])
    (.cond (ZT 25) (.seq (.ops [⟨some 2,.assign (.const (.bool false)),4,none⟩])
    .ret) .skip))
    (.seq (.draw (.take ⟨some 27,.fieldAddr 40 (ZT 1) 1,0,none⟩ (.take ⟨some 28,.load 3 (ZT 27),3,none⟩ (.alt ⟨some 26,.call ⟨.value (.func 66),#[],#[]⟩,93,none⟩ (.take ⟨some 29,.indexAddr 93 (ZT 26) (ZT 28),0,none⟩ (.alt ⟨some 30,.load 92 (ZT 29),92,none⟩ (.alt ⟨some 3,.alloc 92,0,none⟩ (.altL ⟨none,.store 92 (ZT 3) (ZT 30),0,none⟩ .done .none) .none) (.alt ⟨some 3,.alloc 92,0,none⟩ (.alt ⟨some 30,.load 92 (ZT 29),92,none⟩ (.altL ⟨none,.store 92 (ZT 3) (ZT 30),0,none⟩ .done .none) .none) .none))) (.alt ⟨some 3,.alloc 92,0,none⟩ (.alt ⟨some 26,.call ⟨.value (.func 66),#[],#[]⟩,93,none⟩ (.take ⟨some 29,.indexAddr 93 (ZT 26) (ZT 28),0,none⟩ (.alt ⟨some 30,.load 92 (ZT 29),92,none⟩ (.altL ⟨none,.store 92 (ZT 3) (ZT 30),0,none⟩ .done .none) .none)) .none) .none)))))
    (.seq (.ops [⟨some 31,.fieldAddr 92 (ZT 3) 0,0,none⟩,⟨some 32,.load 4 (ZT 31),4,none⟩,⟨some 33,.move (ZT 32),4,none⟩,⟨some 34,.fieldAddr 40 (ZT 1) 3,0,some (some 33,false)⟩,⟨some 35,.load 9 (ZT 34),9,some (some 33,false)⟩,⟨some 36,.binOp .eql 9 (ZT 35) (.const (.string { data := #[] })) 9,4,some (some 33,false)⟩,⟨some 37,.pick (ZT 33) (.const (.bool true)) (ZT 36),4,none⟩,⟨some 38,.move (ZT 37),4,none⟩,⟨some 39,.fieldAddr 92 (ZT 3) 1,0,some (some 38,true)⟩,⟨some 40,.load 4 (ZT 39),4,some (some 38,true)⟩,⟨some 41,.move (ZT 40),4,some (some 38,true)⟩,⟨some 42,.fieldAddr 40 (ZT 1) 4,0,some (some 41,false)⟩,⟨some 43,.load 3 (ZT 42),3,some (some 41,false)⟩,⟨some 44,.binOp .eql 3 (ZT 43) (.const (.int .i64 0)) 3,4,some (some 41,false)⟩,⟨some 45,.pick (ZT 41) (.const (.bool true)) (ZT 44),4,some (some 38,true)⟩,⟨some 46,.pick (ZT 38) (ZT 45) (.const (.bool false)),4,none⟩,⟨some 47,.move (ZT 46),4,none⟩,⟨some 48,.fieldAddr 92 (ZT 3) 2,0,some (some 47,true)⟩,⟨some 49,.load 4 (ZT 48),4,some (some 47,true)⟩,⟨some 50,.move (ZT 49),4,some (some 47,true)⟩,⟨some 51,.fieldAddr 40 (ZT 1) 6,0,some (some 50,false)⟩,⟨some 52,.load 9 (ZT 51),9,some (some 50,false)⟩,⟨some 53,.binOp .eql 9 (ZT 52) (.const (.string { data := #[] })) 9,4,some (some 50,false)⟩,⟨some 54,.pick (ZT 50) (.const (.bool true)) (ZT 53),4,some (some 47,true)⟩,⟨some 55,.pick (ZT 47) (ZT 54) (.const (.bool false)),4,none⟩,⟨some 56,.move (ZT 55),4,none⟩,⟨some 57,.fieldAddr 40 (ZT 1) 5,0,some (some 56,true)⟩,⟨some 58,.load 3 (ZT 57),3,some (some 56,true)⟩,⟨some 59,.fieldAddr 92 (ZT 3) 3,0,some (some 56,true)⟩,⟨some 60,.load 3 (ZT 59),3,some (some 56,true)⟩,⟨some 61,.fieldAddr 92 (ZT 3) 4,0,some (some 56,true)⟩,⟨some 62,.load 3 (ZT 61),3,some (some 56,true)⟩,⟨some 63,.call ⟨.value (.func 65),#[ZT 58,ZT 60,ZT 62],#[3,3,3]⟩,4,some (some 56,true)⟩,⟨some 64,.pick (ZT 56) (ZT 63) (.const (.bool false)),4,none⟩,⟨some 65,.move (ZT 64),4,none⟩,⟨some 66,.fieldAddr 40 (ZT 1) 3,0,some (some 65,true)⟩,⟨some 67,.load 9 (ZT 66),9,some (some 65,true)⟩,⟨some 68,.call ⟨.builtin .len,#[ZT 67],#[9]⟩,3,some (some 65,true)⟩,⟨some 69,.binOp .leq 3 (ZT 68) (.const (.int .i64 20)) 3,4,some (some 65,true)⟩,⟨some 70,.pick (ZT 65) (ZT 69) (.const (.bool false)),4,none⟩,⟨some 71,.move (ZT 70),4,none⟩,⟨some 72,.fieldAddr 40 (ZT 1) 6,0,some (some 71,true)⟩,⟨some 73,.load 9 (ZT 72),9,some (some 71,true)⟩,⟨some 74,.call ⟨.builtin .len,#[ZT 73],#[9]⟩,3,some (some 71,true)⟩,⟨some 75,.binOp .leq 3 (ZT 74) (.const (.int .i64 20)) 3,4,some (some 71,true)⟩,⟨some 76,.pick (ZT 71) (ZT 75) (.const (.bool false)),4,none⟩,⟨some 2,.assign (ZT 76),4,none⟩])
    .ret))))
def pl35 : Nat → Plan := fun id => if id = 3 then (.take 1 (.take 2 (.alt 0 (.take 3 (.alt 4 (.alt 5 (.altL 6 .done .none) .none) (.alt 5 (.alt 4 (.altL 6 .done .none) .none) .none))) (.alt 5 (.alt 0 (.take 3 (.alt 4 (.altL 6 .done .none) .none)) .none) .none)))) else .done
theorem st35 : Go.Proofs.Tryz.f35.body.map (strip pl35) = some m35 := by kernel_rfl
theorem ok35 : okB pl35 Go.Proofs.Tryz.f35 1 = true := by kernel_rfl
theorem en35 {v0 w} {Q : Value → World → Prop} (h : mwpB ZP m35 (argEnv [v0]) [] w (fun e ds w => ds = [] ∧ resW ZP [.tmp 2] e w fun v => Q v w) (fun _ _ _ _ => False) (fun e ds w => ds = [] ∧ resW ZP [.tmp 2] e w fun v => Q v w) (fun _ _ _ _ => False) ⟨⟩) : Rets ZP 35 #[v0] w Q :=
  rets_of_mwp follows_mo Go.Proofs.Tryz.func35 pl35 st35 ok35 (by kernel_rfl) h
def m36 : MC := (.seq (.ops [⟨some 1,.box 49 (ZT 0),0,none⟩,⟨some 2,.assign (.const (.int .i64 0)),25,none⟩])
    (.seq (.block 0 (.seq (.ops [⟨some 4,.fieldAddr 49 (ZT 1) 0,0,none⟩,⟨some 5,.load 3 (ZT 4),3,none⟩,⟨some 6,.fieldAddr 49 (ZT 1) 1,0,none⟩,⟨some 7,.load 3 (ZT 6),3,none⟩,⟨some 8,.call ⟨.value (.func 51),#[ZT 5,ZT 7],#[3,3]⟩,4,none⟩,⟨some 9,.unOp .not 4 (ZT 8),4,none⟩,⟨some 3,.assign (ZT 9),4,none⟩])
    (.cond (ZT 3) (.seq (.ops [⟨some 2,.assign (.const (.int .i64 7)),25,none⟩])
    .ret) (.seq (.ops [⟨some 11, .fieldAddr 49 (.tmp 1) 2, 0, none⟩, ⟨some 12, .load 40 (.tmp 11), 40, none⟩, ⟨some 13, .call ⟨.value (.func 67), #[.tmp 12], #[40]⟩, 4, none⟩, ⟨some 14, .unOp .not 4 (.tmp 13), 4, none⟩, ⟨some 15, .move (.tmp 14), 4, none⟩, ⟨some 16, .fieldAddr 49 (.tmp 1) 2, 0, some (some 15, false)⟩, ⟨some 17, .fieldAddr 40 (.tmp 16) 0, 0, some (some 15, false)⟩, ⟨some 18, .load 3 (.tmp 17), 3, some (some 15, false)⟩, ⟨some 19, .binOp .neq 3 (.tmp 18) (.const (.int .i64 0)) 3, 4, some (some 15, false)⟩, ⟨some 20, .pick (.tmp 15) (.const (.bool true)) (.tmp 19), 4, none⟩, ⟨some 10, .assign (.tmp 20), 4, none⟩])
    (.cond (ZT 10) (.seq (.ops [⟨some 2,.assign (.const (.int .i64 1)),25,none⟩])
    .ret) (.seq (.ops [⟨some 22, .fieldAddr 49 (.tmp 1) 3, 0, none⟩, ⟨some 23, .load 4 (.tmp 22), 4, none⟩, ⟨some 24, .move (.tmp 23), 4, none⟩, ⟨some 25, .fieldAddr 49 (.tmp 1) 2, 0, some (some 24, true)⟩, ⟨some 26, .fieldAddr 40 (.tmp 25) 1, 0, some (some 24, true)⟩, ⟨some 27, .load 3 (.tmp 26), 3, some (some 24, true)⟩, ⟨some 28, .binOp .neq 3 (.tmp 27) (.const (.int .i64 4)) 3, 4, some (some 24, true)⟩, ⟨some 29, .pick (.tmp 24) (.tmp 28) (.const (.bool false)), 4, none⟩, ⟨some 21, .assign (.tmp 29), 4, none⟩])
    (.cond (ZT 21) (.seq (.ops [⟨some 2,.assign (.const (.int .i64 10)),25,none⟩])
    .ret) .skip)))))))
    (.seq (.ops [⟨some 2,.assign (.const (.int .i64 0)),25,none⟩])
    .ret)))
def pl36 : Nat → Plan := fun _ => .done
theorem st36 : Go.Proofs.Tryz.f36.body.map (strip pl36) = some m36 := by kernel_rfl
theorem ok36 : okB pl36 Go.Proofs.Tryz.f36 1 = true := by kernel_rfl
theorem en36 {v0 w} {Q : Value → World → Prop} (h : mwpB ZP m36 (argEnv [v0]) [] w (fun e ds w => ds = [] ∧ resW ZP [.tmp 2] e w fun v => Q v w) (fun _ _ _ _ => False) (fun e ds w => ds = [] ∧ resW ZP [.tmp 2] e w fun v => Q v w) (fun _ _ _ _ => False) ⟨⟩) : Rets ZP 36 #[v0] w Q :=
  rets_of_mwp follows_mo Go.Proofs.Tryz.func36 pl36 st36 ok36 (by kernel_rfl) h
def m37 : MC := (.seq (.ops [⟨some 2,.box 49 (ZT 0),0,none⟩,⟨some 3,.box 49 (ZT 1),0,none⟩,⟨some 4,.assign (.const (.bool false)),4,none⟩])
    (.seq (.ops [⟨some 5,.fieldAddr 49 (ZT 2) 0,0,none⟩,⟨some 6,.load 3 (ZT 5),3,none⟩,⟨some 7,.fieldAddr 49 (ZT 3) 1,0,none⟩,⟨some 8,.load 3 (ZT 7),3,none⟩,⟨some 9,.binOp .mul 3 (ZT 6) (ZT 8) 3,3,none⟩,⟨some 10,.fieldAddr 49 (ZT 3) 0,0,none⟩,⟨some 11,.load 3 (ZT 10),3,none⟩,⟨some 12,.fieldAddr 49 (ZT 2) 1,0,none⟩,⟨some 13,.load 3 (ZT 12),3,none⟩,⟨some 14,.binOp .mul 3 (ZT 11) (ZT 13) 3,3,none⟩,⟨some 15,.binOp .lss 3 (ZT 9) (ZT 14) 3,4,none⟩,⟨some 4,.assign (ZT 15),4,none⟩])
    .ret))
def pl37 : Nat → Plan := fun _ => .done
theorem st37 : Go.Proofs.Tryz.f37.body.map (strip pl37) = some m37 := by kernel_rfl
theorem ok37 : okB pl37 Go.Proofs.Tryz.f37 2 = true := by kernel_rfl
theorem en37 {v0 v1 w} {Q : Value → World → Prop} (h : mwpB ZP m37 (argEnv [v0, v1]) [] w (fun e ds w => ds = [] ∧ resW ZP [.tmp 4] e w fun v => Q v w) (fun _ _ _ _ => False) (fun e ds w => ds = [] ∧ resW ZP [.tmp 4] e w fun v => Q v w) (fun _ _ _ _ => False) ⟨⟩) : Rets ZP 37 #[v0, v1] w Q :=
  rets_of_mwp follows_mo Go.Proofs.Tryz.func37 pl37 st37 ok37 (by kernel_rfl) h
def m45 : MC := (.seq (.ops [⟨some 6,.assign (.const (.slice none 0 0)),22,none⟩])
    (.seq (.ops [⟨some 7,.assign (.const (.slice none 0 0)),22,none⟩])
    (.seq (.block 0 (.loop (.seq (.seq (.ops [⟨some 8,.move (ZT 0),22,none⟩,⟨some 9,.call ⟨.builtin .len,#[ZT 8],#[22]⟩,3,none⟩,⟨some 10,.move (ZT 1),22,none⟩,⟨some 11,.call ⟨.builtin .len,#[ZT 10],#[22]⟩,3,none⟩,⟨some 12,.binOp .add 3 (ZT 9) (ZT 11) 3,3,none⟩,⟨some 13,.binOp .gtr 3 (ZT 12) (.const (.int .i64 0)) 3,4,none⟩])
    (.cond (ZT 13) .skip (.exit 0)))
    (.block 1 (.seq (.seq (.draw (.take ⟨some 14,.move (ZT 1),22,none⟩ (.take ⟨some 15,.call ⟨.builtin .len,#[ZT 14],#[22]⟩,3,none⟩ (.take ⟨some 16,.binOp .eql 3 (ZT 15) (.const (.int .i64 0)) 3,4,none⟩ (.take ⟨some 17,.move (ZT 16),4,none⟩ (.take ⟨some 18,.move (ZT 0),22,some (some 17,false)⟩ (.take ⟨some 19,.call ⟨.builtin .len,#[ZT 18],#[22]⟩,3,some (some 17,false)⟩ (.take ⟨some 20,.binOp .gtr 3 (ZT 19) (.const (.int .i64 0)) 3,4,some (some 17,false)⟩ (.take ⟨some 21,.move (ZT 20),4,some (some 17,false)⟩ (.take ⟨some 22,.move (ZT 2),67,some (some 21,true)⟩ (.take ⟨some 23,.move (ZT 1),22,some (some 21,true)⟩ (.take ⟨some 24,.indexAddr 22 (ZT 23) (.const (.int .i64 0)),0,some (some 21,true)⟩ (.take ⟨some 25,.load 49 (ZT 24),49,some (some 21,true)⟩ (.take ⟨some 26,.move (ZT 0),22,some (some 21,true)⟩ (.take ⟨some 27,.indexAddr 22 (ZT 26) (.const (.int .i64 0)),0,some (some 21,true)⟩ (.take ⟨some 28,.load 49 (ZT 27),49,some (some 21,true)⟩ (.alt ⟨some 29,.call ⟨.value (ZT 22),#[ZT 25,ZT 28],#[49,49]⟩,4,some (some 21,true)⟩ (.take ⟨some 30,.unOp .not 4 (ZT 29),4,some (some 21,true)⟩ (.take ⟨some 31,.pick (ZT 21) (ZT 30) (.const (.bool false)),4,some (some 17,false)⟩ (.take ⟨some 32,.pick (ZT 17) (.const (.bool true)) (ZT 31),4,none⟩ .done))) .none)))))))))))))))))
    (.cond (ZT 32) (.seq (.draw (.take ⟨some 33,.move (ZT 7),22,none⟩ (.take ⟨some 34,.move (ZT 0),22,none⟩ (.take ⟨some 35,.indexAddr 22 (ZT 34) (.const (.int .i64 0)),0,none⟩ (.take ⟨some 36,.load 49 (ZT 35),49,none⟩ (.take ⟨some 39,.move (ZT 0),22,none⟩ (.take ⟨some 40,.slice 22 (ZT 39) (some (.const (.int .i64 1))) none none,22,none⟩ (.alt ⟨some 37,.buildSlice 22 1 #[(0,ZT 36)],22,none⟩ (.alt ⟨some 38,.call ⟨.builtin .append,#[ZT 33,ZT 37],#[22,22]⟩,22,none⟩ (.take ⟨some 7,.assign (ZT 38),22,none⟩ (.take ⟨some 0,.assign (ZT 40),22,none⟩ .done)) .none) .none))))))))
    (.exit 1)) .skip))
    (.draw (.take ⟨some 41,.move (ZT 7),22,none⟩ (.take ⟨some 42,.move (ZT 1),22,none⟩ (.take ⟨some 43,.indexAddr 22 (ZT 42) (.const (.int .i64 0)),0,none⟩ (.take ⟨some 44,.load 49 (ZT 43),49,none⟩ (.take ⟨some 47,.move (ZT 1),22,none⟩ (.take ⟨some 48,.slice 22 (ZT 47) (some (.const (.int .i64 1))) none none,22,none⟩ (.alt ⟨some 45,.buildSlice 22 1 #[(0,ZT 44)],22,none⟩ (.alt ⟨some 46,.call ⟨.builtin .append,#[ZT 41,ZT 45],#[22,22]⟩,22,none⟩ (.take ⟨some 7,.assign (ZT 46),22,none⟩ (.take ⟨some 1,.assign (ZT 48),22,none⟩ .done)) .none) .none)))))))))))))
    (.seq (.ops [⟨some 49,.move (ZT 7),22,none⟩,⟨some 6,.assign (ZT 49),22,none⟩])
    .ret))))
def pl45 : Nat → Plan := fun id => if id = 3 then (.take 0 (.take 1 (.take 2 (.take 3 (.take 4 (.take 5 (.take 6 (.take 7 (.take 8 (.take 9 (.take 10 (.take 11 (.take 12 (.take 13 (.take 14 (.alt 15 (.take 16 (.take 17 (.take 18 .done))) .none)))))))))))))))) else if id = 4 then (.take 0 (.take 1 (.take 2 (.take 3 (.take 6 (.take 7 (.alt 4 (.alt 5 (.take 8 (.take 9 .done)) .none) .none))))))) else if id = 5 then (.take 0 (.take 1 (.take 2 (.take 3 (.take 6 (.take 7 (.alt 4 (.alt 5 (.take 8 (.take 9 .done)) .none) .none))))))) else .done
theorem st45 : Go.Proofs.Tryz.f45.body.map (strip pl45) = some m45 := by kernel_rfl
theorem ok45 : okB pl45 Go.Proofs.Tryz.f45 3 = true := by kernel_rfl
theorem en45 {v0 v1 v2 w} {Q : Value → World → Prop} (h : mwpB ZP m45 (argEnv [v0, v1, v2]) [] w (fun e ds w => ds = [] ∧ resW ZP [.tmp 6] e w fun v => Q v w) (fun _ _ _ _ => False) (fun e ds w => ds = [] ∧ resW ZP [.tmp 6] e w fun v => Q v w) (fun _ _ _ _ => False) ⟨⟩) : Rets ZP 45 #[v0, v1, v2] w Q :=
  rets_of_mwp follows_mo Go.Proofs.Tryz.func45 pl45 st45 ok45 (by kernel_rfl) h
def m46 : MC := (.seq (.ops [⟨some 2,.box 49 (ZT 0),0,none⟩,⟨some 3,.box 49 (ZT 1),0,none⟩,⟨some 4,.assign (.const (.bool false)),4,none⟩])
    (.seq (.draw (.take ⟨some 5,.load 49 (ZT 2),49,none⟩ (.take ⟨some 7,.load 49 (ZT 3),49,none⟩ (.alt ⟨some 6,.call ⟨.value (.func 34),#[ZT 5],#[49]⟩,3,none⟩ (.alt ⟨some 8,.call ⟨.value (.func 34),#[ZT 7],#[49]⟩,3,none⟩ (.take ⟨some 9,.binOp .lss 3 (ZT 6) (ZT 8) 3,4,none⟩ (.take ⟨some 4,.assign (ZT 9),4,none⟩ .done)) .none) .none))))
    .ret))
def pl46 : Nat → Plan := fun id => if id = 1 then (.take 0 (.take 2 (.alt 1 (.alt 3 (.take 4 (.take 5 .done)) .none) .none))) else .done
theorem st46 : Go.Proofs.Tryz.f46.body.map (strip pl46) = some m46 := by kernel_rfl
theorem ok46 : okB pl46 Go.Proofs.Tryz.f46 2 = true := by kernel_rfl
theorem en46 {v0 v1 w} {Q : Value → World → Prop} (h : mwpB ZP m46 (argEnv [v0, v1]) [] w (fun e ds w => ds = [] ∧ resW ZP [.tmp 4] e w fun v => Q v w) (fun _ _ _ _ => False) (fun e ds w => ds = [] ∧ resW ZP [.tmp 4] e w fun v => Q v w) (fun _ _ _ _ => False) ⟨⟩) : Rets ZP 46 #[v0, v1] w Q :=
  rets_of_mwp follows_mo Go.Proofs.Tryz.func46 pl46 st46 ok46 (by kernel_rfl) h
def m47 : MC := (.seq (.ops [⟨some 3,.box 49 (ZT 1),0,none⟩,⟨some 4,.assign (.const (.slice none 0 0)),22,none⟩])
    (.seq (.ops [⟨some 5,.assign (.const (.int .i64 0)),3,none⟩])
    (.seq (.block 0 (.loop (.seq (.seq (.draw (.take ⟨some 6,.move (ZT 5),3,none⟩ (.take ⟨some 7,.move (ZT 0),22,none⟩ (.take ⟨some 8,.call ⟨.builtin .len,#[ZT 7],#[22]⟩,3,none⟩ (.take ⟨some 9,.binOp .lss 3 (ZT 6) (ZT 8) 3,4,none⟩ (.take ⟨some 10,.move (ZT 9),4,none⟩ (.take ⟨some 11,.load 49 (ZT 3),49,some (some 10,true)⟩ (.take ⟨some 12,.move (ZT 0),22,some (some 10,true)⟩ (.take ⟨some 13,.move (ZT 5),3,some (some 10,true)⟩ (.take ⟨some 14,.indexAddr 22 (ZT 12) (ZT 13),0,some (some 10,true)⟩ (.take ⟨some 15,.load 49 (ZT 14),49,some (some 10,true)⟩ (.alt ⟨some 16,.call ⟨.value (.func 37),#[ZT 11,ZT 15],#[49,49]⟩,4,some (some 10,true)⟩ (.take ⟨some 17,.unOp .not 4 (ZT 16),4,some (some 10,true)⟩ (.take ⟨some 18,.pick (ZT 10) (ZT 17) (.const (.bool false)),4,none⟩ .done)) .none))))))))))))
    (.cond (ZT 18) .skip (.exit 0)))
    (.block 1 (.ops [⟨some 19,.move (ZT 5),3,none⟩,⟨some 20,.binOp .add 3 (ZT 19) (.const (.int .i64 1)) 3,3,none⟩,⟨some 5,.assign (ZT 20),3,none⟩])))))
    (.seq (.draw (.take ⟨some 22,.move (ZT 0),22,none⟩ (.take ⟨some 23,.move (ZT 5),3,none⟩ (.take ⟨some 24,.slice 22 (ZT 22) none (some (ZT 23)) none,22,none⟩ (.take ⟨some 26,.load 49 (ZT 3),49,none⟩ (.take ⟨some 29,.move (ZT 0),22,none⟩ (.take ⟨some 30,.move (ZT 5),3,none⟩ (.take ⟨some 31,.slice 22 (ZT 29) (some (ZT 30)) none none,22,none⟩ (.alt ⟨some 21,.buildSlice 22 0 #[],22,none⟩ (.alt ⟨some 25,.call ⟨.builtin .append,#[ZT 21,ZT 24],#[22,22]⟩,22,none⟩ (.alt ⟨some 27,.buildSlice 22 1 #[(0,ZT 26)],22,none⟩ (.alt ⟨some 28,.call ⟨.builtin .append,#[ZT 25,ZT 27],#[22,22]⟩,22,none⟩ (.alt ⟨some 32,.call ⟨.builtin .append,#[ZT 28,ZT 31],#[22,22]⟩,22,none⟩ (.take ⟨some 4,.assign (ZT 32),22,none⟩ .done) .none) .none) .none) (.alt ⟨some 27,.buildSlice 22 1 #[(0,ZT 26)],22,none⟩ (.alt ⟨some 25,.call ⟨.builtin .append,#[ZT 21,ZT 24],#[22,22]⟩,22,none⟩ (.alt ⟨some 28,.call ⟨.builtin .append,#[ZT 25,ZT 27],#[22,22]⟩,22,none⟩ (.alt ⟨some 32,.call ⟨.builtin .append,#[ZT 28,ZT 31],#[22,22]⟩,22,none⟩ (.take ⟨some 4,.assign (ZT 32),22,none⟩ .done) .none) .none) .none) .none)) (.alt ⟨some 27,.buildSlice 22 1 #[(0,ZT 26)],22,none⟩ (.alt ⟨some 21,.buildSlice 22 0 #[],22,none⟩ (.alt ⟨some 25,.call ⟨.builtin .append,#[ZT 21,ZT 24],#[22,22]⟩,22,none⟩ (.alt ⟨some 28,.call ⟨.builtin .append,#[ZT 25,ZT 27],#[22,22]⟩,22,none⟩ (.alt ⟨some 32,.call ⟨.builtin .append,#[ZT 28,ZT 31],#[22,22]⟩,22,none⟩ (.take ⟨some 4,.assign (ZT 32),22,none⟩ .done) .none) .none) .none) .none) .none))))))))))
    .ret))))
def pl47 : Nat → Plan := fun id => if id = 2 then (.take 0 (.take 1 (.take 2 (.take 3 (.take 4 (.take 5 (.take 6 (.take 7 (.take 8 (.take 9 (.alt 10 (.take 11 (.take 12 .done)) .none))))))))))) else if id = 4 then (.take 1 (.take 2 (.take 3 (.take 5 (.take 8 (.take 9 (.take 10 (.alt 0 (.alt 4 (.alt 6 (.alt 7 (.alt 11 (.take 12 .done) .none) .none) .none) (.alt 6 (.alt 4 (.alt 7 (.alt 11 (.take 12 .done) .none) .none) .none) .none)) (.alt 6 (.alt 0 (.alt 4 (.alt 7 (.alt 11 (.take 12 .done) .none) .none) .none) .none) .none))))))))) else .done
theorem st47 : Go.Proofs.Tryz.f47.body.map (strip pl47) = some m47 := by kernel_rfl
theorem ok47 : okB pl47 Go.Proofs.Tryz.f47 2 = true := by kernel_rfl
theorem en47 {v0 v1 w} {Q : Value → World → Prop} (h : mwpB ZP m47 (argEnv [v0, v1]) [] w (fun e ds w => ds = [] ∧ resW ZP [.tmp 4] e w fun v => Q v w) (fun _ _ _ _ => False) (fun e ds w => ds = [] ∧ resW ZP [.tmp 4] e w fun v => Q v w) (fun _ _ _ _ => False) ⟨⟩) : Rets ZP 47 #[v0, v1] w Q :=
  rets_of_mwp follows_mo Go.Proofs.Tryz.func47 pl47 st47 ok47 (by kernel_rfl) h
def m48 : MC := (.seq (.ops [⟨some 6,.assign (.const (.bool false)),4,none⟩])
    (.seq (.ops [⟨some 7,.move (ZT 0),3,none⟩,⟨some 8,.move (ZT 1),3,none⟩,⟨some 9,.binOp .geq 3 (ZT 7) (ZT 8) 3,4,none⟩,⟨some 10,.move (ZT 9),4,none⟩,⟨some 11,.move (ZT 0),3,some (some 10,true)⟩,⟨some 12,.move (ZT 2),3,some (some 10,true)⟩,⟨some 13,.binOp .leq 3 (ZT 11) (ZT 12) 3,4,some (some 10,true)⟩,⟨some 14,.pick (ZT 10) (ZT 13) (.const (.bool false)),4,none⟩,⟨some 6,.assign (ZT 14),4,none⟩])
    .ret))
def pl48 : Nat → Plan := fun _ => .done
theorem st48 : Go.Proofs.Tryz.f48.body.map (strip pl48) = some m48 := by kernel_rfl
theorem ok48 : okB pl48 Go.Proofs.Tryz.f48 3 = true := by kernel_rfl
theorem en48 {v0 v1 v2 w} {Q : Value → World → Prop} (h : mwpB ZP m48 (argEnv [v0, v1, v2]) [] w (fun e ds w => ds = [] ∧ resW ZP [.tmp 6] e w fun v => Q v w) (fun _ _ _ _ => False) (fun e ds w => ds = [] ∧ resW ZP [.tmp 6] e w fun v => Q v w) (fun _ _ _ _ => False) ⟨⟩) : Rets ZP 48 #[v0, v1, v2] w Q :=
  rets_of_mwp follows_mo Go.Proofs.Tryz.func48 pl48 st48 ok48 (by kernel_rfl) h
def m49 : MC := (.seq (.ops [⟨some 4,.assign (.const (.int .i64 0)),3,none⟩])
    (.seq (.block 0 (.loop (.seq (.seq (.ops [⟨some 5,.move (ZT 1),3,none⟩,⟨some 6,.binOp .gtr 3 (ZT 5) (.const (.int .i64 0)) 3,4,none⟩])
    (.cond (ZT 6) .skip (.exit 0)))
    (.block 1 (.draw (.take ⟨some 7,.move (ZT 1),3,none⟩ (.take ⟨some 8,.move (ZT 0),3,none⟩ (.take ⟨some 9,.move (ZT 1),3,none⟩ (.take ⟨some 10,.binOp .rem 3 (ZT 8) (ZT 9) 3,3,none⟩ (.take ⟨some 0,.assign (ZT 7),3,none⟩ (.take ⟨some 1,.assign (ZT 10),3,none⟩ .done)))))))))))
    (.seq (.ops [⟨some 11,.move (ZT 0),3,none⟩,⟨some 4,.assign (ZT 11),3,none⟩])
    .ret)))
def pl49 : Nat → Plan := fun id => if id = 2 then (.take 0 (.take 1 (.take 2 (.take 3 (.take 4 (.take 5 .done)))))) else .done
theorem st49 : Go.Proofs.Tryz.f49.body.map (strip pl49) = some m49 := by kernel_rfl
theorem ok49 : okB pl49 Go.Proofs.Tryz.f49 2 = true := by kernel_rfl
theorem en49 {v0 v1 w} {Q : Value → World → Prop} (h : mwpB ZP m49 (argEnv [v0, v1]) [] w (fun e ds w => ds = [] ∧ resW ZP [.tmp 4] e w fun v => Q v w) (fun _ _ _ _ => False) (fun e ds w => ds = [] ∧ resW ZP [.tmp 4] e w fun v => Q v w) (fun _ _ _ _ => False) ⟨⟩) : Rets ZP 49 #[v0, v1] w Q :=
  rets_of_mwp follows_mo Go.Proofs.Tryz.func49 pl49 st49 ok49 (by kernel_rfl) h
def m50 : MC := (.seq (.ops [⟨some 4,.assign (.const (.int .i64 0)),3,none⟩])
    (.seq (.block 0 (.loop (.seq (.seq (.ops [⟨some 5,.move (ZT 1),3,none⟩,⟨some 6,.binOp .gtr 3 (ZT 5) (.const (.int .i64 0)) 3,4,none⟩])
    (.cond (ZT 6) .skip (.exit 0)))
    (.block 1 (.draw (.take ⟨some 7,.move (ZT 1),3,none⟩ (.take ⟨some 8,.move (ZT 0),3,none⟩ (.take ⟨some 9,.move (ZT 1),3,none⟩ (.take ⟨some 10,.binOp .rem 3 (ZT 8) (ZT 9) 3,3,none⟩ (.take ⟨some 0,.assign (ZT 7),3,none⟩ (.take ⟨some 1,.assign (ZT 10),3,none⟩ .done)))))))))))
    (.seq (.ops [⟨some 11,.move (ZT 0),3,none⟩,⟨some 4,.assign (ZT 11),3,none⟩])
    .ret)))
def pl50 : Nat → Plan := fun id => if id = 2 then (.take 0 (.take 1 (.take 2 (.take 3 (.take 4 (.take 5 .done)))))) else .done
theorem st50 : Go.Proofs.Tryz.f50.body.map (strip pl50) = some m50 := by kernel_rfl
theorem ok50 : okB pl50 Go.Proofs.Tryz.f50 2 = true := by kernel_rfl
theorem en50 {v0 v1 w} {Q : Value → World → Prop} (h : mwpB ZP m50 (argEnv [v0, v1]) [] w (fun e ds w => ds = [] ∧ resW ZP [.tmp 4] e w fun v => Q v w) (fun _ _ _ _ => False) (fun e ds w => ds = [] ∧ resW ZP [.tmp 4] e w fun v => Q v w) (fun _ _ _ _ => False) ⟨⟩) : Rets ZP 50 #[v0, v1] w Q :=
  rets_of_mwp follows_mo Go.Proofs.Tryz.func50 pl50 st50 ok50 (by kernel_rfl) h
def m51 : MC := (.seq (.ops [⟨some 4,.assign (.const (.bool false)),4,none⟩])
    (.seq (.ops [⟨some 5,.move (ZT 0),3,none⟩,⟨some 6,.binOp .geq 3 (ZT 5) (.const (.int .i64 0)) 3,4,none⟩,⟨some 7,.move (ZT 6),4,none⟩,⟨some 8,.move (ZT 0),3,some (some 7,true)⟩,⟨some 9,.binOp .leq 3 (ZT 8) (.const (.int .i64 1000000)) 3,4,some (some 7,true)⟩,⟨some 10,.pick (ZT 7) (ZT 9) (.const (.bool false)),4,none⟩,⟨some 11,.move (ZT 10),4,none⟩,⟨some 12,.move (ZT 1),3,some (some 11,true)⟩,⟨some 13,.binOp .geq 3 (ZT 12) (.const (.int .i64 1)) 3,4,some (some 11,true)⟩,⟨some 14,.pick (ZT 11) (ZT 13) (.const (.bool false)),4,none⟩,⟨some 15,.move (ZT 14),4,none⟩,⟨some 16,.move (ZT 1),3,some (some 15,true)⟩,⟨some 17,.binOp .leq 3 (ZT 16) (.const (.int .i64 960)) 3,4,some (some 15,true)⟩,⟨some 18,.pick (ZT 15) (ZT 17) (.const (.bool false)),4,none⟩,⟨some 19,.move (ZT 18),4,none⟩,⟨some 20,.move (ZT 1),3,some (some 19,true)⟩,⟨some 21,.binOp .rem 3 (.const (.int .i64 960)) (ZT 20) 3,3,some (some 19,true)⟩,⟨some 22,.binOp .eql 3 (ZT 21) (.const (.int .i64 0)) 3,4,some (some 19,true)⟩,⟨some 23,.pick (ZT 19) (ZT 22) (.const (.bool false)),4,none⟩,⟨some 24,.move (ZT 23),4,none⟩,⟨some 25,.move (ZT 0),3,some (some 24,true)⟩,⟨some 26,.move (ZT 1),3,some (some 24,true)⟩,⟨some 27,.call ⟨.value (.func 50),#[ZT 25,ZT 26],#[3,3]⟩,3,some (some 24,true)⟩,⟨some 28,.binOp .eql 3 (ZT 27) (.const (.int .i64 1)) 3,4,some (some 24,true)⟩,⟨some 29,.pick (ZT 24) (ZT 28) (.const (.bool false)),4,none⟩,⟨some 4,.assign (ZT 29),4,none⟩])
    .ret))
def pl51 : Nat → Plan := fun _ => .done
theorem st51 : Go.Proofs.Tryz.f51.body.map (strip pl51) = some m51 := by kernel_rfl
theorem ok51 : okB pl51 Go.Proofs.Tryz.f51 2 = true := by kernel_rfl
theorem en51 {v0 v1 w} {Q : Value → World → Prop} (h : mwpB ZP m51 (argEnv [v0, v1]) [] w (fun e ds w => ds = [] ∧ resW ZP [.tmp 4] e w fun v => Q v w) (fun _ _ _ _ => False) (fun e ds w => ds = [] ∧ resW ZP [.tmp 4] e w fun v => Q v w) (fun _ _ _ _ => False) ⟨⟩) : Rets ZP 51 #[v0, v1] w Q :=
  rets_of_mwp follows_mo Go.Proofs.Tryz.func51 pl51 st51 ok51 (by kernel_rfl) h
def m65 : MC := (.seq (.ops [⟨some 6,.assign (.const (.bool false)),4,none⟩])
    (.seq (.ops [⟨some 7,.move (ZT 0),3,none⟩,⟨some 8,.move (ZT 1),3,none⟩,⟨some 9,.binOp .geq 3 (ZT 7) (ZT 8) 3,4,none⟩,⟨some 10,.move (ZT 9),4,none⟩,⟨some 11,.move (ZT 0),3,some (some 10,true)⟩,⟨some 12,.move (ZT 2),3,some (some 10,true)⟩,⟨some 13,.binOp .leq 3 (ZT 11) (ZT 12) 3,4,some (some 10,true)⟩,⟨some 14,.pick (ZT 10) (ZT 13) (.const (.bool false)),4,none⟩,⟨some 6,.assign (ZT 14),4,none⟩])
    .ret))
def pl65 : Nat → Plan := fun _ => .done
theorem st65 : Go.Proofs.Tryz.f65.body.map (strip pl65) = some m65 := by kernel_rfl
theorem ok65 : okB pl65 Go.Proofs.Tryz.f65 3 = true := by kernel_rfl
theorem en65 {v0 v1 v2 w} {Q : Value → World → Prop} (h : mwpB ZP m65 (argEnv [v0, v1, v2]) [] w (fun e ds w => ds = [] ∧ resW ZP [.tmp 6] e w fun v => Q v w) (fun _ _ _ _ => False) (fun e ds w => ds = [] ∧ resW ZP [.tmp 6] e w fun v => Q v w) (fun _ _ _ _ => False) ⟨⟩) : Rets ZP 65 #[v0, v1, v2] w Q :=
  rets_of_mwp follows_mo Go.Proofs.Tryz.func65 pl65 st65 ok65 (by kernel_rfl) h
def m66 : MC := (.seq (.ops [⟨some 0,.assign (.const (.slice none 0 0)),93,none⟩])
    (.seq (.ops [⟨some 1,.build 92 #[(0,.const (.bool true)),(1,.const (.bool true)),(4,.const (.int .i64 1))],92,none⟩,⟨some 2,.build 92 #[(1,.const (.bool true)),(4,.const (.int .i64 1))],92,none⟩,⟨some 3,.build 92 #[],92,none⟩,⟨some 4,.build 92 #[(2,.const (.bool true)),(3,.const (.int .i64 (-1099511627776))),(4,.const (.int .i64 1099511627776))],92,none⟩,⟨some 5,.build 92 #[(1,.const (.bool true)),(4,.const (.int .i64 1))],92,none⟩,⟨some 6,.build 92 #[(4,.const (.int .i64 1))],92,none⟩,⟨some 7,.build 92 #[(2,.const (.bool true)),(3,.const (.int .i64 (-1))),(4,.const (.int .i64 15))],92,none⟩,⟨some 8,.buildSlice 93 8 #[(1,ZT 1),(2,ZT 2),(3,ZT 3),(4,ZT 4),(5,ZT 5),(6,ZT 6),(7,ZT 7)],93,none⟩,⟨some 0,.assign (ZT 8),93,none⟩])
    .ret))
def pl66 : Nat → Plan := fun _ => .done
theorem st66 : Go.Proofs.Tryz.f66.body.map (strip pl66) = some m66 := by kernel_rfl
theorem ok66 : okB pl66 Go.Proofs.Tryz.f66 0 = true := by kernel_rfl
theorem en66 {w} {Q : Value → World → Prop} (h : mwpB ZP m66 (argEnv []) [] w (fun e ds w => ds = [] ∧ resW ZP [.tmp 0] e w fun v => Q v w) (fun _ _ _ _ => False) (fun e ds w => ds = [] ∧ resW ZP [.tmp 0] e w fun v => Q v w) (fun _ _ _ _ => False) ⟨⟩) : Rets ZP 66 #[] w Q :=
  rets_of_mwp follows_mo Go.Proofs.Tryz.func66 pl66 st66 ok66 (by kernel_rfl) h
def m67 : MC := (.seq (.ops [⟨some 1,.box 40 (ZT 0),0,none⟩,⟨some 2,.assign (.const (.bool false)),4,none⟩])
    (.seq (.seq (.ops [⟨some 5,.fieldAddr 40 (ZT 1) 0,0,none⟩,⟨some 6,.load 3 (ZT 5),3,none⟩,⟨some 7,.binOp .lss 3 (ZT 6) (.const (.int .i64 0)) 3,4,none⟩,⟨some 8,.move (ZT 7),4,none⟩,⟨some 9,.fieldAddr 40 (ZT 1) 0,0,some (some 8,false)⟩,⟨some 10,.load 3 (ZT 9),3,some (some 8,false)⟩,⟨some 11,.binOp .gtr 3 (ZT 10) (.const (.int .i64 1000000000)) 3,4,some (some 8,false)⟩,⟨some 12,.pick (ZT 8) (.const (.bool true)) (ZT 11),4,none⟩,⟨some 13,.move (ZT 12),4,none⟩,⟨some 14,.fieldAddr 40 (ZT 1) 2,0,some (some 13,false)⟩,⟨some 15,.load 3 (ZT 14),3,some (some 13,false)⟩,⟨some 16,.binOp .lss 3 (ZT 15) (.const (.int .i64 1)) 3,4,some (some 13,false)⟩,⟨some 17,.pick (ZT 13) (.const (.bool true)) (ZT 16),4,none⟩,⟨some 18,.move (ZT 17),4,none⟩,⟨some 19,.fieldAddr 40 (ZT 1) 2,0,some (some 18,false)⟩,⟨some 20,.load 3 (ZT 19),3,some (some 18,false)⟩,⟨some 21,.binOp .gtr 3 (ZT 20) (.const (.int .i64 1000000000)) 3,4,some (some 18,false)⟩,⟨some 22,.pick (ZT 18) (.const (.bool true)) (ZT 21),4,none⟩,⟨some 23,.move (ZT 22),4,none⟩,⟨some 24,.fieldAddr 40 (ZT 1) 4,0,some (some 23,false)⟩,⟨some 25,.load 3 (ZT 24),3,some (some 23,false)⟩,⟨some 26,.binOp .lss 3 (ZT 25) (.const (.int .i64 0)) 3,4,some (some 23,false)⟩,⟨some 27,.pick (ZT 23) (.const (.bool true)) (ZT 26),4,none⟩,⟨some 28,.move (ZT 27),4,none⟩,⟨some 29,.fieldAddr 40 (ZT 1) 4,0,some (some 28,false)⟩,⟨some 30,.load 3 (ZT 29),3,some (some 28,false)⟩,⟨some 31,.binOp .gtr 3 (ZT 30) (.const (.int .i64 1000000000)) 3,4,some (some 28,false)⟩,⟨some 32,.pick (ZT 28) (.const (.bool true)) (ZT 31),4,none⟩,⟨some 33,.move (ZT 32),4,none⟩,⟨some 34,.fieldAddr 40 (ZT 1) 3,0,some (some 33,false)⟩,⟨some 35,.load 9 (ZT 34),9,some (some 33,false)⟩,⟨some 36,.call ⟨.builtin .len,#[ZT 35],#[9]⟩,3,some (some 33,false)⟩,⟨some 37,.binOp .gtr 3 (ZT 36) (.const (.int .i64 20)) 3,4,some (some 33,false)⟩,⟨some 38,.pick (ZT 33) (.const (.bool true)) (ZT 37),4,none⟩,⟨some 39,.move (ZT 38),4,none⟩,⟨some 40,.fieldAddr 40 (ZT 1) 6,0,some (some 39,false)⟩,⟨some 41,.load 9 (ZT 40),9,some (some 39,false)⟩,⟨some 42,.call ⟨.builtin .len,#[ZT 41],#[9]⟩,3,some (some 39,false)⟩,⟨some 43,.binOp .gtr 3 (ZT 42) (.const (.int .i64 20)) 3,4,some (some 39,false)⟩,⟨some 44,.pick (ZT 39) (.const (.bool true)) (ZT 43),4,none⟩])
    (.cond (ZT 44) (.seq (.ops [⟨some 2,.assign (.const (.bool false)),4,none⟩])
    .ret) .skip))
    (.seq (.ops [⟨some 3,.assign (.const (.int .i64 0)),3,none⟩,⟨some 4,.assign (.const (.int .i64 1)),3,none⟩])
    (.seq (.seq (.ops [⟨some 45,.fieldAddr 40 (ZT 1) 1,0,none⟩,⟨some 46,.load 3 (ZT 45),3,none⟩])
    (.block 0 (.seq (.seq (.ops [⟨some 48,.binOp .eql 3 (ZT 46) (.const (.int .i64 1)) 3,4,none⟩,⟨some 47,.assign (ZT 48),4,none⟩])
    (.cond (ZT 47) .skip (.seq (.ops [⟨some 49,.binOp .eql 3 (ZT 46) (.const (.int .i64 2)) 3,4,none⟩,⟨some 47,.assign (ZT 49),4,none⟩])
    (.cond (ZT 47) .skip (.seq (.ops [⟨some 50,.binOp .eql 3 (ZT 46) (.const (.int .i64 5)) 3,4,none⟩,⟨some 47,.assign (ZT 50),4,none⟩])
    (.cond (ZT 47) .skip (.ops [⟨some 51,.binOp .eql 3 (ZT 46) (.const (.int .i64 6)) 3,4,none⟩,⟨some 47,.assign (ZT 51),4,none⟩])))))))
    (.cond (ZT 47) .skip (.seq (.ops [⟨some 53,.binOp .eql 3 (ZT 46) (.const (.int .i64 3)) 3,4,none⟩,⟨some 52,.assign (ZT 53),4,none⟩])
    (.cond (ZT 52) (.ops [⟨some 4,.assign (.const (.int .i64 0)),3,none⟩]) (.seq (.ops [⟨some 55,.binOp .eql 3 (ZT 46) (.const (.int .i64 4)) 3,4,none⟩,⟨some 54,.assign (ZT 55),4,none⟩])
    (.cond (ZT 54) (.ops [⟨some 3,.assign (.const (.int .i64 (-1099511627776))),3,none⟩,⟨some 4,.assign (.const (.int .i64 1099511627776)),3,none⟩]) (.seq (.ops [⟨some 57,.binOp .eql 3 (ZT 46) (.const (.int .i64 7)) 3,4,none⟩,⟨some 56,.assign (ZT 57),4,none⟩])
    (.cond (ZT 56) (.ops [⟨some 3,.assign (.const (.int .i64 (-1))),3,none⟩,⟨some 4,.assign (.const (.int .i64 15)),3,none⟩]) (.seq (.ops [⟨some 2,.assign (.const (.bool false)),4,none⟩])
    .ret)))))))))))
    (.seq (.seq (.ops [⟨some 58,.fieldAddr 40 (ZT 1) 5,0,none⟩,⟨some 59,.load 3 (ZT 58),3,none⟩,⟨some 60,.move (ZT 3),3,none⟩,⟨some 61,.binOp .lss 3 (ZT 59) (ZT 60) 3,4,none⟩,⟨some 62,.move (ZT 61),4,none⟩,⟨some 63,.fieldAddr 40 (ZT 1) 5,0,some (some 62,false)⟩,⟨some 64,.load 3 (ZT 63),3,some (some 62,false)⟩,⟨some 65,.move (ZT 4),3,some (some 62,false)⟩,⟨some 66,.binOp .gtr 3 (ZT 64) (ZT 65) 3,4,some (some 62,false)⟩,⟨some 67,.pick (ZT 62) (.const (.bool true)) (ZT 66),4,none⟩,⟨some 68,.move (ZT 67),4,none⟩,⟨some 69,.fieldAddr 40 (ZT 1) 1,0,some (some 68,false)⟩,⟨some 70,.load 3 (ZT 69),3,some (some 68,false)⟩,⟨some 71,.binOp .neq 3 (ZT 70) (.const (.int .i64 1)) 3,4,some (some 68,false)⟩,⟨some 72,.move (ZT 71),4,some (some 68,false)⟩,⟨some 73,.fieldAddr 40 (ZT 1) 3,0,some (some 72,true)⟩,⟨some 74,.load 9 (ZT 73),9,some (some 72,true)⟩,⟨some 75,.binOp .neq 9 (ZT 74) (.const (.string { data := #[] })) 9,4,some (some 72,true)⟩,⟨some 76,.pick (ZT 72) (ZT 75) (.const (.bool false)),4,some (some 68,false)⟩,⟨some 77,.pick (ZT 68) (.const (.bool true)) (ZT 76),4,none⟩,⟨some 78,.move (ZT 77),4,none⟩,⟨some 79,.fieldAddr 40 (ZT 1) 1,0,some (some 78,false)⟩,⟨some 80,.load 3 (ZT 79),3,some (some 78,false)⟩,⟨some 81,.binOp .neq 3 (ZT 80) (.const (.int .i64 4)) 3,4,some (some 78,false)⟩,⟨some 82,.move (ZT 81),4,some (some 78,false)⟩,⟨some 83,.fieldAddr 40 (ZT 1) 1,0,some (some 82,true)⟩,⟨some 84,.load 3 (ZT 83),3,some (some 82,true)⟩,⟨some 85,.binOp .neq 3 (ZT 84) (.const (.int .i64 7)) 3,4,some (some 82,true)⟩,⟨some 86,.pick (ZT 82) (ZT 85) (.const (.bool false)),4,some (some 78,false)⟩,⟨some 87,.move (ZT 86),4,some (some 78,false)⟩,⟨some 88,.fieldAddr 40 (ZT 1) 6,0,some (some 87,true)⟩,⟨some 89,.load 9 (ZT 88),9,some (some 87,true)⟩,⟨some 90,.binOp .neq 9 (ZT 89) (.const (.string { data := #[] })) 9,4,some (some 87,true)⟩,⟨some 91,.pick (ZT 87) (ZT 90) (.const (.bool false)),4,some (some 78,false)⟩,⟨some 92,.pick (ZT 78) (.const (.bool true)) (ZT 91),4,none⟩])
    (.cond (ZT 92) (.seq (.ops [⟨some 2,.assign (.const (.bool false)),4,none⟩])
    .ret) .skip))
    (.seq (.ops [⟨some 93,.fieldAddr 40 (ZT 1) 4,0,none⟩,⟨some 94,.load 3 (ZT 93),3,none⟩,⟨some 95,.binOp .eql 3 (ZT 94) (.const (.int .i64 0)) 3,4,none⟩,⟨some 96,.move (ZT 95),4,none⟩,⟨some 97,.fieldAddr 40 (ZT 1) 1,0,some (some 96,false)⟩,⟨some 98,.load 3 (ZT 97),3,some (some 96,false)⟩,⟨some 99,.binOp .eql 3 (ZT 98) (.const (.int .i64 1)) 3,4,some (some 96,false)⟩,⟨some 100,.pick (ZT 96) (.const (.bool true)) (ZT 99),4,none⟩,⟨some 101,.move (ZT 100),4,none⟩,⟨some 102,.fieldAddr 40 (ZT 1) 1,0,some (some 101,false)⟩,⟨some 103,.load 3 (ZT 102),3,some (some 101,false)⟩,⟨some 104,.binOp .eql 3 (ZT 103) (.const (.int .i64 2)) 3,4,some (some 101,false)⟩,⟨some 105,.pick (ZT 101) (.const (.bool true)) (ZT 104),4,none⟩,⟨some 106,.move (ZT 105),4,none⟩,⟨some 107,.fieldAddr 40 (ZT 1) 1,0,some (some 106,false)⟩,⟨some 108,.load 3 (ZT 107),3,some (some 106,false)⟩,⟨some 109,.binOp .eql 3 (ZT 108) (.const (.int .i64 5)) 3,4,some (some 106,false)⟩,⟨some 110,.pick (ZT 106) (.const (.bool true)) (ZT 109),4,none⟩,⟨some 2,.assign (ZT 110),4,none⟩])
    .ret))))))
def pl67 : Nat → Plan := fun _ => .done
theorem st67 : Go.Proofs.Tryz.f67.body.map (strip pl67) = some m67 := by kernel_rfl
theorem ok67 : okB pl67 Go.Proofs.Tryz.f67 1 = true := by kernel_rfl
theorem en67 {v0 w} {Q : Value → World → Prop} (h : mwpB ZP m67 (argEnv [v0]) [] w (fun e ds w => ds = [] ∧ resW ZP [.tmp 2] e w fun v => Q v w) (fun _ _ _ _ => False) (fun e ds w => ds = [] ∧ resW ZP [.tmp 2] e w fun v => Q v w) (fun _ _ _ _ => False) ⟨⟩) : Rets ZP 67 #[v0] w Q :=
  rets_of_mwp follows_mo Go.Proofs.Tryz.func67 pl67 st67 ok67 (by kernel_rfl) h
end Go.Proofs.YtdkdibeimeaakabGreatDoor
