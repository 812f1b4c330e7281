/- The functions, stripped. -/
import Derived.Test.YthcdnjbhhaonhaaGreatDoorQvMwT
import Derived.Test.YthcdnjbhhaonhaaGreatDoorQvMwIn

namespace Go.Proofs.YthcdnjbhhaonhaaGreatDoor
open Go.RowKit
open Go.Operand renaming tmp → ZT
open Go.Proofs.Tryz renaming prog → ZP
set_option maxRecDepth 100000
def m50 : MC := (.seq (.ops [⟨some 1,.box 64 (ZT 0),0,none⟩,⟨some 2,.alloc 24,0,none⟩,⟨some 3,.assign (.const (.int .i64 0)),28,none⟩])
    (.seq (.seq (.ops [⟨some 9,.load 64 (ZT 1),64,none⟩,⟨some 10,.call ⟨.value (.func 89),#[ZT 9],#[64]⟩,4,none⟩,⟨some 11,.unOp .not 4 (ZT 10),4,none⟩,⟨some 12,.move (ZT 11),4,none⟩,⟨some 13,.fieldAddr 64 (ZT 1) 0,0,some (some 12,false)⟩,⟨some 14,.load 3 (ZT 13),3,some (some 12,false)⟩,⟨some 15,.binOp .neq 3 (ZT 14) (.const (.int .i64 8)) 3,4,some (some 12,false)⟩,⟨some 16,.pick (ZT 12) (.const (.bool true)) (ZT 15),4,none⟩,⟨some 17,.move (ZT 16),4,none⟩,⟨some 18,.fieldAddr 64 (ZT 1) 1,0,some (some 17,false)⟩,⟨some 19,.load 3 (ZT 18),3,some (some 17,false)⟩,⟨some 20,.binOp .lss 3 (ZT 19) (.const (.int .i64 1)) 3,4,some (some 17,false)⟩,⟨some 21,.pick (ZT 17) (.const (.bool true)) (ZT 20),4,none⟩,⟨some 22,.move (ZT 21),4,none⟩,⟨some 23,.fieldAddr 64 (ZT 1) 1,0,some (some 22,false)⟩,⟨some 24,.load 3 (ZT 23),3,some (some 22,false)⟩,⟨some 25,.binOp .gtr 3 (ZT 24) (.const (.int .i64 3)) 3,4,some (some 22,false)⟩,⟨some 26,.pick (ZT 22) (.const (.bool true)) (ZT 25),4,none⟩])
    (.cond (ZT 26) (.seq (.ops [⟨some 27,.build 24 #[],24,none⟩,⟨none,.store 24 (ZT 2) (ZT 27),0,none⟩,⟨some 3,.assign (.const (.int .i64 10)),28,none⟩])
    .ret) .skip))
    (.seq (.ops [⟨some 28,.fieldAddr 64 (ZT 1) 1,0,none⟩,⟨some 29,.load 3 (ZT 28),3,none⟩,⟨some 30,.build 24 #[(0,ZT 29)],24,none⟩,⟨some 4,.alloc 24,0,none⟩,⟨none,.store 24 (ZT 4) (ZT 30),0,none⟩])
    (.seq (.seq (.ops [⟨some 5,.assign (.const (.int .i64 0)),3,none⟩])
    (.block 0 (.loop (.seq (.seq (.ops [⟨some 31,.move (ZT 5),3,none⟩,⟨some 32,.fieldAddr 64 (ZT 1) 4,0,none⟩,⟨some 33,.load 62 (ZT 32),62,none⟩,⟨some 34,.call ⟨.builtin .len,#[ZT 33],#[62]⟩,3,none⟩,⟨some 35,.binOp .lss 3 (ZT 31) (ZT 34) 3,4,none⟩])
    (.cond (ZT 35) .skip (.exit 0)))
    (.seq (.block 1 (.seq (.ops [⟨some 38,.fieldAddr 64 (ZT 1) 4,0,none⟩,⟨some 39,.load 62 (ZT 38),62,none⟩,⟨some 40,.move (ZT 5),3,none⟩,⟨some 41,.indexAddr 62 (ZT 39) (ZT 40),0,none⟩,⟨some 42,.load 64 (ZT 41),64,none⟩,⟨some 6,.alloc 64,0,none⟩,⟨none,.store 64 (ZT 6) (ZT 42),0,none⟩])
    (.seq (.seq (.ops [⟨some 43,.fieldAddr 64 (ZT 1) 3,0,none⟩,⟨some 44,.load 33 (ZT 43),33,none⟩,⟨some 45,.move (ZT 5),3,none⟩,⟨some 46,.indexAddr 33 (ZT 44) (ZT 45),0,none⟩,⟨some 47,.load 3 (ZT 46),3,none⟩,⟨some 48,.binOp .lss 3 (ZT 47) (.const (.int .i64 1)) 3,4,none⟩,⟨some 49,.move (ZT 48),4,none⟩,⟨some 50,.fieldAddr 64 (ZT 1) 3,0,some (some 49,false)⟩,⟨some 51,.load 33 (ZT 50),33,some (some 49,false)⟩,⟨some 52,.move (ZT 5),3,some (some 49,false)⟩,⟨some 53,.indexAddr 33 (ZT 51) (ZT 52),0,some (some 49,false)⟩,⟨some 54,.load 3 (ZT 53),3,some (some 49,false)⟩,⟨some 55,.binOp .gtr 3 (ZT 54) (.const (.int .i64 6)) 3,4,some (some 49,false)⟩,⟨some 56,.pick (ZT 49) (.const (.bool true)) (ZT 55),4,none⟩,⟨some 57,.move (ZT 56),4,none⟩,⟨some 58,.fieldAddr 64 (ZT 6) 0,0,some (some 57,false)⟩,⟨some 59,.load 3 (ZT 58),3,some (some 57,false)⟩,⟨some 60,.binOp .neq 3 (ZT 59) (.const (.int .i64 9)) 3,4,some (some 57,false)⟩,⟨some 61,.pick (ZT 57) (.const (.bool true)) (ZT 60),4,none⟩])
    (.cond (ZT 61) (.seq (.ops [⟨some 62,.build 24 #[],24,none⟩,⟨none,.store 24 (ZT 2) (ZT 62),0,none⟩,⟨some 3,.assign (.const (.int .i64 10)),28,none⟩])
    .ret) .skip))
    (.seq (.draw (.take ⟨some 63,.fieldAddr 64 (ZT 6) 1,0,none⟩ (.take ⟨some 64,.load 3 (ZT 63),3,none⟩ (.take ⟨some 65,.fieldAddr 64 (ZT 6) 4,0,none⟩ (.take ⟨some 66,.load 62 (ZT 65),62,none⟩ (.take ⟨some 67,.indexAddr 62 (ZT 66) (.const (.int .i64 0)),0,none⟩ (.take ⟨some 68,.fieldAddr 64 (ZT 67) 1,0,none⟩ (.take ⟨some 69,.load 3 (ZT 68),3,none⟩ (.take ⟨some 70,.build 35 #[(0,ZT 64),(1,ZT 69)],35,none⟩ (.alt ⟨some 7,.alloc 35,0,none⟩ (.altL ⟨none,.store 35 (ZT 7) (ZT 70),0,none⟩ .done .none) .none))))))))))
    (.seq (.seq (.ops [⟨some 71,.fieldAddr 64 (ZT 6) 1,0,none⟩,⟨some 72,.load 3 (ZT 71),3,none⟩,⟨some 73,.binOp .eql 3 (ZT 72) (.const (.int .i64 1)) 3,4,none⟩])
    (.cond (ZT 73) (.ops [⟨some 74,.fieldAddr 35 (ZT 7) 1,0,none⟩,⟨some 75,.load 3 (ZT 74),3,none⟩,⟨some 76,.buildSlice 33 1 #[(0,ZT 75)],33,none⟩,⟨some 77,.fieldAddr 35 (ZT 7) 2,0,none⟩,⟨none,.store 33 (ZT 77) (ZT 76),0,none⟩]) .skip))
    (.seq (.seq (.ops [⟨some 8,.assign (.const (.int .i64 1)),3,none⟩])
    (.block 2 (.loop (.seq (.seq (.ops [⟨some 78,.move (ZT 8),3,none⟩,⟨some 79,.fieldAddr 64 (ZT 6) 4,0,none⟩,⟨some 80,.load 62 (ZT 79),62,none⟩,⟨some 81,.call ⟨.builtin .len,#[ZT 80],#[62]⟩,3,none⟩,⟨some 82,.binOp .lss 3 (ZT 78) (ZT 81) 3,4,none⟩])
    (.cond (ZT 82) .skip (.exit 2)))
    (.seq (.block 3 (.draw (.take ⟨some 85,.fieldAddr 35 (ZT 7) 2,0,none⟩ (.take ⟨some 86,.load 33 (ZT 85),33,none⟩ (.take ⟨some 87,.fieldAddr 64 (ZT 6) 4,0,none⟩ (.take ⟨some 88,.load 62 (ZT 87),62,none⟩ (.take ⟨some 89,.move (ZT 8),3,none⟩ (.take ⟨some 90,.indexAddr 62 (ZT 88) (ZT 89),0,none⟩ (.take ⟨some 91,.fieldAddr 64 (ZT 90) 1,0,none⟩ (.take ⟨some 92,.load 3 (ZT 91),3,none⟩ (.alt ⟨some 93,.buildSlice 33 1 #[(0,ZT 92)],33,none⟩ (.alt ⟨some 94,.call ⟨.builtin .append,#[ZT 86,ZT 93],#[33,33]⟩,33,none⟩ (.take ⟨some 95,.fieldAddr 35 (ZT 7) 2,0,none⟩ (.altL ⟨none,.store 33 (ZT 95) (ZT 94),0,none⟩ .done .none)) .none) .none)))))))))))
    (.ops [⟨some 83,.move (ZT 8),3,none⟩,⟨some 84,.binOp .add 3 (ZT 83) (.const (.int .i64 1)) 3,3,none⟩,⟨some 8,.assign (ZT 84),3,none⟩]))))))
    (.draw (.take ⟨some 96,.fieldAddr 24 (ZT 4) 1,0,none⟩ (.take ⟨some 97,.load 22 (ZT 96),22,none⟩ (.take ⟨some 98,.fieldAddr 64 (ZT 1) 3,0,none⟩ (.take ⟨some 99,.load 33 (ZT 98),33,none⟩ (.take ⟨some 100,.move (ZT 5),3,none⟩ (.take ⟨some 101,.indexAddr 33 (ZT 99) (ZT 100),0,none⟩ (.take ⟨some 102,.load 3 (ZT 101),3,none⟩ (.take ⟨some 103,.load 35 (ZT 7),35,none⟩ (.take ⟨some 104,.build 72 #[(0,ZT 102),(1,ZT 103)],72,none⟩ (.alt ⟨some 105,.buildSlice 22 1 #[(0,ZT 104)],22,none⟩ (.alt ⟨some 106,.call ⟨.builtin .append,#[ZT 97,ZT 105],#[22,22]⟩,22,none⟩ (.take ⟨some 107,.fieldAddr 24 (ZT 4) 1,0,none⟩ (.altL ⟨none,.store 22 (ZT 107) (ZT 106),0,none⟩ .done .none)) .none) .none)))))))))))))))))
    (.ops [⟨some 36,.move (ZT 5),3,none⟩,⟨some 37,.binOp .add 3 (ZT 36) (.const (.int .i64 1)) 3,3,none⟩,⟨some 5,.assign (ZT 37),3,none⟩]))))))
    (.seq (.seq (.ops [⟨some 108,.load 24 (ZT 4),24,none⟩,⟨some 109,.call ⟨.value (.func 27),#[ZT 108],#[24]⟩,4,none⟩,⟨some 110,.unOp .not 4 (ZT 109),4,none⟩])
    (.cond (ZT 110) (.seq (.ops [⟨some 111,.build 24 #[],24,none⟩,⟨none,.store 24 (ZT 2) (ZT 111),0,none⟩,⟨some 3,.assign (.const (.int .i64 1)),28,none⟩])
    .ret) .skip))
    (.seq (.ops [⟨some 112,.load 24 (ZT 4),24,none⟩,⟨none,.store 24 (ZT 2) (ZT 112),0,none⟩,⟨some 3,.assign (.const (.int .i64 0)),28,none⟩])
    .ret))))))
def pl50 : Nat → Plan := fun id => if id = 10 then (.take 0 (.take 1 (.take 2 (.take 3 (.take 4 (.take 5 (.take 6 (.take 7 (.alt 8 (.altL 9 .done .none) .none))))))))) else if id = 16 then (.take 0 (.take 1 (.take 2 (.take 3 (.take 4 (.take 5 (.take 6 (.take 7 (.alt 8 (.alt 9 (.take 10 (.altL 11 .done .none)) .none) .none))))))))) else if id = 17 then (.take 0 (.take 1 (.take 2 (.take 3 (.take 4 (.take 5 (.take 6 (.take 7 (.take 8 (.alt 9 (.alt 10 (.take 11 (.altL 12 .done .none)) .none) .none)))))))))) else .done
theorem st50 : Go.Proofs.Tryz.f50.body.map (strip pl50) = some m50 := by kernel_rfl
theorem ok50 : okB pl50 Go.Proofs.Tryz.f50 1 = true := by kernel_rfl
theorem en50 {v0 w} {Q : Value → World → Prop} (h : mwpB ZP m50 (argEnv [v0]) [] w (fun e ds w => ds = [] ∧ resW ZP [.cell 2 24, .tmp 3] e w fun v => Q v w) (fun _ _ _ _ => False) (fun e ds w => ds = [] ∧ resW ZP [.cell 2 24, .tmp 3] e w fun v => Q v w) (fun _ _ _ _ => False) ⟨⟩) : Rets ZP 50 #[v0] w Q :=
  rets_of_mwp follows_mo Go.Proofs.Tryz.func50 pl50 st50 ok50 (by kernel_rfl) h
def m51 : MC := (.seq (.ops [⟨some 2,.box 64 (ZT 0),0,none⟩,⟨some 3,.box 64 (ZT 1),0,none⟩,⟨some 4,.assign (.const (.bool false)),4,none⟩])
    (.seq (.seq (.ops [⟨some 7,.fieldAddr 64 (ZT 2) 0,0,none⟩,⟨some 8,.load 3 (ZT 7),3,none⟩,⟨some 9,.fieldAddr 64 (ZT 3) 0,0,none⟩,⟨some 10,.load 3 (ZT 9),3,none⟩,⟨some 11,.binOp .neq 3 (ZT 8) (ZT 10) 3,4,none⟩,⟨some 12,.move (ZT 11),4,none⟩,⟨some 13,.fieldAddr 64 (ZT 2) 1,0,some (some 12,false)⟩,⟨some 14,.load 3 (ZT 13),3,some (some 12,false)⟩,⟨some 15,.fieldAddr 64 (ZT 3) 1,0,some (some 12,false)⟩,⟨some 16,.load 3 (ZT 15),3,some (some 12,false)⟩,⟨some 17,.binOp .neq 3 (ZT 14) (ZT 16) 3,4,some (some 12,false)⟩,⟨some 18,.pick (ZT 12) (.const (.bool true)) (ZT 17),4,none⟩,⟨some 19,.move (ZT 18),4,none⟩,⟨some 20,.fieldAddr 64 (ZT 2) 2,0,some (some 19,false)⟩,⟨some 21,.load 9 (ZT 20),9,some (some 19,false)⟩,⟨some 22,.fieldAddr 64 (ZT 3) 2,0,some (some 19,false)⟩,⟨some 23,.load 9 (ZT 22),9,some (some 19,false)⟩,⟨some 24,.binOp .neq 9 (ZT 21) (ZT 23) 9,4,some (some 19,false)⟩,⟨some 25,.pick (ZT 19) (.const (.bool true)) (ZT 24),4,none⟩,⟨some 26,.move (ZT 25),4,none⟩,⟨some 27,.fieldAddr 64 (ZT 2) 3,0,some (some 26,false)⟩,⟨some 28,.load 33 (ZT 27),33,some (some 26,false)⟩,⟨some 29,.call ⟨.builtin .len,#[ZT 28],#[33]⟩,3,some (some 26,false)⟩,⟨some 30,.fieldAddr 64 (ZT 3) 3,0,some (some 26,false)⟩,⟨some 31,.load 33 (ZT 30),33,some (some 26,false)⟩,⟨some 32,.call ⟨.builtin .len,#[ZT 31],#[33]⟩,3,some (some 26,false)⟩,⟨some 33,.binOp .neq 3 (ZT 29) (ZT 32) 3,4,some (some 26,false)⟩,⟨some 34,.pick (ZT 26) (.const (.bool true)) (ZT 33),4,none⟩,⟨some 35,.move (ZT 34),4,none⟩,⟨some 36,.fieldAddr 64 (ZT 2) 4,0,some (some 35,false)⟩,⟨some 37,.load 62 (ZT 36),62,some (some 35,false)⟩,⟨some 38,.call ⟨.builtin .len,#[ZT 37],#[62]⟩,3,some (some 35,false)⟩,⟨some 39,.fieldAddr 64 (ZT 3) 4,0,some (some 35,false)⟩,⟨some 40,.load 62 (ZT 39),62,some (some 35,false)⟩,⟨some 41,.call ⟨.builtin .len,#[ZT 40],#[62]⟩,3,some (some 35,false)⟩,⟨some 42,.binOp .neq 3 (ZT 38) (ZT 41) 3,4,some (some 35,false)⟩,⟨some 43,.pick (ZT 35) (.const (.bool true)) (ZT 42),4,none⟩])
    (.cond (ZT 43) (.seq (.ops [⟨some 4,.assign (.const (.bool false)),4,none⟩])
    .ret) .skip))
    (.seq (.seq (.ops [⟨some 5,.assign (.const (.int .i64 0)),3,none⟩])
    (.block 0 (.loop (.seq (.seq (.ops [⟨some 44,.move (ZT 5),3,none⟩,⟨some 45,.fieldAddr 64 (ZT 2) 3,0,none⟩,⟨some 46,.load 33 (ZT 45),33,none⟩,⟨some 47,.call ⟨.builtin .len,#[ZT 46],#[33]⟩,3,none⟩,⟨some 48,.binOp .lss 3 (ZT 44) (ZT 47) 3,4,none⟩])
    (.cond (ZT 48) .skip (.exit 0)))
    (.seq (.block 1 (.seq (.draw (.take ⟨some 51,.fieldAddr 64 (ZT 2) 3,0,none⟩ (.take ⟨some 52,.load 33 (ZT 51),33,none⟩ (.take ⟨some 53,.move (ZT 5),3,none⟩ (.take ⟨some 54,.indexAddr 33 (ZT 52) (ZT 53),0,none⟩ (.take ⟨some 55,.load 3 (ZT 54),3,none⟩ (.take ⟨some 56,.fieldAddr 64 (ZT 3) 3,0,none⟩ (.take ⟨some 57,.load 33 (ZT 56),33,none⟩ (.take ⟨some 58,.move (ZT 5),3,none⟩ (.take ⟨some 59,.indexAddr 33 (ZT 57) (ZT 58),0,none⟩ (.take ⟨some 60,.load 3 (ZT 59),3,none⟩ (.take ⟨some 61,.binOp .neq 3 (ZT 55) (ZT 60) 3,4,none⟩ .done))))))))))))
    (.cond (ZT 61) (.seq (.ops [⟨some 4,.assign (.const (.bool false)),4,none⟩])
    .ret) .skip)))
    (.ops [⟨some 49,.move (ZT 5),3,none⟩,⟨some 50,.binOp .add 3 (ZT 49) (.const (.int .i64 1)) 3,3,none⟩,⟨some 5,.assign (ZT 50),3,none⟩]))))))
    (.seq (.seq (.ops [⟨some 6,.assign (.const (.int .i64 0)),3,none⟩])
    (.block 2 (.loop (.seq (.seq (.ops [⟨some 62,.move (ZT 6),3,none⟩,⟨some 63,.fieldAddr 64 (ZT 2) 4,0,none⟩,⟨some 64,.load 62 (ZT 63),62,none⟩,⟨some 65,.call ⟨.builtin .len,#[ZT 64],#[62]⟩,3,none⟩,⟨some 66,.binOp .lss 3 (ZT 62) (ZT 65) 3,4,none⟩])
    (.cond (ZT 66) .skip (.exit 2)))
    (.seq (.block 3 (.seq (.draw (.take ⟨some 69,.fieldAddr 64 (ZT 2) 4,0,none⟩ (.take ⟨some 70,.load 62 (ZT 69),62,none⟩ (.take ⟨some 71,.move (ZT 6),3,none⟩ (.take ⟨some 72,.indexAddr 62 (ZT 70) (ZT 71),0,none⟩ (.take ⟨some 73,.load 64 (ZT 72),64,none⟩ (.take ⟨some 74,.fieldAddr 64 (ZT 3) 4,0,none⟩ (.take ⟨some 75,.load 62 (ZT 74),62,none⟩ (.take ⟨some 76,.move (ZT 6),3,none⟩ (.take ⟨some 77,.indexAddr 62 (ZT 75) (ZT 76),0,none⟩ (.take ⟨some 78,.load 64 (ZT 77),64,none⟩ (.alt ⟨some 79,.call ⟨.value (.func 51),#[ZT 73,ZT 78],#[64,64]⟩,4,none⟩ (.take ⟨some 80,.unOp .not 4 (ZT 79),4,none⟩ .done) .none))))))))))))
    (.cond (ZT 80) (.seq (.ops [⟨some 4,.assign (.const (.bool false)),4,none⟩])
    .ret) .skip)))
    (.ops [⟨some 67,.move (ZT 6),3,none⟩,⟨some 68,.binOp .add 3 (ZT 67) (.const (.int .i64 1)) 3,3,none⟩,⟨some 6,.assign (ZT 68),3,none⟩]))))))
    (.seq (.ops [⟨some 4,.assign (.const (.bool true)),4,none⟩])
    .ret)))))
def pl51 : Nat → Plan := fun id => if id = 6 then (.take 0 (.take 1 (.take 2 (.take 3 (.take 4 (.take 5 (.take 6 (.take 7 (.take 8 (.take 9 (.take 10 .done))))))))))) else if id = 11 then (.take 0 (.take 1 (.take 2 (.take 3 (.take 4 (.take 5 (.take 6 (.take 7 (.take 8 (.take 9 (.alt 10 (.take 11 .done) .none))))))))))) else .done
theorem st51 : Go.Proofs.Tryz.f51.body.map (strip pl51) = some m51 := by kernel_rfl
theorem ok51 : okB pl51 Go.Proofs.Tryz.f51 2 = true := by kernel_rfl
theorem en51 {v0 v1 w} {Q : Value → World → Prop} (h : mwpB ZP m51 (argEnv [v0, v1]) [] w (fun e ds w => ds = [] ∧ resW ZP [.tmp 4] e w fun v => Q v w) (fun _ _ _ _ => False) (fun e ds w => ds = [] ∧ resW ZP [.tmp 4] e w fun v => Q v w) (fun _ _ _ _ => False) ⟨⟩) : Rets ZP 51 #[v0, v1] w Q :=
  rets_of_mwp follows_mo Go.Proofs.Tryz.func51 pl51 st51 ok51 (by kernel_rfl) h
def m66 : MC := (.seq (.ops [⟨some 1,.box 35 (ZT 0),0,none⟩,⟨some 2,.assign (.const .nilIface),86,none⟩])
    (.seq (.block 0 (.seq (.seq (.ops [⟨some 4,.fieldAddr 35 (ZT 1) 0,0,none⟩,⟨some 5,.load 3 (ZT 4),3,none⟩,⟨some 6,.binOp .eql 3 (ZT 5) (.const (.int .i64 1)) 3,4,none⟩,⟨some 7,.move (ZT 6),4,none⟩,⟨some 8,.fieldAddr 35 (ZT 1) 2,0,some (some 7,true)⟩,⟨some 9,.load 33 (ZT 8),33,some (some 7,true)⟩,⟨some 10,.call ⟨.builtin .len,#[ZT 9],#[33]⟩,3,some (some 7,true)⟩,⟨some 11,.binOp .eql 3 (ZT 10) (.const (.int .i64 1)) 3,4,some (some 7,true)⟩,⟨some 12,.pick (ZT 7) (ZT 11) (.const (.bool false)),4,none⟩,⟨some 3,.assign (ZT 12),4,none⟩])
    (.cond (ZT 3) .skip (.ops [⟨some 13,.fieldAddr 35 (ZT 1) 0,0,none⟩,⟨some 14,.load 3 (ZT 13),3,none⟩,⟨some 15,.binOp .eql 3 (ZT 14) (.const (.int .i64 2)) 3,4,none⟩,⟨some 3,.assign (ZT 15),4,none⟩])))
    (.cond (ZT 3) (.seq (.ops [⟨some 16,.fieldAddr 35 (ZT 1) 2,0,none⟩,⟨some 17,.load 33 (ZT 16),33,none⟩,⟨some 18,.makeInterface 110 (ZT 17),86,none⟩,⟨some 2,.assign (ZT 18),86,none⟩])
    .ret) (.seq (.ops [⟨some 20, .fieldAddr 35 (.tmp 1) 0, 0, none⟩, ⟨some 21, .load 3 (.tmp 20), 3, none⟩, ⟨some 22, .binOp .eql 3 (.tmp 21) (.const (.int .i64 3)) 3, 4, none⟩, ⟨some 23, .move (.tmp 22), 4, none⟩, ⟨some 24, .fieldAddr 35 (.tmp 1) 2, 0, some (some 23, true)⟩, ⟨some 25, .load 33 (.tmp 24), 33, some (some 23, true)⟩, ⟨some 26, .call ⟨.builtin .len, #[.tmp 25], #[33]⟩, 3, some (some 23, true)⟩, ⟨some 27, .binOp .eql 3 (.tmp 26) (.const (.int .i64 2)) 3, 4, some (some 23, true)⟩, ⟨some 28, .pick (.tmp 23) (.tmp 27) (.const (.bool false)), 4, none⟩, ⟨some 19, .assign (.tmp 28), 4, none⟩])
    (.cond (ZT 19) (.seq (.draw (.take ⟨some 29,.fieldAddr 35 (ZT 1) 2,0,none⟩ (.take ⟨some 30,.load 33 (ZT 29),33,none⟩ (.take ⟨some 31,.indexAddr 33 (ZT 30) (.const (.int .i64 0)),0,none⟩ (.take ⟨some 32,.load 3 (ZT 31),3,none⟩ (.take ⟨some 33,.fieldAddr 35 (ZT 1) 2,0,none⟩ (.take ⟨some 34,.load 33 (ZT 33),33,none⟩ (.take ⟨some 35,.indexAddr 33 (ZT 34) (.const (.int .i64 1)),0,none⟩ (.take ⟨some 36,.load 3 (ZT 35),3,none⟩ (.take ⟨some 37,.build 112 #[(0,ZT 32),(1,ZT 36),(2,.const (.int .i64 1)),(3,.const (.bool true)),(4,.const (.bool true))],112,none⟩ (.take ⟨some 38,.makeInterface 112 (ZT 37),86,none⟩ (.take ⟨some 2,.assign (ZT 38),86,none⟩ .done))))))))))))
    .ret) (.seq (.ops [⟨some 40, .fieldAddr 35 (.tmp 1) 0, 0, none⟩, ⟨some 41, .load 3 (.tmp 40), 3, none⟩, ⟨some 42, .binOp .eql 3 (.tmp 41) (.const (.int .i64 4)) 3, 4, none⟩, ⟨some 43, .move (.tmp 42), 4, none⟩, ⟨some 44, .fieldAddr 35 (.tmp 1) 2, 0, some (some 43, true)⟩, ⟨some 45, .load 33 (.tmp 44), 33, some (some 43, true)⟩, ⟨some 46, .call ⟨.builtin .len, #[.tmp 45], #[33]⟩, 3, some (some 43, true)⟩, ⟨some 47, .binOp .eql 3 (.tmp 46) (.const (.int .i64 3)) 3, 4, some (some 43, true)⟩, ⟨some 48, .pick (.tmp 43) (.tmp 47) (.const (.bool false)), 4, none⟩, ⟨some 39, .assign (.tmp 48), 4, none⟩])
    (.cond (ZT 39) (.seq (.draw (.take ⟨some 49,.fieldAddr 35 (ZT 1) 2,0,none⟩ (.take ⟨some 50,.load 33 (ZT 49),33,none⟩ (.take ⟨some 51,.indexAddr 33 (ZT 50) (.const (.int .i64 0)),0,none⟩ (.take ⟨some 52,.load 3 (ZT 51),3,none⟩ (.take ⟨some 53,.fieldAddr 35 (ZT 1) 2,0,none⟩ (.take ⟨some 54,.load 33 (ZT 53),33,none⟩ (.take ⟨some 55,.indexAddr 33 (ZT 54) (.const (.int .i64 1)),0,none⟩ (.take ⟨some 56,.load 3 (ZT 55),3,none⟩ (.take ⟨some 57,.fieldAddr 35 (ZT 1) 2,0,none⟩ (.take ⟨some 58,.load 33 (ZT 57),33,none⟩ (.take ⟨some 59,.indexAddr 33 (ZT 58) (.const (.int .i64 2)),0,none⟩ (.take ⟨some 60,.load 3 (ZT 59),3,none⟩ (.take ⟨some 61,.build 112 #[(0,ZT 52),(1,ZT 56),(2,ZT 60),(3,.const (.bool false)),(4,.const (.bool true))],112,none⟩ (.take ⟨some 62,.makeInterface 112 (ZT 61),86,none⟩ (.take ⟨some 2,.assign (ZT 62),86,none⟩ .done))))))))))))))))
    .ret) .skip)))))))
    (.seq (.ops [⟨some 63,.build 112 #[],112,none⟩,⟨some 64,.makeInterface 112 (ZT 63),86,none⟩,⟨some 2,.assign (ZT 64),86,none⟩])
    .ret)))
def pl66 : Nat → Plan := fun id => if id = 5 then (.take 0 (.take 1 (.take 2 (.take 3 (.take 4 (.take 5 (.take 6 (.take 7 (.take 8 (.take 9 (.take 10 .done))))))))))) else if id = 7 then (.take 0 (.take 1 (.take 2 (.take 3 (.take 4 (.take 5 (.take 6 (.take 7 (.take 8 (.take 9 (.take 10 (.take 11 (.take 12 (.take 13 (.take 14 .done))))))))))))))) else .done
theorem st66 : Go.Proofs.Tryz.f66.body.map (strip pl66) = some m66 := by kernel_rfl
theorem ok66 : okB pl66 Go.Proofs.Tryz.f66 1 = true := by kernel_rfl
theorem en66 {v0 w} {Q : Value → World → Prop} (h : mwpB ZP m66 (argEnv [v0]) [] w (fun e ds w => ds = [] ∧ resW ZP [.tmp 2] e w fun v => Q v w) (fun _ _ _ _ => False) (fun e ds w => ds = [] ∧ resW ZP [.tmp 2] e w fun v => Q v w) (fun _ _ _ _ => False) ⟨⟩) : Rets ZP 66 #[v0] w Q :=
  rets_of_mwp follows_mo Go.Proofs.Tryz.func66 pl66 st66 ok66 (by kernel_rfl) h
def m70 : MC := (.seq (.ops [⟨some 1,.box 35 (ZT 0),0,none⟩,⟨some 2,.assign (.const (.int .i64 0)),3,none⟩])
    (.seq (.seq (.ops [⟨some 3,.fieldAddr 35 (ZT 1) 0,0,none⟩,⟨some 4,.load 3 (ZT 3),3,none⟩,⟨some 5,.binOp .eql 3 (ZT 4) (.const (.int .i64 4)) 3,4,none⟩])
    (.cond (ZT 5) (.seq (.ops [⟨some 6,.fieldAddr 35 (ZT 1) 2,0,none⟩,⟨some 7,.load 33 (ZT 6),33,none⟩,⟨some 8,.indexAddr 33 (ZT 7) (.const (.int .i64 2)),0,none⟩,⟨some 9,.load 3 (ZT 8),3,none⟩,⟨some 2,.assign (ZT 9),3,none⟩])
    .ret) .skip))
    (.seq (.ops [⟨some 2,.assign (.const (.int .i64 1)),3,none⟩])
    .ret)))
def pl70 : Nat → Plan := fun _ => .done
theorem st70 : Go.Proofs.Tryz.f70.body.map (strip pl70) = some m70 := by kernel_rfl
theorem ok70 : okB pl70 Go.Proofs.Tryz.f70 1 = true := by kernel_rfl
theorem en70 {v0 w} {Q : Value → World → Prop} (h : mwpB ZP m70 (argEnv [v0]) [] w (fun e ds w => ds = [] ∧ resW ZP [.tmp 2] e w fun v => Q v w) (fun _ _ _ _ => False) (fun e ds w => ds = [] ∧ resW ZP [.tmp 2] e w fun v => Q v w) (fun _ _ _ _ => False) ⟨⟩) : Rets ZP 70 #[v0] w Q :=
  rets_of_mwp follows_mo Go.Proofs.Tryz.func70 pl70 st70 ok70 (by kernel_rfl) h
def m87 : MC := (.seq (.ops [⟨some 2,.box 64 (ZT 0),0,none⟩,⟨some 4,.assign (.const (.int .i64 0)),3,none⟩])
    (.seq (.ops [⟨some 6,.move (ZT 1),3,none⟩,⟨some 7,.binOp .sub 3 (ZT 6) (.const (.int .i64 1)) 3,3,none⟩,⟨some 8,.fieldAddr 64 (ZT 2) 3,0,none⟩,⟨some 9,.load 33 (ZT 8),33,none⟩,⟨some 10,.call ⟨.builtin .len,#[ZT 9],#[33]⟩,3,none⟩,⟨some 11,.binOp .sub 3 (ZT 7) (ZT 10) 3,3,none⟩,⟨some 12,.fieldAddr 64 (ZT 2) 2,0,none⟩,⟨some 13,.load 9 (ZT 12),9,none⟩,⟨some 14,.call ⟨.builtin .len,#[ZT 13],#[9]⟩,3,none⟩,⟨some 15,.binOp .quo 3 (ZT 14) (.const (.int .i64 64)) 3,3,none⟩,⟨some 16,.binOp .sub 3 (ZT 11) (ZT 15) 3,3,none⟩,⟨some 1,.assign (ZT 16),3,none⟩])
    (.seq (.seq (.ops [⟨some 5,.assign (.const (.int .i64 0)),3,none⟩])
    (.block 0 (.loop (.seq (.seq (.ops [⟨some 17,.move (ZT 5),3,none⟩,⟨some 18,.fieldAddr 64 (ZT 2) 4,0,none⟩,⟨some 19,.load 62 (ZT 18),62,none⟩,⟨some 20,.call ⟨.builtin .len,#[ZT 19],#[62]⟩,3,none⟩,⟨some 21,.binOp .lss 3 (ZT 17) (ZT 20) 3,4,none⟩,⟨some 22,.move (ZT 21),4,none⟩,⟨some 23,.move (ZT 1),3,some (some 22,true)⟩,⟨some 24,.binOp .gtr 3 (ZT 23) (.const (.int .i64 0)) 3,4,some (some 22,true)⟩,⟨some 25,.pick (ZT 22) (ZT 24) (.const (.bool false)),4,none⟩])
    (.cond (ZT 25) .skip (.exit 0)))
    (.seq (.block 1 (.ops [⟨some 28,.fieldAddr 64 (ZT 2) 4,0,none⟩,⟨some 29,.load 62 (ZT 28),62,none⟩,⟨some 30,.move (ZT 5),3,none⟩,⟨some 31,.indexAddr 62 (ZT 29) (ZT 30),0,none⟩,⟨some 32,.load 64 (ZT 31),64,none⟩,⟨some 33,.move (ZT 1),3,none⟩,⟨some 34,.call ⟨.value (.func 87),#[ZT 32,ZT 33],#[64,3]⟩,3,none⟩,⟨some 1,.assign (ZT 34),3,none⟩]))
    (.ops [⟨some 26,.move (ZT 5),3,none⟩,⟨some 27,.binOp .add 3 (ZT 26) (.const (.int .i64 1)) 3,3,none⟩,⟨some 5,.assign (ZT 27),3,none⟩]))))))
    (.seq (.ops [⟨some 35,.move (ZT 1),3,none⟩,⟨some 4,.assign (ZT 35),3,none⟩])
    .ret))))
def pl87 : Nat → Plan := fun _ => .done
theorem st87 : Go.Proofs.Tryz.f87.body.map (strip pl87) = some m87 := by kernel_rfl
theorem ok87 : okB pl87 Go.Proofs.Tryz.f87 2 = true := by kernel_rfl
theorem en87 {v0 v1 w} {Q : Value → World → Prop} (h : mwpB ZP m87 (argEnv [v0, v1]) [] w (fun e ds w => ds = [] ∧ resW ZP [.tmp 4] e w fun v => Q v w) (fun _ _ _ _ => False) (fun e ds w => ds = [] ∧ resW ZP [.tmp 4] e w fun v => Q v w) (fun _ _ _ _ => False) ⟨⟩) : Rets ZP 87 #[v0, v1] w Q :=
  rets_of_mwp follows_mo Go.Proofs.Tryz.func87 pl87 st87 ok87 (by kernel_rfl) h
def m88 : MC := (.seq (.ops [⟨some 1,.box 64 (ZT 0),0,none⟩,⟨some 2,.assign (.const (.bool false)),4,none⟩])
    (.seq (.ops [⟨some 3,.load 64 (ZT 1),64,none⟩,⟨some 4,.call ⟨.value (.func 115),#[ZT 3],#[64]⟩,4,none⟩,⟨some 5,.move (ZT 4),4,none⟩,⟨some 6,.load 64 (ZT 1),64,some (some 5,true)⟩,⟨some 7,.call ⟨.value (.func 116),#[ZT 6],#[64]⟩,3,some (some 5,true)⟩,⟨some 8,.binOp .leq 3 (ZT 7) (.const (.int .i64 65536)) 3,4,some (some 5,true)⟩,⟨some 9,.pick (ZT 5) (ZT 8) (.const (.bool false)),4,none⟩,⟨some 2,.assign (ZT 9),4,none⟩])
    .ret))
def pl88 : Nat → Plan := fun _ => .done
theorem st88 : Go.Proofs.Tryz.f88.body.map (strip pl88) = some m88 := by kernel_rfl
theorem ok88 : okB pl88 Go.Proofs.Tryz.f88 1 = true := by kernel_rfl
theorem en88 {v0 w} {Q : Value → World → Prop} (h : mwpB ZP m88 (argEnv [v0]) [] w (fun e ds w => ds = [] ∧ resW ZP [.tmp 2] e w fun v => Q v w) (fun _ _ _ _ => False) (fun e ds w => ds = [] ∧ resW ZP [.tmp 2] e w fun v => Q v w) (fun _ _ _ _ => False) ⟨⟩) : Rets ZP 88 #[v0] w Q :=
  rets_of_mwp follows_mo Go.Proofs.Tryz.func88 pl88 st88 ok88 (by kernel_rfl) h
def m89 : MC := (.seq (.ops [⟨some 1,.box 64 (ZT 0),0,none⟩,⟨some 2,.assign (.const (.bool false)),4,none⟩])
    (.seq (.ops [⟨some 3,.load 64 (ZT 1),64,none⟩,⟨some 4,.call ⟨.value (.func 117),#[ZT 3],#[64]⟩,4,none⟩,⟨some 5,.move (ZT 4),4,none⟩,⟨some 6,.load 64 (ZT 1),64,some (some 5,true)⟩,⟨some 7,.call ⟨.value (.func 118),#[ZT 6],#[64]⟩,3,some (some 5,true)⟩,⟨some 8,.binOp .leq 3 (ZT 7) (.const (.int .i64 10)) 3,4,some (some 5,true)⟩,⟨some 9,.pick (ZT 5) (ZT 8) (.const (.bool false)),4,none⟩,⟨some 10,.move (ZT 9),4,none⟩,⟨some 11,.load 64 (ZT 1),64,some (some 10,true)⟩,⟨some 12,.call ⟨.value (.func 119),#[ZT 11],#[64]⟩,3,some (some 10,true)⟩,⟨some 13,.binOp .leq 3 (ZT 12) (.const (.int .i64 500)) 3,4,some (some 10,true)⟩,⟨some 14,.pick (ZT 10) (ZT 13) (.const (.bool false)),4,none⟩,⟨some 15,.move (ZT 14),4,none⟩,⟨some 16,.load 64 (ZT 1),64,some (some 15,true)⟩,⟨some 17,.call ⟨.value (.func 120),#[ZT 16],#[64]⟩,9,some (some 15,true)⟩,⟨some 18,.call ⟨.builtin .len,#[ZT 17],#[9]⟩,3,some (some 15,true)⟩,⟨some 19,.binOp .leq 3 (ZT 18) (.const (.int .i64 65536)) 3,4,some (some 15,true)⟩,⟨some 20,.pick (ZT 15) (ZT 19) (.const (.bool false)),4,none⟩,⟨some 2,.assign (ZT 20),4,none⟩])
    .ret))
def pl89 : Nat → Plan := fun _ => .done
theorem st89 : Go.Proofs.Tryz.f89.body.map (strip pl89) = some m89 := by kernel_rfl
theorem ok89 : okB pl89 Go.Proofs.Tryz.f89 1 = true := by kernel_rfl
theorem en89 {v0 w} {Q : Value → World → Prop} (h : mwpB ZP m89 (argEnv [v0]) [] w (fun e ds w => ds = [] ∧ resW ZP [.tmp 2] e w fun v => Q v w) (fun _ _ _ _ => False) (fun e ds w => ds = [] ∧ resW ZP [.tmp 2] e w fun v => Q v w) (fun _ _ _ _ => False) ⟨⟩) : Rets ZP 89 #[v0] w Q :=
  rets_of_mwp follows_mo Go.Proofs.Tryz.func89 pl89 st89 ok89 (by kernel_rfl) h
def m108 : MC := (.seq (.ops [⟨some 2,.box 112 (ZT 0),0,none⟩,⟨some 4,.assign (.const (.bool false)),4,none⟩])
    (.seq (.ops [⟨some 5,.move (ZT 1),3,none⟩,⟨some 6,.fieldAddr 112 (ZT 2) 0,0,none⟩,⟨some 7,.load 3 (ZT 6),3,none⟩,⟨some 8,.binOp .geq 3 (ZT 5) (ZT 7) 3,4,none⟩,⟨some 9,.move (ZT 8),4,none⟩,⟨some 10,.move (ZT 1),3,some (some 9,true)⟩,⟨some 11,.fieldAddr 112 (ZT 2) 1,0,some (some 9,true)⟩,⟨some 12,.load 3 (ZT 11),3,some (some 9,true)⟩,⟨some 13,.binOp .leq 3 (ZT 10) (ZT 12) 3,4,some (some 9,true)⟩,⟨some 14,.pick (ZT 9) (ZT 13) (.const (.bool false)),4,none⟩,⟨some 15,.move (ZT 14),4,none⟩,⟨some 16,.move (ZT 1),3,some (some 15,true)⟩,⟨some 17,.fieldAddr 112 (ZT 2) 0,0,some (some 15,true)⟩,⟨some 18,.load 3 (ZT 17),3,some (some 15,true)⟩,⟨some 19,.binOp .sub 3 (ZT 16) (ZT 18) 3,3,some (some 15,true)⟩,⟨some 20,.fieldAddr 112 (ZT 2) 2,0,some (some 15,true)⟩,⟨some 21,.load 3 (ZT 20),3,some (some 15,true)⟩,⟨some 22,.binOp .rem 3 (ZT 19) (ZT 21) 3,3,some (some 15,true)⟩,⟨some 23,.binOp .eql 3 (ZT 22) (.const (.int .i64 0)) 3,4,some (some 15,true)⟩,⟨some 24,.pick (ZT 15) (ZT 23) (.const (.bool false)),4,none⟩,⟨some 4,.assign (ZT 24),4,none⟩])
    .ret))
def pl108 : Nat → Plan := fun _ => .done
theorem st108 : Go.Proofs.Tryz.f108.body.map (strip pl108) = some m108 := by kernel_rfl
theorem ok108 : okB pl108 Go.Proofs.Tryz.f108 2 = true := by kernel_rfl
theorem en108 {v0 v1 w} {Q : Value → World → Prop} (h : mwpB ZP m108 (argEnv [v0, v1]) [] w (fun e ds w => ds = [] ∧ resW ZP [.tmp 4] e w fun v => Q v w) (fun _ _ _ _ => False) (fun e ds w => ds = [] ∧ resW ZP [.tmp 4] e w fun v => Q v w) (fun _ _ _ _ => False) ⟨⟩) : Rets ZP 108 #[v0, v1] w Q :=
  rets_of_mwp follows_mo Go.Proofs.Tryz.func108 pl108 st108 ok108 (by kernel_rfl) h
def m109 : MC := (.seq (.ops [⟨some 5,.call ⟨.builtin .recover,#[],#[]⟩,20,none⟩,⟨some 6,.typeAssert (ZT 5) 20 124 true,125,none⟩,⟨some 4,.move (ZT 6),125,none⟩,⟨some 7,.extract (ZT 4) 0,124,none⟩,⟨some 8,.extract (ZT 4) 1,4,none⟩,⟨some 2,.alloc 124,0,none⟩,⟨none,.store 124 (ZT 2) (ZT 7),0,none⟩,⟨some 3,.assign (ZT 8),4,none⟩])
    (.seq (.ops [⟨some 9,.move (ZT 3),4,none⟩])
    (.cond (ZT 9) (.draw (.take ⟨some 10,.build 24 #[],24,none⟩ (.take ⟨some 11,.fieldAddr 124 (ZT 2) 0,0,none⟩ (.take ⟨some 12,.load 28 (ZT 11),28,none⟩ (.alt ⟨none,.store 24 (ZT 0) (ZT 10),0,none⟩ (.altL ⟨none,.store 28 (ZT 1) (ZT 12),0,none⟩ .done .none) .none))))) .skip)))
noncomputable def rf115_0 : Code := subC [1, 1, 0, 1, 0] (bodyC Go.Proofs.Tryz.f115)
noncomputable def ra115_0 : Code := subC [0] rf115_0
noncomputable def rb115_0 : Code := subC [1] rf115_0
noncomputable def m115 : MC := (.seq (.ops [⟨some 1,.box 64 (ZT 0),0,none⟩,⟨some 2,.alloc 4,0,none⟩])
    (.seq (.ops [⟨some 3,.alloc 3,0,none⟩,⟨none,.store 3 (ZT 3) (.const (.int .i64 0)),0,none⟩])
    (.seq (.seq (.ops [⟨some 6,.load 64 (ZT 1),64,none⟩,⟨some 7,.call ⟨.value (.func 138),#[ZT 6],#[64]⟩,147,none⟩])
    (.block 0 (.raw rf115_0)))
    (.seq (.ops [⟨none,.store 4 (ZT 2) (.const (.bool true)),0,none⟩])
    .ret))))
def pl115 : Nat → Plan := fun _ => .done
theorem st115 : Go.Proofs.Tryz.f115.body.map (strip pl115) = some m115 := by kernel_rfl
theorem rfE115_0 : rf115_0 = .rangeFunc (.tmp 7) #[8, 9] ra115_0 rb115_0 := by kernel_rfl
noncomputable def mra115_0 : MC := (.seq (.ops [⟨some 4,.alloc 64,0,none⟩,⟨none,.store 64 (ZT 4) (ZT 8),0,none⟩])
    (.ops [⟨some 5,.assign (ZT 9),3,none⟩]))
noncomputable def mrb115_0 : MC := (.block 1 (.seq (.ops [⟨some 10,.load 3 (ZT 3),3,none⟩,⟨some 11,.binOp .add 3 (ZT 10) (.const (.int .i64 1)) 3,3,none⟩,⟨none,.store 3 (ZT 3) (ZT 11),0,none⟩])
    (.seq (.ops [⟨some 12,.load 3 (ZT 3),3,none⟩,⟨some 13,.binOp .gtr 3 (ZT 12) (.const (.int .i64 500)) 3,4,none⟩,⟨some 14,.move (ZT 13),4,none⟩,⟨some 15,.move (ZT 5),3,some (some 14,false)⟩,⟨some 16,.binOp .gtr 3 (ZT 15) (.const (.int .i64 10)) 3,4,some (some 14,false)⟩,⟨some 17,.pick (ZT 14) (.const (.bool true)) (ZT 16),4,none⟩,⟨some 18,.move (ZT 17),4,none⟩,⟨some 19,.load 64 (ZT 4),64,some (some 18,false)⟩,⟨some 20,.call ⟨.value (.func 139),#[ZT 19],#[64]⟩,4,some (some 18,false)⟩,⟨some 21,.unOp .not 4 (ZT 20),4,some (some 18,false)⟩,⟨some 22,.pick (ZT 18) (.const (.bool true)) (ZT 21),4,none⟩])
    (.cond (ZT 22) (.seq (.ops [⟨none,.store 4 (ZT 2) (.const (.bool false)),0,none⟩])
    .ret) .skip))))
theorem stra115_0 : strip pl115 ra115_0 = mra115_0 := by kernel_rfl
theorem okra115_0 : (plansOk pl115 ra115_0 && noDefer ra115_0) = true := by kernel_rfl
theorem strb115_0 : strip pl115 rb115_0 = mrb115_0 := by kernel_rfl
theorem okrb115_0 : (plansOk pl115 rb115_0 && noDefer rb115_0) = true := by kernel_rfl
theorem ok115 : okB pl115 Go.Proofs.Tryz.f115 1 = true := by kernel_rfl
theorem enM115 {v0 w} {Q : Value → World → Prop} (h : mwpB ZP m115 (argEnv [v0]) [] w (fun e ds w => endW ZP [.cell 2 4] ds e w Q) (fun _ _ _ _ => False) (fun e ds w => endW ZP [.cell 2 4] ds e w Q) (fun _ _ _ _ => False) ⟨⟩) : Rets ZP 115 #[v0] w Q :=
  rets_of_mwpM follows_mo Go.Proofs.Tryz.func115 pl115 st115 ok115 (by kernel_rfl) h
def m116 : MC := (.seq (.ops [⟨some 1,.box 64 (ZT 0),0,none⟩,⟨some 2,.assign (.const (.int .i64 0)),3,none⟩])
    (.seq (.ops [⟨some 3,.load 64 (ZT 1),64,none⟩,⟨some 4,.call ⟨.value (.func 141),#[ZT 3],#[64]⟩,3,none⟩,⟨some 5,.call ⟨.value (.func 140),#[ZT 4],#[3]⟩,3,none⟩,⟨some 6,.binOp .add 3 (.const (.int .i64 8)) (ZT 5) 3,3,none⟩,⟨some 2,.assign (ZT 6),3,none⟩])
    .ret))
def pl116 : Nat → Plan := fun _ => .done
theorem st116 : Go.Proofs.Tryz.f116.body.map (strip pl116) = some m116 := by kernel_rfl
theorem ok116 : okB pl116 Go.Proofs.Tryz.f116 1 = true := by kernel_rfl
theorem en116 {v0 w} {Q : Value → World → Prop} (h : mwpB ZP m116 (argEnv [v0]) [] w (fun e ds w => ds = [] ∧ resW ZP [.tmp 2] e w fun v => Q v w) (fun _ _ _ _ => False) (fun e ds w => ds = [] ∧ resW ZP [.tmp 2] e w fun v => Q v w) (fun _ _ _ _ => False) ⟨⟩) : Rets ZP 116 #[v0] w Q :=
  rets_of_mwp follows_mo Go.Proofs.Tryz.func116 pl116 st116 ok116 (by kernel_rfl) h
def m117 : MC := (.seq (.ops [⟨some 1,.box 64 (ZT 0),0,none⟩,⟨some 2,.assign (.const (.bool false)),4,none⟩])
    (.seq (.seq (.ops [⟨some 4,.fieldAddr 64 (ZT 1) 0,0,none⟩,⟨some 5,.load 3 (ZT 4),3,none⟩])
    (.block 0 (.seq (.ops [⟨some 7,.binOp .eql 3 (ZT 5) (.const (.int .i64 1)) 3,4,none⟩,⟨some 6,.assign (ZT 7),4,none⟩])
    (.cond (ZT 6) (.seq (.ops [⟨some 8,.load 64 (ZT 1),64,none⟩,⟨some 9,.call ⟨.value (.func 142),#[ZT 8,.const (.bool false),.const (.bool false),.const (.bool false),.const (.bool false)],#[64,4,4,4,4]⟩,4,none⟩,⟨some 2,.assign (ZT 9),4,none⟩])
    .ret) (.seq (.ops [⟨some 11, .binOp .eql 3 (.tmp 5) (.const (.int .i64 2)) 3, 4, none⟩, ⟨some 10, .assign (.tmp 11), 4, none⟩])
    (.cond (ZT 10) (.seq (.ops [⟨some 12,.load 64 (ZT 1),64,none⟩,⟨some 13,.call ⟨.value (.func 142),#[ZT 12,.const (.bool true),.const (.bool false),.const (.bool false),.const (.bool false)],#[64,4,4,4,4]⟩,4,none⟩,⟨some 14,.move (ZT 13),4,none⟩,⟨some 15,.fieldAddr 64 (ZT 1) 1,0,some (some 14,true)⟩,⟨some 16,.load 3 (ZT 15),3,some (some 14,true)⟩,⟨some 17,.binOp .eql 3 (ZT 16) (.const (.int .i64 0)) 3,4,some (some 14,true)⟩,⟨some 18,.move (ZT 17),4,some (some 14,true)⟩,⟨some 19,.fieldAddr 64 (ZT 1) 1,0,some (some 18,false)⟩,⟨some 20,.load 3 (ZT 19),3,some (some 18,false)⟩,⟨some 21,.binOp .eql 3 (ZT 20) (.const (.int .i64 1)) 3,4,some (some 18,false)⟩,⟨some 22,.pick (ZT 18) (.const (.bool true)) (ZT 21),4,some (some 14,true)⟩,⟨some 23,.pick (ZT 14) (ZT 22) (.const (.bool false)),4,none⟩,⟨some 2,.assign (ZT 23),4,none⟩])
    .ret) (.seq (.ops [⟨some 25, .binOp .eql 3 (.tmp 5) (.const (.int .i64 3)) 3, 4, none⟩, ⟨some 24, .assign (.tmp 25), 4, none⟩])
    (.cond (ZT 24) (.seq (.ops [⟨some 26,.load 64 (ZT 1),64,none⟩,⟨some 27,.call ⟨.value (.func 142),#[ZT 26,.const (.bool true),.const (.bool false),.const (.bool false),.const (.bool false)],#[64,4,4,4,4]⟩,4,none⟩,⟨some 2,.assign (ZT 27),4,none⟩])
    .ret) (.seq (.ops [⟨some 29, .binOp .eql 3 (.tmp 5) (.const (.int .i64 4)) 3, 4, none⟩, ⟨some 28, .assign (.tmp 29), 4, none⟩])
    (.cond (ZT 28) (.seq (.seq (.ops [⟨some 30,.load 64 (ZT 1),64,none⟩,⟨some 31,.call ⟨.value (.func 142),#[ZT 30,.const (.bool false),.const (.bool true),.const (.bool false),.const (.bool false)],#[64,4,4,4,4]⟩,4,none⟩,⟨some 32,.unOp .not 4 (ZT 31),4,none⟩])
    (.cond (ZT 32) (.seq (.ops [⟨some 2,.assign (.const (.bool false)),4,none⟩])
    .ret) .skip))
    (.seq (.seq (.ops [⟨some 3,.assign (.const (.int .i64 0)),3,none⟩])
    (.block 1 (.loop (.seq (.seq (.ops [⟨some 33,.move (ZT 3),3,none⟩,⟨some 34,.fieldAddr 64 (ZT 1) 2,0,none⟩,⟨some 35,.load 9 (ZT 34),9,none⟩,⟨some 36,.call ⟨.builtin .len,#[ZT 35],#[9]⟩,3,none⟩,⟨some 37,.binOp .lss 3 (ZT 33) (ZT 36) 3,4,none⟩])
    (.cond (ZT 37) .skip (.exit 1)))
    (.seq (.block 2 (.seq (.ops [⟨some 40,.fieldAddr 64 (ZT 1) 2,0,none⟩,⟨some 41,.load 9 (ZT 40),9,none⟩,⟨some 42,.move (ZT 3),3,none⟩,⟨some 43,.index 9 (ZT 41) (ZT 42),5,none⟩,⟨some 44,.binOp .eql 5 (ZT 43) (.const (.int .u8 0)) 5,4,none⟩])
    (.cond (ZT 44) (.seq (.ops [⟨some 2,.assign (.const (.bool false)),4,none⟩])
    .ret) .skip)))
    (.ops [⟨some 38,.move (ZT 3),3,none⟩,⟨some 39,.binOp .add 3 (ZT 38) (.const (.int .i64 1)) 3,3,none⟩,⟨some 3,.assign (ZT 39),3,none⟩]))))))
    (.seq (.ops [⟨some 2,.assign (.const (.bool true)),4,none⟩])
    .ret))) (.seq (.ops [⟨some 46, .binOp .eql 3 (.tmp 5) (.const (.int .i64 5)) 3, 4, none⟩, ⟨some 45, .assign (.tmp 46), 4, none⟩])
    (.cond (ZT 45) (.seq (.ops [⟨some 47,.load 64 (ZT 1),64,none⟩,⟨some 48,.call ⟨.value (.func 142),#[ZT 47,.const (.bool false),.const (.bool true),.const (.bool false),.const (.bool false)],#[64,4,4,4,4]⟩,4,none⟩,⟨some 2,.assign (ZT 48),4,none⟩])
    .ret) .skip))))))))))))
    (.seq (.ops [⟨some 49,.fieldAddr 64 (ZT 1) 0,0,none⟩,⟨some 50,.load 3 (ZT 49),3,none⟩,⟨some 51,.binOp .geq 3 (ZT 50) (.const (.int .i64 6)) 3,4,none⟩,⟨some 52,.move (ZT 51),4,none⟩,⟨some 53,.fieldAddr 64 (ZT 1) 0,0,some (some 52,true)⟩,⟨some 54,.load 3 (ZT 53),3,some (some 52,true)⟩,⟨some 55,.binOp .leq 3 (ZT 54) (.const (.int .i64 10)) 3,4,some (some 52,true)⟩,⟨some 56,.pick (ZT 52) (ZT 55) (.const (.bool false)),4,none⟩,⟨some 57,.move (ZT 56),4,none⟩,⟨some 58,.load 64 (ZT 1),64,some (some 57,true)⟩,⟨some 59,.call ⟨.value (.func 143),#[ZT 58],#[64]⟩,4,some (some 57,true)⟩,⟨some 60,.pick (ZT 57) (ZT 59) (.const (.bool false)),4,none⟩,⟨some 61,.move (ZT 60),4,none⟩,⟨some 62,.load 64 (ZT 1),64,some (some 61,true)⟩,⟨some 63,.call ⟨.value (.func 144),#[ZT 62],#[64]⟩,4,some (some 61,true)⟩,⟨some 64,.pick (ZT 61) (ZT 63) (.const (.bool false)),4,none⟩,⟨some 2,.assign (ZT 64),4,none⟩])
    .ret)))
def pl117 : Nat → Plan := fun _ => .done
theorem st117 : Go.Proofs.Tryz.f117.body.map (strip pl117) = some m117 := by kernel_rfl
theorem ok117 : okB pl117 Go.Proofs.Tryz.f117 1 = true := by kernel_rfl
theorem en117 {v0 w} {Q : Value → World → Prop} (h : mwpB ZP m117 (argEnv [v0]) [] w (fun e ds w => ds = [] ∧ resW ZP [.tmp 2] e w fun v => Q v w) (fun _ _ _ _ => False) (fun e ds w => ds = [] ∧ resW ZP [.tmp 2] e w fun v => Q v w) (fun _ _ _ _ => False) ⟨⟩) : Rets ZP 117 #[v0] w Q :=
  rets_of_mwp follows_mo Go.Proofs.Tryz.func117 pl117 st117 ok117 (by kernel_rfl) h
def m118 : MC := (.seq (.ops [⟨some 1,.box 64 (ZT 0),0,none⟩,⟨some 2,.assign (.const (.int .i64 0)),3,none⟩])
    (.seq (.ops [⟨some 3,.assign (.const (.int .i64 0)),3,none⟩])
    (.seq (.seq (.ops [⟨some 4,.assign (.const (.int .i64 0)),3,none⟩])
    (.block 0 (.loop (.seq (.seq (.ops [⟨some 5,.move (ZT 4),3,none⟩,⟨some 6,.fieldAddr 64 (ZT 1) 4,0,none⟩,⟨some 7,.load 62 (ZT 6),62,none⟩,⟨some 8,.call ⟨.builtin .len,#[ZT 7],#[62]⟩,3,none⟩,⟨some 9,.binOp .lss 3 (ZT 5) (ZT 8) 3,4,none⟩])
    (.cond (ZT 9) .skip (.exit 0)))
    (.seq (.block 1 (.ops [⟨some 12,.move (ZT 3),3,none⟩,⟨some 13,.fieldAddr 64 (ZT 1) 4,0,none⟩,⟨some 14,.load 62 (ZT 13),62,none⟩,⟨some 15,.move (ZT 4),3,none⟩,⟨some 16,.indexAddr 62 (ZT 14) (ZT 15),0,none⟩,⟨some 17,.load 64 (ZT 16),64,none⟩,⟨some 18,.call ⟨.value (.func 118),#[ZT 17],#[64]⟩,3,none⟩,⟨some 19,.call ⟨.builtin .max,#[ZT 12,ZT 18],#[3,3]⟩,3,none⟩,⟨some 3,.assign (ZT 19),3,none⟩]))
    (.ops [⟨some 10,.move (ZT 4),3,none⟩,⟨some 11,.binOp .add 3 (ZT 10) (.const (.int .i64 1)) 3,3,none⟩,⟨some 4,.assign (ZT 11),3,none⟩]))))))
    (.seq (.ops [⟨some 20,.move (ZT 3),3,none⟩,⟨some 21,.binOp .add 3 (ZT 20) (.const (.int .i64 1)) 3,3,none⟩,⟨some 2,.assign (ZT 21),3,none⟩])
    .ret))))
def pl118 : Nat → Plan := fun _ => .done
theorem st118 : Go.Proofs.Tryz.f118.body.map (strip pl118) = some m118 := by kernel_rfl
theorem ok118 : okB pl118 Go.Proofs.Tryz.f118 1 = true := by kernel_rfl
theorem en118 {v0 w} {Q : Value → World → Prop} (h : mwpB ZP m118 (argEnv [v0]) [] w (fun e ds w => ds = [] ∧ resW ZP [.tmp 2] e w fun v => Q v w) (fun _ _ _ _ => False) (fun e ds w => ds = [] ∧ resW ZP [.tmp 2] e w fun v => Q v w) (fun _ _ _ _ => False) ⟨⟩) : Rets ZP 118 #[v0] w Q :=
  rets_of_mwp follows_mo Go.Proofs.Tryz.func118 pl118 st118 ok118 (by kernel_rfl) h
def m119 : MC := (.seq (.ops [⟨some 1,.box 64 (ZT 0),0,none⟩,⟨some 2,.assign (.const (.int .i64 0)),3,none⟩])
    (.seq (.ops [⟨some 3,.assign (.const (.int .i64 1)),3,none⟩])
    (.seq (.seq (.ops [⟨some 4,.assign (.const (.int .i64 0)),3,none⟩])
    (.block 0 (.loop (.seq (.seq (.ops [⟨some 5,.move (ZT 4),3,none⟩,⟨some 6,.fieldAddr 64 (ZT 1) 4,0,none⟩,⟨some 7,.load 62 (ZT 6),62,none⟩,⟨some 8,.call ⟨.builtin .len,#[ZT 7],#[62]⟩,3,none⟩,⟨some 9,.binOp .lss 3 (ZT 5) (ZT 8) 3,4,none⟩])
    (.cond (ZT 9) .skip (.exit 0)))
    (.seq (.block 1 (.ops [⟨some 12,.move (ZT 3),3,none⟩,⟨some 13,.fieldAddr 64 (ZT 1) 4,0,none⟩,⟨some 14,.load 62 (ZT 13),62,none⟩,⟨some 15,.move (ZT 4),3,none⟩,⟨some 16,.indexAddr 62 (ZT 14) (ZT 15),0,none⟩,⟨some 17,.load 64 (ZT 16),64,none⟩,⟨some 18,.call ⟨.value (.func 119),#[ZT 17],#[64]⟩,3,none⟩,⟨some 19,.binOp .add 3 (ZT 12) (ZT 18) 3,3,none⟩,⟨some 3,.assign (ZT 19),3,none⟩]))
    (.ops [⟨some 10,.move (ZT 4),3,none⟩,⟨some 11,.binOp .add 3 (ZT 10) (.const (.int .i64 1)) 3,3,none⟩,⟨some 4,.assign (ZT 11),3,none⟩]))))))
    (.seq (.ops [⟨some 20,.move (ZT 3),3,none⟩,⟨some 2,.assign (ZT 20),3,none⟩])
    .ret))))
def pl119 : Nat → Plan := fun _ => .done
theorem st119 : Go.Proofs.Tryz.f119.body.map (strip pl119) = some m119 := by kernel_rfl
theorem ok119 : okB pl119 Go.Proofs.Tryz.f119 1 = true := by kernel_rfl
theorem en119 {v0 w} {Q : Value → World → Prop} (h : mwpB ZP m119 (argEnv [v0]) [] w (fun e ds w => ds = [] ∧ resW ZP [.tmp 2] e w fun v => Q v w) (fun _ _ _ _ => False) (fun e ds w => ds = [] ∧ resW ZP [.tmp 2] e w fun v => Q v w) (fun _ _ _ _ => False) ⟨⟩) : Rets ZP 119 #[v0] w Q :=
  rets_of_mwp follows_mo Go.Proofs.Tryz.func119 pl119 st119 ok119 (by kernel_rfl) h
end Go.Proofs.YthcdnjbhhaonhaaGreatDoor
