/- The functions, stripped. -/
import Derived.Test.YtolamibbionobaaGreatDoorQsMwT
import Derived.Test.YtolamibbionobaaGreatDoorQsMwIn

namespace Go.Proofs.YtolamibbionobaaGreatDoor
open Go.RowKit
open Go.Operand renaming tmp → ZT
open Go.Proofs.Tryz renaming prog → ZP
set_option maxRecDepth 100000
def m3 : MC := (.seq (.ops [⟨some 2,.assign (.const (.bool false)),4,none⟩])
    (.seq (.seq (.ops [⟨some 11,.call ⟨.value (.func 5),#[],#[]⟩,4,none⟩,⟨some 12,.unOp .not 4 (ZT 11),4,none⟩])
    (.cond (ZT 12) (.seq (.ops [⟨some 2,.assign (.const (.bool false)),4,none⟩])
    .ret) .skip))
    (.seq (.seq (.ops [⟨some 13,.move (ZT 0),9,none⟩,⟨some 14,.call ⟨.builtin .len,#[ZT 13],#[9]⟩,3,none⟩,⟨some 15,.binOp .gtr 3 (ZT 14) (.const (.int .i64 500)) 3,4,none⟩])
    (.cond (ZT 15) (.seq (.ops [⟨some 2,.assign (.const (.bool true)),4,none⟩])
    .ret) .skip))
    (.seq (.ops [⟨some 17,.move (ZT 0),9,none⟩,⟨some 18,.call ⟨.value (.func 6),#[ZT 17],#[9]⟩,24,none⟩,⟨some 16,.move (ZT 18),24,none⟩,⟨some 19,.extract (ZT 16) 0,9,none⟩,⟨some 20,.extract (ZT 16) 1,4,none⟩,⟨some 21,.extract (ZT 16) 2,3,none⟩,⟨some 22,.extract (ZT 16) 3,23,none⟩,⟨some 3,.assign (ZT 19),9,none⟩,⟨some 4,.assign (ZT 20),4,none⟩,⟨some 5,.assign (ZT 21),3,none⟩,⟨some 6,.assign (ZT 22),23,none⟩])
    (.seq (.ops [⟨some 24,.move (ZT 0),9,none⟩,⟨some 25,.call ⟨.value (.func 7),#[ZT 24],#[9]⟩,24,none⟩,⟨some 23,.move (ZT 25),24,none⟩,⟨some 26,.extract (ZT 23) 0,9,none⟩,⟨some 27,.extract (ZT 23) 1,4,none⟩,⟨some 28,.extract (ZT 23) 2,3,none⟩,⟨some 29,.extract (ZT 23) 3,23,none⟩,⟨some 7,.assign (ZT 26),9,none⟩,⟨some 8,.assign (ZT 27),4,none⟩,⟨some 9,.assign (ZT 28),3,none⟩,⟨some 10,.assign (ZT 29),23,none⟩])
    (.seq (.ops [⟨some 30,.move (ZT 3),9,none⟩,⟨some 31,.move (ZT 7),9,none⟩,⟨some 32,.binOp .eql 9 (ZT 30) (ZT 31) 9,4,none⟩,⟨some 33,.move (ZT 32),4,none⟩,⟨some 34,.move (ZT 4),4,some (some 33,true)⟩,⟨some 35,.move (ZT 8),4,some (some 33,true)⟩,⟨some 36,.binOp .eql 4 (ZT 34) (ZT 35) 4,4,some (some 33,true)⟩,⟨some 37,.pick (ZT 33) (ZT 36) (.const (.bool false)),4,none⟩,⟨some 38,.move (ZT 37),4,none⟩,⟨some 39,.move (ZT 5),3,some (some 38,true)⟩,⟨some 40,.move (ZT 9),3,some (some 38,true)⟩,⟨some 41,.binOp .eql 3 (ZT 39) (ZT 40) 3,4,some (some 38,true)⟩,⟨some 42,.pick (ZT 38) (ZT 41) (.const (.bool false)),4,none⟩,⟨some 43,.move (ZT 42),4,none⟩,⟨some 44,.move (ZT 6),23,some (some 43,true)⟩,⟨some 45,.move (ZT 10),23,some (some 43,true)⟩,⟨some 46,.binOp .eql 23 (ZT 44) (ZT 45) 23,4,some (some 43,true)⟩,⟨some 47,.pick (ZT 43) (ZT 46) (.const (.bool false)),4,none⟩,⟨some 2,.assign (ZT 47),4,none⟩])
    .ret))))))
def pl3 : Nat → Plan := fun _ => .done
theorem st3 : Go.Proofs.Tryz.f3.body.map (strip pl3) = some m3 := by kernel_rfl
theorem ok3 : okB pl3 Go.Proofs.Tryz.f3 1 = true := by kernel_rfl
theorem en3 {v0 w} {Q : Value → World → Prop} (h : mwpB ZP m3 (argEnv [v0]) [] w (fun e ds w => ds = [] ∧ resW ZP [.tmp 2] e w fun v => Q v w) (fun _ _ _ _ => False) (fun e ds w => ds = [] ∧ resW ZP [.tmp 2] e w fun v => Q v w) (fun _ _ _ _ => False) ⟨⟩) : Rets ZP 3 #[v0] w Q :=
  rets_of_mwp follows_mo Go.Proofs.Tryz.func3 pl3 st3 ok3 (by kernel_rfl) h
def m6 : MC := (.seq (.ops [⟨some 2,.assign (.const (.string { data := #[] })),9,none⟩,⟨some 3,.assign (.const (.bool false)),4,none⟩,⟨some 4,.assign (.const (.int .i64 0)),3,none⟩,⟨some 5,.assign (.const (.int .i64 0)),23,none⟩])
    (.seq (.ops [⟨some 13,.move (ZT 0),9,none⟩,⟨some 14,.call { callee := .value (.func 25),args := #[ZT 13,.const (.string { data := #[58] })],argTypes := #[9,9] },77,none⟩,⟨some 12,.move (ZT 14),77,none⟩,⟨some 15,.extract (ZT 12) 0,9,none⟩,⟨some 16,.extract (ZT 12) 1,9,none⟩,⟨some 17,.extract (ZT 12) 2,4,none⟩,⟨some 2,.assign (ZT 15),9,none⟩,⟨some 6,.assign (ZT 16),9,none⟩,⟨some 7,.assign (ZT 17),4,none⟩])
    (.seq (.ops [⟨some 19,.move (ZT 6),9,none⟩,⟨some 20,.call { callee := .value (.func 25),args := #[ZT 19,.const (.string { data := #[95] })],argTypes := #[9,9] },77,none⟩,⟨some 18,.move (ZT 20),77,none⟩,⟨some 21,.extract (ZT 18) 0,9,none⟩,⟨some 22,.extract (ZT 18) 1,9,none⟩,⟨some 23,.extract (ZT 18) 2,4,none⟩,⟨some 8,.assign (ZT 21),9,none⟩,⟨some 9,.assign (ZT 22),9,none⟩,⟨some 10,.assign (ZT 23),4,none⟩])
    (.seq (.ops [⟨some 25,.move (ZT 9),9,none⟩,⟨some 26,.call ⟨.value (.func 26),#[ZT 25],#[9]⟩,81,none⟩,⟨some 24,.move (ZT 26),81,none⟩,⟨some 27,.extract (ZT 24) 0,3,none⟩,⟨some 28,.extract (ZT 24) 1,80,none⟩,⟨some 4,.assign (ZT 27),3,none⟩,⟨some 11,.assign (ZT 28),80,none⟩])
    (.seq (.seq (.ops [⟨some 29,.move (ZT 7),4,none⟩,⟨some 30,.unOp .not 4 (ZT 29),4,none⟩,⟨some 31,.move (ZT 30),4,none⟩,⟨some 32,.move (ZT 10),4,some (some 31,false)⟩,⟨some 33,.unOp .not 4 (ZT 32),4,some (some 31,false)⟩,⟨some 34,.pick (ZT 31) (.const (.bool true)) (ZT 33),4,none⟩,⟨some 35,.move (ZT 34),4,none⟩,⟨some 36,.move (ZT 2),9,some (some 35,false)⟩,⟨some 37,.call ⟨.value (.func 27),#[ZT 36],#[9]⟩,4,some (some 35,false)⟩,⟨some 38,.unOp .not 4 (ZT 37),4,some (some 35,false)⟩,⟨some 39,.pick (ZT 35) (.const (.bool true)) (ZT 38),4,none⟩,⟨some 40,.move (ZT 39),4,none⟩,⟨some 41,.move (ZT 8),9,some (some 40,false)⟩,⟨some 42,.binOp .neq 9 (ZT 41) (.const (.string { data := #[105,110] })) 9,4,some (some 40,false)⟩,⟨some 43,.move (ZT 42),4,some (some 40,false)⟩,⟨some 44,.move (ZT 8),9,some (some 43,true)⟩,⟨some 45,.binOp .neq 9 (ZT 44) (.const (.string { data := #[111,117,116] })) 9,4,some (some 43,true)⟩,⟨some 46,.pick (ZT 43) (ZT 45) (.const (.bool false)),4,some (some 40,false)⟩,⟨some 47,.pick (ZT 40) (.const (.bool true)) (ZT 46),4,none⟩,⟨some 48,.move (ZT 47),4,none⟩,⟨some 49,.move (ZT 11),80,some (some 48,false)⟩,⟨some 50,.binOp .neq 80 (ZT 49) (.const .nilIface) 80,4,some (some 48,false)⟩,⟨some 51,.pick (ZT 48) (.const (.bool true)) (ZT 50),4,none⟩,⟨some 52,.move (ZT 51),4,none⟩,⟨some 53,.move (ZT 4),3,some (some 52,false)⟩,⟨some 54,.binOp .lss 3 (ZT 53) (.const (.int .i64 1)) 3,4,some (some 52,false)⟩,⟨some 55,.pick (ZT 52) (.const (.bool true)) (ZT 54),4,none⟩,⟨some 56,.move (ZT 55),4,none⟩,⟨some 57,.move (ZT 4),3,some (some 56,false)⟩,⟨some 58,.call ⟨.value (.func 28),#[ZT 57],#[3]⟩,9,some (some 56,false)⟩,⟨some 59,.move (ZT 9),9,some (some 56,false)⟩,⟨some 60,.binOp .neq 9 (ZT 58) (ZT 59) 9,4,some (some 56,false)⟩,⟨some 61,.pick (ZT 56) (.const (.bool true)) (ZT 60),4,none⟩,⟨some 62,.move (ZT 61),4,none⟩,⟨some 63,.move (ZT 9),9,some (some 62,false)⟩,⟨some 64,.call ⟨.builtin .len,#[ZT 63],#[9]⟩,3,some (some 62,false)⟩,⟨some 65,.binOp .gtr 3 (ZT 64) (.const (.int .i64 18)) 3,4,some (some 62,false)⟩,⟨some 66,.pick (ZT 62) (.const (.bool true)) (ZT 65),4,none⟩])
    (.cond (ZT 66) (.seq (.ops [⟨some 2,.assign (.const (.string { data := #[] })),9,none⟩,⟨some 3,.assign (.const (.bool false)),4,none⟩,⟨some 4,.assign (.const (.int .i64 0)),3,none⟩,⟨some 5,.assign (.const (.int .i64 2)),23,none⟩])
    .ret) .skip))
    (.seq (.ops [⟨some 67,.move (ZT 2),9,none⟩,⟨some 68,.move (ZT 8),9,none⟩,⟨some 69,.binOp .eql 9 (ZT 68) (.const (.string { data := #[111,117,116] })) 9,4,none⟩,⟨some 70,.move (ZT 4),3,none⟩,⟨some 2,.assign (ZT 67),9,none⟩,⟨some 3,.assign (ZT 69),4,none⟩,⟨some 4,.assign (ZT 70),3,none⟩,⟨some 5,.assign (.const (.int .i64 0)),23,none⟩])
    .ret))))))
def pl6 : Nat → Plan := fun _ => .done
theorem st6 : Go.Proofs.Tryz.f6.body.map (strip pl6) = some m6 := by kernel_rfl
theorem ok6 : okB pl6 Go.Proofs.Tryz.f6 1 = true := by kernel_rfl
theorem en6 {v0 w} {Q : Value → World → Prop} (h : mwpB ZP m6 (argEnv [v0]) [] w (fun e ds w => ds = [] ∧ resW ZP [.tmp 2, .tmp 3, .tmp 4, .tmp 5] e w fun v => Q v w) (fun _ _ _ _ => False) (fun e ds w => ds = [] ∧ resW ZP [.tmp 2, .tmp 3, .tmp 4, .tmp 5] e w fun v => Q v w) (fun _ _ _ _ => False) ⟨⟩) : Rets ZP 6 #[v0] w Q :=
  rets_of_mwp follows_mo Go.Proofs.Tryz.func6 pl6 st6 ok6 (by kernel_rfl) h
def m7 : MC := (.seq (.ops [⟨some 2,.assign (.const (.string { data := #[] })),9,none⟩,⟨some 3,.assign (.const (.bool false)),4,none⟩,⟨some 4,.assign (.const (.int .i64 0)),3,none⟩,⟨some 5,.assign (.const (.int .i64 0)),23,none⟩])
    (.seq (.ops [⟨some 10,.move (ZT 0),9,none⟩,⟨some 11,.call ⟨.value (.func 29),#[ZT 10,.const (.int .u8 58)],#[9,5]⟩,62,none⟩,⟨some 6,.assign (ZT 11),62,none⟩])
    (.seq (.seq (.ops [⟨some 12,.move (ZT 6),62,none⟩,⟨some 13,.call ⟨.builtin .len,#[ZT 12],#[62]⟩,3,none⟩,⟨some 14,.binOp .neq 3 (ZT 13) (.const (.int .i64 2)) 3,4,none⟩,⟨some 15,.move (ZT 14),4,none⟩,⟨some 16,.move (ZT 6),62,some (some 15,false)⟩,⟨some 17,.indexAddr 62 (ZT 16) (.const (.int .i64 0)),0,some (some 15,false)⟩,⟨some 18,.load 9 (ZT 17),9,some (some 15,false)⟩,⟨some 19,.call ⟨.value (.func 30),#[ZT 18],#[9]⟩,4,some (some 15,false)⟩,⟨some 20,.unOp .not 4 (ZT 19),4,some (some 15,false)⟩,⟨some 21,.pick (ZT 15) (.const (.bool true)) (ZT 20),4,none⟩])
    (.cond (ZT 21) (.seq (.ops [⟨some 2,.assign (.const (.string { data := #[] })),9,none⟩,⟨some 3,.assign (.const (.bool false)),4,none⟩,⟨some 4,.assign (.const (.int .i64 0)),3,none⟩,⟨some 5,.assign (.const (.int .i64 2)),23,none⟩])
    .ret) .skip))
    (.seq (.ops [⟨some 22,.move (ZT 6),62,none⟩,⟨some 23,.indexAddr 62 (ZT 22) (.const (.int .i64 1)),0,none⟩,⟨some 24,.load 9 (ZT 23),9,none⟩,⟨some 25,.call ⟨.value (.func 29),#[ZT 24,.const (.int .u8 95)],#[9,5]⟩,62,none⟩,⟨some 7,.assign (ZT 25),62,none⟩])
    (.seq (.seq (.ops [⟨some 26,.move (ZT 7),62,none⟩,⟨some 27,.call ⟨.builtin .len,#[ZT 26],#[62]⟩,3,none⟩,⟨some 28,.binOp .neq 3 (ZT 27) (.const (.int .i64 2)) 3,4,none⟩,⟨some 29,.move (ZT 28),4,none⟩,⟨some 30,.move (ZT 7),62,some (some 29,false)⟩,⟨some 31,.indexAddr 62 (ZT 30) (.const (.int .i64 0)),0,some (some 29,false)⟩,⟨some 32,.load 9 (ZT 31),9,some (some 29,false)⟩,⟨some 33,.binOp .neq 9 (ZT 32) (.const (.string { data := #[105,110] })) 9,4,some (some 29,false)⟩,⟨some 34,.move (ZT 33),4,some (some 29,false)⟩,⟨some 35,.move (ZT 7),62,some (some 34,true)⟩,⟨some 36,.indexAddr 62 (ZT 35) (.const (.int .i64 0)),0,some (some 34,true)⟩,⟨some 37,.load 9 (ZT 36),9,some (some 34,true)⟩,⟨some 38,.binOp .neq 9 (ZT 37) (.const (.string { data := #[111,117,116] })) 9,4,some (some 34,true)⟩,⟨some 39,.pick (ZT 34) (ZT 38) (.const (.bool false)),4,some (some 29,false)⟩,⟨some 40,.pick (ZT 29) (.const (.bool true)) (ZT 39),4,none⟩])
    (.cond (ZT 40) (.seq (.ops [⟨some 2,.assign (.const (.string { data := #[] })),9,none⟩,⟨some 3,.assign (.const (.bool false)),4,none⟩,⟨some 4,.assign (.const (.int .i64 0)),3,none⟩,⟨some 5,.assign (.const (.int .i64 2)),23,none⟩])
    .ret) .skip))
    (.seq (.ops [⟨some 42,.move (ZT 7),62,none⟩,⟨some 43,.indexAddr 62 (ZT 42) (.const (.int .i64 1)),0,none⟩,⟨some 44,.load 9 (ZT 43),9,none⟩,⟨some 45,.call ⟨.value (.func 31),#[ZT 44],#[9]⟩,85,none⟩,⟨some 41,.move (ZT 45),85,none⟩,⟨some 46,.extract (ZT 41) 0,3,none⟩,⟨some 47,.extract (ZT 41) 1,4,none⟩,⟨some 8,.assign (ZT 46),3,none⟩,⟨some 9,.assign (ZT 47),4,none⟩])
    (.seq (.seq (.ops [⟨some 48,.move (ZT 9),4,none⟩,⟨some 49,.unOp .not 4 (ZT 48),4,none⟩,⟨some 50,.move (ZT 49),4,none⟩,⟨some 51,.move (ZT 8),3,some (some 50,false)⟩,⟨some 52,.binOp .lss 3 (ZT 51) (.const (.int .i64 1)) 3,4,some (some 50,false)⟩,⟨some 53,.pick (ZT 50) (.const (.bool true)) (ZT 52),4,none⟩])
    (.cond (ZT 53) (.seq (.ops [⟨some 2,.assign (.const (.string { data := #[] })),9,none⟩,⟨some 3,.assign (.const (.bool false)),4,none⟩,⟨some 4,.assign (.const (.int .i64 0)),3,none⟩,⟨some 5,.assign (.const (.int .i64 2)),23,none⟩])
    .ret) .skip))
    (.seq (.draw (.take ⟨some 54,.move (ZT 6),62,none⟩ (.take ⟨some 55,.indexAddr 62 (ZT 54) (.const (.int .i64 0)),0,none⟩ (.take ⟨some 56,.load 9 (ZT 55),9,none⟩ (.take ⟨some 57,.move (ZT 7),62,none⟩ (.take ⟨some 58,.indexAddr 62 (ZT 57) (.const (.int .i64 0)),0,none⟩ (.take ⟨some 59,.load 9 (ZT 58),9,none⟩ (.take ⟨some 60,.binOp .eql 9 (ZT 59) (.const (.string { data := #[111,117,116] })) 9,4,none⟩ (.take ⟨some 61,.move (ZT 8),3,none⟩ (.take ⟨some 2,.assign (ZT 56),9,none⟩ (.take ⟨some 3,.assign (ZT 60),4,none⟩ (.take ⟨some 4,.assign (ZT 61),3,none⟩ (.take ⟨some 5,.assign (.const (.int .i64 0)),23,none⟩ .done)))))))))))))
    .ret))))))))
def pl7 : Nat → Plan := fun id => if id = 10 then (.take 0 (.take 1 (.take 2 (.take 3 (.take 4 (.take 5 (.take 6 (.take 7 (.take 8 (.take 9 (.take 10 (.take 11 .done)))))))))))) else .done
theorem st7 : Go.Proofs.Tryz.f7.body.map (strip pl7) = some m7 := by kernel_rfl
theorem ok7 : okB pl7 Go.Proofs.Tryz.f7 1 = true := by kernel_rfl
theorem en7 {v0 w} {Q : Value → World → Prop} (h : mwpB ZP m7 (argEnv [v0]) [] w (fun e ds w => ds = [] ∧ resW ZP [.tmp 2, .tmp 3, .tmp 4, .tmp 5] e w fun v => Q v w) (fun _ _ _ _ => False) (fun e ds w => ds = [] ∧ resW ZP [.tmp 2, .tmp 3, .tmp 4, .tmp 5] e w fun v => Q v w) (fun _ _ _ _ => False) ⟨⟩) : Rets ZP 7 #[v0] w Q :=
  rets_of_mwp follows_mo Go.Proofs.Tryz.func7 pl7 st7 ok7 (by kernel_rfl) h
def m27 : MC := (.seq (.ops [⟨some 2,.assign (.const (.bool false)),4,none⟩])
    (.seq (.seq (.ops [⟨some 5,.move (ZT 0),9,none⟩,⟨some 6,.convert 9 179 (ZT 5),179,none⟩,⟨some 7,.call ⟨.builtin .len,#[ZT 6],#[179]⟩,3,none⟩,⟨some 8,.move (.const (.int .i64 0)),3,none⟩])
    (.block 0 (.loop (.seq (.ops [⟨some 9,.binOp .lss 3 (ZT 8) (ZT 7) 3,0,none⟩])
    (.seq (.cond (ZT 9) .skip (.exit 0))
    (.seq (.block 1 (.seq (.ops [⟨some 10,.indexAddr 179 (ZT 6) (ZT 8),0,none⟩,⟨some 11,.load 5 (ZT 10),5,none⟩,⟨some 4,.assign (ZT 11),5,none⟩])
    (.seq (.ops [⟨some 12,.move (ZT 4),5,none⟩,⟨some 13,.binOp .lss 5 (ZT 12) (.const (.int .u8 97)) 5,4,none⟩,⟨some 14,.move (ZT 13),4,none⟩,⟨some 15,.move (ZT 4),5,some (some 14,false)⟩,⟨some 16,.binOp .gtr 5 (ZT 15) (.const (.int .u8 122)) 5,4,some (some 14,false)⟩,⟨some 17,.pick (ZT 14) (.const (.bool true)) (ZT 16),4,none⟩,⟨some 18,.move (ZT 17),4,none⟩,⟨some 19,.move (ZT 4),5,some (some 18,true)⟩,⟨some 20,.binOp .lss 5 (ZT 19) (.const (.int .u8 65)) 5,4,some (some 18,true)⟩,⟨some 21,.move (ZT 20),4,some (some 18,true)⟩,⟨some 22,.move (ZT 4),5,some (some 21,false)⟩,⟨some 23,.binOp .gtr 5 (ZT 22) (.const (.int .u8 90)) 5,4,some (some 21,false)⟩,⟨some 24,.pick (ZT 21) (.const (.bool true)) (ZT 23),4,some (some 18,true)⟩,⟨some 25,.pick (ZT 18) (ZT 24) (.const (.bool false)),4,none⟩,⟨some 26,.move (ZT 25),4,none⟩,⟨some 27,.move (ZT 4),5,some (some 26,true)⟩,⟨some 28,.binOp .lss 5 (ZT 27) (.const (.int .u8 48)) 5,4,some (some 26,true)⟩,⟨some 29,.move (ZT 28),4,some (some 26,true)⟩,⟨some 30,.move (ZT 4),5,some (some 29,false)⟩,⟨some 31,.binOp .gtr 5 (ZT 30) (.const (.int .u8 57)) 5,4,some (some 29,false)⟩,⟨some 32,.pick (ZT 29) (.const (.bool true)) (ZT 31),4,some (some 26,true)⟩,⟨some 33,.pick (ZT 26) (ZT 32) (.const (.bool false)),4,none⟩,⟨some 34,.move (ZT 33),4,none⟩,⟨some 35,.move (ZT 4),5,some (some 34,true)⟩,⟨some 36,.binOp .neq 5 (ZT 35) (.const (.int .u8 45)) 5,4,some (some 34,true)⟩,⟨some 37,.pick (ZT 34) (ZT 36) (.const (.bool false)),4,none⟩])
    (.cond (ZT 37) (.seq (.ops [⟨some 2,.assign (.const (.bool false)),4,none⟩])
    .ret) .skip))))
    (.ops [⟨some 38,.binOp .add 3 (ZT 8) (.const (.int .i64 1)) 3,3,none⟩,⟨some 8,.move (ZT 38),3,none⟩])))))))
    (.seq (.ops [⟨some 39,.move (ZT 0),9,none⟩,⟨some 40,.call ⟨.builtin .len,#[ZT 39],#[9]⟩,3,none⟩,⟨some 41,.binOp .geq 3 (ZT 40) (.const (.int .i64 1)) 3,4,none⟩,⟨some 42,.move (ZT 41),4,none⟩,⟨some 43,.move (ZT 0),9,some (some 42,true)⟩,⟨some 44,.call ⟨.builtin .len,#[ZT 43],#[9]⟩,3,some (some 42,true)⟩,⟨some 45,.binOp .leq 3 (ZT 44) (.const (.int .i64 20)) 3,4,some (some 42,true)⟩,⟨some 46,.pick (ZT 42) (ZT 45) (.const (.bool false)),4,none⟩,⟨some 2,.assign (ZT 46),4,none⟩])
    .ret)))
def pl27 : Nat → Plan := fun _ => .done
theorem st27 : Go.Proofs.Tryz.f27.body.map (strip pl27) = some m27 := by kernel_rfl
theorem ok27 : okB pl27 Go.Proofs.Tryz.f27 1 = true := by kernel_rfl
theorem en27 {v0 w} {Q : Value → World → Prop} (h : mwpB ZP m27 (argEnv [v0]) [] w (fun e ds w => ds = [] ∧ resW ZP [.tmp 2] e w fun v => Q v w) (fun _ _ _ _ => False) (fun e ds w => ds = [] ∧ resW ZP [.tmp 2] e w fun v => Q v w) (fun _ _ _ _ => False) ⟨⟩) : Rets ZP 27 #[v0] w Q :=
  rets_of_mwp follows_mo Go.Proofs.Tryz.func27 pl27 st27 ok27 (by kernel_rfl) h
def m29 : MC := (.seq (.ops [⟨some 4,.assign (.const (.slice none 0 0)),62,none⟩])
    (.seq (.ops [⟨some 5,.assign (.const (.slice none 0 0)),62,none⟩])
    (.seq (.ops [⟨some 6,.assign (.const (.int .i64 0)),3,none⟩])
    (.seq (.seq (.ops [⟨some 7,.assign (.const (.int .i64 0)),3,none⟩])
    (.block 0 (.loop (.seq (.seq (.ops [⟨some 8,.move (ZT 7),3,none⟩,⟨some 9,.move (ZT 0),9,none⟩,⟨some 10,.call ⟨.builtin .len,#[ZT 9],#[9]⟩,3,none⟩,⟨some 11,.binOp .leq 3 (ZT 8) (ZT 10) 3,4,none⟩])
    (.cond (ZT 11) .skip (.exit 0)))
    (.seq (.block 1 (.seq (.ops [⟨some 14,.move (ZT 7),3,none⟩,⟨some 15,.move (ZT 0),9,none⟩,⟨some 16,.call ⟨.builtin .len,#[ZT 15],#[9]⟩,3,none⟩,⟨some 17,.binOp .eql 3 (ZT 14) (ZT 16) 3,4,none⟩,⟨some 18,.move (ZT 17),4,none⟩,⟨some 19,.move (ZT 0),9,some (some 18,false)⟩,⟨some 20,.move (ZT 7),3,some (some 18,false)⟩,⟨some 21,.index 9 (ZT 19) (ZT 20),5,some (some 18,false)⟩,⟨some 22,.move (ZT 1),5,some (some 18,false)⟩,⟨some 23,.binOp .eql 5 (ZT 21) (ZT 22) 5,4,some (some 18,false)⟩,⟨some 24,.pick (ZT 18) (.const (.bool true)) (ZT 23),4,none⟩])
    (.cond (ZT 24) (.seq (.ops [⟨some 25,.move (ZT 5),62,none⟩,⟨some 26,.move (ZT 0),9,none⟩,⟨some 27,.move (ZT 6),3,none⟩,⟨some 28,.move (ZT 7),3,none⟩,⟨some 29,.slice 9 (ZT 26) (some (ZT 27)) (some (ZT 28)) none,9,none⟩,⟨some 30,.buildSlice 62 1 #[(0,ZT 29)],62,none⟩,⟨some 31,.call ⟨.builtin .append,#[ZT 25,ZT 30],#[62,62]⟩,62,none⟩,⟨some 5,.assign (ZT 31),62,none⟩])
    (.ops [⟨some 32,.move (ZT 7),3,none⟩,⟨some 33,.binOp .add 3 (ZT 32) (.const (.int .i64 1)) 3,3,none⟩,⟨some 6,.assign (ZT 33),3,none⟩])) .skip)))
    (.ops [⟨some 12,.move (ZT 7),3,none⟩,⟨some 13,.binOp .add 3 (ZT 12) (.const (.int .i64 1)) 3,3,none⟩,⟨some 7,.assign (ZT 13),3,none⟩]))))))
    (.seq (.ops [⟨some 34,.move (ZT 5),62,none⟩,⟨some 4,.assign (ZT 34),62,none⟩])
    .ret)))))
def pl29 : Nat → Plan := fun _ => .done
theorem st29 : Go.Proofs.Tryz.f29.body.map (strip pl29) = some m29 := by kernel_rfl
theorem ok29 : okB pl29 Go.Proofs.Tryz.f29 2 = true := by kernel_rfl
theorem en29 {v0 v1 w} {Q : Value → World → Prop} (h : mwpB ZP m29 (argEnv [v0, v1]) [] w (fun e ds w => ds = [] ∧ resW ZP [.tmp 4] e w fun v => Q v w) (fun _ _ _ _ => False) (fun e ds w => ds = [] ∧ resW ZP [.tmp 4] e w fun v => Q v w) (fun _ _ _ _ => False) ⟨⟩) : Rets ZP 29 #[v0, v1] w Q :=
  rets_of_mwp follows_mo Go.Proofs.Tryz.func29 pl29 st29 ok29 (by kernel_rfl) h
def m30 : MC := (.seq (.ops [⟨some 2,.assign (.const (.bool false)),4,none⟩])
    (.seq (.seq (.ops [⟨some 3,.assign (.const (.int .i64 0)),3,none⟩])
    (.block 0 (.loop (.seq (.seq (.ops [⟨some 5,.move (ZT 3),3,none⟩,⟨some 6,.move (ZT 0),9,none⟩,⟨some 7,.call ⟨.builtin .len,#[ZT 6],#[9]⟩,3,none⟩,⟨some 8,.binOp .lss 3 (ZT 5) (ZT 7) 3,4,none⟩])
    (.cond (ZT 8) .skip (.exit 0)))
    (.seq (.block 1 (.seq (.ops [⟨some 11,.move (ZT 0),9,none⟩,⟨some 12,.move (ZT 3),3,none⟩,⟨some 13,.index 9 (ZT 11) (ZT 12),5,none⟩,⟨some 4,.assign (ZT 13),5,none⟩])
    (.seq (.ops [⟨some 14,.move (ZT 4),5,none⟩,⟨some 15,.binOp .geq 5 (ZT 14) (.const (.int .u8 97)) 5,4,none⟩,⟨some 16,.move (ZT 15),4,none⟩,⟨some 17,.move (ZT 4),5,some (some 16,true)⟩,⟨some 18,.binOp .leq 5 (ZT 17) (.const (.int .u8 122)) 5,4,some (some 16,true)⟩,⟨some 19,.pick (ZT 16) (ZT 18) (.const (.bool false)),4,none⟩,⟨some 20,.move (ZT 19),4,none⟩,⟨some 21,.move (ZT 4),5,some (some 20,false)⟩,⟨some 22,.binOp .geq 5 (ZT 21) (.const (.int .u8 65)) 5,4,some (some 20,false)⟩,⟨some 23,.move (ZT 22),4,some (some 20,false)⟩,⟨some 24,.move (ZT 4),5,some (some 23,true)⟩,⟨some 25,.binOp .leq 5 (ZT 24) (.const (.int .u8 90)) 5,4,some (some 23,true)⟩,⟨some 26,.pick (ZT 23) (ZT 25) (.const (.bool false)),4,some (some 20,false)⟩,⟨some 27,.pick (ZT 20) (.const (.bool true)) (ZT 26),4,none⟩,⟨some 28,.move (ZT 27),4,none⟩,⟨some 29,.move (ZT 4),5,some (some 28,false)⟩,⟨some 30,.binOp .geq 5 (ZT 29) (.const (.int .u8 48)) 5,4,some (some 28,false)⟩,⟨some 31,.move (ZT 30),4,some (some 28,false)⟩,⟨some 32,.move (ZT 4),5,some (some 31,true)⟩,⟨some 33,.binOp .leq 5 (ZT 32) (.const (.int .u8 57)) 5,4,some (some 31,true)⟩,⟨some 34,.pick (ZT 31) (ZT 33) (.const (.bool false)),4,some (some 28,false)⟩,⟨some 35,.pick (ZT 28) (.const (.bool true)) (ZT 34),4,none⟩,⟨some 36,.move (ZT 35),4,none⟩,⟨some 37,.move (ZT 4),5,some (some 36,false)⟩,⟨some 38,.binOp .eql 5 (ZT 37) (.const (.int .u8 45)) 5,4,some (some 36,false)⟩,⟨some 39,.pick (ZT 36) (.const (.bool true)) (ZT 38),4,none⟩,⟨some 40,.unOp .not 4 (ZT 39),4,none⟩])
    (.cond (ZT 40) (.seq (.ops [⟨some 2,.assign (.const (.bool false)),4,none⟩])
    .ret) .skip))))
    (.ops [⟨some 9,.move (ZT 3),3,none⟩,⟨some 10,.binOp .add 3 (ZT 9) (.const (.int .i64 1)) 3,3,none⟩,⟨some 3,.assign (ZT 10),3,none⟩]))))))
    (.seq (.ops [⟨some 41,.move (ZT 0),9,none⟩,⟨some 42,.call ⟨.builtin .len,#[ZT 41],#[9]⟩,3,none⟩,⟨some 43,.binOp .geq 3 (ZT 42) (.const (.int .i64 1)) 3,4,none⟩,⟨some 44,.move (ZT 43),4,none⟩,⟨some 45,.move (ZT 0),9,some (some 44,true)⟩,⟨some 46,.call ⟨.builtin .len,#[ZT 45],#[9]⟩,3,some (some 44,true)⟩,⟨some 47,.binOp .leq 3 (ZT 46) (.const (.int .i64 20)) 3,4,some (some 44,true)⟩,⟨some 48,.pick (ZT 44) (ZT 47) (.const (.bool false)),4,none⟩,⟨some 2,.assign (ZT 48),4,none⟩])
    .ret)))
def pl30 : Nat → Plan := fun _ => .done
theorem st30 : Go.Proofs.Tryz.f30.body.map (strip pl30) = some m30 := by kernel_rfl
theorem ok30 : okB pl30 Go.Proofs.Tryz.f30 1 = true := by kernel_rfl
theorem en30 {v0 w} {Q : Value → World → Prop} (h : mwpB ZP m30 (argEnv [v0]) [] w (fun e ds w => ds = [] ∧ resW ZP [.tmp 2] e w fun v => Q v w) (fun _ _ _ _ => False) (fun e ds w => ds = [] ∧ resW ZP [.tmp 2] e w fun v => Q v w) (fun _ _ _ _ => False) ⟨⟩) : Rets ZP 30 #[v0] w Q :=
  rets_of_mwp follows_mo Go.Proofs.Tryz.func30 pl30 st30 ok30 (by kernel_rfl) h
def m31 : MC := (.seq (.ops [⟨some 2,.assign (.const (.int .i64 0)),3,none⟩,⟨some 3,.assign (.const (.bool false)),4,none⟩])
    (.seq (.seq (.ops [⟨some 6,.move (ZT 0),9,none⟩,⟨some 7,.call ⟨.builtin .len,#[ZT 6],#[9]⟩,3,none⟩,⟨some 8,.binOp .lss 3 (ZT 7) (.const (.int .i64 1)) 3,4,none⟩,⟨some 9,.move (ZT 8),4,none⟩,⟨some 10,.move (ZT 0),9,some (some 9,false)⟩,⟨some 11,.call ⟨.builtin .len,#[ZT 10],#[9]⟩,3,some (some 9,false)⟩,⟨some 12,.binOp .gtr 3 (ZT 11) (.const (.int .i64 18)) 3,4,some (some 9,false)⟩,⟨some 13,.pick (ZT 9) (.const (.bool true)) (ZT 12),4,none⟩,⟨some 14,.move (ZT 13),4,none⟩,⟨some 15,.move (ZT 0),9,some (some 14,false)⟩,⟨some 16,.call ⟨.builtin .len,#[ZT 15],#[9]⟩,3,some (some 14,false)⟩,⟨some 17,.binOp .gtr 3 (ZT 16) (.const (.int .i64 1)) 3,4,some (some 14,false)⟩,⟨some 18,.move (ZT 17),4,some (some 14,false)⟩,⟨some 19,.move (ZT 0),9,some (some 18,true)⟩,⟨some 20,.index 9 (ZT 19) (.const (.int .i64 0)),5,some (some 18,true)⟩,⟨some 21,.binOp .eql 5 (ZT 20) (.const (.int .u8 48)) 5,4,some (some 18,true)⟩,⟨some 22,.pick (ZT 18) (ZT 21) (.const (.bool false)),4,some (some 14,false)⟩,⟨some 23,.pick (ZT 14) (.const (.bool true)) (ZT 22),4,none⟩])
    (.cond (ZT 23) (.seq (.ops [⟨some 2,.assign (.const (.int .i64 0)),3,none⟩,⟨some 3,.assign (.const (.bool false)),4,none⟩])
    .ret) .skip))
    (.seq (.ops [⟨some 4,.assign (.const (.int .i64 0)),3,none⟩])
    (.seq (.seq (.ops [⟨some 5,.assign (.const (.int .i64 0)),3,none⟩])
    (.block 0 (.loop (.seq (.seq (.ops [⟨some 24,.move (ZT 5),3,none⟩,⟨some 25,.move (ZT 0),9,none⟩,⟨some 26,.call ⟨.builtin .len,#[ZT 25],#[9]⟩,3,none⟩,⟨some 27,.binOp .lss 3 (ZT 24) (ZT 26) 3,4,none⟩])
    (.cond (ZT 27) .skip (.exit 0)))
    (.seq (.block 1 (.seq (.seq (.ops [⟨some 30,.move (ZT 0),9,none⟩,⟨some 31,.move (ZT 5),3,none⟩,⟨some 32,.index 9 (ZT 30) (ZT 31),5,none⟩,⟨some 33,.binOp .lss 5 (ZT 32) (.const (.int .u8 48)) 5,4,none⟩,⟨some 34,.move (ZT 33),4,none⟩,⟨some 35,.move (ZT 0),9,some (some 34,false)⟩,⟨some 36,.move (ZT 5),3,some (some 34,false)⟩,⟨some 37,.index 9 (ZT 35) (ZT 36),5,some (some 34,false)⟩,⟨some 38,.binOp .gtr 5 (ZT 37) (.const (.int .u8 57)) 5,4,some (some 34,false)⟩,⟨some 39,.pick (ZT 34) (.const (.bool true)) (ZT 38),4,none⟩])
    (.cond (ZT 39) (.seq (.ops [⟨some 2,.assign (.const (.int .i64 0)),3,none⟩,⟨some 3,.assign (.const (.bool false)),4,none⟩])
    .ret) .skip))
    (.ops [⟨some 40,.move (ZT 4),3,none⟩,⟨some 41,.binOp .mul 3 (ZT 40) (.const (.int .i64 10)) 3,3,none⟩,⟨some 42,.move (ZT 0),9,none⟩,⟨some 43,.move (ZT 5),3,none⟩,⟨some 44,.index 9 (ZT 42) (ZT 43),5,none⟩,⟨some 45,.binOp .sub 5 (ZT 44) (.const (.int .u8 48)) 5,5,none⟩,⟨some 46,.convert 5 3 (ZT 45),3,none⟩,⟨some 47,.binOp .add 3 (ZT 41) (ZT 46) 3,3,none⟩,⟨some 4,.assign (ZT 47),3,none⟩])))
    (.ops [⟨some 28,.move (ZT 5),3,none⟩,⟨some 29,.binOp .add 3 (ZT 28) (.const (.int .i64 1)) 3,3,none⟩,⟨some 5,.assign (ZT 29),3,none⟩]))))))
    (.seq (.ops [⟨some 48,.move (ZT 4),3,none⟩,⟨some 2,.assign (ZT 48),3,none⟩,⟨some 3,.assign (.const (.bool true)),4,none⟩])
    .ret)))))
def pl31 : Nat → Plan := fun _ => .done
theorem st31 : Go.Proofs.Tryz.f31.body.map (strip pl31) = some m31 := by kernel_rfl
theorem ok31 : okB pl31 Go.Proofs.Tryz.f31 1 = true := by kernel_rfl
theorem en31 {v0 w} {Q : Value → World → Prop} (h : mwpB ZP m31 (argEnv [v0]) [] w (fun e ds w => ds = [] ∧ resW ZP [.tmp 2, .tmp 3] e w fun v => Q v w) (fun _ _ _ _ => False) (fun e ds w => ds = [] ∧ resW ZP [.tmp 2, .tmp 3] e w fun v => Q v w) (fun _ _ _ _ => False) ⟨⟩) : Rets ZP 31 #[v0] w Q :=
  rets_of_mwp follows_mo Go.Proofs.Tryz.func31 pl31 st31 ok31 (by kernel_rfl) h
end Go.Proofs.YtolamibbionobaaGreatDoor
