/- The functions, stripped. -/
import Derived.Test.YthcdnjbhhaonhaaGreatDoorQvMwT
import Derived.Test.YthcdnjbhhaonhaaGreatDoorQvMwIn

namespace Go.Proofs.YthcdnjbhhaonhaaGreatDoor
open Go.RowKit
open Go.Operand renaming tmp → ZT
open Go.Proofs.Tryz renaming prog → ZP
set_option maxRecDepth 100000
def m120 : MC := (.seq (.ops [⟨some 1,.box 64 (ZT 0),0,none⟩,⟨some 2,.assign (.const (.string { data := #[] })),9,none⟩])
    (.seq (.ops [⟨some 3,.assign (.const (.string { data := #[] })),9,none⟩])
    (.seq (.seq (.ops [⟨some 6,.fieldAddr 64 (ZT 1) 0,0,none⟩,⟨some 7,.load 3 (ZT 6),3,none⟩])
    (.block 0 (.seq (.ops [⟨some 9,.binOp .eql 3 (ZT 7) (.const (.int .i64 2)) 3,4,none⟩,⟨some 8,.assign (ZT 9),4,none⟩])
    (.cond (ZT 8) (.ops [⟨some 10,.fieldAddr 64 (ZT 1) 1,0,none⟩,⟨some 11,.load 3 (ZT 10),3,none⟩,⟨some 12,.convert 3 152 (ZT 11),152,none⟩,⟨some 13,.call ⟨.value (.func 145),#[ZT 12,.const (.int .i64 4)],#[152,3]⟩,9,none⟩,⟨some 3,.assign (ZT 13),9,none⟩]) (.seq (.ops [⟨some 15,.binOp .eql 3 (ZT 7) (.const (.int .i64 3)) 3,4,none⟩,⟨some 14,.assign (ZT 15),4,none⟩])
    (.cond (ZT 14) (.ops [⟨some 16,.fieldAddr 64 (ZT 1) 1,0,none⟩,⟨some 17,.load 3 (ZT 16),3,none⟩,⟨some 18,.convert 3 152 (ZT 17),152,none⟩,⟨some 19,.call ⟨.value (.func 145),#[ZT 18,.const (.int .i64 8)],#[152,3]⟩,9,none⟩,⟨some 3,.assign (ZT 19),9,none⟩]) (.seq (.seq (.ops [⟨some 21,.binOp .eql 3 (ZT 7) (.const (.int .i64 4)) 3,4,none⟩,⟨some 20,.assign (ZT 21),4,none⟩])
    (.cond (ZT 20) .skip (.ops [⟨some 22,.binOp .eql 3 (ZT 7) (.const (.int .i64 5)) 3,4,none⟩,⟨some 20,.assign (ZT 22),4,none⟩])))
    (.cond (ZT 20) (.ops [⟨some 23,.fieldAddr 64 (ZT 1) 2,0,none⟩,⟨some 24,.load 9 (ZT 23),9,none⟩,⟨some 3,.assign (ZT 24),9,none⟩]) (.seq (.seq (.ops [⟨some 26,.binOp .eql 3 (ZT 7) (.const (.int .i64 8)) 3,4,none⟩,⟨some 25,.assign (ZT 26),4,none⟩])
    (.cond (ZT 25) .skip (.ops [⟨some 27,.binOp .eql 3 (ZT 7) (.const (.int .i64 9)) 3,4,none⟩,⟨some 25,.assign (ZT 27),4,none⟩])))
    (.cond (ZT 25) (.ops [⟨some 28,.fieldAddr 64 (ZT 1) 1,0,none⟩,⟨some 29,.load 3 (ZT 28),3,none⟩,⟨some 30,.convert 3 152 (ZT 29),152,none⟩,⟨some 31,.call ⟨.value (.func 145),#[ZT 30,.const (.int .i64 4)],#[152,3]⟩,9,none⟩,⟨some 32,.binOp .add 9 (ZT 31) (.const (.string { data := #[0,0,0,0] })) 9,9,none⟩,⟨some 3,.assign (ZT 32),9,none⟩]) .skip))))))))))
    (.seq (.seq (.ops [⟨some 4,.assign (.const (.int .i64 0)),3,none⟩])
    (.block 1 (.loop (.seq (.seq (.ops [⟨some 33,.move (ZT 4),3,none⟩,⟨some 34,.fieldAddr 64 (ZT 1) 4,0,none⟩,⟨some 35,.load 62 (ZT 34),62,none⟩,⟨some 36,.call ⟨.builtin .len,#[ZT 35],#[62]⟩,3,none⟩,⟨some 37,.binOp .lss 3 (ZT 33) (ZT 36) 3,4,none⟩])
    (.cond (ZT 37) .skip (.exit 1)))
    (.seq (.block 2 (.seq (.seq (.ops [⟨some 40,.fieldAddr 64 (ZT 1) 0,0,none⟩,⟨some 41,.load 3 (ZT 40),3,none⟩,⟨some 42,.binOp .eql 3 (ZT 41) (.const (.int .i64 8)) 3,4,none⟩,⟨some 43,.move (ZT 42),4,none⟩,⟨some 44,.fieldAddr 64 (ZT 1) 0,0,some (some 43,false)⟩,⟨some 45,.load 3 (ZT 44),3,some (some 43,false)⟩,⟨some 46,.binOp .eql 3 (ZT 45) (.const (.int .i64 10)) 3,4,some (some 43,false)⟩,⟨some 47,.pick (ZT 43) (.const (.bool true)) (ZT 46),4,none⟩])
    (.cond (ZT 47) (.ops [⟨some 48,.move (ZT 3),9,none⟩,⟨some 49,.fieldAddr 64 (ZT 1) 3,0,none⟩,⟨some 50,.load 33 (ZT 49),33,none⟩,⟨some 51,.move (ZT 4),3,none⟩,⟨some 52,.indexAddr 33 (ZT 50) (ZT 51),0,none⟩,⟨some 53,.load 3 (ZT 52),3,none⟩,⟨some 54,.convert 3 152 (ZT 53),152,none⟩,⟨some 55,.call ⟨.value (.func 145),#[ZT 54,.const (.int .i64 4)],#[152,3]⟩,9,none⟩,⟨some 56,.binOp .add 9 (ZT 55) (.const (.string { data := #[0,0,0,0] })) 9,9,none⟩,⟨some 57,.binOp .add 9 (ZT 48) (ZT 56) 9,9,none⟩,⟨some 3,.assign (ZT 57),9,none⟩]) .skip))
    (.ops [⟨some 58,.move (ZT 3),9,none⟩,⟨some 59,.fieldAddr 64 (ZT 1) 4,0,none⟩,⟨some 60,.load 62 (ZT 59),62,none⟩,⟨some 61,.move (ZT 4),3,none⟩,⟨some 62,.indexAddr 62 (ZT 60) (ZT 61),0,none⟩,⟨some 63,.load 64 (ZT 62),64,none⟩,⟨some 64,.call ⟨.value (.func 120),#[ZT 63],#[64]⟩,9,none⟩,⟨some 65,.binOp .add 9 (ZT 58) (ZT 64) 9,9,none⟩,⟨some 3,.assign (ZT 65),9,none⟩])))
    (.ops [⟨some 38,.move (ZT 4),3,none⟩,⟨some 39,.binOp .add 3 (ZT 38) (.const (.int .i64 1)) 3,3,none⟩,⟨some 4,.assign (ZT 39),3,none⟩]))))))
    (.seq (.draw (.take ⟨some 66,.move (ZT 3),9,none⟩ (.take ⟨some 67,.call ⟨.builtin .len,#[ZT 66],#[9]⟩,3,none⟩ (.take ⟨some 68,.convert 3 152 (ZT 67),152,none⟩ (.take ⟨some 70,.fieldAddr 64 (ZT 1) 0,0,none⟩ (.take ⟨some 71,.load 3 (ZT 70),3,none⟩ (.take ⟨some 72,.convert 3 152 (ZT 71),152,none⟩ (.take ⟨some 75,.move (ZT 3),9,none⟩ (.alt ⟨some 69,.call ⟨.value (.func 145),#[ZT 68,.const (.int .i64 4)],#[152,3]⟩,9,none⟩ (.alt ⟨some 73,.call ⟨.value (.func 145),#[ZT 72,.const (.int .i64 4)],#[152,3]⟩,9,none⟩ (.take ⟨some 74,.binOp .add 9 (ZT 69) (ZT 73) 9,9,none⟩ (.take ⟨some 76,.binOp .add 9 (ZT 74) (ZT 75) 9,9,none⟩ (.take ⟨some 5,.assign (ZT 76),9,none⟩ .done))) .none) .none)))))))))
    (.seq (.block 3 (.loop (.seq (.seq (.ops [⟨some 77,.move (ZT 5),9,none⟩,⟨some 78,.call ⟨.builtin .len,#[ZT 77],#[9]⟩,3,none⟩,⟨some 79,.binOp .rem 3 (ZT 78) (.const (.int .i64 8)) 3,3,none⟩,⟨some 80,.binOp .neq 3 (ZT 79) (.const (.int .i64 0)) 3,4,none⟩])
    (.cond (ZT 80) .skip (.exit 3)))
    (.block 4 (.ops [⟨some 81,.move (ZT 5),9,none⟩,⟨some 82,.binOp .add 9 (ZT 81) (.const (.string { data := #[0] })) 9,9,none⟩,⟨some 5,.assign (ZT 82),9,none⟩])))))
    (.seq (.ops [⟨some 83,.move (ZT 5),9,none⟩,⟨some 2,.assign (ZT 83),9,none⟩])
    .ret)))))))
def pl120 : Nat → Plan := fun id => if id = 19 then (.take 0 (.take 1 (.take 2 (.take 4 (.take 5 (.take 6 (.take 9 (.alt 3 (.alt 7 (.take 8 (.take 10 (.take 11 .done))) .none) .none)))))))) else .done
theorem st120 : Go.Proofs.Tryz.f120.body.map (strip pl120) = some m120 := by kernel_rfl
theorem ok120 : okB pl120 Go.Proofs.Tryz.f120 1 = true := by kernel_rfl
theorem en120 {v0 w} {Q : Value → World → Prop} (h : mwpB ZP m120 (argEnv [v0]) [] w (fun e ds w => ds = [] ∧ resW ZP [.tmp 2] e w fun v => Q v w) (fun _ _ _ _ => False) (fun e ds w => ds = [] ∧ resW ZP [.tmp 2] e w fun v => Q v w) (fun _ _ _ _ => False) ⟨⟩) : Rets ZP 120 #[v0] w Q :=
  rets_of_mwp follows_mo Go.Proofs.Tryz.func120 pl120 st120 ok120 (by kernel_rfl) h
def m138 : MC := (.seq (.ops [⟨some 1,.box 64 (ZT 0),0,none⟩,⟨some 2,.assign (.const .nilFunc),147,none⟩])
    (.seq (.ops [⟨some 3,.makeFunc (.func 160) #[] #[ZT 1],147,none⟩,⟨some 2,.assign (ZT 3),147,none⟩])
    .ret))
def pl138 : Nat → Plan := fun _ => .done
theorem st138 : Go.Proofs.Tryz.f138.body.map (strip pl138) = some m138 := by kernel_rfl
theorem ok138 : okB pl138 Go.Proofs.Tryz.f138 1 = true := by kernel_rfl
theorem en138 {v0 w} {Q : Value → World → Prop} (h : mwpB ZP m138 (argEnv [v0]) [] w (fun e ds w => ds = [] ∧ resW ZP [.tmp 2] e w fun v => Q v w) (fun _ _ _ _ => False) (fun e ds w => ds = [] ∧ resW ZP [.tmp 2] e w fun v => Q v w) (fun _ _ _ _ => False) ⟨⟩) : Rets ZP 138 #[v0] w Q :=
  rets_of_mwp follows_mo Go.Proofs.Tryz.func138 pl138 st138 ok138 (by kernel_rfl) h
def m139 : MC := (.seq (.ops [⟨some 1,.box 64 (ZT 0),0,none⟩,⟨some 2,.assign (.const (.bool false)),4,none⟩])
    (.seq (.draw (.take ⟨some 3,.fieldAddr 64 (ZT 1) 0,0,none⟩ (.take ⟨some 4,.load 3 (ZT 3),3,none⟩ (.take ⟨some 5,.binOp .geq 3 (ZT 4) (.const (.int .i64 1)) 3,4,none⟩ (.take ⟨some 6,.move (ZT 5),4,none⟩ (.take ⟨some 7,.fieldAddr 64 (ZT 1) 0,0,some (some 6,true)⟩ (.take ⟨some 8,.load 3 (ZT 7),3,some (some 6,true)⟩ (.take ⟨some 9,.binOp .leq 3 (ZT 8) (.const (.int .i64 10)) 3,4,some (some 6,true)⟩ (.take ⟨some 10,.pick (ZT 6) (ZT 9) (.const (.bool false)),4,none⟩ (.take ⟨some 11,.move (ZT 10),4,none⟩ (.take ⟨some 13,.fieldAddr 64 (ZT 1) 0,0,some (some 11,true)⟩ (.take ⟨some 14,.load 3 (ZT 13),3,some (some 11,true)⟩ (.take ⟨some 17,.load 64 (ZT 1),64,some (some 11,true)⟩ (.alt ⟨some 12,.call ⟨.value (.func 162),#[],#[]⟩,162,some (some 11,true)⟩ (.take ⟨some 15,.indexAddr 162 (ZT 12) (ZT 14),0,some (some 11,true)⟩ (.alt ⟨some 16,.load 65 (ZT 15),65,some (some 11,true)⟩ (.alt ⟨some 18,.call ⟨.value (ZT 16),#[ZT 17],#[64]⟩,4,some (some 11,true)⟩ (.take ⟨some 19,.pick (ZT 11) (ZT 18) (.const (.bool false)),4,none⟩ (.take ⟨some 2,.assign (ZT 19),4,none⟩ .done)) .none) .none)) .none))))))))))))))
    .ret))
def pl139 : Nat → Plan := fun id => if id = 1 then (.take 0 (.take 1 (.take 2 (.take 3 (.take 4 (.take 5 (.take 6 (.take 7 (.take 8 (.take 10 (.take 11 (.take 14 (.alt 9 (.take 12 (.alt 13 (.alt 15 (.take 16 (.take 17 .done)) .none) .none)) .none))))))))))))) else .done
theorem st139 : Go.Proofs.Tryz.f139.body.map (strip pl139) = some m139 := by kernel_rfl
theorem ok139 : okB pl139 Go.Proofs.Tryz.f139 1 = true := by kernel_rfl
theorem en139 {v0 w} {Q : Value → World → Prop} (h : mwpB ZP m139 (argEnv [v0]) [] w (fun e ds w => ds = [] ∧ resW ZP [.tmp 2] e w fun v => Q v w) (fun _ _ _ _ => False) (fun e ds w => ds = [] ∧ resW ZP [.tmp 2] e w fun v => Q v w) (fun _ _ _ _ => False) ⟨⟩) : Rets ZP 139 #[v0] w Q :=
  rets_of_mwp follows_mo Go.Proofs.Tryz.func139 pl139 st139 ok139 (by kernel_rfl) h
def m140 : MC := (.seq (.ops [⟨some 2,.assign (.const (.int .i64 0)),3,none⟩])
    (.seq (.ops [⟨some 3,.move (ZT 0),3,none⟩,⟨some 4,.binOp .add 3 (ZT 3) (.const (.int .i64 7)) 3,3,none⟩,⟨some 5,.binOp .quo 3 (ZT 4) (.const (.int .i64 8)) 3,3,none⟩,⟨some 6,.binOp .mul 3 (ZT 5) (.const (.int .i64 8)) 3,3,none⟩,⟨some 2,.assign (ZT 6),3,none⟩])
    .ret))
def pl140 : Nat → Plan := fun _ => .done
theorem st140 : Go.Proofs.Tryz.f140.body.map (strip pl140) = some m140 := by kernel_rfl
theorem ok140 : okB pl140 Go.Proofs.Tryz.f140 1 = true := by kernel_rfl
theorem en140 {v0 w} {Q : Value → World → Prop} (h : mwpB ZP m140 (argEnv [v0]) [] w (fun e ds w => ds = [] ∧ resW ZP [.tmp 2] e w fun v => Q v w) (fun _ _ _ _ => False) (fun e ds w => ds = [] ∧ resW ZP [.tmp 2] e w fun v => Q v w) (fun _ _ _ _ => False) ⟨⟩) : Rets ZP 140 #[v0] w Q :=
  rets_of_mwp follows_mo Go.Proofs.Tryz.func140 pl140 st140 ok140 (by kernel_rfl) h
def m141 : MC := (.seq (.ops [⟨some 1,.box 64 (ZT 0),0,none⟩,⟨some 2,.assign (.const (.int .i64 0)),3,none⟩])
    (.seq (.seq (.ops [⟨some 6,.fieldAddr 64 (ZT 1) 0,0,none⟩,⟨some 7,.load 3 (ZT 6),3,none⟩])
    (.block 0 (.seq (.ops [⟨some 9,.binOp .eql 3 (ZT 7) (.const (.int .i64 1)) 3,4,none⟩,⟨some 8,.assign (ZT 9),4,none⟩])
    (.cond (ZT 8) (.seq (.ops [⟨some 2,.assign (.const (.int .i64 0)),3,none⟩])
    .ret) (.seq (.ops [⟨some 11, .binOp .eql 3 (.tmp 7) (.const (.int .i64 2)) 3, 4, none⟩, ⟨some 10, .assign (.tmp 11), 4, none⟩])
    (.cond (ZT 10) (.seq (.ops [⟨some 2,.assign (.const (.int .i64 4)),3,none⟩])
    .ret) (.seq (.ops [⟨some 13, .binOp .eql 3 (.tmp 7) (.const (.int .i64 3)) 3, 4, none⟩, ⟨some 12, .assign (.tmp 13), 4, none⟩])
    (.cond (ZT 12) (.seq (.ops [⟨some 2,.assign (.const (.int .i64 8)),3,none⟩])
    .ret) (.seq (.seq (.ops [⟨some 15, .binOp .eql 3 (.tmp 7) (.const (.int .i64 4)) 3, 4, none⟩, ⟨some 14, .assign (.tmp 15), 4, none⟩])
    (.cond (ZT 14) .skip (.ops [⟨some 16,.binOp .eql 3 (ZT 7) (.const (.int .i64 5)) 3,4,none⟩,⟨some 14,.assign (ZT 16),4,none⟩])))
    (.cond (ZT 14) (.seq (.ops [⟨some 17,.fieldAddr 64 (ZT 1) 2,0,none⟩,⟨some 18,.load 9 (ZT 17),9,none⟩,⟨some 19,.call ⟨.builtin .len,#[ZT 18],#[9]⟩,3,none⟩,⟨some 2,.assign (ZT 19),3,none⟩])
    .ret) .skip))))))))))
    (.seq (.ops [⟨some 3,.assign (.const (.int .i64 0)),3,none⟩])
    (.seq (.seq (.ops [⟨some 20,.fieldAddr 64 (ZT 1) 0,0,none⟩,⟨some 21,.load 3 (ZT 20),3,none⟩,⟨some 22,.binOp .eql 3 (ZT 21) (.const (.int .i64 8)) 3,4,none⟩,⟨some 23,.move (ZT 22),4,none⟩,⟨some 24,.fieldAddr 64 (ZT 1) 0,0,some (some 23,false)⟩,⟨some 25,.load 3 (ZT 24),3,some (some 23,false)⟩,⟨some 26,.binOp .eql 3 (ZT 25) (.const (.int .i64 9)) 3,4,some (some 23,false)⟩,⟨some 27,.pick (ZT 23) (.const (.bool true)) (ZT 26),4,none⟩])
    (.cond (ZT 27) (.ops [⟨some 3,.assign (.const (.int .i64 8)),3,none⟩]) .skip))
    (.seq (.seq (.ops [⟨some 28,.fieldAddr 64 (ZT 1) 4,0,none⟩,⟨some 29,.load 62 (ZT 28),62,none⟩,⟨some 30,.call ⟨.builtin .len,#[ZT 29],#[62]⟩,3,none⟩,⟨some 31,.move (.const (.int .i64 0)),3,none⟩])
    (.block 1 (.loop (.seq (.ops [⟨some 32,.binOp .lss 3 (ZT 31) (ZT 30) 3,0,none⟩])
    (.seq (.cond (ZT 32) .skip (.exit 1))
    (.seq (.block 2 (.seq (.ops [⟨some 33,.indexAddr 62 (ZT 29) (ZT 31),0,none⟩,⟨some 34,.load 64 (ZT 33),64,none⟩,⟨some 5,.alloc 64,0,none⟩,⟨none,.store 64 (ZT 5) (ZT 34),0,none⟩])
    (.seq (.ops [⟨some 35,.move (ZT 3),3,none⟩,⟨some 36,.load 64 (ZT 5),64,none⟩,⟨some 37,.call ⟨.value (.func 116),#[ZT 36],#[64]⟩,3,none⟩,⟨some 38,.binOp .add 3 (ZT 35) (ZT 37) 3,3,none⟩,⟨some 3,.assign (ZT 38),3,none⟩])
    (.seq (.ops [⟨some 39,.fieldAddr 64 (ZT 1) 0,0,none⟩,⟨some 40,.load 3 (ZT 39),3,none⟩,⟨some 41,.binOp .eql 3 (ZT 40) (.const (.int .i64 8)) 3,4,none⟩,⟨some 42,.move (ZT 41),4,none⟩,⟨some 43,.fieldAddr 64 (ZT 1) 0,0,some (some 42,false)⟩,⟨some 44,.load 3 (ZT 43),3,some (some 42,false)⟩,⟨some 45,.binOp .eql 3 (ZT 44) (.const (.int .i64 10)) 3,4,some (some 42,false)⟩,⟨some 46,.pick (ZT 42) (.const (.bool true)) (ZT 45),4,none⟩])
    (.cond (ZT 46) (.ops [⟨some 47,.move (ZT 3),3,none⟩,⟨some 48,.binOp .add 3 (ZT 47) (.const (.int .i64 8)) 3,3,none⟩,⟨some 3,.assign (ZT 48),3,none⟩]) .skip)))))
    (.ops [⟨some 49,.binOp .add 3 (ZT 31) (.const (.int .i64 1)) 3,3,none⟩,⟨some 31,.move (ZT 49),3,none⟩])))))))
    (.seq (.ops [⟨some 50,.move (ZT 3),3,none⟩,⟨some 2,.assign (ZT 50),3,none⟩])
    .ret))))))
def pl141 : Nat → Plan := fun _ => .done
theorem st141 : Go.Proofs.Tryz.f141.body.map (strip pl141) = some m141 := by kernel_rfl
theorem ok141 : okB pl141 Go.Proofs.Tryz.f141 1 = true := by kernel_rfl
theorem en141 {v0 w} {Q : Value → World → Prop} (h : mwpB ZP m141 (argEnv [v0]) [] w (fun e ds w => ds = [] ∧ resW ZP [.tmp 2] e w fun v => Q v w) (fun _ _ _ _ => False) (fun e ds w => ds = [] ∧ resW ZP [.tmp 2] e w fun v => Q v w) (fun _ _ _ _ => False) ⟨⟩) : Rets ZP 141 #[v0] w Q :=
  rets_of_mwp follows_mo Go.Proofs.Tryz.func141 pl141 st141 ok141 (by kernel_rfl) h
def m142 : MC := (.seq (.ops [⟨some 5,.box 64 (ZT 0),0,none⟩,⟨some 10,.assign (.const (.bool false)),4,none⟩])
    (.seq (.ops [⟨some 11,.move (ZT 1),4,none⟩,⟨some 12,.move (ZT 11),4,none⟩,⟨some 13,.fieldAddr 64 (ZT 5) 1,0,some (some 12,false)⟩,⟨some 14,.load 3 (ZT 13),3,some (some 12,false)⟩,⟨some 15,.binOp .eql 3 (ZT 14) (.const (.int .i64 0)) 3,4,some (some 12,false)⟩,⟨some 16,.pick (ZT 12) (.const (.bool true)) (ZT 15),4,none⟩,⟨some 17,.move (ZT 16),4,none⟩,⟨some 18,.move (ZT 2),4,some (some 17,true)⟩,⟨some 19,.move (ZT 18),4,some (some 17,true)⟩,⟨some 20,.fieldAddr 64 (ZT 5) 2,0,some (some 19,false)⟩,⟨some 21,.load 9 (ZT 20),9,some (some 19,false)⟩,⟨some 22,.binOp .eql 9 (ZT 21) (.const (.string { data := #[] })) 9,4,some (some 19,false)⟩,⟨some 23,.pick (ZT 19) (.const (.bool true)) (ZT 22),4,some (some 17,true)⟩,⟨some 24,.pick (ZT 17) (ZT 23) (.const (.bool false)),4,none⟩,⟨some 25,.move (ZT 24),4,none⟩,⟨some 26,.move (ZT 3),4,some (some 25,true)⟩,⟨some 27,.move (ZT 26),4,some (some 25,true)⟩,⟨some 28,.fieldAddr 64 (ZT 5) 3,0,some (some 27,false)⟩,⟨some 29,.load 33 (ZT 28),33,some (some 27,false)⟩,⟨some 30,.call ⟨.builtin .len,#[ZT 29],#[33]⟩,3,some (some 27,false)⟩,⟨some 31,.binOp .eql 3 (ZT 30) (.const (.int .i64 0)) 3,4,some (some 27,false)⟩,⟨some 32,.pick (ZT 27) (.const (.bool true)) (ZT 31),4,some (some 25,true)⟩,⟨some 33,.pick (ZT 25) (ZT 32) (.const (.bool false)),4,none⟩,⟨some 34,.move (ZT 33),4,none⟩,⟨some 35,.move (ZT 4),4,some (some 34,true)⟩,⟨some 36,.move (ZT 35),4,some (some 34,true)⟩,⟨some 37,.fieldAddr 64 (ZT 5) 4,0,some (some 36,false)⟩,⟨some 38,.load 62 (ZT 37),62,some (some 36,false)⟩,⟨some 39,.call ⟨.builtin .len,#[ZT 38],#[62]⟩,3,some (some 36,false)⟩,⟨some 40,.binOp .eql 3 (ZT 39) (.const (.int .i64 0)) 3,4,some (some 36,false)⟩,⟨some 41,.pick (ZT 36) (.const (.bool true)) (ZT 40),4,some (some 34,true)⟩,⟨some 42,.pick (ZT 34) (ZT 41) (.const (.bool false)),4,none⟩,⟨some 10,.assign (ZT 42),4,none⟩])
    .ret))
def pl142 : Nat → Plan := fun _ => .done
theorem st142 : Go.Proofs.Tryz.f142.body.map (strip pl142) = some m142 := by kernel_rfl
theorem ok142 : okB pl142 Go.Proofs.Tryz.f142 5 = true := by kernel_rfl
theorem en142 {v0 v1 v2 v3 v4 w} {Q : Value → World → Prop} (h : mwpB ZP m142 (argEnv [v0, v1, v2, v3, v4]) [] w (fun e ds w => ds = [] ∧ resW ZP [.tmp 10] e w fun v => Q v w) (fun _ _ _ _ => False) (fun e ds w => ds = [] ∧ resW ZP [.tmp 10] e w fun v => Q v w) (fun _ _ _ _ => False) ⟨⟩) : Rets ZP 142 #[v0, v1, v2, v3, v4] w Q :=
  rets_of_mwp follows_mo Go.Proofs.Tryz.func142 pl142 st142 ok142 (by kernel_rfl) h
def m143 : MC := (.seq (.ops [⟨some 1,.box 64 (ZT 0),0,none⟩,⟨some 2,.assign (.const (.bool false)),4,none⟩])
    (.seq (.seq (.ops [⟨some 3,.assign (.const (.int .i64 0)),3,none⟩])
    (.block 0 (.loop (.seq (.seq (.ops [⟨some 4,.move (ZT 3),3,none⟩,⟨some 5,.fieldAddr 64 (ZT 1) 4,0,none⟩,⟨some 6,.load 62 (ZT 5),62,none⟩,⟨some 7,.call ⟨.builtin .len,#[ZT 6],#[62]⟩,3,none⟩,⟨some 8,.binOp .lss 3 (ZT 4) (ZT 7) 3,4,none⟩])
    (.cond (ZT 8) .skip (.exit 0)))
    (.seq (.block 1 (.seq (.ops [⟨some 11,.fieldAddr 64 (ZT 1) 4,0,none⟩,⟨some 12,.load 62 (ZT 11),62,none⟩,⟨some 13,.move (ZT 3),3,none⟩,⟨some 14,.indexAddr 62 (ZT 12) (ZT 13),0,none⟩,⟨some 15,.load 64 (ZT 14),64,none⟩,⟨some 16,.call ⟨.value (.func 117),#[ZT 15],#[64]⟩,4,none⟩,⟨some 17,.unOp .not 4 (ZT 16),4,none⟩])
    (.cond (ZT 17) (.seq (.ops [⟨some 2,.assign (.const (.bool false)),4,none⟩])
    .ret) .skip)))
    (.ops [⟨some 9,.move (ZT 3),3,none⟩,⟨some 10,.binOp .add 3 (ZT 9) (.const (.int .i64 1)) 3,3,none⟩,⟨some 3,.assign (ZT 10),3,none⟩]))))))
    (.seq (.ops [⟨some 2,.assign (.const (.bool true)),4,none⟩])
    .ret)))
def pl143 : Nat → Plan := fun _ => .done
theorem st143 : Go.Proofs.Tryz.f143.body.map (strip pl143) = some m143 := by kernel_rfl
theorem ok143 : okB pl143 Go.Proofs.Tryz.f143 1 = true := by kernel_rfl
theorem en143 {v0 w} {Q : Value → World → Prop} (h : mwpB ZP m143 (argEnv [v0]) [] w (fun e ds w => ds = [] ∧ resW ZP [.tmp 2] e w fun v => Q v w) (fun _ _ _ _ => False) (fun e ds w => ds = [] ∧ resW ZP [.tmp 2] e w fun v => Q v w) (fun _ _ _ _ => False) ⟨⟩) : Rets ZP 143 #[v0] w Q :=
  rets_of_mwp follows_mo Go.Proofs.Tryz.func143 pl143 st143 ok143 (by kernel_rfl) h
def m144 : MC := (.seq (.ops [⟨some 1,.box 64 (ZT 0),0,none⟩,⟨some 2,.assign (.const (.bool false)),4,none⟩])
    (.seq (.seq (.ops [⟨some 6,.fieldAddr 64 (ZT 1) 0,0,none⟩,⟨some 7,.load 3 (ZT 6),3,none⟩])
    (.block 0 (.seq (.ops [⟨some 9,.binOp .eql 3 (ZT 7) (.const (.int .i64 6)) 3,4,none⟩,⟨some 8,.assign (ZT 9),4,none⟩])
    (.cond (ZT 8) (.seq (.seq (.ops [⟨some 3,.assign (.const (.int .i64 0)),3,none⟩])
    (.block 1 (.loop (.seq (.seq (.ops [⟨some 10,.move (ZT 3),3,none⟩,⟨some 11,.fieldAddr 64 (ZT 1) 4,0,none⟩,⟨some 12,.load 62 (ZT 11),62,none⟩,⟨some 13,.call ⟨.builtin .len,#[ZT 12],#[62]⟩,3,none⟩,⟨some 14,.binOp .lss 3 (ZT 10) (ZT 13) 3,4,none⟩])
    (.cond (ZT 14) .skip (.exit 1)))
    (.seq (.block 2 (.seq (.ops [⟨some 17,.fieldAddr 64 (ZT 1) 4,0,none⟩,⟨some 18,.load 62 (ZT 17),62,none⟩,⟨some 19,.move (ZT 3),3,none⟩,⟨some 20,.indexAddr 62 (ZT 18) (ZT 19),0,none⟩,⟨some 21,.fieldAddr 64 (ZT 20) 0,0,none⟩,⟨some 22,.load 3 (ZT 21),3,none⟩,⟨some 4,.assign (ZT 22),3,none⟩])
    (.seq (.ops [⟨some 23,.move (ZT 4),3,none⟩,⟨some 24,.fieldAddr 64 (ZT 1) 4,0,none⟩,⟨some 25,.load 62 (ZT 24),62,none⟩,⟨some 26,.indexAddr 62 (ZT 25) (.const (.int .i64 0)),0,none⟩,⟨some 27,.fieldAddr 64 (ZT 26) 0,0,none⟩,⟨some 28,.load 3 (ZT 27),3,none⟩,⟨some 29,.binOp .neq 3 (ZT 23) (ZT 28) 3,4,none⟩,⟨some 30,.move (ZT 29),4,none⟩,⟨some 31,.move (ZT 4),3,some (some 30,false)⟩,⟨some 32,.binOp .neq 3 (ZT 31) (.const (.int .i64 2)) 3,4,some (some 30,false)⟩,⟨some 33,.move (ZT 32),4,some (some 30,false)⟩,⟨some 34,.move (ZT 4),3,some (some 33,true)⟩,⟨some 35,.binOp .neq 3 (ZT 34) (.const (.int .i64 3)) 3,4,some (some 33,true)⟩,⟨some 36,.pick (ZT 33) (ZT 35) (.const (.bool false)),4,some (some 30,false)⟩,⟨some 37,.move (ZT 36),4,some (some 30,false)⟩,⟨some 38,.move (ZT 4),3,some (some 37,true)⟩,⟨some 39,.binOp .neq 3 (ZT 38) (.const (.int .i64 4)) 3,4,some (some 37,true)⟩,⟨some 40,.pick (ZT 37) (ZT 39) (.const (.bool false)),4,some (some 30,false)⟩,⟨some 41,.pick (ZT 30) (.const (.bool true)) (ZT 40),4,none⟩])
    (.cond (ZT 41) (.seq (.ops [⟨some 2,.assign (.const (.bool false)),4,none⟩])
    .ret) .skip))))
    (.ops [⟨some 15,.move (ZT 3),3,none⟩,⟨some 16,.binOp .add 3 (ZT 15) (.const (.int .i64 1)) 3,3,none⟩,⟨some 3,.assign (ZT 16),3,none⟩]))))))
    (.seq (.ops [⟨some 42,.load 64 (ZT 1),64,none⟩,⟨some 43,.call ⟨.value (.func 142),#[ZT 42,.const (.bool false),.const (.bool false),.const (.bool false),.const (.bool true)],#[64,4,4,4,4]⟩,4,none⟩,⟨some 2,.assign (ZT 43),4,none⟩])
    .ret)) (.seq (.ops [⟨some 45, .binOp .eql 3 (.tmp 7) (.const (.int .i64 7)) 3, 4, none⟩, ⟨some 44, .assign (.tmp 45), 4, none⟩])
    (.cond (ZT 44) (.seq (.ops [⟨some 46,.load 64 (ZT 1),64,none⟩,⟨some 47,.call ⟨.value (.func 142),#[ZT 46,.const (.bool false),.const (.bool false),.const (.bool false),.const (.bool true)],#[64,4,4,4,4]⟩,4,none⟩,⟨some 2,.assign (ZT 47),4,none⟩])
    .ret) (.seq (.ops [⟨some 49, .binOp .eql 3 (.tmp 7) (.const (.int .i64 8)) 3, 4, none⟩, ⟨some 48, .assign (.tmp 49), 4, none⟩])
    (.cond (ZT 48) (.seq (.ops [⟨some 50,.load 64 (ZT 1),64,none⟩,⟨some 51,.call ⟨.value (.func 142),#[ZT 50,.const (.bool true),.const (.bool false),.const (.bool true),.const (.bool true)],#[64,4,4,4,4]⟩,4,none⟩,⟨some 52,.move (ZT 51),4,none⟩,⟨some 53,.fieldAddr 64 (ZT 1) 1,0,some (some 52,true)⟩,⟨some 54,.load 3 (ZT 53),3,some (some 52,true)⟩,⟨some 55,.binOp .geq 3 (ZT 54) (.const (.int .i64 0)) 3,4,some (some 52,true)⟩,⟨some 56,.pick (ZT 52) (ZT 55) (.const (.bool false)),4,none⟩,⟨some 57,.move (ZT 56),4,none⟩,⟨some 58,.fieldAddr 64 (ZT 1) 1,0,some (some 57,true)⟩,⟨some 59,.load 3 (ZT 58),3,some (some 57,true)⟩,⟨some 60,.binOp .leq 3 (ZT 59) (.const (.int .i64 2147483647)) 3,4,some (some 57,true)⟩,⟨some 61,.pick (ZT 57) (ZT 60) (.const (.bool false)),4,none⟩,⟨some 62,.move (ZT 61),4,none⟩,⟨some 63,.fieldAddr 64 (ZT 1) 3,0,some (some 62,true)⟩,⟨some 64,.load 33 (ZT 63),33,some (some 62,true)⟩,⟨some 65,.call ⟨.builtin .len,#[ZT 64],#[33]⟩,3,some (some 62,true)⟩,⟨some 66,.fieldAddr 64 (ZT 1) 4,0,some (some 62,true)⟩,⟨some 67,.load 62 (ZT 66),62,some (some 62,true)⟩,⟨some 68,.call ⟨.builtin .len,#[ZT 67],#[62]⟩,3,some (some 62,true)⟩,⟨some 69,.binOp .eql 3 (ZT 65) (ZT 68) 3,4,some (some 62,true)⟩,⟨some 70,.pick (ZT 62) (ZT 69) (.const (.bool false)),4,none⟩,⟨some 71,.move (ZT 70),4,none⟩,⟨some 72,.fieldAddr 64 (ZT 1) 3,0,some (some 71,true)⟩,⟨some 73,.load 33 (ZT 72),33,some (some 71,true)⟩,⟨some 74,.call ⟨.value (.func 163),#[ZT 73,.const (.int .i64 2147483647),.const (.bool true)],#[33,3,4]⟩,4,some (some 71,true)⟩,⟨some 75,.pick (ZT 71) (ZT 74) (.const (.bool false)),4,none⟩,⟨some 2,.assign (ZT 75),4,none⟩])
    .ret) (.seq (.ops [⟨some 77, .binOp .eql 3 (.tmp 7) (.const (.int .i64 9)) 3, 4, none⟩, ⟨some 76, .assign (.tmp 77), 4, none⟩])
    (.cond (ZT 76) (.seq (.ops [⟨some 78,.load 64 (ZT 1),64,none⟩,⟨some 79,.call ⟨.value (.func 142),#[ZT 78,.const (.bool true),.const (.bool false),.const (.bool false),.const (.bool true)],#[64,4,4,4,4]⟩,4,none⟩,⟨some 80,.move (ZT 79),4,none⟩,⟨some 81,.fieldAddr 64 (ZT 1) 1,0,some (some 80,true)⟩,⟨some 82,.load 3 (ZT 81),3,some (some 80,true)⟩,⟨some 83,.fieldAddr 64 (ZT 1) 4,0,some (some 80,true)⟩,⟨some 84,.load 62 (ZT 83),62,some (some 80,true)⟩,⟨some 85,.call ⟨.value (.func 164),#[ZT 82,ZT 84],#[3,62]⟩,4,some (some 80,true)⟩,⟨some 86,.pick (ZT 80) (ZT 85) (.const (.bool false)),4,none⟩,⟨some 2,.assign (ZT 86),4,none⟩])
    .ret) (.seq (.ops [⟨some 88, .binOp .eql 3 (.tmp 7) (.const (.int .i64 10)) 3, 4, none⟩, ⟨some 87, .assign (.tmp 88), 4, none⟩])
    (.cond (ZT 87) (.seq (.seq (.ops [⟨some 5,.assign (.const (.int .i64 0)),3,none⟩])
    (.block 3 (.loop (.seq (.seq (.ops [⟨some 89,.move (ZT 5),3,none⟩,⟨some 90,.fieldAddr 64 (ZT 1) 4,0,none⟩,⟨some 91,.load 62 (ZT 90),62,none⟩,⟨some 92,.call ⟨.builtin .len,#[ZT 91],#[62]⟩,3,none⟩,⟨some 93,.binOp .lss 3 (ZT 89) (ZT 92) 3,4,none⟩])
    (.cond (ZT 93) .skip (.exit 3)))
    (.seq (.block 4 (.seq (.ops [⟨some 96,.fieldAddr 64 (ZT 1) 4,0,none⟩,⟨some 97,.load 62 (ZT 96),62,none⟩,⟨some 98,.move (ZT 5),3,none⟩,⟨some 99,.indexAddr 62 (ZT 97) (ZT 98),0,none⟩,⟨some 100,.fieldAddr 64 (ZT 99) 0,0,none⟩,⟨some 101,.load 3 (ZT 100),3,none⟩,⟨some 102,.binOp .eql 3 (ZT 101) (.const (.int .i64 10)) 3,4,none⟩])
    (.cond (ZT 102) (.seq (.ops [⟨some 2,.assign (.const (.bool false)),4,none⟩])
    .ret) .skip)))
    (.ops [⟨some 94,.move (ZT 5),3,none⟩,⟨some 95,.binOp .add 3 (ZT 94) (.const (.int .i64 1)) 3,3,none⟩,⟨some 5,.assign (ZT 95),3,none⟩]))))))
    (.seq (.ops [⟨some 103,.load 64 (ZT 1),64,none⟩,⟨some 104,.call ⟨.value (.func 142),#[ZT 103,.const (.bool false),.const (.bool false),.const (.bool true),.const (.bool true)],#[64,4,4,4,4]⟩,4,none⟩,⟨some 105,.move (ZT 104),4,none⟩,⟨some 106,.fieldAddr 64 (ZT 1) 3,0,some (some 105,true)⟩,⟨some 107,.load 33 (ZT 106),33,some (some 105,true)⟩,⟨some 108,.call ⟨.builtin .len,#[ZT 107],#[33]⟩,3,some (some 105,true)⟩,⟨some 109,.fieldAddr 64 (ZT 1) 4,0,some (some 105,true)⟩,⟨some 110,.load 62 (ZT 109),62,some (some 105,true)⟩,⟨some 111,.call ⟨.builtin .len,#[ZT 110],#[62]⟩,3,some (some 105,true)⟩,⟨some 112,.binOp .eql 3 (ZT 108) (ZT 111) 3,4,some (some 105,true)⟩,⟨some 113,.pick (ZT 105) (ZT 112) (.const (.bool false)),4,none⟩,⟨some 114,.move (ZT 113),4,none⟩,⟨some 115,.fieldAddr 64 (ZT 1) 3,0,some (some 114,true)⟩,⟨some 116,.load 33 (ZT 115),33,some (some 114,true)⟩,⟨some 117,.call ⟨.value (.func 163),#[ZT 116,.const (.int .i64 1000000000),.const (.bool false)],#[33,3,4]⟩,4,some (some 114,true)⟩,⟨some 118,.pick (ZT 114) (ZT 117) (.const (.bool false)),4,none⟩,⟨some 2,.assign (ZT 118),4,none⟩])
    .ret)) .skip))))))))))))
    (.seq (.ops [⟨some 2,.assign (.const (.bool true)),4,none⟩])
    .ret)))
def pl144 : Nat → Plan := fun _ => .done
theorem st144 : Go.Proofs.Tryz.f144.body.map (strip pl144) = some m144 := by kernel_rfl
theorem ok144 : okB pl144 Go.Proofs.Tryz.f144 1 = true := by kernel_rfl
theorem en144 {v0 w} {Q : Value → World → Prop} (h : mwpB ZP m144 (argEnv [v0]) [] w (fun e ds w => ds = [] ∧ resW ZP [.tmp 2] e w fun v => Q v w) (fun _ _ _ _ => False) (fun e ds w => ds = [] ∧ resW ZP [.tmp 2] e w fun v => Q v w) (fun _ _ _ _ => False) ⟨⟩) : Rets ZP 144 #[v0] w Q :=
  rets_of_mwp follows_mo Go.Proofs.Tryz.func144 pl144 st144 ok144 (by kernel_rfl) h
def m145 : MC := (.seq (.ops [⟨some 4,.assign (.const (.string { data := #[] })),9,none⟩])
    (.seq (.ops [⟨some 5,.assign (.const (.slice none 0 0)),132,none⟩])
    (.seq (.seq (.ops [⟨some 6,.assign (.const (.int .i64 0)),3,none⟩])
    (.block 0 (.loop (.seq (.seq (.ops [⟨some 7,.move (ZT 6),3,none⟩,⟨some 8,.move (ZT 1),3,none⟩,⟨some 9,.binOp .lss 3 (ZT 7) (ZT 8) 3,4,none⟩])
    (.cond (ZT 9) .skip (.exit 0)))
    (.seq (.block 1 (.seq (.ops [⟨some 12,.move (ZT 5),132,none⟩,⟨some 13,.move (ZT 0),152,none⟩,⟨some 14,.binOp .rem 152 (ZT 13) (.const (.int .u64 256)) 152,152,none⟩,⟨some 15,.convert 152 5 (ZT 14),5,none⟩,⟨some 16,.buildSlice 132 1 #[(0,ZT 15)],132,none⟩,⟨some 17,.call ⟨.builtin .append,#[ZT 12,ZT 16],#[132,132]⟩,132,none⟩,⟨some 5,.assign (ZT 17),132,none⟩])
    (.ops [⟨some 18,.move (ZT 0),152,none⟩,⟨some 19,.binOp .quo 152 (ZT 18) (.const (.int .u64 256)) 152,152,none⟩,⟨some 0,.assign (ZT 19),152,none⟩])))
    (.ops [⟨some 10,.move (ZT 6),3,none⟩,⟨some 11,.binOp .add 3 (ZT 10) (.const (.int .i64 1)) 3,3,none⟩,⟨some 6,.assign (ZT 11),3,none⟩]))))))
    (.seq (.ops [⟨some 20,.move (ZT 5),132,none⟩,⟨some 21,.convert 132 9 (ZT 20),9,none⟩,⟨some 4,.assign (ZT 21),9,none⟩])
    .ret))))
def pl145 : Nat → Plan := fun _ => .done
theorem st145 : Go.Proofs.Tryz.f145.body.map (strip pl145) = some m145 := by kernel_rfl
theorem ok145 : okB pl145 Go.Proofs.Tryz.f145 2 = true := by kernel_rfl
theorem en145 {v0 v1 w} {Q : Value → World → Prop} (h : mwpB ZP m145 (argEnv [v0, v1]) [] w (fun e ds w => ds = [] ∧ resW ZP [.tmp 4] e w fun v => Q v w) (fun _ _ _ _ => False) (fun e ds w => ds = [] ∧ resW ZP [.tmp 4] e w fun v => Q v w) (fun _ _ _ _ => False) ⟨⟩) : Rets ZP 145 #[v0, v1] w Q :=
  rets_of_mwp follows_mo Go.Proofs.Tryz.func145 pl145 st145 ok145 (by kernel_rfl) h
def m160 : MC := (.ops [⟨some 3,.load 64 (ZT 1),64,none⟩,⟨some 4,.move (ZT 0),160,none⟩,⟨some 5,.call ⟨.value (.func 161),#[ZT 3,.const (.int .i64 1),ZT 4],#[64,3,160]⟩,4,none⟩])
def pl160 : Nat → Plan := fun _ => .done
theorem st160 : Go.Proofs.Tryz.f160.body.map (strip pl160) = some m160 := by kernel_rfl
theorem ok160 : okB pl160 Go.Proofs.Tryz.f160 2 = true := by kernel_rfl
def m161 : MC := (.seq (.ops [⟨some 3,.box 64 (ZT 0),0,none⟩,⟨some 6,.assign (.const (.bool false)),4,none⟩])
    (.seq (.seq (.ops [⟨some 9,.move (ZT 2),160,none⟩,⟨some 10,.load 64 (ZT 3),64,none⟩,⟨some 11,.move (ZT 1),3,none⟩,⟨some 12,.call ⟨.value (ZT 9),#[ZT 10,ZT 11],#[64,3]⟩,4,none⟩,⟨some 13,.unOp .not 4 (ZT 12),4,none⟩])
    (.cond (ZT 13) (.seq (.ops [⟨some 6,.assign (.const (.bool false)),4,none⟩])
    .ret) .skip))
    (.seq (.seq (.ops [⟨some 14,.fieldAddr 64 (ZT 3) 4,0,none⟩,⟨some 15,.load 62 (ZT 14),62,none⟩,⟨some 16,.call ⟨.builtin .len,#[ZT 15],#[62]⟩,3,none⟩,⟨some 17,.move (.const (.int .i64 0)),3,none⟩])
    (.block 0 (.loop (.seq (.ops [⟨some 18,.binOp .lss 3 (ZT 17) (ZT 16) 3,0,none⟩])
    (.seq (.cond (ZT 18) .skip (.exit 0))
    (.seq (.block 1 (.seq (.ops [⟨some 19,.indexAddr 62 (ZT 15) (ZT 17),0,none⟩,⟨some 20,.load 64 (ZT 19),64,none⟩,⟨some 8,.alloc 64,0,none⟩,⟨none,.store 64 (ZT 8) (ZT 20),0,none⟩])
    (.seq (.ops [⟨some 21,.load 64 (ZT 8),64,none⟩,⟨some 22,.move (ZT 1),3,none⟩,⟨some 23,.binOp .add 3 (ZT 22) (.const (.int .i64 1)) 3,3,none⟩,⟨some 24,.move (ZT 2),160,none⟩,⟨some 25,.call ⟨.value (.func 161),#[ZT 21,ZT 23,ZT 24],#[64,3,160]⟩,4,none⟩,⟨some 26,.unOp .not 4 (ZT 25),4,none⟩])
    (.cond (ZT 26) (.seq (.ops [⟨some 6,.assign (.const (.bool false)),4,none⟩])
    .ret) .skip))))
    (.ops [⟨some 27,.binOp .add 3 (ZT 17) (.const (.int .i64 1)) 3,3,none⟩,⟨some 17,.move (ZT 27),3,none⟩])))))))
    (.seq (.ops [⟨some 6,.assign (.const (.bool true)),4,none⟩])
    .ret))))
def pl161 : Nat → Plan := fun _ => .done
theorem st161 : Go.Proofs.Tryz.f161.body.map (strip pl161) = some m161 := by kernel_rfl
theorem ok161 : okB pl161 Go.Proofs.Tryz.f161 3 = true := by kernel_rfl
def m162 : MC := (.seq (.ops [⟨some 0,.assign (.const (.slice none 0 0)),162,none⟩])
    (.seq (.ops [⟨some 1,.buildSlice 162 11 #[(1,.func 179),(2,.func 181),(3,.func 182),(4,.func 183),(5,.func 185),(6,.func 186),(7,.func 190),(8,.func 191),(9,.func 192),(10,.func 194)],162,none⟩,⟨some 0,.assign (ZT 1),162,none⟩])
    .ret))
def pl162 : Nat → Plan := fun _ => .done
theorem st162 : Go.Proofs.Tryz.f162.body.map (strip pl162) = some m162 := by kernel_rfl
theorem ok162 : okB pl162 Go.Proofs.Tryz.f162 0 = true := by kernel_rfl
theorem en162 {w} {Q : Value → World → Prop} (h : mwpB ZP m162 (argEnv []) [] w (fun e ds w => ds = [] ∧ resW ZP [.tmp 0] e w fun v => Q v w) (fun _ _ _ _ => False) (fun e ds w => ds = [] ∧ resW ZP [.tmp 0] e w fun v => Q v w) (fun _ _ _ _ => False) ⟨⟩) : Rets ZP 162 #[] w Q :=
  rets_of_mwp follows_mo Go.Proofs.Tryz.func162 pl162 st162 ok162 (by kernel_rfl) h
def m163 : MC := (.seq (.ops [⟨some 6,.assign (.const (.bool false)),4,none⟩])
    (.seq (.seq (.ops [⟨some 7,.assign (.const (.int .i64 0)),3,none⟩])
    (.block 0 (.loop (.seq (.seq (.ops [⟨some 8,.move (ZT 7),3,none⟩,⟨some 9,.move (ZT 0),33,none⟩,⟨some 10,.call ⟨.builtin .len,#[ZT 9],#[33]⟩,3,none⟩,⟨some 11,.binOp .lss 3 (ZT 8) (ZT 10) 3,4,none⟩])
    (.cond (ZT 11) .skip (.exit 0)))
    (.seq (.block 1 (.seq (.seq (.ops [⟨some 14,.move (ZT 0),33,none⟩,⟨some 15,.move (ZT 7),3,none⟩,⟨some 16,.indexAddr 33 (ZT 14) (ZT 15),0,none⟩,⟨some 17,.load 3 (ZT 16),3,none⟩,⟨some 18,.binOp .lss 3 (ZT 17) (.const (.int .i64 0)) 3,4,none⟩,⟨some 19,.move (ZT 18),4,none⟩,⟨some 20,.move (ZT 0),33,some (some 19,false)⟩,⟨some 21,.move (ZT 7),3,some (some 19,false)⟩,⟨some 22,.indexAddr 33 (ZT 20) (ZT 21),0,some (some 19,false)⟩,⟨some 23,.load 3 (ZT 22),3,some (some 19,false)⟩,⟨some 24,.move (ZT 1),3,some (some 19,false)⟩,⟨some 25,.binOp .gtr 3 (ZT 23) (ZT 24) 3,4,some (some 19,false)⟩,⟨some 26,.pick (ZT 19) (.const (.bool true)) (ZT 25),4,none⟩])
    (.cond (ZT 26) (.seq (.ops [⟨some 6,.assign (.const (.bool false)),4,none⟩])
    .ret) .skip))
    (.seq (.draw (.take ⟨some 27,.move (ZT 7),3,none⟩ (.take ⟨some 28,.binOp .gtr 3 (ZT 27) (.const (.int .i64 0)) 3,4,none⟩ (.take ⟨some 29,.move (ZT 28),4,none⟩ (.take ⟨some 30,.move (ZT 0),33,some (some 29,true)⟩ (.take ⟨some 31,.move (ZT 7),3,some (some 29,true)⟩ (.take ⟨some 32,.binOp .sub 3 (ZT 31) (.const (.int .i64 1)) 3,3,some (some 29,true)⟩ (.take ⟨some 33,.indexAddr 33 (ZT 30) (ZT 32),0,some (some 29,true)⟩ (.take ⟨some 34,.load 3 (ZT 33),3,some (some 29,true)⟩ (.take ⟨some 35,.move (ZT 0),33,some (some 29,true)⟩ (.take ⟨some 36,.move (ZT 7),3,some (some 29,true)⟩ (.take ⟨some 37,.indexAddr 33 (ZT 35) (ZT 36),0,some (some 29,true)⟩ (.take ⟨some 38,.load 3 (ZT 37),3,some (some 29,true)⟩ (.take ⟨some 39,.binOp .gtr 3 (ZT 34) (ZT 38) 3,4,some (some 29,true)⟩ (.take ⟨some 40,.move (ZT 39),4,some (some 29,true)⟩ (.take ⟨some 41,.move (ZT 2),4,some (some 40,false)⟩ (.take ⟨some 42,.move (ZT 41),4,some (some 40,false)⟩ (.take ⟨some 43,.move (ZT 0),33,some (some 42,true)⟩ (.take ⟨some 44,.move (ZT 7),3,some (some 42,true)⟩ (.take ⟨some 45,.binOp .sub 3 (ZT 44) (.const (.int .i64 1)) 3,3,some (some 42,true)⟩ (.take ⟨some 46,.indexAddr 33 (ZT 43) (ZT 45),0,some (some 42,true)⟩ (.take ⟨some 47,.load 3 (ZT 46),3,some (some 42,true)⟩ (.take ⟨some 48,.move (ZT 0),33,some (some 42,true)⟩ (.take ⟨some 49,.move (ZT 7),3,some (some 42,true)⟩ (.take ⟨some 50,.indexAddr 33 (ZT 48) (ZT 49),0,some (some 42,true)⟩ (.take ⟨some 51,.load 3 (ZT 50),3,some (some 42,true)⟩ (.take ⟨some 52,.binOp .eql 3 (ZT 47) (ZT 51) 3,4,some (some 42,true)⟩ (.take ⟨some 53,.pick (ZT 42) (ZT 52) (.const (.bool false)),4,some (some 40,false)⟩ (.take ⟨some 54,.pick (ZT 40) (.const (.bool true)) (ZT 53),4,some (some 29,true)⟩ (.take ⟨some 55,.pick (ZT 29) (ZT 54) (.const (.bool false)),4,none⟩ .done))))))))))))))))))))))))))))))
    (.cond (ZT 55) (.seq (.ops [⟨some 6,.assign (.const (.bool false)),4,none⟩])
    .ret) .skip))))
    (.ops [⟨some 12,.move (ZT 7),3,none⟩,⟨some 13,.binOp .add 3 (ZT 12) (.const (.int .i64 1)) 3,3,none⟩,⟨some 7,.assign (ZT 13),3,none⟩]))))))
    (.seq (.ops [⟨some 6,.assign (.const (.bool true)),4,none⟩])
    .ret)))
def pl163 : Nat → Plan := fun id => if id = 6 then (.take 0 (.take 1 (.take 2 (.take 3 (.take 4 (.take 5 (.take 6 (.take 7 (.take 8 (.take 9 (.take 10 (.take 11 (.take 12 (.take 13 (.take 14 (.take 15 (.take 16 (.take 17 (.take 18 (.take 19 (.take 20 (.take 21 (.take 22 (.take 23 (.take 24 (.take 25 (.take 26 (.take 27 (.take 28 .done))))))))))))))))))))))))))))) else .done
theorem st163 : Go.Proofs.Tryz.f163.body.map (strip pl163) = some m163 := by kernel_rfl
theorem ok163 : okB pl163 Go.Proofs.Tryz.f163 3 = true := by kernel_rfl
theorem en163 {v0 v1 v2 w} {Q : Value → World → Prop} (h : mwpB ZP m163 (argEnv [v0, v1, v2]) [] w (fun e ds w => ds = [] ∧ resW ZP [.tmp 6] e w fun v => Q v w) (fun _ _ _ _ => False) (fun e ds w => ds = [] ∧ resW ZP [.tmp 6] e w fun v => Q v w) (fun _ _ _ _ => False) ⟨⟩) : Rets ZP 163 #[v0, v1, v2] w Q :=
  rets_of_mwp follows_mo Go.Proofs.Tryz.func163 pl163 st163 ok163 (by kernel_rfl) h
def m164 : MC := (.seq (.ops [⟨some 4,.assign (.const (.bool false)),4,none⟩])
    (.seq (.seq (.ops [⟨some 5,.assign (.const (.int .i64 0)),3,none⟩])
    (.block 0 (.loop (.seq (.seq (.ops [⟨some 10,.move (ZT 5),3,none⟩,⟨some 11,.move (ZT 1),62,none⟩,⟨some 12,.call ⟨.builtin .len,#[ZT 11],#[62]⟩,3,none⟩,⟨some 13,.binOp .lss 3 (ZT 10) (ZT 12) 3,4,none⟩])
    (.cond (ZT 13) .skip (.exit 0)))
    (.seq (.block 1 (.seq (.ops [⟨some 16,.move (ZT 1),62,none⟩,⟨some 17,.move (ZT 5),3,none⟩,⟨some 18,.indexAddr 62 (ZT 16) (ZT 17),0,none⟩,⟨some 19,.fieldAddr 64 (ZT 18) 0,0,none⟩,⟨some 20,.load 3 (ZT 19),3,none⟩,⟨some 21,.binOp .neq 3 (ZT 20) (.const (.int .i64 3)) 3,4,none⟩,⟨some 22,.move (ZT 21),4,none⟩,⟨some 23,.move (ZT 1),62,some (some 22,false)⟩,⟨some 24,.move (ZT 5),3,some (some 22,false)⟩,⟨some 25,.indexAddr 62 (ZT 23) (ZT 24),0,some (some 22,false)⟩,⟨some 26,.load 64 (ZT 25),64,some (some 22,false)⟩,⟨some 27,.call ⟨.value (.func 142),#[ZT 26,.const (.bool true),.const (.bool false),.const (.bool false),.const (.bool false)],#[64,4,4,4,4]⟩,4,some (some 22,false)⟩,⟨some 28,.unOp .not 4 (ZT 27),4,some (some 22,false)⟩,⟨some 29,.pick (ZT 22) (.const (.bool true)) (ZT 28),4,none⟩])
    (.cond (ZT 29) (.seq (.ops [⟨some 4,.assign (.const (.bool false)),4,none⟩])
    .ret) .skip)))
    (.ops [⟨some 14,.move (ZT 5),3,none⟩,⟨some 15,.binOp .add 3 (ZT 14) (.const (.int .i64 1)) 3,3,none⟩,⟨some 5,.assign (ZT 15),3,none⟩]))))))
    (.seq (.seq (.ops [⟨some 30,.move (ZT 1),62,none⟩,⟨some 31,.call ⟨.builtin .len,#[ZT 30],#[62]⟩,3,none⟩,⟨some 32,.binOp .eql 3 (ZT 31) (.const (.int .i64 0)) 3,4,none⟩])
    (.cond (ZT 32) (.seq (.ops [⟨some 4,.assign (.const (.bool false)),4,none⟩])
    .ret) .skip))
    (.seq (.ops [⟨some 33,.move (ZT 1),62,none⟩,⟨some 34,.indexAddr 62 (ZT 33) (.const (.int .i64 0)),0,none⟩,⟨some 35,.fieldAddr 64 (ZT 34) 1,0,none⟩,⟨some 36,.load 3 (ZT 35),3,none⟩,⟨some 6,.assign (ZT 36),3,none⟩])
    (.seq (.seq (.ops [⟨some 37,.move (ZT 0),3,none⟩])
    (.block 2 (.seq (.ops [⟨some 39,.binOp .eql 3 (ZT 37) (.const (.int .i64 1)) 3,4,none⟩,⟨some 38,.assign (ZT 39),4,none⟩])
    (.cond (ZT 38) (.seq (.ops [⟨some 40,.move (ZT 1),62,none⟩,⟨some 41,.call ⟨.builtin .len,#[ZT 40],#[62]⟩,3,none⟩,⟨some 42,.binOp .eql 3 (ZT 41) (.const (.int .i64 1)) 3,4,none⟩,⟨some 4,.assign (ZT 42),4,none⟩])
    .ret) (.seq (.ops [⟨some 44, .binOp .eql 3 (.tmp 37) (.const (.int .i64 2)) 3, 4, none⟩, ⟨some 43, .assign (.tmp 44), 4, none⟩])
    (.cond (ZT 43) (.seq (.ops [⟨some 7,.assign (.const (.bool false)),4,none⟩])
    (.seq (.seq (.ops [⟨some 8,.assign (.const (.int .i64 1)),3,none⟩])
    (.block 3 (.loop (.seq (.seq (.ops [⟨some 45,.move (ZT 8),3,none⟩,⟨some 46,.move (ZT 1),62,none⟩,⟨some 47,.call ⟨.builtin .len,#[ZT 46],#[62]⟩,3,none⟩,⟨some 48,.binOp .lss 3 (ZT 45) (ZT 47) 3,4,none⟩])
    (.cond (ZT 48) .skip (.exit 3)))
    (.seq (.block 4 (.seq (.ops [⟨some 51,.move (ZT 7),4,none⟩,⟨some 52,.move (ZT 51),4,none⟩,⟨some 53,.move (ZT 1),62,some (some 52,false)⟩,⟨some 54,.move (ZT 8),3,some (some 52,false)⟩,⟨some 55,.indexAddr 62 (ZT 53) (ZT 54),0,some (some 52,false)⟩,⟨some 56,.fieldAddr 64 (ZT 55) 1,0,some (some 52,false)⟩,⟨some 57,.load 3 (ZT 56),3,some (some 52,false)⟩,⟨some 58,.move (ZT 6),3,some (some 52,false)⟩,⟨some 59,.binOp .eql 3 (ZT 57) (ZT 58) 3,4,some (some 52,false)⟩,⟨some 60,.pick (ZT 52) (.const (.bool true)) (ZT 59),4,none⟩,⟨some 7,.assign (ZT 60),4,none⟩])
    (.seq (.ops [⟨some 9,.assign (.const (.int .i64 1)),3,none⟩])
    (.block 5 (.loop (.seq (.seq (.ops [⟨some 61,.move (ZT 9),3,none⟩,⟨some 62,.move (ZT 8),3,none⟩,⟨some 63,.binOp .lss 3 (ZT 61) (ZT 62) 3,4,none⟩])
    (.cond (ZT 63) .skip (.exit 5)))
    (.seq (.block 6 (.seq (.draw (.take ⟨some 66,.move (ZT 1),62,none⟩ (.take ⟨some 67,.move (ZT 9),3,none⟩ (.take ⟨some 68,.indexAddr 62 (ZT 66) (ZT 67),0,none⟩ (.take ⟨some 69,.fieldAddr 64 (ZT 68) 1,0,none⟩ (.take ⟨some 70,.load 3 (ZT 69),3,none⟩ (.take ⟨some 71,.move (ZT 1),62,none⟩ (.take ⟨some 72,.move (ZT 8),3,none⟩ (.take ⟨some 73,.indexAddr 62 (ZT 71) (ZT 72),0,none⟩ (.take ⟨some 74,.fieldAddr 64 (ZT 73) 1,0,none⟩ (.take ⟨some 75,.load 3 (ZT 74),3,none⟩ (.take ⟨some 76,.binOp .eql 3 (ZT 70) (ZT 75) 3,4,none⟩ .done))))))))))))
    (.cond (ZT 76) (.seq (.ops [⟨some 4,.assign (.const (.bool false)),4,none⟩])
    .ret) .skip)))
    (.ops [⟨some 64,.move (ZT 9),3,none⟩,⟨some 65,.binOp .add 3 (ZT 64) (.const (.int .i64 1)) 3,3,none⟩,⟨some 9,.assign (ZT 65),3,none⟩]))))))))
    (.ops [⟨some 49,.move (ZT 8),3,none⟩,⟨some 50,.binOp .add 3 (ZT 49) (.const (.int .i64 1)) 3,3,none⟩,⟨some 8,.assign (ZT 50),3,none⟩]))))))
    (.seq (.ops [⟨some 77,.move (ZT 7),4,none⟩,⟨some 4,.assign (ZT 77),4,none⟩])
    .ret))) (.seq (.ops [⟨some 79, .binOp .eql 3 (.tmp 37) (.const (.int .i64 3)) 3, 4, none⟩, ⟨some 78, .assign (.tmp 79), 4, none⟩])
    (.cond (ZT 78) (.seq (.ops [⟨some 80,.move (ZT 1),62,none⟩,⟨some 81,.call ⟨.builtin .len,#[ZT 80],#[62]⟩,3,none⟩,⟨some 82,.binOp .eql 3 (ZT 81) (.const (.int .i64 3)) 3,4,none⟩,⟨some 83,.move (ZT 82),4,none⟩,⟨some 84,.move (ZT 1),62,some (some 83,true)⟩,⟨some 85,.indexAddr 62 (ZT 84) (.const (.int .i64 1)),0,some (some 83,true)⟩,⟨some 86,.fieldAddr 64 (ZT 85) 1,0,some (some 83,true)⟩,⟨some 87,.load 3 (ZT 86),3,some (some 83,true)⟩,⟨some 88,.move (ZT 6),3,some (some 83,true)⟩,⟨some 89,.binOp .leq 3 (ZT 87) (ZT 88) 3,4,some (some 83,true)⟩,⟨some 90,.pick (ZT 83) (ZT 89) (.const (.bool false)),4,none⟩,⟨some 91,.move (ZT 90),4,none⟩,⟨some 92,.move (ZT 6),3,some (some 91,true)⟩,⟨some 93,.move (ZT 1),62,some (some 91,true)⟩,⟨some 94,.indexAddr 62 (ZT 93) (.const (.int .i64 2)),0,some (some 91,true)⟩,⟨some 95,.fieldAddr 64 (ZT 94) 1,0,some (some 91,true)⟩,⟨some 96,.load 3 (ZT 95),3,some (some 91,true)⟩,⟨some 97,.binOp .leq 3 (ZT 92) (ZT 96) 3,4,some (some 91,true)⟩,⟨some 98,.pick (ZT 91) (ZT 97) (.const (.bool false)),4,none⟩,⟨some 4,.assign (ZT 98),4,none⟩])
    .ret) (.seq (.ops [⟨some 100, .binOp .eql 3 (.tmp 37) (.const (.int .i64 4)) 3, 4, none⟩, ⟨some 99, .assign (.tmp 100), 4, none⟩])
    (.cond (ZT 99) (.seq (.draw (.take ⟨some 101,.move (ZT 1),62,none⟩ (.take ⟨some 102,.call ⟨.builtin .len,#[ZT 101],#[62]⟩,3,none⟩ (.take ⟨some 103,.binOp .eql 3 (ZT 102) (.const (.int .i64 4)) 3,4,none⟩ (.take ⟨some 104,.move (ZT 103),4,none⟩ (.take ⟨some 105,.move (ZT 1),62,some (some 104,true)⟩ (.take ⟨some 106,.indexAddr 62 (ZT 105) (.const (.int .i64 1)),0,some (some 104,true)⟩ (.take ⟨some 107,.fieldAddr 64 (ZT 106) 1,0,some (some 104,true)⟩ (.take ⟨some 108,.load 3 (ZT 107),3,some (some 104,true)⟩ (.take ⟨some 109,.move (ZT 6),3,some (some 104,true)⟩ (.take ⟨some 110,.binOp .leq 3 (ZT 108) (ZT 109) 3,4,some (some 104,true)⟩ (.take ⟨some 111,.pick (ZT 104) (ZT 110) (.const (.bool false)),4,none⟩ (.take ⟨some 112,.move (ZT 111),4,none⟩ (.take ⟨some 113,.move (ZT 6),3,some (some 112,true)⟩ (.take ⟨some 114,.move (ZT 1),62,some (some 112,true)⟩ (.take ⟨some 115,.indexAddr 62 (ZT 114) (.const (.int .i64 2)),0,some (some 112,true)⟩ (.take ⟨some 116,.fieldAddr 64 (ZT 115) 1,0,some (some 112,true)⟩ (.take ⟨some 117,.load 3 (ZT 116),3,some (some 112,true)⟩ (.take ⟨some 118,.binOp .leq 3 (ZT 113) (ZT 117) 3,4,some (some 112,true)⟩ (.take ⟨some 119,.pick (ZT 112) (ZT 118) (.const (.bool false)),4,none⟩ (.take ⟨some 120,.move (ZT 119),4,none⟩ (.take ⟨some 121,.move (ZT 1),62,some (some 120,true)⟩ (.take ⟨some 122,.indexAddr 62 (ZT 121) (.const (.int .i64 3)),0,some (some 120,true)⟩ (.take ⟨some 123,.fieldAddr 64 (ZT 122) 1,0,some (some 120,true)⟩ (.take ⟨some 124,.load 3 (ZT 123),3,some (some 120,true)⟩ (.take ⟨some 125,.binOp .gtr 3 (ZT 124) (.const (.int .i64 0)) 3,4,some (some 120,true)⟩ (.take ⟨some 126,.pick (ZT 120) (ZT 125) (.const (.bool false)),4,none⟩ (.take ⟨some 127,.move (ZT 126),4,none⟩ (.take ⟨some 128,.move (ZT 6),3,some (some 127,true)⟩ (.take ⟨some 129,.convert 3 152 (ZT 128),152,some (some 127,true)⟩ (.take ⟨some 130,.move (ZT 1),62,some (some 127,true)⟩ (.take ⟨some 131,.indexAddr 62 (ZT 130) (.const (.int .i64 1)),0,some (some 127,true)⟩ (.take ⟨some 132,.fieldAddr 64 (ZT 131) 1,0,some (some 127,true)⟩ (.take ⟨some 133,.load 3 (ZT 132),3,some (some 127,true)⟩ (.take ⟨some 134,.convert 3 152 (ZT 133),152,some (some 127,true)⟩ (.take ⟨some 135,.binOp .sub 152 (ZT 129) (ZT 134) 152,152,some (some 127,true)⟩ (.take ⟨some 136,.move (ZT 1),62,some (some 127,true)⟩ (.take ⟨some 137,.indexAddr 62 (ZT 136) (.const (.int .i64 3)),0,some (some 127,true)⟩ (.take ⟨some 138,.fieldAddr 64 (ZT 137) 1,0,some (some 127,true)⟩ (.take ⟨some 139,.load 3 (ZT 138),3,some (some 127,true)⟩ (.take ⟨some 140,.convert 3 152 (ZT 139),152,some (some 127,true)⟩ (.take ⟨some 141,.binOp .rem 152 (ZT 135) (ZT 140) 152,152,some (some 127,true)⟩ (.take ⟨some 142,.binOp .eql 152 (ZT 141) (.const (.int .u64 0)) 152,4,some (some 127,true)⟩ (.take ⟨some 143,.pick (ZT 127) (ZT 142) (.const (.bool false)),4,none⟩ (.take ⟨some 4,.assign (ZT 143),4,none⟩ .done)))))))))))))))))))))))))))))))))))))))))))))
    .ret) .skip))))))))))
    (.seq (.ops [⟨some 4,.assign (.const (.bool false)),4,none⟩])
    .ret))))))
def pl164 : Nat → Plan := fun id => if id = 21 then (.take 0 (.take 1 (.take 2 (.take 3 (.take 4 (.take 5 (.take 6 (.take 7 (.take 8 (.take 9 (.take 10 .done))))))))))) else if id = 27 then (.take 0 (.take 1 (.take 2 (.take 3 (.take 4 (.take 5 (.take 6 (.take 7 (.take 8 (.take 9 (.take 10 (.take 11 (.take 12 (.take 13 (.take 14 (.take 15 (.take 16 (.take 17 (.take 18 (.take 19 (.take 20 (.take 21 (.take 22 (.take 23 (.take 24 (.take 25 (.take 26 (.take 27 (.take 28 (.take 29 (.take 30 (.take 31 (.take 32 (.take 33 (.take 34 (.take 35 (.take 36 (.take 37 (.take 38 (.take 39 (.take 40 (.take 41 (.take 42 (.take 43 .done)))))))))))))))))))))))))))))))))))))))))))) else .done
theorem st164 : Go.Proofs.Tryz.f164.body.map (strip pl164) = some m164 := by kernel_rfl
theorem ok164 : okB pl164 Go.Proofs.Tryz.f164 2 = true := by kernel_rfl
theorem en164 {v0 v1 w} {Q : Value → World → Prop} (h : mwpB ZP m164 (argEnv [v0, v1]) [] w (fun e ds w => ds = [] ∧ resW ZP [.tmp 4] e w fun v => Q v w) (fun _ _ _ _ => False) (fun e ds w => ds = [] ∧ resW ZP [.tmp 4] e w fun v => Q v w) (fun _ _ _ _ => False) ⟨⟩) : Rets ZP 164 #[v0, v1] w Q :=
  rets_of_mwp follows_mo Go.Proofs.Tryz.func164 pl164 st164 ok164 (by kernel_rfl) h
def m179 : MC := (.seq (.ops [⟨some 1,.box 64 (ZT 0),0,none⟩,⟨some 2,.assign (.const (.bool false)),4,none⟩])
    (.seq (.ops [⟨some 3,.load 64 (ZT 1),64,none⟩,⟨some 4,.call ⟨.value (.func 180),#[ZT 3,.const (.bool false),.const (.bool false),.const (.bool false),.const (.bool false)],#[64,4,4,4,4]⟩,4,none⟩,⟨some 2,.assign (ZT 4),4,none⟩])
    .ret))
def pl179 : Nat → Plan := fun _ => .done
theorem st179 : Go.Proofs.Tryz.f179.body.map (strip pl179) = some m179 := by kernel_rfl
theorem ok179 : okB pl179 Go.Proofs.Tryz.f179 1 = true := by kernel_rfl
theorem en179 {v0 w} {Q : Value → World → Prop} (h : mwpB ZP m179 (argEnv [v0]) [] w (fun e ds w => ds = [] ∧ resW ZP [.tmp 2] e w fun v => Q v w) (fun _ _ _ _ => False) (fun e ds w => ds = [] ∧ resW ZP [.tmp 2] e w fun v => Q v w) (fun _ _ _ _ => False) ⟨⟩) : Rets ZP 179 #[v0] w Q :=
  rets_of_mwp follows_mo Go.Proofs.Tryz.func179 pl179 st179 ok179 (by kernel_rfl) h
def m180 : MC := (.seq (.ops [⟨some 5,.box 64 (ZT 0),0,none⟩,⟨some 10,.assign (.const (.bool false)),4,none⟩])
    (.seq (.ops [⟨some 11,.move (ZT 1),4,none⟩,⟨some 12,.move (ZT 11),4,none⟩,⟨some 13,.fieldAddr 64 (ZT 5) 1,0,some (some 12,false)⟩,⟨some 14,.load 3 (ZT 13),3,some (some 12,false)⟩,⟨some 15,.binOp .eql 3 (ZT 14) (.const (.int .i64 0)) 3,4,some (some 12,false)⟩,⟨some 16,.pick (ZT 12) (.const (.bool true)) (ZT 15),4,none⟩,⟨some 17,.move (ZT 16),4,none⟩,⟨some 18,.move (ZT 2),4,some (some 17,true)⟩,⟨some 19,.move (ZT 18),4,some (some 17,true)⟩,⟨some 20,.fieldAddr 64 (ZT 5) 2,0,some (some 19,false)⟩,⟨some 21,.load 9 (ZT 20),9,some (some 19,false)⟩,⟨some 22,.binOp .eql 9 (ZT 21) (.const (.string { data := #[] })) 9,4,some (some 19,false)⟩,⟨some 23,.pick (ZT 19) (.const (.bool true)) (ZT 22),4,some (some 17,true)⟩,⟨some 24,.pick (ZT 17) (ZT 23) (.const (.bool false)),4,none⟩,⟨some 25,.move (ZT 24),4,none⟩,⟨some 26,.move (ZT 3),4,some (some 25,true)⟩,⟨some 27,.move (ZT 26),4,some (some 25,true)⟩,⟨some 28,.fieldAddr 64 (ZT 5) 3,0,some (some 27,false)⟩,⟨some 29,.load 33 (ZT 28),33,some (some 27,false)⟩,⟨some 30,.call ⟨.builtin .len,#[ZT 29],#[33]⟩,3,some (some 27,false)⟩,⟨some 31,.binOp .eql 3 (ZT 30) (.const (.int .i64 0)) 3,4,some (some 27,false)⟩,⟨some 32,.pick (ZT 27) (.const (.bool true)) (ZT 31),4,some (some 25,true)⟩,⟨some 33,.pick (ZT 25) (ZT 32) (.const (.bool false)),4,none⟩,⟨some 34,.move (ZT 33),4,none⟩,⟨some 35,.move (ZT 4),4,some (some 34,true)⟩,⟨some 36,.move (ZT 35),4,some (some 34,true)⟩,⟨some 37,.fieldAddr 64 (ZT 5) 4,0,some (some 36,false)⟩,⟨some 38,.load 62 (ZT 37),62,some (some 36,false)⟩,⟨some 39,.call ⟨.builtin .len,#[ZT 38],#[62]⟩,3,some (some 36,false)⟩,⟨some 40,.binOp .eql 3 (ZT 39) (.const (.int .i64 0)) 3,4,some (some 36,false)⟩,⟨some 41,.pick (ZT 36) (.const (.bool true)) (ZT 40),4,some (some 34,true)⟩,⟨some 42,.pick (ZT 34) (ZT 41) (.const (.bool false)),4,none⟩,⟨some 10,.assign (ZT 42),4,none⟩])
    .ret))
def pl180 : Nat → Plan := fun _ => .done
theorem st180 : Go.Proofs.Tryz.f180.body.map (strip pl180) = some m180 := by kernel_rfl
theorem ok180 : okB pl180 Go.Proofs.Tryz.f180 5 = true := by kernel_rfl
theorem en180 {v0 v1 v2 v3 v4 w} {Q : Value → World → Prop} (h : mwpB ZP m180 (argEnv [v0, v1, v2, v3, v4]) [] w (fun e ds w => ds = [] ∧ resW ZP [.tmp 10] e w fun v => Q v w) (fun _ _ _ _ => False) (fun e ds w => ds = [] ∧ resW ZP [.tmp 10] e w fun v => Q v w) (fun _ _ _ _ => False) ⟨⟩) : Rets ZP 180 #[v0, v1, v2, v3, v4] w Q :=
  rets_of_mwp follows_mo Go.Proofs.Tryz.func180 pl180 st180 ok180 (by kernel_rfl) h
def m181 : MC := (.seq (.ops [⟨some 1,.box 64 (ZT 0),0,none⟩,⟨some 2,.assign (.const (.bool false)),4,none⟩])
    (.seq (.ops [⟨some 3,.fieldAddr 64 (ZT 1) 1,0,none⟩,⟨some 4,.load 3 (ZT 3),3,none⟩,⟨some 5,.binOp .eql 3 (ZT 4) (.const (.int .i64 0)) 3,4,none⟩,⟨some 6,.move (ZT 5),4,none⟩,⟨some 7,.fieldAddr 64 (ZT 1) 1,0,some (some 6,false)⟩,⟨some 8,.load 3 (ZT 7),3,some (some 6,false)⟩,⟨some 9,.binOp .eql 3 (ZT 8) (.const (.int .i64 1)) 3,4,some (some 6,false)⟩,⟨some 10,.pick (ZT 6) (.const (.bool true)) (ZT 9),4,none⟩,⟨some 11,.move (ZT 10),4,none⟩,⟨some 12,.load 64 (ZT 1),64,some (some 11,true)⟩,⟨some 13,.call ⟨.value (.func 180),#[ZT 12,.const (.bool true),.const (.bool false),.const (.bool false),.const (.bool false)],#[64,4,4,4,4]⟩,4,some (some 11,true)⟩,⟨some 14,.pick (ZT 11) (ZT 13) (.const (.bool false)),4,none⟩,⟨some 2,.assign (ZT 14),4,none⟩])
    .ret))
def pl181 : Nat → Plan := fun _ => .done
theorem st181 : Go.Proofs.Tryz.f181.body.map (strip pl181) = some m181 := by kernel_rfl
theorem ok181 : okB pl181 Go.Proofs.Tryz.f181 1 = true := by kernel_rfl
theorem en181 {v0 w} {Q : Value → World → Prop} (h : mwpB ZP m181 (argEnv [v0]) [] w (fun e ds w => ds = [] ∧ resW ZP [.tmp 2] e w fun v => Q v w) (fun _ _ _ _ => False) (fun e ds w => ds = [] ∧ resW ZP [.tmp 2] e w fun v => Q v w) (fun _ _ _ _ => False) ⟨⟩) : Rets ZP 181 #[v0] w Q :=
  rets_of_mwp follows_mo Go.Proofs.Tryz.func181 pl181 st181 ok181 (by kernel_rfl) h
def m182 : MC := (.seq (.ops [⟨some 1,.box 64 (ZT 0),0,none⟩,⟨some 2,.assign (.const (.bool false)),4,none⟩])
    (.seq (.ops [⟨some 3,.load 64 (ZT 1),64,none⟩,⟨some 4,.call ⟨.value (.func 180),#[ZT 3,.const (.bool true),.const (.bool false),.const (.bool false),.const (.bool false)],#[64,4,4,4,4]⟩,4,none⟩,⟨some 2,.assign (ZT 4),4,none⟩])
    .ret))
def pl182 : Nat → Plan := fun _ => .done
theorem st182 : Go.Proofs.Tryz.f182.body.map (strip pl182) = some m182 := by kernel_rfl
theorem ok182 : okB pl182 Go.Proofs.Tryz.f182 1 = true := by kernel_rfl
theorem en182 {v0 w} {Q : Value → World → Prop} (h : mwpB ZP m182 (argEnv [v0]) [] w (fun e ds w => ds = [] ∧ resW ZP [.tmp 2] e w fun v => Q v w) (fun _ _ _ _ => False) (fun e ds w => ds = [] ∧ resW ZP [.tmp 2] e w fun v => Q v w) (fun _ _ _ _ => False) ⟨⟩) : Rets ZP 182 #[v0] w Q :=
  rets_of_mwp follows_mo Go.Proofs.Tryz.func182 pl182 st182 ok182 (by kernel_rfl) h
def m183 : MC := (.seq (.ops [⟨some 1,.box 64 (ZT 0),0,none⟩,⟨some 2,.assign (.const (.bool false)),4,none⟩])
    (.seq (.ops [⟨some 3,.fieldAddr 64 (ZT 1) 2,0,none⟩,⟨some 4,.load 9 (ZT 3),9,none⟩,⟨some 5,.convert 9 132 (ZT 4),132,none⟩,⟨some 6,.call ⟨.value (.func 184),#[ZT 5,.const (.int .u8 0)],#[132,5]⟩,4,none⟩,⟨some 7,.unOp .not 4 (ZT 6),4,none⟩,⟨some 8,.move (ZT 7),4,none⟩,⟨some 9,.load 64 (ZT 1),64,some (some 8,true)⟩,⟨some 10,.call ⟨.value (.func 180),#[ZT 9,.const (.bool false),.const (.bool true),.const (.bool false),.const (.bool false)],#[64,4,4,4,4]⟩,4,some (some 8,true)⟩,⟨some 11,.pick (ZT 8) (ZT 10) (.const (.bool false)),4,none⟩,⟨some 2,.assign (ZT 11),4,none⟩])
    .ret))
def pl183 : Nat → Plan := fun _ => .done
theorem st183 : Go.Proofs.Tryz.f183.body.map (strip pl183) = some m183 := by kernel_rfl
theorem ok183 : okB pl183 Go.Proofs.Tryz.f183 1 = true := by kernel_rfl
theorem en183 {v0 w} {Q : Value → World → Prop} (h : mwpB ZP m183 (argEnv [v0]) [] w (fun e ds w => ds = [] ∧ resW ZP [.tmp 2] e w fun v => Q v w) (fun _ _ _ _ => False) (fun e ds w => ds = [] ∧ resW ZP [.tmp 2] e w fun v => Q v w) (fun _ _ _ _ => False) ⟨⟩) : Rets ZP 183 #[v0] w Q :=
  rets_of_mwp follows_mo Go.Proofs.Tryz.func183 pl183 st183 ok183 (by kernel_rfl) h
def m184 : MC := (.seq (.ops [⟨some 4,.assign (.const (.bool false)),4,none⟩])
    (.seq (.ops [⟨some 5,.move (ZT 0),132,none⟩,⟨some 6,.move (ZT 1),5,none⟩,⟨some 7,.call ⟨.value (.func 203),#[ZT 5,ZT 6],#[132,5]⟩,3,none⟩,⟨some 8,.binOp .geq 3 (ZT 7) (.const (.int .i64 0)) 3,4,none⟩,⟨some 4,.assign (ZT 8),4,none⟩])
    .ret))
def pl184 : Nat → Plan := fun _ => .done
theorem st184 : Go.Proofs.Tryz.f184.body.map (strip pl184) = some m184 := by kernel_rfl
theorem ok184 : okB pl184 Go.Proofs.Tryz.f184 2 = true := by kernel_rfl
theorem en184 {v0 v1 w} {Q : Value → World → Prop} (h : mwpB ZP m184 (argEnv [v0, v1]) [] w (fun e ds w => ds = [] ∧ resW ZP [.tmp 4] e w fun v => Q v w) (fun _ _ _ _ => False) (fun e ds w => ds = [] ∧ resW ZP [.tmp 4] e w fun v => Q v w) (fun _ _ _ _ => False) ⟨⟩) : Rets ZP 184 #[v0, v1] w Q :=
  rets_of_mwp follows_mo Go.Proofs.Tryz.func184 pl184 st184 ok184 (by kernel_rfl) h
def m185 : MC := (.seq (.ops [⟨some 1,.box 64 (ZT 0),0,none⟩,⟨some 2,.assign (.const (.bool false)),4,none⟩])
    (.seq (.ops [⟨some 3,.load 64 (ZT 1),64,none⟩,⟨some 4,.call ⟨.value (.func 180),#[ZT 3,.const (.bool false),.const (.bool true),.const (.bool false),.const (.bool false)],#[64,4,4,4,4]⟩,4,none⟩,⟨some 2,.assign (ZT 4),4,none⟩])
    .ret))
def pl185 : Nat → Plan := fun _ => .done
theorem st185 : Go.Proofs.Tryz.f185.body.map (strip pl185) = some m185 := by kernel_rfl
theorem ok185 : okB pl185 Go.Proofs.Tryz.f185 1 = true := by kernel_rfl
theorem en185 {v0 w} {Q : Value → World → Prop} (h : mwpB ZP m185 (argEnv [v0]) [] w (fun e ds w => ds = [] ∧ resW ZP [.tmp 2] e w fun v => Q v w) (fun _ _ _ _ => False) (fun e ds w => ds = [] ∧ resW ZP [.tmp 2] e w fun v => Q v w) (fun _ _ _ _ => False) ⟨⟩) : Rets ZP 185 #[v0] w Q :=
  rets_of_mwp follows_mo Go.Proofs.Tryz.func185 pl185 st185 ok185 (by kernel_rfl) h
def m186 : MC := (.seq (.ops [⟨some 1,.box 64 (ZT 0),0,none⟩,⟨some 2,.assign (.const (.bool false)),4,none⟩])
    (.seq (.ops [⟨some 4,.makeFunc (.func 187) #[] #[ZT 1],65,none⟩,⟨some 3,.assign (ZT 4),65,none⟩])
    (.seq (.ops [⟨some 5,.load 64 (ZT 1),64,none⟩,⟨some 6,.call ⟨.value (.func 180),#[ZT 5,.const (.bool false),.const (.bool false),.const (.bool false),.const (.bool true)],#[64,4,4,4,4]⟩,4,none⟩,⟨some 7,.move (ZT 6),4,none⟩,⟨some 8,.fieldAddr 64 (ZT 1) 4,0,some (some 7,true)⟩,⟨some 9,.load 62 (ZT 8),62,some (some 7,true)⟩,⟨some 10,.move (ZT 3),65,some (some 7,true)⟩,⟨some 11,.call ⟨.value (.func 189),#[ZT 9,ZT 10],#[62,65]⟩,4,some (some 7,true)⟩,⟨some 12,.unOp .not 4 (ZT 11),4,some (some 7,true)⟩,⟨some 13,.pick (ZT 7) (ZT 12) (.const (.bool false)),4,none⟩,⟨some 2,.assign (ZT 13),4,none⟩])
    .ret)))
def pl186 : Nat → Plan := fun _ => .done
theorem st186 : Go.Proofs.Tryz.f186.body.map (strip pl186) = some m186 := by kernel_rfl
theorem ok186 : okB pl186 Go.Proofs.Tryz.f186 1 = true := by kernel_rfl
theorem en186 {v0 w} {Q : Value → World → Prop} (h : mwpB ZP m186 (argEnv [v0]) [] w (fun e ds w => ds = [] ∧ resW ZP [.tmp 2] e w fun v => Q v w) (fun _ _ _ _ => False) (fun e ds w => ds = [] ∧ resW ZP [.tmp 2] e w fun v => Q v w) (fun _ _ _ _ => False) ⟨⟩) : Rets ZP 186 #[v0] w Q :=
  rets_of_mwp follows_mo Go.Proofs.Tryz.func186 pl186 st186 ok186 (by kernel_rfl) h
def m187 : MC := (.seq (.ops [⟨some 2,.box 64 (ZT 0),0,none⟩,⟨some 3,.assign (.const (.bool false)),4,none⟩])
    (.seq (.draw (.take ⟨some 4,.fieldAddr 64 (ZT 2) 0,0,none⟩ (.take ⟨some 5,.load 3 (ZT 4),3,none⟩ (.alt ⟨some 6,.call ⟨.value (.func 188),#[ZT 5],#[3]⟩,4,none⟩ (.take ⟨some 7,.unOp .not 4 (ZT 6),4,none⟩ (.take ⟨some 8,.move (ZT 7),4,none⟩ (.take ⟨some 9,.fieldAddr 64 (ZT 2) 0,0,some (some 8,false)⟩ (.take ⟨some 10,.load 3 (ZT 9),3,some (some 8,false)⟩ (.take ⟨some 11,.fieldAddr 64 (ZT 1) 4,0,some (some 8,false)⟩ (.take ⟨some 12,.load 62 (ZT 11),62,some (some 8,false)⟩ (.take ⟨some 13,.indexAddr 62 (ZT 12) (.const (.int .i64 0)),0,some (some 8,false)⟩ (.take ⟨some 14,.fieldAddr 64 (ZT 13) 0,0,some (some 8,false)⟩ (.take ⟨some 15,.load 3 (ZT 14),3,some (some 8,false)⟩ (.take ⟨some 16,.binOp .neq 3 (ZT 10) (ZT 15) 3,4,some (some 8,false)⟩ (.take ⟨some 17,.pick (ZT 8) (.const (.bool true)) (ZT 16),4,none⟩ (.take ⟨some 3,.assign (ZT 17),4,none⟩ .done)))))))))))) .none))))
    .ret))
def pl187 : Nat → Plan := fun id => if id = 1 then (.take 0 (.take 1 (.alt 2 (.take 3 (.take 4 (.take 5 (.take 6 (.take 7 (.take 8 (.take 9 (.take 10 (.take 11 (.take 12 (.take 13 (.take 14 .done)))))))))))) .none))) else .done
theorem st187 : Go.Proofs.Tryz.f187.body.map (strip pl187) = some m187 := by kernel_rfl
theorem ok187 : okB pl187 Go.Proofs.Tryz.f187 2 = true := by kernel_rfl
theorem en187 {v0 v1 w} {Q : Value → World → Prop} (h : mwpB ZP m187 (argEnv [v0, v1]) [] w (fun e ds w => ds = [] ∧ resW ZP [.tmp 3] e w fun v => Q v w) (fun _ _ _ _ => False) (fun e ds w => ds = [] ∧ resW ZP [.tmp 3] e w fun v => Q v w) (fun _ _ _ _ => False) ⟨⟩) : Rets ZP 187 #[v0, v1] w Q :=
  rets_of_mwp follows_mo Go.Proofs.Tryz.func187 pl187 st187 ok187 (by kernel_rfl) h
def m188 : MC := (.seq (.ops [⟨some 2,.assign (.const (.bool false)),4,none⟩])
    (.seq (.ops [⟨some 3,.move (ZT 0),3,none⟩,⟨some 4,.binOp .geq 3 (ZT 3) (.const (.int .i64 2)) 3,4,none⟩,⟨some 5,.move (ZT 4),4,none⟩,⟨some 6,.move (ZT 0),3,some (some 5,true)⟩,⟨some 7,.binOp .leq 3 (ZT 6) (.const (.int .i64 4)) 3,4,some (some 5,true)⟩,⟨some 8,.pick (ZT 5) (ZT 7) (.const (.bool false)),4,none⟩,⟨some 2,.assign (ZT 8),4,none⟩])
    .ret))
def pl188 : Nat → Plan := fun _ => .done
theorem st188 : Go.Proofs.Tryz.f188.body.map (strip pl188) = some m188 := by kernel_rfl
theorem ok188 : okB pl188 Go.Proofs.Tryz.f188 1 = true := by kernel_rfl
theorem en188 {v0 w} {Q : Value → World → Prop} (h : mwpB ZP m188 (argEnv [v0]) [] w (fun e ds w => ds = [] ∧ resW ZP [.tmp 2] e w fun v => Q v w) (fun _ _ _ _ => False) (fun e ds w => ds = [] ∧ resW ZP [.tmp 2] e w fun v => Q v w) (fun _ _ _ _ => False) ⟨⟩) : Rets ZP 188 #[v0] w Q :=
  rets_of_mwp follows_mo Go.Proofs.Tryz.func188 pl188 st188 ok188 (by kernel_rfl) h
def m189 : MC := (.seq (.ops [⟨some 4,.assign (.const (.bool false)),4,none⟩])
    (.seq (.ops [⟨some 5,.move (ZT 0),62,none⟩,⟨some 6,.move (ZT 1),65,none⟩,⟨some 7,.call ⟨.value (.func 204),#[ZT 5,ZT 6],#[62,65]⟩,3,none⟩,⟨some 8,.binOp .geq 3 (ZT 7) (.const (.int .i64 0)) 3,4,none⟩,⟨some 4,.assign (ZT 8),4,none⟩])
    .ret))
def pl189 : Nat → Plan := fun _ => .done
theorem st189 : Go.Proofs.Tryz.f189.body.map (strip pl189) = some m189 := by kernel_rfl
theorem ok189 : okB pl189 Go.Proofs.Tryz.f189 2 = true := by kernel_rfl
theorem en189 {v0 v1 w} {Q : Value → World → Prop} (h : mwpB ZP m189 (argEnv [v0, v1]) [] w (fun e ds w => ds = [] ∧ resW ZP [.tmp 4] e w fun v => Q v w) (fun _ _ _ _ => False) (fun e ds w => ds = [] ∧ resW ZP [.tmp 4] e w fun v => Q v w) (fun _ _ _ _ => False) ⟨⟩) : Rets ZP 189 #[v0, v1] w Q :=
  rets_of_mwp follows_mo Go.Proofs.Tryz.func189 pl189 st189 ok189 (by kernel_rfl) h
def m190 : MC := (.seq (.ops [⟨some 1,.box 64 (ZT 0),0,none⟩,⟨some 2,.assign (.const (.bool false)),4,none⟩])
    (.seq (.ops [⟨some 3,.load 64 (ZT 1),64,none⟩,⟨some 4,.call ⟨.value (.func 180),#[ZT 3,.const (.bool false),.const (.bool false),.const (.bool false),.const (.bool true)],#[64,4,4,4,4]⟩,4,none⟩,⟨some 2,.assign (ZT 4),4,none⟩])
    .ret))
def pl190 : Nat → Plan := fun _ => .done
theorem st190 : Go.Proofs.Tryz.f190.body.map (strip pl190) = some m190 := by kernel_rfl
theorem ok190 : okB pl190 Go.Proofs.Tryz.f190 1 = true := by kernel_rfl
theorem en190 {v0 w} {Q : Value → World → Prop} (h : mwpB ZP m190 (argEnv [v0]) [] w (fun e ds w => ds = [] ∧ resW ZP [.tmp 2] e w fun v => Q v w) (fun _ _ _ _ => False) (fun e ds w => ds = [] ∧ resW ZP [.tmp 2] e w fun v => Q v w) (fun _ _ _ _ => False) ⟨⟩) : Rets ZP 190 #[v0] w Q :=
  rets_of_mwp follows_mo Go.Proofs.Tryz.func190 pl190 st190 ok190 (by kernel_rfl) h
def m191 : MC := (.seq (.ops [⟨some 1,.box 64 (ZT 0),0,none⟩,⟨some 2,.assign (.const (.bool false)),4,none⟩])
    (.seq (.ops [⟨some 6,.fieldAddr 64 (ZT 1) 2,0,none⟩,⟨some 7,.load 9 (ZT 6),9,none⟩,⟨some 8,.binOp .eql 9 (ZT 7) (.const (.string { data := #[] })) 9,4,none⟩,⟨some 9,.move (ZT 8),4,none⟩,⟨some 10,.fieldAddr 64 (ZT 1) 1,0,some (some 9,true)⟩,⟨some 11,.load 3 (ZT 10),3,some (some 9,true)⟩,⟨some 12,.binOp .geq 3 (ZT 11) (.const (.int .i64 0)) 3,4,some (some 9,true)⟩,⟨some 13,.pick (ZT 9) (ZT 12) (.const (.bool false)),4,none⟩,⟨some 14,.move (ZT 13),4,none⟩,⟨some 15,.fieldAddr 64 (ZT 1) 1,0,some (some 14,true)⟩,⟨some 16,.load 3 (ZT 15),3,some (some 14,true)⟩,⟨some 17,.binOp .leq 3 (ZT 16) (.const (.int .i64 2147483647)) 3,4,some (some 14,true)⟩,⟨some 18,.pick (ZT 14) (ZT 17) (.const (.bool false)),4,none⟩,⟨some 19,.move (ZT 18),4,none⟩,⟨some 20,.fieldAddr 64 (ZT 1) 3,0,some (some 19,true)⟩,⟨some 21,.load 33 (ZT 20),33,some (some 19,true)⟩,⟨some 22,.call ⟨.builtin .len,#[ZT 21],#[33]⟩,3,some (some 19,true)⟩,⟨some 23,.fieldAddr 64 (ZT 1) 4,0,some (some 19,true)⟩,⟨some 24,.load 62 (ZT 23),62,some (some 19,true)⟩,⟨some 25,.call ⟨.builtin .len,#[ZT 24],#[62]⟩,3,some (some 19,true)⟩,⟨some 26,.binOp .eql 3 (ZT 22) (ZT 25) 3,4,some (some 19,true)⟩,⟨some 27,.pick (ZT 19) (ZT 26) (.const (.bool false)),4,none⟩,⟨some 3,.assign (ZT 27),4,none⟩])
    (.seq (.seq (.ops [⟨some 28,.fieldAddr 64 (ZT 1) 3,0,none⟩,⟨some 29,.load 33 (ZT 28),33,none⟩,⟨some 30,.call ⟨.builtin .len,#[ZT 29],#[33]⟩,3,none⟩,⟨some 31,.move (.const (.int .i64 0)),3,none⟩])
    (.block 0 (.loop (.seq (.ops [⟨some 32,.binOp .lss 3 (ZT 31) (ZT 30) 3,0,none⟩])
    (.seq (.cond (ZT 32) .skip (.exit 0))
    (.seq (.block 1 (.seq (.ops [⟨some 33,.move (ZT 31),3,none⟩,⟨some 34,.indexAddr 33 (ZT 29) (ZT 31),0,none⟩,⟨some 35,.load 3 (ZT 34),3,none⟩,⟨some 4,.assign (ZT 33),3,none⟩,⟨some 5,.assign (ZT 35),3,none⟩])
    (.ops [⟨some 36,.move (ZT 3),4,none⟩,⟨some 37,.move (ZT 36),4,none⟩,⟨some 38,.move (ZT 5),3,some (some 37,true)⟩,⟨some 39,.binOp .geq 3 (ZT 38) (.const (.int .i64 0)) 3,4,some (some 37,true)⟩,⟨some 40,.pick (ZT 37) (ZT 39) (.const (.bool false)),4,none⟩,⟨some 41,.move (ZT 40),4,none⟩,⟨some 42,.move (ZT 5),3,some (some 41,true)⟩,⟨some 43,.binOp .leq 3 (ZT 42) (.const (.int .i64 2147483647)) 3,4,some (some 41,true)⟩,⟨some 44,.pick (ZT 41) (ZT 43) (.const (.bool false)),4,none⟩,⟨some 45,.move (ZT 44),4,none⟩,⟨some 46,.move (ZT 4),3,some (some 45,true)⟩,⟨some 47,.binOp .eql 3 (ZT 46) (.const (.int .i64 0)) 3,4,some (some 45,true)⟩,⟨some 48,.move (ZT 47),4,some (some 45,true)⟩,⟨some 49,.fieldAddr 64 (ZT 1) 3,0,some (some 48,false)⟩,⟨some 50,.load 33 (ZT 49),33,some (some 48,false)⟩,⟨some 51,.move (ZT 4),3,some (some 48,false)⟩,⟨some 52,.binOp .sub 3 (ZT 51) (.const (.int .i64 1)) 3,3,some (some 48,false)⟩,⟨some 53,.indexAddr 33 (ZT 50) (ZT 52),0,some (some 48,false)⟩,⟨some 54,.load 3 (ZT 53),3,some (some 48,false)⟩,⟨some 55,.move (ZT 5),3,some (some 48,false)⟩,⟨some 56,.binOp .lss 3 (ZT 54) (ZT 55) 3,4,some (some 48,false)⟩,⟨some 57,.pick (ZT 48) (.const (.bool true)) (ZT 56),4,some (some 45,true)⟩,⟨some 58,.pick (ZT 45) (ZT 57) (.const (.bool false)),4,none⟩,⟨some 3,.assign (ZT 58),4,none⟩])))
    (.ops [⟨some 59,.binOp .add 3 (ZT 31) (.const (.int .i64 1)) 3,3,none⟩,⟨some 31,.move (ZT 59),3,none⟩])))))))
    (.seq (.ops [⟨some 60,.move (ZT 3),4,none⟩,⟨some 2,.assign (ZT 60),4,none⟩])
    .ret))))
def pl191 : Nat → Plan := fun _ => .done
theorem st191 : Go.Proofs.Tryz.f191.body.map (strip pl191) = some m191 := by kernel_rfl
theorem ok191 : okB pl191 Go.Proofs.Tryz.f191 1 = true := by kernel_rfl
theorem en191 {v0 w} {Q : Value → World → Prop} (h : mwpB ZP m191 (argEnv [v0]) [] w (fun e ds w => ds = [] ∧ resW ZP [.tmp 2] e w fun v => Q v w) (fun _ _ _ _ => False) (fun e ds w => ds = [] ∧ resW ZP [.tmp 2] e w fun v => Q v w) (fun _ _ _ _ => False) ⟨⟩) : Rets ZP 191 #[v0] w Q :=
  rets_of_mwp follows_mo Go.Proofs.Tryz.func191 pl191 st191 ok191 (by kernel_rfl) h
def m192 : MC := (.seq (.ops [⟨some 1,.box 64 (ZT 0),0,none⟩,⟨some 2,.assign (.const (.bool false)),4,none⟩])
    (.seq (.ops [⟨some 3,.load 64 (ZT 1),64,none⟩,⟨some 4,.call ⟨.value (.func 180),#[ZT 3,.const (.bool true),.const (.bool false),.const (.bool false),.const (.bool true)],#[64,4,4,4,4]⟩,4,none⟩,⟨some 5,.move (ZT 4),4,none⟩,⟨some 6,.load 64 (ZT 1),64,some (some 5,true)⟩,⟨some 7,.call ⟨.value (.func 193),#[ZT 6],#[64]⟩,4,some (some 5,true)⟩,⟨some 8,.pick (ZT 5) (ZT 7) (.const (.bool false)),4,none⟩,⟨some 2,.assign (ZT 8),4,none⟩])
    .ret))
def pl192 : Nat → Plan := fun _ => .done
theorem st192 : Go.Proofs.Tryz.f192.body.map (strip pl192) = some m192 := by kernel_rfl
theorem ok192 : okB pl192 Go.Proofs.Tryz.f192 1 = true := by kernel_rfl
theorem en192 {v0 w} {Q : Value → World → Prop} (h : mwpB ZP m192 (argEnv [v0]) [] w (fun e ds w => ds = [] ∧ resW ZP [.tmp 2] e w fun v => Q v w) (fun _ _ _ _ => False) (fun e ds w => ds = [] ∧ resW ZP [.tmp 2] e w fun v => Q v w) (fun _ _ _ _ => False) ⟨⟩) : Rets ZP 192 #[v0] w Q :=
  rets_of_mwp follows_mo Go.Proofs.Tryz.func192 pl192 st192 ok192 (by kernel_rfl) h
def m193 : MC := (.seq (.ops [⟨some 1,.box 64 (ZT 0),0,none⟩,⟨some 2,.assign (.const (.bool false)),4,none⟩])
    (.seq (.seq (.ops [⟨some 8,.fieldAddr 64 (ZT 1) 4,0,none⟩,⟨some 9,.load 62 (ZT 8),62,none⟩,⟨some 10,.call ⟨.builtin .len,#[ZT 9],#[62]⟩,3,none⟩,⟨some 11,.binOp .eql 3 (ZT 10) (.const (.int .i64 0)) 3,4,none⟩,⟨some 12,.move (ZT 11),4,none⟩,⟨some 13,.fieldAddr 64 (ZT 1) 4,0,some (some 12,false)⟩,⟨some 14,.load 62 (ZT 13),62,some (some 12,false)⟩,⟨some 15,.call ⟨.value (.func 205),#[ZT 14],#[62]⟩,4,some (some 12,false)⟩,⟨some 16,.unOp .not 4 (ZT 15),4,some (some 12,false)⟩,⟨some 17,.pick (ZT 12) (.const (.bool true)) (ZT 16),4,none⟩])
    (.cond (ZT 17) (.seq (.ops [⟨some 2,.assign (.const (.bool false)),4,none⟩])
    .ret) .skip))
    (.seq (.draw (.take ⟨some 18,.fieldAddr 64 (ZT 1) 4,0,none⟩ (.take ⟨some 19,.load 62 (ZT 18),62,none⟩ (.take ⟨some 20,.indexAddr 62 (ZT 19) (.const (.int .i64 0)),0,none⟩ (.take ⟨some 21,.fieldAddr 64 (ZT 20) 1,0,none⟩ (.take ⟨some 22,.load 3 (ZT 21),3,none⟩ (.take ⟨some 23,.fieldAddr 64 (ZT 1) 4,0,none⟩ (.take ⟨some 24,.load 62 (ZT 23),62,none⟩ (.take ⟨some 25,.slice 62 (ZT 24) (some (.const (.int .i64 1))) none none,62,none⟩ (.take ⟨some 3,.assign (ZT 22),3,none⟩ (.take ⟨some 4,.assign (ZT 25),62,none⟩ .done)))))))))))
    (.seq (.seq (.ops [⟨some 26,.fieldAddr 64 (ZT 1) 1,0,none⟩,⟨some 27,.load 3 (ZT 26),3,none⟩])
    (.block 0 (.seq (.ops [⟨some 29,.binOp .eql 3 (ZT 27) (.const (.int .i64 1)) 3,4,none⟩,⟨some 28,.assign (ZT 29),4,none⟩])
    (.cond (ZT 28) (.seq (.ops [⟨some 30,.move (ZT 4),62,none⟩,⟨some 31,.call ⟨.builtin .len,#[ZT 30],#[62]⟩,3,none⟩,⟨some 32,.binOp .eql 3 (ZT 31) (.const (.int .i64 0)) 3,4,none⟩,⟨some 2,.assign (ZT 32),4,none⟩])
    .ret) (.seq (.ops [⟨some 34, .binOp .eql 3 (.tmp 27) (.const (.int .i64 2)) 3, 4, none⟩, ⟨some 33, .assign (.tmp 34), 4, none⟩])
    (.cond (ZT 33) (.seq (.ops [⟨some 35,.makeMap 202 none,202,none⟩,⟨some 5,.assign (ZT 35),202,none⟩])
    (.seq (.seq (.ops [⟨some 36,.move (ZT 4),62,none⟩,⟨some 37,.call ⟨.builtin .len,#[ZT 36],#[62]⟩,3,none⟩,⟨some 38,.move (.const (.int .i64 0)),3,none⟩])
    (.block 1 (.loop (.seq (.ops [⟨some 39,.binOp .lss 3 (ZT 38) (ZT 37) 3,0,none⟩])
    (.seq (.cond (ZT 39) .skip (.exit 1))
    (.seq (.block 2 (.seq (.ops [⟨some 40,.indexAddr 62 (ZT 36) (ZT 38),0,none⟩,⟨some 41,.load 64 (ZT 40),64,none⟩,⟨some 7,.alloc 64,0,none⟩,⟨none,.store 64 (ZT 7) (ZT 41),0,none⟩])
    (.seq (.seq (.ops [⟨some 42,.move (ZT 5),202,none⟩,⟨some 43,.fieldAddr 64 (ZT 7) 1,0,none⟩,⟨some 44,.load 3 (ZT 43),3,none⟩,⟨some 45,.lookup 202 (ZT 42) (ZT 44) false,4,none⟩])
    (.cond (ZT 45) (.seq (.ops [⟨some 2,.assign (.const (.bool false)),4,none⟩])
    .ret) .skip))
    (.ops [⟨some 46,.move (ZT 5),202,none⟩,⟨some 47,.fieldAddr 64 (ZT 7) 1,0,none⟩,⟨some 48,.load 3 (ZT 47),3,none⟩,⟨none,.mapUpdate 202 (ZT 46) (ZT 48) (.const (.bool true)),0,none⟩]))))
    (.ops [⟨some 49,.binOp .add 3 (ZT 38) (.const (.int .i64 1)) 3,3,none⟩,⟨some 38,.move (ZT 49),3,none⟩])))))))
    (.seq (.ops [⟨some 50,.move (ZT 5),202,none⟩,⟨some 51,.move (ZT 3),3,none⟩,⟨some 52,.lookup 202 (ZT 50) (ZT 51) false,4,none⟩,⟨some 2,.assign (ZT 52),4,none⟩])
    .ret))) (.seq (.ops [⟨some 54, .binOp .eql 3 (.tmp 27) (.const (.int .i64 3)) 3, 4, none⟩, ⟨some 53, .assign (.tmp 54), 4, none⟩])
    (.cond (ZT 53) (.seq (.ops [⟨some 55,.move (ZT 4),62,none⟩,⟨some 56,.call ⟨.builtin .len,#[ZT 55],#[62]⟩,3,none⟩,⟨some 57,.binOp .eql 3 (ZT 56) (.const (.int .i64 2)) 3,4,none⟩,⟨some 58,.move (ZT 57),4,none⟩,⟨some 59,.move (ZT 4),62,some (some 58,true)⟩,⟨some 60,.indexAddr 62 (ZT 59) (.const (.int .i64 0)),0,some (some 58,true)⟩,⟨some 61,.fieldAddr 64 (ZT 60) 1,0,some (some 58,true)⟩,⟨some 62,.load 3 (ZT 61),3,some (some 58,true)⟩,⟨some 63,.move (ZT 3),3,some (some 58,true)⟩,⟨some 64,.binOp .leq 3 (ZT 62) (ZT 63) 3,4,some (some 58,true)⟩,⟨some 65,.pick (ZT 58) (ZT 64) (.const (.bool false)),4,none⟩,⟨some 66,.move (ZT 65),4,none⟩,⟨some 67,.move (ZT 3),3,some (some 66,true)⟩,⟨some 68,.move (ZT 4),62,some (some 66,true)⟩,⟨some 69,.indexAddr 62 (ZT 68) (.const (.int .i64 1)),0,some (some 66,true)⟩,⟨some 70,.fieldAddr 64 (ZT 69) 1,0,some (some 66,true)⟩,⟨some 71,.load 3 (ZT 70),3,some (some 66,true)⟩,⟨some 72,.binOp .leq 3 (ZT 67) (ZT 71) 3,4,some (some 66,true)⟩,⟨some 73,.pick (ZT 66) (ZT 72) (.const (.bool false)),4,none⟩,⟨some 2,.assign (ZT 73),4,none⟩])
    .ret) (.seq (.ops [⟨some 75, .binOp .eql 3 (.tmp 27) (.const (.int .i64 4)) 3, 4, none⟩, ⟨some 74, .assign (.tmp 75), 4, none⟩])
    (.cond (ZT 74) (.seq (.draw (.take ⟨some 76,.move (ZT 4),62,none⟩ (.take ⟨some 77,.call ⟨.builtin .len,#[ZT 76],#[62]⟩,3,none⟩ (.take ⟨some 78,.binOp .eql 3 (ZT 77) (.const (.int .i64 3)) 3,4,none⟩ (.take ⟨some 79,.move (ZT 78),4,none⟩ (.take ⟨some 80,.move (ZT 4),62,some (some 79,true)⟩ (.take ⟨some 81,.indexAddr 62 (ZT 80) (.const (.int .i64 2)),0,some (some 79,true)⟩ (.take ⟨some 82,.fieldAddr 64 (ZT 81) 1,0,some (some 79,true)⟩ (.take ⟨some 83,.load 3 (ZT 82),3,some (some 79,true)⟩ (.take ⟨some 84,.binOp .gtr 3 (ZT 83) (.const (.int .i64 0)) 3,4,some (some 79,true)⟩ (.take ⟨some 85,.pick (ZT 79) (ZT 84) (.const (.bool false)),4,none⟩ (.take ⟨some 86,.move (ZT 85),4,none⟩ (.take ⟨some 87,.move (ZT 4),62,some (some 86,true)⟩ (.take ⟨some 88,.indexAddr 62 (ZT 87) (.const (.int .i64 0)),0,some (some 86,true)⟩ (.take ⟨some 89,.fieldAddr 64 (ZT 88) 1,0,some (some 86,true)⟩ (.take ⟨some 90,.load 3 (ZT 89),3,some (some 86,true)⟩ (.take ⟨some 91,.move (ZT 3),3,some (some 86,true)⟩ (.take ⟨some 92,.binOp .leq 3 (ZT 90) (ZT 91) 3,4,some (some 86,true)⟩ (.take ⟨some 93,.pick (ZT 86) (ZT 92) (.const (.bool false)),4,none⟩ (.take ⟨some 94,.move (ZT 93),4,none⟩ (.take ⟨some 95,.move (ZT 3),3,some (some 94,true)⟩ (.take ⟨some 96,.move (ZT 4),62,some (some 94,true)⟩ (.take ⟨some 97,.indexAddr 62 (ZT 96) (.const (.int .i64 1)),0,some (some 94,true)⟩ (.take ⟨some 98,.fieldAddr 64 (ZT 97) 1,0,some (some 94,true)⟩ (.take ⟨some 99,.load 3 (ZT 98),3,some (some 94,true)⟩ (.take ⟨some 100,.binOp .leq 3 (ZT 95) (ZT 99) 3,4,some (some 94,true)⟩ (.take ⟨some 101,.pick (ZT 94) (ZT 100) (.const (.bool false)),4,none⟩ (.take ⟨some 102,.move (ZT 101),4,none⟩ (.take ⟨some 103,.move (ZT 3),3,some (some 102,true)⟩ (.take ⟨some 104,.convert 3 152 (ZT 103),152,some (some 102,true)⟩ (.take ⟨some 105,.move (ZT 4),62,some (some 102,true)⟩ (.take ⟨some 106,.indexAddr 62 (ZT 105) (.const (.int .i64 0)),0,some (some 102,true)⟩ (.take ⟨some 107,.fieldAddr 64 (ZT 106) 1,0,some (some 102,true)⟩ (.take ⟨some 108,.load 3 (ZT 107),3,some (some 102,true)⟩ (.take ⟨some 109,.convert 3 152 (ZT 108),152,some (some 102,true)⟩ (.take ⟨some 110,.binOp .sub 152 (ZT 104) (ZT 109) 152,152,some (some 102,true)⟩ (.take ⟨some 111,.move (ZT 4),62,some (some 102,true)⟩ (.take ⟨some 112,.indexAddr 62 (ZT 111) (.const (.int .i64 2)),0,some (some 102,true)⟩ (.take ⟨some 113,.fieldAddr 64 (ZT 112) 1,0,some (some 102,true)⟩ (.take ⟨some 114,.load 3 (ZT 113),3,some (some 102,true)⟩ (.take ⟨some 115,.convert 3 152 (ZT 114),152,some (some 102,true)⟩ (.take ⟨some 116,.binOp .rem 152 (ZT 110) (ZT 115) 152,152,some (some 102,true)⟩ (.take ⟨some 117,.binOp .eql 152 (ZT 116) (.const (.int .u64 0)) 152,4,some (some 102,true)⟩ (.take ⟨some 118,.pick (ZT 102) (ZT 117) (.const (.bool false)),4,none⟩ (.take ⟨some 2,.assign (ZT 118),4,none⟩ .done)))))))))))))))))))))))))))))))))))))))))))))
    .ret) .skip))))))))))
    (.seq (.ops [⟨some 2,.assign (.const (.bool false)),4,none⟩])
    .ret)))))
def pl193 : Nat → Plan := fun id => if id = 3 then (.take 0 (.take 1 (.take 2 (.take 3 (.take 4 (.take 5 (.take 6 (.take 7 (.take 8 (.take 9 .done)))))))))) else if id = 20 then (.take 0 (.take 1 (.take 2 (.take 3 (.take 4 (.take 5 (.take 6 (.take 7 (.take 8 (.take 9 (.take 10 (.take 11 (.take 12 (.take 13 (.take 14 (.take 15 (.take 16 (.take 17 (.take 18 (.take 19 (.take 20 (.take 21 (.take 22 (.take 23 (.take 24 (.take 25 (.take 26 (.take 27 (.take 28 (.take 29 (.take 30 (.take 31 (.take 32 (.take 33 (.take 34 (.take 35 (.take 36 (.take 37 (.take 38 (.take 39 (.take 40 (.take 41 (.take 42 (.take 43 .done)))))))))))))))))))))))))))))))))))))))))))) else .done
theorem st193 : Go.Proofs.Tryz.f193.body.map (strip pl193) = some m193 := by kernel_rfl
theorem ok193 : okB pl193 Go.Proofs.Tryz.f193 1 = true := by kernel_rfl
theorem en193 {v0 w} {Q : Value → World → Prop} (h : mwpB ZP m193 (argEnv [v0]) [] w (fun e ds w => ds = [] ∧ resW ZP [.tmp 2] e w fun v => Q v w) (fun _ _ _ _ => False) (fun e ds w => ds = [] ∧ resW ZP [.tmp 2] e w fun v => Q v w) (fun _ _ _ _ => False) ⟨⟩) : Rets ZP 193 #[v0] w Q :=
  rets_of_mwp follows_mo Go.Proofs.Tryz.func193 pl193 st193 ok193 (by kernel_rfl) h
def m194 : MC := (.seq (.ops [⟨some 1,.box 64 (ZT 0),0,none⟩,⟨some 2,.assign (.const (.bool false)),4,none⟩])
    (.seq (.ops [⟨some 6,.fieldAddr 64 (ZT 1) 2,0,none⟩,⟨some 7,.load 9 (ZT 6),9,none⟩,⟨some 8,.binOp .eql 9 (ZT 7) (.const (.string { data := #[] })) 9,4,none⟩,⟨some 9,.move (ZT 8),4,none⟩,⟨some 10,.fieldAddr 64 (ZT 1) 1,0,some (some 9,true)⟩,⟨some 11,.load 3 (ZT 10),3,some (some 9,true)⟩,⟨some 12,.binOp .eql 3 (ZT 11) (.const (.int .i64 0)) 3,4,some (some 9,true)⟩,⟨some 13,.pick (ZT 9) (ZT 12) (.const (.bool false)),4,none⟩,⟨some 14,.move (ZT 13),4,none⟩,⟨some 15,.fieldAddr 64 (ZT 1) 3,0,some (some 14,true)⟩,⟨some 16,.load 33 (ZT 15),33,some (some 14,true)⟩,⟨some 17,.call ⟨.builtin .len,#[ZT 16],#[33]⟩,3,some (some 14,true)⟩,⟨some 18,.fieldAddr 64 (ZT 1) 4,0,some (some 14,true)⟩,⟨some 19,.load 62 (ZT 18),62,some (some 14,true)⟩,⟨some 20,.call ⟨.builtin .len,#[ZT 19],#[62]⟩,3,some (some 14,true)⟩,⟨some 21,.binOp .eql 3 (ZT 17) (ZT 20) 3,4,some (some 14,true)⟩,⟨some 22,.pick (ZT 14) (ZT 21) (.const (.bool false)),4,none⟩,⟨some 3,.assign (ZT 22),4,none⟩])
    (.seq (.seq (.ops [⟨some 23,.fieldAddr 64 (ZT 1) 3,0,none⟩,⟨some 24,.load 33 (ZT 23),33,none⟩,⟨some 25,.call ⟨.builtin .len,#[ZT 24],#[33]⟩,3,none⟩,⟨some 26,.move (.const (.int .i64 0)),3,none⟩])
    (.block 0 (.loop (.seq (.ops [⟨some 27,.binOp .lss 3 (ZT 26) (ZT 25) 3,0,none⟩])
    (.seq (.cond (ZT 27) .skip (.exit 0))
    (.seq (.block 1 (.seq (.ops [⟨some 28,.move (ZT 26),3,none⟩,⟨some 29,.indexAddr 33 (ZT 24) (ZT 26),0,none⟩,⟨some 30,.load 3 (ZT 29),3,none⟩,⟨some 4,.assign (ZT 28),3,none⟩,⟨some 5,.assign (ZT 30),3,none⟩])
    (.ops [⟨some 31,.move (ZT 3),4,none⟩,⟨some 32,.move (ZT 31),4,none⟩,⟨some 33,.move (ZT 5),3,some (some 32,true)⟩,⟨some 34,.binOp .geq 3 (ZT 33) (.const (.int .i64 0)) 3,4,some (some 32,true)⟩,⟨some 35,.pick (ZT 32) (ZT 34) (.const (.bool false)),4,none⟩,⟨some 36,.move (ZT 35),4,none⟩,⟨some 37,.move (ZT 5),3,some (some 36,true)⟩,⟨some 38,.binOp .leq 3 (ZT 37) (.const (.int .i64 1000000000)) 3,4,some (some 36,true)⟩,⟨some 39,.pick (ZT 36) (ZT 38) (.const (.bool false)),4,none⟩,⟨some 40,.move (ZT 39),4,none⟩,⟨some 41,.move (ZT 4),3,some (some 40,true)⟩,⟨some 42,.binOp .eql 3 (ZT 41) (.const (.int .i64 0)) 3,4,some (some 40,true)⟩,⟨some 43,.move (ZT 42),4,some (some 40,true)⟩,⟨some 44,.fieldAddr 64 (ZT 1) 3,0,some (some 43,false)⟩,⟨some 45,.load 33 (ZT 44),33,some (some 43,false)⟩,⟨some 46,.move (ZT 4),3,some (some 43,false)⟩,⟨some 47,.binOp .sub 3 (ZT 46) (.const (.int .i64 1)) 3,3,some (some 43,false)⟩,⟨some 48,.indexAddr 33 (ZT 45) (ZT 47),0,some (some 43,false)⟩,⟨some 49,.load 3 (ZT 48),3,some (some 43,false)⟩,⟨some 50,.move (ZT 5),3,some (some 43,false)⟩,⟨some 51,.binOp .leq 3 (ZT 49) (ZT 50) 3,4,some (some 43,false)⟩,⟨some 52,.pick (ZT 43) (.const (.bool true)) (ZT 51),4,some (some 40,true)⟩,⟨some 53,.pick (ZT 40) (ZT 52) (.const (.bool false)),4,none⟩,⟨some 54,.move (ZT 53),4,none⟩,⟨some 55,.fieldAddr 64 (ZT 1) 4,0,some (some 54,true)⟩,⟨some 56,.load 62 (ZT 55),62,some (some 54,true)⟩,⟨some 57,.move (ZT 4),3,some (some 54,true)⟩,⟨some 58,.indexAddr 62 (ZT 56) (ZT 57),0,some (some 54,true)⟩,⟨some 59,.fieldAddr 64 (ZT 58) 0,0,some (some 54,true)⟩,⟨some 60,.load 3 (ZT 59),3,some (some 54,true)⟩,⟨some 61,.binOp .neq 3 (ZT 60) (.const (.int .i64 10)) 3,4,some (some 54,true)⟩,⟨some 62,.pick (ZT 54) (ZT 61) (.const (.bool false)),4,none⟩,⟨some 3,.assign (ZT 62),4,none⟩])))
    (.ops [⟨some 63,.binOp .add 3 (ZT 26) (.const (.int .i64 1)) 3,3,none⟩,⟨some 26,.move (ZT 63),3,none⟩])))))))
    (.seq (.ops [⟨some 64,.move (ZT 3),4,none⟩,⟨some 2,.assign (ZT 64),4,none⟩])
    .ret))))
def pl194 : Nat → Plan := fun _ => .done
theorem st194 : Go.Proofs.Tryz.f194.body.map (strip pl194) = some m194 := by kernel_rfl
theorem ok194 : okB pl194 Go.Proofs.Tryz.f194 1 = true := by kernel_rfl
theorem en194 {v0 w} {Q : Value → World → Prop} (h : mwpB ZP m194 (argEnv [v0]) [] w (fun e ds w => ds = [] ∧ resW ZP [.tmp 2] e w fun v => Q v w) (fun _ _ _ _ => False) (fun e ds w => ds = [] ∧ resW ZP [.tmp 2] e w fun v => Q v w) (fun _ _ _ _ => False) ⟨⟩) : Rets ZP 194 #[v0] w Q :=
  rets_of_mwp follows_mo Go.Proofs.Tryz.func194 pl194 st194 ok194 (by kernel_rfl) h
def m203 : MC := (.seq (.ops [⟨some 4,.assign (.const (.int .i64 0)),3,none⟩])
    (.seq (.seq (.ops [⟨some 6,.move (ZT 0),132,none⟩,⟨some 7,.call ⟨.builtin .len,#[ZT 6],#[132]⟩,3,none⟩,⟨some 8,.move (.const (.int .i64 0)),3,none⟩])
    (.block 0 (.loop (.seq (.ops [⟨some 9,.binOp .lss 3 (ZT 8) (ZT 7) 3,0,none⟩])
    (.seq (.cond (ZT 9) .skip (.exit 0))
    (.seq (.block 1 (.seq (.ops [⟨some 10,.move (ZT 8),3,none⟩,⟨some 5,.assign (ZT 10),3,none⟩])
    (.seq (.ops [⟨some 11,.move (ZT 1),5,none⟩,⟨some 12,.move (ZT 0),132,none⟩,⟨some 13,.move (ZT 5),3,none⟩,⟨some 14,.indexAddr 132 (ZT 12) (ZT 13),0,none⟩,⟨some 15,.load 5 (ZT 14),5,none⟩,⟨some 16,.binOp .eql 5 (ZT 11) (ZT 15) 5,4,none⟩])
    (.cond (ZT 16) (.seq (.ops [⟨some 17,.move (ZT 5),3,none⟩,⟨some 4,.assign (ZT 17),3,none⟩])
    .ret) .skip))))
    (.ops [⟨some 18,.binOp .add 3 (ZT 8) (.const (.int .i64 1)) 3,3,none⟩,⟨some 8,.move (ZT 18),3,none⟩])))))))
    (.seq (.ops [⟨some 4,.assign (.const (.int .i64 (-1))),3,none⟩])
    .ret)))
def pl203 : Nat → Plan := fun _ => .done
theorem st203 : Go.Proofs.Tryz.f203.body.map (strip pl203) = some m203 := by kernel_rfl
theorem ok203 : okB pl203 Go.Proofs.Tryz.f203 2 = true := by kernel_rfl
theorem en203 {v0 v1 w} {Q : Value → World → Prop} (h : mwpB ZP m203 (argEnv [v0, v1]) [] w (fun e ds w => ds = [] ∧ resW ZP [.tmp 4] e w fun v => Q v w) (fun _ _ _ _ => False) (fun e ds w => ds = [] ∧ resW ZP [.tmp 4] e w fun v => Q v w) (fun _ _ _ _ => False) ⟨⟩) : Rets ZP 203 #[v0, v1] w Q :=
  rets_of_mwp follows_mo Go.Proofs.Tryz.func203 pl203 st203 ok203 (by kernel_rfl) h
def m204 : MC := (.seq (.ops [⟨some 4,.assign (.const (.int .i64 0)),3,none⟩])
    (.seq (.seq (.ops [⟨some 6,.move (ZT 0),62,none⟩,⟨some 7,.call ⟨.builtin .len,#[ZT 6],#[62]⟩,3,none⟩,⟨some 8,.move (.const (.int .i64 0)),3,none⟩])
    (.block 0 (.loop (.seq (.ops [⟨some 9,.binOp .lss 3 (ZT 8) (ZT 7) 3,0,none⟩])
    (.seq (.cond (ZT 9) .skip (.exit 0))
    (.seq (.block 1 (.seq (.ops [⟨some 10,.move (ZT 8),3,none⟩,⟨some 5,.assign (ZT 10),3,none⟩])
    (.seq (.ops [⟨some 11,.move (ZT 1),65,none⟩,⟨some 12,.move (ZT 0),62,none⟩,⟨some 13,.move (ZT 5),3,none⟩,⟨some 14,.indexAddr 62 (ZT 12) (ZT 13),0,none⟩,⟨some 15,.load 64 (ZT 14),64,none⟩,⟨some 16,.call ⟨.value (ZT 11),#[ZT 15],#[64]⟩,4,none⟩])
    (.cond (ZT 16) (.seq (.ops [⟨some 17,.move (ZT 5),3,none⟩,⟨some 4,.assign (ZT 17),3,none⟩])
    .ret) .skip))))
    (.ops [⟨some 18,.binOp .add 3 (ZT 8) (.const (.int .i64 1)) 3,3,none⟩,⟨some 8,.move (ZT 18),3,none⟩])))))))
    (.seq (.ops [⟨some 4,.assign (.const (.int .i64 (-1))),3,none⟩])
    .ret)))
def pl204 : Nat → Plan := fun _ => .done
theorem st204 : Go.Proofs.Tryz.f204.body.map (strip pl204) = some m204 := by kernel_rfl
theorem ok204 : okB pl204 Go.Proofs.Tryz.f204 2 = true := by kernel_rfl
theorem en204 {v0 v1 w} {Q : Value → World → Prop} (h : mwpB ZP m204 (argEnv [v0, v1]) [] w (fun e ds w => ds = [] ∧ resW ZP [.tmp 4] e w fun v => Q v w) (fun _ _ _ _ => False) (fun e ds w => ds = [] ∧ resW ZP [.tmp 4] e w fun v => Q v w) (fun _ _ _ _ => False) ⟨⟩) : Rets ZP 204 #[v0, v1] w Q :=
  rets_of_mwp follows_mo Go.Proofs.Tryz.func204 pl204 st204 ok204 (by kernel_rfl) h
def m205 : MC := (.seq (.ops [⟨some 2,.assign (.const (.bool false)),4,none⟩])
    (.seq (.ops [⟨some 3,.move (ZT 0),62,none⟩,⟨some 4,.call ⟨.value (.func 189),#[ZT 3,.func 210],#[62,65]⟩,4,none⟩,⟨some 5,.unOp .not 4 (ZT 4),4,none⟩,⟨some 2,.assign (ZT 5),4,none⟩])
    .ret))
def pl205 : Nat → Plan := fun _ => .done
theorem st205 : Go.Proofs.Tryz.f205.body.map (strip pl205) = some m205 := by kernel_rfl
theorem ok205 : okB pl205 Go.Proofs.Tryz.f205 1 = true := by kernel_rfl
theorem en205 {v0 w} {Q : Value → World → Prop} (h : mwpB ZP m205 (argEnv [v0]) [] w (fun e ds w => ds = [] ∧ resW ZP [.tmp 2] e w fun v => Q v w) (fun _ _ _ _ => False) (fun e ds w => ds = [] ∧ resW ZP [.tmp 2] e w fun v => Q v w) (fun _ _ _ _ => False) ⟨⟩) : Rets ZP 205 #[v0] w Q :=
  rets_of_mwp follows_mo Go.Proofs.Tryz.func205 pl205 st205 ok205 (by kernel_rfl) h
def m210 : MC := (.seq (.ops [⟨some 1,.box 64 (ZT 0),0,none⟩,⟨some 2,.assign (.const (.bool false)),4,none⟩])
    (.seq (.ops [⟨some 3,.fieldAddr 64 (ZT 1) 0,0,none⟩,⟨some 4,.load 3 (ZT 3),3,none⟩,⟨some 5,.binOp .neq 3 (ZT 4) (.const (.int .i64 3)) 3,4,none⟩,⟨some 2,.assign (ZT 5),4,none⟩])
    .ret))
def pl210 : Nat → Plan := fun _ => .done
theorem st210 : Go.Proofs.Tryz.f210.body.map (strip pl210) = some m210 := by kernel_rfl
theorem ok210 : okB pl210 Go.Proofs.Tryz.f210 1 = true := by kernel_rfl
theorem en210 {v0 w} {Q : Value → World → Prop} (h : mwpB ZP m210 (argEnv [v0]) [] w (fun e ds w => ds = [] ∧ resW ZP [.tmp 2] e w fun v => Q v w) (fun _ _ _ _ => False) (fun e ds w => ds = [] ∧ resW ZP [.tmp 2] e w fun v => Q v w) (fun _ _ _ _ => False) ⟨⟩) : Rets ZP 210 #[v0] w Q :=
  rets_of_mwp follows_mo Go.Proofs.Tryz.func210 pl210 st210 ok210 (by kernel_rfl) h
def m227 : MC := (.seq (.ops [⟨some 4,.assign (.const (.bool false)),4,none⟩])
    (.seq (.ops [⟨some 5,.move (ZT 0),110,none⟩,⟨some 6,.move (ZT 1),3,none⟩,⟨some 7,.call ⟨.value (.func 230),#[ZT 5,ZT 6],#[110,3]⟩,4,none⟩,⟨some 4,.assign (ZT 7),4,none⟩])
    .ret))
def pl227 : Nat → Plan := fun _ => .done
theorem st227 : Go.Proofs.Tryz.f227.body.map (strip pl227) = some m227 := by kernel_rfl
theorem ok227 : okB pl227 Go.Proofs.Tryz.f227 2 = true := by kernel_rfl
theorem en227 {v0 v1 w} {Q : Value → World → Prop} (h : mwpB ZP m227 (argEnv [v0, v1]) [] w (fun e ds w => ds = [] ∧ resW ZP [.tmp 4] e w fun v => Q v w) (fun _ _ _ _ => False) (fun e ds w => ds = [] ∧ resW ZP [.tmp 4] e w fun v => Q v w) (fun _ _ _ _ => False) ⟨⟩) : Rets ZP 227 #[v0, v1] w Q :=
  rets_of_mwp follows_mo Go.Proofs.Tryz.func227 pl227 st227 ok227 (by kernel_rfl) h
def m228 : MC := (.seq (.ops [⟨some 2,.assign (.const (.bool false)),4,none⟩])
    (.seq (.ops [⟨some 6,.makeMap 202 none,202,none⟩,⟨some 3,.assign (ZT 6),202,none⟩])
    (.seq (.seq (.ops [⟨some 7,.move (ZT 0),110,none⟩,⟨some 8,.call ⟨.builtin .len,#[ZT 7],#[110]⟩,3,none⟩,⟨some 9,.move (.const (.int .i64 0)),3,none⟩])
    (.block 0 (.loop (.seq (.ops [⟨some 10,.binOp .lss 3 (ZT 9) (ZT 8) 3,0,none⟩])
    (.seq (.cond (ZT 10) .skip (.exit 0))
    (.seq (.block 1 (.seq (.ops [⟨some 11,.indexAddr 110 (ZT 7) (ZT 9),0,none⟩,⟨some 12,.load 3 (ZT 11),3,none⟩,⟨some 5,.assign (ZT 12),3,none⟩])
    (.seq (.seq (.ops [⟨some 13,.move (ZT 3),202,none⟩,⟨some 14,.move (ZT 5),3,none⟩,⟨some 15,.lookup 202 (ZT 13) (ZT 14) false,4,none⟩,⟨some 16,.move (ZT 15),4,none⟩,⟨some 17,.move (ZT 5),3,some (some 16,false)⟩,⟨some 18,.binOp .lss 3 (ZT 17) (.const (.int .i64 0)) 3,4,some (some 16,false)⟩,⟨some 19,.pick (ZT 16) (.const (.bool true)) (ZT 18),4,none⟩,⟨some 20,.move (ZT 19),4,none⟩,⟨some 21,.move (ZT 5),3,some (some 20,false)⟩,⟨some 22,.binOp .gtr 3 (ZT 21) (.const (.int .i64 1000000000)) 3,4,some (some 20,false)⟩,⟨some 23,.pick (ZT 20) (.const (.bool true)) (ZT 22),4,none⟩])
    (.cond (ZT 23) (.seq (.ops [⟨some 2,.assign (.const (.bool false)),4,none⟩])
    .ret) .skip))
    (.ops [⟨some 24,.move (ZT 3),202,none⟩,⟨some 25,.move (ZT 5),3,none⟩,⟨none,.mapUpdate 202 (ZT 24) (ZT 25) (.const (.bool true)),0,none⟩]))))
    (.ops [⟨some 26,.binOp .add 3 (ZT 9) (.const (.int .i64 1)) 3,3,none⟩,⟨some 9,.move (ZT 26),3,none⟩])))))))
    (.seq (.ops [⟨some 27,.move (ZT 0),110,none⟩,⟨some 28,.call ⟨.builtin .len,#[ZT 27],#[110]⟩,3,none⟩,⟨some 29,.binOp .geq 3 (ZT 28) (.const (.int .i64 1)) 3,4,none⟩,⟨some 30,.move (ZT 29),4,none⟩,⟨some 31,.move (ZT 0),110,some (some 30,true)⟩,⟨some 32,.call ⟨.builtin .len,#[ZT 31],#[110]⟩,3,some (some 30,true)⟩,⟨some 33,.binOp .leq 3 (ZT 32) (.const (.int .i64 20)) 3,4,some (some 30,true)⟩,⟨some 34,.pick (ZT 30) (ZT 33) (.const (.bool false)),4,none⟩,⟨some 2,.assign (ZT 34),4,none⟩])
    .ret))))
def pl228 : Nat → Plan := fun _ => .done
theorem st228 : Go.Proofs.Tryz.f228.body.map (strip pl228) = some m228 := by kernel_rfl
theorem ok228 : okB pl228 Go.Proofs.Tryz.f228 1 = true := by kernel_rfl
theorem en228 {v0 w} {Q : Value → World → Prop} (h : mwpB ZP m228 (argEnv [v0]) [] w (fun e ds w => ds = [] ∧ resW ZP [.tmp 2] e w fun v => Q v w) (fun _ _ _ _ => False) (fun e ds w => ds = [] ∧ resW ZP [.tmp 2] e w fun v => Q v w) (fun _ _ _ _ => False) ⟨⟩) : Rets ZP 228 #[v0] w Q :=
  rets_of_mwp follows_mo Go.Proofs.Tryz.func228 pl228 st228 ok228 (by kernel_rfl) h
def m230 : MC := (.seq (.ops [⟨some 4,.assign (.const (.bool false)),4,none⟩])
    (.seq (.ops [⟨some 5,.move (ZT 0),110,none⟩,⟨some 6,.move (ZT 1),3,none⟩,⟨some 7,.call ⟨.value (.func 231),#[ZT 5,ZT 6],#[110,3]⟩,3,none⟩,⟨some 8,.binOp .geq 3 (ZT 7) (.const (.int .i64 0)) 3,4,none⟩,⟨some 4,.assign (ZT 8),4,none⟩])
    .ret))
def pl230 : Nat → Plan := fun _ => .done
theorem st230 : Go.Proofs.Tryz.f230.body.map (strip pl230) = some m230 := by kernel_rfl
theorem ok230 : okB pl230 Go.Proofs.Tryz.f230 2 = true := by kernel_rfl
theorem en230 {v0 v1 w} {Q : Value → World → Prop} (h : mwpB ZP m230 (argEnv [v0, v1]) [] w (fun e ds w => ds = [] ∧ resW ZP [.tmp 4] e w fun v => Q v w) (fun _ _ _ _ => False) (fun e ds w => ds = [] ∧ resW ZP [.tmp 4] e w fun v => Q v w) (fun _ _ _ _ => False) ⟨⟩) : Rets ZP 230 #[v0, v1] w Q :=
  rets_of_mwp follows_mo Go.Proofs.Tryz.func230 pl230 st230 ok230 (by kernel_rfl) h
def m231 : MC := (.seq (.ops [⟨some 4,.assign (.const (.int .i64 0)),3,none⟩])
    (.seq (.seq (.ops [⟨some 6,.move (ZT 0),110,none⟩,⟨some 7,.call ⟨.builtin .len,#[ZT 6],#[110]⟩,3,none⟩,⟨some 8,.move (.const (.int .i64 0)),3,none⟩])
    (.block 0 (.loop (.seq (.ops [⟨some 9,.binOp .lss 3 (ZT 8) (ZT 7) 3,0,none⟩])
    (.seq (.cond (ZT 9) .skip (.exit 0))
    (.seq (.block 1 (.seq (.ops [⟨some 10,.move (ZT 8),3,none⟩,⟨some 5,.assign (ZT 10),3,none⟩])
    (.seq (.ops [⟨some 11,.move (ZT 1),3,none⟩,⟨some 12,.move (ZT 0),110,none⟩,⟨some 13,.move (ZT 5),3,none⟩,⟨some 14,.indexAddr 110 (ZT 12) (ZT 13),0,none⟩,⟨some 15,.load 3 (ZT 14),3,none⟩,⟨some 16,.binOp .eql 3 (ZT 11) (ZT 15) 3,4,none⟩])
    (.cond (ZT 16) (.seq (.ops [⟨some 17,.move (ZT 5),3,none⟩,⟨some 4,.assign (ZT 17),3,none⟩])
    .ret) .skip))))
    (.ops [⟨some 18,.binOp .add 3 (ZT 8) (.const (.int .i64 1)) 3,3,none⟩,⟨some 8,.move (ZT 18),3,none⟩])))))))
    (.seq (.ops [⟨some 4,.assign (.const (.int .i64 (-1))),3,none⟩])
    .ret)))
def pl231 : Nat → Plan := fun _ => .done
theorem st231 : Go.Proofs.Tryz.f231.body.map (strip pl231) = some m231 := by kernel_rfl
theorem ok231 : okB pl231 Go.Proofs.Tryz.f231 2 = true := by kernel_rfl
theorem en231 {v0 v1 w} {Q : Value → World → Prop} (h : mwpB ZP m231 (argEnv [v0, v1]) [] w (fun e ds w => ds = [] ∧ resW ZP [.tmp 4] e w fun v => Q v w) (fun _ _ _ _ => False) (fun e ds w => ds = [] ∧ resW ZP [.tmp 4] e w fun v => Q v w) (fun _ _ _ _ => False) ⟨⟩) : Rets ZP 231 #[v0, v1] w Q :=
  rets_of_mwp follows_mo Go.Proofs.Tryz.func231 pl231 st231 ok231 (by kernel_rfl) h
def m232 : MC := (.seq (.ops [⟨some 1,.box 112 (ZT 0),0,none⟩,⟨some 2,.assign (.const (.bool false)),4,none⟩])
    (.seq (.ops [⟨some 3,.fieldAddr 112 (ZT 1) 4,0,none⟩,⟨some 4,.load 4 (ZT 3),4,none⟩,⟨some 5,.move (ZT 4),4,none⟩,⟨some 6,.fieldAddr 112 (ZT 1) 0,0,some (some 5,true)⟩,⟨some 7,.load 3 (ZT 6),3,some (some 5,true)⟩,⟨some 8,.binOp .geq 3 (ZT 7) (.const (.int .i64 0)) 3,4,some (some 5,true)⟩,⟨some 9,.pick (ZT 5) (ZT 8) (.const (.bool false)),4,none⟩,⟨some 10,.move (ZT 9),4,none⟩,⟨some 11,.fieldAddr 112 (ZT 1) 0,0,some (some 10,true)⟩,⟨some 12,.load 3 (ZT 11),3,some (some 10,true)⟩,⟨some 13,.fieldAddr 112 (ZT 1) 1,0,some (some 10,true)⟩,⟨some 14,.load 3 (ZT 13),3,some (some 10,true)⟩,⟨some 15,.binOp .leq 3 (ZT 12) (ZT 14) 3,4,some (some 10,true)⟩,⟨some 16,.pick (ZT 10) (ZT 15) (.const (.bool false)),4,none⟩,⟨some 17,.move (ZT 16),4,none⟩,⟨some 18,.fieldAddr 112 (ZT 1) 1,0,some (some 17,true)⟩,⟨some 19,.load 3 (ZT 18),3,some (some 17,true)⟩,⟨some 20,.binOp .leq 3 (ZT 19) (.const (.int .i64 1000000000)) 3,4,some (some 17,true)⟩,⟨some 21,.pick (ZT 17) (ZT 20) (.const (.bool false)),4,none⟩,⟨some 22,.move (ZT 21),4,none⟩,⟨some 23,.fieldAddr 112 (ZT 1) 2,0,some (some 22,true)⟩,⟨some 24,.load 3 (ZT 23),3,some (some 22,true)⟩,⟨some 25,.binOp .geq 3 (ZT 24) (.const (.int .i64 1)) 3,4,some (some 22,true)⟩,⟨some 26,.pick (ZT 22) (ZT 25) (.const (.bool false)),4,none⟩,⟨some 27,.move (ZT 26),4,none⟩,⟨some 28,.fieldAddr 112 (ZT 1) 2,0,some (some 27,true)⟩,⟨some 29,.load 3 (ZT 28),3,some (some 27,true)⟩,⟨some 30,.binOp .leq 3 (ZT 29) (.const (.int .i64 1000)) 3,4,some (some 27,true)⟩,⟨some 31,.pick (ZT 27) (ZT 30) (.const (.bool false)),4,none⟩,⟨some 2,.assign (ZT 31),4,none⟩])
    .ret))
def pl232 : Nat → Plan := fun _ => .done
theorem st232 : Go.Proofs.Tryz.f232.body.map (strip pl232) = some m232 := by kernel_rfl
theorem ok232 : okB pl232 Go.Proofs.Tryz.f232 1 = true := by kernel_rfl
theorem en232 {v0 w} {Q : Value → World → Prop} (h : mwpB ZP m232 (argEnv [v0]) [] w (fun e ds w => ds = [] ∧ resW ZP [.tmp 2] e w fun v => Q v w) (fun _ _ _ _ => False) (fun e ds w => ds = [] ∧ resW ZP [.tmp 2] e w fun v => Q v w) (fun _ _ _ _ => False) ⟨⟩) : Rets ZP 232 #[v0] w Q :=
  rets_of_mwp follows_mo Go.Proofs.Tryz.func232 pl232 st232 ok232 (by kernel_rfl) h
end Go.Proofs.YthcdnjbhhaonhaaGreatDoor
