/- The functions, stripped. -/
import Derived.Test.YthcdnjbhhaonhaaGreatDoorQgMwT
import Derived.Test.YthcdnjbhhaonhaaGreatDoorQgMwIn

namespace Go.Proofs.YthcdnjbhhaonhaaGreatDoor
open Go.RowKit
open Go.Operand renaming tmp → ZT
open Go.Proofs.Tryz renaming prog → ZP
set_option maxRecDepth 100000
def m6 : MC := (.seq (.ops [⟨some 5,.box 24 (ZT 2),0,none⟩,⟨some 6,.assign (.const (.bool false)),4,none⟩])
    (.seq (.seq (.ops [⟨some 21,.move (ZT 0),50,none⟩,⟨some 22,.call ⟨.value (.func 30),#[ZT 21],#[50]⟩,4,none⟩,⟨some 23,.unOp .not 4 (ZT 22),4,none⟩,⟨some 24,.move (ZT 23),4,none⟩,⟨some 25,.move (ZT 1),50,some (some 24,false)⟩,⟨some 26,.call ⟨.value (.func 30),#[ZT 25],#[50]⟩,4,some (some 24,false)⟩,⟨some 27,.unOp .not 4 (ZT 26),4,some (some 24,false)⟩,⟨some 28,.pick (ZT 24) (.const (.bool true)) (ZT 27),4,none⟩,⟨some 29,.move (ZT 28),4,none⟩,⟨some 30,.load 24 (ZT 5),24,some (some 29,false)⟩,⟨some 31,.call ⟨.value (.func 9),#[ZT 30],#[24]⟩,4,some (some 29,false)⟩,⟨some 32,.unOp .not 4 (ZT 31),4,some (some 29,false)⟩,⟨some 33,.pick (ZT 29) (.const (.bool true)) (ZT 32),4,none⟩])
    (.cond (ZT 33) (.seq (.ops [⟨some 34,.call ⟨.value (.func 10),#[],#[]⟩,4,none⟩,⟨some 6,.assign (ZT 34),4,none⟩])
    .ret) .skip))
    (.seq (.ops [⟨some 36,.move (ZT 0),50,none⟩,⟨some 37,.load 24 (ZT 5),24,none⟩,⟨some 38,.call ⟨.value (.func 31),#[ZT 36,ZT 37],#[50,24]⟩,52,none⟩,⟨some 35,.move (ZT 38),52,none⟩,⟨some 39,.extract (ZT 35) 0,50,none⟩,⟨some 40,.extract (ZT 35) 1,28,none⟩,⟨some 7,.assign (ZT 39),50,none⟩,⟨some 8,.assign (ZT 40),28,none⟩])
    (.seq (.ops [⟨some 42,.move (ZT 0),50,none⟩,⟨some 43,.load 24 (ZT 5),24,none⟩,⟨some 44,.call ⟨.value (.func 32),#[ZT 42,ZT 43],#[50,24]⟩,52,none⟩,⟨some 41,.move (ZT 44),52,none⟩,⟨some 45,.extract (ZT 41) 0,50,none⟩,⟨some 46,.extract (ZT 41) 1,28,none⟩,⟨some 9,.assign (ZT 45),50,none⟩,⟨some 10,.assign (ZT 46),28,none⟩])
    (.seq (.seq (.ops [⟨some 47,.move (ZT 7),50,none⟩,⟨some 48,.move (ZT 9),50,none⟩,⟨some 49,.call ⟨.value (.func 33),#[ZT 47,ZT 48],#[50,50]⟩,4,none⟩,⟨some 50,.unOp .not 4 (ZT 49),4,none⟩,⟨some 51,.move (ZT 50),4,none⟩,⟨some 52,.move (ZT 8),28,some (some 51,false)⟩,⟨some 53,.move (ZT 10),28,some (some 51,false)⟩,⟨some 54,.binOp .neq 28 (ZT 52) (ZT 53) 28,4,some (some 51,false)⟩,⟨some 55,.pick (ZT 51) (.const (.bool true)) (ZT 54),4,none⟩])
    (.cond (ZT 55) (.seq (.ops [⟨some 6,.assign (.const (.bool false)),4,none⟩])
    .ret) .skip))
    (.seq (.ops [⟨some 57,.move (ZT 0),50,none⟩,⟨some 58,.move (ZT 1),50,none⟩,⟨some 59,.call ⟨.value (.func 34),#[ZT 57,ZT 58],#[50,50]⟩,55,none⟩,⟨some 56,.move (ZT 59),55,none⟩,⟨some 60,.extract (ZT 56) 0,24,none⟩,⟨some 61,.extract (ZT 56) 1,3,none⟩,⟨some 62,.extract (ZT 56) 2,3,none⟩,⟨some 63,.extract (ZT 56) 3,28,none⟩,⟨some 11,.alloc 24,0,none⟩,⟨none,.store 24 (ZT 11) (ZT 60),0,none⟩,⟨some 12,.assign (ZT 61),3,none⟩,⟨some 13,.assign (ZT 62),3,none⟩,⟨some 8,.assign (ZT 63),28,none⟩])
    (.seq (.ops [⟨some 65,.move (ZT 0),50,none⟩,⟨some 66,.move (ZT 1),50,none⟩,⟨some 67,.call ⟨.value (.func 35),#[ZT 65,ZT 66],#[50,50]⟩,55,none⟩,⟨some 64,.move (ZT 67),55,none⟩,⟨some 68,.extract (ZT 64) 0,24,none⟩,⟨some 69,.extract (ZT 64) 1,3,none⟩,⟨some 70,.extract (ZT 64) 2,3,none⟩,⟨some 71,.extract (ZT 64) 3,28,none⟩,⟨some 14,.alloc 24,0,none⟩,⟨none,.store 24 (ZT 14) (ZT 68),0,none⟩,⟨some 15,.assign (ZT 69),3,none⟩,⟨some 16,.assign (ZT 70),3,none⟩,⟨some 10,.assign (ZT 71),28,none⟩])
    (.seq (.seq (.ops [⟨some 72,.load 24 (ZT 11),24,none⟩,⟨some 73,.load 24 (ZT 14),24,none⟩,⟨some 74,.call ⟨.value (.func 15),#[ZT 72,ZT 73],#[24,24]⟩,4,none⟩,⟨some 75,.unOp .not 4 (ZT 74),4,none⟩,⟨some 76,.move (ZT 75),4,none⟩,⟨some 77,.move (ZT 12),3,some (some 76,false)⟩,⟨some 78,.move (ZT 15),3,some (some 76,false)⟩,⟨some 79,.binOp .neq 3 (ZT 77) (ZT 78) 3,4,some (some 76,false)⟩,⟨some 80,.pick (ZT 76) (.const (.bool true)) (ZT 79),4,none⟩,⟨some 81,.move (ZT 80),4,none⟩,⟨some 82,.move (ZT 13),3,some (some 81,false)⟩,⟨some 83,.move (ZT 16),3,some (some 81,false)⟩,⟨some 84,.binOp .neq 3 (ZT 82) (ZT 83) 3,4,some (some 81,false)⟩,⟨some 85,.pick (ZT 81) (.const (.bool true)) (ZT 84),4,none⟩,⟨some 86,.move (ZT 85),4,none⟩,⟨some 87,.move (ZT 8),28,some (some 86,false)⟩,⟨some 88,.move (ZT 10),28,some (some 86,false)⟩,⟨some 89,.binOp .neq 28 (ZT 87) (ZT 88) 28,4,some (some 86,false)⟩,⟨some 90,.pick (ZT 86) (.const (.bool true)) (ZT 89),4,none⟩])
    (.cond (ZT 90) (.seq (.ops [⟨some 6,.assign (.const (.bool false)),4,none⟩])
    .ret) .skip))
    (.seq (.seq (.ops [⟨some 91,.move (ZT 10),28,none⟩,⟨some 92,.binOp .neq 28 (ZT 91) (.const (.int .i64 0)) 28,4,none⟩])
    (.cond (ZT 92) (.seq (.ops [⟨some 93,.call ⟨.value (.func 10),#[],#[]⟩,4,none⟩,⟨some 6,.assign (ZT 93),4,none⟩])
    .ret) .skip))
    (.seq (.draw (.take ⟨some 95,.load 24 (ZT 11),24,none⟩ (.take ⟨some 96,.move (ZT 0),50,none⟩ (.take ⟨some 97,.move (ZT 12),3,none⟩ (.take ⟨some 98,.indexAddr 50 (ZT 96) (ZT 97),0,none⟩ (.take ⟨some 99,.load 24 (ZT 98),24,none⟩ (.alt ⟨some 100,.call ⟨.value (.func 28),#[ZT 95,ZT 99],#[24,24]⟩,36,none⟩ (.take ⟨some 94,.move (ZT 100),36,none⟩ (.take ⟨some 101,.extract (ZT 94) 0,4,none⟩ (.take ⟨some 102,.extract (ZT 94) 1,28,none⟩ (.take ⟨some 17,.assign (ZT 101),4,none⟩ (.take ⟨some 18,.assign (ZT 102),28,none⟩ .done))))) .none)))))))
    (.seq (.draw (.take ⟨some 104,.load 24 (ZT 11),24,none⟩ (.take ⟨some 105,.move (ZT 1),50,none⟩ (.take ⟨some 106,.move (ZT 13),3,none⟩ (.take ⟨some 107,.indexAddr 50 (ZT 105) (ZT 106),0,none⟩ (.take ⟨some 108,.load 24 (ZT 107),24,none⟩ (.alt ⟨some 109,.call ⟨.value (.func 28),#[ZT 104,ZT 108],#[24,24]⟩,36,none⟩ (.take ⟨some 103,.move (ZT 109),36,none⟩ (.take ⟨some 110,.extract (ZT 103) 0,4,none⟩ (.take ⟨some 111,.extract (ZT 103) 1,28,none⟩ (.take ⟨some 19,.assign (ZT 110),4,none⟩ (.take ⟨some 20,.assign (ZT 111),28,none⟩ .done))))) .none)))))))
    (.seq (.ops [⟨some 112,.load 24 (ZT 11),24,none⟩,⟨some 113,.call ⟨.value (.func 36),#[ZT 112],#[24]⟩,4,none⟩,⟨some 114,.move (ZT 113),4,none⟩,⟨some 115,.move (ZT 17),4,some (some 114,true)⟩,⟨some 116,.pick (ZT 114) (ZT 115) (.const (.bool false)),4,none⟩,⟨some 117,.move (ZT 116),4,none⟩,⟨some 118,.move (ZT 19),4,some (some 117,true)⟩,⟨some 119,.pick (ZT 117) (ZT 118) (.const (.bool false)),4,none⟩,⟨some 120,.move (ZT 119),4,none⟩,⟨some 121,.call ⟨.value (.func 10),#[],#[]⟩,4,some (some 120,true)⟩,⟨some 122,.pick (ZT 120) (ZT 121) (.const (.bool false)),4,none⟩,⟨some 6,.assign (ZT 122),4,none⟩])
    .ret))))))))))))
def pl6 : Nat → Plan := fun id => if id = 13 then (.take 0 (.take 1 (.take 2 (.take 3 (.take 4 (.alt 5 (.take 6 (.take 7 (.take 8 (.take 9 (.take 10 .done))))) .none)))))) else if id = 14 then (.take 0 (.take 1 (.take 2 (.take 3 (.take 4 (.alt 5 (.take 6 (.take 7 (.take 8 (.take 9 (.take 10 .done))))) .none)))))) else .done
theorem st6 : Go.Proofs.Tryz.f6.body.map (strip pl6) = some m6 := by kernel_rfl
theorem ok6 : okB pl6 Go.Proofs.Tryz.f6 3 = true := by kernel_rfl
theorem en6 {v0 v1 v2 w} {Q : Value → World → Prop} (h : mwpB ZP m6 (argEnv [v0, v1, v2]) [] w (fun e ds w => ds = [] ∧ resW ZP [.tmp 6] e w fun v => Q v w) (fun _ _ _ _ => False) (fun e ds w => ds = [] ∧ resW ZP [.tmp 6] e w fun v => Q v w) (fun _ _ _ _ => False) ⟨⟩) : Rets ZP 6 #[v0, v1, v2] w Q :=
  rets_of_mwp follows_mo Go.Proofs.Tryz.func6 pl6 st6 ok6 (by kernel_rfl) h
def m9 : MC := (.seq (.ops [⟨some 1,.box 24 (ZT 0),0,none⟩,⟨some 2,.assign (.const (.bool false)),4,none⟩])
    (.seq (.seq (.ops [⟨some 3,.assign (.const (.int .i64 0)),3,none⟩])
    (.block 0 (.loop (.seq (.seq (.ops [⟨some 4,.move (ZT 3),3,none⟩,⟨some 5,.fieldAddr 24 (ZT 1) 1,0,none⟩,⟨some 6,.load 22 (ZT 5),22,none⟩,⟨some 7,.call ⟨.builtin .len,#[ZT 6],#[22]⟩,3,none⟩,⟨some 8,.binOp .lss 3 (ZT 4) (ZT 7) 3,4,none⟩,⟨some 9,.move (ZT 8),4,none⟩,⟨some 10,.move (ZT 3),3,some (some 9,true)⟩,⟨some 11,.binOp .lss 3 (ZT 10) (.const (.int .i64 12)) 3,4,some (some 9,true)⟩,⟨some 12,.pick (ZT 9) (ZT 11) (.const (.bool false)),4,none⟩])
    (.cond (ZT 12) .skip (.exit 0)))
    (.seq (.block 1 (.seq (.ops [⟨some 15,.fieldAddr 24 (ZT 1) 1,0,none⟩,⟨some 16,.load 22 (ZT 15),22,none⟩,⟨some 17,.move (ZT 3),3,none⟩,⟨some 18,.indexAddr 22 (ZT 16) (ZT 17),0,none⟩,⟨some 19,.fieldAddr 72 (ZT 18) 1,0,none⟩,⟨some 20,.fieldAddr 35 (ZT 19) 2,0,none⟩,⟨some 21,.load 33 (ZT 20),33,none⟩,⟨some 22,.call ⟨.builtin .len,#[ZT 21],#[33]⟩,3,none⟩,⟨some 23,.binOp .gtr 3 (ZT 22) (.const (.int .i64 60)) 3,4,none⟩])
    (.cond (ZT 23) (.seq (.ops [⟨some 2,.assign (.const (.bool false)),4,none⟩])
    .ret) .skip)))
    (.ops [⟨some 13,.move (ZT 3),3,none⟩,⟨some 14,.binOp .add 3 (ZT 13) (.const (.int .i64 1)) 3,3,none⟩,⟨some 3,.assign (ZT 14),3,none⟩]))))))
    (.seq (.ops [⟨some 24,.fieldAddr 24 (ZT 1) 1,0,none⟩,⟨some 25,.load 22 (ZT 24),22,none⟩,⟨some 26,.call ⟨.builtin .len,#[ZT 25],#[22]⟩,3,none⟩,⟨some 27,.binOp .leq 3 (ZT 26) (.const (.int .i64 12)) 3,4,none⟩,⟨some 2,.assign (ZT 27),4,none⟩])
    .ret)))
def pl9 : Nat → Plan := fun _ => .done
theorem st9 : Go.Proofs.Tryz.f9.body.map (strip pl9) = some m9 := by kernel_rfl
theorem ok9 : okB pl9 Go.Proofs.Tryz.f9 1 = true := by kernel_rfl
theorem en9 {v0 w} {Q : Value → World → Prop} (h : mwpB ZP m9 (argEnv [v0]) [] w (fun e ds w => ds = [] ∧ resW ZP [.tmp 2] e w fun v => Q v w) (fun _ _ _ _ => False) (fun e ds w => ds = [] ∧ resW ZP [.tmp 2] e w fun v => Q v w) (fun _ _ _ _ => False) ⟨⟩) : Rets ZP 9 #[v0] w Q :=
  rets_of_mwp follows_mo Go.Proofs.Tryz.func9 pl9 st9 ok9 (by kernel_rfl) h
def m15 : MC := (.seq (.ops [⟨some 2,.box 24 (ZT 0),0,none⟩,⟨some 3,.box 24 (ZT 1),0,none⟩,⟨some 4,.assign (.const (.bool false)),4,none⟩])
    (.seq (.seq (.ops [⟨some 6,.fieldAddr 24 (ZT 2) 0,0,none⟩,⟨some 7,.load 3 (ZT 6),3,none⟩,⟨some 8,.fieldAddr 24 (ZT 3) 0,0,none⟩,⟨some 9,.load 3 (ZT 8),3,none⟩,⟨some 10,.binOp .neq 3 (ZT 7) (ZT 9) 3,4,none⟩,⟨some 11,.move (ZT 10),4,none⟩,⟨some 12,.fieldAddr 24 (ZT 2) 1,0,some (some 11,false)⟩,⟨some 13,.load 22 (ZT 12),22,some (some 11,false)⟩,⟨some 14,.call ⟨.builtin .len,#[ZT 13],#[22]⟩,3,some (some 11,false)⟩,⟨some 15,.fieldAddr 24 (ZT 3) 1,0,some (some 11,false)⟩,⟨some 16,.load 22 (ZT 15),22,some (some 11,false)⟩,⟨some 17,.call ⟨.builtin .len,#[ZT 16],#[22]⟩,3,some (some 11,false)⟩,⟨some 18,.binOp .neq 3 (ZT 14) (ZT 17) 3,4,some (some 11,false)⟩,⟨some 19,.pick (ZT 11) (.const (.bool true)) (ZT 18),4,none⟩])
    (.cond (ZT 19) (.seq (.ops [⟨some 4,.assign (.const (.bool false)),4,none⟩])
    .ret) .skip))
    (.seq (.seq (.ops [⟨some 5,.assign (.const (.int .i64 0)),3,none⟩])
    (.block 0 (.loop (.seq (.seq (.ops [⟨some 20,.move (ZT 5),3,none⟩,⟨some 21,.fieldAddr 24 (ZT 2) 1,0,none⟩,⟨some 22,.load 22 (ZT 21),22,none⟩,⟨some 23,.call ⟨.builtin .len,#[ZT 22],#[22]⟩,3,none⟩,⟨some 24,.binOp .lss 3 (ZT 20) (ZT 23) 3,4,none⟩])
    (.cond (ZT 24) .skip (.exit 0)))
    (.seq (.block 1 (.seq (.draw (.take ⟨some 27,.fieldAddr 24 (ZT 2) 1,0,none⟩ (.take ⟨some 28,.load 22 (ZT 27),22,none⟩ (.take ⟨some 29,.move (ZT 5),3,none⟩ (.take ⟨some 30,.indexAddr 22 (ZT 28) (ZT 29),0,none⟩ (.take ⟨some 31,.fieldAddr 72 (ZT 30) 0,0,none⟩ (.take ⟨some 32,.load 3 (ZT 31),3,none⟩ (.take ⟨some 33,.fieldAddr 24 (ZT 3) 1,0,none⟩ (.take ⟨some 34,.load 22 (ZT 33),22,none⟩ (.take ⟨some 35,.move (ZT 5),3,none⟩ (.take ⟨some 36,.indexAddr 22 (ZT 34) (ZT 35),0,none⟩ (.take ⟨some 37,.fieldAddr 72 (ZT 36) 0,0,none⟩ (.take ⟨some 38,.load 3 (ZT 37),3,none⟩ (.take ⟨some 39,.binOp .neq 3 (ZT 32) (ZT 38) 3,4,none⟩ (.take ⟨some 40,.move (ZT 39),4,none⟩ (.take ⟨some 41,.fieldAddr 24 (ZT 2) 1,0,some (some 40,false)⟩ (.take ⟨some 42,.load 22 (ZT 41),22,some (some 40,false)⟩ (.take ⟨some 43,.move (ZT 5),3,some (some 40,false)⟩ (.take ⟨some 44,.indexAddr 22 (ZT 42) (ZT 43),0,some (some 40,false)⟩ (.take ⟨some 45,.fieldAddr 72 (ZT 44) 1,0,some (some 40,false)⟩ (.take ⟨some 46,.load 35 (ZT 45),35,some (some 40,false)⟩ (.take ⟨some 47,.fieldAddr 24 (ZT 3) 1,0,some (some 40,false)⟩ (.take ⟨some 48,.load 22 (ZT 47),22,some (some 40,false)⟩ (.take ⟨some 49,.move (ZT 5),3,some (some 40,false)⟩ (.take ⟨some 50,.indexAddr 22 (ZT 48) (ZT 49),0,some (some 40,false)⟩ (.take ⟨some 51,.fieldAddr 72 (ZT 50) 1,0,some (some 40,false)⟩ (.take ⟨some 52,.load 35 (ZT 51),35,some (some 40,false)⟩ (.alt ⟨some 53,.call ⟨.value (.func 25),#[ZT 46,ZT 52],#[35,35]⟩,4,some (some 40,false)⟩ (.take ⟨some 54,.unOp .not 4 (ZT 53),4,some (some 40,false)⟩ (.take ⟨some 55,.pick (ZT 40) (.const (.bool true)) (ZT 54),4,none⟩ .done)) .none))))))))))))))))))))))))))))
    (.cond (ZT 55) (.seq (.ops [⟨some 4,.assign (.const (.bool false)),4,none⟩])
    .ret) .skip)))
    (.ops [⟨some 25,.move (ZT 5),3,none⟩,⟨some 26,.binOp .add 3 (ZT 25) (.const (.int .i64 1)) 3,3,none⟩,⟨some 5,.assign (ZT 26),3,none⟩]))))))
    (.seq (.ops [⟨some 4,.assign (.const (.bool true)),4,none⟩])
    .ret))))
def pl15 : Nat → Plan := fun id => if id = 6 then (.take 0 (.take 1 (.take 2 (.take 3 (.take 4 (.take 5 (.take 6 (.take 7 (.take 8 (.take 9 (.take 10 (.take 11 (.take 12 (.take 13 (.take 14 (.take 15 (.take 16 (.take 17 (.take 18 (.take 19 (.take 20 (.take 21 (.take 22 (.take 23 (.take 24 (.take 25 (.alt 26 (.take 27 (.take 28 .done)) .none))))))))))))))))))))))))))) else .done
theorem st15 : Go.Proofs.Tryz.f15.body.map (strip pl15) = some m15 := by kernel_rfl
theorem ok15 : okB pl15 Go.Proofs.Tryz.f15 2 = true := by kernel_rfl
theorem en15 {v0 v1 w} {Q : Value → World → Prop} (h : mwpB ZP m15 (argEnv [v0, v1]) [] w (fun e ds w => ds = [] ∧ resW ZP [.tmp 4] e w fun v => Q v w) (fun _ _ _ _ => False) (fun e ds w => ds = [] ∧ resW ZP [.tmp 4] e w fun v => Q v w) (fun _ _ _ _ => False) ⟨⟩) : Rets ZP 15 #[v0, v1] w Q :=
  rets_of_mwp follows_mo Go.Proofs.Tryz.func15 pl15 st15 ok15 (by kernel_rfl) h
def m20 : MC := (.seq (.ops [⟨some 1,.box 35 (ZT 0),0,none⟩,⟨some 2,.assign (.const (.bool false)),4,none⟩])
    (.seq (.ops [⟨some 4,.load 35 (ZT 1),35,none⟩,⟨some 5,.call ⟨.value (.func 66),#[ZT 4],#[35]⟩,86,none⟩,⟨some 3,.assign (ZT 5),86,none⟩])
    (.seq (.ops [⟨some 6,.move (ZT 3),86,none⟩,⟨some 7,.call ⟨.invoke (ZT 6) "continuo/format.right",#[],#[]⟩,4,none⟩,⟨some 8,.move (ZT 7),4,none⟩,⟨some 9,.move (ZT 3),86,some (some 8,true)⟩,⟨some 10,.fieldAddr 35 (ZT 1) 1,0,some (some 8,true)⟩,⟨some 11,.load 3 (ZT 10),3,some (some 8,true)⟩,⟨some 12,.call ⟨.invoke (ZT 9) "continuo/format.has",#[ZT 11],#[3]⟩,4,some (some 8,true)⟩,⟨some 13,.pick (ZT 8) (ZT 12) (.const (.bool false)),4,none⟩,⟨some 2,.assign (ZT 13),4,none⟩])
    .ret)))
def pl20 : Nat → Plan := fun _ => .done
theorem st20 : Go.Proofs.Tryz.f20.body.map (strip pl20) = some m20 := by kernel_rfl
theorem ok20 : okB pl20 Go.Proofs.Tryz.f20 1 = true := by kernel_rfl
theorem en20 {v0 w} {Q : Value → World → Prop} (h : mwpB ZP m20 (argEnv [v0]) [] w (fun e ds w => ds = [] ∧ resW ZP [.tmp 2] e w fun v => Q v w) (fun _ _ _ _ => False) (fun e ds w => ds = [] ∧ resW ZP [.tmp 2] e w fun v => Q v w) (fun _ _ _ _ => False) ⟨⟩) : Rets ZP 20 #[v0] w Q :=
  rets_of_mwp follows_mo Go.Proofs.Tryz.func20 pl20 st20 ok20 (by kernel_rfl) h
def m21 : MC := (.seq (.ops [⟨some 1,.box 35 (ZT 0),0,none⟩,⟨some 2,.assign (.const (.bool false)),4,none⟩])
    (.seq (.seq (.ops [⟨some 3,.assign (.const (.int .i64 0)),3,none⟩])
    (.block 0 (.loop (.seq (.seq (.ops [⟨some 7,.move (ZT 3),3,none⟩,⟨some 8,.fieldAddr 35 (ZT 1) 2,0,none⟩,⟨some 9,.load 33 (ZT 8),33,none⟩,⟨some 10,.call ⟨.builtin .len,#[ZT 9],#[33]⟩,3,none⟩,⟨some 11,.binOp .lss 3 (ZT 7) (ZT 10) 3,4,none⟩])
    (.cond (ZT 11) .skip (.exit 0)))
    (.seq (.block 1 (.seq (.seq (.ops [⟨some 14,.fieldAddr 35 (ZT 1) 2,0,none⟩,⟨some 15,.load 33 (ZT 14),33,none⟩,⟨some 16,.move (ZT 3),3,none⟩,⟨some 17,.indexAddr 33 (ZT 15) (ZT 16),0,none⟩,⟨some 18,.load 3 (ZT 17),3,none⟩,⟨some 19,.binOp .lss 3 (ZT 18) (.const (.int .i64 0)) 3,4,none⟩,⟨some 20,.move (ZT 19),4,none⟩,⟨some 21,.fieldAddr 35 (ZT 1) 2,0,some (some 20,false)⟩,⟨some 22,.load 33 (ZT 21),33,some (some 20,false)⟩,⟨some 23,.move (ZT 3),3,some (some 20,false)⟩,⟨some 24,.indexAddr 33 (ZT 22) (ZT 23),0,some (some 20,false)⟩,⟨some 25,.load 3 (ZT 24),3,some (some 20,false)⟩,⟨some 26,.binOp .gtr 3 (ZT 25) (.const (.int .i64 1000000000)) 3,4,some (some 20,false)⟩,⟨some 27,.pick (ZT 20) (.const (.bool true)) (ZT 26),4,none⟩])
    (.cond (ZT 27) (.seq (.ops [⟨some 2,.assign (.const (.bool false)),4,none⟩])
    .ret) .skip))
    (.seq (.ops [⟨some 4,.assign (.const (.int .i64 0)),3,none⟩])
    (.block 2 (.loop (.seq (.seq (.ops [⟨some 28,.move (ZT 4),3,none⟩,⟨some 29,.move (ZT 3),3,none⟩,⟨some 30,.binOp .lss 3 (ZT 28) (ZT 29) 3,4,none⟩,⟨some 31,.move (ZT 30),4,none⟩,⟨some 32,.fieldAddr 35 (ZT 1) 0,0,some (some 31,true)⟩,⟨some 33,.load 3 (ZT 32),3,some (some 31,true)⟩,⟨some 34,.binOp .eql 3 (ZT 33) (.const (.int .i64 2)) 3,4,some (some 31,true)⟩,⟨some 35,.pick (ZT 31) (ZT 34) (.const (.bool false)),4,none⟩])
    (.cond (ZT 35) .skip (.exit 2)))
    (.seq (.block 3 (.seq (.draw (.take ⟨some 38,.fieldAddr 35 (ZT 1) 2,0,none⟩ (.take ⟨some 39,.load 33 (ZT 38),33,none⟩ (.take ⟨some 40,.move (ZT 4),3,none⟩ (.take ⟨some 41,.indexAddr 33 (ZT 39) (ZT 40),0,none⟩ (.take ⟨some 42,.load 3 (ZT 41),3,none⟩ (.take ⟨some 43,.fieldAddr 35 (ZT 1) 2,0,none⟩ (.take ⟨some 44,.load 33 (ZT 43),33,none⟩ (.take ⟨some 45,.move (ZT 3),3,none⟩ (.take ⟨some 46,.indexAddr 33 (ZT 44) (ZT 45),0,none⟩ (.take ⟨some 47,.load 3 (ZT 46),3,none⟩ (.take ⟨some 48,.binOp .eql 3 (ZT 42) (ZT 47) 3,4,none⟩ .done))))))))))))
    (.cond (ZT 48) (.seq (.ops [⟨some 2,.assign (.const (.bool false)),4,none⟩])
    .ret) .skip)))
    (.ops [⟨some 36,.move (ZT 4),3,none⟩,⟨some 37,.binOp .add 3 (ZT 36) (.const (.int .i64 1)) 3,3,none⟩,⟨some 4,.assign (ZT 37),3,none⟩]))))))))
    (.ops [⟨some 12,.move (ZT 3),3,none⟩,⟨some 13,.binOp .add 3 (ZT 12) (.const (.int .i64 1)) 3,3,none⟩,⟨some 3,.assign (ZT 13),3,none⟩]))))))
    (.seq (.ops [⟨some 49,.fieldAddr 35 (ZT 1) 2,0,none⟩,⟨some 50,.load 33 (ZT 49),33,none⟩,⟨some 51,.call ⟨.builtin .len,#[ZT 50],#[33]⟩,3,none⟩,⟨some 5,.assign (ZT 51),3,none⟩])
    (.seq (.ops [⟨some 6,.assign (.const (.bool false)),4,none⟩])
    (.seq (.seq (.ops [⟨some 52,.fieldAddr 35 (ZT 1) 0,0,none⟩,⟨some 53,.load 3 (ZT 52),3,none⟩])
    (.block 4 (.seq (.ops [⟨some 55,.binOp .eql 3 (ZT 53) (.const (.int .i64 1)) 3,4,none⟩,⟨some 54,.assign (ZT 55),4,none⟩])
    (.cond (ZT 54) (.ops [⟨some 56,.move (ZT 5),3,none⟩,⟨some 57,.binOp .eql 3 (ZT 56) (.const (.int .i64 1)) 3,4,none⟩,⟨some 6,.assign (ZT 57),4,none⟩]) (.seq (.ops [⟨some 59,.binOp .eql 3 (ZT 53) (.const (.int .i64 2)) 3,4,none⟩,⟨some 58,.assign (ZT 59),4,none⟩])
    (.cond (ZT 58) (.ops [⟨some 60,.move (ZT 5),3,none⟩,⟨some 61,.binOp .geq 3 (ZT 60) (.const (.int .i64 1)) 3,4,none⟩,⟨some 62,.move (ZT 61),4,none⟩,⟨some 63,.move (ZT 5),3,some (some 62,true)⟩,⟨some 64,.binOp .leq 3 (ZT 63) (.const (.int .i64 20)) 3,4,some (some 62,true)⟩,⟨some 65,.pick (ZT 62) (ZT 64) (.const (.bool false)),4,none⟩,⟨some 6,.assign (ZT 65),4,none⟩]) (.seq (.ops [⟨some 67,.binOp .eql 3 (ZT 53) (.const (.int .i64 3)) 3,4,none⟩,⟨some 66,.assign (ZT 67),4,none⟩])
    (.cond (ZT 66) (.draw (.take ⟨some 68,.move (ZT 5),3,none⟩ (.take ⟨some 69,.binOp .eql 3 (ZT 68) (.const (.int .i64 2)) 3,4,none⟩ (.take ⟨some 70,.move (ZT 69),4,none⟩ (.take ⟨some 71,.fieldAddr 35 (ZT 1) 2,0,some (some 70,true)⟩ (.take ⟨some 72,.load 33 (ZT 71),33,some (some 70,true)⟩ (.take ⟨some 73,.indexAddr 33 (ZT 72) (.const (.int .i64 0)),0,some (some 70,true)⟩ (.take ⟨some 74,.load 3 (ZT 73),3,some (some 70,true)⟩ (.take ⟨some 75,.fieldAddr 35 (ZT 1) 2,0,some (some 70,true)⟩ (.take ⟨some 76,.load 33 (ZT 75),33,some (some 70,true)⟩ (.take ⟨some 77,.indexAddr 33 (ZT 76) (.const (.int .i64 1)),0,some (some 70,true)⟩ (.take ⟨some 78,.load 3 (ZT 77),3,some (some 70,true)⟩ (.take ⟨some 79,.binOp .leq 3 (ZT 74) (ZT 78) 3,4,some (some 70,true)⟩ (.take ⟨some 80,.pick (ZT 70) (ZT 79) (.const (.bool false)),4,none⟩ (.take ⟨some 6,.assign (ZT 80),4,none⟩ .done))))))))))))))) (.seq (.ops [⟨some 82,.binOp .eql 3 (ZT 53) (.const (.int .i64 4)) 3,4,none⟩,⟨some 81,.assign (ZT 82),4,none⟩])
    (.cond (ZT 81) (.draw (.take ⟨some 83,.move (ZT 5),3,none⟩ (.take ⟨some 84,.binOp .eql 3 (ZT 83) (.const (.int .i64 3)) 3,4,none⟩ (.take ⟨some 85,.move (ZT 84),4,none⟩ (.take ⟨some 86,.fieldAddr 35 (ZT 1) 2,0,some (some 85,true)⟩ (.take ⟨some 87,.load 33 (ZT 86),33,some (some 85,true)⟩ (.take ⟨some 88,.indexAddr 33 (ZT 87) (.const (.int .i64 0)),0,some (some 85,true)⟩ (.take ⟨some 89,.load 3 (ZT 88),3,some (some 85,true)⟩ (.take ⟨some 90,.fieldAddr 35 (ZT 1) 2,0,some (some 85,true)⟩ (.take ⟨some 91,.load 33 (ZT 90),33,some (some 85,true)⟩ (.take ⟨some 92,.indexAddr 33 (ZT 91) (.const (.int .i64 1)),0,some (some 85,true)⟩ (.take ⟨some 93,.load 3 (ZT 92),3,some (some 85,true)⟩ (.take ⟨some 94,.binOp .leq 3 (ZT 89) (ZT 93) 3,4,some (some 85,true)⟩ (.take ⟨some 95,.pick (ZT 85) (ZT 94) (.const (.bool false)),4,none⟩ (.take ⟨some 96,.move (ZT 95),4,none⟩ (.take ⟨some 97,.fieldAddr 35 (ZT 1) 2,0,some (some 96,true)⟩ (.take ⟨some 98,.load 33 (ZT 97),33,some (some 96,true)⟩ (.take ⟨some 99,.indexAddr 33 (ZT 98) (.const (.int .i64 2)),0,some (some 96,true)⟩ (.take ⟨some 100,.load 3 (ZT 99),3,some (some 96,true)⟩ (.take ⟨some 101,.binOp .geq 3 (ZT 100) (.const (.int .i64 1)) 3,4,some (some 96,true)⟩ (.take ⟨some 102,.pick (ZT 96) (ZT 101) (.const (.bool false)),4,none⟩ (.take ⟨some 103,.move (ZT 102),4,none⟩ (.take ⟨some 104,.fieldAddr 35 (ZT 1) 2,0,some (some 103,true)⟩ (.take ⟨some 105,.load 33 (ZT 104),33,some (some 103,true)⟩ (.take ⟨some 106,.indexAddr 33 (ZT 105) (.const (.int .i64 2)),0,some (some 103,true)⟩ (.take ⟨some 107,.load 3 (ZT 106),3,some (some 103,true)⟩ (.take ⟨some 108,.binOp .leq 3 (ZT 107) (.const (.int .i64 1000)) 3,4,some (some 103,true)⟩ (.take ⟨some 109,.pick (ZT 103) (ZT 108) (.const (.bool false)),4,none⟩ (.take ⟨some 6,.assign (ZT 109),4,none⟩ .done))))))))))))))))))))))))))))) .skip))))))))))
    (.seq (.ops [⟨some 110,.move (ZT 6),4,none⟩,⟨some 111,.move (ZT 110),4,none⟩,⟨some 112,.load 35 (ZT 1),35,some (some 111,true)⟩,⟨some 113,.fieldAddr 35 (ZT 1) 1,0,some (some 111,true)⟩,⟨some 114,.load 3 (ZT 113),3,some (some 111,true)⟩,⟨some 115,.call ⟨.value (.func 26),#[ZT 112,ZT 114],#[35,3]⟩,4,some (some 111,true)⟩,⟨some 116,.pick (ZT 111) (ZT 115) (.const (.bool false)),4,none⟩,⟨some 2,.assign (ZT 116),4,none⟩])
    .ret))))))
def pl21 : Nat → Plan := fun id => if id = 9 then (.take 0 (.take 1 (.take 2 (.take 3 (.take 4 (.take 5 (.take 6 (.take 7 (.take 8 (.take 9 (.take 10 .done))))))))))) else if id = 19 then (.take 0 (.take 1 (.take 2 (.take 3 (.take 4 (.take 5 (.take 6 (.take 7 (.take 8 (.take 9 (.take 10 (.take 11 (.take 12 (.take 13 .done)))))))))))))) else if id = 21 then (.take 0 (.take 1 (.take 2 (.take 3 (.take 4 (.take 5 (.take 6 (.take 7 (.take 8 (.take 9 (.take 10 (.take 11 (.take 12 (.take 13 (.take 14 (.take 15 (.take 16 (.take 17 (.take 18 (.take 19 (.take 20 (.take 21 (.take 22 (.take 23 (.take 24 (.take 25 (.take 26 (.take 27 .done)))))))))))))))))))))))))))) else .done
theorem st21 : Go.Proofs.Tryz.f21.body.map (strip pl21) = some m21 := by kernel_rfl
theorem ok21 : okB pl21 Go.Proofs.Tryz.f21 1 = true := by kernel_rfl
theorem en21 {v0 w} {Q : Value → World → Prop} (h : mwpB ZP m21 (argEnv [v0]) [] w (fun e ds w => ds = [] ∧ resW ZP [.tmp 2] e w fun v => Q v w) (fun _ _ _ _ => False) (fun e ds w => ds = [] ∧ resW ZP [.tmp 2] e w fun v => Q v w) (fun _ _ _ _ => False) ⟨⟩) : Rets ZP 21 #[v0] w Q :=
  rets_of_mwp follows_mo Go.Proofs.Tryz.func21 pl21 st21 ok21 (by kernel_rfl) h
def m25 : MC := (.seq (.ops [⟨some 2,.box 35 (ZT 0),0,none⟩,⟨some 3,.box 35 (ZT 1),0,none⟩,⟨some 4,.assign (.const (.bool false)),4,none⟩])
    (.seq (.seq (.ops [⟨some 6,.fieldAddr 35 (ZT 2) 0,0,none⟩,⟨some 7,.load 3 (ZT 6),3,none⟩,⟨some 8,.fieldAddr 35 (ZT 3) 0,0,none⟩,⟨some 9,.load 3 (ZT 8),3,none⟩,⟨some 10,.binOp .neq 3 (ZT 7) (ZT 9) 3,4,none⟩,⟨some 11,.move (ZT 10),4,none⟩,⟨some 12,.fieldAddr 35 (ZT 2) 1,0,some (some 11,false)⟩,⟨some 13,.load 3 (ZT 12),3,some (some 11,false)⟩,⟨some 14,.fieldAddr 35 (ZT 3) 1,0,some (some 11,false)⟩,⟨some 15,.load 3 (ZT 14),3,some (some 11,false)⟩,⟨some 16,.binOp .neq 3 (ZT 13) (ZT 15) 3,4,some (some 11,false)⟩,⟨some 17,.pick (ZT 11) (.const (.bool true)) (ZT 16),4,none⟩,⟨some 18,.move (ZT 17),4,none⟩,⟨some 19,.fieldAddr 35 (ZT 2) 2,0,some (some 18,false)⟩,⟨some 20,.load 33 (ZT 19),33,some (some 18,false)⟩,⟨some 21,.call ⟨.builtin .len,#[ZT 20],#[33]⟩,3,some (some 18,false)⟩,⟨some 22,.fieldAddr 35 (ZT 3) 2,0,some (some 18,false)⟩,⟨some 23,.load 33 (ZT 22),33,some (some 18,false)⟩,⟨some 24,.call ⟨.builtin .len,#[ZT 23],#[33]⟩,3,some (some 18,false)⟩,⟨some 25,.binOp .neq 3 (ZT 21) (ZT 24) 3,4,some (some 18,false)⟩,⟨some 26,.pick (ZT 18) (.const (.bool true)) (ZT 25),4,none⟩])
    (.cond (ZT 26) (.seq (.ops [⟨some 4,.assign (.const (.bool false)),4,none⟩])
    .ret) .skip))
    (.seq (.seq (.ops [⟨some 5,.assign (.const (.int .i64 0)),3,none⟩])
    (.block 0 (.loop (.seq (.seq (.ops [⟨some 27,.move (ZT 5),3,none⟩,⟨some 28,.fieldAddr 35 (ZT 2) 2,0,none⟩,⟨some 29,.load 33 (ZT 28),33,none⟩,⟨some 30,.call ⟨.builtin .len,#[ZT 29],#[33]⟩,3,none⟩,⟨some 31,.binOp .lss 3 (ZT 27) (ZT 30) 3,4,none⟩])
    (.cond (ZT 31) .skip (.exit 0)))
    (.seq (.block 1 (.seq (.draw (.take ⟨some 34,.fieldAddr 35 (ZT 2) 2,0,none⟩ (.take ⟨some 35,.load 33 (ZT 34),33,none⟩ (.take ⟨some 36,.move (ZT 5),3,none⟩ (.take ⟨some 37,.indexAddr 33 (ZT 35) (ZT 36),0,none⟩ (.take ⟨some 38,.load 3 (ZT 37),3,none⟩ (.take ⟨some 39,.fieldAddr 35 (ZT 3) 2,0,none⟩ (.take ⟨some 40,.load 33 (ZT 39),33,none⟩ (.take ⟨some 41,.move (ZT 5),3,none⟩ (.take ⟨some 42,.indexAddr 33 (ZT 40) (ZT 41),0,none⟩ (.take ⟨some 43,.load 3 (ZT 42),3,none⟩ (.take ⟨some 44,.binOp .neq 3 (ZT 38) (ZT 43) 3,4,none⟩ .done))))))))))))
    (.cond (ZT 44) (.seq (.ops [⟨some 4,.assign (.const (.bool false)),4,none⟩])
    .ret) .skip)))
    (.ops [⟨some 32,.move (ZT 5),3,none⟩,⟨some 33,.binOp .add 3 (ZT 32) (.const (.int .i64 1)) 3,3,none⟩,⟨some 5,.assign (ZT 33),3,none⟩]))))))
    (.seq (.ops [⟨some 4,.assign (.const (.bool true)),4,none⟩])
    .ret))))
def pl25 : Nat → Plan := fun id => if id = 6 then (.take 0 (.take 1 (.take 2 (.take 3 (.take 4 (.take 5 (.take 6 (.take 7 (.take 8 (.take 9 (.take 10 .done))))))))))) else .done
theorem st25 : Go.Proofs.Tryz.f25.body.map (strip pl25) = some m25 := by kernel_rfl
theorem ok25 : okB pl25 Go.Proofs.Tryz.f25 2 = true := by kernel_rfl
theorem en25 {v0 v1 w} {Q : Value → World → Prop} (h : mwpB ZP m25 (argEnv [v0, v1]) [] w (fun e ds w => ds = [] ∧ resW ZP [.tmp 4] e w fun v => Q v w) (fun _ _ _ _ => False) (fun e ds w => ds = [] ∧ resW ZP [.tmp 4] e w fun v => Q v w) (fun _ _ _ _ => False) ⟨⟩) : Rets ZP 25 #[v0, v1] w Q :=
  rets_of_mwp follows_mo Go.Proofs.Tryz.func25 pl25 st25 ok25 (by kernel_rfl) h
def m26 : MC := (.seq (.ops [⟨some 2,.box 35 (ZT 0),0,none⟩,⟨some 4,.assign (.const (.bool false)),4,none⟩])
    (.seq (.seq (.ops [⟨some 6,.fieldAddr 35 (ZT 2) 0,0,none⟩,⟨some 7,.load 3 (ZT 6),3,none⟩,⟨some 8,.binOp .eql 3 (ZT 7) (.const (.int .i64 1)) 3,4,none⟩,⟨some 9,.move (ZT 8),4,none⟩,⟨some 10,.fieldAddr 35 (ZT 2) 0,0,some (some 9,false)⟩,⟨some 11,.load 3 (ZT 10),3,some (some 9,false)⟩,⟨some 12,.binOp .eql 3 (ZT 11) (.const (.int .i64 2)) 3,4,some (some 9,false)⟩,⟨some 13,.pick (ZT 9) (.const (.bool true)) (ZT 12),4,none⟩])
    (.cond (ZT 13) (.seq (.seq (.ops [⟨some 5,.assign (.const (.int .i64 0)),3,none⟩])
    (.block 0 (.loop (.seq (.seq (.ops [⟨some 14,.move (ZT 5),3,none⟩,⟨some 15,.fieldAddr 35 (ZT 2) 2,0,none⟩,⟨some 16,.load 33 (ZT 15),33,none⟩,⟨some 17,.call ⟨.builtin .len,#[ZT 16],#[33]⟩,3,none⟩,⟨some 18,.binOp .lss 3 (ZT 14) (ZT 17) 3,4,none⟩])
    (.cond (ZT 18) .skip (.exit 0)))
    (.seq (.block 1 (.seq (.ops [⟨some 21,.fieldAddr 35 (ZT 2) 2,0,none⟩,⟨some 22,.load 33 (ZT 21),33,none⟩,⟨some 23,.move (ZT 5),3,none⟩,⟨some 24,.indexAddr 33 (ZT 22) (ZT 23),0,none⟩,⟨some 25,.load 3 (ZT 24),3,none⟩,⟨some 26,.move (ZT 1),3,none⟩,⟨some 27,.binOp .eql 3 (ZT 25) (ZT 26) 3,4,none⟩])
    (.cond (ZT 27) (.seq (.ops [⟨some 4,.assign (.const (.bool true)),4,none⟩])
    .ret) .skip)))
    (.ops [⟨some 19,.move (ZT 5),3,none⟩,⟨some 20,.binOp .add 3 (ZT 19) (.const (.int .i64 1)) 3,3,none⟩,⟨some 5,.assign (ZT 20),3,none⟩]))))))
    (.seq (.ops [⟨some 4,.assign (.const (.bool false)),4,none⟩])
    .ret)) .skip))
    (.seq (.draw (.take ⟨some 28,.move (ZT 1),3,none⟩ (.take ⟨some 29,.fieldAddr 35 (ZT 2) 2,0,none⟩ (.take ⟨some 30,.load 33 (ZT 29),33,none⟩ (.take ⟨some 31,.indexAddr 33 (ZT 30) (.const (.int .i64 0)),0,none⟩ (.take ⟨some 32,.load 3 (ZT 31),3,none⟩ (.take ⟨some 33,.binOp .geq 3 (ZT 28) (ZT 32) 3,4,none⟩ (.take ⟨some 34,.move (ZT 33),4,none⟩ (.take ⟨some 35,.move (ZT 1),3,some (some 34,true)⟩ (.take ⟨some 36,.fieldAddr 35 (ZT 2) 2,0,some (some 34,true)⟩ (.take ⟨some 37,.load 33 (ZT 36),33,some (some 34,true)⟩ (.take ⟨some 38,.indexAddr 33 (ZT 37) (.const (.int .i64 1)),0,some (some 34,true)⟩ (.take ⟨some 39,.load 3 (ZT 38),3,some (some 34,true)⟩ (.take ⟨some 40,.binOp .leq 3 (ZT 35) (ZT 39) 3,4,some (some 34,true)⟩ (.take ⟨some 41,.pick (ZT 34) (ZT 40) (.const (.bool false)),4,none⟩ (.take ⟨some 42,.move (ZT 41),4,none⟩ (.take ⟨some 43,.move (ZT 1),3,some (some 42,true)⟩ (.take ⟨some 44,.fieldAddr 35 (ZT 2) 2,0,some (some 42,true)⟩ (.take ⟨some 45,.load 33 (ZT 44),33,some (some 42,true)⟩ (.take ⟨some 46,.indexAddr 33 (ZT 45) (.const (.int .i64 0)),0,some (some 42,true)⟩ (.take ⟨some 47,.load 3 (ZT 46),3,some (some 42,true)⟩ (.take ⟨some 48,.binOp .sub 3 (ZT 43) (ZT 47) 3,3,some (some 42,true)⟩ (.take ⟨some 49,.load 35 (ZT 2),35,some (some 42,true)⟩ (.alt ⟨some 50,.call ⟨.value (.func 70),#[ZT 49],#[35]⟩,3,some (some 42,true)⟩ (.take ⟨some 51,.binOp .rem 3 (ZT 48) (ZT 50) 3,3,some (some 42,true)⟩ (.take ⟨some 52,.binOp .eql 3 (ZT 51) (.const (.int .i64 0)) 3,4,some (some 42,true)⟩ (.take ⟨some 53,.pick (ZT 42) (ZT 52) (.const (.bool false)),4,none⟩ (.take ⟨some 4,.assign (ZT 53),4,none⟩ .done)))) .none))))))))))))))))))))))))
    .ret)))
def pl26 : Nat → Plan := fun id => if id = 8 then (.take 0 (.take 1 (.take 2 (.take 3 (.take 4 (.take 5 (.take 6 (.take 7 (.take 8 (.take 9 (.take 10 (.take 11 (.take 12 (.take 13 (.take 14 (.take 15 (.take 16 (.take 17 (.take 18 (.take 19 (.take 20 (.take 21 (.alt 22 (.take 23 (.take 24 (.take 25 (.take 26 .done)))) .none))))))))))))))))))))))) else .done
theorem st26 : Go.Proofs.Tryz.f26.body.map (strip pl26) = some m26 := by kernel_rfl
theorem ok26 : okB pl26 Go.Proofs.Tryz.f26 2 = true := by kernel_rfl
theorem en26 {v0 v1 w} {Q : Value → World → Prop} (h : mwpB ZP m26 (argEnv [v0, v1]) [] w (fun e ds w => ds = [] ∧ resW ZP [.tmp 4] e w fun v => Q v w) (fun _ _ _ _ => False) (fun e ds w => ds = [] ∧ resW ZP [.tmp 4] e w fun v => Q v w) (fun _ _ _ _ => False) ⟨⟩) : Rets ZP 26 #[v0, v1] w Q :=
  rets_of_mwp follows_mo Go.Proofs.Tryz.func26 pl26 st26 ok26 (by kernel_rfl) h
def m27 : MC := (.seq (.ops [⟨some 1,.box 24 (ZT 0),0,none⟩,⟨some 2,.assign (.const (.bool false)),4,none⟩])
    (.seq (.seq (.ops [⟨some 5,.fieldAddr 24 (ZT 1) 0,0,none⟩,⟨some 6,.load 3 (ZT 5),3,none⟩,⟨some 7,.binOp .lss 3 (ZT 6) (.const (.int .i64 1)) 3,4,none⟩,⟨some 8,.move (ZT 7),4,none⟩,⟨some 9,.fieldAddr 24 (ZT 1) 0,0,some (some 8,false)⟩,⟨some 10,.load 3 (ZT 9),3,some (some 8,false)⟩,⟨some 11,.binOp .gtr 3 (ZT 10) (.const (.int .i64 3)) 3,4,some (some 8,false)⟩,⟨some 12,.pick (ZT 8) (.const (.bool true)) (ZT 11),4,none⟩])
    (.cond (ZT 12) (.seq (.ops [⟨some 2,.assign (.const (.bool false)),4,none⟩])
    .ret) .skip))
    (.seq (.seq (.ops [⟨some 3,.assign (.const (.int .i64 0)),3,none⟩])
    (.block 0 (.loop (.seq (.seq (.ops [⟨some 13,.move (ZT 3),3,none⟩,⟨some 14,.fieldAddr 24 (ZT 1) 1,0,none⟩,⟨some 15,.load 22 (ZT 14),22,none⟩,⟨some 16,.call ⟨.builtin .len,#[ZT 15],#[22]⟩,3,none⟩,⟨some 17,.binOp .lss 3 (ZT 13) (ZT 16) 3,4,none⟩])
    (.cond (ZT 17) .skip (.exit 0)))
    (.seq (.block 1 (.seq (.ops [⟨some 20,.fieldAddr 24 (ZT 1) 1,0,none⟩,⟨some 21,.load 22 (ZT 20),22,none⟩,⟨some 22,.move (ZT 3),3,none⟩,⟨some 23,.indexAddr 22 (ZT 21) (ZT 22),0,none⟩,⟨some 24,.fieldAddr 72 (ZT 23) 0,0,none⟩,⟨some 25,.load 3 (ZT 24),3,none⟩,⟨some 4,.assign (ZT 25),3,none⟩])
    (.seq (.ops [⟨some 26,.move (ZT 4),3,none⟩,⟨some 27,.binOp .lss 3 (ZT 26) (.const (.int .i64 1)) 3,4,none⟩,⟨some 28,.move (ZT 27),4,none⟩,⟨some 29,.move (ZT 4),3,some (some 28,false)⟩,⟨some 30,.binOp .gtr 3 (ZT 29) (.const (.int .i64 6)) 3,4,some (some 28,false)⟩,⟨some 31,.pick (ZT 28) (.const (.bool true)) (ZT 30),4,none⟩,⟨some 32,.move (ZT 31),4,none⟩,⟨some 33,.move (ZT 3),3,some (some 32,false)⟩,⟨some 34,.binOp .gtr 3 (ZT 33) (.const (.int .i64 0)) 3,4,some (some 32,false)⟩,⟨some 35,.move (ZT 34),4,some (some 32,false)⟩,⟨some 36,.fieldAddr 24 (ZT 1) 1,0,some (some 35,true)⟩,⟨some 37,.load 22 (ZT 36),22,some (some 35,true)⟩,⟨some 38,.move (ZT 3),3,some (some 35,true)⟩,⟨some 39,.binOp .sub 3 (ZT 38) (.const (.int .i64 1)) 3,3,some (some 35,true)⟩,⟨some 40,.indexAddr 22 (ZT 37) (ZT 39),0,some (some 35,true)⟩,⟨some 41,.fieldAddr 72 (ZT 40) 0,0,some (some 35,true)⟩,⟨some 42,.load 3 (ZT 41),3,some (some 35,true)⟩,⟨some 43,.move (ZT 4),3,some (some 35,true)⟩,⟨some 44,.binOp .geq 3 (ZT 42) (ZT 43) 3,4,some (some 35,true)⟩,⟨some 45,.pick (ZT 35) (ZT 44) (.const (.bool false)),4,some (some 32,false)⟩,⟨some 46,.pick (ZT 32) (.const (.bool true)) (ZT 45),4,none⟩,⟨some 47,.move (ZT 46),4,none⟩,⟨some 48,.fieldAddr 24 (ZT 1) 1,0,some (some 47,false)⟩,⟨some 49,.load 22 (ZT 48),22,some (some 47,false)⟩,⟨some 50,.move (ZT 3),3,some (some 47,false)⟩,⟨some 51,.indexAddr 22 (ZT 49) (ZT 50),0,some (some 47,false)⟩,⟨some 52,.fieldAddr 72 (ZT 51) 1,0,some (some 47,false)⟩,⟨some 53,.load 35 (ZT 52),35,some (some 47,false)⟩,⟨some 54,.call ⟨.value (.func 21),#[ZT 53],#[35]⟩,4,some (some 47,false)⟩,⟨some 55,.unOp .not 4 (ZT 54),4,some (some 47,false)⟩,⟨some 56,.pick (ZT 47) (.const (.bool true)) (ZT 55),4,none⟩])
    (.cond (ZT 56) (.seq (.ops [⟨some 2,.assign (.const (.bool false)),4,none⟩])
    .ret) .skip))))
    (.ops [⟨some 18,.move (ZT 3),3,none⟩,⟨some 19,.binOp .add 3 (ZT 18) (.const (.int .i64 1)) 3,3,none⟩,⟨some 3,.assign (ZT 19),3,none⟩]))))))
    (.seq (.ops [⟨some 2,.assign (.const (.bool true)),4,none⟩])
    .ret))))
def pl27 : Nat → Plan := fun _ => .done
theorem st27 : Go.Proofs.Tryz.f27.body.map (strip pl27) = some m27 := by kernel_rfl
theorem ok27 : okB pl27 Go.Proofs.Tryz.f27 1 = true := by kernel_rfl
theorem en27 {v0 w} {Q : Value → World → Prop} (h : mwpB ZP m27 (argEnv [v0]) [] w (fun e ds w => ds = [] ∧ resW ZP [.tmp 2] e w fun v => Q v w) (fun _ _ _ _ => False) (fun e ds w => ds = [] ∧ resW ZP [.tmp 2] e w fun v => Q v w) (fun _ _ _ _ => False) ⟨⟩) : Rets ZP 27 #[v0] w Q :=
  rets_of_mwp follows_mo Go.Proofs.Tryz.func27 pl27 st27 ok27 (by kernel_rfl) h
noncomputable def rf28_0 : Code := subC [1, 1, 1, 0, 1, 0] (bodyC Go.Proofs.Tryz.f28)
noncomputable def ra28_0 : Code := subC [0] rf28_0
noncomputable def rb28_0 : Code := subC [1] rf28_0
noncomputable def m28 : MC := (.seq (.ops [⟨some 2,.box 24 (ZT 0),0,none⟩,⟨some 3,.box 24 (ZT 1),0,none⟩,⟨some 4,.alloc 4,0,none⟩,⟨some 5,.alloc 28,0,none⟩])
    (.seq (.seq (.ops [⟨some 8,.load 24 (ZT 2),24,none⟩,⟨some 9,.call ⟨.value (.func 43),#[ZT 8],#[24]⟩,4,none⟩,⟨some 10,.unOp .not 4 (ZT 9),4,none⟩,⟨some 11,.move (ZT 10),4,none⟩,⟨some 12,.load 24 (ZT 3),24,some (some 11,false)⟩,⟨some 13,.call ⟨.value (.func 43),#[ZT 12],#[24]⟩,4,some (some 11,false)⟩,⟨some 14,.unOp .not 4 (ZT 13),4,some (some 11,false)⟩,⟨some 15,.pick (ZT 11) (.const (.bool true)) (ZT 14),4,none⟩])
    (.cond (ZT 15) (.seq (.ops [⟨none,.store 4 (ZT 4) (.const (.bool false)),0,none⟩,⟨none,.store 28 (ZT 5) (.const (.int .i64 1)),0,none⟩])
    .ret) .skip))
    (.seq (.seq (.ops [⟨some 16,.fieldAddr 24 (ZT 2) 0,0,none⟩,⟨some 17,.load 3 (ZT 16),3,none⟩,⟨some 18,.fieldAddr 24 (ZT 3) 0,0,none⟩,⟨some 19,.load 3 (ZT 18),3,none⟩,⟨some 20,.binOp .neq 3 (ZT 17) (ZT 19) 3,4,none⟩])
    (.cond (ZT 20) (.seq (.ops [⟨none,.store 4 (ZT 4) (.const (.bool false)),0,none⟩,⟨none,.store 28 (ZT 5) (.const (.int .i64 0)),0,none⟩])
    .ret) .skip))
    (.seq (.seq (.ops [⟨some 21,.fieldAddr 24 (ZT 2) 1,0,none⟩,⟨some 22,.load 22 (ZT 21),22,none⟩,⟨some 23,.fieldAddr 24 (ZT 3) 1,0,none⟩,⟨some 24,.load 22 (ZT 23),22,none⟩,⟨some 25,.call ⟨.value (.func 71),#[ZT 22,ZT 24],#[22,22]⟩,94,none⟩])
    (.block 0 (.raw rf28_0)))
    (.seq (.ops [⟨none,.store 4 (ZT 4) (.const (.bool true)),0,none⟩,⟨none,.store 28 (ZT 5) (.const (.int .i64 0)),0,none⟩])
    .ret)))))
def pl28 : Nat → Plan := fun id => if id = 8 then (.take 0 (.take 1 (.take 2 (.take 3 (.take 4 (.take 5 (.take 6 (.take 7 (.take 8 (.take 9 (.take 10 (.take 11 (.take 12 (.take 13 (.alt 14 (.take 15 (.take 16 (.take 17 .done))) .none))))))))))))))) else .done
theorem st28 : Go.Proofs.Tryz.f28.body.map (strip pl28) = some m28 := by kernel_rfl
theorem rfE28_0 : rf28_0 = .rangeFunc (.tmp 25) #[26, 27] ra28_0 rb28_0 := by kernel_rfl
noncomputable def mra28_0 : MC := (.seq (.ops [⟨some 6,.assign (ZT 26),96,none⟩])
    (.ops [⟨some 7,.assign (ZT 27),96,none⟩]))
noncomputable def mrb28_0 : MC := (.block 1 (.seq (.draw (.take ⟨some 28,.move (ZT 7),96,none⟩ (.take ⟨some 29,.binOp .neq 96 (ZT 28) (.const (.pointer none)) 96,4,none⟩ (.take ⟨some 30,.move (ZT 29),4,none⟩ (.take ⟨some 31,.move (ZT 6),96,some (some 30,true)⟩ (.take ⟨some 32,.binOp .eql 96 (ZT 31) (.const (.pointer none)) 96,4,some (some 30,true)⟩ (.take ⟨some 33,.move (ZT 32),4,some (some 30,true)⟩ (.take ⟨some 34,.move (ZT 6),96,some (some 33,false)⟩ (.take ⟨some 35,.nilCheck (ZT 34),0,some (some 33,false)⟩ (.take ⟨some 36,.fieldAddr 72 (ZT 35) 1,0,some (some 33,false)⟩ (.take ⟨some 37,.load 35 (ZT 36),35,some (some 33,false)⟩ (.take ⟨some 38,.move (ZT 7),96,some (some 33,false)⟩ (.take ⟨some 39,.nilCheck (ZT 38),0,some (some 33,false)⟩ (.take ⟨some 40,.fieldAddr 72 (ZT 39) 1,0,some (some 33,false)⟩ (.take ⟨some 41,.load 35 (ZT 40),35,some (some 33,false)⟩ (.alt ⟨some 42,.call ⟨.value (.func 72),#[ZT 37,ZT 41],#[35,35]⟩,4,some (some 33,false)⟩ (.take ⟨some 43,.unOp .not 4 (ZT 42),4,some (some 33,false)⟩ (.take ⟨some 44,.pick (ZT 33) (.const (.bool true)) (ZT 43),4,some (some 30,true)⟩ (.take ⟨some 45,.pick (ZT 30) (ZT 44) (.const (.bool false)),4,none⟩ .done))) .none))))))))))))))))
    (.cond (ZT 45) (.seq (.ops [⟨none,.store 4 (ZT 4) (.const (.bool false)),0,none⟩,⟨none,.store 28 (ZT 5) (.const (.int .i64 0)),0,none⟩])
    .ret) .skip)))
theorem stra28_0 : strip pl28 ra28_0 = mra28_0 := by kernel_rfl
theorem okra28_0 : (plansOk pl28 ra28_0 && noDefer ra28_0) = true := by kernel_rfl
theorem strb28_0 : strip pl28 rb28_0 = mrb28_0 := by kernel_rfl
theorem okrb28_0 : (plansOk pl28 rb28_0 && noDefer rb28_0) = true := by kernel_rfl
theorem ok28 : okB pl28 Go.Proofs.Tryz.f28 2 = true := by kernel_rfl
theorem enM28 {v0 v1 w} {Q : Value → World → Prop} (h : mwpB ZP m28 (argEnv [v0, v1]) [] w (fun e ds w => endW ZP [.cell 4 4, .cell 5 28] ds e w Q) (fun _ _ _ _ => False) (fun e ds w => endW ZP [.cell 4 4, .cell 5 28] ds e w Q) (fun _ _ _ _ => False) ⟨⟩) : Rets ZP 28 #[v0, v1] w Q :=
  rets_of_mwpM follows_mo Go.Proofs.Tryz.func28 pl28 st28 ok28 (by kernel_rfl) h
def m30 : MC := (.seq (.ops [⟨some 2,.assign (.const (.bool false)),4,none⟩])
    (.seq (.seq (.ops [⟨some 3,.assign (.const (.int .i64 0)),3,none⟩])
    (.block 0 (.loop (.seq (.seq (.ops [⟨some 4,.move (ZT 3),3,none⟩,⟨some 5,.move (ZT 0),50,none⟩,⟨some 6,.call ⟨.builtin .len,#[ZT 5],#[50]⟩,3,none⟩,⟨some 7,.binOp .lss 3 (ZT 4) (ZT 6) 3,4,none⟩,⟨some 8,.move (ZT 7),4,none⟩,⟨some 9,.move (ZT 3),3,some (some 8,true)⟩,⟨some 10,.binOp .lss 3 (ZT 9) (.const (.int .i64 50)) 3,4,some (some 8,true)⟩,⟨some 11,.pick (ZT 8) (ZT 10) (.const (.bool false)),4,none⟩])
    (.cond (ZT 11) .skip (.exit 0)))
    (.seq (.block 1 (.seq (.ops [⟨some 14,.move (ZT 0),50,none⟩,⟨some 15,.move (ZT 3),3,none⟩,⟨some 16,.indexAddr 50 (ZT 14) (ZT 15),0,none⟩,⟨some 17,.load 24 (ZT 16),24,none⟩,⟨some 18,.call ⟨.value (.func 9),#[ZT 17],#[24]⟩,4,none⟩,⟨some 19,.unOp .not 4 (ZT 18),4,none⟩])
    (.cond (ZT 19) (.seq (.ops [⟨some 2,.assign (.const (.bool false)),4,none⟩])
    .ret) .skip)))
    (.ops [⟨some 12,.move (ZT 3),3,none⟩,⟨some 13,.binOp .add 3 (ZT 12) (.const (.int .i64 1)) 3,3,none⟩,⟨some 3,.assign (ZT 13),3,none⟩]))))))
    (.seq (.ops [⟨some 20,.move (ZT 0),50,none⟩,⟨some 21,.call ⟨.builtin .len,#[ZT 20],#[50]⟩,3,none⟩,⟨some 22,.binOp .leq 3 (ZT 21) (.const (.int .i64 50)) 3,4,none⟩,⟨some 2,.assign (ZT 22),4,none⟩])
    .ret)))
def pl30 : Nat → Plan := fun _ => .done
theorem st30 : Go.Proofs.Tryz.f30.body.map (strip pl30) = some m30 := by kernel_rfl
theorem ok30 : okB pl30 Go.Proofs.Tryz.f30 1 = true := by kernel_rfl
theorem en30 {v0 w} {Q : Value → World → Prop} (h : mwpB ZP m30 (argEnv [v0]) [] w (fun e ds w => ds = [] ∧ resW ZP [.tmp 2] e w fun v => Q v w) (fun _ _ _ _ => False) (fun e ds w => ds = [] ∧ resW ZP [.tmp 2] e w fun v => Q v w) (fun _ _ _ _ => False) ⟨⟩) : Rets ZP 30 #[v0] w Q :=
  rets_of_mwp follows_mo Go.Proofs.Tryz.func30 pl30 st30 ok30 (by kernel_rfl) h
def m31 : MC := (.seq (.ops [⟨some 3,.box 24 (ZT 1),0,none⟩,⟨some 4,.assign (.const (.slice none 0 0)),50,none⟩,⟨some 5,.assign (.const (.int .i64 0)),28,none⟩])
    (.seq (.seq (.ops [⟨some 11,.move (ZT 0),50,none⟩,⟨some 12,.call ⟨.value (.func 74),#[ZT 11],#[50]⟩,4,none⟩,⟨some 13,.unOp .not 4 (ZT 12),4,none⟩,⟨some 14,.move (ZT 13),4,none⟩,⟨some 15,.load 24 (ZT 3),24,some (some 14,false)⟩,⟨some 16,.call ⟨.value (.func 43),#[ZT 15],#[24]⟩,4,some (some 14,false)⟩,⟨some 17,.unOp .not 4 (ZT 16),4,some (some 14,false)⟩,⟨some 18,.pick (ZT 14) (.const (.bool true)) (ZT 17),4,none⟩])
    (.cond (ZT 18) (.seq (.ops [⟨some 4,.assign (.const (.slice none 0 0)),50,none⟩,⟨some 5,.assign (.const (.int .i64 1)),28,none⟩])
    .ret) .skip))
    (.seq (.ops [⟨some 6,.assign (.const (.slice none 0 0)),50,none⟩])
    (.seq (.seq (.ops [⟨some 19,.move (ZT 0),50,none⟩,⟨some 20,.call ⟨.builtin .len,#[ZT 19],#[50]⟩,3,none⟩,⟨some 21,.move (.const (.int .i64 0)),3,none⟩])
    (.block 0 (.loop (.seq (.ops [⟨some 22,.binOp .lss 3 (ZT 21) (ZT 20) 3,0,none⟩])
    (.seq (.cond (ZT 22) .skip (.exit 0))
    (.seq (.block 1 (.seq (.ops [⟨some 23,.indexAddr 50 (ZT 19) (ZT 21),0,none⟩,⟨some 24,.load 24 (ZT 23),24,none⟩,⟨some 8,.alloc 24,0,none⟩,⟨none,.store 24 (ZT 8) (ZT 24),0,none⟩])
    (.seq (.ops [⟨some 26,.load 24 (ZT 8),24,none⟩,⟨some 27,.load 24 (ZT 3),24,none⟩,⟨some 28,.call ⟨.value (.func 73),#[ZT 26,ZT 27],#[24,24]⟩,29,none⟩,⟨some 25,.move (ZT 28),29,none⟩,⟨some 29,.extract (ZT 25) 0,24,none⟩,⟨some 30,.extract (ZT 25) 1,28,none⟩,⟨some 9,.alloc 24,0,none⟩,⟨none,.store 24 (ZT 9) (ZT 29),0,none⟩,⟨some 10,.assign (ZT 30),28,none⟩])
    (.seq (.ops [⟨some 31,.move (ZT 10),28,none⟩,⟨some 32,.binOp .eql 28 (ZT 31) (.const (.int .i64 0)) 28,4,none⟩])
    (.cond (ZT 32) (.ops [⟨some 33,.move (ZT 6),50,none⟩,⟨some 34,.load 24 (ZT 9),24,none⟩,⟨some 35,.buildSlice 50 1 #[(0,ZT 34)],50,none⟩,⟨some 36,.call ⟨.builtin .append,#[ZT 33,ZT 35],#[50,50]⟩,50,none⟩,⟨some 6,.assign (ZT 36),50,none⟩]) .skip)))))
    (.ops [⟨some 37,.binOp .add 3 (ZT 21) (.const (.int .i64 1)) 3,3,none⟩,⟨some 21,.move (ZT 37),3,none⟩])))))))
    (.seq (.ops [⟨some 38,.move (ZT 6),50,none⟩,⟨some 4,.assign (ZT 38),50,none⟩,⟨some 5,.assign (.const (.int .i64 0)),28,none⟩])
    .ret)))))
def pl31 : Nat → Plan := fun _ => .done
theorem st31 : Go.Proofs.Tryz.f31.body.map (strip pl31) = some m31 := by kernel_rfl
theorem ok31 : okB pl31 Go.Proofs.Tryz.f31 2 = true := by kernel_rfl
theorem en31 {v0 v1 w} {Q : Value → World → Prop} (h : mwpB ZP m31 (argEnv [v0, v1]) [] w (fun e ds w => ds = [] ∧ resW ZP [.tmp 4, .tmp 5] e w fun v => Q v w) (fun _ _ _ _ => False) (fun e ds w => ds = [] ∧ resW ZP [.tmp 4, .tmp 5] e w fun v => Q v w) (fun _ _ _ _ => False) ⟨⟩) : Rets ZP 31 #[v0, v1] w Q :=
  rets_of_mwp follows_mo Go.Proofs.Tryz.func31 pl31 st31 ok31 (by kernel_rfl) h
def m32 : MC := (.seq (.ops [⟨some 3,.box 24 (ZT 1),0,none⟩,⟨some 4,.assign (.const (.slice none 0 0)),50,none⟩,⟨some 5,.assign (.const (.int .i64 0)),28,none⟩])
    (.seq (.seq (.ops [⟨some 10,.move (ZT 0),50,none⟩,⟨some 11,.call ⟨.value (.func 75),#[ZT 10],#[50]⟩,4,none⟩,⟨some 12,.unOp .not 4 (ZT 11),4,none⟩,⟨some 13,.move (ZT 12),4,none⟩,⟨some 14,.load 24 (ZT 3),24,some (some 13,false)⟩,⟨some 15,.call ⟨.value (.func 27),#[ZT 14],#[24]⟩,4,some (some 13,false)⟩,⟨some 16,.unOp .not 4 (ZT 15),4,some (some 13,false)⟩,⟨some 17,.pick (ZT 13) (.const (.bool true)) (ZT 16),4,none⟩])
    (.cond (ZT 17) (.seq (.ops [⟨some 4,.assign (.const (.slice none 0 0)),50,none⟩,⟨some 5,.assign (.const (.int .i64 1)),28,none⟩])
    .ret) .skip))
    (.seq (.ops [⟨some 6,.assign (.const (.slice none 0 0)),50,none⟩])
    (.seq (.seq (.ops [⟨some 7,.assign (.const (.int .i64 0)),3,none⟩])
    (.block 0 (.loop (.seq (.seq (.ops [⟨some 18,.move (ZT 7),3,none⟩,⟨some 19,.move (ZT 0),50,none⟩,⟨some 20,.call ⟨.builtin .len,#[ZT 19],#[50]⟩,3,none⟩,⟨some 21,.binOp .lss 3 (ZT 18) (ZT 20) 3,4,none⟩])
    (.cond (ZT 21) .skip (.exit 0)))
    (.seq (.block 1 (.seq (.draw (.take ⟨some 25,.move (ZT 0),50,none⟩ (.take ⟨some 26,.move (ZT 7),3,none⟩ (.take ⟨some 27,.indexAddr 50 (ZT 25) (ZT 26),0,none⟩ (.take ⟨some 28,.load 24 (ZT 27),24,none⟩ (.take ⟨some 29,.load 24 (ZT 3),24,none⟩ (.alt ⟨some 30,.call ⟨.value (.func 76),#[ZT 28,ZT 29],#[24,24]⟩,29,none⟩ (.take ⟨some 24,.move (ZT 30),29,none⟩ (.take ⟨some 31,.extract (ZT 24) 0,24,none⟩ (.take ⟨some 32,.extract (ZT 24) 1,28,none⟩ (.alt ⟨some 8,.alloc 24,0,none⟩ (.altL ⟨none,.store 24 (ZT 8) (ZT 31),0,none⟩ (.take ⟨some 9,.assign (ZT 32),28,none⟩ .done) .none) .none)))) (.alt ⟨some 8,.alloc 24,0,none⟩ (.alt ⟨some 30,.call ⟨.value (.func 76),#[ZT 28,ZT 29],#[24,24]⟩,29,none⟩ (.take ⟨some 24,.move (ZT 30),29,none⟩ (.take ⟨some 31,.extract (ZT 24) 0,24,none⟩ (.take ⟨some 32,.extract (ZT 24) 1,28,none⟩ (.altL ⟨none,.store 24 (ZT 8) (ZT 31),0,none⟩ (.take ⟨some 9,.assign (ZT 32),28,none⟩ .done) .none)))) .none) .none))))))))
    (.seq (.ops [⟨some 33,.move (ZT 9),28,none⟩,⟨some 34,.binOp .eql 28 (ZT 33) (.const (.int .i64 0)) 28,4,none⟩])
    (.cond (ZT 34) (.ops [⟨some 35,.move (ZT 6),50,none⟩,⟨some 36,.load 24 (ZT 8),24,none⟩,⟨some 37,.buildSlice 50 1 #[(0,ZT 36)],50,none⟩,⟨some 38,.call ⟨.builtin .append,#[ZT 35,ZT 37],#[50,50]⟩,50,none⟩,⟨some 6,.assign (ZT 38),50,none⟩]) .skip))))
    (.ops [⟨some 22,.move (ZT 7),3,none⟩,⟨some 23,.binOp .add 3 (ZT 22) (.const (.int .i64 1)) 3,3,none⟩,⟨some 7,.assign (ZT 23),3,none⟩]))))))
    (.seq (.ops [⟨some 39,.move (ZT 6),50,none⟩,⟨some 4,.assign (ZT 39),50,none⟩,⟨some 5,.assign (.const (.int .i64 0)),28,none⟩])
    .ret)))))
def pl32 : Nat → Plan := fun id => if id = 7 then (.take 0 (.take 1 (.take 2 (.take 3 (.take 4 (.alt 5 (.take 6 (.take 7 (.take 8 (.alt 9 (.altL 10 (.take 11 .done) .none) .none)))) (.alt 9 (.alt 5 (.take 6 (.take 7 (.take 8 (.altL 10 (.take 11 .done) .none)))) .none) .none))))))) else .done
theorem st32 : Go.Proofs.Tryz.f32.body.map (strip pl32) = some m32 := by kernel_rfl
theorem ok32 : okB pl32 Go.Proofs.Tryz.f32 2 = true := by kernel_rfl
theorem en32 {v0 v1 w} {Q : Value → World → Prop} (h : mwpB ZP m32 (argEnv [v0, v1]) [] w (fun e ds w => ds = [] ∧ resW ZP [.tmp 4, .tmp 5] e w fun v => Q v w) (fun _ _ _ _ => False) (fun e ds w => ds = [] ∧ resW ZP [.tmp 4, .tmp 5] e w fun v => Q v w) (fun _ _ _ _ => False) ⟨⟩) : Rets ZP 32 #[v0, v1] w Q :=
  rets_of_mwp follows_mo Go.Proofs.Tryz.func32 pl32 st32 ok32 (by kernel_rfl) h
def m33 : MC := (.seq (.ops [⟨some 4,.assign (.const (.bool false)),4,none⟩])
    (.seq (.seq (.ops [⟨some 6,.move (ZT 0),50,none⟩,⟨some 7,.call ⟨.builtin .len,#[ZT 6],#[50]⟩,3,none⟩,⟨some 8,.move (ZT 1),50,none⟩,⟨some 9,.call ⟨.builtin .len,#[ZT 8],#[50]⟩,3,none⟩,⟨some 10,.binOp .neq 3 (ZT 7) (ZT 9) 3,4,none⟩])
    (.cond (ZT 10) (.seq (.ops [⟨some 4,.assign (.const (.bool false)),4,none⟩])
    .ret) .skip))
    (.seq (.seq (.ops [⟨some 5,.assign (.const (.int .i64 0)),3,none⟩])
    (.block 0 (.loop (.seq (.seq (.ops [⟨some 11,.move (ZT 5),3,none⟩,⟨some 12,.move (ZT 0),50,none⟩,⟨some 13,.call ⟨.builtin .len,#[ZT 12],#[50]⟩,3,none⟩,⟨some 14,.binOp .lss 3 (ZT 11) (ZT 13) 3,4,none⟩])
    (.cond (ZT 14) .skip (.exit 0)))
    (.seq (.block 1 (.seq (.draw (.take ⟨some 17,.move (ZT 0),50,none⟩ (.take ⟨some 18,.move (ZT 5),3,none⟩ (.take ⟨some 19,.indexAddr 50 (ZT 17) (ZT 18),0,none⟩ (.take ⟨some 20,.load 24 (ZT 19),24,none⟩ (.take ⟨some 21,.move (ZT 1),50,none⟩ (.take ⟨some 22,.move (ZT 5),3,none⟩ (.take ⟨some 23,.indexAddr 50 (ZT 21) (ZT 22),0,none⟩ (.take ⟨some 24,.load 24 (ZT 23),24,none⟩ (.alt ⟨some 25,.call ⟨.value (.func 15),#[ZT 20,ZT 24],#[24,24]⟩,4,none⟩ (.take ⟨some 26,.unOp .not 4 (ZT 25),4,none⟩ .done) .none))))))))))
    (.cond (ZT 26) (.seq (.ops [⟨some 4,.assign (.const (.bool false)),4,none⟩])
    .ret) .skip)))
    (.ops [⟨some 15,.move (ZT 5),3,none⟩,⟨some 16,.binOp .add 3 (ZT 15) (.const (.int .i64 1)) 3,3,none⟩,⟨some 5,.assign (ZT 16),3,none⟩]))))))
    (.seq (.ops [⟨some 4,.assign (.const (.bool true)),4,none⟩])
    .ret))))
def pl33 : Nat → Plan := fun id => if id = 6 then (.take 0 (.take 1 (.take 2 (.take 3 (.take 4 (.take 5 (.take 6 (.take 7 (.alt 8 (.take 9 .done) .none))))))))) else .done
theorem st33 : Go.Proofs.Tryz.f33.body.map (strip pl33) = some m33 := by kernel_rfl
theorem ok33 : okB pl33 Go.Proofs.Tryz.f33 2 = true := by kernel_rfl
theorem en33 {v0 v1 w} {Q : Value → World → Prop} (h : mwpB ZP m33 (argEnv [v0, v1]) [] w (fun e ds w => ds = [] ∧ resW ZP [.tmp 4] e w fun v => Q v w) (fun _ _ _ _ => False) (fun e ds w => ds = [] ∧ resW ZP [.tmp 4] e w fun v => Q v w) (fun _ _ _ _ => False) ⟨⟩) : Rets ZP 33 #[v0, v1] w Q :=
  rets_of_mwp follows_mo Go.Proofs.Tryz.func33 pl33 st33 ok33 (by kernel_rfl) h
def m34 : MC := (.seq (.ops [⟨some 4,.alloc 24,0,none⟩,⟨some 5,.assign (.const (.int .i64 0)),3,none⟩,⟨some 6,.assign (.const (.int .i64 0)),3,none⟩,⟨some 7,.assign (.const (.int .i64 0)),28,none⟩])
    (.seq (.seq (.ops [⟨some 14,.move (ZT 0),50,none⟩,⟨some 15,.call ⟨.value (.func 74),#[ZT 14],#[50]⟩,4,none⟩,⟨some 16,.unOp .not 4 (ZT 15),4,none⟩,⟨some 17,.move (ZT 16),4,none⟩,⟨some 18,.move (ZT 1),50,some (some 17,false)⟩,⟨some 19,.call ⟨.value (.func 74),#[ZT 18],#[50]⟩,4,some (some 17,false)⟩,⟨some 20,.unOp .not 4 (ZT 19),4,some (some 17,false)⟩,⟨some 21,.pick (ZT 17) (.const (.bool true)) (ZT 20),4,none⟩])
    (.cond (ZT 21) (.seq (.ops [⟨some 22,.load 24 (ZT 4),24,none⟩,⟨none,.store 24 (ZT 4) (ZT 22),0,none⟩,⟨some 5,.assign (.const (.int .i64 0)),3,none⟩,⟨some 6,.assign (.const (.int .i64 0)),3,none⟩,⟨some 7,.assign (.const (.int .i64 1)),28,none⟩])
    .ret) .skip))
    (.seq (.seq (.ops [⟨some 23,.move (ZT 0),50,none⟩,⟨some 24,.call ⟨.builtin .len,#[ZT 23],#[50]⟩,3,none⟩,⟨some 25,.move (.const (.int .i64 0)),3,none⟩])
    (.block 0 (.loop (.seq (.ops [⟨some 26,.binOp .lss 3 (ZT 25) (ZT 24) 3,0,none⟩])
    (.seq (.cond (ZT 26) .skip (.exit 0))
    (.seq (.block 1 (.seq (.ops [⟨some 27,.move (ZT 25),3,none⟩,⟨some 28,.indexAddr 50 (ZT 23) (ZT 25),0,none⟩,⟨some 29,.load 24 (ZT 28),24,none⟩,⟨some 9,.alloc 24,0,none⟩,⟨some 8,.assign (ZT 27),3,none⟩,⟨none,.store 24 (ZT 9) (ZT 29),0,none⟩])
    (.seq (.ops [⟨some 30,.move (ZT 1),50,none⟩,⟨some 31,.call ⟨.builtin .len,#[ZT 30],#[50]⟩,3,none⟩,⟨some 32,.move (.const (.int .i64 0)),3,none⟩])
    (.block 2 (.loop (.seq (.ops [⟨some 33,.binOp .lss 3 (ZT 32) (ZT 31) 3,0,none⟩])
    (.seq (.cond (ZT 33) .skip (.exit 2))
    (.seq (.block 3 (.seq (.ops [⟨some 34,.move (ZT 32),3,none⟩,⟨some 35,.indexAddr 50 (ZT 30) (ZT 32),0,none⟩,⟨some 36,.load 24 (ZT 35),24,none⟩,⟨some 11,.alloc 24,0,none⟩,⟨some 10,.assign (ZT 34),3,none⟩,⟨none,.store 24 (ZT 11) (ZT 36),0,none⟩])
    (.seq (.ops [⟨some 38,.load 24 (ZT 9),24,none⟩,⟨some 39,.load 24 (ZT 11),24,none⟩,⟨some 40,.call ⟨.value (.func 73),#[ZT 38,ZT 39],#[24,24]⟩,29,none⟩,⟨some 37,.move (ZT 40),29,none⟩,⟨some 41,.extract (ZT 37) 0,24,none⟩,⟨some 42,.extract (ZT 37) 1,28,none⟩,⟨some 12,.alloc 24,0,none⟩,⟨none,.store 24 (ZT 12) (ZT 41),0,none⟩,⟨some 13,.assign (ZT 42),28,none⟩])
    (.seq (.ops [⟨some 43,.move (ZT 13),28,none⟩,⟨some 44,.binOp .eql 28 (ZT 43) (.const (.int .i64 0)) 28,4,none⟩])
    (.cond (ZT 44) (.seq (.ops [⟨some 45,.load 24 (ZT 12),24,none⟩,⟨some 46,.call ⟨.value (.func 77),#[ZT 45],#[24]⟩,24,none⟩,⟨some 47,.move (ZT 8),3,none⟩,⟨some 48,.move (ZT 10),3,none⟩,⟨none,.store 24 (ZT 4) (ZT 46),0,none⟩,⟨some 5,.assign (ZT 47),3,none⟩,⟨some 6,.assign (ZT 48),3,none⟩,⟨some 7,.assign (.const (.int .i64 0)),28,none⟩])
    .ret) .skip)))))
    (.ops [⟨some 49,.binOp .add 3 (ZT 32) (.const (.int .i64 1)) 3,3,none⟩,⟨some 32,.move (ZT 49),3,none⟩])))))))))
    (.ops [⟨some 50,.binOp .add 3 (ZT 25) (.const (.int .i64 1)) 3,3,none⟩,⟨some 25,.move (ZT 50),3,none⟩])))))))
    (.seq (.ops [⟨some 51,.load 24 (ZT 4),24,none⟩,⟨none,.store 24 (ZT 4) (ZT 51),0,none⟩,⟨some 5,.assign (.const (.int .i64 0)),3,none⟩,⟨some 6,.assign (.const (.int .i64 0)),3,none⟩,⟨some 7,.assign (.const (.int .i64 13)),28,none⟩])
    .ret))))
def pl34 : Nat → Plan := fun _ => .done
theorem st34 : Go.Proofs.Tryz.f34.body.map (strip pl34) = some m34 := by kernel_rfl
theorem ok34 : okB pl34 Go.Proofs.Tryz.f34 2 = true := by kernel_rfl
theorem en34 {v0 v1 w} {Q : Value → World → Prop} (h : mwpB ZP m34 (argEnv [v0, v1]) [] w (fun e ds w => ds = [] ∧ resW ZP [.cell 4 24, .tmp 5, .tmp 6, .tmp 7] e w fun v => Q v w) (fun _ _ _ _ => False) (fun e ds w => ds = [] ∧ resW ZP [.cell 4 24, .tmp 5, .tmp 6, .tmp 7] e w fun v => Q v w) (fun _ _ _ _ => False) ⟨⟩) : Rets ZP 34 #[v0, v1] w Q :=
  rets_of_mwp follows_mo Go.Proofs.Tryz.func34 pl34 st34 ok34 (by kernel_rfl) h
def m35 : MC := (.seq (.ops [⟨some 4,.alloc 24,0,none⟩,⟨some 5,.assign (.const (.int .i64 0)),3,none⟩,⟨some 6,.assign (.const (.int .i64 0)),3,none⟩,⟨some 7,.assign (.const (.int .i64 0)),28,none⟩])
    (.seq (.seq (.ops [⟨some 12,.move (ZT 0),50,none⟩,⟨some 13,.call ⟨.value (.func 75),#[ZT 12],#[50]⟩,4,none⟩,⟨some 14,.unOp .not 4 (ZT 13),4,none⟩,⟨some 15,.move (ZT 14),4,none⟩,⟨some 16,.move (ZT 1),50,some (some 15,false)⟩,⟨some 17,.call ⟨.value (.func 75),#[ZT 16],#[50]⟩,4,some (some 15,false)⟩,⟨some 18,.unOp .not 4 (ZT 17),4,some (some 15,false)⟩,⟨some 19,.pick (ZT 15) (.const (.bool true)) (ZT 18),4,none⟩])
    (.cond (ZT 19) (.seq (.ops [⟨some 20,.build 24 #[],24,none⟩,⟨none,.store 24 (ZT 4) (ZT 20),0,none⟩,⟨some 5,.assign (.const (.int .i64 0)),3,none⟩,⟨some 6,.assign (.const (.int .i64 0)),3,none⟩,⟨some 7,.assign (.const (.int .i64 1)),28,none⟩])
    .ret) .skip))
    (.seq (.seq (.ops [⟨some 8,.assign (.const (.int .i64 0)),3,none⟩])
    (.block 0 (.loop (.seq (.seq (.ops [⟨some 21,.move (ZT 8),3,none⟩,⟨some 22,.move (ZT 0),50,none⟩,⟨some 23,.call ⟨.builtin .len,#[ZT 22],#[50]⟩,3,none⟩,⟨some 24,.binOp .lss 3 (ZT 21) (ZT 23) 3,4,none⟩])
    (.cond (ZT 24) .skip (.exit 0)))
    (.seq (.block 1 (.seq (.ops [⟨some 9,.assign (.const (.int .i64 0)),3,none⟩])
    (.block 2 (.loop (.seq (.seq (.ops [⟨some 27,.move (ZT 9),3,none⟩,⟨some 28,.move (ZT 1),50,none⟩,⟨some 29,.call ⟨.builtin .len,#[ZT 28],#[50]⟩,3,none⟩,⟨some 30,.binOp .lss 3 (ZT 27) (ZT 29) 3,4,none⟩])
    (.cond (ZT 30) .skip (.exit 2)))
    (.seq (.block 3 (.seq (.draw (.take ⟨some 34,.move (ZT 0),50,none⟩ (.take ⟨some 35,.move (ZT 8),3,none⟩ (.take ⟨some 36,.indexAddr 50 (ZT 34) (ZT 35),0,none⟩ (.take ⟨some 37,.load 24 (ZT 36),24,none⟩ (.take ⟨some 38,.move (ZT 1),50,none⟩ (.take ⟨some 39,.move (ZT 9),3,none⟩ (.take ⟨some 40,.indexAddr 50 (ZT 38) (ZT 39),0,none⟩ (.take ⟨some 41,.load 24 (ZT 40),24,none⟩ (.alt ⟨some 42,.call ⟨.value (.func 76),#[ZT 37,ZT 41],#[24,24]⟩,29,none⟩ (.take ⟨some 33,.move (ZT 42),29,none⟩ (.take ⟨some 43,.extract (ZT 33) 0,24,none⟩ (.take ⟨some 44,.extract (ZT 33) 1,28,none⟩ (.alt ⟨some 10,.alloc 24,0,none⟩ (.altL ⟨none,.store 24 (ZT 10) (ZT 43),0,none⟩ (.take ⟨some 11,.assign (ZT 44),28,none⟩ .done) .none) .none)))) (.alt ⟨some 10,.alloc 24,0,none⟩ (.alt ⟨some 42,.call ⟨.value (.func 76),#[ZT 37,ZT 41],#[24,24]⟩,29,none⟩ (.take ⟨some 33,.move (ZT 42),29,none⟩ (.take ⟨some 43,.extract (ZT 33) 0,24,none⟩ (.take ⟨some 44,.extract (ZT 33) 1,28,none⟩ (.altL ⟨none,.store 24 (ZT 10) (ZT 43),0,none⟩ (.take ⟨some 11,.assign (ZT 44),28,none⟩ .done) .none)))) .none) .none)))))))))))
    (.seq (.ops [⟨some 45,.move (ZT 11),28,none⟩,⟨some 46,.binOp .eql 28 (ZT 45) (.const (.int .i64 0)) 28,4,none⟩])
    (.cond (ZT 46) (.seq (.ops [⟨some 47,.load 24 (ZT 10),24,none⟩,⟨some 48,.call ⟨.value (.func 78),#[ZT 47],#[24]⟩,24,none⟩,⟨some 49,.move (ZT 8),3,none⟩,⟨some 50,.move (ZT 9),3,none⟩,⟨none,.store 24 (ZT 4) (ZT 48),0,none⟩,⟨some 5,.assign (ZT 49),3,none⟩,⟨some 6,.assign (ZT 50),3,none⟩,⟨some 7,.assign (.const (.int .i64 0)),28,none⟩])
    .ret) .skip))))
    (.ops [⟨some 31,.move (ZT 9),3,none⟩,⟨some 32,.binOp .add 3 (ZT 31) (.const (.int .i64 1)) 3,3,none⟩,⟨some 9,.assign (ZT 32),3,none⟩])))))))
    (.ops [⟨some 25,.move (ZT 8),3,none⟩,⟨some 26,.binOp .add 3 (ZT 25) (.const (.int .i64 1)) 3,3,none⟩,⟨some 8,.assign (ZT 26),3,none⟩]))))))
    (.seq (.ops [⟨some 51,.build 24 #[],24,none⟩,⟨none,.store 24 (ZT 4) (ZT 51),0,none⟩,⟨some 5,.assign (.const (.int .i64 0)),3,none⟩,⟨some 6,.assign (.const (.int .i64 0)),3,none⟩,⟨some 7,.assign (.const (.int .i64 13)),28,none⟩])
    .ret))))
def pl35 : Nat → Plan := fun id => if id = 9 then (.take 0 (.take 1 (.take 2 (.take 3 (.take 4 (.take 5 (.take 6 (.take 7 (.alt 8 (.take 9 (.take 10 (.take 11 (.alt 12 (.altL 13 (.take 14 .done) .none) .none)))) (.alt 12 (.alt 8 (.take 9 (.take 10 (.take 11 (.altL 13 (.take 14 .done) .none)))) .none) .none)))))))))) else .done
theorem st35 : Go.Proofs.Tryz.f35.body.map (strip pl35) = some m35 := by kernel_rfl
theorem ok35 : okB pl35 Go.Proofs.Tryz.f35 2 = true := by kernel_rfl
theorem en35 {v0 v1 w} {Q : Value → World → Prop} (h : mwpB ZP m35 (argEnv [v0, v1]) [] w (fun e ds w => ds = [] ∧ resW ZP [.cell 4 24, .tmp 5, .tmp 6, .tmp 7] e w fun v => Q v w) (fun _ _ _ _ => False) (fun e ds w => ds = [] ∧ resW ZP [.cell 4 24, .tmp 5, .tmp 6, .tmp 7] e w fun v => Q v w) (fun _ _ _ _ => False) ⟨⟩) : Rets ZP 35 #[v0, v1] w Q :=
  rets_of_mwp follows_mo Go.Proofs.Tryz.func35 pl35 st35 ok35 (by kernel_rfl) h
def m36 : MC := (.seq (.ops [⟨some 1,.box 24 (ZT 0),0,none⟩,⟨some 2,.assign (.const (.bool false)),4,none⟩])
    (.seq (.ops [⟨some 3,.load 24 (ZT 1),24,none⟩,⟨some 4,.call ⟨.value (.func 43),#[ZT 3],#[24]⟩,4,none⟩,⟨some 5,.move (ZT 4),4,none⟩,⟨some 6,.fieldAddr 24 (ZT 1) 1,0,some (some 5,true)⟩,⟨some 7,.load 22 (ZT 6),22,some (some 5,true)⟩,⟨some 8,.call ⟨.value (.func 79),#[ZT 7,.func 80],#[22,100]⟩,4,some (some 5,true)⟩,⟨some 9,.unOp .not 4 (ZT 8),4,some (some 5,true)⟩,⟨some 10,.pick (ZT 5) (ZT 9) (.const (.bool false)),4,none⟩,⟨some 2,.assign (ZT 10),4,none⟩])
    .ret))
def pl36 : Nat → Plan := fun _ => .done
theorem st36 : Go.Proofs.Tryz.f36.body.map (strip pl36) = some m36 := by kernel_rfl
theorem ok36 : okB pl36 Go.Proofs.Tryz.f36 1 = true := by kernel_rfl
theorem en36 {v0 w} {Q : Value → World → Prop} (h : mwpB ZP m36 (argEnv [v0]) [] w (fun e ds w => ds = [] ∧ resW ZP [.tmp 2] e w fun v => Q v w) (fun _ _ _ _ => False) (fun e ds w => ds = [] ∧ resW ZP [.tmp 2] e w fun v => Q v w) (fun _ _ _ _ => False) ⟨⟩) : Rets ZP 36 #[v0] w Q :=
  rets_of_mwp follows_mo Go.Proofs.Tryz.func36 pl36 st36 ok36 (by kernel_rfl) h
def m43 : MC := (.seq (.ops [⟨some 1,.box 24 (ZT 0),0,none⟩,⟨some 2,.assign (.const (.bool false)),4,none⟩])
    (.seq (.seq (.ops [⟨some 5,.fieldAddr 24 (ZT 1) 1,0,none⟩,⟨some 6,.load 22 (ZT 5),22,none⟩,⟨some 7,.call ⟨.builtin .len,#[ZT 6],#[22]⟩,3,none⟩,⟨some 8,.move (.const (.int .i64 0)),3,none⟩])
    (.block 0 (.loop (.seq (.ops [⟨some 9,.binOp .lss 3 (ZT 8) (ZT 7) 3,0,none⟩])
    (.seq (.cond (ZT 9) .skip (.exit 0))
    (.seq (.block 1 (.seq (.ops [⟨some 10,.move (ZT 8),3,none⟩,⟨some 11,.indexAddr 22 (ZT 6) (ZT 8),0,none⟩,⟨some 12,.load 72 (ZT 11),72,none⟩,⟨some 4,.alloc 72,0,none⟩,⟨some 3,.assign (ZT 10),3,none⟩,⟨none,.store 72 (ZT 4) (ZT 12),0,none⟩])
    (.seq (.draw (.take ⟨some 13,.fieldAddr 72 (ZT 4) 0,0,none⟩ (.take ⟨some 14,.load 3 (ZT 13),3,none⟩ (.take ⟨some 15,.binOp .lss 3 (ZT 14) (.const (.int .i64 1)) 3,4,none⟩ (.take ⟨some 16,.move (ZT 15),4,none⟩ (.take ⟨some 17,.fieldAddr 72 (ZT 4) 0,0,some (some 16,false)⟩ (.take ⟨some 18,.load 3 (ZT 17),3,some (some 16,false)⟩ (.take ⟨some 19,.binOp .gtr 3 (ZT 18) (.const (.int .i64 6)) 3,4,some (some 16,false)⟩ (.take ⟨some 20,.pick (ZT 16) (.const (.bool true)) (ZT 19),4,none⟩ (.take ⟨some 21,.move (ZT 20),4,none⟩ (.take ⟨some 22,.move (ZT 3),3,some (some 21,false)⟩ (.take ⟨some 23,.binOp .gtr 3 (ZT 22) (.const (.int .i64 0)) 3,4,some (some 21,false)⟩ (.take ⟨some 24,.move (ZT 23),4,some (some 21,false)⟩ (.take ⟨some 25,.fieldAddr 24 (ZT 1) 1,0,some (some 24,true)⟩ (.take ⟨some 26,.load 22 (ZT 25),22,some (some 24,true)⟩ (.take ⟨some 27,.move (ZT 3),3,some (some 24,true)⟩ (.take ⟨some 28,.binOp .sub 3 (ZT 27) (.const (.int .i64 1)) 3,3,some (some 24,true)⟩ (.take ⟨some 29,.indexAddr 22 (ZT 26) (ZT 28),0,some (some 24,true)⟩ (.take ⟨some 30,.fieldAddr 72 (ZT 29) 0,0,some (some 24,true)⟩ (.take ⟨some 31,.load 3 (ZT 30),3,some (some 24,true)⟩ (.take ⟨some 32,.fieldAddr 72 (ZT 4) 0,0,some (some 24,true)⟩ (.take ⟨some 33,.load 3 (ZT 32),3,some (some 24,true)⟩ (.take ⟨some 34,.binOp .geq 3 (ZT 31) (ZT 33) 3,4,some (some 24,true)⟩ (.take ⟨some 35,.pick (ZT 24) (ZT 34) (.const (.bool false)),4,some (some 21,false)⟩ (.take ⟨some 36,.pick (ZT 21) (.const (.bool true)) (ZT 35),4,none⟩ (.take ⟨some 37,.move (ZT 36),4,none⟩ (.take ⟨some 38,.fieldAddr 72 (ZT 4) 1,0,some (some 37,false)⟩ (.take ⟨some 39,.load 35 (ZT 38),35,some (some 37,false)⟩ (.alt ⟨some 40,.call ⟨.value (.func 20),#[ZT 39],#[35]⟩,4,some (some 37,false)⟩ (.take ⟨some 41,.unOp .not 4 (ZT 40),4,some (some 37,false)⟩ (.take ⟨some 42,.pick (ZT 37) (.const (.bool true)) (ZT 41),4,none⟩ .done)) .none)))))))))))))))))))))))))))))
    (.cond (ZT 42) (.seq (.ops [⟨some 2,.assign (.const (.bool false)),4,none⟩])
    .ret) .skip))))
    (.ops [⟨some 43,.binOp .add 3 (ZT 8) (.const (.int .i64 1)) 3,3,none⟩,⟨some 8,.move (ZT 43),3,none⟩])))))))
    (.seq (.ops [⟨some 44,.fieldAddr 24 (ZT 1) 0,0,none⟩,⟨some 45,.load 3 (ZT 44),3,none⟩,⟨some 46,.binOp .geq 3 (ZT 45) (.const (.int .i64 1)) 3,4,none⟩,⟨some 47,.move (ZT 46),4,none⟩,⟨some 48,.fieldAddr 24 (ZT 1) 0,0,some (some 47,true)⟩,⟨some 49,.load 3 (ZT 48),3,some (some 47,true)⟩,⟨some 50,.binOp .leq 3 (ZT 49) (.const (.int .i64 3)) 3,4,some (some 47,true)⟩,⟨some 51,.pick (ZT 47) (ZT 50) (.const (.bool false)),4,none⟩,⟨some 2,.assign (ZT 51),4,none⟩])
    .ret)))
def pl43 : Nat → Plan := fun id => if id = 4 then (.take 0 (.take 1 (.take 2 (.take 3 (.take 4 (.take 5 (.take 6 (.take 7 (.take 8 (.take 9 (.take 10 (.take 11 (.take 12 (.take 13 (.take 14 (.take 15 (.take 16 (.take 17 (.take 18 (.take 19 (.take 20 (.take 21 (.take 22 (.take 23 (.take 24 (.take 25 (.take 26 (.alt 27 (.take 28 (.take 29 .done)) .none)))))))))))))))))))))))))))) else .done
theorem st43 : Go.Proofs.Tryz.f43.body.map (strip pl43) = some m43 := by kernel_rfl
theorem ok43 : okB pl43 Go.Proofs.Tryz.f43 1 = true := by kernel_rfl
theorem en43 {v0 w} {Q : Value → World → Prop} (h : mwpB ZP m43 (argEnv [v0]) [] w (fun e ds w => ds = [] ∧ resW ZP [.tmp 2] e w fun v => Q v w) (fun _ _ _ _ => False) (fun e ds w => ds = [] ∧ resW ZP [.tmp 2] e w fun v => Q v w) (fun _ _ _ _ => False) ⟨⟩) : Rets ZP 43 #[v0] w Q :=
  rets_of_mwp follows_mo Go.Proofs.Tryz.func43 pl43 st43 ok43 (by kernel_rfl) h
end Go.Proofs.YthcdnjbhhaonhaaGreatDoor
