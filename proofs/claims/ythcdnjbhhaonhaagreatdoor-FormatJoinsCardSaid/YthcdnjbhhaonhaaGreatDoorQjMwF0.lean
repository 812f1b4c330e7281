/- The functions, stripped. -/
import Derived.Test.YthcdnjbhhaonhaaGreatDoorQjMwT
import Derived.Test.YthcdnjbhhaonhaaGreatDoorQjMwIn

namespace Go.Proofs.YthcdnjbhhaonhaaGreatDoor
open Go.RowKit
open Go.Operand renaming tmp → ZT
open Go.Proofs.Tryz renaming prog → ZP
set_option maxRecDepth 100000
def m7 : MC := (.seq (.ops [⟨some 3,.box 24 (ZT 0),0,none⟩,⟨some 4,.box 24 (ZT 1),0,none⟩,⟨some 6,.assign (.const (.bool false)),4,none⟩])
    (.seq (.seq (.ops [⟨some 23,.load 24 (ZT 3),24,none⟩,⟨some 24,.call ⟨.value (.func 9),#[ZT 23],#[24]⟩,4,none⟩,⟨some 25,.unOp .not 4 (ZT 24),4,none⟩,⟨some 26,.move (ZT 25),4,none⟩,⟨some 27,.load 24 (ZT 4),24,some (some 26,false)⟩,⟨some 28,.call ⟨.value (.func 9),#[ZT 27],#[24]⟩,4,some (some 26,false)⟩,⟨some 29,.unOp .not 4 (ZT 28),4,some (some 26,false)⟩,⟨some 30,.pick (ZT 26) (.const (.bool true)) (ZT 29),4,none⟩])
    (.cond (ZT 30) (.seq (.ops [⟨some 31,.call ⟨.value (.func 10),#[],#[]⟩,4,none⟩,⟨some 6,.assign (ZT 31),4,none⟩])
    .ret) .skip))
    (.seq (.ops [⟨some 33,.load 24 (ZT 3),24,none⟩,⟨some 34,.load 24 (ZT 4),24,none⟩,⟨some 35,.call ⟨.value (.func 29),#[ZT 33,ZT 34],#[24,24]⟩,29,none⟩,⟨some 32,.move (ZT 35),29,none⟩,⟨some 36,.extract (ZT 32) 0,24,none⟩,⟨some 37,.extract (ZT 32) 1,28,none⟩,⟨some 7,.alloc 24,0,none⟩,⟨none,.store 24 (ZT 7) (ZT 36),0,none⟩,⟨some 8,.assign (ZT 37),28,none⟩])
    (.seq (.ops [⟨some 39,.load 24 (ZT 3),24,none⟩,⟨some 40,.load 24 (ZT 4),24,none⟩,⟨some 41,.call ⟨.value (.func 37),#[ZT 39,ZT 40],#[24,24]⟩,29,none⟩,⟨some 38,.move (ZT 41),29,none⟩,⟨some 42,.extract (ZT 38) 0,24,none⟩,⟨some 43,.extract (ZT 38) 1,28,none⟩,⟨some 9,.alloc 24,0,none⟩,⟨none,.store 24 (ZT 9) (ZT 42),0,none⟩,⟨some 10,.assign (ZT 43),28,none⟩])
    (.seq (.ops [⟨some 45,.load 24 (ZT 3),24,none⟩,⟨some 46,.call ⟨.value (.func 38),#[ZT 45],#[24]⟩,29,none⟩,⟨some 44,.move (ZT 46),29,none⟩,⟨some 47,.extract (ZT 44) 0,24,none⟩,⟨some 48,.extract (ZT 44) 1,28,none⟩,⟨some 11,.alloc 24,0,none⟩,⟨none,.store 24 (ZT 11) (ZT 47),0,none⟩,⟨some 12,.assign (ZT 48),28,none⟩])
    (.seq (.ops [⟨some 50,.load 24 (ZT 3),24,none⟩,⟨some 51,.call ⟨.value (.func 39),#[ZT 50],#[24]⟩,29,none⟩,⟨some 49,.move (ZT 51),29,none⟩,⟨some 52,.extract (ZT 49) 0,24,none⟩,⟨some 53,.extract (ZT 49) 1,28,none⟩,⟨some 13,.alloc 24,0,none⟩,⟨none,.store 24 (ZT 13) (ZT 52),0,none⟩,⟨some 14,.assign (ZT 53),28,none⟩])
    (.seq (.seq (.ops [⟨some 54,.load 24 (ZT 7),24,none⟩,⟨some 55,.load 24 (ZT 9),24,none⟩,⟨some 56,.call ⟨.value (.func 15),#[ZT 54,ZT 55],#[24,24]⟩,4,none⟩,⟨some 57,.unOp .not 4 (ZT 56),4,none⟩,⟨some 58,.move (ZT 57),4,none⟩,⟨some 59,.move (ZT 8),28,some (some 58,false)⟩,⟨some 60,.move (ZT 10),28,some (some 58,false)⟩,⟨some 61,.binOp .neq 28 (ZT 59) (ZT 60) 28,4,some (some 58,false)⟩,⟨some 62,.pick (ZT 58) (.const (.bool true)) (ZT 61),4,none⟩,⟨some 63,.move (ZT 62),4,none⟩,⟨some 64,.load 24 (ZT 11),24,some (some 63,false)⟩,⟨some 65,.load 24 (ZT 13),24,some (some 63,false)⟩,⟨some 66,.call ⟨.value (.func 15),#[ZT 64,ZT 65],#[24,24]⟩,4,some (some 63,false)⟩,⟨some 67,.unOp .not 4 (ZT 66),4,some (some 63,false)⟩,⟨some 68,.pick (ZT 63) (.const (.bool true)) (ZT 67),4,none⟩,⟨some 69,.move (ZT 68),4,none⟩,⟨some 70,.move (ZT 12),28,some (some 69,false)⟩,⟨some 71,.move (ZT 14),28,some (some 69,false)⟩,⟨some 72,.binOp .neq 28 (ZT 70) (ZT 71) 28,4,some (some 69,false)⟩,⟨some 73,.pick (ZT 69) (.const (.bool true)) (ZT 72),4,none⟩])
    (.cond (ZT 73) (.seq (.ops [⟨some 6,.assign (.const (.bool false)),4,none⟩])
    .ret) .skip))
    (.seq (.ops [⟨some 75,.load 24 (ZT 3),24,none⟩,⟨some 76,.load 24 (ZT 4),24,none⟩,⟨some 77,.call ⟨.value (.func 28),#[ZT 75,ZT 76],#[24,24]⟩,36,none⟩,⟨some 74,.move (ZT 77),36,none⟩,⟨some 78,.extract (ZT 74) 0,4,none⟩,⟨some 79,.extract (ZT 74) 1,28,none⟩,⟨some 15,.assign (ZT 78),4,none⟩,⟨some 16,.assign (ZT 79),28,none⟩])
    (.seq (.ops [⟨some 81,.load 24 (ZT 3),24,none⟩,⟨some 82,.load 24 (ZT 4),24,none⟩,⟨some 83,.call ⟨.value (.func 40),#[ZT 81,ZT 82],#[24,24]⟩,36,none⟩,⟨some 80,.move (ZT 83),36,none⟩,⟨some 84,.extract (ZT 80) 0,4,none⟩,⟨some 85,.extract (ZT 80) 1,28,none⟩,⟨some 17,.assign (ZT 84),4,none⟩,⟨some 18,.assign (ZT 85),28,none⟩])
    (.seq (.ops [⟨some 87,.load 24 (ZT 3),24,none⟩,⟨some 88,.move (ZT 2),3,none⟩,⟨some 89,.call ⟨.value (.func 41),#[ZT 87,ZT 88],#[24,3]⟩,59,none⟩,⟨some 86,.move (ZT 89),59,none⟩,⟨some 90,.extract (ZT 86) 0,35,none⟩,⟨some 91,.extract (ZT 86) 1,28,none⟩,⟨some 19,.alloc 35,0,none⟩,⟨none,.store 35 (ZT 19) (ZT 90),0,none⟩,⟨some 20,.assign (ZT 91),28,none⟩])
    (.seq (.ops [⟨some 93,.load 24 (ZT 3),24,none⟩,⟨some 94,.move (ZT 2),3,none⟩,⟨some 95,.call ⟨.value (.func 42),#[ZT 93,ZT 94],#[24,3]⟩,59,none⟩,⟨some 92,.move (ZT 95),59,none⟩,⟨some 96,.extract (ZT 92) 0,35,none⟩,⟨some 97,.extract (ZT 92) 1,28,none⟩,⟨some 21,.alloc 35,0,none⟩,⟨none,.store 35 (ZT 21) (ZT 96),0,none⟩,⟨some 22,.assign (ZT 97),28,none⟩])
    (.seq (.seq (.ops [⟨some 98,.move (ZT 15),4,none⟩,⟨some 99,.move (ZT 17),4,none⟩,⟨some 100,.binOp .neq 4 (ZT 98) (ZT 99) 4,4,none⟩,⟨some 101,.move (ZT 100),4,none⟩,⟨some 102,.move (ZT 16),28,some (some 101,false)⟩,⟨some 103,.move (ZT 18),28,some (some 101,false)⟩,⟨some 104,.binOp .neq 28 (ZT 102) (ZT 103) 28,4,some (some 101,false)⟩,⟨some 105,.pick (ZT 101) (.const (.bool true)) (ZT 104),4,none⟩,⟨some 106,.move (ZT 105),4,none⟩,⟨some 107,.load 35 (ZT 19),35,some (some 106,false)⟩,⟨some 108,.load 35 (ZT 21),35,some (some 106,false)⟩,⟨some 109,.call ⟨.value (.func 25),#[ZT 107,ZT 108],#[35,35]⟩,4,some (some 106,false)⟩,⟨some 110,.unOp .not 4 (ZT 109),4,some (some 106,false)⟩,⟨some 111,.pick (ZT 106) (.const (.bool true)) (ZT 110),4,none⟩,⟨some 112,.move (ZT 111),4,none⟩,⟨some 113,.move (ZT 20),28,some (some 112,false)⟩,⟨some 114,.move (ZT 22),28,some (some 112,false)⟩,⟨some 115,.binOp .neq 28 (ZT 113) (ZT 114) 28,4,some (some 112,false)⟩,⟨some 116,.pick (ZT 112) (.const (.bool true)) (ZT 115),4,none⟩])
    (.cond (ZT 116) (.seq (.ops [⟨some 6,.assign (.const (.bool false)),4,none⟩])
    .ret) .skip))
    (.seq (.draw (.take ⟨some 117,.load 24 (ZT 3),24,none⟩ (.take ⟨some 119,.load 24 (ZT 3),24,none⟩ (.alt ⟨some 118,.call ⟨.value (.func 43),#[ZT 117],#[24]⟩,4,none⟩ (.alt ⟨some 120,.call ⟨.value (.func 27),#[ZT 119],#[24]⟩,4,none⟩ (.take ⟨some 121,.binOp .eql 4 (ZT 118) (ZT 120) 4,4,none⟩ (.take ⟨some 122,.move (ZT 121),4,none⟩ (.take ⟨some 123,.load 24 (ZT 3),24,some (some 122,true)⟩ (.take ⟨some 124,.load 24 (ZT 4),24,some (some 122,true)⟩ (.take ⟨some 126,.load 24 (ZT 3),24,some (some 122,true)⟩ (.take ⟨some 127,.load 24 (ZT 4),24,some (some 122,true)⟩ (.alt ⟨some 125,.call ⟨.value (.func 44),#[ZT 123,ZT 124],#[24,24]⟩,4,some (some 122,true)⟩ (.alt ⟨some 128,.call ⟨.value (.func 15),#[ZT 126,ZT 127],#[24,24]⟩,4,some (some 122,true)⟩ (.take ⟨some 129,.binOp .eql 4 (ZT 125) (ZT 128) 4,4,some (some 122,true)⟩ (.take ⟨some 130,.pick (ZT 122) (ZT 129) (.const (.bool false)),4,none⟩ (.take ⟨some 131,.move (ZT 130),4,none⟩ (.take ⟨some 132,.load 24 (ZT 3),24,some (some 131,true)⟩ (.take ⟨some 134,.load 24 (ZT 3),24,some (some 131,true)⟩ (.alt ⟨some 133,.call ⟨.value (.func 36),#[ZT 132],#[24]⟩,4,some (some 131,true)⟩ (.alt ⟨some 135,.call ⟨.value (.func 45),#[ZT 134],#[24]⟩,4,some (some 131,true)⟩ (.take ⟨some 136,.binOp .eql 4 (ZT 133) (ZT 135) 4,4,some (some 131,true)⟩ (.take ⟨some 137,.pick (ZT 131) (ZT 136) (.const (.bool false)),4,none⟩ (.take ⟨some 138,.move (ZT 137),4,none⟩ (.alt ⟨some 139,.call ⟨.value (.func 10),#[],#[]⟩,4,some (some 138,true)⟩ (.take ⟨some 140,.pick (ZT 138) (ZT 139) (.const (.bool false)),4,none⟩ (.take ⟨some 6,.assign (ZT 140),4,none⟩ .done)) .none)))) .none) .none)))))) .none) .none))))))) .none) .none))))
    .ret)))))))))))))
def pl7 : Nat → Plan := fun id => if id = 15 then (.take 0 (.take 2 (.alt 1 (.alt 3 (.take 4 (.take 5 (.take 6 (.take 7 (.take 9 (.take 10 (.alt 8 (.alt 11 (.take 12 (.take 13 (.take 14 (.take 15 (.take 17 (.alt 16 (.alt 18 (.take 19 (.take 20 (.take 21 (.alt 22 (.take 23 (.take 24 .done)) .none)))) .none) .none)))))) .none) .none))))))) .none) .none))) else .done
theorem st7 : Go.Proofs.Tryz.f7.body.map (strip pl7) = some m7 := by kernel_rfl
theorem ok7 : okB pl7 Go.Proofs.Tryz.f7 3 = true := by kernel_rfl
theorem en7 {v0 v1 v2 w} {Q : Value → World → Prop} (h : mwpB ZP m7 (argEnv [v0, v1, v2]) [] w (fun e ds w => ds = [] ∧ resW ZP [.tmp 6] e w fun v => Q v w) (fun _ _ _ _ => False) (fun e ds w => ds = [] ∧ resW ZP [.tmp 6] e w fun v => Q v w) (fun _ _ _ _ => False) ⟨⟩) : Rets ZP 7 #[v0, v1, v2] w Q :=
  rets_of_mwp follows_mo Go.Proofs.Tryz.func7 pl7 st7 ok7 (by kernel_rfl) h
def m9 : MC := (.seq (.ops [⟨some 1,.box 24 (ZT 0),0,none⟩,⟨some 2,.assign (.const (.bool false)),4,none⟩])
    (.seq (.seq (.ops [⟨some 3,.assign (.const (.int .i64 0)),3,none⟩])
    (.block 0 (.loop (.seq (.seq (.ops [⟨some 4,.move (ZT 3),3,none⟩,⟨some 5,.fieldAddr 24 (ZT 1) 1,0,none⟩,⟨some 6,.load 22 (ZT 5),22,none⟩,⟨some 7,.call ⟨.builtin .len,#[ZT 6],#[22]⟩,3,none⟩,⟨some 8,.binOp .lss 3 (ZT 4) (ZT 7) 3,4,none⟩,⟨some 9,.move (ZT 8),4,none⟩,⟨some 10,.move (ZT 3),3,some (some 9,true)⟩,⟨some 11,.binOp .lss 3 (ZT 10) (.const (.int .i64 12)) 3,4,some (some 9,true)⟩,⟨some 12,.pick (ZT 9) (ZT 11) (.const (.bool false)),4,none⟩])
    (.cond (ZT 12) .skip (.exit 0)))
    (.seq (.block 1 (.seq (.ops [⟨some 15,.fieldAddr 24 (ZT 1) 1,0,none⟩,⟨some 16,.load 22 (ZT 15),22,none⟩,⟨some 17,.move (ZT 3),3,none⟩,⟨some 18,.indexAddr 22 (ZT 16) (ZT 17),0,none⟩,⟨some 19,.fieldAddr 72 (ZT 18) 1,0,none⟩,⟨some 20,.fieldAddr 35 (ZT 19) 2,0,none⟩,⟨some 21,.load 33 (ZT 20),33,none⟩,⟨some 22,.call ⟨.builtin .len,#[ZT 21],#[33]⟩,3,none⟩,⟨some 23,.binOp .gtr 3 (ZT 22) (.const (.int .i64 60)) 3,4,none⟩])
    (.cond (ZT 23) (.seq (.ops [⟨some 2,.assign (.const (.bool false)),4,none⟩])
    .ret) .skip)))
    (.ops [⟨some 13,.move (ZT 3),3,none⟩,⟨some 14,.binOp .add 3 (ZT 13) (.const (.int .i64 1)) 3,3,none⟩,⟨some 3,.assign (ZT 14),3,none⟩]))))))
    (.seq (.ops [⟨some 24,.fieldAddr 24 (ZT 1) 1,0,none⟩,⟨some 25,.load 22 (ZT 24),22,none⟩,⟨some 26,.call ⟨.builtin .len,#[ZT 25],#[22]⟩,3,none⟩,⟨some 27,.binOp .leq 3 (ZT 26) (.const (.int .i64 12)) 3,4,none⟩,⟨some 2,.assign (ZT 27),4,none⟩])
    .ret)))
def pl9 : Nat → Plan := fun _ => .done
theorem st9 : Go.Proofs.Tryz.f9.body.map (strip pl9) = some m9 := by kernel_rfl
theorem ok9 : okB pl9 Go.Proofs.Tryz.f9 1 = true := by kernel_rfl
theorem en9 {v0 w} {Q : Value → World → Prop} (h : mwpB ZP m9 (argEnv [v0]) [] w (fun e ds w => ds = [] ∧ resW ZP [.tmp 2] e w fun v => Q v w) (fun _ _ _ _ => False) (fun e ds w => ds = [] ∧ resW ZP [.tmp 2] e w fun v => Q v w) (fun _ _ _ _ => False) ⟨⟩) : Rets ZP 9 #[v0] w Q :=
  rets_of_mwp follows_mo Go.Proofs.Tryz.func9 pl9 st9 ok9 (by kernel_rfl) h
def m15 : MC := (.seq (.ops [⟨some 2,.box 24 (ZT 0),0,none⟩,⟨some 3,.box 24 (ZT 1),0,none⟩,⟨some 4,.assign (.const (.bool false)),4,none⟩])
    (.seq (.seq (.ops [⟨some 6,.fieldAddr 24 (ZT 2) 0,0,none⟩,⟨some 7,.load 3 (ZT 6),3,none⟩,⟨some 8,.fieldAddr 24 (ZT 3) 0,0,none⟩,⟨some 9,.load 3 (ZT 8),3,none⟩,⟨some 10,.binOp .neq 3 (ZT 7) (ZT 9) 3,4,none⟩,⟨some 11,.move (ZT 10),4,none⟩,⟨some 12,.fieldAddr 24 (ZT 2) 1,0,some (some 11,false)⟩,⟨some 13,.load 22 (ZT 12),22,some (some 11,false)⟩,⟨some 14,.call ⟨.builtin .len,#[ZT 13],#[22]⟩,3,some (some 11,false)⟩,⟨some 15,.fieldAddr 24 (ZT 3) 1,0,some (some 11,false)⟩,⟨some 16,.load 22 (ZT 15),22,some (some 11,false)⟩,⟨some 17,.call ⟨.builtin .len,#[ZT 16],#[22]⟩,3,some (some 11,false)⟩,⟨some 18,.binOp .neq 3 (ZT 14) (ZT 17) 3,4,some (some 11,false)⟩,⟨some 19,.pick (ZT 11) (.const (.bool true)) (ZT 18),4,none⟩])
    (.cond (ZT 19) (.seq (.ops [⟨some 4,.assign (.const (.bool false)),4,none⟩])
    .ret) .skip))
    (.seq (.seq (.ops [⟨some 5,.assign (.const (.int .i64 0)),3,none⟩])
    (.block 0 (.loop (.seq (.seq (.ops [⟨some 20,.move (ZT 5),3,none⟩,⟨some 21,.fieldAddr 24 (ZT 2) 1,0,none⟩,⟨some 22,.load 22 (ZT 21),22,none⟩,⟨some 23,.call ⟨.builtin .len,#[ZT 22],#[22]⟩,3,none⟩,⟨some 24,.binOp .lss 3 (ZT 20) (ZT 23) 3,4,none⟩])
    (.cond (ZT 24) .skip (.exit 0)))
    (.seq (.block 1 (.seq (.draw (.take ⟨some 27,.fieldAddr 24 (ZT 2) 1,0,none⟩ (.take ⟨some 28,.load 22 (ZT 27),22,none⟩ (.take ⟨some 29,.move (ZT 5),3,none⟩ (.take ⟨some 30,.indexAddr 22 (ZT 28) (ZT 29),0,none⟩ (.take ⟨some 31,.fieldAddr 72 (ZT 30) 0,0,none⟩ (.take ⟨some 32,.load 3 (ZT 31),3,none⟩ (.take ⟨some 33,.fieldAddr 24 (ZT 3) 1,0,none⟩ (.take ⟨some 34,.load 22 (ZT 33),22,none⟩ (.take ⟨some 35,.move (ZT 5),3,none⟩ (.take ⟨some 36,.indexAddr 22 (ZT 34) (ZT 35),0,none⟩ (.take ⟨some 37,.fieldAddr 72 (ZT 36) 0,0,none⟩ (.take ⟨some 38,.load 3 (ZT 37),3,none⟩ (.take ⟨some 39,.binOp .neq 3 (ZT 32) (ZT 38) 3,4,none⟩ (.take ⟨some 40,.move (ZT 39),4,none⟩ (.take ⟨some 41,.fieldAddr 24 (ZT 2) 1,0,some (some 40,false)⟩ (.take ⟨some 42,.load 22 (ZT 41),22,some (some 40,false)⟩ (.take ⟨some 43,.move (ZT 5),3,some (some 40,false)⟩ (.take ⟨some 44,.indexAddr 22 (ZT 42) (ZT 43),0,some (some 40,false)⟩ (.take ⟨some 45,.fieldAddr 72 (ZT 44) 1,0,some (some 40,false)⟩ (.take ⟨some 46,.load 35 (ZT 45),35,some (some 40,false)⟩ (.take ⟨some 47,.fieldAddr 24 (ZT 3) 1,0,some (some 40,false)⟩ (.take ⟨some 48,.load 22 (ZT 47),22,some (some 40,false)⟩ (.take ⟨some 49,.move (ZT 5),3,some (some 40,false)⟩ (.take ⟨some 50,.indexAddr 22 (ZT 48) (ZT 49),0,some (some 40,false)⟩ (.take ⟨some 51,.fieldAddr 72 (ZT 50) 1,0,some (some 40,false)⟩ (.take ⟨some 52,.load 35 (ZT 51),35,some (some 40,false)⟩ (.alt ⟨some 53,.call ⟨.value (.func 25),#[ZT 46,ZT 52],#[35,35]⟩,4,some (some 40,false)⟩ (.take ⟨some 54,.unOp .not 4 (ZT 53),4,some (some 40,false)⟩ (.take ⟨some 55,.pick (ZT 40) (.const (.bool true)) (ZT 54),4,none⟩ .done)) .none))))))))))))))))))))))))))))
    (.cond (ZT 55) (.seq (.ops [⟨some 4,.assign (.const (.bool false)),4,none⟩])
    .ret) .skip)))
    (.ops [⟨some 25,.move (ZT 5),3,none⟩,⟨some 26,.binOp .add 3 (ZT 25) (.const (.int .i64 1)) 3,3,none⟩,⟨some 5,.assign (ZT 26),3,none⟩]))))))
    (.seq (.ops [⟨some 4,.assign (.const (.bool true)),4,none⟩])
    .ret))))
def pl15 : Nat → Plan := fun id => if id = 6 then (.take 0 (.take 1 (.take 2 (.take 3 (.take 4 (.take 5 (.take 6 (.take 7 (.take 8 (.take 9 (.take 10 (.take 11 (.take 12 (.take 13 (.take 14 (.take 15 (.take 16 (.take 17 (.take 18 (.take 19 (.take 20 (.take 21 (.take 22 (.take 23 (.take 24 (.take 25 (.alt 26 (.take 27 (.take 28 .done)) .none))))))))))))))))))))))))))) else .done
theorem st15 : Go.Proofs.Tryz.f15.body.map (strip pl15) = some m15 := by kernel_rfl
theorem ok15 : okB pl15 Go.Proofs.Tryz.f15 2 = true := by kernel_rfl
theorem en15 {v0 v1 w} {Q : Value → World → Prop} (h : mwpB ZP m15 (argEnv [v0, v1]) [] w (fun e ds w => ds = [] ∧ resW ZP [.tmp 4] e w fun v => Q v w) (fun _ _ _ _ => False) (fun e ds w => ds = [] ∧ resW ZP [.tmp 4] e w fun v => Q v w) (fun _ _ _ _ => False) ⟨⟩) : Rets ZP 15 #[v0, v1] w Q :=
  rets_of_mwp follows_mo Go.Proofs.Tryz.func15 pl15 st15 ok15 (by kernel_rfl) h
def m20 : MC := (.seq (.ops [⟨some 1,.box 35 (ZT 0),0,none⟩,⟨some 2,.assign (.const (.bool false)),4,none⟩])
    (.seq (.ops [⟨some 4,.load 35 (ZT 1),35,none⟩,⟨some 5,.call ⟨.value (.func 66),#[ZT 4],#[35]⟩,86,none⟩,⟨some 3,.assign (ZT 5),86,none⟩])
    (.seq (.ops [⟨some 6,.move (ZT 3),86,none⟩,⟨some 7,.call ⟨.invoke (ZT 6) "continuo/format.right",#[],#[]⟩,4,none⟩,⟨some 8,.move (ZT 7),4,none⟩,⟨some 9,.move (ZT 3),86,some (some 8,true)⟩,⟨some 10,.fieldAddr 35 (ZT 1) 1,0,some (some 8,true)⟩,⟨some 11,.load 3 (ZT 10),3,some (some 8,true)⟩,⟨some 12,.call ⟨.invoke (ZT 9) "continuo/format.has",#[ZT 11],#[3]⟩,4,some (some 8,true)⟩,⟨some 13,.pick (ZT 8) (ZT 12) (.const (.bool false)),4,none⟩,⟨some 2,.assign (ZT 13),4,none⟩])
    .ret)))
def pl20 : Nat → Plan := fun _ => .done
theorem st20 : Go.Proofs.Tryz.f20.body.map (strip pl20) = some m20 := by kernel_rfl
theorem ok20 : okB pl20 Go.Proofs.Tryz.f20 1 = true := by kernel_rfl
theorem en20 {v0 w} {Q : Value → World → Prop} (h : mwpB ZP m20 (argEnv [v0]) [] w (fun e ds w => ds = [] ∧ resW ZP [.tmp 2] e w fun v => Q v w) (fun _ _ _ _ => False) (fun e ds w => ds = [] ∧ resW ZP [.tmp 2] e w fun v => Q v w) (fun _ _ _ _ => False) ⟨⟩) : Rets ZP 20 #[v0] w Q :=
  rets_of_mwp follows_mo Go.Proofs.Tryz.func20 pl20 st20 ok20 (by kernel_rfl) h
def m21 : MC := (.seq (.ops [⟨some 1,.box 35 (ZT 0),0,none⟩,⟨some 2,.assign (.const (.bool false)),4,none⟩])
    (.seq (.seq (.ops [⟨some 3,.assign (.const (.int .i64 0)),3,none⟩])
    (.block 0 (.loop (.seq (.seq (.ops [⟨some 7,.move (ZT 3),3,none⟩,⟨some 8,.fieldAddr 35 (ZT 1) 2,0,none⟩,⟨some 9,.load 33 (ZT 8),33,none⟩,⟨some 10,.call ⟨.builtin .len,#[ZT 9],#[33]⟩,3,none⟩,⟨some 11,.binOp .lss 3 (ZT 7) (ZT 10) 3,4,none⟩])
    (.cond (ZT 11) .skip (.exit 0)))
    (.seq (.block 1 (.seq (.seq (.ops [⟨some 14,.fieldAddr 35 (ZT 1) 2,0,none⟩,⟨some 15,.load 33 (ZT 14),33,none⟩,⟨some 16,.move (ZT 3),3,none⟩,⟨some 17,.indexAddr 33 (ZT 15) (ZT 16),0,none⟩,⟨some 18,.load 3 (ZT 17),3,none⟩,⟨some 19,.binOp .lss 3 (ZT 18) (.const (.int .i64 0)) 3,4,none⟩,⟨some 20,.move (ZT 19),4,none⟩,⟨some 21,.fieldAddr 35 (ZT 1) 2,0,some (some 20,false)⟩,⟨some 22,.load 33 (ZT 21),33,some (some 20,false)⟩,⟨some 23,.move (ZT 3),3,some (some 20,false)⟩,⟨some 24,.indexAddr 33 (ZT 22) (ZT 23),0,some (some 20,false)⟩,⟨some 25,.load 3 (ZT 24),3,some (some 20,false)⟩,⟨some 26,.binOp .gtr 3 (ZT 25) (.const (.int .i64 1000000000)) 3,4,some (some 20,false)⟩,⟨some 27,.pick (ZT 20) (.const (.bool true)) (ZT 26),4,none⟩])
    (.cond (ZT 27) (.seq (.ops [⟨some 2,.assign (.const (.bool false)),4,none⟩])
    .ret) .skip))
    (.seq (.ops [⟨some 4,.assign (.const (.int .i64 0)),3,none⟩])
    (.block 2 (.loop (.seq (.seq (.ops [⟨some 28,.move (ZT 4),3,none⟩,⟨some 29,.move (ZT 3),3,none⟩,⟨some 30,.binOp .lss 3 (ZT 28) (ZT 29) 3,4,none⟩,⟨some 31,.move (ZT 30),4,none⟩,⟨some 32,.fieldAddr 35 (ZT 1) 0,0,some (some 31,true)⟩,⟨some 33,.load 3 (ZT 32),3,some (some 31,true)⟩,⟨some 34,.binOp .eql 3 (ZT 33) (.const (.int .i64 2)) 3,4,some (some 31,true)⟩,⟨some 35,.pick (ZT 31) (ZT 34) (.const (.bool false)),4,none⟩])
    (.cond (ZT 35) .skip (.exit 2)))
    (.seq (.block 3 (.seq (.draw (.take ⟨some 38,.fieldAddr 35 (ZT 1) 2,0,none⟩ (.take ⟨some 39,.load 33 (ZT 38),33,none⟩ (.take ⟨some 40,.move (ZT 4),3,none⟩ (.take ⟨some 41,.indexAddr 33 (ZT 39) (ZT 40),0,none⟩ (.take ⟨some 42,.load 3 (ZT 41),3,none⟩ (.take ⟨some 43,.fieldAddr 35 (ZT 1) 2,0,none⟩ (.take ⟨some 44,.load 33 (ZT 43),33,none⟩ (.take ⟨some 45,.move (ZT 3),3,none⟩ (.take ⟨some 46,.indexAddr 33 (ZT 44) (ZT 45),0,none⟩ (.take ⟨some 47,.load 3 (ZT 46),3,none⟩ (.take ⟨some 48,.binOp .eql 3 (ZT 42) (ZT 47) 3,4,none⟩ .done))))))))))))
    (.cond (ZT 48) (.seq (.ops [⟨some 2,.assign (.const (.bool false)),4,none⟩])
    .ret) .skip)))
    (.ops [⟨some 36,.move (ZT 4),3,none⟩,⟨some 37,.binOp .add 3 (ZT 36) (.const (.int .i64 1)) 3,3,none⟩,⟨some 4,.assign (ZT 37),3,none⟩]))))))))
    (.ops [⟨some 12,.move (ZT 3),3,none⟩,⟨some 13,.binOp .add 3 (ZT 12) (.const (.int .i64 1)) 3,3,none⟩,⟨some 3,.assign (ZT 13),3,none⟩]))))))
    (.seq (.ops [⟨some 49,.fieldAddr 35 (ZT 1) 2,0,none⟩,⟨some 50,.load 33 (ZT 49),33,none⟩,⟨some 51,.call ⟨.builtin .len,#[ZT 50],#[33]⟩,3,none⟩,⟨some 5,.assign (ZT 51),3,none⟩])
    (.seq (.ops [⟨some 6,.assign (.const (.bool false)),4,none⟩])
    (.seq (.seq (.ops [⟨some 52,.fieldAddr 35 (ZT 1) 0,0,none⟩,⟨some 53,.load 3 (ZT 52),3,none⟩])
    (.block 4 (.seq (.ops [⟨some 55,.binOp .eql 3 (ZT 53) (.const (.int .i64 1)) 3,4,none⟩,⟨some 54,.assign (ZT 55),4,none⟩])
    (.cond (ZT 54) (.ops [⟨some 56,.move (ZT 5),3,none⟩,⟨some 57,.binOp .eql 3 (ZT 56) (.const (.int .i64 1)) 3,4,none⟩,⟨some 6,.assign (ZT 57),4,none⟩]) (.seq (.ops [⟨some 59,.binOp .eql 3 (ZT 53) (.const (.int .i64 2)) 3,4,none⟩,⟨some 58,.assign (ZT 59),4,none⟩])
    (.cond (ZT 58) (.ops [⟨some 60,.move (ZT 5),3,none⟩,⟨some 61,.binOp .geq 3 (ZT 60) (.const (.int .i64 1)) 3,4,none⟩,⟨some 62,.move (ZT 61),4,none⟩,⟨some 63,.move (ZT 5),3,some (some 62,true)⟩,⟨some 64,.binOp .leq 3 (ZT 63) (.const (.int .i64 20)) 3,4,some (some 62,true)⟩,⟨some 65,.pick (ZT 62) (ZT 64) (.const (.bool false)),4,none⟩,⟨some 6,.assign (ZT 65),4,none⟩]) (.seq (.ops [⟨some 67,.binOp .eql 3 (ZT 53) (.const (.int .i64 3)) 3,4,none⟩,⟨some 66,.assign (ZT 67),4,none⟩])
    (.cond (ZT 66) (.draw (.take ⟨some 68,.move (ZT 5),3,none⟩ (.take ⟨some 69,.binOp .eql 3 (ZT 68) (.const (.int .i64 2)) 3,4,none⟩ (.take ⟨some 70,.move (ZT 69),4,none⟩ (.take ⟨some 71,.fieldAddr 35 (ZT 1) 2,0,some (some 70,true)⟩ (.take ⟨some 72,.load 33 (ZT 71),33,some (some 70,true)⟩ (.take ⟨some 73,.indexAddr 33 (ZT 72) (.const (.int .i64 0)),0,some (some 70,true)⟩ (.take ⟨some 74,.load 3 (ZT 73),3,some (some 70,true)⟩ (.take ⟨some 75,.fieldAddr 35 (ZT 1) 2,0,some (some 70,true)⟩ (.take ⟨some 76,.load 33 (ZT 75),33,some (some 70,true)⟩ (.take ⟨some 77,.indexAddr 33 (ZT 76) (.const (.int .i64 1)),0,some (some 70,true)⟩ (.take ⟨some 78,.load 3 (ZT 77),3,some (some 70,true)⟩ (.take ⟨some 79,.binOp .leq 3 (ZT 74) (ZT 78) 3,4,some (some 70,true)⟩ (.take ⟨some 80,.pick (ZT 70) (ZT 79) (.const (.bool false)),4,none⟩ (.take ⟨some 6,.assign (ZT 80),4,none⟩ .done))))))))))))))) (.seq (.ops [⟨some 82,.binOp .eql 3 (ZT 53) (.const (.int .i64 4)) 3,4,none⟩,⟨some 81,.assign (ZT 82),4,none⟩])
    (.cond (ZT 81) (.draw (.take ⟨some 83,.move (ZT 5),3,none⟩ (.take ⟨some 84,.binOp .eql 3 (ZT 83) (.const (.int .i64 3)) 3,4,none⟩ (.take ⟨some 85,.move (ZT 84),4,none⟩ (.take ⟨some 86,.fieldAddr 35 (ZT 1) 2,0,some (some 85,true)⟩ (.take ⟨some 87,.load 33 (ZT 86),33,some (some 85,true)⟩ (.take ⟨some 88,.indexAddr 33 (ZT 87) (.const (.int .i64 0)),0,some (some 85,true)⟩ (.take ⟨some 89,.load 3 (ZT 88),3,some (some 85,true)⟩ (.take ⟨some 90,.fieldAddr 35 (ZT 1) 2,0,some (some 85,true)⟩ (.take ⟨some 91,.load 33 (ZT 90),33,some (some 85,true)⟩ (.take ⟨some 92,.indexAddr 33 (ZT 91) (.const (.int .i64 1)),0,some (some 85,true)⟩ (.take ⟨some 93,.load 3 (ZT 92),3,some (some 85,true)⟩ (.take ⟨some 94,.binOp .leq 3 (ZT 89) (ZT 93) 3,4,some (some 85,true)⟩ (.take ⟨some 95,.pick (ZT 85) (ZT 94) (.const (.bool false)),4,none⟩ (.take ⟨some 96,.move (ZT 95),4,none⟩ (.take ⟨some 97,.fieldAddr 35 (ZT 1) 2,0,some (some 96,true)⟩ (.take ⟨some 98,.load 33 (ZT 97),33,some (some 96,true)⟩ (.take ⟨some 99,.indexAddr 33 (ZT 98) (.const (.int .i64 2)),0,some (some 96,true)⟩ (.take ⟨some 100,.load 3 (ZT 99),3,some (some 96,true)⟩ (.take ⟨some 101,.binOp .geq 3 (ZT 100) (.const (.int .i64 1)) 3,4,some (some 96,true)⟩ (.take ⟨some 102,.pick (ZT 96) (ZT 101) (.const (.bool false)),4,none⟩ (.take ⟨some 103,.move (ZT 102),4,none⟩ (.take ⟨some 104,.fieldAddr 35 (ZT 1) 2,0,some (some 103,true)⟩ (.take ⟨some 105,.load 33 (ZT 104),33,some (some 103,true)⟩ (.take ⟨some 106,.indexAddr 33 (ZT 105) (.const (.int .i64 2)),0,some (some 103,true)⟩ (.take ⟨some 107,.load 3 (ZT 106),3,some (some 103,true)⟩ (.take ⟨some 108,.binOp .leq 3 (ZT 107) (.const (.int .i64 1000)) 3,4,some (some 103,true)⟩ (.take ⟨some 109,.pick (ZT 103) (ZT 108) (.const (.bool false)),4,none⟩ (.take ⟨some 6,.assign (ZT 109),4,none⟩ .done))))))))))))))))))))))))))))) .skip))))))))))
    (.seq (.ops [⟨some 110,.move (ZT 6),4,none⟩,⟨some 111,.move (ZT 110),4,none⟩,⟨some 112,.load 35 (ZT 1),35,some (some 111,true)⟩,⟨some 113,.fieldAddr 35 (ZT 1) 1,0,some (some 111,true)⟩,⟨some 114,.load 3 (ZT 113),3,some (some 111,true)⟩,⟨some 115,.call ⟨.value (.func 26),#[ZT 112,ZT 114],#[35,3]⟩,4,some (some 111,true)⟩,⟨some 116,.pick (ZT 111) (ZT 115) (.const (.bool false)),4,none⟩,⟨some 2,.assign (ZT 116),4,none⟩])
    .ret))))))
def pl21 : Nat → Plan := fun id => if id = 9 then (.take 0 (.take 1 (.take 2 (.take 3 (.take 4 (.take 5 (.take 6 (.take 7 (.take 8 (.take 9 (.take 10 .done))))))))))) else if id = 19 then (.take 0 (.take 1 (.take 2 (.take 3 (.take 4 (.take 5 (.take 6 (.take 7 (.take 8 (.take 9 (.take 10 (.take 11 (.take 12 (.take 13 .done)))))))))))))) else if id = 21 then (.take 0 (.take 1 (.take 2 (.take 3 (.take 4 (.take 5 (.take 6 (.take 7 (.take 8 (.take 9 (.take 10 (.take 11 (.take 12 (.take 13 (.take 14 (.take 15 (.take 16 (.take 17 (.take 18 (.take 19 (.take 20 (.take 21 (.take 22 (.take 23 (.take 24 (.take 25 (.take 26 (.take 27 .done)))))))))))))))))))))))))))) else .done
theorem st21 : Go.Proofs.Tryz.f21.body.map (strip pl21) = some m21 := by kernel_rfl
theorem ok21 : okB pl21 Go.Proofs.Tryz.f21 1 = true := by kernel_rfl
theorem en21 {v0 w} {Q : Value → World → Prop} (h : mwpB ZP m21 (argEnv [v0]) [] w (fun e ds w => ds = [] ∧ resW ZP [.tmp 2] e w fun v => Q v w) (fun _ _ _ _ => False) (fun e ds w => ds = [] ∧ resW ZP [.tmp 2] e w fun v => Q v w) (fun _ _ _ _ => False) ⟨⟩) : Rets ZP 21 #[v0] w Q :=
  rets_of_mwp follows_mo Go.Proofs.Tryz.func21 pl21 st21 ok21 (by kernel_rfl) h
def m25 : MC := (.seq (.ops [⟨some 2,.box 35 (ZT 0),0,none⟩,⟨some 3,.box 35 (ZT 1),0,none⟩,⟨some 4,.assign (.const (.bool false)),4,none⟩])
    (.seq (.seq (.ops [⟨some 6,.fieldAddr 35 (ZT 2) 0,0,none⟩,⟨some 7,.load 3 (ZT 6),3,none⟩,⟨some 8,.fieldAddr 35 (ZT 3) 0,0,none⟩,⟨some 9,.load 3 (ZT 8),3,none⟩,⟨some 10,.binOp .neq 3 (ZT 7) (ZT 9) 3,4,none⟩,⟨some 11,.move (ZT 10),4,none⟩,⟨some 12,.fieldAddr 35 (ZT 2) 1,0,some (some 11,false)⟩,⟨some 13,.load 3 (ZT 12),3,some (some 11,false)⟩,⟨some 14,.fieldAddr 35 (ZT 3) 1,0,some (some 11,false)⟩,⟨some 15,.load 3 (ZT 14),3,some (some 11,false)⟩,⟨some 16,.binOp .neq 3 (ZT 13) (ZT 15) 3,4,some (some 11,false)⟩,⟨some 17,.pick (ZT 11) (.const (.bool true)) (ZT 16),4,none⟩,⟨some 18,.move (ZT 17),4,none⟩,⟨some 19,.fieldAddr 35 (ZT 2) 2,0,some (some 18,false)⟩,⟨some 20,.load 33 (ZT 19),33,some (some 18,false)⟩,⟨some 21,.call ⟨.builtin .len,#[ZT 20],#[33]⟩,3,some (some 18,false)⟩,⟨some 22,.fieldAddr 35 (ZT 3) 2,0,some (some 18,false)⟩,⟨some 23,.load 33 (ZT 22),33,some (some 18,false)⟩,⟨some 24,.call ⟨.builtin .len,#[ZT 23],#[33]⟩,3,some (some 18,false)⟩,⟨some 25,.binOp .neq 3 (ZT 21) (ZT 24) 3,4,some (some 18,false)⟩,⟨some 26,.pick (ZT 18) (.const (.bool true)) (ZT 25),4,none⟩])
    (.cond (ZT 26) (.seq (.ops [⟨some 4,.assign (.const (.bool false)),4,none⟩])
    .ret) .skip))
    (.seq (.seq (.ops [⟨some 5,.assign (.const (.int .i64 0)),3,none⟩])
    (.block 0 (.loop (.seq (.seq (.ops [⟨some 27,.move (ZT 5),3,none⟩,⟨some 28,.fieldAddr 35 (ZT 2) 2,0,none⟩,⟨some 29,.load 33 (ZT 28),33,none⟩,⟨some 30,.call ⟨.builtin .len,#[ZT 29],#[33]⟩,3,none⟩,⟨some 31,.binOp .lss 3 (ZT 27) (ZT 30) 3,4,none⟩])
    (.cond (ZT 31) .skip (.exit 0)))
    (.seq (.block 1 (.seq (.draw (.take ⟨some 34,.fieldAddr 35 (ZT 2) 2,0,none⟩ (.take ⟨some 35,.load 33 (ZT 34),33,none⟩ (.take ⟨some 36,.move (ZT 5),3,none⟩ (.take ⟨some 37,.indexAddr 33 (ZT 35) (ZT 36),0,none⟩ (.take ⟨some 38,.load 3 (ZT 37),3,none⟩ (.take ⟨some 39,.fieldAddr 35 (ZT 3) 2,0,none⟩ (.take ⟨some 40,.load 33 (ZT 39),33,none⟩ (.take ⟨some 41,.move (ZT 5),3,none⟩ (.take ⟨some 42,.indexAddr 33 (ZT 40) (ZT 41),0,none⟩ (.take ⟨some 43,.load 3 (ZT 42),3,none⟩ (.take ⟨some 44,.binOp .neq 3 (ZT 38) (ZT 43) 3,4,none⟩ .done))))))))))))
    (.cond (ZT 44) (.seq (.ops [⟨some 4,.assign (.const (.bool false)),4,none⟩])
    .ret) .skip)))
    (.ops [⟨some 32,.move (ZT 5),3,none⟩,⟨some 33,.binOp .add 3 (ZT 32) (.const (.int .i64 1)) 3,3,none⟩,⟨some 5,.assign (ZT 33),3,none⟩]))))))
    (.seq (.ops [⟨some 4,.assign (.const (.bool true)),4,none⟩])
    .ret))))
def pl25 : Nat → Plan := fun id => if id = 6 then (.take 0 (.take 1 (.take 2 (.take 3 (.take 4 (.take 5 (.take 6 (.take 7 (.take 8 (.take 9 (.take 10 .done))))))))))) else .done
theorem st25 : Go.Proofs.Tryz.f25.body.map (strip pl25) = some m25 := by kernel_rfl
theorem ok25 : okB pl25 Go.Proofs.Tryz.f25 2 = true := by kernel_rfl
theorem en25 {v0 v1 w} {Q : Value → World → Prop} (h : mwpB ZP m25 (argEnv [v0, v1]) [] w (fun e ds w => ds = [] ∧ resW ZP [.tmp 4] e w fun v => Q v w) (fun _ _ _ _ => False) (fun e ds w => ds = [] ∧ resW ZP [.tmp 4] e w fun v => Q v w) (fun _ _ _ _ => False) ⟨⟩) : Rets ZP 25 #[v0, v1] w Q :=
  rets_of_mwp follows_mo Go.Proofs.Tryz.func25 pl25 st25 ok25 (by kernel_rfl) h
def m26 : MC := (.seq (.ops [⟨some 2,.box 35 (ZT 0),0,none⟩,⟨some 4,.assign (.const (.bool false)),4,none⟩])
    (.seq (.seq (.ops [⟨some 6,.fieldAddr 35 (ZT 2) 0,0,none⟩,⟨some 7,.load 3 (ZT 6),3,none⟩,⟨some 8,.binOp .eql 3 (ZT 7) (.const (.int .i64 1)) 3,4,none⟩,⟨some 9,.move (ZT 8),4,none⟩,⟨some 10,.fieldAddr 35 (ZT 2) 0,0,some (some 9,false)⟩,⟨some 11,.load 3 (ZT 10),3,some (some 9,false)⟩,⟨some 12,.binOp .eql 3 (ZT 11) (.const (.int .i64 2)) 3,4,some (some 9,false)⟩,⟨some 13,.pick (ZT 9) (.const (.bool true)) (ZT 12),4,none⟩])
    (.cond (ZT 13) (.seq (.seq (.ops [⟨some 5,.assign (.const (.int .i64 0)),3,none⟩])
    (.block 0 (.loop (.seq (.seq (.ops [⟨some 14,.move (ZT 5),3,none⟩,⟨some 15,.fieldAddr 35 (ZT 2) 2,0,none⟩,⟨some 16,.load 33 (ZT 15),33,none⟩,⟨some 17,.call ⟨.builtin .len,#[ZT 16],#[33]⟩,3,none⟩,⟨some 18,.binOp .lss 3 (ZT 14) (ZT 17) 3,4,none⟩])
    (.cond (ZT 18) .skip (.exit 0)))
    (.seq (.block 1 (.seq (.ops [⟨some 21,.fieldAddr 35 (ZT 2) 2,0,none⟩,⟨some 22,.load 33 (ZT 21),33,none⟩,⟨some 23,.move (ZT 5),3,none⟩,⟨some 24,.indexAddr 33 (ZT 22) (ZT 23),0,none⟩,⟨some 25,.load 3 (ZT 24),3,none⟩,⟨some 26,.move (ZT 1),3,none⟩,⟨some 27,.binOp .eql 3 (ZT 25) (ZT 26) 3,4,none⟩])
    (.cond (ZT 27) (.seq (.ops [⟨some 4,.assign (.const (.bool true)),4,none⟩])
    .ret) .skip)))
    (.ops [⟨some 19,.move (ZT 5),3,none⟩,⟨some 20,.binOp .add 3 (ZT 19) (.const (.int .i64 1)) 3,3,none⟩,⟨some 5,.assign (ZT 20),3,none⟩]))))))
    (.seq (.ops [⟨some 4,.assign (.const (.bool false)),4,none⟩])
    .ret)) .skip))
    (.seq (.draw (.take ⟨some 28,.move (ZT 1),3,none⟩ (.take ⟨some 29,.fieldAddr 35 (ZT 2) 2,0,none⟩ (.take ⟨some 30,.load 33 (ZT 29),33,none⟩ (.take ⟨some 31,.indexAddr 33 (ZT 30) (.const (.int .i64 0)),0,none⟩ (.take ⟨some 32,.load 3 (ZT 31),3,none⟩ (.take ⟨some 33,.binOp .geq 3 (ZT 28) (ZT 32) 3,4,none⟩ (.take ⟨some 34,.move (ZT 33),4,none⟩ (.take ⟨some 35,.move (ZT 1),3,some (some 34,true)⟩ (.take ⟨some 36,.fieldAddr 35 (ZT 2) 2,0,some (some 34,true)⟩ (.take ⟨some 37,.load 33 (ZT 36),33,some (some 34,true)⟩ (.take ⟨some 38,.indexAddr 33 (ZT 37) (.const (.int .i64 1)),0,some (some 34,true)⟩ (.take ⟨some 39,.load 3 (ZT 38),3,some (some 34,true)⟩ (.take ⟨some 40,.binOp .leq 3 (ZT 35) (ZT 39) 3,4,some (some 34,true)⟩ (.take ⟨some 41,.pick (ZT 34) (ZT 40) (.const (.bool false)),4,none⟩ (.take ⟨some 42,.move (ZT 41),4,none⟩ (.take ⟨some 43,.move (ZT 1),3,some (some 42,true)⟩ (.take ⟨some 44,.fieldAddr 35 (ZT 2) 2,0,some (some 42,true)⟩ (.take ⟨some 45,.load 33 (ZT 44),33,some (some 42,true)⟩ (.take ⟨some 46,.indexAddr 33 (ZT 45) (.const (.int .i64 0)),0,some (some 42,true)⟩ (.take ⟨some 47,.load 3 (ZT 46),3,some (some 42,true)⟩ (.take ⟨some 48,.binOp .sub 3 (ZT 43) (ZT 47) 3,3,some (some 42,true)⟩ (.take ⟨some 49,.load 35 (ZT 2),35,some (some 42,true)⟩ (.alt ⟨some 50,.call ⟨.value (.func 70),#[ZT 49],#[35]⟩,3,some (some 42,true)⟩ (.take ⟨some 51,.binOp .rem 3 (ZT 48) (ZT 50) 3,3,some (some 42,true)⟩ (.take ⟨some 52,.binOp .eql 3 (ZT 51) (.const (.int .i64 0)) 3,4,some (some 42,true)⟩ (.take ⟨some 53,.pick (ZT 42) (ZT 52) (.const (.bool false)),4,none⟩ (.take ⟨some 4,.assign (ZT 53),4,none⟩ .done)))) .none))))))))))))))))))))))))
    .ret)))
def pl26 : Nat → Plan := fun id => if id = 8 then (.take 0 (.take 1 (.take 2 (.take 3 (.take 4 (.take 5 (.take 6 (.take 7 (.take 8 (.take 9 (.take 10 (.take 11 (.take 12 (.take 13 (.take 14 (.take 15 (.take 16 (.take 17 (.take 18 (.take 19 (.take 20 (.take 21 (.alt 22 (.take 23 (.take 24 (.take 25 (.take 26 .done)))) .none))))))))))))))))))))))) else .done
theorem st26 : Go.Proofs.Tryz.f26.body.map (strip pl26) = some m26 := by kernel_rfl
theorem ok26 : okB pl26 Go.Proofs.Tryz.f26 2 = true := by kernel_rfl
theorem en26 {v0 v1 w} {Q : Value → World → Prop} (h : mwpB ZP m26 (argEnv [v0, v1]) [] w (fun e ds w => ds = [] ∧ resW ZP [.tmp 4] e w fun v => Q v w) (fun _ _ _ _ => False) (fun e ds w => ds = [] ∧ resW ZP [.tmp 4] e w fun v => Q v w) (fun _ _ _ _ => False) ⟨⟩) : Rets ZP 26 #[v0, v1] w Q :=
  rets_of_mwp follows_mo Go.Proofs.Tryz.func26 pl26 st26 ok26 (by kernel_rfl) h
def m27 : MC := (.seq (.ops [⟨some 1,.box 24 (ZT 0),0,none⟩,⟨some 2,.assign (.const (.bool false)),4,none⟩])
    (.seq (.seq (.ops [⟨some 5,.fieldAddr 24 (ZT 1) 0,0,none⟩,⟨some 6,.load 3 (ZT 5),3,none⟩,⟨some 7,.binOp .lss 3 (ZT 6) (.const (.int .i64 1)) 3,4,none⟩,⟨some 8,.move (ZT 7),4,none⟩,⟨some 9,.fieldAddr 24 (ZT 1) 0,0,some (some 8,false)⟩,⟨some 10,.load 3 (ZT 9),3,some (some 8,false)⟩,⟨some 11,.binOp .gtr 3 (ZT 10) (.const (.int .i64 3)) 3,4,some (some 8,false)⟩,⟨some 12,.pick (ZT 8) (.const (.bool true)) (ZT 11),4,none⟩])
    (.cond (ZT 12) (.seq (.ops [⟨some 2,.assign (.const (.bool false)),4,none⟩])
    .ret) .skip))
    (.seq (.seq (.ops [⟨some 3,.assign (.const (.int .i64 0)),3,none⟩])
    (.block 0 (.loop (.seq (.seq (.ops [⟨some 13,.move (ZT 3),3,none⟩,⟨some 14,.fieldAddr 24 (ZT 1) 1,0,none⟩,⟨some 15,.load 22 (ZT 14),22,none⟩,⟨some 16,.call ⟨.builtin .len,#[ZT 15],#[22]⟩,3,none⟩,⟨some 17,.binOp .lss 3 (ZT 13) (ZT 16) 3,4,none⟩])
    (.cond (ZT 17) .skip (.exit 0)))
    (.seq (.block 1 (.seq (.ops [⟨some 20,.fieldAddr 24 (ZT 1) 1,0,none⟩,⟨some 21,.load 22 (ZT 20),22,none⟩,⟨some 22,.move (ZT 3),3,none⟩,⟨some 23,.indexAddr 22 (ZT 21) (ZT 22),0,none⟩,⟨some 24,.fieldAddr 72 (ZT 23) 0,0,none⟩,⟨some 25,.load 3 (ZT 24),3,none⟩,⟨some 4,.assign (ZT 25),3,none⟩])
    (.seq (.ops [⟨some 26,.move (ZT 4),3,none⟩,⟨some 27,.binOp .lss 3 (ZT 26) (.const (.int .i64 1)) 3,4,none⟩,⟨some 28,.move (ZT 27),4,none⟩,⟨some 29,.move (ZT 4),3,some (some 28,false)⟩,⟨some 30,.binOp .gtr 3 (ZT 29) (.const (.int .i64 6)) 3,4,some (some 28,false)⟩,⟨some 31,.pick (ZT 28) (.const (.bool true)) (ZT 30),4,none⟩,⟨some 32,.move (ZT 31),4,none⟩,⟨some 33,.move (ZT 3),3,some (some 32,false)⟩,⟨some 34,.binOp .gtr 3 (ZT 33) (.const (.int .i64 0)) 3,4,some (some 32,false)⟩,⟨some 35,.move (ZT 34),4,some (some 32,false)⟩,⟨some 36,.fieldAddr 24 (ZT 1) 1,0,some (some 35,true)⟩,⟨some 37,.load 22 (ZT 36),22,some (some 35,true)⟩,⟨some 38,.move (ZT 3),3,some (some 35,true)⟩,⟨some 39,.binOp .sub 3 (ZT 38) (.const (.int .i64 1)) 3,3,some (some 35,true)⟩,⟨some 40,.indexAddr 22 (ZT 37) (ZT 39),0,some (some 35,true)⟩,⟨some 41,.fieldAddr 72 (ZT 40) 0,0,some (some 35,true)⟩,⟨some 42,.load 3 (ZT 41),3,some (some 35,true)⟩,⟨some 43,.move (ZT 4),3,some (some 35,true)⟩,⟨some 44,.binOp .geq 3 (ZT 42) (ZT 43) 3,4,some (some 35,true)⟩,⟨some 45,.pick (ZT 35) (ZT 44) (.const (.bool false)),4,some (some 32,false)⟩,⟨some 46,.pick (ZT 32) (.const (.bool true)) (ZT 45),4,none⟩,⟨some 47,.move (ZT 46),4,none⟩,⟨some 48,.fieldAddr 24 (ZT 1) 1,0,some (some 47,false)⟩,⟨some 49,.load 22 (ZT 48),22,some (some 47,false)⟩,⟨some 50,.move (ZT 3),3,some (some 47,false)⟩,⟨some 51,.indexAddr 22 (ZT 49) (ZT 50),0,some (some 47,false)⟩,⟨some 52,.fieldAddr 72 (ZT 51) 1,0,some (some 47,false)⟩,⟨some 53,.load 35 (ZT 52),35,some (some 47,false)⟩,⟨some 54,.call ⟨.value (.func 21),#[ZT 53],#[35]⟩,4,some (some 47,false)⟩,⟨some 55,.unOp .not 4 (ZT 54),4,some (some 47,false)⟩,⟨some 56,.pick (ZT 47) (.const (.bool true)) (ZT 55),4,none⟩])
    (.cond (ZT 56) (.seq (.ops [⟨some 2,.assign (.const (.bool false)),4,none⟩])
    .ret) .skip))))
    (.ops [⟨some 18,.move (ZT 3),3,none⟩,⟨some 19,.binOp .add 3 (ZT 18) (.const (.int .i64 1)) 3,3,none⟩,⟨some 3,.assign (ZT 19),3,none⟩]))))))
    (.seq (.ops [⟨some 2,.assign (.const (.bool true)),4,none⟩])
    .ret))))
def pl27 : Nat → Plan := fun _ => .done
theorem st27 : Go.Proofs.Tryz.f27.body.map (strip pl27) = some m27 := by kernel_rfl
theorem ok27 : okB pl27 Go.Proofs.Tryz.f27 1 = true := by kernel_rfl
theorem en27 {v0 w} {Q : Value → World → Prop} (h : mwpB ZP m27 (argEnv [v0]) [] w (fun e ds w => ds = [] ∧ resW ZP [.tmp 2] e w fun v => Q v w) (fun _ _ _ _ => False) (fun e ds w => ds = [] ∧ resW ZP [.tmp 2] e w fun v => Q v w) (fun _ _ _ _ => False) ⟨⟩) : Rets ZP 27 #[v0] w Q :=
  rets_of_mwp follows_mo Go.Proofs.Tryz.func27 pl27 st27 ok27 (by kernel_rfl) h
noncomputable def rf28_0 : Code := subC [1, 1, 1, 0, 1, 0] (bodyC Go.Proofs.Tryz.f28)
noncomputable def ra28_0 : Code := subC [0] rf28_0
noncomputable def rb28_0 : Code := subC [1] rf28_0
noncomputable def m28 : MC := (.seq (.ops [⟨some 2,.box 24 (ZT 0),0,none⟩,⟨some 3,.box 24 (ZT 1),0,none⟩,⟨some 4,.alloc 4,0,none⟩,⟨some 5,.alloc 28,0,none⟩])
    (.seq (.seq (.ops [⟨some 8,.load 24 (ZT 2),24,none⟩,⟨some 9,.call ⟨.value (.func 43),#[ZT 8],#[24]⟩,4,none⟩,⟨some 10,.unOp .not 4 (ZT 9),4,none⟩,⟨some 11,.move (ZT 10),4,none⟩,⟨some 12,.load 24 (ZT 3),24,some (some 11,false)⟩,⟨some 13,.call ⟨.value (.func 43),#[ZT 12],#[24]⟩,4,some (some 11,false)⟩,⟨some 14,.unOp .not 4 (ZT 13),4,some (some 11,false)⟩,⟨some 15,.pick (ZT 11) (.const (.bool true)) (ZT 14),4,none⟩])
    (.cond (ZT 15) (.seq (.ops [⟨none,.store 4 (ZT 4) (.const (.bool false)),0,none⟩,⟨none,.store 28 (ZT 5) (.const (.int .i64 1)),0,none⟩])
    .ret) .skip))
    (.seq (.seq (.ops [⟨some 16,.fieldAddr 24 (ZT 2) 0,0,none⟩,⟨some 17,.load 3 (ZT 16),3,none⟩,⟨some 18,.fieldAddr 24 (ZT 3) 0,0,none⟩,⟨some 19,.load 3 (ZT 18),3,none⟩,⟨some 20,.binOp .neq 3 (ZT 17) (ZT 19) 3,4,none⟩])
    (.cond (ZT 20) (.seq (.ops [⟨none,.store 4 (ZT 4) (.const (.bool false)),0,none⟩,⟨none,.store 28 (ZT 5) (.const (.int .i64 0)),0,none⟩])
    .ret) .skip))
    (.seq (.seq (.ops [⟨some 21,.fieldAddr 24 (ZT 2) 1,0,none⟩,⟨some 22,.load 22 (ZT 21),22,none⟩,⟨some 23,.fieldAddr 24 (ZT 3) 1,0,none⟩,⟨some 24,.load 22 (ZT 23),22,none⟩,⟨some 25,.call ⟨.value (.func 71),#[ZT 22,ZT 24],#[22,22]⟩,94,none⟩])
    (.block 0 (.raw rf28_0)))
    (.seq (.ops [⟨none,.store 4 (ZT 4) (.const (.bool true)),0,none⟩,⟨none,.store 28 (ZT 5) (.const (.int .i64 0)),0,none⟩])
    .ret)))))
def pl28 : Nat → Plan := fun id => if id = 8 then (.take 0 (.take 1 (.take 2 (.take 3 (.take 4 (.take 5 (.take 6 (.take 7 (.take 8 (.take 9 (.take 10 (.take 11 (.take 12 (.take 13 (.alt 14 (.take 15 (.take 16 (.take 17 .done))) .none))))))))))))))) else .done
theorem st28 : Go.Proofs.Tryz.f28.body.map (strip pl28) = some m28 := by kernel_rfl
theorem rfE28_0 : rf28_0 = .rangeFunc (.tmp 25) #[26, 27] ra28_0 rb28_0 := by kernel_rfl
noncomputable def mra28_0 : MC := (.seq (.ops [⟨some 6,.assign (ZT 26),96,none⟩])
    (.ops [⟨some 7,.assign (ZT 27),96,none⟩]))
noncomputable def mrb28_0 : MC := (.block 1 (.seq (.draw (.take ⟨some 28,.move (ZT 7),96,none⟩ (.take ⟨some 29,.binOp .neq 96 (ZT 28) (.const (.pointer none)) 96,4,none⟩ (.take ⟨some 30,.move (ZT 29),4,none⟩ (.take ⟨some 31,.move (ZT 6),96,some (some 30,true)⟩ (.take ⟨some 32,.binOp .eql 96 (ZT 31) (.const (.pointer none)) 96,4,some (some 30,true)⟩ (.take ⟨some 33,.move (ZT 32),4,some (some 30,true)⟩ (.take ⟨some 34,.move (ZT 6),96,some (some 33,false)⟩ (.take ⟨some 35,.nilCheck (ZT 34),0,some (some 33,false)⟩ (.take ⟨some 36,.fieldAddr 72 (ZT 35) 1,0,some (some 33,false)⟩ (.take ⟨some 37,.load 35 (ZT 36),35,some (some 33,false)⟩ (.take ⟨some 38,.move (ZT 7),96,some (some 33,false)⟩ (.take ⟨some 39,.nilCheck (ZT 38),0,some (some 33,false)⟩ (.take ⟨some 40,.fieldAddr 72 (ZT 39) 1,0,some (some 33,false)⟩ (.take ⟨some 41,.load 35 (ZT 40),35,some (some 33,false)⟩ (.alt ⟨some 42,.call ⟨.value (.func 72),#[ZT 37,ZT 41],#[35,35]⟩,4,some (some 33,false)⟩ (.take ⟨some 43,.unOp .not 4 (ZT 42),4,some (some 33,false)⟩ (.take ⟨some 44,.pick (ZT 33) (.const (.bool true)) (ZT 43),4,some (some 30,true)⟩ (.take ⟨some 45,.pick (ZT 30) (ZT 44) (.const (.bool false)),4,none⟩ .done))) .none))))))))))))))))
    (.cond (ZT 45) (.seq (.ops [⟨none,.store 4 (ZT 4) (.const (.bool false)),0,none⟩,⟨none,.store 28 (ZT 5) (.const (.int .i64 0)),0,none⟩])
    .ret) .skip)))
theorem stra28_0 : strip pl28 ra28_0 = mra28_0 := by kernel_rfl
theorem okra28_0 : (plansOk pl28 ra28_0 && noDefer ra28_0) = true := by kernel_rfl
theorem strb28_0 : strip pl28 rb28_0 = mrb28_0 := by kernel_rfl
theorem okrb28_0 : (plansOk pl28 rb28_0 && noDefer rb28_0) = true := by kernel_rfl
theorem ok28 : okB pl28 Go.Proofs.Tryz.f28 2 = true := by kernel_rfl
theorem enM28 {v0 v1 w} {Q : Value → World → Prop} (h : mwpB ZP m28 (argEnv [v0, v1]) [] w (fun e ds w => endW ZP [.cell 4 4, .cell 5 28] ds e w Q) (fun _ _ _ _ => False) (fun e ds w => endW ZP [.cell 4 4, .cell 5 28] ds e w Q) (fun _ _ _ _ => False) ⟨⟩) : Rets ZP 28 #[v0, v1] w Q :=
  rets_of_mwpM follows_mo Go.Proofs.Tryz.func28 pl28 st28 ok28 (by kernel_rfl) h
def m29 : MC := (.seq (.ops [⟨some 2,.box 24 (ZT 0),0,none⟩,⟨some 3,.box 24 (ZT 1),0,none⟩,⟨some 4,.alloc 24,0,none⟩,⟨some 5,.assign (.const (.int .i64 0)),28,none⟩])
    (.seq (.seq (.ops [⟨some 6,.load 24 (ZT 2),24,none⟩,⟨some 7,.call ⟨.value (.func 43),#[ZT 6],#[24]⟩,4,none⟩,⟨some 8,.unOp .not 4 (ZT 7),4,none⟩,⟨some 9,.move (ZT 8),4,none⟩,⟨some 10,.load 24 (ZT 3),24,some (some 9,false)⟩,⟨some 11,.call ⟨.value (.func 43),#[ZT 10],#[24]⟩,4,some (some 9,false)⟩,⟨some 12,.unOp .not 4 (ZT 11),4,some (some 9,false)⟩,⟨some 13,.pick (ZT 9) (.const (.bool true)) (ZT 12),4,none⟩])
    (.cond (ZT 13) (.seq (.ops [⟨some 14,.build 24 #[],24,none⟩,⟨none,.store 24 (ZT 4) (ZT 14),0,none⟩,⟨some 5,.assign (.const (.int .i64 1)),28,none⟩])
    .ret) .skip))
    (.seq (.ops [⟨some 15,.load 24 (ZT 2),24,none⟩,⟨some 16,.load 24 (ZT 3),24,none⟩,⟨some 17,.call ⟨.value (.func 73),#[ZT 15,ZT 16],#[24,24]⟩,29,none⟩,⟨some 18,.extract (ZT 17) 0,24,none⟩,⟨some 19,.extract (ZT 17) 1,28,none⟩,⟨none,.store 24 (ZT 4) (ZT 18),0,none⟩,⟨some 5,.assign (ZT 19),28,none⟩])
    .ret)))
def pl29 : Nat → Plan := fun _ => .done
theorem st29 : Go.Proofs.Tryz.f29.body.map (strip pl29) = some m29 := by kernel_rfl
theorem ok29 : okB pl29 Go.Proofs.Tryz.f29 2 = true := by kernel_rfl
theorem en29 {v0 v1 w} {Q : Value → World → Prop} (h : mwpB ZP m29 (argEnv [v0, v1]) [] w (fun e ds w => ds = [] ∧ resW ZP [.cell 4 24, .tmp 5] e w fun v => Q v w) (fun _ _ _ _ => False) (fun e ds w => ds = [] ∧ resW ZP [.cell 4 24, .tmp 5] e w fun v => Q v w) (fun _ _ _ _ => False) ⟨⟩) : Rets ZP 29 #[v0, v1] w Q :=
  rets_of_mwp follows_mo Go.Proofs.Tryz.func29 pl29 st29 ok29 (by kernel_rfl) h
def m36 : MC := (.seq (.ops [⟨some 1,.box 24 (ZT 0),0,none⟩,⟨some 2,.assign (.const (.bool false)),4,none⟩])
    (.seq (.ops [⟨some 3,.load 24 (ZT 1),24,none⟩,⟨some 4,.call ⟨.value (.func 43),#[ZT 3],#[24]⟩,4,none⟩,⟨some 5,.move (ZT 4),4,none⟩,⟨some 6,.fieldAddr 24 (ZT 1) 1,0,some (some 5,true)⟩,⟨some 7,.load 22 (ZT 6),22,some (some 5,true)⟩,⟨some 8,.call ⟨.value (.func 79),#[ZT 7,.func 80],#[22,100]⟩,4,some (some 5,true)⟩,⟨some 9,.unOp .not 4 (ZT 8),4,some (some 5,true)⟩,⟨some 10,.pick (ZT 5) (ZT 9) (.const (.bool false)),4,none⟩,⟨some 2,.assign (ZT 10),4,none⟩])
    .ret))
def pl36 : Nat → Plan := fun _ => .done
theorem st36 : Go.Proofs.Tryz.f36.body.map (strip pl36) = some m36 := by kernel_rfl
theorem ok36 : okB pl36 Go.Proofs.Tryz.f36 1 = true := by kernel_rfl
theorem en36 {v0 w} {Q : Value → World → Prop} (h : mwpB ZP m36 (argEnv [v0]) [] w (fun e ds w => ds = [] ∧ resW ZP [.tmp 2] e w fun v => Q v w) (fun _ _ _ _ => False) (fun e ds w => ds = [] ∧ resW ZP [.tmp 2] e w fun v => Q v w) (fun _ _ _ _ => False) ⟨⟩) : Rets ZP 36 #[v0] w Q :=
  rets_of_mwp follows_mo Go.Proofs.Tryz.func36 pl36 st36 ok36 (by kernel_rfl) h
def m37 : MC := (.seq (.ops [⟨some 2,.box 24 (ZT 0),0,none⟩,⟨some 3,.box 24 (ZT 1),0,none⟩,⟨some 4,.alloc 24,0,none⟩,⟨some 5,.assign (.const (.int .i64 0)),28,none⟩])
    (.seq (.seq (.ops [⟨some 6,.load 24 (ZT 2),24,none⟩,⟨some 7,.call ⟨.value (.func 27),#[ZT 6],#[24]⟩,4,none⟩,⟨some 8,.unOp .not 4 (ZT 7),4,none⟩,⟨some 9,.move (ZT 8),4,none⟩,⟨some 10,.load 24 (ZT 3),24,some (some 9,false)⟩,⟨some 11,.call ⟨.value (.func 27),#[ZT 10],#[24]⟩,4,some (some 9,false)⟩,⟨some 12,.unOp .not 4 (ZT 11),4,some (some 9,false)⟩,⟨some 13,.pick (ZT 9) (.const (.bool true)) (ZT 12),4,none⟩])
    (.cond (ZT 13) (.seq (.ops [⟨some 14,.build 24 #[],24,none⟩,⟨none,.store 24 (ZT 4) (ZT 14),0,none⟩,⟨some 5,.assign (.const (.int .i64 1)),28,none⟩])
    .ret) .skip))
    (.seq (.ops [⟨some 15,.load 24 (ZT 2),24,none⟩,⟨some 16,.load 24 (ZT 3),24,none⟩,⟨some 17,.call ⟨.value (.func 76),#[ZT 15,ZT 16],#[24,24]⟩,29,none⟩,⟨some 18,.extract (ZT 17) 0,24,none⟩,⟨some 19,.extract (ZT 17) 1,28,none⟩,⟨none,.store 24 (ZT 4) (ZT 18),0,none⟩,⟨some 5,.assign (ZT 19),28,none⟩])
    .ret)))
def pl37 : Nat → Plan := fun _ => .done
theorem st37 : Go.Proofs.Tryz.f37.body.map (strip pl37) = some m37 := by kernel_rfl
theorem ok37 : okB pl37 Go.Proofs.Tryz.f37 2 = true := by kernel_rfl
theorem en37 {v0 v1 w} {Q : Value → World → Prop} (h : mwpB ZP m37 (argEnv [v0, v1]) [] w (fun e ds w => ds = [] ∧ resW ZP [.cell 4 24, .tmp 5] e w fun v => Q v w) (fun _ _ _ _ => False) (fun e ds w => ds = [] ∧ resW ZP [.cell 4 24, .tmp 5] e w fun v => Q v w) (fun _ _ _ _ => False) ⟨⟩) : Rets ZP 37 #[v0, v1] w Q :=
  rets_of_mwp follows_mo Go.Proofs.Tryz.func37 pl37 st37 ok37 (by kernel_rfl) h
def m38 : MC := (.seq (.ops [⟨some 1,.box 24 (ZT 0),0,none⟩,⟨some 2,.alloc 24,0,none⟩,⟨some 3,.assign (.const (.int .i64 0)),28,none⟩])
    (.seq (.seq (.ops [⟨some 4,.load 24 (ZT 1),24,none⟩,⟨some 5,.call ⟨.value (.func 43),#[ZT 4],#[24]⟩,4,none⟩,⟨some 6,.unOp .not 4 (ZT 5),4,none⟩])
    (.cond (ZT 6) (.seq (.ops [⟨some 7,.build 24 #[],24,none⟩,⟨none,.store 24 (ZT 2) (ZT 7),0,none⟩,⟨some 3,.assign (.const (.int .i64 1)),28,none⟩])
    .ret) .skip))
    (.seq (.ops [⟨some 8,.load 24 (ZT 1),24,none⟩,⟨some 9,.call ⟨.value (.func 77),#[ZT 8],#[24]⟩,24,none⟩,⟨none,.store 24 (ZT 2) (ZT 9),0,none⟩,⟨some 3,.assign (.const (.int .i64 0)),28,none⟩])
    .ret)))
def pl38 : Nat → Plan := fun _ => .done
theorem st38 : Go.Proofs.Tryz.f38.body.map (strip pl38) = some m38 := by kernel_rfl
theorem ok38 : okB pl38 Go.Proofs.Tryz.f38 1 = true := by kernel_rfl
theorem en38 {v0 w} {Q : Value → World → Prop} (h : mwpB ZP m38 (argEnv [v0]) [] w (fun e ds w => ds = [] ∧ resW ZP [.cell 2 24, .tmp 3] e w fun v => Q v w) (fun _ _ _ _ => False) (fun e ds w => ds = [] ∧ resW ZP [.cell 2 24, .tmp 3] e w fun v => Q v w) (fun _ _ _ _ => False) ⟨⟩) : Rets ZP 38 #[v0] w Q :=
  rets_of_mwp follows_mo Go.Proofs.Tryz.func38 pl38 st38 ok38 (by kernel_rfl) h
def m39 : MC := (.seq (.ops [⟨some 1,.box 24 (ZT 0),0,none⟩,⟨some 2,.alloc 24,0,none⟩,⟨some 3,.assign (.const (.int .i64 0)),28,none⟩])
    (.seq (.seq (.ops [⟨some 4,.load 24 (ZT 1),24,none⟩,⟨some 5,.call ⟨.value (.func 27),#[ZT 4],#[24]⟩,4,none⟩,⟨some 6,.unOp .not 4 (ZT 5),4,none⟩])
    (.cond (ZT 6) (.seq (.ops [⟨some 7,.build 24 #[],24,none⟩,⟨none,.store 24 (ZT 2) (ZT 7),0,none⟩,⟨some 3,.assign (.const (.int .i64 1)),28,none⟩])
    .ret) .skip))
    (.seq (.ops [⟨some 8,.load 24 (ZT 1),24,none⟩,⟨some 9,.call ⟨.value (.func 78),#[ZT 8],#[24]⟩,24,none⟩,⟨none,.store 24 (ZT 2) (ZT 9),0,none⟩,⟨some 3,.assign (.const (.int .i64 0)),28,none⟩])
    .ret)))
def pl39 : Nat → Plan := fun _ => .done
theorem st39 : Go.Proofs.Tryz.f39.body.map (strip pl39) = some m39 := by kernel_rfl
theorem ok39 : okB pl39 Go.Proofs.Tryz.f39 1 = true := by kernel_rfl
theorem en39 {v0 w} {Q : Value → World → Prop} (h : mwpB ZP m39 (argEnv [v0]) [] w (fun e ds w => ds = [] ∧ resW ZP [.cell 2 24, .tmp 3] e w fun v => Q v w) (fun _ _ _ _ => False) (fun e ds w => ds = [] ∧ resW ZP [.cell 2 24, .tmp 3] e w fun v => Q v w) (fun _ _ _ _ => False) ⟨⟩) : Rets ZP 39 #[v0] w Q :=
  rets_of_mwp follows_mo Go.Proofs.Tryz.func39 pl39 st39 ok39 (by kernel_rfl) h
def m40 : MC := (.seq (.ops [⟨some 2,.box 24 (ZT 0),0,none⟩,⟨some 3,.box 24 (ZT 1),0,none⟩,⟨some 4,.assign (.const (.bool false)),4,none⟩,⟨some 5,.assign (.const (.int .i64 0)),28,none⟩])
    (.seq (.seq (.ops [⟨some 9,.load 24 (ZT 2),24,none⟩,⟨some 10,.call ⟨.value (.func 27),#[ZT 9],#[24]⟩,4,none⟩,⟨some 11,.unOp .not 4 (ZT 10),4,none⟩,⟨some 12,.move (ZT 11),4,none⟩,⟨some 13,.load 24 (ZT 3),24,some (some 12,false)⟩,⟨some 14,.call ⟨.value (.func 27),#[ZT 13],#[24]⟩,4,some (some 12,false)⟩,⟨some 15,.unOp .not 4 (ZT 14),4,some (some 12,false)⟩,⟨some 16,.pick (ZT 12) (.const (.bool true)) (ZT 15),4,none⟩])
    (.cond (ZT 16) (.seq (.ops [⟨some 4,.assign (.const (.bool false)),4,none⟩,⟨some 5,.assign (.const (.int .i64 1)),28,none⟩])
    .ret) .skip))
    (.seq (.seq (.ops [⟨some 6,.assign (.const (.int .i64 0)),3,none⟩])
    (.block 0 (.loop (.seq (.seq (.ops [⟨some 17,.move (ZT 6),3,none⟩,⟨some 18,.fieldAddr 24 (ZT 3) 1,0,none⟩,⟨some 19,.load 22 (ZT 18),22,none⟩,⟨some 20,.call ⟨.builtin .len,#[ZT 19],#[22]⟩,3,none⟩,⟨some 21,.binOp .lss 3 (ZT 17) (ZT 20) 3,4,none⟩])
    (.cond (ZT 21) .skip (.exit 0)))
    (.seq (.block 1 (.seq (.draw (.take ⟨some 25,.load 24 (ZT 2),24,none⟩ (.take ⟨some 26,.fieldAddr 24 (ZT 3) 1,0,none⟩ (.take ⟨some 27,.load 22 (ZT 26),22,none⟩ (.take ⟨some 28,.move (ZT 6),3,none⟩ (.take ⟨some 29,.indexAddr 22 (ZT 27) (ZT 28),0,none⟩ (.take ⟨some 30,.fieldAddr 72 (ZT 29) 0,0,none⟩ (.take ⟨some 31,.load 3 (ZT 30),3,none⟩ (.alt ⟨some 32,.call ⟨.value (.func 81),#[ZT 25,ZT 31],#[24,3]⟩,91,none⟩ (.take ⟨some 24,.move (ZT 32),91,none⟩ (.take ⟨some 33,.extract (ZT 24) 0,35,none⟩ (.take ⟨some 34,.extract (ZT 24) 1,4,none⟩ (.alt ⟨some 7,.alloc 35,0,none⟩ (.altL ⟨none,.store 35 (ZT 7) (ZT 33),0,none⟩ (.take ⟨some 8,.assign (ZT 34),4,none⟩ .done) .none) .none)))) (.alt ⟨some 7,.alloc 35,0,none⟩ (.alt ⟨some 32,.call ⟨.value (.func 81),#[ZT 25,ZT 31],#[24,3]⟩,91,none⟩ (.take ⟨some 24,.move (ZT 32),91,none⟩ (.take ⟨some 33,.extract (ZT 24) 0,35,none⟩ (.take ⟨some 34,.extract (ZT 24) 1,4,none⟩ (.altL ⟨none,.store 35 (ZT 7) (ZT 33),0,none⟩ (.take ⟨some 8,.assign (ZT 34),4,none⟩ .done) .none)))) .none) .none))))))))))
    (.seq (.draw (.take ⟨some 35,.move (ZT 8),4,none⟩ (.take ⟨some 36,.unOp .not 4 (ZT 35),4,none⟩ (.take ⟨some 37,.move (ZT 36),4,none⟩ (.take ⟨some 38,.load 35 (ZT 7),35,some (some 37,false)⟩ (.take ⟨some 39,.fieldAddr 24 (ZT 3) 1,0,some (some 37,false)⟩ (.take ⟨some 40,.load 22 (ZT 39),22,some (some 37,false)⟩ (.take ⟨some 41,.move (ZT 6),3,some (some 37,false)⟩ (.take ⟨some 42,.indexAddr 22 (ZT 40) (ZT 41),0,some (some 37,false)⟩ (.take ⟨some 43,.fieldAddr 72 (ZT 42) 1,0,some (some 37,false)⟩ (.take ⟨some 44,.load 35 (ZT 43),35,some (some 37,false)⟩ (.alt ⟨some 45,.call ⟨.value (.func 82),#[ZT 38,ZT 44],#[35,35]⟩,4,some (some 37,false)⟩ (.take ⟨some 46,.unOp .not 4 (ZT 45),4,some (some 37,false)⟩ (.take ⟨some 47,.pick (ZT 37) (.const (.bool true)) (ZT 46),4,none⟩ .done)) .none))))))))))))
    (.cond (ZT 47) (.seq (.ops [⟨some 4,.assign (.const (.bool false)),4,none⟩,⟨some 5,.assign (.const (.int .i64 0)),28,none⟩])
    .ret) .skip))))
    (.ops [⟨some 22,.move (ZT 6),3,none⟩,⟨some 23,.binOp .add 3 (ZT 22) (.const (.int .i64 1)) 3,3,none⟩,⟨some 6,.assign (ZT 23),3,none⟩]))))))
    (.seq (.ops [⟨some 48,.fieldAddr 24 (ZT 2) 0,0,none⟩,⟨some 49,.load 3 (ZT 48),3,none⟩,⟨some 50,.fieldAddr 24 (ZT 3) 0,0,none⟩,⟨some 51,.load 3 (ZT 50),3,none⟩,⟨some 52,.binOp .eql 3 (ZT 49) (ZT 51) 3,4,none⟩,⟨some 4,.assign (ZT 52),4,none⟩,⟨some 5,.assign (.const (.int .i64 0)),28,none⟩])
    .ret))))
def pl40 : Nat → Plan := fun id => if id = 6 then (.take 0 (.take 1 (.take 2 (.take 3 (.take 4 (.take 5 (.take 6 (.alt 7 (.take 8 (.take 9 (.take 10 (.alt 11 (.altL 12 (.take 13 .done) .none) .none)))) (.alt 11 (.alt 7 (.take 8 (.take 9 (.take 10 (.altL 12 (.take 13 .done) .none)))) .none) .none))))))))) else if id = 7 then (.take 0 (.take 1 (.take 2 (.take 3 (.take 4 (.take 5 (.take 6 (.take 7 (.take 8 (.take 9 (.alt 10 (.take 11 (.take 12 .done)) .none))))))))))) else .done
theorem st40 : Go.Proofs.Tryz.f40.body.map (strip pl40) = some m40 := by kernel_rfl
theorem ok40 : okB pl40 Go.Proofs.Tryz.f40 2 = true := by kernel_rfl
theorem en40 {v0 v1 w} {Q : Value → World → Prop} (h : mwpB ZP m40 (argEnv [v0, v1]) [] w (fun e ds w => ds = [] ∧ resW ZP [.tmp 4, .tmp 5] e w fun v => Q v w) (fun _ _ _ _ => False) (fun e ds w => ds = [] ∧ resW ZP [.tmp 4, .tmp 5] e w fun v => Q v w) (fun _ _ _ _ => False) ⟨⟩) : Rets ZP 40 #[v0, v1] w Q :=
  rets_of_mwp follows_mo Go.Proofs.Tryz.func40 pl40 st40 ok40 (by kernel_rfl) h
def m41 : MC := (.seq (.ops [⟨some 2,.box 24 (ZT 0),0,none⟩,⟨some 4,.alloc 35,0,none⟩,⟨some 5,.assign (.const (.int .i64 0)),28,none⟩])
    (.seq (.seq (.ops [⟨some 8,.load 24 (ZT 2),24,none⟩,⟨some 9,.call ⟨.value (.func 43),#[ZT 8],#[24]⟩,4,none⟩,⟨some 10,.unOp .not 4 (ZT 9),4,none⟩])
    (.cond (ZT 10) (.seq (.ops [⟨some 11,.build 35 #[],35,none⟩,⟨none,.store 35 (ZT 4) (ZT 11),0,none⟩,⟨some 5,.assign (.const (.int .i64 1)),28,none⟩])
    .ret) .skip))
    (.seq (.seq (.ops [⟨some 12,.fieldAddr 24 (ZT 2) 1,0,none⟩,⟨some 13,.load 22 (ZT 12),22,none⟩,⟨some 14,.call ⟨.builtin .len,#[ZT 13],#[22]⟩,3,none⟩,⟨some 15,.move (.const (.int .i64 0)),3,none⟩])
    (.block 0 (.loop (.seq (.ops [⟨some 16,.binOp .lss 3 (ZT 15) (ZT 14) 3,0,none⟩])
    (.seq (.cond (ZT 16) .skip (.exit 0))
    (.seq (.block 1 (.seq (.ops [⟨some 17,.indexAddr 22 (ZT 13) (ZT 15),0,none⟩,⟨some 18,.load 72 (ZT 17),72,none⟩,⟨some 7,.alloc 72,0,none⟩,⟨none,.store 72 (ZT 7) (ZT 18),0,none⟩])
    (.seq (.ops [⟨some 19,.fieldAddr 72 (ZT 7) 0,0,none⟩,⟨some 20,.load 3 (ZT 19),3,none⟩,⟨some 21,.move (ZT 1),3,none⟩,⟨some 22,.binOp .eql 3 (ZT 20) (ZT 21) 3,4,none⟩])
    (.cond (ZT 22) (.seq (.ops [⟨some 23,.fieldAddr 72 (ZT 7) 1,0,none⟩,⟨some 24,.load 35 (ZT 23),35,none⟩,⟨some 25,.call ⟨.value (.func 83),#[ZT 24],#[35]⟩,35,none⟩,⟨none,.store 35 (ZT 4) (ZT 25),0,none⟩,⟨some 5,.assign (.const (.int .i64 0)),28,none⟩])
    .ret) .skip))))
    (.ops [⟨some 26,.binOp .add 3 (ZT 15) (.const (.int .i64 1)) 3,3,none⟩,⟨some 15,.move (ZT 26),3,none⟩])))))))
    (.seq (.ops [⟨some 27,.build 35 #[],35,none⟩,⟨none,.store 35 (ZT 4) (ZT 27),0,none⟩,⟨some 5,.assign (.const (.int .i64 8)),28,none⟩])
    .ret))))
def pl41 : Nat → Plan := fun _ => .done
theorem st41 : Go.Proofs.Tryz.f41.body.map (strip pl41) = some m41 := by kernel_rfl
theorem ok41 : okB pl41 Go.Proofs.Tryz.f41 2 = true := by kernel_rfl
theorem en41 {v0 v1 w} {Q : Value → World → Prop} (h : mwpB ZP m41 (argEnv [v0, v1]) [] w (fun e ds w => ds = [] ∧ resW ZP [.cell 4 35, .tmp 5] e w fun v => Q v w) (fun _ _ _ _ => False) (fun e ds w => ds = [] ∧ resW ZP [.cell 4 35, .tmp 5] e w fun v => Q v w) (fun _ _ _ _ => False) ⟨⟩) : Rets ZP 41 #[v0, v1] w Q :=
  rets_of_mwp follows_mo Go.Proofs.Tryz.func41 pl41 st41 ok41 (by kernel_rfl) h
def m42 : MC := (.seq (.ops [⟨some 2,.box 24 (ZT 0),0,none⟩,⟨some 4,.alloc 35,0,none⟩,⟨some 5,.assign (.const (.int .i64 0)),28,none⟩])
    (.seq (.seq (.ops [⟨some 8,.load 24 (ZT 2),24,none⟩,⟨some 9,.call ⟨.value (.func 27),#[ZT 8],#[24]⟩,4,none⟩,⟨some 10,.unOp .not 4 (ZT 9),4,none⟩])
    (.cond (ZT 10) (.seq (.ops [⟨some 11,.build 35 #[],35,none⟩,⟨none,.store 35 (ZT 4) (ZT 11),0,none⟩,⟨some 5,.assign (.const (.int .i64 1)),28,none⟩])
    .ret) .skip))
    (.seq (.ops [⟨some 13,.load 24 (ZT 2),24,none⟩,⟨some 14,.move (ZT 1),3,none⟩,⟨some 15,.call ⟨.value (.func 81),#[ZT 13,ZT 14],#[24,3]⟩,91,none⟩,⟨some 12,.move (ZT 15),91,none⟩,⟨some 16,.extract (ZT 12) 0,35,none⟩,⟨some 17,.extract (ZT 12) 1,4,none⟩,⟨some 6,.alloc 35,0,none⟩,⟨none,.store 35 (ZT 6) (ZT 16),0,none⟩,⟨some 7,.assign (ZT 17),4,none⟩])
    (.seq (.seq (.ops [⟨some 18,.move (ZT 7),4,none⟩,⟨some 19,.unOp .not 4 (ZT 18),4,none⟩])
    (.cond (ZT 19) (.seq (.ops [⟨some 20,.build 35 #[],35,none⟩,⟨none,.store 35 (ZT 4) (ZT 20),0,none⟩,⟨some 5,.assign (.const (.int .i64 8)),28,none⟩])
    .ret) .skip))
    (.seq (.ops [⟨some 21,.load 35 (ZT 6),35,none⟩,⟨none,.store 35 (ZT 4) (ZT 21),0,none⟩,⟨some 5,.assign (.const (.int .i64 0)),28,none⟩])
    .ret)))))
def pl42 : Nat → Plan := fun _ => .done
theorem st42 : Go.Proofs.Tryz.f42.body.map (strip pl42) = some m42 := by kernel_rfl
theorem ok42 : okB pl42 Go.Proofs.Tryz.f42 2 = true := by kernel_rfl
theorem en42 {v0 v1 w} {Q : Value → World → Prop} (h : mwpB ZP m42 (argEnv [v0, v1]) [] w (fun e ds w => ds = [] ∧ resW ZP [.cell 4 35, .tmp 5] e w fun v => Q v w) (fun _ _ _ _ => False) (fun e ds w => ds = [] ∧ resW ZP [.cell 4 35, .tmp 5] e w fun v => Q v w) (fun _ _ _ _ => False) ⟨⟩) : Rets ZP 42 #[v0, v1] w Q :=
  rets_of_mwp follows_mo Go.Proofs.Tryz.func42 pl42 st42 ok42 (by kernel_rfl) h
def m43 : MC := (.seq (.ops [⟨some 1,.box 24 (ZT 0),0,none⟩,⟨some 2,.assign (.const (.bool false)),4,none⟩])
    (.seq (.seq (.ops [⟨some 5,.fieldAddr 24 (ZT 1) 1,0,none⟩,⟨some 6,.load 22 (ZT 5),22,none⟩,⟨some 7,.call ⟨.builtin .len,#[ZT 6],#[22]⟩,3,none⟩,⟨some 8,.move (.const (.int .i64 0)),3,none⟩])
    (.block 0 (.loop (.seq (.ops [⟨some 9,.binOp .lss 3 (ZT 8) (ZT 7) 3,0,none⟩])
    (.seq (.cond (ZT 9) .skip (.exit 0))
    (.seq (.block 1 (.seq (.ops [⟨some 10,.move (ZT 8),3,none⟩,⟨some 11,.indexAddr 22 (ZT 6) (ZT 8),0,none⟩,⟨some 12,.load 72 (ZT 11),72,none⟩,⟨some 4,.alloc 72,0,none⟩,⟨some 3,.assign (ZT 10),3,none⟩,⟨none,.store 72 (ZT 4) (ZT 12),0,none⟩])
    (.seq (.draw (.take ⟨some 13,.fieldAddr 72 (ZT 4) 0,0,none⟩ (.take ⟨some 14,.load 3 (ZT 13),3,none⟩ (.take ⟨some 15,.binOp .lss 3 (ZT 14) (.const (.int .i64 1)) 3,4,none⟩ (.take ⟨some 16,.move (ZT 15),4,none⟩ (.take ⟨some 17,.fieldAddr 72 (ZT 4) 0,0,some (some 16,false)⟩ (.take ⟨some 18,.load 3 (ZT 17),3,some (some 16,false)⟩ (.take ⟨some 19,.binOp .gtr 3 (ZT 18) (.const (.int .i64 6)) 3,4,some (some 16,false)⟩ (.take ⟨some 20,.pick (ZT 16) (.const (.bool true)) (ZT 19),4,none⟩ (.take ⟨some 21,.move (ZT 20),4,none⟩ (.take ⟨some 22,.move (ZT 3),3,some (some 21,false)⟩ (.take ⟨some 23,.binOp .gtr 3 (ZT 22) (.const (.int .i64 0)) 3,4,some (some 21,false)⟩ (.take ⟨some 24,.move (ZT 23),4,some (some 21,false)⟩ (.take ⟨some 25,.fieldAddr 24 (ZT 1) 1,0,some (some 24,true)⟩ (.take ⟨some 26,.load 22 (ZT 25),22,some (some 24,true)⟩ (.take ⟨some 27,.move (ZT 3),3,some (some 24,true)⟩ (.take ⟨some 28,.binOp .sub 3 (ZT 27) (.const (.int .i64 1)) 3,3,some (some 24,true)⟩ (.take ⟨some 29,.indexAddr 22 (ZT 26) (ZT 28),0,some (some 24,true)⟩ (.take ⟨some 30,.fieldAddr 72 (ZT 29) 0,0,some (some 24,true)⟩ (.take ⟨some 31,.load 3 (ZT 30),3,some (some 24,true)⟩ (.take ⟨some 32,.fieldAddr 72 (ZT 4) 0,0,some (some 24,true)⟩ (.take ⟨some 33,.load 3 (ZT 32),3,some (some 24,true)⟩ (.take ⟨some 34,.binOp .geq 3 (ZT 31) (ZT 33) 3,4,some (some 24,true)⟩ (.take ⟨some 35,.pick (ZT 24) (ZT 34) (.const (.bool false)),4,some (some 21,false)⟩ (.take ⟨some 36,.pick (ZT 21) (.const (.bool true)) (ZT 35),4,none⟩ (.take ⟨some 37,.move (ZT 36),4,none⟩ (.take ⟨some 38,.fieldAddr 72 (ZT 4) 1,0,some (some 37,false)⟩ (.take ⟨some 39,.load 35 (ZT 38),35,some (some 37,false)⟩ (.alt ⟨some 40,.call ⟨.value (.func 20),#[ZT 39],#[35]⟩,4,some (some 37,false)⟩ (.take ⟨some 41,.unOp .not 4 (ZT 40),4,some (some 37,false)⟩ (.take ⟨some 42,.pick (ZT 37) (.const (.bool true)) (ZT 41),4,none⟩ .done)) .none)))))))))))))))))))))))))))))
    (.cond (ZT 42) (.seq (.ops [⟨some 2,.assign (.const (.bool false)),4,none⟩])
    .ret) .skip))))
    (.ops [⟨some 43,.binOp .add 3 (ZT 8) (.const (.int .i64 1)) 3,3,none⟩,⟨some 8,.move (ZT 43),3,none⟩])))))))
    (.seq (.ops [⟨some 44,.fieldAddr 24 (ZT 1) 0,0,none⟩,⟨some 45,.load 3 (ZT 44),3,none⟩,⟨some 46,.binOp .geq 3 (ZT 45) (.const (.int .i64 1)) 3,4,none⟩,⟨some 47,.move (ZT 46),4,none⟩,⟨some 48,.fieldAddr 24 (ZT 1) 0,0,some (some 47,true)⟩,⟨some 49,.load 3 (ZT 48),3,some (some 47,true)⟩,⟨some 50,.binOp .leq 3 (ZT 49) (.const (.int .i64 3)) 3,4,some (some 47,true)⟩,⟨some 51,.pick (ZT 47) (ZT 50) (.const (.bool false)),4,none⟩,⟨some 2,.assign (ZT 51),4,none⟩])
    .ret)))
def pl43 : Nat → Plan := fun id => if id = 4 then (.take 0 (.take 1 (.take 2 (.take 3 (.take 4 (.take 5 (.take 6 (.take 7 (.take 8 (.take 9 (.take 10 (.take 11 (.take 12 (.take 13 (.take 14 (.take 15 (.take 16 (.take 17 (.take 18 (.take 19 (.take 20 (.take 21 (.take 22 (.take 23 (.take 24 (.take 25 (.take 26 (.alt 27 (.take 28 (.take 29 .done)) .none)))))))))))))))))))))))))))) else .done
theorem st43 : Go.Proofs.Tryz.f43.body.map (strip pl43) = some m43 := by kernel_rfl
theorem ok43 : okB pl43 Go.Proofs.Tryz.f43 1 = true := by kernel_rfl
theorem en43 {v0 w} {Q : Value → World → Prop} (h : mwpB ZP m43 (argEnv [v0]) [] w (fun e ds w => ds = [] ∧ resW ZP [.tmp 2] e w fun v => Q v w) (fun _ _ _ _ => False) (fun e ds w => ds = [] ∧ resW ZP [.tmp 2] e w fun v => Q v w) (fun _ _ _ _ => False) ⟨⟩) : Rets ZP 43 #[v0] w Q :=
  rets_of_mwp follows_mo Go.Proofs.Tryz.func43 pl43 st43 ok43 (by kernel_rfl) h
def m44 : MC := (.seq (.ops [⟨some 2,.box 24 (ZT 0),0,none⟩,⟨some 3,.box 24 (ZT 1),0,none⟩,⟨some 4,.assign (.const (.bool false)),4,none⟩])
    (.seq (.ops [⟨some 5,.fieldAddr 24 (ZT 2) 0,0,none⟩,⟨some 6,.load 3 (ZT 5),3,none⟩,⟨some 7,.fieldAddr 24 (ZT 3) 0,0,none⟩,⟨some 8,.load 3 (ZT 7),3,none⟩,⟨some 9,.binOp .eql 3 (ZT 6) (ZT 8) 3,4,none⟩,⟨some 10,.move (ZT 9),4,none⟩,⟨some 11,.fieldAddr 24 (ZT 2) 1,0,some (some 10,true)⟩,⟨some 12,.load 22 (ZT 11),22,some (some 10,true)⟩,⟨some 13,.fieldAddr 24 (ZT 3) 1,0,some (some 10,true)⟩,⟨some 14,.load 22 (ZT 13),22,some (some 10,true)⟩,⟨some 15,.call ⟨.value (.func 84),#[ZT 12,ZT 14,.func 85],#[22,22,104]⟩,4,some (some 10,true)⟩,⟨some 16,.pick (ZT 10) (ZT 15) (.const (.bool false)),4,none⟩,⟨some 4,.assign (ZT 16),4,none⟩])
    .ret))
def pl44 : Nat → Plan := fun _ => .done
theorem st44 : Go.Proofs.Tryz.f44.body.map (strip pl44) = some m44 := by kernel_rfl
theorem ok44 : okB pl44 Go.Proofs.Tryz.f44 2 = true := by kernel_rfl
theorem en44 {v0 v1 w} {Q : Value → World → Prop} (h : mwpB ZP m44 (argEnv [v0, v1]) [] w (fun e ds w => ds = [] ∧ resW ZP [.tmp 4] e w fun v => Q v w) (fun _ _ _ _ => False) (fun e ds w => ds = [] ∧ resW ZP [.tmp 4] e w fun v => Q v w) (fun _ _ _ _ => False) ⟨⟩) : Rets ZP 44 #[v0, v1] w Q :=
  rets_of_mwp follows_mo Go.Proofs.Tryz.func44 pl44 st44 ok44 (by kernel_rfl) h
def m45 : MC := (.seq (.ops [⟨some 1,.box 24 (ZT 0),0,none⟩,⟨some 2,.assign (.const (.bool false)),4,none⟩])
    (.seq (.seq (.ops [⟨some 3,.assign (.const (.int .i64 0)),3,none⟩])
    (.block 0 (.loop (.seq (.seq (.ops [⟨some 4,.move (ZT 3),3,none⟩,⟨some 5,.fieldAddr 24 (ZT 1) 1,0,none⟩,⟨some 6,.load 22 (ZT 5),22,none⟩,⟨some 7,.call ⟨.builtin .len,#[ZT 6],#[22]⟩,3,none⟩,⟨some 8,.binOp .lss 3 (ZT 4) (ZT 7) 3,4,none⟩])
    (.cond (ZT 8) .skip (.exit 0)))
    (.seq (.block 1 (.seq (.ops [⟨some 11,.fieldAddr 24 (ZT 1) 1,0,none⟩,⟨some 12,.load 22 (ZT 11),22,none⟩,⟨some 13,.move (ZT 3),3,none⟩,⟨some 14,.indexAddr 22 (ZT 12) (ZT 13),0,none⟩,⟨some 15,.fieldAddr 72 (ZT 14) 1,0,none⟩,⟨some 16,.fieldAddr 35 (ZT 15) 0,0,none⟩,⟨some 17,.load 3 (ZT 16),3,none⟩,⟨some 18,.binOp .neq 3 (ZT 17) (.const (.int .i64 1)) 3,4,none⟩])
    (.cond (ZT 18) (.seq (.ops [⟨some 2,.assign (.const (.bool false)),4,none⟩])
    .ret) .skip)))
    (.ops [⟨some 9,.move (ZT 3),3,none⟩,⟨some 10,.binOp .add 3 (ZT 9) (.const (.int .i64 1)) 3,3,none⟩,⟨some 3,.assign (ZT 10),3,none⟩]))))))
    (.seq (.ops [⟨some 19,.load 24 (ZT 1),24,none⟩,⟨some 20,.call ⟨.value (.func 27),#[ZT 19],#[24]⟩,4,none⟩,⟨some 2,.assign (ZT 20),4,none⟩])
    .ret)))
def pl45 : Nat → Plan := fun _ => .done
theorem st45 : Go.Proofs.Tryz.f45.body.map (strip pl45) = some m45 := by kernel_rfl
theorem ok45 : okB pl45 Go.Proofs.Tryz.f45 1 = true := by kernel_rfl
theorem en45 {v0 w} {Q : Value → World → Prop} (h : mwpB ZP m45 (argEnv [v0]) [] w (fun e ds w => ds = [] ∧ resW ZP [.tmp 2] e w fun v => Q v w) (fun _ _ _ _ => False) (fun e ds w => ds = [] ∧ resW ZP [.tmp 2] e w fun v => Q v w) (fun _ _ _ _ => False) ⟨⟩) : Rets ZP 45 #[v0] w Q :=
  rets_of_mwp follows_mo Go.Proofs.Tryz.func45 pl45 st45 ok45 (by kernel_rfl) h
end Go.Proofs.YthcdnjbhhaonhaaGreatDoor
