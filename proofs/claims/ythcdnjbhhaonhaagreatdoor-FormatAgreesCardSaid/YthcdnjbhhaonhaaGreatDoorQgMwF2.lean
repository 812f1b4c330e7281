/- The functions, stripped. -/
import Derived.Test.YthcdnjbhhaonhaaGreatDoorQgMwT
import Derived.Test.YthcdnjbhhaonhaaGreatDoorQgMwIn

namespace Go.Proofs.YthcdnjbhhaonhaaGreatDoor
open Go.RowKit
open Go.Operand renaming tmp → ZT
open Go.Proofs.Tryz renaming prog → ZP
set_option maxRecDepth 100000
def m130 : MC := (.seq (.ops [⟨some 4,.alloc 35,0,none⟩,⟨some 5,.assign (.const (.bool false)),4,none⟩])
    (.seq (.ops [⟨some 6,.move (ZT 0),86,none⟩,⟨some 7,.typeAssert (ZT 6) 86 110 false,110,none⟩,⟨some 8,.move (ZT 1),86,none⟩,⟨some 9,.call ⟨.value (.func 131),#[ZT 7,ZT 8],#[110,86]⟩,91,none⟩,⟨some 10,.extract (ZT 9) 0,35,none⟩,⟨some 11,.extract (ZT 9) 1,4,none⟩,⟨none,.store 35 (ZT 4) (ZT 10),0,none⟩,⟨some 5,.assign (ZT 11),4,none⟩])
    .ret))
def pl130 : Nat → Plan := fun _ => .done
theorem st130 : Go.Proofs.Tryz.f130.body.map (strip pl130) = some m130 := by kernel_rfl
theorem ok130 : okB pl130 Go.Proofs.Tryz.f130 2 = true := by kernel_rfl
theorem en130 {v0 v1 w} {Q : Value → World → Prop} (h : mwpB ZP m130 (argEnv [v0, v1]) [] w (fun e ds w => ds = [] ∧ resW ZP [.cell 4 35, .tmp 5] e w fun v => Q v w) (fun _ _ _ _ => False) (fun e ds w => ds = [] ∧ resW ZP [.cell 4 35, .tmp 5] e w fun v => Q v w) (fun _ _ _ _ => False) ⟨⟩) : Rets ZP 130 #[v0, v1] w Q :=
  rets_of_mwp follows_mo Go.Proofs.Tryz.func130 pl130 st130 ok130 (by kernel_rfl) h
def m131 : MC := (.seq (.ops [⟨some 4,.alloc 35,0,none⟩,⟨some 5,.assign (.const (.bool false)),4,none⟩])
    (.seq (.ops [⟨some 6,.assign (.const (.slice none 0 0)),33,none⟩])
    (.seq (.seq (.ops [⟨some 9,.move (ZT 0),110,none⟩,⟨some 10,.call ⟨.builtin .len,#[ZT 9],#[110]⟩,3,none⟩,⟨some 11,.move (.const (.int .i64 0)),3,none⟩])
    (.block 0 (.loop (.seq (.ops [⟨some 12,.binOp .lss 3 (ZT 11) (ZT 10) 3,0,none⟩])
    (.seq (.cond (ZT 12) .skip (.exit 0))
    (.seq (.block 1 (.seq (.ops [⟨some 13,.indexAddr 110 (ZT 9) (ZT 11),0,none⟩,⟨some 14,.load 3 (ZT 13),3,none⟩,⟨some 8,.assign (ZT 14),3,none⟩])
    (.seq (.ops [⟨some 15,.move (ZT 1),86,none⟩,⟨some 16,.move (ZT 8),3,none⟩,⟨some 17,.call ⟨.invoke (ZT 15) "continuo/format.has",#[ZT 16],#[3]⟩,4,none⟩])
    (.cond (ZT 17) (.ops [⟨some 18,.move (ZT 6),33,none⟩,⟨some 19,.move (ZT 8),3,none⟩,⟨some 20,.buildSlice 33 1 #[(0,ZT 19)],33,none⟩,⟨some 21,.call ⟨.builtin .append,#[ZT 18,ZT 20],#[33,33]⟩,33,none⟩,⟨some 6,.assign (ZT 21),33,none⟩]) .skip))))
    (.ops [⟨some 22,.binOp .add 3 (ZT 11) (.const (.int .i64 1)) 3,3,none⟩,⟨some 11,.move (ZT 22),3,none⟩])))))))
    (.seq (.ops [⟨some 23,.move (ZT 6),33,none⟩,⟨some 24,.call ⟨.value (.func 158),#[ZT 23],#[33]⟩,35,none⟩,⟨some 25,.move (ZT 6),33,none⟩,⟨some 26,.call ⟨.builtin .len,#[ZT 25],#[33]⟩,3,none⟩,⟨some 27,.binOp .gtr 3 (ZT 26) (.const (.int .i64 0)) 3,4,none⟩,⟨none,.store 35 (ZT 4) (ZT 24),0,none⟩,⟨some 5,.assign (ZT 27),4,none⟩])
    .ret))))
def pl131 : Nat → Plan := fun _ => .done
theorem st131 : Go.Proofs.Tryz.f131.body.map (strip pl131) = some m131 := by kernel_rfl
theorem ok131 : okB pl131 Go.Proofs.Tryz.f131 2 = true := by kernel_rfl
theorem en131 {v0 v1 w} {Q : Value → World → Prop} (h : mwpB ZP m131 (argEnv [v0, v1]) [] w (fun e ds w => ds = [] ∧ resW ZP [.cell 4 35, .tmp 5] e w fun v => Q v w) (fun _ _ _ _ => False) (fun e ds w => ds = [] ∧ resW ZP [.cell 4 35, .tmp 5] e w fun v => Q v w) (fun _ _ _ _ => False) ⟨⟩) : Rets ZP 131 #[v0, v1] w Q :=
  rets_of_mwp follows_mo Go.Proofs.Tryz.func131 pl131 st131 ok131 (by kernel_rfl) h
def m132 : MC := (.seq (.ops [⟨some 4,.alloc 35,0,none⟩,⟨some 5,.assign (.const (.bool false)),4,none⟩])
    (.seq (.ops [⟨some 6,.move (ZT 0),86,none⟩,⟨some 7,.typeAssert (ZT 6) 86 110 false,110,none⟩,⟨some 8,.move (ZT 1),86,none⟩,⟨some 9,.call ⟨.value (.func 131),#[ZT 7,ZT 8],#[110,86]⟩,91,none⟩,⟨some 10,.extract (ZT 9) 0,35,none⟩,⟨some 11,.extract (ZT 9) 1,4,none⟩,⟨none,.store 35 (ZT 4) (ZT 10),0,none⟩,⟨some 5,.assign (ZT 11),4,none⟩])
    .ret))
def pl132 : Nat → Plan := fun _ => .done
theorem st132 : Go.Proofs.Tryz.f132.body.map (strip pl132) = some m132 := by kernel_rfl
theorem ok132 : okB pl132 Go.Proofs.Tryz.f132 2 = true := by kernel_rfl
theorem en132 {v0 v1 w} {Q : Value → World → Prop} (h : mwpB ZP m132 (argEnv [v0, v1]) [] w (fun e ds w => ds = [] ∧ resW ZP [.cell 4 35, .tmp 5] e w fun v => Q v w) (fun _ _ _ _ => False) (fun e ds w => ds = [] ∧ resW ZP [.cell 4 35, .tmp 5] e w fun v => Q v w) (fun _ _ _ _ => False) ⟨⟩) : Rets ZP 132 #[v0, v1] w Q :=
  rets_of_mwp follows_mo Go.Proofs.Tryz.func132 pl132 st132 ok132 (by kernel_rfl) h
def m133 : MC := (.seq (.ops [⟨some 4,.alloc 35,0,none⟩,⟨some 5,.assign (.const (.bool false)),4,none⟩])
    (.seq (.ops [⟨some 6,.move (ZT 1),86,none⟩,⟨some 7,.typeAssert (ZT 6) 86 110 false,110,none⟩,⟨some 8,.move (ZT 0),86,none⟩,⟨some 9,.call ⟨.value (.func 131),#[ZT 7,ZT 8],#[110,86]⟩,91,none⟩,⟨some 10,.extract (ZT 9) 0,35,none⟩,⟨some 11,.extract (ZT 9) 1,4,none⟩,⟨none,.store 35 (ZT 4) (ZT 10),0,none⟩,⟨some 5,.assign (ZT 11),4,none⟩])
    .ret))
def pl133 : Nat → Plan := fun _ => .done
theorem st133 : Go.Proofs.Tryz.f133.body.map (strip pl133) = some m133 := by kernel_rfl
theorem ok133 : okB pl133 Go.Proofs.Tryz.f133 2 = true := by kernel_rfl
theorem en133 {v0 v1 w} {Q : Value → World → Prop} (h : mwpB ZP m133 (argEnv [v0, v1]) [] w (fun e ds w => ds = [] ∧ resW ZP [.cell 4 35, .tmp 5] e w fun v => Q v w) (fun _ _ _ _ => False) (fun e ds w => ds = [] ∧ resW ZP [.cell 4 35, .tmp 5] e w fun v => Q v w) (fun _ _ _ _ => False) ⟨⟩) : Rets ZP 133 #[v0, v1] w Q :=
  rets_of_mwp follows_mo Go.Proofs.Tryz.func133 pl133 st133 ok133 (by kernel_rfl) h
def m134 : MC := (.seq (.ops [⟨some 4,.alloc 35,0,none⟩,⟨some 5,.assign (.const (.bool false)),4,none⟩])
    (.seq (.draw (.take ⟨some 6,.move (ZT 0),86,none⟩ (.take ⟨some 7,.typeAssert (ZT 6) 86 112 false,112,none⟩ (.take ⟨some 8,.move (ZT 1),86,none⟩ (.take ⟨some 9,.typeAssert (ZT 8) 86 112 false,112,none⟩ (.alt ⟨some 10,.call ⟨.value (.func 135),#[ZT 7,ZT 9],#[112,112]⟩,91,none⟩ (.take ⟨some 11,.extract (ZT 10) 0,35,none⟩ (.take ⟨some 12,.extract (ZT 10) 1,4,none⟩ (.altL ⟨none,.store 35 (ZT 4) (ZT 11),0,none⟩ (.take ⟨some 5,.assign (ZT 12),4,none⟩ .done) .none))) .none))))))
    .ret))
def pl134 : Nat → Plan := fun id => if id = 1 then (.take 0 (.take 1 (.take 2 (.take 3 (.alt 4 (.take 5 (.take 6 (.altL 7 (.take 8 .done) .none))) .none))))) else .done
theorem st134 : Go.Proofs.Tryz.f134.body.map (strip pl134) = some m134 := by kernel_rfl
theorem ok134 : okB pl134 Go.Proofs.Tryz.f134 2 = true := by kernel_rfl
theorem en134 {v0 v1 w} {Q : Value → World → Prop} (h : mwpB ZP m134 (argEnv [v0, v1]) [] w (fun e ds w => ds = [] ∧ resW ZP [.cell 4 35, .tmp 5] e w fun v => Q v w) (fun _ _ _ _ => False) (fun e ds w => ds = [] ∧ resW ZP [.cell 4 35, .tmp 5] e w fun v => Q v w) (fun _ _ _ _ => False) ⟨⟩) : Rets ZP 134 #[v0, v1] w Q :=
  rets_of_mwp follows_mo Go.Proofs.Tryz.func134 pl134 st134 ok134 (by kernel_rfl) h
def m135 : MC := (.seq (.ops [⟨some 2,.box 112 (ZT 0),0,none⟩,⟨some 3,.box 112 (ZT 1),0,none⟩,⟨some 4,.alloc 35,0,none⟩,⟨some 5,.assign (.const (.bool false)),4,none⟩])
    (.seq (.draw (.take ⟨some 13,.fieldAddr 112 (ZT 2) 0,0,none⟩ (.take ⟨some 14,.load 3 (ZT 13),3,none⟩ (.take ⟨some 15,.fieldAddr 112 (ZT 3) 0,0,none⟩ (.take ⟨some 16,.load 3 (ZT 15),3,none⟩ (.take ⟨some 17,.call ⟨.builtin .max,#[ZT 14,ZT 16],#[3,3]⟩,3,none⟩ (.take ⟨some 18,.fieldAddr 112 (ZT 2) 1,0,none⟩ (.take ⟨some 19,.load 3 (ZT 18),3,none⟩ (.take ⟨some 20,.fieldAddr 112 (ZT 3) 1,0,none⟩ (.take ⟨some 21,.load 3 (ZT 20),3,none⟩ (.take ⟨some 22,.call ⟨.builtin .min,#[ZT 19,ZT 21],#[3,3]⟩,3,none⟩ (.take ⟨some 6,.assign (ZT 17),3,none⟩ (.take ⟨some 7,.assign (ZT 22),3,none⟩ .done)))))))))))))
    (.seq (.draw (.take ⟨some 23,.fieldAddr 112 (ZT 2) 0,0,none⟩ (.take ⟨some 24,.load 3 (ZT 23),3,none⟩ (.take ⟨some 25,.move (ZT 6),3,none⟩ (.take ⟨some 26,.fieldAddr 112 (ZT 2) 0,0,none⟩ (.take ⟨some 27,.load 3 (ZT 26),3,none⟩ (.take ⟨some 28,.binOp .sub 3 (ZT 25) (ZT 27) 3,3,none⟩ (.take ⟨some 29,.call ⟨.builtin .max,#[ZT 28,.const (.int .i64 0)],#[3,3]⟩,3,none⟩ (.take ⟨some 30,.fieldAddr 112 (ZT 2) 2,0,none⟩ (.take ⟨some 31,.load 3 (ZT 30),3,none⟩ (.take ⟨some 32,.binOp .add 3 (ZT 29) (ZT 31) 3,3,none⟩ (.take ⟨some 33,.binOp .sub 3 (ZT 32) (.const (.int .i64 1)) 3,3,none⟩ (.take ⟨some 34,.fieldAddr 112 (ZT 2) 2,0,none⟩ (.take ⟨some 35,.load 3 (ZT 34),3,none⟩ (.take ⟨some 36,.binOp .quo 3 (ZT 33) (ZT 35) 3,3,none⟩ (.take ⟨some 37,.fieldAddr 112 (ZT 2) 2,0,none⟩ (.take ⟨some 38,.load 3 (ZT 37),3,none⟩ (.take ⟨some 39,.binOp .mul 3 (ZT 36) (ZT 38) 3,3,none⟩ (.take ⟨some 40,.binOp .add 3 (ZT 24) (ZT 39) 3,3,none⟩ (.take ⟨some 8,.assign (ZT 40),3,none⟩ .done))))))))))))))))))))
    (.seq (.seq (.ops [⟨some 9,.assign (.const (.int .i64 0)),3,none⟩])
    (.block 0 (.loop (.seq (.seq (.ops [⟨some 41,.move (ZT 9),3,none⟩,⟨some 42,.fieldAddr 112 (ZT 3) 2,0,none⟩,⟨some 43,.load 3 (ZT 42),3,none⟩,⟨some 44,.binOp .lss 3 (ZT 41) (ZT 43) 3,4,none⟩,⟨some 45,.move (ZT 44),4,none⟩,⟨some 46,.move (ZT 8),3,some (some 45,true)⟩,⟨some 47,.move (ZT 7),3,some (some 45,true)⟩,⟨some 48,.binOp .leq 3 (ZT 46) (ZT 47) 3,4,some (some 45,true)⟩,⟨some 49,.pick (ZT 45) (ZT 48) (.const (.bool false)),4,none⟩,⟨some 50,.move (ZT 49),4,none⟩,⟨some 51,.load 112 (ZT 3),112,some (some 50,true)⟩,⟨some 52,.move (ZT 8),3,some (some 50,true)⟩,⟨some 53,.call ⟨.value (.func 108),#[ZT 51,ZT 52],#[112,3]⟩,4,some (some 50,true)⟩,⟨some 54,.unOp .not 4 (ZT 53),4,some (some 50,true)⟩,⟨some 55,.pick (ZT 50) (ZT 54) (.const (.bool false)),4,none⟩])
    (.cond (ZT 55) .skip (.exit 0)))
    (.seq (.block 1 (.ops [⟨some 58,.move (ZT 8),3,none⟩,⟨some 59,.fieldAddr 112 (ZT 2) 2,0,none⟩,⟨some 60,.load 3 (ZT 59),3,none⟩,⟨some 61,.binOp .add 3 (ZT 58) (ZT 60) 3,3,none⟩,⟨some 8,.assign (ZT 61),3,none⟩]))
    (.ops [⟨some 56,.move (ZT 9),3,none⟩,⟨some 57,.binOp .add 3 (ZT 56) (.const (.int .i64 1)) 3,3,none⟩,⟨some 9,.assign (ZT 57),3,none⟩]))))))
    (.seq (.seq (.ops [⟨some 62,.move (ZT 8),3,none⟩,⟨some 63,.move (ZT 7),3,none⟩,⟨some 64,.binOp .gtr 3 (ZT 62) (ZT 63) 3,4,none⟩,⟨some 65,.move (ZT 64),4,none⟩,⟨some 66,.load 112 (ZT 3),112,some (some 65,false)⟩,⟨some 67,.move (ZT 8),3,some (some 65,false)⟩,⟨some 68,.call ⟨.value (.func 108),#[ZT 66,ZT 67],#[112,3]⟩,4,some (some 65,false)⟩,⟨some 69,.unOp .not 4 (ZT 68),4,some (some 65,false)⟩,⟨some 70,.pick (ZT 65) (.const (.bool true)) (ZT 69),4,none⟩])
    (.cond (ZT 70) (.seq (.ops [⟨some 71,.build 35 #[],35,none⟩,⟨none,.store 35 (ZT 4) (ZT 71),0,none⟩,⟨some 5,.assign (.const (.bool false)),4,none⟩])
    .ret) .skip))
    (.seq (.draw (.take ⟨some 72,.fieldAddr 112 (ZT 2) 2,0,none⟩ (.take ⟨some 73,.load 3 (ZT 72),3,none⟩ (.take ⟨some 74,.fieldAddr 112 (ZT 2) 2,0,none⟩ (.take ⟨some 75,.load 3 (ZT 74),3,none⟩ (.take ⟨some 76,.fieldAddr 112 (ZT 3) 2,0,none⟩ (.take ⟨some 77,.load 3 (ZT 76),3,none⟩ (.take ⟨some 80,.fieldAddr 112 (ZT 3) 2,0,none⟩ (.take ⟨some 81,.load 3 (ZT 80),3,none⟩ (.alt ⟨some 78,.call ⟨.value (.func 159),#[ZT 75,ZT 77],#[3,3]⟩,3,none⟩ (.take ⟨some 79,.binOp .quo 3 (ZT 73) (ZT 78) 3,3,none⟩ (.take ⟨some 82,.binOp .mul 3 (ZT 79) (ZT 81) 3,3,none⟩ (.take ⟨some 10,.assign (ZT 82),3,none⟩ .done))) .none))))))))))
    (.seq (.ops [⟨some 83,.move (ZT 8),3,none⟩,⟨some 84,.move (ZT 7),3,none⟩,⟨some 85,.move (ZT 8),3,none⟩,⟨some 86,.binOp .sub 3 (ZT 84) (ZT 85) 3,3,none⟩,⟨some 87,.move (ZT 10),3,none⟩,⟨some 88,.binOp .quo 3 (ZT 86) (ZT 87) 3,3,none⟩,⟨some 89,.move (ZT 10),3,none⟩,⟨some 90,.binOp .mul 3 (ZT 88) (ZT 89) 3,3,none⟩,⟨some 91,.binOp .add 3 (ZT 83) (ZT 90) 3,3,none⟩,⟨some 11,.assign (ZT 91),3,none⟩])
    (.seq (.ops [⟨some 92,.move (ZT 11),3,none⟩,⟨some 93,.move (ZT 8),3,none⟩,⟨some 94,.binOp .sub 3 (ZT 92) (ZT 93) 3,3,none⟩,⟨some 95,.move (ZT 10),3,none⟩,⟨some 96,.binOp .quo 3 (ZT 94) (ZT 95) 3,3,none⟩,⟨some 97,.binOp .add 3 (ZT 96) (.const (.int .i64 1)) 3,3,none⟩,⟨some 12,.assign (ZT 97),3,none⟩])
    (.seq (.block 2 (.seq (.ops [⟨some 99,.move (ZT 12),3,none⟩,⟨some 100,.binOp .eql 3 (ZT 99) (.const (.int .i64 1)) 3,4,none⟩,⟨some 98,.assign (ZT 100),4,none⟩])
    (.cond (ZT 98) (.seq (.ops [⟨some 101,.move (ZT 8),3,none⟩,⟨some 102,.buildSlice 33 1 #[(0,ZT 101)],33,none⟩,⟨some 103,.call ⟨.value (.func 158),#[ZT 102],#[33]⟩,35,none⟩,⟨none,.store 35 (ZT 4) (ZT 103),0,none⟩,⟨some 5,.assign (.const (.bool true)),4,none⟩])
    .ret) (.seq (.ops [⟨some 105, .move (.tmp 10), 3, none⟩, ⟨some 106, .binOp .gtr 3 (.tmp 105) (.const (.int .i64 1000)) 3, 4, none⟩, ⟨some 107, .move (.tmp 106), 4, none⟩, ⟨some 108, .move (.tmp 12), 3, some (some 107, false)⟩, ⟨some 109, .binOp .leq 3 (.tmp 108) (.const (.int .i64 20)) 3, 4, some (some 107, false)⟩, ⟨some 110, .pick (.tmp 107) (.const (.bool true)) (.tmp 109), 4, none⟩, ⟨some 104, .assign (.tmp 110), 4, none⟩])
    (.cond (ZT 104) (.seq (.ops [⟨some 111,.move (ZT 8),3,none⟩,⟨some 112,.move (ZT 11),3,none⟩,⟨some 113,.move (ZT 10),3,none⟩,⟨some 114,.build 112 #[(0,ZT 111),(1,ZT 112),(2,ZT 113),(3,.const (.bool false)),(4,.const (.bool true))],112,none⟩,⟨some 115,.call ⟨.value (.func 106),#[ZT 114,.const (.int .i64 20)],#[112,3]⟩,33,none⟩,⟨some 116,.call ⟨.value (.func 158),#[ZT 115],#[33]⟩,35,none⟩,⟨none,.store 35 (ZT 4) (ZT 116),0,none⟩,⟨some 5,.assign (.const (.bool true)),4,none⟩])
    .ret) (.seq (.ops [⟨some 118, .fieldAddr 112 (.tmp 2) 3, 0, none⟩, ⟨some 119, .load 4 (.tmp 118), 4, none⟩, ⟨some 120, .move (.tmp 119), 4, none⟩, ⟨some 121, .fieldAddr 112 (.tmp 3) 3, 0, some (some 120, true)⟩, ⟨some 122, .load 4 (.tmp 121), 4, some (some 120, true)⟩, ⟨some 123, .pick (.tmp 120) (.tmp 122) (.const (.bool false)), 4, none⟩, ⟨some 117, .assign (.tmp 123), 4, none⟩])
    (.cond (ZT 117) (.seq (.ops [⟨some 124,.move (ZT 8),3,none⟩,⟨some 125,.move (ZT 11),3,none⟩,⟨some 126,.buildSlice 33 2 #[(0,ZT 124),(1,ZT 125)],33,none⟩,⟨some 127,.build 35 #[(0,.const (.int .i64 3)),(2,ZT 126)],35,none⟩,⟨none,.store 35 (ZT 4) (ZT 127),0,none⟩,⟨some 5,.assign (.const (.bool true)),4,none⟩])
    .ret) .skip)))))))
    (.seq (.ops [⟨some 128,.move (ZT 8),3,none⟩,⟨some 129,.move (ZT 11),3,none⟩,⟨some 130,.move (ZT 10),3,none⟩,⟨some 131,.buildSlice 33 3 #[(0,ZT 128),(1,ZT 129),(2,ZT 130)],33,none⟩,⟨some 132,.build 35 #[(0,.const (.int .i64 4)),(2,ZT 131)],35,none⟩,⟨none,.store 35 (ZT 4) (ZT 132),0,none⟩,⟨some 5,.assign (.const (.bool true)),4,none⟩])
    .ret))))))))))
def pl135 : Nat → Plan := fun id => if id = 1 then (.take 0 (.take 1 (.take 2 (.take 3 (.take 4 (.take 5 (.take 6 (.take 7 (.take 8 (.take 9 (.take 10 (.take 11 .done)))))))))))) else if id = 2 then (.take 0 (.take 1 (.take 2 (.take 3 (.take 4 (.take 5 (.take 6 (.take 7 (.take 8 (.take 9 (.take 10 (.take 11 (.take 12 (.take 13 (.take 14 (.take 15 (.take 16 (.take 17 (.take 18 .done))))))))))))))))))) else if id = 9 then (.take 0 (.take 1 (.take 2 (.take 3 (.take 4 (.take 5 (.take 8 (.take 9 (.alt 6 (.take 7 (.take 10 (.take 11 .done))) .none))))))))) else .done
theorem st135 : Go.Proofs.Tryz.f135.body.map (strip pl135) = some m135 := by kernel_rfl
theorem ok135 : okB pl135 Go.Proofs.Tryz.f135 2 = true := by kernel_rfl
theorem en135 {v0 v1 w} {Q : Value → World → Prop} (h : mwpB ZP m135 (argEnv [v0, v1]) [] w (fun e ds w => ds = [] ∧ resW ZP [.cell 4 35, .tmp 5] e w fun v => Q v w) (fun _ _ _ _ => False) (fun e ds w => ds = [] ∧ resW ZP [.cell 4 35, .tmp 5] e w fun v => Q v w) (fun _ _ _ _ => False) ⟨⟩) : Rets ZP 135 #[v0, v1] w Q :=
  rets_of_mwp follows_mo Go.Proofs.Tryz.func135 pl135 st135 ok135 (by kernel_rfl) h
def m136 : MC := (.seq (.ops [⟨some 4,.assign (.const (.int .i64 0)),3,none⟩])
    (.seq (.seq (.ops [⟨some 6,.move (ZT 0),33,none⟩,⟨some 7,.call ⟨.builtin .len,#[ZT 6],#[33]⟩,3,none⟩,⟨some 8,.move (.const (.int .i64 0)),3,none⟩])
    (.block 0 (.loop (.seq (.ops [⟨some 9,.binOp .lss 3 (ZT 8) (ZT 7) 3,0,none⟩])
    (.seq (.cond (ZT 9) .skip (.exit 0))
    (.seq (.block 1 (.seq (.ops [⟨some 10,.move (ZT 8),3,none⟩,⟨some 5,.assign (ZT 10),3,none⟩])
    (.seq (.ops [⟨some 11,.move (ZT 1),88,none⟩,⟨some 12,.move (ZT 0),33,none⟩,⟨some 13,.move (ZT 5),3,none⟩,⟨some 14,.indexAddr 33 (ZT 12) (ZT 13),0,none⟩,⟨some 15,.load 3 (ZT 14),3,none⟩,⟨some 16,.call ⟨.value (ZT 11),#[ZT 15],#[3]⟩,4,none⟩])
    (.cond (ZT 16) (.seq (.ops [⟨some 17,.move (ZT 5),3,none⟩,⟨some 4,.assign (ZT 17),3,none⟩])
    .ret) .skip))))
    (.ops [⟨some 18,.binOp .add 3 (ZT 8) (.const (.int .i64 1)) 3,3,none⟩,⟨some 8,.move (ZT 18),3,none⟩])))))))
    (.seq (.ops [⟨some 4,.assign (.const (.int .i64 (-1))),3,none⟩])
    .ret)))
def pl136 : Nat → Plan := fun _ => .done
theorem st136 : Go.Proofs.Tryz.f136.body.map (strip pl136) = some m136 := by kernel_rfl
theorem ok136 : okB pl136 Go.Proofs.Tryz.f136 2 = true := by kernel_rfl
theorem en136 {v0 v1 w} {Q : Value → World → Prop} (h : mwpB ZP m136 (argEnv [v0, v1]) [] w (fun e ds w => ds = [] ∧ resW ZP [.tmp 4] e w fun v => Q v w) (fun _ _ _ _ => False) (fun e ds w => ds = [] ∧ resW ZP [.tmp 4] e w fun v => Q v w) (fun _ _ _ _ => False) ⟨⟩) : Rets ZP 136 #[v0, v1] w Q :=
  rets_of_mwp follows_mo Go.Proofs.Tryz.func136 pl136 st136 ok136 (by kernel_rfl) h
def m137 : MC := (.seq (.ops [⟨some 4,.assign (.const (.int .i64 0)),3,none⟩])
    (.seq (.seq (.ops [⟨some 6,.move (ZT 0),50,none⟩,⟨some 7,.call ⟨.builtin .len,#[ZT 6],#[50]⟩,3,none⟩,⟨some 8,.move (.const (.int .i64 0)),3,none⟩])
    (.block 0 (.loop (.seq (.ops [⟨some 9,.binOp .lss 3 (ZT 8) (ZT 7) 3,0,none⟩])
    (.seq (.cond (ZT 9) .skip (.exit 0))
    (.seq (.block 1 (.seq (.ops [⟨some 10,.move (ZT 8),3,none⟩,⟨some 5,.assign (ZT 10),3,none⟩])
    (.seq (.ops [⟨some 11,.move (ZT 1),25,none⟩,⟨some 12,.move (ZT 0),50,none⟩,⟨some 13,.move (ZT 5),3,none⟩,⟨some 14,.indexAddr 50 (ZT 12) (ZT 13),0,none⟩,⟨some 15,.load 24 (ZT 14),24,none⟩,⟨some 16,.call ⟨.value (ZT 11),#[ZT 15],#[24]⟩,4,none⟩])
    (.cond (ZT 16) (.seq (.ops [⟨some 17,.move (ZT 5),3,none⟩,⟨some 4,.assign (ZT 17),3,none⟩])
    .ret) .skip))))
    (.ops [⟨some 18,.binOp .add 3 (ZT 8) (.const (.int .i64 1)) 3,3,none⟩,⟨some 8,.move (ZT 18),3,none⟩])))))))
    (.seq (.ops [⟨some 4,.assign (.const (.int .i64 (-1))),3,none⟩])
    .ret)))
def pl137 : Nat → Plan := fun _ => .done
theorem st137 : Go.Proofs.Tryz.f137.body.map (strip pl137) = some m137 := by kernel_rfl
theorem ok137 : okB pl137 Go.Proofs.Tryz.f137 2 = true := by kernel_rfl
theorem en137 {v0 v1 w} {Q : Value → World → Prop} (h : mwpB ZP m137 (argEnv [v0, v1]) [] w (fun e ds w => ds = [] ∧ resW ZP [.tmp 4] e w fun v => Q v w) (fun _ _ _ _ => False) (fun e ds w => ds = [] ∧ resW ZP [.tmp 4] e w fun v => Q v w) (fun _ _ _ _ => False) ⟨⟩) : Rets ZP 137 #[v0, v1] w Q :=
  rets_of_mwp follows_mo Go.Proofs.Tryz.func137 pl137 st137 ok137 (by kernel_rfl) h
def m158 : MC := (.seq (.ops [⟨some 2,.alloc 35,0,none⟩])
    (.seq (.seq (.ops [⟨some 3,.move (ZT 0),33,none⟩,⟨some 4,.call ⟨.builtin .len,#[ZT 3],#[33]⟩,3,none⟩,⟨some 5,.binOp .eql 3 (ZT 4) (.const (.int .i64 1)) 3,4,none⟩])
    (.cond (ZT 5) (.seq (.ops [⟨some 6,.move (ZT 0),33,none⟩,⟨some 7,.build 35 #[(0,.const (.int .i64 1)),(2,ZT 6)],35,none⟩,⟨none,.store 35 (ZT 2) (ZT 7),0,none⟩])
    .ret) .skip))
    (.seq (.ops [⟨some 8,.move (ZT 0),33,none⟩,⟨some 9,.build 35 #[(0,.const (.int .i64 2)),(2,ZT 8)],35,none⟩,⟨none,.store 35 (ZT 2) (ZT 9),0,none⟩])
    .ret)))
def pl158 : Nat → Plan := fun _ => .done
theorem st158 : Go.Proofs.Tryz.f158.body.map (strip pl158) = some m158 := by kernel_rfl
theorem ok158 : okB pl158 Go.Proofs.Tryz.f158 1 = true := by kernel_rfl
theorem en158 {v0 w} {Q : Value → World → Prop} (h : mwpB ZP m158 (argEnv [v0]) [] w (fun e ds w => ds = [] ∧ resW ZP [.cell 2 35] e w fun v => Q v w) (fun _ _ _ _ => False) (fun e ds w => ds = [] ∧ resW ZP [.cell 2 35] e w fun v => Q v w) (fun _ _ _ _ => False) ⟨⟩) : Rets ZP 158 #[v0] w Q :=
  rets_of_mwp follows_mo Go.Proofs.Tryz.func158 pl158 st158 ok158 (by kernel_rfl) h
def m159 : MC := (.seq (.ops [⟨some 4,.assign (.const (.int .i64 0)),3,none⟩])
    (.seq (.block 0 (.loop (.seq (.seq (.ops [⟨some 5,.move (ZT 1),3,none⟩,⟨some 6,.binOp .gtr 3 (ZT 5) (.const (.int .i64 0)) 3,4,none⟩])
    (.cond (ZT 6) .skip (.exit 0)))
    (.block 1 (.draw (.take ⟨some 7,.move (ZT 1),3,none⟩ (.take ⟨some 8,.move (ZT 0),3,none⟩ (.take ⟨some 9,.move (ZT 1),3,none⟩ (.take ⟨some 10,.binOp .rem 3 (ZT 8) (ZT 9) 3,3,none⟩ (.take ⟨some 0,.assign (ZT 7),3,none⟩ (.take ⟨some 1,.assign (ZT 10),3,none⟩ .done)))))))))))
    (.seq (.ops [⟨some 11,.move (ZT 0),3,none⟩,⟨some 4,.assign (ZT 11),3,none⟩])
    .ret)))
def pl159 : Nat → Plan := fun id => if id = 2 then (.take 0 (.take 1 (.take 2 (.take 3 (.take 4 (.take 5 .done)))))) else .done
theorem st159 : Go.Proofs.Tryz.f159.body.map (strip pl159) = some m159 := by kernel_rfl
theorem ok159 : okB pl159 Go.Proofs.Tryz.f159 2 = true := by kernel_rfl
theorem en159 {v0 v1 w} {Q : Value → World → Prop} (h : mwpB ZP m159 (argEnv [v0, v1]) [] w (fun e ds w => ds = [] ∧ resW ZP [.tmp 4] e w fun v => Q v w) (fun _ _ _ _ => False) (fun e ds w => ds = [] ∧ resW ZP [.tmp 4] e w fun v => Q v w) (fun _ _ _ _ => False) ⟨⟩) : Rets ZP 159 #[v0, v1] w Q :=
  rets_of_mwp follows_mo Go.Proofs.Tryz.func159 pl159 st159 ok159 (by kernel_rfl) h
def m227 : MC := (.seq (.ops [⟨some 4,.assign (.const (.bool false)),4,none⟩])
    (.seq (.ops [⟨some 5,.move (ZT 0),110,none⟩,⟨some 6,.move (ZT 1),3,none⟩,⟨some 7,.call ⟨.value (.func 230),#[ZT 5,ZT 6],#[110,3]⟩,4,none⟩,⟨some 4,.assign (ZT 7),4,none⟩])
    .ret))
def pl227 : Nat → Plan := fun _ => .done
theorem st227 : Go.Proofs.Tryz.f227.body.map (strip pl227) = some m227 := by kernel_rfl
theorem ok227 : okB pl227 Go.Proofs.Tryz.f227 2 = true := by kernel_rfl
theorem en227 {v0 v1 w} {Q : Value → World → Prop} (h : mwpB ZP m227 (argEnv [v0, v1]) [] w (fun e ds w => ds = [] ∧ resW ZP [.tmp 4] e w fun v => Q v w) (fun _ _ _ _ => False) (fun e ds w => ds = [] ∧ resW ZP [.tmp 4] e w fun v => Q v w) (fun _ _ _ _ => False) ⟨⟩) : Rets ZP 227 #[v0, v1] w Q :=
  rets_of_mwp follows_mo Go.Proofs.Tryz.func227 pl227 st227 ok227 (by kernel_rfl) h
def m228 : MC := (.seq (.ops [⟨some 2,.assign (.const (.bool false)),4,none⟩])
    (.seq (.ops [⟨some 6,.makeMap 202 none,202,none⟩,⟨some 3,.assign (ZT 6),202,none⟩])
    (.seq (.seq (.ops [⟨some 7,.move (ZT 0),110,none⟩,⟨some 8,.call ⟨.builtin .len,#[ZT 7],#[110]⟩,3,none⟩,⟨some 9,.move (.const (.int .i64 0)),3,none⟩])
    (.block 0 (.loop (.seq (.ops [⟨some 10,.binOp .lss 3 (ZT 9) (ZT 8) 3,0,none⟩])
    (.seq (.cond (ZT 10) .skip (.exit 0))
    (.seq (.block 1 (.seq (.ops [⟨some 11,.indexAddr 110 (ZT 7) (ZT 9),0,none⟩,⟨some 12,.load 3 (ZT 11),3,none⟩,⟨some 5,.assign (ZT 12),3,none⟩])
    (.seq (.seq (.ops [⟨some 13,.move (ZT 3),202,none⟩,⟨some 14,.move (ZT 5),3,none⟩,⟨some 15,.lookup 202 (ZT 13) (ZT 14) false,4,none⟩,⟨some 16,.move (ZT 15),4,none⟩,⟨some 17,.move (ZT 5),3,some (some 16,false)⟩,⟨some 18,.binOp .lss 3 (ZT 17) (.const (.int .i64 0)) 3,4,some (some 16,false)⟩,⟨some 19,.pick (ZT 16) (.const (.bool true)) (ZT 18),4,none⟩,⟨some 20,.move (ZT 19),4,none⟩,⟨some 21,.move (ZT 5),3,some (some 20,false)⟩,⟨some 22,.binOp .gtr 3 (ZT 21) (.const (.int .i64 1000000000)) 3,4,some (some 20,false)⟩,⟨some 23,.pick (ZT 20) (.const (.bool true)) (ZT 22),4,none⟩])
    (.cond (ZT 23) (.seq (.ops [⟨some 2,.assign (.const (.bool false)),4,none⟩])
    .ret) .skip))
    (.ops [⟨some 24,.move (ZT 3),202,none⟩,⟨some 25,.move (ZT 5),3,none⟩,⟨none,.mapUpdate 202 (ZT 24) (ZT 25) (.const (.bool true)),0,none⟩]))))
    (.ops [⟨some 26,.binOp .add 3 (ZT 9) (.const (.int .i64 1)) 3,3,none⟩,⟨some 9,.move (ZT 26),3,none⟩])))))))
    (.seq (.ops [⟨some 27,.move (ZT 0),110,none⟩,⟨some 28,.call ⟨.builtin .len,#[ZT 27],#[110]⟩,3,none⟩,⟨some 29,.binOp .geq 3 (ZT 28) (.const (.int .i64 1)) 3,4,none⟩,⟨some 30,.move (ZT 29),4,none⟩,⟨some 31,.move (ZT 0),110,some (some 30,true)⟩,⟨some 32,.call ⟨.builtin .len,#[ZT 31],#[110]⟩,3,some (some 30,true)⟩,⟨some 33,.binOp .leq 3 (ZT 32) (.const (.int .i64 20)) 3,4,some (some 30,true)⟩,⟨some 34,.pick (ZT 30) (ZT 33) (.const (.bool false)),4,none⟩,⟨some 2,.assign (ZT 34),4,none⟩])
    .ret))))
def pl228 : Nat → Plan := fun _ => .done
theorem st228 : Go.Proofs.Tryz.f228.body.map (strip pl228) = some m228 := by kernel_rfl
theorem ok228 : okB pl228 Go.Proofs.Tryz.f228 1 = true := by kernel_rfl
theorem en228 {v0 w} {Q : Value → World → Prop} (h : mwpB ZP m228 (argEnv [v0]) [] w (fun e ds w => ds = [] ∧ resW ZP [.tmp 2] e w fun v => Q v w) (fun _ _ _ _ => False) (fun e ds w => ds = [] ∧ resW ZP [.tmp 2] e w fun v => Q v w) (fun _ _ _ _ => False) ⟨⟩) : Rets ZP 228 #[v0] w Q :=
  rets_of_mwp follows_mo Go.Proofs.Tryz.func228 pl228 st228 ok228 (by kernel_rfl) h
def m230 : MC := (.seq (.ops [⟨some 4,.assign (.const (.bool false)),4,none⟩])
    (.seq (.ops [⟨some 5,.move (ZT 0),110,none⟩,⟨some 6,.move (ZT 1),3,none⟩,⟨some 7,.call ⟨.value (.func 231),#[ZT 5,ZT 6],#[110,3]⟩,3,none⟩,⟨some 8,.binOp .geq 3 (ZT 7) (.const (.int .i64 0)) 3,4,none⟩,⟨some 4,.assign (ZT 8),4,none⟩])
    .ret))
def pl230 : Nat → Plan := fun _ => .done
theorem st230 : Go.Proofs.Tryz.f230.body.map (strip pl230) = some m230 := by kernel_rfl
theorem ok230 : okB pl230 Go.Proofs.Tryz.f230 2 = true := by kernel_rfl
theorem en230 {v0 v1 w} {Q : Value → World → Prop} (h : mwpB ZP m230 (argEnv [v0, v1]) [] w (fun e ds w => ds = [] ∧ resW ZP [.tmp 4] e w fun v => Q v w) (fun _ _ _ _ => False) (fun e ds w => ds = [] ∧ resW ZP [.tmp 4] e w fun v => Q v w) (fun _ _ _ _ => False) ⟨⟩) : Rets ZP 230 #[v0, v1] w Q :=
  rets_of_mwp follows_mo Go.Proofs.Tryz.func230 pl230 st230 ok230 (by kernel_rfl) h
def m231 : MC := (.seq (.ops [⟨some 4,.assign (.const (.int .i64 0)),3,none⟩])
    (.seq (.seq (.ops [⟨some 6,.move (ZT 0),110,none⟩,⟨some 7,.call ⟨.builtin .len,#[ZT 6],#[110]⟩,3,none⟩,⟨some 8,.move (.const (.int .i64 0)),3,none⟩])
    (.block 0 (.loop (.seq (.ops [⟨some 9,.binOp .lss 3 (ZT 8) (ZT 7) 3,0,none⟩])
    (.seq (.cond (ZT 9) .skip (.exit 0))
    (.seq (.block 1 (.seq (.ops [⟨some 10,.move (ZT 8),3,none⟩,⟨some 5,.assign (ZT 10),3,none⟩])
    (.seq (.ops [⟨some 11,.move (ZT 1),3,none⟩,⟨some 12,.move (ZT 0),110,none⟩,⟨some 13,.move (ZT 5),3,none⟩,⟨some 14,.indexAddr 110 (ZT 12) (ZT 13),0,none⟩,⟨some 15,.load 3 (ZT 14),3,none⟩,⟨some 16,.binOp .eql 3 (ZT 11) (ZT 15) 3,4,none⟩])
    (.cond (ZT 16) (.seq (.ops [⟨some 17,.move (ZT 5),3,none⟩,⟨some 4,.assign (ZT 17),3,none⟩])
    .ret) .skip))))
    (.ops [⟨some 18,.binOp .add 3 (ZT 8) (.const (.int .i64 1)) 3,3,none⟩,⟨some 8,.move (ZT 18),3,none⟩])))))))
    (.seq (.ops [⟨some 4,.assign (.const (.int .i64 (-1))),3,none⟩])
    .ret)))
def pl231 : Nat → Plan := fun _ => .done
theorem st231 : Go.Proofs.Tryz.f231.body.map (strip pl231) = some m231 := by kernel_rfl
theorem ok231 : okB pl231 Go.Proofs.Tryz.f231 2 = true := by kernel_rfl
theorem en231 {v0 v1 w} {Q : Value → World → Prop} (h : mwpB ZP m231 (argEnv [v0, v1]) [] w (fun e ds w => ds = [] ∧ resW ZP [.tmp 4] e w fun v => Q v w) (fun _ _ _ _ => False) (fun e ds w => ds = [] ∧ resW ZP [.tmp 4] e w fun v => Q v w) (fun _ _ _ _ => False) ⟨⟩) : Rets ZP 231 #[v0, v1] w Q :=
  rets_of_mwp follows_mo Go.Proofs.Tryz.func231 pl231 st231 ok231 (by kernel_rfl) h
def m232 : MC := (.seq (.ops [⟨some 1,.box 112 (ZT 0),0,none⟩,⟨some 2,.assign (.const (.bool false)),4,none⟩])
    (.seq (.ops [⟨some 3,.fieldAddr 112 (ZT 1) 4,0,none⟩,⟨some 4,.load 4 (ZT 3),4,none⟩,⟨some 5,.move (ZT 4),4,none⟩,⟨some 6,.fieldAddr 112 (ZT 1) 0,0,some (some 5,true)⟩,⟨some 7,.load 3 (ZT 6),3,some (some 5,true)⟩,⟨some 8,.binOp .geq 3 (ZT 7) (.const (.int .i64 0)) 3,4,some (some 5,true)⟩,⟨some 9,.pick (ZT 5) (ZT 8) (.const (.bool false)),4,none⟩,⟨some 10,.move (ZT 9),4,none⟩,⟨some 11,.fieldAddr 112 (ZT 1) 0,0,some (some 10,true)⟩,⟨some 12,.load 3 (ZT 11),3,some (some 10,true)⟩,⟨some 13,.fieldAddr 112 (ZT 1) 1,0,some (some 10,true)⟩,⟨some 14,.load 3 (ZT 13),3,some (some 10,true)⟩,⟨some 15,.binOp .leq 3 (ZT 12) (ZT 14) 3,4,some (some 10,true)⟩,⟨some 16,.pick (ZT 10) (ZT 15) (.const (.bool false)),4,none⟩,⟨some 17,.move (ZT 16),4,none⟩,⟨some 18,.fieldAddr 112 (ZT 1) 1,0,some (some 17,true)⟩,⟨some 19,.load 3 (ZT 18),3,some (some 17,true)⟩,⟨some 20,.binOp .leq 3 (ZT 19) (.const (.int .i64 1000000000)) 3,4,some (some 17,true)⟩,⟨some 21,.pick (ZT 17) (ZT 20) (.const (.bool false)),4,none⟩,⟨some 22,.move (ZT 21),4,none⟩,⟨some 23,.fieldAddr 112 (ZT 1) 2,0,some (some 22,true)⟩,⟨some 24,.load 3 (ZT 23),3,some (some 22,true)⟩,⟨some 25,.binOp .geq 3 (ZT 24) (.const (.int .i64 1)) 3,4,some (some 22,true)⟩,⟨some 26,.pick (ZT 22) (ZT 25) (.const (.bool false)),4,none⟩,⟨some 27,.move (ZT 26),4,none⟩,⟨some 28,.fieldAddr 112 (ZT 1) 2,0,some (some 27,true)⟩,⟨some 29,.load 3 (ZT 28),3,some (some 27,true)⟩,⟨some 30,.binOp .leq 3 (ZT 29) (.const (.int .i64 1000)) 3,4,some (some 27,true)⟩,⟨some 31,.pick (ZT 27) (ZT 30) (.const (.bool false)),4,none⟩,⟨some 2,.assign (ZT 31),4,none⟩])
    .ret))
def pl232 : Nat → Plan := fun _ => .done
theorem st232 : Go.Proofs.Tryz.f232.body.map (strip pl232) = some m232 := by kernel_rfl
theorem ok232 : okB pl232 Go.Proofs.Tryz.f232 1 = true := by kernel_rfl
theorem en232 {v0 w} {Q : Value → World → Prop} (h : mwpB ZP m232 (argEnv [v0]) [] w (fun e ds w => ds = [] ∧ resW ZP [.tmp 2] e w fun v => Q v w) (fun _ _ _ _ => False) (fun e ds w => ds = [] ∧ resW ZP [.tmp 2] e w fun v => Q v w) (fun _ _ _ _ => False) ⟨⟩) : Rets ZP 232 #[v0] w Q :=
  rets_of_mwp follows_mo Go.Proofs.Tryz.func232 pl232 st232 ok232 (by kernel_rfl) h
end Go.Proofs.YthcdnjbhhaonhaaGreatDoor
