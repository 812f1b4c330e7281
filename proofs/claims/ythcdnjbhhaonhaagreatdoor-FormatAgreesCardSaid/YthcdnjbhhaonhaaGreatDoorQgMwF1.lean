/- The functions, stripped. -/
import Derived.Test.YthcdnjbhhaonhaaGreatDoorQgMwT
import Derived.Test.YthcdnjbhhaonhaaGreatDoorQgMwIn

namespace Go.Proofs.YthcdnjbhhaonhaaGreatDoor
open Go.RowKit
open Go.Operand renaming tmp → ZT
open Go.Proofs.Tryz renaming prog → ZP
set_option maxRecDepth 100000
def m66 : MC := (.seq (.ops [⟨some 1,.box 35 (ZT 0),0,none⟩,⟨some 2,.assign (.const .nilIface),86,none⟩])
    (.seq (.block 0 (.seq (.seq (.ops [⟨some 4,.fieldAddr 35 (ZT 1) 0,0,none⟩,⟨some 5,.load 3 (ZT 4),3,none⟩,⟨some 6,.binOp .eql 3 (ZT 5) (.const (.int .i64 1)) 3,4,none⟩,⟨some 7,.move (ZT 6),4,none⟩,⟨some 8,.fieldAddr 35 (ZT 1) 2,0,some (some 7,true)⟩,⟨some 9,.load 33 (ZT 8),33,some (some 7,true)⟩,⟨some 10,.call ⟨.builtin .len,#[ZT 9],#[33]⟩,3,some (some 7,true)⟩,⟨some 11,.binOp .eql 3 (ZT 10) (.const (.int .i64 1)) 3,4,some (some 7,true)⟩,⟨some 12,.pick (ZT 7) (ZT 11) (.const (.bool false)),4,none⟩,⟨some 3,.assign (ZT 12),4,none⟩])
    (.cond (ZT 3) .skip (.ops [⟨some 13,.fieldAddr 35 (ZT 1) 0,0,none⟩,⟨some 14,.load 3 (ZT 13),3,none⟩,⟨some 15,.binOp .eql 3 (ZT 14) (.const (.int .i64 2)) 3,4,none⟩,⟨some 3,.assign (ZT 15),4,none⟩])))
    (.cond (ZT 3) (.seq (.ops [⟨some 16,.fieldAddr 35 (ZT 1) 2,0,none⟩,⟨some 17,.load 33 (ZT 16),33,none⟩,⟨some 18,.makeInterface 110 (ZT 17),86,none⟩,⟨some 2,.assign (ZT 18),86,none⟩])
    .ret) (.seq (.ops [⟨some 20, .fieldAddr 35 (.tmp 1) 0, 0, none⟩, ⟨some 21, .load 3 (.tmp 20), 3, none⟩, ⟨some 22, .binOp .eql 3 (.tmp 21) (.const (.int .i64 3)) 3, 4, none⟩, ⟨some 23, .move (.tmp 22), 4, none⟩, ⟨some 24, .fieldAddr 35 (.tmp 1) 2, 0, some (some 23, true)⟩, ⟨some 25, .load 33 (.tmp 24), 33, some (some 23, true)⟩, ⟨some 26, .call ⟨.builtin .len, #[.tmp 25], #[33]⟩, 3, some (some 23, true)⟩, ⟨some 27, .binOp .eql 3 (.tmp 26) (.const (.int .i64 2)) 3, 4, some (some 23, true)⟩, ⟨some 28, .pick (.tmp 23) (.tmp 27) (.const (.bool false)), 4, none⟩, ⟨some 19, .assign (.tmp 28), 4, none⟩])
    (.cond (ZT 19) (.seq (.draw (.take ⟨some 29,.fieldAddr 35 (ZT 1) 2,0,none⟩ (.take ⟨some 30,.load 33 (ZT 29),33,none⟩ (.take ⟨some 31,.indexAddr 33 (ZT 30) (.const (.int .i64 0)),0,none⟩ (.take ⟨some 32,.load 3 (ZT 31),3,none⟩ (.take ⟨some 33,.fieldAddr 35 (ZT 1) 2,0,none⟩ (.take ⟨some 34,.load 33 (ZT 33),33,none⟩ (.take ⟨some 35,.indexAddr 33 (ZT 34) (.const (.int .i64 1)),0,none⟩ (.take ⟨some 36,.load 3 (ZT 35),3,none⟩ (.take ⟨some 37,.build 112 #[(0,ZT 32),(1,ZT 36),(2,.const (.int .i64 1)),(3,.const (.bool true)),(4,.const (.bool true))],112,none⟩ (.take ⟨some 38,.makeInterface 112 (ZT 37),86,none⟩ (.take ⟨some 2,.assign (ZT 38),86,none⟩ .done))))))))))))
    .ret) (.seq (.ops [⟨some 40, .fieldAddr 35 (.tmp 1) 0, 0, none⟩, ⟨some 41, .load 3 (.tmp 40), 3, none⟩, ⟨some 42, .binOp .eql 3 (.tmp 41) (.const (.int .i64 4)) 3, 4, none⟩, ⟨some 43, .move (.tmp 42), 4, none⟩, ⟨some 44, .fieldAddr 35 (.tmp 1) 2, 0, some (some 43, true)⟩, ⟨some 45, .load 33 (.tmp 44), 33, some (some 43, true)⟩, ⟨some 46, .call ⟨.builtin .len, #[.tmp 45], #[33]⟩, 3, some (some 43, true)⟩, ⟨some 47, .binOp .eql 3 (.tmp 46) (.const (.int .i64 3)) 3, 4, some (some 43, true)⟩, ⟨some 48, .pick (.tmp 43) (.tmp 47) (.const (.bool false)), 4, none⟩, ⟨some 39, .assign (.tmp 48), 4, none⟩])
    (.cond (ZT 39) (.seq (.draw (.take ⟨some 49,.fieldAddr 35 (ZT 1) 2,0,none⟩ (.take ⟨some 50,.load 33 (ZT 49),33,none⟩ (.take ⟨some 51,.indexAddr 33 (ZT 50) (.const (.int .i64 0)),0,none⟩ (.take ⟨some 52,.load 3 (ZT 51),3,none⟩ (.take ⟨some 53,.fieldAddr 35 (ZT 1) 2,0,none⟩ (.take ⟨some 54,.load 33 (ZT 53),33,none⟩ (.take ⟨some 55,.indexAddr 33 (ZT 54) (.const (.int .i64 1)),0,none⟩ (.take ⟨some 56,.load 3 (ZT 55),3,none⟩ (.take ⟨some 57,.fieldAddr 35 (ZT 1) 2,0,none⟩ (.take ⟨some 58,.load 33 (ZT 57),33,none⟩ (.take ⟨some 59,.indexAddr 33 (ZT 58) (.const (.int .i64 2)),0,none⟩ (.take ⟨some 60,.load 3 (ZT 59),3,none⟩ (.take ⟨some 61,.build 112 #[(0,ZT 52),(1,ZT 56),(2,ZT 60),(3,.const (.bool false)),(4,.const (.bool true))],112,none⟩ (.take ⟨some 62,.makeInterface 112 (ZT 61),86,none⟩ (.take ⟨some 2,.assign (ZT 62),86,none⟩ .done))))))))))))))))
    .ret) .skip)))))))
    (.seq (.ops [⟨some 63,.build 112 #[],112,none⟩,⟨some 64,.makeInterface 112 (ZT 63),86,none⟩,⟨some 2,.assign (ZT 64),86,none⟩])
    .ret)))
def pl66 : Nat → Plan := fun id => if id = 5 then (.take 0 (.take 1 (.take 2 (.take 3 (.take 4 (.take 5 (.take 6 (.take 7 (.take 8 (.take 9 (.take 10 .done))))))))))) else if id = 7 then (.take 0 (.take 1 (.take 2 (.take 3 (.take 4 (.take 5 (.take 6 (.take 7 (.take 8 (.take 9 (.take 10 (.take 11 (.take 12 (.take 13 (.take 14 .done))))))))))))))) else .done
theorem st66 : Go.Proofs.Tryz.f66.body.map (strip pl66) = some m66 := by kernel_rfl
theorem ok66 : okB pl66 Go.Proofs.Tryz.f66 1 = true := by kernel_rfl
theorem en66 {v0 w} {Q : Value → World → Prop} (h : mwpB ZP m66 (argEnv [v0]) [] w (fun e ds w => ds = [] ∧ resW ZP [.tmp 2] e w fun v => Q v w) (fun _ _ _ _ => False) (fun e ds w => ds = [] ∧ resW ZP [.tmp 2] e w fun v => Q v w) (fun _ _ _ _ => False) ⟨⟩) : Rets ZP 66 #[v0] w Q :=
  rets_of_mwp follows_mo Go.Proofs.Tryz.func66 pl66 st66 ok66 (by kernel_rfl) h
def m68 : MC := (.seq (.ops [⟨some 2,.box 35 (ZT 0),0,none⟩,⟨some 3,.box 35 (ZT 1),0,none⟩,⟨some 4,.alloc 35,0,none⟩,⟨some 5,.assign (.const (.bool false)),4,none⟩])
    (.seq (.draw (.take ⟨some 12,.load 35 (ZT 2),35,none⟩ (.take ⟨some 15,.load 35 (ZT 3),35,none⟩ (.take ⟨some 18,.load 35 (ZT 2),35,none⟩ (.take ⟨some 20,.load 35 (ZT 3),35,none⟩ (.alt ⟨some 11,.call ⟨.value (.func 96),#[],#[]⟩,115,none⟩ (.alt ⟨some 13,.call ⟨.value (.func 97),#[ZT 12],#[35]⟩,3,none⟩ (.take ⟨some 14,.index 115 (ZT 11) (ZT 13),114,none⟩ (.alt ⟨some 16,.call ⟨.value (.func 97),#[ZT 15],#[35]⟩,3,none⟩ (.take ⟨some 17,.index 114 (ZT 14) (ZT 16),113,none⟩ (.alt ⟨some 19,.call ⟨.value (.func 66),#[ZT 18],#[35]⟩,86,none⟩ (.alt ⟨some 21,.call ⟨.value (.func 66),#[ZT 20],#[35]⟩,86,none⟩ (.alt ⟨some 22,.call ⟨.value (ZT 17),#[ZT 19,ZT 21],#[86,86]⟩,91,none⟩ (.take ⟨some 10,.move (ZT 22),91,none⟩ (.take ⟨some 23,.extract (ZT 10) 0,35,none⟩ (.take ⟨some 24,.extract (ZT 10) 1,4,none⟩ (.alt ⟨some 6,.alloc 35,0,none⟩ (.altL ⟨none,.store 35 (ZT 6) (ZT 23),0,none⟩ (.take ⟨some 7,.assign (ZT 24),4,none⟩ .done) .none) .none)))) (.alt ⟨some 6,.alloc 35,0,none⟩ (.alt ⟨some 22,.call ⟨.value (ZT 17),#[ZT 19,ZT 21],#[86,86]⟩,91,none⟩ (.take ⟨some 10,.move (ZT 22),91,none⟩ (.take ⟨some 23,.extract (ZT 10) 0,35,none⟩ (.take ⟨some 24,.extract (ZT 10) 1,4,none⟩ (.altL ⟨none,.store 35 (ZT 6) (ZT 23),0,none⟩ (.take ⟨some 7,.assign (ZT 24),4,none⟩ .done) .none)))) .none) .none)) (.alt ⟨some 6,.alloc 35,0,none⟩ (.alt ⟨some 21,.call ⟨.value (.func 66),#[ZT 20],#[35]⟩,86,none⟩ (.alt ⟨some 22,.call ⟨.value (ZT 17),#[ZT 19,ZT 21],#[86,86]⟩,91,none⟩ (.take ⟨some 10,.move (ZT 22),91,none⟩ (.take ⟨some 23,.extract (ZT 10) 0,35,none⟩ (.take ⟨some 24,.extract (ZT 10) 1,4,none⟩ (.altL ⟨none,.store 35 (ZT 6) (ZT 23),0,none⟩ (.take ⟨some 7,.assign (ZT 24),4,none⟩ .done) .none)))) .none) .none) .none)) (.alt ⟨some 6,.alloc 35,0,none⟩ (.alt ⟨some 19,.call ⟨.value (.func 66),#[ZT 18],#[35]⟩,86,none⟩ (.alt ⟨some 21,.call ⟨.value (.func 66),#[ZT 20],#[35]⟩,86,none⟩ (.alt ⟨some 22,.call ⟨.value (ZT 17),#[ZT 19,ZT 21],#[86,86]⟩,91,none⟩ (.take ⟨some 10,.move (ZT 22),91,none⟩ (.take ⟨some 23,.extract (ZT 10) 0,35,none⟩ (.take ⟨some 24,.extract (ZT 10) 1,4,none⟩ (.altL ⟨none,.store 35 (ZT 6) (ZT 23),0,none⟩ (.take ⟨some 7,.assign (ZT 24),4,none⟩ .done) .none)))) .none) .none) .none) .none))) (.alt ⟨some 6,.alloc 35,0,none⟩ (.alt ⟨some 16,.call ⟨.value (.func 97),#[ZT 15],#[35]⟩,3,none⟩ (.take ⟨some 17,.index 114 (ZT 14) (ZT 16),113,none⟩ (.alt ⟨some 19,.call ⟨.value (.func 66),#[ZT 18],#[35]⟩,86,none⟩ (.alt ⟨some 21,.call ⟨.value (.func 66),#[ZT 20],#[35]⟩,86,none⟩ (.alt ⟨some 22,.call ⟨.value (ZT 17),#[ZT 19,ZT 21],#[86,86]⟩,91,none⟩ (.take ⟨some 10,.move (ZT 22),91,none⟩ (.take ⟨some 23,.extract (ZT 10) 0,35,none⟩ (.take ⟨some 24,.extract (ZT 10) 1,4,none⟩ (.altL ⟨none,.store 35 (ZT 6) (ZT 23),0,none⟩ (.take ⟨some 7,.assign (ZT 24),4,none⟩ .done) .none)))) .none) .none) .none)) .none) .none))) (.alt ⟨some 6,.alloc 35,0,none⟩ (.alt ⟨some 13,.call ⟨.value (.func 97),#[ZT 12],#[35]⟩,3,none⟩ (.take ⟨some 14,.index 115 (ZT 11) (ZT 13),114,none⟩ (.alt ⟨some 16,.call ⟨.value (.func 97),#[ZT 15],#[35]⟩,3,none⟩ (.take ⟨some 17,.index 114 (ZT 14) (ZT 16),113,none⟩ (.alt ⟨some 19,.call ⟨.value (.func 66),#[ZT 18],#[35]⟩,86,none⟩ (.alt ⟨some 21,.call ⟨.value (.func 66),#[ZT 20],#[35]⟩,86,none⟩ (.alt ⟨some 22,.call ⟨.value (ZT 17),#[ZT 19,ZT 21],#[86,86]⟩,91,none⟩ (.take ⟨some 10,.move (ZT 22),91,none⟩ (.take ⟨some 23,.extract (ZT 10) 0,35,none⟩ (.take ⟨some 24,.extract (ZT 10) 1,4,none⟩ (.altL ⟨none,.store 35 (ZT 6) (ZT 23),0,none⟩ (.take ⟨some 7,.assign (ZT 24),4,none⟩ .done) .none)))) .none) .none) .none)) .none)) .none) .none)) (.alt ⟨some 6,.alloc 35,0,none⟩ (.alt ⟨some 11,.call ⟨.value (.func 96),#[],#[]⟩,115,none⟩ (.alt ⟨some 13,.call ⟨.value (.func 97),#[ZT 12],#[35]⟩,3,none⟩ (.take ⟨some 14,.index 115 (ZT 11) (ZT 13),114,none⟩ (.alt ⟨some 16,.call ⟨.value (.func 97),#[ZT 15],#[35]⟩,3,none⟩ (.take ⟨some 17,.index 114 (ZT 14) (ZT 16),113,none⟩ (.alt ⟨some 19,.call ⟨.value (.func 66),#[ZT 18],#[35]⟩,86,none⟩ (.alt ⟨some 21,.call ⟨.value (.func 66),#[ZT 20],#[35]⟩,86,none⟩ (.alt ⟨some 22,.call ⟨.value (ZT 17),#[ZT 19,ZT 21],#[86,86]⟩,91,none⟩ (.take ⟨some 10,.move (ZT 22),91,none⟩ (.take ⟨some 23,.extract (ZT 10) 0,35,none⟩ (.take ⟨some 24,.extract (ZT 10) 1,4,none⟩ (.altL ⟨none,.store 35 (ZT 6) (ZT 23),0,none⟩ (.take ⟨some 7,.assign (ZT 24),4,none⟩ .done) .none)))) .none) .none) .none)) .none)) .none) .none) .none)))))))
    (.seq (.seq (.ops [⟨some 25,.move (ZT 7),4,none⟩,⟨some 26,.unOp .not 4 (ZT 25),4,none⟩])
    (.cond (ZT 26) (.seq (.ops [⟨some 27,.build 35 #[],35,none⟩,⟨none,.store 35 (ZT 4) (ZT 27),0,none⟩,⟨some 5,.assign (.const (.bool false)),4,none⟩])
    .ret) .skip))
    (.seq (.ops [⟨some 28,.fieldAddr 35 (ZT 6) 2,0,none⟩,⟨some 29,.load 33 (ZT 28),33,none⟩,⟨some 30,.indexAddr 33 (ZT 29) (.const (.int .i64 0)),0,none⟩,⟨some 31,.load 3 (ZT 30),3,none⟩,⟨some 32,.fieldAddr 35 (ZT 6) 1,0,none⟩,⟨none,.store 3 (ZT 32) (ZT 31),0,none⟩])
    (.seq (.seq (.ops [⟨some 33,.fieldAddr 35 (ZT 3) 1,0,none⟩,⟨some 34,.load 3 (ZT 33),3,none⟩,⟨some 35,.fieldAddr 35 (ZT 2) 1,0,none⟩,⟨some 36,.load 3 (ZT 35),3,none⟩,⟨some 37,.buildSlice 33 2 #[(0,ZT 34),(1,ZT 36)],33,none⟩,⟨some 38,.call ⟨.builtin .len,#[ZT 37],#[33]⟩,3,none⟩,⟨some 39,.move (.const (.int .i64 0)),3,none⟩])
    (.block 0 (.loop (.seq (.ops [⟨some 40,.binOp .lss 3 (ZT 39) (ZT 38) 3,0,none⟩])
    (.seq (.cond (ZT 40) .skip (.exit 0))
    (.seq (.block 1 (.seq (.ops [⟨some 41,.indexAddr 33 (ZT 37) (ZT 39),0,none⟩,⟨some 42,.load 3 (ZT 41),3,none⟩,⟨some 9,.assign (ZT 42),3,none⟩])
    (.seq (.ops [⟨some 43,.load 35 (ZT 6),35,none⟩,⟨some 44,.call ⟨.value (.func 66),#[ZT 43],#[35]⟩,86,none⟩,⟨some 45,.move (ZT 9),3,none⟩,⟨some 46,.call ⟨.invoke (ZT 44) "continuo/format.has",#[ZT 45],#[3]⟩,4,none⟩])
    (.cond (ZT 46) (.ops [⟨some 47,.move (ZT 9),3,none⟩,⟨some 48,.fieldAddr 35 (ZT 6) 1,0,none⟩,⟨none,.store 3 (ZT 48) (ZT 47),0,none⟩]) .skip))))
    (.ops [⟨some 49,.binOp .add 3 (ZT 39) (.const (.int .i64 1)) 3,3,none⟩,⟨some 39,.move (ZT 49),3,none⟩])))))))
    (.seq (.ops [⟨some 50,.load 35 (ZT 6),35,none⟩,⟨none,.store 35 (ZT 4) (ZT 50),0,none⟩,⟨some 5,.assign (.const (.bool true)),4,none⟩])
    .ret))))))
def pl68 : Nat → Plan := fun id => if id = 1 then (.take 1 (.take 4 (.take 7 (.take 9 (.alt 0 (.alt 2 (.take 3 (.alt 5 (.take 6 (.alt 8 (.alt 10 (.alt 11 (.take 12 (.take 13 (.take 14 (.alt 15 (.altL 16 (.take 17 .done) .none) .none)))) (.alt 15 (.alt 11 (.take 12 (.take 13 (.take 14 (.altL 16 (.take 17 .done) .none)))) .none) .none)) (.alt 15 (.alt 10 (.alt 11 (.take 12 (.take 13 (.take 14 (.altL 16 (.take 17 .done) .none)))) .none) .none) .none)) (.alt 15 (.alt 8 (.alt 10 (.alt 11 (.take 12 (.take 13 (.take 14 (.altL 16 (.take 17 .done) .none)))) .none) .none) .none) .none))) (.alt 15 (.alt 5 (.take 6 (.alt 8 (.alt 10 (.alt 11 (.take 12 (.take 13 (.take 14 (.altL 16 (.take 17 .done) .none)))) .none) .none) .none)) .none) .none))) (.alt 15 (.alt 2 (.take 3 (.alt 5 (.take 6 (.alt 8 (.alt 10 (.alt 11 (.take 12 (.take 13 (.take 14 (.altL 16 (.take 17 .done) .none)))) .none) .none) .none)) .none)) .none) .none)) (.alt 15 (.alt 0 (.alt 2 (.take 3 (.alt 5 (.take 6 (.alt 8 (.alt 10 (.alt 11 (.take 12 (.take 13 (.take 14 (.altL 16 (.take 17 .done) .none)))) .none) .none) .none)) .none)) .none) .none) .none)))))) else .done
theorem st68 : Go.Proofs.Tryz.f68.body.map (strip pl68) = some m68 := by kernel_rfl
theorem ok68 : okB pl68 Go.Proofs.Tryz.f68 2 = true := by kernel_rfl
theorem en68 {v0 v1 w} {Q : Value → World → Prop} (h : mwpB ZP m68 (argEnv [v0, v1]) [] w (fun e ds w => ds = [] ∧ resW ZP [.cell 4 35, .tmp 5] e w fun v => Q v w) (fun _ _ _ _ => False) (fun e ds w => ds = [] ∧ resW ZP [.cell 4 35, .tmp 5] e w fun v => Q v w) (fun _ _ _ _ => False) ⟨⟩) : Rets ZP 68 #[v0, v1] w Q :=
  rets_of_mwp follows_mo Go.Proofs.Tryz.func68 pl68 st68 ok68 (by kernel_rfl) h
def m69 : MC := (.seq (.ops [⟨some 2,.box 35 (ZT 0),0,none⟩,⟨some 3,.box 35 (ZT 1),0,none⟩,⟨some 4,.alloc 35,0,none⟩,⟨some 5,.assign (.const (.bool false)),4,none⟩])
    (.seq (.seq (.ops [⟨some 18,.load 35 (ZT 2),35,none⟩,⟨some 19,.call ⟨.value (.func 98),#[ZT 18],#[35]⟩,4,none⟩,⟨some 20,.move (ZT 19),4,none⟩,⟨some 21,.load 35 (ZT 3),35,some (some 20,false)⟩,⟨some 22,.call ⟨.value (.func 98),#[ZT 21],#[35]⟩,4,some (some 20,false)⟩,⟨some 23,.pick (ZT 20) (.const (.bool true)) (ZT 22),4,none⟩])
    (.cond (ZT 23) (.seq (.draw (.take ⟨some 24,.load 35 (ZT 2),35,none⟩ (.take ⟨some 25,.load 35 (ZT 3),35,none⟩ (.alt ⟨some 6,.alloc 35,0,none⟩ (.alt ⟨some 7,.alloc 35,0,none⟩ (.alt ⟨none,.store 35 (ZT 6) (ZT 24),0,none⟩ (.altL ⟨none,.store 35 (ZT 7) (ZT 25),0,none⟩ .done .none) .none) .none) (.alt ⟨some 7,.alloc 35,0,none⟩ (.alt ⟨some 6,.alloc 35,0,none⟩ (.alt ⟨none,.store 35 (ZT 6) (ZT 24),0,none⟩ (.altL ⟨none,.store 35 (ZT 7) (ZT 25),0,none⟩ .done .none) .none) .none) .none)))))
    (.seq (.seq (.ops [⟨some 26,.load 35 (ZT 2),35,none⟩,⟨some 27,.call ⟨.value (.func 98),#[ZT 26],#[35]⟩,4,none⟩,⟨some 28,.unOp .not 4 (ZT 27),4,none⟩])
    (.cond (ZT 28) (.draw (.take ⟨some 29,.load 35 (ZT 3),35,none⟩ (.take ⟨some 30,.load 35 (ZT 2),35,none⟩ (.alt ⟨none,.store 35 (ZT 6) (ZT 29),0,none⟩ (.altL ⟨none,.store 35 (ZT 7) (ZT 30),0,none⟩ .done .none) .none)))) .skip))
    (.seq (.ops [⟨some 8,.assign (.const (.slice none 0 0)),33,none⟩])
    (.seq (.seq (.ops [⟨some 9,.assign (.const (.int .i64 0)),3,none⟩])
    (.block 0 (.loop (.seq (.seq (.ops [⟨some 31,.move (ZT 9),3,none⟩,⟨some 32,.fieldAddr 35 (ZT 6) 2,0,none⟩,⟨some 33,.load 33 (ZT 32),33,none⟩,⟨some 34,.call ⟨.builtin .len,#[ZT 33],#[33]⟩,3,none⟩,⟨some 35,.binOp .lss 3 (ZT 31) (ZT 34) 3,4,none⟩])
    (.cond (ZT 35) .skip (.exit 0)))
    (.seq (.block 1 (.seq (.draw (.take ⟨some 38,.load 35 (ZT 7),35,none⟩ (.take ⟨some 39,.fieldAddr 35 (ZT 6) 2,0,none⟩ (.take ⟨some 40,.load 33 (ZT 39),33,none⟩ (.take ⟨some 41,.move (ZT 9),3,none⟩ (.take ⟨some 42,.indexAddr 33 (ZT 40) (ZT 41),0,none⟩ (.take ⟨some 43,.load 3 (ZT 42),3,none⟩ (.alt ⟨some 44,.call ⟨.value (.func 26),#[ZT 38,ZT 43],#[35,3]⟩,4,none⟩ .done .none))))))))
    (.cond (ZT 44) (.ops [⟨some 45,.move (ZT 8),33,none⟩,⟨some 46,.fieldAddr 35 (ZT 6) 2,0,none⟩,⟨some 47,.load 33 (ZT 46),33,none⟩,⟨some 48,.move (ZT 9),3,none⟩,⟨some 49,.indexAddr 33 (ZT 47) (ZT 48),0,none⟩,⟨some 50,.load 3 (ZT 49),3,none⟩,⟨some 51,.buildSlice 33 1 #[(0,ZT 50)],33,none⟩,⟨some 52,.call ⟨.builtin .append,#[ZT 45,ZT 51],#[33,33]⟩,33,none⟩,⟨some 8,.assign (ZT 52),33,none⟩]) .skip)))
    (.ops [⟨some 36,.move (ZT 9),3,none⟩,⟨some 37,.binOp .add 3 (ZT 36) (.const (.int .i64 1)) 3,3,none⟩,⟨some 9,.assign (ZT 37),3,none⟩]))))))
    (.seq (.seq (.ops [⟨some 53,.move (ZT 8),33,none⟩,⟨some 54,.call ⟨.builtin .len,#[ZT 53],#[33]⟩,3,none⟩,⟨some 55,.binOp .eql 3 (ZT 54) (.const (.int .i64 0)) 3,4,none⟩])
    (.cond (ZT 55) (.seq (.ops [⟨some 56,.build 35 #[],35,none⟩,⟨none,.store 35 (ZT 4) (ZT 56),0,none⟩,⟨some 5,.assign (.const (.bool false)),4,none⟩])
    .ret) .skip))
    (.seq (.draw (.take ⟨some 57,.move (ZT 8),33,none⟩ (.take ⟨some 59,.load 35 (ZT 2),35,none⟩ (.take ⟨some 60,.load 35 (ZT 3),35,none⟩ (.alt ⟨some 58,.call ⟨.value (.func 100),#[ZT 57],#[33]⟩,35,none⟩ (.alt ⟨some 61,.call ⟨.value (.func 99),#[ZT 58,ZT 59,ZT 60],#[35,35,35]⟩,35,none⟩ (.altL ⟨none,.store 35 (ZT 4) (ZT 61),0,none⟩ (.take ⟨some 5,.assign (.const (.bool true)),4,none⟩ .done) .none) .none) .none)))))
    .ret)))))) .skip))
    (.seq (.draw (.take ⟨some 62,.load 35 (ZT 2),35,none⟩ (.take ⟨some 64,.load 35 (ZT 3),35,none⟩ (.alt ⟨some 63,.call ⟨.value (.func 70),#[ZT 62],#[35]⟩,3,none⟩ (.alt ⟨some 65,.call ⟨.value (.func 70),#[ZT 64],#[35]⟩,3,none⟩ (.alt ⟨some 66,.call ⟨.value (.func 101),#[ZT 63,ZT 65],#[3,3]⟩,3,none⟩ (.take ⟨some 10,.assign (ZT 66),3,none⟩ .done) .none) .none) .none))))
    (.seq (.draw (.take ⟨some 67,.fieldAddr 35 (ZT 2) 2,0,none⟩ (.take ⟨some 68,.load 33 (ZT 67),33,none⟩ (.take ⟨some 69,.indexAddr 33 (ZT 68) (.const (.int .i64 0)),0,none⟩ (.take ⟨some 70,.load 3 (ZT 69),3,none⟩ (.take ⟨some 71,.fieldAddr 35 (ZT 3) 2,0,none⟩ (.take ⟨some 72,.load 33 (ZT 71),33,none⟩ (.take ⟨some 73,.indexAddr 33 (ZT 72) (.const (.int .i64 0)),0,none⟩ (.take ⟨some 74,.load 3 (ZT 73),3,none⟩ (.take ⟨some 75,.call ⟨.builtin .max,#[ZT 70,ZT 74],#[3,3]⟩,3,none⟩ (.take ⟨some 76,.load 35 (ZT 2),35,none⟩ (.take ⟨some 78,.load 35 (ZT 3),35,none⟩ (.alt ⟨some 77,.call ⟨.value (.func 102),#[ZT 76],#[35]⟩,3,none⟩ (.alt ⟨some 79,.call ⟨.value (.func 102),#[ZT 78],#[35]⟩,3,none⟩ (.take ⟨some 80,.call ⟨.builtin .min,#[ZT 77,ZT 79],#[3,3]⟩,3,none⟩ (.take ⟨some 11,.assign (ZT 75),3,none⟩ (.take ⟨some 12,.assign (ZT 80),3,none⟩ .done))) .none) .none)))))))))))))
    (.seq (.ops [⟨some 13,.assign (.const (.int .i64 (-1))),3,none⟩])
    (.seq (.seq (.ops [⟨some 81,.move (ZT 11),3,none⟩,⟨some 14,.assign (ZT 81),3,none⟩])
    (.block 2 (.loop (.seq (.seq (.ops [⟨some 82,.move (ZT 14),3,none⟩,⟨some 83,.move (ZT 12),3,none⟩,⟨some 84,.binOp .leq 3 (ZT 82) (ZT 83) 3,4,none⟩,⟨some 85,.move (ZT 84),4,none⟩,⟨some 86,.move (ZT 14),3,some (some 85,true)⟩,⟨some 87,.move (ZT 11),3,some (some 85,true)⟩,⟨some 88,.move (ZT 10),3,some (some 85,true)⟩,⟨some 89,.binOp .add 3 (ZT 87) (ZT 88) 3,3,some (some 85,true)⟩,⟨some 90,.binOp .lss 3 (ZT 86) (ZT 89) 3,4,some (some 85,true)⟩,⟨some 91,.pick (ZT 85) (ZT 90) (.const (.bool false)),4,none⟩,⟨some 92,.move (ZT 91),4,none⟩,⟨some 93,.move (ZT 13),3,some (some 92,true)⟩,⟨some 94,.binOp .lss 3 (ZT 93) (.const (.int .i64 0)) 3,4,some (some 92,true)⟩,⟨some 95,.pick (ZT 92) (ZT 94) (.const (.bool false)),4,none⟩])
    (.cond (ZT 95) .skip (.exit 2)))
    (.seq (.block 3 (.seq (.ops [⟨some 98,.load 35 (ZT 2),35,none⟩,⟨some 99,.move (ZT 14),3,none⟩,⟨some 100,.call ⟨.value (.func 26),#[ZT 98,ZT 99],#[35,3]⟩,4,none⟩,⟨some 101,.move (ZT 100),4,none⟩,⟨some 102,.load 35 (ZT 3),35,some (some 101,true)⟩,⟨some 103,.move (ZT 14),3,some (some 101,true)⟩,⟨some 104,.call ⟨.value (.func 26),#[ZT 102,ZT 103],#[35,3]⟩,4,some (some 101,true)⟩,⟨some 105,.pick (ZT 101) (ZT 104) (.const (.bool false)),4,none⟩])
    (.cond (ZT 105) (.ops [⟨some 106,.move (ZT 14),3,none⟩,⟨some 13,.assign (ZT 106),3,none⟩]) .skip)))
    (.ops [⟨some 96,.move (ZT 14),3,none⟩,⟨some 97,.binOp .add 3 (ZT 96) (.const (.int .i64 1)) 3,3,none⟩,⟨some 14,.assign (ZT 97),3,none⟩]))))))
    (.seq (.seq (.ops [⟨some 107,.move (ZT 13),3,none⟩,⟨some 108,.binOp .lss 3 (ZT 107) (.const (.int .i64 0)) 3,4,none⟩])
    (.cond (ZT 108) (.seq (.ops [⟨some 109,.build 35 #[],35,none⟩,⟨none,.store 35 (ZT 4) (ZT 109),0,none⟩,⟨some 5,.assign (.const (.bool false)),4,none⟩])
    .ret) .skip))
    (.seq (.ops [⟨some 110,.move (ZT 12),3,none⟩,⟨some 111,.move (ZT 13),3,none⟩,⟨some 112,.binOp .sub 3 (ZT 110) (ZT 111) 3,3,none⟩,⟨some 113,.move (ZT 10),3,none⟩,⟨some 114,.binOp .quo 3 (ZT 112) (ZT 113) 3,3,none⟩,⟨some 115,.binOp .add 3 (ZT 114) (.const (.int .i64 1)) 3,3,none⟩,⟨some 15,.assign (ZT 115),3,none⟩])
    (.seq (.block 4 (.seq (.ops [⟨some 117,.move (ZT 15),3,none⟩,⟨some 118,.binOp .leq 3 (ZT 117) (.const (.int .i64 20)) 3,4,none⟩,⟨some 119,.move (ZT 118),4,none⟩,⟨some 120,.move (ZT 10),3,some (some 119,false)⟩,⟨some 121,.binOp .gtr 3 (ZT 120) (.const (.int .i64 1000)) 3,4,some (some 119,false)⟩,⟨some 122,.pick (ZT 119) (.const (.bool true)) (ZT 121),4,none⟩,⟨some 116,.assign (ZT 122),4,none⟩])
    (.cond (ZT 116) (.seq (.ops [⟨some 16,.assign (.const (.slice none 0 0)),33,none⟩])
    (.seq (.seq (.ops [⟨some 17,.assign (.const (.int .i64 0)),3,none⟩])
    (.block 5 (.loop (.seq (.seq (.ops [⟨some 123,.move (ZT 17),3,none⟩,⟨some 124,.move (ZT 15),3,none⟩,⟨some 125,.binOp .lss 3 (ZT 123) (ZT 124) 3,4,none⟩,⟨some 126,.move (ZT 125),4,none⟩,⟨some 127,.move (ZT 17),3,some (some 126,true)⟩,⟨some 128,.binOp .lss 3 (ZT 127) (.const (.int .i64 20)) 3,4,some (some 126,true)⟩,⟨some 129,.pick (ZT 126) (ZT 128) (.const (.bool false)),4,none⟩])
    (.cond (ZT 129) .skip (.exit 5)))
    (.seq (.block 6 (.ops [⟨some 132,.move (ZT 16),33,none⟩,⟨some 133,.move (ZT 13),3,none⟩,⟨some 134,.move (ZT 17),3,none⟩,⟨some 135,.move (ZT 10),3,none⟩,⟨some 136,.binOp .mul 3 (ZT 134) (ZT 135) 3,3,none⟩,⟨some 137,.binOp .add 3 (ZT 133) (ZT 136) 3,3,none⟩,⟨some 138,.buildSlice 33 1 #[(0,ZT 137)],33,none⟩,⟨some 139,.call ⟨.builtin .append,#[ZT 132,ZT 138],#[33,33]⟩,33,none⟩,⟨some 16,.assign (ZT 139),33,none⟩]))
    (.ops [⟨some 130,.move (ZT 17),3,none⟩,⟨some 131,.binOp .add 3 (ZT 130) (.const (.int .i64 1)) 3,3,none⟩,⟨some 17,.assign (ZT 131),3,none⟩]))))))
    (.seq (.draw (.take ⟨some 140,.move (ZT 16),33,none⟩ (.take ⟨some 142,.load 35 (ZT 2),35,none⟩ (.take ⟨some 143,.load 35 (ZT 3),35,none⟩ (.alt ⟨some 141,.call ⟨.value (.func 100),#[ZT 140],#[33]⟩,35,none⟩ (.alt ⟨some 144,.call ⟨.value (.func 99),#[ZT 141,ZT 142,ZT 143],#[35,35,35]⟩,35,none⟩ (.altL ⟨none,.store 35 (ZT 4) (ZT 144),0,none⟩ (.take ⟨some 5,.assign (.const (.bool true)),4,none⟩ .done) .none) .none) .none)))))
    .ret))) (.seq (.ops [⟨some 146, .fieldAddr 35 (.tmp 2) 0, 0, none⟩, ⟨some 147, .load 3 (.tmp 146), 3, none⟩, ⟨some 148, .binOp .eql 3 (.tmp 147) (.const (.int .i64 3)) 3, 4, none⟩, ⟨some 149, .move (.tmp 148), 4, none⟩, ⟨some 150, .fieldAddr 35 (.tmp 3) 0, 0, some (some 149, true)⟩, ⟨some 151, .load 3 (.tmp 150), 3, some (some 149, true)⟩, ⟨some 152, .binOp .eql 3 (.tmp 151) (.const (.int .i64 3)) 3, 4, some (some 149, true)⟩, ⟨some 153, .pick (.tmp 149) (.tmp 152) (.const (.bool false)), 4, none⟩, ⟨some 145, .assign (.tmp 153), 4, none⟩])
    (.cond (ZT 145) (.seq (.ops [⟨some 154,.move (ZT 13),3,none⟩,⟨some 155,.move (ZT 13),3,none⟩,⟨some 156,.move (ZT 15),3,none⟩,⟨some 157,.binOp .sub 3 (ZT 156) (.const (.int .i64 1)) 3,3,none⟩,⟨some 158,.move (ZT 10),3,none⟩,⟨some 159,.binOp .mul 3 (ZT 157) (ZT 158) 3,3,none⟩,⟨some 160,.binOp .add 3 (ZT 155) (ZT 159) 3,3,none⟩,⟨some 161,.buildSlice 33 2 #[(0,ZT 154),(1,ZT 160)],33,none⟩,⟨some 162,.build 35 #[(0,.const (.int .i64 3)),(2,ZT 161)],35,none⟩,⟨some 163,.load 35 (ZT 2),35,none⟩,⟨some 164,.load 35 (ZT 3),35,none⟩,⟨some 165,.call ⟨.value (.func 99),#[ZT 162,ZT 163,ZT 164],#[35,35,35]⟩,35,none⟩,⟨none,.store 35 (ZT 4) (ZT 165),0,none⟩,⟨some 5,.assign (.const (.bool true)),4,none⟩])
    .ret) .skip)))))
    (.seq (.ops [⟨some 166,.move (ZT 13),3,none⟩,⟨some 167,.move (ZT 13),3,none⟩,⟨some 168,.move (ZT 15),3,none⟩,⟨some 169,.binOp .sub 3 (ZT 168) (.const (.int .i64 1)) 3,3,none⟩,⟨some 170,.move (ZT 10),3,none⟩,⟨some 171,.binOp .mul 3 (ZT 169) (ZT 170) 3,3,none⟩,⟨some 172,.binOp .add 3 (ZT 167) (ZT 171) 3,3,none⟩,⟨some 173,.move (ZT 10),3,none⟩,⟨some 174,.buildSlice 33 3 #[(0,ZT 166),(1,ZT 172),(2,ZT 173)],33,none⟩,⟨some 175,.build 35 #[(0,.const (.int .i64 4)),(2,ZT 174)],35,none⟩,⟨some 176,.load 35 (ZT 2),35,none⟩,⟨some 177,.load 35 (ZT 3),35,none⟩,⟨some 178,.call ⟨.value (.func 99),#[ZT 175,ZT 176,ZT 177],#[35,35,35]⟩,35,none⟩,⟨none,.store 35 (ZT 4) (ZT 178),0,none⟩,⟨some 5,.assign (.const (.bool true)),4,none⟩])
    .ret))))))))))
def pl69 : Nat → Plan := fun id => if id = 2 then (.take 0 (.take 1 (.alt 2 (.alt 3 (.alt 4 (.altL 5 .done .none) .none) .none) (.alt 3 (.alt 2 (.alt 4 (.altL 5 .done .none) .none) .none) .none)))) else if id = 4 then (.take 0 (.take 1 (.alt 2 (.altL 3 .done .none) .none))) else if id = 9 then (.take 0 (.take 1 (.take 2 (.take 3 (.take 4 (.take 5 (.alt 6 .done .none))))))) else if id = 13 then (.take 0 (.take 2 (.take 3 (.alt 1 (.alt 4 (.altL 5 (.take 6 .done) .none) .none) .none)))) else if id = 14 then (.take 0 (.take 2 (.alt 1 (.alt 3 (.alt 4 (.take 5 .done) .none) .none) .none))) else if id = 15 then (.take 0 (.take 1 (.take 2 (.take 3 (.take 4 (.take 5 (.take 6 (.take 7 (.take 8 (.take 9 (.take 11 (.alt 10 (.alt 12 (.take 13 (.take 14 (.take 15 .done))) .none) .none)))))))))))) else if id = 31 then (.take 0 (.take 2 (.take 3 (.alt 1 (.alt 4 (.altL 5 (.take 6 .done) .none) .none) .none)))) else .done
theorem st69 : Go.Proofs.Tryz.f69.body.map (strip pl69) = some m69 := by kernel_rfl
theorem ok69 : okB pl69 Go.Proofs.Tryz.f69 2 = true := by kernel_rfl
theorem en69 {v0 v1 w} {Q : Value → World → Prop} (h : mwpB ZP m69 (argEnv [v0, v1]) [] w (fun e ds w => ds = [] ∧ resW ZP [.cell 4 35, .tmp 5] e w fun v => Q v w) (fun _ _ _ _ => False) (fun e ds w => ds = [] ∧ resW ZP [.cell 4 35, .tmp 5] e w fun v => Q v w) (fun _ _ _ _ => False) ⟨⟩) : Rets ZP 69 #[v0, v1] w Q :=
  rets_of_mwp follows_mo Go.Proofs.Tryz.func69 pl69 st69 ok69 (by kernel_rfl) h
def m70 : MC := (.seq (.ops [⟨some 1,.box 35 (ZT 0),0,none⟩,⟨some 2,.assign (.const (.int .i64 0)),3,none⟩])
    (.seq (.seq (.ops [⟨some 3,.fieldAddr 35 (ZT 1) 0,0,none⟩,⟨some 4,.load 3 (ZT 3),3,none⟩,⟨some 5,.binOp .eql 3 (ZT 4) (.const (.int .i64 4)) 3,4,none⟩])
    (.cond (ZT 5) (.seq (.ops [⟨some 6,.fieldAddr 35 (ZT 1) 2,0,none⟩,⟨some 7,.load 33 (ZT 6),33,none⟩,⟨some 8,.indexAddr 33 (ZT 7) (.const (.int .i64 2)),0,none⟩,⟨some 9,.load 3 (ZT 8),3,none⟩,⟨some 2,.assign (ZT 9),3,none⟩])
    .ret) .skip))
    (.seq (.ops [⟨some 2,.assign (.const (.int .i64 1)),3,none⟩])
    .ret)))
def pl70 : Nat → Plan := fun _ => .done
theorem st70 : Go.Proofs.Tryz.f70.body.map (strip pl70) = some m70 := by kernel_rfl
theorem ok70 : okB pl70 Go.Proofs.Tryz.f70 1 = true := by kernel_rfl
theorem en70 {v0 w} {Q : Value → World → Prop} (h : mwpB ZP m70 (argEnv [v0]) [] w (fun e ds w => ds = [] ∧ resW ZP [.tmp 2] e w fun v => Q v w) (fun _ _ _ _ => False) (fun e ds w => ds = [] ∧ resW ZP [.tmp 2] e w fun v => Q v w) (fun _ _ _ _ => False) ⟨⟩) : Rets ZP 70 #[v0] w Q :=
  rets_of_mwp follows_mo Go.Proofs.Tryz.func70 pl70 st70 ok70 (by kernel_rfl) h
def m71 : MC := (.seq (.ops [⟨some 2,.box 22 (ZT 0),0,none⟩,⟨some 3,.box 22 (ZT 1),0,none⟩,⟨some 4,.assign (.const .nilFunc),94,none⟩])
    (.seq (.ops [⟨some 5,.makeFunc (.func 103) #[] #[ZT 2,ZT 3],94,none⟩,⟨some 4,.assign (ZT 5),94,none⟩])
    .ret))
def pl71 : Nat → Plan := fun _ => .done
theorem st71 : Go.Proofs.Tryz.f71.body.map (strip pl71) = some m71 := by kernel_rfl
theorem ok71 : okB pl71 Go.Proofs.Tryz.f71 2 = true := by kernel_rfl
theorem en71 {v0 v1 w} {Q : Value → World → Prop} (h : mwpB ZP m71 (argEnv [v0, v1]) [] w (fun e ds w => ds = [] ∧ resW ZP [.tmp 4] e w fun v => Q v w) (fun _ _ _ _ => False) (fun e ds w => ds = [] ∧ resW ZP [.tmp 4] e w fun v => Q v w) (fun _ _ _ _ => False) ⟨⟩) : Rets ZP 71 #[v0, v1] w Q :=
  rets_of_mwp follows_mo Go.Proofs.Tryz.func71 pl71 st71 ok71 (by kernel_rfl) h
def m72 : MC := (.seq (.ops [⟨some 2,.box 35 (ZT 0),0,none⟩,⟨some 3,.box 35 (ZT 1),0,none⟩,⟨some 4,.assign (.const (.bool false)),4,none⟩])
    (.seq (.seq (.ops [⟨some 10,.load 35 (ZT 2),35,none⟩,⟨some 11,.call ⟨.value (.func 97),#[ZT 10],#[35]⟩,3,none⟩,⟨some 12,.binOp .eql 3 (ZT 11) (.const (.int .i64 0)) 3,4,none⟩])
    (.cond (ZT 12) (.seq (.ops [⟨some 13,.fieldAddr 35 (ZT 2) 2,0,none⟩,⟨some 14,.load 33 (ZT 13),33,none⟩,⟨some 15,.makeFunc (.func 105) #[] #[ZT 3],88,none⟩,⟨some 16,.call ⟨.value (.func 104),#[ZT 14,ZT 15],#[33,88]⟩,4,none⟩,⟨some 17,.unOp .not 4 (ZT 16),4,none⟩,⟨some 4,.assign (ZT 17),4,none⟩])
    .ret) .skip))
    (.seq (.ops [⟨some 18,.load 35 (ZT 2),35,none⟩,⟨some 19,.call ⟨.value (.func 66),#[ZT 18],#[35]⟩,86,none⟩,⟨some 20,.typeAssert (ZT 19) 86 112 false,112,none⟩,⟨some 5,.alloc 112,0,none⟩,⟨none,.store 112 (ZT 5) (ZT 20),0,none⟩])
    (.seq (.ops [⟨some 22,.load 35 (ZT 3),35,none⟩,⟨some 23,.call ⟨.value (.func 66),#[ZT 22],#[35]⟩,86,none⟩,⟨some 24,.typeAssert (ZT 23) 86 112 true,122,none⟩,⟨some 21,.move (ZT 24),122,none⟩,⟨some 25,.extract (ZT 21) 0,112,none⟩,⟨some 26,.extract (ZT 21) 1,4,none⟩,⟨some 6,.alloc 112,0,none⟩,⟨none,.store 112 (ZT 6) (ZT 25),0,none⟩,⟨some 7,.assign (ZT 26),4,none⟩])
    (.seq (.seq (.ops [⟨some 27,.move (ZT 7),4,none⟩,⟨some 28,.unOp .not 4 (ZT 27),4,none⟩])
    (.cond (ZT 28) (.seq (.ops [⟨some 29,.load 112 (ZT 5),112,none⟩,⟨some 30,.call ⟨.value (.func 106),#[ZT 29,.const (.int .i64 21)],#[112,3]⟩,33,none⟩,⟨some 8,.assign (ZT 30),33,none⟩])
    (.seq (.ops [⟨some 31,.move (ZT 8),33,none⟩,⟨some 32,.call ⟨.builtin .len,#[ZT 31],#[33]⟩,3,none⟩,⟨some 33,.binOp .leq 3 (ZT 32) (.const (.int .i64 20)) 3,4,none⟩,⟨some 34,.move (ZT 33),4,none⟩,⟨some 35,.move (ZT 8),33,some (some 34,true)⟩,⟨some 36,.makeFunc (.func 107) #[] #[ZT 3],88,some (some 34,true)⟩,⟨some 37,.call ⟨.value (.func 104),#[ZT 35,ZT 36],#[33,88]⟩,4,some (some 34,true)⟩,⟨some 38,.unOp .not 4 (ZT 37),4,some (some 34,true)⟩,⟨some 39,.pick (ZT 34) (ZT 38) (.const (.bool false)),4,none⟩,⟨some 4,.assign (ZT 39),4,none⟩])
    .ret)) .skip))
    (.seq (.draw (.take ⟨some 40,.fieldAddr 112 (ZT 5) 0,0,none⟩ (.take ⟨some 41,.load 3 (ZT 40),3,none⟩ (.take ⟨some 42,.fieldAddr 112 (ZT 5) 1,0,none⟩ (.take ⟨some 43,.load 3 (ZT 42),3,none⟩ (.take ⟨some 44,.fieldAddr 112 (ZT 5) 0,0,none⟩ (.take ⟨some 45,.load 3 (ZT 44),3,none⟩ (.take ⟨some 46,.binOp .sub 3 (ZT 43) (ZT 45) 3,3,none⟩ (.take ⟨some 47,.fieldAddr 112 (ZT 5) 2,0,none⟩ (.take ⟨some 48,.load 3 (ZT 47),3,none⟩ (.take ⟨some 49,.binOp .quo 3 (ZT 46) (ZT 48) 3,3,none⟩ (.take ⟨some 50,.fieldAddr 112 (ZT 5) 2,0,none⟩ (.take ⟨some 51,.load 3 (ZT 50),3,none⟩ (.take ⟨some 52,.binOp .mul 3 (ZT 49) (ZT 51) 3,3,none⟩ (.take ⟨some 53,.binOp .add 3 (ZT 41) (ZT 52) 3,3,none⟩ (.take ⟨some 9,.assign (ZT 53),3,none⟩ .done))))))))))))))))
    (.seq (.ops [⟨some 54,.load 112 (ZT 6),112,none⟩,⟨some 55,.fieldAddr 112 (ZT 5) 0,0,none⟩,⟨some 56,.load 3 (ZT 55),3,none⟩,⟨some 57,.call ⟨.value (.func 108),#[ZT 54,ZT 56],#[112,3]⟩,4,none⟩,⟨some 58,.move (ZT 57),4,none⟩,⟨some 59,.load 112 (ZT 6),112,some (some 58,true)⟩,⟨some 60,.move (ZT 9),3,some (some 58,true)⟩,⟨some 61,.call ⟨.value (.func 108),#[ZT 59,ZT 60],#[112,3]⟩,4,some (some 58,true)⟩,⟨some 62,.pick (ZT 58) (ZT 61) (.const (.bool false)),4,none⟩,⟨some 63,.move (ZT 62),4,none⟩,⟨some 64,.move (ZT 9),3,some (some 63,true)⟩,⟨some 65,.fieldAddr 112 (ZT 5) 0,0,some (some 63,true)⟩,⟨some 66,.load 3 (ZT 65),3,some (some 63,true)⟩,⟨some 67,.binOp .eql 3 (ZT 64) (ZT 66) 3,4,some (some 63,true)⟩,⟨some 68,.move (ZT 67),4,some (some 63,true)⟩,⟨some 69,.fieldAddr 112 (ZT 5) 2,0,some (some 68,false)⟩,⟨some 70,.load 3 (ZT 69),3,some (some 68,false)⟩,⟨some 71,.fieldAddr 112 (ZT 6) 2,0,some (some 68,false)⟩,⟨some 72,.load 3 (ZT 71),3,some (some 68,false)⟩,⟨some 73,.binOp .rem 3 (ZT 70) (ZT 72) 3,3,some (some 68,false)⟩,⟨some 74,.binOp .eql 3 (ZT 73) (.const (.int .i64 0)) 3,4,some (some 68,false)⟩,⟨some 75,.pick (ZT 68) (.const (.bool true)) (ZT 74),4,some (some 63,true)⟩,⟨some 76,.pick (ZT 63) (ZT 75) (.const (.bool false)),4,none⟩,⟨some 4,.assign (ZT 76),4,none⟩])
    .ret)))))))
def pl72 : Nat → Plan := fun id => if id = 8 then (.take 0 (.take 1 (.take 2 (.take 3 (.take 4 (.take 5 (.take 6 (.take 7 (.take 8 (.take 9 (.take 10 (.take 11 (.take 12 (.take 13 (.take 14 .done))))))))))))))) else .done
theorem st72 : Go.Proofs.Tryz.f72.body.map (strip pl72) = some m72 := by kernel_rfl
theorem ok72 : okB pl72 Go.Proofs.Tryz.f72 2 = true := by kernel_rfl
theorem en72 {v0 v1 w} {Q : Value → World → Prop} (h : mwpB ZP m72 (argEnv [v0, v1]) [] w (fun e ds w => ds = [] ∧ resW ZP [.tmp 4] e w fun v => Q v w) (fun _ _ _ _ => False) (fun e ds w => ds = [] ∧ resW ZP [.tmp 4] e w fun v => Q v w) (fun _ _ _ _ => False) ⟨⟩) : Rets ZP 72 #[v0, v1] w Q :=
  rets_of_mwp follows_mo Go.Proofs.Tryz.func72 pl72 st72 ok72 (by kernel_rfl) h
noncomputable def rf73_0 : Code := subC [1, 1, 1, 1, 0, 1, 0] (bodyC Go.Proofs.Tryz.f73)
noncomputable def ra73_0 : Code := subC [0] rf73_0
noncomputable def rb73_0 : Code := subC [1] rf73_0
noncomputable def m73 : MC := (.seq (.ops [⟨some 2,.box 24 (ZT 0),0,none⟩,⟨some 3,.box 24 (ZT 1),0,none⟩,⟨some 4,.alloc 24,0,none⟩,⟨some 5,.alloc 28,0,none⟩])
    (.seq (.ops [⟨some 10,.makeFunc (.func 109) #[] #[ZT 4,ZT 5],1,none⟩,⟨none,.defer ⟨.value (ZT 10),#[],#[]⟩,0,none⟩])
    (.seq (.seq (.ops [⟨some 11,.fieldAddr 24 (ZT 2) 0,0,none⟩,⟨some 12,.load 3 (ZT 11),3,none⟩,⟨some 13,.fieldAddr 24 (ZT 3) 0,0,none⟩,⟨some 14,.load 3 (ZT 13),3,none⟩,⟨some 15,.binOp .neq 3 (ZT 12) (ZT 14) 3,4,none⟩])
    (.cond (ZT 15) (.ops [⟨some 16,.build 124 #[(0,.const (.int .i64 10))],124,none⟩,⟨some 17,.makeInterface 124 (ZT 16),20,none⟩,⟨none,.panic (ZT 17),0,none⟩]) .skip))
    (.seq (.ops [⟨some 18,.fieldAddr 24 (ZT 2) 0,0,none⟩,⟨some 19,.load 3 (ZT 18),3,none⟩,⟨some 20,.fieldAddr 24 (ZT 4) 0,0,none⟩,⟨none,.store 3 (ZT 20) (ZT 19),0,none⟩])
    (.seq (.seq (.ops [⟨some 21,.fieldAddr 24 (ZT 2) 1,0,none⟩,⟨some 22,.load 22 (ZT 21),22,none⟩,⟨some 23,.fieldAddr 24 (ZT 3) 1,0,none⟩,⟨some 24,.load 22 (ZT 23),22,none⟩,⟨some 25,.call ⟨.value (.func 71),#[ZT 22,ZT 24],#[22,22]⟩,94,none⟩])
    (.block 0 (.raw rf73_0)))
    (.seq (.ops [⟨some 91,.load 24 (ZT 4),24,none⟩,⟨none,.store 24 (ZT 4) (ZT 91),0,none⟩,⟨none,.store 28 (ZT 5) (.const (.int .i64 0)),0,none⟩])
    .ret))))))
def pl73 : Nat → Plan := fun id => if id = 13 then (.take 0 (.take 1 (.take 2 (.take 3 (.take 4 (.take 5 (.take 6 (.take 7 (.take 8 (.take 9 (.alt 10 (.take 11 (.alt 12 (.alt 13 (.take 14 (.altL 15 .done .none)) .none) .none)) .none))))))))))) else if id = 15 then (.take 0 (.take 1 (.take 2 (.take 3 (.take 4 (.take 5 (.take 6 (.take 7 (.take 8 (.take 9 (.alt 10 (.take 11 (.alt 12 (.alt 13 (.take 14 (.altL 15 .done .none)) .none) .none)) .none))))))))))) else if id = 8 then (.take 0 (.take 1 (.take 2 (.take 3 (.take 4 (.take 5 (.take 6 (.take 7 (.alt 8 (.take 9 (.take 10 (.take 11 (.alt 12 (.altL 13 (.take 14 .done) .none) .none)))) (.alt 12 (.alt 8 (.take 9 (.take 10 (.take 11 (.altL 13 (.take 14 .done) .none)))) .none) .none)))))))))) else if id = 11 then (.take 0 (.take 1 (.take 2 (.take 3 (.take 4 (.take 5 (.take 6 (.take 7 (.alt 8 (.alt 9 (.take 10 (.altL 11 .done .none)) .none) .none))))))))) else .done
theorem st73 : Go.Proofs.Tryz.f73.body.map (strip pl73) = some m73 := by kernel_rfl
theorem rfE73_0 : rf73_0 = .rangeFunc (.tmp 25) #[26, 27] ra73_0 rb73_0 := by kernel_rfl
noncomputable def mra73_0 : MC := (.seq (.ops [⟨some 6,.assign (ZT 26),96,none⟩])
    (.ops [⟨some 7,.assign (ZT 27),96,none⟩]))
noncomputable def mrb73_0 : MC := (.block 1 (.block 2 (.seq (.ops [⟨some 56,.move (ZT 7),96,none⟩,⟨some 57,.binOp .eql 96 (ZT 56) (.const (.pointer none)) 96,4,none⟩,⟨some 55,.assign (ZT 57),4,none⟩])
    (.cond (ZT 55) (.draw (.take ⟨some 58,.fieldAddr 24 (ZT 4) 1,0,none⟩ (.take ⟨some 59,.load 22 (ZT 58),22,none⟩ (.take ⟨some 60,.move (ZT 6),96,none⟩ (.take ⟨some 61,.nilCheck (ZT 60),0,none⟩ (.take ⟨some 62,.fieldAddr 72 (ZT 61) 0,0,none⟩ (.take ⟨some 63,.load 3 (ZT 62),3,none⟩ (.take ⟨some 64,.move (ZT 6),96,none⟩ (.take ⟨some 65,.nilCheck (ZT 64),0,none⟩ (.take ⟨some 66,.fieldAddr 72 (ZT 65) 1,0,none⟩ (.take ⟨some 67,.load 35 (ZT 66),35,none⟩ (.alt ⟨some 68,.call ⟨.value (.func 83),#[ZT 67],#[35]⟩,35,none⟩ (.take ⟨some 69,.build 72 #[(0,ZT 63),(1,ZT 68)],72,none⟩ (.alt ⟨some 70,.buildSlice 22 1 #[(0,ZT 69)],22,none⟩ (.alt ⟨some 71,.call ⟨.builtin .append,#[ZT 59,ZT 70],#[22,22]⟩,22,none⟩ (.take ⟨some 72,.fieldAddr 24 (ZT 4) 1,0,none⟩ (.altL ⟨none,.store 22 (ZT 72) (ZT 71),0,none⟩ .done .none)) .none) .none)) .none)))))))))))) (.seq (.ops [⟨some 74,.move (ZT 6),96,none⟩,⟨some 75,.binOp .eql 96 (ZT 74) (.const (.pointer none)) 96,4,none⟩,⟨some 73,.assign (ZT 75),4,none⟩])
    (.cond (ZT 73) (.draw (.take ⟨some 76,.fieldAddr 24 (ZT 4) 1,0,none⟩ (.take ⟨some 77,.load 22 (ZT 76),22,none⟩ (.take ⟨some 78,.move (ZT 7),96,none⟩ (.take ⟨some 79,.nilCheck (ZT 78),0,none⟩ (.take ⟨some 80,.fieldAddr 72 (ZT 79) 0,0,none⟩ (.take ⟨some 81,.load 3 (ZT 80),3,none⟩ (.take ⟨some 82,.move (ZT 7),96,none⟩ (.take ⟨some 83,.nilCheck (ZT 82),0,none⟩ (.take ⟨some 84,.fieldAddr 72 (ZT 83) 1,0,none⟩ (.take ⟨some 85,.load 35 (ZT 84),35,none⟩ (.alt ⟨some 86,.call ⟨.value (.func 83),#[ZT 85],#[35]⟩,35,none⟩ (.take ⟨some 87,.build 72 #[(0,ZT 81),(1,ZT 86)],72,none⟩ (.alt ⟨some 88,.buildSlice 22 1 #[(0,ZT 87)],22,none⟩ (.alt ⟨some 89,.call ⟨.builtin .append,#[ZT 77,ZT 88],#[22,22]⟩,22,none⟩ (.take ⟨some 90,.fieldAddr 24 (ZT 4) 1,0,none⟩ (.altL ⟨none,.store 22 (ZT 90) (ZT 89),0,none⟩ .done .none)) .none) .none)) .none)))))))))))) (.seq (.draw (.take ⟨some 29,.move (ZT 6),96,none⟩ (.take ⟨some 30,.nilCheck (ZT 29),0,none⟩ (.take ⟨some 31,.fieldAddr 72 (ZT 30) 1,0,none⟩ (.take ⟨some 32,.load 35 (ZT 31),35,none⟩ (.take ⟨some 33,.move (ZT 7),96,none⟩ (.take ⟨some 34,.nilCheck (ZT 33),0,none⟩ (.take ⟨some 35,.fieldAddr 72 (ZT 34) 1,0,none⟩ (.take ⟨some 36,.load 35 (ZT 35),35,none⟩ (.alt ⟨some 37,.call ⟨.value (.func 68),#[ZT 32,ZT 36],#[35,35]⟩,91,none⟩ (.take ⟨some 28,.move (ZT 37),91,none⟩ (.take ⟨some 38,.extract (ZT 28) 0,35,none⟩ (.take ⟨some 39,.extract (ZT 28) 1,4,none⟩ (.alt ⟨some 8,.alloc 35,0,none⟩ (.altL ⟨none,.store 35 (ZT 8) (ZT 38),0,none⟩ (.take ⟨some 9,.assign (ZT 39),4,none⟩ .done) .none) .none)))) (.alt ⟨some 8,.alloc 35,0,none⟩ (.alt ⟨some 37,.call ⟨.value (.func 68),#[ZT 32,ZT 36],#[35,35]⟩,91,none⟩ (.take ⟨some 28,.move (ZT 37),91,none⟩ (.take ⟨some 38,.extract (ZT 28) 0,35,none⟩ (.take ⟨some 39,.extract (ZT 28) 1,4,none⟩ (.altL ⟨none,.store 35 (ZT 8) (ZT 38),0,none⟩ (.take ⟨some 9,.assign (ZT 39),4,none⟩ .done) .none)))) .none) .none)))))))))))
    (.seq (.seq (.ops [⟨some 40,.move (ZT 9),4,none⟩,⟨some 41,.unOp .not 4 (ZT 40),4,none⟩])
    (.cond (ZT 41) (.ops [⟨some 42,.build 124 #[(0,.const (.int .i64 13))],124,none⟩,⟨some 43,.makeInterface 124 (ZT 42),20,none⟩,⟨none,.panic (ZT 43),0,none⟩]) .skip))
    (.draw (.take ⟨some 44,.fieldAddr 24 (ZT 4) 1,0,none⟩ (.take ⟨some 45,.load 22 (ZT 44),22,none⟩ (.take ⟨some 46,.move (ZT 6),96,none⟩ (.take ⟨some 47,.nilCheck (ZT 46),0,none⟩ (.take ⟨some 48,.fieldAddr 72 (ZT 47) 0,0,none⟩ (.take ⟨some 49,.load 3 (ZT 48),3,none⟩ (.take ⟨some 50,.load 35 (ZT 8),35,none⟩ (.take ⟨some 51,.build 72 #[(0,ZT 49),(1,ZT 50)],72,none⟩ (.alt ⟨some 52,.buildSlice 22 1 #[(0,ZT 51)],22,none⟩ (.alt ⟨some 53,.call ⟨.builtin .append,#[ZT 45,ZT 52],#[22,22]⟩,22,none⟩ (.take ⟨some 54,.fieldAddr 24 (ZT 4) 1,0,none⟩ (.altL ⟨none,.store 22 (ZT 54) (ZT 53),0,none⟩ .done .none)) .none) .none))))))))))))))))))
theorem stra73_0 : strip pl73 ra73_0 = mra73_0 := by kernel_rfl
theorem okra73_0 : (plansOk pl73 ra73_0 && noDefer ra73_0) = true := by kernel_rfl
theorem strb73_0 : strip pl73 rb73_0 = mrb73_0 := by kernel_rfl
theorem okrb73_0 : (plansOk pl73 rb73_0 && noDefer rb73_0) = true := by kernel_rfl
theorem ok73 : okB pl73 Go.Proofs.Tryz.f73 2 = true := by kernel_rfl
def m74 : MC := (.seq (.ops [⟨some 2,.assign (.const (.bool false)),4,none⟩])
    (.seq (.ops [⟨some 3,.move (ZT 0),50,none⟩,⟨some 4,.call ⟨.builtin .len,#[ZT 3],#[50]⟩,3,none⟩,⟨some 5,.binOp .leq 3 (ZT 4) (.const (.int .i64 40)) 3,4,none⟩,⟨some 6,.move (ZT 5),4,none⟩,⟨some 7,.move (ZT 0),50,some (some 6,true)⟩,⟨some 8,.call ⟨.value (.func 110),#[ZT 7,.func 111],#[50,25]⟩,4,some (some 6,true)⟩,⟨some 9,.unOp .not 4 (ZT 8),4,some (some 6,true)⟩,⟨some 10,.pick (ZT 6) (ZT 9) (.const (.bool false)),4,none⟩,⟨some 2,.assign (ZT 10),4,none⟩])
    .ret))
def pl74 : Nat → Plan := fun _ => .done
theorem st74 : Go.Proofs.Tryz.f74.body.map (strip pl74) = some m74 := by kernel_rfl
theorem ok74 : okB pl74 Go.Proofs.Tryz.f74 1 = true := by kernel_rfl
theorem en74 {v0 w} {Q : Value → World → Prop} (h : mwpB ZP m74 (argEnv [v0]) [] w (fun e ds w => ds = [] ∧ resW ZP [.tmp 2] e w fun v => Q v w) (fun _ _ _ _ => False) (fun e ds w => ds = [] ∧ resW ZP [.tmp 2] e w fun v => Q v w) (fun _ _ _ _ => False) ⟨⟩) : Rets ZP 74 #[v0] w Q :=
  rets_of_mwp follows_mo Go.Proofs.Tryz.func74 pl74 st74 ok74 (by kernel_rfl) h
def m75 : MC := (.seq (.ops [⟨some 2,.assign (.const (.bool false)),4,none⟩])
    (.seq (.seq (.ops [⟨some 3,.assign (.const (.int .i64 0)),3,none⟩])
    (.block 0 (.loop (.seq (.seq (.ops [⟨some 4,.move (ZT 3),3,none⟩,⟨some 5,.move (ZT 0),50,none⟩,⟨some 6,.call ⟨.builtin .len,#[ZT 5],#[50]⟩,3,none⟩,⟨some 7,.binOp .lss 3 (ZT 4) (ZT 6) 3,4,none⟩])
    (.cond (ZT 7) .skip (.exit 0)))
    (.seq (.block 1 (.seq (.ops [⟨some 10,.move (ZT 0),50,none⟩,⟨some 11,.move (ZT 3),3,none⟩,⟨some 12,.indexAddr 50 (ZT 10) (ZT 11),0,none⟩,⟨some 13,.load 24 (ZT 12),24,none⟩,⟨some 14,.call ⟨.value (.func 27),#[ZT 13],#[24]⟩,4,none⟩,⟨some 15,.unOp .not 4 (ZT 14),4,none⟩])
    (.cond (ZT 15) (.seq (.ops [⟨some 2,.assign (.const (.bool false)),4,none⟩])
    .ret) .skip)))
    (.ops [⟨some 8,.move (ZT 3),3,none⟩,⟨some 9,.binOp .add 3 (ZT 8) (.const (.int .i64 1)) 3,3,none⟩,⟨some 3,.assign (ZT 9),3,none⟩]))))))
    (.seq (.ops [⟨some 16,.move (ZT 0),50,none⟩,⟨some 17,.call ⟨.builtin .len,#[ZT 16],#[50]⟩,3,none⟩,⟨some 18,.binOp .leq 3 (ZT 17) (.const (.int .i64 40)) 3,4,none⟩,⟨some 2,.assign (ZT 18),4,none⟩])
    .ret)))
def pl75 : Nat → Plan := fun _ => .done
theorem st75 : Go.Proofs.Tryz.f75.body.map (strip pl75) = some m75 := by kernel_rfl
theorem ok75 : okB pl75 Go.Proofs.Tryz.f75 1 = true := by kernel_rfl
theorem en75 {v0 w} {Q : Value → World → Prop} (h : mwpB ZP m75 (argEnv [v0]) [] w (fun e ds w => ds = [] ∧ resW ZP [.tmp 2] e w fun v => Q v w) (fun _ _ _ _ => False) (fun e ds w => ds = [] ∧ resW ZP [.tmp 2] e w fun v => Q v w) (fun _ _ _ _ => False) ⟨⟩) : Rets ZP 75 #[v0] w Q :=
  rets_of_mwp follows_mo Go.Proofs.Tryz.func75 pl75 st75 ok75 (by kernel_rfl) h
def m76 : MC := (.seq (.ops [⟨some 2,.box 24 (ZT 0),0,none⟩,⟨some 3,.box 24 (ZT 1),0,none⟩,⟨some 4,.alloc 24,0,none⟩,⟨some 5,.assign (.const (.int .i64 0)),28,none⟩])
    (.seq (.seq (.ops [⟨some 14,.fieldAddr 24 (ZT 2) 0,0,none⟩,⟨some 15,.load 3 (ZT 14),3,none⟩,⟨some 16,.fieldAddr 24 (ZT 3) 0,0,none⟩,⟨some 17,.load 3 (ZT 16),3,none⟩,⟨some 18,.binOp .neq 3 (ZT 15) (ZT 17) 3,4,none⟩])
    (.cond (ZT 18) (.seq (.ops [⟨some 19,.build 24 #[],24,none⟩,⟨none,.store 24 (ZT 4) (ZT 19),0,none⟩,⟨some 5,.assign (.const (.int .i64 10)),28,none⟩])
    .ret) .skip))
    (.seq (.ops [⟨some 20,.fieldAddr 24 (ZT 2) 0,0,none⟩,⟨some 21,.load 3 (ZT 20),3,none⟩,⟨some 22,.build 24 #[(0,ZT 21)],24,none⟩,⟨some 6,.alloc 24,0,none⟩,⟨none,.store 24 (ZT 6) (ZT 22),0,none⟩])
    (.seq (.seq (.ops [⟨some 7,.assign (.const (.int .i64 1)),3,none⟩])
    (.block 0 (.loop (.seq (.seq (.ops [⟨some 23,.move (ZT 7),3,none⟩,⟨some 24,.binOp .leq 3 (ZT 23) (.const (.int .i64 6)) 3,4,none⟩])
    (.cond (ZT 24) .skip (.exit 0)))
    (.seq (.block 1 (.seq (.ops [⟨some 28,.load 24 (ZT 2),24,none⟩,⟨some 29,.move (ZT 7),3,none⟩,⟨some 30,.call ⟨.value (.func 81),#[ZT 28,ZT 29],#[24,3]⟩,91,none⟩,⟨some 27,.move (ZT 30),91,none⟩,⟨some 31,.extract (ZT 27) 0,35,none⟩,⟨some 32,.extract (ZT 27) 1,4,none⟩,⟨some 8,.alloc 35,0,none⟩,⟨none,.store 35 (ZT 8) (ZT 31),0,none⟩,⟨some 9,.assign (ZT 32),4,none⟩])
    (.seq (.ops [⟨some 34,.load 24 (ZT 3),24,none⟩,⟨some 35,.move (ZT 7),3,none⟩,⟨some 36,.call ⟨.value (.func 81),#[ZT 34,ZT 35],#[24,3]⟩,91,none⟩,⟨some 33,.move (ZT 36),91,none⟩,⟨some 37,.extract (ZT 33) 0,35,none⟩,⟨some 38,.extract (ZT 33) 1,4,none⟩,⟨some 10,.alloc 35,0,none⟩,⟨none,.store 35 (ZT 10) (ZT 37),0,none⟩,⟨some 11,.assign (ZT 38),4,none⟩])
    (.seq (.ops [⟨some 39,.load 35 (ZT 8),35,none⟩,⟨some 40,.move (ZT 9),4,none⟩,⟨some 12,.alloc 35,0,none⟩,⟨none,.store 35 (ZT 12) (ZT 39),0,none⟩,⟨some 13,.assign (ZT 40),4,none⟩])
    (.seq (.block 2 (.seq (.ops [⟨some 42,.move (ZT 9),4,none⟩,⟨some 43,.move (ZT 42),4,none⟩,⟨some 44,.move (ZT 11),4,some (some 43,true)⟩,⟨some 45,.pick (ZT 43) (ZT 44) (.const (.bool false)),4,none⟩,⟨some 41,.assign (ZT 45),4,none⟩])
    (.cond (ZT 41) (.seq (.ops [⟨some 47,.load 35 (ZT 8),35,none⟩,⟨some 48,.load 35 (ZT 10),35,none⟩,⟨some 49,.call ⟨.value (.func 69),#[ZT 47,ZT 48],#[35,35]⟩,91,none⟩,⟨some 46,.move (ZT 49),91,none⟩,⟨some 50,.extract (ZT 46) 0,35,none⟩,⟨some 51,.extract (ZT 46) 1,4,none⟩,⟨none,.store 35 (ZT 12) (ZT 50),0,none⟩,⟨some 13,.assign (ZT 51),4,none⟩])
    (.seq (.ops [⟨some 52,.move (ZT 13),4,none⟩,⟨some 53,.unOp .not 4 (ZT 52),4,none⟩])
    (.cond (ZT 53) (.seq (.ops [⟨some 54,.build 24 #[],24,none⟩,⟨none,.store 24 (ZT 4) (ZT 54),0,none⟩,⟨some 5,.assign (.const (.int .i64 13)),28,none⟩])
    .ret) .skip))) (.seq (.ops [⟨some 56, .move (.tmp 11), 4, none⟩, ⟨some 55, .assign (.tmp 56), 4, none⟩])
    (.cond (ZT 55) (.ops [⟨some 57,.load 35 (ZT 10),35,none⟩,⟨none,.store 35 (ZT 12) (ZT 57),0,none⟩,⟨some 13,.assign (.const (.bool true)),4,none⟩]) .skip)))))
    (.seq (.ops [⟨some 58,.move (ZT 13),4,none⟩])
    (.cond (ZT 58) (.seq (.ops [⟨some 59,.buildSlice 33 0 #[],33,none⟩,⟨some 60,.fieldAddr 35 (ZT 12) 2,0,none⟩,⟨some 61,.load 33 (ZT 60),33,none⟩,⟨some 62,.call ⟨.builtin .append,#[ZT 59,ZT 61],#[33,33]⟩,33,none⟩,⟨some 63,.fieldAddr 35 (ZT 12) 2,0,none⟩,⟨none,.store 33 (ZT 63) (ZT 62),0,none⟩])
    (.ops [⟨some 64,.fieldAddr 24 (ZT 6) 1,0,none⟩,⟨some 65,.load 22 (ZT 64),22,none⟩,⟨some 66,.move (ZT 7),3,none⟩,⟨some 67,.load 35 (ZT 12),35,none⟩,⟨some 68,.build 72 #[(0,ZT 66),(1,ZT 67)],72,none⟩,⟨some 69,.buildSlice 22 1 #[(0,ZT 68)],22,none⟩,⟨some 70,.call ⟨.builtin .append,#[ZT 65,ZT 69],#[22,22]⟩,22,none⟩,⟨some 71,.fieldAddr 24 (ZT 6) 1,0,none⟩,⟨none,.store 22 (ZT 71) (ZT 70),0,none⟩])) .skip)))))))
    (.ops [⟨some 25,.move (ZT 7),3,none⟩,⟨some 26,.binOp .add 3 (ZT 25) (.const (.int .i64 1)) 3,3,none⟩,⟨some 7,.assign (ZT 26),3,none⟩]))))))
    (.seq (.ops [⟨some 72,.load 24 (ZT 6),24,none⟩,⟨none,.store 24 (ZT 4) (ZT 72),0,none⟩,⟨some 5,.assign (.const (.int .i64 0)),28,none⟩])
    .ret)))))
def pl76 : Nat → Plan := fun _ => .done
theorem st76 : Go.Proofs.Tryz.f76.body.map (strip pl76) = some m76 := by kernel_rfl
theorem ok76 : okB pl76 Go.Proofs.Tryz.f76 2 = true := by kernel_rfl
theorem en76 {v0 v1 w} {Q : Value → World → Prop} (h : mwpB ZP m76 (argEnv [v0, v1]) [] w (fun e ds w => ds = [] ∧ resW ZP [.cell 4 24, .tmp 5] e w fun v => Q v w) (fun _ _ _ _ => False) (fun e ds w => ds = [] ∧ resW ZP [.cell 4 24, .tmp 5] e w fun v => Q v w) (fun _ _ _ _ => False) ⟨⟩) : Rets ZP 76 #[v0, v1] w Q :=
  rets_of_mwp follows_mo Go.Proofs.Tryz.func76 pl76 st76 ok76 (by kernel_rfl) h
def m77 : MC := (.seq (.ops [⟨some 1,.box 24 (ZT 0),0,none⟩,⟨some 2,.alloc 24,0,none⟩])
    (.seq (.ops [⟨some 7,.fieldAddr 24 (ZT 1) 0,0,none⟩,⟨some 8,.load 3 (ZT 7),3,none⟩,⟨some 9,.build 24 #[(0,ZT 8)],24,none⟩,⟨some 3,.alloc 24,0,none⟩,⟨none,.store 24 (ZT 3) (ZT 9),0,none⟩])
    (.seq (.seq (.ops [⟨some 10,.fieldAddr 24 (ZT 1) 1,0,none⟩,⟨some 11,.load 22 (ZT 10),22,none⟩,⟨some 12,.call ⟨.builtin .len,#[ZT 11],#[22]⟩,3,none⟩,⟨some 13,.move (.const (.int .i64 0)),3,none⟩])
    (.block 0 (.loop (.seq (.ops [⟨some 14,.binOp .lss 3 (ZT 13) (ZT 12) 3,0,none⟩])
    (.seq (.cond (ZT 14) .skip (.exit 0))
    (.seq (.block 1 (.seq (.ops [⟨some 15,.indexAddr 22 (ZT 11) (ZT 13),0,none⟩,⟨some 16,.load 72 (ZT 15),72,none⟩,⟨some 5,.alloc 72,0,none⟩,⟨none,.store 72 (ZT 5) (ZT 16),0,none⟩])
    (.seq (.ops [⟨some 17,.fieldAddr 72 (ZT 5) 1,0,none⟩,⟨some 18,.fieldAddr 35 (ZT 17) 1,0,none⟩,⟨some 19,.load 3 (ZT 18),3,none⟩,⟨some 20,.fieldAddr 72 (ZT 5) 1,0,none⟩,⟨some 21,.fieldAddr 35 (ZT 20) 1,0,none⟩,⟨some 22,.load 3 (ZT 21),3,none⟩,⟨some 23,.buildSlice 33 1 #[(0,ZT 22)],33,none⟩,⟨some 24,.build 35 #[(0,.const (.int .i64 1)),(1,ZT 19),(2,ZT 23)],35,none⟩,⟨some 6,.alloc 35,0,none⟩,⟨none,.store 35 (ZT 6) (ZT 24),0,none⟩])
    (.ops [⟨some 25,.fieldAddr 24 (ZT 3) 1,0,none⟩,⟨some 26,.load 22 (ZT 25),22,none⟩,⟨some 27,.fieldAddr 72 (ZT 5) 0,0,none⟩,⟨some 28,.load 3 (ZT 27),3,none⟩,⟨some 29,.load 35 (ZT 6),35,none⟩,⟨some 30,.build 72 #[(0,ZT 28),(1,ZT 29)],72,none⟩,⟨some 31,.buildSlice 22 1 #[(0,ZT 30)],22,none⟩,⟨some 32,.call ⟨.builtin .append,#[ZT 26,ZT 31],#[22,22]⟩,22,none⟩,⟨some 33,.fieldAddr 24 (ZT 3) 1,0,none⟩,⟨none,.store 22 (ZT 33) (ZT 32),0,none⟩]))))
    (.ops [⟨some 34,.binOp .add 3 (ZT 13) (.const (.int .i64 1)) 3,3,none⟩,⟨some 13,.move (ZT 34),3,none⟩])))))))
    (.seq (.ops [⟨some 35,.load 24 (ZT 3),24,none⟩,⟨none,.store 24 (ZT 2) (ZT 35),0,none⟩])
    .ret))))
def pl77 : Nat → Plan := fun _ => .done
theorem st77 : Go.Proofs.Tryz.f77.body.map (strip pl77) = some m77 := by kernel_rfl
theorem ok77 : okB pl77 Go.Proofs.Tryz.f77 1 = true := by kernel_rfl
theorem en77 {v0 w} {Q : Value → World → Prop} (h : mwpB ZP m77 (argEnv [v0]) [] w (fun e ds w => ds = [] ∧ resW ZP [.cell 2 24] e w fun v => Q v w) (fun _ _ _ _ => False) (fun e ds w => ds = [] ∧ resW ZP [.cell 2 24] e w fun v => Q v w) (fun _ _ _ _ => False) ⟨⟩) : Rets ZP 77 #[v0] w Q :=
  rets_of_mwp follows_mo Go.Proofs.Tryz.func77 pl77 st77 ok77 (by kernel_rfl) h
def m78 : MC := (.seq (.ops [⟨some 1,.box 24 (ZT 0),0,none⟩,⟨some 2,.alloc 24,0,none⟩])
    (.seq (.ops [⟨some 6,.fieldAddr 24 (ZT 1) 0,0,none⟩,⟨some 7,.load 3 (ZT 6),3,none⟩,⟨some 8,.build 24 #[(0,ZT 7)],24,none⟩,⟨some 3,.alloc 24,0,none⟩,⟨none,.store 24 (ZT 3) (ZT 8),0,none⟩])
    (.seq (.seq (.ops [⟨some 4,.assign (.const (.int .i64 0)),3,none⟩])
    (.block 0 (.loop (.seq (.seq (.ops [⟨some 9,.move (ZT 4),3,none⟩,⟨some 10,.fieldAddr 24 (ZT 1) 1,0,none⟩,⟨some 11,.load 22 (ZT 10),22,none⟩,⟨some 12,.call ⟨.builtin .len,#[ZT 11],#[22]⟩,3,none⟩,⟨some 13,.binOp .lss 3 (ZT 9) (ZT 12) 3,4,none⟩])
    (.cond (ZT 13) .skip (.exit 0)))
    (.seq (.block 1 (.seq (.ops [⟨some 16,.fieldAddr 24 (ZT 1) 1,0,none⟩,⟨some 17,.load 22 (ZT 16),22,none⟩,⟨some 18,.move (ZT 4),3,none⟩,⟨some 19,.indexAddr 22 (ZT 17) (ZT 18),0,none⟩,⟨some 20,.fieldAddr 72 (ZT 19) 1,0,none⟩,⟨some 21,.fieldAddr 35 (ZT 20) 1,0,none⟩,⟨some 22,.load 3 (ZT 21),3,none⟩,⟨some 5,.assign (ZT 22),3,none⟩])
    (.draw (.take ⟨some 23,.fieldAddr 24 (ZT 3) 1,0,none⟩ (.take ⟨some 24,.load 22 (ZT 23),22,none⟩ (.take ⟨some 25,.fieldAddr 24 (ZT 1) 1,0,none⟩ (.take ⟨some 26,.load 22 (ZT 25),22,none⟩ (.take ⟨some 27,.move (ZT 4),3,none⟩ (.take ⟨some 28,.indexAddr 22 (ZT 26) (ZT 27),0,none⟩ (.take ⟨some 29,.fieldAddr 72 (ZT 28) 0,0,none⟩ (.take ⟨some 30,.load 3 (ZT 29),3,none⟩ (.take ⟨some 31,.move (ZT 5),3,none⟩ (.take ⟨some 32,.move (ZT 5),3,none⟩ (.alt ⟨some 33,.buildSlice 33 1 #[(0,ZT 32)],33,none⟩ (.take ⟨some 34,.build 35 #[(0,.const (.int .i64 1)),(1,ZT 31),(2,ZT 33)],35,none⟩ (.take ⟨some 35,.build 72 #[(0,ZT 30),(1,ZT 34)],72,none⟩ (.alt ⟨some 36,.buildSlice 22 1 #[(0,ZT 35)],22,none⟩ (.alt ⟨some 37,.call ⟨.builtin .append,#[ZT 24,ZT 36],#[22,22]⟩,22,none⟩ (.take ⟨some 38,.fieldAddr 24 (ZT 3) 1,0,none⟩ (.altL ⟨none,.store 22 (ZT 38) (ZT 37),0,none⟩ .done .none)) .none) .none))) .none))))))))))))))
    (.ops [⟨some 14,.move (ZT 4),3,none⟩,⟨some 15,.binOp .add 3 (ZT 14) (.const (.int .i64 1)) 3,3,none⟩,⟨some 4,.assign (ZT 15),3,none⟩]))))))
    (.seq (.ops [⟨some 39,.load 24 (ZT 3),24,none⟩,⟨none,.store 24 (ZT 2) (ZT 39),0,none⟩])
    .ret))))
def pl78 : Nat → Plan := fun id => if id = 6 then (.take 0 (.take 1 (.take 2 (.take 3 (.take 4 (.take 5 (.take 6 (.take 7 (.take 8 (.take 9 (.alt 10 (.take 11 (.take 12 (.alt 13 (.alt 14 (.take 15 (.altL 16 .done .none)) .none) .none))) .none))))))))))) else .done
theorem st78 : Go.Proofs.Tryz.f78.body.map (strip pl78) = some m78 := by kernel_rfl
theorem ok78 : okB pl78 Go.Proofs.Tryz.f78 1 = true := by kernel_rfl
theorem en78 {v0 w} {Q : Value → World → Prop} (h : mwpB ZP m78 (argEnv [v0]) [] w (fun e ds w => ds = [] ∧ resW ZP [.cell 2 24] e w fun v => Q v w) (fun _ _ _ _ => False) (fun e ds w => ds = [] ∧ resW ZP [.cell 2 24] e w fun v => Q v w) (fun _ _ _ _ => False) ⟨⟩) : Rets ZP 78 #[v0] w Q :=
  rets_of_mwp follows_mo Go.Proofs.Tryz.func78 pl78 st78 ok78 (by kernel_rfl) h
def m79 : MC := (.seq (.ops [⟨some 4,.assign (.const (.bool false)),4,none⟩])
    (.seq (.ops [⟨some 5,.move (ZT 0),22,none⟩,⟨some 6,.move (ZT 1),100,none⟩,⟨some 7,.call ⟨.value (.func 112),#[ZT 5,ZT 6],#[22,100]⟩,3,none⟩,⟨some 8,.binOp .geq 3 (ZT 7) (.const (.int .i64 0)) 3,4,none⟩,⟨some 4,.assign (ZT 8),4,none⟩])
    .ret))
def pl79 : Nat → Plan := fun _ => .done
theorem st79 : Go.Proofs.Tryz.f79.body.map (strip pl79) = some m79 := by kernel_rfl
theorem ok79 : okB pl79 Go.Proofs.Tryz.f79 2 = true := by kernel_rfl
theorem en79 {v0 v1 w} {Q : Value → World → Prop} (h : mwpB ZP m79 (argEnv [v0, v1]) [] w (fun e ds w => ds = [] ∧ resW ZP [.tmp 4] e w fun v => Q v w) (fun _ _ _ _ => False) (fun e ds w => ds = [] ∧ resW ZP [.tmp 4] e w fun v => Q v w) (fun _ _ _ _ => False) ⟨⟩) : Rets ZP 79 #[v0, v1] w Q :=
  rets_of_mwp follows_mo Go.Proofs.Tryz.func79 pl79 st79 ok79 (by kernel_rfl) h
def m80 : MC := (.seq (.ops [⟨some 1,.box 72 (ZT 0),0,none⟩,⟨some 2,.assign (.const (.bool false)),4,none⟩])
    (.seq (.ops [⟨some 3,.fieldAddr 72 (ZT 1) 1,0,none⟩,⟨some 4,.fieldAddr 35 (ZT 3) 0,0,none⟩,⟨some 5,.load 3 (ZT 4),3,none⟩,⟨some 6,.binOp .neq 3 (ZT 5) (.const (.int .i64 1)) 3,4,none⟩,⟨some 2,.assign (ZT 6),4,none⟩])
    .ret))
def pl80 : Nat → Plan := fun _ => .done
theorem st80 : Go.Proofs.Tryz.f80.body.map (strip pl80) = some m80 := by kernel_rfl
theorem ok80 : okB pl80 Go.Proofs.Tryz.f80 1 = true := by kernel_rfl
theorem en80 {v0 w} {Q : Value → World → Prop} (h : mwpB ZP m80 (argEnv [v0]) [] w (fun e ds w => ds = [] ∧ resW ZP [.tmp 2] e w fun v => Q v w) (fun _ _ _ _ => False) (fun e ds w => ds = [] ∧ resW ZP [.tmp 2] e w fun v => Q v w) (fun _ _ _ _ => False) ⟨⟩) : Rets ZP 80 #[v0] w Q :=
  rets_of_mwp follows_mo Go.Proofs.Tryz.func80 pl80 st80 ok80 (by kernel_rfl) h
def m81 : MC := (.seq (.ops [⟨some 2,.box 24 (ZT 0),0,none⟩,⟨some 4,.alloc 35,0,none⟩,⟨some 5,.assign (.const (.bool false)),4,none⟩])
    (.seq (.seq (.ops [⟨some 6,.assign (.const (.int .i64 0)),3,none⟩])
    (.block 0 (.loop (.seq (.seq (.ops [⟨some 7,.move (ZT 6),3,none⟩,⟨some 8,.fieldAddr 24 (ZT 2) 1,0,none⟩,⟨some 9,.load 22 (ZT 8),22,none⟩,⟨some 10,.call ⟨.builtin .len,#[ZT 9],#[22]⟩,3,none⟩,⟨some 11,.binOp .lss 3 (ZT 7) (ZT 10) 3,4,none⟩])
    (.cond (ZT 11) .skip (.exit 0)))
    (.seq (.block 1 (.seq (.ops [⟨some 14,.fieldAddr 24 (ZT 2) 1,0,none⟩,⟨some 15,.load 22 (ZT 14),22,none⟩,⟨some 16,.move (ZT 6),3,none⟩,⟨some 17,.indexAddr 22 (ZT 15) (ZT 16),0,none⟩,⟨some 18,.fieldAddr 72 (ZT 17) 0,0,none⟩,⟨some 19,.load 3 (ZT 18),3,none⟩,⟨some 20,.move (ZT 1),3,none⟩,⟨some 21,.binOp .eql 3 (ZT 19) (ZT 20) 3,4,none⟩])
    (.cond (ZT 21) (.seq (.ops [⟨some 22,.fieldAddr 24 (ZT 2) 1,0,none⟩,⟨some 23,.load 22 (ZT 22),22,none⟩,⟨some 24,.move (ZT 6),3,none⟩,⟨some 25,.indexAddr 22 (ZT 23) (ZT 24),0,none⟩,⟨some 26,.fieldAddr 72 (ZT 25) 1,0,none⟩,⟨some 27,.load 35 (ZT 26),35,none⟩,⟨none,.store 35 (ZT 4) (ZT 27),0,none⟩,⟨some 5,.assign (.const (.bool true)),4,none⟩])
    .ret) .skip)))
    (.ops [⟨some 12,.move (ZT 6),3,none⟩,⟨some 13,.binOp .add 3 (ZT 12) (.const (.int .i64 1)) 3,3,none⟩,⟨some 6,.assign (ZT 13),3,none⟩]))))))
    (.seq (.ops [⟨some 28,.build 35 #[],35,none⟩,⟨none,.store 35 (ZT 4) (ZT 28),0,none⟩,⟨some 5,.assign (.const (.bool false)),4,none⟩])
    .ret)))
def pl81 : Nat → Plan := fun _ => .done
theorem st81 : Go.Proofs.Tryz.f81.body.map (strip pl81) = some m81 := by kernel_rfl
theorem ok81 : okB pl81 Go.Proofs.Tryz.f81 2 = true := by kernel_rfl
theorem en81 {v0 v1 w} {Q : Value → World → Prop} (h : mwpB ZP m81 (argEnv [v0, v1]) [] w (fun e ds w => ds = [] ∧ resW ZP [.cell 4 35, .tmp 5] e w fun v => Q v w) (fun _ _ _ _ => False) (fun e ds w => ds = [] ∧ resW ZP [.cell 4 35, .tmp 5] e w fun v => Q v w) (fun _ _ _ _ => False) ⟨⟩) : Rets ZP 81 #[v0, v1] w Q :=
  rets_of_mwp follows_mo Go.Proofs.Tryz.func81 pl81 st81 ok81 (by kernel_rfl) h
def m83 : MC := (.seq (.ops [⟨some 1,.box 35 (ZT 0),0,none⟩,⟨some 2,.alloc 35,0,none⟩])
    (.seq (.ops [⟨some 3,.fieldAddr 35 (ZT 1) 2,0,none⟩,⟨some 4,.load 33 (ZT 3),33,none⟩,⟨some 5,.call ⟨.value (.func 113),#[ZT 4],#[33]⟩,33,none⟩,⟨some 6,.fieldAddr 35 (ZT 1) 2,0,none⟩,⟨none,.store 33 (ZT 6) (ZT 5),0,none⟩])
    (.seq (.ops [⟨some 7,.load 35 (ZT 1),35,none⟩,⟨none,.store 35 (ZT 2) (ZT 7),0,none⟩])
    .ret)))
def pl83 : Nat → Plan := fun _ => .done
theorem st83 : Go.Proofs.Tryz.f83.body.map (strip pl83) = some m83 := by kernel_rfl
theorem ok83 : okB pl83 Go.Proofs.Tryz.f83 1 = true := by kernel_rfl
theorem en83 {v0 w} {Q : Value → World → Prop} (h : mwpB ZP m83 (argEnv [v0]) [] w (fun e ds w => ds = [] ∧ resW ZP [.cell 2 35] e w fun v => Q v w) (fun _ _ _ _ => False) (fun e ds w => ds = [] ∧ resW ZP [.cell 2 35] e w fun v => Q v w) (fun _ _ _ _ => False) ⟨⟩) : Rets ZP 83 #[v0] w Q :=
  rets_of_mwp follows_mo Go.Proofs.Tryz.func83 pl83 st83 ok83 (by kernel_rfl) h
def m96 : MC := (.seq (.ops [⟨some 0,.alloc 115,0,none⟩])
    (.seq (.ops [⟨some 1,.build 114 #[(0,.func 130),(1,.func 132)],114,none⟩,⟨some 2,.build 114 #[(0,.func 133),(1,.func 134)],114,none⟩,⟨some 3,.build 115 #[(0,ZT 1),(1,ZT 2)],115,none⟩,⟨none,.store 115 (ZT 0) (ZT 3),0,none⟩])
    .ret))
def pl96 : Nat → Plan := fun _ => .done
theorem st96 : Go.Proofs.Tryz.f96.body.map (strip pl96) = some m96 := by kernel_rfl
theorem ok96 : okB pl96 Go.Proofs.Tryz.f96 0 = true := by kernel_rfl
theorem en96 {w} {Q : Value → World → Prop} (h : mwpB ZP m96 (argEnv []) [] w (fun e ds w => ds = [] ∧ resW ZP [.cell 0 115] e w fun v => Q v w) (fun _ _ _ _ => False) (fun e ds w => ds = [] ∧ resW ZP [.cell 0 115] e w fun v => Q v w) (fun _ _ _ _ => False) ⟨⟩) : Rets ZP 96 #[] w Q :=
  rets_of_mwp follows_mo Go.Proofs.Tryz.func96 pl96 st96 ok96 (by kernel_rfl) h
def m97 : MC := (.seq (.ops [⟨some 1,.box 35 (ZT 0),0,none⟩,⟨some 2,.assign (.const (.int .i64 0)),3,none⟩])
    (.seq (.seq (.ops [⟨some 3,.fieldAddr 35 (ZT 1) 0,0,none⟩,⟨some 4,.load 3 (ZT 3),3,none⟩,⟨some 5,.binOp .eql 3 (ZT 4) (.const (.int .i64 1)) 3,4,none⟩,⟨some 6,.move (ZT 5),4,none⟩,⟨some 7,.fieldAddr 35 (ZT 1) 0,0,some (some 6,false)⟩,⟨some 8,.load 3 (ZT 7),3,some (some 6,false)⟩,⟨some 9,.binOp .eql 3 (ZT 8) (.const (.int .i64 2)) 3,4,some (some 6,false)⟩,⟨some 10,.pick (ZT 6) (.const (.bool true)) (ZT 9),4,none⟩])
    (.cond (ZT 10) (.seq (.ops [⟨some 2,.assign (.const (.int .i64 0)),3,none⟩])
    .ret) .skip))
    (.seq (.ops [⟨some 2,.assign (.const (.int .i64 1)),3,none⟩])
    .ret)))
def pl97 : Nat → Plan := fun _ => .done
theorem st97 : Go.Proofs.Tryz.f97.body.map (strip pl97) = some m97 := by kernel_rfl
theorem ok97 : okB pl97 Go.Proofs.Tryz.f97 1 = true := by kernel_rfl
theorem en97 {v0 w} {Q : Value → World → Prop} (h : mwpB ZP m97 (argEnv [v0]) [] w (fun e ds w => ds = [] ∧ resW ZP [.tmp 2] e w fun v => Q v w) (fun _ _ _ _ => False) (fun e ds w => ds = [] ∧ resW ZP [.tmp 2] e w fun v => Q v w) (fun _ _ _ _ => False) ⟨⟩) : Rets ZP 97 #[v0] w Q :=
  rets_of_mwp follows_mo Go.Proofs.Tryz.func97 pl97 st97 ok97 (by kernel_rfl) h
def m98 : MC := (.seq (.ops [⟨some 1,.box 35 (ZT 0),0,none⟩,⟨some 2,.assign (.const (.bool false)),4,none⟩])
    (.seq (.ops [⟨some 3,.fieldAddr 35 (ZT 1) 0,0,none⟩,⟨some 4,.load 3 (ZT 3),3,none⟩,⟨some 5,.binOp .eql 3 (ZT 4) (.const (.int .i64 1)) 3,4,none⟩,⟨some 6,.move (ZT 5),4,none⟩,⟨some 7,.fieldAddr 35 (ZT 1) 0,0,some (some 6,false)⟩,⟨some 8,.load 3 (ZT 7),3,some (some 6,false)⟩,⟨some 9,.binOp .eql 3 (ZT 8) (.const (.int .i64 2)) 3,4,some (some 6,false)⟩,⟨some 10,.pick (ZT 6) (.const (.bool true)) (ZT 9),4,none⟩,⟨some 2,.assign (ZT 10),4,none⟩])
    .ret))
def pl98 : Nat → Plan := fun _ => .done
theorem st98 : Go.Proofs.Tryz.f98.body.map (strip pl98) = some m98 := by kernel_rfl
theorem ok98 : okB pl98 Go.Proofs.Tryz.f98 1 = true := by kernel_rfl
theorem en98 {v0 w} {Q : Value → World → Prop} (h : mwpB ZP m98 (argEnv [v0]) [] w (fun e ds w => ds = [] ∧ resW ZP [.tmp 2] e w fun v => Q v w) (fun _ _ _ _ => False) (fun e ds w => ds = [] ∧ resW ZP [.tmp 2] e w fun v => Q v w) (fun _ _ _ _ => False) ⟨⟩) : Rets ZP 98 #[v0] w Q :=
  rets_of_mwp follows_mo Go.Proofs.Tryz.func98 pl98 st98 ok98 (by kernel_rfl) h
def m99 : MC := (.seq (.ops [⟨some 3,.box 35 (ZT 0),0,none⟩,⟨some 4,.box 35 (ZT 1),0,none⟩,⟨some 5,.box 35 (ZT 2),0,none⟩,⟨some 6,.alloc 35,0,none⟩])
    (.seq (.block 0 (.seq (.ops [⟨some 13,.load 35 (ZT 3),35,none⟩,⟨some 14,.fieldAddr 35 (ZT 4) 1,0,none⟩,⟨some 15,.load 3 (ZT 14),3,none⟩,⟨some 16,.call ⟨.value (.func 26),#[ZT 13,ZT 15],#[35,3]⟩,4,none⟩,⟨some 12,.assign (ZT 16),4,none⟩])
    (.cond (ZT 12) (.ops [⟨some 17,.fieldAddr 35 (ZT 4) 1,0,none⟩,⟨some 18,.load 3 (ZT 17),3,none⟩,⟨some 19,.fieldAddr 35 (ZT 3) 1,0,none⟩,⟨none,.store 3 (ZT 19) (ZT 18),0,none⟩]) (.seq (.ops [⟨some 21,.load 35 (ZT 3),35,none⟩,⟨some 22,.fieldAddr 35 (ZT 5) 1,0,none⟩,⟨some 23,.load 3 (ZT 22),3,none⟩,⟨some 24,.call ⟨.value (.func 26),#[ZT 21,ZT 23],#[35,3]⟩,4,none⟩,⟨some 20,.assign (ZT 24),4,none⟩])
    (.cond (ZT 20) (.ops [⟨some 25,.fieldAddr 35 (ZT 5) 1,0,none⟩,⟨some 26,.load 3 (ZT 25),3,none⟩,⟨some 27,.fieldAddr 35 (ZT 3) 1,0,none⟩,⟨none,.store 3 (ZT 27) (ZT 26),0,none⟩]) (.ops [⟨some 7,.fieldAddr 35 (ZT 3) 2,0,none⟩,⟨some 8,.load 33 (ZT 7),33,none⟩,⟨some 9,.indexAddr 33 (ZT 8) (.const (.int .i64 0)),0,none⟩,⟨some 10,.load 3 (ZT 9),3,none⟩,⟨some 11,.fieldAddr 35 (ZT 3) 1,0,none⟩,⟨none,.store 3 (ZT 11) (ZT 10),0,none⟩]))))))
    (.seq (.ops [⟨some 28,.load 35 (ZT 3),35,none⟩,⟨none,.store 35 (ZT 6) (ZT 28),0,none⟩])
    .ret)))
def pl99 : Nat → Plan := fun _ => .done
theorem st99 : Go.Proofs.Tryz.f99.body.map (strip pl99) = some m99 := by kernel_rfl
theorem ok99 : okB pl99 Go.Proofs.Tryz.f99 3 = true := by kernel_rfl
theorem en99 {v0 v1 v2 w} {Q : Value → World → Prop} (h : mwpB ZP m99 (argEnv [v0, v1, v2]) [] w (fun e ds w => ds = [] ∧ resW ZP [.cell 6 35] e w fun v => Q v w) (fun _ _ _ _ => False) (fun e ds w => ds = [] ∧ resW ZP [.cell 6 35] e w fun v => Q v w) (fun _ _ _ _ => False) ⟨⟩) : Rets ZP 99 #[v0, v1, v2] w Q :=
  rets_of_mwp follows_mo Go.Proofs.Tryz.func99 pl99 st99 ok99 (by kernel_rfl) h
def m100 : MC := (.seq (.ops [⟨some 2,.alloc 35,0,none⟩])
    (.seq (.seq (.ops [⟨some 3,.move (ZT 0),33,none⟩,⟨some 4,.call ⟨.builtin .len,#[ZT 3],#[33]⟩,3,none⟩,⟨some 5,.binOp .eql 3 (ZT 4) (.const (.int .i64 1)) 3,4,none⟩])
    (.cond (ZT 5) (.seq (.ops [⟨some 6,.move (ZT 0),33,none⟩,⟨some 7,.build 35 #[(0,.const (.int .i64 1)),(2,ZT 6)],35,none⟩,⟨none,.store 35 (ZT 2) (ZT 7),0,none⟩])
    .ret) .skip))
    (.seq (.ops [⟨some 8,.move (ZT 0),33,none⟩,⟨some 9,.build 35 #[(0,.const (.int .i64 2)),(2,ZT 8)],35,none⟩,⟨none,.store 35 (ZT 2) (ZT 9),0,none⟩])
    .ret)))
def pl100 : Nat → Plan := fun _ => .done
theorem st100 : Go.Proofs.Tryz.f100.body.map (strip pl100) = some m100 := by kernel_rfl
theorem ok100 : okB pl100 Go.Proofs.Tryz.f100 1 = true := by kernel_rfl
theorem en100 {v0 w} {Q : Value → World → Prop} (h : mwpB ZP m100 (argEnv [v0]) [] w (fun e ds w => ds = [] ∧ resW ZP [.cell 2 35] e w fun v => Q v w) (fun _ _ _ _ => False) (fun e ds w => ds = [] ∧ resW ZP [.cell 2 35] e w fun v => Q v w) (fun _ _ _ _ => False) ⟨⟩) : Rets ZP 100 #[v0] w Q :=
  rets_of_mwp follows_mo Go.Proofs.Tryz.func100 pl100 st100 ok100 (by kernel_rfl) h
def m101 : MC := (.seq (.ops [⟨some 4,.assign (.const (.int .i64 0)),3,none⟩])
    (.seq (.ops [⟨some 6,.move (ZT 0),3,none⟩,⟨some 5,.assign (ZT 6),3,none⟩])
    (.seq (.block 0 (.loop (.seq (.seq (.ops [⟨some 7,.move (ZT 5),3,none⟩,⟨some 8,.move (ZT 1),3,none⟩,⟨some 9,.binOp .rem 3 (ZT 7) (ZT 8) 3,3,none⟩,⟨some 10,.binOp .neq 3 (ZT 9) (.const (.int .i64 0)) 3,4,none⟩])
    (.cond (ZT 10) .skip (.exit 0)))
    (.block 1 (.ops [⟨some 11,.move (ZT 5),3,none⟩,⟨some 12,.move (ZT 0),3,none⟩,⟨some 13,.binOp .add 3 (ZT 11) (ZT 12) 3,3,none⟩,⟨some 5,.assign (ZT 13),3,none⟩])))))
    (.seq (.ops [⟨some 14,.move (ZT 5),3,none⟩,⟨some 4,.assign (ZT 14),3,none⟩])
    .ret))))
def pl101 : Nat → Plan := fun _ => .done
theorem st101 : Go.Proofs.Tryz.f101.body.map (strip pl101) = some m101 := by kernel_rfl
theorem ok101 : okB pl101 Go.Proofs.Tryz.f101 2 = true := by kernel_rfl
theorem en101 {v0 v1 w} {Q : Value → World → Prop} (h : mwpB ZP m101 (argEnv [v0, v1]) [] w (fun e ds w => ds = [] ∧ resW ZP [.tmp 4] e w fun v => Q v w) (fun _ _ _ _ => False) (fun e ds w => ds = [] ∧ resW ZP [.tmp 4] e w fun v => Q v w) (fun _ _ _ _ => False) ⟨⟩) : Rets ZP 101 #[v0, v1] w Q :=
  rets_of_mwp follows_mo Go.Proofs.Tryz.func101 pl101 st101 ok101 (by kernel_rfl) h
def m102 : MC := (.seq (.ops [⟨some 1,.box 35 (ZT 0),0,none⟩,⟨some 2,.assign (.const (.int .i64 0)),3,none⟩])
    (.seq (.draw (.take ⟨some 3,.fieldAddr 35 (ZT 1) 2,0,none⟩ (.take ⟨some 4,.load 33 (ZT 3),33,none⟩ (.take ⟨some 5,.indexAddr 33 (ZT 4) (.const (.int .i64 0)),0,none⟩ (.take ⟨some 6,.load 3 (ZT 5),3,none⟩ (.take ⟨some 7,.fieldAddr 35 (ZT 1) 2,0,none⟩ (.take ⟨some 8,.load 33 (ZT 7),33,none⟩ (.take ⟨some 9,.indexAddr 33 (ZT 8) (.const (.int .i64 1)),0,none⟩ (.take ⟨some 10,.load 3 (ZT 9),3,none⟩ (.take ⟨some 11,.fieldAddr 35 (ZT 1) 2,0,none⟩ (.take ⟨some 12,.load 33 (ZT 11),33,none⟩ (.take ⟨some 13,.indexAddr 33 (ZT 12) (.const (.int .i64 0)),0,none⟩ (.take ⟨some 14,.load 3 (ZT 13),3,none⟩ (.take ⟨some 15,.binOp .sub 3 (ZT 10) (ZT 14) 3,3,none⟩ (.take ⟨some 16,.load 35 (ZT 1),35,none⟩ (.take ⟨some 19,.load 35 (ZT 1),35,none⟩ (.alt ⟨some 17,.call ⟨.value (.func 70),#[ZT 16],#[35]⟩,3,none⟩ (.take ⟨some 18,.binOp .quo 3 (ZT 15) (ZT 17) 3,3,none⟩ (.alt ⟨some 20,.call ⟨.value (.func 70),#[ZT 19],#[35]⟩,3,none⟩ (.take ⟨some 21,.binOp .mul 3 (ZT 18) (ZT 20) 3,3,none⟩ (.take ⟨some 22,.binOp .add 3 (ZT 6) (ZT 21) 3,3,none⟩ (.take ⟨some 2,.assign (ZT 22),3,none⟩ .done))) .none)) .none)))))))))))))))))
    .ret))
def pl102 : Nat → Plan := fun id => if id = 1 then (.take 0 (.take 1 (.take 2 (.take 3 (.take 4 (.take 5 (.take 6 (.take 7 (.take 8 (.take 9 (.take 10 (.take 11 (.take 12 (.take 13 (.take 16 (.alt 14 (.take 15 (.alt 17 (.take 18 (.take 19 (.take 20 .done))) .none)) .none)))))))))))))))) else .done
theorem st102 : Go.Proofs.Tryz.f102.body.map (strip pl102) = some m102 := by kernel_rfl
theorem ok102 : okB pl102 Go.Proofs.Tryz.f102 1 = true := by kernel_rfl
theorem en102 {v0 w} {Q : Value → World → Prop} (h : mwpB ZP m102 (argEnv [v0]) [] w (fun e ds w => ds = [] ∧ resW ZP [.tmp 2] e w fun v => Q v w) (fun _ _ _ _ => False) (fun e ds w => ds = [] ∧ resW ZP [.tmp 2] e w fun v => Q v w) (fun _ _ _ _ => False) ⟨⟩) : Rets ZP 102 #[v0] w Q :=
  rets_of_mwp follows_mo Go.Proofs.Tryz.func102 pl102 st102 ok102 (by kernel_rfl) h
def m103 : MC := (.block 0 (.loop (.seq (.seq (.ops [⟨some 6,.load 22 (ZT 1),22,none⟩,⟨some 7,.call ⟨.builtin .len,#[ZT 6],#[22]⟩,3,none⟩,⟨some 8,.load 22 (ZT 2),22,none⟩,⟨some 9,.call ⟨.builtin .len,#[ZT 8],#[22]⟩,3,none⟩,⟨some 10,.binOp .add 3 (ZT 7) (ZT 9) 3,3,none⟩,⟨some 11,.binOp .gtr 3 (ZT 10) (.const (.int .i64 0)) 3,4,none⟩])
    (.cond (ZT 11) .skip (.exit 0)))
    (.block 1 (.seq (.ops [⟨some 4,.assign (.const (.pointer none)),96,none⟩,⟨some 5,.assign (.const (.pointer none)),96,none⟩])
    (.seq (.seq (.draw (.take ⟨some 12,.load 22 (ZT 1),22,none⟩ (.take ⟨some 13,.call ⟨.builtin .len,#[ZT 12],#[22]⟩,3,none⟩ (.take ⟨some 14,.binOp .gtr 3 (ZT 13) (.const (.int .i64 0)) 3,4,none⟩ (.take ⟨some 15,.move (ZT 14),4,none⟩ (.take ⟨some 16,.load 22 (ZT 2),22,some (some 15,true)⟩ (.take ⟨some 17,.call ⟨.builtin .len,#[ZT 16],#[22]⟩,3,some (some 15,true)⟩ (.take ⟨some 18,.binOp .eql 3 (ZT 17) (.const (.int .i64 0)) 3,4,some (some 15,true)⟩ (.take ⟨some 19,.move (ZT 18),4,some (some 15,true)⟩ (.take ⟨some 20,.load 22 (ZT 1),22,some (some 19,false)⟩ (.take ⟨some 21,.indexAddr 22 (ZT 20) (.const (.int .i64 0)),0,some (some 19,false)⟩ (.take ⟨some 22,.fieldAddr 72 (ZT 21) 0,0,some (some 19,false)⟩ (.take ⟨some 23,.load 3 (ZT 22),3,some (some 19,false)⟩ (.take ⟨some 24,.load 22 (ZT 2),22,some (some 19,false)⟩ (.take ⟨some 25,.indexAddr 22 (ZT 24) (.const (.int .i64 0)),0,some (some 19,false)⟩ (.take ⟨some 26,.fieldAddr 72 (ZT 25) 0,0,some (some 19,false)⟩ (.take ⟨some 27,.load 3 (ZT 26),3,some (some 19,false)⟩ (.take ⟨some 28,.binOp .leq 3 (ZT 23) (ZT 27) 3,4,some (some 19,false)⟩ (.take ⟨some 29,.pick (ZT 19) (.const (.bool true)) (ZT 28),4,some (some 15,true)⟩ (.take ⟨some 30,.pick (ZT 15) (ZT 29) (.const (.bool false)),4,none⟩ .done))))))))))))))))))))
    (.cond (ZT 30) (.ops [⟨some 31,.load 22 (ZT 1),22,none⟩,⟨some 32,.indexAddr 22 (ZT 31) (.const (.int .i64 0)),0,none⟩,⟨some 4,.assign (ZT 32),96,none⟩]) .skip))
    (.seq (.seq (.draw (.take ⟨some 33,.load 22 (ZT 2),22,none⟩ (.take ⟨some 34,.call ⟨.builtin .len,#[ZT 33],#[22]⟩,3,none⟩ (.take ⟨some 35,.binOp .gtr 3 (ZT 34) (.const (.int .i64 0)) 3,4,none⟩ (.take ⟨some 36,.move (ZT 35),4,none⟩ (.take ⟨some 37,.load 22 (ZT 1),22,some (some 36,true)⟩ (.take ⟨some 38,.call ⟨.builtin .len,#[ZT 37],#[22]⟩,3,some (some 36,true)⟩ (.take ⟨some 39,.binOp .eql 3 (ZT 38) (.const (.int .i64 0)) 3,4,some (some 36,true)⟩ (.take ⟨some 40,.move (ZT 39),4,some (some 36,true)⟩ (.take ⟨some 41,.load 22 (ZT 2),22,some (some 40,false)⟩ (.take ⟨some 42,.indexAddr 22 (ZT 41) (.const (.int .i64 0)),0,some (some 40,false)⟩ (.take ⟨some 43,.fieldAddr 72 (ZT 42) 0,0,some (some 40,false)⟩ (.take ⟨some 44,.load 3 (ZT 43),3,some (some 40,false)⟩ (.take ⟨some 45,.load 22 (ZT 1),22,some (some 40,false)⟩ (.take ⟨some 46,.indexAddr 22 (ZT 45) (.const (.int .i64 0)),0,some (some 40,false)⟩ (.take ⟨some 47,.fieldAddr 72 (ZT 46) 0,0,some (some 40,false)⟩ (.take ⟨some 48,.load 3 (ZT 47),3,some (some 40,false)⟩ (.take ⟨some 49,.binOp .leq 3 (ZT 44) (ZT 48) 3,4,some (some 40,false)⟩ (.take ⟨some 50,.pick (ZT 40) (.const (.bool true)) (ZT 49),4,some (some 36,true)⟩ (.take ⟨some 51,.pick (ZT 36) (ZT 50) (.const (.bool false)),4,none⟩ .done))))))))))))))))))))
    (.cond (ZT 51) (.ops [⟨some 52,.load 22 (ZT 2),22,none⟩,⟨some 53,.indexAddr 22 (ZT 52) (.const (.int .i64 0)),0,none⟩,⟨some 5,.assign (ZT 53),96,none⟩]) .skip))
    (.seq (.seq (.ops [⟨some 54,.move (ZT 4),96,none⟩,⟨some 55,.binOp .neq 96 (ZT 54) (.const (.pointer none)) 96,4,none⟩])
    (.cond (ZT 55) (.ops [⟨some 56,.load 22 (ZT 1),22,none⟩,⟨some 57,.slice 22 (ZT 56) (some (.const (.int .i64 1))) none none,22,none⟩,⟨none,.store 22 (ZT 1) (ZT 57),0,none⟩]) .skip))
    (.seq (.seq (.ops [⟨some 58,.move (ZT 5),96,none⟩,⟨some 59,.binOp .neq 96 (ZT 58) (.const (.pointer none)) 96,4,none⟩])
    (.cond (ZT 59) (.ops [⟨some 60,.load 22 (ZT 2),22,none⟩,⟨some 61,.slice 22 (ZT 60) (some (.const (.int .i64 1))) none none,22,none⟩,⟨none,.store 22 (ZT 2) (ZT 61),0,none⟩]) .skip))
    (.seq (.ops [⟨some 62,.move (ZT 0),120,none⟩,⟨some 63,.move (ZT 4),96,none⟩,⟨some 64,.move (ZT 5),96,none⟩,⟨some 65,.call ⟨.value (ZT 62),#[ZT 63,ZT 64],#[96,96]⟩,4,none⟩,⟨some 66,.unOp .not 4 (ZT 65),4,none⟩])
    (.cond (ZT 66) .ret .skip)))))))))))
def pl103 : Nat → Plan := fun id => if id = 2 then (.take 0 (.take 1 (.take 2 (.take 3 (.take 4 (.take 5 (.take 6 (.take 7 (.take 8 (.take 9 (.take 10 (.take 11 (.take 12 (.take 13 (.take 14 (.take 15 (.take 16 (.take 17 (.take 18 .done))))))))))))))))))) else if id = 4 then (.take 0 (.take 1 (.take 2 (.take 3 (.take 4 (.take 5 (.take 6 (.take 7 (.take 8 (.take 9 (.take 10 (.take 11 (.take 12 (.take 13 (.take 14 (.take 15 (.take 16 (.take 17 (.take 18 .done))))))))))))))))))) else .done
theorem st103 : Go.Proofs.Tryz.f103.body.map (strip pl103) = some m103 := by kernel_rfl
theorem ok103 : okB pl103 Go.Proofs.Tryz.f103 3 = true := by kernel_rfl
def m104 : MC := (.seq (.ops [⟨some 4,.assign (.const (.bool false)),4,none⟩])
    (.seq (.ops [⟨some 5,.move (ZT 0),33,none⟩,⟨some 6,.move (ZT 1),88,none⟩,⟨some 7,.call ⟨.value (.func 136),#[ZT 5,ZT 6],#[33,88]⟩,3,none⟩,⟨some 8,.binOp .geq 3 (ZT 7) (.const (.int .i64 0)) 3,4,none⟩,⟨some 4,.assign (ZT 8),4,none⟩])
    .ret))
def pl104 : Nat → Plan := fun _ => .done
theorem st104 : Go.Proofs.Tryz.f104.body.map (strip pl104) = some m104 := by kernel_rfl
theorem ok104 : okB pl104 Go.Proofs.Tryz.f104 2 = true := by kernel_rfl
theorem en104 {v0 v1 w} {Q : Value → World → Prop} (h : mwpB ZP m104 (argEnv [v0, v1]) [] w (fun e ds w => ds = [] ∧ resW ZP [.tmp 4] e w fun v => Q v w) (fun _ _ _ _ => False) (fun e ds w => ds = [] ∧ resW ZP [.tmp 4] e w fun v => Q v w) (fun _ _ _ _ => False) ⟨⟩) : Rets ZP 104 #[v0, v1] w Q :=
  rets_of_mwp follows_mo Go.Proofs.Tryz.func104 pl104 st104 ok104 (by kernel_rfl) h
def m105 : MC := (.seq (.ops [⟨some 3,.assign (.const (.bool false)),4,none⟩])
    (.seq (.ops [⟨some 4,.load 35 (ZT 1),35,none⟩,⟨some 5,.call ⟨.value (.func 66),#[ZT 4],#[35]⟩,86,none⟩,⟨some 6,.move (ZT 0),3,none⟩,⟨some 7,.call ⟨.invoke (ZT 5) "continuo/format.has",#[ZT 6],#[3]⟩,4,none⟩,⟨some 8,.unOp .not 4 (ZT 7),4,none⟩,⟨some 3,.assign (ZT 8),4,none⟩])
    .ret))
def pl105 : Nat → Plan := fun _ => .done
theorem st105 : Go.Proofs.Tryz.f105.body.map (strip pl105) = some m105 := by kernel_rfl
theorem ok105 : okB pl105 Go.Proofs.Tryz.f105 2 = true := by kernel_rfl
theorem en105 {v0 v1 w} {Q : Value → World → Prop} (h : mwpB ZP m105 (argEnv [v0, v1]) [] w (fun e ds w => ds = [] ∧ resW ZP [.tmp 3] e w fun v => Q v w) (fun _ _ _ _ => False) (fun e ds w => ds = [] ∧ resW ZP [.tmp 3] e w fun v => Q v w) (fun _ _ _ _ => False) ⟨⟩) : Rets ZP 105 #[v0, v1] w Q :=
  rets_of_mwp follows_mo Go.Proofs.Tryz.func105 pl105 st105 ok105 (by kernel_rfl) h
def m106 : MC := (.seq (.ops [⟨some 2,.box 112 (ZT 0),0,none⟩,⟨some 4,.assign (.const (.slice none 0 0)),33,none⟩])
    (.seq (.ops [⟨some 5,.assign (.const (.slice none 0 0)),33,none⟩])
    (.seq (.seq (.ops [⟨some 7,.fieldAddr 112 (ZT 2) 0,0,none⟩,⟨some 8,.load 3 (ZT 7),3,none⟩,⟨some 6,.assign (ZT 8),3,none⟩])
    (.block 0 (.loop (.seq (.seq (.ops [⟨some 9,.move (ZT 6),3,none⟩,⟨some 10,.fieldAddr 112 (ZT 2) 1,0,none⟩,⟨some 11,.load 3 (ZT 10),3,none⟩,⟨some 12,.binOp .leq 3 (ZT 9) (ZT 11) 3,4,none⟩,⟨some 13,.move (ZT 12),4,none⟩,⟨some 14,.move (ZT 5),33,some (some 13,true)⟩,⟨some 15,.call ⟨.builtin .len,#[ZT 14],#[33]⟩,3,some (some 13,true)⟩,⟨some 16,.move (ZT 1),3,some (some 13,true)⟩,⟨some 17,.binOp .lss 3 (ZT 15) (ZT 16) 3,4,some (some 13,true)⟩,⟨some 18,.pick (ZT 13) (ZT 17) (.const (.bool false)),4,none⟩])
    (.cond (ZT 18) .skip (.exit 0)))
    (.seq (.block 1 (.ops [⟨some 23,.move (ZT 5),33,none⟩,⟨some 24,.move (ZT 6),3,none⟩,⟨some 25,.buildSlice 33 1 #[(0,ZT 24)],33,none⟩,⟨some 26,.call ⟨.builtin .append,#[ZT 23,ZT 25],#[33,33]⟩,33,none⟩,⟨some 5,.assign (ZT 26),33,none⟩]))
    (.ops [⟨some 19,.move (ZT 6),3,none⟩,⟨some 20,.fieldAddr 112 (ZT 2) 2,0,none⟩,⟨some 21,.load 3 (ZT 20),3,none⟩,⟨some 22,.binOp .add 3 (ZT 19) (ZT 21) 3,3,none⟩,⟨some 6,.assign (ZT 22),3,none⟩]))))))
    (.seq (.ops [⟨some 27,.move (ZT 5),33,none⟩,⟨some 4,.assign (ZT 27),33,none⟩])
    .ret))))
def pl106 : Nat → Plan := fun _ => .done
theorem st106 : Go.Proofs.Tryz.f106.body.map (strip pl106) = some m106 := by kernel_rfl
theorem ok106 : okB pl106 Go.Proofs.Tryz.f106 2 = true := by kernel_rfl
theorem en106 {v0 v1 w} {Q : Value → World → Prop} (h : mwpB ZP m106 (argEnv [v0, v1]) [] w (fun e ds w => ds = [] ∧ resW ZP [.tmp 4] e w fun v => Q v w) (fun _ _ _ _ => False) (fun e ds w => ds = [] ∧ resW ZP [.tmp 4] e w fun v => Q v w) (fun _ _ _ _ => False) ⟨⟩) : Rets ZP 106 #[v0, v1] w Q :=
  rets_of_mwp follows_mo Go.Proofs.Tryz.func106 pl106 st106 ok106 (by kernel_rfl) h
def m107 : MC := (.seq (.ops [⟨some 3,.assign (.const (.bool false)),4,none⟩])
    (.seq (.ops [⟨some 4,.load 35 (ZT 1),35,none⟩,⟨some 5,.call ⟨.value (.func 66),#[ZT 4],#[35]⟩,86,none⟩,⟨some 6,.move (ZT 0),3,none⟩,⟨some 7,.call ⟨.invoke (ZT 5) "continuo/format.has",#[ZT 6],#[3]⟩,4,none⟩,⟨some 8,.unOp .not 4 (ZT 7),4,none⟩,⟨some 3,.assign (ZT 8),4,none⟩])
    .ret))
def pl107 : Nat → Plan := fun _ => .done
theorem st107 : Go.Proofs.Tryz.f107.body.map (strip pl107) = some m107 := by kernel_rfl
theorem ok107 : okB pl107 Go.Proofs.Tryz.f107 2 = true := by kernel_rfl
theorem en107 {v0 v1 w} {Q : Value → World → Prop} (h : mwpB ZP m107 (argEnv [v0, v1]) [] w (fun e ds w => ds = [] ∧ resW ZP [.tmp 3] e w fun v => Q v w) (fun _ _ _ _ => False) (fun e ds w => ds = [] ∧ resW ZP [.tmp 3] e w fun v => Q v w) (fun _ _ _ _ => False) ⟨⟩) : Rets ZP 107 #[v0, v1] w Q :=
  rets_of_mwp follows_mo Go.Proofs.Tryz.func107 pl107 st107 ok107 (by kernel_rfl) h
def m108 : MC := (.seq (.ops [⟨some 2,.box 112 (ZT 0),0,none⟩,⟨some 4,.assign (.const (.bool false)),4,none⟩])
    (.seq (.ops [⟨some 5,.move (ZT 1),3,none⟩,⟨some 6,.fieldAddr 112 (ZT 2) 0,0,none⟩,⟨some 7,.load 3 (ZT 6),3,none⟩,⟨some 8,.binOp .geq 3 (ZT 5) (ZT 7) 3,4,none⟩,⟨some 9,.move (ZT 8),4,none⟩,⟨some 10,.move (ZT 1),3,some (some 9,true)⟩,⟨some 11,.fieldAddr 112 (ZT 2) 1,0,some (some 9,true)⟩,⟨some 12,.load 3 (ZT 11),3,some (some 9,true)⟩,⟨some 13,.binOp .leq 3 (ZT 10) (ZT 12) 3,4,some (some 9,true)⟩,⟨some 14,.pick (ZT 9) (ZT 13) (.const (.bool false)),4,none⟩,⟨some 15,.move (ZT 14),4,none⟩,⟨some 16,.move (ZT 1),3,some (some 15,true)⟩,⟨some 17,.fieldAddr 112 (ZT 2) 0,0,some (some 15,true)⟩,⟨some 18,.load 3 (ZT 17),3,some (some 15,true)⟩,⟨some 19,.binOp .sub 3 (ZT 16) (ZT 18) 3,3,some (some 15,true)⟩,⟨some 20,.fieldAddr 112 (ZT 2) 2,0,some (some 15,true)⟩,⟨some 21,.load 3 (ZT 20),3,some (some 15,true)⟩,⟨some 22,.binOp .rem 3 (ZT 19) (ZT 21) 3,3,some (some 15,true)⟩,⟨some 23,.binOp .eql 3 (ZT 22) (.const (.int .i64 0)) 3,4,some (some 15,true)⟩,⟨some 24,.pick (ZT 15) (ZT 23) (.const (.bool false)),4,none⟩,⟨some 4,.assign (ZT 24),4,none⟩])
    .ret))
def pl108 : Nat → Plan := fun _ => .done
theorem st108 : Go.Proofs.Tryz.f108.body.map (strip pl108) = some m108 := by kernel_rfl
theorem ok108 : okB pl108 Go.Proofs.Tryz.f108 2 = true := by kernel_rfl
theorem en108 {v0 v1 w} {Q : Value → World → Prop} (h : mwpB ZP m108 (argEnv [v0, v1]) [] w (fun e ds w => ds = [] ∧ resW ZP [.tmp 4] e w fun v => Q v w) (fun _ _ _ _ => False) (fun e ds w => ds = [] ∧ resW ZP [.tmp 4] e w fun v => Q v w) (fun _ _ _ _ => False) ⟨⟩) : Rets ZP 108 #[v0, v1] w Q :=
  rets_of_mwp follows_mo Go.Proofs.Tryz.func108 pl108 st108 ok108 (by kernel_rfl) h
def m109 : MC := (.seq (.ops [⟨some 5,.call ⟨.builtin .recover,#[],#[]⟩,20,none⟩,⟨some 6,.typeAssert (ZT 5) 20 124 true,125,none⟩,⟨some 4,.move (ZT 6),125,none⟩,⟨some 7,.extract (ZT 4) 0,124,none⟩,⟨some 8,.extract (ZT 4) 1,4,none⟩,⟨some 2,.alloc 124,0,none⟩,⟨none,.store 124 (ZT 2) (ZT 7),0,none⟩,⟨some 3,.assign (ZT 8),4,none⟩])
    (.seq (.ops [⟨some 9,.move (ZT 3),4,none⟩])
    (.cond (ZT 9) (.draw (.take ⟨some 10,.build 24 #[],24,none⟩ (.take ⟨some 11,.fieldAddr 124 (ZT 2) 0,0,none⟩ (.take ⟨some 12,.load 28 (ZT 11),28,none⟩ (.alt ⟨none,.store 24 (ZT 0) (ZT 10),0,none⟩ (.altL ⟨none,.store 28 (ZT 1) (ZT 12),0,none⟩ .done .none) .none))))) .skip)))
def pl109 : Nat → Plan := fun id => if id = 2 then (.take 0 (.take 1 (.take 2 (.alt 3 (.altL 4 .done .none) .none)))) else .done
def m110 : MC := (.seq (.ops [⟨some 4,.assign (.const (.bool false)),4,none⟩])
    (.seq (.ops [⟨some 5,.move (ZT 0),50,none⟩,⟨some 6,.move (ZT 1),25,none⟩,⟨some 7,.call ⟨.value (.func 137),#[ZT 5,ZT 6],#[50,25]⟩,3,none⟩,⟨some 8,.binOp .geq 3 (ZT 7) (.const (.int .i64 0)) 3,4,none⟩,⟨some 4,.assign (ZT 8),4,none⟩])
    .ret))
def pl110 : Nat → Plan := fun _ => .done
theorem st110 : Go.Proofs.Tryz.f110.body.map (strip pl110) = some m110 := by kernel_rfl
theorem ok110 : okB pl110 Go.Proofs.Tryz.f110 2 = true := by kernel_rfl
theorem en110 {v0 v1 w} {Q : Value → World → Prop} (h : mwpB ZP m110 (argEnv [v0, v1]) [] w (fun e ds w => ds = [] ∧ resW ZP [.tmp 4] e w fun v => Q v w) (fun _ _ _ _ => False) (fun e ds w => ds = [] ∧ resW ZP [.tmp 4] e w fun v => Q v w) (fun _ _ _ _ => False) ⟨⟩) : Rets ZP 110 #[v0, v1] w Q :=
  rets_of_mwp follows_mo Go.Proofs.Tryz.func110 pl110 st110 ok110 (by kernel_rfl) h
def m111 : MC := (.seq (.ops [⟨some 1,.box 24 (ZT 0),0,none⟩,⟨some 2,.assign (.const (.bool false)),4,none⟩])
    (.seq (.ops [⟨some 3,.load 24 (ZT 1),24,none⟩,⟨some 4,.call ⟨.value (.func 43),#[ZT 3],#[24]⟩,4,none⟩,⟨some 5,.unOp .not 4 (ZT 4),4,none⟩,⟨some 2,.assign (ZT 5),4,none⟩])
    .ret))
def pl111 : Nat → Plan := fun _ => .done
theorem st111 : Go.Proofs.Tryz.f111.body.map (strip pl111) = some m111 := by kernel_rfl
theorem ok111 : okB pl111 Go.Proofs.Tryz.f111 1 = true := by kernel_rfl
theorem en111 {v0 w} {Q : Value → World → Prop} (h : mwpB ZP m111 (argEnv [v0]) [] w (fun e ds w => ds = [] ∧ resW ZP [.tmp 2] e w fun v => Q v w) (fun _ _ _ _ => False) (fun e ds w => ds = [] ∧ resW ZP [.tmp 2] e w fun v => Q v w) (fun _ _ _ _ => False) ⟨⟩) : Rets ZP 111 #[v0] w Q :=
  rets_of_mwp follows_mo Go.Proofs.Tryz.func111 pl111 st111 ok111 (by kernel_rfl) h
def m112 : MC := (.seq (.ops [⟨some 4,.assign (.const (.int .i64 0)),3,none⟩])
    (.seq (.seq (.ops [⟨some 6,.move (ZT 0),22,none⟩,⟨some 7,.call ⟨.builtin .len,#[ZT 6],#[22]⟩,3,none⟩,⟨some 8,.move (.const (.int .i64 0)),3,none⟩])
    (.block 0 (.loop (.seq (.ops [⟨some 9,.binOp .lss 3 (ZT 8) (ZT 7) 3,0,none⟩])
    (.seq (.cond (ZT 9) .skip (.exit 0))
    (.seq (.block 1 (.seq (.ops [⟨some 10,.move (ZT 8),3,none⟩,⟨some 5,.assign (ZT 10),3,none⟩])
    (.seq (.ops [⟨some 11,.move (ZT 1),100,none⟩,⟨some 12,.move (ZT 0),22,none⟩,⟨some 13,.move (ZT 5),3,none⟩,⟨some 14,.indexAddr 22 (ZT 12) (ZT 13),0,none⟩,⟨some 15,.load 72 (ZT 14),72,none⟩,⟨some 16,.call ⟨.value (ZT 11),#[ZT 15],#[72]⟩,4,none⟩])
    (.cond (ZT 16) (.seq (.ops [⟨some 17,.move (ZT 5),3,none⟩,⟨some 4,.assign (ZT 17),3,none⟩])
    .ret) .skip))))
    (.ops [⟨some 18,.binOp .add 3 (ZT 8) (.const (.int .i64 1)) 3,3,none⟩,⟨some 8,.move (ZT 18),3,none⟩])))))))
    (.seq (.ops [⟨some 4,.assign (.const (.int .i64 (-1))),3,none⟩])
    .ret)))
def pl112 : Nat → Plan := fun _ => .done
theorem st112 : Go.Proofs.Tryz.f112.body.map (strip pl112) = some m112 := by kernel_rfl
theorem ok112 : okB pl112 Go.Proofs.Tryz.f112 2 = true := by kernel_rfl
theorem en112 {v0 v1 w} {Q : Value → World → Prop} (h : mwpB ZP m112 (argEnv [v0, v1]) [] w (fun e ds w => ds = [] ∧ resW ZP [.tmp 4] e w fun v => Q v w) (fun _ _ _ _ => False) (fun e ds w => ds = [] ∧ resW ZP [.tmp 4] e w fun v => Q v w) (fun _ _ _ _ => False) ⟨⟩) : Rets ZP 112 #[v0, v1] w Q :=
  rets_of_mwp follows_mo Go.Proofs.Tryz.func112 pl112 st112 ok112 (by kernel_rfl) h
def m113 : MC := (.seq (.ops [⟨some 2,.assign (.const (.slice none 0 0)),33,none⟩])
    (.seq (.seq (.ops [⟨some 3,.move (ZT 0),33,none⟩,⟨some 4,.binOp .eql 33 (ZT 3) (.const (.slice none 0 0)) 33,4,none⟩])
    (.cond (ZT 4) (.seq (.ops [⟨some 2,.assign (.const (.slice none 0 0)),33,none⟩])
    .ret) .skip))
    (.seq (.ops [⟨some 5,.buildSlice 33 0 #[],33,none⟩,⟨some 6,.move (ZT 0),33,none⟩,⟨some 7,.call ⟨.builtin .append,#[ZT 5,ZT 6],#[33,33]⟩,33,none⟩,⟨some 2,.assign (ZT 7),33,none⟩])
    .ret)))
def pl113 : Nat → Plan := fun _ => .done
theorem st113 : Go.Proofs.Tryz.f113.body.map (strip pl113) = some m113 := by kernel_rfl
theorem ok113 : okB pl113 Go.Proofs.Tryz.f113 1 = true := by kernel_rfl
theorem en113 {v0 w} {Q : Value → World → Prop} (h : mwpB ZP m113 (argEnv [v0]) [] w (fun e ds w => ds = [] ∧ resW ZP [.tmp 2] e w fun v => Q v w) (fun _ _ _ _ => False) (fun e ds w => ds = [] ∧ resW ZP [.tmp 2] e w fun v => Q v w) (fun _ _ _ _ => False) ⟨⟩) : Rets ZP 113 #[v0] w Q :=
  rets_of_mwp follows_mo Go.Proofs.Tryz.func113 pl113 st113 ok113 (by kernel_rfl) h
end Go.Proofs.YthcdnjbhhaonhaaGreatDoor
