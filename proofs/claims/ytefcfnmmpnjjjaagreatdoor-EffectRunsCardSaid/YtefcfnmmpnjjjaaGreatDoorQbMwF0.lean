/- The functions, stripped. -/
import Derived.Test.YtefcfnmmpnjjjaaGreatDoorQbMwT
import Derived.Test.YtefcfnmmpnjjjaaGreatDoorQbMwIn
namespace Go.Proofs.YtefcfnmmpnjjjaaGreatDoor
open Go.RowKit
set_option maxRecDepth 100000
/-- continuo/continuolaw31.EffectStates -/
def m3 : MC := (.seq (.ops [⟨some 4, .box 24 (.tmp 0), 0, none⟩, ⟨some 5, .box 24 (.tmp 1), 0, none⟩, ⟨some 8, .assign (.const (.bool false)), 4, none⟩])
    (.seq (.seq (.ops [⟨some 16, .call { callee := .value (.func 7), args := #[], argTypes := #[] }, 4, none⟩, ⟨some 17, .unOp .not 4 (.tmp 16), 4, none⟩])
    (.cond (.tmp 17) (.seq (.ops [⟨some 8, .assign (.const (.bool false)), 4, none⟩])
    .ret) .skip))
    (.seq (.seq (.ops [⟨some 18, .load 24 (.tmp 4), 24, none⟩, ⟨some 19, .move (.tmp 2), 22, none⟩, ⟨some 20, .call { callee := .value (.func 8), args := #[.tmp 18, .tmp 19], argTypes := #[24, 22] }, 4, none⟩, ⟨some 21, .move (.tmp 20), 4, none⟩, ⟨some 22, .load 24 (.tmp 5), 24, some (some 21, false)⟩, ⟨some 23, .move (.tmp 2), 22, some (some 21, false)⟩, ⟨some 24, .call { callee := .value (.func 8), args := #[.tmp 22, .tmp 23], argTypes := #[24, 22] }, 4, some (some 21, false)⟩, ⟨some 25, .pick (.tmp 21) (.const (.bool true)) (.tmp 24), 4, none⟩, ⟨some 26, .move (.tmp 25), 4, none⟩, ⟨some 27, .move (.tmp 3), 9, some (some 26, false)⟩, ⟨some 28, .call { callee := .builtin .len, args := #[.tmp 27], argTypes := #[9] }, 3, some (some 26, false)⟩, ⟨some 29, .binOp .gtr 3 (.tmp 28) (.const (.int .i64 1000)) 3, 4, some (some 26, false)⟩, ⟨some 30, .pick (.tmp 26) (.const (.bool true)) (.tmp 29), 4, none⟩])
    (.cond (.tmp 30) (.seq (.ops [⟨some 8, .assign (.const (.bool true)), 4, none⟩])
    .ret) .skip))
    (.seq (.ops [⟨some 32, .load 24 (.tmp 4), 24, none⟩, ⟨some 33, .call { callee := .value (.func 9), args := #[.tmp 32], argTypes := #[24] }, 29, none⟩, ⟨some 31, .move (.tmp 33), 29, none⟩, ⟨some 34, .extract (.tmp 31) 0, 27, none⟩, ⟨some 35, .extract (.tmp 31) 1, 28, none⟩, ⟨some 9, .assign (.tmp 34), 27, none⟩, ⟨some 10, .assign (.tmp 35), 28, none⟩])
    (.seq (.seq (.ops [⟨some 36, .move (.tmp 10), 28, none⟩, ⟨some 37, .binOp .neq 28 (.tmp 36) (.const (.int .i64 0)) 28, 4, none⟩])
    (.cond (.tmp 37) (.seq (.ops [⟨some 38, .move (.tmp 10), 28, none⟩, ⟨some 39, .binOp .eql 28 (.tmp 38) (.const (.int .i64 1)) 28, 4, none⟩, ⟨some 40, .move (.tmp 39), 4, none⟩, ⟨some 41, .move (.tmp 9), 27, some (some 40, true)⟩, ⟨some 42, .binOp .eql 27 (.tmp 41) (.const (.pointer none)) 27, 4, some (some 40, true)⟩, ⟨some 43, .pick (.tmp 40) (.tmp 42) (.const (.bool false)), 4, none⟩, ⟨some 8, .assign (.tmp 43), 4, none⟩])
    .ret) .skip))
    (.seq (.seq (.ops [⟨some 45, .move (.tmp 9), 27, none⟩, ⟨some 46, .move (.tmp 2), 22, none⟩, ⟨some 47, .call { callee := .value (.func 10), args := #[.tmp 45, .tmp 46], argTypes := #[27, 22] }, 31, none⟩, ⟨some 44, .move (.tmp 47), 31, none⟩, ⟨some 48, .extract (.tmp 44) 0, 22, none⟩, ⟨some 49, .extract (.tmp 44) 1, 28, none⟩, ⟨some 11, .assign (.tmp 48), 22, none⟩, ⟨some 12, .assign (.tmp 49), 28, none⟩])
    (.seq (.ops [⟨some 50, .move (.tmp 12), 28, none⟩, ⟨some 51, .binOp .neq 28 (.tmp 50) (.const (.int .i64 0)) 28, 4, none⟩])
    (.cond (.tmp 51) (.seq (.ops [⟨some 52, .move (.tmp 12), 28, none⟩, ⟨some 53, .binOp .eql 28 (.tmp 52) (.const (.int .i64 1)) 28, 4, none⟩, ⟨some 8, .assign (.tmp 53), 4, none⟩])
    .ret) .skip)))
    (.seq (.ops [⟨some 54, .move (.tmp 9), 27, none⟩, ⟨some 55, .call { callee := .value (.func 11), args := #[.tmp 54], argTypes := #[27] }, 9, none⟩, ⟨some 13, .assign (.tmp 55), 9, none⟩])
    (.seq (.seq (.ops [⟨some 56, .move (.tmp 9), 27, none⟩, ⟨some 57, .move (.tmp 3), 9, none⟩, ⟨some 58, .call { callee := .value (.func 12), args := #[.tmp 56, .tmp 57], argTypes := #[27, 9] }, 28, none⟩, ⟨some 14, .assign (.tmp 58), 28, none⟩])
    (.seq (.ops [⟨some 59, .move (.tmp 14), 28, none⟩, ⟨some 60, .binOp .neq 28 (.tmp 59) (.const (.int .i64 0)) 28, 4, none⟩, ⟨some 61, .move (.tmp 60), 4, none⟩, ⟨some 62, .move (.tmp 14), 28, some (some 61, true)⟩, ⟨some 63, .binOp .neq 28 (.tmp 62) (.const (.int .i64 2)) 28, 4, some (some 61, true)⟩, ⟨some 64, .move (.tmp 63), 4, some (some 61, true)⟩, ⟨some 65, .move (.tmp 9), 27, some (some 64, false)⟩, ⟨some 66, .call { callee := .value (.func 11), args := #[.tmp 65], argTypes := #[27] }, 9, some (some 64, false)⟩, ⟨some 67, .move (.tmp 13), 9, some (some 64, false)⟩, ⟨some 68, .binOp .neq 9 (.tmp 66) (.tmp 67) 9, 4, some (some 64, false)⟩, ⟨some 69, .pick (.tmp 64) (.const (.bool true)) (.tmp 68), 4, some (some 61, true)⟩, ⟨some 70, .pick (.tmp 61) (.tmp 69) (.const (.bool false)), 4, none⟩])
    (.cond (.tmp 70) (.seq (.ops [⟨some 8, .assign (.const (.bool false)), 4, none⟩])
    .ret) .skip)))
    (.seq (.seq (.ops [⟨some 71, .move (.tmp 9), 27, none⟩, ⟨some 72, .move (.tmp 13), 9, none⟩, ⟨some 73, .call { callee := .value (.func 12), args := #[.tmp 71, .tmp 72], argTypes := #[27, 9] }, 28, none⟩, ⟨some 74, .binOp .neq 28 (.tmp 73) (.const (.int .i64 0)) 28, 4, none⟩, ⟨some 75, .move (.tmp 74), 4, none⟩, ⟨some 76, .move (.tmp 9), 27, some (some 75, false)⟩, ⟨some 77, .call { callee := .value (.func 11), args := #[.tmp 76], argTypes := #[27] }, 9, some (some 75, false)⟩, ⟨some 78, .move (.tmp 13), 9, some (some 75, false)⟩, ⟨some 79, .binOp .neq 9 (.tmp 77) (.tmp 78) 9, 4, some (some 75, false)⟩, ⟨some 80, .pick (.tmp 75) (.const (.bool true)) (.tmp 79), 4, none⟩])
    (.cond (.tmp 80) (.seq (.ops [⟨some 8, .assign (.const (.bool false)), 4, none⟩])
    .ret) .skip))
    (.seq (.ops [⟨some 82, .load 24 (.tmp 5), 24, none⟩, ⟨some 83, .call { callee := .value (.func 9), args := #[.tmp 82], argTypes := #[24] }, 29, none⟩, ⟨some 81, .move (.tmp 83), 29, none⟩, ⟨some 84, .extract (.tmp 81) 0, 27, none⟩, ⟨some 85, .extract (.tmp 81) 1, 28, none⟩, ⟨some 15, .assign (.tmp 84), 27, none⟩, ⟨some 10, .assign (.tmp 85), 28, none⟩])
    (.seq (.seq (.ops [⟨some 86, .move (.tmp 10), 28, none⟩, ⟨some 87, .binOp .neq 28 (.tmp 86) (.const (.int .i64 0)) 28, 4, none⟩])
    (.cond (.tmp 87) (.seq (.ops [⟨some 88, .move (.tmp 10), 28, none⟩, ⟨some 89, .binOp .eql 28 (.tmp 88) (.const (.int .i64 1)) 28, 4, none⟩, ⟨some 8, .assign (.tmp 89), 4, none⟩])
    .ret) .skip))
    (.seq (.seq (.ops [⟨some 90, .fieldAddr 24 (.tmp 4) 0, 0, none⟩, ⟨some 91, .load 3 (.tmp 90), 3, none⟩, ⟨some 92, .fieldAddr 24 (.tmp 5) 0, 0, none⟩, ⟨some 93, .load 3 (.tmp 92), 3, none⟩, ⟨some 94, .binOp .eql 3 (.tmp 91) (.tmp 93) 3, 4, none⟩, ⟨some 95, .move (.tmp 94), 4, none⟩, ⟨some 96, .fieldAddr 24 (.tmp 4) 1, 0, some (some 95, true)⟩, ⟨some 97, .load 22 (.tmp 96), 22, some (some 95, true)⟩, ⟨some 98, .fieldAddr 24 (.tmp 5) 1, 0, some (some 95, true)⟩, ⟨some 99, .load 22 (.tmp 98), 22, some (some 95, true)⟩, ⟨some 100, .call { callee := .value (.func 13), args := #[.tmp 97, .tmp 99], argTypes := #[22, 22] }, 4, some (some 95, true)⟩, ⟨some 101, .pick (.tmp 95) (.tmp 100) (.const (.bool false)), 4, none⟩])
    (.cond (.tmp 101) (.seq (.ops [⟨some 102, .fieldAddr 24 (.tmp 4) 2, 0, none⟩, ⟨some 103, .load 22 (.tmp 102), 22, none⟩, ⟨some 104, .fieldAddr 24 (.tmp 5) 2, 0, none⟩, ⟨some 105, .load 22 (.tmp 104), 22, none⟩, ⟨some 106, .call { callee := .value (.func 13), args := #[.tmp 103, .tmp 105], argTypes := #[22, 22] }, 4, none⟩, ⟨some 107, .unOp .not 4 (.tmp 106), 4, none⟩, ⟨some 108, .move (.tmp 107), 4, none⟩, ⟨some 109, .move (.tmp 15), 27, some (some 108, false)⟩, ⟨some 110, .move (.tmp 13), 9, some (some 108, false)⟩, ⟨some 111, .call { callee := .value (.func 12), args := #[.tmp 109, .tmp 110], argTypes := #[27, 9] }, 28, some (some 108, false)⟩, ⟨some 112, .binOp .eql 28 (.tmp 111) (.const (.int .i64 0)) 28, 4, some (some 108, false)⟩, ⟨some 113, .move (.tmp 112), 4, some (some 108, false)⟩, ⟨some 114, .move (.tmp 15), 27, some (some 113, true)⟩, ⟨some 115, .call { callee := .value (.func 11), args := #[.tmp 114], argTypes := #[27] }, 9, some (some 113, true)⟩, ⟨some 116, .move (.tmp 13), 9, some (some 113, true)⟩, ⟨some 117, .binOp .eql 9 (.tmp 115) (.tmp 116) 9, 4, some (some 113, true)⟩, ⟨some 118, .pick (.tmp 113) (.tmp 117) (.const (.bool false)), 4, some (some 108, false)⟩, ⟨some 119, .pick (.tmp 108) (.const (.bool true)) (.tmp 118), 4, none⟩, ⟨some 8, .assign (.tmp 119), 4, none⟩])
    .ret) .skip))
    (.seq (.ops [⟨some 120, .move (.tmp 15), 27, none⟩, ⟨some 121, .move (.tmp 13), 9, none⟩, ⟨some 122, .call { callee := .value (.func 12), args := #[.tmp 120, .tmp 121], argTypes := #[27, 9] }, 28, none⟩, ⟨some 123, .binOp .eql 28 (.tmp 122) (.const (.int .i64 2)) 28, 4, none⟩, ⟨some 8, .assign (.tmp 123), 4, none⟩])
    .ret)))))))))))))
/-- continuo/continuolaw31.EffectRuns -/
def m4 : MC := (.seq (.ops [⟨some 4, .box 24 (.tmp 0), 0, none⟩, ⟨some 8, .assign (.const (.bool false)), 4, none⟩])
    (.seq (.seq (.ops [⟨some 27, .call { callee := .value (.func 7), args := #[], argTypes := #[] }, 4, none⟩, ⟨some 28, .unOp .not 4 (.tmp 27), 4, none⟩])
    (.cond (.tmp 28) (.seq (.ops [⟨some 8, .assign (.const (.bool false)), 4, none⟩])
    .ret) .skip))
    (.seq (.seq (.ops [⟨some 29, .load 24 (.tmp 4), 24, none⟩, ⟨some 30, .move (.tmp 1), 22, none⟩, ⟨some 31, .call { callee := .value (.func 8), args := #[.tmp 29, .tmp 30], argTypes := #[24, 22] }, 4, none⟩, ⟨some 32, .move (.tmp 31), 4, none⟩, ⟨some 33, .move (.tmp 2), 22, some (some 32, false)⟩, ⟨some 34, .call { callee := .builtin .len, args := #[.tmp 33], argTypes := #[22] }, 3, some (some 32, false)⟩, ⟨some 35, .binOp .gtr 3 (.tmp 34) (.const (.int .i64 30)) 3, 4, some (some 32, false)⟩, ⟨some 36, .pick (.tmp 32) (.const (.bool true)) (.tmp 35), 4, none⟩])
    (.cond (.tmp 36) (.seq (.ops [⟨some 8, .assign (.const (.bool true)), 4, none⟩])
    .ret) .skip))
    (.seq (.ops [⟨some 38, .load 24 (.tmp 4), 24, none⟩, ⟨some 39, .move (.tmp 1), 22, none⟩, ⟨some 40, .call { callee := .value (.func 14), args := #[.tmp 38, .tmp 39], argTypes := #[24, 22] }, 31, none⟩, ⟨some 37, .move (.tmp 40), 31, none⟩, ⟨some 41, .extract (.tmp 37) 0, 22, none⟩, ⟨some 42, .extract (.tmp 37) 1, 28, none⟩, ⟨some 9, .assign (.tmp 41), 22, none⟩, ⟨some 10, .assign (.tmp 42), 28, none⟩])
    (.seq (.ops [⟨some 44, .load 24 (.tmp 4), 24, none⟩, ⟨some 45, .call { callee := .value (.func 15), args := #[.tmp 44], argTypes := #[24] }, 40, none⟩, ⟨some 43, .move (.tmp 45), 40, none⟩, ⟨some 46, .extract (.tmp 43) 0, 39, none⟩, ⟨some 47, .extract (.tmp 43) 1, 28, none⟩, ⟨some 11, .alloc 39, 0, none⟩, ⟨none, .store 39 (.tmp 11) (.tmp 46), 0, none⟩, ⟨some 12, .assign (.tmp 47), 28, none⟩])
    (.seq (.seq (.ops [⟨some 48, .move (.tmp 12), 28, none⟩, ⟨some 49, .binOp .neq 28 (.tmp 48) (.const (.int .i64 0)) 28, 4, none⟩])
    (.cond (.tmp 49) (.seq (.ops [⟨some 50, .move (.tmp 10), 28, none⟩, ⟨some 51, .move (.tmp 12), 28, none⟩, ⟨some 52, .binOp .eql 28 (.tmp 50) (.tmp 51) 28, 4, none⟩, ⟨some 53, .move (.tmp 52), 4, none⟩, ⟨some 54, .move (.tmp 9), 22, some (some 53, true)⟩, ⟨some 55, .call { callee := .builtin .len, args := #[.tmp 54], argTypes := #[22] }, 3, some (some 53, true)⟩, ⟨some 56, .binOp .eql 3 (.tmp 55) (.const (.int .i64 0)) 3, 4, some (some 53, true)⟩, ⟨some 57, .pick (.tmp 53) (.tmp 56) (.const (.bool false)), 4, none⟩, ⟨some 8, .assign (.tmp 57), 4, none⟩])
    .ret) .skip))
    (.seq (.ops [⟨some 59, .load 39 (.tmp 11), 39, none⟩, ⟨some 60, .move (.tmp 1), 22, none⟩, ⟨some 61, .call { callee := .value (.func 16), args := #[.tmp 59, .tmp 60], argTypes := #[39, 22] }, 42, none⟩, ⟨some 58, .move (.tmp 61), 42, none⟩, ⟨some 62, .extract (.tmp 58) 0, 39, none⟩, ⟨some 63, .extract (.tmp 58) 1, 22, none⟩, ⟨some 64, .extract (.tmp 58) 2, 28, none⟩, ⟨some 13, .alloc 39, 0, none⟩, ⟨none, .store 39 (.tmp 13) (.tmp 62), 0, none⟩, ⟨some 14, .assign (.tmp 63), 22, none⟩, ⟨some 12, .assign (.tmp 64), 28, none⟩])
    (.seq (.seq (.ops [⟨some 65, .move (.tmp 9), 22, none⟩, ⟨some 66, .move (.tmp 14), 22, none⟩, ⟨some 67, .call { callee := .value (.func 13), args := #[.tmp 65, .tmp 66], argTypes := #[22, 22] }, 4, none⟩, ⟨some 68, .unOp .not 4 (.tmp 67), 4, none⟩, ⟨some 69, .move (.tmp 68), 4, none⟩, ⟨some 70, .move (.tmp 10), 28, some (some 69, false)⟩, ⟨some 71, .move (.tmp 12), 28, some (some 69, false)⟩, ⟨some 72, .binOp .neq 28 (.tmp 70) (.tmp 71) 28, 4, some (some 69, false)⟩, ⟨some 73, .pick (.tmp 69) (.const (.bool true)) (.tmp 72), 4, none⟩])
    (.cond (.tmp 73) (.seq (.ops [⟨some 8, .assign (.const (.bool false)), 4, none⟩])
    .ret) .skip))
    (.seq (.seq (.ops [⟨some 74, .move (.tmp 12), 28, none⟩, ⟨some 75, .binOp .neq 28 (.tmp 74) (.const (.int .i64 0)) 28, 4, none⟩])
    (.cond (.tmp 75) (.seq (.ops [⟨some 8, .assign (.const (.bool true)), 4, none⟩])
    .ret) .skip))
    (.seq (.ops [⟨some 77, .load 24 (.tmp 4), 24, none⟩, ⟨some 78, .call { callee := .value (.func 9), args := #[.tmp 77], argTypes := #[24] }, 29, none⟩, ⟨some 76, .move (.tmp 78), 29, none⟩, ⟨some 79, .extract (.tmp 76) 0, 27, none⟩, ⟨some 80, .extract (.tmp 76) 1, 28, none⟩, ⟨some 15, .assign (.tmp 79), 27, none⟩, ⟨some 10, .assign (.tmp 80), 28, none⟩])
    (.seq (.seq (.ops [⟨some 81, .move (.tmp 10), 28, none⟩, ⟨some 82, .binOp .neq 28 (.tmp 81) (.const (.int .i64 0)) 28, 4, none⟩])
    (.cond (.tmp 82) (.seq (.ops [⟨some 8, .assign (.const (.bool false)), 4, none⟩])
    .ret) .skip))
    (.seq (.ops [⟨some 16, .assign (.const (.int .i64 0)), 3, none⟩, ⟨some 17, .assign (.const (.int .i64 0)), 3, none⟩])
    (.seq (.block 0 (.loop (.seq (.seq (.ops [⟨some 83, .move (.tmp 16), 3, none⟩, ⟨some 84, .move (.tmp 1), 22, none⟩, ⟨some 85, .call { callee := .builtin .len, args := #[.tmp 84], argTypes := #[22] }, 3, none⟩, ⟨some 86, .binOp .lss 3 (.tmp 83) (.tmp 85) 3, 4, none⟩])
    (.cond (.tmp 86) .skip (.exit 0)))
    (.block 1 (.seq (.ops [⟨some 87, .move (.tmp 16), 3, none⟩, ⟨some 88, .binOp .rem 3 (.tmp 87) (.const (.int .i64 50)) 3, 3, none⟩, ⟨some 89, .binOp .add 3 (.const (.int .i64 1)) (.tmp 88) 3, 3, none⟩, ⟨some 18, .assign (.tmp 89), 3, none⟩])
    (.seq (.seq (.ops [⟨some 90, .move (.tmp 17), 3, none⟩, ⟨some 91, .move (.tmp 2), 22, none⟩, ⟨some 92, .call { callee := .builtin .len, args := #[.tmp 91], argTypes := #[22] }, 3, none⟩, ⟨some 93, .binOp .lss 3 (.tmp 90) (.tmp 92) 3, 4, none⟩, ⟨some 94, .move (.tmp 93), 4, none⟩, ⟨some 95, .move (.tmp 2), 22, some (some 94, true)⟩, ⟨some 96, .move (.tmp 17), 3, some (some 94, true)⟩, ⟨some 97, .indexAddr 22 (.tmp 95) (.tmp 96), 0, some (some 94, true)⟩, ⟨some 98, .load 3 (.tmp 97), 3, some (some 94, true)⟩, ⟨some 99, .binOp .geq 3 (.tmp 98) (.const (.int .i64 0)) 3, 4, some (some 94, true)⟩, ⟨some 100, .pick (.tmp 94) (.tmp 99) (.const (.bool false)), 4, none⟩])
    (.cond (.tmp 100) (.ops [⟨some 101, .move (.tmp 2), 22, none⟩, ⟨some 102, .move (.tmp 17), 3, none⟩, ⟨some 103, .indexAddr 22 (.tmp 101) (.tmp 102), 0, none⟩, ⟨some 104, .load 3 (.tmp 103), 3, none⟩, ⟨some 105, .binOp .rem 3 (.tmp 104) (.const (.int .i64 60)) 3, 3, none⟩, ⟨some 18, .assign (.tmp 105), 3, none⟩]) .skip))
    (.seq (.seq (.ops [⟨some 106, .move (.tmp 17), 3, none⟩, ⟨some 107, .binOp .gtr 3 (.tmp 106) (.const (.int .i64 200)) 3, 4, none⟩])
    (.cond (.tmp 107) (.ops [⟨some 108, .move (.tmp 1), 22, none⟩, ⟨some 109, .call { callee := .builtin .len, args := #[.tmp 108], argTypes := #[22] }, 3, none⟩, ⟨some 18, .assign (.tmp 109), 3, none⟩]) .skip))
    (.seq (.ops [⟨some 110, .move (.tmp 18), 3, none⟩, ⟨some 111, .move (.tmp 1), 22, none⟩, ⟨some 112, .call { callee := .builtin .len, args := #[.tmp 111], argTypes := #[22] }, 3, none⟩, ⟨some 113, .move (.tmp 16), 3, none⟩, ⟨some 114, .binOp .sub 3 (.tmp 112) (.tmp 113) 3, 3, none⟩, ⟨some 115, .call { callee := .builtin .min, args := #[.tmp 110, .tmp 114], argTypes := #[3, 3] }, 3, none⟩, ⟨some 18, .assign (.tmp 115), 3, none⟩])
    (.seq (.ops [⟨some 117, .move (.tmp 15), 27, none⟩, ⟨some 118, .move (.tmp 1), 22, none⟩, ⟨some 119, .move (.tmp 16), 3, none⟩, ⟨some 120, .move (.tmp 16), 3, none⟩, ⟨some 121, .move (.tmp 18), 3, none⟩, ⟨some 122, .binOp .add 3 (.tmp 120) (.tmp 121) 3, 3, none⟩, ⟨some 123, .slice 22 (.tmp 118) (some (.tmp 119)) (some (.tmp 122)) none, 22, none⟩, ⟨some 124, .call { callee := .value (.func 10), args := #[.tmp 117, .tmp 123], argTypes := #[27, 22] }, 31, none⟩, ⟨some 116, .move (.tmp 124), 31, none⟩, ⟨some 125, .extract (.tmp 116) 0, 22, none⟩, ⟨some 126, .extract (.tmp 116) 1, 28, none⟩, ⟨some 19, .assign (.tmp 125), 22, none⟩, ⟨some 20, .assign (.tmp 126), 28, none⟩])
    (.seq (.draw (.take ⟨some 128, .load 39 (.tmp 11), 39, none⟩ (.take ⟨some 129, .move (.tmp 1), 22, none⟩ (.take ⟨some 130, .move (.tmp 16), 3, none⟩ (.take ⟨some 131, .move (.tmp 16), 3, none⟩ (.take ⟨some 132, .move (.tmp 18), 3, none⟩ (.take ⟨some 133, .binOp .add 3 (.tmp 131) (.tmp 132) 3, 3, none⟩ (.take ⟨some 134, .slice 22 (.tmp 129) (some (.tmp 130)) (some (.tmp 133)) none, 22, none⟩ (.alt ⟨some 135, .call { callee := .value (.func 16), args := #[.tmp 128, .tmp 134], argTypes := #[39, 22] }, 42, none⟩ (.take ⟨some 127, .move (.tmp 135), 42, none⟩ (.take ⟨some 136, .extract (.tmp 127) 0, 39, none⟩ (.take ⟨some 137, .extract (.tmp 127) 1, 22, none⟩ (.take ⟨some 138, .extract (.tmp 127) 2, 28, none⟩ (.alt ⟨some 21, .alloc 39, 0, none⟩ (.altL ⟨none, .store 39 (.tmp 21) (.tmp 136), 0, none⟩ (.take ⟨some 22, .assign (.tmp 137), 22, none⟩ (.take ⟨some 23, .assign (.tmp 138), 28, none⟩ .done)) .none) .none))))) (.alt ⟨some 21, .alloc 39, 0, none⟩ (.alt ⟨some 135, .call { callee := .value (.func 16), args := #[.tmp 128, .tmp 134], argTypes := #[39, 22] }, 42, none⟩ (.take ⟨some 127, .move (.tmp 135), 42, none⟩ (.take ⟨some 136, .extract (.tmp 127) 0, 39, none⟩ (.take ⟨some 137, .extract (.tmp 127) 1, 22, none⟩ (.take ⟨some 138, .extract (.tmp 127) 2, 28, none⟩ (.altL ⟨none, .store 39 (.tmp 21) (.tmp 136), 0, none⟩ (.take ⟨some 22, .assign (.tmp 137), 22, none⟩ (.take ⟨some 23, .assign (.tmp 138), 28, none⟩ .done)) .none))))) .none) .none))))))))))
    (.seq (.seq (.draw (.take ⟨some 139, .move (.tmp 20), 28, none⟩ (.take ⟨some 140, .binOp .neq 28 (.tmp 139) (.const (.int .i64 0)) 28, 4, none⟩ (.take ⟨some 141, .move (.tmp 140), 4, none⟩ (.take ⟨some 142, .move (.tmp 19), 22, some (some 141, false)⟩ (.take ⟨some 143, .move (.tmp 14), 22, some (some 141, false)⟩ (.take ⟨some 144, .move (.tmp 16), 3, some (some 141, false)⟩ (.take ⟨some 145, .move (.tmp 16), 3, some (some 141, false)⟩ (.take ⟨some 146, .move (.tmp 18), 3, some (some 141, false)⟩ (.take ⟨some 147, .binOp .add 3 (.tmp 145) (.tmp 146) 3, 3, some (some 141, false)⟩ (.take ⟨some 148, .slice 22 (.tmp 143) (some (.tmp 144)) (some (.tmp 147)) none, 22, some (some 141, false)⟩ (.alt ⟨some 149, .call { callee := .value (.func 13), args := #[.tmp 142, .tmp 148], argTypes := #[22, 22] }, 4, some (some 141, false)⟩ (.take ⟨some 150, .unOp .not 4 (.tmp 149), 4, some (some 141, false)⟩ (.take ⟨some 151, .pick (.tmp 141) (.const (.bool true)) (.tmp 150), 4, none⟩ (.take ⟨some 152, .move (.tmp 151), 4, none⟩ (.take ⟨some 153, .move (.tmp 15), 27, some (some 152, false)⟩ (.take ⟨some 155, .fieldAddr 39 (.tmp 21) 2, 0, some (some 152, false)⟩ (.take ⟨some 156, .load 3 (.tmp 155), 3, some (some 152, false)⟩ (.alt ⟨some 154, .call { callee := .value (.func 17), args := #[.tmp 153], argTypes := #[27] }, 3, some (some 152, false)⟩ (.take ⟨some 157, .binOp .neq 3 (.tmp 154) (.tmp 156) 3, 4, some (some 152, false)⟩ (.take ⟨some 158, .pick (.tmp 152) (.const (.bool true)) (.tmp 157), 4, none⟩ .done)) .none))))))) .none))))))))))))
    (.cond (.tmp 158) (.seq (.ops [⟨some 8, .assign (.const (.bool false)), 4, none⟩])
    .ret) .skip))
    (.seq (.ops [⟨some 159, .load 39 (.tmp 21), 39, none⟩, ⟨none, .store 39 (.tmp 11) (.tmp 159), 0, none⟩])
    (.seq (.ops [⟨some 160, .move (.tmp 16), 3, none⟩, ⟨some 161, .move (.tmp 18), 3, none⟩, ⟨some 162, .binOp .add 3 (.tmp 160) (.tmp 161) 3, 3, none⟩, ⟨some 16, .assign (.tmp 162), 3, none⟩])
    (.seq (.seq (.ops [⟨some 163, .move (.tmp 17), 3, none⟩, ⟨some 164, .move (.tmp 3), 3, none⟩, ⟨some 165, .binOp .eql 3 (.tmp 163) (.tmp 164) 3, 4, none⟩])
    (.cond (.tmp 165) (.seq (.ops [⟨some 167, .load 24 (.tmp 4), 24, none⟩, ⟨some 168, .call { callee := .value (.func 9), args := #[.tmp 167], argTypes := #[24] }, 29, none⟩, ⟨some 166, .move (.tmp 168), 29, none⟩, ⟨some 169, .extract (.tmp 166) 0, 27, none⟩, ⟨some 170, .extract (.tmp 166) 1, 28, none⟩, ⟨some 24, .assign (.tmp 169), 27, none⟩, ⟨some 25, .assign (.tmp 170), 28, none⟩])
    (.seq (.seq (.ops [⟨some 171, .move (.tmp 25), 28, none⟩, ⟨some 172, .binOp .neq 28 (.tmp 171) (.const (.int .i64 0)) 28, 4, none⟩, ⟨some 173, .move (.tmp 172), 4, none⟩, ⟨some 174, .move (.tmp 24), 27, some (some 173, false)⟩, ⟨some 175, .move (.tmp 15), 27, some (some 173, false)⟩, ⟨some 176, .call { callee := .value (.func 11), args := #[.tmp 175], argTypes := #[27] }, 9, some (some 173, false)⟩, ⟨some 177, .call { callee := .value (.func 12), args := #[.tmp 174, .tmp 176], argTypes := #[27, 9] }, 28, some (some 173, false)⟩, ⟨some 178, .binOp .neq 28 (.tmp 177) (.const (.int .i64 0)) 28, 4, some (some 173, false)⟩, ⟨some 179, .pick (.tmp 173) (.const (.bool true)) (.tmp 178), 4, none⟩, ⟨some 180, .move (.tmp 179), 4, none⟩, ⟨some 181, .move (.tmp 24), 27, some (some 180, false)⟩, ⟨some 182, .call { callee := .value (.func 17), args := #[.tmp 181], argTypes := #[27] }, 3, some (some 180, false)⟩, ⟨some 183, .move (.tmp 15), 27, some (some 180, false)⟩, ⟨some 184, .call { callee := .value (.func 17), args := #[.tmp 183], argTypes := #[27] }, 3, some (some 180, false)⟩, ⟨some 185, .binOp .neq 3 (.tmp 182) (.tmp 184) 3, 4, some (some 180, false)⟩, ⟨some 186, .pick (.tmp 180) (.const (.bool true)) (.tmp 185), 4, none⟩])
    (.cond (.tmp 186) (.seq (.ops [⟨some 8, .assign (.const (.bool false)), 4, none⟩])
    .ret) .skip))
    (.ops [⟨some 187, .move (.tmp 24), 27, none⟩, ⟨some 15, .assign (.tmp 187), 27, none⟩]))) .skip))
    (.ops [⟨some 188, .move (.tmp 17), 3, none⟩, ⟨some 189, .binOp .add 3 (.tmp 188) (.const (.int .i64 1)) 3, 3, none⟩, ⟨some 17, .assign (.tmp 189), 3, none⟩])))))))))))))))
    (.seq (.seq (.ops [⟨some 190, .move (.tmp 15), 27, none⟩, ⟨some 191, .call { callee := .value (.func 18), args := #[.tmp 190], argTypes := #[27] }, 28, none⟩, ⟨some 192, .binOp .neq 28 (.tmp 191) (.const (.int .i64 0)) 28, 4, none⟩, ⟨some 193, .move (.tmp 192), 4, none⟩, ⟨some 194, .move (.tmp 15), 27, some (some 193, false)⟩, ⟨some 195, .call { callee := .value (.func 17), args := #[.tmp 194], argTypes := #[27] }, 3, some (some 193, false)⟩, ⟨some 196, .binOp .neq 3 (.tmp 195) (.const (.int .i64 0)) 3, 4, some (some 193, false)⟩, ⟨some 197, .pick (.tmp 193) (.const (.bool true)) (.tmp 196), 4, none⟩])
    (.cond (.tmp 197) (.seq (.ops [⟨some 8, .assign (.const (.bool false)), 4, none⟩])
    .ret) .skip))
    (.seq (.ops [⟨some 199, .move (.tmp 15), 27, none⟩, ⟨some 200, .move (.tmp 1), 22, none⟩, ⟨some 201, .call { callee := .value (.func 10), args := #[.tmp 199, .tmp 200], argTypes := #[27, 22] }, 31, none⟩, ⟨some 198, .move (.tmp 201), 31, none⟩, ⟨some 202, .extract (.tmp 198) 0, 22, none⟩, ⟨some 203, .extract (.tmp 198) 1, 28, none⟩, ⟨some 26, .assign (.tmp 202), 22, none⟩, ⟨some 10, .assign (.tmp 203), 28, none⟩])
    (.seq (.ops [⟨some 204, .move (.tmp 10), 28, none⟩, ⟨some 205, .binOp .eql 28 (.tmp 204) (.const (.int .i64 0)) 28, 4, none⟩, ⟨some 206, .move (.tmp 205), 4, none⟩, ⟨some 207, .move (.tmp 26), 22, some (some 206, true)⟩, ⟨some 208, .move (.tmp 14), 22, some (some 206, true)⟩, ⟨some 209, .call { callee := .value (.func 13), args := #[.tmp 207, .tmp 208], argTypes := #[22, 22] }, 4, some (some 206, true)⟩, ⟨some 210, .pick (.tmp 206) (.tmp 209) (.const (.bool false)), 4, none⟩, ⟨some 8, .assign (.tmp 210), 4, none⟩])
    .ret))))))))))))))))
def pl4 : Nat → Plan := fun id => if id = 26 then (.take 0 (.take 1 (.take 2 (.take 3 (.take 4 (.take 5 (.take 6 (.alt 7 (.take 8 (.take 9 (.take 10 (.take 11 (.alt 12 (.altL 13 (.take 14 (.take 15 .done)) .none) .none))))) (.alt 12 (.alt 7 (.take 8 (.take 9 (.take 10 (.take 11 (.altL 13 (.take 14 (.take 15 .done)) .none))))) .none) .none))))))))) else if id = 27 then (.take 0 (.take 1 (.take 2 (.take 3 (.take 4 (.take 5 (.take 6 (.take 7 (.take 8 (.take 9 (.alt 10 (.take 11 (.take 12 (.take 13 (.take 14 (.take 16 (.take 17 (.alt 15 (.take 18 (.take 19 .done)) .none))))))) .none))))))))))) else .done
theorem st4 : Go.Proofs.Tryz.f4.body.map (strip pl4) = some m4 := by kernel_rfl
theorem ok4 : okB pl4 Go.Proofs.Tryz.f4 4 = true := by kernel_rfl
theorem en4 {v0 v1 v2 v3 w} {Q : Value → World → Prop} (h : mwpB Go.Proofs.Tryz.prog m4 (argEnv [v0, v1, v2, v3]) [] w (fun e ds w => ds = [] ∧ resW Go.Proofs.Tryz.prog [.tmp 8] e w fun v => Q v w) (fun _ _ _ _ => False) (fun e ds w => ds = [] ∧ resW Go.Proofs.Tryz.prog [.tmp 8] e w fun v => Q v w) (fun _ _ _ _ => False) ⟨⟩) : Rets Go.Proofs.Tryz.prog 4 #[v0, v1, v2, v3] w Q :=
  rets_of_mwp follows_mo Go.Proofs.Tryz.func4 pl4 st4 ok4 (by kernel_rfl) h
/-- continuo/continuolaw31.awake -/
def m7 : MC := (.seq (.ops [⟨some 0, .assign (.const (.bool false)), 4, none⟩])
    (.seq (.ops [⟨some 5, .buildSlice 22 2 #[(0, .const (.int .i64 2)), (1, .const (.int .i64 32768))], 22, none⟩, ⟨some 6, .build 24 #[(0, .const (.int .i64 3)), (1, .tmp 5)], 24, none⟩, ⟨some 7, .buildSlice 22 5 #[(0, .const (.int .i64 100)), (1, .const (.int .i64 0)), (2, .const (.int .i64 0)), (3, .const (.int .i64 0)), (4, .const (.int .i64 0))], 22, none⟩, ⟨some 8, .call { callee := .value (.func 14), args := #[.tmp 6, .tmp 7], argTypes := #[24, 22] }, 31, none⟩, ⟨some 4, .move (.tmp 8), 31, none⟩, ⟨some 9, .extract (.tmp 4) 0, 22, none⟩, ⟨some 10, .extract (.tmp 4) 1, 28, none⟩, ⟨some 1, .assign (.tmp 9), 22, none⟩, ⟨some 2, .assign (.tmp 10), 28, none⟩])
    (.seq (.seq (.ops [⟨some 11, .move (.tmp 2), 28, none⟩, ⟨some 12, .binOp .neq 28 (.tmp 11) (.const (.int .i64 0)) 28, 4, none⟩, ⟨some 13, .move (.tmp 12), 4, none⟩, ⟨some 14, .move (.tmp 1), 22, some (some 13, false)⟩, ⟨some 15, .call { callee := .builtin .len, args := #[.tmp 14], argTypes := #[22] }, 3, some (some 13, false)⟩, ⟨some 16, .binOp .neq 3 (.tmp 15) (.const (.int .i64 5)) 3, 4, some (some 13, false)⟩, ⟨some 17, .pick (.tmp 13) (.const (.bool true)) (.tmp 16), 4, none⟩, ⟨some 18, .move (.tmp 17), 4, none⟩, ⟨some 19, .move (.tmp 1), 22, some (some 18, false)⟩, ⟨some 20, .indexAddr 22 (.tmp 19) (.const (.int .i64 0)), 0, some (some 18, false)⟩, ⟨some 21, .load 3 (.tmp 20), 3, some (some 18, false)⟩, ⟨some 22, .binOp .neq 3 (.tmp 21) (.const (.int .i64 100)) 3, 4, some (some 18, false)⟩, ⟨some 23, .pick (.tmp 18) (.const (.bool true)) (.tmp 22), 4, none⟩, ⟨some 24, .move (.tmp 23), 4, none⟩, ⟨some 25, .move (.tmp 1), 22, some (some 24, false)⟩, ⟨some 26, .indexAddr 22 (.tmp 25) (.const (.int .i64 2)), 0, some (some 24, false)⟩, ⟨some 27, .load 3 (.tmp 26), 3, some (some 24, false)⟩, ⟨some 28, .binOp .neq 3 (.tmp 27) (.const (.int .i64 50)) 3, 4, some (some 24, false)⟩, ⟨some 29, .pick (.tmp 24) (.const (.bool true)) (.tmp 28), 4, none⟩, ⟨some 30, .move (.tmp 29), 4, none⟩, ⟨some 31, .move (.tmp 1), 22, some (some 30, false)⟩, ⟨some 32, .indexAddr 22 (.tmp 31) (.const (.int .i64 4)), 0, some (some 30, false)⟩, ⟨some 33, .load 3 (.tmp 32), 3, some (some 30, false)⟩, ⟨some 34, .binOp .neq 3 (.tmp 33) (.const (.int .i64 25)) 3, 4, some (some 30, false)⟩, ⟨some 35, .pick (.tmp 30) (.const (.bool true)) (.tmp 34), 4, none⟩])
    (.cond (.tmp 35) (.seq (.ops [⟨some 0, .assign (.const (.bool false)), 4, none⟩])
    .ret) .skip))
    (.seq (.ops [⟨some 37, .buildSlice 22 4 #[(0, .const (.int .i64 100)), (1, .const (.int .i64 131072)), (2, .const (.int .i64 65536)), (3, .const (.int .i64 65536))], 22, none⟩, ⟨some 38, .build 24 #[(0, .const (.int .i64 5)), (1, .tmp 37)], 24, none⟩, ⟨some 39, .call { callee := .value (.func 9), args := #[.tmp 38], argTypes := #[24] }, 29, none⟩, ⟨some 36, .move (.tmp 39), 29, none⟩, ⟨some 40, .extract (.tmp 36) 0, 27, none⟩, ⟨some 41, .extract (.tmp 36) 1, 28, none⟩, ⟨some 3, .assign (.tmp 40), 27, none⟩, ⟨some 2, .assign (.tmp 41), 28, none⟩])
    (.seq (.seq (.ops [⟨some 42, .move (.tmp 2), 28, none⟩, ⟨some 43, .binOp .neq 28 (.tmp 42) (.const (.int .i64 0)) 28, 4, none⟩])
    (.cond (.tmp 43) (.seq (.ops [⟨some 0, .assign (.const (.bool false)), 4, none⟩])
    .ret) .skip))
    (.seq (.ops [⟨some 45, .move (.tmp 3), 27, none⟩, ⟨some 46, .buildSlice 22 1 #[(0, .const (.int .i64 300))], 22, none⟩, ⟨some 47, .call { callee := .value (.func 10), args := #[.tmp 45, .tmp 46], argTypes := #[27, 22] }, 31, none⟩, ⟨some 44, .move (.tmp 47), 31, none⟩, ⟨some 48, .extract (.tmp 44) 0, 22, none⟩, ⟨some 49, .extract (.tmp 44) 1, 28, none⟩, ⟨some 1, .assign (.tmp 48), 22, none⟩, ⟨some 2, .assign (.tmp 49), 28, none⟩])
    (.seq (.ops [⟨some 50, .move (.tmp 2), 28, none⟩, ⟨some 51, .binOp .eql 28 (.tmp 50) (.const (.int .i64 0)) 28, 4, none⟩, ⟨some 52, .move (.tmp 51), 4, none⟩, ⟨some 53, .move (.tmp 1), 22, some (some 52, true)⟩, ⟨some 54, .call { callee := .builtin .len, args := #[.tmp 53], argTypes := #[22] }, 3, some (some 52, true)⟩, ⟨some 55, .binOp .eql 3 (.tmp 54) (.const (.int .i64 1)) 3, 4, some (some 52, true)⟩, ⟨some 56, .pick (.tmp 52) (.tmp 55) (.const (.bool false)), 4, none⟩, ⟨some 57, .move (.tmp 56), 4, none⟩, ⟨some 58, .move (.tmp 1), 22, some (some 57, true)⟩, ⟨some 59, .indexAddr 22 (.tmp 58) (.const (.int .i64 0)), 0, some (some 57, true)⟩, ⟨some 60, .load 3 (.tmp 59), 3, some (some 57, true)⟩, ⟨some 61, .binOp .eql 3 (.tmp 60) (.const (.int .i64 200)) 3, 4, some (some 57, true)⟩, ⟨some 62, .pick (.tmp 57) (.tmp 61) (.const (.bool false)), 4, none⟩, ⟨some 63, .move (.tmp 62), 4, none⟩, ⟨some 64, .move (.tmp 3), 27, some (some 63, true)⟩, ⟨some 65, .call { callee := .value (.func 17), args := #[.tmp 64], argTypes := #[27] }, 3, some (some 63, true)⟩, ⟨some 66, .binOp .eql 3 (.tmp 65) (.const (.int .i64 300)) 3, 4, some (some 63, true)⟩, ⟨some 67, .pick (.tmp 63) (.tmp 66) (.const (.bool false)), 4, none⟩, ⟨some 0, .assign (.tmp 67), 4, none⟩])
    .ret)))))))
def pl7 : Nat → Plan := fun _ => .done
theorem st7 : Go.Proofs.Tryz.f7.body.map (strip pl7) = some m7 := by kernel_rfl
theorem ok7 : okB pl7 Go.Proofs.Tryz.f7 0 = true := by kernel_rfl
theorem en7 {w} {Q : Value → World → Prop} (h : mwpB Go.Proofs.Tryz.prog m7 (argEnv []) [] w (fun e ds w => ds = [] ∧ resW Go.Proofs.Tryz.prog [.tmp 0] e w fun v => Q v w) (fun _ _ _ _ => False) (fun e ds w => ds = [] ∧ resW Go.Proofs.Tryz.prog [.tmp 0] e w fun v => Q v w) (fun _ _ _ _ => False) ⟨⟩) : Rets Go.Proofs.Tryz.prog 7 #[] w Q :=
  rets_of_mwp follows_mo Go.Proofs.Tryz.func7 pl7 st7 ok7 (by kernel_rfl) h
/-- continuo/continuolaw31.long -/
def m8 : MC := (.seq (.ops [⟨some 2, .box 24 (.tmp 0), 0, none⟩, ⟨some 4, .assign (.const (.bool false)), 4, none⟩])
    (.seq (.ops [⟨some 5, .fieldAddr 24 (.tmp 2) 1, 0, none⟩, ⟨some 6, .load 22 (.tmp 5), 22, none⟩, ⟨some 7, .call { callee := .builtin .len, args := #[.tmp 6], argTypes := #[22] }, 3, none⟩, ⟨some 8, .binOp .gtr 3 (.tmp 7) (.const (.int .i64 20)) 3, 4, none⟩, ⟨some 9, .move (.tmp 8), 4, none⟩, ⟨some 10, .fieldAddr 24 (.tmp 2) 2, 0, some (some 9, false)⟩, ⟨some 11, .load 22 (.tmp 10), 22, some (some 9, false)⟩, ⟨some 12, .call { callee := .builtin .len, args := #[.tmp 11], argTypes := #[22] }, 3, some (some 9, false)⟩, ⟨some 13, .binOp .gtr 3 (.tmp 12) (.const (.int .i64 600)) 3, 4, some (some 9, false)⟩, ⟨some 14, .pick (.tmp 9) (.const (.bool true)) (.tmp 13), 4, none⟩, ⟨some 15, .move (.tmp 14), 4, none⟩, ⟨some 16, .move (.tmp 1), 22, some (some 15, false)⟩, ⟨some 17, .call { callee := .builtin .len, args := #[.tmp 16], argTypes := #[22] }, 3, some (some 15, false)⟩, ⟨some 18, .binOp .gtr 3 (.tmp 17) (.const (.int .i64 700)) 3, 4, some (some 15, false)⟩, ⟨some 19, .move (.tmp 18), 4, some (some 15, false)⟩, ⟨some 20, .move (.tmp 1), 22, some (some 19, true)⟩, ⟨some 21, .call { callee := .builtin .len, args := #[.tmp 20], argTypes := #[22] }, 3, some (some 19, true)⟩, ⟨some 22, .binOp .leq 3 (.tmp 21) (.const (.int .i64 4096)) 3, 4, some (some 19, true)⟩, ⟨some 23, .pick (.tmp 19) (.tmp 22) (.const (.bool false)), 4, some (some 15, false)⟩, ⟨some 24, .pick (.tmp 15) (.const (.bool true)) (.tmp 23), 4, none⟩, ⟨some 25, .move (.tmp 24), 4, none⟩, ⟨some 26, .move (.tmp 1), 22, some (some 25, false)⟩, ⟨some 27, .call { callee := .builtin .len, args := #[.tmp 26], argTypes := #[22] }, 3, some (some 25, false)⟩, ⟨some 28, .binOp .gtr 3 (.tmp 27) (.const (.int .i64 5000)) 3, 4, some (some 25, false)⟩, ⟨some 29, .pick (.tmp 25) (.const (.bool true)) (.tmp 28), 4, none⟩, ⟨some 4, .assign (.tmp 29), 4, none⟩])
    .ret))
def pl8 : Nat → Plan := fun _ => .done
theorem st8 : Go.Proofs.Tryz.f8.body.map (strip pl8) = some m8 := by kernel_rfl
theorem ok8 : okB pl8 Go.Proofs.Tryz.f8 2 = true := by kernel_rfl
theorem en8 {v0 v1 w} {Q : Value → World → Prop} (h : mwpB Go.Proofs.Tryz.prog m8 (argEnv [v0, v1]) [] w (fun e ds w => ds = [] ∧ resW Go.Proofs.Tryz.prog [.tmp 4] e w fun v => Q v w) (fun _ _ _ _ => False) (fun e ds w => ds = [] ∧ resW Go.Proofs.Tryz.prog [.tmp 4] e w fun v => Q v w) (fun _ _ _ _ => False) ⟨⟩) : Rets Go.Proofs.Tryz.prog 8 #[v0, v1] w Q :=
  rets_of_mwp follows_mo Go.Proofs.Tryz.func8 pl8 st8 ok8 (by kernel_rfl) h
/-- continuo/effect.New -/
def m9 : MC := (.seq (.ops [⟨some 1, .box 24 (.tmp 0), 0, none⟩, ⟨some 2, .assign (.const (.pointer none)), 27, none⟩, ⟨some 3, .assign (.const (.int .i64 0)), 28, none⟩])
    (.seq (.seq (.ops [⟨some 4, .load 24 (.tmp 1), 24, none⟩, ⟨some 5, .call { callee := .value (.func 35), args := #[.tmp 4], argTypes := #[24] }, 4, none⟩, ⟨some 6, .unOp .not 4 (.tmp 5), 4, none⟩])
    (.cond (.tmp 6) (.seq (.ops [⟨some 2, .assign (.const (.pointer none)), 27, none⟩, ⟨some 3, .assign (.const (.int .i64 1)), 28, none⟩])
    .ret) .skip))
    (.seq (.ops [⟨some 7, .load 24 (.tmp 1), 24, none⟩, ⟨some 8, .call { callee := .value (.func 36), args := #[.tmp 7], argTypes := #[24] }, 27, none⟩, ⟨some 2, .assign (.tmp 8), 27, none⟩, ⟨some 3, .assign (.const (.int .i64 0)), 28, none⟩])
    .ret)))
def pl9 : Nat → Plan := fun _ => .done
theorem st9 : Go.Proofs.Tryz.f9.body.map (strip pl9) = some m9 := by kernel_rfl
theorem ok9 : okB pl9 Go.Proofs.Tryz.f9 1 = true := by kernel_rfl
theorem en9 {v0 w} {Q : Value → World → Prop} (h : mwpB Go.Proofs.Tryz.prog m9 (argEnv [v0]) [] w (fun e ds w => ds = [] ∧ resW Go.Proofs.Tryz.prog [.tmp 2, .tmp 3] e w fun v => Q v w) (fun _ _ _ _ => False) (fun e ds w => ds = [] ∧ resW Go.Proofs.Tryz.prog [.tmp 2, .tmp 3] e w fun v => Q v w) (fun _ _ _ _ => False) ⟨⟩) : Rets Go.Proofs.Tryz.prog 9 #[v0] w Q :=
  rets_of_mwp follows_mo Go.Proofs.Tryz.func9 pl9 st9 ok9 (by kernel_rfl) h
/-- (*continuo/effect.Unit).Run -/
def m10 : MC := (.seq (.ops [⟨some 4, .assign (.const (.slice none 0 0)), 22, none⟩, ⟨some 5, .assign (.const (.int .i64 0)), 28, none⟩])
    (.seq (.seq (.ops [⟨some 9, .move (.tmp 0), 27, none⟩, ⟨some 10, .binOp .eql 27 (.tmp 9) (.const (.pointer none)) 27, 4, none⟩, ⟨some 11, .move (.tmp 10), 4, none⟩, ⟨some 12, .move (.tmp 1), 22, some (some 11, false)⟩, ⟨some 13, .call { callee := .value (.func 37), args := #[.tmp 12], argTypes := #[22] }, 4, some (some 11, false)⟩, ⟨some 14, .unOp .not 4 (.tmp 13), 4, some (some 11, false)⟩, ⟨some 15, .pick (.tmp 11) (.const (.bool true)) (.tmp 14), 4, none⟩])
    (.cond (.tmp 15) (.seq (.ops [⟨some 4, .assign (.const (.slice none 0 0)), 22, none⟩, ⟨some 5, .assign (.const (.int .i64 1)), 28, none⟩])
    .ret) .skip))
    (.seq (.ops [⟨some 6, .assign (.const (.slice none 0 0)), 22, none⟩])
    (.seq (.seq (.ops [⟨some 16, .move (.tmp 1), 22, none⟩, ⟨some 17, .call { callee := .builtin .len, args := #[.tmp 16], argTypes := #[22] }, 3, none⟩, ⟨some 18, .move (.const (.int .i64 0)), 3, none⟩])
    (.block 0 (.loop (.seq (.ops [⟨some 19, .binOp .lss 3 (.tmp 18) (.tmp 17) 3, 0, none⟩])
    (.seq (.cond (.tmp 19) .skip (.exit 0))
    (.seq (.block 1 (.seq (.ops [⟨some 20, .indexAddr 22 (.tmp 16) (.tmp 18), 0, none⟩, ⟨some 21, .load 3 (.tmp 20), 3, none⟩, ⟨some 8, .assign (.tmp 21), 3, none⟩])
    (.ops [⟨some 22, .move (.tmp 6), 22, none⟩, ⟨some 23, .move (.tmp 0), 27, none⟩, ⟨some 24, .nilCheck (.tmp 23), 0, none⟩, ⟨some 25, .fieldAddr 80 (.tmp 24) 0, 0, none⟩, ⟨some 26, .load 78 (.tmp 25), 78, none⟩, ⟨some 27, .move (.tmp 8), 3, none⟩, ⟨some 28, .call { callee := .invoke (.tmp 26) "continuo/effect.step", args := #[.tmp 27], argTypes := #[3] }, 3, none⟩, ⟨some 29, .buildSlice 22 1 #[(0, .tmp 28)], 22, none⟩, ⟨some 30, .call { callee := .builtin .append, args := #[.tmp 22, .tmp 29], argTypes := #[22, 22] }, 22, none⟩, ⟨some 6, .assign (.tmp 30), 22, none⟩])))
    (.ops [⟨some 31, .binOp .add 3 (.tmp 18) (.const (.int .i64 1)) 3, 3, none⟩, ⟨some 18, .move (.tmp 31), 3, none⟩])))))))
    (.seq (.ops [⟨some 32, .move (.tmp 6), 22, none⟩, ⟨some 4, .assign (.tmp 32), 22, none⟩, ⟨some 5, .assign (.const (.int .i64 0)), 28, none⟩])
    .ret)))))
def pl10 : Nat → Plan := fun _ => .done
theorem st10 : Go.Proofs.Tryz.f10.body.map (strip pl10) = some m10 := by kernel_rfl
theorem ok10 : okB pl10 Go.Proofs.Tryz.f10 2 = true := by kernel_rfl
theorem en10 {v0 v1 w} {Q : Value → World → Prop} (h : mwpB Go.Proofs.Tryz.prog m10 (argEnv [v0, v1]) [] w (fun e ds w => ds = [] ∧ resW Go.Proofs.Tryz.prog [.tmp 4, .tmp 5] e w fun v => Q v w) (fun _ _ _ _ => False) (fun e ds w => ds = [] ∧ resW Go.Proofs.Tryz.prog [.tmp 4, .tmp 5] e w fun v => Q v w) (fun _ _ _ _ => False) ⟨⟩) : Rets Go.Proofs.Tryz.prog 10 #[v0, v1] w Q :=
  rets_of_mwp follows_mo Go.Proofs.Tryz.func10 pl10 st10 ok10 (by kernel_rfl) h
/-- (*continuo/effect.Unit).State -/
def m11 : MC := (.seq (.ops [⟨some 2, .assign (.const (.string { data := #[] })), 9, none⟩])
    (.seq (.seq (.ops [⟨some 3, .move (.tmp 0), 27, none⟩, ⟨some 4, .binOp .eql 27 (.tmp 3) (.const (.pointer none)) 27, 4, none⟩])
    (.cond (.tmp 4) (.seq (.ops [⟨some 2, .assign (.const (.string { data := #[] })), 9, none⟩])
    .ret) .skip))
    (.seq (.ops [⟨some 5, .move (.tmp 0), 27, none⟩, ⟨some 6, .call { callee := .value (.func 38), args := #[.tmp 5], argTypes := #[27] }, 9, none⟩, ⟨some 2, .assign (.tmp 6), 9, none⟩])
    .ret)))
def pl11 : Nat → Plan := fun _ => .done
theorem st11 : Go.Proofs.Tryz.f11.body.map (strip pl11) = some m11 := by kernel_rfl
theorem ok11 : okB pl11 Go.Proofs.Tryz.f11 1 = true := by kernel_rfl
theorem en11 {v0 w} {Q : Value → World → Prop} (h : mwpB Go.Proofs.Tryz.prog m11 (argEnv [v0]) [] w (fun e ds w => ds = [] ∧ resW Go.Proofs.Tryz.prog [.tmp 2] e w fun v => Q v w) (fun _ _ _ _ => False) (fun e ds w => ds = [] ∧ resW Go.Proofs.Tryz.prog [.tmp 2] e w fun v => Q v w) (fun _ _ _ _ => False) ⟨⟩) : Rets Go.Proofs.Tryz.prog 11 #[v0] w Q :=
  rets_of_mwp follows_mo Go.Proofs.Tryz.func11 pl11 st11 ok11 (by kernel_rfl) h
/-- (*continuo/effect.Unit).Resume -/
def m12 : MC := (.seq (.ops [⟨some 4, .alloc 28, 0, none⟩])
    (.seq (.seq (.ops [⟨some 7, .move (.tmp 0), 27, none⟩, ⟨some 8, .binOp .eql 27 (.tmp 7) (.const (.pointer none)) 27, 4, none⟩])
    (.cond (.tmp 8) (.seq (.ops [⟨none, .store 28 (.tmp 4) (.const (.int .i64 1)), 0, none⟩])
    .ret) .skip))
    (.seq (.ops [⟨none, .defer { callee := .value (.func 39), args := #[.tmp 4], argTypes := #[83] }, 0, none⟩])
    (.seq (.ops [⟨some 9, .move (.tmp 1), 9, none⟩, ⟨some 10, .call { callee := .value (.func 40), args := #[.tmp 9], argTypes := #[9] }, 85, none⟩, ⟨some 11, .build 88 #[(0, .tmp 10)], 88, none⟩, ⟨some 12, .box 88 (.tmp 11), 84, none⟩, ⟨some 5, .assign (.tmp 12), 84, none⟩])
    (.seq (.ops [⟨some 13, .move (.tmp 5), 84, none⟩, ⟨some 14, .move (.tmp 0), 27, none⟩, ⟨some 15, .call { callee := .value (.func 41), args := #[.tmp 13, .tmp 14], argTypes := #[84, 27] }, 22, none⟩, ⟨some 6, .assign (.tmp 15), 22, none⟩])
    (.seq (.ops [⟨some 16, .move (.tmp 5), 84, none⟩, ⟨some 17, .call { callee := .value (.func 42), args := #[.tmp 16], argTypes := #[84] }, 0, none⟩])
    (.seq (.ops [⟨some 18, .move (.tmp 0), 27, none⟩, ⟨some 19, .nilCheck (.tmp 18), 0, none⟩, ⟨some 20, .fieldAddr 80 (.tmp 19) 0, 0, none⟩, ⟨some 21, .load 78 (.tmp 20), 78, none⟩, ⟨some 22, .move (.tmp 6), 22, none⟩, ⟨some 23, .call { callee := .invoke (.tmp 21) "continuo/effect.resume", args := #[.tmp 22], argTypes := #[22] }, 0, none⟩])
    (.seq (.ops [⟨none, .store 28 (.tmp 4) (.const (.int .i64 0)), 0, none⟩])
    .ret))))))))
def pl12 : Nat → Plan := fun _ => .done
theorem st12 : Go.Proofs.Tryz.f12.body.map (strip pl12) = some m12 := by kernel_rfl
theorem ok12 : okB pl12 Go.Proofs.Tryz.f12 2 = true := by kernel_rfl
theorem enD12 {v0 v1 w} {R : Ending → World → Prop} (h : mwpB Go.Proofs.Tryz.prog m12 (argEnv [v0, v1]) [] w (fun e ds w => leaveW Go.Proofs.Tryz.prog [.cell 4 28] R ds .returning e w) (fun _ _ _ _ => False) (fun e ds w => leaveW Go.Proofs.Tryz.prog [.cell 4 28] R ds .returning e w) (fun e ch ds w => leaveW Go.Proofs.Tryz.prog [.cell 4 28] R ds (.panicking ch) e w) ⟨⟩) : Calls Go.Proofs.Tryz.prog 12 #[v0, v1] w R :=
  calls_of_mwpD follows_mo Go.Proofs.Tryz.func12 pl12 st12 ok12 (by kernel_rfl) h
/-- continuo/continuolaw31.ints -/
def m13 : MC := (.seq (.ops [⟨some 4, .assign (.const (.bool false)), 4, none⟩])
    (.seq (.seq (.ops [⟨some 6, .move (.tmp 0), 22, none⟩, ⟨some 7, .call { callee := .builtin .len, args := #[.tmp 6], argTypes := #[22] }, 3, none⟩, ⟨some 8, .move (.tmp 1), 22, none⟩, ⟨some 9, .call { callee := .builtin .len, args := #[.tmp 8], argTypes := #[22] }, 3, none⟩, ⟨some 10, .binOp .neq 3 (.tmp 7) (.tmp 9) 3, 4, none⟩])
    (.cond (.tmp 10) (.seq (.ops [⟨some 4, .assign (.const (.bool false)), 4, none⟩])
    .ret) .skip))
    (.seq (.seq (.ops [⟨some 5, .assign (.const (.int .i64 0)), 3, none⟩])
    (.block 0 (.loop (.seq (.seq (.ops [⟨some 11, .move (.tmp 5), 3, none⟩, ⟨some 12, .move (.tmp 0), 22, none⟩, ⟨some 13, .call { callee := .builtin .len, args := #[.tmp 12], argTypes := #[22] }, 3, none⟩, ⟨some 14, .binOp .lss 3 (.tmp 11) (.tmp 13) 3, 4, none⟩])
    (.cond (.tmp 14) .skip (.exit 0)))
    (.seq (.block 1 (.seq (.draw (.take ⟨some 17, .move (.tmp 0), 22, none⟩ (.take ⟨some 18, .move (.tmp 5), 3, none⟩ (.take ⟨some 19, .indexAddr 22 (.tmp 17) (.tmp 18), 0, none⟩ (.take ⟨some 20, .load 3 (.tmp 19), 3, none⟩ (.take ⟨some 21, .move (.tmp 1), 22, none⟩ (.take ⟨some 22, .move (.tmp 5), 3, none⟩ (.take ⟨some 23, .indexAddr 22 (.tmp 21) (.tmp 22), 0, none⟩ (.take ⟨some 24, .load 3 (.tmp 23), 3, none⟩ (.take ⟨some 25, .binOp .neq 3 (.tmp 20) (.tmp 24) 3, 4, none⟩ .done))))))))))
    (.cond (.tmp 25) (.seq (.ops [⟨some 4, .assign (.const (.bool false)), 4, none⟩])
    .ret) .skip)))
    (.ops [⟨some 15, .move (.tmp 5), 3, none⟩, ⟨some 16, .binOp .add 3 (.tmp 15) (.const (.int .i64 1)) 3, 3, none⟩, ⟨some 5, .assign (.tmp 16), 3, none⟩]))))))
    (.seq (.ops [⟨some 4, .assign (.const (.bool true)), 4, none⟩])
    .ret))))
def pl13 : Nat → Plan := fun id => if id = 6 then (.take 0 (.take 1 (.take 2 (.take 3 (.take 4 (.take 5 (.take 6 (.take 7 (.take 8 .done))))))))) else .done
theorem st13 : Go.Proofs.Tryz.f13.body.map (strip pl13) = some m13 := by kernel_rfl
theorem ok13 : okB pl13 Go.Proofs.Tryz.f13 2 = true := by kernel_rfl
theorem en13 {v0 v1 w} {Q : Value → World → Prop} (h : mwpB Go.Proofs.Tryz.prog m13 (argEnv [v0, v1]) [] w (fun e ds w => ds = [] ∧ resW Go.Proofs.Tryz.prog [.tmp 4] e w fun v => Q v w) (fun _ _ _ _ => False) (fun e ds w => ds = [] ∧ resW Go.Proofs.Tryz.prog [.tmp 4] e w fun v => Q v w) (fun _ _ _ _ => False) ⟨⟩) : Rets Go.Proofs.Tryz.prog 13 #[v0, v1] w Q :=
  rets_of_mwp follows_mo Go.Proofs.Tryz.func13 pl13 st13 ok13 (by kernel_rfl) h
/-- continuo/effect.Run -/
def m14 : MC := (.seq (.ops [⟨some 2, .box 24 (.tmp 0), 0, none⟩, ⟨some 4, .assign (.const (.slice none 0 0)), 22, none⟩, ⟨some 5, .assign (.const (.int .i64 0)), 28, none⟩])
    (.seq (.ops [⟨some 9, .load 24 (.tmp 2), 24, none⟩, ⟨some 10, .call { callee := .value (.func 9), args := #[.tmp 9], argTypes := #[24] }, 29, none⟩, ⟨some 8, .move (.tmp 10), 29, none⟩, ⟨some 11, .extract (.tmp 8) 0, 27, none⟩, ⟨some 12, .extract (.tmp 8) 1, 28, none⟩, ⟨some 6, .assign (.tmp 11), 27, none⟩, ⟨some 7, .assign (.tmp 12), 28, none⟩])
    (.seq (.seq (.ops [⟨some 13, .move (.tmp 7), 28, none⟩, ⟨some 14, .binOp .neq 28 (.tmp 13) (.const (.int .i64 0)) 28, 4, none⟩])
    (.cond (.tmp 14) (.seq (.ops [⟨some 15, .move (.tmp 7), 28, none⟩, ⟨some 4, .assign (.const (.slice none 0 0)), 22, none⟩, ⟨some 5, .assign (.tmp 15), 28, none⟩])
    .ret) .skip))
    (.seq (.ops [⟨some 16, .move (.tmp 6), 27, none⟩, ⟨some 17, .move (.tmp 1), 22, none⟩, ⟨some 18, .call { callee := .value (.func 10), args := #[.tmp 16, .tmp 17], argTypes := #[27, 22] }, 31, none⟩, ⟨some 19, .extract (.tmp 18) 0, 22, none⟩, ⟨some 20, .extract (.tmp 18) 1, 28, none⟩, ⟨some 4, .assign (.tmp 19), 22, none⟩, ⟨some 5, .assign (.tmp 20), 28, none⟩])
    .ret))))
def pl14 : Nat → Plan := fun _ => .done
theorem st14 : Go.Proofs.Tryz.f14.body.map (strip pl14) = some m14 := by kernel_rfl
theorem ok14 : okB pl14 Go.Proofs.Tryz.f14 2 = true := by kernel_rfl
theorem en14 {v0 v1 w} {Q : Value → World → Prop} (h : mwpB Go.Proofs.Tryz.prog m14 (argEnv [v0, v1]) [] w (fun e ds w => ds = [] ∧ resW Go.Proofs.Tryz.prog [.tmp 4, .tmp 5] e w fun v => Q v w) (fun _ _ _ _ => False) (fun e ds w => ds = [] ∧ resW Go.Proofs.Tryz.prog [.tmp 4, .tmp 5] e w fun v => Q v w) (fun _ _ _ _ => False) ⟨⟩) : Rets Go.Proofs.Tryz.prog 14 #[v0, v1] w Q :=
  rets_of_mwp follows_mo Go.Proofs.Tryz.func14 pl14 st14 ok14 (by kernel_rfl) h
/-- continuo/continuoref31.New -/
def m15 : MC := (.seq (.ops [⟨some 1, .box 24 (.tmp 0), 0, none⟩, ⟨some 2, .alloc 39, 0, none⟩, ⟨some 3, .assign (.const (.int .i64 0)), 28, none⟩])
    (.seq (.seq (.ops [⟨some 4, .load 24 (.tmp 1), 24, none⟩, ⟨some 5, .call { callee := .value (.func 43), args := #[.tmp 4], argTypes := #[24] }, 4, none⟩, ⟨some 6, .unOp .not 4 (.tmp 5), 4, none⟩])
    (.cond (.tmp 6) (.seq (.ops [⟨some 7, .build 39 #[], 39, none⟩, ⟨none, .store 39 (.tmp 2) (.tmp 7), 0, none⟩, ⟨some 3, .assign (.const (.int .i64 1)), 28, none⟩])
    .ret) .skip))
    (.seq (.draw (.take ⟨some 8, .load 24 (.tmp 1), 24, none⟩ (.take ⟨some 9, .load 24 (.tmp 1), 24, none⟩ (.alt ⟨some 10, .call { callee := .value (.func 44), args := #[.tmp 9], argTypes := #[24] }, 3, none⟩ (.alt ⟨some 11, .makeSlice 22 (.tmp 10) (.tmp 10), 22, none⟩ (.take ⟨some 12, .build 39 #[(0, .tmp 8), (1, .tmp 11), (3, .const (.int .i64 (-1)))], 39, none⟩ (.altL ⟨none, .store 39 (.tmp 2) (.tmp 12), 0, none⟩ (.take ⟨some 3, .assign (.const (.int .i64 0)), 28, none⟩ .done) .none)) .none) .none))))
    .ret)))
def pl15 : Nat → Plan := fun id => if id = 3 then (.take 0 (.take 1 (.alt 2 (.alt 3 (.take 4 (.altL 5 (.take 6 .done) .none)) .none) .none))) else .done
theorem st15 : Go.Proofs.Tryz.f15.body.map (strip pl15) = some m15 := by kernel_rfl
theorem ok15 : okB pl15 Go.Proofs.Tryz.f15 1 = true := by kernel_rfl
theorem en15 {v0 w} {Q : Value → World → Prop} (h : mwpB Go.Proofs.Tryz.prog m15 (argEnv [v0]) [] w (fun e ds w => ds = [] ∧ resW Go.Proofs.Tryz.prog [.cell 2 39, .tmp 3] e w fun v => Q v w) (fun _ _ _ _ => False) (fun e ds w => ds = [] ∧ resW Go.Proofs.Tryz.prog [.cell 2 39, .tmp 3] e w fun v => Q v w) (fun _ _ _ _ => False) ⟨⟩) : Rets Go.Proofs.Tryz.prog 15 #[v0] w Q :=
  rets_of_mwp follows_mo Go.Proofs.Tryz.func15 pl15 st15 ok15 (by kernel_rfl) h
/-- continuo/continuoref31.Run -/
def m16 : MC := (.seq (.ops [⟨some 2, .box 39 (.tmp 0), 0, none⟩, ⟨some 4, .alloc 39, 0, none⟩, ⟨some 5, .assign (.const (.slice none 0 0)), 22, none⟩, ⟨some 6, .assign (.const (.int .i64 0)), 28, none⟩])
    (.seq (.seq (.ops [⟨some 14, .move (.tmp 1), 22, none⟩, ⟨some 15, .call { callee := .value (.func 45), args := #[.tmp 14], argTypes := #[22] }, 28, none⟩, ⟨some 7, .assign (.tmp 15), 28, none⟩])
    (.seq (.ops [⟨some 16, .move (.tmp 7), 28, none⟩, ⟨some 17, .binOp .neq 28 (.tmp 16) (.const (.int .i64 0)) 28, 4, none⟩])
    (.cond (.tmp 17) (.seq (.ops [⟨some 18, .load 39 (.tmp 2), 39, none⟩, ⟨some 19, .move (.tmp 7), 28, none⟩, ⟨none, .store 39 (.tmp 4) (.tmp 18), 0, none⟩, ⟨some 5, .assign (.const (.slice none 0 0)), 22, none⟩, ⟨some 6, .assign (.tmp 19), 28, none⟩])
    .ret) .skip)))
    (.seq (.ops [⟨some 20, .fieldAddr 39 (.tmp 2) 1, 0, none⟩, ⟨some 21, .load 22 (.tmp 20), 22, none⟩, ⟨some 22, .call { callee := .builtin .append, args := #[.const (.slice none 0 0), .tmp 21], argTypes := #[22, 22] }, 22, none⟩, ⟨some 23, .move (.tmp 1), 22, none⟩, ⟨some 24, .call { callee := .builtin .len, args := #[.tmp 23], argTypes := #[22] }, 3, none⟩, ⟨some 25, .call { callee := .builtin .append, args := #[.tmp 22, .tmp 24], argTypes := #[22, 3] }, 22, none⟩, ⟨some 8, .assign (.tmp 25), 22, none⟩])
    (.seq (.ops [⟨some 26, .fieldAddr 39 (.tmp 2) 1, 0, none⟩, ⟨some 27, .load 22 (.tmp 26), 22, none⟩, ⟨some 28, .call { callee := .builtin .len, args := #[.tmp 27], argTypes := #[22] }, 3, none⟩, ⟨some 9, .assign (.tmp 28), 3, none⟩])
    (.seq (.ops [⟨some 10, .assign (.const (.slice none 0 0)), 22, none⟩])
    (.seq (.seq (.ops [⟨some 11, .assign (.const (.int .i64 0)), 3, none⟩])
    (.block 0 (.loop (.seq (.seq (.ops [⟨some 29, .move (.tmp 11), 3, none⟩, ⟨some 30, .move (.tmp 1), 22, none⟩, ⟨some 31, .call { callee := .builtin .len, args := #[.tmp 30], argTypes := #[22] }, 3, none⟩, ⟨some 32, .binOp .lss 3 (.tmp 29) (.tmp 31) 3, 4, none⟩])
    (.cond (.tmp 32) .skip (.exit 0)))
    (.seq (.block 1 (.seq (.ops [⟨some 35, .load 39 (.tmp 2), 39, none⟩, ⟨some 12, .alloc 39, 0, none⟩, ⟨none, .store 39 (.tmp 12) (.tmp 35), 0, none⟩])
    (.seq (.ops [⟨some 36, .move (.tmp 8), 22, none⟩, ⟨some 37, .move (.tmp 11), 3, none⟩, ⟨some 38, .move (.tmp 11), 3, none⟩, ⟨some 39, .move (.tmp 9), 3, none⟩, ⟨some 40, .binOp .add 3 (.tmp 38) (.tmp 39) 3, 3, none⟩, ⟨some 41, .slice 22 (.tmp 36) (some (.tmp 37)) (some (.tmp 40)) none, 22, none⟩, ⟨some 42, .fieldAddr 39 (.tmp 12) 1, 0, none⟩, ⟨none, .store 22 (.tmp 42) (.tmp 41), 0, none⟩])
    (.seq (.draw (.take ⟨some 44, .load 39 (.tmp 12), 39, none⟩ (.take ⟨some 45, .move (.tmp 1), 22, none⟩ (.take ⟨some 46, .move (.tmp 11), 3, none⟩ (.take ⟨some 47, .indexAddr 22 (.tmp 45) (.tmp 46), 0, none⟩ (.take ⟨some 48, .load 3 (.tmp 47), 3, none⟩ (.alt ⟨some 49, .call { callee := .value (.func 46), args := #[.tmp 44, .tmp 48], argTypes := #[39, 3] }, 93, none⟩ (.take ⟨some 43, .move (.tmp 49), 93, none⟩ (.take ⟨some 50, .extract (.tmp 43) 0, 39, none⟩ (.take ⟨some 51, .extract (.tmp 43) 1, 3, none⟩ (.altL ⟨none, .store 39 (.tmp 12) (.tmp 50), 0, none⟩ (.take ⟨some 13, .assign (.tmp 51), 3, none⟩ .done) .none)))) .none)))))))
    (.seq (.draw (.take ⟨some 52, .move (.tmp 8), 22, none⟩ (.take ⟨some 53, .move (.tmp 11), 3, none⟩ (.take ⟨some 54, .move (.tmp 9), 3, none⟩ (.take ⟨some 55, .binOp .add 3 (.tmp 53) (.tmp 54) 3, 3, none⟩ (.take ⟨some 56, .fieldAddr 39 (.tmp 2) 0, 0, none⟩ (.take ⟨some 57, .load 24 (.tmp 56), 24, none⟩ (.take ⟨some 58, .move (.tmp 1), 22, none⟩ (.take ⟨some 59, .move (.tmp 11), 3, none⟩ (.take ⟨some 60, .indexAddr 22 (.tmp 58) (.tmp 59), 0, none⟩ (.take ⟨some 61, .load 3 (.tmp 60), 3, none⟩ (.take ⟨some 62, .move (.tmp 13), 3, none⟩ (.alt ⟨some 63, .call { callee := .value (.func 47), args := #[.tmp 57, .tmp 61, .tmp 62], argTypes := #[24, 3, 3] }, 3, none⟩ (.take ⟨some 64, .indexAddr 22 (.tmp 52) (.tmp 55), 0, none⟩ (.altL ⟨none, .store 3 (.tmp 64) (.tmp 63), 0, none⟩ .done .none)) .none)))))))))))))
    (.seq (.draw (.take ⟨some 65, .fieldAddr 39 (.tmp 12) 2, 0, none⟩ (.take ⟨some 66, .load 3 (.tmp 65), 3, none⟩ (.take ⟨some 67, .fieldAddr 39 (.tmp 12) 3, 0, none⟩ (.take ⟨some 68, .load 3 (.tmp 67), 3, none⟩ (.take ⟨some 69, .fieldAddr 39 (.tmp 2) 2, 0, none⟩ (.alt ⟨none, .store 3 (.tmp 69) (.tmp 66), 0, none⟩ (.take ⟨some 70, .fieldAddr 39 (.tmp 2) 3, 0, none⟩ (.altL ⟨none, .store 3 (.tmp 70) (.tmp 68), 0, none⟩ .done .none)) .none)))))))
    (.ops [⟨some 71, .move (.tmp 10), 22, none⟩, ⟨some 72, .move (.tmp 13), 3, none⟩, ⟨some 73, .buildSlice 22 1 #[(0, .tmp 72)], 22, none⟩, ⟨some 74, .call { callee := .builtin .append, args := #[.tmp 71, .tmp 73], argTypes := #[22, 22] }, 22, none⟩, ⟨some 10, .assign (.tmp 74), 22, none⟩])))))))
    (.ops [⟨some 33, .move (.tmp 11), 3, none⟩, ⟨some 34, .binOp .add 3 (.tmp 33) (.const (.int .i64 1)) 3, 3, none⟩, ⟨some 11, .assign (.tmp 34), 3, none⟩]))))))
    (.seq (.ops [⟨some 75, .move (.tmp 8), 22, none⟩, ⟨some 76, .move (.tmp 1), 22, none⟩, ⟨some 77, .call { callee := .builtin .len, args := #[.tmp 76], argTypes := #[22] }, 3, none⟩, ⟨some 78, .move (.tmp 1), 22, none⟩, ⟨some 79, .call { callee := .builtin .len, args := #[.tmp 78], argTypes := #[22] }, 3, none⟩, ⟨some 80, .move (.tmp 9), 3, none⟩, ⟨some 81, .binOp .add 3 (.tmp 79) (.tmp 80) 3, 3, none⟩, ⟨some 82, .slice 22 (.tmp 75) (some (.tmp 77)) (some (.tmp 81)) none, 22, none⟩, ⟨some 83, .call { callee := .builtin .append, args := #[.const (.slice none 0 0), .tmp 82], argTypes := #[22, 22] }, 22, none⟩, ⟨some 84, .fieldAddr 39 (.tmp 2) 1, 0, none⟩, ⟨none, .store 22 (.tmp 84) (.tmp 83), 0, none⟩])
    (.seq (.ops [⟨some 85, .load 39 (.tmp 2), 39, none⟩, ⟨some 86, .move (.tmp 10), 22, none⟩, ⟨none, .store 39 (.tmp 4) (.tmp 85), 0, none⟩, ⟨some 5, .assign (.tmp 86), 22, none⟩, ⟨some 6, .assign (.const (.int .i64 0)), 28, none⟩])
    .ret))))))))
def pl16 : Nat → Plan := fun id => if id = 12 then (.take 0 (.take 1 (.take 2 (.take 3 (.take 4 (.alt 5 (.take 6 (.take 7 (.take 8 (.altL 9 (.take 10 .done) .none)))) .none)))))) else if id = 13 then (.take 0 (.take 1 (.take 2 (.take 3 (.take 4 (.take 5 (.take 6 (.take 7 (.take 8 (.take 9 (.take 10 (.alt 11 (.take 12 (.altL 13 .done .none)) .none)))))))))))) else if id = 14 then (.take 0 (.take 1 (.take 2 (.take 3 (.take 4 (.alt 5 (.take 6 (.altL 7 .done .none)) .none)))))) else .done
theorem st16 : Go.Proofs.Tryz.f16.body.map (strip pl16) = some m16 := by kernel_rfl
theorem ok16 : okB pl16 Go.Proofs.Tryz.f16 2 = true := by kernel_rfl
theorem en16 {v0 v1 w} {Q : Value → World → Prop} (h : mwpB Go.Proofs.Tryz.prog m16 (argEnv [v0, v1]) [] w (fun e ds w => ds = [] ∧ resW Go.Proofs.Tryz.prog [.cell 4 39, .tmp 5, .tmp 6] e w fun v => Q v w) (fun _ _ _ _ => False) (fun e ds w => ds = [] ∧ resW Go.Proofs.Tryz.prog [.cell 4 39, .tmp 5, .tmp 6] e w fun v => Q v w) (fun _ _ _ _ => False) ⟨⟩) : Rets Go.Proofs.Tryz.prog 16 #[v0, v1] w Q :=
  rets_of_mwp follows_mo Go.Proofs.Tryz.func16 pl16 st16 ok16 (by kernel_rfl) h
/-- (*continuo/effect.Unit).Level -/
def m17 : MC := (.seq (.ops [⟨some 2, .assign (.const (.int .i64 0)), 3, none⟩])
    (.seq (.seq (.ops [⟨some 5, .move (.tmp 0), 27, none⟩, ⟨some 6, .binOp .eql 27 (.tmp 5) (.const (.pointer none)) 27, 4, none⟩])
    (.cond (.tmp 6) (.seq (.ops [⟨some 2, .assign (.const (.int .i64 0)), 3, none⟩])
    .ret) .skip))
    (.seq (.seq (.ops [⟨some 7, .move (.tmp 0), 27, none⟩, ⟨some 8, .nilCheck (.tmp 7), 0, none⟩, ⟨some 9, .fieldAddr 80 (.tmp 8) 0, 0, none⟩, ⟨some 10, .load 78 (.tmp 9), 78, none⟩])
    (.block 0 (.seq (.ops [⟨some 11, .typeAssert (.tmp 10) 78 96 true, 0, none⟩, ⟨some 12, .extract (.tmp 11) 1, 4, none⟩, ⟨some 13, .extract (.tmp 11) 0, 96, none⟩])
    (.cond (.tmp 12) (.seq (.ops [⟨some 3, .assign (.tmp 13), 96, none⟩])
    (.seq (.ops [⟨some 14, .move (.tmp 3), 96, none⟩, ⟨some 15, .nilCheck (.tmp 14), 0, none⟩, ⟨some 16, .fieldAddr 100 (.tmp 15) 0, 0, none⟩, ⟨some 17, .fieldAddr 98 (.tmp 16) 4, 0, none⟩, ⟨some 18, .load 3 (.tmp 17), 3, none⟩, ⟨some 2, .assign (.tmp 18), 3, none⟩])
    .ret)) (.seq (.ops [⟨some 19, .typeAssert (.tmp 10) 78 101 true, 0, none⟩, ⟨some 20, .extract (.tmp 19) 1, 4, none⟩, ⟨some 21, .extract (.tmp 19) 0, 101, none⟩])
    (.cond (.tmp 20) (.seq (.ops [⟨some 4, .assign (.tmp 21), 101, none⟩])
    (.seq (.ops [⟨some 22, .move (.tmp 4), 101, none⟩, ⟨some 23, .nilCheck (.tmp 22), 0, none⟩, ⟨some 24, .fieldAddr 105 (.tmp 23) 0, 0, none⟩, ⟨some 25, .fieldAddr 98 (.tmp 24) 4, 0, none⟩, ⟨some 26, .load 3 (.tmp 25), 3, none⟩, ⟨some 2, .assign (.tmp 26), 3, none⟩])
    .ret)) .skip))))))
    (.seq (.ops [⟨some 2, .assign (.const (.int .i64 0)), 3, none⟩])
    .ret))))
def pl17 : Nat → Plan := fun _ => .done
theorem st17 : Go.Proofs.Tryz.f17.body.map (strip pl17) = some m17 := by kernel_rfl
theorem ok17 : okB pl17 Go.Proofs.Tryz.f17 1 = true := by kernel_rfl
theorem en17 {v0 w} {Q : Value → World → Prop} (h : mwpB Go.Proofs.Tryz.prog m17 (argEnv [v0]) [] w (fun e ds w => ds = [] ∧ resW Go.Proofs.Tryz.prog [.tmp 2] e w fun v => Q v w) (fun _ _ _ _ => False) (fun e ds w => ds = [] ∧ resW Go.Proofs.Tryz.prog [.tmp 2] e w fun v => Q v w) (fun _ _ _ _ => False) ⟨⟩) : Rets Go.Proofs.Tryz.prog 17 #[v0] w Q :=
  rets_of_mwp follows_mo Go.Proofs.Tryz.func17 pl17 st17 ok17 (by kernel_rfl) h
/-- (*continuo/effect.Unit).Reset -/
def m18 : MC := (.seq (.ops [⟨some 2, .assign (.const (.int .i64 0)), 28, none⟩])
    (.seq (.seq (.ops [⟨some 3, .move (.tmp 0), 27, none⟩, ⟨some 4, .binOp .eql 27 (.tmp 3) (.const (.pointer none)) 27, 4, none⟩])
    (.cond (.tmp 4) (.seq (.ops [⟨some 2, .assign (.const (.int .i64 1)), 28, none⟩])
    .ret) .skip))
    (.seq (.ops [⟨some 5, .move (.tmp 0), 27, none⟩, ⟨some 6, .move (.tmp 0), 27, none⟩, ⟨some 7, .nilCheck (.tmp 6), 0, none⟩, ⟨some 8, .fieldAddr 80 (.tmp 7) 1, 0, none⟩, ⟨some 9, .load 24 (.tmp 8), 24, none⟩, ⟨some 10, .call { callee := .value (.func 48), args := #[.tmp 9], argTypes := #[24] }, 78, none⟩, ⟨some 11, .nilCheck (.tmp 5), 0, none⟩, ⟨some 12, .fieldAddr 80 (.tmp 11) 0, 0, none⟩, ⟨none, .store 78 (.tmp 12) (.tmp 10), 0, none⟩])
    (.seq (.ops [⟨some 2, .assign (.const (.int .i64 0)), 28, none⟩])
    .ret))))
def pl18 : Nat → Plan := fun _ => .done
theorem st18 : Go.Proofs.Tryz.f18.body.map (strip pl18) = some m18 := by kernel_rfl
theorem ok18 : okB pl18 Go.Proofs.Tryz.f18 1 = true := by kernel_rfl
theorem en18 {v0 w} {Q : Value → World → Prop} (h : mwpB Go.Proofs.Tryz.prog m18 (argEnv [v0]) [] w (fun e ds w => ds = [] ∧ resW Go.Proofs.Tryz.prog [.tmp 2] e w fun v => Q v w) (fun _ _ _ _ => False) (fun e ds w => ds = [] ∧ resW Go.Proofs.Tryz.prog [.tmp 2] e w fun v => Q v w) (fun _ _ _ _ => False) ⟨⟩) : Rets Go.Proofs.Tryz.prog 18 #[v0] w Q :=
  rets_of_mwp follows_mo Go.Proofs.Tryz.func18 pl18 st18 ok18 (by kernel_rfl) h
/-- continuo/continuolaw31.lanesLong -/
def m19 : MC := (.seq (.ops [⟨some 2, .assign (.const (.bool false)), 4, none⟩])
    (.seq (.seq (.ops [⟨some 6, .move (.tmp 0), 47, none⟩, ⟨some 7, .call { callee := .builtin .len, args := #[.tmp 6], argTypes := #[47] }, 3, none⟩, ⟨some 8, .binOp .gtr 3 (.tmp 7) (.const (.int .i64 10)) 3, 4, none⟩])
    (.cond (.tmp 8) (.seq (.ops [⟨some 2, .assign (.const (.bool true)), 4, none⟩])
    .ret) .skip))
    (.seq (.ops [⟨some 3, .assign (.const (.int .i64 0)), 3, none⟩])
    (.seq (.seq (.ops [⟨some 4, .assign (.const (.int .i64 0)), 3, none⟩])
    (.block 0 (.loop (.seq (.seq (.ops [⟨some 9, .move (.tmp 4), 3, none⟩, ⟨some 10, .move (.tmp 0), 47, none⟩, ⟨some 11, .call { callee := .builtin .len, args := #[.tmp 10], argTypes := #[47] }, 3, none⟩, ⟨some 12, .binOp .lss 3 (.tmp 9) (.tmp 11) 3, 4, none⟩])
    (.cond (.tmp 12) .skip (.exit 0)))
    (.seq (.block 1 (.seq (.seq (.ops [⟨some 15, .move (.tmp 0), 47, none⟩, ⟨some 16, .move (.tmp 4), 3, none⟩, ⟨some 17, .indexAddr 47 (.tmp 15) (.tmp 16), 0, none⟩, ⟨some 18, .load 59 (.tmp 17), 59, none⟩, ⟨some 19, .call { callee := .builtin .len, args := #[.tmp 18], argTypes := #[59] }, 3, none⟩, ⟨some 20, .binOp .gtr 3 (.tmp 19) (.const (.int .i64 10)) 3, 4, none⟩])
    (.cond (.tmp 20) (.seq (.ops [⟨some 2, .assign (.const (.bool true)), 4, none⟩])
    .ret) .skip))
    (.seq (.ops [⟨some 5, .assign (.const (.int .i64 0)), 3, none⟩])
    (.block 2 (.loop (.seq (.seq (.ops [⟨some 21, .move (.tmp 5), 3, none⟩, ⟨some 22, .move (.tmp 0), 47, none⟩, ⟨some 23, .move (.tmp 4), 3, none⟩, ⟨some 24, .indexAddr 47 (.tmp 22) (.tmp 23), 0, none⟩, ⟨some 25, .load 59 (.tmp 24), 59, none⟩, ⟨some 26, .call { callee := .builtin .len, args := #[.tmp 25], argTypes := #[59] }, 3, none⟩, ⟨some 27, .binOp .lss 3 (.tmp 21) (.tmp 26) 3, 4, none⟩])
    (.cond (.tmp 27) .skip (.exit 2)))
    (.seq (.block 3 (.seq (.seq (.ops [⟨some 30, .move (.tmp 0), 47, none⟩, ⟨some 31, .move (.tmp 4), 3, none⟩, ⟨some 32, .indexAddr 47 (.tmp 30) (.tmp 31), 0, none⟩, ⟨some 33, .load 59 (.tmp 32), 59, none⟩, ⟨some 34, .move (.tmp 5), 3, none⟩, ⟨some 35, .indexAddr 59 (.tmp 33) (.tmp 34), 0, none⟩, ⟨some 36, .load 24 (.tmp 35), 24, none⟩, ⟨some 37, .call { callee := .value (.func 8), args := #[.tmp 36, .const (.slice none 0 0)], argTypes := #[24, 22] }, 4, none⟩])
    (.cond (.tmp 37) (.seq (.ops [⟨some 2, .assign (.const (.bool true)), 4, none⟩])
    .ret) .skip))
    (.ops [⟨some 38, .move (.tmp 3), 3, none⟩, ⟨some 39, .binOp .add 3 (.tmp 38) (.const (.int .i64 1)) 3, 3, none⟩, ⟨some 3, .assign (.tmp 39), 3, none⟩])))
    (.ops [⟨some 28, .move (.tmp 5), 3, none⟩, ⟨some 29, .binOp .add 3 (.tmp 28) (.const (.int .i64 1)) 3, 3, none⟩, ⟨some 5, .assign (.tmp 29), 3, none⟩]))))))))
    (.ops [⟨some 13, .move (.tmp 4), 3, none⟩, ⟨some 14, .binOp .add 3 (.tmp 13) (.const (.int .i64 1)) 3, 3, none⟩, ⟨some 4, .assign (.tmp 14), 3, none⟩]))))))
    (.seq (.ops [⟨some 40, .move (.tmp 3), 3, none⟩, ⟨some 41, .binOp .gtr 3 (.tmp 40) (.const (.int .i64 24)) 3, 4, none⟩, ⟨some 2, .assign (.tmp 41), 4, none⟩])
    .ret)))))
/-- continuo/effect.Valid -/
def m35 : MC := (.seq (.ops [⟨some 1, .box 24 (.tmp 0), 0, none⟩, ⟨some 2, .assign (.const (.bool false)), 4, none⟩])
    (.seq (.seq (.ops [⟨some 3, .fieldAddr 24 (.tmp 1) 0, 0, none⟩, ⟨some 4, .load 3 (.tmp 3), 3, none⟩, ⟨some 5, .call { callee := .value (.func 53), args := #[.tmp 4, .const (.int .i64 1), .const (.int .i64 7)], argTypes := #[3, 3, 3] }, 4, none⟩, ⟨some 6, .unOp .not 4 (.tmp 5), 4, none⟩, ⟨some 7, .move (.tmp 6), 4, none⟩, ⟨some 8, .fieldAddr 24 (.tmp 1) 0, 0, some (some 7, false)⟩, ⟨some 9, .load 3 (.tmp 8), 3, some (some 7, false)⟩, ⟨some 10, .binOp .eql 3 (.tmp 9) (.const (.int .i64 4)) 3, 4, some (some 7, false)⟩, ⟨some 11, .move (.tmp 10), 4, some (some 7, false)⟩, ⟨some 12, .fieldAddr 24 (.tmp 1) 2, 0, some (some 11, true)⟩, ⟨some 13, .load 22 (.tmp 12), 22, some (some 11, true)⟩, ⟨some 14, .call { callee := .value (.func 71), args := #[.tmp 13], argTypes := #[22] }, 4, some (some 11, true)⟩, ⟨some 15, .unOp .not 4 (.tmp 14), 4, some (some 11, true)⟩, ⟨some 16, .pick (.tmp 11) (.tmp 15) (.const (.bool false)), 4, some (some 7, false)⟩, ⟨some 17, .pick (.tmp 7) (.const (.bool true)) (.tmp 16), 4, none⟩, ⟨some 18, .move (.tmp 17), 4, none⟩, ⟨some 19, .fieldAddr 24 (.tmp 1) 0, 0, some (some 18, false)⟩, ⟨some 20, .load 3 (.tmp 19), 3, some (some 18, false)⟩, ⟨some 21, .binOp .neq 3 (.tmp 20) (.const (.int .i64 4)) 3, 4, some (some 18, false)⟩, ⟨some 22, .move (.tmp 21), 4, some (some 18, false)⟩, ⟨some 23, .fieldAddr 24 (.tmp 1) 2, 0, some (some 22, true)⟩, ⟨some 24, .load 22 (.tmp 23), 22, some (some 22, true)⟩, ⟨some 25, .call { callee := .builtin .len, args := #[.tmp 24], argTypes := #[22] }, 3, some (some 22, true)⟩, ⟨some 26, .binOp .gtr 3 (.tmp 25) (.const (.int .i64 0)) 3, 4, some (some 22, true)⟩, ⟨some 27, .pick (.tmp 22) (.tmp 26) (.const (.bool false)), 4, some (some 18, false)⟩, ⟨some 28, .pick (.tmp 18) (.const (.bool true)) (.tmp 27), 4, none⟩])
    (.cond (.tmp 28) (.seq (.ops [⟨some 2, .assign (.const (.bool false)), 4, none⟩])
    .ret) .skip))
    (.seq (.draw (.take ⟨some 29, .fieldAddr 24 (.tmp 1) 1, 0, none⟩ (.take ⟨some 30, .load 22 (.tmp 29), 22, none⟩ (.take ⟨some 31, .fieldAddr 24 (.tmp 1) 0, 0, none⟩ (.take ⟨some 32, .load 3 (.tmp 31), 3, none⟩ (.alt ⟨some 33, .call { callee := .value (.func 73), args := #[.tmp 32], argTypes := #[3] }, 132, none⟩ (.alt ⟨some 34, .call { callee := .value (.func 72), args := #[.tmp 30, .tmp 33, .func 74], argTypes := #[22, 132, 135] }, 4, none⟩ (.take ⟨some 2, .assign (.tmp 34), 4, none⟩ .done) .none) .none))))))
    .ret)))
def pl35 : Nat → Plan := fun id => if id = 3 then (.take 0 (.take 1 (.take 2 (.take 3 (.alt 4 (.alt 5 (.take 6 .done) .none) .none))))) else .done
theorem st35 : Go.Proofs.Tryz.f35.body.map (strip pl35) = some m35 := by kernel_rfl
theorem ok35 : okB pl35 Go.Proofs.Tryz.f35 1 = true := by kernel_rfl
theorem en35 {v0 w} {Q : Value → World → Prop} (h : mwpB Go.Proofs.Tryz.prog m35 (argEnv [v0]) [] w (fun e ds w => ds = [] ∧ resW Go.Proofs.Tryz.prog [.tmp 2] e w fun v => Q v w) (fun _ _ _ _ => False) (fun e ds w => ds = [] ∧ resW Go.Proofs.Tryz.prog [.tmp 2] e w fun v => Q v w) (fun _ _ _ _ => False) ⟨⟩) : Rets Go.Proofs.Tryz.prog 35 #[v0] w Q :=
  rets_of_mwp follows_mo Go.Proofs.Tryz.func35 pl35 st35 ok35 (by kernel_rfl) h
/-- continuo/effect.unit -/
def m36 : MC := (.seq (.ops [⟨some 1, .box 24 (.tmp 0), 0, none⟩, ⟨some 2, .assign (.const (.pointer none)), 27, none⟩])
    (.seq (.draw (.take ⟨some 3, .load 24 (.tmp 1), 24, none⟩ (.take ⟨some 5, .load 24 (.tmp 1), 24, none⟩ (.alt ⟨some 4, .call { callee := .value (.func 48), args := #[.tmp 3], argTypes := #[24] }, 78, none⟩ (.alt ⟨some 6, .call { callee := .value (.func 75), args := #[.tmp 5], argTypes := #[24] }, 24, none⟩ (.take ⟨some 7, .build 80 #[(0, .tmp 4), (1, .tmp 6)], 80, none⟩ (.alt ⟨some 8, .box 80 (.tmp 7), 27, none⟩ (.take ⟨some 2, .assign (.tmp 8), 27, none⟩ .done) .none)) .none) .none))))
    .ret))
def pl36 : Nat → Plan := fun id => if id = 1 then (.take 0 (.take 2 (.alt 1 (.alt 3 (.take 4 (.alt 5 (.take 6 .done) .none)) .none) .none))) else .done
theorem st36 : Go.Proofs.Tryz.f36.body.map (strip pl36) = some m36 := by kernel_rfl
theorem ok36 : okB pl36 Go.Proofs.Tryz.f36 1 = true := by kernel_rfl
theorem en36 {v0 w} {Q : Value → World → Prop} (h : mwpB Go.Proofs.Tryz.prog m36 (argEnv [v0]) [] w (fun e ds w => ds = [] ∧ resW Go.Proofs.Tryz.prog [.tmp 2] e w fun v => Q v w) (fun _ _ _ _ => False) (fun e ds w => ds = [] ∧ resW Go.Proofs.Tryz.prog [.tmp 2] e w fun v => Q v w) (fun _ _ _ _ => False) ⟨⟩) : Rets Go.Proofs.Tryz.prog 36 #[v0] w Q :=
  rets_of_mwp follows_mo Go.Proofs.Tryz.func36 pl36 st36 ok36 (by kernel_rfl) h
/-- continuo/effect.samples -/
def m37 : MC := (.seq (.ops [⟨some 2, .assign (.const (.bool false)), 4, none⟩])
    (.seq (.ops [⟨some 3, .move (.tmp 0), 22, none⟩, ⟨some 4, .call { callee := .builtin .len, args := #[.tmp 3], argTypes := #[22] }, 3, none⟩, ⟨some 5, .binOp .leq 3 (.tmp 4) (.const (.int .i64 4096)) 3, 4, none⟩, ⟨some 6, .move (.tmp 5), 4, none⟩, ⟨some 7, .move (.tmp 0), 22, some (some 6, true)⟩, ⟨some 8, .call { callee := .value (.func 76), args := #[.tmp 7, .func 77], argTypes := #[22, 138] }, 4, some (some 6, true)⟩, ⟨some 9, .unOp .not 4 (.tmp 8), 4, some (some 6, true)⟩, ⟨some 10, .pick (.tmp 6) (.tmp 9) (.const (.bool false)), 4, none⟩, ⟨some 2, .assign (.tmp 10), 4, none⟩])
    .ret))
def pl37 : Nat → Plan := fun _ => .done
theorem st37 : Go.Proofs.Tryz.f37.body.map (strip pl37) = some m37 := by kernel_rfl
theorem ok37 : okB pl37 Go.Proofs.Tryz.f37 1 = true := by kernel_rfl
theorem en37 {v0 w} {Q : Value → World → Prop} (h : mwpB Go.Proofs.Tryz.prog m37 (argEnv [v0]) [] w (fun e ds w => ds = [] ∧ resW Go.Proofs.Tryz.prog [.tmp 2] e w fun v => Q v w) (fun _ _ _ _ => False) (fun e ds w => ds = [] ∧ resW Go.Proofs.Tryz.prog [.tmp 2] e w fun v => Q v w) (fun _ _ _ _ => False) ⟨⟩) : Rets Go.Proofs.Tryz.prog 37 #[v0] w Q :=
  rets_of_mwp follows_mo Go.Proofs.Tryz.func37 pl37 st37 ok37 (by kernel_rfl) h
/-- continuo/effect.text -/
def m38 : MC := (.seq (.ops [⟨some 2, .assign (.const (.string { data := #[] })), 9, none⟩])
    (.seq (.ops [⟨some 6, .call { callee := .value (.func 64), args := #[], argTypes := #[] }, 123, none⟩, ⟨some 5, .move (.tmp 6), 123, none⟩, ⟨some 7, .extract (.tmp 5) 0, 121, none⟩, ⟨some 8, .extract (.tmp 5) 1, 33, none⟩, ⟨some 3, .assign (.tmp 7), 121, none⟩, ⟨some 4, .assign (.tmp 8), 33, none⟩])
    (.seq (.ops [⟨some 9, .move (.tmp 3), 121, none⟩, ⟨some 10, .move (.tmp 0), 27, none⟩, ⟨some 11, .call { callee := .value (.func 66), args := #[.tmp 10], argTypes := #[27] }, 22, none⟩, ⟨some 12, .call { callee := .value (.tmp 9), args := #[.tmp 11], argTypes := #[22] }, 0, none⟩])
    (.seq (.ops [⟨some 13, .move (.tmp 4), 33, none⟩, ⟨some 14, .call { callee := .value (.tmp 13), args := #[], argTypes := #[] }, 9, none⟩, ⟨some 2, .assign (.tmp 14), 9, none⟩])
    .ret))))
def pl38 : Nat → Plan := fun _ => .done
theorem st38 : Go.Proofs.Tryz.f38.body.map (strip pl38) = some m38 := by kernel_rfl
theorem ok38 : okB pl38 Go.Proofs.Tryz.f38 1 = true := by kernel_rfl
theorem en38 {v0 w} {Q : Value → World → Prop} (h : mwpB Go.Proofs.Tryz.prog m38 (argEnv [v0]) [] w (fun e ds w => ds = [] ∧ resW Go.Proofs.Tryz.prog [.tmp 2] e w fun v => Q v w) (fun _ _ _ _ => False) (fun e ds w => ds = [] ∧ resW Go.Proofs.Tryz.prog [.tmp 2] e w fun v => Q v w) (fun _ _ _ _ => False) ⟨⟩) : Rets Go.Proofs.Tryz.prog 38 #[v0] w Q :=
  rets_of_mwp follows_mo Go.Proofs.Tryz.func38 pl38 st38 ok38 (by kernel_rfl) h
/-- continuo/effect.split -/
def m40 : MC := (.seq (.ops [⟨some 2, .assign (.const (.slice none 0 0)), 85, none⟩])
    (.seq (.ops [⟨some 3, .move (.tmp 0), 9, none⟩, ⟨some 4, .call { callee := .value (.func 78), args := #[.tmp 3, .const (.string { data := #[32] })], argTypes := #[9, 9] }, 85, none⟩, ⟨some 2, .assign (.tmp 4), 85, none⟩])
    .ret))
def pl40 : Nat → Plan := fun _ => .done
theorem st40 : Go.Proofs.Tryz.f40.body.map (strip pl40) = some m40 := by kernel_rfl
theorem ok40 : okB pl40 Go.Proofs.Tryz.f40 1 = true := by kernel_rfl
theorem en40 {v0 w} {Q : Value → World → Prop} (h : mwpB Go.Proofs.Tryz.prog m40 (argEnv [v0]) [] w (fun e ds w => ds = [] ∧ resW Go.Proofs.Tryz.prog [.tmp 2] e w fun v => Q v w) (fun _ _ _ _ => False) (fun e ds w => ds = [] ∧ resW Go.Proofs.Tryz.prog [.tmp 2] e w fun v => Q v w) (fun _ _ _ _ => False) ⟨⟩) : Rets Go.Proofs.Tryz.prog 40 #[v0] w Q :=
  rets_of_mwp follows_mo Go.Proofs.Tryz.func40 pl40 st40 ok40 (by kernel_rfl) h
/-- (*continuo/effect.scanner).unit -/
def m41 : MC := (.seq (.ops [⟨some 4, .assign (.const (.slice none 0 0)), 22, none⟩])
    (.seq (.draw (.take ⟨some 5, .move (.tmp 0), 84, none⟩ (.take ⟨some 6, .move (.tmp 1), 27, none⟩ (.take ⟨some 7, .nilCheck (.tmp 6), 0, none⟩ (.take ⟨some 8, .fieldAddr 80 (.tmp 7) 1, 0, none⟩ (.take ⟨some 9, .fieldAddr 24 (.tmp 8) 0, 0, none⟩ (.take ⟨some 10, .load 3 (.tmp 9), 3, none⟩ (.take ⟨some 11, .move (.tmp 1), 27, none⟩ (.take ⟨some 12, .nilCheck (.tmp 11), 0, none⟩ (.take ⟨some 13, .fieldAddr 80 (.tmp 12) 1, 0, none⟩ (.take ⟨some 14, .fieldAddr 24 (.tmp 13) 1, 0, none⟩ (.take ⟨some 15, .load 22 (.tmp 14), 22, none⟩ (.take ⟨some 16, .call { callee := .builtin .len, args := #[.tmp 15], argTypes := #[22] }, 3, none⟩ (.take ⟨some 17, .move (.tmp 1), 27, none⟩ (.take ⟨some 18, .nilCheck (.tmp 17), 0, none⟩ (.take ⟨some 19, .fieldAddr 80 (.tmp 18) 1, 0, none⟩ (.take ⟨some 20, .fieldAddr 24 (.tmp 19) 2, 0, none⟩ (.take ⟨some 21, .load 22 (.tmp 20), 22, none⟩ (.take ⟨some 22, .call { callee := .builtin .len, args := #[.tmp 21], argTypes := #[22] }, 3, none⟩ (.alt ⟨some 23, .buildSlice 22 3 #[(0, .tmp 10), (1, .tmp 16), (2, .tmp 22)], 22, none⟩ (.alt ⟨some 24, .call { callee := .value (.func 61), args := #[.tmp 5, .tmp 23], argTypes := #[84, 22] }, 0, none⟩ .done .none) .none))))))))))))))))))))
    (.seq (.ops [⟨some 25, .move (.tmp 0), 84, none⟩, ⟨some 26, .move (.tmp 1), 27, none⟩, ⟨some 27, .nilCheck (.tmp 26), 0, none⟩, ⟨some 28, .fieldAddr 80 (.tmp 27) 1, 0, none⟩, ⟨some 29, .fieldAddr 24 (.tmp 28) 1, 0, none⟩, ⟨some 30, .load 22 (.tmp 29), 22, none⟩, ⟨some 31, .call { callee := .value (.func 61), args := #[.tmp 25, .tmp 30], argTypes := #[84, 22] }, 0, none⟩])
    (.seq (.ops [⟨some 32, .move (.tmp 0), 84, none⟩, ⟨some 33, .move (.tmp 1), 27, none⟩, ⟨some 34, .nilCheck (.tmp 33), 0, none⟩, ⟨some 35, .fieldAddr 80 (.tmp 34) 1, 0, none⟩, ⟨some 36, .fieldAddr 24 (.tmp 35) 2, 0, none⟩, ⟨some 37, .load 22 (.tmp 36), 22, none⟩, ⟨some 38, .call { callee := .value (.func 61), args := #[.tmp 32, .tmp 37], argTypes := #[84, 22] }, 0, none⟩])
    (.seq (.ops [⟨some 39, .move (.tmp 0), 84, none⟩, ⟨some 40, .move (.tmp 1), 27, none⟩, ⟨some 41, .nilCheck (.tmp 40), 0, none⟩, ⟨some 42, .fieldAddr 80 (.tmp 41) 0, 0, none⟩, ⟨some 43, .load 78 (.tmp 42), 78, none⟩, ⟨some 44, .call { callee := .invoke (.tmp 43) "continuo/effect.state", args := #[], argTypes := #[] }, 22, none⟩, ⟨some 45, .call { callee := .builtin .len, args := #[.tmp 44], argTypes := #[22] }, 3, none⟩, ⟨some 46, .call { callee := .value (.func 62), args := #[.tmp 39, .tmp 45], argTypes := #[84, 3] }, 22, none⟩, ⟨some 4, .assign (.tmp 46), 22, none⟩])
    .ret)))))
def pl41 : Nat → Plan := fun id => if id = 1 then (.take 0 (.take 1 (.take 2 (.take 3 (.take 4 (.take 5 (.take 6 (.take 7 (.take 8 (.take 9 (.take 10 (.take 11 (.take 12 (.take 13 (.take 14 (.take 15 (.take 16 (.take 17 (.alt 18 (.alt 19 .done .none) .none))))))))))))))))))) else .done
theorem st41 : Go.Proofs.Tryz.f41.body.map (strip pl41) = some m41 := by kernel_rfl
theorem ok41 : okB pl41 Go.Proofs.Tryz.f41 2 = true := by kernel_rfl
theorem ex41 {v0 v1 w} {Q : Value → World → Prop} {X : List PanicEntry → World → Prop} (h : mwpB Go.Proofs.Tryz.prog m41 (argEnv [v0, v1]) [] w (fun e ds w => ds = [] ∧ resW Go.Proofs.Tryz.prog [.tmp 4] e w fun v => Q v w) (fun _ _ _ _ => False) (fun e ds w => ds = [] ∧ resW Go.Proofs.Tryz.prog [.tmp 4] e w fun v => Q v w) (fun _ ch ds w => ds = [] ∧ X ch w) ⟨⟩) : Ends Go.Proofs.Tryz.prog 41 #[v0, v1] w Q X :=
  ends_of_mwp follows_mo Go.Proofs.Tryz.func41 pl41 st41 ok41 (by kernel_rfl) h
/-- (*continuo/effect.scanner).end -/
def m42 : MC := (.seq (.ops [⟨some 2, .move (.tmp 0), 84, none⟩, ⟨some 3, .nilCheck (.tmp 2), 0, none⟩, ⟨some 4, .fieldAddr 88 (.tmp 3) 0, 0, none⟩, ⟨some 5, .load 85 (.tmp 4), 85, none⟩, ⟨some 6, .call { callee := .builtin .len, args := #[.tmp 5], argTypes := #[85] }, 3, none⟩, ⟨some 7, .binOp .gtr 3 (.tmp 6) (.const (.int .i64 0)) 3, 4, none⟩])
    (.cond (.tmp 7) (.ops [⟨some 8, .build 140 #[], 140, none⟩, ⟨some 9, .makeInterface 140 (.tmp 8), 20, none⟩, ⟨none, .panic (.tmp 9), 0, none⟩]) .skip))
def pl42 : Nat → Plan := fun _ => .done
theorem st42 : Go.Proofs.Tryz.f42.body.map (strip pl42) = some m42 := by kernel_rfl
theorem ok42 : okB pl42 Go.Proofs.Tryz.f42 1 = true := by kernel_rfl
theorem ex42 {v0 w} {Q : Value → World → Prop} {X : List PanicEntry → World → Prop} (h : mwpB Go.Proofs.Tryz.prog m42 (argEnv [v0]) [] w (fun e ds w => ds = [] ∧ resW Go.Proofs.Tryz.prog [] e w fun v => Q v w) (fun _ _ _ _ => False) (fun e ds w => ds = [] ∧ resW Go.Proofs.Tryz.prog [] e w fun v => Q v w) (fun _ ch ds w => ds = [] ∧ X ch w) ⟨⟩) : Ends Go.Proofs.Tryz.prog 42 #[v0] w Q X :=
  ends_of_mwp follows_mo Go.Proofs.Tryz.func42 pl42 st42 ok42 (by kernel_rfl) h
/-- continuo/continuoref31.Valid -/
def m43 : MC := (.seq (.ops [⟨some 1, .box 24 (.tmp 0), 0, none⟩, ⟨some 2, .assign (.const (.bool false)), 4, none⟩])
    (.seq (.seq (.ops [⟨some 4, .fieldAddr 24 (.tmp 1) 0, 0, none⟩, ⟨some 5, .load 3 (.tmp 4), 3, none⟩, ⟨some 6, .binOp .eql 3 (.tmp 5) (.const (.int .i64 4)) 3, 4, none⟩])
    (.cond (.tmp 6) (.seq (.ops [⟨some 7, .fieldAddr 24 (.tmp 1) 1, 0, none⟩, ⟨some 8, .load 22 (.tmp 7), 22, none⟩, ⟨some 9, .call { callee := .builtin .len, args := #[.tmp 8], argTypes := #[22] }, 3, none⟩, ⟨some 10, .binOp .eql 3 (.tmp 9) (.const (.int .i64 0)) 3, 4, none⟩, ⟨some 11, .move (.tmp 10), 4, none⟩, ⟨some 12, .fieldAddr 24 (.tmp 1) 2, 0, some (some 11, true)⟩, ⟨some 13, .load 22 (.tmp 12), 22, some (some 11, true)⟩, ⟨some 14, .call { callee := .value (.func 79), args := #[.tmp 13], argTypes := #[22] }, 4, some (some 11, true)⟩, ⟨some 15, .pick (.tmp 11) (.tmp 14) (.const (.bool false)), 4, none⟩, ⟨some 2, .assign (.tmp 15), 4, none⟩])
    .ret) .skip))
    (.seq (.seq (.ops [⟨some 16, .fieldAddr 24 (.tmp 1) 2, 0, none⟩, ⟨some 17, .load 22 (.tmp 16), 22, none⟩, ⟨some 18, .call { callee := .builtin .len, args := #[.tmp 17], argTypes := #[22] }, 3, none⟩, ⟨some 19, .binOp .gtr 3 (.tmp 18) (.const (.int .i64 0)) 3, 4, none⟩])
    (.cond (.tmp 19) (.seq (.ops [⟨some 2, .assign (.const (.bool false)), 4, none⟩])
    .ret) .skip))
    (.seq (.ops [⟨some 20, .fieldAddr 24 (.tmp 1) 1, 0, none⟩, ⟨some 21, .load 22 (.tmp 20), 22, none⟩, ⟨some 3, .assign (.tmp 21), 22, none⟩])
    (.seq (.seq (.ops [⟨some 22, .fieldAddr 24 (.tmp 1) 0, 0, none⟩, ⟨some 23, .load 3 (.tmp 22), 3, none⟩])
    (.block 0 (.seq (.ops [⟨some 25, .binOp .eql 3 (.tmp 23) (.const (.int .i64 1)) 3, 4, none⟩, ⟨some 24, .assign (.tmp 25), 4, none⟩])
    (.cond (.tmp 24) (.seq (.ops [⟨some 26, .move (.tmp 3), 22, none⟩, ⟨some 27, .call { callee := .builtin .len, args := #[.tmp 26], argTypes := #[22] }, 3, none⟩, ⟨some 28, .binOp .eql 3 (.tmp 27) (.const (.int .i64 1)) 3, 4, none⟩, ⟨some 29, .move (.tmp 28), 4, none⟩, ⟨some 30, .move (.tmp 3), 22, some (some 29, true)⟩, ⟨some 31, .indexAddr 22 (.tmp 30) (.const (.int .i64 0)), 0, some (some 29, true)⟩, ⟨some 32, .load 3 (.tmp 31), 3, some (some 29, true)⟩, ⟨some 33, .call { callee := .value (.func 80), args := #[.tmp 32, .const (.int .i64 0), .const (.int .i64 655360)], argTypes := #[3, 3, 3] }, 4, some (some 29, true)⟩, ⟨some 34, .pick (.tmp 29) (.tmp 33) (.const (.bool false)), 4, none⟩, ⟨some 2, .assign (.tmp 34), 4, none⟩])
    .ret) (.seq (.ops [⟨some 36, .binOp .eql 3 (.tmp 23) (.const (.int .i64 2)) 3, 4, none⟩, ⟨some 35, .assign (.tmp 36), 4, none⟩])
    (.cond (.tmp 35) (.seq (.ops [⟨some 37, .move (.tmp 3), 22, none⟩, ⟨some 38, .call { callee := .builtin .len, args := #[.tmp 37], argTypes := #[22] }, 3, none⟩, ⟨some 39, .binOp .eql 3 (.tmp 38) (.const (.int .i64 1)) 3, 4, none⟩, ⟨some 40, .move (.tmp 39), 4, none⟩, ⟨some 41, .move (.tmp 3), 22, some (some 40, true)⟩, ⟨some 42, .indexAddr 22 (.tmp 41) (.const (.int .i64 0)), 0, some (some 40, true)⟩, ⟨some 43, .load 3 (.tmp 42), 3, some (some 40, true)⟩, ⟨some 44, .call { callee := .value (.func 80), args := #[.tmp 43, .const (.int .i64 0), .const (.int .i64 4096)], argTypes := #[3, 3, 3] }, 4, some (some 40, true)⟩, ⟨some 45, .pick (.tmp 40) (.tmp 44) (.const (.bool false)), 4, none⟩, ⟨some 2, .assign (.tmp 45), 4, none⟩])
    .ret) (.seq (.ops [⟨some 47, .binOp .eql 3 (.tmp 23) (.const (.int .i64 3)) 3, 4, none⟩, ⟨some 46, .assign (.tmp 47), 4, none⟩])
    (.cond (.tmp 46) (.seq (.ops [⟨some 48, .move (.tmp 3), 22, none⟩, ⟨some 49, .call { callee := .builtin .len, args := #[.tmp 48], argTypes := #[22] }, 3, none⟩, ⟨some 50, .binOp .eql 3 (.tmp 49) (.const (.int .i64 2)) 3, 4, none⟩, ⟨some 51, .move (.tmp 50), 4, none⟩, ⟨some 52, .move (.tmp 3), 22, some (some 51, true)⟩, ⟨some 53, .indexAddr 22 (.tmp 52) (.const (.int .i64 0)), 0, some (some 51, true)⟩, ⟨some 54, .load 3 (.tmp 53), 3, some (some 51, true)⟩, ⟨some 55, .call { callee := .value (.func 80), args := #[.tmp 54, .const (.int .i64 1), .const (.int .i64 4096)], argTypes := #[3, 3, 3] }, 4, some (some 51, true)⟩, ⟨some 56, .pick (.tmp 51) (.tmp 55) (.const (.bool false)), 4, none⟩, ⟨some 57, .move (.tmp 56), 4, none⟩, ⟨some 58, .move (.tmp 3), 22, some (some 57, true)⟩, ⟨some 59, .indexAddr 22 (.tmp 58) (.const (.int .i64 1)), 0, some (some 57, true)⟩, ⟨some 60, .load 3 (.tmp 59), 3, some (some 57, true)⟩, ⟨some 61, .call { callee := .value (.func 80), args := #[.tmp 60, .const (.int .i64 (-65536)), .const (.int .i64 65536)], argTypes := #[3, 3, 3] }, 4, some (some 57, true)⟩, ⟨some 62, .pick (.tmp 57) (.tmp 61) (.const (.bool false)), 4, none⟩, ⟨some 2, .assign (.tmp 62), 4, none⟩])
    .ret) (.seq (.ops [⟨some 64, .binOp .eql 3 (.tmp 23) (.const (.int .i64 5)) 3, 4, none⟩, ⟨some 63, .assign (.tmp 64), 4, none⟩])
    (.cond (.tmp 63) (.seq (.ops [⟨some 65, .move (.tmp 3), 22, none⟩, ⟨some 66, .call { callee := .builtin .len, args := #[.tmp 65], argTypes := #[22] }, 3, none⟩, ⟨some 67, .binOp .eql 3 (.tmp 66) (.const (.int .i64 4)) 3, 4, none⟩, ⟨some 68, .move (.tmp 67), 4, none⟩, ⟨some 69, .move (.tmp 3), 22, some (some 68, true)⟩, ⟨some 70, .call { callee := .value (.func 81), args := #[.tmp 69], argTypes := #[22] }, 4, some (some 68, true)⟩, ⟨some 71, .pick (.tmp 68) (.tmp 70) (.const (.bool false)), 4, none⟩, ⟨some 2, .assign (.tmp 71), 4, none⟩])
    .ret) (.seq (.ops [⟨some 73, .binOp .eql 3 (.tmp 23) (.const (.int .i64 6)) 3, 4, none⟩, ⟨some 72, .assign (.tmp 73), 4, none⟩])
    (.cond (.tmp 72) (.seq (.ops [⟨some 74, .move (.tmp 3), 22, none⟩, ⟨some 75, .call { callee := .builtin .len, args := #[.tmp 74], argTypes := #[22] }, 3, none⟩, ⟨some 76, .binOp .eql 3 (.tmp 75) (.const (.int .i64 2)) 3, 4, none⟩, ⟨some 77, .move (.tmp 76), 4, none⟩, ⟨some 78, .move (.tmp 3), 22, some (some 77, true)⟩, ⟨some 79, .indexAddr 22 (.tmp 78) (.const (.int .i64 0)), 0, some (some 77, true)⟩, ⟨some 80, .load 3 (.tmp 79), 3, some (some 77, true)⟩, ⟨some 81, .call { callee := .value (.func 80), args := #[.tmp 80, .const (.int .i64 0), .const (.int .i64 8388607)], argTypes := #[3, 3, 3] }, 4, some (some 77, true)⟩, ⟨some 82, .pick (.tmp 77) (.tmp 81) (.const (.bool false)), 4, none⟩, ⟨some 83, .move (.tmp 82), 4, none⟩, ⟨some 84, .move (.tmp 3), 22, some (some 83, true)⟩, ⟨some 85, .indexAddr 22 (.tmp 84) (.const (.int .i64 1)), 0, some (some 83, true)⟩, ⟨some 86, .load 3 (.tmp 85), 3, some (some 83, true)⟩, ⟨some 87, .call { callee := .value (.func 80), args := #[.tmp 86, .const (.int .i64 0), .const (.int .i64 4096)], argTypes := #[3, 3, 3] }, 4, some (some 83, true)⟩, ⟨some 88, .pick (.tmp 83) (.tmp 87) (.const (.bool false)), 4, none⟩, ⟨some 2, .assign (.tmp 88), 4, none⟩])
    .ret) (.seq (.ops [⟨some 90, .binOp .eql 3 (.tmp 23) (.const (.int .i64 7)) 3, 4, none⟩, ⟨some 89, .assign (.tmp 90), 4, none⟩])
    (.cond (.tmp 89) (.seq (.ops [⟨some 91, .move (.tmp 3), 22, none⟩, ⟨some 92, .call { callee := .builtin .len, args := #[.tmp 91], argTypes := #[22] }, 3, none⟩, ⟨some 93, .binOp .eql 3 (.tmp 92) (.const (.int .i64 5)) 3, 4, none⟩, ⟨some 94, .move (.tmp 93), 4, none⟩, ⟨some 95, .move (.tmp 3), 22, some (some 94, true)⟩, ⟨some 96, .call { callee := .value (.func 81), args := #[.tmp 95], argTypes := #[22] }, 4, some (some 94, true)⟩, ⟨some 97, .pick (.tmp 94) (.tmp 96) (.const (.bool false)), 4, none⟩, ⟨some 98, .move (.tmp 97), 4, none⟩, ⟨some 99, .move (.tmp 3), 22, some (some 98, true)⟩, ⟨some 100, .indexAddr 22 (.tmp 99) (.const (.int .i64 4)), 0, some (some 98, true)⟩, ⟨some 101, .load 3 (.tmp 100), 3, some (some 98, true)⟩, ⟨some 102, .call { callee := .value (.func 80), args := #[.tmp 101, .const (.int .i64 0), .const (.int .i64 512)], argTypes := #[3, 3, 3] }, 4, some (some 98, true)⟩, ⟨some 103, .pick (.tmp 98) (.tmp 102) (.const (.bool false)), 4, none⟩, ⟨some 2, .assign (.tmp 103), 4, none⟩])
    .ret) .skip))))))))))))))
    (.seq (.ops [⟨some 2, .assign (.const (.bool false)), 4, none⟩])
    .ret))))))
def pl43 : Nat → Plan := fun _ => .done
theorem st43 : Go.Proofs.Tryz.f43.body.map (strip pl43) = some m43 := by kernel_rfl
theorem ok43 : okB pl43 Go.Proofs.Tryz.f43 1 = true := by kernel_rfl
theorem en43 {v0 w} {Q : Value → World → Prop} (h : mwpB Go.Proofs.Tryz.prog m43 (argEnv [v0]) [] w (fun e ds w => ds = [] ∧ resW Go.Proofs.Tryz.prog [.tmp 2] e w fun v => Q v w) (fun _ _ _ _ => False) (fun e ds w => ds = [] ∧ resW Go.Proofs.Tryz.prog [.tmp 2] e w fun v => Q v w) (fun _ _ _ _ => False) ⟨⟩) : Rets Go.Proofs.Tryz.prog 43 #[v0] w Q :=
  rets_of_mwp follows_mo Go.Proofs.Tryz.func43 pl43 st43 ok43 (by kernel_rfl) h
/-- continuo/continuoref31.reach -/
def m44 : MC := (.seq (.ops [⟨some 1, .box 24 (.tmp 0), 0, none⟩, ⟨some 2, .assign (.const (.int .i64 0)), 3, none⟩])
    (.seq (.seq (.ops [⟨some 3, .fieldAddr 24 (.tmp 1) 0, 0, none⟩, ⟨some 4, .load 3 (.tmp 3), 3, none⟩])
    (.block 0 (.seq (.seq (.ops [⟨some 6, .binOp .eql 3 (.tmp 4) (.const (.int .i64 2)) 3, 4, none⟩, ⟨some 5, .assign (.tmp 6), 4, none⟩])
    (.cond (.tmp 5) .skip (.ops [⟨some 7, .binOp .eql 3 (.tmp 4) (.const (.int .i64 3)) 3, 4, none⟩, ⟨some 5, .assign (.tmp 7), 4, none⟩])))
    (.cond (.tmp 5) (.seq (.ops [⟨some 8, .fieldAddr 24 (.tmp 1) 1, 0, none⟩, ⟨some 9, .load 22 (.tmp 8), 22, none⟩, ⟨some 10, .indexAddr 22 (.tmp 9) (.const (.int .i64 0)), 0, none⟩, ⟨some 11, .load 3 (.tmp 10), 3, none⟩, ⟨some 2, .assign (.tmp 11), 3, none⟩])
    .ret) (.seq (.ops [⟨some 13, .binOp .eql 3 (.tmp 4) (.const (.int .i64 4)) 3, 4, none⟩, ⟨some 12, .assign (.tmp 13), 4, none⟩])
    (.cond (.tmp 12) (.seq (.ops [⟨some 14, .fieldAddr 24 (.tmp 1) 2, 0, none⟩, ⟨some 15, .load 22 (.tmp 14), 22, none⟩, ⟨some 16, .call { callee := .builtin .len, args := #[.tmp 15], argTypes := #[22] }, 3, none⟩, ⟨some 17, .binOp .sub 3 (.tmp 16) (.const (.int .i64 1)) 3, 3, none⟩, ⟨some 2, .assign (.tmp 17), 3, none⟩])
    .ret) (.seq (.ops [⟨some 19, .binOp .eql 3 (.tmp 4) (.const (.int .i64 7)) 3, 4, none⟩, ⟨some 18, .assign (.tmp 19), 4, none⟩])
    (.cond (.tmp 18) (.seq (.ops [⟨some 20, .fieldAddr 24 (.tmp 1) 1, 0, none⟩, ⟨some 21, .load 22 (.tmp 20), 22, none⟩, ⟨some 22, .indexAddr 22 (.tmp 21) (.const (.int .i64 4)), 0, none⟩, ⟨some 23, .load 3 (.tmp 22), 3, none⟩, ⟨some 2, .assign (.tmp 23), 3, none⟩])
    .ret) .skip))))))))
    (.seq (.ops [⟨some 2, .assign (.const (.int .i64 0)), 3, none⟩])
    .ret)))
def pl44 : Nat → Plan := fun _ => .done
theorem st44 : Go.Proofs.Tryz.f44.body.map (strip pl44) = some m44 := by kernel_rfl
theorem ok44 : okB pl44 Go.Proofs.Tryz.f44 1 = true := by kernel_rfl
theorem en44 {v0 w} {Q : Value → World → Prop} (h : mwpB Go.Proofs.Tryz.prog m44 (argEnv [v0]) [] w (fun e ds w => ds = [] ∧ resW Go.Proofs.Tryz.prog [.tmp 2] e w fun v => Q v w) (fun _ _ _ _ => False) (fun e ds w => ds = [] ∧ resW Go.Proofs.Tryz.prog [.tmp 2] e w fun v => Q v w) (fun _ _ _ _ => False) ⟨⟩) : Rets Go.Proofs.Tryz.prog 44 #[v0] w Q :=
  rets_of_mwp follows_mo Go.Proofs.Tryz.func44 pl44 st44 ok44 (by kernel_rfl) h
end Go.Proofs.YtefcfnmmpnjjjaaGreatDoor
