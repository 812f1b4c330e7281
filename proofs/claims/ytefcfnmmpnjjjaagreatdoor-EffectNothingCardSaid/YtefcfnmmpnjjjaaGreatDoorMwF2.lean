/- The functions, stripped. -/
import Derived.Test.YtefcfnmmpnjjjaaGreatDoorMwT
import Derived.Test.YtefcfnmmpnjjjaaGreatDoorMwOps
namespace Go.Proofs.YtefcfnmmpnjjjaaGreatDoor
open Go.RowKit
set_option maxRecDepth 100000
/-- internal/strconv.formatBits -/
def m140 : MC := (.seq (.ops [⟨some 10, .assign (.const (.slice none 0 0)), 182, none⟩, ⟨some 11, .assign (.const (.string { data := #[] })), 9, none⟩])
    (.seq (.seq (.ops [⟨some 19, .move (.tmp 2), 3, none⟩, ⟨some 20, .binOp .lss 3 (.tmp 19) (.const (.int .i64 2)) 3, 4, none⟩, ⟨some 21, .move (.tmp 20), 4, none⟩, ⟨some 22, .move (.tmp 2), 3, some (some 21, false)⟩, ⟨some 23, .binOp .eql 3 (.tmp 22) (.const (.int .i64 10)) 3, 4, some (some 21, false)⟩, ⟨some 24, .pick (.tmp 21) (.const (.bool true)) (.tmp 23), 4, none⟩, ⟨some 25, .move (.tmp 24), 4, none⟩, ⟨some 26, .move (.tmp 2), 3, some (some 25, false)⟩, ⟨some 27, .binOp .gtr 3 (.tmp 26) (.const (.int .i64 36)) 3, 4, some (some 25, false)⟩, ⟨some 28, .pick (.tmp 25) (.const (.bool true)) (.tmp 27), 4, none⟩])
    (.cond (.tmp 28) (.ops [⟨some 29, .makeInterface 9 (.const (.string { data := #[115, 116, 114, 99, 111, 110, 118, 58, 32, 105, 108, 108, 101, 103, 97, 108, 32, 65, 112, 112, 101, 110, 100, 73, 110, 116, 47, 70, 111, 114, 109, 97, 116, 73, 110, 116, 32, 98, 97, 115, 101] })), 20, none⟩, ⟨none, .panic (.tmp 29), 0, none⟩]) .skip))
    (.seq (.ops [⟨some 12, .alloc 219, 0, none⟩])
    (.seq (.ops [⟨some 13, .assign (.const (.int .i64 65)), 3, none⟩])
    (.seq (.seq (.ops [⟨some 30, .move (.tmp 3), 4, none⟩])
    (.cond (.tmp 30) (.ops [⟨some 31, .move (.tmp 1), 201, none⟩, ⟨some 32, .unOp .neg 201 (.tmp 31), 201, none⟩, ⟨some 1, .assign (.tmp 32), 201, none⟩]) .skip))
    (.seq (.seq (.ops [⟨some 33, .move (.tmp 2), 3, none⟩, ⟨some 34, .call { callee := .value (.func 154), args := #[.tmp 33], argTypes := #[3] }, 4, none⟩])
    (.cond (.tmp 34) (.seq (.ops [⟨some 35, .move (.tmp 2), 3, none⟩, ⟨some 36, .convert 3 209 (.tmp 35), 209, none⟩, ⟨some 37, .call { callee := .value (.func 155), args := #[.tmp 36], argTypes := #[209] }, 3, none⟩, ⟨some 38, .convert 3 209 (.tmp 37), 209, none⟩, ⟨some 14, .assign (.tmp 38), 209, none⟩])
    (.seq (.ops [⟨some 39, .move (.tmp 2), 3, none⟩, ⟨some 40, .convert 3 201 (.tmp 39), 201, none⟩, ⟨some 15, .assign (.tmp 40), 201, none⟩])
    (.seq (.ops [⟨some 41, .move (.tmp 2), 3, none⟩, ⟨some 42, .convert 3 209 (.tmp 41), 209, none⟩, ⟨some 43, .binOp .sub 209 (.tmp 42) (.const (.int .u64 1)) 209, 209, none⟩, ⟨some 16, .assign (.tmp 43), 209, none⟩])
    (.seq (.block 0 (.loop (.seq (.seq (.ops [⟨some 44, .move (.tmp 1), 201, none⟩, ⟨some 45, .move (.tmp 15), 201, none⟩, ⟨some 46, .binOp .geq 201 (.tmp 44) (.tmp 45) 201, 4, none⟩])
    (.cond (.tmp 46) .skip (.exit 0)))
    (.block 1 (.seq (.ops [⟨some 47, .move (.tmp 13), 3, none⟩, ⟨some 48, .binOp .sub 3 (.tmp 47) (.const (.int .i64 1)) 3, 3, none⟩, ⟨some 13, .assign (.tmp 48), 3, none⟩])
    (.seq (.ops [⟨some 49, .move (.tmp 13), 3, none⟩, ⟨some 50, .move (.tmp 1), 201, none⟩, ⟨some 51, .move (.tmp 16), 209, none⟩, ⟨some 52, .binOp .and 209 (.tmp 50) (.tmp 51) 209, 209, none⟩, ⟨some 53, .index 9 (.const (.string { data := #[48, 49, 50, 51, 52, 53, 54, 55, 56, 57, 97, 98, 99, 100, 101, 102, 103, 104, 105, 106, 107, 108, 109, 110, 111, 112, 113, 114, 115, 116, 117, 118, 119, 120, 121, 122] })) (.tmp 52), 5, none⟩, ⟨some 54, .indexAddr 219 (.tmp 12) (.tmp 49), 0, none⟩, ⟨none, .store 5 (.tmp 54) (.tmp 53), 0, none⟩])
    (.ops [⟨some 55, .move (.tmp 1), 201, none⟩, ⟨some 56, .move (.tmp 14), 209, none⟩, ⟨some 57, .binOp .shr 201 (.tmp 55) (.tmp 56) 209, 201, none⟩, ⟨some 1, .assign (.tmp 57), 201, none⟩])))))))
    (.seq (.ops [⟨some 58, .move (.tmp 13), 3, none⟩, ⟨some 59, .binOp .sub 3 (.tmp 58) (.const (.int .i64 1)) 3, 3, none⟩, ⟨some 13, .assign (.tmp 59), 3, none⟩])
    (.ops [⟨some 60, .move (.tmp 13), 3, none⟩, ⟨some 61, .move (.tmp 1), 201, none⟩, ⟨some 62, .index 9 (.const (.string { data := #[48, 49, 50, 51, 52, 53, 54, 55, 56, 57, 97, 98, 99, 100, 101, 102, 103, 104, 105, 106, 107, 108, 109, 110, 111, 112, 113, 114, 115, 116, 117, 118, 119, 120, 121, 122] })) (.tmp 61), 5, none⟩, ⟨some 63, .indexAddr 219 (.tmp 12) (.tmp 60), 0, none⟩, ⟨none, .store 5 (.tmp 63) (.tmp 62), 0, none⟩])))))) (.seq (.ops [⟨some 64, .move (.tmp 2), 3, none⟩, ⟨some 65, .convert 3 201 (.tmp 64), 201, none⟩, ⟨some 17, .assign (.tmp 65), 201, none⟩])
    (.seq (.block 2 (.loop (.seq (.seq (.ops [⟨some 66, .move (.tmp 1), 201, none⟩, ⟨some 67, .move (.tmp 17), 201, none⟩, ⟨some 68, .binOp .geq 201 (.tmp 66) (.tmp 67) 201, 4, none⟩])
    (.cond (.tmp 68) .skip (.exit 2)))
    (.block 3 (.seq (.ops [⟨some 69, .move (.tmp 13), 3, none⟩, ⟨some 70, .binOp .sub 3 (.tmp 69) (.const (.int .i64 1)) 3, 3, none⟩, ⟨some 13, .assign (.tmp 70), 3, none⟩])
    (.seq (.ops [⟨some 71, .move (.tmp 1), 201, none⟩, ⟨some 72, .move (.tmp 17), 201, none⟩, ⟨some 73, .binOp .quo 201 (.tmp 71) (.tmp 72) 201, 201, none⟩, ⟨some 18, .assign (.tmp 73), 201, none⟩])
    (.seq (.ops [⟨some 74, .move (.tmp 13), 3, none⟩, ⟨some 75, .move (.tmp 1), 201, none⟩, ⟨some 76, .move (.tmp 18), 201, none⟩, ⟨some 77, .move (.tmp 17), 201, none⟩, ⟨some 78, .binOp .mul 201 (.tmp 76) (.tmp 77) 201, 201, none⟩, ⟨some 79, .binOp .sub 201 (.tmp 75) (.tmp 78) 201, 201, none⟩, ⟨some 80, .index 9 (.const (.string { data := #[48, 49, 50, 51, 52, 53, 54, 55, 56, 57, 97, 98, 99, 100, 101, 102, 103, 104, 105, 106, 107, 108, 109, 110, 111, 112, 113, 114, 115, 116, 117, 118, 119, 120, 121, 122] })) (.tmp 79), 5, none⟩, ⟨some 81, .indexAddr 219 (.tmp 12) (.tmp 74), 0, none⟩, ⟨none, .store 5 (.tmp 81) (.tmp 80), 0, none⟩])
    (.ops [⟨some 82, .move (.tmp 18), 201, none⟩, ⟨some 1, .assign (.tmp 82), 201, none⟩]))))))))
    (.seq (.ops [⟨some 83, .move (.tmp 13), 3, none⟩, ⟨some 84, .binOp .sub 3 (.tmp 83) (.const (.int .i64 1)) 3, 3, none⟩, ⟨some 13, .assign (.tmp 84), 3, none⟩])
    (.ops [⟨some 85, .move (.tmp 13), 3, none⟩, ⟨some 86, .move (.tmp 1), 201, none⟩, ⟨some 87, .index 9 (.const (.string { data := #[48, 49, 50, 51, 52, 53, 54, 55, 56, 57, 97, 98, 99, 100, 101, 102, 103, 104, 105, 106, 107, 108, 109, 110, 111, 112, 113, 114, 115, 116, 117, 118, 119, 120, 121, 122] })) (.tmp 86), 5, none⟩, ⟨some 88, .indexAddr 219 (.tmp 12) (.tmp 85), 0, none⟩, ⟨none, .store 5 (.tmp 88) (.tmp 87), 0, none⟩]))))))
    (.seq (.seq (.ops [⟨some 89, .move (.tmp 3), 4, none⟩])
    (.cond (.tmp 89) (.seq (.ops [⟨some 90, .move (.tmp 13), 3, none⟩, ⟨some 91, .binOp .sub 3 (.tmp 90) (.const (.int .i64 1)) 3, 3, none⟩, ⟨some 13, .assign (.tmp 91), 3, none⟩])
    (.ops [⟨some 92, .move (.tmp 13), 3, none⟩, ⟨some 93, .indexAddr 219 (.tmp 12) (.tmp 92), 0, none⟩, ⟨none, .store 5 (.tmp 93) (.const (.int .u8 45)), 0, none⟩])) .skip))
    (.seq (.seq (.ops [⟨some 94, .move (.tmp 4), 4, none⟩])
    (.cond (.tmp 94) (.seq (.ops [⟨some 95, .move (.tmp 0), 182, none⟩, ⟨some 96, .move (.tmp 13), 3, none⟩, ⟨some 97, .slice 219 (.tmp 12) (some (.tmp 96)) none none, 182, none⟩, ⟨some 98, .call { callee := .builtin .append, args := #[.tmp 95, .tmp 97], argTypes := #[182, 182] }, 182, none⟩, ⟨some 10, .assign (.tmp 98), 182, none⟩])
    .ret) .skip))
    (.seq (.ops [⟨some 99, .move (.tmp 13), 3, none⟩, ⟨some 100, .slice 219 (.tmp 12) (some (.tmp 99)) none none, 182, none⟩, ⟨some 101, .convert 182 9 (.tmp 100), 9, none⟩, ⟨some 11, .assign (.tmp 101), 9, none⟩])
    .ret)))))))))
def pl140 : Nat → Plan := fun _ => .done
theorem st140 : Go.Proofs.Tryz.f140.body.map (strip pl140) = some m140 := by kernel_rfl
theorem ok140 : okB pl140 Go.Proofs.Tryz.f140 5 = true := by kernel_rfl
theorem en140 {v0 v1 v2 v3 v4 w} {Q : Value → World → Prop} (h : mwpB Go.Proofs.Tryz.prog m140 (argEnv [v0, v1, v2, v3, v4]) [] w (fun e ds w => ds = [] ∧ resW Go.Proofs.Tryz.prog [.tmp 10, .tmp 11] e w fun v => Q v w) (fun _ _ _ _ => False) (fun e ds w => ds = [] ∧ resW Go.Proofs.Tryz.prog [.tmp 10, .tmp 11] e w fun v => Q v w) (fun _ _ _ => False) ⟨⟩) : Rets Go.Proofs.Tryz.prog 140 #[v0, v1, v2, v3, v4] w Q :=
  rets_of_mwp follows_mo Go.Proofs.Tryz.func140 pl140 st140 ok140 (by kernel_rfl) h
/-- unicode/utf8.decodeRuneInStringSlow -/
def m143 : MC := (.seq (.ops [⟨some 2, .assign (.const (.int .i32 0)), 21, none⟩, ⟨some 3, .assign (.const (.int .i64 0)), 3, none⟩])
    (.seq (.ops [⟨some 13, .move (.tmp 0), 9, none⟩, ⟨some 14, .call { callee := .builtin .len, args := #[.tmp 13], argTypes := #[9] }, 3, none⟩, ⟨some 4, .assign (.tmp 14), 3, none⟩])
    (.seq (.seq (.ops [⟨some 15, .move (.tmp 4), 3, none⟩, ⟨some 16, .binOp .lss 3 (.tmp 15) (.const (.int .i64 1)) 3, 4, none⟩])
    (.cond (.tmp 16) (.seq (.ops [⟨some 2, .assign (.const (.int .i32 65533)), 21, none⟩, ⟨some 3, .assign (.const (.int .i64 0)), 3, none⟩])
    .ret) .skip))
    (.seq (.ops [⟨some 17, .move (.tmp 0), 9, none⟩, ⟨some 18, .index 9 (.tmp 17) (.const (.int .i64 0)), 5, none⟩, ⟨some 5, .assign (.tmp 18), 5, none⟩])
    (.seq (.ops [⟨some 19, .move (.tmp 5), 5, none⟩, ⟨some 20, .indexAddr 221 (.global 4) (.tmp 19), 0, none⟩, ⟨some 21, .load 5 (.tmp 20), 5, none⟩, ⟨some 6, .assign (.tmp 21), 5, none⟩])
    (.seq (.seq (.ops [⟨some 22, .move (.tmp 6), 5, none⟩, ⟨some 23, .binOp .geq 5 (.tmp 22) (.const (.int .u8 240)) 5, 4, none⟩])
    (.cond (.tmp 23) (.seq (.ops [⟨some 24, .move (.tmp 6), 5, none⟩, ⟨some 25, .convert 5 21 (.tmp 24), 21, none⟩, ⟨some 26, .binOp .shl 21 (.tmp 25) (.const (.int .u64 31)) 209, 21, none⟩, ⟨some 27, .binOp .shr 21 (.tmp 26) (.const (.int .u64 31)) 209, 21, none⟩, ⟨some 7, .assign (.tmp 27), 21, none⟩])
    (.seq (.ops [⟨some 28, .move (.tmp 0), 9, none⟩, ⟨some 29, .index 9 (.tmp 28) (.const (.int .i64 0)), 5, none⟩, ⟨some 30, .convert 5 21 (.tmp 29), 21, none⟩, ⟨some 31, .move (.tmp 7), 21, none⟩, ⟨some 32, .binOp .andNot 21 (.tmp 30) (.tmp 31) 21, 21, none⟩, ⟨some 33, .move (.tmp 7), 21, none⟩, ⟨some 34, .binOp .and 21 (.const (.int .i32 65533)) (.tmp 33) 21, 21, none⟩, ⟨some 35, .binOp .or 21 (.tmp 32) (.tmp 34) 21, 21, none⟩, ⟨some 2, .assign (.tmp 35), 21, none⟩, ⟨some 3, .assign (.const (.int .i64 1)), 3, none⟩])
    .ret)) .skip))
    (.seq (.ops [⟨some 36, .move (.tmp 6), 5, none⟩, ⟨some 37, .binOp .and 5 (.tmp 36) (.const (.int .u8 7)) 5, 5, none⟩, ⟨some 38, .convert 5 3 (.tmp 37), 3, none⟩, ⟨some 8, .assign (.tmp 38), 3, none⟩])
    (.seq (.ops [⟨some 39, .move (.tmp 6), 5, none⟩, ⟨some 40, .binOp .shr 5 (.tmp 39) (.const (.int .u64 4)) 209, 5, none⟩, ⟨some 41, .indexAddr 224 (.global 5) (.tmp 40), 0, none⟩, ⟨some 42, .load 223 (.tmp 41), 223, none⟩, ⟨some 9, .alloc 223, 0, none⟩, ⟨none, .store 223 (.tmp 9) (.tmp 42), 0, none⟩])
    (.seq (.seq (.ops [⟨some 43, .move (.tmp 4), 3, none⟩, ⟨some 44, .move (.tmp 8), 3, none⟩, ⟨some 45, .binOp .lss 3 (.tmp 43) (.tmp 44) 3, 4, none⟩])
    (.cond (.tmp 45) (.seq (.ops [⟨some 2, .assign (.const (.int .i32 65533)), 21, none⟩, ⟨some 3, .assign (.const (.int .i64 1)), 3, none⟩])
    .ret) .skip))
    (.seq (.ops [⟨some 46, .move (.tmp 0), 9, none⟩, ⟨some 47, .index 9 (.tmp 46) (.const (.int .i64 1)), 5, none⟩, ⟨some 10, .assign (.tmp 47), 5, none⟩])
    (.seq (.seq (.ops [⟨some 48, .move (.tmp 10), 5, none⟩, ⟨some 49, .fieldAddr 223 (.tmp 9) 0, 0, none⟩, ⟨some 50, .load 5 (.tmp 49), 5, none⟩, ⟨some 51, .binOp .lss 5 (.tmp 48) (.tmp 50) 5, 4, none⟩, ⟨some 52, .move (.tmp 51), 4, none⟩, ⟨some 53, .fieldAddr 223 (.tmp 9) 1, 0, some (some 52, false)⟩, ⟨some 54, .load 5 (.tmp 53), 5, some (some 52, false)⟩, ⟨some 55, .move (.tmp 10), 5, some (some 52, false)⟩, ⟨some 56, .binOp .lss 5 (.tmp 54) (.tmp 55) 5, 4, some (some 52, false)⟩, ⟨some 57, .pick (.tmp 52) (.const (.bool true)) (.tmp 56), 4, none⟩])
    (.cond (.tmp 57) (.seq (.ops [⟨some 2, .assign (.const (.int .i32 65533)), 21, none⟩, ⟨some 3, .assign (.const (.int .i64 1)), 3, none⟩])
    .ret) .skip))
    (.seq (.seq (.ops [⟨some 58, .move (.tmp 8), 3, none⟩, ⟨some 59, .binOp .leq 3 (.tmp 58) (.const (.int .i64 2)) 3, 4, none⟩])
    (.cond (.tmp 59) (.seq (.ops [⟨some 60, .move (.tmp 5), 5, none⟩, ⟨some 61, .binOp .and 5 (.tmp 60) (.const (.int .u8 31)) 5, 5, none⟩, ⟨some 62, .convert 5 21 (.tmp 61), 21, none⟩, ⟨some 63, .binOp .shl 21 (.tmp 62) (.const (.int .u64 6)) 209, 21, none⟩, ⟨some 64, .move (.tmp 10), 5, none⟩, ⟨some 65, .binOp .and 5 (.tmp 64) (.const (.int .u8 63)) 5, 5, none⟩, ⟨some 66, .convert 5 21 (.tmp 65), 21, none⟩, ⟨some 67, .binOp .or 21 (.tmp 63) (.tmp 66) 21, 21, none⟩, ⟨some 2, .assign (.tmp 67), 21, none⟩, ⟨some 3, .assign (.const (.int .i64 2)), 3, none⟩])
    .ret) .skip))
    (.seq (.ops [⟨some 68, .move (.tmp 0), 9, none⟩, ⟨some 69, .index 9 (.tmp 68) (.const (.int .i64 2)), 5, none⟩, ⟨some 11, .assign (.tmp 69), 5, none⟩])
    (.seq (.seq (.ops [⟨some 70, .move (.tmp 11), 5, none⟩, ⟨some 71, .binOp .lss 5 (.tmp 70) (.const (.int .u8 128)) 5, 4, none⟩, ⟨some 72, .move (.tmp 71), 4, none⟩, ⟨some 73, .move (.tmp 11), 5, some (some 72, false)⟩, ⟨some 74, .binOp .lss 5 (.const (.int .u8 191)) (.tmp 73) 5, 4, some (some 72, false)⟩, ⟨some 75, .pick (.tmp 72) (.const (.bool true)) (.tmp 74), 4, none⟩])
    (.cond (.tmp 75) (.seq (.ops [⟨some 2, .assign (.const (.int .i32 65533)), 21, none⟩, ⟨some 3, .assign (.const (.int .i64 1)), 3, none⟩])
    .ret) .skip))
    (.seq (.seq (.ops [⟨some 76, .move (.tmp 8), 3, none⟩, ⟨some 77, .binOp .leq 3 (.tmp 76) (.const (.int .i64 3)) 3, 4, none⟩])
    (.cond (.tmp 77) (.seq (.ops [⟨some 78, .move (.tmp 5), 5, none⟩, ⟨some 79, .binOp .and 5 (.tmp 78) (.const (.int .u8 15)) 5, 5, none⟩, ⟨some 80, .convert 5 21 (.tmp 79), 21, none⟩, ⟨some 81, .binOp .shl 21 (.tmp 80) (.const (.int .u64 12)) 209, 21, none⟩, ⟨some 82, .move (.tmp 10), 5, none⟩, ⟨some 83, .binOp .and 5 (.tmp 82) (.const (.int .u8 63)) 5, 5, none⟩, ⟨some 84, .convert 5 21 (.tmp 83), 21, none⟩, ⟨some 85, .binOp .shl 21 (.tmp 84) (.const (.int .u64 6)) 209, 21, none⟩, ⟨some 86, .binOp .or 21 (.tmp 81) (.tmp 85) 21, 21, none⟩, ⟨some 87, .move (.tmp 11), 5, none⟩, ⟨some 88, .binOp .and 5 (.tmp 87) (.const (.int .u8 63)) 5, 5, none⟩, ⟨some 89, .convert 5 21 (.tmp 88), 21, none⟩, ⟨some 90, .binOp .or 21 (.tmp 86) (.tmp 89) 21, 21, none⟩, ⟨some 2, .assign (.tmp 90), 21, none⟩, ⟨some 3, .assign (.const (.int .i64 3)), 3, none⟩])
    .ret) .skip))
    (.seq (.ops [⟨some 91, .move (.tmp 0), 9, none⟩, ⟨some 92, .index 9 (.tmp 91) (.const (.int .i64 3)), 5, none⟩, ⟨some 12, .assign (.tmp 92), 5, none⟩])
    (.seq (.seq (.ops [⟨some 93, .move (.tmp 12), 5, none⟩, ⟨some 94, .binOp .lss 5 (.tmp 93) (.const (.int .u8 128)) 5, 4, none⟩, ⟨some 95, .move (.tmp 94), 4, none⟩, ⟨some 96, .move (.tmp 12), 5, some (some 95, false)⟩, ⟨some 97, .binOp .lss 5 (.const (.int .u8 191)) (.tmp 96) 5, 4, some (some 95, false)⟩, ⟨some 98, .pick (.tmp 95) (.const (.bool true)) (.tmp 97), 4, none⟩])
    (.cond (.tmp 98) (.seq (.ops [⟨some 2, .assign (.const (.int .i32 65533)), 21, none⟩, ⟨some 3, .assign (.const (.int .i64 1)), 3, none⟩])
    .ret) .skip))
    (.seq (.ops [⟨some 99, .move (.tmp 5), 5, none⟩, ⟨some 100, .binOp .and 5 (.tmp 99) (.const (.int .u8 7)) 5, 5, none⟩, ⟨some 101, .convert 5 21 (.tmp 100), 21, none⟩, ⟨some 102, .binOp .shl 21 (.tmp 101) (.const (.int .u64 18)) 209, 21, none⟩, ⟨some 103, .move (.tmp 10), 5, none⟩, ⟨some 104, .binOp .and 5 (.tmp 103) (.const (.int .u8 63)) 5, 5, none⟩, ⟨some 105, .convert 5 21 (.tmp 104), 21, none⟩, ⟨some 106, .binOp .shl 21 (.tmp 105) (.const (.int .u64 12)) 209, 21, none⟩, ⟨some 107, .binOp .or 21 (.tmp 102) (.tmp 106) 21, 21, none⟩, ⟨some 108, .move (.tmp 11), 5, none⟩, ⟨some 109, .binOp .and 5 (.tmp 108) (.const (.int .u8 63)) 5, 5, none⟩, ⟨some 110, .convert 5 21 (.tmp 109), 21, none⟩, ⟨some 111, .binOp .shl 21 (.tmp 110) (.const (.int .u64 6)) 209, 21, none⟩, ⟨some 112, .binOp .or 21 (.tmp 107) (.tmp 111) 21, 21, none⟩, ⟨some 113, .move (.tmp 12), 5, none⟩, ⟨some 114, .binOp .and 5 (.tmp 113) (.const (.int .u8 63)) 5, 5, none⟩, ⟨some 115, .convert 5 21 (.tmp 114), 21, none⟩, ⟨some 116, .binOp .or 21 (.tmp 112) (.tmp 115) 21, 21, none⟩, ⟨some 2, .assign (.tmp 116), 21, none⟩, ⟨some 3, .assign (.const (.int .i64 4)), 3, none⟩])
    .ret))))))))))))))))))
def pl143 : Nat → Plan := fun _ => .done
theorem st143 : Go.Proofs.Tryz.f143.body.map (strip pl143) = some m143 := by kernel_rfl
theorem ok143 : okB pl143 Go.Proofs.Tryz.f143 1 = true := by kernel_rfl
theorem en143 {v0 w} {Q : Value → World → Prop} (h : mwpB Go.Proofs.Tryz.prog m143 (argEnv [v0]) [] w (fun e ds w => ds = [] ∧ resW Go.Proofs.Tryz.prog [.tmp 2, .tmp 3] e w fun v => Q v w) (fun _ _ _ _ => False) (fun e ds w => ds = [] ∧ resW Go.Proofs.Tryz.prog [.tmp 2, .tmp 3] e w fun v => Q v w) (fun _ _ _ => False) ⟨⟩) : Rets Go.Proofs.Tryz.prog 143 #[v0] w Q :=
  rets_of_mwp follows_mo Go.Proofs.Tryz.func143 pl143 st143 ok143 (by kernel_rfl) h
/-- internal/stringslite.IndexByte -/
def m144 : MC := (.seq (.ops [⟨some 4, .assign (.const (.int .i64 0)), 3, none⟩])
    (.seq (.ops [⟨some 5, .move (.tmp 0), 9, none⟩, ⟨some 6, .move (.tmp 1), 5, none⟩, ⟨some 7, .call { callee := .value (.func 156), args := #[.tmp 5, .tmp 6], argTypes := #[9, 5] }, 3, none⟩, ⟨some 4, .assign (.tmp 7), 3, none⟩])
    .ret))
def pl144 : Nat → Plan := fun _ => .done
theorem st144 : Go.Proofs.Tryz.f144.body.map (strip pl144) = some m144 := by kernel_rfl
theorem ok144 : okB pl144 Go.Proofs.Tryz.f144 2 = true := by kernel_rfl
theorem en144 {v0 v1 w} {Q : Value → World → Prop} (h : mwpB Go.Proofs.Tryz.prog m144 (argEnv [v0, v1]) [] w (fun e ds w => ds = [] ∧ resW Go.Proofs.Tryz.prog [.tmp 4] e w fun v => Q v w) (fun _ _ _ _ => False) (fun e ds w => ds = [] ∧ resW Go.Proofs.Tryz.prog [.tmp 4] e w fun v => Q v w) (fun _ _ _ => False) ⟨⟩) : Rets Go.Proofs.Tryz.prog 144 #[v0, v1] w Q :=
  rets_of_mwp follows_mo Go.Proofs.Tryz.func144 pl144 st144 ok144 (by kernel_rfl) h
/-- internal/bytealg.Cutover -/
def m146 : MC := (.seq (.ops [⟨some 2, .assign (.const (.int .i64 0)), 3, none⟩])
    (.seq (.ops [⟨some 3, .move (.tmp 0), 3, none⟩, ⟨some 4, .binOp .add 3 (.tmp 3) (.const (.int .i64 16)) 3, 3, none⟩, ⟨some 5, .binOp .quo 3 (.tmp 4) (.const (.int .i64 8)) 3, 3, none⟩, ⟨some 2, .assign (.tmp 5), 3, none⟩])
    .ret))
def pl146 : Nat → Plan := fun _ => .done
theorem st146 : Go.Proofs.Tryz.f146.body.map (strip pl146) = some m146 := by kernel_rfl
theorem ok146 : okB pl146 Go.Proofs.Tryz.f146 1 = true := by kernel_rfl
theorem en146 {v0 w} {Q : Value → World → Prop} (h : mwpB Go.Proofs.Tryz.prog m146 (argEnv [v0]) [] w (fun e ds w => ds = [] ∧ resW Go.Proofs.Tryz.prog [.tmp 2] e w fun v => Q v w) (fun _ _ _ _ => False) (fun e ds w => ds = [] ∧ resW Go.Proofs.Tryz.prog [.tmp 2] e w fun v => Q v w) (fun _ _ _ => False) ⟨⟩) : Rets Go.Proofs.Tryz.prog 146 #[v0] w Q :=
  rets_of_mwp follows_mo Go.Proofs.Tryz.func146 pl146 st146 ok146 (by kernel_rfl) h
/-- internal/bytealg.IndexRabinKarp[string] -/
def m147 : MC := (.seq (.ops [⟨some 4, .assign (.const (.int .i64 0)), 3, none⟩])
    (.seq (.ops [⟨some 12, .move (.tmp 1), 9, none⟩, ⟨some 13, .call { callee := .value (.func 157), args := #[.tmp 12], argTypes := #[9] }, 225, none⟩, ⟨some 11, .move (.tmp 13), 225, none⟩, ⟨some 14, .extract (.tmp 11) 0, 218, none⟩, ⟨some 15, .extract (.tmp 11) 1, 218, none⟩, ⟨some 5, .assign (.tmp 14), 218, none⟩, ⟨some 6, .assign (.tmp 15), 218, none⟩])
    (.seq (.ops [⟨some 16, .move (.tmp 1), 9, none⟩, ⟨some 17, .call { callee := .builtin .len, args := #[.tmp 16], argTypes := #[9] }, 3, none⟩, ⟨some 7, .assign (.tmp 17), 3, none⟩])
    (.seq (.ops [⟨some 8, .assign (.const (.int .u32 0)), 218, none⟩])
    (.seq (.seq (.ops [⟨some 9, .assign (.const (.int .i64 0)), 3, none⟩])
    (.block 0 (.loop (.seq (.seq (.ops [⟨some 18, .move (.tmp 9), 3, none⟩, ⟨some 19, .move (.tmp 7), 3, none⟩, ⟨some 20, .binOp .lss 3 (.tmp 18) (.tmp 19) 3, 4, none⟩])
    (.cond (.tmp 20) .skip (.exit 0)))
    (.seq (.block 1 (.ops [⟨some 23, .move (.tmp 8), 218, none⟩, ⟨some 24, .binOp .mul 218 (.tmp 23) (.const (.int .u32 16777619)) 218, 218, none⟩, ⟨some 25, .move (.tmp 0), 9, none⟩, ⟨some 26, .move (.tmp 9), 3, none⟩, ⟨some 27, .index 9 (.tmp 25) (.tmp 26), 5, none⟩, ⟨some 28, .convert 5 218 (.tmp 27), 218, none⟩, ⟨some 29, .binOp .add 218 (.tmp 24) (.tmp 28) 218, 218, none⟩, ⟨some 8, .assign (.tmp 29), 218, none⟩]))
    (.ops [⟨some 21, .move (.tmp 9), 3, none⟩, ⟨some 22, .binOp .add 3 (.tmp 21) (.const (.int .i64 1)) 3, 3, none⟩, ⟨some 9, .assign (.tmp 22), 3, none⟩]))))))
    (.seq (.seq (.ops [⟨some 30, .move (.tmp 8), 218, none⟩, ⟨some 31, .move (.tmp 5), 218, none⟩, ⟨some 32, .binOp .eql 218 (.tmp 30) (.tmp 31) 218, 4, none⟩, ⟨some 33, .move (.tmp 32), 4, none⟩, ⟨some 34, .move (.tmp 0), 9, some (some 33, true)⟩, ⟨some 35, .move (.tmp 7), 3, some (some 33, true)⟩, ⟨some 36, .slice 9 (.tmp 34) none (some (.tmp 35)) none, 9, some (some 33, true)⟩, ⟨some 37, .move (.tmp 1), 9, some (some 33, true)⟩, ⟨some 38, .binOp .eql 9 (.tmp 36) (.tmp 37) 9, 4, some (some 33, true)⟩, ⟨some 39, .pick (.tmp 33) (.tmp 38) (.const (.bool false)), 4, none⟩])
    (.cond (.tmp 39) (.seq (.ops [⟨some 4, .assign (.const (.int .i64 0)), 3, none⟩])
    .ret) .skip))
    (.seq (.seq (.ops [⟨some 40, .move (.tmp 7), 3, none⟩, ⟨some 10, .assign (.tmp 40), 3, none⟩])
    (.block 2 (.loop (.seq (.seq (.ops [⟨some 41, .move (.tmp 10), 3, none⟩, ⟨some 42, .move (.tmp 0), 9, none⟩, ⟨some 43, .call { callee := .builtin .len, args := #[.tmp 42], argTypes := #[9] }, 3, none⟩, ⟨some 44, .binOp .lss 3 (.tmp 41) (.tmp 43) 3, 4, none⟩])
    (.cond (.tmp 44) .skip (.exit 2)))
    (.block 3 (.seq (.ops [⟨some 45, .move (.tmp 8), 218, none⟩, ⟨some 46, .binOp .mul 218 (.tmp 45) (.const (.int .u32 16777619)) 218, 218, none⟩, ⟨some 8, .assign (.tmp 46), 218, none⟩])
    (.seq (.ops [⟨some 47, .move (.tmp 8), 218, none⟩, ⟨some 48, .move (.tmp 0), 9, none⟩, ⟨some 49, .move (.tmp 10), 3, none⟩, ⟨some 50, .index 9 (.tmp 48) (.tmp 49), 5, none⟩, ⟨some 51, .convert 5 218 (.tmp 50), 218, none⟩, ⟨some 52, .binOp .add 218 (.tmp 47) (.tmp 51) 218, 218, none⟩, ⟨some 8, .assign (.tmp 52), 218, none⟩])
    (.seq (.ops [⟨some 53, .move (.tmp 8), 218, none⟩, ⟨some 54, .move (.tmp 6), 218, none⟩, ⟨some 55, .move (.tmp 0), 9, none⟩, ⟨some 56, .move (.tmp 10), 3, none⟩, ⟨some 57, .move (.tmp 7), 3, none⟩, ⟨some 58, .binOp .sub 3 (.tmp 56) (.tmp 57) 3, 3, none⟩, ⟨some 59, .index 9 (.tmp 55) (.tmp 58), 5, none⟩, ⟨some 60, .convert 5 218 (.tmp 59), 218, none⟩, ⟨some 61, .binOp .mul 218 (.tmp 54) (.tmp 60) 218, 218, none⟩, ⟨some 62, .binOp .sub 218 (.tmp 53) (.tmp 61) 218, 218, none⟩, ⟨some 8, .assign (.tmp 62), 218, none⟩])
    (.seq (.ops [⟨some 63, .move (.tmp 10), 3, none⟩, ⟨some 64, .binOp .add 3 (.tmp 63) (.const (.int .i64 1)) 3, 3, none⟩, ⟨some 10, .assign (.tmp 64), 3, none⟩])
    (.seq (.ops [⟨some 65, .move (.tmp 8), 218, none⟩, ⟨some 66, .move (.tmp 5), 218, none⟩, ⟨some 67, .binOp .eql 218 (.tmp 65) (.tmp 66) 218, 4, none⟩, ⟨some 68, .move (.tmp 67), 4, none⟩, ⟨some 69, .move (.tmp 0), 9, some (some 68, true)⟩, ⟨some 70, .move (.tmp 10), 3, some (some 68, true)⟩, ⟨some 71, .move (.tmp 7), 3, some (some 68, true)⟩, ⟨some 72, .binOp .sub 3 (.tmp 70) (.tmp 71) 3, 3, some (some 68, true)⟩, ⟨some 73, .move (.tmp 10), 3, some (some 68, true)⟩, ⟨some 74, .slice 9 (.tmp 69) (some (.tmp 72)) (some (.tmp 73)) none, 9, some (some 68, true)⟩, ⟨some 75, .move (.tmp 1), 9, some (some 68, true)⟩, ⟨some 76, .binOp .eql 9 (.tmp 74) (.tmp 75) 9, 4, some (some 68, true)⟩, ⟨some 77, .pick (.tmp 68) (.tmp 76) (.const (.bool false)), 4, none⟩])
    (.cond (.tmp 77) (.seq (.ops [⟨some 78, .move (.tmp 10), 3, none⟩, ⟨some 79, .move (.tmp 7), 3, none⟩, ⟨some 80, .binOp .sub 3 (.tmp 78) (.tmp 79) 3, 3, none⟩, ⟨some 4, .assign (.tmp 80), 3, none⟩])
    .ret) .skip)))))))))))
    (.seq (.ops [⟨some 4, .assign (.const (.int .i64 (-1))), 3, none⟩])
    .ret))))))))
def pl147 : Nat → Plan := fun _ => .done
theorem st147 : Go.Proofs.Tryz.f147.body.map (strip pl147) = some m147 := by kernel_rfl
theorem ok147 : okB pl147 Go.Proofs.Tryz.f147 2 = true := by kernel_rfl
theorem en147 {v0 v1 w} {Q : Value → World → Prop} (h : mwpB Go.Proofs.Tryz.prog m147 (argEnv [v0, v1]) [] w (fun e ds w => ds = [] ∧ resW Go.Proofs.Tryz.prog [.tmp 4] e w fun v => Q v w) (fun _ _ _ _ => False) (fun e ds w => ds = [] ∧ resW Go.Proofs.Tryz.prog [.tmp 4] e w fun v => Q v w) (fun _ _ _ => False) ⟨⟩) : Rets Go.Proofs.Tryz.prog 147 #[v0, v1] w Q :=
  rets_of_mwp follows_mo Go.Proofs.Tryz.func147 pl147 st147 ok147 (by kernel_rfl) h
/-- internal/strconv.ParseUint -/
def m148 : MC := (.seq (.ops [⟨some 6, .assign (.const (.int .u64 0)), 201, none⟩, ⟨some 7, .assign (.const .nilIface), 178, none⟩])
    (.seq (.seq (.ops [⟨some 18, .move (.tmp 0), 9, none⟩, ⟨some 19, .binOp .eql 9 (.tmp 18) (.const (.string { data := #[] })) 9, 4, none⟩])
    (.cond (.tmp 19) (.seq (.ops [⟨some 20, .makeInterface 194 (.const (.int .i64 2)), 178, none⟩, ⟨some 6, .assign (.const (.int .u64 0)), 201, none⟩, ⟨some 7, .assign (.tmp 20), 178, none⟩])
    .ret) .skip))
    (.seq (.ops [⟨some 21, .move (.tmp 1), 3, none⟩, ⟨some 22, .binOp .eql 3 (.tmp 21) (.const (.int .i64 0)) 3, 4, none⟩, ⟨some 8, .assign (.tmp 22), 4, none⟩])
    (.seq (.ops [⟨some 23, .move (.tmp 0), 9, none⟩, ⟨some 9, .assign (.tmp 23), 9, none⟩])
    (.seq (.block 0 (.seq (.ops [⟨some 26, .move (.tmp 1), 3, none⟩, ⟨some 27, .binOp .leq 3 (.const (.int .i64 2)) (.tmp 26) 3, 4, none⟩, ⟨some 28, .move (.tmp 27), 4, none⟩, ⟨some 29, .move (.tmp 1), 3, some (some 28, true)⟩, ⟨some 30, .binOp .leq 3 (.tmp 29) (.const (.int .i64 36)) 3, 4, some (some 28, true)⟩, ⟨some 31, .pick (.tmp 28) (.tmp 30) (.const (.bool false)), 4, none⟩, ⟨some 25, .assign (.tmp 31), 4, none⟩])
    (.cond (.tmp 25) .skip (.seq (.ops [⟨some 33, .move (.tmp 1), 3, none⟩, ⟨some 34, .binOp .eql 3 (.tmp 33) (.const (.int .i64 0)) 3, 4, none⟩, ⟨some 32, .assign (.tmp 34), 4, none⟩])
    (.cond (.tmp 32) (.seq (.ops [⟨some 1, .assign (.const (.int .i64 10)), 3, none⟩])
    (.seq (.ops [⟨some 35, .move (.tmp 0), 9, none⟩, ⟨some 36, .index 9 (.tmp 35) (.const (.int .i64 0)), 5, none⟩, ⟨some 37, .binOp .eql 5 (.tmp 36) (.const (.int .u8 48)) 5, 4, none⟩])
    (.cond (.tmp 37) (.block 1 (.seq (.ops [⟨some 41, .move (.tmp 0), 9, none⟩, ⟨some 42, .call { callee := .builtin .len, args := #[.tmp 41], argTypes := #[9] }, 3, none⟩, ⟨some 43, .binOp .geq 3 (.tmp 42) (.const (.int .i64 3)) 3, 4, none⟩, ⟨some 44, .move (.tmp 43), 4, none⟩, ⟨some 45, .move (.tmp 0), 9, some (some 44, true)⟩, ⟨some 46, .index 9 (.tmp 45) (.const (.int .i64 1)), 5, some (some 44, true)⟩, ⟨some 47, .call { callee := .value (.func 158), args := #[.tmp 46], argTypes := #[5] }, 5, some (some 44, true)⟩, ⟨some 48, .binOp .eql 5 (.tmp 47) (.const (.int .u8 98)) 5, 4, some (some 44, true)⟩, ⟨some 49, .pick (.tmp 44) (.tmp 48) (.const (.bool false)), 4, none⟩, ⟨some 40, .assign (.tmp 49), 4, none⟩])
    (.cond (.tmp 40) (.seq (.ops [⟨some 1, .assign (.const (.int .i64 2)), 3, none⟩])
    (.ops [⟨some 50, .move (.tmp 0), 9, none⟩, ⟨some 51, .slice 9 (.tmp 50) (some (.const (.int .i64 2))) none none, 9, none⟩, ⟨some 0, .assign (.tmp 51), 9, none⟩])) (.seq (.ops [⟨some 53, .move (.tmp 0), 9, none⟩, ⟨some 54, .call { callee := .builtin .len, args := #[.tmp 53], argTypes := #[9] }, 3, none⟩, ⟨some 55, .binOp .geq 3 (.tmp 54) (.const (.int .i64 3)) 3, 4, none⟩, ⟨some 56, .move (.tmp 55), 4, none⟩, ⟨some 57, .move (.tmp 0), 9, some (some 56, true)⟩, ⟨some 58, .index 9 (.tmp 57) (.const (.int .i64 1)), 5, some (some 56, true)⟩, ⟨some 59, .call { callee := .value (.func 158), args := #[.tmp 58], argTypes := #[5] }, 5, some (some 56, true)⟩, ⟨some 60, .binOp .eql 5 (.tmp 59) (.const (.int .u8 111)) 5, 4, some (some 56, true)⟩, ⟨some 61, .pick (.tmp 56) (.tmp 60) (.const (.bool false)), 4, none⟩, ⟨some 52, .assign (.tmp 61), 4, none⟩])
    (.cond (.tmp 52) (.seq (.ops [⟨some 1, .assign (.const (.int .i64 8)), 3, none⟩])
    (.ops [⟨some 62, .move (.tmp 0), 9, none⟩, ⟨some 63, .slice 9 (.tmp 62) (some (.const (.int .i64 2))) none none, 9, none⟩, ⟨some 0, .assign (.tmp 63), 9, none⟩])) (.seq (.ops [⟨some 65, .move (.tmp 0), 9, none⟩, ⟨some 66, .call { callee := .builtin .len, args := #[.tmp 65], argTypes := #[9] }, 3, none⟩, ⟨some 67, .binOp .geq 3 (.tmp 66) (.const (.int .i64 3)) 3, 4, none⟩, ⟨some 68, .move (.tmp 67), 4, none⟩, ⟨some 69, .move (.tmp 0), 9, some (some 68, true)⟩, ⟨some 70, .index 9 (.tmp 69) (.const (.int .i64 1)), 5, some (some 68, true)⟩, ⟨some 71, .call { callee := .value (.func 158), args := #[.tmp 70], argTypes := #[5] }, 5, some (some 68, true)⟩, ⟨some 72, .binOp .eql 5 (.tmp 71) (.const (.int .u8 120)) 5, 4, some (some 68, true)⟩, ⟨some 73, .pick (.tmp 68) (.tmp 72) (.const (.bool false)), 4, none⟩, ⟨some 64, .assign (.tmp 73), 4, none⟩])
    (.cond (.tmp 64) (.seq (.ops [⟨some 1, .assign (.const (.int .i64 16)), 3, none⟩])
    (.ops [⟨some 74, .move (.tmp 0), 9, none⟩, ⟨some 75, .slice 9 (.tmp 74) (some (.const (.int .i64 2))) none none, 9, none⟩, ⟨some 0, .assign (.tmp 75), 9, none⟩])) (.seq (.ops [⟨some 1, .assign (.const (.int .i64 8)), 3, none⟩])
    (.ops [⟨some 38, .move (.tmp 0), 9, none⟩, ⟨some 39, .slice 9 (.tmp 38) (some (.const (.int .i64 1))) none none, 9, none⟩, ⟨some 0, .assign (.tmp 39), 9, none⟩]))))))))) .skip))) (.seq (.ops [⟨some 24, .makeInterface 194 (.const (.int .i64 3)), 178, none⟩, ⟨some 6, .assign (.const (.int .u64 0)), 201, none⟩, ⟨some 7, .assign (.tmp 24), 178, none⟩])
    .ret))))))
    (.seq (.seq (.ops [⟨some 76, .move (.tmp 2), 3, none⟩, ⟨some 77, .binOp .eql 3 (.tmp 76) (.const (.int .i64 0)) 3, 4, none⟩])
    (.cond (.tmp 77) (.ops [⟨some 2, .assign (.const (.int .i64 64)), 3, none⟩]) (.seq (.ops [⟨some 78, .move (.tmp 2), 3, none⟩, ⟨some 79, .binOp .lss 3 (.tmp 78) (.const (.int .i64 0)) 3, 4, none⟩, ⟨some 80, .move (.tmp 79), 4, none⟩, ⟨some 81, .move (.tmp 2), 3, some (some 80, false)⟩, ⟨some 82, .binOp .gtr 3 (.tmp 81) (.const (.int .i64 64)) 3, 4, some (some 80, false)⟩, ⟨some 83, .pick (.tmp 80) (.const (.bool true)) (.tmp 82), 4, none⟩])
    (.cond (.tmp 83) (.seq (.ops [⟨some 84, .makeInterface 194 (.const (.int .i64 4)), 178, none⟩, ⟨some 6, .assign (.const (.int .u64 0)), 201, none⟩, ⟨some 7, .assign (.tmp 84), 178, none⟩])
    .ret) .skip))))
    (.seq (.ops [⟨some 10, .assign (.const (.int .u64 0)), 201, none⟩])
    (.seq (.seq (.ops [⟨some 85, .move (.tmp 1), 3, none⟩])
    (.block 2 (.seq (.ops [⟨some 91, .binOp .eql 3 (.tmp 85) (.const (.int .i64 10)) 3, 4, none⟩, ⟨some 90, .assign (.tmp 91), 4, none⟩])
    (.cond (.tmp 90) (.ops [⟨some 10, .assign (.const (.int .u64 1844674407370955162)), 201, none⟩]) (.seq (.ops [⟨some 93, .binOp .eql 3 (.tmp 85) (.const (.int .i64 16)) 3, 4, none⟩, ⟨some 92, .assign (.tmp 93), 4, none⟩])
    (.cond (.tmp 92) (.ops [⟨some 10, .assign (.const (.int .u64 1152921504606846976)), 201, none⟩]) (.ops [⟨some 86, .move (.tmp 1), 3, none⟩, ⟨some 87, .convert 3 201 (.tmp 86), 201, none⟩, ⟨some 88, .binOp .quo 201 (.const (.int .u64 18446744073709551615)) (.tmp 87) 201, 201, none⟩, ⟨some 89, .binOp .add 201 (.tmp 88) (.const (.int .u64 1)) 201, 201, none⟩, ⟨some 10, .assign (.tmp 89), 201, none⟩])))))))
    (.seq (.ops [⟨some 94, .move (.tmp 2), 3, none⟩, ⟨some 95, .convert 3 209 (.tmp 94), 209, none⟩, ⟨some 96, .binOp .shl 201 (.const (.int .u64 1)) (.tmp 95) 209, 201, none⟩, ⟨some 97, .binOp .sub 201 (.tmp 96) (.const (.int .u64 1)) 201, 201, none⟩, ⟨some 11, .assign (.tmp 97), 201, none⟩])
    (.seq (.ops [⟨some 12, .assign (.const (.bool false)), 4, none⟩])
    (.seq (.ops [⟨some 13, .assign (.const (.int .u64 0)), 201, none⟩])
    (.seq (.seq (.ops [⟨some 98, .move (.tmp 0), 9, none⟩, ⟨some 99, .convert 9 182 (.tmp 98), 182, none⟩, ⟨some 100, .call { callee := .builtin .len, args := #[.tmp 99], argTypes := #[182] }, 3, none⟩, ⟨some 101, .move (.const (.int .i64 0)), 3, none⟩])
    (.block 3 (.loop (.seq (.ops [⟨some 102, .binOp .lss 3 (.tmp 101) (.tmp 100) 3, 0, none⟩])
    (.seq (.cond (.tmp 102) .skip (.exit 3))
    (.seq (.block 4 (.seq (.ops [⟨some 103, .indexAddr 182 (.tmp 99) (.tmp 101), 0, none⟩, ⟨some 104, .load 5 (.tmp 103), 5, none⟩, ⟨some 15, .assign (.tmp 104), 5, none⟩])
    (.seq (.ops [⟨some 16, .assign (.const (.int .u8 0)), 5, none⟩])
    (.seq (.block 5 (.seq (.ops [⟨some 107, .move (.tmp 15), 5, none⟩, ⟨some 108, .binOp .eql 5 (.tmp 107) (.const (.int .u8 95)) 5, 4, none⟩, ⟨some 109, .move (.tmp 108), 4, none⟩, ⟨some 110, .move (.tmp 8), 4, some (some 109, true)⟩, ⟨some 111, .pick (.tmp 109) (.tmp 110) (.const (.bool false)), 4, none⟩, ⟨some 106, .assign (.tmp 111), 4, none⟩])
    (.cond (.tmp 106) (.seq (.ops [⟨some 12, .assign (.const (.bool true)), 4, none⟩])
    (.exit 4)) (.seq (.ops [⟨some 113, .move (.tmp 15), 5, none⟩, ⟨some 114, .binOp .leq 5 (.const (.int .u8 48)) (.tmp 113) 5, 4, none⟩, ⟨some 115, .move (.tmp 114), 4, none⟩, ⟨some 116, .move (.tmp 15), 5, some (some 115, true)⟩, ⟨some 117, .binOp .leq 5 (.tmp 116) (.const (.int .u8 57)) 5, 4, some (some 115, true)⟩, ⟨some 118, .pick (.tmp 115) (.tmp 117) (.const (.bool false)), 4, none⟩, ⟨some 112, .assign (.tmp 118), 4, none⟩])
    (.cond (.tmp 112) (.ops [⟨some 119, .move (.tmp 15), 5, none⟩, ⟨some 120, .binOp .sub 5 (.tmp 119) (.const (.int .u8 48)) 5, 5, none⟩, ⟨some 16, .assign (.tmp 120), 5, none⟩]) (.seq (.ops [⟨some 122, .move (.tmp 15), 5, none⟩, ⟨some 123, .call { callee := .value (.func 158), args := #[.tmp 122], argTypes := #[5] }, 5, none⟩, ⟨some 124, .binOp .leq 5 (.const (.int .u8 97)) (.tmp 123) 5, 4, none⟩, ⟨some 125, .move (.tmp 124), 4, none⟩, ⟨some 126, .move (.tmp 15), 5, some (some 125, true)⟩, ⟨some 127, .call { callee := .value (.func 158), args := #[.tmp 126], argTypes := #[5] }, 5, some (some 125, true)⟩, ⟨some 128, .binOp .leq 5 (.tmp 127) (.const (.int .u8 122)) 5, 4, some (some 125, true)⟩, ⟨some 129, .pick (.tmp 125) (.tmp 128) (.const (.bool false)), 4, none⟩, ⟨some 121, .assign (.tmp 129), 4, none⟩])
    (.cond (.tmp 121) (.ops [⟨some 130, .move (.tmp 15), 5, none⟩, ⟨some 131, .call { callee := .value (.func 158), args := #[.tmp 130], argTypes := #[5] }, 5, none⟩, ⟨some 132, .binOp .sub 5 (.tmp 131) (.const (.int .u8 97)) 5, 5, none⟩, ⟨some 133, .binOp .add 5 (.tmp 132) (.const (.int .u8 10)) 5, 5, none⟩, ⟨some 16, .assign (.tmp 133), 5, none⟩]) (.seq (.ops [⟨some 105, .makeInterface 194 (.const (.int .i64 2)), 178, none⟩, ⟨some 6, .assign (.const (.int .u64 0)), 201, none⟩, ⟨some 7, .assign (.tmp 105), 178, none⟩])
    .ret))))))))
    (.seq (.seq (.ops [⟨some 134, .move (.tmp 16), 5, none⟩, ⟨some 135, .move (.tmp 1), 3, none⟩, ⟨some 136, .convert 3 5 (.tmp 135), 5, none⟩, ⟨some 137, .binOp .geq 5 (.tmp 134) (.tmp 136) 5, 4, none⟩])
    (.cond (.tmp 137) (.seq (.ops [⟨some 138, .makeInterface 194 (.const (.int .i64 2)), 178, none⟩, ⟨some 6, .assign (.const (.int .u64 0)), 201, none⟩, ⟨some 7, .assign (.tmp 138), 178, none⟩])
    .ret) .skip))
    (.seq (.seq (.ops [⟨some 139, .move (.tmp 13), 201, none⟩, ⟨some 140, .move (.tmp 10), 201, none⟩, ⟨some 141, .binOp .geq 201 (.tmp 139) (.tmp 140) 201, 4, none⟩])
    (.cond (.tmp 141) (.seq (.ops [⟨some 142, .move (.tmp 11), 201, none⟩, ⟨some 143, .makeInterface 194 (.const (.int .i64 1)), 178, none⟩, ⟨some 6, .assign (.tmp 142), 201, none⟩, ⟨some 7, .assign (.tmp 143), 178, none⟩])
    .ret) .skip))
    (.seq (.ops [⟨some 144, .move (.tmp 13), 201, none⟩, ⟨some 145, .move (.tmp 1), 3, none⟩, ⟨some 146, .convert 3 201 (.tmp 145), 201, none⟩, ⟨some 147, .binOp .mul 201 (.tmp 144) (.tmp 146) 201, 201, none⟩, ⟨some 13, .assign (.tmp 147), 201, none⟩])
    (.seq (.ops [⟨some 148, .move (.tmp 13), 201, none⟩, ⟨some 149, .move (.tmp 16), 5, none⟩, ⟨some 150, .convert 5 201 (.tmp 149), 201, none⟩, ⟨some 151, .binOp .add 201 (.tmp 148) (.tmp 150) 201, 201, none⟩, ⟨some 17, .assign (.tmp 151), 201, none⟩])
    (.seq (.seq (.ops [⟨some 152, .move (.tmp 17), 201, none⟩, ⟨some 153, .move (.tmp 13), 201, none⟩, ⟨some 154, .binOp .lss 201 (.tmp 152) (.tmp 153) 201, 4, none⟩, ⟨some 155, .move (.tmp 154), 4, none⟩, ⟨some 156, .move (.tmp 17), 201, some (some 155, false)⟩, ⟨some 157, .move (.tmp 11), 201, some (some 155, false)⟩, ⟨some 158, .binOp .gtr 201 (.tmp 156) (.tmp 157) 201, 4, some (some 155, false)⟩, ⟨some 159, .pick (.tmp 155) (.const (.bool true)) (.tmp 158), 4, none⟩])
    (.cond (.tmp 159) (.seq (.ops [⟨some 160, .move (.tmp 11), 201, none⟩, ⟨some 161, .makeInterface 194 (.const (.int .i64 1)), 178, none⟩, ⟨some 6, .assign (.tmp 160), 201, none⟩, ⟨some 7, .assign (.tmp 161), 178, none⟩])
    .ret) .skip))
    (.ops [⟨some 162, .move (.tmp 17), 201, none⟩, ⟨some 13, .assign (.tmp 162), 201, none⟩]))))))))))
    (.ops [⟨some 163, .binOp .add 3 (.tmp 101) (.const (.int .i64 1)) 3, 3, none⟩, ⟨some 101, .move (.tmp 163), 3, none⟩])))))))
    (.seq (.seq (.ops [⟨some 164, .move (.tmp 12), 4, none⟩, ⟨some 165, .move (.tmp 164), 4, none⟩, ⟨some 166, .move (.tmp 9), 9, some (some 165, true)⟩, ⟨some 167, .call { callee := .value (.func 159), args := #[.tmp 166], argTypes := #[9] }, 4, some (some 165, true)⟩, ⟨some 168, .unOp .not 4 (.tmp 167), 4, some (some 165, true)⟩, ⟨some 169, .pick (.tmp 165) (.tmp 168) (.const (.bool false)), 4, none⟩])
    (.cond (.tmp 169) (.seq (.ops [⟨some 170, .makeInterface 194 (.const (.int .i64 2)), 178, none⟩, ⟨some 6, .assign (.const (.int .u64 0)), 201, none⟩, ⟨some 7, .assign (.tmp 170), 178, none⟩])
    .ret) .skip))
    (.seq (.ops [⟨some 171, .move (.tmp 13), 201, none⟩, ⟨some 6, .assign (.tmp 171), 201, none⟩, ⟨some 7, .assign (.const .nilIface), 178, none⟩])
    .ret))))))))))))))
def pl148 : Nat → Plan := fun _ => .done
theorem st148 : Go.Proofs.Tryz.f148.body.map (strip pl148) = some m148 := by kernel_rfl
theorem ok148 : okB pl148 Go.Proofs.Tryz.f148 3 = true := by kernel_rfl
theorem en148 {v0 v1 v2 w} {Q : Value → World → Prop} (h : mwpB Go.Proofs.Tryz.prog m148 (argEnv [v0, v1, v2]) [] w (fun e ds w => ds = [] ∧ resW Go.Proofs.Tryz.prog [.tmp 6, .tmp 7] e w fun v => Q v w) (fun _ _ _ _ => False) (fun e ds w => ds = [] ∧ resW Go.Proofs.Tryz.prog [.tmp 6, .tmp 7] e w fun v => Q v w) (fun _ _ _ => False) ⟨⟩) : Rets Go.Proofs.Tryz.prog 148 #[v0, v1, v2] w Q :=
  rets_of_mwp follows_mo Go.Proofs.Tryz.func148 pl148 st148 ok148 (by kernel_rfl) h
/-- internal/stringslite.Clone -/
def m149 : MC := (.seq (.ops [⟨some 2, .assign (.const (.string { data := #[] })), 9, none⟩])
    (.seq (.seq (.ops [⟨some 4, .move (.tmp 0), 9, none⟩, ⟨some 5, .call { callee := .builtin .len, args := #[.tmp 4], argTypes := #[9] }, 3, none⟩, ⟨some 6, .binOp .eql 3 (.tmp 5) (.const (.int .i64 0)) 3, 4, none⟩])
    (.cond (.tmp 6) (.seq (.ops [⟨some 2, .assign (.const (.string { data := #[] })), 9, none⟩])
    .ret) .skip))
    (.seq (.ops [⟨some 7, .move (.tmp 0), 9, none⟩, ⟨some 8, .call { callee := .builtin .len, args := #[.tmp 7], argTypes := #[9] }, 3, none⟩, ⟨some 9, .makeSlice 182 (.tmp 8) (.tmp 8), 182, none⟩, ⟨some 3, .assign (.tmp 9), 182, none⟩])
    (.seq (.ops [⟨some 10, .move (.tmp 3), 182, none⟩, ⟨some 11, .move (.tmp 0), 9, none⟩, ⟨some 12, .call { callee := .builtin .copy, args := #[.tmp 10, .tmp 11], argTypes := #[182, 9] }, 3, none⟩])
    (.seq (.ops [⟨some 13, .move (.tmp 3), 182, none⟩, ⟨some 14, .indexAddr 182 (.tmp 13) (.const (.int .i64 0)), 0, none⟩, ⟨some 15, .move (.tmp 3), 182, none⟩, ⟨some 16, .call { callee := .builtin .len, args := #[.tmp 15], argTypes := #[182] }, 3, none⟩, ⟨some 17, .call { callee := .builtin .unsafeString, args := #[.tmp 14, .tmp 16], argTypes := #[189, 3] }, 9, none⟩, ⟨some 2, .assign (.tmp 17), 9, none⟩])
    .ret)))))
def pl149 : Nat → Plan := fun _ => .done
theorem st149 : Go.Proofs.Tryz.f149.body.map (strip pl149) = some m149 := by kernel_rfl
theorem ok149 : okB pl149 Go.Proofs.Tryz.f149 1 = true := by kernel_rfl
theorem en149 {v0 w} {Q : Value → World → Prop} (h : mwpB Go.Proofs.Tryz.prog m149 (argEnv [v0]) [] w (fun e ds w => ds = [] ∧ resW Go.Proofs.Tryz.prog [.tmp 2] e w fun v => Q v w) (fun _ _ _ _ => False) (fun e ds w => ds = [] ∧ resW Go.Proofs.Tryz.prog [.tmp 2] e w fun v => Q v w) (fun _ _ _ => False) ⟨⟩) : Rets Go.Proofs.Tryz.prog 149 #[v0] w Q :=
  rets_of_mwp follows_mo Go.Proofs.Tryz.func149 pl149 st149 ok149 (by kernel_rfl) h
/-- errors.New -/
def m150 : MC := (.seq (.ops [⟨some 2, .assign (.const .nilIface), 178, none⟩])
    (.seq (.ops [⟨some 3, .move (.tmp 0), 9, none⟩, ⟨some 4, .build 231 #[(0, .tmp 3)], 231, none⟩, ⟨some 5, .box 231 (.tmp 4), 229, none⟩, ⟨some 6, .makeInterface 229 (.tmp 5), 178, none⟩, ⟨some 2, .assign (.tmp 6), 178, none⟩])
    .ret))
def pl150 : Nat → Plan := fun _ => .done
theorem st150 : Go.Proofs.Tryz.f150.body.map (strip pl150) = some m150 := by kernel_rfl
theorem ok150 : okB pl150 Go.Proofs.Tryz.f150 1 = true := by kernel_rfl
theorem en150 {v0 w} {Q : Value → World → Prop} (h : mwpB Go.Proofs.Tryz.prog m150 (argEnv [v0]) [] w (fun e ds w => ds = [] ∧ resW Go.Proofs.Tryz.prog [.tmp 2] e w fun v => Q v w) (fun _ _ _ _ => False) (fun e ds w => ds = [] ∧ resW Go.Proofs.Tryz.prog [.tmp 2] e w fun v => Q v w) (fun _ _ _ => False) ⟨⟩) : Rets Go.Proofs.Tryz.prog 150 #[v0] w Q :=
  rets_of_mwp follows_mo Go.Proofs.Tryz.func150 pl150 st150 ok150 (by kernel_rfl) h
/-- internal/strconv.log10Pow2 -/
def m151 : MC := (.seq (.ops [⟨some 2, .assign (.const (.int .i64 0)), 3, none⟩])
    (.seq (.ops [⟨some 3, .move (.tmp 0), 3, none⟩, ⟨some 4, .binOp .mul 3 (.tmp 3) (.const (.int .i64 78913)) 3, 3, none⟩, ⟨some 5, .binOp .shr 3 (.tmp 4) (.const (.int .u64 18)) 209, 3, none⟩, ⟨some 2, .assign (.tmp 5), 3, none⟩])
    .ret))
def pl151 : Nat → Plan := fun _ => .done
theorem st151 : Go.Proofs.Tryz.f151.body.map (strip pl151) = some m151 := by kernel_rfl
theorem ok151 : okB pl151 Go.Proofs.Tryz.f151 1 = true := by kernel_rfl
theorem en151 {v0 w} {Q : Value → World → Prop} (h : mwpB Go.Proofs.Tryz.prog m151 (argEnv [v0]) [] w (fun e ds w => ds = [] ∧ resW Go.Proofs.Tryz.prog [.tmp 2] e w fun v => Q v w) (fun _ _ _ _ => False) (fun e ds w => ds = [] ∧ resW Go.Proofs.Tryz.prog [.tmp 2] e w fun v => Q v w) (fun _ _ _ => False) ⟨⟩) : Rets Go.Proofs.Tryz.prog 151 #[v0] w Q :=
  rets_of_mwp follows_mo Go.Proofs.Tryz.func151 pl151 st151 ok151 (by kernel_rfl) h
/-- math/bits.Len64 -/
def m152 : MC := (.seq (.ops [⟨some 2, .assign (.const (.int .i64 0)), 3, none⟩])
    (.seq (.seq (.ops [⟨some 3, .move (.tmp 0), 201, none⟩, ⟨some 4, .binOp .geq 201 (.tmp 3) (.const (.int .u64 4294967296)) 201, 4, none⟩])
    (.cond (.tmp 4) (.seq (.ops [⟨some 5, .move (.tmp 0), 201, none⟩, ⟨some 6, .binOp .shr 201 (.tmp 5) (.const (.int .u64 32)) 209, 201, none⟩, ⟨some 0, .assign (.tmp 6), 201, none⟩])
    (.ops [⟨some 2, .assign (.const (.int .i64 32)), 3, none⟩])) .skip))
    (.seq (.seq (.ops [⟨some 7, .move (.tmp 0), 201, none⟩, ⟨some 8, .binOp .geq 201 (.tmp 7) (.const (.int .u64 65536)) 201, 4, none⟩])
    (.cond (.tmp 8) (.seq (.ops [⟨some 9, .move (.tmp 0), 201, none⟩, ⟨some 10, .binOp .shr 201 (.tmp 9) (.const (.int .u64 16)) 209, 201, none⟩, ⟨some 0, .assign (.tmp 10), 201, none⟩])
    (.ops [⟨some 11, .move (.tmp 2), 3, none⟩, ⟨some 12, .binOp .add 3 (.tmp 11) (.const (.int .i64 16)) 3, 3, none⟩, ⟨some 2, .assign (.tmp 12), 3, none⟩])) .skip))
    (.seq (.seq (.ops [⟨some 13, .move (.tmp 0), 201, none⟩, ⟨some 14, .binOp .geq 201 (.tmp 13) (.const (.int .u64 256)) 201, 4, none⟩])
    (.cond (.tmp 14) (.seq (.ops [⟨some 15, .move (.tmp 0), 201, none⟩, ⟨some 16, .binOp .shr 201 (.tmp 15) (.const (.int .u64 8)) 209, 201, none⟩, ⟨some 0, .assign (.tmp 16), 201, none⟩])
    (.ops [⟨some 17, .move (.tmp 2), 3, none⟩, ⟨some 18, .binOp .add 3 (.tmp 17) (.const (.int .i64 8)) 3, 3, none⟩, ⟨some 2, .assign (.tmp 18), 3, none⟩])) .skip))
    (.seq (.ops [⟨some 19, .move (.tmp 2), 3, none⟩, ⟨some 20, .move (.tmp 0), 201, none⟩, ⟨some 21, .convert 201 5 (.tmp 20), 5, none⟩, ⟨some 22, .index 9 (.const (.string { data := #[0, 1, 2, 2, 3, 3, 3, 3, 4, 4, 4, 4, 4, 4, 4, 4, 5, 5, 5, 5, 5, 5, 5, 5, 5, 5, 5, 5, 5, 5, 5, 5, 6, 6, 6, 6, 6, 6, 6, 6, 6, 6, 6, 6, 6, 6, 6, 6, 6, 6, 6, 6, 6, 6, 6, 6, 6, 6, 6, 6, 6, 6, 6, 6, 7, 7, 7, 7, 7, 7, 7, 7, 7, 7, 7, 7, 7, 7, 7, 7, 7, 7, 7, 7, 7, 7, 7, 7, 7, 7, 7, 7, 7, 7, 7, 7, 7, 7, 7, 7, 7, 7, 7, 7, 7, 7, 7, 7, 7, 7, 7, 7, 7, 7, 7, 7, 7, 7, 7, 7, 7, 7, 7, 7, 7, 7, 7, 7, 8, 8, 8, 8, 8, 8, 8, 8, 8, 8, 8, 8, 8, 8, 8, 8, 8, 8, 8, 8, 8, 8, 8, 8, 8, 8, 8, 8, 8, 8, 8, 8, 8, 8, 8, 8, 8, 8, 8, 8, 8, 8, 8, 8, 8, 8, 8, 8, 8, 8, 8, 8, 8, 8, 8, 8, 8, 8, 8, 8, 8, 8, 8, 8, 8, 8, 8, 8, 8, 8, 8, 8, 8, 8, 8, 8, 8, 8, 8, 8, 8, 8, 8, 8, 8, 8, 8, 8, 8, 8, 8, 8, 8, 8, 8, 8, 8, 8, 8, 8, 8, 8, 8, 8, 8, 8, 8, 8, 8, 8, 8, 8, 8, 8, 8, 8, 8, 8, 8, 8, 8, 8, 8, 8, 8, 8, 8, 8] })) (.tmp 21), 5, none⟩, ⟨some 23, .convert 5 3 (.tmp 22), 3, none⟩, ⟨some 24, .binOp .add 3 (.tmp 19) (.tmp 23) 3, 3, none⟩, ⟨some 2, .assign (.tmp 24), 3, none⟩])
    .ret)))))
def pl152 : Nat → Plan := fun _ => .done
theorem st152 : Go.Proofs.Tryz.f152.body.map (strip pl152) = some m152 := by kernel_rfl
theorem ok152 : okB pl152 Go.Proofs.Tryz.f152 1 = true := by kernel_rfl
theorem en152 {v0 w} {Q : Value → World → Prop} (h : mwpB Go.Proofs.Tryz.prog m152 (argEnv [v0]) [] w (fun e ds w => ds = [] ∧ resW Go.Proofs.Tryz.prog [.tmp 2] e w fun v => Q v w) (fun _ _ _ _ => False) (fun e ds w => ds = [] ∧ resW Go.Proofs.Tryz.prog [.tmp 2] e w fun v => Q v w) (fun _ _ _ => False) ⟨⟩) : Rets Go.Proofs.Tryz.prog 152 #[v0] w Q :=
  rets_of_mwp follows_mo Go.Proofs.Tryz.func152 pl152 st152 ok152 (by kernel_rfl) h
/-- internal/strconv.bool2[int] -/
def m153 : MC := (.seq (.ops [⟨some 2, .assign (.const (.int .i64 0)), 3, none⟩])
    (.seq (.seq (.ops [⟨some 3, .move (.tmp 0), 4, none⟩])
    (.cond (.tmp 3) (.seq (.ops [⟨some 2, .assign (.const (.int .i64 1)), 3, none⟩])
    .ret) .skip))
    (.seq (.ops [⟨some 2, .assign (.const (.int .i64 0)), 3, none⟩])
    .ret)))
def pl153 : Nat → Plan := fun _ => .done
theorem st153 : Go.Proofs.Tryz.f153.body.map (strip pl153) = some m153 := by kernel_rfl
theorem ok153 : okB pl153 Go.Proofs.Tryz.f153 1 = true := by kernel_rfl
theorem en153 {v0 w} {Q : Value → World → Prop} (h : mwpB Go.Proofs.Tryz.prog m153 (argEnv [v0]) [] w (fun e ds w => ds = [] ∧ resW Go.Proofs.Tryz.prog [.tmp 2] e w fun v => Q v w) (fun _ _ _ _ => False) (fun e ds w => ds = [] ∧ resW Go.Proofs.Tryz.prog [.tmp 2] e w fun v => Q v w) (fun _ _ _ => False) ⟨⟩) : Rets Go.Proofs.Tryz.prog 153 #[v0] w Q :=
  rets_of_mwp follows_mo Go.Proofs.Tryz.func153 pl153 st153 ok153 (by kernel_rfl) h
/-- internal/strconv.isPowerOfTwo -/
def m154 : MC := (.seq (.ops [⟨some 2, .assign (.const (.bool false)), 4, none⟩])
    (.seq (.ops [⟨some 3, .move (.tmp 0), 3, none⟩, ⟨some 4, .move (.tmp 0), 3, none⟩, ⟨some 5, .binOp .sub 3 (.tmp 4) (.const (.int .i64 1)) 3, 3, none⟩, ⟨some 6, .binOp .and 3 (.tmp 3) (.tmp 5) 3, 3, none⟩, ⟨some 7, .binOp .eql 3 (.tmp 6) (.const (.int .i64 0)) 3, 4, none⟩, ⟨some 2, .assign (.tmp 7), 4, none⟩])
    .ret))
def pl154 : Nat → Plan := fun _ => .done
theorem st154 : Go.Proofs.Tryz.f154.body.map (strip pl154) = some m154 := by kernel_rfl
theorem ok154 : okB pl154 Go.Proofs.Tryz.f154 1 = true := by kernel_rfl
theorem en154 {v0 w} {Q : Value → World → Prop} (h : mwpB Go.Proofs.Tryz.prog m154 (argEnv [v0]) [] w (fun e ds w => ds = [] ∧ resW Go.Proofs.Tryz.prog [.tmp 2] e w fun v => Q v w) (fun _ _ _ _ => False) (fun e ds w => ds = [] ∧ resW Go.Proofs.Tryz.prog [.tmp 2] e w fun v => Q v w) (fun _ _ _ => False) ⟨⟩) : Rets Go.Proofs.Tryz.prog 154 #[v0] w Q :=
  rets_of_mwp follows_mo Go.Proofs.Tryz.func154 pl154 st154 ok154 (by kernel_rfl) h
/-- math/bits.TrailingZeros -/
def m155 : MC := (.seq (.ops [⟨some 2, .assign (.const (.int .i64 0)), 3, none⟩])
    (.seq (.cond (.const (.bool false)) (.seq (.ops [⟨some 3, .move (.tmp 0), 209, none⟩, ⟨some 4, .convert 209 218 (.tmp 3), 218, none⟩, ⟨some 5, .call { callee := .value (.func 160), args := #[.tmp 4], argTypes := #[218] }, 3, none⟩, ⟨some 2, .assign (.tmp 5), 3, none⟩])
    .ret) .skip)
    (.seq (.ops [⟨some 6, .move (.tmp 0), 209, none⟩, ⟨some 7, .call { callee := .value (.func 161), args := #[.tmp 6], argTypes := #[201] }, 3, none⟩, ⟨some 2, .assign (.tmp 7), 3, none⟩])
    .ret)))
def pl155 : Nat → Plan := fun _ => .done
theorem st155 : Go.Proofs.Tryz.f155.body.map (strip pl155) = some m155 := by kernel_rfl
theorem ok155 : okB pl155 Go.Proofs.Tryz.f155 1 = true := by kernel_rfl
theorem en155 {v0 w} {Q : Value → World → Prop} (h : mwpB Go.Proofs.Tryz.prog m155 (argEnv [v0]) [] w (fun e ds w => ds = [] ∧ resW Go.Proofs.Tryz.prog [.tmp 2] e w fun v => Q v w) (fun _ _ _ _ => False) (fun e ds w => ds = [] ∧ resW Go.Proofs.Tryz.prog [.tmp 2] e w fun v => Q v w) (fun _ _ _ => False) ⟨⟩) : Rets Go.Proofs.Tryz.prog 155 #[v0] w Q :=
  rets_of_mwp follows_mo Go.Proofs.Tryz.func155 pl155 st155 ok155 (by kernel_rfl) h
/-- internal/bytealg.hashStr[string] -/
def m157 : MC := (.seq (.ops [⟨some 2, .assign (.const (.int .u32 0)), 218, none⟩, ⟨some 3, .assign (.const (.int .u32 0)), 218, none⟩])
    (.seq (.ops [⟨some 4, .assign (.const (.int .u32 0)), 218, none⟩])
    (.seq (.seq (.ops [⟨some 5, .assign (.const (.int .i64 0)), 3, none⟩])
    (.block 0 (.loop (.seq (.seq (.ops [⟨some 9, .move (.tmp 5), 3, none⟩, ⟨some 10, .move (.tmp 0), 9, none⟩, ⟨some 11, .call { callee := .builtin .len, args := #[.tmp 10], argTypes := #[9] }, 3, none⟩, ⟨some 12, .binOp .lss 3 (.tmp 9) (.tmp 11) 3, 4, none⟩])
    (.cond (.tmp 12) .skip (.exit 0)))
    (.seq (.block 1 (.ops [⟨some 15, .move (.tmp 4), 218, none⟩, ⟨some 16, .binOp .mul 218 (.tmp 15) (.const (.int .u32 16777619)) 218, 218, none⟩, ⟨some 17, .move (.tmp 0), 9, none⟩, ⟨some 18, .move (.tmp 5), 3, none⟩, ⟨some 19, .index 9 (.tmp 17) (.tmp 18), 5, none⟩, ⟨some 20, .convert 5 218 (.tmp 19), 218, none⟩, ⟨some 21, .binOp .add 218 (.tmp 16) (.tmp 20) 218, 218, none⟩, ⟨some 4, .assign (.tmp 21), 218, none⟩]))
    (.ops [⟨some 13, .move (.tmp 5), 3, none⟩, ⟨some 14, .binOp .add 3 (.tmp 13) (.const (.int .i64 1)) 3, 3, none⟩, ⟨some 5, .assign (.tmp 14), 3, none⟩]))))))
    (.seq (.ops [⟨some 6, .assign (.const (.int .u32 1)), 218, none⟩, ⟨some 7, .assign (.const (.int .u32 16777619)), 218, none⟩])
    (.seq (.seq (.ops [⟨some 22, .move (.tmp 0), 9, none⟩, ⟨some 23, .call { callee := .builtin .len, args := #[.tmp 22], argTypes := #[9] }, 3, none⟩, ⟨some 8, .assign (.tmp 23), 3, none⟩])
    (.block 2 (.loop (.seq (.seq (.ops [⟨some 24, .move (.tmp 8), 3, none⟩, ⟨some 25, .binOp .gtr 3 (.tmp 24) (.const (.int .i64 0)) 3, 4, none⟩])
    (.cond (.tmp 25) .skip (.exit 2)))
    (.seq (.block 3 (.seq (.seq (.ops [⟨some 28, .move (.tmp 8), 3, none⟩, ⟨some 29, .binOp .and 3 (.tmp 28) (.const (.int .i64 1)) 3, 3, none⟩, ⟨some 30, .binOp .neq 3 (.tmp 29) (.const (.int .i64 0)) 3, 4, none⟩])
    (.cond (.tmp 30) (.ops [⟨some 31, .move (.tmp 6), 218, none⟩, ⟨some 32, .move (.tmp 7), 218, none⟩, ⟨some 33, .binOp .mul 218 (.tmp 31) (.tmp 32) 218, 218, none⟩, ⟨some 6, .assign (.tmp 33), 218, none⟩]) .skip))
    (.ops [⟨some 34, .move (.tmp 7), 218, none⟩, ⟨some 35, .move (.tmp 7), 218, none⟩, ⟨some 36, .binOp .mul 218 (.tmp 34) (.tmp 35) 218, 218, none⟩, ⟨some 7, .assign (.tmp 36), 218, none⟩])))
    (.ops [⟨some 26, .move (.tmp 8), 3, none⟩, ⟨some 27, .binOp .shr 3 (.tmp 26) (.const (.int .u64 1)) 209, 3, none⟩, ⟨some 8, .assign (.tmp 27), 3, none⟩]))))))
    (.seq (.ops [⟨some 37, .move (.tmp 4), 218, none⟩, ⟨some 38, .move (.tmp 6), 218, none⟩, ⟨some 2, .assign (.tmp 37), 218, none⟩, ⟨some 3, .assign (.tmp 38), 218, none⟩])
    .ret))))))
def pl157 : Nat → Plan := fun _ => .done
theorem st157 : Go.Proofs.Tryz.f157.body.map (strip pl157) = some m157 := by kernel_rfl
theorem ok157 : okB pl157 Go.Proofs.Tryz.f157 1 = true := by kernel_rfl
theorem en157 {v0 w} {Q : Value → World → Prop} (h : mwpB Go.Proofs.Tryz.prog m157 (argEnv [v0]) [] w (fun e ds w => ds = [] ∧ resW Go.Proofs.Tryz.prog [.tmp 2, .tmp 3] e w fun v => Q v w) (fun _ _ _ _ => False) (fun e ds w => ds = [] ∧ resW Go.Proofs.Tryz.prog [.tmp 2, .tmp 3] e w fun v => Q v w) (fun _ _ _ => False) ⟨⟩) : Rets Go.Proofs.Tryz.prog 157 #[v0] w Q :=
  rets_of_mwp follows_mo Go.Proofs.Tryz.func157 pl157 st157 ok157 (by kernel_rfl) h
/-- internal/strconv.lower -/
def m158 : MC := (.seq (.ops [⟨some 2, .assign (.const (.int .u8 0)), 5, none⟩])
    (.seq (.ops [⟨some 3, .move (.tmp 0), 5, none⟩, ⟨some 4, .binOp .or 5 (.tmp 3) (.const (.int .u8 32)) 5, 5, none⟩, ⟨some 2, .assign (.tmp 4), 5, none⟩])
    .ret))
def pl158 : Nat → Plan := fun _ => .done
theorem st158 : Go.Proofs.Tryz.f158.body.map (strip pl158) = some m158 := by kernel_rfl
theorem ok158 : okB pl158 Go.Proofs.Tryz.f158 1 = true := by kernel_rfl
theorem en158 {v0 w} {Q : Value → World → Prop} (h : mwpB Go.Proofs.Tryz.prog m158 (argEnv [v0]) [] w (fun e ds w => ds = [] ∧ resW Go.Proofs.Tryz.prog [.tmp 2] e w fun v => Q v w) (fun _ _ _ _ => False) (fun e ds w => ds = [] ∧ resW Go.Proofs.Tryz.prog [.tmp 2] e w fun v => Q v w) (fun _ _ _ => False) ⟨⟩) : Rets Go.Proofs.Tryz.prog 158 #[v0] w Q :=
  rets_of_mwp follows_mo Go.Proofs.Tryz.func158 pl158 st158 ok158 (by kernel_rfl) h
/-- internal/strconv.underscoreOK -/
def m159 : MC := (.seq (.ops [⟨some 2, .assign (.const (.bool false)), 4, none⟩])
    (.seq (.ops [⟨some 3, .assign (.const (.int .i32 94)), 21, none⟩])
    (.seq (.ops [⟨some 4, .assign (.const (.int .i64 0)), 3, none⟩])
    (.seq (.seq (.ops [⟨some 6, .move (.tmp 0), 9, none⟩, ⟨some 7, .call { callee := .builtin .len, args := #[.tmp 6], argTypes := #[9] }, 3, none⟩, ⟨some 8, .binOp .geq 3 (.tmp 7) (.const (.int .i64 1)) 3, 4, none⟩, ⟨some 9, .move (.tmp 8), 4, none⟩, ⟨some 10, .move (.tmp 0), 9, some (some 9, true)⟩, ⟨some 11, .index 9 (.tmp 10) (.const (.int .i64 0)), 5, some (some 9, true)⟩, ⟨some 12, .binOp .eql 5 (.tmp 11) (.const (.int .u8 45)) 5, 4, some (some 9, true)⟩, ⟨some 13, .move (.tmp 12), 4, some (some 9, true)⟩, ⟨some 14, .move (.tmp 0), 9, some (some 13, false)⟩, ⟨some 15, .index 9 (.tmp 14) (.const (.int .i64 0)), 5, some (some 13, false)⟩, ⟨some 16, .binOp .eql 5 (.tmp 15) (.const (.int .u8 43)) 5, 4, some (some 13, false)⟩, ⟨some 17, .pick (.tmp 13) (.const (.bool true)) (.tmp 16), 4, some (some 9, true)⟩, ⟨some 18, .pick (.tmp 9) (.tmp 17) (.const (.bool false)), 4, none⟩])
    (.cond (.tmp 18) (.ops [⟨some 19, .move (.tmp 0), 9, none⟩, ⟨some 20, .slice 9 (.tmp 19) (some (.const (.int .i64 1))) none none, 9, none⟩, ⟨some 0, .assign (.tmp 20), 9, none⟩]) .skip))
    (.seq (.ops [⟨some 5, .assign (.const (.bool false)), 4, none⟩])
    (.seq (.seq (.ops [⟨some 21, .move (.tmp 0), 9, none⟩, ⟨some 22, .call { callee := .builtin .len, args := #[.tmp 21], argTypes := #[9] }, 3, none⟩, ⟨some 23, .binOp .geq 3 (.tmp 22) (.const (.int .i64 2)) 3, 4, none⟩, ⟨some 24, .move (.tmp 23), 4, none⟩, ⟨some 25, .move (.tmp 0), 9, some (some 24, true)⟩, ⟨some 26, .index 9 (.tmp 25) (.const (.int .i64 0)), 5, some (some 24, true)⟩, ⟨some 27, .binOp .eql 5 (.tmp 26) (.const (.int .u8 48)) 5, 4, some (some 24, true)⟩, ⟨some 28, .pick (.tmp 24) (.tmp 27) (.const (.bool false)), 4, none⟩, ⟨some 29, .move (.tmp 28), 4, none⟩, ⟨some 30, .move (.tmp 0), 9, some (some 29, true)⟩, ⟨some 31, .index 9 (.tmp 30) (.const (.int .i64 1)), 5, some (some 29, true)⟩, ⟨some 32, .call { callee := .value (.func 158), args := #[.tmp 31], argTypes := #[5] }, 5, some (some 29, true)⟩, ⟨some 33, .binOp .eql 5 (.tmp 32) (.const (.int .u8 98)) 5, 4, some (some 29, true)⟩, ⟨some 34, .move (.tmp 33), 4, some (some 29, true)⟩, ⟨some 35, .move (.tmp 0), 9, some (some 34, false)⟩, ⟨some 36, .index 9 (.tmp 35) (.const (.int .i64 1)), 5, some (some 34, false)⟩, ⟨some 37, .call { callee := .value (.func 158), args := #[.tmp 36], argTypes := #[5] }, 5, some (some 34, false)⟩, ⟨some 38, .binOp .eql 5 (.tmp 37) (.const (.int .u8 111)) 5, 4, some (some 34, false)⟩, ⟨some 39, .pick (.tmp 34) (.const (.bool true)) (.tmp 38), 4, some (some 29, true)⟩, ⟨some 40, .move (.tmp 39), 4, some (some 29, true)⟩, ⟨some 41, .move (.tmp 0), 9, some (some 40, false)⟩, ⟨some 42, .index 9 (.tmp 41) (.const (.int .i64 1)), 5, some (some 40, false)⟩, ⟨some 43, .call { callee := .value (.func 158), args := #[.tmp 42], argTypes := #[5] }, 5, some (some 40, false)⟩, ⟨some 44, .binOp .eql 5 (.tmp 43) (.const (.int .u8 120)) 5, 4, some (some 40, false)⟩, ⟨some 45, .pick (.tmp 40) (.const (.bool true)) (.tmp 44), 4, some (some 29, true)⟩, ⟨some 46, .pick (.tmp 29) (.tmp 45) (.const (.bool false)), 4, none⟩])
    (.cond (.tmp 46) (.seq (.ops [⟨some 4, .assign (.const (.int .i64 2)), 3, none⟩])
    (.seq (.ops [⟨some 3, .assign (.const (.int .i32 48)), 21, none⟩])
    (.ops [⟨some 47, .move (.tmp 0), 9, none⟩, ⟨some 48, .index 9 (.tmp 47) (.const (.int .i64 1)), 5, none⟩, ⟨some 49, .call { callee := .value (.func 158), args := #[.tmp 48], argTypes := #[5] }, 5, none⟩, ⟨some 50, .binOp .eql 5 (.tmp 49) (.const (.int .u8 120)) 5, 4, none⟩, ⟨some 5, .assign (.tmp 50), 4, none⟩]))) .skip))
    (.seq (.block 0 (.loop (.seq (.seq (.ops [⟨some 51, .move (.tmp 4), 3, none⟩, ⟨some 52, .move (.tmp 0), 9, none⟩, ⟨some 53, .call { callee := .builtin .len, args := #[.tmp 52], argTypes := #[9] }, 3, none⟩, ⟨some 54, .binOp .lss 3 (.tmp 51) (.tmp 53) 3, 4, none⟩])
    (.cond (.tmp 54) .skip (.exit 0)))
    (.seq (.block 1 (.seq (.seq (.ops [⟨some 57, .move (.tmp 0), 9, none⟩, ⟨some 58, .move (.tmp 4), 3, none⟩, ⟨some 59, .index 9 (.tmp 57) (.tmp 58), 5, none⟩, ⟨some 60, .binOp .leq 5 (.const (.int .u8 48)) (.tmp 59) 5, 4, none⟩, ⟨some 61, .move (.tmp 60), 4, none⟩, ⟨some 62, .move (.tmp 0), 9, some (some 61, true)⟩, ⟨some 63, .move (.tmp 4), 3, some (some 61, true)⟩, ⟨some 64, .index 9 (.tmp 62) (.tmp 63), 5, some (some 61, true)⟩, ⟨some 65, .binOp .leq 5 (.tmp 64) (.const (.int .u8 57)) 5, 4, some (some 61, true)⟩, ⟨some 66, .pick (.tmp 61) (.tmp 65) (.const (.bool false)), 4, none⟩, ⟨some 67, .move (.tmp 66), 4, none⟩, ⟨some 68, .move (.tmp 5), 4, some (some 67, false)⟩, ⟨some 69, .move (.tmp 68), 4, some (some 67, false)⟩, ⟨some 70, .move (.tmp 0), 9, some (some 69, true)⟩, ⟨some 71, .move (.tmp 4), 3, some (some 69, true)⟩, ⟨some 72, .index 9 (.tmp 70) (.tmp 71), 5, some (some 69, true)⟩, ⟨some 73, .call { callee := .value (.func 158), args := #[.tmp 72], argTypes := #[5] }, 5, some (some 69, true)⟩, ⟨some 74, .binOp .leq 5 (.const (.int .u8 97)) (.tmp 73) 5, 4, some (some 69, true)⟩, ⟨some 75, .pick (.tmp 69) (.tmp 74) (.const (.bool false)), 4, some (some 67, false)⟩, ⟨some 76, .move (.tmp 75), 4, some (some 67, false)⟩, ⟨some 77, .move (.tmp 0), 9, some (some 76, true)⟩, ⟨some 78, .move (.tmp 4), 3, some (some 76, true)⟩, ⟨some 79, .index 9 (.tmp 77) (.tmp 78), 5, some (some 76, true)⟩, ⟨some 80, .call { callee := .value (.func 158), args := #[.tmp 79], argTypes := #[5] }, 5, some (some 76, true)⟩, ⟨some 81, .binOp .leq 5 (.tmp 80) (.const (.int .u8 102)) 5, 4, some (some 76, true)⟩, ⟨some 82, .pick (.tmp 76) (.tmp 81) (.const (.bool false)), 4, some (some 67, false)⟩, ⟨some 83, .pick (.tmp 67) (.const (.bool true)) (.tmp 82), 4, none⟩])
    (.cond (.tmp 83) (.seq (.ops [⟨some 3, .assign (.const (.int .i32 48)), 21, none⟩])
    (.exit 1)) .skip))
    (.seq (.seq (.ops [⟨some 84, .move (.tmp 0), 9, none⟩, ⟨some 85, .move (.tmp 4), 3, none⟩, ⟨some 86, .index 9 (.tmp 84) (.tmp 85), 5, none⟩, ⟨some 87, .binOp .eql 5 (.tmp 86) (.const (.int .u8 95)) 5, 4, none⟩])
    (.cond (.tmp 87) (.seq (.seq (.ops [⟨some 88, .move (.tmp 3), 21, none⟩, ⟨some 89, .binOp .neq 21 (.tmp 88) (.const (.int .i32 48)) 21, 4, none⟩])
    (.cond (.tmp 89) (.seq (.ops [⟨some 2, .assign (.const (.bool false)), 4, none⟩])
    .ret) .skip))
    (.seq (.ops [⟨some 3, .assign (.const (.int .i32 95)), 21, none⟩])
    (.exit 1))) .skip))
    (.seq (.seq (.ops [⟨some 90, .move (.tmp 3), 21, none⟩, ⟨some 91, .binOp .eql 21 (.tmp 90) (.const (.int .i32 95)) 21, 4, none⟩])
    (.cond (.tmp 91) (.seq (.ops [⟨some 2, .assign (.const (.bool false)), 4, none⟩])
    .ret) .skip))
    (.ops [⟨some 3, .assign (.const (.int .i32 33)), 21, none⟩])))))
    (.ops [⟨some 55, .move (.tmp 4), 3, none⟩, ⟨some 56, .binOp .add 3 (.tmp 55) (.const (.int .i64 1)) 3, 3, none⟩, ⟨some 4, .assign (.tmp 56), 3, none⟩])))))
    (.seq (.ops [⟨some 92, .move (.tmp 3), 21, none⟩, ⟨some 93, .binOp .neq 21 (.tmp 92) (.const (.int .i32 95)) 21, 4, none⟩, ⟨some 2, .assign (.tmp 93), 4, none⟩])
    .ret))))))))
def pl159 : Nat → Plan := fun _ => .done
theorem st159 : Go.Proofs.Tryz.f159.body.map (strip pl159) = some m159 := by kernel_rfl
theorem ok159 : okB pl159 Go.Proofs.Tryz.f159 1 = true := by kernel_rfl
theorem en159 {v0 w} {Q : Value → World → Prop} (h : mwpB Go.Proofs.Tryz.prog m159 (argEnv [v0]) [] w (fun e ds w => ds = [] ∧ resW Go.Proofs.Tryz.prog [.tmp 2] e w fun v => Q v w) (fun _ _ _ _ => False) (fun e ds w => ds = [] ∧ resW Go.Proofs.Tryz.prog [.tmp 2] e w fun v => Q v w) (fun _ _ _ => False) ⟨⟩) : Rets Go.Proofs.Tryz.prog 159 #[v0] w Q :=
  rets_of_mwp follows_mo Go.Proofs.Tryz.func159 pl159 st159 ok159 (by kernel_rfl) h
/-- math/bits.TrailingZeros32 -/
def m160 : MC := (.seq (.ops [⟨some 2, .assign (.const (.int .i64 0)), 3, none⟩])
    (.seq (.seq (.ops [⟨some 3, .move (.tmp 0), 218, none⟩, ⟨some 4, .binOp .eql 218 (.tmp 3) (.const (.int .u32 0)) 218, 4, none⟩])
    (.cond (.tmp 4) (.seq (.ops [⟨some 2, .assign (.const (.int .i64 32)), 3, none⟩])
    .ret) .skip))
    (.seq (.ops [⟨some 5, .move (.tmp 0), 218, none⟩, ⟨some 6, .move (.tmp 0), 218, none⟩, ⟨some 7, .unOp .neg 218 (.tmp 6), 218, none⟩, ⟨some 8, .binOp .and 218 (.tmp 5) (.tmp 7) 218, 218, none⟩, ⟨some 9, .binOp .mul 218 (.tmp 8) (.const (.int .u32 125613361)) 218, 218, none⟩, ⟨some 10, .binOp .shr 218 (.tmp 9) (.const (.int .u64 27)) 209, 218, none⟩, ⟨some 11, .indexAddr 233 (.global 6) (.tmp 10), 0, none⟩, ⟨some 12, .load 5 (.tmp 11), 5, none⟩, ⟨some 13, .convert 5 3 (.tmp 12), 3, none⟩, ⟨some 2, .assign (.tmp 13), 3, none⟩])
    .ret)))
def pl160 : Nat → Plan := fun _ => .done
theorem st160 : Go.Proofs.Tryz.f160.body.map (strip pl160) = some m160 := by kernel_rfl
theorem ok160 : okB pl160 Go.Proofs.Tryz.f160 1 = true := by kernel_rfl
theorem en160 {v0 w} {Q : Value → World → Prop} (h : mwpB Go.Proofs.Tryz.prog m160 (argEnv [v0]) [] w (fun e ds w => ds = [] ∧ resW Go.Proofs.Tryz.prog [.tmp 2] e w fun v => Q v w) (fun _ _ _ _ => False) (fun e ds w => ds = [] ∧ resW Go.Proofs.Tryz.prog [.tmp 2] e w fun v => Q v w) (fun _ _ _ => False) ⟨⟩) : Rets Go.Proofs.Tryz.prog 160 #[v0] w Q :=
  rets_of_mwp follows_mo Go.Proofs.Tryz.func160 pl160 st160 ok160 (by kernel_rfl) h
/-- math/bits.TrailingZeros64 -/
def m161 : MC := (.seq (.ops [⟨some 2, .assign (.const (.int .i64 0)), 3, none⟩])
    (.seq (.seq (.ops [⟨some 3, .move (.tmp 0), 201, none⟩, ⟨some 4, .binOp .eql 201 (.tmp 3) (.const (.int .u64 0)) 201, 4, none⟩])
    (.cond (.tmp 4) (.seq (.ops [⟨some 2, .assign (.const (.int .i64 64)), 3, none⟩])
    .ret) .skip))
    (.seq (.ops [⟨some 5, .move (.tmp 0), 201, none⟩, ⟨some 6, .move (.tmp 0), 201, none⟩, ⟨some 7, .unOp .neg 201 (.tmp 6), 201, none⟩, ⟨some 8, .binOp .and 201 (.tmp 5) (.tmp 7) 201, 201, none⟩, ⟨some 9, .binOp .mul 201 (.tmp 8) (.const (.int .u64 285870213051353865)) 201, 201, none⟩, ⟨some 10, .binOp .shr 201 (.tmp 9) (.const (.int .u64 58)) 209, 201, none⟩, ⟨some 11, .indexAddr 234 (.global 7) (.tmp 10), 0, none⟩, ⟨some 12, .load 5 (.tmp 11), 5, none⟩, ⟨some 13, .convert 5 3 (.tmp 12), 3, none⟩, ⟨some 2, .assign (.tmp 13), 3, none⟩])
    .ret)))
def pl161 : Nat → Plan := fun _ => .done
theorem st161 : Go.Proofs.Tryz.f161.body.map (strip pl161) = some m161 := by kernel_rfl
theorem ok161 : okB pl161 Go.Proofs.Tryz.f161 1 = true := by kernel_rfl
theorem en161 {v0 w} {Q : Value → World → Prop} (h : mwpB Go.Proofs.Tryz.prog m161 (argEnv [v0]) [] w (fun e ds w => ds = [] ∧ resW Go.Proofs.Tryz.prog [.tmp 2] e w fun v => Q v w) (fun _ _ _ _ => False) (fun e ds w => ds = [] ∧ resW Go.Proofs.Tryz.prog [.tmp 2] e w fun v => Q v w) (fun _ _ _ => False) ⟨⟩) : Rets Go.Proofs.Tryz.prog 161 #[v0] w Q :=
  rets_of_mwp follows_mo Go.Proofs.Tryz.func161 pl161 st161 ok161 (by kernel_rfl) h
/-- (*continuo/effect.level).follow -/
def m177 : MC := (.seq (.ops [⟨some 4, .assign (.const (.int .i64 0)), 3, none⟩])
    (.seq (.ops [⟨some 7, .move (.tmp 1), 3, none⟩, ⟨some 8, .move (.tmp 1), 3, none⟩, ⟨some 9, .unOp .neg 3 (.tmp 8), 3, none⟩, ⟨some 10, .call { callee := .builtin .max, args := #[.tmp 7, .tmp 9], argTypes := #[3, 3] }, 3, none⟩, ⟨some 5, .assign (.tmp 10), 3, none⟩])
    (.seq (.ops [⟨some 11, .move (.tmp 0), 247, none⟩, ⟨some 12, .nilCheck (.tmp 11), 0, none⟩, ⟨some 13, .fieldAddr 98 (.tmp 12) 3, 0, none⟩, ⟨some 14, .load 3 (.tmp 13), 3, none⟩, ⟨some 6, .assign (.tmp 14), 3, none⟩])
    (.seq (.seq (.ops [⟨some 15, .move (.tmp 5), 3, none⟩, ⟨some 16, .move (.tmp 0), 247, none⟩, ⟨some 17, .nilCheck (.tmp 16), 0, none⟩, ⟨some 18, .fieldAddr 98 (.tmp 17) 4, 0, none⟩, ⟨some 19, .load 3 (.tmp 18), 3, none⟩, ⟨some 20, .binOp .gtr 3 (.tmp 15) (.tmp 19) 3, 4, none⟩])
    (.cond (.tmp 20) (.ops [⟨some 21, .move (.tmp 0), 247, none⟩, ⟨some 22, .nilCheck (.tmp 21), 0, none⟩, ⟨some 23, .fieldAddr 98 (.tmp 22) 2, 0, none⟩, ⟨some 24, .load 3 (.tmp 23), 3, none⟩, ⟨some 6, .assign (.tmp 24), 3, none⟩]) .skip))
    (.seq (.draw (.take ⟨some 25, .move (.tmp 0), 247, none⟩ (.take ⟨some 26, .nilCheck (.tmp 25), 0, none⟩ (.take ⟨some 27, .fieldAddr 98 (.tmp 26) 4, 0, none⟩ (.take ⟨some 28, .load 3 (.tmp 27), 3, none⟩ (.take ⟨some 29, .move (.tmp 5), 3, none⟩ (.take ⟨some 30, .move (.tmp 0), 247, none⟩ (.take ⟨some 31, .nilCheck (.tmp 30), 0, none⟩ (.take ⟨some 32, .fieldAddr 98 (.tmp 31) 4, 0, none⟩ (.take ⟨some 33, .load 3 (.tmp 32), 3, none⟩ (.take ⟨some 34, .binOp .sub 3 (.tmp 29) (.tmp 33) 3, 3, none⟩ (.take ⟨some 35, .move (.tmp 6), 3, none⟩ (.take ⟨some 36, .binOp .mul 3 (.tmp 34) (.tmp 35) 3, 3, none⟩ (.alt ⟨some 37, .call { callee := .value (.func 70), args := #[.tmp 36], argTypes := #[3] }, 3, none⟩ (.take ⟨some 38, .binOp .add 3 (.tmp 28) (.tmp 37) 3, 3, none⟩ (.take ⟨some 39, .nilCheck (.tmp 25), 0, none⟩ (.take ⟨some 40, .fieldAddr 98 (.tmp 39) 4, 0, none⟩ (.altL ⟨none, .store 3 (.tmp 40) (.tmp 38), 0, none⟩ .done .none)))) .none))))))))))))))
    (.seq (.seq (.draw (.take ⟨some 41, .move (.tmp 0), 247, none⟩ (.take ⟨some 42, .nilCheck (.tmp 41), 0, none⟩ (.take ⟨some 43, .fieldAddr 98 (.tmp 42) 4, 0, none⟩ (.take ⟨some 44, .load 3 (.tmp 43), 3, none⟩ (.take ⟨some 45, .move (.tmp 0), 247, none⟩ (.take ⟨some 46, .nilCheck (.tmp 45), 0, none⟩ (.take ⟨some 47, .fieldAddr 98 (.tmp 46) 0, 0, none⟩ (.take ⟨some 48, .load 3 (.tmp 47), 3, none⟩ (.take ⟨some 49, .binOp .leq 3 (.tmp 44) (.tmp 48) 3, 4, none⟩ .done))))))))))
    (.cond (.tmp 49) (.seq (.ops [⟨some 4, .assign (.const (.int .i64 65536)), 3, none⟩])
    .ret) .skip))
    (.seq (.draw (.take ⟨some 50, .move (.tmp 0), 247, none⟩ (.take ⟨some 51, .nilCheck (.tmp 50), 0, none⟩ (.take ⟨some 52, .fieldAddr 98 (.tmp 51) 0, 0, none⟩ (.take ⟨some 53, .load 3 (.tmp 52), 3, none⟩ (.take ⟨some 54, .binOp .mul 3 (.tmp 53) (.const (.int .i64 65536)) 3, 3, none⟩ (.take ⟨some 55, .move (.tmp 0), 247, none⟩ (.take ⟨some 56, .nilCheck (.tmp 55), 0, none⟩ (.take ⟨some 57, .fieldAddr 98 (.tmp 56) 4, 0, none⟩ (.take ⟨some 58, .load 3 (.tmp 57), 3, none⟩ (.take ⟨some 59, .move (.tmp 0), 247, none⟩ (.take ⟨some 60, .nilCheck (.tmp 59), 0, none⟩ (.take ⟨some 61, .fieldAddr 98 (.tmp 60) 0, 0, none⟩ (.take ⟨some 62, .load 3 (.tmp 61), 3, none⟩ (.take ⟨some 63, .binOp .sub 3 (.tmp 58) (.tmp 62) 3, 3, none⟩ (.take ⟨some 64, .binOp .mul 3 (.tmp 63) (.const (.int .i64 65536)) 3, 3, none⟩ (.take ⟨some 65, .binOp .mul 3 (.tmp 64) (.const (.int .i64 65536)) 3, 3, none⟩ (.take ⟨some 66, .move (.tmp 0), 247, none⟩ (.take ⟨some 67, .nilCheck (.tmp 66), 0, none⟩ (.take ⟨some 68, .fieldAddr 98 (.tmp 67) 1, 0, none⟩ (.take ⟨some 69, .load 3 (.tmp 68), 3, none⟩ (.take ⟨some 70, .binOp .quo 3 (.tmp 65) (.tmp 69) 3, 3, none⟩ (.take ⟨some 71, .binOp .add 3 (.tmp 54) (.tmp 70) 3, 3, none⟩ (.take ⟨some 72, .move (.tmp 0), 247, none⟩ (.take ⟨some 73, .nilCheck (.tmp 72), 0, none⟩ (.take ⟨some 74, .fieldAddr 98 (.tmp 73) 4, 0, none⟩ (.take ⟨some 75, .load 3 (.tmp 74), 3, none⟩ (.take ⟨some 76, .binOp .quo 3 (.tmp 71) (.tmp 75) 3, 3, none⟩ (.take ⟨some 4, .assign (.tmp 76), 3, none⟩ .done)))))))))))))))))))))))))))))
    .ret)))))))
def pl177 : Nat → Plan := fun id => if id = 5 then (.take 0 (.take 1 (.take 2 (.take 3 (.take 4 (.take 5 (.take 6 (.take 7 (.take 8 (.take 9 (.take 10 (.take 11 (.alt 12 (.take 13 (.take 14 (.take 15 (.altL 16 .done .none)))) .none))))))))))))) else if id = 6 then (.take 0 (.take 1 (.take 2 (.take 3 (.take 4 (.take 5 (.take 6 (.take 7 (.take 8 .done))))))))) else if id = 8 then (.take 0 (.take 1 (.take 2 (.take 3 (.take 4 (.take 5 (.take 6 (.take 7 (.take 8 (.take 9 (.take 10 (.take 11 (.take 12 (.take 13 (.take 14 (.take 15 (.take 16 (.take 17 (.take 18 (.take 19 (.take 20 (.take 21 (.take 22 (.take 23 (.take 24 (.take 25 (.take 26 (.take 27 .done)))))))))))))))))))))))))))) else .done
theorem st177 : Go.Proofs.Tryz.f177.body.map (strip pl177) = some m177 := by kernel_rfl
theorem ok177 : okB pl177 Go.Proofs.Tryz.f177 2 = true := by kernel_rfl
theorem en177 {v0 v1 w} {Q : Value → World → Prop} (h : mwpB Go.Proofs.Tryz.prog m177 (argEnv [v0, v1]) [] w (fun e ds w => ds = [] ∧ resW Go.Proofs.Tryz.prog [.tmp 4] e w fun v => Q v w) (fun _ _ _ _ => False) (fun e ds w => ds = [] ∧ resW Go.Proofs.Tryz.prog [.tmp 4] e w fun v => Q v w) (fun _ _ _ => False) ⟨⟩) : Rets Go.Proofs.Tryz.prog 177 #[v0, v1] w Q :=
  rets_of_mwp follows_mo Go.Proofs.Tryz.func177 pl177 st177 ok177 (by kernel_rfl) h
/-- (*continuo/effect.presses).resume -/
def m178 : MC := (.ops [⟨some 4, .move (.tmp 0), 96, none⟩, ⟨some 5, .move (.tmp 1), 22, none⟩, ⟨some 6, .indexAddr 22 (.tmp 5) (.const (.int .i64 0)), 0, none⟩, ⟨some 7, .load 3 (.tmp 6), 3, none⟩, ⟨some 8, .nilCheck (.tmp 4), 0, none⟩, ⟨some 9, .fieldAddr 100 (.tmp 8) 0, 0, none⟩, ⟨some 10, .fieldAddr 98 (.tmp 9) 4, 0, none⟩, ⟨none, .store 3 (.tmp 10) (.tmp 7), 0, none⟩])
def pl178 : Nat → Plan := fun _ => .done
theorem st178 : Go.Proofs.Tryz.f178.body.map (strip pl178) = some m178 := by kernel_rfl
theorem ok178 : okB pl178 Go.Proofs.Tryz.f178 2 = true := by kernel_rfl
theorem en178 {v0 v1 w} {Q : Value → World → Prop} (h : mwpB Go.Proofs.Tryz.prog m178 (argEnv [v0, v1]) [] w (fun e ds w => ds = [] ∧ resW Go.Proofs.Tryz.prog [] e w fun v => Q v w) (fun _ _ _ _ => False) (fun e ds w => ds = [] ∧ resW Go.Proofs.Tryz.prog [] e w fun v => Q v w) (fun _ _ _ => False) ⟨⟩) : Rets Go.Proofs.Tryz.prog 178 #[v0, v1] w Q :=
  rets_of_mwp follows_mo Go.Proofs.Tryz.func178 pl178 st178 ok178 (by kernel_rfl) h
/-- (*continuo/effect.presses).state -/
def m179 : MC := (.seq (.ops [⟨some 2, .assign (.const (.slice none 0 0)), 22, none⟩])
    (.seq (.ops [⟨some 3, .move (.tmp 0), 96, none⟩, ⟨some 4, .nilCheck (.tmp 3), 0, none⟩, ⟨some 5, .fieldAddr 100 (.tmp 4) 0, 0, none⟩, ⟨some 6, .fieldAddr 98 (.tmp 5) 4, 0, none⟩, ⟨some 7, .load 3 (.tmp 6), 3, none⟩, ⟨some 8, .buildSlice 22 1 #[(0, .tmp 7)], 22, none⟩, ⟨some 2, .assign (.tmp 8), 22, none⟩])
    .ret))
def pl179 : Nat → Plan := fun _ => .done
theorem st179 : Go.Proofs.Tryz.f179.body.map (strip pl179) = some m179 := by kernel_rfl
theorem ok179 : okB pl179 Go.Proofs.Tryz.f179 1 = true := by kernel_rfl
theorem en179 {v0 w} {Q : Value → World → Prop} (h : mwpB Go.Proofs.Tryz.prog m179 (argEnv [v0]) [] w (fun e ds w => ds = [] ∧ resW Go.Proofs.Tryz.prog [.tmp 2] e w fun v => Q v w) (fun _ _ _ _ => False) (fun e ds w => ds = [] ∧ resW Go.Proofs.Tryz.prog [.tmp 2] e w fun v => Q v w) (fun _ _ _ => False) ⟨⟩) : Rets Go.Proofs.Tryz.prog 179 #[v0] w Q :=
  rets_of_mwp follows_mo Go.Proofs.Tryz.func179 pl179 st179 ok179 (by kernel_rfl) h
/-- (*continuo/effect.presses).step -/
def m180 : MC := (.seq (.ops [⟨some 4, .assign (.const (.int .i64 0)), 3, none⟩])
    (.seq (.ops [⟨some 5, .move (.tmp 1), 3, none⟩, ⟨some 6, .move (.tmp 0), 96, none⟩, ⟨some 7, .nilCheck (.tmp 6), 0, none⟩, ⟨some 8, .fieldAddr 100 (.tmp 7) 0, 0, none⟩, ⟨some 9, .move (.tmp 1), 3, none⟩, ⟨some 10, .call { callee := .value (.func 177), args := #[.tmp 8, .tmp 9], argTypes := #[98, 3] }, 3, none⟩, ⟨some 11, .binOp .mul 3 (.tmp 5) (.tmp 10) 3, 3, none⟩, ⟨some 12, .call { callee := .value (.func 70), args := #[.tmp 11], argTypes := #[3] }, 3, none⟩, ⟨some 4, .assign (.tmp 12), 3, none⟩])
    .ret))
def pl180 : Nat → Plan := fun _ => .done
theorem st180 : Go.Proofs.Tryz.f180.body.map (strip pl180) = some m180 := by kernel_rfl
theorem ok180 : okB pl180 Go.Proofs.Tryz.f180 2 = true := by kernel_rfl
theorem en180 {v0 v1 w} {Q : Value → World → Prop} (h : mwpB Go.Proofs.Tryz.prog m180 (argEnv [v0, v1]) [] w (fun e ds w => ds = [] ∧ resW Go.Proofs.Tryz.prog [.tmp 4] e w fun v => Q v w) (fun _ _ _ _ => False) (fun e ds w => ds = [] ∧ resW Go.Proofs.Tryz.prog [.tmp 4] e w fun v => Q v w) (fun _ _ _ => False) ⟨⟩) : Rets Go.Proofs.Tryz.prog 180 #[v0, v1] w Q :=
  rets_of_mwp follows_mo Go.Proofs.Tryz.func180 pl180 st180 ok180 (by kernel_rfl) h
/-- (*continuo/effect.looks).l0 -/
def m181 : MC := (.seq (.ops [⟨some 2, .assign (.const (.int .i64 0)), 3, none⟩])
    (.seq (.ops [⟨some 3, .move (.tmp 0), 101, none⟩, ⟨some 4, .nilCheck (.tmp 3), 0, none⟩, ⟨some 5, .fieldAddr 105 (.tmp 4) 0, 0, none⟩, ⟨some 6, .fieldAddr 98 (.tmp 5) 4, 0, none⟩, ⟨some 7, .load 3 (.tmp 6), 3, none⟩, ⟨some 2, .assign (.tmp 7), 3, none⟩])
    .ret))
def pl181 : Nat → Plan := fun _ => .done
theorem st181 : Go.Proofs.Tryz.f181.body.map (strip pl181) = some m181 := by kernel_rfl
theorem ok181 : okB pl181 Go.Proofs.Tryz.f181 1 = true := by kernel_rfl
theorem en181 {v0 w} {Q : Value → World → Prop} (h : mwpB Go.Proofs.Tryz.prog m181 (argEnv [v0]) [] w (fun e ds w => ds = [] ∧ resW Go.Proofs.Tryz.prog [.tmp 2] e w fun v => Q v w) (fun _ _ _ _ => False) (fun e ds w => ds = [] ∧ resW Go.Proofs.Tryz.prog [.tmp 2] e w fun v => Q v w) (fun _ _ _ => False) ⟨⟩) : Rets Go.Proofs.Tryz.prog 181 #[v0] w Q :=
  rets_of_mwp follows_mo Go.Proofs.Tryz.func181 pl181 st181 ok181 (by kernel_rfl) h
/-- (*continuo/effect.looks).resume -/
def m182 : MC := (.seq (.ops [⟨some 4, .move (.tmp 0), 101, none⟩, ⟨some 5, .move (.tmp 1), 22, none⟩, ⟨some 6, .indexAddr 22 (.tmp 5) (.const (.int .i64 0)), 0, none⟩, ⟨some 7, .load 3 (.tmp 6), 3, none⟩, ⟨some 8, .nilCheck (.tmp 4), 0, none⟩, ⟨some 9, .fieldAddr 105 (.tmp 8) 0, 0, none⟩, ⟨some 10, .fieldAddr 98 (.tmp 9) 4, 0, none⟩, ⟨none, .store 3 (.tmp 10) (.tmp 7), 0, none⟩])
    (.draw (.take ⟨some 11, .move (.tmp 0), 101, none⟩ (.take ⟨some 12, .nilCheck (.tmp 11), 0, none⟩ (.take ⟨some 13, .fieldAddr 105 (.tmp 12) 1, 0, none⟩ (.take ⟨some 14, .move (.tmp 1), 22, none⟩ (.take ⟨some 15, .slice 22 (.tmp 14) (some (.const (.int .i64 1))) none none, 22, none⟩ (.alt ⟨some 16, .call { callee := .value (.func 63), args := #[.tmp 13, .tmp 15], argTypes := #[103, 22] }, 0, none⟩ .done .none))))))))
def pl182 : Nat → Plan := fun id => if id = 1 then (.take 0 (.take 1 (.take 2 (.take 3 (.take 4 (.alt 5 .done .none)))))) else .done
theorem st182 : Go.Proofs.Tryz.f182.body.map (strip pl182) = some m182 := by kernel_rfl
theorem ok182 : okB pl182 Go.Proofs.Tryz.f182 2 = true := by kernel_rfl
theorem en182 {v0 v1 w} {Q : Value → World → Prop} (h : mwpB Go.Proofs.Tryz.prog m182 (argEnv [v0, v1]) [] w (fun e ds w => ds = [] ∧ resW Go.Proofs.Tryz.prog [] e w fun v => Q v w) (fun _ _ _ _ => False) (fun e ds w => ds = [] ∧ resW Go.Proofs.Tryz.prog [] e w fun v => Q v w) (fun _ _ _ => False) ⟨⟩) : Rets Go.Proofs.Tryz.prog 182 #[v0, v1] w Q :=
  rets_of_mwp follows_mo Go.Proofs.Tryz.func182 pl182 st182 ok182 (by kernel_rfl) h
/-- (*continuo/effect.looks).state -/
def m183 : MC := (.seq (.ops [⟨some 2, .assign (.const (.slice none 0 0)), 22, none⟩])
    (.seq (.draw (.take ⟨some 3, .move (.tmp 0), 101, none⟩ (.take ⟨some 6, .move (.tmp 0), 101, none⟩ (.take ⟨some 7, .nilCheck (.tmp 6), 0, none⟩ (.take ⟨some 8, .fieldAddr 105 (.tmp 7) 1, 0, none⟩ (.alt ⟨some 4, .call { callee := .value (.func 181), args := #[.tmp 3], argTypes := #[101] }, 3, none⟩ (.alt ⟨some 5, .buildSlice 22 1 #[(0, .tmp 4)], 22, none⟩ (.alt ⟨some 9, .call { callee := .value (.func 65), args := #[.tmp 8], argTypes := #[103] }, 22, none⟩ (.alt ⟨some 10, .call { callee := .builtin .append, args := #[.tmp 5, .tmp 9], argTypes := #[22, 22] }, 22, none⟩ (.take ⟨some 2, .assign (.tmp 10), 22, none⟩ .done) .none) .none) (.alt ⟨some 9, .call { callee := .value (.func 65), args := #[.tmp 8], argTypes := #[103] }, 22, none⟩ (.alt ⟨some 5, .buildSlice 22 1 #[(0, .tmp 4)], 22, none⟩ (.alt ⟨some 10, .call { callee := .builtin .append, args := #[.tmp 5, .tmp 9], argTypes := #[22, 22] }, 22, none⟩ (.take ⟨some 2, .assign (.tmp 10), 22, none⟩ .done) .none) .none) .none)) .none))))))
    .ret))
def pl183 : Nat → Plan := fun id => if id = 1 then (.take 0 (.take 3 (.take 4 (.take 5 (.alt 1 (.alt 2 (.alt 6 (.alt 7 (.take 8 .done) .none) .none) (.alt 6 (.alt 2 (.alt 7 (.take 8 .done) .none) .none) .none)) .none))))) else .done
theorem st183 : Go.Proofs.Tryz.f183.body.map (strip pl183) = some m183 := by kernel_rfl
theorem ok183 : okB pl183 Go.Proofs.Tryz.f183 1 = true := by kernel_rfl
theorem en183 {v0 w} {Q : Value → World → Prop} (h : mwpB Go.Proofs.Tryz.prog m183 (argEnv [v0]) [] w (fun e ds w => ds = [] ∧ resW Go.Proofs.Tryz.prog [.tmp 2] e w fun v => Q v w) (fun _ _ _ _ => False) (fun e ds w => ds = [] ∧ resW Go.Proofs.Tryz.prog [.tmp 2] e w fun v => Q v w) (fun _ _ _ => False) ⟨⟩) : Rets Go.Proofs.Tryz.prog 183 #[v0] w Q :=
  rets_of_mwp follows_mo Go.Proofs.Tryz.func183 pl183 st183 ok183 (by kernel_rfl) h
/-- (*continuo/effect.looks).step -/
def m184 : MC := (.seq (.ops [⟨some 4, .assign (.const (.int .i64 0)), 3, none⟩])
    (.seq (.ops [⟨some 6, .move (.tmp 0), 101, none⟩, ⟨some 7, .nilCheck (.tmp 6), 0, none⟩, ⟨some 8, .fieldAddr 105 (.tmp 7) 0, 0, none⟩, ⟨some 9, .move (.tmp 1), 3, none⟩, ⟨some 10, .call { callee := .value (.func 177), args := #[.tmp 8, .tmp 9], argTypes := #[98, 3] }, 3, none⟩, ⟨some 5, .assign (.tmp 10), 3, none⟩])
    (.seq (.ops [⟨some 11, .move (.tmp 0), 101, none⟩, ⟨some 12, .nilCheck (.tmp 11), 0, none⟩, ⟨some 13, .fieldAddr 105 (.tmp 12) 1, 0, none⟩, ⟨some 14, .move (.tmp 1), 3, none⟩, ⟨some 15, .call { callee := .value (.func 57), args := #[.tmp 13, .tmp 14], argTypes := #[103, 3] }, 3, none⟩, ⟨some 16, .move (.tmp 5), 3, none⟩, ⟨some 17, .binOp .mul 3 (.tmp 15) (.tmp 16) 3, 3, none⟩, ⟨some 18, .call { callee := .value (.func 70), args := #[.tmp 17], argTypes := #[3] }, 3, none⟩, ⟨some 4, .assign (.tmp 18), 3, none⟩])
    .ret)))
def pl184 : Nat → Plan := fun _ => .done
theorem st184 : Go.Proofs.Tryz.f184.body.map (strip pl184) = some m184 := by kernel_rfl
theorem ok184 : okB pl184 Go.Proofs.Tryz.f184 2 = true := by kernel_rfl
theorem en184 {v0 v1 w} {Q : Value → World → Prop} (h : mwpB Go.Proofs.Tryz.prog m184 (argEnv [v0, v1]) [] w (fun e ds w => ds = [] ∧ resW Go.Proofs.Tryz.prog [.tmp 4] e w fun v => Q v w) (fun _ _ _ _ => False) (fun e ds w => ds = [] ∧ resW Go.Proofs.Tryz.prog [.tmp 4] e w fun v => Q v w) (fun _ _ _ => False) ⟨⟩) : Rets Go.Proofs.Tryz.prog 184 #[v0, v1] w Q :=
  rets_of_mwp follows_mo Go.Proofs.Tryz.func184 pl184 st184 ok184 (by kernel_rfl) h
/-- (*continuo/effect.gains).resume -/
def m185 : MC := .skip
def pl185 : Nat → Plan := fun _ => .done
theorem st185 : Go.Proofs.Tryz.f185.body.map (strip pl185) = some m185 := by kernel_rfl
theorem ok185 : okB pl185 Go.Proofs.Tryz.f185 2 = true := by kernel_rfl
theorem en185 {v0 v1 w} {Q : Value → World → Prop} (h : mwpB Go.Proofs.Tryz.prog m185 (argEnv [v0, v1]) [] w (fun e ds w => ds = [] ∧ resW Go.Proofs.Tryz.prog [] e w fun v => Q v w) (fun _ _ _ _ => False) (fun e ds w => ds = [] ∧ resW Go.Proofs.Tryz.prog [] e w fun v => Q v w) (fun _ _ _ => False) ⟨⟩) : Rets Go.Proofs.Tryz.prog 185 #[v0, v1] w Q :=
  rets_of_mwp follows_mo Go.Proofs.Tryz.func185 pl185 st185 ok185 (by kernel_rfl) h
/-- (*continuo/effect.gains).state -/
def m186 : MC := (.seq (.ops [⟨some 2, .assign (.const (.slice none 0 0)), 22, none⟩])
    (.seq (.ops [⟨some 2, .assign (.const (.slice none 0 0)), 22, none⟩])
    .ret))
def pl186 : Nat → Plan := fun _ => .done
theorem st186 : Go.Proofs.Tryz.f186.body.map (strip pl186) = some m186 := by kernel_rfl
theorem ok186 : okB pl186 Go.Proofs.Tryz.f186 1 = true := by kernel_rfl
theorem en186 {v0 w} {Q : Value → World → Prop} (h : mwpB Go.Proofs.Tryz.prog m186 (argEnv [v0]) [] w (fun e ds w => ds = [] ∧ resW Go.Proofs.Tryz.prog [.tmp 2] e w fun v => Q v w) (fun _ _ _ _ => False) (fun e ds w => ds = [] ∧ resW Go.Proofs.Tryz.prog [.tmp 2] e w fun v => Q v w) (fun _ _ _ => False) ⟨⟩) : Rets Go.Proofs.Tryz.prog 186 #[v0] w Q :=
  rets_of_mwp follows_mo Go.Proofs.Tryz.func186 pl186 st186 ok186 (by kernel_rfl) h
/-- (*continuo/effect.gains).step -/
def m187 : MC := (.seq (.ops [⟨some 4, .assign (.const (.int .i64 0)), 3, none⟩])
    (.seq (.ops [⟨some 5, .move (.tmp 1), 3, none⟩, ⟨some 6, .move (.tmp 0), 146, none⟩, ⟨some 7, .nilCheck (.tmp 6), 0, none⟩, ⟨some 8, .fieldAddr 148 (.tmp 7) 0, 0, none⟩, ⟨some 9, .load 3 (.tmp 8), 3, none⟩, ⟨some 10, .binOp .mul 3 (.tmp 5) (.tmp 9) 3, 3, none⟩, ⟨some 11, .call { callee := .value (.func 70), args := #[.tmp 10], argTypes := #[3] }, 3, none⟩, ⟨some 12, .call { callee := .value (.func 58), args := #[.tmp 11], argTypes := #[3] }, 3, none⟩, ⟨some 4, .assign (.tmp 12), 3, none⟩])
    .ret))
def pl187 : Nat → Plan := fun _ => .done
theorem st187 : Go.Proofs.Tryz.f187.body.map (strip pl187) = some m187 := by kernel_rfl
theorem ok187 : okB pl187 Go.Proofs.Tryz.f187 2 = true := by kernel_rfl
theorem en187 {v0 v1 w} {Q : Value → World → Prop} (h : mwpB Go.Proofs.Tryz.prog m187 (argEnv [v0, v1]) [] w (fun e ds w => ds = [] ∧ resW Go.Proofs.Tryz.prog [.tmp 4] e w fun v => Q v w) (fun _ _ _ _ => False) (fun e ds w => ds = [] ∧ resW Go.Proofs.Tryz.prog [.tmp 4] e w fun v => Q v w) (fun _ _ _ => False) ⟨⟩) : Rets Go.Proofs.Tryz.prog 187 #[v0, v1] w Q :=
  rets_of_mwp follows_mo Go.Proofs.Tryz.func187 pl187 st187 ok187 (by kernel_rfl) h
/-- (*continuo/effect.delays).resume -/
def m188 : MC := (.ops [⟨some 4, .move (.tmp 0), 150, none⟩, ⟨some 5, .nilCheck (.tmp 4), 0, none⟩, ⟨some 6, .fieldAddr 153 (.tmp 5) 0, 0, none⟩, ⟨some 7, .move (.tmp 1), 22, none⟩, ⟨some 8, .call { callee := .value (.func 63), args := #[.tmp 6, .tmp 7], argTypes := #[103, 22] }, 0, none⟩])
def pl188 : Nat → Plan := fun _ => .done
theorem st188 : Go.Proofs.Tryz.f188.body.map (strip pl188) = some m188 := by kernel_rfl
theorem ok188 : okB pl188 Go.Proofs.Tryz.f188 2 = true := by kernel_rfl
theorem en188 {v0 v1 w} {Q : Value → World → Prop} (h : mwpB Go.Proofs.Tryz.prog m188 (argEnv [v0, v1]) [] w (fun e ds w => ds = [] ∧ resW Go.Proofs.Tryz.prog [] e w fun v => Q v w) (fun _ _ _ _ => False) (fun e ds w => ds = [] ∧ resW Go.Proofs.Tryz.prog [] e w fun v => Q v w) (fun _ _ _ => False) ⟨⟩) : Rets Go.Proofs.Tryz.prog 188 #[v0, v1] w Q :=
  rets_of_mwp follows_mo Go.Proofs.Tryz.func188 pl188 st188 ok188 (by kernel_rfl) h
/-- (*continuo/effect.delays).state -/
def m189 : MC := (.seq (.ops [⟨some 2, .assign (.const (.slice none 0 0)), 22, none⟩])
    (.seq (.ops [⟨some 3, .move (.tmp 0), 150, none⟩, ⟨some 4, .nilCheck (.tmp 3), 0, none⟩, ⟨some 5, .fieldAddr 153 (.tmp 4) 0, 0, none⟩, ⟨some 6, .call { callee := .value (.func 65), args := #[.tmp 5], argTypes := #[103] }, 22, none⟩, ⟨some 2, .assign (.tmp 6), 22, none⟩])
    .ret))
def pl189 : Nat → Plan := fun _ => .done
theorem st189 : Go.Proofs.Tryz.f189.body.map (strip pl189) = some m189 := by kernel_rfl
theorem ok189 : okB pl189 Go.Proofs.Tryz.f189 1 = true := by kernel_rfl
theorem en189 {v0 w} {Q : Value → World → Prop} (h : mwpB Go.Proofs.Tryz.prog m189 (argEnv [v0]) [] w (fun e ds w => ds = [] ∧ resW Go.Proofs.Tryz.prog [.tmp 2] e w fun v => Q v w) (fun _ _ _ _ => False) (fun e ds w => ds = [] ∧ resW Go.Proofs.Tryz.prog [.tmp 2] e w fun v => Q v w) (fun _ _ _ => False) ⟨⟩) : Rets Go.Proofs.Tryz.prog 189 #[v0] w Q :=
  rets_of_mwp follows_mo Go.Proofs.Tryz.func189 pl189 st189 ok189 (by kernel_rfl) h
/-- (*continuo/effect.delays).step -/
def m190 : MC := (.seq (.ops [⟨some 4, .assign (.const (.int .i64 0)), 3, none⟩])
    (.seq (.ops [⟨some 5, .move (.tmp 0), 150, none⟩, ⟨some 6, .nilCheck (.tmp 5), 0, none⟩, ⟨some 7, .fieldAddr 153 (.tmp 6) 0, 0, none⟩, ⟨some 8, .move (.tmp 1), 3, none⟩, ⟨some 9, .call { callee := .value (.func 57), args := #[.tmp 7, .tmp 8], argTypes := #[103, 3] }, 3, none⟩, ⟨some 4, .assign (.tmp 9), 3, none⟩])
    .ret))
def pl190 : Nat → Plan := fun _ => .done
theorem st190 : Go.Proofs.Tryz.f190.body.map (strip pl190) = some m190 := by kernel_rfl
theorem ok190 : okB pl190 Go.Proofs.Tryz.f190 2 = true := by kernel_rfl
theorem en190 {v0 v1 w} {Q : Value → World → Prop} (h : mwpB Go.Proofs.Tryz.prog m190 (argEnv [v0, v1]) [] w (fun e ds w => ds = [] ∧ resW Go.Proofs.Tryz.prog [.tmp 4] e w fun v => Q v w) (fun _ _ _ _ => False) (fun e ds w => ds = [] ∧ resW Go.Proofs.Tryz.prog [.tmp 4] e w fun v => Q v w) (fun _ _ _ => False) ⟨⟩) : Rets Go.Proofs.Tryz.prog 190 #[v0, v1] w Q :=
  rets_of_mwp follows_mo Go.Proofs.Tryz.func190 pl190 st190 ok190 (by kernel_rfl) h
/-- (*continuo/effect.echoes).resume -/
def m191 : MC := (.ops [⟨some 4, .move (.tmp 0), 154, none⟩, ⟨some 5, .nilCheck (.tmp 4), 0, none⟩, ⟨some 6, .fieldAddr 156 (.tmp 5) 0, 0, none⟩, ⟨some 7, .move (.tmp 1), 22, none⟩, ⟨some 8, .call { callee := .value (.func 63), args := #[.tmp 6, .tmp 7], argTypes := #[103, 22] }, 0, none⟩])
def pl191 : Nat → Plan := fun _ => .done
theorem st191 : Go.Proofs.Tryz.f191.body.map (strip pl191) = some m191 := by kernel_rfl
theorem ok191 : okB pl191 Go.Proofs.Tryz.f191 2 = true := by kernel_rfl
theorem en191 {v0 v1 w} {Q : Value → World → Prop} (h : mwpB Go.Proofs.Tryz.prog m191 (argEnv [v0, v1]) [] w (fun e ds w => ds = [] ∧ resW Go.Proofs.Tryz.prog [] e w fun v => Q v w) (fun _ _ _ _ => False) (fun e ds w => ds = [] ∧ resW Go.Proofs.Tryz.prog [] e w fun v => Q v w) (fun _ _ _ => False) ⟨⟩) : Rets Go.Proofs.Tryz.prog 191 #[v0, v1] w Q :=
  rets_of_mwp follows_mo Go.Proofs.Tryz.func191 pl191 st191 ok191 (by kernel_rfl) h
/-- (*continuo/effect.echoes).state -/
def m192 : MC := (.seq (.ops [⟨some 2, .assign (.const (.slice none 0 0)), 22, none⟩])
    (.seq (.ops [⟨some 3, .move (.tmp 0), 154, none⟩, ⟨some 4, .nilCheck (.tmp 3), 0, none⟩, ⟨some 5, .fieldAddr 156 (.tmp 4) 0, 0, none⟩, ⟨some 6, .call { callee := .value (.func 65), args := #[.tmp 5], argTypes := #[103] }, 22, none⟩, ⟨some 2, .assign (.tmp 6), 22, none⟩])
    .ret))
def pl192 : Nat → Plan := fun _ => .done
theorem st192 : Go.Proofs.Tryz.f192.body.map (strip pl192) = some m192 := by kernel_rfl
theorem ok192 : okB pl192 Go.Proofs.Tryz.f192 1 = true := by kernel_rfl
theorem en192 {v0 w} {Q : Value → World → Prop} (h : mwpB Go.Proofs.Tryz.prog m192 (argEnv [v0]) [] w (fun e ds w => ds = [] ∧ resW Go.Proofs.Tryz.prog [.tmp 2] e w fun v => Q v w) (fun _ _ _ _ => False) (fun e ds w => ds = [] ∧ resW Go.Proofs.Tryz.prog [.tmp 2] e w fun v => Q v w) (fun _ _ _ => False) ⟨⟩) : Rets Go.Proofs.Tryz.prog 192 #[v0] w Q :=
  rets_of_mwp follows_mo Go.Proofs.Tryz.func192 pl192 st192 ok192 (by kernel_rfl) h
/-- (*continuo/effect.echoes).step -/
def m193 : MC := (.seq (.ops [⟨some 4, .assign (.const (.int .i64 0)), 3, none⟩])
    (.seq (.draw (.take ⟨some 6, .move (.tmp 1), 3, none⟩ (.take ⟨some 7, .move (.tmp 0), 154, none⟩ (.take ⟨some 8, .nilCheck (.tmp 7), 0, none⟩ (.take ⟨some 9, .fieldAddr 156 (.tmp 8) 0, 0, none⟩ (.take ⟨some 10, .move (.tmp 0), 154, none⟩ (.take ⟨some 11, .nilCheck (.tmp 10), 0, none⟩ (.take ⟨some 12, .fieldAddr 156 (.tmp 11) 0, 0, none⟩ (.take ⟨some 13, .fieldAddr 103 (.tmp 12) 0, 0, none⟩ (.take ⟨some 14, .load 22 (.tmp 13), 22, none⟩ (.take ⟨some 15, .call { callee := .builtin .len, args := #[.tmp 14], argTypes := #[22] }, 3, none⟩ (.take ⟨some 17, .move (.tmp 0), 154, none⟩ (.take ⟨some 18, .nilCheck (.tmp 17), 0, none⟩ (.take ⟨some 19, .fieldAddr 156 (.tmp 18) 1, 0, none⟩ (.take ⟨some 20, .load 3 (.tmp 19), 3, none⟩ (.alt ⟨some 16, .call { callee := .value (.func 100), args := #[.tmp 9, .tmp 15], argTypes := #[103, 3] }, 3, none⟩ (.take ⟨some 21, .binOp .mul 3 (.tmp 16) (.tmp 20) 3, 3, none⟩ (.alt ⟨some 22, .call { callee := .value (.func 70), args := #[.tmp 21], argTypes := #[3] }, 3, none⟩ (.take ⟨some 23, .binOp .add 3 (.tmp 6) (.tmp 22) 3, 3, none⟩ (.alt ⟨some 24, .call { callee := .value (.func 58), args := #[.tmp 23], argTypes := #[3] }, 3, none⟩ (.take ⟨some 5, .assign (.tmp 24), 3, none⟩ .done) .none)) .none)) .none))))))))))))))))
    (.seq (.ops [⟨some 25, .move (.tmp 0), 154, none⟩, ⟨some 26, .nilCheck (.tmp 25), 0, none⟩, ⟨some 27, .fieldAddr 156 (.tmp 26) 0, 0, none⟩, ⟨some 28, .move (.tmp 5), 3, none⟩, ⟨some 29, .call { callee := .value (.func 101), args := #[.tmp 27, .tmp 28], argTypes := #[103, 3] }, 0, none⟩])
    (.seq (.ops [⟨some 30, .move (.tmp 5), 3, none⟩, ⟨some 4, .assign (.tmp 30), 3, none⟩])
    .ret))))
def pl193 : Nat → Plan := fun id => if id = 1 then (.take 0 (.take 1 (.take 2 (.take 3 (.take 4 (.take 5 (.take 6 (.take 7 (.take 8 (.take 9 (.take 11 (.take 12 (.take 13 (.take 14 (.alt 10 (.take 15 (.alt 16 (.take 17 (.alt 18 (.take 19 .done) .none)) .none)) .none))))))))))))))) else .done
theorem st193 : Go.Proofs.Tryz.f193.body.map (strip pl193) = some m193 := by kernel_rfl
theorem ok193 : okB pl193 Go.Proofs.Tryz.f193 2 = true := by kernel_rfl
theorem en193 {v0 v1 w} {Q : Value → World → Prop} (h : mwpB Go.Proofs.Tryz.prog m193 (argEnv [v0, v1]) [] w (fun e ds w => ds = [] ∧ resW Go.Proofs.Tryz.prog [.tmp 4] e w fun v => Q v w) (fun _ _ _ _ => False) (fun e ds w => ds = [] ∧ resW Go.Proofs.Tryz.prog [.tmp 4] e w fun v => Q v w) (fun _ _ _ => False) ⟨⟩) : Rets Go.Proofs.Tryz.prog 193 #[v0, v1] w Q :=
  rets_of_mwp follows_mo Go.Proofs.Tryz.func193 pl193 st193 ok193 (by kernel_rfl) h
/-- (*continuo/effect.filters).resume -/
def m194 : MC := (.ops [⟨some 4, .move (.tmp 0), 157, none⟩, ⟨some 5, .nilCheck (.tmp 4), 0, none⟩, ⟨some 6, .fieldAddr 160 (.tmp 5) 0, 0, none⟩, ⟨some 7, .move (.tmp 1), 22, none⟩, ⟨some 8, .call { callee := .value (.func 63), args := #[.tmp 6, .tmp 7], argTypes := #[103, 22] }, 0, none⟩])
def pl194 : Nat → Plan := fun _ => .done
theorem st194 : Go.Proofs.Tryz.f194.body.map (strip pl194) = some m194 := by kernel_rfl
theorem ok194 : okB pl194 Go.Proofs.Tryz.f194 2 = true := by kernel_rfl
theorem en194 {v0 v1 w} {Q : Value → World → Prop} (h : mwpB Go.Proofs.Tryz.prog m194 (argEnv [v0, v1]) [] w (fun e ds w => ds = [] ∧ resW Go.Proofs.Tryz.prog [] e w fun v => Q v w) (fun _ _ _ _ => False) (fun e ds w => ds = [] ∧ resW Go.Proofs.Tryz.prog [] e w fun v => Q v w) (fun _ _ _ => False) ⟨⟩) : Rets Go.Proofs.Tryz.prog 194 #[v0, v1] w Q :=
  rets_of_mwp follows_mo Go.Proofs.Tryz.func194 pl194 st194 ok194 (by kernel_rfl) h
/-- (*continuo/effect.filters).state -/
def m195 : MC := (.seq (.ops [⟨some 2, .assign (.const (.slice none 0 0)), 22, none⟩])
    (.seq (.ops [⟨some 3, .move (.tmp 0), 157, none⟩, ⟨some 4, .nilCheck (.tmp 3), 0, none⟩, ⟨some 5, .fieldAddr 160 (.tmp 4) 0, 0, none⟩, ⟨some 6, .call { callee := .value (.func 65), args := #[.tmp 5], argTypes := #[103] }, 22, none⟩, ⟨some 2, .assign (.tmp 6), 22, none⟩])
    .ret))
def pl195 : Nat → Plan := fun _ => .done
theorem st195 : Go.Proofs.Tryz.f195.body.map (strip pl195) = some m195 := by kernel_rfl
theorem ok195 : okB pl195 Go.Proofs.Tryz.f195 1 = true := by kernel_rfl
theorem en195 {v0 w} {Q : Value → World → Prop} (h : mwpB Go.Proofs.Tryz.prog m195 (argEnv [v0]) [] w (fun e ds w => ds = [] ∧ resW Go.Proofs.Tryz.prog [.tmp 2] e w fun v => Q v w) (fun _ _ _ _ => False) (fun e ds w => ds = [] ∧ resW Go.Proofs.Tryz.prog [.tmp 2] e w fun v => Q v w) (fun _ _ _ => False) ⟨⟩) : Rets Go.Proofs.Tryz.prog 195 #[v0] w Q :=
  rets_of_mwp follows_mo Go.Proofs.Tryz.func195 pl195 st195 ok195 (by kernel_rfl) h
/-- (*continuo/effect.filters).step -/
def m196 : MC := (.seq (.ops [⟨some 4, .assign (.const (.int .i64 0)), 3, none⟩])
    (.seq (.ops [⟨some 8, .move (.tmp 0), 157, none⟩, ⟨some 9, .nilCheck (.tmp 8), 0, none⟩, ⟨some 10, .fieldAddr 160 (.tmp 9) 1, 0, none⟩, ⟨some 11, .load 22 (.tmp 10), 22, none⟩, ⟨some 12, .indexAddr 22 (.tmp 11) (.const (.int .i64 0)), 0, none⟩, ⟨some 13, .load 3 (.tmp 12), 3, none⟩, ⟨some 14, .move (.tmp 1), 3, none⟩, ⟨some 15, .binOp .mul 3 (.tmp 13) (.tmp 14) 3, 3, none⟩, ⟨some 5, .assign (.tmp 15), 3, none⟩])
    (.seq (.seq (.ops [⟨some 16, .move (.tmp 0), 157, none⟩, ⟨some 17, .nilCheck (.tmp 16), 0, none⟩, ⟨some 18, .fieldAddr 160 (.tmp 17) 1, 0, none⟩, ⟨some 19, .load 22 (.tmp 18), 22, none⟩, ⟨some 20, .slice 22 (.tmp 19) (some (.const (.int .i64 1))) none none, 22, none⟩, ⟨some 21, .call { callee := .builtin .len, args := #[.tmp 20], argTypes := #[22] }, 3, none⟩, ⟨some 22, .move (.const (.int .i64 0)), 3, none⟩])
    (.block 0 (.loop (.seq (.ops [⟨some 23, .binOp .lss 3 (.tmp 22) (.tmp 21) 3, 0, none⟩])
    (.seq (.cond (.tmp 23) .skip (.exit 0))
    (.seq (.block 1 (.seq (.ops [⟨some 24, .move (.tmp 22), 3, none⟩, ⟨some 25, .indexAddr 22 (.tmp 20) (.tmp 22), 0, none⟩, ⟨some 26, .load 3 (.tmp 25), 3, none⟩, ⟨some 6, .assign (.tmp 24), 3, none⟩, ⟨some 7, .assign (.tmp 26), 3, none⟩])
    (.ops [⟨some 27, .move (.tmp 5), 3, none⟩, ⟨some 28, .move (.tmp 7), 3, none⟩, ⟨some 29, .move (.tmp 0), 157, none⟩, ⟨some 30, .nilCheck (.tmp 29), 0, none⟩, ⟨some 31, .fieldAddr 160 (.tmp 30) 0, 0, none⟩, ⟨some 32, .move (.tmp 6), 3, none⟩, ⟨some 33, .binOp .add 3 (.tmp 32) (.const (.int .i64 1)) 3, 3, none⟩, ⟨some 34, .call { callee := .value (.func 100), args := #[.tmp 31, .tmp 33], argTypes := #[103, 3] }, 3, none⟩, ⟨some 35, .binOp .mul 3 (.tmp 28) (.tmp 34) 3, 3, none⟩, ⟨some 36, .binOp .add 3 (.tmp 27) (.tmp 35) 3, 3, none⟩, ⟨some 5, .assign (.tmp 36), 3, none⟩])))
    (.ops [⟨some 37, .binOp .add 3 (.tmp 22) (.const (.int .i64 1)) 3, 3, none⟩, ⟨some 22, .move (.tmp 37), 3, none⟩])))))))
    (.seq (.ops [⟨some 38, .move (.tmp 0), 157, none⟩, ⟨some 39, .nilCheck (.tmp 38), 0, none⟩, ⟨some 40, .fieldAddr 160 (.tmp 39) 0, 0, none⟩, ⟨some 41, .move (.tmp 1), 3, none⟩, ⟨some 42, .call { callee := .value (.func 101), args := #[.tmp 40, .tmp 41], argTypes := #[103, 3] }, 0, none⟩])
    (.seq (.ops [⟨some 43, .move (.tmp 5), 3, none⟩, ⟨some 44, .call { callee := .value (.func 70), args := #[.tmp 43], argTypes := #[3] }, 3, none⟩, ⟨some 45, .call { callee := .value (.func 58), args := #[.tmp 44], argTypes := #[3] }, 3, none⟩, ⟨some 4, .assign (.tmp 45), 3, none⟩])
    .ret)))))
def pl196 : Nat → Plan := fun _ => .done
theorem st196 : Go.Proofs.Tryz.f196.body.map (strip pl196) = some m196 := by kernel_rfl
theorem ok196 : okB pl196 Go.Proofs.Tryz.f196 2 = true := by kernel_rfl
theorem en196 {v0 v1 w} {Q : Value → World → Prop} (h : mwpB Go.Proofs.Tryz.prog m196 (argEnv [v0, v1]) [] w (fun e ds w => ds = [] ∧ resW Go.Proofs.Tryz.prog [.tmp 4] e w fun v => Q v w) (fun _ _ _ _ => False) (fun e ds w => ds = [] ∧ resW Go.Proofs.Tryz.prog [.tmp 4] e w fun v => Q v w) (fun _ _ _ => False) ⟨⟩) : Rets Go.Proofs.Tryz.prog 196 #[v0, v1] w Q :=
  rets_of_mwp follows_mo Go.Proofs.Tryz.func196 pl196 st196 ok196 (by kernel_rfl) h
/-- (*continuo/effect.gates).resume -/
def m197 : MC := (.ops [⟨some 4, .move (.tmp 0), 161, none⟩, ⟨some 5, .move (.tmp 1), 22, none⟩, ⟨some 6, .indexAddr 22 (.tmp 5) (.const (.int .i64 0)), 0, none⟩, ⟨some 7, .load 3 (.tmp 6), 3, none⟩, ⟨some 8, .nilCheck (.tmp 4), 0, none⟩, ⟨some 9, .fieldAddr 163 (.tmp 8) 2, 0, none⟩, ⟨none, .store 3 (.tmp 9) (.tmp 7), 0, none⟩])
def pl197 : Nat → Plan := fun _ => .done
theorem st197 : Go.Proofs.Tryz.f197.body.map (strip pl197) = some m197 := by kernel_rfl
theorem ok197 : okB pl197 Go.Proofs.Tryz.f197 2 = true := by kernel_rfl
theorem en197 {v0 v1 w} {Q : Value → World → Prop} (h : mwpB Go.Proofs.Tryz.prog m197 (argEnv [v0, v1]) [] w (fun e ds w => ds = [] ∧ resW Go.Proofs.Tryz.prog [] e w fun v => Q v w) (fun _ _ _ _ => False) (fun e ds w => ds = [] ∧ resW Go.Proofs.Tryz.prog [] e w fun v => Q v w) (fun _ _ _ => False) ⟨⟩) : Rets Go.Proofs.Tryz.prog 197 #[v0, v1] w Q :=
  rets_of_mwp follows_mo Go.Proofs.Tryz.func197 pl197 st197 ok197 (by kernel_rfl) h
/-- (*continuo/effect.gates).state -/
def m198 : MC := (.seq (.ops [⟨some 2, .assign (.const (.slice none 0 0)), 22, none⟩])
    (.seq (.ops [⟨some 3, .move (.tmp 0), 161, none⟩, ⟨some 4, .nilCheck (.tmp 3), 0, none⟩, ⟨some 5, .fieldAddr 163 (.tmp 4) 2, 0, none⟩, ⟨some 6, .load 3 (.tmp 5), 3, none⟩, ⟨some 7, .buildSlice 22 1 #[(0, .tmp 6)], 22, none⟩, ⟨some 2, .assign (.tmp 7), 22, none⟩])
    .ret))
def pl198 : Nat → Plan := fun _ => .done
theorem st198 : Go.Proofs.Tryz.f198.body.map (strip pl198) = some m198 := by kernel_rfl
theorem ok198 : okB pl198 Go.Proofs.Tryz.f198 1 = true := by kernel_rfl
theorem en198 {v0 w} {Q : Value → World → Prop} (h : mwpB Go.Proofs.Tryz.prog m198 (argEnv [v0]) [] w (fun e ds w => ds = [] ∧ resW Go.Proofs.Tryz.prog [.tmp 2] e w fun v => Q v w) (fun _ _ _ _ => False) (fun e ds w => ds = [] ∧ resW Go.Proofs.Tryz.prog [.tmp 2] e w fun v => Q v w) (fun _ _ _ => False) ⟨⟩) : Rets Go.Proofs.Tryz.prog 198 #[v0] w Q :=
  rets_of_mwp follows_mo Go.Proofs.Tryz.func198 pl198 st198 ok198 (by kernel_rfl) h
/-- (*continuo/effect.gates).step -/
def m199 : MC := (.seq (.ops [⟨some 4, .assign (.const (.int .i64 0)), 3, none⟩])
    (.seq (.seq (.ops [⟨some 5, .move (.tmp 1), 3, none⟩, ⟨some 6, .move (.tmp 1), 3, none⟩, ⟨some 7, .unOp .neg 3 (.tmp 6), 3, none⟩, ⟨some 8, .call { callee := .builtin .max, args := #[.tmp 5, .tmp 7], argTypes := #[3, 3] }, 3, none⟩, ⟨some 9, .move (.tmp 0), 161, none⟩, ⟨some 10, .nilCheck (.tmp 9), 0, none⟩, ⟨some 11, .fieldAddr 163 (.tmp 10) 0, 0, none⟩, ⟨some 12, .load 3 (.tmp 11), 3, none⟩, ⟨some 13, .binOp .geq 3 (.tmp 8) (.tmp 12) 3, 4, none⟩])
    (.cond (.tmp 13) (.ops [⟨some 14, .move (.tmp 0), 161, none⟩, ⟨some 15, .nilCheck (.tmp 14), 0, none⟩, ⟨some 16, .fieldAddr 163 (.tmp 15) 2, 0, none⟩, ⟨none, .store 3 (.tmp 16) (.const (.int .i64 0)), 0, none⟩]) (.ops [⟨some 17, .move (.tmp 0), 161, none⟩, ⟨some 18, .move (.tmp 0), 161, none⟩, ⟨some 19, .nilCheck (.tmp 18), 0, none⟩, ⟨some 20, .fieldAddr 163 (.tmp 19) 2, 0, none⟩, ⟨some 21, .load 3 (.tmp 20), 3, none⟩, ⟨some 22, .binOp .add 3 (.tmp 21) (.const (.int .i64 1)) 3, 3, none⟩, ⟨some 23, .call { callee := .builtin .min, args := #[.tmp 22, .const (.int .i64 4097)], argTypes := #[3, 3] }, 3, none⟩, ⟨some 24, .nilCheck (.tmp 17), 0, none⟩, ⟨some 25, .fieldAddr 163 (.tmp 24) 2, 0, none⟩, ⟨none, .store 3 (.tmp 25) (.tmp 23), 0, none⟩])))
    (.seq (.seq (.draw (.take ⟨some 26, .move (.tmp 0), 161, none⟩ (.take ⟨some 27, .nilCheck (.tmp 26), 0, none⟩ (.take ⟨some 28, .fieldAddr 163 (.tmp 27) 2, 0, none⟩ (.take ⟨some 29, .load 3 (.tmp 28), 3, none⟩ (.take ⟨some 30, .move (.tmp 0), 161, none⟩ (.take ⟨some 31, .nilCheck (.tmp 30), 0, none⟩ (.take ⟨some 32, .fieldAddr 163 (.tmp 31) 1, 0, none⟩ (.take ⟨some 33, .load 3 (.tmp 32), 3, none⟩ (.take ⟨some 34, .binOp .gtr 3 (.tmp 29) (.tmp 33) 3, 4, none⟩ .done))))))))))
    (.cond (.tmp 34) (.seq (.ops [⟨some 4, .assign (.const (.int .i64 0)), 3, none⟩])
    .ret) .skip))
    (.seq (.ops [⟨some 35, .move (.tmp 1), 3, none⟩, ⟨some 4, .assign (.tmp 35), 3, none⟩])
    .ret))))
def pl199 : Nat → Plan := fun id => if id = 4 then (.take 0 (.take 1 (.take 2 (.take 3 (.take 4 (.take 5 (.take 6 (.take 7 (.take 8 .done))))))))) else .done
theorem st199 : Go.Proofs.Tryz.f199.body.map (strip pl199) = some m199 := by kernel_rfl
theorem ok199 : okB pl199 Go.Proofs.Tryz.f199 2 = true := by kernel_rfl
theorem en199 {v0 v1 w} {Q : Value → World → Prop} (h : mwpB Go.Proofs.Tryz.prog m199 (argEnv [v0, v1]) [] w (fun e ds w => ds = [] ∧ resW Go.Proofs.Tryz.prog [.tmp 4] e w fun v => Q v w) (fun _ _ _ _ => False) (fun e ds w => ds = [] ∧ resW Go.Proofs.Tryz.prog [.tmp 4] e w fun v => Q v w) (fun _ _ _ => False) ⟨⟩) : Rets Go.Proofs.Tryz.prog 199 #[v0, v1] w Q :=
  rets_of_mwp follows_mo Go.Proofs.Tryz.func199 pl199 st199 ok199 (by kernel_rfl) h
/-- gosem.cut.vars -/
def m214 : MC := (.seq (.ops [⟨some 0, .build 233 #[(0, .const (.int .u8 0)), (1, .const (.int .u8 1)), (2, .const (.int .u8 28)), (3, .const (.int .u8 2)), (4, .const (.int .u8 29)), (5, .const (.int .u8 14)), (6, .const (.int .u8 24)), (7, .const (.int .u8 3)), (8, .const (.int .u8 30)), (9, .const (.int .u8 22)), (10, .const (.int .u8 20)), (11, .const (.int .u8 15)), (12, .const (.int .u8 25)), (13, .const (.int .u8 17)), (14, .const (.int .u8 4)), (15, .const (.int .u8 8)), (16, .const (.int .u8 31)), (17, .const (.int .u8 27)), (18, .const (.int .u8 13)), (19, .const (.int .u8 23)), (20, .const (.int .u8 21)), (21, .const (.int .u8 19)), (22, .const (.int .u8 16)), (23, .const (.int .u8 7)), (24, .const (.int .u8 26)), (25, .const (.int .u8 12)), (26, .const (.int .u8 18)), (27, .const (.int .u8 6)), (28, .const (.int .u8 11)), (29, .const (.int .u8 5)), (30, .const (.int .u8 10)), (31, .const (.int .u8 9))], 233, none⟩, ⟨none, .store 233 (.global 6) (.tmp 0), 0, none⟩])
    (.seq (.ops [⟨some 1, .build 234 #[(0, .const (.int .u8 0)), (1, .const (.int .u8 1)), (2, .const (.int .u8 56)), (3, .const (.int .u8 2)), (4, .const (.int .u8 57)), (5, .const (.int .u8 49)), (6, .const (.int .u8 28)), (7, .const (.int .u8 3)), (8, .const (.int .u8 61)), (9, .const (.int .u8 58)), (10, .const (.int .u8 42)), (11, .const (.int .u8 50)), (12, .const (.int .u8 38)), (13, .const (.int .u8 29)), (14, .const (.int .u8 17)), (15, .const (.int .u8 4)), (16, .const (.int .u8 62)), (17, .const (.int .u8 47)), (18, .const (.int .u8 59)), (19, .const (.int .u8 36)), (20, .const (.int .u8 45)), (21, .const (.int .u8 43)), (22, .const (.int .u8 51)), (23, .const (.int .u8 22)), (24, .const (.int .u8 53)), (25, .const (.int .u8 39)), (26, .const (.int .u8 33)), (27, .const (.int .u8 30)), (28, .const (.int .u8 24)), (29, .const (.int .u8 18)), (30, .const (.int .u8 12)), (31, .const (.int .u8 5)), (32, .const (.int .u8 63)), (33, .const (.int .u8 55)), (34, .const (.int .u8 48)), (35, .const (.int .u8 27)), (36, .const (.int .u8 60)), (37, .const (.int .u8 41)), (38, .const (.int .u8 37)), (39, .const (.int .u8 16)), (40, .const (.int .u8 46)), (41, .const (.int .u8 35)), (42, .const (.int .u8 44)), (43, .const (.int .u8 21)), (44, .const (.int .u8 52)), (45, .const (.int .u8 32)), (46, .const (.int .u8 23)), (47, .const (.int .u8 11)), (48, .const (.int .u8 54)), (49, .const (.int .u8 26)), (50, .const (.int .u8 40)), (51, .const (.int .u8 15)), (52, .const (.int .u8 34)), (53, .const (.int .u8 20)), (54, .const (.int .u8 31)), (55, .const (.int .u8 10)), (56, .const (.int .u8 25)), (57, .const (.int .u8 14)), (58, .const (.int .u8 19)), (59, .const (.int .u8 9)), (60, .const (.int .u8 13)), (61, .const (.int .u8 8)), (62, .const (.int .u8 7)), (63, .const (.int .u8 6))], 234, none⟩, ⟨none, .store 234 (.global 7) (.tmp 1), 0, none⟩])
    (.seq (.ops [⟨some 2, .build 217 #[(0, .const (.int .u64 1)), (1, .const (.int .u64 10)), (2, .const (.int .u64 100)), (3, .const (.int .u64 1000)), (4, .const (.int .u64 10000)), (5, .const (.int .u64 100000)), (6, .const (.int .u64 1000000)), (7, .const (.int .u64 10000000)), (8, .const (.int .u64 100000000)), (9, .const (.int .u64 1000000000)), (10, .const (.int .u64 10000000000)), (11, .const (.int .u64 100000000000)), (12, .const (.int .u64 1000000000000)), (13, .const (.int .u64 10000000000000)), (14, .const (.int .u64 100000000000000)), (15, .const (.int .u64 1000000000000000)), (16, .const (.int .u64 10000000000000000)), (17, .const (.int .u64 100000000000000000)), (18, .const (.int .u64 1000000000000000000)), (19, .const (.int .u64 10000000000000000000))], 217, none⟩, ⟨none, .store 217 (.global 3) (.tmp 2), 0, none⟩])
    (.seq (.ops [⟨some 3, .build 223 #[(0, .const (.int .u8 128)), (1, .const (.int .u8 191))], 223, none⟩, ⟨some 4, .build 223 #[(0, .const (.int .u8 160)), (1, .const (.int .u8 191))], 223, none⟩, ⟨some 5, .build 223 #[(0, .const (.int .u8 128)), (1, .const (.int .u8 159))], 223, none⟩, ⟨some 6, .build 223 #[(0, .const (.int .u8 144)), (1, .const (.int .u8 191))], 223, none⟩, ⟨some 7, .build 223 #[(0, .const (.int .u8 128)), (1, .const (.int .u8 143))], 223, none⟩, ⟨some 8, .build 224 #[(0, .tmp 3), (1, .tmp 4), (2, .tmp 5), (3, .tmp 6), (4, .tmp 7)], 224, none⟩, ⟨none, .store 224 (.global 5) (.tmp 8), 0, none⟩])
    (.seq (.ops [⟨some 9, .call { callee := .value (.func 150), args := #[.const (.string { data := #[118, 97, 108, 117, 101, 32, 111, 117, 116, 32, 111, 102, 32, 114, 97, 110, 103, 101] })], argTypes := #[9] }, 178, none⟩, ⟨none, .store 178 (.global 2) (.tmp 9), 0, none⟩])
    (.ops [⟨some 10, .call { callee := .value (.func 150), args := #[.const (.string { data := #[105, 110, 118, 97, 108, 105, 100, 32, 115, 121, 110, 116, 97, 120] })], argTypes := #[9] }, 178, none⟩, ⟨none, .store 178 (.global 1) (.tmp 10), 0, none⟩]))))))
def pl214 : Nat → Plan := fun _ => .done
theorem st214 : Go.Proofs.Tryz.f214.body.map (strip pl214) = some m214 := by kernel_rfl
theorem ok214 : okB pl214 Go.Proofs.Tryz.f214 0 = true := by kernel_rfl
theorem en214 {w} {Q : Value → World → Prop} (h : mwpB Go.Proofs.Tryz.prog m214 (argEnv []) [] w (fun e ds w => ds = [] ∧ resW Go.Proofs.Tryz.prog [] e w fun v => Q v w) (fun _ _ _ _ => False) (fun e ds w => ds = [] ∧ resW Go.Proofs.Tryz.prog [] e w fun v => Q v w) (fun _ _ _ => False) ⟨⟩) : Rets Go.Proofs.Tryz.prog 214 #[] w Q :=
  rets_of_mwp follows_mo Go.Proofs.Tryz.func214 pl214 st214 ok214 (by kernel_rfl) h
end Go.Proofs.YtefcfnmmpnjjjaaGreatDoor
