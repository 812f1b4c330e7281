/- From a row's listed tables and the world's shape to what the library needs. -/
import Derived.Test.YthcdnjbhhaonhaaGreatDoorQvChHk
import Derived.Lib.LaidTab
import Derived.Stop.LaidErr
import Derived.HandedShaped
import Derived.Test.YthcdnjbhhaonhaaGreatDoorRows
import Derived.LaidMore
import Derived.Lay

namespace Go.Proofs.YthcdnjbhhaonhaaGreatDoor
open Go.ChangeShapes Go.WideShapes Go.RowKit
open Go.Proofs.Tryz renaming prog → ZP
variable {H : Type} {enc : TypeId × Value → H}
theorem gErrRange : (ZP).globalNamed "strconv.ErrRange" = some ((ZP).globalNamed "strconv.ErrRange" |>.getD 0) := by kernel_rfl
theorem gErrSyntax : (ZP).globalNamed "strconv.ErrSyntax" = some ((ZP).globalNamed "strconv.ErrSyntax" |>.getD 0) := by kernel_rfl
theorem gPow : (ZP).globalNamed "internal/strconv.uint64pow10" = some ((ZP).globalNamed "internal/strconv.uint64pow10" |>.getD 0) := by kernel_rfl
theorem star : "*" ++ "errors.errorString" = "*errors.errorString" := by decide
theorem rowErr (u : TypeId) (h : (ZP).typeName? 3 u = some "*errors.errorString") : u = 206 :=
 typeName_ptr_named (nm := "errors.errorString") (by rw [star]; kernel_rfl) (by kernel_rfl) (by decide) u (by rw [star]; exact h)
theorem envS_of_laid {W : World} (h : laidMetH ZP Rows.choiceMeetsRow.laid W) (hs : W.ShapedOpen ZP) : EnvS W := by
 have h' : laidMet ZP Rows.choiceMeetsRow.laid W := by rw [MakeChecks.laidMetH_plain _ _ _ (by kernel_rfl)] at h; exact h
 have h2 := h'.tail.tail
 have h4 := h2.tail.tail
 have h5 := h4.tail
 refine ⟨?_, Tryz.laysM146.s1_3 W hs, ?_, ?_⟩
 · exact Lib.tabIs_of_head gPow (t := 186) (e := 152) (n := 20) (by kernel_rfl) Tryz.underlying186 Tryz.underlying152 (by kernel_rfl) (by kernel_rfl) h2
 · obtain ⟨a, s, hv, _⟩ := laid_sentinel h5 gErrSyntax (ti := 137) (by kernel_rfl) Tryz.underlying137 rowErr Tryz.underlying206 Tryz.underlying208 rfl rfl Tryz.underlying9 (by kernel_rfl) (by kernel_rfl)
   exact ⟨_, _, hv⟩
 · obtain ⟨a, s, hv, _⟩ := laid_sentinel h4 gErrRange (ti := 137) (by kernel_rfl) Tryz.underlying137 rowErr Tryz.underlying206 Tryz.underlying208 rfl rfl Tryz.underlying9 (by kernel_rfl) (by kernel_rfl)
   exact ⟨_, _, hv⟩
end Go.Proofs.YthcdnjbhhaonhaaGreatDoor
