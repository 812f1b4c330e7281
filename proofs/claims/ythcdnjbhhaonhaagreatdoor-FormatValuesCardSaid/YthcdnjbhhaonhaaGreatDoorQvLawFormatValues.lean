/- For all formats and values the law continuolaw02.FormatValues returns true, and its input reads behind the call as it read before; the row's listed tables read as the program lays them (tied: the card). -/
import Derived.Test.YthcdnjbhhaonhaaGreatDoorQvLawBase
import Derived.Test.YthcdnjbhhaonhaaGreatDoorQvOpenFo
import Derived.Test.YthcdnjbhhaonhaaGreatDoorQvOpenVa
import Derived.Test.YthcdnjbhhaonhaaGreatDoorQvVaW
import Derived.Test.YthcdnjbhhaonhaaGreatDoorQvRunAw02
import Derived.Test.YthcdnjbhhaonhaaGreatDoorQvChEv
import Derived.Test.YthcdnjbhhaonhaaGreatDoorTie
import Derived.Test.YthcdnjbhhaonhaaGreatDoorCards
import Derived.Lay
import Derived.LaidMore
import Derived.SevenTiedAt

namespace Go.Proofs.YthcdnjbhhaonhaaGreatDoor
open Go.ChangeShapes Go.WideShapes Go.ChangeAt Go.RowKit
open Go.Proofs.Tryz renaming prog → ZP
namespace LawFormatValues
set_option maxRecDepth 100000 in
theorem lifted (os : Os) (started : os.Started) (H : Type) (enc : TypeId × Value → H) :
    ReturnsInHanded {} Tryz.checked os 8 .any (fun w args => (Rows.formatValuesSpec.pre enc ZP Tryz.f8 [] false w args ∧ laidMetH ZP Rows.formatValuesRow.laid w) ∧ sizedMet enc ZP Tryz.f8 (OpenSpec.ofChange Rows.formatValuesSpec) false w args)
      (Rows.formatValuesSpec.post enc ZP Tryz.f8 false true false false) := by
  refine handed_laid_sized (C := Tryz.checked) (X := fun w _ => laidMetH ZP Rows.formatValuesRow.laid w) (fun _ _ _ hh h => h.of_heap hh) own started (by kernel_rfl) Tryz.func8
    (ChangeSpec.witness_shaped (enc := enc) (C := Tryz.checked) (os := os) (X := fun w _ => laidMetH ZP Rows.formatValuesRow.laid w) false (World.laidAll ZP os Rows.formatValuesRow.laid) #[.agg #[.int .i64 0, .slice none 0 0], .agg #[.int .i64 0, .int .i64 0, .string ⟨#[]⟩, .slice none 0 0, .slice none 0 0]] 8 (World.laidAll_os _ _ _)
      (World.shaped_of_ZipB (by kernel_rfl) (by kernel_rfl)) (by kernel_rfl) (by kernel_rfl) (by kernel_rfl)
      (by rw [MakeChecks.laidMetH_plain _ _ _ (by kernel_rfl)]; exact laidMet_laidAll _ (by kernel_rfl) (by kernel_rfl))) ?_
  intro W base args ds gs before hval0 hW hlaid hshaped hweigh
  have hE : EnvS W := envS_of_laid hlaid hshaped
  have hval : ∀ (j : Nat) t v, Tryz.f8.params[j]? = some t → args[j]? = some v → Value.okWide ZP W .any base t v := hval0
  have hW' := hW
  obtain ⟨p, q, hA0, hV, rfl, hfz, hnd⟩ := hW
  have hA : DataW.TrodAll enc ZP W 0 (fun _ => true) true Tryz.f8.params.toList args.toList ds p := hA0
  rw [Tryz.params8] at hA hval
  obtain ⟨v0, vs0, d0, ds0, p0, q0, hargs, rfl, rfl, h0, r0⟩ := trodAll_cons hA
  obtain ⟨v1, vs1, d1, ds1, p1, q1, rfl, rfl, rfl, h1, r1⟩ := trodAll_cons r0
  obtain ⟨rfl, rfl, rfl⟩ := trodAll_nil r1
  obtain rfl : args = #[v0, v1] := by cases args; simp_all
  obtain ⟨rfl, rfl⟩ := trodVars_none hV
  rw [Tryz.params8] at hweigh
  have z0 := (lite_cons hweigh).1
  replace hweigh := (lite_cons hweigh).2
  have z1 := (lite_cons hweigh).1
  replace hweigh := (lite_cons hweigh).2
  have k0 := h0
  have lt0 : ∀ x ∈ p0, x.block < W.heap.size := by obtain ⟨m, hm⟩ := k0; exact DataW.trod_lt m _ _ _ hm
  obtain ⟨f0, a0, rfl, sA0⟩ : ∃ (f : Fm) (a : Value), v0 = fmV f a ∧ SlF W a f.F := by
    obtain ⟨m, hm⟩ := h0
    exact format_open (hval 0 24 v0 rfl rfl) hm
  have k1 := h1
  have lt1 : ∀ x ∈ p1, x.block < W.heap.size := by obtain ⟨m, hm⟩ := k1; exact DataW.trod_lt m _ _ _ hm
  obtain ⟨t1, k11, k12, rfl, sA1⟩ : ∃ (t : Vt) (s1 s2 : Value), v1 = vtV t s1 s2 ∧ VAt W t s1 s2 := by
    obtain ⟨m, hm⟩ := h1
    exact value_open (hval 1 64 v1 rfl rfl) hm z1
  clear hA0 hval0
  refine (lawV_c f0 t1 a0 k11 k12 W sA0 sA1 (fun w' hx => awake_c (hE.ext hx))).calls.mono fun e W' ⟨he, bel⟩ => ?_
  subst he
  exact ⟨_, rfl, _, _, _, [], _, [], hW', trodAll_mk1 (shut_bool Tryz.underlying4 _), (trodAll_cons_mk (Below.trod laidOut (by kernel_rfl) (of_decide_eq_true (by kernel_rfl)) k0 bel lt0) (trodAll_cons_mk (Below.trod laidOut (by kernel_rfl) (of_decide_eq_true (by kernel_rfl)) k1 bel lt1) trodAll_mk0)), rfl, bel.frame _, fun h => by cases h⟩
theorem over : Rows.formatValuesRow.holds Tryz.pinned (OpenSpec.ofChange Rows.formatValuesSpec) :=
  OpenClaim.holds_of_wide 8 Tryz.f8 rfl rfl rfl rfl rfl rfl rfl ⟨rfl, rfl, rfl, rfl, rfl⟩ rfl rfl rfl rfl rfl (by kernel_rfl) Tryz.func8 (by kernel_rfl)
    (of_decide_eq_true (by kernel_rfl)) (by unfold Func.isWrapper; first | (rw [if_pos (by decide +kernel)]; kernel_rfl) | (rw [if_neg (by decide +kernel)]; exact ⟨rfl, rfl⟩))
    (fun os started H enc _ => lifted os started H enc)
theorem carded : Rows.FormatValuesCardSaid :=
  Claim7.holds_tied_plain_at .later [] [.data, .data, .data, .data, .sentinel, .sentinel, .pinned] true (true, "650c0d0c6ac9fdc820b540db12a1fe43bbc082635328f2e9d2824981ea97c699") true
    over (fun _ h => by cases h) (by kernel_rfl) (fun _ h => by cases h) formatValues_row_tie rfl ⟨rfl, rfl⟩ (by kernel_rfl) rfl
    (fun f fn hf hfn => by
      obtain rfl : f = 8 := Option.some.inj ((show (ZP).funcNamed "continuo/continuolaw02.FormatValues" = some 8 by kernel_rfl).symm.trans hf) |>.symm
      obtain rfl : fn = Tryz.f8 := (Option.some.inj (Tryz.func8.symm.trans hfn)).symm
      exact ⟨by kernel_rfl, fun j t ht => by
        rw [Tryz.params8] at ht
        have hm : t ∈ [24, 64] := by simpa using Array.mem_of_getElem? ht
        have hall : ([24, 64].all fun u => !(ZP).wantsStandIn u) = true := by kernel_rfl
        exact (show (ZP).wantsStandIn t = false by simpa using List.all_eq_true.1 hall t hm)⟩)
    (by kernel_rfl)
end LawFormatValues
theorem formatValues_proved : Rows.FormatValuesCardSaid := LawFormatValues.carded
#print axioms formatValues_proved
end Go.Proofs.YthcdnjbhhaonhaaGreatDoor
