/- For all lists of formats and all formats the law continuolaw02.FormatAgrees returns true, and its input reads behind the call as it read before; the row's listed tables read as the program lays them (tied: the card). -/
import Derived.Test.YthcdnjbhhaonhaaGreatDoorQgLawBase
import Derived.Test.YthcdnjbhhaonhaaGreatDoorQgOpenFg
import Derived.Test.YthcdnjbhhaonhaaGreatDoorQgFoXToFoAg
import Derived.Test.YthcdnjbhhaonhaaGreatDoorQgRunAw02
import Derived.Test.YthcdnjbhhaonhaaGreatDoorQgChEv
import Derived.Test.YthcdnjbhhaonhaaGreatDoorTie
import Derived.Test.YthcdnjbhhaonhaaGreatDoorCards
import Derived.Lay
import Derived.LaidMore
import Derived.SevenTiedAt

namespace Go.Proofs.YthcdnjbhhaonhaaGreatDoor
open Go.ChangeShapes Go.WideShapes Go.ChangeAt Go.RowKit
open Go.Proofs.Tryz renaming prog → ZP
namespace LawFormatAgrees
set_option maxRecDepth 100000 in
theorem lifted (os : Os) (started : os.Started) (H : Type) (enc : TypeId × Value → H) :
    ReturnsInHanded {} Tryz.checked os 6 .any (fun w args => (Rows.formatAgreesSpec.pre enc ZP Tryz.f6 [] false w args ∧ laidMetH ZP Rows.formatAgreesRow.laid w) ∧ sizedMet enc ZP Tryz.f6 (OpenSpec.ofChange Rows.formatAgreesSpec) false w args)
      (Rows.formatAgreesSpec.post enc ZP Tryz.f6 false true false false) := by
  refine handed_laid_shaped (C := Tryz.checked) (X := fun w _ => laidMetH ZP Rows.formatAgreesRow.laid w) (fun _ _ _ hh h => h.of_heap hh) own started (by kernel_rfl) Tryz.func6
    (ChangeSpec.witness_shaped (enc := enc) (C := Tryz.checked) (os := os) (X := fun w _ => laidMetH ZP Rows.formatAgreesRow.laid w) false (World.laidAll ZP os Rows.formatAgreesRow.laid) #[.slice none 0 0, .slice none 0 0, .agg #[.int .i64 0, .slice none 0 0]] 8 (World.laidAll_os _ _ _)
      (World.shaped_of_ZipB (by kernel_rfl) (by kernel_rfl)) (by kernel_rfl) (by kernel_rfl) (by kernel_rfl)
      (by rw [MakeChecks.laidMetH_plain _ _ _ (by kernel_rfl)]; exact laidMet_laidAll _ (by kernel_rfl) (by kernel_rfl))) ?_
  intro W base args ds gs before hval0 hW hlaid hshaped
  have hE : EnvS W := envS_of_laid hlaid hshaped
  have hval : ∀ (j : Nat) t v, Tryz.f6.params[j]? = some t → args[j]? = some v → Value.okWide ZP W .any base t v := hval0
  have hW' := hW
  obtain ⟨p, q, hA0, hV, rfl, hfz, hnd⟩ := hW
  have hA : DataW.TrodAll enc ZP W 0 (fun _ => true) true Tryz.f6.params.toList args.toList ds p := hA0
  rw [Tryz.params6] at hA hval
  obtain ⟨v0, vs0, d0, ds0, p0, q0, hargs, rfl, rfl, h0, r0⟩ := trodAll_cons hA
  obtain ⟨v1, vs1, d1, ds1, p1, q1, rfl, rfl, rfl, h1, r1⟩ := trodAll_cons r0
  obtain ⟨v2, vs2, d2, ds2, p2, q2, rfl, rfl, rfl, h2, r2⟩ := trodAll_cons r1
  obtain ⟨rfl, rfl, rfl⟩ := trodAll_nil r2
  obtain rfl : args = #[v0, v1, v2] := by cases args; simp_all
  obtain ⟨rfl, rfl⟩ := trodVars_none hV
  have k0 := h0
  have lt0 : ∀ x ∈ p0, x.block < W.heap.size := by obtain ⟨m, hm⟩ := k0; exact DataW.trod_lt m _ _ _ hm
  obtain ⟨g0, sG0⟩ : ∃ gs, SlG W v0 gs := by
    obtain ⟨m, hm⟩ := h0
    obtain ⟨x1, y1, z1, rfl⟩ := okWide_slice Tryz.underlying50 (hval 0 50 v0 rfl rfl)
    exact slg_read hm
  have k1 := h1
  have lt1 : ∀ x ∈ p1, x.block < W.heap.size := by obtain ⟨m, hm⟩ := k1; exact DataW.trod_lt m _ _ _ hm
  obtain ⟨g1, sG1⟩ : ∃ gs, SlG W v1 gs := by
    obtain ⟨m, hm⟩ := h1
    obtain ⟨x1, y1, z1, rfl⟩ := okWide_slice Tryz.underlying50 (hval 1 50 v1 rfl rfl)
    exact slg_read hm
  have k2 := h2
  have lt2 : ∀ x ∈ p2, x.block < W.heap.size := by obtain ⟨m, hm⟩ := k2; exact DataW.trod_lt m _ _ _ hm
  obtain ⟨f2, a2, rfl, sA2⟩ : ∃ (f : Fm) (a : Value), v2 = fmV f a ∧ SlF W a f.F := by
    obtain ⟨m, hm⟩ := h2
    exact format_open (hval 2 24 v2 rfl rfl) hm
  clear hA0 hval0
  refine (lawA_c g0 g1 f2 v0 v1 a2 W sG0 sG1 sA2 (fun w' hx => awake_c (hE.ext hx))).calls.mono fun e W' ⟨he, bel⟩ => ?_
  subst he
  exact ⟨_, rfl, _, _, _, [], _, [], hW', trodAll_mk1 (shut_bool Tryz.underlying4 _), (trodAll_cons_mk (Below.trod laidOut (by kernel_rfl) (of_decide_eq_true (by kernel_rfl)) k0 bel lt0) (trodAll_cons_mk (Below.trod laidOut (by kernel_rfl) (of_decide_eq_true (by kernel_rfl)) k1 bel lt1) (trodAll_cons_mk (Below.trod laidOut (by kernel_rfl) (of_decide_eq_true (by kernel_rfl)) k2 bel lt2) trodAll_mk0))), rfl, bel.frame _, fun h => by cases h⟩
theorem over : Rows.formatAgreesRow.holds Tryz.pinned (OpenSpec.ofChange Rows.formatAgreesSpec) :=
  OpenClaim.holds_of_wide 6 Tryz.f6 rfl rfl rfl rfl rfl rfl rfl ⟨rfl, rfl, rfl, rfl, rfl⟩ rfl rfl rfl rfl rfl (by kernel_rfl) Tryz.func6 (by kernel_rfl)
    (of_decide_eq_true (by kernel_rfl)) (by unfold Func.isWrapper; first | (rw [if_pos (by decide +kernel)]; kernel_rfl) | (rw [if_neg (by decide +kernel)]; exact ⟨rfl, rfl⟩))
    (fun os started H enc _ => lifted os started H enc)
theorem carded : Rows.FormatAgreesCardSaid :=
  Claim7.holds_tied_plain_at .later [] [.data, .data, .data, .data, .sentinel, .sentinel, .pinned] true (true, "650c0d0c6ac9fdc820b540db12a1fe43bbc082635328f2e9d2824981ea97c699") true
    over (fun _ h => by cases h) (by kernel_rfl) (fun _ h => by cases h) formatAgrees_row_tie rfl ⟨rfl, rfl⟩ (by kernel_rfl) rfl
    (fun f fn hf hfn => by
      obtain rfl : f = 6 := Option.some.inj ((show (ZP).funcNamed "continuo/continuolaw02.FormatAgrees" = some 6 by kernel_rfl).symm.trans hf) |>.symm
      obtain rfl : fn = Tryz.f6 := (Option.some.inj (Tryz.func6.symm.trans hfn)).symm
      exact ⟨by kernel_rfl, fun j t ht => by
        rw [Tryz.params6] at ht
        have hm : t ∈ [50, 50, 24] := by simpa using Array.mem_of_getElem? ht
        have hall : ([50, 50, 24].all fun u => !(ZP).wantsStandIn u) = true := by kernel_rfl
        exact (show (ZP).wantsStandIn t = false by simpa using List.all_eq_true.1 hall t hm)⟩)
    (by kernel_rfl)
end LawFormatAgrees
theorem formatAgrees_proved : Rows.FormatAgreesCardSaid := LawFormatAgrees.carded
#print axioms formatAgrees_proved
end Go.Proofs.YthcdnjbhhaonhaaGreatDoor
