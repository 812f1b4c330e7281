/- For all texts the law continuolaw34.MonitorSplits returns true, and its input reads behind the call as it read before; the row's listed tables read as the program lays them (tied: the card). -/
import Derived.Test.YtolamibbionobaaGreatDoorQsLawBase
import Derived.Test.YtolamibbionobaaGreatDoorQsMoE
import Derived.Test.YtolamibbionobaaGreatDoorQsRunAw34
import Derived.Test.YtolamibbionobaaGreatDoorQsMoEv
import Derived.Test.YtolamibbionobaaGreatDoorTie
import Derived.Test.YtolamibbionobaaGreatDoorCards
import Derived.Lay
import Derived.LaidMore
import Derived.SevenTiedAt

namespace Go.Proofs.YtolamibbionobaaGreatDoor
open Go.ChangeShapes Go.WideShapes Go.ChangeAt Go.RowKit
open Go.Proofs.Tryz renaming prog → ZP
namespace LawMonitorSplits
set_option maxRecDepth 100000 in
theorem lifted (os : Os) (started : os.Started) (H : Type) (enc : TypeId × Value → H) :
    ReturnsInHanded {} Tryz.checked os 3 .any (fun w args => (Rows.monitorSplitsSpec.pre enc ZP Tryz.f3 [] false w args ∧ laidMetH ZP Rows.monitorSplitsRow.laid w) ∧ sizedMet enc ZP Tryz.f3 (OpenSpec.ofChange Rows.monitorSplitsSpec) false w args)
      (Rows.monitorSplitsSpec.post enc ZP Tryz.f3 false true false false) := by
  refine handed_laid_shaped (C := Tryz.checked) (X := fun w _ => laidMetH ZP Rows.monitorSplitsRow.laid w) (fun _ _ _ hh h => h.of_heap hh) own started (by kernel_rfl) Tryz.func3
    (ChangeSpec.witness_shaped (enc := enc) (C := Tryz.checked) (os := os) (X := fun w _ => laidMetH ZP Rows.monitorSplitsRow.laid w) false (World.laidAll ZP os Rows.monitorSplitsRow.laid) #[.string ⟨#[]⟩] 8 (World.laidAll_os _ _ _)
      (World.shaped_of_ZipB (by kernel_rfl) (by kernel_rfl)) (by kernel_rfl) (by kernel_rfl) (by kernel_rfl)
      (by rw [MakeChecks.laidMetH_plain _ _ _ (by kernel_rfl)]; exact laidMet_laidAll _ (by kernel_rfl) (by kernel_rfl))) ?_
  intro W base args ds gs before hval0 hW hlaid hshaped
  have hE : EnvS W := envS_of_laid hlaid hshaped
  have hval : ∀ (j : Nat) t v, Tryz.f3.params[j]? = some t → args[j]? = some v → Value.okWide ZP W .any base t v := hval0
  have hW' := hW
  obtain ⟨p, q, hA0, hV, rfl, hfz, hnd⟩ := hW
  have hA : DataW.TrodAll enc ZP W 0 (fun _ => true) true Tryz.f3.params.toList args.toList ds p := hA0
  rw [Tryz.params3] at hA hval
  obtain ⟨v0, vs0, d0, ds0, p0, q0, hargs, rfl, rfl, h0, r0⟩ := trodAll_cons hA
  obtain ⟨rfl, rfl, rfl⟩ := trodAll_nil r0
  obtain rfl : args = #[v0] := by cases args; simp_all
  obtain ⟨rfl, rfl⟩ := trodVars_none hV
  have k0 := h0
  have lt0 : ∀ x ∈ p0, x.block < W.heap.size := by obtain ⟨m, hm⟩ := k0; exact DataW.trod_lt m _ _ _ hm
  obtain ⟨st0, rfl⟩ : ∃ s, v0 = .string s := by
    have this := hval 0 9 v0 rfl rfl
    cases v0 <;> simp only [Value.okWide,Tryz.underlying9,Cell.okWide,Cell.ok] at this
    exact ⟨_, rfl⟩
  clear hA0 hval0
  refine (lawS_c st0.data.toList W hE (fun w' hx => awake_c (hE.ext hx))).calls.mono fun e W' ⟨he, bel⟩ => ?_
  subst he
  exact ⟨_, rfl, _, _, _, [], _, [], hW', trodAll_mk1 (shut_bool Tryz.underlying4 _), (trodAll_cons_mk (Below.trod laidOut (by kernel_rfl) (of_decide_eq_true (by kernel_rfl)) k0 bel lt0) trodAll_mk0), rfl, bel.frame _, fun h => by cases h⟩
theorem over : Rows.monitorSplitsRow.holds Tryz.pinned (OpenSpec.ofChange Rows.monitorSplitsSpec) :=
  OpenClaim.holds_of_wide 3 Tryz.f3 rfl rfl rfl rfl rfl rfl rfl ⟨rfl, rfl, rfl, rfl, rfl⟩ rfl rfl rfl rfl rfl (by kernel_rfl) Tryz.func3 (by kernel_rfl)
    (of_decide_eq_true (by kernel_rfl)) (by unfold Func.isWrapper; first | (rw [if_pos (by decide +kernel)]; kernel_rfl) | (rw [if_neg (by decide +kernel)]; exact ⟨rfl, rfl⟩))
    (fun os started H enc _ => lifted os started H enc)
theorem carded : Rows.MonitorSplitsCardSaid :=
  Claim7.holds_tied_plain_at .later [] [.data, .data, .data, .sentinel, .sentinel] true (true, "cfddaecf7a7a91acb23cd04e2b50d791d44f5c3fce5352cd680dd46341142053") true
    over (fun _ h => by cases h) (by kernel_rfl) (fun _ h => by cases h) monitorSplits_row_tie rfl ⟨rfl, rfl⟩ (by kernel_rfl) rfl
    (fun f fn hf hfn => by
      obtain rfl : f = 3 := Option.some.inj ((show (ZP).funcNamed "continuo/continuolaw34.MonitorSplits" = some 3 by kernel_rfl).symm.trans hf) |>.symm
      obtain rfl : fn = Tryz.f3 := (Option.some.inj (Tryz.func3.symm.trans hfn)).symm
      exact ⟨by kernel_rfl, fun j t ht => by
        rw [Tryz.params3] at ht
        have hm : t ∈ [9] := by simpa using Array.mem_of_getElem? ht
        have hall : ([9].all fun u => !(ZP).wantsStandIn u) = true := by kernel_rfl
        exact (show (ZP).wantsStandIn t = false by simpa using List.all_eq_true.1 hall t hm)⟩)
    (by kernel_rfl)
end LawMonitorSplits
theorem monitorSplits_proved : Rows.MonitorSplitsCardSaid := LawMonitorSplits.carded
#print axioms monitorSplits_proved
end Go.Proofs.YtolamibbionobaaGreatDoor
