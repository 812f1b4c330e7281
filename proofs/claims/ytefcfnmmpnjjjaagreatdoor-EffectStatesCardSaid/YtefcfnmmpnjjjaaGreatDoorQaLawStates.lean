/- For all effects, samples and texts the law continuolaw31.EffectStates returns true, and its input reads behind the call as it read before; the row's listed tables read as the program lays them (tied: the card). -/
import Derived.Test.YtefcfnmmpnjjjaaGreatDoorQaLawOpen
import Derived.Test.YtefcfnmmpnjjjaaGreatDoorQaStF
import Derived.Test.YtefcfnmmpnjjjaaGreatDoorQaStW
import Derived.Test.YtefcfnmmpnjjjaaGreatDoorTie
import Derived.Test.YtefcfnmmpnjjjaaGreatDoorCards
import Derived.Lay
import Derived.LaidMore
import Derived.SevenTiedAt
namespace Go.Proofs.YtefcfnmmpnjjjaaGreatDoor
open Go.ChangeShapes Go.WideShapes Go.ChangeAt Go.RowKit

namespace LawStates
set_option maxRecDepth 100000 in
theorem lifted (os : Os) (started : os.Started) (H : Type) (enc : TypeId × Value → H) :
    ReturnsInHanded {} Tryz.checked os 3 .any (fun w args => (Rows.effectStatesSpec.pre enc Go.Proofs.Tryz.prog Tryz.f3 [] false w args ∧ laidMetH Go.Proofs.Tryz.prog Rows.effectStatesRow.laid w) ∧ sizedMet enc Go.Proofs.Tryz.prog Tryz.f3 (OpenSpec.ofChange Rows.effectStatesSpec) false w args)
      (Rows.effectStatesSpec.post enc Go.Proofs.Tryz.prog Tryz.f3 false true false false) := by
  refine handed_laid_shaped (C := Tryz.checked) (X := fun w _ => laidMetH Go.Proofs.Tryz.prog Rows.effectStatesRow.laid w) (fun _ _ _ hh h => h.of_heap hh) own started (by kernel_rfl) Tryz.func3
    (ChangeSpec.witness_shaped (enc := enc) (C := Tryz.checked) (os := os) (X := fun w _ => laidMetH Go.Proofs.Tryz.prog Rows.effectStatesRow.laid w) false (World.laidAll Go.Proofs.Tryz.prog os Rows.effectStatesRow.laid) #[.agg #[.int .i64 0, .slice none 0 0, .slice none 0 0], .agg #[.int .i64 0, .slice none 0 0, .slice none 0 0], .slice none 0 0, .string ⟨#[]⟩] 8 (World.laidAll_os _ _ _)
      (World.shaped_of_ZipB (by kernel_rfl) (by kernel_rfl)) (by kernel_rfl) (by kernel_rfl) (by kernel_rfl)
      (by rw [MakeChecks.laidMetH_plain _ _ _ (by kernel_rfl)]; exact laidMet_laidAll _ (by kernel_rfl) (by kernel_rfl))) ?_
  intro W base args ds gs before hval0 hW hlaid hshaped
  have hE : EnvS W := envS_of_laid hlaid hshaped
  have hval : ∀ (j : Nat) t v, Tryz.f3.params[j]? = some t → args[j]? = some v → Value.okWide Go.Proofs.Tryz.prog W .any base t v := hval0
  have hW' := hW
  obtain ⟨p, q, hA0, hV, rfl, hfz, hnd⟩ := hW
  have hA : DataW.TrodAll enc Go.Proofs.Tryz.prog W 0 (fun _ => true) true Tryz.f3.params.toList args.toList ds p := hA0
  rw [Tryz.params3] at hA hval
  obtain ⟨v0, vs0, d0, ds0, p0, q0, hargs, rfl, rfl, h0, r0⟩ := trodAll_cons hA
  obtain ⟨v1, vs1, d1, ds1, p1, q1, rfl, rfl, rfl, h1, r1⟩ := trodAll_cons r0
  obtain ⟨v2, vs2, d2, ds2, p2, q2, rfl, rfl, rfl, h2, r2⟩ := trodAll_cons r1
  obtain ⟨v3, vs3, d3, ds3, p3, q3, rfl, rfl, rfl, h3, r3⟩ := trodAll_cons r2
  obtain ⟨rfl, rfl, rfl⟩ := trodAll_nil r3
  obtain rfl : args = #[v0, v1, v2, v3] := by cases args; simp_all
  obtain ⟨rfl, rfl⟩ := trodVars_none hV
  have k0 := h0
  have lt0 : ∀ x ∈ p0, x.block < W.heap.size := by obtain ⟨m, hm⟩ := k0; exact DataW.trod_lt m _ _ _ hm
  obtain ⟨k0', a0, t0, A0, T0, rfl, sA0, sT0⟩ : ∃ k a t A T, v0 = .agg #[.int .i64 k, a, t] ∧ SlI W a A ∧ SlI W t T := by
    obtain ⟨m, hm⟩ := h0
    exact eff_open (hval 0 24 v0 rfl rfl) hm
  have k1 := h1
  have lt1 : ∀ x ∈ p1, x.block < W.heap.size := by obtain ⟨m, hm⟩ := k1; exact DataW.trod_lt m _ _ _ hm
  obtain ⟨k1', a1, t1, A1, T1, rfl, sA1, sT1⟩ : ∃ k a t A T, v1 = .agg #[.int .i64 k, a, t] ∧ SlI W a A ∧ SlI W t T := by
    obtain ⟨m, hm⟩ := h1
    exact eff_open (hval 1 24 v1 rfl rfl) hm
  have k2 := h2
  have lt2 : ∀ x ∈ p2, x.block < W.heap.size := by obtain ⟨m, hm⟩ := k2; exact DataW.trod_lt m _ _ _ hm
  obtain ⟨L2, sL2⟩ : ∃ xs, SlI W v2 xs := by
    obtain ⟨m, hm⟩ := h2
    obtain ⟨x1, y1, z1, rfl⟩ := okWide_slice Tryz.underlying22 (hval 2 22 v2 rfl rfl)
    refine sl_open (b0 := base) ?_ hm
    have this : Value.okWide Go.Proofs.Tryz.prog W .any base 22 (.slice x1 y1 z1) := hval 2 22 _ rfl rfl
    simpa only [Value.okWide, Tryz.underlying22] using this
  have k3 := h3
  have lt3 : ∀ x ∈ p3, x.block < W.heap.size := by obtain ⟨m, hm⟩ := k3; exact DataW.trod_lt m _ _ _ hm
  obtain ⟨st3, rfl⟩ : ∃ s, v3 = .string s := by
    have this := hval 3 9 v3 rfl rfl
    cases v3 <;> simp only [Value.okWide, Tryz.underlying9, Cell.okWide, Cell.ok] at this
    exact ⟨_, rfl⟩
  clear hA0 hval0
  refine (EffectStates_c k0' a0 t0 A0 T0 k1' a1 t1 A1 T1 v2 L2 st3 W hE sA0 sT0 sA1 sT1 sL2).calls.mono fun e W' ⟨he, bel⟩ => ?_
  subst he
  exact ⟨_, rfl, _, _, _, [], _, [], hW', trodAll_mk1 (shut_bool Tryz.underlying4 _), (trodAll_cons_mk (Below.trod laidOut (by kernel_rfl) (of_decide_eq_true (by kernel_rfl)) k0 bel lt0) (trodAll_cons_mk (Below.trod laidOut (by kernel_rfl) (of_decide_eq_true (by kernel_rfl)) k1 bel lt1) (trodAll_cons_mk (Below.trod laidOut (by kernel_rfl) (of_decide_eq_true (by kernel_rfl)) k2 bel lt2) (trodAll_cons_mk (Below.trod laidOut (by kernel_rfl) (of_decide_eq_true (by kernel_rfl)) k3 bel lt3) trodAll_mk0)))), rfl, bel.frame _, fun h => by cases h⟩

theorem over : Rows.effectStatesRow.holds Tryz.pinned (OpenSpec.ofChange Rows.effectStatesSpec) :=
  OpenClaim.holds_of_wide 3 Tryz.f3 rfl rfl rfl rfl rfl rfl rfl ⟨rfl, rfl, rfl, rfl, rfl⟩ rfl rfl rfl rfl rfl (by kernel_rfl) Tryz.func3 (by kernel_rfl)
    (of_decide_eq_true (by kernel_rfl)) (by unfold Func.isWrapper; first | (rw [if_pos (by decide +kernel)]; kernel_rfl) | (rw [if_neg (by decide +kernel)]; exact ⟨rfl, rfl⟩))
    (fun os started H enc _ => lifted os started H enc)

theorem carded : Rows.EffectStatesCardSaid :=
  Claim7.holds_tied_plain_at .later [] [.data, .data, .data, .data, .sentinel, .sentinel, .pinned] true (true, "978274541c711a4e2c3036612bb725d0bc48fb0d8a684034046db7389b92801a") true
    over (fun _ h => by cases h) (by kernel_rfl) (fun _ h => by cases h) effectStates_row_tie rfl ⟨rfl, rfl⟩ (by kernel_rfl) rfl
    (fun f fn hf hfn => by
      obtain rfl : f = 3 := Option.some.inj ((show (Go.Proofs.Tryz.prog).funcNamed "continuo/continuolaw31.EffectStates" = some 3 by kernel_rfl).symm.trans hf) |>.symm
      obtain rfl : fn = Tryz.f3 := (Option.some.inj (Tryz.func3.symm.trans hfn)).symm
      exact ⟨by kernel_rfl, fun j t ht => by
        rw [Tryz.params3] at ht
        have hm : t ∈ [24, 24, 22, 9] := by simpa using Array.mem_of_getElem? ht
        have hall : ([24, 24, 22, 9].all fun u => !(Go.Proofs.Tryz.prog).wantsStandIn u) = true := by kernel_rfl
        exact (show (Go.Proofs.Tryz.prog).wantsStandIn t = false by simpa using List.all_eq_true.1 hall t hm)⟩)
    (by kernel_rfl)
end LawStates

/-- The statement. -/
theorem effectStates_proved : Rows.EffectStatesCardSaid := LawStates.carded
#print axioms effectStates_proved

end Go.Proofs.YtefcfnmmpnjjjaaGreatDoor
