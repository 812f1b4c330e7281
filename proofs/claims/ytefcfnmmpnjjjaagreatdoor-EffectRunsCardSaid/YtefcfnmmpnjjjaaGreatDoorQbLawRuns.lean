/- For all effects, samples and cuts the law continuolaw31.EffectRuns returns true, and its input reads behind the call as it read before; the row's listed tables read as the program lays them (tied: the card). -/
import Derived.Test.YtefcfnmmpnjjjaaGreatDoorQbLawOpen
import Derived.Test.YtefcfnmmpnjjjaaGreatDoorQbStL
import Derived.Test.YtefcfnmmpnjjjaaGreatDoorQbStW
import Derived.Test.YtefcfnmmpnjjjaaGreatDoorTie
import Derived.Test.YtefcfnmmpnjjjaaGreatDoorCards
import Derived.Lay
import Derived.LaidMore
import Derived.SevenTiedAt
namespace Go.Proofs.YtefcfnmmpnjjjaaGreatDoor
open Go.ChangeShapes Go.WideShapes Go.ChangeAt Go.RowKit

namespace LawRuns
set_option maxRecDepth 100000 in
theorem lifted (os : Os) (started : os.Started) (H : Type) (enc : TypeId × Value → H) :
    ReturnsInHanded {} Tryz.checked os 4 .any (fun w args => (Rows.effectRunsSpec.pre enc Go.Proofs.Tryz.prog Tryz.f4 [] false w args ∧ laidMetH Go.Proofs.Tryz.prog Rows.effectRunsRow.laid w) ∧ sizedMet enc Go.Proofs.Tryz.prog Tryz.f4 (OpenSpec.ofChange Rows.effectRunsSpec) false w args)
      (Rows.effectRunsSpec.post enc Go.Proofs.Tryz.prog Tryz.f4 false true false false) := by
  refine handed_laid_shaped (C := Tryz.checked) (X := fun w _ => laidMetH Go.Proofs.Tryz.prog Rows.effectRunsRow.laid w) (fun _ _ _ hh h => h.of_heap hh) own started (by kernel_rfl) Tryz.func4
    (ChangeSpec.witness_shaped (enc := enc) (C := Tryz.checked) (os := os) (X := fun w _ => laidMetH Go.Proofs.Tryz.prog Rows.effectRunsRow.laid w) false (World.laidAll Go.Proofs.Tryz.prog os Rows.effectRunsRow.laid) #[.agg #[.int .i64 0, .slice none 0 0, .slice none 0 0], .slice none 0 0, .slice none 0 0, .int .i64 0] 8 (World.laidAll_os _ _ _)
      (World.shaped_of_ZipB (by kernel_rfl) (by kernel_rfl)) (by kernel_rfl) (by kernel_rfl) (by kernel_rfl)
      (by rw [MakeChecks.laidMetH_plain _ _ _ (by kernel_rfl)]; exact laidMet_laidAll _ (by kernel_rfl) (by kernel_rfl))) ?_
  intro W base args ds gs before hval0 hW hlaid hshaped
  have hE : EnvS W := envS_of_laid hlaid hshaped
  have hval : ∀ (j : Nat) t v, Tryz.f4.params[j]? = some t → args[j]? = some v → Value.okWide Go.Proofs.Tryz.prog W .any base t v := hval0
  have hW' := hW
  obtain ⟨p, q, hA0, hV, rfl, hfz, hnd⟩ := hW
  have hA : DataW.TrodAll enc Go.Proofs.Tryz.prog W 0 (fun _ => true) true Tryz.f4.params.toList args.toList ds p := hA0
  rw [Tryz.params4] at hA hval
  obtain ⟨v0, vs0, d0, ds0, p0, q0, hargs, rfl, rfl, h0, r0⟩ := trodAll_cons hA
  obtain ⟨v1, vs1, d1, ds1, p1, q1, rfl, rfl, rfl, h1, r1⟩ := trodAll_cons r0
  obtain ⟨v2, vs2, d2, ds2, p2, q2, rfl, rfl, rfl, h2, r2⟩ := trodAll_cons r1
  obtain ⟨v3, vs3, d3, ds3, p3, q3, rfl, rfl, rfl, h3, r3⟩ := trodAll_cons r2
  obtain ⟨rfl, rfl, rfl⟩ := trodAll_nil r3
  obtain rfl : args = #[v0, v1, v2, v3] := by cases args; simp_all
  obtain ⟨rfl, rfl⟩ := trodVars_none hV
  have k0 := h0
  have lt0 : ∀ x ∈ p0, x.block < W.heap.size := by obtain ⟨m, hm⟩ := k0; exact DataW.trod_lt m _ _ _ hm
  obtain ⟨k0', a0, t0, A0, T0, rfl, sA0, sT0⟩ : ∃ k a t A T, v0 = .agg #[.int .i64 k, a, t] ∧ SlI W a A ∧ SlI W t T := by
    obtain ⟨m, hm⟩ := h0
    exact eff_open (hval 0 24 v0 rfl rfl) hm
  have k1 := h1
  have lt1 : ∀ x ∈ p1, x.block < W.heap.size := by obtain ⟨m, hm⟩ := k1; exact DataW.trod_lt m _ _ _ hm
  obtain ⟨L1, sL1⟩ : ∃ xs, SlI W v1 xs := by
    obtain ⟨m, hm⟩ := h1
    obtain ⟨x1, y1, z1, rfl⟩ := okWide_slice Tryz.underlying22 (hval 1 22 v1 rfl rfl)
    refine sl_open (b0 := base) ?_ hm
    have this : Value.okWide Go.Proofs.Tryz.prog W .any base 22 (.slice x1 y1 z1) := hval 1 22 _ rfl rfl
    simpa only [Value.okWide, Tryz.underlying22] using this
  have k2 := h2
  have lt2 : ∀ x ∈ p2, x.block < W.heap.size := by obtain ⟨m, hm⟩ := k2; exact DataW.trod_lt m _ _ _ hm
  obtain ⟨L2, sL2⟩ : ∃ xs, SlI W v2 xs := by
    obtain ⟨m, hm⟩ := h2
    obtain ⟨x1, y1, z1, rfl⟩ := okWide_slice Tryz.underlying22 (hval 2 22 v2 rfl rfl)
    refine sl_open (b0 := base) ?_ hm
    have this : Value.okWide Go.Proofs.Tryz.prog W .any base 22 (.slice x1 y1 z1) := hval 2 22 _ rfl rfl
    simpa only [Value.okWide, Tryz.underlying22] using this
  have k3 := h3
  have lt3 : ∀ x ∈ p3, x.block < W.heap.size := by obtain ⟨m, hm⟩ := k3; exact DataW.trod_lt m _ _ _ hm
  obtain ⟨i3, rfl⟩ : ∃ s, v3 = .int .i64 s := by
    have this := hval 3 3 v3 rfl rfl
    cases v3 <;> simp only [Value.okWide, Tryz.underlying3, Cell.okWide, Cell.ok] at this
    obtain ⟨rfl, _⟩ := this
    exact ⟨_, rfl⟩
  clear hA0 hval0
  refine (EffectRuns_c k0' a0 t0 A0 T0 v1 L1 v2 L2 i3 W hE sA0 sT0 sL1 sL2).calls.mono fun e W' ⟨he, bel⟩ => ?_
  subst he
  exact ⟨_, rfl, _, _, _, [], _, [], hW', trodAll_mk1 (shut_bool Tryz.underlying4 _), (trodAll_cons_mk (Below.trod laidOut (by kernel_rfl) (of_decide_eq_true (by kernel_rfl)) k0 bel lt0) (trodAll_cons_mk (Below.trod laidOut (by kernel_rfl) (of_decide_eq_true (by kernel_rfl)) k1 bel lt1) (trodAll_cons_mk (Below.trod laidOut (by kernel_rfl) (of_decide_eq_true (by kernel_rfl)) k2 bel lt2) (trodAll_cons_mk (Below.trod laidOut (by kernel_rfl) (of_decide_eq_true (by kernel_rfl)) k3 bel lt3) trodAll_mk0)))), rfl, bel.frame _, fun h => by cases h⟩

theorem over : Rows.effectRunsRow.holds Tryz.pinned (OpenSpec.ofChange Rows.effectRunsSpec) :=
  OpenClaim.holds_of_wide 4 Tryz.f4 rfl rfl rfl rfl rfl rfl rfl ⟨rfl, rfl, rfl, rfl, rfl⟩ rfl rfl rfl rfl rfl (by kernel_rfl) Tryz.func4 (by kernel_rfl)
    (of_decide_eq_true (by kernel_rfl)) (by unfold Func.isWrapper; first | (rw [if_pos (by decide +kernel)]; kernel_rfl) | (rw [if_neg (by decide +kernel)]; exact ⟨rfl, rfl⟩))
    (fun os started H enc _ => lifted os started H enc)

theorem carded : Rows.EffectRunsCardSaid :=
  Claim7.holds_tied_plain_at .later [] [.data, .data, .data, .data, .sentinel, .sentinel, .pinned] true (true, "978274541c711a4e2c3036612bb725d0bc48fb0d8a684034046db7389b92801a") true
    over (fun _ h => by cases h) (by kernel_rfl) (fun _ h => by cases h) effectRuns_row_tie rfl ⟨rfl, rfl⟩ (by kernel_rfl) rfl
    (fun f fn hf hfn => by
      obtain rfl : f = 4 := Option.some.inj ((show (Go.Proofs.Tryz.prog).funcNamed "continuo/continuolaw31.EffectRuns" = some 4 by kernel_rfl).symm.trans hf) |>.symm
      obtain rfl : fn = Tryz.f4 := (Option.some.inj (Tryz.func4.symm.trans hfn)).symm
      exact ⟨by kernel_rfl, fun j t ht => by
        rw [Tryz.params4] at ht
        have hm : t ∈ [24, 22, 22, 3] := by simpa using Array.mem_of_getElem? ht
        have hall : ([24, 22, 22, 3].all fun u => !(Go.Proofs.Tryz.prog).wantsStandIn u) = true := by kernel_rfl
        exact (show (Go.Proofs.Tryz.prog).wantsStandIn t = false by simpa using List.all_eq_true.1 hall t hm)⟩)
    (by kernel_rfl)
end LawRuns

/-- The statement. -/
theorem effectRuns_proved : Rows.EffectRunsCardSaid := LawRuns.carded
#print axioms effectRuns_proved

end Go.Proofs.YtefcfnmmpnjjjaaGreatDoor
