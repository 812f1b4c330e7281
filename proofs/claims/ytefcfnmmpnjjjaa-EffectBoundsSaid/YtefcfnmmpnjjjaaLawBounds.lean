/- For every effect and every list of samples the law continuolaw31.EffectBounds returns true, and its input reads behind the call as it read before; no condition. -/
import Derived.Test.YtefcfnmmpnjjjaaLawOpen
import Derived.Test.YtefcfnmmpnjjjaaEffL
namespace Go.Proofs.Ytefcfnmmpnjjjaa
open Go.ChangeShapes Go.WideShapes Go.ChangeAt Go.RowKit

namespace LawBounds
set_option maxRecDepth 100000 in
theorem lifted (os : Os) (started : os.Started) (H : Type) (enc : TypeId × Value → H) :
    ReturnsInHanded {} Try.checked os 3 .any (Rows.effectBoundsSpec.pre6 enc Go.Proofs.Try.prog Try.f3 Rows.effectBoundsRow.domain false) (Rows.effectBoundsSpec.post enc Go.Proofs.Try.prog Try.f3 false true false false) := by
  refine returnsInHanded_of_change (C := Try.checked) own started (by kernel_rfl) Try.func3
    (ChangeSpec.witness6 (enc := enc) (C := Try.checked) false ⟨#[], #[.agg #[.int .i64 0, .slice none 0 0, .slice none 0 0], .slice none 0 0], []⟩ 8 (by kernel_rfl) (by kernel_rfl) (by kernel_rfl) (by kernel_rfl)) ?_
  intro W base args ds gs before hval0 hW hcnd _
  have hval : ∀ (j : Nat) t v, Try.f3.params[j]? = some t → args[j]? = some v → Value.okWide Go.Proofs.Try.prog W .any base t v := hval0
  have hW' := hW
  obtain ⟨p, q, hA0, hV, rfl, hfz, hnd⟩ := hW
  have hA : DataW.TrodAll enc Go.Proofs.Try.prog W 0 (fun _ => true) true Try.f3.params.toList args.toList ds p := hA0
  rw [Try.params3] at hA hval
  obtain ⟨v0, vs0, d0, ds0, p0, q0, hargs, rfl, rfl, h0, r0⟩ := trodAll_cons hA
  obtain ⟨v1, vs1, d1, ds1, p1, q1, rfl, rfl, rfl, h1, r1⟩ := trodAll_cons r0
  obtain ⟨rfl, rfl, rfl⟩ := trodAll_nil r1
  obtain rfl : args = #[v0, v1] := by cases args; simp_all
  obtain ⟨rfl, rfl⟩ := trodVars_none hV
  have k0 := h0
  have lt0 : ∀ x ∈ p0, x.block < W.heap.size := by obtain ⟨m, hm⟩ := k0; exact DataW.trod_lt m _ _ _ hm
  obtain ⟨k, a, t, A, T, rfl, sA, sT⟩ : ∃ k a t A T, v0 = .agg #[.int .i64 k, a, t] ∧ SlI W a A ∧ SlI W t T := by
    obtain ⟨m, hm⟩ := h0
    exact eff_open (hval 0 24 v0 rfl rfl) hm
  have k1 := h1
  have lt1 : ∀ x ∈ p1, x.block < W.heap.size := by obtain ⟨m, hm⟩ := k1; exact DataW.trod_lt m _ _ _ hm
  obtain ⟨L, sL⟩ : ∃ xs, SlI W v1 xs := by
    obtain ⟨m, hm⟩ := h1
    obtain ⟨x1, y1, z1, rfl⟩ := okWide_slice Try.underlying22 (hval 1 22 v1 rfl rfl)
    refine sl_open (b0 := base) ?_ hm
    have this : Value.okWide Go.Proofs.Try.prog W .any base 22 (.slice x1 y1 z1) := hval 1 22 _ rfl rfl
    simpa only [Value.okWide, Try.underlying22] using this
  clear hA0 hval0
  refine (EffectBounds_c k a t A T v1 L W sA sT sL).calls.mono fun e W' ⟨he, bel⟩ => ?_
  subst he
  exact ⟨_, rfl, _, _, _, [], _, [], hW', trodAll_mk1 (shut_bool Try.underlying4 _), (trodAll_cons_mk (Below.trod laidOut (by kernel_rfl) (of_decide_eq_true (by kernel_rfl)) k0 bel lt0) (trodAll_cons_mk (Below.trod laidOut (by kernel_rfl) (of_decide_eq_true (by kernel_rfl)) k1 bel lt1) trodAll_mk0)), rfl, bel.frame _, fun h => by cases h⟩

theorem over : Rows.effectBoundsRow.holds Try.pinned (OpenSpec.ofChange Rows.effectBoundsSpec) :=
  OpenClaim.holds_of_wide 3 Try.f3 rfl rfl rfl rfl rfl rfl rfl ⟨rfl, rfl, rfl, rfl, rfl⟩ rfl rfl rfl rfl rfl (by kernel_rfl) Try.func3 (by kernel_rfl)
    (of_decide_eq_true (by kernel_rfl)) (by unfold Func.isWrapper; first | (rw [if_pos (by decide +kernel)]; kernel_rfl) | (rw [if_neg (by decide +kernel)]; exact ⟨rfl, rfl⟩))
    (fun os started H enc _ => lifted os started H enc)
end LawBounds

/-- The statement. -/
theorem effectBounds_proved : Rows.EffectBoundsSaid := LawBounds.over
#print axioms effectBounds_proved

end Go.Proofs.Ytefcfnmmpnjjjaa
