/- For all lists of delays, gains and samples the law continuolaw31.EffectEqual returns true, and its input reads behind the call as it read before; no condition. -/
import Derived.Test.YtefcfnmmpnjjjaaLawOpen
import Derived.Test.YtefcfnmmpnjjjaaEffW
namespace Go.Proofs.Ytefcfnmmpnjjjaa
open Go.ChangeShapes Go.WideShapes Go.ChangeAt Go.RowKit

namespace LawEqual
set_option maxRecDepth 100000 in
theorem lifted (os : Os) (started : os.Started) (H : Type) (enc : TypeId × Value → H) :
    ReturnsInHanded {} Try.checked os 6 .any (Rows.effectEqualSpec.pre6 enc Go.Proofs.Try.prog Try.f6 Rows.effectEqualRow.domain false) (Rows.effectEqualSpec.post enc Go.Proofs.Try.prog Try.f6 false true false false) := by
  refine returnsInHanded_of_change (C := Try.checked) own started (by kernel_rfl) Try.func6
    (ChangeSpec.witness6 (enc := enc) (C := Try.checked) false ⟨#[], #[.slice none 0 0, .slice none 0 0, .slice none 0 0], []⟩ 8 (by kernel_rfl) (by kernel_rfl) (by kernel_rfl) (by kernel_rfl)) ?_
  intro W base args ds gs before hval0 hW hcnd _
  have hval : ∀ (j : Nat) t v, Try.f6.params[j]? = some t → args[j]? = some v → Value.okWide Go.Proofs.Try.prog W .any base t v := hval0
  have hW' := hW
  obtain ⟨p, q, hA0, hV, rfl, hfz, hnd⟩ := hW
  have hA : DataW.TrodAll enc Go.Proofs.Try.prog W 0 (fun _ => true) true Try.f6.params.toList args.toList ds p := hA0
  rw [Try.params6] at hA hval
  obtain ⟨v0, vs0, d0, ds0, p0, q0, hargs, rfl, rfl, h0, r0⟩ := trodAll_cons hA
  obtain ⟨v1, vs1, d1, ds1, p1, q1, rfl, rfl, rfl, h1, r1⟩ := trodAll_cons r0
  obtain ⟨v2, vs2, d2, ds2, p2, q2, rfl, rfl, rfl, h2, r2⟩ := trodAll_cons r1
  obtain ⟨rfl, rfl, rfl⟩ := trodAll_nil r2
  obtain rfl : args = #[v0, v1, v2] := by cases args; simp_all
  obtain ⟨rfl, rfl⟩ := trodVars_none hV
  have k0 := h0
  have lt0 : ∀ x ∈ p0, x.block < W.heap.size := by obtain ⟨m, hm⟩ := k0; exact DataW.trod_lt m _ _ _ hm
  obtain ⟨L0, s0⟩ : ∃ xs, SlI W v0 xs := by
    obtain ⟨m, hm⟩ := h0
    obtain ⟨x1, y1, z1, rfl⟩ := okWide_slice Try.underlying22 (hval 0 22 v0 rfl rfl)
    refine sl_open (b0 := base) ?_ hm
    have this : Value.okWide Go.Proofs.Try.prog W .any base 22 (.slice x1 y1 z1) := hval 0 22 _ rfl rfl
    simpa only [Value.okWide, Try.underlying22] using this
  have k1 := h1
  have lt1 : ∀ x ∈ p1, x.block < W.heap.size := by obtain ⟨m, hm⟩ := k1; exact DataW.trod_lt m _ _ _ hm
  obtain ⟨L1, s1⟩ : ∃ xs, SlI W v1 xs := by
    obtain ⟨m, hm⟩ := h1
    obtain ⟨x1, y1, z1, rfl⟩ := okWide_slice Try.underlying22 (hval 1 22 v1 rfl rfl)
    refine sl_open (b0 := base) ?_ hm
    have this : Value.okWide Go.Proofs.Try.prog W .any base 22 (.slice x1 y1 z1) := hval 1 22 _ rfl rfl
    simpa only [Value.okWide, Try.underlying22] using this
  have k2 := h2
  have lt2 : ∀ x ∈ p2, x.block < W.heap.size := by obtain ⟨m, hm⟩ := k2; exact DataW.trod_lt m _ _ _ hm
  obtain ⟨L2, s2⟩ : ∃ xs, SlI W v2 xs := by
    obtain ⟨m, hm⟩ := h2
    obtain ⟨x1, y1, z1, rfl⟩ := okWide_slice Try.underlying22 (hval 2 22 v2 rfl rfl)
    refine sl_open (b0 := base) ?_ hm
    have this : Value.okWide Go.Proofs.Try.prog W .any base 22 (.slice x1 y1 z1) := hval 2 22 _ rfl rfl
    simpa only [Value.okWide, Try.underlying22] using this
  clear hA0 hval0
  refine (EffectEqual_c v0 v1 v2 L0 L1 L2 W s0 s1 s2).calls.mono fun e W' ⟨he, bel⟩ => ?_
  subst he
  exact ⟨_, rfl, _, _, _, [], _, [], hW', trodAll_mk1 (shut_bool Try.underlying4 _), (trodAll_cons_mk (Below.trod laidOut (by kernel_rfl) (of_decide_eq_true (by kernel_rfl)) k0 bel lt0) (trodAll_cons_mk (Below.trod laidOut (by kernel_rfl) (of_decide_eq_true (by kernel_rfl)) k1 bel lt1) (trodAll_cons_mk (Below.trod laidOut (by kernel_rfl) (of_decide_eq_true (by kernel_rfl)) k2 bel lt2) trodAll_mk0))), rfl, bel.frame _, fun h => by cases h⟩

theorem over : Rows.effectEqualRow.holds Try.pinned (OpenSpec.ofChange Rows.effectEqualSpec) :=
  OpenClaim.holds_of_wide 6 Try.f6 rfl rfl rfl rfl rfl rfl rfl ⟨rfl, rfl, rfl, rfl, rfl⟩ rfl rfl rfl rfl rfl (by kernel_rfl) Try.func6 (by kernel_rfl)
    (of_decide_eq_true (by kernel_rfl)) (by unfold Func.isWrapper; first | (rw [if_pos (by decide +kernel)]; kernel_rfl) | (rw [if_neg (by decide +kernel)]; exact ⟨rfl, rfl⟩))
    (fun os started H enc _ => lifted os started H enc)
end LawEqual

/-- The statement. -/
theorem effectEqual_proved : Rows.EffectEqualSaid := LawEqual.over
#print axioms effectEqual_proved

end Go.Proofs.Ytefcfnmmpnjjjaa
