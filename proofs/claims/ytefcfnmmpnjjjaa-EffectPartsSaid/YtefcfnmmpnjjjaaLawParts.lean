/- For all taps, lengths, samples and cuts the law continuolaw31.EffectParts returns true, and its input reads behind the call as it read before; no condition. -/
import Derived.Test.YtefcfnmmpnjjjaaLawOpen
import Derived.Test.YtefcfnmmpnjjjaaEffPD
namespace Go.Proofs.Ytefcfnmmpnjjjaa
open Go.ChangeShapes Go.WideShapes Go.ChangeAt Go.RowKit

namespace LawParts
set_option maxRecDepth 100000 in
theorem lifted (os : Os) (started : os.Started) (H : Type) (enc : TypeId × Value → H) :
    ReturnsInHanded {} Try.checked os 5 .any (Rows.effectPartsSpec.pre6 enc Go.Proofs.Try.prog Try.f5 Rows.effectPartsRow.domain false) (Rows.effectPartsSpec.post enc Go.Proofs.Try.prog Try.f5 false true false false) := by
  refine returnsInHanded_of_change (C := Try.checked) own started (by kernel_rfl) Try.func5
    (ChangeSpec.witness6 (enc := enc) (C := Try.checked) false ⟨#[], #[.slice none 0 0, .int .i64 0, .slice none 0 0, .int .i64 0], []⟩ 8 (by kernel_rfl) (by kernel_rfl) (by kernel_rfl) (by kernel_rfl)) ?_
  intro W base args ds gs before hval0 hW hcnd _
  have hval : ∀ (j : Nat) t v, Try.f5.params[j]? = some t → args[j]? = some v → Value.okWide Go.Proofs.Try.prog W .any base t v := hval0
  have hW' := hW
  obtain ⟨p, q, hA0, hV, rfl, hfz, hnd⟩ := hW
  have hA : DataW.TrodAll enc Go.Proofs.Try.prog W 0 (fun _ => true) true Try.f5.params.toList args.toList ds p := hA0
  rw [Try.params5] at hA hval
  obtain ⟨v0, vs0, d0, ds0, p0, q0, hargs, rfl, rfl, h0, r0⟩ := trodAll_cons hA
  obtain ⟨v1, vs1, d1, ds1, p1, q1, rfl, rfl, rfl, h1, r1⟩ := trodAll_cons r0
  obtain ⟨v2, vs2, d2, ds2, p2, q2, rfl, rfl, rfl, h2, r2⟩ := trodAll_cons r1
  obtain ⟨v3, vs3, d3, ds3, p3, q3, rfl, rfl, rfl, h3, r3⟩ := trodAll_cons r2
  obtain ⟨rfl, rfl, rfl⟩ := trodAll_nil r3
  obtain rfl : args = #[v0, v1, v2, v3] := by cases args; simp_all
  obtain ⟨rfl, rfl⟩ := trodVars_none hV
  have k0 := h0
  have lt0 : ∀ x ∈ p0, x.block < W.heap.size := by obtain ⟨m, hm⟩ := k0; exact DataW.trod_lt m _ _ _ hm
  obtain ⟨L0, s0⟩ : ∃ xs, SlI W v0 xs := by
    obtain ⟨m, hm⟩ := h0
    obtain ⟨x1, y1, z1, rfl⟩ := okWide_slice Try.underlying22 (hval 0 22 v0 rfl rfl)
    refine sl_open (b0 := base) ?_ hm
    have this : Value.okWide Go.Proofs.Try.prog W .any base 22 (.slice x1 y1 z1) := hval 0 22 _ rfl rfl
    simpa only [Value.okWide, Try.underlying22] using this
  have k1 := h1
  have lt1 : ∀ x ∈ p1, x.block < W.heap.size := by obtain ⟨m, hm⟩ := k1; exact DataW.trod_lt m _ _ _ hm
  have k2 := h2
  have lt2 : ∀ x ∈ p2, x.block < W.heap.size := by obtain ⟨m, hm⟩ := k2; exact DataW.trod_lt m _ _ _ hm
  obtain ⟨L2, s2⟩ : ∃ xs, SlI W v2 xs := by
    obtain ⟨m, hm⟩ := h2
    obtain ⟨x1, y1, z1, rfl⟩ := okWide_slice Try.underlying22 (hval 2 22 v2 rfl rfl)
    refine sl_open (b0 := base) ?_ hm
    have this : Value.okWide Go.Proofs.Try.prog W .any base 22 (.slice x1 y1 z1) := hval 2 22 _ rfl rfl
    simpa only [Value.okWide, Try.underlying22] using this
  have k3 := h3
  have lt3 : ∀ x ∈ p3, x.block < W.heap.size := by obtain ⟨m, hm⟩ := k3; exact DataW.trod_lt m _ _ _ hm
  have e1 : ∃ n, v1 = .int .i64 n := by obtain ⟨n, h, _⟩ := open_int Try.underlying3 (hval 1 3 v1 rfl rfl) h1; exact ⟨n, h⟩
  have e3 : ∃ n, v3 = .int .i64 n := by obtain ⟨n, h, _⟩ := open_int Try.underlying3 (hval 3 3 v3 rfl rfl) h3; exact ⟨n, h⟩
  obtain ⟨n1, rfl⟩ := e1
  obtain ⟨n3, rfl⟩ := e3
  clear hA0 hval0
  refine (EffectParts_c v0 v2 L0 L2 n1 n3 W s0 s2).calls.mono fun e W' ⟨he, bel⟩ => ?_
  subst he
  exact ⟨_, rfl, _, _, _, [], _, [], hW', trodAll_mk1 (shut_bool Try.underlying4 _), (trodAll_cons_mk (Below.trod laidOut (by kernel_rfl) (of_decide_eq_true (by kernel_rfl)) k0 bel lt0) (trodAll_cons_mk (Below.trod laidOut (by kernel_rfl) (of_decide_eq_true (by kernel_rfl)) k1 bel lt1) (trodAll_cons_mk (Below.trod laidOut (by kernel_rfl) (of_decide_eq_true (by kernel_rfl)) k2 bel lt2) (trodAll_cons_mk (Below.trod laidOut (by kernel_rfl) (of_decide_eq_true (by kernel_rfl)) k3 bel lt3) trodAll_mk0)))), rfl, bel.frame _, fun h => by cases h⟩

theorem over : Rows.effectPartsRow.holds Try.pinned (OpenSpec.ofChange Rows.effectPartsSpec) :=
  OpenClaim.holds_of_wide 5 Try.f5 rfl rfl rfl rfl rfl rfl rfl ⟨rfl, rfl, rfl, rfl, rfl⟩ rfl rfl rfl rfl rfl (by kernel_rfl) Try.func5 (by kernel_rfl)
    (of_decide_eq_true (by kernel_rfl)) (by unfold Func.isWrapper; first | (rw [if_pos (by decide +kernel)]; kernel_rfl) | (rw [if_neg (by decide +kernel)]; exact ⟨rfl, rfl⟩))
    (fun os started H enc _ => lifted os started H enc)
end LawParts

/-- The statement. -/
theorem effectParts_proved : Rows.EffectPartsSaid := LawParts.over
#print axioms effectParts_proved

end Go.Proofs.Ytefcfnmmpnjjjaa
