/- For every seed and bound the law continuolaw29.PatternDraws returns true, and its input reads behind the call as it read before; the row's listed tables read as the program lays them (tied: the card). -/
import Derived.Test.YtcinhjefclbgjaaDoorLawBase
import Derived.Test.YtcinhjefclbgjaaDoorDrawA
import Derived.Test.YtcinhjefclbgjaaDoorTie
import Derived.Test.YtcinhjefclbgjaaDoorCards
import Derived.Lay
import Derived.LaidMore
import Derived.SevenTiedAt
namespace Go.Proofs.YtcinhjefclbgjaaDoor
open Go.ChangeShapes Go.WideShapes Go.ChangeAt Go.RowKit

namespace LawPatternDraws
set_option maxRecDepth 100000 in
theorem lifted (os : Os) (started : os.Started) (H : Type) (enc : TypeId × Value → H) :
    ReturnsInHanded {} Tryd.checked os 3 .any (fun w args => (Rows.patternDrawsSpec.pre enc Go.Proofs.Tryd.prog Tryd.f3 [] false w args ∧ laidMetH Go.Proofs.Tryd.prog Rows.patternDrawsRow.laid w) ∧ sizedMet enc Go.Proofs.Tryd.prog Tryd.f3 (OpenSpec.ofChange Rows.patternDrawsSpec) false w args)
      (Rows.patternDrawsSpec.post enc Go.Proofs.Tryd.prog Tryd.f3 false true false false) := by
  refine returnsInHanded_of_change_and (C := Tryd.checked) (X := fun w _ => laidMetH Go.Proofs.Tryd.prog Rows.patternDrawsRow.laid w) (fun _ _ _ hh h => h.of_heap hh) own started (by kernel_rfl) Tryd.func3
    (ChangeSpec.witness_shaped (enc := enc) (C := Tryd.checked) (os := os) (X := fun w _ => laidMetH Go.Proofs.Tryd.prog Rows.patternDrawsRow.laid w) false (World.laidAll Go.Proofs.Tryd.prog os Rows.patternDrawsRow.laid) #[.int .i64 0, .int .i64 0] 8 (World.laidAll_os _ _ _)
      (World.shaped_of_ZipB (by kernel_rfl) (by kernel_rfl)) (by kernel_rfl) (by kernel_rfl) (by kernel_rfl)
      (by rw [MakeChecks.laidMetH_plain _ _ _ (by kernel_rfl)]; exact laidMet_laidAll _ (by kernel_rfl) (by kernel_rfl))) ?_
  intro W base args ds gs before hval0 hW _ _ _ _
  have hval : ∀ (j : Nat) t v, Tryd.f3.params[j]? = some t → args[j]? = some v → Value.okWide Go.Proofs.Tryd.prog W .any base t v := hval0
  have hW' := hW
  obtain ⟨p, q, hA0, hV, rfl, hfz, hnd⟩ := hW
  have hA : DataW.TrodAll enc Go.Proofs.Tryd.prog W 0 (fun _ => true) true Tryd.f3.params.toList args.toList ds p := hA0
  rw [Tryd.params3] at hA hval
  obtain ⟨v0, vs0, d0, ds0, p0, q0, hargs, rfl, rfl, h0, r0⟩ := trodAll_cons hA
  obtain ⟨v1, vs1, d1, ds1, p1, q1, rfl, rfl, rfl, h1, r1⟩ := trodAll_cons r0
  obtain ⟨rfl, rfl, rfl⟩ := trodAll_nil r1
  obtain rfl : args = #[v0, v1] := by cases args; simp_all
  obtain ⟨rfl, rfl⟩ := trodVars_none hV
  have k0 := h0
  have lt0 : ∀ x ∈ p0, x.block < W.heap.size := by obtain ⟨m, hm⟩ := k0; exact DataW.trod_lt m _ _ _ hm
  obtain ⟨i0, rfl⟩ : ∃ s, v0 = .int .i64 s := by
    have this := hval 0 3 v0 rfl rfl
    cases v0 <;> simp only [Value.okWide, Tryd.underlying3, Cell.okWide, Cell.ok] at this
    obtain ⟨rfl, _⟩ := this
    exact ⟨_, rfl⟩
  have k1 := h1
  have lt1 : ∀ x ∈ p1, x.block < W.heap.size := by obtain ⟨m, hm⟩ := k1; exact DataW.trod_lt m _ _ _ hm
  obtain ⟨i1, rfl⟩ : ∃ s, v1 = .int .i64 s := by
    have this := hval 1 3 v1 rfl rfl
    cases v1 <;> simp only [Value.okWide, Tryd.underlying3, Cell.okWide, Cell.ok] at this
    obtain ⟨rfl, _⟩ := this
    exact ⟨_, rfl⟩
  clear hA0 hval0
  refine (PatternDraws_c i0 i1 W).calls.mono fun e W' ⟨he, bel⟩ => ?_
  subst he
  exact ⟨_, rfl, _, _, _, [], _, [], hW', trodAll_mk1 (shut_bool Tryd.underlying4 _), (trodAll_cons_mk (Below.trod laidOut (by kernel_rfl) (of_decide_eq_true (by kernel_rfl)) k0 bel lt0) (trodAll_cons_mk (Below.trod laidOut (by kernel_rfl) (of_decide_eq_true (by kernel_rfl)) k1 bel lt1) trodAll_mk0)), rfl, bel.frame _, fun h => by cases h⟩

theorem over : Rows.patternDrawsRow.holds Tryd.pinned (OpenSpec.ofChange Rows.patternDrawsSpec) :=
  OpenClaim.holds_of_wide 3 Tryd.f3 rfl rfl rfl rfl rfl rfl rfl ⟨rfl, rfl, rfl, rfl, rfl⟩ rfl rfl rfl rfl rfl (by kernel_rfl) Tryd.func3 (by kernel_rfl)
    (of_decide_eq_true (by kernel_rfl)) (by unfold Func.isWrapper; first | (rw [if_pos (by decide +kernel)]; kernel_rfl) | (rw [if_neg (by decide +kernel)]; exact ⟨rfl, rfl⟩))
    (fun os started H enc _ => lifted os started H enc)

theorem carded : Rows.PatternDrawsCardSaid :=
  Claim7.holds_tied_plain_at .later [] [.data, .data, .data, .sentinel, .sentinel] true (true, "2c5b4b4bf9a37b0e265f0833756c9a119c6214ed41c121b48d371f12e39c3649") true
    over (fun _ h => by cases h) (by kernel_rfl) (fun _ h => by cases h) patternDraws_row_tie rfl ⟨rfl, rfl⟩ (by kernel_rfl) rfl
    (fun f fn hf hfn => by
      obtain rfl : f = 3 := Option.some.inj ((show (Go.Proofs.Tryd.prog).funcNamed "continuo/continuolaw29.PatternDraws" = some 3 by kernel_rfl).symm.trans hf) |>.symm
      obtain rfl : fn = Tryd.f3 := (Option.some.inj (Tryd.func3.symm.trans hfn)).symm
      exact ⟨by kernel_rfl, fun j t ht => by
        rw [Tryd.params3] at ht
        have hm : t ∈ [3, 3] := by simpa using Array.mem_of_getElem? ht
        have hall : ([3, 3].all fun u => !(Go.Proofs.Tryd.prog).wantsStandIn u) = true := by kernel_rfl
        exact (show (Go.Proofs.Tryd.prog).wantsStandIn t = false by simpa using List.all_eq_true.1 hall t hm)⟩)
    (by kernel_rfl)
end LawPatternDraws

/-- The statement. -/
theorem patternDraws_proved : Rows.PatternDrawsCardSaid := LawPatternDraws.carded
#print axioms patternDraws_proved

end Go.Proofs.YtcinhjefclbgjaaDoor
