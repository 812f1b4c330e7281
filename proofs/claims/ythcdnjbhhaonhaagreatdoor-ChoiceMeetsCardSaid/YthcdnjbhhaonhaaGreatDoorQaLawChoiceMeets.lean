/- For all choices and numbers the law continuolaw02.ChoiceMeets returns true, and its input reads behind the call as it read before; the row's listed tables read as the program lays them (tied: the card). -/
import Derived.Test.YthcdnjbhhaonhaaGreatDoorQaLawBase
import Derived.Test.YthcdnjbhhaonhaaGreatDoorQaOpenCh
import Derived.Test.YthcdnjbhhaonhaaGreatDoorQaChLC
import Derived.Test.YthcdnjbhhaonhaaGreatDoorQaRunAw02
import Derived.Test.YthcdnjbhhaonhaaGreatDoorQaChEv
import Derived.Test.YthcdnjbhhaonhaaGreatDoorTie
import Derived.Test.YthcdnjbhhaonhaaGreatDoorCards
import Derived.Lay
import Derived.LaidMore
import Derived.SevenTiedAt










namespace Go.Proofs.YthcdnjbhhaonhaaGreatDoor
open Go.ChangeShapes Go.WideShapes Go.ChangeAt Go.RowKit

namespace LawChoiceMeets
set_option maxRecDepth 100000 in
theorem lifted (os : Os) (started : os.Started) (H : Type) (enc : TypeId × Value → H) :
    ReturnsInHanded {} Tryz.checked os 4 .any (fun w args => (Rows.choiceMeetsSpec.pre enc Go.Proofs.Tryz.prog Tryz.f4 [] false w args ∧ laidMetH Go.Proofs.Tryz.prog Rows.choiceMeetsRow.laid w) ∧ sizedMet enc Go.Proofs.Tryz.prog Tryz.f4 (OpenSpec.ofChange Rows.choiceMeetsSpec) false w args)
      (Rows.choiceMeetsSpec.post enc Go.Proofs.Tryz.prog Tryz.f4 false true false false) := by
  refine handed_laid_shaped (C := Tryz.checked) (X := fun w _ => laidMetH Go.Proofs.Tryz.prog Rows.choiceMeetsRow.laid w) (fun _ _ _ hh h => h.of_heap hh) own started (by kernel_rfl) Tryz.func4
    (ChangeSpec.witness_shaped (enc := enc) (C := Tryz.checked) (os := os) (X := fun w _ => laidMetH Go.Proofs.Tryz.prog Rows.choiceMeetsRow.laid w) false (World.laidAll Go.Proofs.Tryz.prog os Rows.choiceMeetsRow.laid) #[.agg #[.int .i64 0, .int .i64 0, .slice none 0 0], .agg #[.int .i64 0, .int .i64 0, .slice none 0 0], .int .i64 0, .int .i64 0] 8 (World.laidAll_os _ _ _)
      (World.shaped_of_ZipB (by kernel_rfl) (by kernel_rfl)) (by kernel_rfl) (by kernel_rfl) (by kernel_rfl)
      (by rw [MakeChecks.laidMetH_plain _ _ _ (by kernel_rfl)]; exact laidMet_laidAll _ (by kernel_rfl) (by kernel_rfl))) ?_
  intro W base args ds gs before hval0 hW hlaid hshaped
  have hE : EnvS W := envS_of_laid hlaid hshaped
  have hval : ∀ (j : Nat) t v, Tryz.f4.params[j]? = some t → args[j]? = some v → Value.okWide Go.Proofs.Tryz.prog W .any base t v := hval0
  have hW' := hW
  obtain ⟨p, q, hA0, hV, rfl, hfz, hnd⟩ := hW
  have hA : DataW.TrodAll enc Go.Proofs.Tryz.prog W 0 (fun _ => true) true Tryz.f4.params.toList args.toList ds p := hA0
  rw [Tryz.params4] at hA hval
  obtain ⟨v0, vs0, d0, ds0, p0, q0, hargs, rfl, rfl, h0, r0⟩ := trodAll_cons hA
  obtain ⟨v1, vs1, d1, ds1, p1, q1, rfl, rfl, rfl, h1, r1⟩ := trodAll_cons r0
  obtain ⟨v2, vs2, d2, ds2, p2, q2, rfl, rfl, rfl, h2, r2⟩ := trodAll_cons r1
  obtain ⟨v3, vs3, d3, ds3, p3, q3, rfl, rfl, rfl, h3, r3⟩ := trodAll_cons r2
  obtain ⟨rfl, rfl, rfl⟩ := trodAll_nil r3
  obtain rfl : args = #[v0, v1, v2, v3] := by cases args; simp_all
  obtain ⟨rfl, rfl⟩ := trodVars_none hV
  have k0 := h0
  have lt0 : ∀ x ∈ p0, x.block < W.heap.size := by obtain ⟨m, hm⟩ := k0; exact DataW.trod_lt m _ _ _ hm
  obtain ⟨c0, a0, rfl, sA0⟩ : ∃ (c : Ch) (a : Value), v0 = chV c a ∧ SlI W a c.L := by
    obtain ⟨m, hm⟩ := h0
    exact choice_open (hval 0 35 v0 rfl rfl) hm
  have k1 := h1
  have lt1 : ∀ x ∈ p1, x.block < W.heap.size := by obtain ⟨m, hm⟩ := k1; exact DataW.trod_lt m _ _ _ hm
  obtain ⟨c1, a1, rfl, sA1⟩ : ∃ (c : Ch) (a : Value), v1 = chV c a ∧ SlI W a c.L := by
    obtain ⟨m, hm⟩ := h1
    exact choice_open (hval 1 35 v1 rfl rfl) hm
  have k2 := h2
  have lt2 : ∀ x ∈ p2, x.block < W.heap.size := by obtain ⟨m, hm⟩ := k2; exact DataW.trod_lt m _ _ _ hm
  obtain ⟨i2, rfl⟩ : ∃ s, v2 = .int .i64 s := by
    have this := hval 2 3 v2 rfl rfl
    cases v2 <;> simp only [Value.okWide, Tryz.underlying3, Cell.okWide, Cell.ok] at this
    obtain ⟨rfl, _⟩ := this
    exact ⟨_, rfl⟩
  have k3 := h3
  have lt3 : ∀ x ∈ p3, x.block < W.heap.size := by obtain ⟨m, hm⟩ := k3; exact DataW.trod_lt m _ _ _ hm
  obtain ⟨i3, rfl⟩ : ∃ s, v3 = .int .i64 s := by
    have this := hval 3 3 v3 rfl rfl
    cases v3 <;> simp only [Value.okWide, Tryz.underlying3, Cell.okWide, Cell.ok] at this
    obtain ⟨rfl, _⟩ := this
    exact ⟨_, rfl⟩
  clear hA0 hval0
  refine (law_c c0 c1 a0 a1 i2 i3 W sA0 sA1 (fun w' hx => awake_c (hE.ext hx))).calls.mono fun e W' ⟨he, bel⟩ => ?_
  subst he
  exact ⟨_, rfl, _, _, _, [], _, [], hW', trodAll_mk1 (shut_bool Tryz.underlying4 _), (trodAll_cons_mk (Below.trod laidOut (by kernel_rfl) (of_decide_eq_true (by kernel_rfl)) k0 bel lt0) (trodAll_cons_mk (Below.trod laidOut (by kernel_rfl) (of_decide_eq_true (by kernel_rfl)) k1 bel lt1) (trodAll_cons_mk (Below.trod laidOut (by kernel_rfl) (of_decide_eq_true (by kernel_rfl)) k2 bel lt2) (trodAll_cons_mk (Below.trod laidOut (by kernel_rfl) (of_decide_eq_true (by kernel_rfl)) k3 bel lt3) trodAll_mk0)))), rfl, bel.frame _, fun h => by cases h⟩

theorem over : Rows.choiceMeetsRow.holds Tryz.pinned (OpenSpec.ofChange Rows.choiceMeetsSpec) :=
  OpenClaim.holds_of_wide 4 Tryz.f4 rfl rfl rfl rfl rfl rfl rfl ⟨rfl, rfl, rfl, rfl, rfl⟩ rfl rfl rfl rfl rfl (by kernel_rfl) Tryz.func4 (by kernel_rfl)
    (of_decide_eq_true (by kernel_rfl)) (by unfold Func.isWrapper; first | (rw [if_pos (by decide +kernel)]; kernel_rfl) | (rw [if_neg (by decide +kernel)]; exact ⟨rfl, rfl⟩))
    (fun os started H enc _ => lifted os started H enc)

theorem carded : Rows.ChoiceMeetsCardSaid :=
  Claim7.holds_tied_plain_at .later [] [.data, .data, .data, .data, .sentinel, .sentinel, .pinned] true (true, "650c0d0c6ac9fdc820b540db12a1fe43bbc082635328f2e9d2824981ea97c699") true
    over (fun _ h => by cases h) (by kernel_rfl) (fun _ h => by cases h) choiceMeets_row_tie rfl ⟨rfl, rfl⟩ (by kernel_rfl) rfl
    (fun f fn hf hfn => by
      obtain rfl : f = 4 := Option.some.inj ((show (Go.Proofs.Tryz.prog).funcNamed "continuo/continuolaw02.ChoiceMeets" = some 4 by kernel_rfl).symm.trans hf) |>.symm
      obtain rfl : fn = Tryz.f4 := (Option.some.inj (Tryz.func4.symm.trans hfn)).symm
      exact ⟨by kernel_rfl, fun j t ht => by
        rw [Tryz.params4] at ht
        have hm : t ∈ [35, 35, 3, 3] := by simpa using Array.mem_of_getElem? ht
        have hall : ([35, 35, 3, 3].all fun u => !(Go.Proofs.Tryz.prog).wantsStandIn u) = true := by kernel_rfl
        exact (show (Go.Proofs.Tryz.prog).wantsStandIn t = false by simpa using List.all_eq_true.1 hall t hm)⟩)
    (by kernel_rfl)
end LawChoiceMeets

/-- The statement. -/
theorem choiceMeets_proved : Rows.ChoiceMeetsCardSaid := LawChoiceMeets.carded
#print axioms choiceMeets_proved

end Go.Proofs.YthcdnjbhhaonhaaGreatDoor
