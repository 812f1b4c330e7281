/- For all formats and texts the law continuolaw02.FormatTexts returns true, and its input reads behind the call as it read before; the row's listed tables read as the program lays them (tied: the card). -/
import Derived.Test.YthcdnjbhhaonhaaGreatDoorQtLawBase
import Derived.Test.YthcdnjbhhaonhaaGreatDoorQtOpenFo
import Derived.Test.YthcdnjbhhaonhaaGreatDoorQtTxLToTxN
import Derived.Test.YthcdnjbhhaonhaaGreatDoorQtRunAw02
import Derived.Test.YthcdnjbhhaonhaaGreatDoorQtChEv
import Derived.Test.YthcdnjbhhaonhaaGreatDoorTie
import Derived.Test.YthcdnjbhhaonhaaGreatDoorCards
import Derived.Lay
import Derived.LaidMore
import Derived.SevenTiedAt










namespace Go.Proofs.YthcdnjbhhaonhaaGreatDoor
open Go.ChangeShapes Go.WideShapes Go.ChangeAt Go.RowKit

namespace LawFormatTexts
set_option maxRecDepth 100000 in
theorem lifted (os : Os) (started : os.Started) (H : Type) (enc : TypeId × Value → H) :
    ReturnsInHanded {} Tryz.checked os 3 .any (fun w args => (Rows.formatTextsSpec.pre enc Go.Proofs.Tryz.prog Tryz.f3 [] false w args ∧ laidMetH Go.Proofs.Tryz.prog Rows.formatTextsRow.laid w) ∧ sizedMet enc Go.Proofs.Tryz.prog Tryz.f3 (OpenSpec.ofChange Rows.formatTextsSpec) false w args)
      (Rows.formatTextsSpec.post enc Go.Proofs.Tryz.prog Tryz.f3 false true false false) := by
  refine handed_laid_shaped (C := Tryz.checked) (X := fun w _ => laidMetH Go.Proofs.Tryz.prog Rows.formatTextsRow.laid w) (fun _ _ _ hh h => h.of_heap hh) own started (by kernel_rfl) Tryz.func3
    (ChangeSpec.witness_shaped (enc := enc) (C := Tryz.checked) (os := os) (X := fun w _ => laidMetH Go.Proofs.Tryz.prog Rows.formatTextsRow.laid w) false (World.laidAll Go.Proofs.Tryz.prog os Rows.formatTextsRow.laid) #[.agg #[.int .i64 0, .slice none 0 0], .string ⟨#[]⟩] 8 (World.laidAll_os _ _ _)
      (World.shaped_of_ZipB (by kernel_rfl) (by kernel_rfl)) (by kernel_rfl) (by kernel_rfl) (by kernel_rfl)
      (by rw [MakeChecks.laidMetH_plain _ _ _ (by kernel_rfl)]; exact laidMet_laidAll _ (by kernel_rfl) (by kernel_rfl))) ?_
  intro W base args ds gs before hval0 hW hlaid hshaped
  have hE : EnvS W := envS_of_laid hlaid hshaped
  have hval : ∀ (j : Nat) t v, Tryz.f3.params[j]? = some t → args[j]? = some v → Value.okWide Go.Proofs.Tryz.prog W .any base t v := hval0
  have hW' := hW
  obtain ⟨p, q, hA0, hV, rfl, hfz, hnd⟩ := hW
  have hA : DataW.TrodAll enc Go.Proofs.Tryz.prog W 0 (fun _ => true) true Tryz.f3.params.toList args.toList ds p := hA0
  rw [Tryz.params3] at hA hval
  obtain ⟨v0, vs0, d0, ds0, p0, q0, hargs, rfl, rfl, h0, r0⟩ := trodAll_cons hA
  obtain ⟨v1, vs1, d1, ds1, p1, q1, rfl, rfl, rfl, h1, r1⟩ := trodAll_cons r0
  obtain ⟨rfl, rfl, rfl⟩ := trodAll_nil r1
  obtain rfl : args = #[v0, v1] := by cases args; simp_all
  obtain ⟨rfl, rfl⟩ := trodVars_none hV
  have k0 := h0
  have lt0 : ∀ x ∈ p0, x.block < W.heap.size := by obtain ⟨m, hm⟩ := k0; exact DataW.trod_lt m _ _ _ hm
  obtain ⟨f0, a0, rfl, sA0⟩ : ∃ (f : Fm) (a : Value), v0 = fmV f a ∧ SlF W a f.F := by
    obtain ⟨m, hm⟩ := h0
    exact format_open (hval 0 24 v0 rfl rfl) hm
  have k1 := h1
  have lt1 : ∀ x ∈ p1, x.block < W.heap.size := by obtain ⟨m, hm⟩ := k1; exact DataW.trod_lt m _ _ _ hm
  obtain ⟨st1, rfl⟩ : ∃ s, v1 = .string s := by
    have this := hval 1 9 v1 rfl rfl
    cases v1 <;> simp only [Value.okWide, Tryz.underlying9, Cell.okWide, Cell.ok] at this
    exact ⟨_, rfl⟩
  clear hA0 hval0
  refine (lawT_c f0 st1.data.toList a0 W hE sA0 (fun w' hx => awake_c (hE.ext hx))).calls.mono fun e W' ⟨he, bel⟩ => ?_
  subst he
  exact ⟨_, rfl, _, _, _, [], _, [], hW', trodAll_mk1 (shut_bool Tryz.underlying4 _), (trodAll_cons_mk (Below.trod laidOut (by kernel_rfl) (of_decide_eq_true (by kernel_rfl)) k0 bel lt0) (trodAll_cons_mk (Below.trod laidOut (by kernel_rfl) (of_decide_eq_true (by kernel_rfl)) k1 bel lt1) trodAll_mk0)), rfl, bel.frame _, fun h => by cases h⟩

theorem over : Rows.formatTextsRow.holds Tryz.pinned (OpenSpec.ofChange Rows.formatTextsSpec) :=
  OpenClaim.holds_of_wide 3 Tryz.f3 rfl rfl rfl rfl rfl rfl rfl ⟨rfl, rfl, rfl, rfl, rfl⟩ rfl rfl rfl rfl rfl (by kernel_rfl) Tryz.func3 (by kernel_rfl)
    (of_decide_eq_true (by kernel_rfl)) (by unfold Func.isWrapper; first | (rw [if_pos (by decide +kernel)]; kernel_rfl) | (rw [if_neg (by decide +kernel)]; exact ⟨rfl, rfl⟩))
    (fun os started H enc _ => lifted os started H enc)

theorem carded : Rows.FormatTextsCardSaid :=
  Claim7.holds_tied_plain_at .later [] [.data, .data, .data, .data, .sentinel, .sentinel, .pinned] true (true, "650c0d0c6ac9fdc820b540db12a1fe43bbc082635328f2e9d2824981ea97c699") true
    over (fun _ h => by cases h) (by kernel_rfl) (fun _ h => by cases h) formatTexts_row_tie rfl ⟨rfl, rfl⟩ (by kernel_rfl) rfl
    (fun f fn hf hfn => by
      obtain rfl : f = 3 := Option.some.inj ((show (Go.Proofs.Tryz.prog).funcNamed "continuo/continuolaw02.FormatTexts" = some 3 by kernel_rfl).symm.trans hf) |>.symm
      obtain rfl : fn = Tryz.f3 := (Option.some.inj (Tryz.func3.symm.trans hfn)).symm
      exact ⟨by kernel_rfl, fun j t ht => by
        rw [Tryz.params3] at ht
        have hm : t ∈ [24, 9] := by simpa using Array.mem_of_getElem? ht
        have hall : ([24, 9].all fun u => !(Go.Proofs.Tryz.prog).wantsStandIn u) = true := by kernel_rfl
        exact (show (Go.Proofs.Tryz.prog).wantsStandIn t = false by simpa using List.all_eq_true.1 hall t hm)⟩)
    (by kernel_rfl)
end LawFormatTexts

/-- The statement. -/
theorem formatTexts_proved : Rows.FormatTextsCardSaid := LawFormatTexts.carded
#print axioms formatTexts_proved

end Go.Proofs.YthcdnjbhhaonhaaGreatDoor
