/- For all pairs of scores and all numbers the law continuolaw32.ScoreLists returns true, and its inputs read behind the call as they read before; the row's listed tables read as the program lays them (tied: the card). -/
import Derived.Test.YtdkdibeimeaakabGreatDoorQsLawBase
import Derived.Test.YtdkdibeimeaakabGreatDoorQsScL
import Derived.Test.YtdkdibeimeaakabGreatDoorQsOpenSc
import Derived.Test.YtdkdibeimeaakabGreatDoorQsScEv
import Derived.Test.YtdkdibeimeaakabGreatDoorTie
import Derived.Test.YtdkdibeimeaakabGreatDoorCards
import Derived.Lay
import Derived.LaidMore
import Derived.SevenTiedAt

namespace Go.Proofs.YtdkdibeimeaakabGreatDoor
open Go.ChangeShapes Go.WideShapes Go.ChangeAt Go.RowKit
open Go.Proofs.Tryz renaming prog → ZP
namespace LawScoreLists
set_option maxRecDepth 100000 in
theorem lifted (os : Os) (started : os.Started) (H : Type) (enc : TypeId × Value → H) :
    ReturnsInHanded {} Tryz.checked os 5 .any (fun w args => (Rows.scoreListsSpec.pre enc ZP Tryz.f5 [] false w args ∧ laidMetH ZP Rows.scoreListsRow.laid w) ∧ sizedMet enc ZP Tryz.f5 (OpenSpec.ofChange Rows.scoreListsSpec) false w args)
      (Rows.scoreListsSpec.post enc ZP Tryz.f5 false true false false) := by
  refine handed_laid_shaped (C := Tryz.checked) (X := fun w _ => laidMetH ZP Rows.scoreListsRow.laid w) (fun _ _ _ hh h => h.of_heap hh) own started (by kernel_rfl) Tryz.func5
    (ChangeSpec.witness_shaped (enc := enc) (C := Tryz.checked) (os := os) (X := fun w _ => laidMetH ZP Rows.scoreListsRow.laid w) false (World.laidAll ZP os Rows.scoreListsRow.laid) #[.slice none 0 0, .slice none 0 0, .int .i64 0, .int .i64 0] 8 (World.laidAll_os _ _ _)
      (World.shaped_of_ZipB (by kernel_rfl) (by kernel_rfl)) (by kernel_rfl) (by kernel_rfl) (by kernel_rfl)
      (by rw [MakeChecks.laidMetH_plain _ _ _ (by kernel_rfl)]; exact laidMet_laidAll _ (by kernel_rfl) (by kernel_rfl))) ?_
  intro W base args ds gs before hval0 hW hlaid hshaped
  have hE : EnvS W := envS_of_laid hlaid hshaped
  have hval : ∀ (j : Nat) t v, Tryz.f5.params[j]? = some t → args[j]? = some v → Value.okWide ZP W .any base t v := hval0
  have hW' := hW
  obtain ⟨p, q, hA0, hV, rfl, hfz, hnd⟩ := hW
  have hA : DataW.TrodAll enc ZP W 0 (fun _ => true) true Tryz.f5.params.toList args.toList ds p := hA0
  rw [Tryz.params5] at hA hval
  obtain ⟨v0, vs0, d0, ds0, p0, q0, hargs, rfl, rfl, h0, r0⟩ := trodAll_cons hA
  obtain ⟨v1, vs1, d1, ds1, p1, q1, rfl, rfl, rfl, h1, r1⟩ := trodAll_cons r0
  obtain ⟨v2, vs2, d2, ds2, p2, q2, rfl, rfl, rfl, h2, r2⟩ := trodAll_cons r1
  obtain ⟨v3, vs3, d3, ds3, p3, q3, rfl, rfl, rfl, h3, r3⟩ := trodAll_cons r2
  obtain ⟨rfl, rfl, rfl⟩ := trodAll_nil r3
  obtain rfl : args = #[v0, v1, v2, v3] := by cases args; simp_all
  obtain ⟨rfl, rfl⟩ := trodVars_none hV
  have k0 := h0
  have lt0 : ∀ x ∈ p0, x.block < W.heap.size := by obtain ⟨m, hm⟩ := k0; exact DataW.trod_lt m _ _ _ hm
  obtain ⟨l0, s0⟩ : ∃ l, SlE W v0 l := by
    obtain ⟨m, hm⟩ := h0
    obtain ⟨x1, y1, z1, rfl⟩ := okWide_slice Tryz.underlying22 (hval 0 22 v0 rfl rfl)
    exact sle_read hm
  have k1 := h1
  have lt1 : ∀ x ∈ p1, x.block < W.heap.size := by obtain ⟨m, hm⟩ := k1; exact DataW.trod_lt m _ _ _ hm
  obtain ⟨l1, s1⟩ : ∃ l, SlE W v1 l := by
    obtain ⟨m, hm⟩ := h1
    obtain ⟨x1, y1, z1, rfl⟩ := okWide_slice Tryz.underlying22 (hval 1 22 v1 rfl rfl)
    exact sle_read hm
  have k2 := h2
  have lt2 : ∀ x ∈ p2, x.block < W.heap.size := by obtain ⟨m, hm⟩ := k2; exact DataW.trod_lt m _ _ _ hm
  obtain ⟨i2, rfl, in2⟩ : ∃ s, v2 = .int .i64 s ∧ inE s := by
    have this := hval 2 3 v2 rfl rfl
    cases v2 <;> simp only [Value.okWide,Tryz.underlying3,Cell.okWide,Cell.ok] at this
    obtain ⟨rfl, h⟩ := this
    exact ⟨_, rfl, h.1, h.2⟩
  have k3 := h3
  have lt3 : ∀ x ∈ p3, x.block < W.heap.size := by obtain ⟨m, hm⟩ := k3; exact DataW.trod_lt m _ _ _ hm
  obtain ⟨i3, rfl, in3⟩ : ∃ s, v3 = .int .i64 s ∧ inE s := by
    have this := hval 3 3 v3 rfl rfl
    cases v3 <;> simp only [Value.okWide,Tryz.underlying3,Cell.okWide,Cell.ok] at this
    obtain ⟨rfl, h⟩ := this
    exact ⟨_, rfl, h.1, h.2⟩
  clear hA0 hval0
  refine (scoreLists_c l0 l1 v0 v1 i2 i3 W hE s0 s1 in2 in3).calls.mono fun e W' ⟨he, bel⟩ => ?_
  subst he
  exact ⟨_, rfl, _, _, _, [], _, [], hW', trodAll_mk1 (shut_bool Tryz.underlying4 _), (trodAll_cons_mk (Below.trod laidOut (by kernel_rfl) (of_decide_eq_true (by kernel_rfl)) k0 bel lt0) (trodAll_cons_mk (Below.trod laidOut (by kernel_rfl) (of_decide_eq_true (by kernel_rfl)) k1 bel lt1) (trodAll_cons_mk (Below.trod laidOut (by kernel_rfl) (of_decide_eq_true (by kernel_rfl)) k2 bel lt2) (trodAll_cons_mk (Below.trod laidOut (by kernel_rfl) (of_decide_eq_true (by kernel_rfl)) k3 bel lt3) trodAll_mk0)))), rfl, bel.frame _, fun h => by cases h⟩
theorem part1 : (Rows.scoreListsRow.wf (OpenSpec.ofChange Rows.scoreListsSpec)) = true := by kernel_rfl
theorem part2 : (laidOutB ZP) = true := by kernel_rfl
theorem part3 : (mapsRowed ZP) = true := by kernel_rfl
theorem part4 : (Tryz.f5.params.all ((ZP).readableRec ·)) = true := by kernel_rfl
theorem part5 : (namedTie ZP Rows.scoreListsRow.named Rows.scoreListsSpec.vars) = true := by kernel_rfl
theorem part6 : ((Rows.scoreListsRow.stops == [])) = true := by kernel_rfl
theorem part7 : (((ZP).stops == [])) = true := by kernel_rfl
theorem part8 : ((Rows.scoreListsRow.knobs == [])) = true := by kernel_rfl
theorem part9 : (((ZP).stopKnobs == [])) = true := by kernel_rfl
theorem part10 : ((Rows.scoreListsRow.inPlace == (ZP).inPlace 5)) = true := by kernel_rfl
theorem part11 : ((Rows.scoreListsRow.unfollowed == (ZP).unfollowed 5)) = true := by kernel_rfl
theorem part12 : ((Rows.scoreListsRow.recurses == (ZP).recurses 5)) = true := by kernel_rfl
theorem part13 : ((Rows.scoreListsRow.named == (ZP).varsNamed 5)) = true := by kernel_rfl
theorem part14 : ((Rows.scoreListsRow.maps == (Tryz.f5.params.toList ++ Rows.scoreListsSpec.plain.varTypes ZP).any ((ZP).mapsRec ·))) = true := by kernel_rfl
theorem part15 : ((Rows.scoreListsRow.ifaces == (Tryz.f5.params.toList ++ Rows.scoreListsSpec.plain.varTypes ZP).any ((ZP).ifacesRec ·))) = true := by kernel_rfl
theorem part16 : ((Rows.scoreListsRow.mapsOut == (ZP).mapsAmong Tryz.f5.resultTypes.toList)) = true := by kernel_rfl
theorem part17 : ((Rows.scoreListsRow.loops == (Tryz.f5.params.toList ++ Rows.scoreListsSpec.plain.varTypes ZP).any ((ZP).loopsFrom ·))) = true := by kernel_rfl
theorem part18 : ((Rows.scoreListsRow.wideKeys == (Tryz.f5.params.toList ++ Rows.scoreListsSpec.plain.varTypes ZP ++ Tryz.f5.resultTypes.toList).any ((ZP).wideKeysFrom ·))) = true := by kernel_rfl
theorem part19 : (Rows.scoreListsSpec.vars.all ((ZP).varReadable ·)) = true := by kernel_rfl
theorem part20 : (Tryz.f5.resultTypes.all (fun t => (ZP).readableRec t && decide (t < (ZP).types.size))) = true := by kernel_rfl
theorem part21 : ((Rows.scoreListsRow.ifacesOut == Tryz.f5.resultTypes.toList.any ((ZP).ifacesRec ·))) = true := by kernel_rfl
theorem part22 : ((Rows.scoreListsRow.loopsOut == Tryz.f5.resultTypes.toList.any ((ZP).loopsFrom ·))) = true := by kernel_rfl
theorem part23 : ((Rows.scoreListsRow.plainKeys == (ZP).plainKeys)) = true := by kernel_rfl
theorem part24 : (Rows.scoreListsRow.shortTexts.isNone) = true := by kernel_rfl
theorem part25 : ((ZP).stopsHeard) = true := by kernel_rfl
theorem part26 : ((ZP).mayEnter) = true := by kernel_rfl
theorem part27 : ((Rows.scoreListsRow.lifted == (ZP).liftsFinal)) = true := by kernel_rfl
theorem part28 : (((ZP).make == some Rows.scoreListsRow.make)) = true := by kernel_rfl
theorem part29 : ((Rows.scoreListsRow.kinds == (if Rows.scoreListsRow.domain.isEmpty then [] else Tryz.f5.params.toList.map fun t => match (ZP).underlying t with | some (.int k) => some k | _ => none))) = true := by kernel_rfl
theorem part30 : ((Rows.scoreListsRow.pinned == Rows.scoreListsRow.pinnedBy)) = true := by kernel_rfl
theorem part31 : ((Rows.scoreListsRow.veiled == (Tryz.f5.params.toList ++ Rows.scoreListsSpec.plain.varTypes ZP ++ Tryz.f5.resultTypes.toList).any ((ZP).veiledRec ·))) = true := by kernel_rfl
theorem part32 : (Rows.scoreListsRow.veiledFits ZP Tryz.f5.params.toList (Tryz.f5.params.toList ++ Rows.scoreListsSpec.plain.varTypes ZP ++ Tryz.f5.resultTypes.toList)) = true := by kernel_rfl
set_option maxRecDepth 100000 in
theorem closed : joinedFacts ZP 5 Tryz.f5 Rows.scoreListsSpec Rows.scoreListsRow = true := by
  unfold joinedFacts
  simp only [Bool.and_eq_true]
  exact ⟨⟨⟨⟨⟨⟨⟨⟨⟨⟨⟨⟨⟨⟨⟨⟨⟨⟨⟨⟨⟨⟨⟨⟨⟨⟨⟨⟨⟨⟨⟨part1, part2⟩, part3⟩, part4⟩, part5⟩, part6⟩, part7⟩, part8⟩, part9⟩, part10⟩, part11⟩, part12⟩, part13⟩, part14⟩, part15⟩, part16⟩, part17⟩, part18⟩, part19⟩, part20⟩, part21⟩, part22⟩, part23⟩, part24⟩, part25⟩, part26⟩, part27⟩, part28⟩, part29⟩, part30⟩, part31⟩, part32⟩
set_option maxRecDepth 100000 in
theorem over : Rows.scoreListsRow.holds Tryz.pinned (OpenSpec.ofChange Rows.scoreListsSpec) :=
  OpenClaim.holds_of_wide 5 Tryz.f5 rfl rfl rfl rfl rfl rfl rfl ⟨rfl, rfl, rfl, rfl, rfl⟩ rfl rfl rfl rfl rfl (by kernel_rfl) Tryz.func5 closed
    (of_decide_eq_true (by kernel_rfl)) (by unfold Func.isWrapper; first | (rw [if_pos (by decide +kernel)]; kernel_rfl) | (rw [if_neg (by decide +kernel)]; exact ⟨rfl, rfl⟩))
    (fun os started H enc _ => lifted os started H enc)
theorem carded : Rows.ScoreListsCardSaid :=
  Claim7.holds_tied_plain_at .later [] [.data, .data, .data, .data, .sentinel, .sentinel, .pinned] true (true, "62a2b9c4044162f0259f4071865736df49d9d4520d462f885f7911f95a29f1a8") true
    over (fun _ h => by cases h) (by kernel_rfl) (fun _ h => by cases h) scoreLists_row_tie rfl ⟨rfl, rfl⟩ (by kernel_rfl) rfl
    (fun f fn hf hfn => by
      obtain rfl : f = 5 := Option.some.inj ((show (ZP).funcNamed "continuo/continuolaw32.ScoreLists" = some 5 by kernel_rfl).symm.trans hf) |>.symm
      obtain rfl : fn = Tryz.f5 := (Option.some.inj (Tryz.func5.symm.trans hfn)).symm
      exact ⟨by kernel_rfl, fun j t ht => by
        rw [Tryz.params5] at ht
        have hm : t ∈ [22, 22, 3, 3] := by simpa using Array.mem_of_getElem? ht
        have hall : ([22, 22, 3, 3].all fun u => !(ZP).wantsStandIn u) = true := by kernel_rfl
        exact (show (ZP).wantsStandIn t = false by simpa using List.all_eq_true.1 hall t hm)⟩)
    (by kernel_rfl)
end LawScoreLists
theorem scoreLists_proved : Rows.ScoreListsCardSaid := LawScoreLists.carded
#print axioms scoreLists_proved
end Go.Proofs.YtdkdibeimeaakabGreatDoor
