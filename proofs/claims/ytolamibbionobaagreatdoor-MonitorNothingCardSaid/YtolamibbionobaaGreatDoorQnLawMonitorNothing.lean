/- For every text and number the law continuolaw34.MonitorNothing returns true, and its input reads behind the call as it read before; the row's listed tables read as the program lays them (tied: the card). -/
import Derived.Test.YtolamibbionobaaGreatDoorQnLawBase
import Derived.Test.YtolamibbionobaaGreatDoorQnRunNo34
import Derived.Test.YtolamibbionobaaGreatDoorQnMoEv
import Derived.Test.YtolamibbionobaaGreatDoorTie
import Derived.Test.YtolamibbionobaaGreatDoorCards
import Derived.Lay
import Derived.LaidMore
import Derived.SevenTiedAt

namespace Go.Proofs.YtolamibbionobaaGreatDoor
open Go.ChangeShapes Go.WideShapes Go.ChangeAt Go.RowKit
open Go.Proofs.Tryz renaming prog → ZP
namespace LawMonitorNothing
set_option maxRecDepth 100000 in
theorem lifted (os : Os) (started : os.Started) (H : Type) (enc : TypeId × Value → H) :
    ReturnsInHanded {} Tryz.checked os 4 .any (fun w args => (Rows.monitorNothingSpec.pre enc ZP Tryz.f4 [] false w args ∧ laidMetH ZP Rows.monitorNothingRow.laid w) ∧ sizedMet enc ZP Tryz.f4 (OpenSpec.ofChange Rows.monitorNothingSpec) false w args)
      (Rows.monitorNothingSpec.post enc ZP Tryz.f4 false true false false) := by
  refine handed_laid_shaped (C := Tryz.checked) (X := fun w _ => laidMetH ZP Rows.monitorNothingRow.laid w) (fun _ _ _ hh h => h.of_heap hh) own started (by kernel_rfl) Tryz.func4
    (ChangeSpec.witness_shaped (enc := enc) (C := Tryz.checked) (os := os) (X := fun w _ => laidMetH ZP Rows.monitorNothingRow.laid w) false (World.laidAll ZP os Rows.monitorNothingRow.laid) #[.string ⟨#[]⟩, .int .i64 0] 8 (World.laidAll_os _ _ _)
      (World.shaped_of_ZipB (by kernel_rfl) (by kernel_rfl)) (by kernel_rfl) (by kernel_rfl) (by kernel_rfl)
      (by rw [MakeChecks.laidMetH_plain _ _ _ (by kernel_rfl)]; exact laidMet_laidAll _ (by kernel_rfl) (by kernel_rfl))) ?_
  intro W base args ds gs before hval0 hW hlaid hshaped
  have hE : EnvS W := envS_of_laid hlaid hshaped
  have hval : ∀ (j : Nat) t v, Tryz.f4.params[j]? = some t → args[j]? = some v → Value.okWide ZP W .any base t v := hval0
  have hW' := hW
  obtain ⟨p, q, hA0, hV, rfl, hfz, hnd⟩ := hW
  have hA : DataW.TrodAll enc ZP W 0 (fun _ => true) true Tryz.f4.params.toList args.toList ds p := hA0
  rw [Tryz.params4] at hA hval
  obtain ⟨v0, vs0, d0, ds0, p0, q0, hargs, rfl, rfl, h0, r0⟩ := trodAll_cons hA
  obtain ⟨v1, vs1, d1, ds1, p1, q1, rfl, rfl, rfl, h1, r1⟩ := trodAll_cons r0
  obtain ⟨rfl, rfl, rfl⟩ := trodAll_nil r1
  obtain rfl : args = #[v0, v1] := by cases args; simp_all
  obtain ⟨rfl, rfl⟩ := trodVars_none hV
  have k0 := h0
  have lt0 : ∀ x ∈ p0, x.block < W.heap.size := by obtain ⟨m, hm⟩ := k0; exact DataW.trod_lt m _ _ _ hm
  obtain ⟨st0, rfl⟩ : ∃ s, v0 = .string s := by
    have this := hval 0 9 v0 rfl rfl
    cases v0 <;> simp only [Value.okWide,Tryz.underlying9,Cell.okWide,Cell.ok] at this
    exact ⟨_, rfl⟩
  have k1 := h1
  have lt1 : ∀ x ∈ p1, x.block < W.heap.size := by obtain ⟨m, hm⟩ := k1; exact DataW.trod_lt m _ _ _ hm
  obtain ⟨i1, rfl⟩ : ∃ s, v1 = .int .i64 s := by
    have this := hval 1 3 v1 rfl rfl
    cases v1 <;> simp only [Value.okWide,Tryz.underlying3,Cell.okWide,Cell.ok] at this
    obtain ⟨rfl, _⟩ := this
    exact ⟨_, rfl⟩
  clear hA0 hval0
  refine (MonitorNothing_c (.string st0) (.int .i64 i1) rfl rfl W hE).calls.mono fun e W' ⟨he, bel⟩ => ?_
  subst he
  exact ⟨_, rfl, _, _, _, [], _, [], hW', trodAll_mk1 (shut_bool Tryz.underlying4 _), (trodAll_cons_mk (Below.trod laidOut (by kernel_rfl) (of_decide_eq_true (by kernel_rfl)) k0 bel lt0) (trodAll_cons_mk (Below.trod laidOut (by kernel_rfl) (of_decide_eq_true (by kernel_rfl)) k1 bel lt1) trodAll_mk0)), rfl, bel.frame _, fun h => by cases h⟩
theorem part1 : (Rows.monitorNothingRow.wf (OpenSpec.ofChange Rows.monitorNothingSpec)) = true := by kernel_rfl
theorem part2 : (laidOutB ZP) = true := by kernel_rfl
theorem part3 : (mapsRowed ZP) = true := by kernel_rfl
theorem part4 : (Tryz.f4.params.all ((ZP).readableRec ·)) = true := by kernel_rfl
theorem part5 : (namedTie ZP Rows.monitorNothingRow.named Rows.monitorNothingSpec.vars) = true := by kernel_rfl
theorem part6 : ((Rows.monitorNothingRow.stops == [])) = true := by kernel_rfl
theorem part7 : (((ZP).stops == [])) = true := by kernel_rfl
theorem part8 : ((Rows.monitorNothingRow.knobs == [])) = true := by kernel_rfl
theorem part9 : (((ZP).stopKnobs == [])) = true := by kernel_rfl
theorem part10 : ((Rows.monitorNothingRow.inPlace == (ZP).inPlace 4)) = true := by kernel_rfl
theorem part11 : ((Rows.monitorNothingRow.unfollowed == (ZP).unfollowed 4)) = true := by kernel_rfl
theorem part12 : ((Rows.monitorNothingRow.recurses == (ZP).recurses 4)) = true := by kernel_rfl
theorem part13 : ((Rows.monitorNothingRow.named == (ZP).varsNamed 4)) = true := by kernel_rfl
theorem part14 : ((Rows.monitorNothingRow.maps == (Tryz.f4.params.toList ++ Rows.monitorNothingSpec.plain.varTypes ZP).any ((ZP).mapsRec ·))) = true := by kernel_rfl
theorem part15 : ((Rows.monitorNothingRow.ifaces == (Tryz.f4.params.toList ++ Rows.monitorNothingSpec.plain.varTypes ZP).any ((ZP).ifacesRec ·))) = true := by kernel_rfl
theorem part16 : ((Rows.monitorNothingRow.mapsOut == (ZP).mapsAmong Tryz.f4.resultTypes.toList)) = true := by kernel_rfl
theorem part17 : ((Rows.monitorNothingRow.loops == (Tryz.f4.params.toList ++ Rows.monitorNothingSpec.plain.varTypes ZP).any ((ZP).loopsFrom ·))) = true := by kernel_rfl
theorem part18 : ((Rows.monitorNothingRow.wideKeys == (Tryz.f4.params.toList ++ Rows.monitorNothingSpec.plain.varTypes ZP ++ Tryz.f4.resultTypes.toList).any ((ZP).wideKeysFrom ·))) = true := by kernel_rfl
theorem part19 : (Rows.monitorNothingSpec.vars.all ((ZP).varReadable ·)) = true := by kernel_rfl
theorem part20 : (Tryz.f4.resultTypes.all (fun t => (ZP).readableRec t && decide (t < (ZP).types.size))) = true := by kernel_rfl
theorem part21 : ((Rows.monitorNothingRow.ifacesOut == Tryz.f4.resultTypes.toList.any ((ZP).ifacesRec ·))) = true := by kernel_rfl
theorem part22 : ((Rows.monitorNothingRow.loopsOut == Tryz.f4.resultTypes.toList.any ((ZP).loopsFrom ·))) = true := by kernel_rfl
theorem part23 : ((Rows.monitorNothingRow.plainKeys == (ZP).plainKeys)) = true := by kernel_rfl
theorem part24 : (Rows.monitorNothingRow.shortTexts.isNone) = true := by kernel_rfl
theorem part25 : ((ZP).stopsHeard) = true := by kernel_rfl
theorem part26 : ((ZP).mayEnter) = true := by kernel_rfl
theorem part27 : ((Rows.monitorNothingRow.lifted == (ZP).liftsFinal)) = true := by kernel_rfl
theorem part28 : (((ZP).make == some Rows.monitorNothingRow.make)) = true := by kernel_rfl
theorem part29 : ((Rows.monitorNothingRow.kinds == (if Rows.monitorNothingRow.domain.isEmpty then [] else Tryz.f4.params.toList.map fun t => match (ZP).underlying t with | some (.int k) => some k | _ => none))) = true := by kernel_rfl
theorem part30 : ((Rows.monitorNothingRow.pinned == Rows.monitorNothingRow.pinnedBy)) = true := by kernel_rfl
theorem part31 : ((Rows.monitorNothingRow.veiled == (Tryz.f4.params.toList ++ Rows.monitorNothingSpec.plain.varTypes ZP ++ Tryz.f4.resultTypes.toList).any ((ZP).veiledRec ·))) = true := by kernel_rfl
theorem part32 : (Rows.monitorNothingRow.veiledFits ZP Tryz.f4.params.toList (Tryz.f4.params.toList ++ Rows.monitorNothingSpec.plain.varTypes ZP ++ Tryz.f4.resultTypes.toList)) = true := by kernel_rfl
set_option maxRecDepth 100000 in
theorem closed : joinedFacts ZP 4 Tryz.f4 Rows.monitorNothingSpec Rows.monitorNothingRow = true := by
  unfold joinedFacts
  simp only [Bool.and_eq_true]
  exact ⟨⟨⟨⟨⟨⟨⟨⟨⟨⟨⟨⟨⟨⟨⟨⟨⟨⟨⟨⟨⟨⟨⟨⟨⟨⟨⟨⟨⟨⟨⟨part1, part2⟩, part3⟩, part4⟩, part5⟩, part6⟩, part7⟩, part8⟩, part9⟩, part10⟩, part11⟩, part12⟩, part13⟩, part14⟩, part15⟩, part16⟩, part17⟩, part18⟩, part19⟩, part20⟩, part21⟩, part22⟩, part23⟩, part24⟩, part25⟩, part26⟩, part27⟩, part28⟩, part29⟩, part30⟩, part31⟩, part32⟩
set_option maxRecDepth 100000 in
theorem over : Rows.monitorNothingRow.holds Tryz.pinned (OpenSpec.ofChange Rows.monitorNothingSpec) :=
  OpenClaim.holds_of_wide 4 Tryz.f4 rfl rfl rfl rfl rfl rfl rfl ⟨rfl, rfl, rfl, rfl, rfl⟩ rfl rfl rfl rfl rfl (by kernel_rfl) Tryz.func4 closed
    (of_decide_eq_true (by kernel_rfl)) (by unfold Func.isWrapper; first | (rw [if_pos (by decide +kernel)]; kernel_rfl) | (rw [if_neg (by decide +kernel)]; exact ⟨rfl, rfl⟩))
    (fun os started H enc _ => lifted os started H enc)
theorem carded : Rows.MonitorNothingCardSaid :=
  Claim7.holds_tied_plain_at .later [] [.data, .data, .data, .sentinel, .sentinel] true (true, "cfddaecf7a7a91acb23cd04e2b50d791d44f5c3fce5352cd680dd46341142053") true
    over (fun _ h => by cases h) (by kernel_rfl) (fun _ h => by cases h) monitorNothing_row_tie rfl ⟨rfl, rfl⟩ (by kernel_rfl) rfl
    (fun f fn hf hfn => by
      obtain rfl : f = 4 := Option.some.inj ((show (ZP).funcNamed "continuo/continuolaw34.MonitorNothing" = some 4 by kernel_rfl).symm.trans hf) |>.symm
      obtain rfl : fn = Tryz.f4 := (Option.some.inj (Tryz.func4.symm.trans hfn)).symm
      exact ⟨by kernel_rfl, fun j t ht => by
        rw [Tryz.params4] at ht
        have hm : t ∈ [9, 3] := by simpa using Array.mem_of_getElem? ht
        have hall : ([9, 3].all fun u => !(ZP).wantsStandIn u) = true := by kernel_rfl
        exact (show (ZP).wantsStandIn t = false by simpa using List.all_eq_true.1 hall t hm)⟩)
    (by kernel_rfl)
end LawMonitorNothing
theorem monitorNothing_proved : Rows.MonitorNothingCardSaid := LawMonitorNothing.carded
#print axioms monitorNothing_proved
end Go.Proofs.YtolamibbionobaaGreatDoor
