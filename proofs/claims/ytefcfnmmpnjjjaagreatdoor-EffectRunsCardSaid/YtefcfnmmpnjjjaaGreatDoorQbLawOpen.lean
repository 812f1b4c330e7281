/- Opening of what comes in: effects and slices of ints. -/
import Derived.Test.YtefcfnmmpnjjjaaGreatDoorRows
import Derived.Test.YtefcfnmmpnjjjaaGreatDoorQbMwMem
import Derived.Test.YtefcfnmmpnjjjaaGreatDoorQbMwT
import Derived.ProofKit
import Derived.OpenShut
import Derived.ShutString
import Derived.ChangeOld
namespace Go.Proofs.YtefcfnmmpnjjjaaGreatDoor
open Go.ChangeShapes Go.WideShapes Go.ChangeAt Go.RowKit

theorem Rets.calls {P : Program} {f : FuncId} {args : Array Value} {w : World} (h : Rets P f args w fun r w' => r = .bool true ∧ Ext w w') : Calls P f args w fun e w' => e = .returned (.bool true) ∧ Below w.heap.size w w' := by
  unfold Rets at h
  exact Calls.mono h fun e w' ⟨v, he, hv, hx⟩ => ⟨by rw [he, hv], hx⟩

set_option maxRecDepth 100000 in
/-- A slice of ints that came in. -/
theorem sl_open {H : Type} {enc : TypeId × Value → H} {w : World} {base b0 n : Nat} {v : Value} {x : DataW H × List MemPlace} (hok : Cell.okWide Go.Proofs.Tryz.prog w .any b0 22 v) (ht : DataW.trod enc Go.Proofs.Tryz.prog w base (fun _ => true) true n 22 [v] = some x) : ∃ xs, SlI w v xs := by
  rcases open_ints Tryz.underlying22 Tryz.underlying3 (by kernel_rfl) ht with ⟨hcs, _⟩ | ⟨a, len, cap, zs, hcs, _, hl, hm, hz, _, hcell, _⟩
  · simp only [List.cons.injEq, and_true] at hcs
    exact ⟨[], by rw [hcs]; exact SlI.nil w⟩
  · simp only [List.cons.injEq, and_true] at hcs
    subst hcs
    simp only [Cell.okWide, Tryz.underlying22, Cell.ok, World.has] at hok
    obtain ⟨_, _, _, hsp, _⟩ := hok
    obtain ⟨b, o, sp⟩ := a
    simp only at hsp
    subst hsp
    simp only [if_true] at hz
    refine ⟨zs.take len, .inr ⟨b, o, cap, ?_, ?_, hm, fun k u hk => ?_⟩⟩
    · rw [ints_length, List.length_take, Nat.min_eq_left (by omega)]
    · rw [ints_length, List.length_take]; omega
    · simp only [ints, List.getElem?_map, Option.map_eq_some_iff] at hk
      obtain ⟨y, hy, rfl⟩ := hk
      have hk : k < zs.length := by
        have := (List.getElem?_eq_some_iff.1 hy).1
        rw [List.length_take] at this; omega
      rw [List.getElem?_take] at hy
      split at hy
      · have := hcell k hk
        rw [Addr.add_lit] at this
        rw [this, List.getD_eq_getElem?_getD, hy]; rfl
      · cases hy

set_option maxRecDepth 100000 in
/-- An effect that came in. -/
theorem eff_open {H : Type} {enc : TypeId × Value → H} {w : World} {base b0 n : Nat} {v : Value} {x : DataW H × List MemPlace} (hok : Value.okWide Go.Proofs.Tryz.prog w .any b0 24 v) (ht : DataW.trod enc Go.Proofs.Tryz.prog w base (fun _ => true) true n 24 v.cells.toList = some x) :
    ∃ k a t A T, v = .agg #[.int .i64 k, a, t] ∧ SlI w a A ∧ SlI w t T := by
  simp only [Value.okWide, Tryz.underlying24] at hok
  obtain ⟨cs, rfl, hsz, ts, hts, _, hcell⟩ := hok
  have e1 : Program.cellTypes Go.Proofs.Tryz.prog (Program.depth Go.Proofs.Tryz.prog) 24 = some [3, 22, 22] := by kernel_rfl
  have e2 : Program.cellsOf Go.Proofs.Tryz.prog 24 = 3 := by kernel_rfl
  have e3 : Program.cellsOf Go.Proofs.Tryz.prog 3 = 1 := by kernel_rfl
  have e4 : Program.cellsOf Go.Proofs.Tryz.prog 22 = 1 := by kernel_rfl
  rw [e1, Option.some.injEq] at hts
  subst hts
  rw [e2] at hsz
  obtain ⟨c0, c1, c2, rfl⟩ : ∃ c0 c1 c2, cs = #[c0, c1, c2] := by
    obtain ⟨l⟩ := cs
    match l, hsz with
    | [c0, c1, c2], _ => exact ⟨c0, c1, c2, rfl⟩
  obtain ⟨u0, hu0, o0⟩ := hcell 0 c0 rfl
  obtain ⟨u1, hu1, o1⟩ := hcell 1 c1 rfl
  obtain ⟨u2, hu2, o2⟩ := hcell 2 c2 rfl
  simp only [List.length_cons, List.length_nil, Nat.reduceAdd, Nat.reduceMod, List.getElem?_cons_zero, List.getElem?_cons_succ, Option.some.injEq] at hu0 hu1 hu2
  subst hu0 hu1 hu2
  obtain ⟨xs, m, _, _, _, hl, hf⟩ := DataW.trod_struct Tryz.underlying24 ht
  have h1 := hf 1 _ rfl
  have h2 := hf 2 _ rfl
  have hl3 : xs.length = 3 := hl
  simp only [Value.cells] at h1 h2
  rw [List.getElem?_eq_getElem (by omega)] at h1 h2
  obtain ⟨A, hA⟩ := sl_open o1 h1
  obtain ⟨T, hT⟩ := sl_open o2 h2
  simp only [Cell.okWide, Tryz.underlying3] at o0
  cases c0 <;> simp only [Cell.ok, Tryz.underlying3] at o0
  obtain ⟨rfl, _⟩ := o0
  exact ⟨_, c1, c2, A, T, rfl, hA, hT⟩

theorem own : ownKnob Go.Proofs.Tryz.prog.godebug = none := by kernel_rfl
theorem laidOut : laidOutB Go.Proofs.Tryz.prog = true := by kernel_rfl

end Go.Proofs.YtefcfnmmpnjjjaaGreatDoor
