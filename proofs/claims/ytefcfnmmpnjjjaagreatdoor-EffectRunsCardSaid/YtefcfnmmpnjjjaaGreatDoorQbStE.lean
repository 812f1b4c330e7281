/- States given: a reading that fails changes nothing. -/
import Derived.Test.YtefcfnmmpnjjjaaGreatDoorQbStD
import Derived.RecoverIn
namespace Go.Proofs.YtefcfnmmpnjjjaaGreatDoor
open Go.RowKit
set_option linter.unusedSimpArgs false

theorem ta_nil (w : World) : (Instr.typeAssert .nilIface 20 140 true).run Go.Proofs.Tryz.prog w = .ok (.tuple #[.agg #[], .bool false]) w := assertV_run (by kernel_rfl) w
theorem ta_wrong (w : World) : (Instr.typeAssert (.iface 140 (.agg #[])) 20 140 true).run Go.Proofs.Tryz.prog w = .ok (.tuple #[.agg #[], .bool true]) w := assertV_run (by kernel_rfl) w
set_option maxRecDepth 10000 in
/-- What is behind 'caught' where nothing panicked. -/
theorem caught_ret {w : World} {eb : Nat} : CallsDIn Fence.wide 1 Go.Proofs.Tryz.prog 39 #[.pointer (some ⟨eb, 0, none⟩)] .returning w fun e u' w' => e = .returned (.tuple #[]) ∧ u' = .returning ∧ Ext w w' := by
  refine callsDIn_of_wpSIn Tryz.func39 rfl trivial fun c₀ cs hu => ?_
  apply wpSIn_seq
  apply wpSIn_region
  simp [wpOpsSIn, go_sem, recoverD, hu, ta_nil, Tryz.ntmps39, Exit.thenS]
  apply wpSIn_seq
  apply wpSIn_region
  simp [wpOpsSIn, go_sem, Exit.thenS]
  refine wpSIn_cond (t := false) (by simp [Act.eval, Array.replicate]) ?_
  simp only [Bool.false_eq_true, if_false]
  refine wpSIn_of_wpIn rfl (wpIn_skip ?_)
  cases c₀
  simp_all [bodyPostS, results, Tryz.results39]
  exact Ext.alloc _ _
set_option maxRecDepth 10000 in
/-- What is behind 'caught' where a reading panicked: the error is told. -/
theorem caught_wrong {w : World} {eb : Nat} {x : Value} (hb : Bk w eb [x] 28) : CallsDIn Fence.wide 1 Go.Proofs.Tryz.prog 39 #[.pointer (some ⟨eb, 0, none⟩)] (.panicking [⟨.iface 140 (.agg #[]), false, false⟩]) w fun e u' w' =>
    e = .returned (.tuple #[]) ∧ settle u' = .returning ∧ ChS eb w w' ∧ Bk w' eb [.int .i64 2] 28 := by
  have hb1 := hb.ext (Ext.alloc w (.cells #[] 140))
  have c1 := hb1.get (o := 0) rfl
  refine callsDIn_of_wpSIn Tryz.func39 rfl trivial fun c₀ cs hu => ?_
  apply wpSIn_seq
  apply wpSIn_region
  simp [wpOpsSIn, go_sem, recoverD, hu, ta_wrong, Tryz.ntmps39, Exit.thenS]
  apply wpSIn_seq
  apply wpSIn_region
  simp [wpOpsSIn, go_sem, Exit.thenS]
  refine wpSIn_cond (t := true) (by simp [Act.eval, Array.replicate]) ?_
  simp only [if_true]
  apply wpSIn_region
  simp [wpOpsSIn, go_sem, c1, hb1.frozen, bodyPostS, results, Tryz.results39]
  exact ⟨rfl, ChP.setCell (G := fun q => q = eb) (Ext.chp (Ext.alloc _ _)) (fun _ => rfl) _, hb1.set 0 _⟩

theorem leaveW_cons {P : Program} {rs : List ResultVar} {R : Ending → World → Prop} {d : Deferred} {ds : List Deferred} {u : FrameMode} {e : Env} {w : World} (hu : u ≠ .run) {fv : Fn} {cap : Array Value} {f : FuncId} {args : Array Value} (h1 : d.target = .fn fv cap)
    (h2 : (invoke d.target d.args).run P w = .ok (.enter f args) w) {R' : Ending → FrameMode → World → Prop} (h3 : CallsDIn Fence.wide 1 P f args u w R')
    (hr : ∀ v u' w', R' (.returned v) u' w' → leaveW P rs R ds (settle u') e w') (hp : ∀ ch u' w', R' (.panicked ch) u' w' → leaveW P rs R ds (raised u' ch) e w') (ho : ∀ u' w', R' .outgrown u' w' → False) : leaveW P rs R (d :: ds) u e w := by
  have h : u ≠ .run ∧ ∃ fv cap f args, d.target = .fn fv cap ∧ (invoke d.target d.args).run P w = .ok (.enter f args) w ∧ CallsDIn Fence.wide 1 P f args u w fun
      | .returned _, u', w' => leaveW P rs R ds (settle u') e w'
      | .panicked ch, u', w' => leaveW P rs R ds (raised u' ch) e w'
      | .outgrown, _, w' => R .outgrown w' := by
    refine ⟨hu, fv, cap, f, args, h1, h2, callsD_mono h3 fun e' u' w' hq => ?_⟩
    cases e' with
    | returned v => exact hr v u' w' hq
    | panicked ch => exact hp ch u' w' hq
    | outgrown => exact (ho u' w' hq).elim
  with_unfolding_all exact h
theorem leaveW_ret {P : Program} {rs : List ResultVar} {R : Ending → World → Prop} {e : Env} {w : World} (h : resW P rs e w fun v => R (.returned v) w) : leaveW P rs R [] .returning e w := by
  with_unfolding_all exact h
/-- A function that deferred 'caught' leaves: nothing panicked. -/
theorem leave_ret {R : Ending → World → Prop} {e : Env} {w : World} {eb : Nat} {n : Int} (h4 : e 4 = .pointer (some ⟨eb, 0, none⟩)) (hc : w.cell? ⟨eb, 0, none⟩ = some (.int .i64 n)) (hR : ∀ w', Ext w w' → R (.returned (.int .i64 n)) w') :
    leaveW Go.Proofs.Tryz.prog [.cell 4 28] R [⟨.fn (.func 39) #[], #[.pointer (some ⟨eb, 0, none⟩)]⟩] .returning e w := by
  refine leaveW_cons (by simp) (fv := .func 39) (cap := #[]) rfl (by simp [go_sem]) (caught_ret (eb := eb)) ?_ (fun _ _ _ h => by simp at h) (fun _ _ h => by simp at h)
  rintro v u' w' ⟨_, rfl, hx⟩
  show leaveW Go.Proofs.Tryz.prog [.cell 4 28] R [] .returning e w'
  refine leaveW_ret ?_
  have hc' := hx.cell hc
  have hR' := hR w' hx
  simp -dsimp -implicitDefEqProofs only [settle, h4, hc', m12, sF12, Nat.reduceEqDiff, ↓reduceIte, Nat.reduceAdd, Nat.reduceMul, Value.cells, Value.oneCell', eq_self, ne_eq, Int.reduceToNat, Int.reduceEq, Int.reduceLT, Int.reduceLE, Int.reduceNeg, if_true, if_false, reduceCtorEq, Nat.reduceSub, storeV_ptr, slcV_slice, ↓mwD, mwU]
  exact hR'
/-- A function that deferred 'caught' leaves: a reading panicked. -/
theorem leave_wrong {R : Ending → World → Prop} {e : Env} {w : World} {eb : Nat} {x : Value} {ch : List PanicEntry} (hw : wrongP ch) (h4 : e 4 = .pointer (some ⟨eb, 0, none⟩)) (hb : Bk w eb [x] 28) (hR : ∀ w', ChS eb w w' → R (.returned (.int .i64 2)) w') :
    leaveW Go.Proofs.Tryz.prog [.cell 4 28] R [⟨.fn (.func 39) #[], #[.pointer (some ⟨eb, 0, none⟩)]⟩] (.panicking ch) e w := by
  subst hw
  refine leaveW_cons (by simp) (fv := .func 39) (cap := #[]) rfl (by simp [go_sem]) (caught_wrong hb) ?_ (fun _ _ _ h => by simp at h) (fun _ _ h => by simp at h)
  rintro v u' w' ⟨_, hu, hx, hb'⟩
  rw [hu]
  refine leaveW_ret ?_
  have hc' := hb'.get (o := 0) rfl
  have hR' := hR w' hx
  simp -dsimp -implicitDefEqProofs only [settle, h4, hc', m12, sF12, Nat.reduceEqDiff, ↓reduceIte, Nat.reduceAdd, Nat.reduceMul, Value.cells, Value.oneCell', eq_self, ne_eq, Int.reduceToNat, Int.reduceEq, Int.reduceLT, Int.reduceLE, Int.reduceNeg, if_true, if_false, reduceCtorEq, Nat.reduceSub, storeV_ptr, slcV_slice, ↓mwD, mwU]
  exact hR'

theorem bv_scan (p : Option Addr) (n c : Nat) : buildV Go.Proofs.Tryz.prog 88 [(0, .slice p n c)] = some (.agg #[.slice p n c]) := by kernel_rfl
theorem splitW_ne (s : ByteArray) : splitW s ≠ [] := by
  intro h
  have := splitW_length s
  rw [h] at this
  simp at this
theorem splitK_size (sep : List UInt8) (save : Nat) : ∀ (k : Nat) (s : List UInt8), ∀ x ∈ Lib.splitK sep save k s, x.length ≤ s.length
  | 0, s, x, hx => by simp [Lib.splitK] at hx; rw [hx]; exact Nat.le_refl _
  | k + 1, s, x, hx => by
    simp only [Lib.splitK] at hx
    split at hx
    · simp at hx; rw [hx]; exact Nat.le_refl _
    · rcases List.mem_cons.1 hx with rfl | hx
      · rw [List.length_take]; exact Nat.min_le_right _ _
      · have := splitK_size sep save k _ x hx
        rw [List.length_drop] at this
        omega
theorem splitW_size {s : ByteArray} (x : ByteArray) (hx : x ∈ splitW s) : x.size ≤ s.size := by
  have h := Lib.splitB_data ⟨#[32]⟩ 0 (Lib.countB s ⟨#[32]⟩) s
  have hm : x.data.toList ∈ Lib.splitK [32] 0 (Lib.countB s ⟨#[32]⟩) s.data.toList := by
    have h2 : x.data.toList ∈ (splitW s).map (fun (w : ByteArray) => w.data.toList) := List.mem_map.2 ⟨x, hx, rfl⟩
    unfold splitW at h2
    rw [h] at h2
    exact h2
  have h3 := splitK_size _ _ _ _ _ hm
  rw [Array.length_toList, Array.length_toList] at h3
  exact h3
/-- What giving a unit a state comes to. -/
def ResumeR (s : US) (F : List Nat) (k : Int) (A T : List Int) (u : Value) (st : ByteArray) (w : World) (r : Value) (w' : World) : Prop :=
  match unitP k A T (lenU s) (splitW st) with
  | some (l, []) => r = .int .i64 0 ∧ UnitAt w' u F (resU s l) k A T ∧ Ch F w w'
  | _ => r = .int .i64 2 ∧ Ext w w'
theorem Resume_c {w : World} {u : Value} {F : List Nat} {s : US} {k : Int} {A T : List Int} {st : ByteArray} (hE : EnvS w) (hu : UnitAt w u F s k A T) (hst : st.size ≤ 1000000000) (hl : lenU s ≤ 4097) (lA : A.length ≤ 512) (lT : T.length ≤ 512) :
    Rets Go.Proofs.Tryz.prog 12 #[u, .string st] w (ResumeR s F k A T u st w) := by
  have hu0 := hu
  obtain ⟨b, cs, wk, a, t, rfl, hb, hbF, g0, g1, g2, g3, hwk, ha, ht, da, dt⟩ := hu
  unfold Rets
  refine enD12 ?_
  simp -dsimp -implicitDefEqProofs only [opB_defer, m12, sF12, Nat.reduceEqDiff, ↓reduceIte, Nat.reduceAdd, Nat.reduceMul, Value.cells, Value.oneCell', eq_self, ne_eq, Int.reduceToNat, Int.reduceEq, Int.reduceLT, Int.reduceLE, Int.reduceNeg, if_true, if_false, reduceCtorEq, Nat.reduceSub, storeV_ptr, slcV_slice, ↓mwD, mwU]
  have hx0 : Ext w (w.alloc (.cells #[.int .i64 0] 28)) := Ext.alloc _ _
  have hbe : Bk (w.alloc (.cells #[.int .i64 0] 28)) w.heap.size [.int .i64 0] 28 := Bk.new _ _ _
  generalize hW0 : w.alloc (.cells #[.int .i64 0] 28) = W0 at *
  have hs0 : w.heap.size < W0.heap.size := hbe.lt
  refine (split_c hst (hE.ext hx0)).use ?_
  rintro r w1 ⟨hS, hx1, hfr⟩
  obtain ⟨pw, cw, rfl, _, _⟩ := Sl.shape hS
  rw [List.length_map] at *
  simp -dsimp -implicitDefEqProofs only [bv_scan, m12, sF12, Nat.reduceEqDiff, ↓reduceIte, Nat.reduceAdd, Nat.reduceMul, Value.cells, Value.oneCell', eq_self, ne_eq, Int.reduceToNat, Int.reduceEq, Int.reduceLT, Int.reduceLE, Int.reduceNeg, if_true, if_false, reduceCtorEq, Nat.reduceSub, storeV_ptr, slcV_slice, ↓mwD, mwU]
  have hx2 : Ext w (w1.alloc (.cells #[.slice pw (splitW st).length cw] 88)) := (hx0.trans hx1).alloc' _
  have hs2 : ScAt (w1.alloc (.cells #[.slice pw (splitW st).length cw] 88)) w1.heap.size (splitW st) := by
    refine ⟨_, Bk.new _ _ _, Sl.ext hS (Ext.alloc _ _), fun q hq => ?_⟩
    have := Sl.block hS (by simp [splitW_ne]) q hq
    exact this
  have hbe2 := (hbe.ext hx1).ext (Ext.alloc w1 (.cells #[.slice pw (splitW st).length cw] 88))
  generalize hW2 : w1.alloc (.cells #[.slice pw (splitW st).length cw] 88) = W2 at *
  have hszs : ∀ x ∈ splitW st, x.size ≤ 1000000000 := fun x hx => by have := splitW_size x hx; omega
  have hsb : w.heap.size < w1.heap.size := by have := hx1.le; omega
  refine (scUnit_c hE hx2 (Nat.le_of_lt hsb) hs2 hszs hu0 hl lA lT).use ?_ ?_
  · rintro r w3 ⟨l, ws', hp, hr, hfr3, hs3, hch3, _⟩
    obtain ⟨pl, cl, rfl, _, _⟩ := hr.shape
    simp -dsimp -implicitDefEqProofs only [m12, sF12, Nat.reduceEqDiff, ↓reduceIte, Nat.reduceAdd, Nat.reduceMul, Value.cells, Value.oneCell', eq_self, ne_eq, Int.reduceToNat, Int.reduceEq, Int.reduceLT, Int.reduceLE, Int.reduceNeg, if_true, if_false, reduceCtorEq, Nat.reduceSub, storeV_ptr, slcV_slice, ↓mwD, mwU]
    refine (end_c hs3).use ?_ ?_
    · rintro _ w4 ⟨rfl, rfl⟩
      have hlen := unitP_some hp
      have hx4 : Ext w w4 := ChP.ext hch3 hx2 (fun b hb => by subst hb; omega)
      have hw4 := hwk.ext hx4
      have hF := hwk.lt
      have hdl : l ≠ [] → ∀ q, (Value.slice pl l.length cl).ownBlock = some q → q ∉ F := fun _ q hq hm => by
        have h1 := hfr3 q hq
        have h2 := hF q hm
        have := hx2.le
        omega
      obtain ⟨ti, pv, f, rfl, hme, hof, hres⟩ := resume_any hw4 hr (kin_of_len hlen.1) hdl
      have c0 := (hb.ext hx4).get g0
      simp -dsimp -implicitDefEqProofs only [c0, hme, hof, m12, sF12, Nat.reduceEqDiff, ↓reduceIte, Nat.reduceAdd, Nat.reduceMul, Value.cells, Value.oneCell', eq_self, ne_eq, Int.reduceToNat, Int.reduceEq, Int.reduceLT, Int.reduceLE, Int.reduceNeg, if_true, if_false, reduceCtorEq, Nat.reduceSub, storeV_ptr, slcV_slice, ↓mwD, mwU]
      refine hres.use ?_
      rintro _ w5 ⟨hw5, hf5⟩
      have hbe5 : Bk w5 w.heap.size [.int .i64 0] 28 := by
        have h4 : Bk w4 w.heap.size [.int .i64 0] 28 := hch3.bk (by omega) hbe2
        exact Fr.bk hf5 (fun hm => by have := hF _ hm; omega) h4
      have e0 := hbe5.get (o := 0) rfl
      simp -dsimp -implicitDefEqProofs only [e0, hbe5.frozen, m12, sF12, Nat.reduceEqDiff, ↓reduceIte, Nat.reduceAdd, Nat.reduceMul, Value.cells, Value.oneCell', eq_self, ne_eq, Int.reduceToNat, Int.reduceEq, Int.reduceLT, Int.reduceLE, Int.reduceNeg, if_true, if_false, reduceCtorEq, Nat.reduceSub, storeV_ptr, slcV_slice, ↓mwD, mwU]
      refine leave_ret (eb := w.heap.size) (n := 0) ?_ ((hbe5.set 0 _).get (o := 0) rfl) ?_
      · simp -dsimp -implicitDefEqProofs only [m12, sF12, Nat.reduceEqDiff, ↓reduceIte, Nat.reduceAdd, Nat.reduceMul, Value.cells, Value.oneCell', eq_self, ne_eq, Int.reduceToNat, Int.reduceEq, Int.reduceLT, Int.reduceLE, Int.reduceNeg, if_true, if_false, reduceCtorEq, Nat.reduceSub, storeV_ptr, slcV_slice, ↓mwD, mwU]
      intro w' hx'
      refine ⟨_, rfl, ?_⟩
      have hc5 : Ch F w w5 := (Ext.ch hx4).trans hf5.ch
      have hc6 : Ch F w (w5.setCell ⟨w.heap.size, 0, none⟩ (.int .i64 0)) := ⟨hc5.os, hc5.tape, hc5.output, by simpa [World.setCell] using hc5.size, fun k hk hF => (Below.heap_setCell _ _ _ _ (by intro e; have e' : k = w.heap.size := e; omega)).trans (hc5.block k hk hF)⟩
      have hc7 : Ch F w w' := hc6.trans (Ext.ch hx')
      have hw6 : WorkAt (w5.setCell ⟨w.heap.size, 0, none⟩ (.int .i64 0)) (.iface ti pv) F (resU s l) := hw5.same fun q hq => Below.heap_setCell _ _ _ _ (by intro e; have e' : q = w.heap.size := e; have := hF q hq; omega)
      unfold ResumeR
      rw [hp]
      exact ⟨rfl, ⟨b, cs, _, a, t, rfl, hc7.bk hbF hb, hbF, g0, g1, g2, g3, hw6.ext hx', ints_ch ha hc7 da, ints_ch ht hc7 dt, da, dt⟩, hc7⟩
    · rintro ch w4 ⟨hne, hwr, rfl⟩
      have hx4 : Ext w w4 := ChP.ext hch3 hx2 (fun b hb => by subst hb; omega)
      refine leave_wrong (eb := w.heap.size) hwr ?_ (hch3.bk (by omega) hbe2) ?_
      · simp -dsimp -implicitDefEqProofs only [m12, sF12, Nat.reduceEqDiff, ↓reduceIte, Nat.reduceAdd, Nat.reduceMul, Value.cells, Value.oneCell', eq_self, ne_eq, Int.reduceToNat, Int.reduceEq, Int.reduceLT, Int.reduceLE, Int.reduceNeg, if_true, if_false, reduceCtorEq, Nat.reduceSub, storeV_ptr, slcV_slice, ↓mwD, mwU]
      intro w' hx'
      refine ⟨_, rfl, ?_⟩
      unfold ResumeR
      rw [hp]
      cases ws' with
      | nil => exact absurd rfl hne
      | cons y ys => exact ⟨rfl, ChP.ext hx' hx4 (fun b hb => by subst hb; omega)⟩
  · rintro ch w3 ⟨hp, hwr, hch3⟩
    have hx3 : Ext w w3 := ChP.ext hch3 hx2 (fun b hb => by subst hb; omega)
    refine leave_wrong (eb := w.heap.size) hwr ?_ (hch3.bk (by omega) hbe2) ?_
    · simp -dsimp -implicitDefEqProofs only [m12, sF12, Nat.reduceEqDiff, ↓reduceIte, Nat.reduceAdd, Nat.reduceMul, Value.cells, Value.oneCell', eq_self, ne_eq, Int.reduceToNat, Int.reduceEq, Int.reduceLT, Int.reduceLE, Int.reduceNeg, if_true, if_false, reduceCtorEq, Nat.reduceSub, storeV_ptr, slcV_slice, ↓mwD, mwU]
    intro w' hx'
    refine ⟨_, rfl, ?_⟩
    unfold ResumeR
    rw [hp]
    exact ⟨rfl, ChP.ext hx' hx3 (fun b hb => by subst hb; omega)⟩
end Go.Proofs.YtefcfnmmpnjjjaaGreatDoor
