/- A value that came in. -/
import Derived.Test.YthcdnjbhhaonhaaGreatDoorQvOpenFo
import Derived.Test.YthcdnjbhhaonhaaGreatDoorQvVaSpecToVaA
import Derived.Test.YthcdnjbhhaonhaaGreatDoorQvChEv

namespace Go.Proofs.YthcdnjbhhaonhaaGreatDoor
open Go.ChangeShapes Go.WideShapes Go.ChangeAt Go.RowKit
open Go.Proofs.Tryz renaming prog → ZP
def Lite {H : Type} (t : TypeId) (d : DataW H) : Prop := (DataW.weights ZP t d).all (· ≤ reachBytes) = true
theorem lite_all {H : Type} {e : TypeId} : ∀ {l : List (DataW H)}, (DataW.weightsAll ZP e l).all (· ≤ reachBytes) = true → ∀ d ∈ l, Lite e d
  | [], _, d, hd => by cases hd
  | y :: l, h, d, hd => by
    rw [DataW.weightsAll, List.all_append, Bool.and_eq_true] at h
    rcases List.mem_cons.1 hd with rfl | hd
    · exact h.1
    · exact lite_all h.2 d hd
theorem lite_struct {H : Type} {fs : Array Field} {t : TypeId} {parts : List (DataW H)} (hu : (ZP).underlying t = some (.struct fs)) (h : Lite t (.agg parts)) : (DataW.weightsEach ZP (fs.toList.map (·.type)) parts).all (· ≤ reachBytes) = true := by
  unfold Lite at h
  rw [DataW.weights, hu] at h
  exact h
theorem lite_slice {H : Type} {e t : TypeId} {l r : List (DataW H)} (hu : (ZP).underlying t = some (.slice e)) (h : Lite t (.slice l r)) : (l.length + r.length) * (ZP).bytesOf e ≤ reachBytes ∧ ∀ d ∈ l, Lite e d := by
  unfold Lite at h
  rw [DataW.weights, hu] at h
  simp only [List.all_cons,List.all_append,Bool.and_eq_true,decide_eq_true_eq] at h
  exact ⟨h.1, lite_all h.2.1⟩
theorem lite_cons {H : Type} {t : TypeId} {ts : List TypeId} {d : DataW H} {r : List (DataW H)} (h : (DataW.weightsEach ZP (t :: ts) (d :: r)).all (· ≤ reachBytes) = true) : Lite t d ∧ (DataW.weightsEach ZP ts r).all (· ≤ reachBytes) = true := by
  rw [DataW.weightsEach, List.all_append, Bool.and_eq_true] at h
  exact h
theorem handed_laid_sized {H : Type} {enc : TypeId × Value → H} {a : Assume} {C : Checked} {os : Os} {f : FuncId} {fn : Func} {s : ChangeSpec} {conds : List PathCond} {apart fresh handsOn again : Bool} {X : World → Array Value → Prop}
    (hX : ∀ (w w' : World) (args : Array Value), w.heap = w'.heap → X w args → X w' args)
    (own : ownKnob C.prog.godebug = none) (started : os.Started) (noInit : C.prog.inits.idxOf? f = none) (hfn : C.prog.funcs[f]? = some fn)
    (witness : ∃ (w : World) (tape : Tape) (i : Input), w.os = os ∧ (w.forCall tape i).Shaped C.prog ∧ i.vars = [] ∧ Input.okWide C.prog (w.forCall tape i) .any w.heap.size f i ∧
      ((s.pre enc C.prog fn conds apart (w.forCall tape i).memory i.args ∧ X (w.forCall tape i).memory i.args) ∧ sizedMet enc C.prog fn (OpenSpec.ofChange s) apart (w.forCall tape i).memory i.args) ∧ a.holds C.prog (lone (Frame.enter C.prog f i.args .normal) [] (w.forCall tape i)))
    (contract : ∀ (W : World) (base : Nat) (args : Array Value) (ds gs : List (DataW H)) (before : List MemPlace),
      (∀ (j : Nat) t v, fn.params[j]? = some t → args[j]? = some v → Value.okWide C.prog W .any base t v) →
      DataW.Whole enc C.prog fn.params.toList s.vars apart W args.toList ds gs before → X W args → W.ShapedOpen C.prog →
      (DataW.weightsEach C.prog (fn.params.toList ++ (OpenSpec.ofChange s).bare.plain.varTypes C.prog) (ds ++ gs)).all (· ≤ reachBytes) = true →
      Calls C.prog f args W fun e W' => ∃ v, e = .returned v ∧ s.post enc C.prog fn apart fresh handsOn again W args v W') :
    ReturnsInHanded a C os f .any (fun w args => (s.pre enc C.prog fn conds apart w args ∧ X w args) ∧ sizedMet enc C.prog fn (OpenSpec.ofChange s) apart w args) (s.post enc C.prog fn apart fresh handsOn again) := by
  refine returnsInHanded_of_calls own started noInit witness ?_
  intro w tape i _ hsh _ hok hpre _
  obtain ⟨_, _, _, fn', hfn', _, _, _, _, hval⟩ := hok
  have e : fn' = fn := Option.some.inj (hfn'.symm.trans hfn)
  subst e
  obtain ⟨⟨⟨ds, gs, before, hw, hc⟩, hx⟩, hz⟩ := hpre
  have hz' := hz.weights hw
  have hw' := DataW.Whole.of_heap (w' := w.forCall tape i) (by rfl) hw
  refine (contract (w.forCall tape i) w.heap.size i.args ds gs before hval hw' (hX _ _ _ (by rfl) hx) hsh hz').mono fun e W' ⟨v, he, hp⟩ => ?_
  subst he
  exact ChangeSpec.post_blind hp
theorem wf_i64 {n : Int} (h : (Lit.int .i64 n).wf = true) : -9223372036854775808 ≤ n ∧ n ≤ 9223372036854775807 := by
  unfold Lit.wf at h
  simp only [Bool.and_eq_true,decide_eq_true_eq] at h
  exact h
theorem und_int2 {H : Type} {enc : TypeId × Value → H} {w : World} {base n : Nat} {v : Value} {x : DataW H × List MemPlace} (ht : DataW.trod enc ZP w base (fun _ => true) true n 3 [v] = some x) : ∃ k, v = .int .i64 k ∧ -9223372036854775808 ≤ k ∧ k ≤ 9223372036854775807 := by
  obtain ⟨k, h, _, hwf⟩ := DataW.trod_int Tryz.underlying3 ht
  exact ⟨k, by simpa using h, wf_i64 hwf⟩
set_option maxRecDepth 100000 in
theorem vt_read {H : Type} {enc : TypeId × Value → H} {w : World} {base : Nat} (n : Nat) : ∀ {cs : List Value} {x : DataW H × List MemPlace} (_ : DataW.trod enc ZP w base (fun _ => true) true n 64 cs = some x) (_ : Lite 64 x.1), ∃ (v : Vt) (s1 s2 : Value), cs = vtCs v s1 s2 ∧ VAt w v s1 s2 := by
  induction n using Nat.strongRecOn with
  | ind n ih =>
    intro cs x ht hz
    have e1 : Program.cellsOf ZP 64 = 5 := by kernel_rfl
    have e3 : Program.cellsOf ZP 3 = 1 := by kernel_rfl
    have e4 : Program.cellsOf ZP 33 = 1 := by kernel_rfl
    have e5 : Program.cellsOf ZP 9 = 1 := by kernel_rfl
    have e6 : Program.cellsOf ZP 62 = 1 := by kernel_rfl
    obtain ⟨xs, m, hm, hxe, hlen, hl, hf⟩ := DataW.trod_struct Tryz.underlying64 ht
    rw [e1] at hlen
    obtain ⟨c0, c1, c2, c3, c4, rfl⟩ : ∃ c0 c1 c2 c3 c4, cs = [c0, c1, c2, c3, c4] := by
      match cs, hlen with
      | [c0, c1, c2, c3, c4], _ => exact ⟨c0, c1, c2, c3, c4, rfl⟩
    have hl5 : xs.length = 5 := hl
    obtain ⟨y0, y1, y2, y3, y4, rfl⟩ : ∃ y0 y1 y2 y3 y4, xs = [y0, y1, y2, y3, y4] := by
      match xs, hl5 with
      | [y0, y1, y2, y3, y4], _ => exact ⟨y0, y1, y2, y3, y4, rfl⟩
    rw [hxe] at hz
    have hz5 := lite_struct Tryz.underlying64 hz
    obtain ⟨_, hz5⟩ := lite_cons hz5
    obtain ⟨_, hz5⟩ := lite_cons hz5
    obtain ⟨z2, hz5⟩ := lite_cons hz5
    obtain ⟨z3, hz5⟩ := lite_cons hz5
    obtain ⟨z4, _⟩ := lite_cons hz5
    have h0 := hf 0 _ rfl
    have h1 := hf 1 _ rfl
    have h2 := hf 2 _ rfl
    have h3 := hf 3 _ rfl
    have h4 := hf 4 _ rfl
    have h0 : DataW.trod enc ZP w base (fun _ => true) true m 3 [c0] = some y0 := h0
    have h1 : DataW.trod enc ZP w base (fun _ => true) true m 3 [c1] = some y1 := h1
    have h2 : DataW.trod enc ZP w base (fun _ => true) true m 9 [c2] = some y2 := h2
    have h3 : DataW.trod enc ZP w base (fun _ => true) true m 33 [c3] = some y3 := h3
    have hh4 : DataW.trod enc ZP w base (fun _ => true) true m 62 [c4] = some y4 := h4
    obtain ⟨k0, rfl⟩ := und_int h0
    obtain ⟨k1, rfl, hk1⟩ := und_int2 h1
    obtain ⟨s, hs, hy2, hsz⟩ := DataW.trod_string (cs := [c2]) Tryz.underlying9 h2
    obtain rfl : c2 = .string s := by simpa using hs
    have hsz' : s.size ≤ 140737488355328 := by
      rw [hy2] at z2
      unfold Lite at z2
      simp only [DataW.weights,List.all_cons,List.all_nil,Bool.and_true,decide_eq_true_eq] at z2
      have : s.data.toList.length = s.size := rfl
      unfold reachBytes at z2
      omega
    obtain ⟨ks, hks⟩ := sl_read h3
    have hkl : ks.length ≤ 140737488355328 := by
      obtain ⟨pk, capk, hck, _, _⟩ := hks.shape
      rcases DataW.trod_slice (cs := [c3]) Tryz.underlying33 h3 with ⟨hcs, _⟩ | ⟨a, len, cap, elems, rest, m', hm', hcs, hxe3, _, hl3, _, hel, _, _, _⟩
      · simp only [List.cons.injEq,and_true] at hcs
        rw [hcs] at hck
        simp only [Value.slice.injEq] at hck
        omega
      · simp only [List.cons.injEq,and_true] at hcs
        rw [hcs] at hck
        simp only [Value.slice.injEq] at hck
        rw [hxe3] at z3
        have hw := (lite_slice Tryz.underlying33 z3).1
        have e8 : Program.bytesOf ZP 3 = 8 := by kernel_rfl
        rw [e8, List.length_map, List.length_map, hel] at hw
        unfold reachBytes at hw
        omega
    obtain ⟨l, hl⟩ : ∃ l, SlV w c4 l := by
      rcases DataW.trod_slice (cs := [c4]) Tryz.underlying62 hh4 with ⟨hcs, _⟩ | ⟨a, len, cap, elems, rest, m', hm', hcs, hxe4, _, hl, hmx, hel, hread, _, _⟩
      · simp only [List.cons.injEq,and_true] at hcs
        exact ⟨[], by rw [hcs]; exact SlV.nil w⟩
      · simp only [List.cons.injEq,and_true] at hcs
        subst hcs
        rw [e1] at hread
        rw [hxe4] at z4
        have hlit := (lite_slice Tryz.underlying62 z4).2
        have each : ∀ i, i < len → ∃ (v : Vt) (s1 s2 : Value), (∀ j u, (vtCs v s1 s2)[j]? = some u → w.cell? ((a.add (i * 5)).add j) = some u) ∧ VAt w v s1 s2 := fun i hi => by
          have h := hread i hi
          rw [List.getElem?_eq_getElem (by omega), Option.bind_eq_some_iff] at h
          obtain ⟨cs, g1, g2⟩ := h
          obtain ⟨v, s1, s2, rfl, hv⟩ := ih m' (by omega) g2 (hlit _ (List.mem_map.2 ⟨_, List.getElem_mem (by omega), rfl⟩))
          exact ⟨v, s1, s2, fun j u hj => (cells_get g1 j u hj).2, hv⟩
        by_cases h0 : len = 0
        · subst h0
          exact ⟨[], some a, cap, rfl, by simp, hmx, fun h => absurd rfl h⟩
        obtain ⟨b, o, sp⟩ := a
        have hsp : sp = none := by
          obtain ⟨v, s1, s2, h, _⟩ := each 0 (by omega)
          have := h 0 _ rfl
          rw [Nat.zero_mul, addr_z, addr_z] at this
          exact spot_none this
        subst hsp
        obtain ⟨vs, hv1, hv2⟩ : ∃ vs : List Vt, vs.length = len ∧ ∀ i v, vs[i]? = some v → ∃ s1 s2, (∀ j u, (vtCs v s1 s2)[j]? = some u → w.cell? (((⟨b, o, none⟩ : Addr).add (i * 5)).add j) = some u) ∧ VAt w v s1 s2 := by
          refine ⟨List.ofFn fun i : Fin len => (each i.1 i.2).choose, by simp, fun i f hf => ?_⟩
          obtain ⟨hi, rfl⟩ := List.getElem?_eq_some_iff.1 hf
          rw [List.getElem_ofFn]
          exact (each i (by simpa using hi)).choose_spec
        refine ⟨vs, _, cap, by rw [hv1], by omega, hmx, fun _ => ⟨b, o, rfl, vsat_iff.2 fun k v hk => ?_⟩⟩
        obtain ⟨s1, s2, g1, g2⟩ := hv2 k v hk
        refine ⟨s1, s2, fun j u hj => ?_, g2⟩
        have := g1 j u hj
        rw [Addr.add_lit, Addr.add_lit, Nat.mul_comm k 5] at this
        exact this
    exact ⟨.mk k0 k1 s ks l, c3, c4, rfl, vat_iff.2 ⟨⟨hsz', hkl, hk1.1, hk1.2⟩, hks, hl⟩⟩
set_option maxRecDepth 100000 in
theorem value_open {H : Type} {enc : TypeId × Value → H} {w : World} {base b0 n : Nat} {v : Value} {x : DataW H × List MemPlace} (hok : Value.okWide ZP w .any b0 64 v) (ht : DataW.trod enc ZP w base (fun _ => true) true n 64 v.cells.toList = some x) (hz : Lite 64 x.1) :
    ∃ (t : Vt) (s1 s2 : Value), v = vtV t s1 s2 ∧ VAt w t s1 s2 := by
  simp only [Value.okWide,Tryz.underlying64] at hok
  obtain ⟨cs, rfl, hsz, _⟩ := hok
  obtain ⟨t, s1, s2, h1, h2⟩ := vt_read n ht hz
  obtain ⟨l⟩ := cs
  have h3 : l = vtCs t s1 s2 := h1
  subst h3
  exact ⟨t, s1, s2, rfl, h2⟩
end Go.Proofs.YthcdnjbhhaonhaaGreatDoor
