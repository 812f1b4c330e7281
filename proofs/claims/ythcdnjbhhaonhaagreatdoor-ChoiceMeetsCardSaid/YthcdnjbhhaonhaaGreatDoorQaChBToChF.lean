/- Layer 02: package format's lists of numbers. -/
import Derived.Test.YthcdnjbhhaonhaaGreatDoorQaChSpecToChA
import Derived.MapKept


namespace Go.Proofs.YthcdnjbhhaonhaaGreatDoor
open Go.RowKit
set_option linter.unusedSimpArgs false

theorem w64_succ {k n : Nat} (h : k < n) (hn : n ≤ maxLen) : IntKind.i64.wrap ((k : Int) + 1) = ((k + 1 : Nat) : Int) := by
  unfold maxLen at hn
  rw [w64 (by omega) (by omega)]; omega
theorem contains_take_succ {xs : List Int} {k : Nat} (h : k < xs.length) (n : Int) : (xs.take (k + 1)).contains n = ((xs.take k).contains n || decide (n = xs[k])) := by
  rw [List.take_succ_eq_append_getElem h]
  simp only [List.contains_eq_mem, List.mem_append, List.mem_singleton, Bool.decide_or]

theorem IndexL_c (v : Value) (xs : List Int) (n : Int) (w : World) (h : SlI w v xs) :
    Rets Go.Proofs.Tryz.prog 231 #[v, .int .i64 n] w fun r w' => (∃ i : Int, r = .int .i64 i ∧ decide (0 ≤ i) = xs.contains n) ∧ w' = w := by
  obtain ⟨q, cap, rfl, hc1, hc2⟩ := h.shape
  refine en231 ?_
  simp -dsimp -implicitDefEqProofs only [m231, sF231, Nat.reduceEqDiff, ↓reduceIte, Nat.reduceAdd, Nat.reduceMul, Value.cells, Value.oneCell', eq_self, ne_eq, Int.reduceToNat, Int.reduceEq, Int.reduceLT, Int.reduceLE, Int.reduceNeg, if_true, if_false, reduceCtorEq, Nat.reduceSub, storeV_ptr, slcV_slice, ↓mwD, mwU]
  refine mwpB_loop (fun e ds w' => ∃ k : Nat, k ≤ xs.length ∧ e 8 = .int .i64 k ∧ e 7 = .int .i64 xs.length ∧ e 0 = .slice q xs.length cap ∧ e 1 = .int .i64 n ∧ ds = [] ∧ w' = w ∧ (xs.take k).contains n = false)
    (fun e _ => xs.length - (intOf (e 8)).toNat) ?_ ?_
  · simp -dsimp -implicitDefEqProofs only [m231, sF231, Nat.reduceEqDiff, ↓reduceIte, Nat.reduceAdd, Nat.reduceMul, Value.cells, Value.oneCell', eq_self, ne_eq, Int.reduceToNat, Int.reduceEq, Int.reduceLT, Int.reduceLE, Int.reduceNeg, if_true, if_false, reduceCtorEq, Nat.reduceSub, storeV_ptr, slcV_slice, ↓mwD, mwU]
    exact ⟨0, by omega, rfl, rfl⟩
  · rintro e ds w' ⟨k, hk, h8, h7, h0, h1, rfl, rfl, hp⟩
    simp -dsimp -implicitDefEqProofs only [h8, h7, h0, h1, m231, sF231, Nat.reduceEqDiff, ↓reduceIte, Nat.reduceAdd, Nat.reduceMul, Value.cells, Value.oneCell', eq_self, ne_eq, Int.reduceToNat, Int.reduceEq, Int.reduceLT, Int.reduceLE, Int.reduceNeg, if_true, if_false, reduceCtorEq, Nat.reduceSub, storeV_ptr, slcV_slice, ↓mwD, mwU]
    refine iteW_dec (fun hlt => ?_) (fun hge => ?_)
    · have hlt' : k < xs.length := by omega
      obtain ⟨b, o, cap', hv, _, _, hcell⟩ := h.at (by intro h0; rw [h0] at hlt'; simp at hlt')
      cases hv
      have hck := hcell k hlt'
      have hb1 : (0 : Int) ≤ k ∧ (k : Int) < xs.length := by omega
      have hw := w64_succ hlt' (Nat.le_trans hc1 hc2)
      have hs := contains_take_succ hlt' n
      simp -dsimp -implicitDefEqProofs only [h8, h7, h0, h1, hb1, and_self, hck, m231, sF231, Nat.reduceEqDiff, ↓reduceIte, Nat.reduceAdd, Nat.reduceMul, Value.cells, Value.oneCell', eq_self, ne_eq, Int.reduceToNat, Int.reduceEq, Int.reduceLT, Int.reduceLE, Int.reduceNeg, if_true, if_false, reduceCtorEq, Nat.reduceSub, storeV_ptr, slcV_slice, ↓mwD, mwU]
      by_cases he : n = xs[k]
      · simp -dsimp -implicitDefEqProofs only [h8, h7, h0, h1, he, m231, sF231, Nat.reduceEqDiff, ↓reduceIte, Nat.reduceAdd, Nat.reduceMul, Value.cells, Value.oneCell', eq_self, ne_eq, Int.reduceToNat, Int.reduceEq, Int.reduceLT, Int.reduceLE, Int.reduceNeg, if_true, if_false, reduceCtorEq, Nat.reduceSub, storeV_ptr, slcV_slice, ↓mwD, mwU]
        refine ⟨_, rfl, ?_⟩
        have : xs.contains xs[k] = true := by rw [List.contains_eq_mem, decide_eq_true_eq]; exact List.getElem_mem hlt'
        rw [this]; simp
      · simp -dsimp -implicitDefEqProofs only [h8, h7, h0, h1, he, hw, m231, sF231, Nat.reduceEqDiff, ↓reduceIte, Nat.reduceAdd, Nat.reduceMul, Value.cells, Value.oneCell', eq_self, ne_eq, Int.reduceToNat, Int.reduceEq, Int.reduceLT, Int.reduceLE, Int.reduceNeg, if_true, if_false, reduceCtorEq, Nat.reduceSub, storeV_ptr, slcV_slice, ↓mwD, mwU]
        refine ⟨⟨k + 1, by omega, rfl, ?_⟩, ?_⟩
        · rw [hs, hp]; simp [he]
        · simp only [intOf]; omega
    · have hkl : k = xs.length := by omega
      subst hkl
      simp -dsimp -implicitDefEqProofs only [h8, h7, h0, h1, m231, sF231, Nat.reduceEqDiff, ↓reduceIte, Nat.reduceAdd, Nat.reduceMul, Value.cells, Value.oneCell', eq_self, ne_eq, Int.reduceToNat, Int.reduceEq, Int.reduceLT, Int.reduceLE, Int.reduceNeg, if_true, if_false, reduceCtorEq, Nat.reduceSub, storeV_ptr, slcV_slice, ↓mwD, mwU]
      refine ⟨_, rfl, ?_⟩
      rw [List.take_length] at hp
      rw [hp]; simp
theorem ContainsL_c (v : Value) (xs : List Int) (n : Int) (w : World) (h : SlI w v xs) : Rets Go.Proofs.Tryz.prog 230 #[v, .int .i64 n] w fun r w' => r = .bool (xs.contains n) ∧ w' = w := by
  refine en230 ?_
  simp -dsimp -implicitDefEqProofs only [m230, sF230, Nat.reduceEqDiff, ↓reduceIte, Nat.reduceAdd, Nat.reduceMul, Value.cells, Value.oneCell', eq_self, ne_eq, Int.reduceToNat, Int.reduceEq, Int.reduceLT, Int.reduceLE, Int.reduceNeg, if_true, if_false, reduceCtorEq, Nat.reduceSub, storeV_ptr, slcV_slice, ↓mwD, mwU]
  refine (IndexL_c v xs n w h).use ?_
  rintro r w' ⟨⟨i, rfl, hi⟩, rfl⟩
  simp -dsimp -implicitDefEqProofs only [m230, sF230, Nat.reduceEqDiff, ↓reduceIte, Nat.reduceAdd, Nat.reduceMul, Value.cells, Value.oneCell', eq_self, ne_eq, Int.reduceToNat, Int.reduceEq, Int.reduceLT, Int.reduceLE, Int.reduceNeg, if_true, if_false, reduceCtorEq, Nat.reduceSub, storeV_ptr, slcV_slice, ↓mwD, mwU]
  rw [hi]
theorem listHas_c (v : Value) (xs : List Int) (n : Int) (w : World) (h : SlI w v xs) : Rets Go.Proofs.Tryz.prog 227 #[v, .int .i64 n] w fun r w' => r = .bool (xs.contains n) ∧ w' = w := by
  refine en227 ?_
  simp -dsimp -implicitDefEqProofs only [m227, sF227, Nat.reduceEqDiff, ↓reduceIte, Nat.reduceAdd, Nat.reduceMul, Value.cells, Value.oneCell', eq_self, ne_eq, Int.reduceToNat, Int.reduceEq, Int.reduceLT, Int.reduceLE, Int.reduceNeg, if_true, if_false, reduceCtorEq, Nat.reduceSub, storeV_ptr, slcV_slice, ↓mwD, mwU]
  refine (ContainsL_c v xs n w h).use ?_
  rintro r w' ⟨rfl, rfl⟩
  simp -dsimp -implicitDefEqProofs only [m227, sF227, Nat.reduceEqDiff, ↓reduceIte, Nat.reduceAdd, Nat.reduceMul, Value.cells, Value.oneCell', eq_self, ne_eq, Int.reduceToNat, Int.reduceEq, Int.reduceLT, Int.reduceLE, Int.reduceNeg, if_true, if_false, reduceCtorEq, Nat.reduceSub, storeV_ptr, slcV_slice, ↓mwD, mwU]

/-! ### a map of numbers that were met -/
structure MapB (w : World) (b : Nat) (xs : List Int) : Prop where
  ex : ∃ es ck, w.heap[b]? = some (.map es ck) ∧ es.toList.map (·.key) = ints xs ∧ ∀ e ∈ es.toList, e.val = .bool true
theorem find_met {n : Int} : ∀ {l : List MapEntry} {xs : List Int} {i : Nat}, l.map (·.key) = ints xs → (∀ e ∈ l, e.val = .bool true) →
    (xs.contains n = true → ∃ j, Instr.findNow (.int .i64) (.int .i64 n) l i = some (some (j, .bool true))) ∧ (xs.contains n = false → Instr.findNow (.int .i64) (.int .i64 n) l i = some none)
  | [], [], i, _, _ => ⟨fun h => by simp at h, fun _ => rfl⟩
  | e :: l, x :: xs, i, hk, hv => by
    simp only [List.map_cons, ints, List.cons.injEq] at hk
    have ih := find_met (n := n) (l := l) (xs := xs) (i := i + 1) hk.2 (fun e he => hv e (List.mem_cons_of_mem _ he))
    have hs : Instr.sameNow (.int .i64) (.int .i64 n) e.key = some (n == x) := by rw [hk.1]; rfl
    by_cases hx : n = x
    · subst hx
      refine ⟨fun _ => ⟨i, ?_⟩, fun h => by simp at h⟩
      simp [Instr.findNow, hs, hv e (List.mem_cons_self ..)]
    · have hb : (n == x) = false := by simpa using hx
      have hc : (x :: xs).contains n = xs.contains n := by simp only [List.contains_cons, hb, Bool.false_or]
      rw [hc]
      refine ⟨fun h => ?_, fun h => ?_⟩
      · obtain ⟨j, hj⟩ := ih.1 h
        exact ⟨j, by simp [Instr.findNow, hs, hb, hj]⟩
      · simp [Instr.findNow, hs, hb, ih.2 h]
  | [], _ :: _, _, hk, _ => by simp [ints] at hk
  | _ :: _, [], _, hk, _ => by simp [ints] at hk
theorem und_map : (Go.Proofs.Tryz.prog).underlying 202 = some (.map 3 4) := Tryz.underlying202
theorem look_met {w : World} {b : Nat} {xs : List Int} (h : MapB w b xs) (n : Int) : (Instr.lookup 202 (.map (some b)) (.int .i64 n) false).run Go.Proofs.Tryz.prog w = .ok (.bool (xs.contains n)) w := by
  obtain ⟨es, ck, ho, hk, hv⟩ := h.ex
  have hik : Go.MapKept.IsKey (.int .i64) (.int .i64 n) := rfl
  have hd : (Go.Proofs.Tryz.prog).underlying 3 = some (.int .i64) := Tryz.underlying3
  have hz : tzero Go.Proofs.Tryz.prog 4 = some (.bool false) := tzero_4
  have hf := find_met (n := n) (i := 0) hk hv
  cases hc : xs.contains n
  · simp [Instr.lookup, run_underlying und_map, Go.MapKept.run_getObj_map ho, Go.MapKept.run_checkKey hd hik, Go.MapKept.run_findKey hd (hf.2 hc), run_tzero hz, Result.andThen]
  · obtain ⟨j, hj⟩ := hf.1 hc
    simp [Instr.lookup, run_underlying und_map, Go.MapKept.run_getObj_map ho, Go.MapKept.run_checkKey hd hik, Go.MapKept.run_findKey hd hj, Result.andThen]
theorem upd_met {w : World} {b : Nat} {xs : List Int} (h : MapB w b xs) (n : Int) (hn : xs.contains n = false) : ∃ w', (Instr.mapUpdate 202 (.map (some b)) (.int .i64 n) (.bool true)).run Go.Proofs.Tryz.prog w = .ok () w' ∧ MapB w' b (xs ++ [n]) ∧ w'.os = w.os ∧ w'.tape = w.tape ∧ w'.output = w.output ∧ w'.heap.size = w.heap.size ∧ ∀ k, k ≠ b → w'.heap[k]? = w.heap[k]? := by
  obtain ⟨es, ck, ho, hk, hv⟩ := h.ex
  have hik : Go.MapKept.IsKey (.int .i64) (.int .i64 n) := rfl
  have hd : (Go.Proofs.Tryz.prog).underlying 3 = some (.int .i64) := Tryz.underlying3
  have hf := find_met (n := n) (i := 0) hk hv
  refine ⟨{ w with heap := w.heap.setIfInBounds b (.map (es.push { key := .int .i64 n, val := .bool true, born := ck }) (ck + 1)) }, ?_, ⟨_, _, (Go.MapKept.heap_set ho).1, ?_, ?_⟩, rfl, rfl, rfl, by simp, fun k hkb => (Go.MapKept.heap_set ho).2 k hkb⟩
  · simp [Instr.mapUpdate, run_underlying und_map, Go.MapKept.run_getObj_map ho, Go.MapKept.run_checkKey hd hik, Go.MapKept.run_findKey hd (hf.2 hn), Go.MapKept.run_setObj_map _ ho, Result.andThen]
  · simp [hk, ints]
  · intro e he
    simp only [Array.toList_push, List.mem_append, List.mem_singleton] at he
    rcases he with he | rfl
    · exact hv e he
    · rfl
theorem opB_lookup' {d : Option Tmp} {t ty : TypeId} {m k : Operand} {ok : Bool} {g : Option (Option Tmp × Bool)} {e : Env} {ds : List Deferred} {w : World} {KV : Value → List Deferred → World → Prop} {X : List PanicEntry → List Deferred → World → Prop} {tk : Tk2 KV X} {v : Value}
    (h : (Instr.lookup t (ev e m) (ev e k) ok).run Go.Proofs.Tryz.prog w = .ok v w) (hk : KV v ds w) : opB Go.Proofs.Tryz.prog ⟨d, .lookup t m k ok, ty, g⟩ e ds w KV X tk := by
  unfold opB
  simp only [opW, mexec, execOp, Sem.run_bind, h, Result.andThen_ok, Sem.run_pure, opR]
  exact hk
theorem opB_mapUpdate' {d : Option Tmp} {t ty : TypeId} {m k x : Operand} {g : Option (Option Tmp × Bool)} {e : Env} {ds : List Deferred} {w w' : World} {KV : Value → List Deferred → World → Prop} {X : List PanicEntry → List Deferred → World → Prop} {tk : Tk2 KV X}
    (h : (Instr.mapUpdate t (ev e m) (ev e k) (ev e x)).run Go.Proofs.Tryz.prog w = .ok () w') (hk : KV undef ds w') : opB Go.Proofs.Tryz.prog ⟨d, .mapUpdate t m k x, ty, g⟩ e ds w KV X tk := by
  unfold opB
  simp only [opW, mexec, execOp, Sem.run_bind, h, Result.andThen_ok, Sem.run_pure, opR]
  exact hk
theorem opB_makeMap' {d : Option Tmp} {t ty : TypeId} {g : Option (Option Tmp × Bool)} {e : Env} {ds : List Deferred} {w : World} {KV : Value → List Deferred → World → Prop} {X : List PanicEntry → List Deferred → World → Prop} {tk : Tk2 KV X}
    (hk : KV (.map (some w.heap.size)) ds (w.alloc (.map #[] 0))) : opB Go.Proofs.Tryz.prog ⟨d, .makeMap t none, ty, g⟩ e ds w KV X tk := by
  have h : (Instr.makeMap t none).run Go.Proofs.Tryz.prog w = .ok (.map (some w.heap.size)) (w.alloc (.map #[] 0)) := rfl
  unfold opB
  simp only [opW, mexec, execOp, Option.map_none, Sem.run_bind, h, Result.andThen_ok, Sem.run_pure, opR]
  exact hk
theorem dis_app {n : Int} : ∀ {xs : List Int}, dis (xs ++ [n]) = (dis xs && !xs.contains n)
  | [] => by simp [dis]
  | a :: l => by
    simp only [List.cons_append, dis, dis_app (xs := l)]
    by_cases h : n = a
    · subst h
      simp [List.contains_eq_mem]
    · have h' : ¬ a = n := fun e => h e.symm
      simp [List.contains_eq_mem, h, h', Bool.and_assoc]
def listR (xs : List Int) : Bool := xs.all inT && dis xs && (decide (1 ≤ xs.length) && decide (xs.length ≤ 20))
theorem listRight_c (v : Value) (xs : List Int) (w : World) (h : SlI w v xs) : Rets Go.Proofs.Tryz.prog 228 #[v] w fun r w' => r = .bool (listR xs) ∧ Ext w w' := by
  obtain ⟨q, cap, rfl, hc1, hc2⟩ := h.shape
  refine en228 ?_
  simp -dsimp -implicitDefEqProofs only [m228, sF228, Nat.reduceEqDiff, ↓reduceIte, Nat.reduceAdd, Nat.reduceMul, Value.cells, Value.oneCell', eq_self, ne_eq, Int.reduceToNat, Int.reduceEq, Int.reduceLT, Int.reduceLE, Int.reduceNeg, if_true, if_false, reduceCtorEq, Nat.reduceSub, storeV_ptr, slcV_slice, ↓mwD, mwU]
  refine opB_makeMap' ?_
  simp -dsimp -implicitDefEqProofs only [m228, sF228, Nat.reduceEqDiff, ↓reduceIte, Nat.reduceAdd, Nat.reduceMul, Value.cells, Value.oneCell', eq_self, ne_eq, Int.reduceToNat, Int.reduceEq, Int.reduceLT, Int.reduceLE, Int.reduceNeg, if_true, if_false, reduceCtorEq, Nat.reduceSub, storeV_ptr, slcV_slice, ↓mwD, mwU]
  have hsz : (w.alloc (.map #[] 0)).heap.size = w.heap.size + 1 := World.size_alloc _ _
  refine mwpB_loop (fun e ds w' => ∃ k : Nat, k ≤ xs.length ∧ e 9 = .int .i64 k ∧ e 8 = .int .i64 xs.length ∧ e 7 = .slice q xs.length cap ∧ e 0 = .slice q xs.length cap ∧ e 3 = .map (some w.heap.size) ∧ ds = [] ∧ Ext w w' ∧ MapB w' w.heap.size (xs.take k) ∧ (xs.take k).all inT = true ∧ dis (xs.take k) = true)
    (fun e _ => xs.length - (intOf (e 9)).toNat) ?_ ?_
  · simp -dsimp -implicitDefEqProofs only [m228, sF228, Nat.reduceEqDiff, ↓reduceIte, Nat.reduceAdd, Nat.reduceMul, Value.cells, Value.oneCell', eq_self, ne_eq, Int.reduceToNat, Int.reduceEq, Int.reduceLT, Int.reduceLE, Int.reduceNeg, if_true, if_false, reduceCtorEq, Nat.reduceSub, storeV_ptr, slcV_slice, ↓mwD, mwU]
    exact ⟨0, by omega, rfl, Ext.alloc _ _, ⟨#[], 0, heap_alloc_new w _, rfl, fun e he => by simp at he⟩, rfl, rfl⟩
  · rintro e ds w' ⟨k, hk, h9, h8, h7, h0, h3, rfl, hx, hm, hall, hdis⟩
    simp -dsimp -implicitDefEqProofs only [h9, h8, h7, h0, h3, m228, sF228, Nat.reduceEqDiff, ↓reduceIte, Nat.reduceAdd, Nat.reduceMul, Value.cells, Value.oneCell', eq_self, ne_eq, Int.reduceToNat, Int.reduceEq, Int.reduceLT, Int.reduceLE, Int.reduceNeg, if_true, if_false, reduceCtorEq, Nat.reduceSub, storeV_ptr, slcV_slice, ↓mwD, mwU]
    refine iteW_dec (fun hlt => ?_) (fun hge => ?_)
    · have hlt' : k < xs.length := by omega
      obtain ⟨b, o, cap', hv, _, _, hcell⟩ := h.at (by intro h0; rw [h0] at hlt'; simp at hlt')
      cases hv
      have hck := hx.cell (hcell k hlt')
      have hb1 : (0 : Int) ≤ k ∧ (k : Int) < xs.length := by omega
      have hw := w64_succ hlt' (Nat.le_trans hc1 hc2)
      have htk := List.take_succ_eq_append_getElem hlt'
      have hno : (xs.take k).contains xs[k] = true ∨ inT xs[k] = false → listR xs = false := fun hh => by
        have e1 : xs.take (k + 1) ++ xs.drop (k + 1) = xs := List.take_append_drop _ _
        rcases hh with hh | hh
        · have : dis (xs.take (k + 1)) = false := by rw [htk, dis_app, hh]; simp
          have h2 : dis xs = false := by
            cases hd : dis xs with
            | false => rfl
            | true =>
              have : ∀ (l m : List Int), dis (l ++ m) = true → dis l = true := fun l => by
                induction l with
                | nil => intro m _; rfl
                | cons a l ih =>
                  intro m hl
                  simp only [List.cons_append, dis, Bool.and_eq_true, Bool.not_eq_true'] at hl ⊢
                  refine ⟨?_, ih m hl.2⟩
                  have := hl.1
                  simp only [List.contains_eq_mem, decide_eq_false_iff_not, List.mem_append, not_or] at this ⊢
                  exact this.1
              have := this (xs.take (k + 1)) (xs.drop (k + 1)) (by rw [e1]; exact hd)
              simp_all
          simp [listR, h2]
        · have : xs.all inT = false := by
            cases ha : xs.all inT with
            | false => rfl
            | true => have := List.all_eq_true.1 ha xs[k] (List.getElem_mem hlt'); rw [this] at hh; cases hh
          simp [listR, this]
      simp -dsimp -implicitDefEqProofs only [h9, h8, h7, h0, h3, hb1, and_self, hck, m228, sF228, Nat.reduceEqDiff, ↓reduceIte, Nat.reduceAdd, Nat.reduceMul, Value.cells, Value.oneCell', eq_self, ne_eq, Int.reduceToNat, Int.reduceEq, Int.reduceLT, Int.reduceLE, Int.reduceNeg, if_true, if_false, reduceCtorEq, Nat.reduceSub, storeV_ptr, slcV_slice, ↓mwD, mwU]
      refine opB_lookup' (v := .bool ((xs.take k).contains xs[k])) ?_ ?_
      · simp -dsimp -implicitDefEqProofs only [h3, m228, sF228, Nat.reduceEqDiff, ↓reduceIte, Nat.reduceAdd, Nat.reduceMul, Value.cells, Value.oneCell', eq_self, ne_eq, Int.reduceToNat, Int.reduceEq, Int.reduceLT, Int.reduceLE, Int.reduceNeg, if_true, if_false, reduceCtorEq, Nat.reduceSub, storeV_ptr, slcV_slice, ↓mwD, mwU]
        exact look_met hm _
      · cases hc : (xs.take k).contains xs[k]
        · by_cases h1 : xs[k] < 0
          · simp -dsimp -implicitDefEqProofs only [h9, h8, h7, h0, h3, h1, m228, sF228, Nat.reduceEqDiff, ↓reduceIte, Nat.reduceAdd, Nat.reduceMul, Value.cells, Value.oneCell', eq_self, ne_eq, Int.reduceToNat, Int.reduceEq, Int.reduceLT, Int.reduceLE, Int.reduceNeg, if_true, if_false, reduceCtorEq, Nat.reduceSub, storeV_ptr, slcV_slice, ↓mwD, mwU]
            exact ⟨by rw [hno (.inr (by simp [inT]; omega))], hx⟩
          · by_cases h2 : 1000000000 < xs[k]
            · simp -dsimp -implicitDefEqProofs only [h9, h8, h7, h0, h3, h1, h2, m228, sF228, Nat.reduceEqDiff, ↓reduceIte, Nat.reduceAdd, Nat.reduceMul, Value.cells, Value.oneCell', eq_self, ne_eq, Int.reduceToNat, Int.reduceEq, Int.reduceLT, Int.reduceLE, Int.reduceNeg, if_true, if_false, reduceCtorEq, Nat.reduceSub, storeV_ptr, slcV_slice, ↓mwD, mwU]
              exact ⟨by rw [hno (.inr (by simp [inT]; omega))], hx⟩
            · simp -dsimp -implicitDefEqProofs only [h9, h8, h7, h0, h3, h1, h2, m228, sF228, Nat.reduceEqDiff, ↓reduceIte, Nat.reduceAdd, Nat.reduceMul, Value.cells, Value.oneCell', eq_self, ne_eq, Int.reduceToNat, Int.reduceEq, Int.reduceLT, Int.reduceLE, Int.reduceNeg, if_true, if_false, reduceCtorEq, Nat.reduceSub, storeV_ptr, slcV_slice, ↓mwD, mwU]
              obtain ⟨w2, u1, u2, u3, u4, u5, u6, u7⟩ := upd_met hm xs[k] hc
              refine opB_mapUpdate' (w' := w2) ?_ ?_
              · simp -dsimp -implicitDefEqProofs only [h3, m228, sF228, Nat.reduceEqDiff, ↓reduceIte, Nat.reduceAdd, Nat.reduceMul, Value.cells, Value.oneCell', eq_self, ne_eq, Int.reduceToNat, Int.reduceEq, Int.reduceLT, Int.reduceLE, Int.reduceNeg, if_true, if_false, reduceCtorEq, Nat.reduceSub, storeV_ptr, slcV_slice, ↓mwD, mwU]
                exact u1
              · simp -dsimp -implicitDefEqProofs only [h9, h8, h7, h0, h3, hw, m228, sF228, Nat.reduceEqDiff, ↓reduceIte, Nat.reduceAdd, Nat.reduceMul, Value.cells, Value.oneCell', eq_self, ne_eq, Int.reduceToNat, Int.reduceEq, Int.reduceLT, Int.reduceLE, Int.reduceNeg, if_true, if_false, reduceCtorEq, Nat.reduceSub, storeV_ptr, slcV_slice, ↓mwD, mwU]
                refine ⟨⟨k + 1, by omega, rfl, ?_, ?_, ?_, ?_⟩, ?_⟩
                · exact Below.trans hx ⟨u3, u4, u5, by omega, fun k hk => u7 k (by omega)⟩
                · rw [htk]; exact u2
                · rw [htk, List.all_append, hall]; simp [inT]; omega
                · rw [htk, dis_app, hdis, hc]; rfl
                · simp only [intOf]; omega
        · simp -dsimp -implicitDefEqProofs only [h9, h8, h7, h0, h3, m228, sF228, Nat.reduceEqDiff, ↓reduceIte, Nat.reduceAdd, Nat.reduceMul, Value.cells, Value.oneCell', eq_self, ne_eq, Int.reduceToNat, Int.reduceEq, Int.reduceLT, Int.reduceLE, Int.reduceNeg, if_true, if_false, reduceCtorEq, Nat.reduceSub, storeV_ptr, slcV_slice, ↓mwD, mwU]
          exact ⟨by rw [hno (.inl hc)], hx⟩
    · have hkl : k = xs.length := by omega
      subst hkl
      rw [List.take_length] at hall hdis
      by_cases l1 : 1 ≤ xs.length
      · have l1' : (1 : Int) ≤ (xs.length : Int) := by omega
        simp -dsimp -implicitDefEqProofs only [h9, h8, h7, h0, h3, l1', m228, sF228, Nat.reduceEqDiff, ↓reduceIte, Nat.reduceAdd, Nat.reduceMul, Value.cells, Value.oneCell', eq_self, ne_eq, Int.reduceToNat, Int.reduceEq, Int.reduceLT, Int.reduceLE, Int.reduceNeg, if_true, if_false, reduceCtorEq, Nat.reduceSub, storeV_ptr, slcV_slice, ↓mwD, mwU]
        exact ⟨by simp [listR, hall, hdis, l1]; omega, hx⟩
      · have l1' : ¬ (1 : Int) ≤ (xs.length : Int) := by omega
        simp -dsimp -implicitDefEqProofs only [h9, h8, h7, h0, h3, l1', m228, sF228, Nat.reduceEqDiff, ↓reduceIte, Nat.reduceAdd, Nat.reduceMul, Value.cells, Value.oneCell', eq_self, ne_eq, Int.reduceToNat, Int.reduceEq, Int.reduceLT, Int.reduceLE, Int.reduceNeg, if_true, if_false, reduceCtorEq, Nat.reduceSub, storeV_ptr, slcV_slice, ↓mwD, mwU]
        exact ⟨by simp [listR, l1], hx⟩
end Go.Proofs.YthcdnjbhhaonhaaGreatDoor
/- Layer 02: package format's ValidChoice, Has, Numbers. -/

namespace Go.Proofs.YthcdnjbhhaonhaaGreatDoor
open Go.RowKit
set_option linter.unusedSimpArgs false

/-- A choice whose set of numbers is a list, or a range with sound ends. -/
def Fit (c : Ch) : Prop := ((c.k = 1 ∧ c.L.length = 1) ∨ c.k = 2) ∨ (Rg c ∧ (c.k = 3 ∧ c.L.length = 2 ∨ c.k = 4 ∧ c.L.length = 3))
theorem valid_fit {c : Ch} (h : c.valid = true) : Fit c := by
  cases hl : c.lsd
  · exact .inr (valid_rg h hl)
  · refine .inl ?_
    have hf : c.form = true := by unfold Ch.valid at h; simp only [Bool.and_eq_true] at h; exact h.1.2
    unfold Ch.lsd at hl
    unfold Ch.form at hf
    split at hf
    · rename_i hk; exact .inl ⟨hk, by simpa using hf⟩
    · rename_i hk; refine .inr ?_; simpa [hk] using hl
theorem inv_list (s : Value) : invV Go.Proofs.Tryz.prog "continuo/format.has" (.iface 110 s) = some (227, s) := by
  rw [invV_iface, show methB Go.Proofs.Tryz.prog 110 "continuo/format.has" = some 227 by kernel_rfl, Option.map_some]
theorem inv_steps (s : Value) : invV Go.Proofs.Tryz.prog "continuo/format.has" (.iface 112 s) = some (108, s) := by
  rw [invV_iface, show methB Go.Proofs.Tryz.prog 112 "continuo/format.has" = some 108 by kernel_rfl, Option.map_some]
theorem invR_list (s : Value) : invV Go.Proofs.Tryz.prog "continuo/format.right" (.iface 110 s) = some (228, s) := by
  rw [invV_iface, show methB Go.Proofs.Tryz.prog 110 "continuo/format.right" = some 228 by kernel_rfl, Option.map_some]
theorem invR_steps (s : Value) : invV Go.Proofs.Tryz.prog "continuo/format.right" (.iface 112 s) = some (232, s) := by
  rw [invV_iface, show methB Go.Proofs.Tryz.prog 112 "continuo/format.right" = some 232 by kernel_rfl, Option.map_some]
theorem invF_list (s : Value) : invV Go.Proofs.Tryz.prog "continuo/format.first" (.iface 110 s) = some (226, s) := by
  rw [invV_iface, show methB Go.Proofs.Tryz.prog 110 "continuo/format.first" = some 226 by kernel_rfl, Option.map_some]
theorem invF_steps (s : Value) : invV Go.Proofs.Tryz.prog "continuo/format.first" (.iface 112 s) = some (106, s) := by
  rw [invV_iface, show methB Go.Proofs.Tryz.prog 112 "continuo/format.first" = some 106 by kernel_rfl, Option.map_some]
theorem has_list {c : Ch} (h : c.lsd = true) (n : Int) : c.has n = c.L.contains n := by unfold Ch.has; rw [if_pos h]
theorem lsd_of {c : Ch} (h : (c.k = 1 ∧ c.L.length = 1) ∨ c.k = 2) : c.lsd = true := by unfold Ch.lsd; rcases h with h | h <;> simp [h]
theorem nl_of {c : Ch} (h : c.lsd = false) : ¬ ((c.k = 1 ∧ c.L.length = 1) ∨ c.k = 2) := fun hh => by rw [lsd_of hh] at h; cases h
/-- A set of numbers is asked for a number. -/
theorem setHas_c {c : Ch} {s : Value} {w : World} (hf : Fit c) (hs : SlI w s c.L) (n : Int) : ∃ f v, invV Go.Proofs.Tryz.prog "continuo/format.has" (setV c s) = some (f, v) ∧ okF Go.Proofs.Tryz.prog f = true ∧ Rets Go.Proofs.Tryz.prog f #[v, .int .i64 n] w fun r w' => r = .bool (c.has n) ∧ Ext w w' := by
  rcases hf with hf | ⟨hr, hk⟩
  · refine ⟨_, _, by rw [show setV c s = .iface 110 s by unfold setV; rw [if_pos hf]]; exact inv_list s, okF_227, (listHas_c s c.L n w hs).mono ?_⟩
    rintro r w' ⟨rfl, rfl⟩
    exact ⟨by rw [has_list (lsd_of hf)], Ext.refl _⟩
  · have hn := nl_of hr.nl
    have h0 := hr.l0
    have h2 := hr.l2
    have h3 := hr.s0
    rcases hk with ⟨hk, hl⟩ | ⟨hk, hl⟩
    · refine ⟨_, _, by rw [show setV c s = .iface 112 (spV c.lo c.hi 1 true true) by unfold setV; rw [if_neg hn, if_pos ⟨hk, hl⟩]]; exact inv_steps _, okF_108, (stepsHas_c c.lo c.hi 1 n true true w h0 h2 (by omega)).mono ?_⟩
      rintro r w' ⟨rfl, hx⟩
      refine ⟨?_, hx⟩
      unfold Ch.has stB
      rw [hr.nl, show c.stp = 1 by unfold Ch.stp; rw [if_neg (by omega)]]
      simp
    · have e : c.L.getD 2 0 = c.stp := by unfold Ch.stp; rw [if_pos hk]
      refine ⟨_, _, by rw [show setV c s = .iface 112 (spV c.lo c.hi (c.L.getD 2 0) false true) by unfold setV; rw [if_neg hn, if_neg (by omega), if_pos ⟨hk, hl⟩]]; exact inv_steps _, okF_108, (stepsHas_c c.lo c.hi _ n false true w h0 h2 (by omega)).mono ?_⟩
      rintro r w' ⟨rfl, hx⟩
      refine ⟨?_, hx⟩
      unfold Ch.has stB
      rw [hr.nl, e]
      simp
/-- Is the form of a set right? -/
def rightB (c : Ch) : Bool := if (c.k = 1 ∧ c.L.length = 1) ∨ c.k = 2 then listR c.L else if c.k = 3 ∧ c.L.length = 2 then stR c.lo c.hi 1 true else if c.k = 4 ∧ c.L.length = 3 then stR c.lo c.hi (c.L.getD 2 0) true else false
theorem setRight_c {c : Ch} {s : Value} {w : World} (hs : SlI w s c.L) : ∃ f v, invV Go.Proofs.Tryz.prog "continuo/format.right" (setV c s) = some (f, v) ∧ okF Go.Proofs.Tryz.prog f = true ∧ Rets Go.Proofs.Tryz.prog f #[v] w fun r w' => r = .bool (rightB c) ∧ Ext w w' := by
  unfold setV rightB
  split
  · exact ⟨_, _, invR_list s, okF_228, listRight_c s c.L w hs⟩
  · split
    · exact ⟨_, _, invR_steps _, okF_232, stepsRight_c _ _ _ _ _ w⟩
    · split
      · exact ⟨_, _, invR_steps _, okF_232, stepsRight_c _ _ _ _ _ w⟩
      · exact ⟨_, _, invR_steps _, okF_232, stepsRight_c 0 0 0 false false w⟩
theorem inT_iff {n : Int} : inT n = true ↔ 0 ≤ n ∧ n ≤ 1000000000 := by simp [inT]
theorem right_fit {c : Ch} (h : rightB c = true) : Fit c := by
  unfold rightB at h
  split at h
  · rename_i hk; exact .inl hk
  · rename_i hn
    have hl : ∀ {x}, c.k = x → x ≠ 1 → x ≠ 2 → c.lsd = false := fun {x} e h1 h2 => by unfold Ch.lsd; simp [e, h1, h2]
    split at h
    · rename_i hk
      simp only [stR, Bool.true_and, Bool.and_eq_true, decide_eq_true_eq] at h
      have e : c.stp = 1 := by unfold Ch.stp; rw [if_neg (by omega)]
      exact .inr ⟨⟨hl hk.1 (by decide) (by decide), h.1, h.2.1, h.2.2.1, by omega, by omega⟩, .inl hk⟩
    · split at h
      · rename_i hk
        simp only [stR, Bool.true_and, Bool.and_eq_true, decide_eq_true_eq] at h
        have e : c.L.getD 2 0 = c.stp := by unfold Ch.stp; rw [if_pos hk.1]
        exact .inr ⟨⟨hl hk.1 (by decide) (by decide), h.1, h.2.1, h.2.2.1, by omega, by omega⟩, .inr hk⟩
      · cases h
theorem valid_right (c : Ch) : c.valid = (rightB c && c.has c.d) := by
  unfold Ch.valid
  congr 1
  obtain ⟨k, d, L⟩ := c
  unfold Ch.form rightB
  simp only
  by_cases k1 : k = 1
  · subst k1
    rw [if_pos rfl]
    by_cases l1 : L.length = 1
    · rw [if_pos (.inl ⟨rfl, l1⟩)]
      obtain ⟨x, rfl⟩ := List.length_eq_one_iff.1 l1
      simp [listR, dis]
    · rw [if_neg (by simp [l1]), if_neg (by simp), if_neg (by simp)]
      simp [l1]
  · rw [if_neg k1]
    by_cases k2 : k = 2
    · subst k2
      rw [if_pos rfl, if_pos (.inr rfl)]
      unfold listR
      cases L.all inT <;> cases dis L <;> simp
    · have e1 : ¬ ((k = 1 ∧ L.length = 1) ∨ k = 2) := by simp [k1, k2]
      rw [if_neg k2, if_neg e1]
      by_cases k3 : k = 3
      · by_cases l2 : L.length = 2
        · rw [if_pos k3, if_pos (show k = 3 ∧ L.length = 2 from ⟨k3, l2⟩)]
          match L, l2 with
          | [x, y], _ =>
            rw [Bool.eq_iff_iff]
            simp [stR, Ch.lo, Ch.hi, inT_iff]
            omega
        · rw [if_pos k3, if_neg (show ¬ (k = 3 ∧ L.length = 2) from fun h => l2 h.2), if_neg (show ¬ (k = 4 ∧ L.length = 3) from fun h => by omega)]
          simp [l2]
      · rw [if_neg k3, if_neg (show ¬ (k = 3 ∧ L.length = 2) from fun h => k3 h.1)]
        by_cases k4 : k = 4
        · by_cases l3 : L.length = 3
          · rw [if_pos k4, if_pos (show k = 4 ∧ L.length = 3 from ⟨k4, l3⟩)]
            match L, l3 with
            | [x, y, z], _ =>
              rw [Bool.eq_iff_iff]
              simp [stR, Ch.lo, Ch.hi, Ch.stp, inT_iff, k4]
              omega
          · rw [if_pos k4, if_neg (show ¬ (k = 4 ∧ L.length = 3) from fun h => l3 h.2)]
            simp [l3]
        · rw [if_neg k4, if_neg (show ¬ (k = 4 ∧ L.length = 3) from fun h => k4 h.1)]
          simp
theorem ValidChoice_c (c : Ch) (s : Value) (w : World) (hs : SlI w s c.L) : Rets Go.Proofs.Tryz.prog 20 #[chV c s] w fun r w' => r = .bool c.valid ∧ Ext w w' := by
  have hx : Ext w (w.alloc (.cells #[.int .i64 c.k, .int .i64 c.d, s] 35)) := Ext.alloc _ _
  refine en20 ?_
  obtain ⟨p, cap, rfl, _, _⟩ := hs.shape
  simp -dsimp -implicitDefEqProofs only [chV, m20, sF20, Nat.reduceEqDiff, ↓reduceIte, Nat.reduceAdd, Nat.reduceMul, Value.cells, Value.oneCell', eq_self, ne_eq, Int.reduceToNat, Int.reduceEq, Int.reduceLT, Int.reduceLE, Int.reduceNeg, if_true, if_false, reduceCtorEq, Nat.reduceSub, storeV_ptr, slcV_slice, ↓mwD, mwU]
  refine (numbers_c c _ _ (hs.ext hx)).use ?_
  rintro r w1 ⟨rfl, h1⟩
  obtain ⟨f, v, i1, i2, i3⟩ := setRight_c (w := w1) ((hs.ext hx).ext h1)
  simp -dsimp -implicitDefEqProofs only [chV, i1, i2, m20, sF20, Nat.reduceEqDiff, ↓reduceIte, Nat.reduceAdd, Nat.reduceMul, Value.cells, Value.oneCell', eq_self, ne_eq, Int.reduceToNat, Int.reduceEq, Int.reduceLT, Int.reduceLE, Int.reduceNeg, if_true, if_false, reduceCtorEq, Nat.reduceSub, storeV_ptr, slcV_slice, ↓mwD, mwU]
  refine i3.use ?_
  rintro r w2 ⟨rfl, h2⟩
  have hx2 := (hx.trans h1).trans h2
  rw [valid_right]
  cases hr : rightB c
  · simp -dsimp -implicitDefEqProofs only [m20, sF20, Nat.reduceEqDiff, ↓reduceIte, Nat.reduceAdd, Nat.reduceMul, Value.cells, Value.oneCell', eq_self, ne_eq, Int.reduceToNat, Int.reduceEq, Int.reduceLT, Int.reduceLE, Int.reduceNeg, if_true, if_false, reduceCtorEq, Nat.reduceSub, storeV_ptr, slcV_slice, ↓mwD, mwU]
    exact ⟨rfl, hx2⟩
  · have bc := box_cell (h1.trans h2) (j := 1) rfl
    obtain ⟨g, u, j1, j2, j3⟩ := setHas_c (w := w2) (right_fit hr) (hs.ext hx2) c.d
    simp -dsimp -implicitDefEqProofs only [j1, j2, bc, m20, sF20, Nat.reduceEqDiff, ↓reduceIte, Nat.reduceAdd, Nat.reduceMul, Value.cells, Value.oneCell', eq_self, ne_eq, Int.reduceToNat, Int.reduceEq, Int.reduceLT, Int.reduceLE, Int.reduceNeg, if_true, if_false, reduceCtorEq, Nat.reduceSub, storeV_ptr, slcV_slice, ↓mwD, mwU]
    refine j3.use ?_
    rintro r w3 ⟨rfl, h3⟩
    simp -dsimp -implicitDefEqProofs only [m20, sF20, Nat.reduceEqDiff, ↓reduceIte, Nat.reduceAdd, Nat.reduceMul, Value.cells, Value.oneCell', eq_self, ne_eq, Int.reduceToNat, Int.reduceEq, Int.reduceLT, Int.reduceLE, Int.reduceNeg, if_true, if_false, reduceCtorEq, Nat.reduceSub, storeV_ptr, slcV_slice, ↓mwD, mwU]
    exact ⟨rfl, hx2.trans h3⟩
end Go.Proofs.YthcdnjbhhaonhaaGreatDoor
/- Layer 02: package format's Has, Numbers. -/

namespace Go.Proofs.YthcdnjbhhaonhaaGreatDoor
open Go.RowKit
set_option linter.unusedSimpArgs false

theorem Has_c (c : Ch) (s : Value) (n : Int) (w : World) (hs : SlI w s c.L) : Rets Go.Proofs.Tryz.prog 16 #[chV c s, .int .i64 n] w fun r w' => r = (if c.valid then .tuple #[.bool (c.has n), .int .i64 0] else .tuple #[.bool false, .int .i64 1]) ∧ Ext w w' := by
  have hx : Ext w (w.alloc (.cells #[.int .i64 c.k, .int .i64 c.d, s] 35)) := Ext.alloc _ _
  refine en16 ?_
  obtain ⟨p, cap, rfl, _, _⟩ := hs.shape
  simp -dsimp -implicitDefEqProofs only [chV, m16, sF16, Nat.reduceEqDiff, ↓reduceIte, Nat.reduceAdd, Nat.reduceMul, Value.cells, Value.oneCell', eq_self, ne_eq, Int.reduceToNat, Int.reduceEq, Int.reduceLT, Int.reduceLE, Int.reduceNeg, if_true, if_false, reduceCtorEq, Nat.reduceSub, storeV_ptr, slcV_slice, ↓mwD, mwU]
  refine (ValidChoice_c c _ _ (hs.ext hx)).use ?_
  rintro r w1 ⟨rfl, h1⟩
  cases hv : c.valid
  · simp -dsimp -implicitDefEqProofs only [m16, sF16, Nat.reduceEqDiff, ↓reduceIte, Nat.reduceAdd, Nat.reduceMul, Value.cells, Value.oneCell', eq_self, ne_eq, Int.reduceToNat, Int.reduceEq, Int.reduceLT, Int.reduceLE, Int.reduceNeg, if_true, if_false, reduceCtorEq, Nat.reduceSub, storeV_ptr, slcV_slice, ↓mwD, mwU]
    exact hx.trans h1
  · have b0 := box_cell h1 (j := 0) rfl
    have b1 := box_cell h1 (j := 1) rfl
    have b2 := box_cell h1 (j := 2) rfl
    simp -dsimp -implicitDefEqProofs only [b0, b1, b2, m16, sF16, Nat.reduceEqDiff, ↓reduceIte, Nat.reduceAdd, Nat.reduceMul, Value.cells, Value.oneCell', eq_self, ne_eq, Int.reduceToNat, Int.reduceEq, Int.reduceLT, Int.reduceLE, Int.reduceNeg, if_true, if_false, reduceCtorEq, Nat.reduceSub, storeV_ptr, slcV_slice, ↓mwD, mwU]
    refine (numbers_c c _ _ ((hs.ext hx).ext h1)).use ?_
    rintro r w2 ⟨rfl, h2⟩
    obtain ⟨g, u, j1, j2, j3⟩ := setHas_c (w := w2) (valid_fit hv) (hs.ext ((hx.trans h1).trans h2)) n
    simp -dsimp -implicitDefEqProofs only [j1, j2, m16, sF16, Nat.reduceEqDiff, ↓reduceIte, Nat.reduceAdd, Nat.reduceMul, Value.cells, Value.oneCell', eq_self, ne_eq, Int.reduceToNat, Int.reduceEq, Int.reduceLT, Int.reduceLE, Int.reduceNeg, if_true, if_false, reduceCtorEq, Nat.reduceSub, storeV_ptr, slcV_slice, ↓mwD, mwU]
    refine j3.use ?_
    rintro r w3 ⟨rfl, h3⟩
    simp -dsimp -implicitDefEqProofs only [m16, sF16, Nat.reduceEqDiff, ↓reduceIte, Nat.reduceAdd, Nat.reduceMul, Value.cells, Value.oneCell', eq_self, ne_eq, Int.reduceToNat, Int.reduceEq, Int.reduceLT, Int.reduceLE, Int.reduceNeg, if_true, if_false, reduceCtorEq, Nat.reduceSub, storeV_ptr, slcV_slice, ↓mwD, mwU]
    exact ((hx.trans h1).trans h2).trans h3

/-! ### the first numbers -/
theorem bs_one (x : Int) : buildS Go.Proofs.Tryz.prog 33 1 [(0, .int .i64 x)] = some (3, #[.int .i64 x]) := by kernel_rfl
/-- append(out, y) onto a slice of the call's own. -/
theorem append_int {w : World} {base : Nat} {v : Value} {n : Nat} {xs : List Int} (hown : w.ownsRow base 3 1 v n (ints xs)) (y : Int) (hn : n ≤ 1099511627776) (hb : base ≤ w.heap.size) :
    ∃ v' w', (Builtin.append_ #[33, 33] 33 #[v, .slice (some ⟨w.heap.size, 0, none⟩) 1 1]).run Go.Proofs.Tryz.prog (w.alloc (.cells #[.int .i64 y] 3)) = .ok v' w' ∧ w'.ownsRow base 3 1 v' (n + 1) (ints (xs ++ [y])) ∧ (w.alloc (.cells #[.int .i64 y] 3)).grownBy w' v.ownBlock := by
  obtain ⟨v', w', ha, hown', hg⟩ := append_own (P := Go.Proofs.Tryz.prog) (w := w.alloc (.cells #[.int .i64 y] 3)) (t := 33) (ty := 33) (z := .int .i64 0) (ats := [33, 33]) rfl telem_33 tok_3 tzero_3 (by rw [tsz_3]; rfl) (by rw [tsz_3]; omega)
    (by rw [tsz_3]; exact Own.ext hown (Ext.alloc _ _)) (a := ⟨w.heap.size, 0, none⟩) (m := 1) (c := 1) (news := [.int .i64 y]) (by rw [tsz_3]; rfl)
    (fun j u hj => by rw [Addr.add_lit, World.cell?_alloc_new]; simpa using hj) (fun u hu => by simp at hu; subst hu; rfl) (by unfold maxLen; omega) (by rw [tby_3]; omega) (by simp; omega)
  exact ⟨v', w', ha, by rw [tsz_3] at hown'; simpa [ints] using hown', hg⟩
theorem own_shape {w : World} {base n : Nat} {v : Value} {xs : List Int} (h : w.ownsRow base 3 1 v n (ints xs)) : n = xs.length ∧ ∃ q cap, v = .slice q xs.length cap := by
  have hn : (ints xs).length = n * 1 := h.1
  rw [ints_length] at hn
  have hs : SlI w v xs := Own.sl h
  obtain ⟨q, cap, h1, _⟩ := hs.shape
  exact ⟨by omega, q, cap, h1⟩
/-- Behind an append: nothing old has turned, the row is owned. -/
theorem append_ext {w0 w w' : World} {v : Value} {n : Nat} {e : TypeId} {cs : List Value} {y : Array Value} {t : TypeId} (hx : Ext w0 w) (hown : w.ownsRow w0.heap.size e 1 v n cs) (hg : (w.alloc (.cells y t)).grownBy w' v.ownBlock) : Ext w0 w' :=
  (hx.trans (Ext.alloc _ _)).grown hg (fun k hk => Own.ge hown k hk)
theorem stepsFirst_c (a b c : Int) (r ok : Bool) (m : Nat) (w : World) (ha : 0 ≤ a) (hb : b ≤ 1000000000) (hc : 1 ≤ c) (hc2 : c ≤ 1000000) (ha2 : a ≤ 1000000000) (hm : m ≤ 1000) :
    Rets Go.Proofs.Tryz.prog 106 #[spV a b c r ok, .int .i64 m] w fun v w' => Ext w w' ∧ w'.ownsRow w.heap.size 3 1 v (rng b c m a).length (ints (rng b c m a)) := by
  have hx0 : Ext w (w.alloc (.cells #[.int .i64 a, .int .i64 b, .int .i64 c, .bool r, .bool ok] 112)) := Ext.alloc _ _
  have hsz : (w.alloc (.cells #[.int .i64 a, .int .i64 b, .int .i64 c, .bool r, .bool ok] 112)).heap.size = w.heap.size + 1 := World.size_alloc _ _
  refine en106 ?_
  simp -dsimp -implicitDefEqProofs only [spV, m106, sF106, Nat.reduceEqDiff, ↓reduceIte, Nat.reduceAdd, Nat.reduceMul, Value.cells, Value.oneCell', eq_self, ne_eq, Int.reduceToNat, Int.reduceEq, Int.reduceLT, Int.reduceLE, Int.reduceNeg, if_true, if_false, reduceCtorEq, Nat.reduceSub, storeV_ptr, slcV_slice, ↓mwD, mwU]
  generalize hw1 : w.alloc (.cells #[.int .i64 a, .int .i64 b, .int .i64 c, .bool r, .bool ok] 112) = w1 at *
  have hbox : ∀ {w' : World}, Ext w1 w' → w'.cell? ⟨w.heap.size, 1, none⟩ = some (.int .i64 b) ∧ w'.cell? ⟨w.heap.size, 2, none⟩ = some (.int .i64 c) := fun hx => by
    rw [← hw1] at hx
    exact ⟨box_cell (v := .int .i64 b) hx (j := 1) rfl, box_cell (v := .int .i64 c) hx (j := 2) rfl⟩
  have fin : ∀ {w' : World} {v : Value} {xs : List Int}, rng b c m a = xs → Ext w1 w' → w'.ownsRow w1.heap.size 3 1 v xs.length (ints xs) → Ext w w' ∧ w'.ownsRow w.heap.size 3 1 v (rng b c m a).length (ints (rng b c m a)) := fun he hx hown => by
    rw [he]
    exact ⟨hx0.trans hx, Own.mono hown (by omega)⟩
  refine mwpB_loop (fun e ds w' => ∃ (n : Int) (xs : List Int), e 6 = .int .i64 n ∧ e 1 = .int .i64 m ∧ e 2 = .pointer (some ⟨w.heap.size, 0, none⟩) ∧ ds = [] ∧ a ≤ n ∧ n ≤ 1000000000 + 1000000 ∧ xs.length ≤ m ∧ rng b c m a = xs ++ rng b c (m - xs.length) n ∧
      Ext w1 w' ∧ w'.ownsRow w1.heap.size 3 1 (e 5) xs.length (ints xs)) (fun e _ => (b + 1 - intOf (e 6)).toNat) ?_ ?_
  · have q0 : w1.cell? ⟨w.heap.size, 0, none⟩ = some (.int .i64 a) := by rw [← hw1]; exact box_cell (v := .int .i64 a) (Ext.refl _) (j := 0) rfl
    simp -dsimp -implicitDefEqProofs only [q0, m106, sF106, Nat.reduceEqDiff, ↓reduceIte, Nat.reduceAdd, Nat.reduceMul, Value.cells, Value.oneCell', eq_self, ne_eq, Int.reduceToNat, Int.reduceEq, Int.reduceLT, Int.reduceLE, Int.reduceNeg, if_true, if_false, reduceCtorEq, Nat.reduceSub, storeV_ptr, slcV_slice, ↓mwD, mwU]
    exact ⟨a, [], rfl, Int.le_refl _, by omega, by simp, by simp, Ext.refl _, World.ownsRow_nil _ _ _ _⟩
  · rintro e ds w' ⟨n, xs, h6, h1, h2, rfl, hn, hn2, hlen, hr, hx, hown⟩
    obtain ⟨b1, b2⟩ := hbox hx
    obtain ⟨_, q, cap, h5⟩ := own_shape hown
    rw [h5] at hown
    by_cases hnb : n ≤ b
    · by_cases hl : xs.length < m
      · have hl' : (xs.length : Int) < (m : Int) := by omega
        have hw : IntKind.i64.wrap (n + c) = n + c := w64 (by omega) (by omega)
        simp -dsimp -implicitDefEqProofs only [h6, h1, h2, h5, b1, hnb, hl', bs_one, m106, sF106, Nat.reduceEqDiff, ↓reduceIte, Nat.reduceAdd, Nat.reduceMul, Value.cells, Value.oneCell', eq_self, ne_eq, Int.reduceToNat, Int.reduceEq, Int.reduceLT, Int.reduceLE, Int.reduceNeg, if_true, if_false, reduceCtorEq, Nat.reduceSub, storeV_ptr, slcV_slice, ↓mwD, mwU]
        obtain ⟨v2, w2, ha2, hown2, hg2⟩ := append_int hown n (by omega) hx.size
        refine appB.mk ha2 ?_
        have hx2 := append_ext hx hown hg2
        obtain ⟨c1, c2⟩ := hbox hx2
        simp -dsimp -implicitDefEqProofs only [h6, h1, h2, c2, hw, m106, sF106, Nat.reduceEqDiff, ↓reduceIte, Nat.reduceAdd, Nat.reduceMul, Value.cells, Value.oneCell', eq_self, ne_eq, Int.reduceToNat, Int.reduceEq, Int.reduceLT, Int.reduceLE, Int.reduceNeg, if_true, if_false, reduceCtorEq, Nat.reduceSub, storeV_ptr, slcV_slice, ↓mwD, mwU]
        refine ⟨⟨n + c, xs ++ [n], rfl, by omega, by omega, by simp; omega, ?_, hx2, by simpa using hown2⟩, ?_⟩
        · have e1 : m - xs.length = (m - (xs ++ [n]).length) + 1 := by simp; omega
          rw [hr, e1, rng, if_pos hnb, List.append_assoc, List.singleton_append]
        · simp only [intOf]; omega
      · have hl' : ¬ (xs.length : Int) < (m : Int) := by omega
        simp -dsimp -implicitDefEqProofs only [h6, h1, h2, h5, b1, hnb, hl', m106, sF106, Nat.reduceEqDiff, ↓reduceIte, Nat.reduceAdd, Nat.reduceMul, Value.cells, Value.oneCell', eq_self, ne_eq, Int.reduceToNat, Int.reduceEq, Int.reduceLT, Int.reduceLE, Int.reduceNeg, if_true, if_false, reduceCtorEq, Nat.reduceSub, storeV_ptr, slcV_slice, ↓mwD, mwU]
        exact fin (by rw [hr, show m - xs.length = 0 by omega]; simp [rng]) hx hown
    · simp -dsimp -implicitDefEqProofs only [h6, h1, h2, h5, b1, hnb, m106, sF106, Nat.reduceEqDiff, ↓reduceIte, Nat.reduceAdd, Nat.reduceMul, Value.cells, Value.oneCell', eq_self, ne_eq, Int.reduceToNat, Int.reduceEq, Int.reduceLT, Int.reduceLE, Int.reduceNeg, if_true, if_false, reduceCtorEq, Nat.reduceSub, storeV_ptr, slcV_slice, ↓mwD, mwU]
      refine fin ?_ hx hown
      rw [hr]
      cases m - xs.length with
      | zero => simp [rng]
      | succ k => rw [rng, if_neg hnb]; simp
end Go.Proofs.YthcdnjbhhaonhaaGreatDoor
/- Layer 02: package format's Numbers. -/

namespace Go.Proofs.YthcdnjbhhaonhaaGreatDoor
open Go.RowKit
set_option linter.unusedSimpArgs false

theorem CloneL_c (v : Value) (xs : List Int) (w : World) (h : SlI w v xs) (hn : xs.length ≤ 1099511627776) :
    Rets Go.Proofs.Tryz.prog 229 #[v] w fun r w' => Ext w w' ∧ w'.ownsRow w.heap.size 3 1 r xs.length (ints xs) := by
  rcases h with ⟨rfl, hx⟩ | ⟨b, o, cap, rfl, h1, h2, h3⟩
  · obtain rfl : xs = [] := by simpa [ints] using hx
    refine en229 ?_
    simp -dsimp -implicitDefEqProofs only [m229, sF229, Nat.reduceEqDiff, ↓reduceIte, Nat.reduceAdd, Nat.reduceMul, Value.cells, Value.oneCell', eq_self, ne_eq, Int.reduceToNat, Int.reduceEq, Int.reduceLT, Int.reduceLE, Int.reduceNeg, if_true, if_false, reduceCtorEq, Nat.reduceSub, storeV_ptr, slcV_slice, ↓mwD, mwU]
    exact ⟨Ext.refl _, World.ownsRow_nil _ _ _ _⟩
  · have hb : buildS Go.Proofs.Tryz.prog 110 0 [] = some (3, #[]) := by kernel_rfl
    rw [ints_length] at *
    refine en229 ?_
    simp -dsimp -implicitDefEqProofs only [hb, m229, sF229, Nat.reduceEqDiff, ↓reduceIte, Nat.reduceAdd, Nat.reduceMul, Value.cells, Value.oneCell', eq_self, ne_eq, Int.reduceToNat, Int.reduceEq, Int.reduceLT, Int.reduceLE, Int.reduceNeg, if_true, if_false, reduceCtorEq, Nat.reduceSub, storeV_ptr, slcV_slice, ↓mwD, mwU]
    have ho := own_new w [] 3 w.heap.size 0 1 rfl (Nat.le_refl _) (by simp)
    obtain ⟨v', w', ha, hown, hg⟩ := append_own (P := Go.Proofs.Tryz.prog) (w := w.alloc (.cells #[] 3)) (t := 110) (ty := 110) (z := .int .i64 0) (ats := [110, 110]) rfl telem_110 tok_3 tzero_3 (by rw [tsz_3]; rfl) (by rw [tsz_3]; omega)
      (by rw [tsz_3]; exact ho) (a := ⟨b, o, none⟩) (m := xs.length) (c := cap) (news := ints xs) (by rw [tsz_3, ints_length]; omega)
      (fun j u hj => by rw [Addr.add_lit]; exact cell_old (h3 j u hj) _) (fun u hu => by simp [ints] at hu; obtain ⟨n, _, rfl⟩ := hu; rfl) (by unfold maxLen; omega) (by rw [tby_3]; omega) (by simp)
    refine appB.mk ha ?_
    simp -dsimp -implicitDefEqProofs only [m229, sF229, Nat.reduceEqDiff, ↓reduceIte, Nat.reduceAdd, Nat.reduceMul, Value.cells, Value.oneCell', eq_self, ne_eq, Int.reduceToNat, Int.reduceEq, Int.reduceLT, Int.reduceLE, Int.reduceNeg, if_true, if_false, reduceCtorEq, Nat.reduceSub, storeV_ptr, slcV_slice, ↓mwD, mwU]
    refine ⟨(Ext.alloc _ _).grown hg (fun k hk => ?_), ?_⟩
    · simp [Value.ownBlock] at hk; omega
    · rw [tsz_3] at hown; simpa using hown
theorem SlI.take {w : World} {q : Option Addr} {xs : List Int} {cap : Nat} (h : SlI w (.slice q xs.length cap) xs) (k : Nat) (hk : k ≤ xs.length) : SlI w (.slice q k cap) (xs.take k) := by
  have hl : (ints (xs.take k)).length = k := by rw [ints_length, List.length_take]; omega
  rcases h with ⟨h1, h2⟩ | ⟨b, o, c2, h1, h2, h3, h4⟩
  · obtain rfl : xs = [] := by simpa [ints] using h2
    cases h1
    obtain rfl : k = 0 := by simpa using hk
    exact .inl ⟨rfl, rfl⟩
  · simp only [Value.slice.injEq, ints_length] at h1 h2
    obtain ⟨rfl, _, rfl⟩ := h1
    refine .inr ⟨b, o, cap, by rw [hl], by omega, h3, fun j u hj => h4 j u ?_⟩
    simp only [ints, List.map_take, List.getElem?_take] at hj
    split at hj
    · simpa [ints] using hj
    · cases hj
theorem addr_zero (a : Addr) : a.add 0 = a := by cases a; rfl
theorem slc_q (q : Option Addr) (cap : Nat) : (if (cap : Int) = 0 then q else Option.map (fun x => x.add 0) q) = q := by
  split
  · rfl
  · cases q <;> simp [addr_zero]
theorem listFirst_c (v : Value) (xs : List Int) (m : Nat) (w : World) (h : SlI w v xs) (hn : xs.length ≤ 1099511627776) (hm : m ≤ 1000) :
    Rets Go.Proofs.Tryz.prog 226 #[v, .int .i64 m] w fun r w' => Ext w w' ∧ w'.ownsRow w.heap.size 3 1 r (xs.take m).length (ints (xs.take m)) := by
  obtain ⟨q, cap, rfl, hc1, hc2⟩ := h.shape
  refine en226 ?_
  have hmin : (if (xs.length : Int) < (m : Int) then (xs.length : Int) else (m : Int)) = ((min m xs.length : Nat) : Int) := by split <;> omega
  have hcl := CloneL_c (.slice q (min m xs.length) cap) (xs.take (min m xs.length)) w (h.take _ (by omega)) (by rw [List.length_take]; omega)
  have e1 : xs.take (min m xs.length) = xs.take m := by
    rw [List.take_eq_take_iff]; omega
  rw [e1] at hcl
  have b1 : (0 : Int) ≤ ((min m xs.length : Nat) : Int) ∧ ((min m xs.length : Nat) : Int) ≤ (cap : Int) := by omega
  have z1 : (((min m xs.length : Nat) : Int) - 0).toNat = min m xs.length := by omega
  have z2 : ((cap : Int) - 0).toNat = cap := by omega
  simp -dsimp -implicitDefEqProofs only [hmin, b1, slc_q, z1, z2, and_self, m226, sF226, Nat.reduceEqDiff, ↓reduceIte, Nat.reduceAdd, Nat.reduceMul, Value.cells, Value.oneCell', eq_self, ne_eq, Int.reduceToNat, Int.reduceEq, Int.reduceLT, Int.reduceLE, Int.reduceNeg, if_true, if_false, reduceCtorEq, Nat.reduceSub, storeV_ptr, slcV_slice, ↓mwD, mwU]
  refine hcl.use ?_
  rintro r w' ⟨h1, h2⟩
  simp -dsimp -implicitDefEqProofs only [m226, sF226, Nat.reduceEqDiff, ↓reduceIte, Nat.reduceAdd, Nat.reduceMul, Value.cells, Value.oneCell', eq_self, ne_eq, Int.reduceToNat, Int.reduceEq, Int.reduceLT, Int.reduceLE, Int.reduceNeg, if_true, if_false, reduceCtorEq, Nat.reduceSub, storeV_ptr, slcV_slice, ↓mwD, mwU]
  exact ⟨h1, h2⟩
theorem first_range {c : Ch} (h : c.lsd = false) (m : Nat) : c.first m = rng c.hi c.stp m c.lo := by unfold Ch.first; rw [h]; rfl
theorem first_list {c : Ch} (h : c.lsd = true) (m : Nat) : c.first m = c.L.take m := by unfold Ch.first; rw [h]; rfl
/-- A set of numbers tells its first ones. -/
theorem setFirst_c {c : Ch} {s : Value} {w : World} (hf : Fit c) (hs : SlI w s c.L) (m : Nat) (hm : m ≤ 1000) (hl : c.lsd = true → c.L.length ≤ 1099511627776) : ∃ f v, invV Go.Proofs.Tryz.prog "continuo/format.first" (setV c s) = some (f, v) ∧ okF Go.Proofs.Tryz.prog f = true ∧
    Rets Go.Proofs.Tryz.prog f #[v, .int .i64 m] w fun r w' => Ext w w' ∧ w'.ownsRow w.heap.size 3 1 r (c.first m).length (ints (c.first m)) := by
  rcases hf with hf | ⟨hr, hk⟩
  · rw [first_list (lsd_of hf)]
    exact ⟨_, _, by rw [show setV c s = .iface 110 s by unfold setV; rw [if_pos hf]]; exact invF_list s, okF_226, listFirst_c s c.L m w hs (hl (lsd_of hf)) hm⟩
  · have hn := nl_of hr.nl
    have h0 := hr.l0
    have h1 := hr.l1
    have h2 := hr.l2
    have h3 := hr.s0
    have h4 := hr.s1
    rw [first_range hr.nl]
    rcases hk with ⟨hk, hl⟩ | ⟨hk, hl⟩
    · have e : c.stp = 1 := by unfold Ch.stp; rw [if_neg (by omega)]
      rw [e]
      exact ⟨_, _, by rw [show setV c s = .iface 112 (spV c.lo c.hi 1 true true) by unfold setV; rw [if_neg hn, if_pos ⟨hk, hl⟩]]; exact invF_steps _, okF_106, stepsFirst_c c.lo c.hi 1 true true m w h0 h2 (by omega) (by omega) (by omega) hm⟩
    · have e : c.L.getD 2 0 = c.stp := by unfold Ch.stp; rw [if_pos hk]
      exact ⟨_, _, by rw [show setV c s = .iface 112 (spV c.lo c.hi c.stp false true) by unfold setV; rw [if_neg hn, if_neg (by omega), if_pos ⟨hk, hl⟩, e]]; exact invF_steps _, okF_106, stepsFirst_c c.lo c.hi c.stp false true m w h0 h2 h3 (by omega) (by omega) hm⟩
theorem valid_len {c : Ch} (h : c.valid = true) : c.L.length ≤ 20 := by
  cases hl : c.lsd
  · have := (valid_rg h hl).2; omega
  · exact (valid_list h hl).2.1
theorem Numbers_c (c : Ch) (s : Value) (most : Int) (w : World) (hs : SlI w s c.L) : Rets Go.Proofs.Tryz.prog 18 #[chV c s, .int .i64 most] w fun r w' => Ext w w' ∧
    if c.valid = false then r = .tuple #[.slice none 0 0, .int .i64 1] else if most < 0 ∨ 1000 < most then r = .tuple #[.slice none 0 0, .int .i64 7] else ∃ v, r = .tuple #[v, .int .i64 0] ∧ SlI w' v (c.first most.toNat) := by
  have hx : Ext w (w.alloc (.cells #[.int .i64 c.k, .int .i64 c.d, s] 35)) := Ext.alloc _ _
  refine en18 ?_
  obtain ⟨p, cap, rfl, _, _⟩ := hs.shape
  simp -dsimp -implicitDefEqProofs only [chV, m18, sF18, Nat.reduceEqDiff, ↓reduceIte, Nat.reduceAdd, Nat.reduceMul, Value.cells, Value.oneCell', eq_self, ne_eq, Int.reduceToNat, Int.reduceEq, Int.reduceLT, Int.reduceLE, Int.reduceNeg, if_true, if_false, reduceCtorEq, Nat.reduceSub, storeV_ptr, slcV_slice, ↓mwD, mwU]
  refine (ValidChoice_c c _ _ (hs.ext hx)).use ?_
  rintro r w1 ⟨rfl, h1⟩
  have hx1 := hx.trans h1
  cases hv : c.valid
  · simp -dsimp -implicitDefEqProofs only [m18, sF18, Nat.reduceEqDiff, ↓reduceIte, Nat.reduceAdd, Nat.reduceMul, Value.cells, Value.oneCell', eq_self, ne_eq, Int.reduceToNat, Int.reduceEq, Int.reduceLT, Int.reduceLE, Int.reduceNeg, if_true, if_false, reduceCtorEq, Nat.reduceSub, storeV_ptr, slcV_slice, ↓mwD, mwU]
    exact hx1
  · have b0 := box_cell (v := .int .i64 c.k) h1 (j := 0) rfl
    have b1 := box_cell (v := .int .i64 c.d) h1 (j := 1) rfl
    have b2 := box_cell (v := .slice p c.L.length cap) h1 (j := 2) rfl
    by_cases m0 : most < 0
    · simp -dsimp -implicitDefEqProofs only [m0, m18, sF18, Nat.reduceEqDiff, ↓reduceIte, Nat.reduceAdd, Nat.reduceMul, Value.cells, Value.oneCell', eq_self, ne_eq, Int.reduceToNat, Int.reduceEq, Int.reduceLT, Int.reduceLE, Int.reduceNeg, if_true, if_false, reduceCtorEq, Nat.reduceSub, storeV_ptr, slcV_slice, ↓mwD, mwU]
      exact ⟨hx1, by simp [m0]⟩
    · by_cases m1 : 1000 < most
      · simp -dsimp -implicitDefEqProofs only [m0, m1, m18, sF18, Nat.reduceEqDiff, ↓reduceIte, Nat.reduceAdd, Nat.reduceMul, Value.cells, Value.oneCell', eq_self, ne_eq, Int.reduceToNat, Int.reduceEq, Int.reduceLT, Int.reduceLE, Int.reduceNeg, if_true, if_false, reduceCtorEq, Nat.reduceSub, storeV_ptr, slcV_slice, ↓mwD, mwU]
        exact ⟨hx1, by simp [m1]⟩
      · simp -dsimp -implicitDefEqProofs only [m0, m1, b0, b1, b2, m18, sF18, Nat.reduceEqDiff, ↓reduceIte, Nat.reduceAdd, Nat.reduceMul, Value.cells, Value.oneCell', eq_self, ne_eq, Int.reduceToNat, Int.reduceEq, Int.reduceLT, Int.reduceLE, Int.reduceNeg, if_true, if_false, reduceCtorEq, Nat.reduceSub, storeV_ptr, slcV_slice, ↓mwD, mwU]
        refine (numbers_c c _ _ (hs.ext hx1)).use ?_
        rintro r w2 ⟨rfl, h2⟩
        have hlen := valid_len hv
        obtain ⟨m, rfl⟩ : ∃ m : Nat, most = m := ⟨most.toNat, by omega⟩
        obtain ⟨g, u, j1, j2, j3⟩ := setFirst_c (w := w2) (valid_fit hv) (hs.ext (hx1.trans h2)) m (by omega) (fun _ => by omega)
        simp -dsimp -implicitDefEqProofs only [j1, j2, m18, sF18, Nat.reduceEqDiff, ↓reduceIte, Nat.reduceAdd, Nat.reduceMul, Value.cells, Value.oneCell', eq_self, ne_eq, Int.reduceToNat, Int.reduceEq, Int.reduceLT, Int.reduceLE, Int.reduceNeg, if_true, if_false, reduceCtorEq, Nat.reduceSub, storeV_ptr, slcV_slice, ↓mwD, mwU]
        refine j3.use ?_
        rintro r w3 ⟨h3, h4⟩
        simp -dsimp -implicitDefEqProofs only [m18, sF18, Nat.reduceEqDiff, ↓reduceIte, Nat.reduceAdd, Nat.reduceMul, Value.cells, Value.oneCell', eq_self, ne_eq, Int.reduceToNat, Int.reduceEq, Int.reduceLT, Int.reduceLE, Int.reduceNeg, if_true, if_false, reduceCtorEq, Nat.reduceSub, storeV_ptr, slcV_slice, ↓mwD, mwU]
        rw [if_neg (by omega)]
        exact ⟨(hx1.trans h2).trans h3, _, rfl, Own.sl h4⟩
end Go.Proofs.YthcdnjbhhaonhaaGreatDoor
/- Layer 02 in plain Lean: numbers that two ranges have in common. -/

namespace Go.Proofs.YthcdnjbhhaonhaaGreatDoor

theorem lcm_div (m n : Nat) : m / Nat.gcd m n * n = Nat.lcm m n := by
  obtain ⟨k, hk⟩ := Nat.gcd_dvd_left m n
  by_cases h0 : Nat.gcd m n = 0
  · have := Nat.eq_zero_of_gcd_eq_zero_left h0
    subst this
    simp
  · have hp : 0 < Nat.gcd m n := Nat.pos_of_ne_zero h0
    have e1 : m / Nat.gcd m n = k := by
      rw [Nat.div_eq_iff_eq_mul_left hp (Nat.gcd_dvd_left m n), Nat.mul_comm]; exact hk
    have e2 : Nat.lcm m n = k * n := by
      unfold Nat.lcm
      rw [Nat.div_eq_iff_eq_mul_left hp (Nat.dvd_trans (Nat.gcd_dvd_left m n) (Nat.dvd_mul_right _ _))]
      conv => lhs; rw [hk]
      rw [Nat.mul_assoc, Nat.mul_comm]
    rw [e1, e2]
/-- Where a number of both is, there is a least one. -/
theorem first_ex {a b : Ch} (ha : Rg a) {n : Int} (hn : both a b n = true) : ∃ f, FirstIs a b (some f) ∧ f ≤ n := by
  have hlo : ∀ {n}, both a b n = true → 0 ≤ n := fun {n} h => by
    unfold both at h
    rw [Bool.and_eq_true] at h
    have := ((has_range ha.nl).1 h.1).1
    have := ha.l0
    omega
  have main : ∀ (k : Nat) (n : Int), n.toNat = k → both a b n = true → ∃ f, FirstIs a b (some f) ∧ f ≤ n := by
    intro k
    induction k using Nat.strongRecOn with
    | ind k ih =>
      intro n hk hb
      by_cases h : ∃ m, both a b m = true ∧ m < n
      · obtain ⟨m, h1, h2⟩ := h
        have := hlo h1
        have := hlo hb
        obtain ⟨f, g1, g2⟩ := ih m.toNat (by omega) m rfl h1
        exact ⟨f, g1, by omega⟩
      · refine ⟨n, ⟨hb, fun m hm => ?_⟩, Int.le_refl _⟩
        by_cases h2 : n ≤ m
        · exact h2
        · exact absurd ⟨m, hm, by omega⟩ h
  exact main n.toNat n rfl hn
theorem none_or {a b : Ch} (h : ∀ n, both a b n = true → False) : FirstIs a b none := fun n => by
  cases hb : both a b n with
  | false => rfl
  | true => exact (h n hb).elim
/-- Where the walk stands: at a number of the first range, no number of both is below. -/
structure Stand (a b : Ch) (at' : Int) : Prop where
  dv : a.stp ∣ at' - a.lo
  low : max a.lo b.lo ≤ at'
  le : ∀ n, both a b n = true → at' ≤ n
theorem stand_start {a b : Ch} (ha : Rg a) (hb : Rg b) : Stand a b (a.lo + ((max a.lo b.lo - a.lo) + a.stp - 1) / a.stp * a.stp) ∧ a.lo + ((max a.lo b.lo - a.lo) + a.stp - 1) / a.stp * a.stp < max a.lo b.lo + a.stp := by
  have hs := ha.s0
  have e := Int.emod_add_mul_ediv ((max a.lo b.lo - a.lo) + a.stp - 1) a.stp
  have h1 := Int.emod_nonneg ((max a.lo b.lo - a.lo) + a.stp - 1) (show a.stp ≠ 0 by omega)
  have h2 := Int.emod_lt_of_pos ((max a.lo b.lo - a.lo) + a.stp - 1) (show 0 < a.stp by omega)
  rw [Int.mul_comm] at e
  generalize hq : ((max a.lo b.lo - a.lo) + a.stp - 1) / a.stp * a.stp = q at *
  have hd : a.stp ∣ q := by rw [← hq]; exact Int.dvd_mul_left _ _
  refine ⟨⟨by rw [show a.lo + q - a.lo = q by omega]; exact hd, by omega, fun n hn => ?_⟩, by omega⟩
  obtain ⟨⟨n1, n2, n3⟩, m1, _⟩ := (both_iff ha hb).1 hn
  -- n - lo is a multiple, at least as great as what is asked
  have hd2 := Int.dvd_sub n3 hd
  by_cases h : a.lo + q ≤ n
  · exact h
  · obtain ⟨k, hk⟩ := hd2
    have hk1 : k ≤ -1 := by
      by_cases hk0 : k ≤ -1
      · exact hk0
      · have : 0 ≤ a.stp * k := Int.mul_nonneg (by omega) (by omega)
        omega
    have : a.stp * k ≤ a.stp * (-1) := Int.mul_le_mul_of_nonneg_left hk1 (by omega)
    omega
theorem stand_both {a b : Ch} (ha : Rg a) (hb : Rg b) {at' : Int} (h : Stand a b at') (h1 : at' ≤ min a.hi b.hi) (h2 : b.has at' = true) : FirstIs a b (some at') := by
  have hl := h.low
  refine ⟨?_, h.le⟩
  unfold both
  rw [h2, (has_range ha.nl).2 ⟨by omega, by omega, h.dv⟩]
  rfl
theorem stand_next {a b : Ch} (ha : Rg a) (hb : Rg b) {at' : Int} (h : Stand a b at') (h2 : b.has at' = false) : Stand a b (at' + a.stp) := by
  have hs := ha.s0
  have hl := h.low
  refine ⟨?_, by omega, fun n hn => ?_⟩
  · have := Int.dvd_add h.dv (Int.dvd_refl a.stp)
    rw [show at' - a.lo + a.stp = at' + a.stp - a.lo by omega] at this
    exact this
  · have hle := h.le n hn
    obtain ⟨⟨_, _, n3⟩, _⟩ := (both_iff ha hb).1 hn
    have hne : n ≠ at' := fun e => by
      unfold both at hn
      rw [Bool.and_eq_true, e, h2] at hn
      exact absurd hn.2 (by simp)
    obtain ⟨k, hk⟩ := Int.dvd_sub n3 h.dv
    have hk1 : 1 ≤ k := by
      by_cases hk0 : 1 ≤ k
      · exact hk0
      · have : a.stp * k ≤ a.stp * 0 := Int.mul_le_mul_of_nonneg_left (by omega) (by omega)
        omega
    have : a.stp * 1 ≤ a.stp * k := Int.mul_le_mul_of_nonneg_left hk1 (by omega)
    omega
theorem by_le {a b : Ch} (ha : Rg a) (hb : Rg b) : byO a b ≤ a.stp * b.stp := by
  have h1 := ha.s0
  have h2 := hb.s0
  have e1 : ((a.stp.toNat : Nat) : Int) = a.stp := Int.toNat_of_nonneg (by omega)
  have e2 : ((b.stp.toNat : Nat) : Int) = b.stp := Int.toNat_of_nonneg (by omega)
  have hl : Nat.lcm a.stp.toNat b.stp.toNat ≤ a.stp.toNat * b.stp.toNat := Nat.le_of_dvd (Nat.mul_pos (by omega) (by omega)) (Nat.lcm_dvd (Nat.dvd_mul_right _ _) (Nat.dvd_mul_left _ _))
  unfold byO
  rw [← e1, ← e2, ← Int.natCast_mul]
  simp only [Int.toNat_natCast]
  omega
/-- At the end of the walk there is none. -/
theorem stand_none {a b : Ch} (ha : Rg a) (hb : Rg b) {at' : Int} (h : Stand a b at') (he : min a.hi b.hi < at' ∨ (b.has at' = false ∧ max a.lo b.lo + b.stp * a.stp ≤ at')) : FirstIs a b none := none_or fun n hn => by
  obtain ⟨f, hf, hfn⟩ := first_ex ha hn
  obtain ⟨f1, f2, f3⟩ := first_lt ha hb hf
  have := h.le f hf.1
  have hb2 := by_le ha hb
  rw [Int.mul_comm] at hb2
  rcases he with he | ⟨_, he⟩ <;> omega
theorem by_eq (a b : Ch) : byO a b = ((a.stp.toNat / Nat.gcd a.stp.toNat b.stp.toNat * b.stp.toNat : Nat) : Int) := by rw [lcm_div]; rfl
end Go.Proofs.YthcdnjbhhaonhaaGreatDoor
/- Layer 02: package format's listed, kept, greatest. -/


namespace Go.Proofs.YthcdnjbhhaonhaaGreatDoor
open Go.RowKit
set_option linter.unusedSimpArgs false

/-! ### a block of three cells is written anew -/
def Bk (w : World) (b : Nat) (cs : List Value) (t : TypeId) : Prop := w.heap[b]? = some (.cells cs.toArray t)
section
variable {w w' : World} {b b' o : Nat} {cs : List Value} {t : TypeId}
theorem Bk.lt (h : Bk w b cs t) : b < w.heap.size := (Array.getElem?_eq_some_iff.1 h).1
theorem Bk.cell (h : Bk w b cs t) (o : Nat) : w.cell? ⟨b, o, none⟩ = cs[o]? := by
  unfold Bk at h; simp [World.cell?, h]
theorem Bk.get (h : Bk w b cs t) {v : Value} (hv : cs[o]? = some v) : w.cell? ⟨b, o, none⟩ = some v := by rw [h.cell, hv]
theorem Bk.frozen (h : Bk w b cs t) (o : Nat) : w.frozen? ⟨b, o, none⟩ = false := by
  unfold Bk at h; simp [World.frozen?, h]
theorem Bk.set (h : Bk w b cs t) (o : Nat) (v : Value) : Bk (w.setCell ⟨b, o, none⟩ v) b (cs.set o v) t := by
  unfold Bk at h ⊢; simp [World.setCell, Array.getElem?_modify, h]
theorem Bk.ne (h : Bk w b cs t) (hne : b' ≠ b) (o : Nat) (v : Value) : Bk (w.setCell ⟨b', o, none⟩ v) b cs t := by
  unfold Bk at h ⊢; simp [World.setCell, Array.getElem?_modify, hne, h]
theorem Bk.new (w : World) (cs : List Value) (t : TypeId) : Bk (w.alloc (.cells cs.toArray t)) w.heap.size cs t := heap_alloc_new w _
theorem Bk.ext (h : Bk w b cs t) (he : Ext w w') : Bk w' b cs t := by
  unfold Bk at h ⊢; rw [he.block b (Bk.lt h)]; exact h
end
def set3 (w : World) (b : Nat) (a0 a1 a2 : Value) : World := ((w.setCell ⟨b, 0, none⟩ a0).setCell ⟨b, 1, none⟩ a1).setCell ⟨b, 2, none⟩ a2
structure Put3 (w : World) (b : Nat) (a0 a1 a2 : Value) (t : TypeId) : Prop where
  c0 : ∃ x, w.cell? ⟨b, 0, none⟩ = some x
  z0 : w.frozen? ⟨b, 0, none⟩ = false
  c1 : ∃ x, (w.setCell ⟨b, 0, none⟩ a0).cell? ⟨b, 1, none⟩ = some x
  z1 : (w.setCell ⟨b, 0, none⟩ a0).frozen? ⟨b, 1, none⟩ = false
  c2 : ∃ x, ((w.setCell ⟨b, 0, none⟩ a0).setCell ⟨b, 1, none⟩ a1).cell? ⟨b, 2, none⟩ = some x
  z2 : ((w.setCell ⟨b, 0, none⟩ a0).setCell ⟨b, 1, none⟩ a1).frozen? ⟨b, 2, none⟩ = false
  bk : Bk (((w.setCell ⟨b, 0, none⟩ a0).setCell ⟨b, 1, none⟩ a1).setCell ⟨b, 2, none⟩ a2) b [a0, a1, a2] t
theorem put3 {w : World} {b : Nat} {x0 x1 x2 : Value} {t : TypeId} (h : Bk w b [x0, x1, x2] t) (a0 a1 a2 : Value) : Put3 w b a0 a1 a2 t := by
  have h1 := h.set 0 a0
  have h2 := h1.set 1 a1
  have h3 := h2.set 2 a2
  exact ⟨⟨x0, h.get rfl⟩, h.frozen 0, ⟨x1, h1.get rfl⟩, h1.frozen 1, ⟨x2, h2.get rfl⟩, h2.frozen 2, h3⟩
theorem Ext.set3 {w0 w : World} {b : Nat} (h : Ext w0 w) (hb : w0.heap.size ≤ b) (a0 a1 a2 : Value) : Ext w0 (((w.setCell ⟨b, 0, none⟩ a0).setCell ⟨b, 1, none⟩ a1).setCell ⟨b, 2, none⟩ a2) := by
  have one : ∀ {w : World} (o : Nat) (v : Value), Ext w0 w → Ext w0 (w.setCell ⟨b, o, none⟩ v) := fun {w} o v h =>
    Below.trans h ⟨rfl, rfl, rfl, by simp [World.setCell], fun k hk => Below.heap_setCell _ _ _ _ (by simp only; omega)⟩
  exact one 2 a2 (one 1 a1 (one 0 a0 h))
theorem Own.same {w w' : World} {base : Nat} {e : TypeId} {size : Nat} {v : Value} {n : Nat} {cs : List Value} (h : w.ownsRow base e size v n cs) (hs : ∀ k, base ≤ k → k < w.heap.size → w'.heap[k]? = w.heap[k]?) : w'.ownsRow base e size v n cs := by
  refine ⟨h.1, ?_⟩
  rcases h.2 with h2 | ⟨g, cap, cur, hv, hg, hh, r⟩
  · exact .inl h2
  · exact .inr ⟨g, cap, cur, hv, hg, by rw [hs g hg (Array.getElem?_eq_some_iff.1 hh).1]; exact hh, r⟩
theorem Own.set3 {w : World} {base b : Nat} {e : TypeId} {size : Nat} {v : Value} {n : Nat} {cs : List Value} (h : w.ownsRow base e size v n cs) (hb : b < base) (a0 a1 a2 : Value) : (((w.setCell ⟨b, 0, none⟩ a0).setCell ⟨b, 1, none⟩ a1).setCell ⟨b, 2, none⟩ a2).ownsRow base e size v n cs :=
  Own.same h fun k hk _ => by
    rw [Below.heap_setCell _ _ _ _ (by simp only; omega), Below.heap_setCell _ _ _ _ (by simp only; omega), Below.heap_setCell _ _ _ _ (by simp only; omega)]
theorem bv_ch (k : Int) (q : Option Addr) (n cap : Nat) : buildV Go.Proofs.Tryz.prog 35 [(0, .int .i64 k), (2, .slice q n cap)] = some (.agg #[.int .i64 k, .int .i64 0, .slice q n cap]) := by kernel_rfl
theorem bv_ch0 : buildV Go.Proofs.Tryz.prog 35 [] = some (.agg #[.int .i64 0, .int .i64 0, .slice none 0 0]) := by kernel_rfl
theorem listed_c (v : Value) (xs : List Int) (w : World) (h : SlI w v xs) : Rets Go.Proofs.Tryz.prog 158 #[v] w fun r w' => r = chV ⟨lstK xs, 0, xs⟩ v ∧ Ext w w' := by
  obtain ⟨q, cap, rfl, hc1, hc2⟩ := h.shape
  refine en158 ?_
  by_cases h1 : xs.length = 1
  · have e1 : (xs.length : Int) = 1 := by omega
    simp -dsimp -implicitDefEqProofs only [e1, bv_ch, setCell_new, m158, sF158, Nat.reduceEqDiff, ↓reduceIte, Nat.reduceAdd, Nat.reduceMul, Value.cells, Value.oneCell', eq_self, ne_eq, Int.reduceToNat, Int.reduceEq, Int.reduceLT, Int.reduceLE, Int.reduceNeg, if_true, if_false, reduceCtorEq, Nat.reduceSub, storeV_ptr, slcV_slice, ↓mwD, mwU]
    exact ⟨by simp [chV, lstK, h1], Ext.alloc _ _⟩
  · have e1 : ¬ (xs.length : Int) = 1 := by omega
    simp -dsimp -implicitDefEqProofs only [e1, bv_ch, setCell_new, m158, sF158, Nat.reduceEqDiff, ↓reduceIte, Nat.reduceAdd, Nat.reduceMul, Value.cells, Value.oneCell', eq_self, ne_eq, Int.reduceToNat, Int.reduceEq, Int.reduceLT, Int.reduceLE, Int.reduceNeg, if_true, if_false, reduceCtorEq, Nat.reduceSub, storeV_ptr, slcV_slice, ↓mwD, mwU]
    exact ⟨by simp [chV, lstK, h1], Ext.alloc _ _⟩
theorem filter_take_succ {xs : List Int} {k : Nat} (h : k < xs.length) (p : Int → Bool) : (xs.take (k + 1)).filter p = (xs.take k).filter p ++ (if p xs[k] = true then [xs[k]] else []) := by
  rw [List.take_succ_eq_append_getElem h, List.filter_append]
  simp [List.filter_cons]
theorem kept_c (lv : Value) (xs : List Int) (b : Ch) (sb : Value) (w : World) (hl : SlI w lv xs) (hb : Fit b) (hs : SlI w sb b.L) (hn : xs.length ≤ 1000000) :
    Rets Go.Proofs.Tryz.prog 131 #[lv, setV b sb] w fun r w' => Ext w w' ∧ ∃ v, r = .tuple #[chV ⟨lstK (xs.filter b.has), 0, xs.filter b.has⟩ v, .bool (decide (0 < (xs.filter b.has).length))] ∧ w'.ownsRow w.heap.size 3 1 v (xs.filter b.has).length (ints (xs.filter b.has)) := by
  obtain ⟨q, cap, rfl, hc1, hc2⟩ := hl.shape
  have hx0 : Ext w (w.alloc (.cells #[.int .i64 0, .int .i64 0, .slice none 0 0] 35)) := Ext.alloc _ _
  have hsz : (w.alloc (.cells #[.int .i64 0, .int .i64 0, .slice none 0 0] 35)).heap.size = w.heap.size + 1 := World.size_alloc _ _
  have hB : Bk (w.alloc (.cells #[.int .i64 0, .int .i64 0, .slice none 0 0] 35)) w.heap.size [.int .i64 0, .int .i64 0, .slice none 0 0] 35 := Bk.new _ _ _
  refine en131 ?_
  simp -dsimp -implicitDefEqProofs only [m131, sF131, Nat.reduceEqDiff, ↓reduceIte, Nat.reduceAdd, Nat.reduceMul, Value.cells, Value.oneCell', eq_self, ne_eq, Int.reduceToNat, Int.reduceEq, Int.reduceLT, Int.reduceLE, Int.reduceNeg, if_true, if_false, reduceCtorEq, Nat.reduceSub, storeV_ptr, slcV_slice, ↓mwD, mwU]
  generalize w.alloc (.cells #[.int .i64 0, .int .i64 0, .slice none 0 0] 35) = w1 at *
  refine mwpB_loop (fun e ds w' => ∃ k : Nat, k ≤ xs.length ∧ e 11 = .int .i64 k ∧ e 10 = .int .i64 xs.length ∧ e 9 = .slice q xs.length cap ∧ e 1 = setV b sb ∧ e 4 = .pointer (some ⟨w.heap.size, 0, none⟩) ∧ ds = [] ∧ Ext w1 w' ∧
      w'.ownsRow w1.heap.size 3 1 (e 6) ((xs.take k).filter b.has).length (ints ((xs.take k).filter b.has))) (fun e _ => xs.length - (intOf (e 11)).toNat) ?_ ?_
  · simp -dsimp -implicitDefEqProofs only [m131, sF131, Nat.reduceEqDiff, ↓reduceIte, Nat.reduceAdd, Nat.reduceMul, Value.cells, Value.oneCell', eq_self, ne_eq, Int.reduceToNat, Int.reduceEq, Int.reduceLT, Int.reduceLE, Int.reduceNeg, if_true, if_false, reduceCtorEq, Nat.reduceSub, storeV_ptr, slcV_slice, ↓mwD, mwU]
    exact ⟨0, by omega, rfl, Ext.refl _, World.ownsRow_nil _ _ _ _⟩
  · rintro e ds w' ⟨k, hk, h11, h10, h9, h1, h4, rfl, hx, hown⟩
    obtain ⟨_, q6, cap6, h6⟩ := own_shape hown
    simp -dsimp -implicitDefEqProofs only [h11, h10, h9, h1, h4, m131, sF131, Nat.reduceEqDiff, ↓reduceIte, Nat.reduceAdd, Nat.reduceMul, Value.cells, Value.oneCell', eq_self, ne_eq, Int.reduceToNat, Int.reduceEq, Int.reduceLT, Int.reduceLE, Int.reduceNeg, if_true, if_false, reduceCtorEq, Nat.reduceSub, storeV_ptr, slcV_slice, ↓mwD, mwU]
    refine iteW_dec (fun hlt => ?_) (fun hge => ?_)
    · have hlt' : k < xs.length := by omega
      obtain ⟨bb, o, cap', hv, _, _, hcell⟩ := hl.at (by intro h0; rw [h0] at hlt'; simp at hlt')
      cases hv
      have hck := (hx0.trans hx).cell (hcell k hlt')
      have hb1 : (0 : Int) ≤ k ∧ (k : Int) < xs.length := by omega
      have hw := w64_succ hlt' (Nat.le_trans hc1 hc2)
      obtain ⟨g, u, j1, j2, j3⟩ := setHas_c (w := w') hb (hs.ext (hx0.trans hx)) xs[k]
      have hf := filter_take_succ hlt' b.has
      simp -dsimp -implicitDefEqProofs only [h11, h10, h9, h1, h4, hb1, and_self, hck, j1, j2, m131, sF131, Nat.reduceEqDiff, ↓reduceIte, Nat.reduceAdd, Nat.reduceMul, Value.cells, Value.oneCell', eq_self, ne_eq, Int.reduceToNat, Int.reduceEq, Int.reduceLT, Int.reduceLE, Int.reduceNeg, if_true, if_false, reduceCtorEq, Nat.reduceSub, storeV_ptr, slcV_slice, ↓mwD, mwU]
      refine j3.use ?_
      rintro r w2 ⟨rfl, hx2⟩
      cases hh : b.has xs[k]
      · rw [hh] at hf
        simp -dsimp -implicitDefEqProofs only [h11, h10, h9, h1, h4, hw, m131, sF131, Nat.reduceEqDiff, ↓reduceIte, Nat.reduceAdd, Nat.reduceMul, Value.cells, Value.oneCell', eq_self, ne_eq, Int.reduceToNat, Int.reduceEq, Int.reduceLT, Int.reduceLE, Int.reduceNeg, if_true, if_false, reduceCtorEq, Nat.reduceSub, storeV_ptr, slcV_slice, ↓mwD, mwU]
        refine ⟨⟨k + 1, by omega, rfl, hx.trans hx2, ?_⟩, ?_⟩
        · rw [hf]; simpa using Own.ext hown hx2
        · simp only [intOf]; omega
      · rw [hh, if_pos rfl] at hf
        have hlen : ((xs.take k).filter b.has).length ≤ 1000000 := Nat.le_trans (List.length_filter_le _ _) (by rw [List.length_take]; omega)
        simp -dsimp -implicitDefEqProofs only [h11, h10, h9, h1, h4, bs_one, m131, sF131, Nat.reduceEqDiff, ↓reduceIte, Nat.reduceAdd, Nat.reduceMul, Value.cells, Value.oneCell', eq_self, ne_eq, Int.reduceToNat, Int.reduceEq, Int.reduceLT, Int.reduceLE, Int.reduceNeg, if_true, if_false, reduceCtorEq, Nat.reduceSub, storeV_ptr, slcV_slice, ↓mwD, mwU]
        obtain ⟨v3, w3, ha3, hown3, hg3⟩ := append_int (Own.ext hown hx2) xs[k] (by omega) (hx.trans hx2).size
        refine appB.mk ha3 ?_
        simp -dsimp -implicitDefEqProofs only [h11, h10, h9, h1, h4, hw, m131, sF131, Nat.reduceEqDiff, ↓reduceIte, Nat.reduceAdd, Nat.reduceMul, Value.cells, Value.oneCell', eq_self, ne_eq, Int.reduceToNat, Int.reduceEq, Int.reduceLT, Int.reduceLE, Int.reduceNeg, if_true, if_false, reduceCtorEq, Nat.reduceSub, storeV_ptr, slcV_slice, ↓mwD, mwU]
        refine ⟨⟨k + 1, by omega, rfl, append_ext (hx.trans hx2) (Own.ext hown hx2) hg3, ?_⟩, ?_⟩
        · rw [hf]; simpa using hown3
        · simp only [intOf]; omega
    · have hkl : k = xs.length := by omega
      subst hkl
      rw [List.take_length] at hown h6
      generalize hF : xs.filter b.has = F at *
      rw [h6] at hown
      simp -dsimp -implicitDefEqProofs only [h11, h10, h9, h1, h4, h6, m131, sF131, Nat.reduceEqDiff, ↓reduceIte, Nat.reduceAdd, Nat.reduceMul, Value.cells, Value.oneCell', eq_self, ne_eq, Int.reduceToNat, Int.reduceEq, Int.reduceLT, Int.reduceLE, Int.reduceNeg, if_true, if_false, reduceCtorEq, Nat.reduceSub, storeV_ptr, slcV_slice, ↓mwD, mwU]
      refine (listed_c _ F _ (Own.sl hown)).use ?_
      rintro r w2 ⟨rfl, hx2⟩
      have hP := put3 ((hB.ext hx).ext hx2) (.int .i64 (lstK F)) (.int .i64 0) (.slice q6 F.length cap6)
      obtain ⟨y0, c0⟩ := hP.c0
      obtain ⟨y1, c1⟩ := hP.c1
      obtain ⟨y2, c2⟩ := hP.c2
      have z0 := hP.z0
      have z1 := hP.z1
      have z2 := hP.z2
      have k0 := hP.bk.get (o := 0) rfl
      have k1 := hP.bk.get (o := 1) rfl
      have k2 := hP.bk.get (o := 2) rfl
      simp -dsimp -implicitDefEqProofs only [h4, h6, chV, c0, c1, c2, z0, z1, z2, k0, k1, k2, m131, sF131, Nat.reduceEqDiff, ↓reduceIte, Nat.reduceAdd, Nat.reduceMul, Value.cells, Value.oneCell', eq_self, ne_eq, Int.reduceToNat, Int.reduceEq, Int.reduceLT, Int.reduceLE, Int.reduceNeg, if_true, if_false, reduceCtorEq, Nat.reduceSub, storeV_ptr, slcV_slice, ↓mwD, mwU]
      have hd : decide ((0 : Int) < (F.length : Int)) = decide (0 < F.length) := by rw [decide_eq_decide]; omega
      exact ⟨(hx0.trans (hx.trans hx2)).set3 (Nat.le_refl _) _ _ _, .slice q6 F.length cap6, by rw [hd], Own.mono (Own.set3 (Own.ext hown hx2) (by omega) _ _ _) (by omega)⟩
end Go.Proofs.YthcdnjbhhaonhaaGreatDoor
