/- Ranges over functions, as they are run: the statement, a round, and what is done behind a body that holds marks. -/
import Derived.Test.YtdkdibeimeaakabGreatDoorQsMwRf

namespace Go.Proofs.YtdkdibeimeaakabGreatDoor
open Go.RowKit
section
variable {P : Program} {n : Nat}
def leaveM (P : Program) (rs : List ResultVar) (R : Ending → World → Prop) : List Deferred → FrameMode → Env → World → Prop
  | [], u, e, w => leaveW P rs R [] u e w
  | d :: ds, u, e, w => u ≠ .run ∧ ((∃ r w', d.target = .collected r ∧ (Instr.takeDeferred r).run P w = .ok [] w' ∧ leaveM P rs R ds u e w') ∨
      ∃ fv cap f args, d.target = .fn fv cap ∧ (invoke d.target d.args).run P w = .ok (.enter f args) w ∧ CallsDIn Fence.wide 1 P f args u w fun
      | .returned _, u', w' => leaveM P rs R ds (settle u') e w'
      | .panicked ch, u', w' => leaveM P rs R ds (raised u' ch) e w'
      | .outgrown, _, w' => R .outgrown w')
theorem leaveM_mark {rs : List ResultVar} {R : Ending → World → Prop} {ds : List Deferred} {u : FrameMode} {e : Env} {w w' : World} {r : Nat} (hu : u ≠ .run) (ht : (Instr.takeDeferred r).run P w = .ok [] w') (h : leaveM P rs R ds u e w') : leaveM P rs R ({ target := .collected r, args := #[] } :: ds) u e w :=
  ⟨hu, .inl ⟨r, w', rfl, ht, h⟩⟩
theorem leaveM_call {rs : List ResultVar} {R : Ending → World → Prop} {d : Deferred} {ds : List Deferred} {u : FrameMode} {e : Env} {w : World} {fv : Fn} {cap args : Array Value} {f : FuncId} (hu : u ≠ .run) (h1 : d.target = .fn fv cap) (h2 : (invoke d.target d.args).run P w = .ok (.enter f args) w)
    (h3 : CallsDIn Fence.wide 1 P f args u w fun
      | .returned _, u', w' => leaveM P rs R ds (settle u') e w'
      | .panicked ch, u', w' => leaveM P rs R ds (raised u' ch) e w'
      | .outgrown, _, w' => R .outgrown w') : leaveM P rs R (d :: ds) u e w := ⟨hu, .inr ⟨fv, cap, f, args, h1, h2, h3⟩⟩
theorem leaves_of_leaveM {fn : Func} {tmps : Array Value} {e : Env} {R : Ending → World → Prop} {n : Nat} (hr : ∀ t, t < n → tmps.getD t undef = e t) (hf : resFits n fn.results.toList = true) : ∀ (ds : List Deferred) (u : FrameMode) (w : World),
    leaveM P fn.results.toList R ds u e w → LeavesInM Fence.wide 2 P fn tmps R ds u w
  | [], u, w, h => leaves_of_leaveW hr hf [] u w h
  | d :: ds, u, w, h => by
    obtain ⟨hu, h⟩ := h
    refine ⟨hu, ?_⟩
    rcases h with ⟨r, w', h1, h2, h3⟩ | ⟨fv, cap, f, args, h1, h2, h3⟩
    · exact .inl ⟨r, w', h1, h2, leaves_of_leaveM hr hf ds u w' h3⟩
    · refine .inr ⟨fun h => by simp [Fence.wide] at h, fv, cap, f, args, h1, h2, fun _ _ => trivial, callsD_mono h3 fun ex u' w' hq => ?_⟩
      cases ex with
      | returned v => exact leaves_of_leaveM hr hf ds _ w' hq
      | panicked ch => exact leaves_of_leaveM hr hf ds _ w' hq
      | outgrown => exact hq
theorem calls_of_mwpB {f : FuncId} {fn : Func} {m : MC} {args : Array Value} {rs : List ResultVar} {w : World} {R : Ending → World → Prop} (hm : P.follows .mixedOrders = true) (hf : P.funcs[f]? = some fn) (pl : Nat → Plan)
    (hst : fn.body.map (strip pl) = some m) (hok : okB pl fn args.size = true) (hrs : fn.results.toList = rs)
    (h : mwp P m (argEnv args.toList) [] w (fun e ds w => leaveM P rs R ds .returning e w) (fun _ _ _ _ => False) (fun e ds w => leaveM P rs R ds .returning e w) (fun e ch ds w => leaveM P rs R ds (.panicking ch) e w)) : Calls P f args w R := by
  subst hrs
  cases hb : fn.body with
  | none => rw [hb] at hst; cases hst
  | some c =>
    rw [hb] at hst
    simp only [Option.map_some,Option.some.injEq] at hst
    subst hst
    simp only [okB,hb,Bool.and_eq_true,decide_eq_true_eq] at hok
    obtain ⟨⟨hsz, hres⟩, hpl, hfit⟩ := hok
    refine (callsIn_wide (n := 2)).1 (callsIn_of_wp_marks hf hb trivial (wpIn_wide.2 (Go.wp_mono (mwp_sound hm pl c _ (argEnv args.toList) [] w _ _ _ _ hpl hfit ?_ h) fun ex a w hq => ?_)))
    · refine ⟨by simp; omega, fun t ht => ?_, rfl⟩
      simp only [argEnv]
      by_cases h1 : t < args.size
      · rw [Array.getElem?_append_left h1]; simp [h1]
      · simp [Array.getElem?_append, show ¬ t < args.size from h1, show t - args.size < fn.ntmps - args.size by omega]
    · cases ex with
      | normal =>
        obtain ⟨e, hr, hv⟩ := hq
        exact leaves_of_leaveM (fun t ht => getD_rel hr ht) hres a.defers _ w hv
      | ret =>
        obtain ⟨e, hr, hv⟩ := hq
        exact leaves_of_leaveM (fun t ht => getD_rel hr ht) hres a.defers _ w hv
      | exit i => obtain ⟨_, _, h⟩ := hq; exact h.elim
      | goto i => exact hq.elim
      | panic ch =>
        obtain ⟨e, hr, hv⟩ := hq
        exact leaves_of_leaveM hr hres a.defers _ w hv
      | outgrown => exact hq.elim
def loopRec (fn : FuncId) (tmps : Array Value) (ps : Array Tmp) (A B : Code) (d : Nat) : Loop := { state := .ready, pending := none, fn, tmps, params := ps, assign := A, body := B, defers := d }
theorem mwp_rangeFunc {g : Operand} {ps : Array Tmp} {A B : Code} {e : Env} {ds : List Deferred} {w : World} {N : Env → List Deferred → World → Prop} {E : Nat → Env → List Deferred → World → Prop} {R : Env → List Deferred → World → Prop} {X : Env → List PanicEntry → List Deferred → World → Prop}
    {gf : FuncId} {first cap : Array Value} (hg : ev e g = .func (.func gf) first cap) (hok : okF P gf = true)
    (h : ∀ (n : Nat) (fn : FuncId) (tmps : Array Value), tmps.size = n → (∀ t, t < n → tmps[t]? = some (e t)) → fits n (.rangeFunc g ps A B) = true →
      Calls P gf (first ++ #[.func (.yield (w.heap.size + 1)) #[] #[]] ++ cap) ((w.alloc (.deferred (some []))).alloc (.loop (loopRec fn tmps ps A B w.heap.size))) fun en w3 =>
        ∃ v pend w4, en = .returned v ∧ (Instr.endLoop (w.heap.size + 1)).run P w3 = .ok pend w4 ∧ (match pend with
          | none => N e ({ target := .collected w.heap.size, args := #[] } :: ds) w4
          | some .ret => R e ({ target := .collected w.heap.size, args := #[] } :: ds) w4
          | some (.exit i) => E i e ({ target := .collected w.heap.size, args := #[] } :: ds) w4
          | _ => False)) : mwp P (.raw (.rangeFunc g ps A B)) e ds w N E R X := by
  intro n a hr hf
  have hf0 := hf
  simp only [fits,Bool.and_eq_true] at hf
  obtain ⟨⟨⟨hf1, hf2⟩, hfA⟩, hfB⟩ := hf
  refine wpIn_wide.1 (wpIn_rangeFunc (F := Fence.wide) (n := 1) fun fn _ => ?_)
  have hev : a.eval g = .func (.func gf) first cap := by rw [ev_eval hr hf1]; exact hg
  refine ⟨w.heap.size + 1, _, _, { target := .fn (.func gf) cap, args := first ++ #[.func (.yield (w.heap.size + 1)) #[] #[]] }, (w.alloc (.deferred (some []))).alloc (.loop (loopRec fn a.tmps ps A B w.heap.size)), gf,
    first ++ #[.func (.yield (w.heap.size + 1)) #[] #[]] ++ cap, (w.alloc (.deferred (some []))).alloc (.loop (loopRec fn a.tmps ps A B w.heap.size)), run_enterLoop_outer fn a.tmps ps A B, ?_, fun _ _ => trivial, ?_, fun h => by simp [Fence.wide] at h, ?_⟩
  · have hc : a.eval (.const (.func (.yield (w.heap.size + 1)) #[] #[])) = .func (.yield (w.heap.size + 1)) #[] #[] := rfl
    simp only [resolve,hev,List.map_toArray,List.map_cons,List.map_nil,hc]
    simp [loopRec, Deferred.ofValue]
  · simp only [invoke]
    exact okF_run hok _ _
  · refine (callsIn_wide (n := 0)).2 (Calls.mono (h n fn a.tmps hr.1 hr.2.1 hf0) fun en w3 ⟨v, pend, w4, he, hend, hq⟩ => ?_)
    subst he
    refine ⟨pend, w4, hend, ?_⟩
    have hrel := rel_put_defer hr { target := .collected w.heap.size, args := #[] }
    have hds := hr.2.2
    subst hds
    have hrel' : Rel { tmps := a.tmps, defers := [{ target := Target.collected w.heap.size, args := #[] }] ++ a.defers } e n ([{ target := Target.collected w.heap.size, args := #[] }] ++ a.defers) := hrel
    split at hq
    · exact ⟨e, hrel', hq⟩
    · exact wpIn_ret ⟨e, hrel', hq⟩
    · exact wpIn_exit ⟨e, hrel', hq⟩
    · exact hq.elim
theorem yieldAt_round {l : Nat} {r : Loop} {args : Array Value} {W : World} {e0 : Env} {n : Nat} {g : Operand} {pl : Nat → Plan} {R : Ending → World → Prop} (hm : P.follows .mixedOrders = true) (hl : W.heap[l]? = some (.loop r)) 
    (hsz : args.size = r.params.size) (hn : r.tmps.size = n) (ht : ∀ t, t < n → r.tmps[t]? = some (e0 t)) (hf : fits n (.rangeFunc g r.params r.assign r.body) = true)
    (hokA : noDefer r.assign = true ∧ plansOk pl r.assign = true) (hokB : noDefer r.body = true ∧ plansOk pl r.body = true)
    (h : mwp P (strip pl r.assign) (setPs e0 r.params.toList args.toList) [] W
      (fun e1 ds1 W1 => ds1 = [] ∧ ∃ r1, W1.heap[l]? = some (.loop r1) ∧ r1.state = .ready ∧ mwp P (strip pl r.body) e1 [] (W1.putObj l (.loop { r1 with state := .busy }))
        (fun _ _ W2 => ∃ r2, W2.heap[l]? = some (.loop r2) ∧ R (.returned (.bool true)) (W2.putObj l (.loop { r2 with state := .ready, pending := none })))
        (fun i _ _ W2 => ∃ r2, W2.heap[l]? = some (.loop r2) ∧ R (.returned (.bool false)) (W2.putObj l (.loop { r2 with state := .done, pending := some (.exit i) })))
        (fun _ _ W2 => ∃ r2, W2.heap[l]? = some (.loop r2) ∧ R (.returned (.bool false)) (W2.putObj l (.loop { r2 with state := .done, pending := some .ret })))
        (fun _ _ _ _ => False))
      (fun _ _ _ _ => False) (fun _ _ _ => False) (fun _ _ _ _ => False)) : YieldAt Fence.wide 1 P l args W R := by
  simp only [fits,Bool.and_eq_true] at hf
  obtain ⟨⟨⟨hf1, hf2⟩, hfA⟩, hfB⟩ := hf
  have hpsn : ∀ p ∈ r.params.toList, p < n := fun p hp => by
    rw [Array.all_eq_true_iff_forall_mem] at hf2
    simpa using hf2 p (by simpa using hp)
  have hrs : Rel { tmps := (r.params.zip args).foldl (fun t (p, v) => t.setIfInBounds p v) r.tmps, defers := [] } (setPs e0 r.params.toList args.toList) n [] := by
    have hz : (r.params.zip args).toList = r.params.toList.zip args.toList := by simp
    have := rel_setPs (n := n) (r.params.toList.zip args.toList) r.tmps e0 hn ht fun p hp => hpsn p.1 (List.of_mem_zip (show (p.1, p.2) ∈ _ from hp)).1
    refine ⟨?_, ?_, rfl⟩
    · show ((r.params.zip args).foldl (fun t p => t.setIfInBounds p.1 p.2) r.tmps).size = n
      rw [← Array.foldl_toList, hz]; exact this.1
    · show ∀ t, t < n → ((r.params.zip args).foldl (fun t p => t.setIfInBounds p.1 p.2) r.tmps)[t]? = _
      rw [← Array.foldl_toList, hz]; exact this.2
  refine ⟨r.fn, _, r.assign, r.body, run_yield hl hsz, roundIn_of_wpIn trivial (wpIn_mono (mwpIn_sound (ro := some l) (m := 0) hm pl r.assign _ _ [] W _ _ _ _ hokA.1 hokA.2 hfA hrs h) fun ex a' W' hq => ?_)⟩
  cases ex with
  | normal =>
    obtain ⟨e', hr', hd', r1, hb', hst1, hbody⟩ := hq
    refine ⟨_, run_beginRound hb' hst1, wpIn_mono (mwpIn_sound (ro := some l) (m := 0) hm pl r.body a' e' [] _ _ _ _ _ hokB.1 hokB.2 hfB (by rw [hd'] at hr'; exact hr') hbody) fun ex a2 W2 hq2 => ?_⟩
    cases ex with
    | normal =>
      obtain ⟨_, _, r2, hl2, hR⟩ := hq2
      exact ⟨_, _, run_endRound none hl2, hR⟩
    | ret =>
      obtain ⟨_, _, r2, hl2, hR⟩ := hq2
      exact ⟨_, _, run_endRound (some .ret) hl2, hR⟩
    | exit i =>
      obtain ⟨_, _, r2, hl2, hR⟩ := hq2
      exact ⟨_, _, run_endRound (some (.exit i)) hl2, hR⟩
    | goto i => exact hq2.elim
    | panic ch => obtain ⟨_, _, h⟩ := hq2; exact h.elim
    | outgrown => exact hq2.elim
  | exit i => obtain ⟨_, _, h⟩ := hq; exact h.elim
  | goto i => exact hq.elim
  | ret => obtain ⟨_, _, h⟩ := hq; exact h.elim
  | panic ch => obtain ⟨_, _, h⟩ := hq; exact h.elim
  | outgrown => exact hq.elim
end
end Go.Proofs.YtdkdibeimeaakabGreatDoor
