/- Ranges over functions whose rounds may panic: the function that holds the range is known. -/
import Derived.Test.YthcdnjbhhaonhaaGreatDoorQgMwLoop
import Derived.Test.YthcdnjbhhaonhaaGreatDoorQgMwJoin

namespace Go.Proofs.YthcdnjbhhaonhaaGreatDoor
open Go.RowKit
section
variable {P : Program} {n : Nat} {f : FuncId}
def wpAt (P : Program) (f : FuncId) (c : Code) (Q : Exit → Act → World → Prop) (a : Act) (w : World) : Prop :=
  ∀ (b : Frame) (k : List Item) (cs : List Frame), b.roundOf = none → b.fn = f → ∃ e a' w', Q e a' w' ∧ ArrivesIn (Machine.fenced P Fence.wide) P (lone (b.atR a (.code c :: k)) cs w) b k cs e a' w'
theorem wpAt_of {c : Code} {Q : Exit → Act → World → Prop} {a : Act} {w : World} (h : c.wp P Q a w) : wpAt P f c Q a w := fun b k cs hro _ => (wpIn_wide (n := 1).2 h) b k cs hro trivial (room_wide _)
theorem calm_wide {fr : Frame} {cs : List Frame} {w : World} (ha : fr.about P w = none) : (lone fr cs w).fenced P Fence.wide := fenced_calm (n := 0) trivial (room_wide _) ha
theorem wpAt_seq {x y : Code} {Q : Exit → Act → World → Prop} {a : Act} {w : World} (h : wpAt P f x (Exit.then (wpAt P f y Q) Q) a w) : wpAt P f (.seq x y) Q a w := by
  intro b k cs hro hb
  have h0 : (lone (b.atR a (.code (.seq x y) :: k)) cs w).fenced P Fence.wide := calm_wide rfl
  obtain ⟨e, a₁, w₁, hq, harr⟩ := h b (.code y :: k) cs hro hb
  cases e with
  | normal =>
    obtain ⟨e₂, a₂, w₂, hq₂, harr₂⟩ := hq b k cs hro hb
    exact ⟨e₂, a₂, w₂, hq₂, .of_steps (.head h0 stepR_seq harr) harr₂⟩
  | exit id => exact ⟨_, a₁, w₁, hq, .of_steps (.one h0 stepR_seq) (.pass (x := .code y) rfl (fun _ _ => .inl (by simp)) harr)⟩
  | goto l => exact ⟨_, a₁, w₁, hq, .of_steps (.one h0 stepR_seq) (.pass (x := .code y) rfl (fun _ _ => .inl (by simp)) harr)⟩
  | ret => exact ⟨_, a₁, w₁, hq, .of_steps (.one h0 stepR_seq) (.pass (x := .code y) rfl (fun _ _ => .inl (by simp)) harr)⟩
  | panic ch => exact ⟨_, a₁, w₁, hq, .of_steps (.one h0 stepR_seq) (.pass (x := .code y) rfl (fun _ _ => .inl (by simp)) harr)⟩
  | outgrown => exact ⟨_, a₁, w₁, hq, .of_steps (.one h0 stepR_seq) (.pass (x := .code y) rfl (fun _ _ => .inl (by simp)) harr)⟩
theorem wpAt_block {id : Nat} {c : Code} {Q : Exit → Act → World → Prop} {a : Act} {w : World} (h : wpAt P f c (Exit.inBlock id Q) a w) : wpAt P f (.block id c) Q a w := by
  intro b k cs hro hb
  have h0 : (lone (b.atR a (.code (.block id c) :: k)) cs w).fenced P Fence.wide := calm_wide rfl
  obtain ⟨e, a₁, w₁, hq, harr⟩ := h b (.inBlock id :: k) cs hro hb
  cases e with
  | normal => exact ⟨.normal, a₁, w₁, hq, .head h0 stepR_block (StepsIn.trans harr (.one (calm_wide rfl) stepR_inBlock))⟩
  | exit id' =>
    by_cases hid : id' = id
    · simp only [Exit.inBlock,hid,if_true] at hq
      exact ⟨.normal, a₁, w₁, hq, .head h0 stepR_block (harr.1 k (by simp [exitTo, hid]))⟩
    · simp only [Exit.inBlock,hid,if_false] at hq
      have this : (id == id') = false := by simp; exact fun h => hid h.symm
      have hx : exitTo id' (.inBlock id :: k) = exitTo id' k := by simp [exitTo, this]
      exact ⟨.exit id', a₁, w₁, hq, fun k' hk => .head h0 stepR_block (harr.1 k' (by rw [hx]; exact hk)),
        fun hr' hk => let ⟨k₁, h1, h2⟩ := harr.2 hr' (by rw [hx]; exact hk); ⟨k₁, h1, .head h0 stepR_block h2⟩⟩
  | goto l =>
    have hx : gotoIn l (.inBlock id :: k) = gotoIn l k := by simp [gotoIn]
    exact ⟨_, a₁, w₁, hq, fun k' hk => .head h0 stepR_block (harr.1 k' (by rw [hx]; exact hk)),
      fun hr' hk => let ⟨k₁, h1, h2⟩ := harr.2 hr' (by rw [hx]; exact hk); ⟨k₁, h1, .head h0 stepR_block h2⟩⟩
  | ret => exact ⟨_, a₁, w₁, hq, .of_steps (.one h0 stepR_block) harr⟩
  | panic ch => exact ⟨_, a₁, w₁, hq, .of_steps (.one h0 stepR_block) harr⟩
  | outgrown => exact ⟨_, a₁, w₁, hq, .of_steps (.one h0 stepR_block) harr⟩
theorem wpAt_mono {c : Code} {Q Q' : Exit → Act → World → Prop} {a : Act} {w : World} (h : wpAt P f c Q a w) (hq : ∀ e a w, Q e a w → Q' e a w) : wpAt P f c Q' a w := fun b k cs h1 h2 =>
  let ⟨e, a', w', q, r⟩ := h b k cs h1 h2; ⟨e, a', w', hq _ _ _ q, r⟩
def mwpAt (P : Program) (f : FuncId) : MC → Env → List Deferred → World → (Env → List Deferred → World → Prop) → (Nat → Env → List Deferred → World → Prop) → (Env → List Deferred → World → Prop) →
    (Env → List PanicEntry → List Deferred → World → Prop) → Prop
  | .seq a b, e, ds, w, N, E, R, X => mwpAt P f a e ds w (fun e ds w => mwpAt P f b e ds w N E R X) E R X
  | .block id b, e, ds, w, N, E, R, X => mwpAt P f b e ds w N (fun i e ds w => if i = id then N e ds w else E i e ds w) R X
  | .raw c, e, ds, w, N, E, R, X => ∀ n a, Rel a e n ds → fits n c = true → wpAt P f c (liftQ n N E R X) a w
  | m, e, ds, w, N, E, R, X => mwp P m e ds w N E R X
theorem mwpAt_of : ∀ (m : MC) (e : Env) (ds : List Deferred) (w : World) (N : Env → List Deferred → World → Prop) (E : Nat → Env → List Deferred → World → Prop) (R : Env → List Deferred → World → Prop) (X : Env → List PanicEntry → List Deferred → World → Prop),
    mwp P m e ds w N E R X → mwpAt P f m e ds w N E R X
  | .seq a b, e, ds, w, N, E, R, X, h => mwpAt_of a e ds w _ E R X (mwp_mono a e ds w _ _ E E (fun e ds w h => mwpAt_of b e ds w N E R X h) (fun _ _ _ _ h => h) h)
  | .block _ b, e, ds, w, _, _, R, X, h => mwpAt_of b e ds w _ _ R X h
  | .raw _, _, _, _, _, _, _, _, h => fun n a hr hf => wpAt_of (h n a hr hf)
  | .skip, _, _, _, _, _, _, _, h => h
  | .ops _, _, _, _, _, _, _, _, h => h
  | .draw _, _, _, _, _, _, _, _, h => h
  | .cond _ _ _, _, _, _, _, _, _, _, h => h
  | .loop _, _, _, _, _, _, _, _, h => h
  | .exit _, _, _, _, _, _, _, _, h => h
  | .ret, _, _, _, _, _, _, _, h => h
  | .bad, _, _, _, _, _, _, _, h => h
theorem mwpAt_seq {a b : MC} {e : Env} {ds : List Deferred} {w : World} {N : Env → List Deferred → World → Prop} {E : Nat → Env → List Deferred → World → Prop} {R : Env → List Deferred → World → Prop} {X : Env → List PanicEntry → List Deferred → World → Prop}
    (h : mwpB P a e ds w (fun e ds w => mwpAt P f b e ds w N E R X) E R X ⟨⟩) : mwpAt P f (.seq a b) e ds w N E R X := by
  unfold mwpB at h
  exact mwpAt_of a e ds w _ E R X h
theorem mwpAt_all {a : MC} {e : Env} {ds : List Deferred} {w : World} {N : Env → List Deferred → World → Prop} {E : Nat → Env → List Deferred → World → Prop} {R : Env → List Deferred → World → Prop} {X : Env → List PanicEntry → List Deferred → World → Prop}
    (h : mwpB P a e ds w N E R X ⟨⟩) : mwpAt P f a e ds w N E R X := by
  unfold mwpB at h
  exact mwpAt_of a e ds w _ E R X h
theorem mwpAt_sound (hm : P.follows .mixedOrders = true) (pl : Nat → Plan) : ∀ (c : Code) (a : Act) (e : Env) (ds : List Deferred) (w : World) (N : Env → List Deferred → World → Prop) (E : Nat → Env → List Deferred → World → Prop)
    (R : Env → List Deferred → World → Prop) (X : Env → List PanicEntry → List Deferred → World → Prop), plansOk pl c = true → fits n c = true → Rel a e n ds → mwpAt P f (strip pl c) e ds w N E R X → wpAt P f c (liftQ n N E R X) a w
  | .seq x y, a, e, ds, w, N, E, R, X, hp, hf, hr, h => by
    simp only [plansOk,fits,Bool.and_eq_true] at hp hf
    simp only [strip,mwpAt] at h
    refine wpAt_seq (wpAt_mono (mwpAt_sound hm pl x a e ds w _ _ _ _ hp.1 hf.1 hr h) fun ex a w hq => ?_)
    cases ex with
    | normal =>
      obtain ⟨e', hr', h'⟩ := hq
      exact mwpAt_sound hm pl y a e' a.defers w N E R X hp.2 hf.2 hr' h'
    | exit i => exact hq
    | goto i => exact hq
    | ret => exact hq
    | panic ch => exact hq
    | outgrown => exact hq
  | .block id b, a, e, ds, w, N, E, R, X, hp, hf, hr, h => by
    simp only [plansOk,fits] at hp hf
    simp only [strip,mwpAt] at h
    refine wpAt_block (wpAt_mono (mwpAt_sound hm pl b a e ds w _ _ _ _ hp hf hr h) fun ex a w hq => ?_)
    cases ex with
    | normal => exact hq
    | exit i =>
      obtain ⟨e', hr', h'⟩ := hq
      simp only [Exit.inBlock]
      by_cases hi : i = id
      · rw [if_pos hi] at h' ⊢; exact ⟨e', hr', h'⟩
      · rw [if_neg hi] at h' ⊢; exact ⟨e', hr', h'⟩
    | goto i => exact hq
    | ret => exact hq
    | panic ch => exact hq
    | outgrown => exact hq
  | .rangeFunc g ps A B, a, e, ds, w, N, E, R, X, hp, hf, hr, h => by
    simp only [strip,mwpAt] at h
    exact h n a hr hf
  | .skip, a, e, ds, w, N, E, R, X, hp, hf, hr, h => wpAt_of (mwp_sound hm pl _ a e ds w N E R X hp hf hr h)
  | .region id ops b, a, e, ds, w, N, E, R, X, hp, hf, hr, h => wpAt_of (mwp_sound hm pl _ a e ds w N E R X hp hf hr (by cases b <;> exact h))
  | .cond c x y, a, e, ds, w, N, E, R, X, hp, hf, hr, h => wpAt_of (mwp_sound hm pl _ a e ds w N E R X hp hf hr h)
  | .loop b, a, e, ds, w, N, E, R, X, hp, hf, hr, h => wpAt_of (mwp_sound hm pl _ a e ds w N E R X hp hf hr h)
  | .exit id, a, e, ds, w, N, E, R, X, hp, hf, hr, h => wpAt_of (mwp_sound hm pl _ a e ds w N E R X hp hf hr h)
  | .ret, a, e, ds, w, N, E, R, X, hp, hf, hr, h => wpAt_of (mwp_sound hm pl _ a e ds w N E R X hp hf hr h)
  | .scope .., _, _, _, _, _, _, _, _, _, _, _, h => h.elim
  | .label .., _, _, _, _, _, _, _, _, _, _, _, h => h.elim
  | .goto .., _, _, _, _, _, _, _, _, _, _, _, h => h.elim
  | .refuse .., _, _, _, _, _, _, _, _, _, _, _, h => h.elim
theorem callsAt_of_wp_marks {fn : Func} {c : Code} {args : Array Value} {w : World} {R : Ending → World → Prop} (hf : P.funcs[f]? = some fn) (hb : fn.body = some c)
    (h : wpAt P f c (bodyPostM Fence.wide 2 P fn R) { tmps := args ++ Array.replicate (fn.ntmps - args.size) undef, defers := [] } w) : CallsIn Fence.wide 2 P f args w R := by
  refine ⟨trivial, fun cs hr => ?_⟩
  let b : Frame := { (default : Frame) with fn := f, kind := .normal, roundOf := none }
  have henter : Frame.enter P f args .normal = b.atR { tmps := args ++ Array.replicate (fn.ntmps - args.size) undef, defers := [] } [.code c] := by
    simp [Frame.enter, Frame.atR, hf, hb, b]
  obtain ⟨e, a', w', hq, harr⟩ := h b [] cs rfl rfl
  rw [← henter] at harr
  cases e with
  | normal =>
    obtain ⟨e', w'', fr', hR, hs, hfn, hl⟩ := leaves_stepsInM a'.defers .returning w' { b.atR a' [] with mode := .returning } cs rfl rfl rfl hf rfl trivial hr hq
    exact ⟨e', w'', fr', hR, ComesIn.of_steps (StepsIn.trans harr (.one (calm_wide (fr := b.atR a' []) rfl) (stepR_end rfl))) hs, hfn, hl⟩
  | ret =>
    obtain ⟨todo, hs₀⟩ := harr.1 rfl
    obtain ⟨e', w'', fr', hR, hs, hfn, hl⟩ := leaves_stepsInM a'.defers .returning w' { b.atR a' todo with mode := .returning } cs rfl rfl rfl hf rfl trivial hr hq
    exact ⟨e', w'', fr', hR, ComesIn.of_steps hs₀ hs, hfn, hl⟩
  | panic chain =>
    obtain ⟨todo, hs₀⟩ := harr
    obtain ⟨e', w'', fr', hR, hs, hfn, hl⟩ := leaves_stepsInM a'.defers (.panicking chain) w' { b.atR a' todo with mode := .panicking chain } cs rfl rfl rfl hf rfl trivial hr hq
    exact ⟨e', w'', fr', hR, ComesIn.of_steps hs₀ hs, hfn, hl⟩
  | exit id => exact hq.elim
  | goto l => exact hq.elim
  | outgrown => exact ⟨.outgrown, w', b, hq, harr.resolve_left (by simp [b]), rfl, trivial⟩
theorem calls_of_mwpAt {fn : Func} {m : MC} {args : Array Value} {rs : List ResultVar} {w : World} {R : Ending → World → Prop} (hm : P.follows .mixedOrders = true) (hf : P.funcs[f]? = some fn) (pl : Nat → Plan)
    (hst : fn.body.map (strip pl) = some m) (hok : okB pl fn args.size = true) (hrs : fn.results.toList = rs)
    (h : mwpAt P f m (argEnv args.toList) [] w (fun e ds w => leaveM P rs R ds .returning e w) (fun _ _ _ _ => False) (fun e ds w => leaveM P rs R ds .returning e w) (fun e ch ds w => leaveM P rs R ds (.panicking ch) e w)) : Calls P f args w R := by
  subst hrs
  cases hb : fn.body with
  | none => rw [hb] at hst; cases hst
  | some c =>
    rw [hb] at hst
    simp only [Option.map_some,Option.some.injEq] at hst
    subst hst
    simp only [okB,hb,Bool.and_eq_true,decide_eq_true_eq] at hok
    obtain ⟨⟨hsz, hres⟩, hpl, hfit⟩ := hok
    refine (callsIn_wide (n := 2)).1 (callsAt_of_wp_marks hf hb (wpAt_mono (mwpAt_sound hm pl c _ (argEnv args.toList) [] w _ _ _ _ hpl hfit ?_ h) fun ex a w hq => ?_))
    · refine ⟨by simp; omega, fun t ht => ?_, rfl⟩
      simp only [argEnv]
      by_cases h1 : t < args.size
      · rw [Array.getElem?_append_left h1]; simp [h1]
      · simp [Array.getElem?_append, show ¬ t < args.size from h1, show t - args.size < fn.ntmps - args.size by omega]
    · cases ex with
      | normal =>
        obtain ⟨e, hr, hv⟩ := hq
        exact leaves_of_leaveM (fun t ht => getD_rel hr ht) hres a.defers _ w hv
      | ret =>
        obtain ⟨e, hr, hv⟩ := hq
        exact leaves_of_leaveM (fun t ht => getD_rel hr ht) hres a.defers _ w hv
      | exit i => obtain ⟨_, _, h⟩ := hq; exact h.elim
      | goto i => exact hq.elim
      | panic ch =>
        obtain ⟨e, hr, hv⟩ := hq
        exact leaves_of_leaveM hr hres a.defers _ w hv
      | outgrown => exact hq.elim
theorem wpAt_rangeFunc {g : Operand} {ps : Array Tmp} {assign body : Code} {Q : Exit → Act → World → Prop} {a : Act} {w : World}
    (h : ∃ (l : Nat) (mark : List Deferred) (w₁ : World) (d : Deferred) (w₁' : World) (gf : FuncId) (args : Array Value) (w₂ : World),
      (Instr.enterLoop f a.tmps ps assign body none).run P w = .ok (l, mark) w₁ ∧ (resolve a.eval (rangeCall g l) 0).run P w₁ = .ok d w₁' ∧ (invoke d.target d.args).run P w₁' = .ok (.enter gf args) w₂ ∧
      CallsIn Fence.wide 0 P gf args w₂ (rangePost Fence.wide 1 P l Q { a with defers := mark ++ a.defers })) : wpAt P f (.rangeFunc g ps assign body) Q a w := by
  intro b k cs hro hb
  obtain ⟨l, mark, w₁, d, w₁', gf, args, w₂, he, hres, hinv, hF, hcall⟩ := h
  rw [← hro, ← hb] at he
  have h0 : (lone (b.atR a (.code (.rangeFunc g ps assign body) :: k)) cs w).fenced P Fence.wide := fenced_lone (.inl trivial) (fun f' hf' => trivial) (room_wide _)
  have henter := stepR_rangeFunc (P := P) (b := b) (a := a) (k := k) (cs := cs) (w := w) he hres hinv
  obtain ⟨e, w₃, fr, hR, hsteps, hfn, hleave⟩ := hcall (b.atR { a with defers := mark ++ a.defers } (.inRangeFunc l :: k) :: cs) (room_wide _)
  cases e with
  | outgrown =>
    obtain ⟨a₀, w₀, hq⟩ := hR
    exact ⟨.outgrown, a₀, w₀, hq, .inr (Outgrown.of_steps (.one henter) hsteps)⟩
  | returned v =>
    have hl : (lone fr (b.atR { a with defers := mark ++ a.defers } (.inRangeFunc l :: k) :: cs) w₃).fenced P Fence.wide := fenced_leaving (n := 0) trivial (room_wide _) hleave
    obtain ⟨jump, w₄, hend, hj⟩ := hR
    have sback : StepsIn (Machine.fenced P Fence.wide) P (lone (b.atR a (.code (.rangeFunc g ps assign body) :: k)) cs w) (lone (b.atR { a with defers := mark ++ a.defers } ((jump.map Item.code).toList ++ k)) cs w₄) := by
      refine .head h0 henter (StepsIn.trans hsteps (.head hl ?_ (.one (calm_wide (fr := b.atR { a with defers := mark ++ a.defers } (.endRangeFunc l :: k)) rfl) (stepR_endRangeFunc hend))))
      rw [← finish_atR_inRangeFunc l v]; exact step_leave_returned hleave
    cases jump with
    | none => exact ⟨.normal, _, w₄, hj, sback⟩
    | some c =>
      obtain ⟨e', a'', w₅, hq, harr⟩ := hj b k cs hro trivial (room_wide _)
      exact ⟨e', a'', w₅, hq, .of_steps sback harr⟩
  | panicked chain =>
    have hl : (lone fr (b.atR { a with defers := mark ++ a.defers } (.inRangeFunc l :: k) :: cs) w₃).fenced P Fence.wide := fenced_leaving (n := 0) trivial (room_wide _) hleave
    refine ⟨.panic chain, _, w₃, hR, .inRangeFunc l :: k, .head h0 henter (StepsIn.trans hsteps (.one hl ?_))⟩
    rw [← Frame.raise_atR]; exact step_leave_panicked hleave
theorem mwpAt_rangeFunc {g : Operand} {ps : Array Tmp} {A B : Code} {e : Env} {ds : List Deferred} {w : World} {N : Env → List Deferred → World → Prop} {E : Nat → Env → List Deferred → World → Prop} {R : Env → List Deferred → World → Prop} {X : Env → List PanicEntry → List Deferred → World → Prop}
    {gf : FuncId} {first cap : Array Value} (hg : ev e g = .func (.func gf) first cap) (hok : okF P gf = true)
    (h : ∀ (n : Nat) (tmps : Array Value), tmps.size = n → (∀ t, t < n → tmps[t]? = some (e t)) → fits n (.rangeFunc g ps A B) = true →
      Calls P gf (first ++ #[.func (.yield (w.heap.size + 1)) #[] #[]] ++ cap) ((w.alloc (.deferred (some []))).alloc (.loop (loopRec f tmps ps A B w.heap.size))) fun en w3 =>
        (∃ v pend w4, en = .returned v ∧ (Instr.endLoop (w.heap.size + 1)).run P w3 = .ok pend w4 ∧ (match pend with
          | none => N e ({ target := .collected w.heap.size, args := #[] } :: ds) w4
          | some .ret => R e ({ target := .collected w.heap.size, args := #[] } :: ds) w4
          | some (.exit i) => E i e ({ target := .collected w.heap.size, args := #[] } :: ds) w4
          | _ => False)) ∨ ∃ ch, en = .panicked ch ∧ X e ch ({ target := .collected w.heap.size, args := #[] } :: ds) w3) : mwpAt P f (.raw (.rangeFunc g ps A B)) e ds w N E R X := by
  intro n a hr hf
  have hf0 := hf
  simp only [fits,Bool.and_eq_true] at hf
  obtain ⟨⟨⟨hf1, hf2⟩, hfA⟩, hfB⟩ := hf
  refine wpAt_rangeFunc ?_
  have hev : a.eval g = .func (.func gf) first cap := by rw [ev_eval hr hf1]; exact hg
  refine ⟨w.heap.size + 1, _, _, { target := .fn (.func gf) cap, args := first ++ #[.func (.yield (w.heap.size + 1)) #[] #[]] }, (w.alloc (.deferred (some []))).alloc (.loop (loopRec f a.tmps ps A B w.heap.size)), gf,
    first ++ #[.func (.yield (w.heap.size + 1)) #[] #[]] ++ cap, (w.alloc (.deferred (some []))).alloc (.loop (loopRec f a.tmps ps A B w.heap.size)), run_enterLoop_outer f a.tmps ps A B, ?_, ?_, ?_⟩
  · have hc : a.eval (.const (.func (.yield (w.heap.size + 1)) #[] #[])) = .func (.yield (w.heap.size + 1)) #[] #[] := rfl
    simp only [resolve,hev,List.map_toArray,List.map_cons,List.map_nil,hc]
    simp [loopRec, Deferred.ofValue]
  · simp only [invoke]
    exact okF_run hok _ _
  · refine (callsIn_wide (n := 0)).2 (Calls.mono (h n a.tmps hr.1 hr.2.1 hf0) fun en w3 hq => ?_)
    have hrel := rel_put_defer hr { target := .collected w.heap.size, args := #[] }
    have hds := hr.2.2
    subst hds
    have hrel' : Rel { tmps := a.tmps, defers := [{ target := Target.collected w.heap.size, args := #[] }] ++ a.defers } e n ([{ target := Target.collected w.heap.size, args := #[] }] ++ a.defers) := hrel
    rcases hq with ⟨v, pend, w4, he, hend, hq⟩ | ⟨ch, he, hq⟩
    · subst he
      refine ⟨pend, w4, hend, ?_⟩
      split at hq
      · exact ⟨e, hrel', hq⟩
      · exact wpIn_ret ⟨e, hrel', hq⟩
      · exact wpIn_exit ⟨e, hrel', hq⟩
      · exact hq.elim
    · subst he
      exact ⟨e, fun t ht => getD_rel hrel' ht, hq⟩
def roundPostX (P : Program) (l : Nat) (R : Ending → World → Prop) : Exit → Act → World → Prop
  | .panic ch, a, w => a.defers = [] ∧ R (.panicked ch) w
  | e, a, w => roundPost P l R e a w
theorem roundIn_of_wpInX {l : Nat} {fn : Func} {tmps : Array Value} {assign body : Code} {w : World} {R : Ending → World → Prop} (hfn : P.funcs[f]? = some fn)
    (h : assign.wpIn (WR (some l)) 1 P (Exit.then (fun a₁ w₁ => ∃ w₂, (Instr.beginRound l).run P w₁ = .ok () w₂ ∧ body.wpIn (WR (some l)) 1 P (roundPostX P l R) a₁ w₂) (fun _ _ _ => False)) { tmps := tmps, defers := [] } w) :
    RoundIn Fence.wide 1 P l f tmps assign body w R := by
  refine ⟨trivial, fun c cs hr => ?_⟩
  let b : Frame := { (default : Frame) with fn := f, kind := .normal, roundOf := some l }
  have hb0 : Frame.round l f tmps assign body .normal = b.atR { tmps := tmps, defers := [] } [.code assign, .beginRound, .code body] := by
    simp [Frame.round, Frame.atR, b]
  obtain ⟨e, a₁, w₁, hq, harr⟩ := h b [.beginRound, .code body] (c :: cs) rfl trivial (room_wide _)
  rw [← hb0] at harr
  cases e with
  | normal =>
    obtain ⟨w₂, hbr, hbody⟩ := hq
    have s1 : StepsIn (Machine.fenced P Fence.wide) P (lone (b.atR a₁ [.beginRound, .code body]) (c :: cs) w₁) (lone (b.atR a₁ [.code body]) (c :: cs) w₂) :=
      .one (calm_wide (fr := b.atR a₁ [.beginRound, .code body]) rfl) (stepR_beginRound rfl hbr)
    obtain ⟨e₂, a₂, w₃, hq₂, harr₂⟩ := hbody b [] (c :: cs) rfl trivial (room_wide _)
    cases e₂ with
    | normal =>
      obtain ⟨v, w₄, hend, hR⟩ := hq₂
      exact ⟨.returned v, w₄, hR, (StepsIn.trans harr s1).trans (StepsIn.trans harr₂ (.one (calm_wide (fr := b.atR a₂ []) rfl) (stepR_round_end rfl rfl hend)))⟩
    | ret =>
      obtain ⟨v, w₄, hend, hR⟩ := hq₂
      obtain ⟨k₁, hs⟩ := harr₂.2 rfl
      exact ⟨.returned v, w₄, hR, (StepsIn.trans harr s1).trans (StepsIn.trans hs (.one (calm_wide (fr := b.atR a₂ (.code .ret :: k₁)) rfl) (stepR_round_ret rfl rfl hend)))⟩
    | exit id =>
      obtain ⟨v, w₄, hend, hR⟩ := hq₂
      obtain ⟨k₁, hk, hs⟩ := harr₂.2 rfl rfl
      exact ⟨.returned v, w₄, hR, (StepsIn.trans harr s1).trans (StepsIn.trans hs (.one (calm_wide (fr := b.atR a₂ (.code (.exit id) :: k₁)) rfl) (stepR_round_exit rfl rfl hk hend)))⟩
    | goto t =>
      obtain ⟨v, w₄, hend, hR⟩ := hq₂
      obtain ⟨k₁, hk, hs⟩ := harr₂.2 rfl rfl
      exact ⟨.returned v, w₄, hR, (StepsIn.trans harr s1).trans (StepsIn.trans hs (.one (calm_wide (fr := b.atR a₂ (.code (.goto t) :: k₁)) rfl) (stepR_round_goto rfl rfl hk hend)))⟩
    | panic chain =>
      obtain ⟨hd, hR⟩ := hq₂
      obtain ⟨todo, hs⟩ := harr₂
      have hleave : Frame.leaving P { b.atR a₂ todo with mode := .panicking chain } w₃ (.panicked chain) := ⟨rfl, hd, fn, hfn⟩
      have hl : (lone { b.atR a₂ todo with mode := .panicking chain } (c :: cs) w₃).fenced P Fence.wide := fenced_leaving (n := 0) trivial (room_wide _) hleave
      exact ⟨.panicked chain, w₃, hR, (StepsIn.trans harr s1).trans (StepsIn.trans hs (.one hl (step_leave_panicked hleave)))⟩
    | outgrown => exact hq₂.elim
  | exit id => exact hq.elim
  | goto t => exact hq.elim
  | ret => exact hq.elim
  | panic chain => exact hq.elim
  | outgrown => exact hq.elim
theorem yieldAt_roundX {l : Nat} {r : Loop} {fn : Func} {args : Array Value} {W : World} {e0 : Env} {n : Nat} {g : Operand} {pl : Nat → Plan} {R : Ending → World → Prop} (hm : P.follows .mixedOrders = true) (hl : W.heap[l]? = some (.loop r)) (hfn : P.funcs[r.fn]? = some fn)
    (hsz : args.size = r.params.size) (hn : r.tmps.size = n) (ht : ∀ t, t < n → r.tmps[t]? = some (e0 t)) (hf : fits n (.rangeFunc g r.params r.assign r.body) = true)
    (hokA : noDefer r.assign = true ∧ plansOk pl r.assign = true) (hokB : noDefer r.body = true ∧ plansOk pl r.body = true)
    (h : mwp P (strip pl r.assign) (setPs e0 r.params.toList args.toList) [] W
      (fun e1 ds1 W1 => ds1 = [] ∧ ∃ r1, W1.heap[l]? = some (.loop r1) ∧ r1.state = .ready ∧ mwp P (strip pl r.body) e1 [] (W1.putObj l (.loop { r1 with state := .busy }))
        (fun _ _ W2 => ∃ r2, W2.heap[l]? = some (.loop r2) ∧ R (.returned (.bool true)) (W2.putObj l (.loop { r2 with state := .ready, pending := none })))
        (fun i _ _ W2 => ∃ r2, W2.heap[l]? = some (.loop r2) ∧ R (.returned (.bool false)) (W2.putObj l (.loop { r2 with state := .done, pending := some (.exit i) })))
        (fun _ _ W2 => ∃ r2, W2.heap[l]? = some (.loop r2) ∧ R (.returned (.bool false)) (W2.putObj l (.loop { r2 with state := .done, pending := some .ret })))
        (fun _ ch ds W2 => ds = [] ∧ R (.panicked ch) W2))
      (fun _ _ _ _ => False) (fun _ _ _ => False) (fun _ _ _ _ => False)) : YieldAt Fence.wide 1 P l args W R := by
  simp only [fits,Bool.and_eq_true] at hf
  obtain ⟨⟨⟨hf1, hf2⟩, hfA⟩, hfB⟩ := hf
  have hpsn : ∀ p ∈ r.params.toList, p < n := fun p hp => by
    rw [Array.all_eq_true_iff_forall_mem] at hf2
    simpa using hf2 p (by simpa using hp)
  have hrs : Rel { tmps := (r.params.zip args).foldl (fun t (p, v) => t.setIfInBounds p v) r.tmps, defers := [] } (setPs e0 r.params.toList args.toList) n [] := by
    have hz : (r.params.zip args).toList = r.params.toList.zip args.toList := by simp
    have := rel_setPs (n := n) (r.params.toList.zip args.toList) r.tmps e0 hn ht fun p hp => hpsn p.1 (List.of_mem_zip (show (p.1, p.2) ∈ _ from hp)).1
    refine ⟨?_, ?_, rfl⟩
    · show ((r.params.zip args).foldl (fun t p => t.setIfInBounds p.1 p.2) r.tmps).size = n
      rw [← Array.foldl_toList, hz]; exact this.1
    · show ∀ t, t < n → ((r.params.zip args).foldl (fun t p => t.setIfInBounds p.1 p.2) r.tmps)[t]? = _
      rw [← Array.foldl_toList, hz]; exact this.2
  refine ⟨r.fn, _, r.assign, r.body, run_yield hl hsz, roundIn_of_wpInX hfn (wpIn_mono (mwpIn_sound (ro := some l) (m := 0) hm pl r.assign _ _ [] W _ _ _ _ hokA.1 hokA.2 hfA hrs h) fun ex a' W' hq => ?_)⟩
  cases ex with
  | normal =>
    obtain ⟨e', hr', hd', r1, hb', hst1, hbody⟩ := hq
    refine ⟨_, run_beginRound hb' hst1, wpIn_mono (mwpIn_sound (ro := some l) (m := 0) hm pl r.body a' e' [] _ _ _ _ _ hokB.1 hokB.2 hfB (by rw [hd'] at hr'; exact hr') hbody) fun ex a2 W2 hq2 => ?_⟩
    cases ex with
    | normal =>
      obtain ⟨_, _, r2, hl2, hR⟩ := hq2
      exact ⟨_, _, run_endRound none hl2, hR⟩
    | ret =>
      obtain ⟨_, _, r2, hl2, hR⟩ := hq2
      exact ⟨_, _, run_endRound (some .ret) hl2, hR⟩
    | exit i =>
      obtain ⟨_, _, r2, hl2, hR⟩ := hq2
      exact ⟨_, _, run_endRound (some (.exit i)) hl2, hR⟩
    | goto i => exact hq2.elim
    | panic ch =>
      obtain ⟨_, _, hd, hR⟩ := hq2
      exact ⟨hd, hR⟩
    | outgrown => exact hq2.elim
  | exit i => obtain ⟨_, _, h⟩ := hq; exact h.elim
  | goto i => exact hq.elim
  | ret => obtain ⟨_, _, h⟩ := hq; exact h.elim
  | panic ch => obtain ⟨_, _, h⟩ := hq; exact h.elim
  | outgrown => exact hq.elim
end
end Go.Proofs.YthcdnjbhhaonhaaGreatDoor
