/- The evaluator inside a round of a range over a function; such ranges; functions that leave with marks of them. -/
import Derived.Test.YtdkdibeimeaakabGreatDoorQsMwOps
import Derived.OrdersIn
import Derived.TacticsIn
import Derived.RangeFuncFrom
import Derived.RangeFuncLeaves
import Derived.RecoverIn

namespace Go.Proofs.YtdkdibeimeaakabGreatDoor
open Go.RowKit
def WR (ro : Option Nat) : Fence := { Fence.wide with round := ro }
section
variable {P : Program} {n : Nat} {ro : Option Nat} {ops : Array Oper} {Q : Exit → Act → World → Prop}
theorem op_in {m : Nat} {o : Oper} {a : Act} {w : World} {K K' : Act → World → Prop} (hd : noDeferO o = true) (hK : ∀ a w, K a w → K' a w) (h : o.wpIn Fence.wide (m + 1) P a w K Q) : o.wpIn (WR ro) (n + 1) P a w K' Q := by
  have hd' : ∀ c, o.op ≠ .defer c := fun c e => by simp [noDeferO, e] at hd
  refine ⟨fun _ _ => trivial, ?_⟩
  have h := h.2
  rw [Oper.semAt_eq _ _ _ hd'] at h ⊢
  generalize (execOp a.eval o).run P w = r at *
  cases r with
  | ok x w' =>
    cases x <;> simp only [Oper.uponIn] at h ⊢
    case value v => exact hK _ _ h
    case skip => exact hK _ _ h
    case defer d => exact hK _ _ h
    case enter f args =>
      refine ⟨fun h => by simp [WR, Fence.wide] at h, show CallsIn Fence.wide _ P f args w' _ from (callsIn_wide).2 (Calls.mono (callsIn_wide.1 h.2) fun en w'' he => ?_)⟩
      cases en with
      | returned v => exact hK _ _ he
      | panicked ch => exact he
      | outgrown => exact he
    case row row args =>
      refine ⟨fun h => by simp [WR, Fence.wide] at h, fun c cs _ => ?_⟩
      obtain ⟨v, w', r, s⟩ := h.2 c cs (room_wide _)
      exact ⟨v, w', hK _ _ r, s⟩
    case round l f tmps assign body =>
      refine ⟨fun h => by simp [WR, Fence.wide] at h, trivial, fun c cs _ => ?_⟩
      obtain ⟨e, w', r, s⟩ := h.2.2 c cs (room_wide _)
      refine ⟨e, w', ?_, s⟩
      cases e with
      | returned v => exact hK _ _ r
      | panicked ch => exact r
      | outgrown => exact r
  | halt x w' =>
    cases x <;> simp only [Oper.uponIn] at h ⊢ <;> exact h
theorem list_in {m : Nat} : ∀ (l : List Oper) (a : Act) (w : World), (∀ o ∈ l, noDeferO o = true) → wpListIn Fence.wide (m + 1) P ops Q l a w → wpListIn (WR ro) (n + 1) P ops Q l a w
  | [], a, w, _, h => h
  | o :: l, a, w, hd, h => by
    simp only [wpListIn] at h ⊢
    have hl : ∀ o ∈ l, noDeferO o = true := fun x hx => hd x (by simp [hx])
    split
    · rename_i hw
      rw [if_pos hw] at h
      exact op_in (hd o (by simp)) (fun a w hk => list_in l a w hl hk) h
    · rename_i hw
      rw [if_neg hw] at h
      exact ⟨fun _ _ => trivial, list_in l _ _ hl h.2⟩
theorem any_in {m : Nat} {md : Region.Mode} (hd : ops.all noDeferO = true) : ∀ (fuel : Nat) (listed : Array Bool) (a : Act) (w : World), wpAnyIn Fence.wide (m + 1) P md ops Q fuel listed a w → wpAnyIn (WR ro) (n + 1) P md ops Q fuel listed a w
  | 0, listed, a, w, h => h
  | fuel + 1, listed, a, w, h => by
    refine ⟨h.1, fun i hi => ?_⟩
    have h2 := h.2 i hi
    unfold wpOpIn at h2 ⊢
    cases ho : ops[i]? with
    | none =>
      rw [ho] at h2
      exact any_in hd fuel _ _ _ h2
    | some o =>
      rw [ho] at h2
      simp only at h2 ⊢
      have hod : noDeferO o = true := by
        rw [Array.all_eq_true_iff_forall_mem] at hd
        exact hd o (Array.mem_of_getElem? ho)
      split
      · rename_i hw
        rw [if_pos hw] at h2
        exact op_in hod (fun a w hk => any_in hd fuel _ a w hk) h2
      · rename_i hw
        rw [if_neg hw] at h2
        exact ⟨fun _ _ => trivial, any_in hd fuel _ _ _ h2.2⟩
end
theorem wpIn_loop_rel {F : Fence} {n : Nat} {P : Program} {σ : Type} {c : Code} {Q : Exit → Act → World → Prop} {a : Act} {w : World} (I : σ → Act → World → Prop) (μ : σ → World → Nat) {s : σ} (h₀ : I s a w)
    (round : ∀ s a w, I s a w → c.wpIn F n P (Exit.then (fun a' w' => ∃ s', I s' a' w' ∧ μ s' w' < μ s w) Q) a w) : (Code.loop c).wpIn F n P Q a w := by
  intro b k cs hro hb hr
  have key : ∀ j s a w, μ s w = j → I s a w →
      ∃ e a' w', Q e a' w' ∧ ArrivesIn (Machine.fenced P F) P (lone (b.atR a (.code c :: .inLoop c :: k)) cs w) b k cs e a' w' := by
    intro j
    induction j using Nat.strongRecOn with
    | _ j ih =>
      intro s a w hn hI
      obtain ⟨e, a₁, w₁, hq, harr⟩ := round s a w hI b (.inLoop c :: k) cs hro hb hr
      cases e with
      | normal =>
        obtain ⟨s₁, hI₁, hlt⟩ := hq
        obtain ⟨e₂, a₂, w₂, hq₂, harr₂⟩ := ih (μ s₁ w₁) (hn ▸ hlt) s₁ a₁ w₁ rfl hI₁
        exact ⟨e₂, a₂, w₂, hq₂, .of_steps (StepsIn.trans harr (.one (fenced_calm hb hr rfl) stepR_inLoop)) harr₂⟩
      | exit id => exact ⟨_, a₁, w₁, hq, .pass (x := .inLoop c) rfl (fun _ _ => .inl (by simp)) harr⟩
      | goto l => exact ⟨_, a₁, w₁, hq, .pass (x := .inLoop c) rfl (fun _ _ => .inl (by simp)) harr⟩
      | ret => exact ⟨_, a₁, w₁, hq, .pass (x := .inLoop c) rfl (fun _ _ => .inl (by simp)) harr⟩
      | panic ch => exact ⟨_, a₁, w₁, hq, .pass (x := .inLoop c) rfl (fun _ _ => .inl (by simp)) harr⟩
      | outgrown => exact ⟨_, a₁, w₁, hq, .pass (x := .inLoop c) rfl (fun _ _ => .inl (by simp)) harr⟩
  obtain ⟨e, a', w', hq, harr⟩ := key _ s a w rfl h₀
  exact ⟨e, a', w', hq, .of_steps (.one (fenced_calm hb hr rfl) stepR_loop) harr⟩
section
variable {P : Program} {n : Nat}
theorem mwpIn_sound {ro : Option Nat} {m : Nat} (hm : P.follows .mixedOrders = true) (pl : Nat → Plan) : ∀ (c : Code) (a : Act) (e : Env) (ds : List Deferred) (w : World) (N : Env → List Deferred → World → Prop) (E : Nat → Env → List Deferred → World → Prop)
    (R : Env → List Deferred → World → Prop) (X : Env → List PanicEntry → List Deferred → World → Prop), noDefer c = true → plansOk pl c = true → fits n c = true → Rel a e n ds → mwp P (strip pl c) e ds w N E R X → c.wpIn (WR ro) (m + 1) P (liftQ n N E R X) a w
  | .skip, a, e, ds, w, N, E, R, X, _, _, _, hr, h => wpIn_skip ⟨e, by rw [hr.2.2]; exact hr, by rw [hr.2.2]; exact h⟩
  | .region id ops b, a, e, ds, w, N, E, R, X, hn, hp, hf, hr, h => by
    have hX : ∀ e ch a w, Rel a e n a.defers → X e ch a.defers w → liftQ n N E R X (.panic ch) a w := fun e ch a w hr hx => ⟨e, fun t ht => getD_rel hr ht, hx⟩
    have hN : ∀ e a w, Rel a e n a.defers → N e a.defers w → liftQ n N E R X .normal a w := fun e a w h1 h2 => ⟨e, h1, h2⟩
    simp only [fits] at hf
    simp only [noDefer] at hn
    cases b with
    | false =>
      simp only [strip] at h
      exact wpIn_region_list (list_in _ _ _ (fun o ho => Array.all_eq_true_iff_forall_mem.1 hn o (by simpa using ho)) (reg_sound hX hN ops.toList a e ds w (fun o ho => Array.all_eq_true_iff_forall_mem.1 hf o (by simpa using ho)) hr h))
    | true =>
      simp only [strip,mwp,if_true] at h
      obtain ⟨S, hS, h⟩ := h
      simp only [plansOk,Bool.not_true,Bool.false_or,Bool.and_eq_true] at hp
      refine wpIn_mono (wpIn_region_any hm (any_in hn _ _ _ _ (wpAny_of_T _ _ _ _ ((plan_sound (Q := drawQ n N E R X) hp.1.1 hf hp.1.2 (fun ch a w => Iff.rfl) hN (pl id) false _ a e ds w.drew (fun _ => hS) ?_ hr h).1 hp.2 ops.size (cnt_replicate _))))) (fun ex a w hq => drawQ_lift ex a w hq)
      intro j o ho hj
      simp only [Array.getD_eq_getD_getElem?,Array.getElem?_replicate] at hj
      split at hj <;> simp at hj
  | .seq x y, a, e, ds, w, N, E, R, X, hn, hp, hf, hr, h => by
    simp only [noDefer,plansOk,fits,Bool.and_eq_true] at hn hp hf
    simp only [strip,mwp] at h
    refine wpIn_seq (wpIn_mono (mwpIn_sound hm pl x a e ds w _ _ _ _ hn.1 hp.1 hf.1 hr h) fun ex a w hq => ?_)
    cases ex with
    | normal =>
      obtain ⟨e', hr', h'⟩ := hq
      exact mwpIn_sound hm pl y a e' a.defers w N E R X hn.2 hp.2 hf.2 hr' h'
    | exit i => exact hq
    | goto i => exact hq
    | ret => exact hq
    | panic ch => exact hq
    | outgrown => exact hq
  | .cond c x y, a, e, ds, w, N, E, R, X, hn, hp, hf, hr, h => by
    simp only [noDefer,plansOk,fits,Bool.and_eq_true] at hn hp hf
    simp only [strip,mwp] at h
    rcases h with ⟨hc, h⟩ | ⟨hc, h⟩
    · exact wpIn_cond_true (by rw [ev_eval hr hf.1.1]; exact hc) (mwpIn_sound hm pl x a e ds w N E R X hn.1 hp.1 hf.1.2 hr h)
    · exact wpIn_cond_false (by rw [ev_eval hr hf.1.1]; exact hc) (mwpIn_sound hm pl y a e ds w N E R X hn.2 hp.2 hf.2 hr h)
  | .block id b, a, e, ds, w, N, E, R, X, hn, hp, hf, hr, h => by
    simp only [noDefer,plansOk,fits] at hn hp hf
    simp only [strip,mwp] at h
    refine wpIn_block (wpIn_mono (mwpIn_sound hm pl b a e ds w _ _ _ _ hn hp hf hr h) fun ex a w hq => ?_)
    cases ex with
    | normal => exact hq
    | exit i =>
      obtain ⟨e', hr', h'⟩ := hq
      simp only [Exit.inBlock]
      by_cases hi : i = id
      · rw [if_pos hi] at h' ⊢; exact ⟨e', hr', h'⟩
      · rw [if_neg hi] at h' ⊢; exact ⟨e', hr', h'⟩
    | goto i => exact hq
    | ret => exact hq
    | panic ch => exact hq
    | outgrown => exact hq
  | .loop b, a, e, ds, w, N, E, R, X, hn, hp, hf, hr, h => by
    simp only [noDefer,plansOk,fits] at hn hp hf
    simp only [strip,mwp] at h
    obtain ⟨I, μ, hI, hstep⟩ := h
    refine wpIn_loop_rel (fun (s : Env × List Deferred) a w => s.2 = a.defers ∧ Rel a s.1 n a.defers ∧ I s.1 a.defers w) (fun s w => μ s.1 s.2 w) (s := (e, a.defers)) ⟨rfl, by rw [hr.2.2]; exact hr, by rw [hr.2.2]; exact hI⟩ fun s a w hs => ?_
    refine wpIn_mono (mwpIn_sound hm pl b a s.1 a.defers w _ _ _ _ hn hp hf hs.2.1 (hstep s.1 a.defers w hs.2.2)) fun ex a w hq => ?_
    cases ex with
    | normal =>
      obtain ⟨e', hr', h'⟩ := hq
      exact ⟨(e', _), ⟨rfl, hr', h'.1⟩, by rw [hs.1]; exact h'.2⟩
    | exit i => exact hq
    | goto i => exact hq
    | ret => exact hq
    | panic ch => exact hq
    | outgrown => exact hq
  | .exit id, a, e, ds, w, N, E, R, X, _, _, _, hr, h => wpIn_exit ⟨e, by rw [hr.2.2]; exact hr, by rw [hr.2.2]; exact h⟩
  | .ret, a, e, ds, w, N, E, R, X, _, _, _, hr, h => wpIn_ret ⟨e, by rw [hr.2.2]; exact hr, by rw [hr.2.2]; exact h⟩
  | .rangeFunc .., _, _, _, _, _, _, _, _, hn, _, _, _, _ => by simp [noDefer] at hn
  | .scope .., _, _, _, _, _, _, _, _, _, _, _, _, h => h.elim
  | .label .., _, _, _, _, _, _, _, _, _, _, _, _, h => h.elim
  | .goto .., _, _, _, _, _, _, _, _, _, _, _, _, h => h.elim
  | .refuse .., _, _, _, _, _, _, _, _, _, _, _, _, h => h.elim
def endW (P : Program) (rs : List ResultVar) : List Deferred → Env → World → (Value → World → Prop) → Prop
  | [], e, w, Q => resW P rs e w fun v => Q v w
  | d :: ds, e, w, Q => ∃ r w', d.target = .collected r ∧ (Instr.takeDeferred r).run P w = .ok [] w' ∧ endW P rs ds e w' Q
def leaveW (P : Program) (rs : List ResultVar) (R : Ending → World → Prop) : List Deferred → FrameMode → Env → World → Prop
  | [], .returning, e, w => resW P rs e w fun v => R (.returned v) w
  | [], .panicking ch, _, w => R (.panicked ch) w
  | [], .run, _, _ => False
  | d :: ds, u, e, w => u ≠ .run ∧ ∃ fv cap f args, d.target = .fn fv cap ∧ (invoke d.target d.args).run P w = .ok (.enter f args) w ∧ CallsDIn Fence.wide 1 P f args u w fun
      | .returned _, u', w' => leaveW P rs R ds (settle u') e w'
      | .panicked ch, u', w' => leaveW P rs R ds (raised u' ch) e w'
      | .outgrown, _, w' => R .outgrown w'
theorem callsD_mono {F : Fence} {n : Nat} {f : FuncId} {args : Array Value} {u : FrameMode} {w : World} {R R' : Ending → FrameMode → World → Prop} (h : CallsDIn F n P f args u w R) (hr : ∀ e u w, R e u w → R' e u w) : CallsDIn F n P f args u w R' :=
  ⟨h.1, fun c cs hc hroom => let ⟨e, u', w', fr, r, x⟩ := h.2 c cs hc hroom; ⟨e, u', w', fr, hr _ _ _ r, x⟩⟩
theorem leaves_of_leaveW {fn : Func} {tmps : Array Value} {e : Env} {R : Ending → World → Prop} {n : Nat} (hr : ∀ t, t < n → tmps.getD t undef = e t) (hf : resFits n fn.results.toList = true) : ∀ (ds : List Deferred) (u : FrameMode) (w : World),
    leaveW P fn.results.toList R ds u e w → LeavesIn Fence.wide 2 P fn tmps R ds u w
  | [], u, w, h => by
    cases u with
    | returning =>
      obtain ⟨v, h1, h2⟩ := resT_sound (a := { tmps := tmps, defers := [] }) hr hf h
      exact ⟨v, h1, h2⟩
    | panicking ch => exact h
    | run => exact h.elim
  | d :: ds, u, w, h => by
    obtain ⟨hu, fv, cap, f, args, h1, h2, h3⟩ := h
    refine ⟨hu, fun h => by simp [Fence.wide] at h, fv, cap, f, args, h1, h2, fun _ _ => trivial, callsD_mono h3 fun ex u' w' hq => ?_⟩
    cases ex with
    | returned v => exact leaves_of_leaveW hr hf ds _ w' hq
    | panicked ch => exact leaves_of_leaveW hr hf ds _ w' hq
    | outgrown => exact hq
end
attribute [irreducible] endW leaveW
end Go.Proofs.YtdkdibeimeaakabGreatDoor
