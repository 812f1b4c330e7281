/- Ranges over a function, in the evaluator. -/
import Derived.Test.YtcglagkhnegbbaaGreatMwIn
namespace Go.Proofs.YtcglagkhnegbbaaGreat
open Go.RowKit

/-- The parameters of a round, set. -/
def setPs (e : Env) (ps : List Tmp) (vs : List Value) : Env := (ps.zip vs).foldl (fun e p => upd e p.1 p.2) e

theorem rel_setPs {n : Nat} : ∀ (l : List (Tmp × Value)) (tmps : Array Value) (e : Env), tmps.size = n → (∀ t, t < n → tmps[t]? = some (e t)) → (∀ p ∈ l, p.1 < n) →
    (l.foldl (fun t p => t.setIfInBounds p.1 p.2) tmps).size = n ∧ ∀ t, t < n → (l.foldl (fun t p => t.setIfInBounds p.1 p.2) tmps)[t]? = some (l.foldl (fun e p => upd e p.1 p.2) e t)
  | [], tmps, e, h1, h2, _ => ⟨h1, h2⟩
  | (p, v) :: l, tmps, e, h1, h2, h3 => by
    refine rel_setPs l _ _ (by simpa using h1) (fun t ht => ?_) fun q hq => h3 q (by simp [hq])
    have hp := h3 (p, v) (by simp)
    by_cases htp : t = p
    · subst htp; simp [upd, h1, ht]
    · rw [Array.getElem?_setIfInBounds_ne (Ne.symm htp), h2 t ht]; simp [upd, htp]

theorem act_of_rel {a : Act} {e : Env} {n : Nat} {ds : List Deferred} (h : Rel a e n ds) : a = { tmps := Array.ofFn (n := n) fun t => e t, defers := ds } := by
  obtain ⟨tmps, defers⟩ := a
  obtain ⟨h1, h2, h3⟩ := h
  simp only at h1 h2 h3
  subst h3
  congr 1
  refine Array.ext (by simp [h1]) fun i hi _ => ?_
  have := h2 i (by omega)
  rw [Array.getElem?_eq_getElem hi] at this
  simpa using this

/-- A range over a function, whose rounds go on to the end. -/
theorem mwpB_rf {P : Program} (hm : P.follows .mixedOrders = true) {rf A B : Code} {g : Operand} {ps : Array Tmp} (hrf : rf = .rangeFunc g ps A B) {pl : Nat → Plan} (hokA : (plansOk pl A && noDefer A) = true) (hokB : (plansOk pl B && noDefer B) = true)
    {ma mb : MC} (hsA : strip pl A = ma) (hsB : strip pl B = mb) {e : Env} {ds : List Deferred} {w : World} {N : Env → List Deferred → World → Prop} {E : Nat → Env → List Deferred → World → Prop} {R : Env → List Deferred → World → Prop} {X : Env → List PanicEntry → List Deferred → World → Prop} {tk}
    {gf : Nat} {lb : Array Value} (hg : ev e g = .func (.func gf) #[] lb) (hok : okF P gf = true)
    {α : Type} {encs : α → Array Value} {Kp : World → World → Prop} {S Sp : List α → Prop} {NN : Nat} (hseq : SeqStopsK Fence.wide 2 P gf lb encs Kp S Sp NN w)
    (hKt : ∀ {A B C : World}, Kp A B → Kp B C → Kp A C) (hKb : ∀ (W : World) (l : Nat) (o o' : Obj), w.heap.size ≤ l → W.heap[l]? = some o → o.isCells = false → Kp W (W.putObj l o')) (hps : ∀ x, (encs x).size = ps.size)
    (I : List α → World → Prop) (hI : OwnFrom w.heap.size I) (h0 : I [] w) (ea : α → Env)
    (hassign : ∀ x W, mwpB P ma (setPs e ps.toList (encs x).toList) [] W (fun e' ds' W' => e' = ea x ∧ ds' = [] ∧ W' = W) (fun _ _ _ _ => False) (fun _ _ _ => False) (fun _ _ _ _ => False) ⟨⟩)
    (hbody : ∀ pre x W, I pre W → pre.length < NN → mwpB P mb (ea x) [] W (fun _ _ W' => KeepsOthers W W' ∧ Kp W W' ∧ I (pre ++ [x]) W') (fun _ _ _ _ => False) (fun _ _ _ => False) (fun _ _ _ _ => False) ⟨⟩)
    (hdone : ∀ (D : Nat) (xs : List α) (W : World), w.heap.size ≤ D → S xs → I xs W → W.heap[D]? = some (.deferred (some [])) → N e ({ target := .collected D, args := #[] } :: ds) W) : mwpB P (.raw rf) e ds w N E R X tk := by
  subst hrf
  unfold mwpB at hassign hbody ⊢
  intro n a hr hf
  subst hsA
  subst hsB
  simp only [fits, Bool.and_eq_true] at hf
  obtain ⟨⟨⟨hf1, hf2⟩, hfA⟩, hfB⟩ := hf
  simp only [Bool.and_eq_true] at hokA hokB
  have hpsn : ∀ p ∈ ps.toList, p < n := fun p hp => by
    rw [Array.all_eq_true_iff_forall_mem] at hf2
    simpa using hf2 p (by simpa using hp)
  have hrel : ∀ x, Rel { tmps := Array.ofFn (n := n) fun t => ea x t, defers := [] } (ea x) n [] := fun x => ⟨by simp, fun t ht => by simp [ht], rfl⟩
  refine wpIn_wide.1 (wpIn_rangeFunc_ownF (F := Fence.wide) (n := 3) (w0 := w) rfl (by omega) (by rw [ev_eval hr hf1]; exact hg) trivial (fun args w => okF_run hok args w) hseq hKt (fun W l o o' h1 h2 h3 _ => hKb W l o o' h1 h2 h3) (Below.refl _ _) hps
    I (fun _ _ _ => False) hI (fun _ _ _ _ _ h => h.elim) h0 (fun x => { tmps := Array.ofFn (n := n) fun t => ea x t, defers := [] }) ?_ ?_ ?_ (fun _ _ _ _ _ _ h => h.elim))
  · intro l x W K hK
    have hrs : Rel { tmps := (ps.zip (encs x)).foldl (fun t (p, v) => t.setIfInBounds p v) a.tmps, defers := [] } (setPs e ps.toList (encs x).toList) n [] := by
      have hz : (ps.zip (encs x)).toList = ps.toList.zip (encs x).toList := by simp
      have := rel_setPs (n := n) (ps.toList.zip (encs x).toList) a.tmps e hr.1 hr.2.1 fun p hp => hpsn p.1 (List.of_mem_zip (show (p.1, p.2) ∈ _ from hp)).1
      refine ⟨?_, ?_, rfl⟩
      · show ((ps.zip (encs x)).foldl (fun t p => t.setIfInBounds p.1 p.2) a.tmps).size = n
        rw [← Array.foldl_toList, hz]; exact this.1
      · show ∀ t, t < n → ((ps.zip (encs x)).foldl (fun t p => t.setIfInBounds p.1 p.2) a.tmps)[t]? = _
        rw [← Array.foldl_toList, hz]; exact this.2
    refine wpIn_mono (mwpIn_sound (ro := some l) (m := 0) hm pl A _ _ [] W _ _ _ _ hokA.2 hokA.1 hfA hrs (hassign x W)) fun ex a' W' hq => ?_
    cases ex with
    | normal =>
      obtain ⟨e', hr', he', hd', hw'⟩ := hq
      subst he'
      subst hw'
      have := act_of_rel hr'
      rw [hd'] at this
      show K a' W'
      rw [this]; exact hK
    | exit i => obtain ⟨_, _, h⟩ := hq; exact h
    | goto i => exact hq
    | ret => obtain ⟨_, _, h⟩ := hq; exact h
    | panic ch => obtain ⟨_, _, h⟩ := hq; exact h
    | outgrown => exact hq
  · intro l pre x W hi hlen
    refine wpIn_mono (mwpIn_sound (ro := some l) (m := 0) hm pl B _ _ [] W _ _ _ _ hokB.2 hokB.1 hfB (hrel x) (hbody pre x W hi hlen)) fun ex a' W' hq => ?_
    cases ex with
    | normal => obtain ⟨_, _, h⟩ := hq; exact h
    | exit i => obtain ⟨_, _, h⟩ := hq; exact h.elim
    | goto i => exact hq.elim
    | ret => obtain ⟨_, _, h⟩ := hq; exact h.elim
    | panic ch => obtain ⟨_, _, h⟩ := hq; exact h.elim
    | outgrown => exact hq.elim
  · intro D xs W hD hS hi hk
    refine ⟨e, ?_, ?_⟩
    · rw [hr.2.2]
      have := rel_put_defer hr { target := .collected D, args := #[] }
      rwa [hr.2.2] at this
    · have := hdone D xs W hD hS hi hk
      rw [← hr.2.2] at this
      exact this

end Go.Proofs.YtcglagkhnegbbaaGreat
