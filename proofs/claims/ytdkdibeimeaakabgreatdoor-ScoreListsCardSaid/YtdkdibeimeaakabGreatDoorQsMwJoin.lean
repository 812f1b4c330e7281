/- Two branches that come together: what holds behind both. -/
import Derived.Test.YtdkdibeimeaakabGreatDoorQsMwSet

namespace Go.Proofs.YtdkdibeimeaakabGreatDoor
open Go.RowKit
theorem softW_mono {P : Program} {S : World → Prop} {o : MO} {e : Env} {k k' : Value → Prop} (h : ∀ v, k v → k' v) (hk : softW P S o e k) : softW P S o e k' := by
  unfold softW at hk ⊢
  split at hk
  · rename_i hw
    rw [if_pos hw]
    split at hk
    · obtain ⟨v, h1, h2⟩ := hk
      exact ⟨v, h1, h v h2⟩
    · exact oK_mono h hk
  · rename_i hw
    rw [if_neg hw]
    exact h _ hk
theorem regW_mono {P : Program} {K K' : Env → List Deferred → World → Prop} {X : Env → List PanicEntry → List Deferred → World → Prop} (h : ∀ e ds w, K e ds w → K' e ds w) :
    ∀ (l : List MO) (e : Env) (ds : List Deferred) (w : World), regW P l e ds w K X → regW P l e ds w K' X
  | [], _, _, _, hk => h _ _ _ hk
  | o :: l, e, ds, w, hk => by
    simp only [regW] at hk ⊢
    split at hk
    · rename_i hw
      rw [if_pos hw]
      exact opW_mono (fun v ds w hr => regW_mono h l _ _ _ hr) hk
    · rename_i hw
      rw [if_neg hw]
      exact regW_mono h l _ _ _ hk
theorem planW_mono {P : Program} {S : World → Prop} {K K' : Env → List Deferred → World → Prop} {X : List PanicEntry → List Deferred → World → Prop} (h : ∀ e ds w, K e ds w → K' e ds w) :
    ∀ (p : MP) (e : Env) (ds : List Deferred) (w : World), planW P S p e ds w K X → planW P S p e ds w K' X
  | .done, _, _, _, hk => h _ _ _ hk
  | .none, _, _, _, hk => trivial
  | .take o r, e, ds, w, hk => by
    simp only [planW] at hk ⊢
    exact softW_mono (fun v hr => planW_mono h r _ _ _ hr) hk
  | .alt o r m, e, ds, w, hk => by
    simp only [planW] at hk ⊢
    refine ⟨?_, planW_mono h m _ _ _ hk.2⟩
    have h1 := hk.1
    split at h1
    · rename_i hw
      rw [if_pos hw]
      exact opW_mono (fun v ds w hr => ⟨hr.1, planW_mono h r _ _ _ hr.2⟩) h1
    · rename_i hw
      rw [if_neg hw]
      exact planW_mono h r _ _ _ h1
  | .altL o r m, e, ds, w, hk => by
    simp only [planW] at hk ⊢
    refine ⟨?_, planW_mono h m _ _ _ hk.2⟩
    have h1 := hk.1
    split at h1
    · rename_i hw
      rw [if_pos hw]
      exact opW_mono (fun v ds w hr => planW_mono h r _ _ _ hr) h1
    · rename_i hw
      rw [if_neg hw]
      exact planW_mono h r _ _ _ h1
theorem liftQ_mono {n : Nat} {N N' : Env → List Deferred → World → Prop} {E E' : Nat → Env → List Deferred → World → Prop} {R : Env → List Deferred → World → Prop} {X : Env → List PanicEntry → List Deferred → World → Prop}
    (hN : ∀ e ds w, N e ds w → N' e ds w) (hE : ∀ i e ds w, E i e ds w → E' i e ds w) (x : Exit) (a : Act) (w : World) (h : liftQ n N E R X x a w) : liftQ n N' E' R X x a w := by
  cases x <;> simp only [liftQ] at h ⊢
  · obtain ⟨e, h1, h2⟩ := h; exact ⟨e, h1, hN _ _ _ h2⟩
  · obtain ⟨e, h1, h2⟩ := h; exact ⟨e, h1, hE _ _ _ _ h2⟩
  · exact h
  · exact h
theorem mwp_mono {P : Program} {R : Env → List Deferred → World → Prop} {X : Env → List PanicEntry → List Deferred → World → Prop} : ∀ (c : MC) (e : Env) (ds : List Deferred) (w : World)
    (N N' : Env → List Deferred → World → Prop) (E E' : Nat → Env → List Deferred → World → Prop), (∀ e ds w, N e ds w → N' e ds w) → (∀ i e ds w, E i e ds w → E' i e ds w) → mwp P c e ds w N E R X → mwp P c e ds w N' E' R X
  | .skip, _, _, _, _, _, _, _, hN, _, h => hN _ _ _ h
  | .ops l, _, _, _, _, _, _, _, hN, _, h => regW_mono hN l _ _ _ h
  | .draw p, _, _, _, _, _, _, _, hN, _, h => by
    obtain ⟨S, h1, h2⟩ := h
    exact ⟨S, h1, planW_mono hN p _ _ _ h2⟩
  | .seq a b, _, _, _, _, _, _, _, hN, hE, h => mwp_mono a _ _ _ _ _ _ _ (fun e ds w hb => mwp_mono b _ _ _ _ _ _ _ hN hE hb) hE h
  | .cond c a b, _, _, _, _, _, _, _, hN, hE, h => by
    rcases h with ⟨h1, h2⟩ | ⟨h1, h2⟩
    · exact .inl ⟨h1, mwp_mono a _ _ _ _ _ _ _ hN hE h2⟩
    · exact .inr ⟨h1, mwp_mono b _ _ _ _ _ _ _ hN hE h2⟩
  | .block id b, _, _, _, _, _, _, _, hN, hE, h => by
    refine mwp_mono b _ _ _ _ _ _ _ hN (fun i e ds w hi => ?_) h
    split at hi
    · rename_i hc; rw [if_pos hc]; exact hN _ _ _ hi
    · rename_i hc; rw [if_neg hc]; exact hE _ _ _ _ hi
  | .loop b, _, _, _, _, _, _, _, hN, hE, h => by
    obtain ⟨I, μ, h1, h2⟩ := h
    exact ⟨I, μ, h1, fun e ds w hi => mwp_mono b _ _ _ _ _ _ _ (fun _ _ _ hk => hk) hE (h2 e ds w hi)⟩
  | .exit id, _, _, _, _, _, _, _, _, hE, h => hE _ _ _ _ h
  | .ret, _, _, _, _, _, _, _, _, _, h => h
  | .raw c, _, _, _, _, _, _, _, hN, hE, h => fun n a h1 h2 => Code.wp_mono (liftQ_mono hN hE) (h n a h1 h2)
  | .bad, _, _, _, _, _, _, _, _, _, h => h
section
variable {P : Program} {e : Env} {ds : List Deferred} {w : World} {N : Env → List Deferred → World → Prop} {E : Nat → Env → List Deferred → World → Prop} {R : Env → List Deferred → World → Prop} {Y : Env → List PanicEntry → List Deferred → World → Prop}
end
theorem planEB_two {P : Program} {w0 : World} {e : Env} {ds : List Deferred} {w : World} {K : Env → List Deferred → World → Prop} {X : List PanicEntry → List Deferred → World → Prop} (d : Option Tmp) (op : Op) (ty : TypeId) (r m : MP) (t) :
    planEB P w0 (.alt ⟨d, op, ty, none⟩ r m) e ds w K X t = (opB P ⟨d, op, ty, none⟩ e ds w (fun v ds w => Ext w0 w ∧ planEB P w0 r (updO e d v) ds w K X ⟨⟩) X ⟨⟩ ∧ planEB P w0 m e ds w K X ⟨⟩) := by
  unfold planEB opB
  simp [planE, wantedW]
def headM : Nat → MC → MC
  | 0, _ => .skip
  | n + 1, .seq a b => .seq a (headM n b)
  | _ + 1, c => c
def tailM : Nat → MC → MC
  | 0, c => c
  | n + 1, .seq _ b => tailM n b
  | _ + 1, _ => .skip
theorem headM_zero (c : MC) : headM 0 c = .skip := rfl
theorem headM_seq (n : Nat) (a b : MC) : headM (n + 1) (.seq a b) = .seq a (headM n b) := rfl
theorem tailM_zero (c : MC) : tailM 0 c = c := rfl
theorem tailM_seq (n : Nat) (a b : MC) : tailM (n + 1) (.seq a b) = tailM n b := rfl
theorem mwp_cut {P : Program} {N I R : Env → List Deferred → World → Prop} {E : Nat → Env → List Deferred → World → Prop} {X : Env → List PanicEntry → List Deferred → World → Prop} : ∀ (n : Nat) (c : MC) (e : Env) (ds : List Deferred) (w : World),
    mwp P (headM n c) e ds w I E R X → (∀ e ds w, I e ds w → mwp P (tailM n c) e ds w N E R X) → mwp P c e ds w N E R X
  | 0, c, e, ds, w, h1, h2 => h2 _ _ _ h1
  | n + 1, c, e, ds, w, h1, h2 => by
    cases c with
    | seq a b => exact mwp_mono a _ _ _ _ _ _ _ (fun e ds w hb => mwp_cut n b e ds w hb h2) (fun _ _ _ _ h => h) h1
    | _ => exact mwp_mono _ _ _ _ _ _ _ _ (fun e ds w hi => h2 _ _ _ hi) (fun _ _ _ _ h => h) h1
section
variable {P : Program} {e : Env} {ds : List Deferred} {w : World} {N : Env → List Deferred → World → Prop} {E : Nat → Env → List Deferred → World → Prop} {R : Env → List Deferred → World → Prop} {Y : Env → List PanicEntry → List Deferred → World → Prop}
theorem mwpB_cut {c : MC} {t} (n : Nat) (I : Env → List Deferred → World → Prop) (h1 : mwpB P (headM n c) e ds w I E R Y ⟨⟩) (h2 : ∀ e ds w, I e ds w → mwpB P (tailM n c) e ds w N E R Y ⟨⟩) : mwpB P c e ds w N E R Y t := by
  unfold mwpB at h1 h2 ⊢
  exact mwp_cut n c e ds w h1 h2
end
end Go.Proofs.YtdkdibeimeaakabGreatDoor
