/- Closed runs: what is known of functions from elsewhere (hooks). -/
import Derived.Test.YtdkdibeimeaakabGreatDoorQsMwRunH

namespace Go.Proofs.YtdkdibeimeaakabGreatDoor
open Go.RowKit
noncomputable section
set_option linter.unusedVariables false
set_option linter.unusedSimpArgs false
section
variable {P : Program} {w0 : World} {σ : Nat → Option Ent} {η : Nat → Value} {A : AW} {w w' : World}
theorem Inv.extd (h : Inv w0 σ η A w) (hx : Ext w w') : Inv w0 σ η A w' := by
  refine ⟨h.ext.trans hx, h.fresh, h.rsv, fun j r hj => ?_, h.sep, h.mp.keep (Sub.refl _) fun k o ho _ => hx.block k ?_⟩
  · obtain ⟨x, cur, h1, h2, h3, h4, h5⟩ := h.row j r hj
    exact ⟨x, cur, h1, h2, h3, (hx.block x.b (Array.getElem?_eq_some_iff.1 h4).1).trans h4, h5⟩
  · exact (Array.getElem?_eq_some_iff.1 ho).1
theorem Step.extd (h : Inv w0 σ η A w) (hx : Ext w w') : Step σ σ A A w w' := by
  refine ⟨Sub.refl _, rfl, fun j r x hj hs => ⟨r, hj, Nat.le_refl _, fun _ => ?_⟩⟩
  obtain ⟨y, cur, h1, h2, h3, h4, h5⟩ := h.row j r hj
  rw [hs] at h1
  cases h1
  exact hx.block x.b (Array.getElem?_eq_some_iff.1 h4).1
def HookAt (P : Program) (w0 : World) (η : Nat → Value) (f : FuncId) (σ : Nat → Option Ent) (A : AW) (w : World) (as' : List Value) : CRes → Prop
  | .fail => True
  | .ret v A' => Calls P f as'.toArray w fun en w' => ∃ v' σ', en = .returned v' ∧ VR σ' η v v' ∧ Inv w0 σ' η A' w' ∧ Step σ σ' A A' w w'
  | .pan v A' => Calls P f as'.toArray w fun en w' => ∃ v' σ', en = .panicked [{ v := v', recovered := false }] ∧ VR σ' η v v' ∧ Inv w0 σ' η A' w' ∧ Step σ σ' A A' w w'
  | .alt _ _ => False
def OneOK (P : Program) (w0 : World) (η : Nat → Value) (f : FuncId) (h : List Value → AW → CRes) : Prop := ∀ (as : List Value) (A : AW) (σ : Nat → Option Ent) (w : World) (as' : List Value), Inv w0 σ η A w → VRs σ η as as' → HookAt P w0 η f σ A w as' (h as A)
def onH (f : FuncId) (h : List Value → AW → CRes) (ho : HookT) : HookT := fun g as A => if Nat.beq g f = true then h as A else ho g as A
theorem onH_ok {f : FuncId} {h : List Value → AW → CRes} {ho : HookT} (h1 : OneOK P w0 η f h) (h2 : HookOK P w0 η ho) : HookOK P w0 η (onH f h ho) := by
  intro g as A σ w as' hI hV
  unfold onH
  by_cases hg : Nat.beq g f = true
  · have hgf := Nat.eq_of_beq_eq_true hg
    subst hgf
    rw [if_pos hg]
    have := h1 as A σ w as' hI hV
    cases hq : h as A with
    | fail => trivial
    | ret v A' => rw [hq] at this; exact this
    | pan v A' => rw [hq] at this; exact this
    | alt a b => rw [hq] at this; exact this
  · rw [if_neg hg]
    exact h2 g as A σ w as' hI hV
theorem HookAt.plain {f : FuncId} {as' : List Value} {v : Value} (h : Inv w0 σ η A w) (hv : VR σ η v v) (hc : Calls P f as'.toArray w fun e w' => e = .returned v ∧ Ext w w') : HookAt P w0 η f σ A w as' (.ret v A) :=
  hc.mono fun e w' ⟨he, hx⟩ => ⟨v, σ, he, hv, h.extd hx, Step.extd h hx⟩
def strsA : List Value → Option (List ByteArray)
  | [] => some []
  | .string s :: r => (strsA r).map (s :: ·)
  | _ => none
end
end
end Go.Proofs.YtdkdibeimeaakabGreatDoor
