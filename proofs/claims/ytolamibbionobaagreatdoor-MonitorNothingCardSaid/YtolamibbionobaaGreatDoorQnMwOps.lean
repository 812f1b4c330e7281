/- The equations of the evaluator, one for each form, for 'simp only'. -/
import Derived.Test.YtolamibbionobaaGreatDoorQnMwBase
import Derived.Below
import Derived.OneCell

namespace Go.Proofs.YtolamibbionobaaGreatDoor
open Go.RowKit
universe u v x y
structure Tk1 {A : Sort u} (a : A) : Type where mk ::
structure Tk2 {A : Sort u} {B : Sort v} (a : A) (b : B) : Type where mk ::
structure Tk4 {A : Sort u} {B : Sort v} {C : Sort x} {D : Sort y} (a : A) (b : B) (c : C) (d : D) : Type where mk ::
def Blk (A : Prop) (_ : Tk1 A) : Prop := A
def mwpB (P : Program) (c : MC) (e : Env) (ds : List Deferred) (w : World) (N : Env → List Deferred → World → Prop) (E : Nat → Env → List Deferred → World → Prop) (R : Env → List Deferred → World → Prop)
    (X : Env → List PanicEntry → List Deferred → World → Prop) (_ : Tk4 N E R X) : Prop := mwp P c e ds w N E R X
def regB (P : Program) (l : List MO) (e : Env) (ds : List Deferred) (w : World) (K : Env → List Deferred → World → Prop) (X : Env → List PanicEntry → List Deferred → World → Prop) (_ : Tk2 K X) : Prop := regW P l e ds w K X
def opB (P : Program) (o : MO) (e : Env) (ds : List Deferred) (w : World) (K : Value → List Deferred → World → Prop) (X : List PanicEntry → List Deferred → World → Prop) (_ : Tk2 K X) : Prop := opW P o e ds w K X
def planB (P : Program) (S : World → Prop) (p : MP) (e : Env) (ds : List Deferred) (w : World) (K : Env → List Deferred → World → Prop) (X : List PanicEntry → List Deferred → World → Prop) (_ : Tk2 K X) : Prop := planW P S p e ds w K X
def softB (P : Program) (S : World → Prop) (o : MO) (e : Env) (k : Value → Prop) (_ : Tk1 k) : Prop := softW P S o e k
def convB (P : Program) (t t' : TypeId) (v : Value) (k : Value → Prop) (alt : Prop) (_ : Tk1 k) : Prop := convK P t t' v k alt
def lenB (o : Option Value) (k : Value → Prop) (alt : Prop) (_ : Tk1 k) : Prop := lenK o k alt
def oB {α : Type} (o : Option α) (k : α → Prop) (_ : Tk1 k) : Prop := oK o k
def mcB (P : Program) (f : FuncId) (args : Array Value) (w : World) (K : Value → World → Prop) (X : List PanicEntry → World → Prop) (_ : Tk2 K X) : Prop := MCalls P f args w K X
def mcfB (P : Program) (f : FuncId) (args : Array Value) (w : World) (K : Value → World → Prop) (X : List PanicEntry → World → Prop) (_ : Tk2 K X) : Prop := MCallF P f args w K X
def cvB (P : Program) (fv : Value) (args : Array Value) (w : World) (K : Value → World → Prop) (X : List PanicEntry → World → Prop) (_ : Tk2 K X) : Prop := callV P fv args w K X fun g as => MCallF P g as w K X
def vB {α : Type} (v : α) (k : α → Prop) (_ : Tk1 k) : Prop := k v
def condW (v : Value) (A B : Prop) : Prop := (v = .bool true ∧ A) ∨ (v = .bool false ∧ B)
def iteW (c : Bool) (A B : Prop) : Prop := if c = true then A else B
def guardW (v : Value) (b : Bool) (A B : Prop) : Prop := if (match v with | .bool c => c == b | _ => false) = true then A else B
theorem Blk.of {A : Prop} {t : Tk1 A} (h : A) : Blk A t := h
def appB (P : Program) (t t' ty : TypeId) (x y : Value) (ds : List Deferred) (w : World) (KV : Value → List Deferred → World → Prop) (_ : Tk1 KV) : Prop :=
  ∃ v' w', (Builtin.append_ #[t, t'] ty #[x, y]).run P w = .ok v' w' ∧ KV v' ds w'
theorem appB.mk {P : Program} {t t' ty : TypeId} {x y : Value} {ds : List Deferred} {w : World} {KV : Value → List Deferred → World → Prop} {tk : Tk1 KV} {v' : Value} {w' : World}
    (h : (Builtin.append_ #[t, t'] ty #[x, y]).run P w = .ok v' w') (hk : KV v' ds w') : appB P t t' ty x y ds w KV tk := ⟨v', w', h, hk⟩
def copB (P : Program) (t t' ty : TypeId) (x y : Value) (ds : List Deferred) (w : World) (KV : Value → List Deferred → World → Prop) (_ : Tk1 KV) : Prop :=
  ∃ v' w', (Builtin.copy_ #[t, t'] ty #[x, y]).run P w = .ok v' w' ∧ KV v' ds w'
theorem copB.mk {P : Program} {t t' ty : TypeId} {x y : Value} {ds : List Deferred} {w : World} {KV : Value → List Deferred → World → Prop} {tk : Tk1 KV} {v' : Value} {w' : World}
    (h : (Builtin.copy_ #[t, t'] ty #[x, y]).run P w = .ok v' w') (hk : KV v' ds w') : copB P t t' ty x y ds w KV tk := ⟨v', w', h, hk⟩
section
variable {P : Program} {e e' : Env} {ds : List Deferred} {w : World} {N : Env → List Deferred → World → Prop} {E : Nat → Env → List Deferred → World → Prop} {R : Env → List Deferred → World → Prop}
  {X : List PanicEntry → List Deferred → World → Prop} {Y : Env → List PanicEntry → List Deferred → World → Prop} {K : Env → List Deferred → World → Prop} {KV : Value → List Deferred → World → Prop} {S : World → Prop}
variable {d : Option Tmp} {ty : TypeId} {g : Option (Option Tmp × Bool)} {tk : Tk2 KV X}
variable {k : Value → Prop} {tk1 : Tk1 k}
end
section
variable {P : Program} {t : TypeId} {k : IntKind} {a b : Int} {x y : Value}
end
theorem MCalls.of {P : Program} {f : FuncId} {args : Array Value} {w : World} {Q : Value → World → Prop} {K : Value → World → Prop} {X : List PanicEntry → World → Prop}
    (h : Calls P f args w fun e w' => ∃ v, e = .returned v ∧ Q v w') (hk : ∀ v w', Q v w' → K v w') : MCalls P f args w K X :=
  Calls.mono h fun e w' ⟨v, he, hq⟩ => by subst he; exact hk v w' hq
def Rets (P : Program) (f : FuncId) (args : Array Value) (w : World) (Q : Value → World → Prop) : Prop := Calls P f args w fun e w' => ∃ v, e = .returned v ∧ Q v w'
theorem Rets.use {P : Program} {f : FuncId} {args : Array Value} {w : World} {Q : Value → World → Prop} {K : Value → World → Prop} {X : List PanicEntry → World → Prop}
    {tk : Tk2 K X} (h : Rets P f args w Q) (hk : ∀ v w', Q v w' → K v w') : mcB P f args w K X tk := MCalls.of h hk
theorem Rets.mono {P : Program} {f : FuncId} {args : Array Value} {w : World} {Q Q' : Value → World → Prop} (h : Rets P f args w Q) (hk : ∀ v w', Q v w' → Q' v w') : Rets P f args w Q' :=
  Calls.mono h fun _ w' ⟨v, he, hq⟩ => ⟨v, he, hk v w' hq⟩
def endR (Q : Value → World → Prop) (X : List PanicEntry → World → Prop) : Ending → World → Prop
  | .returned v, w => Q v w
  | .panicked ch, w => X ch w
  | .outgrown, _ => False
def Ends (P : Program) (f : FuncId) (args : Array Value) (w : World) (Q : Value → World → Prop) (X : List PanicEntry → World → Prop) : Prop := Calls P f args w (endR Q X)
theorem Ends.use {P : Program} {f : FuncId} {args : Array Value} {w : World} {Q : Value → World → Prop} {X' : List PanicEntry → World → Prop} {K : Value → World → Prop} {X : List PanicEntry → World → Prop}
    {tk : Tk2 K X} (h : Ends P f args w Q X') (hk : ∀ v w', Q v w' → K v w') (hx : ∀ ch w', X' ch w' → X ch w') : mcB P f args w K X tk := by
  unfold mcB MCalls
  refine Calls.mono h fun e w' he => ?_
  cases e with
  | returned v => exact hk _ _ he
  | panicked ch => exact hx _ _ he
  | outgrown => exact he.elim
def Ext (w w' : World) : Prop := Below w.heap.size w w'
theorem Ext.refl (w : World) : Ext w w := Below.refl _ _
theorem Ext.trans {a b c : World} (h : Ext a b) (k : Ext b c) : Ext a c := Below.trans h (Below.mono k h.size)
theorem Ext.alloc (w : World) (o : Obj) : Ext w (w.alloc o) := (Below.refl _ _).alloc (Nat.le_refl _) o
theorem Ext.drew (w : World) : Ext w w.drew := (Below.refl _ _).drew
theorem Ext.alloc' {w w' : World} (h : Ext w w') (o : Obj) : Ext w (w'.alloc o) := h.trans (Ext.alloc _ _)
theorem Ext.drew' {w w' : World} (h : Ext w w') : Ext w w'.drew := h.trans (Ext.drew _)
theorem Ext.setCell {w w' : World} (h : Ext w w') {p : Addr} (hp : w.heap.size ≤ p.block) (u : Value) : Ext w (w'.setCell p u) := Below.setCell h hp u
theorem Ext.le {w w' : World} (h : Ext w w') : w.heap.size ≤ w'.heap.size := h.size
theorem Ext.cell {w w' : World} (h : Ext w w') {a : Addr} {v : Value} (hc : w.cell? a = some v) : w'.cell? a = some v :=
  (Below.cell h (World.block_lt_of_cell? w a hc)).trans hc
theorem MCalls.mono {P : Program} {f : FuncId} {args : Array Value} {w : World} {K K' : Value → World → Prop} {X : List PanicEntry → World → Prop} (h : ∀ v w, K v w → K' v w) (hk : MCalls P f args w K X) : MCalls P f args w K' X :=
  Calls.mono hk fun e w' he => by cases e <;> first | exact h _ _ he | exact he
def softE (P : Program) (w0 : World) (o : MO) (e : Env) (k : Value → Prop) (_ : Tk1 k) : Prop :=
  if wantedW e o.g = true then
    (match o.op with
    | .load t x => oK (loadV P w0 t (ev e x)) k
    | op => oK (pureV P (ev e) op) k)
  else k undef
def planE (P : Program) (w0 : World) : MP → Env → List Deferred → World → (Env → List Deferred → World → Prop) → (List PanicEntry → List Deferred → World → Prop) → Prop
  | .done, e, ds, w, K, _ => K e ds w
  | .none, _, _, _, _, _ => True
  | .take o r, e, ds, w, K, X => softE P w0 o e (fun v => planE P w0 r (updO e o.d v) ds w K X) ⟨⟩
  | .alt o r m, e, ds, w, K, X =>
    (if wantedW e o.g = true then opW P o e ds w (fun v ds w => Ext w0 w ∧ planE P w0 r (updO e o.d v) ds w K X) X else planE P w0 r (updO e o.d undef) ds w K X) ∧
      planE P w0 m e ds w K X
  | .altL o r m, e, ds, w, K, X =>
    (if wantedW e o.g = true then opW P o e ds w (fun v ds w => planE P w0 r (updO e o.d v) ds w K X) X else planE P w0 r (updO e o.d undef) ds w K X) ∧
      planE P w0 m e ds w K X
def planEB (P : Program) (w0 : World) (p : MP) (e : Env) (ds : List Deferred) (w : World) (K : Env → List Deferred → World → Prop) (X : List PanicEntry → List Deferred → World → Prop) (_ : Tk2 K X) : Prop := planE P w0 p e ds w K X
section
variable {P : Program} {w0 : World} {e : Env} {ds : List Deferred} {w : World} {N : Env → List Deferred → World → Prop} {E : Nat → Env → List Deferred → World → Prop} {R : Env → List Deferred → World → Prop}
  {X : List PanicEntry → List Deferred → World → Prop} {Y : Env → List PanicEntry → List Deferred → World → Prop} {K : Env → List Deferred → World → Prop} {k : Value → Prop}
variable {S : World → Prop} {d : Option Tmp} {ty : TypeId} {tk1 : Tk1 k}
end
attribute [irreducible] mwpB regB opB planB planEB softB softE oB mcB mcfB cvB vB convB lenB appB copB condW iteW guardW Blk Rets Ends
end Go.Proofs.YtolamibbionobaaGreatDoor
