/- The equations of the evaluator, one for each form, for 'simp only'. -/
import Derived.Test.YtdkdibeimeaakabGreatDoorQsMwBase
import Derived.Below
import Derived.OneCell

namespace Go.Proofs.YtdkdibeimeaakabGreatDoor
open Go.RowKit
universe u v x y
structure Tk1 {A : Sort u} (a : A) : Type where mk ::
structure Tk2 {A : Sort u} {B : Sort v} (a : A) (b : B) : Type where mk ::
structure Tk4 {A : Sort u} {B : Sort v} {C : Sort x} {D : Sort y} (a : A) (b : B) (c : C) (d : D) : Type where mk ::
def Blk (A : Prop) (_ : Tk1 A) : Prop := A
def mwpB (P : Program) (c : MC) (e : Env) (ds : List Deferred) (w : World) (N : Env → List Deferred → World → Prop) (E : Nat → Env → List Deferred → World → Prop) (R : Env → List Deferred → World → Prop)
    (X : Env → List PanicEntry → List Deferred → World → Prop) (_ : Tk4 N E R X) : Prop := mwp P c e ds w N E R X
def regB (P : Program) (l : List MO) (e : Env) (ds : List Deferred) (w : World) (K : Env → List Deferred → World → Prop) (X : Env → List PanicEntry → List Deferred → World → Prop) (_ : Tk2 K X) : Prop := regW P l e ds w K X
def opB (P : Program) (o : MO) (e : Env) (ds : List Deferred) (w : World) (K : Value → List Deferred → World → Prop) (X : List PanicEntry → List Deferred → World → Prop) (_ : Tk2 K X) : Prop := opW P o e ds w K X
def planB (P : Program) (S : World → Prop) (p : MP) (e : Env) (ds : List Deferred) (w : World) (K : Env → List Deferred → World → Prop) (X : List PanicEntry → List Deferred → World → Prop) (_ : Tk2 K X) : Prop := planW P S p e ds w K X
def softB (P : Program) (S : World → Prop) (o : MO) (e : Env) (k : Value → Prop) (_ : Tk1 k) : Prop := softW P S o e k
def convB (P : Program) (t t' : TypeId) (v : Value) (k : Value → Prop) (alt : Prop) (_ : Tk1 k) : Prop := convK P t t' v k alt
def lenB (o : Option Value) (k : Value → Prop) (alt : Prop) (_ : Tk1 k) : Prop := lenK o k alt
theorem lenB_some (v : Value) (k : Value → Prop) (alt : Prop) (t : Tk1 k) : lenB (some v) k alt t = k v := rfl
def oB {α : Type} (o : Option α) (k : α → Prop) (_ : Tk1 k) : Prop := oK o k
def mcB (P : Program) (f : FuncId) (args : Array Value) (w : World) (K : Value → World → Prop) (X : List PanicEntry → World → Prop) (_ : Tk2 K X) : Prop := MCalls P f args w K X
def mcfB (P : Program) (f : FuncId) (args : Array Value) (w : World) (K : Value → World → Prop) (X : List PanicEntry → World → Prop) (_ : Tk2 K X) : Prop := MCallF P f args w K X
def cvB (P : Program) (fv : Value) (args : Array Value) (w : World) (K : Value → World → Prop) (X : List PanicEntry → World → Prop) (_ : Tk2 K X) : Prop := callV P fv args w K X fun g as => MCallF P g as w K X
def vB {α : Type} (v : α) (k : α → Prop) (_ : Tk1 k) : Prop := k v
theorem vB_eq {α : Type} (v : α) (k : α → Prop) (t : Tk1 k) : vB v k t = k v := rfl
theorem oB_some {α : Type} (v : α) (k : α → Prop) (t : Tk1 k) : oB (some v) k t = k v := rfl
theorem oB_ite {α : Type} (c : Prop) [Decidable c] (o : Option α) (k : α → Prop) (t : Tk1 k) : oB (if c then o else none) k t = (c ∧ oB o k t) := oK_ite c o k
def condW (v : Value) (A B : Prop) : Prop := (v = .bool true ∧ A) ∨ (v = .bool false ∧ B)
def iteW (c : Bool) (A B : Prop) : Prop := if c = true then A else B
def guardW (v : Value) (b : Bool) (A B : Prop) : Prop := if (match v with | .bool c => c == b | _ => false) = true then A else B
theorem condW_true (A B : Prop) (t : Tk1 A) : condW (.bool true) (Blk A t) B = A := by simp [condW, Blk]
theorem condW_false (A B : Prop) (t : Tk1 B) : condW (.bool false) A (Blk B t) = B := by simp [condW, Blk]
theorem condW_bool (c : Bool) (A B : Prop) : condW (.bool c) A B = iteW c A B := by cases c <;> simp [condW, iteW]
theorem iteW_true (A B : Prop) (t : Tk1 A) : iteW true (Blk A t) B = A := by simp [iteW, Blk]
theorem iteW_false (A B : Prop) (t : Tk1 B) : iteW false A (Blk B t) = B := by simp [iteW, Blk]
theorem iteW_not (c : Bool) (A B : Prop) : iteW (!c) A B = iteW c B A := by cases c <;> simp [iteW]
theorem guardW_true (c : Bool) (A B : Prop) : guardW (.bool c) true A B = iteW c A B := by cases c <;> simp [guardW, iteW]
theorem guardW_false (c : Bool) (A B : Prop) : guardW (.bool c) false A B = iteW c B A := by cases c <;> simp [guardW, iteW]
theorem guardW_undef (b : Bool) (A B : Prop) (t : Tk1 B) : guardW undef b A (Blk B t) = B := by simp [guardW, undef, Blk]
theorem Blk.of {A : Prop} {t : Tk1 A} (h : A) : Blk A t := h
def appB (P : Program) (t t' ty : TypeId) (x y : Value) (ds : List Deferred) (w : World) (KV : Value → List Deferred → World → Prop) (_ : Tk1 KV) : Prop :=
  ∃ v' w', (Builtin.append_ #[t, t'] ty #[x, y]).run P w = .ok v' w' ∧ KV v' ds w'
theorem appB.mk {P : Program} {t t' ty : TypeId} {x y : Value} {ds : List Deferred} {w : World} {KV : Value → List Deferred → World → Prop} {tk : Tk1 KV} {v' : Value} {w' : World}
    (h : (Builtin.append_ #[t, t'] ty #[x, y]).run P w = .ok v' w') (hk : KV v' ds w') : appB P t t' ty x y ds w KV tk := ⟨v', w', h, hk⟩
def copB (P : Program) (t t' ty : TypeId) (x y : Value) (ds : List Deferred) (w : World) (KV : Value → List Deferred → World → Prop) (_ : Tk1 KV) : Prop :=
  ∃ v' w', (Builtin.copy_ #[t, t'] ty #[x, y]).run P w = .ok v' w' ∧ KV v' ds w'
theorem copB.mk {P : Program} {t t' ty : TypeId} {x y : Value} {ds : List Deferred} {w : World} {KV : Value → List Deferred → World → Prop} {tk : Tk1 KV} {v' : Value} {w' : World}
    (h : (Builtin.copy_ #[t, t'] ty #[x, y]).run P w = .ok v' w') (hk : KV v' ds w') : copB P t t' ty x y ds w KV tk := ⟨v', w', h, hk⟩
section
variable {P : Program} {e e' : Env} {ds : List Deferred} {w : World} {N : Env → List Deferred → World → Prop} {E : Nat → Env → List Deferred → World → Prop} {R : Env → List Deferred → World → Prop}
  {X : List PanicEntry → List Deferred → World → Prop} {Y : Env → List PanicEntry → List Deferred → World → Prop} {K : Env → List Deferred → World → Prop} {KV : Value → List Deferred → World → Prop} {S : World → Prop}
theorem mwpB_skip (t) : mwpB P .skip e ds w N E R Y t = N e ds w := rfl
theorem mwpB_ops (l : List MO) (t) : mwpB P (.ops l) e ds w N E R Y t = regB P l e ds w N Y ⟨⟩ := rfl
theorem mwpB_seq (a b : MC) (t) : mwpB P (.seq a b) e ds w N E R Y t = mwpB P a e ds w (fun e ds w => mwpB P b e ds w N E R Y ⟨⟩) E R Y ⟨⟩ := rfl
theorem mwpB_cond (c : Operand) (a b : MC) (t) : mwpB P (.cond c a b) e ds w N E R Y t = condW (ev e c) (Blk (mwpB P a e ds w N E R Y ⟨⟩) ⟨⟩) (Blk (mwpB P b e ds w N E R Y ⟨⟩) ⟨⟩) := rfl
theorem mwpB_block (id : Nat) (b : MC) (t) : mwpB P (.block id b) e ds w N E R Y t = mwpB P b e ds w N (fun i e ds w => if i = id then N e ds w else E i e ds w) R Y ⟨⟩ := rfl
theorem mwpB_exit (id : Nat) (t) : mwpB P (.exit id) e ds w N E R Y t = E id e ds w := rfl
theorem mwpB_ret (t) : mwpB P .ret e ds w N E R Y t = R e ds w := rfl
theorem regB_nil (t) : regB P [] e ds w K Y t = K e ds w := rfl
theorem regB_none (d : Option Tmp) (op : Op) (ty : TypeId) (l : List MO) (t) : regB P (⟨d, op, ty, none⟩ :: l) e ds w K Y t = opB P ⟨d, op, ty, none⟩ e ds w (fun v ds w => regB P l (updO e d v) ds w K Y ⟨⟩) (Y e) ⟨⟩ := by
  simp [regB, opB, regW, wantedW]
theorem regB_some (d : Option Tmp) (op : Op) (ty : TypeId) (t : Tmp) (b : Bool) (l : List MO) (tk) :
    regB P (⟨d, op, ty, some (some t, b)⟩ :: l) e ds w K Y tk = guardW (e t) b (Blk (opB P ⟨d, op, ty, none⟩ e ds w (fun v ds w => regB P l (updO e d v) ds w K Y ⟨⟩) (Y e) ⟨⟩) ⟨⟩) (Blk (regB P l (updO e d undef) ds w K Y ⟨⟩) ⟨⟩) := by
  simp only [regB,opB,Blk,regW,wantedW,guardW]
  rfl
theorem planB_done (t) : planB P S .done e ds w K X t = K e ds w := rfl
theorem planB_take (d : Option Tmp) (op : Op) (ty : TypeId) (g : Option (Option Tmp × Bool)) (r : MP) (t) : planB P S (.take ⟨d, op, ty, g⟩ r) e ds w K X t = softB P S ⟨d, op, ty, g⟩ e (fun v => planB P S r (updO e d v) ds w K X ⟨⟩) ⟨⟩ := rfl
theorem planB_one (d : Option Tmp) (op : Op) (ty : TypeId) (r : MP) (t) : planB P S (.alt ⟨d, op, ty, none⟩ r .none) e ds w K X t = opB P ⟨d, op, ty, none⟩ e ds w (fun v ds w => S w ∧ planB P S r (updO e d v) ds w K X ⟨⟩) X ⟨⟩ := by
  simp [planB, opB, planW, wantedW]
theorem planB_one_some (d : Option Tmp) (op : Op) (ty : TypeId) (t : Tmp) (b : Bool) (r : MP) (tk) : planB P S (.alt ⟨d, op, ty, some (some t, b)⟩ r .none) e ds w K X tk =
    guardW (e t) b (Blk (opB P ⟨d, op, ty, none⟩ e ds w (fun v ds w => S w ∧ planB P S r (updO e d v) ds w K X ⟨⟩) X ⟨⟩) ⟨⟩) (Blk (planB P S r (updO e d undef) ds w K X ⟨⟩) ⟨⟩) := by
  simp only [planB,opB,Blk,planW,wantedW,guardW,and_true]
  rfl
theorem planB_oneL (d : Option Tmp) (op : Op) (ty : TypeId) (r : MP) (t) : planB P S (.altL ⟨d, op, ty, none⟩ r .none) e ds w K X t = opB P ⟨d, op, ty, none⟩ e ds w (fun v ds w => planB P S r (updO e d v) ds w K X ⟨⟩) X ⟨⟩ := by
  simp [planB, opB, planW, wantedW]
theorem softB_some (d : Option Tmp) (op : Op) (ty : TypeId) (t : Tmp) (b : Bool) (k : Value → Prop) (tk) : softB P S ⟨d, op, ty, some (some t, b)⟩ e k tk = guardW (e t) b (Blk (softB P S ⟨d, op, ty, none⟩ e k ⟨⟩) ⟨⟩) (Blk (k undef) ⟨⟩) := by
  simp only [softB,Blk,softW,wantedW,guardW,if_true]
  rfl
theorem mwpB_draw {p : MP} {t} (S : World → Prop) (hS : S w.drew) (h : planB P S p e ds w.drew N (fun ch ds w => ∀ e, Y e ch ds w) ⟨⟩) : mwpB P (.draw p) e ds w N E R Y t := ⟨S, hS, h⟩
theorem mwpB_loop {b : MC} {t} (I : Env → List Deferred → World → Prop) (μ : Env → World → Nat) (h0 : I e ds w)
    (h : ∀ e ds w, I e ds w → mwpB P b e ds w (fun e' ds' w' => I e' ds' w' ∧ μ e' w' < μ e w) E R Y ⟨⟩) : mwpB P (.loop b) e ds w N E R Y t := ⟨I, fun e _ w => μ e w, h0, h⟩
theorem upd_app (d t : Nat) (v : Value) : upd e d v t = if t = d then v else e t := rfl
theorem updO_app (d t : Nat) (v : Value) : updO e (some d) v t = if t = d then v else e t := rfl
theorem updO_nil (t : Nat) (v : Value) : updO e none v t = e t := rfl
theorem ev_tmp (t : Nat) : ev e (.tmp t) = e t := rfl
theorem ev_const (v : Value) : ev e (.const v) = v := rfl
theorem ev_global (g : Nat) : ev e (.global g) = .pointer (some ⟨g, 0, none⟩) := rfl
theorem ev_func (f : Nat) : ev e (.func f) = .func (.func f) #[] #[] := rfl
theorem argEnv_zero (v : Value) (l : List Value) : argEnv (v :: l) 0 = v := rfl
theorem argEnv_succ (v : Value) (l : List Value) (n : Nat) : argEnv (v :: l) (n + 1) = argEnv l n := rfl
theorem argEnv_nil (n : Nat) : argEnv [] n = undef := rfl
variable {d : Option Tmp} {ty : TypeId} {g : Option (Option Tmp × Bool)} {tk : Tk2 KV X}
theorem opB_load (t : TypeId) (x : Operand) : opB P ⟨d, .load t x, ty, g⟩ e ds w KV X tk = oB (loadV P w t (ev e x)) (fun v => KV v ds w) ⟨⟩ := rfl
theorem opB_store (t : TypeId) (a x : Operand) : opB P ⟨d, .store t a x, ty, g⟩ e ds w KV X tk = oB (storeV P w t (ev e x) (ev e a)) (fun w' => KV undef ds w') ⟨⟩ := rfl
theorem opB_alloc (t : TypeId) : opB P ⟨d, .alloc t, ty, g⟩ e ds w KV X tk = oB (tzero P t) (fun z => KV (.pointer (some ⟨w.heap.size, 0, none⟩)) ds (w.alloc (.cells z.cells t))) ⟨⟩ := rfl
theorem opB_box (t : TypeId) (x : Operand) : opB P ⟨d, .box t x, ty, g⟩ e ds w KV X tk = vB (ev e x) (fun v => KV (.pointer (some ⟨w.heap.size, 0, none⟩)) ds (w.alloc (.cells v.cells t))) ⟨⟩ := rfl
theorem opB_buildSlice (t : TypeId) (n : Nat) (parts : Array (Nat × Operand)) : opB P ⟨d, .buildSlice t n parts, ty, g⟩ e ds w KV X tk =
    oB (buildS P t n (parts.toList.map fun x => (x.1, ev e x.2))) (fun r => KV (.slice (some ⟨w.heap.size, 0, none⟩) n n) ds (w.alloc (.cells r.2 r.1))) ⟨⟩ := rfl
theorem opB_makeSlice (t : TypeId) (l c : Operand) : opB P ⟨d, .makeSlice t l c, ty, g⟩ e ds w KV X tk =
    oB (makeS P t (ev e l) (ev e c)) (fun r => KV (.slice (some ⟨w.heap.size, 0, none⟩) r.2.2.1 r.2.2.2) ds (w.alloc (.cells r.2.1 r.1))) ⟨⟩ := rfl
theorem opB_panic (x : Operand) : opB P ⟨d, .panic x, ty, g⟩ e ds w KV X tk = oB (panV (ev e x)) (fun v => X [{ v, recovered := false }] ds w) ⟨⟩ := rfl
theorem opB_append (x y : Operand) (t t' : TypeId) : opB P ⟨d, .call { callee := .builtin .append, args := #[x, y], argTypes := #[t, t'] }, ty, g⟩ e ds w KV X tk = appB P t t' ty (ev e x) (ev e y) ds w KV ⟨⟩ := rfl
theorem opB_copy (x y : Operand) (t t' : TypeId) : opB P ⟨d, .call { callee := .builtin .copy, args := #[x, y], argTypes := #[t, t'] }, ty, g⟩ e ds w KV X tk = copB P t t' ty (ev e x) (ev e y) ds w KV ⟨⟩ := rfl
theorem opB_len (x : Operand) (t : TypeId) : opB P ⟨d, .call { callee := .builtin .len, args := #[x], argTypes := #[t] }, ty, g⟩ e ds w KV X tk = lenB (lenV P t (ev e x)) (fun v => KV v ds w) (opR P ds KV X ((mexec (ev e) ⟨d, .call { callee := .builtin .len, args := #[x], argTypes := #[t] }, ty, g⟩).run P w)) ⟨⟩ := rfl
theorem opB_min (x y : Operand) (ts : Array TypeId) : opB P ⟨d, .call { callee := .builtin .min, args := #[x, y], argTypes := ts }, ty, g⟩ e ds w KV X tk = oB (min2V (ev e x) (ev e y)) (fun v => KV v ds w) ⟨⟩ := rfl
theorem opB_max (x y : Operand) (ts : Array TypeId) : opB P ⟨d, .call { callee := .builtin .max, args := #[x, y], argTypes := ts }, ty, g⟩ e ds w KV X tk = oB (max2V (ev e x) (ev e y)) (fun v => KV v ds w) ⟨⟩ := rfl
theorem opB_call (f : Operand) (args : Array Operand) (ts : Array TypeId) : opB P ⟨d, .call { callee := .value f, args := args, argTypes := ts }, ty, g⟩ e ds w KV X tk =
    cvB P (ev e f) (args.map (ev e)) w (fun v w' => KV v ds w') (fun ch w' => X ch ds w') ⟨⟩ := rfl
theorem opB_invoke (f : Operand) (name : String) (args : Array Operand) (ts : Array TypeId) : opB P ⟨d, .call { callee := .invoke f name, args := args, argTypes := ts }, ty, g⟩ e ds w KV X tk =
    oB (invV P name (ev e f)) (fun r => mcfB P r.1 (#[r.2] ++ args.map (ev e)) w (fun v w' => KV v ds w') (fun ch w' => X ch ds w') ⟨⟩) ⟨⟩ := rfl
theorem opB_defer (f : FuncId) (x : Operand) (ts : Array TypeId) : opB P ⟨d, .defer { callee := .value (.func f), args := #[x], argTypes := ts }, ty, g⟩ e ds w KV X tk = vB (ev e x) (fun v => KV undef (⟨.fn (.func f) #[], #[v]⟩ :: ds) w) ⟨⟩ := by
  simp [opB, opW, opR, mexec, execOp, resolve, Deferred.ofValue, ev, vB]
theorem opB_move (x : Operand) : opB P ⟨d, .move x, ty, g⟩ e ds w KV X tk = vB (ev e x) (fun v => KV v ds w) ⟨⟩ := rfl
theorem opB_assign (x : Operand) : opB P ⟨d, .assign x, ty, g⟩ e ds w KV X tk = vB (ev e x) (fun v => KV v ds w) ⟨⟩ := rfl
theorem opB_pick (c a b : Operand) : opB P ⟨d, .pick c a b, ty, g⟩ e ds w KV X tk = oB (pickV (ev e c) (ev e a) (ev e b)) (fun v => KV v ds w) ⟨⟩ := rfl
theorem opB_binOp (op : BinOp) (t : TypeId) (x y : Operand) (t' : TypeId) : opB P ⟨d, .binOp op t x y t', ty, g⟩ e ds w KV X tk = oB (binVC P t op (ev e x) (ev e y) (isC y)) (fun v => KV v ds w) ⟨⟩ := rfl
theorem opB_unOp (op : UnOp) (t : TypeId) (x : Operand) : opB P ⟨d, .unOp op t x, ty, g⟩ e ds w KV X tk = oB (unV op (ev e x)) (fun v => KV v ds w) ⟨⟩ := rfl
theorem opB_convert (s t : TypeId) (x : Operand) : opB P ⟨d, .convert s t x, ty, g⟩ e ds w KV X tk = convB P s t (ev e x) (fun v => KV v ds w) (opR P ds KV X ((mexec (ev e) ⟨d, .convert s t x, ty, g⟩).run P w)) ⟨⟩ := rfl
theorem opB_fieldAddr (s : TypeId) (x : Operand) (f : Nat) : opB P ⟨d, .fieldAddr s x f, ty, g⟩ e ds w KV X tk = oB (fldV P s f (ev e x)) (fun v => KV v ds w) ⟨⟩ := rfl
theorem opB_field (s : TypeId) (x : Operand) (f : Nat) : opB P ⟨d, .field s x f, ty, g⟩ e ds w KV X tk = oB (fieldV P s f (ev e x)) (fun v => KV v ds w) ⟨⟩ := rfl
theorem opB_indexAddr (t : TypeId) (x i : Operand) : opB P ⟨d, .indexAddr t x i, ty, g⟩ e ds w KV X tk = oB (idxA P t (ev e x) (ev e i)) (fun v => KV v ds w) ⟨⟩ := rfl
theorem opB_index (t : TypeId) (x i : Operand) : opB P ⟨d, .index t x i, ty, g⟩ e ds w KV X tk = oB (idxV P t (ev e x) (ev e i)) (fun v => KV v ds w) ⟨⟩ := rfl
theorem opB_slice (t : TypeId) (x : Operand) (lo hi : Option Operand) : opB P ⟨d, .slice t x lo hi none, ty, g⟩ e ds w KV X tk = oB (slcV P t (ev e x) (lo.map (ev e)) (hi.map (ev e))) (fun v => KV v ds w) ⟨⟩ := rfl
theorem opB_nilCheck (x : Operand) : opB P ⟨d, .nilCheck x, ty, g⟩ e ds w KV X tk = oB (nilV (ev e x)) (fun v => KV v ds w) ⟨⟩ := rfl
theorem opB_makeFunc (fn : Fn) (a b : Array Operand) : opB P ⟨d, .makeFunc fn a b, ty, g⟩ e ds w KV X tk = vB (.func fn (a.map (ev e)) (b.map (ev e))) (fun v => KV v ds w) ⟨⟩ := rfl
theorem opB_makeInterface (t : TypeId) (x : Operand) : opB P ⟨d, .makeInterface t x, ty, g⟩ e ds w KV X tk = oB (if tconc P t = true then some (.iface t (ev e x)) else none) (fun v => KV v ds w) ⟨⟩ := rfl
theorem opB_extract (x : Operand) (i : Nat) : opB P ⟨d, .extract x i, ty, g⟩ e ds w KV X tk = oB (extV i (ev e x)) (fun v => KV v ds w) ⟨⟩ := rfl
theorem opB_typeAssert (x : Operand) (s t : TypeId) (ok : Bool) : opB P ⟨d, .typeAssert x s t ok, ty, g⟩ e ds w KV X tk = oB (assertV P t ok (ev e x)) (fun v => KV v ds w) ⟨⟩ := rfl
theorem opB_build (t : TypeId) (parts : Array (Nat × Operand)) : opB P ⟨d, .build t parts, ty, g⟩ e ds w KV X tk = oB (buildV P t (parts.toList.map fun x => (x.1, ev e x.2))) (fun v => KV v ds w) ⟨⟩ := rfl
variable {k : Value → Prop} {tk1 : Tk1 k}
theorem softB_len (x : Operand) (t : TypeId) : softB P S ⟨d, .call { callee := .builtin .len, args := #[x], argTypes := #[t] }, ty, none⟩ e k tk1 = oB (lenV P t (ev e x)) k ⟨⟩ := rfl
theorem softB_min (x y : Operand) (ts : Array TypeId) : softB P S ⟨d, .call { callee := .builtin .min, args := #[x, y], argTypes := ts }, ty, none⟩ e k tk1 = oB (min2V (ev e x) (ev e y)) k ⟨⟩ := rfl
theorem softB_max (x y : Operand) (ts : Array TypeId) : softB P S ⟨d, .call { callee := .builtin .max, args := #[x, y], argTypes := ts }, ty, none⟩ e k tk1 = oB (max2V (ev e x) (ev e y)) k ⟨⟩ := rfl
theorem softB_move (x : Operand) : softB P S ⟨d, .move x, ty, none⟩ e k tk1 = vB (ev e x) k ⟨⟩ := rfl
theorem softB_assign (x : Operand) : softB P S ⟨d, .assign x, ty, none⟩ e k tk1 = vB (ev e x) k ⟨⟩ := rfl
theorem softB_pick (c a b : Operand) : softB P S ⟨d, .pick c a b, ty, none⟩ e k tk1 = oB (pickV (ev e c) (ev e a) (ev e b)) k ⟨⟩ := rfl
theorem softB_binOp (op : BinOp) (t : TypeId) (x y : Operand) (t' : TypeId) : softB P S ⟨d, .binOp op t x y t', ty, none⟩ e k tk1 = oB (binVC P t op (ev e x) (ev e y) (isC y)) k ⟨⟩ := rfl
theorem softB_unOp (op : UnOp) (t : TypeId) (x : Operand) : softB P S ⟨d, .unOp op t x, ty, none⟩ e k tk1 = oB (unV op (ev e x)) k ⟨⟩ := rfl
theorem softB_convert (s t : TypeId) (x : Operand) : softB P S ⟨d, .convert s t x, ty, none⟩ e k tk1 = oB (convV P s t (ev e x)) k ⟨⟩ := rfl
theorem softB_fieldAddr (s : TypeId) (x : Operand) (f : Nat) : softB P S ⟨d, .fieldAddr s x f, ty, none⟩ e k tk1 = oB (fldV P s f (ev e x)) k ⟨⟩ := rfl
theorem softB_field (s : TypeId) (x : Operand) (f : Nat) : softB P S ⟨d, .field s x f, ty, none⟩ e k tk1 = oB (fieldV P s f (ev e x)) k ⟨⟩ := rfl
theorem softB_indexAddr (t : TypeId) (x i : Operand) : softB P S ⟨d, .indexAddr t x i, ty, none⟩ e k tk1 = oB (idxA P t (ev e x) (ev e i)) k ⟨⟩ := rfl
theorem softB_index (t : TypeId) (x i : Operand) : softB P S ⟨d, .index t x i, ty, none⟩ e k tk1 = oB (idxV P t (ev e x) (ev e i)) k ⟨⟩ := rfl
theorem softB_slice (t : TypeId) (x : Operand) (lo hi : Option Operand) : softB P S ⟨d, .slice t x lo hi none, ty, none⟩ e k tk1 = oB (slcV P t (ev e x) (lo.map (ev e)) (hi.map (ev e))) k ⟨⟩ := rfl
theorem softB_nilCheck (x : Operand) : softB P S ⟨d, .nilCheck x, ty, none⟩ e k tk1 = oB (nilV (ev e x)) k ⟨⟩ := rfl
theorem softB_makeFunc (fn : Fn) (a b : Array Operand) : softB P S ⟨d, .makeFunc fn a b, ty, none⟩ e k tk1 = vB (.func fn (a.map (ev e)) (b.map (ev e))) k ⟨⟩ := rfl
theorem softB_makeInterface (t : TypeId) (x : Operand) : softB P S ⟨d, .makeInterface t x, ty, none⟩ e k tk1 = oB (if tconc P t = true then some (.iface t (ev e x)) else none) k ⟨⟩ := rfl
theorem softB_extract (x : Operand) (i : Nat) : softB P S ⟨d, .extract x i, ty, none⟩ e k tk1 = oB (extV i (ev e x)) k ⟨⟩ := rfl
theorem softB_typeAssert (x : Operand) (s t : TypeId) (ok : Bool) : softB P S ⟨d, .typeAssert x s t ok, ty, none⟩ e k tk1 = oB (assertV P t ok (ev e x)) k ⟨⟩ := rfl
theorem softB_build (t : TypeId) (parts : Array (Nat × Operand)) : softB P S ⟨d, .build t parts, ty, none⟩ e k tk1 = oB (buildV P t (parts.toList.map fun x => (x.1, ev e x.2))) k ⟨⟩ := rfl
theorem softB_load {t : TypeId} {x : Operand} {v : Value} (h : ∀ w, S w → loadV P w t (ev e x) = some v) (hk : k v) : softB P S ⟨d, .load t x, ty, none⟩ e k tk1 := ⟨v, h, hk⟩
end
section
variable {P : Program} {t : TypeId} {k : IntKind} {a b : Int} {x y : Value}
theorem pickV_bool (c : Bool) : pickV (.bool c) x y = some (if c then x else y) := rfl
theorem isC_const (v : Value) : isC (.const v) = true := rfl
theorem binVC_int {op : BinOp} {k k' : IntKind} {a b : Int} {c : Bool} : binVC P t op (.int k a) (.int k' b) c = binV P t op (.int k a) (.int k' b) := rfl
theorem binVC_bool {op : BinOp} {a b c : Bool} : binVC P t op (.bool a) (.bool b) c = binV P t op (.bool a) (.bool b) := rfl
theorem binVC_str {op : BinOp} {a b : ByteArray} {c : Bool} : binVC P t op (.string a) (.string b) c = binV P t op (.string a) (.string b) := rfl
theorem binVC_ptr {op : BinOp} {a b : Option Addr} {c : Bool} : binVC P t op (.pointer a) (.pointer b) c = binV P t op (.pointer a) (.pointer b) := rfl
theorem binVC_slc {op : BinOp} {a b : Option Addr} {n m n' m' : Nat} {c : Bool} : binVC P t op (.slice a n m) (.slice b n' m') c = binV P t op (.slice a n m) (.slice b n' m') := rfl
theorem binVC_nneq (h : tifc P t = true) : binVC P t .neq .nilIface .nilIface true = some (.bool false) := by simp [binVC, h]
theorem binVC_neql (h : tifc P t = true) : binVC P t .eql .nilIface .nilIface true = some (.bool true) := by simp [binVC, h]
theorem binVC_ineq (u : TypeId) (v : Value) (h : tifc P t = true) : binVC P t .neq (.iface u v) .nilIface true = some (.bool true) := by simp [binVC, h]
theorem binVC_ieql (u : TypeId) (v : Value) (h : tifc P t = true) : binVC P t .eql (.iface u v) .nilIface true = some (.bool false) := by simp [binVC, h]
theorem binV_add : binV P t .add (.int k a) (.int k b) = some (.int k (k.wrap (a + b))) := by simp [binV]
theorem binV_sub : binV P t .sub (.int k a) (.int k b) = some (.int k (k.wrap (a - b))) := by simp [binV]
theorem binV_mul : binV P t .mul (.int k a) (.int k b) = some (.int k (k.wrap (a * b))) := by simp [binV]
theorem binV_quo : binV P t .quo (.int k a) (.int k b) = if b ≠ 0 then some (.int k (k.wrap (a.tdiv b))) else none := by simp [binV]
theorem binV_rem : binV P t .rem (.int k a) (.int k b) = if b ≠ 0 then some (.int k (a.tmod b)) else none := by simp [binV]
theorem binV_eql : binV P t .eql (.int k a) (.int k b) = some (.bool (decide (a = b))) := by simp only [binV,if_true]; rfl
theorem binV_neq : binV P t .neq (.int k a) (.int k b) = some (.bool (!decide (a = b))) := by simp only [binV,if_true]; rfl
theorem binV_lss : binV P t .lss (.int k a) (.int k b) = some (.bool (decide (a < b))) := by simp [binV]
theorem binV_leq : binV P t .leq (.int k a) (.int k b) = some (.bool (decide (a ≤ b))) := by simp [binV]
theorem binV_gtr : binV P t .gtr (.int k a) (.int k b) = some (.bool (decide (b < a))) := by simp [binV]
theorem binV_geq : binV P t .geq (.int k a) (.int k b) = some (.bool (decide (b ≤ a))) := by simp [binV]
theorem binV_eqlB (a b : Bool) (h : tbool P t = true) : binV P t .eql (.bool a) (.bool b) = some (.bool (a == b)) := by simp [binV, h]
theorem binV_neqB (a b : Bool) (h : tbool P t = true) : binV P t .neq (.bool a) (.bool b) = some (.bool (a != b)) := by simp [binV, h]
theorem binV_eqlNP (b : Option Addr) (h : tptr P t = true) : binV P t .eql (.pointer none) (.pointer b) = some (.bool b.isNone) := by simp [binV, h]
theorem binV_eqlPN (b : Addr) (h : tptr P t = true) : binV P t .eql (.pointer (some b)) (.pointer none) = some (.bool false) := by simp [binV, h]
theorem binV_neqNP (b : Option Addr) (h : tptr P t = true) : binV P t .neq (.pointer none) (.pointer b) = some (.bool (!b.isNone)) := by simp [binV, h]
theorem binV_neqPN (b : Addr) (h : tptr P t = true) : binV P t .neq (.pointer (some b)) (.pointer none) = some (.bool true) := by simp [binV, h]
theorem binV_eqlSN (b : Addr) (n c n' c' : Nat) (h : (telem P t).isSome = true) : binV P t .eql (.slice (some b) n c) (.slice none n' c') = some (.bool false) := by simp [binV, h]
theorem binV_eqlNS (b : Option Addr) (n c n' c' : Nat) (h : (telem P t).isSome = true) : binV P t .eql (.slice none n c) (.slice b n' c') = some (.bool b.isNone) := by simp [binV, h]
theorem binV_neqSN (b : Addr) (n c n' c' : Nat) (h : (telem P t).isSome = true) : binV P t .neq (.slice (some b) n c) (.slice none n' c') = some (.bool true) := by simp [binV, h]
theorem binV_neqNS (b : Option Addr) (n c n' c' : Nat) (h : (telem P t).isSome = true) : binV P t .neq (.slice none n c) (.slice b n' c') = some (.bool (!b.isNone)) := by simp [binV, h]
theorem unV_neg : unV .neg (.int k a) = some (.int k (k.wrap (0 - a))) := rfl
theorem unV_not (b : Bool) : unV .not (.bool b) = some (.bool !b) := rfl
theorem fldV_ptr (s f : Nat) (p : Addr) : fldV P s f (.pointer (some p)) = (fldA P s f).map fun off => .pointer (some (p.add off)) := rfl
theorem fieldV_agg (s f : Nat) (cs : Array Value) : fieldV P s f (.agg cs) = (tfld P s f).bind fun x => partV P x.1 cs x.2 := by unfold fieldV; cases tfld P s f <;> rfl
theorem partV_one (cs : Array Value) (off : Nat) (h : tok P t = true) (h' : tagg P t = false) : partV P t cs off = cs[off]? := by simp [partV, h, h']
theorem partV_agg (cs : Array Value) (off : Nat) (h : tok P t = true) (h' : tagg P t = true) : partV P t cs off = some (.agg (cs.extract off (off + tsz P t))) := by simp [partV, h, h']
theorem idxA_slice (p : Addr) (len cap : Nat) (i : Int) :
    idxA P t (.slice (some p) len cap) (.int k i) = (telem P t).bind fun u => if tok P u = true then (if 0 ≤ i ∧ i < len then some (.pointer (some (p.add (i.toNat * tsz P u)))) else none) else none := by
  unfold idxA; cases telem P t <;> rfl
theorem idxA_arr (p : Addr) (i : Int) :
    idxA P t (.pointer (some p)) (.int k i) = (tarr P t).bind fun x => if tok P x.2 = true then (if 0 ≤ i ∧ i < x.1 then some (.pointer (some (p.add (i.toNat * tsz P x.2)))) else none) else none := by
  unfold idxA; cases tarr P t <;> rfl
theorem idxV_arr (cs : Array Value) (i : Int) :
    idxV P t (.agg cs) (.int k i) = (tarr P t).bind fun x => if tok P x.2 = true then (if 0 ≤ i ∧ i < x.1 then partV P x.2 cs (i.toNat * tsz P x.2) else none) else none := by
  unfold idxV; cases tarr P t <;> rfl
theorem idxV_str (s : ByteArray) (i : Int) (h : tstr P t = true) : idxV P t (.string s) (.int k i) = if 0 ≤ i then (s[i.toNat]?).map fun b => .int .u8 b.toNat else none := by simp [idxV, h]
theorem boundV_none (d : Int) : boundV none d = some d := rfl
theorem boundV_some (k : IntKind) (i d : Int) : boundV (some (.int k i)) d = some i := rfl
theorem slcV_slice (p : Option Addr) (len cap : Nat) (lo hi : Option Value) :
    slcV P t (.slice p len cap) lo hi = (telem P t).bind fun u => (boundV lo 0).bind fun l => (boundV hi len).bind fun h => if tok P u = true then (if 0 ≤ l ∧ l ≤ h ∧ h ≤ cap then
      some (.slice (if (cap : Int) = l then p else p.map (·.add (l.toNat * tsz P u))) (h - l).toNat (cap - l).toNat) else none) else none := by
  simp only [slcV]; cases telem P t <;> cases boundV lo 0 <;> cases boundV hi (len : Int) <;> rfl
theorem slcV_str (s : ByteArray) (lo hi : Option Value) :
    slcV P t (.string s) lo hi = (boundV lo 0).bind fun l => (boundV hi s.size).bind fun h => if tstr P t = true then (if 0 ≤ l ∧ l ≤ h ∧ h ≤ s.size then some (.string (s.extract l.toNat h.toNat)) else none) else none := by
  simp only [slcV]; cases boundV lo 0 <;> cases boundV hi (s.size : Int) <;> rfl
theorem lenV_slice (p : Option Addr) (n c : Nat) (h : (telem P t).isSome = true) : lenV P t (.slice p n c) = some (.int .i64 n) := by simp [lenV, h]
theorem lenV_str (s : ByteArray) (h : tstr P t = true) : lenV P t (.string s) = some (.int .i64 s.size) := by simp [lenV, h]
theorem min2V_int : min2V (.int k a) (.int k b) = some (.int k (if b < a then b else a)) := rfl
theorem max2V_int : max2V (.int k a) (.int k b) = some (.int k (if a < b then b else a)) := rfl
theorem convV_int (s : TypeId) : convV P s t (.int k a) = if tok P s = true then (tkind P t).map fun k' => .int k' (k'.wrap a) else none := by unfold convV; rfl
theorem convB_int (s : TypeId) {a : Int} {k' : IntKind} {K : Value → Prop} {alt : Prop} {tk : Tk1 K} (h : tok P s = true) (h' : tkind P t = some k') : convB P s t (.int k a) K alt tk = K (.int k' (k'.wrap a)) := by simp [convB, convK, convV, h, h']
theorem convB_str (s : TypeId) (x : ByteArray) {K : Value → Prop} {alt : Prop} {tk : Tk1 K} (h : tstr P s = true) (h' : tstr P t = true) : convB P s t (.string x) K alt tk = K (.string x) := by simp [convB, convK, convV, h, h']
theorem convV_str (s : TypeId) (x : ByteArray) (h : tstr P s = true) (h' : tstr P t = true) : convV P s t (.string x) = some (.string x) := by simp [convV, h, h']
theorem nilV_ptr (p : Addr) : nilV (.pointer (some p)) = some (.pointer (some p)) := rfl
theorem nilV_func (f : FuncId) (a b : Array Value) : nilV (.func (.func f) a b) = some (.func (.func f) a b) := rfl
theorem nilV_iface (t : TypeId) (v : Value) : nilV (.iface t v) = some (.iface t v) := rfl
theorem extV_tuple (vs : Array Value) (i : Nat) : extV i (.tuple vs) = vs[i]? := rfl
theorem assertV_iface (u : TypeId) (v : Value) (ok : Bool) (h : tconc P t = true) : assertV P t ok (.iface u v) =
    if u = t then some (if ok then .tuple #[v, .bool true] else v) else if ok then (tzero P t).map fun z => .tuple #[z, .bool false] else none := by simp [assertV, h]
theorem cvB_func {P : Program} (f : FuncId) (a b args : Array Value) (w : World) (K : Value → World → Prop) (X : List PanicEntry → World → Prop) (tk) : cvB P (.func (.func f) a b) args w K X tk = mcfB P f (a ++ args ++ b) w K X ⟨⟩ := rfl
theorem invV_iface (name : String) (t : TypeId) (v : Value) : invV P name (.iface t v) = (methB P t name).map fun f => (f, v) := rfl
theorem mcfB_ok {f : FuncId} {args : Array Value} {w : World} {KC : Value → World → Prop} {XC : List PanicEntry → World → Prop} {tk : Tk2 KC XC} (h : okF P f = true) : mcfB P f args w KC XC tk = mcB P f args w KC XC ⟨⟩ := by simp [mcfB, mcB, MCallF, h]
theorem loadV_one (w : World) (p : Addr) (h : tok P t = true) (h' : tagg P t = false) : loadV P w t (.pointer (some p)) = w.cell? p := by simp [loadV, h, h']
theorem loadV_agg (w : World) (p : Addr) (h : tok P t = true) (h' : tagg P t = true) : loadV P w t (.pointer (some p)) = (loadsV w p (tsz P t) 0).map fun l => .agg l.toArray := by simp [loadV, h, h']
theorem loadsV_zero (w : World) (p : Addr) (i : Nat) : loadsV w p 0 i = some [] := rfl
theorem loadsV_succ (w : World) (p : Addr) (n i : Nat) : loadsV w p (n + 1) i = (w.cell? (p.add i)).bind fun v => (loadsV w p n (i + 1)).map (v :: ·) := rfl
theorem storeV_ptr (w : World) (p : Addr) (h : tok P t = true) : storeV P w t x (.pointer (some p)) = if x.cells.size = tsz P t then storesV w p x.cells.toList 0 else none := by simp [storeV, h]
theorem storesV_nil (w : World) (p : Addr) (i : Nat) : storesV w p [] i = some w := rfl
theorem storesV_cons (w : World) (p : Addr) (v : Value) (r : List Value) (i : Nat) : storesV w p (v :: r) i =
    if v.oneCell' = true ∧ (w.cell? (p.add i)).isSome = true ∧ w.frozen? (p.add i) = false then storesV (w.setCell (p.add i) v) p r (i + 1) else none := rfl
theorem w64 {n : Int} (h1 : -9223372036854775808 ≤ n) (h2 : n ≤ 9223372036854775807) : IntKind.i64.wrap n = n := IntWalk.i64_in n ⟨h1, h2⟩
theorem resW_one {e : Env} {w : World} (t : Tmp) (k : Value → Prop) : resW P [.tmp t] e w k = vB (e t) k ⟨⟩ := rfl
theorem resW_cell {e : Env} {w : World} (a : Tmp) (t : TypeId) (k : Value → Prop) : resW P [.cell a t] e w k = oB (loadV P w t (e a)) k ⟨⟩ := rfl
theorem resW_many {e : Env} {w : World} (x y : ResultVar) (r : List ResultVar) (k : Value → Prop) : resW P (x :: y :: r) e w k = resL P (x :: y :: r) e w fun vs => k (.tuple vs.toArray) := by cases x <;> rfl
theorem resL_nil {e : Env} {w : World} (k : List Value → Prop) : resL P [] e w k = k [] := rfl
theorem resL_tmp {e : Env} {w : World} (t : Tmp) (r : List ResultVar) (k : List Value → Prop) : resL P (.tmp t :: r) e w k = vB (e t) (fun v => resL P r e w fun vs => k (v :: vs)) ⟨⟩ := rfl
theorem resL_cell {e : Env} {w : World} (a : Tmp) (t : TypeId) (r : List ResultVar) (k : List Value → Prop) : resL P (.cell a t :: r) e w k = oB (loadV P w t (e a)) (fun v => resL P r e w fun vs => k (v :: vs)) ⟨⟩ := rfl
theorem resW_zero {e : Env} {w : World} (k : Value → Prop) : resW P [] e w k = k (.tuple #[]) := rfl
end
theorem MCalls.of {P : Program} {f : FuncId} {args : Array Value} {w : World} {Q : Value → World → Prop} {K : Value → World → Prop} {X : List PanicEntry → World → Prop}
    (h : Calls P f args w fun e w' => ∃ v, e = .returned v ∧ Q v w') (hk : ∀ v w', Q v w' → K v w') : MCalls P f args w K X :=
  Calls.mono h fun e w' ⟨v, he, hq⟩ => by subst he; exact hk v w' hq
def Rets (P : Program) (f : FuncId) (args : Array Value) (w : World) (Q : Value → World → Prop) : Prop := Calls P f args w fun e w' => ∃ v, e = .returned v ∧ Q v w'
theorem Rets.use {P : Program} {f : FuncId} {args : Array Value} {w : World} {Q : Value → World → Prop} {K : Value → World → Prop} {X : List PanicEntry → World → Prop}
    {tk : Tk2 K X} (h : Rets P f args w Q) (hk : ∀ v w', Q v w' → K v w') : mcB P f args w K X tk := MCalls.of h hk
theorem Rets.mono {P : Program} {f : FuncId} {args : Array Value} {w : World} {Q Q' : Value → World → Prop} (h : Rets P f args w Q) (hk : ∀ v w', Q v w' → Q' v w') : Rets P f args w Q' :=
  Calls.mono h fun _ w' ⟨v, he, hq⟩ => ⟨v, he, hk v w' hq⟩
theorem rets_of_mwp {P : Program} {f : FuncId} {fn : Func} {m : MC} {args : Array Value} {rs : List ResultVar} {w : World} {Q : Value → World → Prop} (hm : P.follows .mixedOrders = true) (hf : P.funcs[f]? = some fn) (pl : Nat → Plan)
    (hst : fn.body.map (strip pl) = some m) (hok : okB pl fn args.size = true) (hrs : fn.results.toList = rs)
    (h : mwpB P m (argEnv args.toList) [] w (fun e ds w => ds = [] ∧ resW P rs e w fun v => Q v w) (fun _ _ _ _ => False) (fun e ds w => ds = [] ∧ resW P rs e w fun v => Q v w) (fun _ _ _ _ => False) ⟨⟩) : Rets P f args w Q := by
  refine calls_of_mwp hm hf pl hst hok hrs ?_
  have hfin : (fun (e : Env) (ds : List Deferred) (w : World) => ds = [] ∧ resW P rs e w fun v => ∃ u, Ending.returned v = .returned u ∧ Q u w) = fun e ds w => ds = [] ∧ resW P rs e w fun v => Q v w := by
    funext e ds w
    have : (fun v => ∃ u, Ending.returned v = .returned u ∧ Q u w) = fun v => Q v w := by
      funext v; exact propext ⟨fun ⟨u, hu, hq⟩ => by cases hu; exact hq, fun hq => ⟨v, rfl, hq⟩⟩
    rw [this]
  have hpan : (fun (_ : Env) (ch : List PanicEntry) (ds : List Deferred) (w : World) => ds = [] ∧ ∃ v, Ending.panicked ch = .returned v ∧ Q v w) = fun _ _ _ _ => False := by
    funext e ch ds w; simp
  rw [hfin, hpan]
  exact h
def endR (Q : Value → World → Prop) (X : List PanicEntry → World → Prop) : Ending → World → Prop
  | .returned v, w => Q v w
  | .panicked ch, w => X ch w
  | .outgrown, _ => False
def Ends (P : Program) (f : FuncId) (args : Array Value) (w : World) (Q : Value → World → Prop) (X : List PanicEntry → World → Prop) : Prop := Calls P f args w (endR Q X)
theorem Ends.use {P : Program} {f : FuncId} {args : Array Value} {w : World} {Q : Value → World → Prop} {X' : List PanicEntry → World → Prop} {K : Value → World → Prop} {X : List PanicEntry → World → Prop}
    {tk : Tk2 K X} (h : Ends P f args w Q X') (hk : ∀ v w', Q v w' → K v w') (hx : ∀ ch w', X' ch w' → X ch w') : mcB P f args w K X tk := by
  unfold mcB MCalls
  refine Calls.mono h fun e w' he => ?_
  cases e with
  | returned v => exact hk _ _ he
  | panicked ch => exact hx _ _ he
  | outgrown => exact he.elim
def Ext (w w' : World) : Prop := Below w.heap.size w w'
theorem Ext.refl (w : World) : Ext w w := Below.refl _ _
theorem Ext.trans {a b c : World} (h : Ext a b) (k : Ext b c) : Ext a c := Below.trans h (Below.mono k h.size)
theorem Ext.alloc (w : World) (o : Obj) : Ext w (w.alloc o) := (Below.refl _ _).alloc (Nat.le_refl _) o
theorem Ext.drew (w : World) : Ext w w.drew := (Below.refl _ _).drew
theorem Ext.alloc' {w w' : World} (h : Ext w w') (o : Obj) : Ext w (w'.alloc o) := h.trans (Ext.alloc _ _)
theorem Ext.drew' {w w' : World} (h : Ext w w') : Ext w w'.drew := h.trans (Ext.drew _)
theorem Ext.setCell {w w' : World} (h : Ext w w') {p : Addr} (hp : w.heap.size ≤ p.block) (u : Value) : Ext w (w'.setCell p u) := Below.setCell h hp u
theorem Ext.le {w w' : World} (h : Ext w w') : w.heap.size ≤ w'.heap.size := h.size
theorem Ext.cell {w w' : World} (h : Ext w w') {a : Addr} {v : Value} (hc : w.cell? a = some v) : w'.cell? a = some v :=
  (Below.cell h (World.block_lt_of_cell? w a hc)).trans hc
theorem Ext.frozen {w w' : World} (h : Ext w w') {a : Addr} (hb : a.block < w.heap.size) : w'.frozen? a = w.frozen? a := Below.frozen h hb
theorem loadsV_ext {w w' : World} (h : Ext w w') (a : Addr) : ∀ (n i : Nat) (l : List Value), loadsV w a n i = some l → loadsV w' a n i = some l
  | 0, _, _, hl => hl
  | n + 1, i, l, hl => by
    simp only [loadsV] at hl ⊢
    cases hc : w.cell? (a.add i) with
    | none => rw [hc] at hl; cases hl
    | some v =>
      rw [hc] at hl
      rw [h.cell hc]
      simp only [Option.bind_some] at hl ⊢
      cases hr : loadsV w a n (i + 1) with
      | none => rw [hr] at hl; cases hl
      | some r => rw [hr] at hl; rw [loadsV_ext h a n (i + 1) r hr]; exact hl
theorem loadV_ext {P : Program} {w w' : World} (h : Ext w w') {t : TypeId} {x v : Value} (hl : loadV P w t x = some v) : loadV P w' t x = some v := by
  unfold loadV at hl ⊢
  split at hl
  · rename_i a
    split at hl
    · rename_i hok
      simp only [hok,if_true]
      split at hl
      · rename_i ha
        simp only [ha,if_true]
        cases hr : loadsV w a (tsz P t) 0 with
        | none => rw [hr] at hl; cases hl
        | some r => rw [hr] at hl; rw [loadsV_ext h a _ _ r hr]; exact hl
      · rename_i ha
        simp only [ha]
        exact h.cell hl
    · cases hl
  · cases hl
theorem oK_mono {α : Type} {o : Option α} {k k' : α → Prop} (h : ∀ v, k v → k' v) (hk : oK o k) : oK o k' := by
  cases o with
  | none => exact hk
  | some v => exact h v hk
theorem MCalls.mono {P : Program} {f : FuncId} {args : Array Value} {w : World} {K K' : Value → World → Prop} {X : List PanicEntry → World → Prop} (h : ∀ v w, K v w → K' v w) (hk : MCalls P f args w K X) : MCalls P f args w K' X :=
  Calls.mono hk fun e w' he => by cases e <;> first | exact h _ _ he | exact he
theorem opR_mono {P : Program} {ds : List Deferred} {K K' : Value → List Deferred → World → Prop} {X : List PanicEntry → List Deferred → World → Prop} (h : ∀ v ds w, K v ds w → K' v ds w) {r : Result Next} (hk : opR P ds K X r) : opR P ds K' X r := by
  cases r with
  | ok n w' => cases n <;> simp only [opR] at hk ⊢ <;> first | exact h _ _ _ hk | exact MCalls.mono (fun v w => h v _ w) hk | exact Rows.mono hk (fun v w => h v _ w) | exact RoundIn.mono hk (fun e w he => by cases e <;> first | exact h _ _ _ he | exact he)
  | halt x w' => cases x <;> simp only [opR] at hk ⊢ <;> exact hk
theorem callV_mono {P : Program} {fv : Value} {args : Array Value} {w : World} {K K' : Value → World → Prop} {X : List PanicEntry → World → Prop} {M M' : FuncId → Array Value → Prop} (h : ∀ v w, K v w → K' v w) (hM : ∀ f as, M f as → M' f as)
    (hk : callV P fv args w K X M) : callV P fv args w K' X M' := by
  unfold callV at hk ⊢
  split at hk
  · obtain ⟨fn, tmps, assign, body, hy, hR⟩ := hk
    exact ⟨fn, tmps, assign, body, hy, RoundIn.mono hR fun e w he => by cases e <;> first | exact h _ _ he | exact he⟩
  · exact oK_mono (fun r => hM _ _) hk
theorem opW_mono {P : Program} {o : MO} {e : Env} {ds : List Deferred} {w : World} {K K' : Value → List Deferred → World → Prop} {X : List PanicEntry → List Deferred → World → Prop} (h : ∀ v ds w, K v ds w → K' v ds w)
    (hk : opW P o e ds w K X) : opW P o e ds w K' X := by
  unfold opW at hk ⊢
  split at hk
  all_goals first
    | exact oK_mono (fun v => h v _ _) hk
    | exact oK_mono (fun v => h _ _ _) hk
    | exact h _ _ _ hk
    | exact oK_mono (fun v hv => hv) hk
    | exact opR_mono h hk
    | (unfold convK at hk ⊢
       split at hk
       · exact h _ _ _ hk
       · exact opR_mono h hk)
    | skip
  split at hk
  all_goals first
    | exact oK_mono (fun v => h v _ _) hk
    | exact oK_mono (fun v hv => ⟨hv.1, MCalls.mono (fun v w => h v _ w) hv.2⟩) hk
    | (unfold lenK at hk ⊢
       split at hk
       · exact h _ _ _ hk
       · exact opR_mono h hk)
    | exact callV_mono (fun v w => h v _ w) (fun g as hv => ⟨hv.1, MCalls.mono (fun v w => h v _ w) hv.2⟩) hk
    | exact opR_mono h hk
    | (split at hk
       · obtain ⟨v', w', h1, h2⟩ := hk; exact ⟨v', w', h1, h _ _ _ h2⟩
       · exact hk)
def softE (P : Program) (w0 : World) (o : MO) (e : Env) (k : Value → Prop) (_ : Tk1 k) : Prop :=
  if wantedW e o.g = true then
    (match o.op with
    | .load t x => oK (loadV P w0 t (ev e x)) k
    | op => oK (pureV P (ev e) op) k)
  else k undef
def planE (P : Program) (w0 : World) : MP → Env → List Deferred → World → (Env → List Deferred → World → Prop) → (List PanicEntry → List Deferred → World → Prop) → Prop
  | .done, e, ds, w, K, _ => K e ds w
  | .none, _, _, _, _, _ => True
  | .take o r, e, ds, w, K, X => softE P w0 o e (fun v => planE P w0 r (updO e o.d v) ds w K X) ⟨⟩
  | .alt o r m, e, ds, w, K, X =>
    (if wantedW e o.g = true then opW P o e ds w (fun v ds w => Ext w0 w ∧ planE P w0 r (updO e o.d v) ds w K X) X else planE P w0 r (updO e o.d undef) ds w K X) ∧
      planE P w0 m e ds w K X
  | .altL o r m, e, ds, w, K, X =>
    (if wantedW e o.g = true then opW P o e ds w (fun v ds w => planE P w0 r (updO e o.d v) ds w K X) X else planE P w0 r (updO e o.d undef) ds w K X) ∧
      planE P w0 m e ds w K X
theorem planE_sound {P : Program} {w0 : World} {K : Env → List Deferred → World → Prop} {X : List PanicEntry → List Deferred → World → Prop} : ∀ (p : MP) (e : Env) (ds : List Deferred) (w : World), planE P w0 p e ds w K X → planW P (Ext w0) p e ds w K X
  | .done, _, _, _, h => h
  | .none, _, _, _, _ => trivial
  | .take o r, e, ds, w, h => by
    simp only [planE,softE,planW,softW] at h ⊢
    split at h
    · rename_i hw
      rw [if_pos hw]
      split at h
      · rename_i t x hx
        simp only [hx]
        obtain ⟨v, hv, hk⟩ := oK_elim h
        exact ⟨v, fun w hw => loadV_ext hw hv, planE_sound r _ _ _ hk⟩
      · rename_i op hne
        split
        · rename_i hx; exact absurd hx (hne _ _)
        · exact oK_mono (fun v => planE_sound r _ _ _) h
    · rename_i hw
      rw [if_neg hw]
      exact planE_sound r _ _ _ h
  | .alt o r m, e, ds, w, h => by
    simp only [planE,planW] at h ⊢
    refine ⟨?_, planE_sound m _ _ _ h.2⟩
    split
    · rename_i hw
      have h1 := h.1
      rw [if_pos hw] at h1
      exact opW_mono (fun v ds w hk => ⟨hk.1, planE_sound r _ _ _ hk.2⟩) h1
    · rename_i hw
      have h1 := h.1
      rw [if_neg hw] at h1
      exact planE_sound r _ _ _ h1
  | .altL o r m, e, ds, w, h => by
    simp only [planE,planW] at h ⊢
    refine ⟨?_, planE_sound m _ _ _ h.2⟩
    split
    · rename_i hw
      have h1 := h.1
      rw [if_pos hw] at h1
      exact opW_mono (fun v ds w hk => planE_sound r _ _ _ hk) h1
    · rename_i hw
      have h1 := h.1
      rw [if_neg hw] at h1
      exact planE_sound r _ _ _ h1
def planEB (P : Program) (w0 : World) (p : MP) (e : Env) (ds : List Deferred) (w : World) (K : Env → List Deferred → World → Prop) (X : List PanicEntry → List Deferred → World → Prop) (_ : Tk2 K X) : Prop := planE P w0 p e ds w K X
section
variable {P : Program} {w0 : World} {e : Env} {ds : List Deferred} {w : World} {N : Env → List Deferred → World → Prop} {E : Nat → Env → List Deferred → World → Prop} {R : Env → List Deferred → World → Prop}
  {X : List PanicEntry → List Deferred → World → Prop} {Y : Env → List PanicEntry → List Deferred → World → Prop} {K : Env → List Deferred → World → Prop} {k : Value → Prop}
theorem mwpB_drawE {p : MP} {t} (h : planEB P w.drew p e ds w.drew N (fun ch ds w => ∀ e, Y e ch ds w) ⟨⟩) : mwpB P (.draw p) e ds w N E R Y t := ⟨Ext w.drew, Ext.refl _, planE_sound _ _ _ _ h⟩
theorem planEB_done (t) : planEB P w0 .done e ds w K X t = K e ds w := rfl
theorem planEB_take (d : Option Tmp) (op : Op) (ty : TypeId) (g : Option (Option Tmp × Bool)) (r : MP) (t) : planEB P w0 (.take ⟨d, op, ty, g⟩ r) e ds w K X t = softE P w0 ⟨d, op, ty, g⟩ e (fun v => planEB P w0 r (updO e d v) ds w K X ⟨⟩) ⟨⟩ := rfl
theorem planEB_one (d : Option Tmp) (op : Op) (ty : TypeId) (r : MP) (t) : planEB P w0 (.alt ⟨d, op, ty, none⟩ r .none) e ds w K X t = opB P ⟨d, op, ty, none⟩ e ds w (fun v ds w => Ext w0 w ∧ planEB P w0 r (updO e d v) ds w K X ⟨⟩) X ⟨⟩ := by
  simp [planEB, opB, planE, wantedW]
theorem planEB_oneL (d : Option Tmp) (op : Op) (ty : TypeId) (r : MP) (t) : planEB P w0 (.altL ⟨d, op, ty, none⟩ r .none) e ds w K X t = opB P ⟨d, op, ty, none⟩ e ds w (fun v ds w => planEB P w0 r (updO e d v) ds w K X ⟨⟩) X ⟨⟩ := by
  simp [planEB, opB, planE, wantedW]
theorem planEB_one_some (d : Option Tmp) (op : Op) (ty : TypeId) (t : Tmp) (b : Bool) (r : MP) (tk) : planEB P w0 (.alt ⟨d, op, ty, some (some t, b)⟩ r .none) e ds w K X tk =
    guardW (e t) b (Blk (opB P ⟨d, op, ty, none⟩ e ds w (fun v ds w => Ext w0 w ∧ planEB P w0 r (updO e d v) ds w K X ⟨⟩) X ⟨⟩) ⟨⟩) (Blk (planEB P w0 r (updO e d undef) ds w K X ⟨⟩) ⟨⟩) := by
  simp only [planEB,opB,Blk,planE,wantedW,guardW,and_true]
  rfl
theorem softE_some (d : Option Tmp) (op : Op) (ty : TypeId) (t : Tmp) (b : Bool) (k : Value → Prop) (tk) : softE P w0 ⟨d, op, ty, some (some t, b)⟩ e k tk = guardW (e t) b (Blk (softE P w0 ⟨d, op, ty, none⟩ e k ⟨⟩) ⟨⟩) (Blk (k undef) ⟨⟩) := by
  simp only [softE,Blk,wantedW,guardW,if_true]
  rfl
theorem softE_load (d : Option Tmp) (t : TypeId) (x : Operand) (ty : TypeId) (tk) : softE P w0 ⟨d, .load t x, ty, none⟩ e k tk = oB (loadV P w0 t (ev e x)) k ⟨⟩ := rfl
variable {S : World → Prop} {d : Option Tmp} {ty : TypeId} {tk1 : Tk1 k}
theorem softE_len (x : Operand) (t : TypeId) : softE P w0 ⟨d, .call { callee := .builtin .len, args := #[x], argTypes := #[t] }, ty, none⟩ e k tk1 = oB (lenV P t (ev e x)) k ⟨⟩ := rfl
theorem softE_min (x y : Operand) (ts : Array TypeId) : softE P w0 ⟨d, .call { callee := .builtin .min, args := #[x, y], argTypes := ts }, ty, none⟩ e k tk1 = oB (min2V (ev e x) (ev e y)) k ⟨⟩ := rfl
theorem softE_max (x y : Operand) (ts : Array TypeId) : softE P w0 ⟨d, .call { callee := .builtin .max, args := #[x, y], argTypes := ts }, ty, none⟩ e k tk1 = oB (max2V (ev e x) (ev e y)) k ⟨⟩ := rfl
theorem softE_move (x : Operand) : softE P w0 ⟨d, .move x, ty, none⟩ e k tk1 = vB (ev e x) k ⟨⟩ := rfl
theorem softE_assign (x : Operand) : softE P w0 ⟨d, .assign x, ty, none⟩ e k tk1 = vB (ev e x) k ⟨⟩ := rfl
theorem softE_pick (c a b : Operand) : softE P w0 ⟨d, .pick c a b, ty, none⟩ e k tk1 = oB (pickV (ev e c) (ev e a) (ev e b)) k ⟨⟩ := rfl
theorem softE_binOp (op : BinOp) (t : TypeId) (x y : Operand) (t' : TypeId) : softE P w0 ⟨d, .binOp op t x y t', ty, none⟩ e k tk1 = oB (binVC P t op (ev e x) (ev e y) (isC y)) k ⟨⟩ := rfl
theorem softE_unOp (op : UnOp) (t : TypeId) (x : Operand) : softE P w0 ⟨d, .unOp op t x, ty, none⟩ e k tk1 = oB (unV op (ev e x)) k ⟨⟩ := rfl
theorem softE_convert (s t : TypeId) (x : Operand) : softE P w0 ⟨d, .convert s t x, ty, none⟩ e k tk1 = oB (convV P s t (ev e x)) k ⟨⟩ := rfl
theorem softE_fieldAddr (s : TypeId) (x : Operand) (f : Nat) : softE P w0 ⟨d, .fieldAddr s x f, ty, none⟩ e k tk1 = oB (fldV P s f (ev e x)) k ⟨⟩ := rfl
theorem softE_field (s : TypeId) (x : Operand) (f : Nat) : softE P w0 ⟨d, .field s x f, ty, none⟩ e k tk1 = oB (fieldV P s f (ev e x)) k ⟨⟩ := rfl
theorem softE_indexAddr (t : TypeId) (x i : Operand) : softE P w0 ⟨d, .indexAddr t x i, ty, none⟩ e k tk1 = oB (idxA P t (ev e x) (ev e i)) k ⟨⟩ := rfl
theorem softE_index (t : TypeId) (x i : Operand) : softE P w0 ⟨d, .index t x i, ty, none⟩ e k tk1 = oB (idxV P t (ev e x) (ev e i)) k ⟨⟩ := rfl
theorem softE_slice (t : TypeId) (x : Operand) (lo hi : Option Operand) : softE P w0 ⟨d, .slice t x lo hi none, ty, none⟩ e k tk1 = oB (slcV P t (ev e x) (lo.map (ev e)) (hi.map (ev e))) k ⟨⟩ := rfl
theorem softE_nilCheck (x : Operand) : softE P w0 ⟨d, .nilCheck x, ty, none⟩ e k tk1 = oB (nilV (ev e x)) k ⟨⟩ := rfl
theorem softE_makeFunc (fn : Fn) (a b : Array Operand) : softE P w0 ⟨d, .makeFunc fn a b, ty, none⟩ e k tk1 = vB (.func fn (a.map (ev e)) (b.map (ev e))) k ⟨⟩ := rfl
theorem softE_makeInterface (t : TypeId) (x : Operand) : softE P w0 ⟨d, .makeInterface t x, ty, none⟩ e k tk1 = oB (if tconc P t = true then some (.iface t (ev e x)) else none) k ⟨⟩ := rfl
theorem softE_extract (x : Operand) (i : Nat) : softE P w0 ⟨d, .extract x i, ty, none⟩ e k tk1 = oB (extV i (ev e x)) k ⟨⟩ := rfl
theorem softE_typeAssert (x : Operand) (s t : TypeId) (ok : Bool) : softE P w0 ⟨d, .typeAssert x s t ok, ty, none⟩ e k tk1 = oB (assertV P t ok (ev e x)) k ⟨⟩ := rfl
theorem softE_build (t : TypeId) (parts : Array (Nat × Operand)) : softE P w0 ⟨d, .build t parts, ty, none⟩ e k tk1 = oB (buildV P t (parts.toList.map fun x => (x.1, ev e x.2))) k ⟨⟩ := rfl
theorem loadV_drew (t : TypeId) (v : Value) : loadV P w.drew t v = loadV P w t v := by
  have h : ∀ a n i, loadsV w.drew a n i = loadsV w a n i := by
    intro a n; induction n with
    | zero => intro i; rfl
    | succ n ih => intro i; simp only [loadsV,ih,World.cell?_drew]
  unfold loadV; simp only [h,World.cell?_drew]
end
attribute [irreducible] mwpB regB opB planB planEB softB softE oB mcB mcfB cvB vB convB lenB appB copB condW iteW guardW Blk Rets Ends
end Go.Proofs.YtdkdibeimeaakabGreatDoor
