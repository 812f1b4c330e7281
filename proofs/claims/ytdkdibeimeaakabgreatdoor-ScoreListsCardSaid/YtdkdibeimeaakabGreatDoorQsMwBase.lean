/- A structural evaluator of the weakest precondition over a stripped form of the code ('mwp'), proved sound against the library's own 'Code.wp'. -/
import Derived.DeepKeys
import Derived.WalkKit
import Derived.OrdersHeld
import Derived.KernelRfl
import Derived.OrdersIn
import Derived.TacticsIn
import Derived.RangeFuncSeq

namespace Go.Proofs.YtdkdibeimeaakabGreatDoor
open Go.RowKit
structure MO where
  d : Option Tmp
  op : Op
  ty : TypeId
  g : Option (Option Tmp × Bool)
inductive Plan where
  | done
  | take (i : Nat) (rest : Plan)
  | alt (i : Nat) (rest more : Plan)
  | altL (i : Nat) (rest more : Plan)
  | none
inductive MP where
  | done
  | take (o : MO) (rest : MP)
  | alt (o : MO) (rest more : MP)
  | altL (o : MO) (rest more : MP)
  | none
inductive MC where
  | skip
  | ops (l : List MO)
  | draw (p : MP)
  | seq (a b : MC)
  | cond (c : Operand) (a b : MC)
  | block (id : Nat) (b : MC)
  | loop (b : MC)
  | exit (id : Nat)
  | ret
  | raw (c : Code)
  | bad
def stripO (ops : Array Oper) (o : Oper) : MO :=
  ⟨o.dst, o.op, o.type, o.guard.map fun x => ((ops[x.1]?).bind (·.dst), x.2)⟩
def stripP (ops : Array Oper) : Plan → MP
  | .done => .done
  | .none => .none
  | .take i r => .take (stripO ops (ops.getD i default)) (stripP ops r)
  | .alt i r m => .alt (stripO ops (ops.getD i default)) (stripP ops r) (stripP ops m)
  | .altL i r m => .altL (stripO ops (ops.getD i default)) (stripP ops r) (stripP ops m)
def strip (pl : Nat → Plan) : Code → MC
  | .skip => .skip
  | .region id ops b => if b then .draw (stripP ops (pl id)) else .ops (ops.toList.map (stripO ops))
  | .seq a b => .seq (strip pl a) (strip pl b)
  | .cond c a b => .cond c (strip pl a) (strip pl b)
  | .block id b => .block id (strip pl b)
  | .loop b => .loop (strip pl b)
  | .exit id => .exit id
  | .ret => .ret
  | .rangeFunc g ps a b => .raw (.rangeFunc g ps a b)
  | _ => .bad
def subC : List Nat → Code → Code
  | 0 :: p, .seq a _ => subC p a
  | 1 :: p, .seq _ b => subC p b
  | 0 :: p, .cond _ a _ => subC p a
  | 1 :: p, .cond _ _ b => subC p b
  | 0 :: p, .block _ b => subC p b
  | 0 :: p, .loop b => subC p b
  | 0 :: p, .rangeFunc _ _ a _ => subC p a
  | 1 :: p, .rangeFunc _ _ _ b => subC p b
  | _, c => c
def bodyC (fn : Func) : Code := fn.body.getD .skip
def noDeferO (o : Oper) : Bool := match o.op with | .defer _ => false | _ => true
def noDefer : Code → Bool
  | .region _ ops _ => ops.all noDeferO
  | .seq a b => noDefer a && noDefer b
  | .cond _ a b => noDefer a && noDefer b
  | .block _ b => noDefer b
  | .loop b => noDefer b
  | .skip | .exit _ | .ret => true
  | _ => false
def pureB : Op → Bool
  | .move _ | .assign _ | .pick .. | .binOp .. | .unOp .. | .convert .. | .fieldAddr .. | .field .. | .indexAddr .. | .index .. | .slice .. | .nilCheck _ | .makeFunc .. | .makeInterface .. | .extract .. | .typeAssert .. | .build .. => true
  | .call { callee := .builtin .len, .. } | .call { callee := .builtin .min, .. } | .call { callee := .builtin .max, .. } => true
  | _ => false
def loadB : Op → Bool
  | .load .. => true
  | _ => false
def reachB (ops : Array Oper) : Nat → Nat → Nat → Bool
  | 0, _, _ => false
  | n + 1, j, i => match ops[j]? with
    | some o => o.after.any fun e => Region.binds .any e && (e.on == i || reachB ops n e.on i)
    | none => false
def lateOk (ops : Array Oper) (Lt : List Nat) : Bool :=
  Lt.all fun j => (List.range ops.size).all fun i => Lt.contains i || (match ops[i]? with | some o => pureB o.op | none => true) || reachB ops ops.size j i
def planOk (ops : Array Oper) (Lt : List Nat) : Plan → Bool → Array Bool → Option (List Nat) → Bool
  | .done, _, l, none => (Region.ready .any ops l).isEmpty
  | .take i r, ph, l, none => Region.free .any ops l i && (Region.ready .any ops l).contains i && !Lt.contains i &&
      (match ops[i]? with | some o => if loadB o.op then !ph else pureB o.op | none => false) && planOk ops Lt r ph (l.setIfInBounds i true) none
  | .alt i r m, ph, l, none => match Region.ready .any ops l with
    | j :: rs => j == i && !ph && !Lt.contains i && (match ops[i]? with | some o => !pureB o.op | none => false) && planOk ops Lt r ph (l.setIfInBounds i true) none && planOk ops Lt m ph l (some rs)
    | [] => false
  | .alt i r m, ph, l, some (j :: rs) => j == i && !ph && !Lt.contains i && (match ops[i]? with | some o => !pureB o.op | none => false) && planOk ops Lt r ph (l.setIfInBounds i true) none && planOk ops Lt m ph l (some rs)
  | .altL i r m, ph, l, none => match Region.ready .any ops l with
    | j :: rs => j == i && Lt.contains i && planOk ops Lt r true (l.setIfInBounds i true) none && planOk ops Lt m ph l (some rs)
    | [] => false
  | .altL i r m, ph, l, some (j :: rs) => j == i && Lt.contains i && planOk ops Lt r true (l.setIfInBounds i true) none && planOk ops Lt m ph l (some rs)
  | .none, _, _, some [] => true
  | _, _, _, _ => false
def lateOf : Plan → List Nat
  | .done | .none => []
  | .take _ r => lateOf r
  | .alt _ r m => lateOf r ++ lateOf m
  | .altL i r m => i :: (lateOf r ++ lateOf m)
def plansOk (pl : Nat → Plan) : Code → Bool
  | .region id ops b => !b || (Region.noSelect ops && lateOk ops (lateOf (pl id)) && planOk ops (lateOf (pl id)) (pl id) false (Array.replicate ops.size false) none)
  | .seq a b => plansOk pl a && plansOk pl b
  | .cond _ a b => plansOk pl a && plansOk pl b
  | .block _ b => plansOk pl b
  | .loop b => plansOk pl b
  | _ => true
abbrev Env := Nat → Value
def upd (e : Env) (d : Nat) (v : Value) : Env := fun t => if t = d then v else e t
def updO (e : Env) (d : Option Nat) (v : Value) : Env := match d with | some d => upd e d v | none => e
def ev (e : Env) : Operand → Value
  | .tmp t => e t
  | .const v => v
  | .global g => .pointer (some ⟨g, 0, none⟩)
  | .func f => .func (.func f) #[] #[]
def mexec (ρ : Operand → Value) (o : MO) : Sem Next := execOp ρ { dst := o.d, op := o.op, type := o.ty, pos := "", after := #[], guard := none }
theorem mexec_strip (ρ : Operand → Value) (ops : Array Oper) (o : Oper) : execOp ρ o = mexec ρ (stripO ops o) := by
  obtain ⟨dst, op, ty, pos, after, guard⟩ := o
  cases op <;> rfl
def MCalls (P : Program) (f : FuncId) (args : Array Value) (w : World) (K : Value → World → Prop) (X : List PanicEntry → World → Prop) : Prop :=
  Calls P f args w fun e w' => match e with
    | .returned v => K v w'
    | .panicked ch => X ch w'
    | .outgrown => False
def yR (K : Value → World → Prop) (X : List PanicEntry → World → Prop) : Ending → World → Prop
  | .returned v, w => K v w
  | .panicked ch, w => X ch w
  | .outgrown, _ => False
def opR (P : Program) (ds : List Deferred) (K : Value → List Deferred → World → Prop) (X : List PanicEntry → List Deferred → World → Prop) : Result Next → Prop
  | .ok (.value v) w' => K v ds w'
  | .ok .skip w' => K undef ds w'
  | .ok (.defer d) w' => K undef (d :: ds) w'
  | .ok (.enter f args) w' => MCalls P f args w' (fun v w'' => K v ds w'') (fun ch w'' => X ch ds w'')
  | .ok (.row row args) w' => Rows P row args w' fun v w'' => K v ds w''
  | .ok (.round l f tmps assign body) w' => RoundIn Fence.wide 1 P l f tmps assign body w' (yR (fun v w'' => K v ds w'') (fun ch w'' => X ch ds w''))
  | .halt (.panic v) w' => X [{ v, recovered := false }] ds w'
  | _ => False
def oK {α : Type} (o : Option α) (k : α → Prop) : Prop := match o with | some v => k v | none => False
theorem oK_ite {α : Type} (c : Prop) [Decidable c] (o : Option α) (k : α → Prop) : oK (if c then o else none) k = (c ∧ oK o k) := by
  by_cases h : c <;> simp [oK, h]
@[congr] theorem oK_congr {α : Type} {o o' : Option α} {k : α → Prop} (h : o = o') : oK o k = oK o' k := by rw [h]
def tok (P : Program) (t : TypeId) : Bool := (P.info? t).isSome && (P.underlying t).isSome
def tsz (P : Program) (t : TypeId) : Nat := match P.info? t with | some i => i.size | none => 0
def tbytes (P : Program) (t : TypeId) : Nat := match P.info? t with | some i => i.bytes | none => 0
def tagg (P : Program) (t : TypeId) : Bool := match P.underlying t with | some (.struct _) | some (.array _ _) => true | _ => false
def tzero (P : Program) (t : TypeId) : Option Value := (P.info? t).bind (·.zero)
def telem (P : Program) (t : TypeId) : Option TypeId := match P.underlying t with | some (.slice e) => some e | _ => none
def tarr (P : Program) (t : TypeId) : Option (Nat × TypeId) := match P.underlying t with | some (.array n e) => some (n, e) | _ => none
def tkind (P : Program) (t : TypeId) : Option IntKind := match P.underlying t with | some (.int k) => some k | _ => none
def tstr (P : Program) (t : TypeId) : Bool := match P.underlying t with | some .string => true | _ => false
def tbool (P : Program) (t : TypeId) : Bool := match P.underlying t with | some .bool => true | _ => false
def tconc (P : Program) (t : TypeId) : Bool := match P.underlying t with | some (.interface _) => false | some _ => true | none => false
def tptr (P : Program) (t : TypeId) : Bool := match P.underlying t with | some (.pointer _) => true | _ => false
def tpsz (P : Program) (t : TypeId) : Bool := match P.underlying t with | some (.pointer e) => (match P.info? e with | some i => i.size != 0 | none => false) | _ => false
def tifc (P : Program) (t : TypeId) : Bool := match P.underlying t with | some (.interface _) => true | _ => false
def tfld (P : Program) (s : TypeId) (f : Nat) : Option (TypeId × Nat) := match P.underlying s with | some (.struct fs) => (fs[f]?).map fun f => (f.type, f.offset) | _ => none
def fldA (P : Program) (s : TypeId) (f : Nat) : Option Nat := match tfld P s f with | some (t, off) => if tok P t && tsz P t != 0 then some off else none | none => none
def partV (P : Program) (t : TypeId) (cs : Array Value) (off : Nat) : Option Value :=
  if tok P t then (if tagg P t then some (.agg (cs.extract off (off + tsz P t))) else cs[off]?) else none
def pickV : Value → Value → Value → Option Value
  | .bool c, a, b => some (if c then a else b)
  | _, _, _ => none
def binV (P : Program) (t : TypeId) : BinOp → Value → Value → Option Value
  | .add, .int k a, .int k' b => if k = k' then some (.int k (k.wrap (a + b))) else none
  | .sub, .int k a, .int k' b => if k = k' then some (.int k (k.wrap (a - b))) else none
  | .mul, .int k a, .int k' b => if k = k' then some (.int k (k.wrap (a * b))) else none
  | .quo, .int k a, .int k' b => if k = k' ∧ b ≠ 0 then some (.int k (k.wrap (a.tdiv b))) else none
  | .rem, .int k a, .int k' b => if k = k' ∧ b ≠ 0 then some (.int k (a.tmod b)) else none
  | .eql, .int k a, .int k' b => if k = k' then some (.bool (a == b)) else none
  | .neq, .int k a, .int k' b => if k = k' then some (.bool (a != b)) else none
  | .lss, .int k a, .int k' b => if k = k' then some (.bool (decide (a < b))) else none
  | .leq, .int k a, .int k' b => if k = k' then some (.bool (decide (a ≤ b))) else none
  | .gtr, .int k a, .int k' b => if k = k' then some (.bool (decide (b < a))) else none
  | .geq, .int k a, .int k' b => if k = k' then some (.bool (decide (b ≤ a))) else none
  | .and, .int k a, .int k' b => if k = k' then some (.int k (k.wrap (BitVec.ofInt k.bits a &&& BitVec.ofInt k.bits b).toNat)) else none
  | .or, .int k a, .int k' b => if k = k' then some (.int k (k.wrap (BitVec.ofInt k.bits a ||| BitVec.ofInt k.bits b).toNat)) else none
  | .xor, .int k a, .int k' b => if k = k' then some (.int k (k.wrap (BitVec.ofInt k.bits a ^^^ BitVec.ofInt k.bits b).toNat)) else none
  | .shl, .int k a, .int _ b => if 0 ≤ b then some (.int k (k.wrap (a * 2 ^ (min b.toNat k.bits)))) else none
  | .shr, .int k a, .int _ b => if 0 ≤ b then some (.int k (a.fdiv (2 ^ (min b.toNat k.bits)))) else none
  | .eql, .bool a, .bool b => if tbool P t then some (.bool (a == b)) else none
  | .neq, .bool a, .bool b => if tbool P t then some (.bool (a != b)) else none
  | .eql, .string a, .string b => some (.bool (a.toList == b.toList))
  | .neq, .string a, .string b => some (.bool (!(a.toList == b.toList)))
  | .lss, .string a, .string b => some (.bool (Op.bytesLess a.toList b.toList))
  | .leq, .string a, .string b => some (.bool (Op.bytesLess a.toList b.toList || a.toList == b.toList))
  | .gtr, .string a, .string b => some (.bool (!(Op.bytesLess a.toList b.toList || a.toList == b.toList)))
  | .geq, .string a, .string b => some (.bool (!Op.bytesLess a.toList b.toList))
  | .add, .string a, .string b => if a.size + b.size ≤ 9223372036854775807 then some (.string (a ++ b)) else none
  | .eql, .pointer none, .pointer b => if tptr P t then some (.bool b.isNone) else none
  | .eql, .pointer (some _), .pointer none => if tptr P t then some (.bool false) else none
  | .neq, .pointer none, .pointer b => if tptr P t then some (.bool (!b.isNone)) else none
  | .neq, .pointer (some _), .pointer none => if tptr P t then some (.bool true) else none
  | .eql, .pointer (some ⟨b, o, none⟩), .pointer (some ⟨b', o', none⟩) => if tpsz P t = true ∧ b = b' then some (.bool (o == o')) else none
  | .neq, .pointer (some ⟨b, o, none⟩), .pointer (some ⟨b', o', none⟩) => if tpsz P t = true ∧ b = b' then some (.bool (!(o == o'))) else none
  | .eql, .slice none _ _, .slice b _ _ => if (telem P t).isSome then some (.bool b.isNone) else none
  | .eql, .slice (some _) _ _, .slice none _ _ => if (telem P t).isSome then some (.bool false) else none
  | .neq, .slice none _ _, .slice b _ _ => if (telem P t).isSome then some (.bool (!b.isNone)) else none
  | .neq, .slice (some _) _ _, .slice none _ _ => if (telem P t).isSome then some (.bool true) else none
  | _, _, _ => none
def isC : Operand → Bool
  | .const _ => true
  | _ => false
def flatB : Value → Bool
  | .bool _ | .int _ _ | .string _ => true
  | _ => false
def beqLit : Lit → Lit → Bool
  | .bool a, .bool b => a == b
  | .int k n, .int k' n' => decide (k = k') && decide (n = n')
  | .string a, .string b => a == b
  | _, _ => false
def okLit : Lit → Bool
  | .bool _ | .int _ _ | .string _ => true
  | _ => false
def beqLits : List Lit → List Lit → Bool
  | [], [] => true
  | a :: l, b :: m => beqLit a b && beqLits l m
  | _, _ => false
def aggE (P : Program) (t : TypeId) (a b : Array Value) : Option Bool :=
  if (P.keyTypeAt 40 t && !P.eqGuardType P.depth t && (Value.agg a).formed P t && (Value.agg b).formed P t && a.toList.all flatB && b.toList.all flatB) = true then
    match P.keyLits 40 t a.toList, P.keyLits 40 t b.toList with
    | some la, some lb => if (la.all okLit && lb.all okLit) = true then some (beqLits la lb) else none
    | _, _ => none
  else none
def binVC (P : Program) (t : TypeId) (op : BinOp) (a b : Value) (c : Bool) : Option Value :=
  match b with
  | .agg bs => (match a, op with
    | .agg as, .eql => (aggE P t as bs).map fun r => .bool r
    | .agg as, .neq => (aggE P t as bs).map fun r => .bool (!r)
    | _, _ => none)
  | .nilIface => if c = true ∧ tifc P t = true then (match a, op with
    | .nilIface, .eql => some (.bool true)
    | .nilIface, .neq => some (.bool false)
    | .iface _ _, .eql => some (.bool false)
    | .iface _ _, .neq => some (.bool true)
    | _, _ => none) else none
  | b => binV P t op a b
def unV : UnOp → Value → Option Value
  | .neg, .int k n => some (.int k (k.wrap (0 - n)))
  | .not, .bool b => some (.bool !b)
  | _, _ => none
def fldV (P : Program) (s : TypeId) (f : Nat) : Value → Option Value
  | .pointer (some a) => (fldA P s f).map fun off => .pointer (some (a.add off))
  | _ => none
def fieldV (P : Program) (s : TypeId) (f : Nat) : Value → Option Value
  | .agg cs => match tfld P s f with | some (t, off) => partV P t cs off | none => none
  | _ => none
def idxA (P : Program) (t : TypeId) : Value → Value → Option Value
  | .slice (some a) len _, .int _ i => match telem P t with
    | some e => if tok P e then (if 0 ≤ i ∧ i < len then some (.pointer (some (a.add (i.toNat * tsz P e)))) else none) else none
    | none => none
  | .pointer (some a), .int _ i => match tarr P t with
    | some (n, e) => if tok P e then (if 0 ≤ i ∧ i < n then some (.pointer (some (a.add (i.toNat * tsz P e)))) else none) else none
    | none => none
  | _, _ => none
def idxV (P : Program) (t : TypeId) : Value → Value → Option Value
  | .agg cs, .int _ i => match tarr P t with
    | some (n, e) => if tok P e then (if 0 ≤ i ∧ i < n then partV P e cs (i.toNat * tsz P e) else none) else none
    | none => none
  | .string s, .int _ i => if tstr P t then (if 0 ≤ i then (s[i.toNat]?).map fun b => .int .u8 b.toNat else none) else none
  | _, _ => none
def boundV : Option Value → Int → Option Int
  | none, d => some d
  | some (.int _ i), _ => some i
  | _, _ => none
def slcV (P : Program) (t : TypeId) (x : Value) (lo hi : Option Value) : Option Value :=
  match x with
  | .slice a len cap => match telem P t, boundV lo 0, boundV hi len with
    | some e, some l, some h => if tok P e then (if 0 ≤ l ∧ l ≤ h ∧ h ≤ cap then some (.slice (if (cap : Int) = l then a else a.map (·.add (l.toNat * tsz P e))) (h - l).toNat (cap - l).toNat) else none) else none
    | _, _, _ => none
  | .string s => match boundV lo 0, boundV hi s.size with
    | some l, some h => if tstr P t then (if 0 ≤ l ∧ l ≤ h ∧ h ≤ s.size then some (.string (s.extract l.toNat h.toNat)) else none) else none
    | _, _ => none
  | .pointer (some a) => match tarr P t with
    | some (n, e) => (match boundV lo 0, boundV hi n with
      | some l, some h => if tok P e then (if 0 ≤ l ∧ l ≤ h ∧ h ≤ n then some (.slice (some (if (n : Int) = l then a else a.add (l.toNat * tsz P e))) (h - l).toNat (n - l).toNat) else none) else none
      | _, _ => none)
    | none => none
  | _ => none
def lenV (P : Program) (t : TypeId) : Value → Option Value
  | .slice _ n _ => if (telem P t).isSome then some (.int .i64 n) else none
  | .string s => if tstr P t then some (.int .i64 s.size) else none
  | _ => none
def min2V : Value → Value → Option Value
  | .int k x, .int _ y => some (.int k (if y < x then y else x))
  | _, _ => none
def max2V : Value → Value → Option Value
  | .int k x, .int _ y => some (.int k (if x < y then y else x))
  | _, _ => none
def convV (P : Program) (src dst : TypeId) : Value → Option Value
  | .int _ n => if tok P src then (tkind P dst).map fun k => .int k (k.wrap n) else none
  | .string s => if tstr P src && tstr P dst then some (.string s) else none
  | _ => none
def nilV : Value → Option Value
  | .pointer (some a) => some (.pointer (some a))
  | .func (.func f) a b => some (.func (.func f) a b)
  | .slice a n c => some (.slice a n c)
  | .iface t v => some (.iface t v)
  | _ => none
def extV (i : Nat) : Value → Option Value
  | .tuple vs => vs[i]?
  | _ => none
def assertV (P : Program) (t : TypeId) (ok : Bool) : Value → Option Value
  | .iface u v => if tconc P t then (if u = t then some (if ok then .tuple #[v, .bool true] else v) else if ok then (tzero P t).map fun z => .tuple #[z, .bool false] else none) else none
  | .nilIface => if tconc P t && ok then (tzero P t).map fun z => .tuple #[z, .bool false] else none
  | _ => none
def fillV (place : Nat → Option (Nat × Nat)) (cells : Array Value) (l : List (Nat × Value)) : Option (Array Value) := Instr.fill place cells l
def buildV (P : Program) (t : TypeId) (parts : List (Nat × Value)) : Option Value :=
  match P.underlying t, tzero P t with
  | some (.struct fs), some z => if fs.all (fun f => tok P f.type) then (fillV (fun i => (fs[i]?).map fun f => (f.offset, tsz P f.type)) z.cells parts).map .agg else none
  | some (.array _ e), some z => if tok P e then (fillV (fun i => some (i * tsz P e, tsz P e)) z.cells parts).map .agg else none
  | _, _ => none
def repCells (z : Array Value) (n : Nat) : Array Value := (Array.range n).map (z[· % z.size]!)
def buildS (P : Program) (t : TypeId) (len : Nat) (parts : List (Nat × Value)) : Option (TypeId × Array Value) :=
  match telem P t with
  | some e => if tok P e ∧ len * tsz P e ≤ 16777216 then
      (if len * tsz P e = 0 then (fillV (fun i => some (i * tsz P e, tsz P e)) (repCells #[] (len * tsz P e)) parts).map fun c => (e, c)
       else match tzero P e with | some z => (fillV (fun i => some (i * tsz P e, tsz P e)) (repCells z.cells (len * tsz P e)) parts).map fun c => (e, c) | none => none)
      else none
  | none => none
def callP (P : Program) (ρ : Operand → Value) (c : Call) : Option Value :=
  match c.callee with
  | .builtin .len => (match c.args.toList, c.argTypes.toList with
    | [x], [t] => lenV P t (ρ x)
    | _, _ => none)
  | .builtin .min => (match c.args.toList with
    | [x, y] => min2V (ρ x) (ρ y)
    | _ => none)
  | .builtin .max => (match c.args.toList with
    | [x, y] => max2V (ρ x) (ρ y)
    | _ => none)
  | _ => none
def pureV (P : Program) (ρ : Operand → Value) : Op → Option Value
  | .move x => some (ρ x)
  | .assign x => some (ρ x)
  | .pick c a b => pickV (ρ c) (ρ a) (ρ b)
  | .binOp op t x y _ => binVC P t op (ρ x) (ρ y) (isC y)
  | .unOp op _ x => unV op (ρ x)
  | .convert src dst x => convV P src dst (ρ x)
  | .fieldAddr s x f => fldV P s f (ρ x)
  | .field s x f => fieldV P s f (ρ x)
  | .indexAddr t x i => idxA P t (ρ x) (ρ i)
  | .index t x i => idxV P t (ρ x) (ρ i)
  | .slice t x lo hi none => slcV P t (ρ x) (lo.map ρ) (hi.map ρ)
  | .nilCheck x => nilV (ρ x)
  | .makeFunc fn first cap => some (.func fn (first.map ρ) (cap.map ρ))
  | .makeInterface t x => if tconc P t then some (.iface t (ρ x)) else none
  | .extract x i => extV i (ρ x)
  | .typeAssert x _ t ok => assertV P t ok (ρ x)
  | .build t parts => buildV P t (parts.toList.map fun (i, x) => (i, ρ x))
  | .call c => callP P ρ c
  | _ => none
section
variable {P : Program}
theorem run_tsz {t : TypeId} (h : tok P t = true) (w : World) : (sizeOf t).run P w = .ok (tsz P t) w := by
  unfold tok at h
  simp only [Bool.and_eq_true] at h
  obtain ⟨i, hi⟩ := Option.isSome_iff_exists.1 h.1
  simp [sizeOf, typeInfo, tsz, hi]
theorem run_tagg {t : TypeId} (h : tok P t = true) (w : World) : (isAgg t).run P w = .ok (tagg P t) w := by
  unfold tok at h
  simp only [Bool.and_eq_true] at h
  obtain ⟨i, hi⟩ := Option.isSome_iff_exists.1 h.2
  simp only [isAgg,Sem.run_bind,run_underlying hi,Result.andThen_ok,tagg,hi]
  cases i <;> rfl
theorem run_tzero {t : TypeId} {z : Value} (h : tzero P t = some z) (w : World) : (zeroValue t).run P w = .ok z w := by
  unfold tzero at h
  cases hi : P.info? t with
  | none => simp [hi] at h
  | some i => simp [hi] at h; simp [zeroValue, typeInfo, hi, h]
theorem run_partV {t : TypeId} {cs : Array Value} {off : Nat} {v : Value} (h : partV P t cs off = some v) (w : World) : (part t cs off).run P w = .ok v w := by
  unfold partV at h
  split at h
  · rename_i ht
    simp only [part,Sem.run_bind,run_tagg ht,Result.andThen_ok]
    split at h
    · rename_i ha
      simp only [ha,if_true,Sem.run_bind,run_tsz ht,Result.andThen_ok,Sem.run_pure]
      exact congrArg (fun x => Result.ok x w) (by simpa using h)
    · rename_i ha
      simp [ha, h]
  · cases h
theorem telem_some {t e : TypeId} (h : telem P t = some e) : P.underlying t = some (.slice e) := by
  unfold telem at h; split at h <;> simp_all
theorem tarr_some {t : TypeId} {n : Nat} {e : TypeId} (h : tarr P t = some (n, e)) : P.underlying t = some (.array n e) := by
  unfold tarr at h; split at h <;> simp_all
theorem tkind_some {t : TypeId} {k : IntKind} (h : tkind P t = some k) : P.underlying t = some (.int k) := by
  unfold tkind at h; split at h <;> simp_all
theorem tstr_some {t : TypeId} (h : tstr P t = true) : P.underlying t = some .string := by
  unfold tstr at h; split at h <;> simp_all
theorem tbool_some {t : TypeId} (h : tbool P t = true) : P.underlying t = some .bool := by
  unfold tbool at h; split at h <;> simp_all
theorem tptr_some {t : TypeId} (h : tptr P t = true) : ∃ e, P.underlying t = some (.pointer e) := by
  unfold tptr at h; split at h <;> simp_all
theorem tok_und {t : TypeId} (h : tok P t = true) : ∃ d, P.underlying t = some d := by
  unfold tok at h; simp only [Bool.and_eq_true] at h; exact Option.isSome_iff_exists.1 h.2
theorem telem_isSome {t : TypeId} (h : (telem P t).isSome = true) : ∃ e, P.underlying t = some (.slice e) := by
  obtain ⟨e, he⟩ := Option.isSome_iff_exists.1 h; exact ⟨e, telem_some he⟩
theorem eqIn_bool {t : TypeId} (d : Nat) (h : tbool P t = true) (a b : Bool) (w : World) : (Op.equalIn (d + 1) t (.bool a) (.bool b)).run P w = .ok (a == b) w := by
  unfold Op.equalIn; simp [run_underlying (tbool_some h)]
theorem eqIn_nil_ptr {t : TypeId} (d : Nat) (h : tptr P t = true) (b : Option Addr) (w : World) : (Op.equalIn (d + 1) t (.pointer none) (.pointer b)).run P w = .ok b.isNone w := by
  obtain ⟨e, he⟩ := tptr_some h
  unfold Op.equalIn; simp [run_underlying he]
theorem eqIn_ptr_nil {t : TypeId} (d : Nat) (h : tptr P t = true) (a : Addr) (w : World) : (Op.equalIn (d + 1) t (.pointer (some a)) (.pointer none)).run P w = .ok false w := by
  obtain ⟨e, he⟩ := tptr_some h
  unfold Op.equalIn; simp [run_underlying he]
theorem eqIn_ptr_same {t : TypeId} (d : Nat) (h : tpsz P t = true) (b o o' : Nat) (w : World) : (Op.equalIn (d + 1) t (.pointer (some ⟨b, o, none⟩)) (.pointer (some ⟨b, o', none⟩))).run P w = .ok (o == o') w := by
  unfold tpsz at h
  split at h
  · rename_i e he
    split at h
    · rename_i i hi
      have hs : ¬ i.size = 0 := by simpa using h
      have hb : ((⟨b, o, none⟩ : Addr) == ⟨b, o', none⟩) = (o == o') := by
        by_cases ho : o = o'
        · subst ho; simp
        · have : (⟨b, o, none⟩ : Addr) ≠ ⟨b, o', none⟩ := fun e => ho (by cases e; rfl)
          rw [beq_eq_false_iff_ne.2 this, beq_eq_false_iff_ne.2 ho]
      unfold Op.equalIn; simp [run_underlying he, sizeOf, typeInfo, hi, hs, sameAddr, hb]
    · cases h
  · cases h
theorem eqIn_nil_slice {t : TypeId} (d : Nat) (h : (telem P t).isSome = true) (b : Option Addr) (n c n' c' : Nat) (w : World) : (Op.equalIn (d + 1) t (.slice none n c) (.slice b n' c')).run P w = .ok b.isNone w := by
  obtain ⟨e, he⟩ := telem_isSome h
  unfold Op.equalIn; simp [run_underlying he]
theorem eqIn_slice_nil {t : TypeId} (d : Nat) (h : (telem P t).isSome = true) (a : Addr) (n c n' c' : Nat) (w : World) : (Op.equalIn (d + 1) t (.slice (some a) n c) (.slice none n' c')).run P w = .ok false w := by
  obtain ⟨e, he⟩ := telem_isSome h
  unfold Op.equalIn; simp [run_underlying he]
theorem eql_run {t : TypeId} {x y : Value} {b : Bool} {w : World} (hb : binOp .eql t x y = (do pure (.bool (← Op.equal t x y)))) (h : (Op.equalIn (9999 + 1) t x y).run P w = .ok b w) : (binOp .eql t x y).run P w = .ok (.bool b) w := by
  rw [hb]; simp only [Op.equal]
  have : Op.maxDepth = 9999 + 1 := rfl
  rw [this]; simp [h]
theorem neq_run {t : TypeId} {x y : Value} {b : Bool} {w : World} (hb : binOp .neq t x y = (do pure (.bool (!(← Op.equal t x y))))) (h : (Op.equalIn (9999 + 1) t x y).run P w = .ok b w) : (binOp .neq t x y).run P w = .ok (.bool (!b)) w := by
  rw [hb]; simp only [Op.equal]
  have : Op.maxDepth = 9999 + 1 := rfl
  rw [this]; simp [h]
theorem guard_run {t : TypeId} {op : BinOp} {a b v : Value} {x y : Operand} {w : World} (hg : eqGuard op t x y a b = pure ()) (h : (binOp op t a b).run P w = .ok v w) :
    (do eqGuard op t x y a b; binOp op t a b : Sem Value).run P w = .ok v w := by rw [hg]; exact h
theorem binV_run {t : TypeId} {op : BinOp} {a b v : Value} (h : binV P t op a b = some v) (x y : Operand) (w : World) :
    (do eqGuard op t x y a b; binOp op t a b : Sem Value).run P w = .ok v w := by
  unfold binV at h
  split at h <;> first
    | (split at h
       · rename_i hk
         first
           | (subst hk; cases h; exact guard_run (by rfl) (by simp only [binOp,ne_eq,not_true_eq_false,if_false]; rfl))
           | (subst hk; cases h; exact guard_run (by rfl) (by simp [binOp, Op.intArith, Op.intCmp]))
           | (cases h; exact guard_run (by rfl) (by simp only [binOp,Op.shift]; rw [if_neg (Int.not_lt.2 hk)]; rfl))
           | (obtain ⟨rfl, hk⟩ := hk; cases h; exact guard_run (by rfl) (by simp [binOp, Op.intDiv, hk]))
           | (cases h; exact guard_run (by rfl) (eql_run (by rfl) (eqIn_bool _ hk _ _ _)))
           | (cases h; exact guard_run (by rfl) (neq_run (b := !_) (by rfl) (by first | exact eqIn_bool _ hk _ _ _ | exact eqIn_nil_ptr _ hk _ _)))
           | (cases h; exact guard_run (by rfl) (eql_run (by rfl) (by first | exact eqIn_nil_ptr _ hk _ _ | exact eqIn_ptr_nil _ hk _ _ | exact eqIn_nil_slice _ hk _ _ _ _ _ _ | exact eqIn_slice_nil _ hk _ _ _ _ _ _)))
           | (cases h; exact guard_run (by rfl) (neq_run (b := false) (by rfl) (by first | exact eqIn_ptr_nil _ hk _ _ | exact eqIn_slice_nil _ hk _ _ _ _ _ _)))
           | (cases h; exact guard_run (by rfl) (neq_run (by rfl) (by first | exact eqIn_bool _ hk _ _ _ | exact eqIn_nil_ptr _ hk _ _ | exact eqIn_nil_slice _ hk _ _ _ _ _ _)))
           | (obtain ⟨hk, rfl⟩ := hk; cases h; exact guard_run (by rfl) (eql_run (by rfl) (eqIn_ptr_same _ hk _ _ _ _)))
           | (obtain ⟨hk, rfl⟩ := hk; cases h; exact guard_run (by rfl) (neq_run (by rfl) (eqIn_ptr_same _ hk _ _ _ _)))
           | (cases h; refine guard_run (by rfl) ?_; simp only [binOp,Op.stringOp,IntKind.max_i64]; rw [if_neg (by omega)]; rfl)
       · cases h)
    | (cases h; exact guard_run (by rfl) (by simp [binOp, Op.stringOp]))
    | (cases h; done)
theorem tifc_some {t : TypeId} (h : tifc P t = true) : ∃ ms, P.underlying t = some (.interface ms) := by
  unfold tifc at h; split at h
  · rename_i ms hu; exact ⟨ms, hu⟩
  · cases h
theorem eqIn_nn {t : TypeId} (d : Nat) (h : tifc P t = true) (w : World) : (Op.equalIn (d + 1) t .nilIface .nilIface).run P w = .ok true w := by
  obtain ⟨ms, he⟩ := tifc_some h
  unfold Op.equalIn; simp [run_underlying he]
theorem eqIn_in {t : TypeId} (d : Nat) (h : tifc P t = true) (u : TypeId) (v : Value) (w : World) : (Op.equalIn (d + 1) t (.iface u v) .nilIface).run P w = .ok false w := by
  obtain ⟨ms, he⟩ := tifc_some h
  unfold Op.equalIn; simp [run_underlying he]
theorem beqLit_eq {a b : Lit} (ha : okLit a = true) (hb : okLit b = true) : beqLit a b = true ↔ a = b := by
  cases a <;> cases b <;> simp_all [beqLit, okLit]
theorem beqLits_eq : ∀ {l m : List Lit}, l.all okLit = true → m.all okLit = true → (beqLits l m = true ↔ l = m)
  | [], [], _, _ => by simp [beqLits]
  | [], b :: m, _, _ => by simp [beqLits]
  | a :: l, [], _, _ => by simp [beqLits]
  | a :: l, b :: m, hl, hm => by
    simp only [List.all_cons,Bool.and_eq_true] at hl hm
    simp only [beqLits,Bool.and_eq_true,List.cons.injEq,beqLit_eq hl.1 hm.1,beqLits_eq hl.2 hm.2]
theorem aggE_run {t : TypeId} {a b : Array Value} {r : Bool} (h : aggE P t a b = some r) (w : World) : P.eqGuardType P.depth t = false ∧ (Op.equalIn (9999 + 1) t (.agg a) (.agg b)).run P w = .ok r w := by
  unfold aggE at h
  split at h
  · rename_i hc
    simp only [Bool.and_eq_true,Bool.not_eq_true'] at hc
    obtain ⟨⟨⟨⟨⟨h1, h2⟩, h3⟩, h4⟩, _⟩, _⟩ := hc
    refine ⟨h2, ?_⟩
    split at h
    · rename_i la lb ha hb
      split at h
      · rename_i hok
        simp only [Bool.and_eq_true] at hok
        obtain ⟨r', hr, hiff⟩ := run_equalIn_deep (P := P) 9960 40 t h1 w 40 40 (.agg a) (.agg b) la lb h3 h4 ha hb
        cases h
        rw [show (9999 + 1 : Nat) = 9960 + 40 from rfl, hr]
        have := (beqLits_eq hok.1 hok.2).trans hiff.symm
        congr 1
        exact Bool.eq_iff_iff.2 this.symm
      · cases h
    · cases h
  · cases h
theorem agg_guard {t : TypeId} {op : BinOp} {a b : Array Value} {v : Value} {x y : Operand} {w : World} (hg : P.eqGuardType P.depth t = false) (h : (binOp op t (.agg a) (.agg b)).run P w = .ok v w) :
    (do eqGuard op t x y (.agg a) (.agg b); binOp op t (.agg a) (.agg b) : Sem Value).run P w = .ok v w := by
  have : (eqGuard op t x y (.agg a) (.agg b)).run P w = .ok () w := by
    unfold eqGuard
    cases op <;> simp [program, Sem.run, Result.andThen, hg]
  rw [Sem.run_bind, this]
  exact h
theorem binVC_run {t : TypeId} {op : BinOp} {a b v : Value} (x y : Operand) (h : binVC P t op a b (isC y) = some v) (w : World) :
    (do eqGuard op t x y a b; binOp op t a b : Sem Value).run P w = .ok v w := by
  unfold binVC at h
  split at h
  · split at h
    · obtain ⟨r, hr, rfl⟩ := Option.map_eq_some_iff.1 h
      obtain ⟨g1, g2⟩ := aggE_run hr w
      exact agg_guard g1 (eql_run (by rfl) g2)
    · obtain ⟨r, hr, rfl⟩ := Option.map_eq_some_iff.1 h
      obtain ⟨g1, g2⟩ := aggE_run hr w
      exact agg_guard g1 (neq_run (by rfl) g2)
    · cases h
  · split at h
    · rename_i hc
      obtain ⟨hc, ht⟩ := hc
      obtain ⟨c, rfl⟩ : ∃ c, y = .const c := by cases y <;> simp [isC] at hc; exact ⟨_, rfl⟩
      split at h <;> cases h
      · exact guard_run (by simp [eqGuard]) (eql_run (by rfl) (eqIn_nn _ ht _))
      · exact guard_run (by simp [eqGuard]) (neq_run (b := true) (by rfl) (eqIn_nn _ ht _))
      · exact guard_run (by simp [eqGuard]) (eql_run (by rfl) (eqIn_in _ ht _ _ _))
      · exact guard_run (by simp [eqGuard]) (neq_run (b := false) (by rfl) (eqIn_in _ ht _ _ _))
    · cases h
  · exact binV_run h x y w
theorem unV_run {op : UnOp} {a v : Value} (h : unV op a = some v) (w : World) : (Op.unary op a).run P w = .ok v w := by
  unfold unV at h
  split at h <;> cases h <;> simp [Op.unary, Op.intArith]
theorem tfld_some {s f : Nat} {t off : Nat} (h : tfld P s f = some (t, off)) : ∃ fs fd, P.underlying s = some (.struct fs) ∧ fs[f]? = some fd ∧ fd.type = t ∧ fd.offset = off := by
  unfold tfld at h
  split at h
  · rename_i fs hu
    cases hf : fs[f]? with
    | none => simp [hf] at h
    | some fd => simp [hf] at h; exact ⟨fs, fd, hu, hf, h.1, h.2⟩
  · cases h
theorem fldV_run {s f : Nat} {x v : Value} (h : fldV P s f x = some v) (w : World) : (Instr.fieldAt s x f).run P w = .ok v w := by
  unfold fldV at h
  split at h
  · rename_i a
    unfold fldA at h
    split at h
    · rename_i t off hf
      split at h
      · rename_i ht
        cases h
        obtain ⟨fs, fd, hu, hfd, rfl, rfl⟩ := tfld_some hf
        simp only [Bool.and_eq_true,bne_iff_ne] at ht
        simp [Instr.fieldAt, run_underlying hu, hfd, Instr.sureAddr, fieldPlace, run_tsz ht.1, ht.2]
      · cases h
    · cases h
  · cases h
theorem fieldV_run {s f : Nat} {x v : Value} (h : fieldV P s f x = some v) (w : World) : (Instr.field s x f).run P w = .ok v w := by
  unfold fieldV at h
  split at h
  · split at h
    · rename_i t off hf
      obtain ⟨fs, fd, hu, hfd, rfl, rfl⟩ := tfld_some hf
      simp [Instr.field, run_underlying hu, hfd, asAgg, run_partV h]
    · cases h
  · cases h
theorem idxA_run {t : TypeId} {x i v : Value} (h : idxA P t x i = some v) (w : World) : (Instr.indexAt t x i).run P w = .ok v w := by
  unfold idxA at h
  split at h
  · split at h
    · rename_i e he
      split at h
      · rename_i hok
        split at h
        · rename_i hi
          cases h
          simp [Instr.indexAt, asIntOf, run_underlying (telem_some he), hi, run_tsz hok]
        · cases h
      · cases h
    · cases h
  · split at h
    · rename_i n e he
      split at h
      · rename_i hok
        split at h
        · rename_i hi
          cases h
          simp [Instr.indexAt, asIntOf, run_underlying (tarr_some he), Instr.sureAddr, hi, run_tsz hok]
        · cases h
      · cases h
    · cases h
  · cases h
theorem idxV_run {t : TypeId} {x i v : Value} (h : idxV P t x i = some v) (w : World) : (Instr.index t x i).run P w = .ok v w := by
  unfold idxV at h
  split at h
  · split at h
    · rename_i n e he
      split at h
      · rename_i hok
        split at h
        · rename_i hi
          simp [Instr.index, asIntOf, run_underlying (tarr_some he), hi, run_tsz hok, run_partV h]
        · cases h
      · cases h
    · cases h
  · rename_i s k i
    split at h
    · rename_i hs
      split at h
      · rename_i hi
        cases hb : s[i.toNat]? with
        | none => rw [hb] at h; cases h
        | some b => rw [hb] at h; cases h; simp [Instr.index, asIntOf, run_underlying (tstr_some hs), hi, hb]
      · cases h
    · cases h
  · cases h
theorem bound_run {x : Value} {i d : Int} (hx : boundV (some x) d = some i) {y : Nat} (h0 : 0 ≤ i) (h1 : i ≤ y) (c : BoundsCode) (w : World) : (Instr.sliceBound x y c).run P w = .ok i.toNat w := by
  unfold boundV at hx
  split at hx
  · rename_i heq; cases heq
  · rename_i heq; cases heq; cases hx; simp [Instr.sliceBound, asIntOf, h0, h1]
  · cases hx
theorem bounds_run {b : Bool} {len cap : Nat} {lo hi : Option Value} {l h : Int} (hl : boundV lo 0 = some l) (hh : boundV hi len = some h) (h0 : 0 ≤ l) (h1 : l ≤ h) (h2 : h ≤ cap) (w : World) :
    (Instr.sliceBounds b len cap lo hi none).run P w = .ok (l.toNat, h.toNat, cap) w := by
  have e1 : ∀ x, lo = some x → ∀ c w, (Instr.sliceBound x h.toNat c).run P w = .ok l.toNat w := fun x hx c w => bound_run (by rw [← hx]; exact hl) h0 (by omega) c w
  have e2 : ∀ x, hi = some x → ∀ c w, (Instr.sliceBound x cap c).run P w = .ok h.toNat w := fun x hx c w => bound_run (by rw [hx] at hh; exact hh) (by omega) (by omega) c w
  cases lo with
  | none =>
    simp only [boundV,Option.some.injEq] at hl
    subst hl
    cases hi with
    | none => simp only [boundV,Option.some.injEq] at hh; subst hh; simp [Instr.sliceBounds]
    | some y => simp [Instr.sliceBounds, e2 y rfl]
  | some x =>
    cases hi with
    | none =>
      simp only [boundV,Option.some.injEq] at hh
      subst hh
      simp only [Int.toNat_natCast] at e1 ⊢
      simp [Instr.sliceBounds, e1 x rfl]
    | some y => simp [Instr.sliceBounds, e1 x rfl, e2 y rfl]
theorem slcV_run {t : TypeId} {x v : Value} {lo hi : Option Value} (h : slcV P t x lo hi = some v) (w : World) : (Instr.sliceAt t x lo hi none).run P w = .ok v w := by
  unfold slcV at h
  split at h
  · rename_i a len cap
    split at h
    · rename_i e l h' he hl hh
      split at h
      · rename_i hok
        split at h
        · rename_i hb
          cases h
          obtain ⟨h0, h1, h2⟩ := hb
          simp only [Instr.sliceAt,Sem.run_bind,run_underlying (telem_some he),Result.andThen_ok,Instr.slice,bounds_run hl hh h0 h1 h2,run_tsz hok,Sem.run_pure]
          congr 1
          have hc : (cap = l.toNat) ↔ ((cap : Int) = l) := by omega
          have e1 : h'.toNat - l.toNat = (h' - l).toNat := by omega
          have e2 : cap - l.toNat = ((cap : Int) - l).toNat := by omega
          simp only [hc,e1,e2]
        · cases h
      · cases h
    · cases h
  · rename_i s
    split at h
    · rename_i l h' hl hh
      split at h
      · rename_i hs
        split at h
        · rename_i hb
          cases h
          obtain ⟨h0, h1, h2⟩ := hb
          simp only [Instr.sliceAt,Sem.run_bind,run_underlying (tstr_some hs),Result.andThen_ok,Instr.slice]
          simp [bounds_run hl hh h0 h1 h2]
        · cases h
      · cases h
    · cases h
  · rename_i a
    split at h
    · rename_i n e he
      split at h
      · rename_i l h' hl hh
        split at h
        · rename_i hok
          split at h
          · rename_i hb
            cases h
            obtain ⟨h0, h1, h2⟩ := hb
            simp only [Instr.sliceAt,Sem.run_bind,run_underlying (tarr_some he),Result.andThen_ok,Instr.sureAddr,Sem.run_pure,bounds_run hl hh h0 h1 h2,run_tsz hok]
            congr 1
            have hc : (n = l.toNat) ↔ ((n : Int) = l) := by omega
            have e1 : h'.toNat - l.toNat = (h' - l).toNat := by omega
            have e2 : n - l.toNat = ((n : Int) - l).toNat := by omega
            simp only [hc,e1,e2]
          · cases h
        · cases h
      · cases h
    · cases h
  · cases h
theorem lenV_run {t ty : TypeId} {x v : Value} (h : lenV P t x = some v) (w : World) : (Builtin.len_ #[t] ty #[x]).run P w = .ok v w := by
  unfold lenV at h
  split at h
  · split at h
    · rename_i hs
      cases h
      obtain ⟨e, he⟩ := telem_isSome hs
      simp [Builtin.len_, run_underlying he, goInt]
    · cases h
  · split at h
    · rename_i hs
      cases h
      simp [Builtin.len_, run_underlying (tstr_some hs), goInt]
    · cases h
  · cases h
theorem min2V_run {x y v : Value} (h : min2V x y = some v) (w : World) : (Builtin.min2 x y).run P w = .ok v w := by
  unfold min2V at h; split at h
  · cases h; simp [Builtin.min2]
  · cases h
theorem max2V_run {x y v : Value} (h : max2V x y = some v) (w : World) : (Builtin.max2 x y).run P w = .ok v w := by
  unfold max2V at h; split at h
  · cases h; simp [Builtin.max2]
  · cases h
theorem convV_run {src dst : TypeId} {x v : Value} (h : convV P src dst x = some v) (w : World) : (convert src dst x).run P w = .ok v w := by
  unfold convV at h
  split at h
  · split at h
    · rename_i hs
      obtain ⟨d, hd⟩ := tok_und hs
      cases hk : tkind P dst with
      | none => rw [hk] at h; cases h
      | some k => rw [hk] at h; cases h; simp [convert, run_underlying hd, run_underlying (tkind_some hk), Conv.intToInt]
    · cases h
  · split at h
    · rename_i hs
      simp only [Bool.and_eq_true] at hs
      cases h
      simp [convert, run_underlying (tstr_some hs.1), run_underlying (tstr_some hs.2)]
    · cases h
  · cases h
theorem tconc_some {t : TypeId} (h : tconc P t = true) : ∃ d, P.underlying t = some d ∧ ∀ ms, d ≠ .interface ms := by
  unfold tconc at h
  split at h
  · cases h
  · rename_i d hn hd; exact ⟨d, hd, hn⟩
  · cases h
theorem assertV_run {t st : TypeId} {ok : Bool} {x v : Value} (h : assertV P t ok x = some v) (w : World) : (Instr.typeAssert x st t ok).run P w = .ok v w := by
  unfold assertV at h
  split at h
  · split at h
    · rename_i hc
      obtain ⟨d, hd, hn⟩ := tconc_some hc
      split at h
      · rename_i hu
        subst hu
        cases h
        simp only [Instr.typeAssert,Sem.run_bind,run_underlying hd,Result.andThen_ok]
        cases d <;> first | (exact absurd rfl (hn _)) | (cases ok <;> simp)
      · rename_i hu
        split at h
        · rename_i hok
          subst hok
          cases hz : tzero P t with
          | none => rw [hz] at h; cases h
          | some z =>
            rw [hz] at h; cases h
            simp only [Instr.typeAssert,Sem.run_bind,run_underlying hd,Result.andThen_ok]
            cases d <;> first | (exact absurd rfl (hn _)) | (simp [hu, run_tzero hz])
        · cases h
    · cases h
  · split at h
    · rename_i hc
      simp only [Bool.and_eq_true] at hc
      obtain ⟨hc, rfl⟩ := hc
      obtain ⟨d, hd, hn⟩ := tconc_some hc
      cases hz : tzero P t with
      | none => rw [hz] at h; cases h
      | some z =>
        rw [hz] at h; cases h
        simp only [Instr.typeAssert,Sem.run_bind,run_underlying hd,Result.andThen_ok]
        cases d <;> first | (exact absurd rfl (hn _)) | (simp [run_tzero hz])
    · cases h
  · cases h
theorem fill_run {place : Nat → Option (Nat × Nat)} {cells cs : Array Value} {l : List (Nat × Value)} (h : fillV place cells l = some cs) : Instr.fill place cells l = some cs := h
theorem tsz_mapM (fs : List Field) (h : ∀ f ∈ fs, tok P f.type = true) (w : World) :
    (fs.mapM fun (f : Field) => do pure (f.offset, ← sizeOf f.type) : Sem (List (Nat × Nat))).run P w = .ok (fs.map fun f => (f.offset, tsz P f.type)) w := by
  induction fs with
  | nil => simp
  | cons f fs ih =>
    have h1 := h f (by simp)
    have h2 := ih fun g hg => h g (by simp [hg])
    simp only [bind_pure_comp] at h2
    simp [List.mapM_cons, run_tsz h1, h2]
theorem buildV_run {t : TypeId} {parts : Array (Nat × Value)} {v : Value} (h : buildV P t parts.toList = some v) (w : World) : (Instr.build t parts).run P w = .ok v w := by
  unfold buildV at h
  split at h
  · rename_i fs z hu hz
    split at h
    · rename_i hok
      have hok' : ∀ f ∈ fs.toList, tok P f.type = true := fun f hf => (Array.all_eq_true_iff_forall_mem.1 hok) f (by simpa using hf)
      have hm := tsz_mapM fs.toList hok' w
      cases hf : fillV (fun i => (fs[i]?).map fun f => (f.offset, tsz P f.type)) z.cells parts.toList with
      | none => rw [hf] at h; cases h
      | some cs =>
        rw [hf] at h; cases h
        have hplaces : (fun (i : Nat) => ((fs.map fun (f : Field) => (f.offset, tsz P f.type))[i]? : Option (Nat × Nat))) = fun i => (fs[i]?).map fun f => (f.offset, tsz P f.type) := by
          funext i; simp
        have hm' : (fs.mapM fun (f : Field) => do pure (f.offset, ← sizeOf f.type) : Sem (Array (Nat × Nat))).run P w = .ok (fs.map fun f => (f.offset, tsz P f.type)) w := by
          rw [Array.mapM_eq_mapM_toList]
          rw [← bind_pure_comp, Sem.run_bind, hm]
          have he : (List.map (fun (f : Field) => (f.offset, tsz P f.type)) fs.toList).toArray = Array.map (fun f => (f.offset, tsz P f.type)) fs := by
            cases fs; simp
          simp only [Result.andThen_ok,Sem.run_pure,he]
        simp only [Instr.build,Sem.run_bind,run_tzero hz,Result.andThen_ok,run_underlying hu,hm',hplaces,fill_run hf,Sem.run_pure]
    · cases h
  · rename_i n e z hu hz
    split at h
    · rename_i hok
      cases hf : fillV (fun i => some (i * tsz P e, tsz P e)) z.cells parts.toList with
      | none => rw [hf] at h; cases h
      | some cs =>
        rw [hf] at h; cases h
        simp only [Instr.build,Sem.run_bind,run_tzero hz,Result.andThen_ok,run_underlying hu,run_tsz hok,fill_run hf,Sem.run_pure]
    · cases h
  · cases h
theorem buildS_run {t : TypeId} {len : Nat} {parts : Array (Nat × Value)} {e : TypeId} {cs : Array Value} (h : buildS P t len parts.toList = some (e, cs)) (w : World) :
    (Instr.buildSlice t len parts).run P w = .ok (.slice (some ⟨w.heap.size, 0, none⟩) len len) (w.alloc (.cells cs e)) := by
  unfold buildS at h
  split at h
  · rename_i e' he
    split at h
    · rename_i hc
      obtain ⟨hok, hn⟩ := hc
      split at h
      · rename_i h0
        cases hf : fillV (fun i => some (i * tsz P e', tsz P e')) (repCells #[] (len * tsz P e')) parts.toList with
        | none => rw [hf] at h; cases h
        | some cs' =>
          rw [hf] at h; cases h
          have hf' := fill_run hf
          unfold repCells at hf'
          simp only [Instr.buildSlice,Sem.run_bind,run_underlying (telem_some he),Result.andThen_ok,run_tsz hok]
          rw [if_neg (by omega), if_pos h0]
          simp only [Sem.run_pure,Result.andThen_ok,hf',Sem.run_bind,newRow,run_newObj,World.alloc_eq]
      · rename_i h0
        split at h
        · rename_i z hz
          cases hf : fillV (fun i => some (i * tsz P e', tsz P e')) (repCells z.cells (len * tsz P e')) parts.toList with
          | none => rw [hf] at h; cases h
          | some cs' =>
            rw [hf] at h; cases h
            have hf' := fill_run hf
            unfold repCells at hf'
            simp only [Instr.buildSlice,Sem.run_bind,run_underlying (telem_some he),Result.andThen_ok,run_tsz hok]
            rw [if_neg (by omega), if_neg h0]
            simp only [Sem.run_bind,run_tzero hz,Sem.run_pure,Result.andThen_ok,hf',newRow,run_newObj,World.alloc_eq]
        · cases h
    · cases h
  · cases h
theorem callP_run {ρ : Operand → Value} {c : Call} {ty : TypeId} {v : Value} (h : callP P ρ c = some v) (w : World) : (do let d ← resolve ρ c ty; invoke d.target d.args : Sem Next).run P w = .ok (.value v) w := by
  obtain ⟨callee, args, ats⟩ := c
  unfold callP at h
  simp only at h
  split at h
  · split at h
    · rename_i x t hx ht
      obtain rfl : args = #[x] := by cases args; simp at hx; rw [hx]
      obtain rfl : ats = #[t] := by cases ats; simp at ht; rw [ht]
      simp [resolve, invoke, builtin, lenV_run h]
    · cases h
  · split at h
    · rename_i x y hx
      obtain rfl : args = #[x, y] := by cases args; simp at hx; rw [hx]
      simp [resolve, invoke, builtin, Builtin.min_, min2V_run h]
    · cases h
  · split at h
    · rename_i x y hx
      obtain rfl : args = #[x, y] := by cases args; simp at hx; rw [hx]
      simp [resolve, invoke, builtin, Builtin.max_, max2V_run h]
    · cases h
  · cases h
theorem pure_run {ρ : Operand → Value} {o : MO} {v : Value} (h : pureV P ρ o.op = some v) (w : World) : (mexec ρ o).run P w = .ok (.value v) w := by
  obtain ⟨d, op, ty, g⟩ := o
  have lift : ∀ {s : Sem Value}, s.run P w = .ok v w → (do pure (Next.value (← s)) : Sem Next).run P w = .ok (.value v) w := fun hs => by simp [hs]
  unfold pureV at h
  simp only at h
  split at h
  · cases h; rfl
  · cases h; rfl
  · rename_i c a b
    cases hc : ρ c with
    | bool cb =>
      rw [hc] at h
      simp only [pickV,Option.some.injEq] at h
      subst h
      simp only [mexec,execOp,hc,asBool]
      cases cb <;> simp
    | _ => rw [hc] at h; simp [pickV] at h
  · exact lift (binVC_run _ _ h w)
  · exact lift (unV_run h w)
  · exact lift (convV_run h w)
  · exact lift (fldV_run h w)
  · exact lift (fieldV_run h w)
  · exact lift (idxA_run h w)
  · exact lift (idxV_run h w)
  · exact lift (slcV_run h w)
  · rename_i x
    unfold nilV at h
    simp only [mexec,execOp]
    split at h <;> rename_i hx <;> first
      | (cases h; rw [hx]; rfl)
      | cases h
  · cases h; rfl
  · split at h
    · rename_i hc
      obtain ⟨d', hd, hn⟩ := tconc_some hc
      cases h
      refine lift ?_
      simp only [Instr.makeInterface,Sem.run_bind,run_underlying hd,Result.andThen_ok]
      cases d' <;> first | (exact absurd rfl (hn _)) | rfl
    · cases h
  · rename_i x i
    unfold extV at h
    split at h
    · rename_i vs hx
      refine lift ?_
      simp [Instr.extract, hx, h]
    · cases h
  · exact lift (assertV_run h w)
  · rename_i t parts
    refine lift (buildV_run ?_ w)
    simpa using h
  · exact callP_run h w
  · cases h
def loadsV (w : World) (a : Addr) : Nat → Nat → Option (List Value)
  | 0, _ => some []
  | n + 1, i => (w.cell? (a.add i)).bind fun v => (loadsV w a n (i + 1)).map (v :: ·)
def loadV (P : Program) (w : World) (t : TypeId) : Value → Option Value
  | .pointer (some a) => if tok P t = true then (if tagg P t = true then (loadsV w a (tsz P t) 0).map fun l => .agg l.toArray else w.cell? a) else none
  | _ => none
def storesV (w : World) (a : Addr) : List Value → Nat → Option World
  | [], _ => some w
  | v :: r, i => if v.oneCell' = true ∧ (w.cell? (a.add i)).isSome = true ∧ w.frozen? (a.add i) = false then storesV (w.setCell (a.add i) v) a r (i + 1) else none
def storeV (P : Program) (w : World) (t : TypeId) (v : Value) : Value → Option World
  | .pointer (some a) => if tok P t = true ∧ v.cells.size = tsz P t then storesV w a v.cells.toList 0 else none
  | _ => none
theorem loadsV_run {w : World} {a : Addr} : ∀ (n i : Nat) (l : List Value) (acc : Array Value), loadsV w a n i = some l → (loadCellsFrom a i n acc).run P w = .ok (acc ++ l.toArray) w
  | 0, i, l, acc, h => by simp only [loadsV,Option.some.injEq] at h; subst h; simp [loadCellsFrom]
  | n + 1, i, l, acc, h => by
    simp only [loadsV] at h
    cases hc : w.cell? (a.add i) with
    | none => rw [hc] at h; cases h
    | some v =>
      rw [hc] at h
      cases hl : loadsV w a n (i + 1) with
      | none => simp [hl] at h
      | some r =>
        simp [hl] at h; subst h
        simp [loadCellsFrom, hc, loadsV_run n (i + 1) r _ hl]
theorem loadV_run {w : World} {t : TypeId} {x v : Value} (h : loadV P w t x = some v) : (Instr.loadAt t x).run P w = .ok v w := by
  unfold loadV at h
  split at h
  · rename_i a
    split at h
    · rename_i hok
      simp only [Instr.loadAt,Instr.sureAddr,Sem.run_bind,Sem.run_pure,Result.andThen_ok,loadVar,run_tagg hok,Sem.run_ite]
      split at h
      · rename_i ha
        cases hl : loadsV w a (tsz P t) 0 with
        | none => rw [hl] at h; cases h
        | some l =>
          rw [hl] at h; cases h
          simp [ha, run_tsz hok, loadCells, loadsV_run _ _ _ _ hl]
      · rename_i ha
        simp [ha, h]
    · cases h
  · cases h
theorem loadV_ptr {w : World} {t : TypeId} {x v : Value} (h : loadV P w t x = some v) : ∃ p, x = .pointer (some p) ∧ (loadVar t p).run P w = .ok v w := by
  have h' := h
  unfold loadV at h
  split at h
  · rename_i a
    refine ⟨a, rfl, ?_⟩
    have := loadV_run h'
    simpa only [Instr.loadAt,Instr.sureAddr,Sem.run_bind,Sem.run_pure,Result.andThen_ok] using this
  · cases h
theorem storesV_run {a : Addr} : ∀ (l : List Value) (i : Nat) (w w' : World), storesV w a l i = some w' → (storeCells a l i).run P w = .ok () w'
  | [], i, w, w', h => by simp only [storesV,Option.some.injEq] at h; subst h; simp [storeCells]
  | v :: r, i, w, w', h => by
    simp only [storesV] at h
    split at h
    · rename_i hc
      obtain ⟨u, hu⟩ := Option.isSome_iff_exists.1 hc.2.1
      have h1 := run_store P w (a.add i) v .plain hc.1
      have h2 := storesV_run r (i + 1) _ _ h
      simp only [storeCells,Sem.run_bind,h1,hu,hc.2.2]
      simpa using h2
    · cases h
theorem storeV_run {w w' : World} {t : TypeId} {x v : Value} (h : storeV P w t v x = some w') : (Instr.storeAt t x v).run P w = .ok () w' := by
  unfold storeV at h
  split at h
  · rename_i a
    split at h
    · rename_i hok
      simp only [Instr.storeAt,Instr.sureAddr,Sem.run_bind,Sem.run_pure,Result.andThen_ok,storeVar,run_tsz hok.1,hok.2,ne_eq,not_true,if_false]
      exact storesV_run _ _ _ _ h
    · cases h
  · cases h
def makeS (P : Program) (t : TypeId) : Value → Value → Option (TypeId × Array Value × Nat × Nat)
  | .int _ l, .int _ c => match telem P t with
    | some e => if tok P e = true ∧ 0 ≤ l ∧ l ≤ c ∧ c * tbytes P e ≤ 281474976710656 ∧ c ≤ 9223372036854775807 then
        (match tzero P e with | some z => some (e, (if c.toNat * tsz P e = 0 then #[] else repCells z.cells (c.toNat * tsz P e)), l.toNat, c.toNat) | none => none) else none
    | none => none
  | _, _ => none
theorem makeS_run {t : TypeId} {a b : Value} {e : TypeId} {cs : Array Value} {l c : Nat} (h : makeS P t a b = some (e, cs, l, c)) (w : World) :
    (Instr.makeSlice t a b).run P w = .ok (.slice (some ⟨w.heap.size, 0, none⟩) l c) (w.alloc (.cells cs e)) := by
  unfold makeS at h
  split at h
  · rename_i k1 l0 k2 c0
    split at h
    · rename_i e' he
      split at h
      · rename_i hc
        obtain ⟨hok, h0, h1, h2, h3⟩ := hc
        split at h
        · rename_i z hz
          simp only [Option.some.injEq,Prod.mk.injEq] at h
          obtain ⟨rfl, hcs, rfl, rfl⟩ := h
          have hi : ∃ i, P.info? e' = some i := by unfold tok at hok; simp only [Bool.and_eq_true] at hok; exact Option.isSome_iff_exists.1 hok.1
          obtain ⟨i, hi⟩ := hi
          have hby : tbytes P e' = i.bytes := by simp [tbytes, hi]
          rw [hby] at h2
          have w1 : IntKind.i64.wrap l0 = l0 := IntWalk.i64_in _ (by omega)
          have w2 : IntKind.i64.wrap c0 = c0 := IntWalk.i64_in _ (by omega)
          have hti : (typeInfo e').run P w = .ok i w := by simp [typeInfo, hi]
          have hbig : ¬ ((i.bytes : Int) * c0 > 2 ^ 48) := by
            rw [Int.mul_comm]; omega
          have hcond : ((decide (c0 < 0) || decide ((i.bytes : Int) * c0 > 2 ^ 48)) || decide (l0 < 0) || decide (l0 > c0)) = false := by
            simp only [Bool.or_eq_false_iff,decide_eq_false_iff_not]; refine ⟨⟨⟨by omega, hbig⟩, by omega⟩, by omega⟩
          simp only [Instr.makeSlice,asInt,asIntOf,Sem.run_bind,run_underlying (telem_some he),Sem.run_pure,Result.andThen_ok,hti,w1,w2,hcond]
          simp only [Bool.false_eq_true,if_false,Sem.run_bind,Result.andThen_ok,run_askRoom,run_tsz hok]
          by_cases hn : c0.toNat * tsz P e' = 0
          · rw [if_pos hn] at hcs
            subst hcs
            have h0 : (Array.range 0) = #[] := rfl
            simp [hn, newRow, h0]
          · rw [if_neg hn] at hcs
            subst hcs
            simp [hn, newRow, run_tzero hz, repCells]
        · cases h
      · cases h
    · cases h
  · cases h
def okF (P : Program) (f : FuncId) : Bool := match P.funcs[f]? with | some fn => !(fn.name == "runtime.NumGoroutine") && fn.body.isSome | none => false
theorem okF_run {f : FuncId} (h : okF P f = true) (args : Array Value) (w : World) : (callFunc f args).run P w = .ok (.enter f args) w := by
  unfold okF at h
  split at h
  · rename_i fn hf
    simp only [Bool.and_eq_true,Bool.not_eq_true'] at h
    have h1 : ¬ fn.name = "runtime.NumGoroutine" := by simpa using h.1
    have h2 : ¬ fn.body = none := by
      cases hb : fn.body with
      | none => rw [hb] at h; simp at h
      | some b => simp
    simp [callFunc, hf, h1, h2]
  · cases h
def methB (P : Program) (t : TypeId) (name : String) : Option FuncId :=
  match (P.info? t).bind fun i => i.methods.find? (·.name == name) with
  | some m => match m.func with
    | some (f, pr) => if m.path.isEmpty && (tptr P t == pr) && tok P t then some f else none
    | none => none
  | none => none
theorem methB_run {t : TypeId} {name : String} {f : FuncId} (h : methB P t name = some f) (v : Value) (n : Nat) (w : World) : (method (n + 1) t v name).run P w = .ok (f, v) w := by
  unfold methB at h
  split at h
  · rename_i m hm
    split at h
    · rename_i f' pr hfn
      split at h
      · rename_i hc
        simp only [Bool.and_eq_true,beq_iff_eq] at hc
        obtain ⟨⟨hp, hpr⟩, hok⟩ := hc
        cases h
        cases hi : P.info? t with
        | none => rw [hi] at hm; cases hm
        | some i =>
          rw [hi] at hm
          simp only [Option.bind_some] at hm
          have hpath : m.path.toList = [] := by simpa [Array.isEmpty] using hp
          obtain ⟨d, hd⟩ := tok_und hok
          have hti : (typeInfo t).run P w = .ok i w := by simp [typeInfo, hi]
          simp only [method,Sem.run_bind,hti,Result.andThen_ok,hm,hpath,follow,Sem.run_pure,hfn,receiverAt,run_underlying hd]
          unfold tptr at hpr
          rw [hd] at hpr
          cases pr <;> cases d <;> first | (simp at hpr; done) | (simp [Place.get])
      · cases h
    · cases h
  · cases h
end
def fnV : Value → Option (FuncId × Array Value × Array Value)
  | .func (.func f) first cap => some (f, first, cap)
  | _ => none
def callV (P : Program) (fv : Value) (args : Array Value) (w : World) (K : Value → World → Prop) (X : List PanicEntry → World → Prop)
    (M : FuncId → Array Value → Prop) : Prop :=
  match fv with
  | .func (.yield l) first _ => YieldAt Fence.wide 1 P l (first ++ args) w (yR K X)
  | v => oK (fnV v) fun r => M r.1 (r.2.1 ++ args ++ r.2.2)
def invV (P : Program) (name : String) : Value → Option (FuncId × Value)
  | .iface t v => (methB P t name).map fun f => (f, v)
  | _ => none
def panV : Value → Option Value
  | .iface t v => some (.iface t v)
  | _ => none
def MCallF (P : Program) (f : FuncId) (args : Array Value) (w : World) (K : Value → World → Prop) (X : List PanicEntry → World → Prop) : Prop :=
  okF P f = true ∧ MCalls P f args w K X
def convK (P : Program) (t t' : TypeId) (v : Value) (k : Value → Prop) (alt : Prop) : Prop := match convV P t t' v with
  | some u => k u
  | none => alt
def lenK (o : Option Value) (k : Value → Prop) (alt : Prop) : Prop := match o with
  | some u => k u
  | none => alt
def opW (P : Program) (o : MO) (e : Env) (ds : List Deferred) (w : World) (K : Value → List Deferred → World → Prop) (X : List PanicEntry → List Deferred → World → Prop) : Prop :=
  match o.op with
  | .load t x => oK (loadV P w t (ev e x)) fun v => K v ds w
  | .store t a x => oK (storeV P w t (ev e x) (ev e a)) fun w' => K undef ds w'
  | .alloc t => oK (tzero P t) fun z => K (.pointer (some ⟨w.heap.size, 0, none⟩)) ds (w.alloc (.cells z.cells t))
  | .box t x => K (.pointer (some ⟨w.heap.size, 0, none⟩)) ds (w.alloc (.cells (ev e x).cells t))
  | .buildSlice t n parts => oK (buildS P t n (parts.toList.map fun (i, x) => (i, ev e x))) fun r => K (.slice (some ⟨w.heap.size, 0, none⟩) n n) ds (w.alloc (.cells r.2 r.1))
  | .makeSlice t l c => oK (makeS P t (ev e l) (ev e c)) fun r => K (.slice (some ⟨w.heap.size, 0, none⟩) r.2.2.1 r.2.2.2) ds (w.alloc (.cells r.2.1 r.1))
  | .panic x => oK (panV (ev e x)) fun v => X [{ v, recovered := false }] ds w
  | .call c => match c.callee with
    | .builtin .len => lenK (callP P (ev e) c) (fun v => K v ds w) (opR P ds K X ((mexec (ev e) o).run P w))
    | .builtin .min => oK (callP P (ev e) c) fun v => K v ds w
    | .builtin .max => oK (callP P (ev e) c) fun v => K v ds w
    | .builtin .append => (match c.args.toList, c.argTypes.toList with
      | [x, y], [t, t'] => ∃ v' w', (Builtin.append_ #[t, t'] o.ty #[ev e x, ev e y]).run P w = .ok v' w' ∧ K v' ds w'
      | _, _ => False)
    | .builtin .copy => (match c.args.toList, c.argTypes.toList with
      | [x, y], [t, t'] => ∃ v' w', (Builtin.copy_ #[t, t'] o.ty #[ev e x, ev e y]).run P w = .ok v' w' ∧ K v' ds w'
      | _, _ => False)
    | .builtin _ => opR P ds K X ((mexec (ev e) o).run P w)
    | .value f => callV P (ev e f) (c.args.map (ev e)) w (fun v w' => K v ds w') (fun ch w' => X ch ds w') fun g as => MCallF P g as w (fun v w' => K v ds w') (fun ch w' => X ch ds w')
    | .invoke f name => oK (invV P name (ev e f)) fun r => MCallF P r.1 (#[r.2] ++ c.args.map (ev e)) w (fun v w' => K v ds w') (fun ch w' => X ch ds w')
  | .convert t t' x => convK P t t' (ev e x) (fun v => K v ds w) (opR P ds K X ((mexec (ev e) o).run P w))
  | .go _ | .defer _ | .send .. | .recv .. | .select .. | .range .. | .next .. | .entry .. | .lookup .. | .mapUpdate .. | .mapEntry .. | .entryStore .. | .insert .. | .makeMap .. | .makeChan .. | .ready .. | .waits .. | .sliceToArrayPointer .. =>
    opR P ds K X ((mexec (ev e) o).run P w)
  | op => oK (pureV P (ev e) op) fun v => K v ds w
theorem oK_elim {α : Type} {o : Option α} {k : α → Prop} (h : oK o k) : ∃ v, o = some v ∧ k v := by
  cases o with
  | none => exact h.elim
  | some v => exact ⟨v, rfl, h⟩
section
variable {P : Program}
theorem opW_run {o : MO} {e : Env} {ds : List Deferred} {w : World} {K : Value → List Deferred → World → Prop} {X : List PanicEntry → List Deferred → World → Prop} (h : opW P o e ds w K X) :
    opR P ds K X ((mexec (ev e) o).run P w) := by
  obtain ⟨d, op, ty, g⟩ := o
  unfold opW at h
  simp only at h
  split at h
  · obtain ⟨v, hv, hk⟩ := oK_elim h; simp [mexec, execOp, loadV_run hv]; exact hk
  · obtain ⟨v, hv, hk⟩ := oK_elim h; simp [mexec, execOp, storeV_run hv]; exact hk
  · obtain ⟨v, hv, hk⟩ := oK_elim h
    simp only [mexec,execOp,Instr.alloc,Sem.run_bind,run_tzero hv,Result.andThen_ok]
    simpa [newVar, newRow, opR] using hk
  · simpa [mexec, execOp, Instr.box, newVar, newRow, opR] using h
  · obtain ⟨v, hv, hk⟩ := oK_elim h
    obtain ⟨e', cs⟩ := v
    rename_i t n parts
    have := buildS_run (P := P) (parts := parts.map fun x => (x.1, ev e x.2)) (by simpa using hv) w
    simp [mexec, execOp, this, opR]; exact hk
  · obtain ⟨v, hv, hk⟩ := oK_elim h
    obtain ⟨e', cs, l, c⟩ := v
    simp [mexec, execOp, makeS_run hv, opR]; exact hk
  · obtain ⟨v, hv, hk⟩ := oK_elim h
    unfold panV at hv
    split at hv
    · rename_i hx; cases hv; simp [mexec, execOp, hx, Instr.panic, opR]; exact hk
    · cases hv
  · rename_i c
    obtain ⟨callee, args, ats⟩ := c
    simp only at h
    split at h
    · unfold lenK at h
      split at h
      · rename_i v hv; simp only [mexec,execOp,callP_run hv]; exact h
      · exact h
    · obtain ⟨v, hv, hk⟩ := oK_elim h; simp only [mexec,execOp,callP_run hv]; exact hk
    · obtain ⟨v, hv, hk⟩ := oK_elim h; simp only [mexec,execOp,callP_run hv]; exact hk
    · split at h
      · rename_i x y t t' hx ht
        obtain ⟨v', w', hr, hk⟩ := h
        obtain rfl : args = #[x, y] := by cases args; simp at hx; rw [hx]
        obtain rfl : ats = #[t, t'] := by cases ats; simp at ht; rw [ht]
        simp [mexec, execOp, resolve, invoke, builtin, hr, opR]; exact hk
      · exact h.elim
    · split at h
      · rename_i x y t t' hx ht
        obtain ⟨v', w', hr, hk⟩ := h
        obtain rfl : args = #[x, y] := by cases args; simp at hx; rw [hx]
        obtain rfl : ats = #[t, t'] := by cases ats; simp at ht; rw [ht]
        simp [mexec, execOp, resolve, invoke, builtin, hr, opR]; exact hk
      · exact h.elim
    · exact h
    · rename_i f
      unfold callV at h
      split at h
      · rename_i l first cap hx
        obtain ⟨fn, tmps, assign, body, hy, hR⟩ := h
        simp only [mexec,execOp,resolve,hx,Deferred.ofValue,Sem.run_bind,Sem.run_pure,Result.andThen_ok,invoke,hy,opR]
        exact hR
      rename_i hny
      obtain ⟨v, hv, hk⟩ := oK_elim h
      unfold fnV at hv
      split at hv
      · rename_i hx; cases hv
        have h1 := okF_run hk.1
        simp only [mexec,execOp,resolve,hx,Deferred.ofValue,Sem.run_bind,Sem.run_pure,Result.andThen_ok,invoke,h1,opR]
        exact hk.2
      · cases hv
    · rename_i f name
      obtain ⟨v, hv, hk⟩ := oK_elim h
      unfold invV at hv
      split at hv
      · rename_i t u hx
        cases hm : methB P t name with
        | none => rw [hm] at hv; cases hv
        | some g' =>
          rw [hm] at hv; cases hv
          have h0 := okF_run hk.1
          have h1 := methB_run hm u (P.types.size + (Made.depth - 1)) w
          have h2 : P.types.size + (Made.depth - 1) + 1 = P.types.size + Made.depth := by unfold Made.depth; omega
          rw [h2] at h1
          have hex : (#[Value.iface t u] ++ args.map (ev e)).extract 1 (#[Value.iface t u] ++ args.map (ev e)).size = args.map (ev e) := by
            simp
          have hx0 : (#[Value.iface t u] ++ args.map (ev e))[0]? = some (Value.iface t u) := by rw [Array.getElem?_append_left (by simp)]; rfl
          simp only [mexec,execOp,resolve,hx,Sem.run_bind,Sem.run_pure,Result.andThen_ok,invoke,hx0,hex,callMethod,run_program,h1,h0,opR]
          exact hk.2
      · cases hv
  all_goals first
    | exact h
    | (unfold convK at h
       split at h
       · rename_i v hv
         rw [pure_run (o := ⟨d, .convert _ _ _, ty, g⟩) (v := v) hv]
         exact h
       · exact h)
    | (obtain ⟨v, hv, hk⟩ := oK_elim h; rw [pure_run (o := ⟨d, _, ty, g⟩) hv]; exact hk)
end
def wantedW (e : Env) : Option (Option Tmp × Bool) → Bool
  | none => true
  | some (none, _) => false
  | some (some t, b) => match e t with | .bool c => c == b | _ => false
def regW (P : Program) : List MO → Env → List Deferred → World → (Env → List Deferred → World → Prop) → (Env → List PanicEntry → List Deferred → World → Prop) → Prop
  | [], e, ds, w, K, _ => K e ds w
  | o :: rest, e, ds, w, K, X =>
    if wantedW e o.g = true then opW P o e ds w (fun v ds w => regW P rest (updO e o.d v) ds w K X) (X e) else regW P rest (updO e o.d undef) ds w K X
def softW (P : Program) (S : World → Prop) (o : MO) (e : Env) (k : Value → Prop) : Prop :=
  if wantedW e o.g = true then
    (match o.op with
    | .load t x => ∃ v, (∀ w, S w → loadV P w t (ev e x) = some v) ∧ k v
    | op => oK (pureV P (ev e) op) k)
  else k undef
theorem softW_elim {P : Program} {S : World → Prop} {o : MO} {e : Env} {k : Value → Prop} (h : softW P S o e k) :
    ∃ v, ((wantedW e o.g = true ∧ ∀ w, S w → (mexec (ev e) o).run P w = .ok (.value v) w) ∨ (wantedW e o.g = false ∧ v = undef)) ∧ k v := by
  unfold softW at h
  split at h
  · rename_i hw
    split at h
    · rename_i t x ho
      obtain ⟨v, hv, hk⟩ := h
      refine ⟨v, .inl ⟨hw, fun w hS => ?_⟩, hk⟩
      obtain ⟨d, op, ty, g⟩ := o
      simp only at ho
      subst ho
      simp [mexec, execOp, loadV_run (hv w hS)]
    · obtain ⟨v, hv, hk⟩ := oK_elim h
      exact ⟨v, .inl ⟨hw, fun w _ => pure_run hv w⟩, hk⟩
  · rename_i hw
    exact ⟨undef, .inr ⟨by simpa using hw, rfl⟩, h⟩
theorem softW_pure {P : Program} {S : World → Prop} {o : MO} {e : Env} {k : Value → Prop} (hp : pureB o.op = true) (h : softW P S o e k) :
    ∃ v, ((wantedW e o.g = true ∧ ∀ w, (mexec (ev e) o).run P w = .ok (.value v) w) ∨ (wantedW e o.g = false ∧ v = undef)) ∧ k v := by
  unfold softW at h
  split at h
  · rename_i hw
    split at h
    · rename_i t x ho
      rw [ho] at hp; simp [pureB] at hp
    · obtain ⟨v, hv, hk⟩ := oK_elim h
      exact ⟨v, .inl ⟨hw, fun w => pure_run hv w⟩, hk⟩
  · rename_i hw
    exact ⟨undef, .inr ⟨by simpa using hw, rfl⟩, h⟩
def planW (P : Program) (S : World → Prop) : MP → Env → List Deferred → World → (Env → List Deferred → World → Prop) → (List PanicEntry → List Deferred → World → Prop) → Prop
  | .done, e, ds, w, K, _ => K e ds w
  | .none, _, _, _, _, _ => True
  | .take o r, e, ds, w, K, X => softW P S o e fun v => planW P S r (updO e o.d v) ds w K X
  | .alt o r m, e, ds, w, K, X =>
    (if wantedW e o.g = true then opW P o e ds w (fun v ds w => S w ∧ planW P S r (updO e o.d v) ds w K X) X else planW P S r (updO e o.d undef) ds w K X) ∧
      planW P S m e ds w K X
  | .altL o r m, e, ds, w, K, X =>
    (if wantedW e o.g = true then opW P o e ds w (fun v ds w => planW P S r (updO e o.d v) ds w K X) X else planW P S r (updO e o.d undef) ds w K X) ∧
      planW P S m e ds w K X
def Rel (a : Act) (e : Env) (n : Nat) (ds : List Deferred) : Prop := a.tmps.size = n ∧ (∀ t, t < n → a.tmps[t]? = some (e t)) ∧ a.defers = ds
def opdFits (n : Nat) : Operand → Bool
  | .tmp t => decide (t < n)
  | _ => true
def operFits (ops : Array Oper) (n : Nat) (o : Oper) : Bool :=
  (match o.op with | .select .. => false | _ => true) && o.op.operands.all (opdFits n) &&
  (match o.guard with | none => true | some (j, _) => match (ops[j]?).bind (·.dst) with | some t => decide (t < n) | none => true)
def fits (n : Nat) : Code → Bool
  | .region _ ops _ => ops.all (operFits ops n)
  | .seq a b => fits n a && fits n b
  | .cond c a b => opdFits n c && fits n a && fits n b
  | .block _ b => fits n b
  | .loop b => fits n b
  | .rangeFunc g ps a b => opdFits n g && ps.all (fun p => decide (p < n)) && fits n a && fits n b
  | _ => true
def liftQ (n : Nat) (N : Env → List Deferred → World → Prop) (E : Nat → Env → List Deferred → World → Prop) (R : Env → List Deferred → World → Prop)
    (X : Env → List PanicEntry → List Deferred → World → Prop) : Exit → Act → World → Prop
  | .normal, a, w => ∃ e, Rel a e n a.defers ∧ N e a.defers w
  | .exit i, a, w => ∃ e, Rel a e n a.defers ∧ E i e a.defers w
  | .ret, a, w => ∃ e, Rel a e n a.defers ∧ R e a.defers w
  | .panic ch, a, w => ∃ e, (∀ t, t < n → a.tmps.getD t undef = e t) ∧ X e ch a.defers w
  | .goto _, _, _ => False
  | .outgrown, _, _ => False
def mwp (P : Program) : MC → Env → List Deferred → World → (Env → List Deferred → World → Prop) → (Nat → Env → List Deferred → World → Prop) → (Env → List Deferred → World → Prop) →
    (Env → List PanicEntry → List Deferred → World → Prop) → Prop
  | .skip, e, ds, w, N, _, _, _ => N e ds w
  | .ops l, e, ds, w, N, _, _, X => regW P l e ds w N X
  | .draw p, e, ds, w, N, _, _, X => ∃ S : World → Prop, S w.drew ∧ planW P S p e ds w.drew N (fun ch ds w => ∀ e, X e ch ds w)
  | .seq a b, e, ds, w, N, E, R, X => mwp P a e ds w (fun e ds w => mwp P b e ds w N E R X) E R X
  | .cond c a b, e, ds, w, N, E, R, X => (ev e c = .bool true ∧ mwp P a e ds w N E R X) ∨ (ev e c = .bool false ∧ mwp P b e ds w N E R X)
  | .block id b, e, ds, w, N, E, R, X => mwp P b e ds w N (fun i e ds w => if i = id then N e ds w else E i e ds w) R X
  | .loop b, e, ds, w, _, E, R, X => ∃ (I : Env → List Deferred → World → Prop) (μ : Env → List Deferred → World → Nat), I e ds w ∧
      ∀ e ds w, I e ds w → mwp P b e ds w (fun e' ds' w' => I e' ds' w' ∧ μ e' ds' w' < μ e ds w) E R X
  | .exit id, e, ds, w, _, E, _, _ => E id e ds w
  | .ret, e, ds, w, _, _, R, _ => R e ds w
  | .raw c, e, ds, w, N, E, R, X => ∀ n a, Rel a e n ds → fits n c = true → c.wp P (liftQ n N E R X) a w
  | .bad, _, _, _, _, _, _, _ => False
theorem ev_eval {a : Act} {e : Env} {n : Nat} {ds : List Deferred} (h : Rel a e n ds) {x : Operand} (hx : opdFits n x = true) : a.eval x = ev e x := by
  cases x with
  | tmp t =>
    have ht : t < n := by simpa [opdFits] using hx
    have := h.2.1 t ht
    simp [Act.eval, ev, this]
  | _ => rfl
theorem exec_rel {a : Act} {e : Env} {n : Nat} {ds : List Deferred} (h : Rel a e n ds) {ops : Array Oper} {o : Oper} (ho : operFits ops n o = true) :
    execOp a.eval o = mexec (ev e) (stripO ops o) := by
  rw [← mexec_strip]
  simp only [operFits,Bool.and_eq_true] at ho
  refine execOp_congr o (fun cs b hs => ?_) (fun x hx => ev_eval h ?_)
  · rw [hs] at ho; simp at ho
  · exact (Array.all_eq_true_iff_forall_mem.1 ho.1.2) x hx
theorem wanted_rel {a : Act} {e : Env} {n : Nat} {ds : List Deferred} (h : Rel a e n ds) {ops : Array Oper} {o : Oper} (ho : operFits ops n o = true) :
    Region.wanted o (yielded ops a.tmps) = wantedW e (stripO ops o).g := by
  simp only [operFits,Bool.and_eq_true] at ho
  obtain ⟨dst, op, ty, pos, after, guard⟩ := o
  cases guard with
  | none => rfl
  | some gb =>
    obtain ⟨j, b⟩ := gb
    have h2 := ho.2
    simp only [Region.wanted,stripO,Option.map_some,yielded] at *
    cases hd : (ops[j]?).bind (·.dst) with
    | none => rfl
    | some t =>
      rw [hd] at h2
      have ht : t < n := by simpa using h2
      have h3 := h.2.1 t ht
      simp only [Option.bind_some,h3,wantedW]
      cases e t <;> simp
theorem rel_put {a : Act} {e : Env} {n : Nat} {ds : List Deferred} (h : Rel a e n ds) (d : Option Nat) (v : Value) : Rel (a.put d v) (updO e d v) n ds := by
  cases d with
  | none => exact h
  | some d =>
    refine ⟨by simpa [Act.put] using h.1, fun t ht => ?_, h.2.2⟩
    simp only [Act.put,updO,upd]
    by_cases htd : t = d
    · subst htd; simp [h.1, ht]
    · rw [if_neg htd, Array.getElem?_setIfInBounds_ne (Ne.symm htd)]; exact h.2.1 t ht
theorem rel_put_defer {a : Act} {e : Env} {n : Nat} {ds : List Deferred} (h : Rel a e n ds) (x : Deferred) : Rel { a with defers := x :: a.defers } e n (x :: ds) :=
  ⟨h.1, h.2.1, by rw [← h.2.2]⟩
section
variable {P : Program} {n : Nat} {N : Env → List Deferred → World → Prop} {E : Nat → Env → List Deferred → World → Prop} {R : Env → List Deferred → World → Prop}
  {X : List PanicEntry → List Deferred → World → Prop}
theorem rowsIn_wd {m : Nat} {row : String} {args : Array Value} {w : World} {R : Value → World → Prop} (h : Rows P row args w R) : RowsIn Fence.wide m P row args w R :=
  fun c cs _ => let ⟨v, w', r, s⟩ := h c cs; ⟨v, w', r, stepsIn_wide.2 s⟩
theorem wpOpIn_yields {ops : Array Oper} {Q : Exit → Act → World → Prop} {S : World → Prop} {i : Nat} {o : Oper} {v : Value} {a : Act} (hi : ops[i]? = some o) (hy : YieldsIf P ops S o v a)
    {K : Act → World → Prop} {w : World} (hS : S w) (h : K (a.put o.dst v) w) : wpOpIn Fence.wide 2 P ops Q i K a w := by
  unfold wpOpIn
  simp only [hi]
  rcases hy with ⟨hw, hv⟩ | ⟨hw, rfl⟩
  · simp only [hw,if_true]
    refine ⟨fun _ _ => trivial, ?_⟩
    show o.uponIn Fence.wide 2 P a K Q ((execOp a.eval o).run P w)
    rw [hv w hS]; exact h
  · simp only [hw,Bool.false_eq_true,if_false]; exact ⟨fun _ _ => trivial, h⟩
theorem wpOpIn_putIf {ops : Array Oper} {Q : Exit → Act → World → Prop} {S : World → Prop} {j : Nat} {oi oj : Oper} {v : Value} (hj : ops[j]? = some oj) (hap : oi.apart ops oj = true)
    (hsi : ∀ cs b, oi.op ≠ .select cs b) (hsj : ∀ cs b, oj.op ≠ .select cs b)
    (hQ : ∀ c a w, Q (.panic c) (a.put oi.dst v) w → Q (.panic c) a w) {K : Act → World → Prop} {a : Act} {w : World}
    (hy : YieldsIf P ops S oi v a) (h : wpOpIn Fence.wide 2 P ops Q j K (a.put oi.dst v) w) :
    wpOpIn Fence.wide 2 P ops Q j (fun a' w' => YieldsIf P ops S oi v a' ∧ K (a'.put oi.dst v) w') a w := by
  obtain ⟨h1, h2, h3⟩ := Oper.apart_spec hap
  have keep : ∀ (a : Act), YieldsIf P ops S oi v a → ∀ u, YieldsIf P ops S oi v (a.put oj.dst u) := fun a hy u =>
    hy.of_same (execOp_put oi hsi a oj.dst u h3) (wanted_put oi a oj.dst u h3)
  have keepD : ∀ d, YieldsIf P ops S oi v { a with defers := d :: a.defers } := fun d => hy.of_same rfl rfl
  unfold wpOpIn at *
  simp only [hj] at *
  rw [wanted_put oj a oi.dst v h1] at h
  split
  · rename_i hw
    simp only [hw,if_true] at h
    refine ⟨fun _ _ => trivial, ?_⟩
    have h := h.2
    change oj.uponIn Fence.wide 2 P _ _ Q ((execOp (a.put oi.dst v).eval oj).run P w) at h
    show oj.uponIn Fence.wide 2 P a _ Q ((execOp a.eval oj).run P w)
    rw [execOp_put oj hsj a oi.dst v h1] at h
    generalize (execOp a.eval oj).run P w = r at *
    cases r with
    | ok x w' =>
      cases x <;> simp only [Oper.uponIn] at h ⊢
      case value u => exact ⟨keep a hy u, by rw [← Act.put_comm a v u h2]; exact h⟩
      case skip => exact ⟨keep a hy _, by rw [← Act.put_comm a v undef h2]; exact h⟩
      case defer d =>
        refine ⟨keep _ (keepD d) _, ?_⟩
        rw [← Act.put_comm _ v undef h2, ← Act.put_defers]
        exact h
      case enter f args =>
        refine ⟨h.1, CallsIn.mono h.2 fun e w'' he => ?_⟩
        cases e with
        | returned u => exact ⟨keep a hy u, by rw [← Act.put_comm a v u h2]; exact he⟩
        | panicked c => exact hQ _ _ _ he
        | outgrown => exact he
      case row row args => exact ⟨h.1, RowsIn.mono h.2 fun u w'' he => ⟨keep a hy u, by rw [← Act.put_comm a v u h2]; exact he⟩⟩
      case round l f tmps assign body =>
        refine ⟨h.1, RoundIn.mono h.2 fun e w'' he => ?_⟩
        cases e with
        | returned u => exact ⟨keep a hy u, by rw [← Act.put_comm a v u h2]; exact he⟩
        | panicked c => exact hQ _ _ _ he
        | outgrown => exact he
    | halt x w' =>
      cases x <;> simp only [Oper.uponIn] at h ⊢
      case panic u => exact hQ _ _ _ h
  · rename_i hw
    simp only [hw] at h
    exact ⟨fun _ _ => trivial, keep a hy _, by rw [← Act.put_comm a v undef h2]; exact h.2⟩
theorem op_sound {ops : Array Oper} {o : Oper} {a : Act} {e : Env} {ds : List Deferred} {w : World} {K : Value → List Deferred → World → Prop} {k : Act → World → Prop} {Q : Exit → Act → World → Prop}
    (hr : Rel a e n ds) (ho : operFits ops n o = true) (hX : ∀ ch w, X ch ds w → Q (.panic ch) a w)
    (hk : ∀ v ds' w' a', Rel a' e n ds' → K v ds' w' → k (a'.put o.dst v) w') (h : opW P (stripO ops o) e ds w K X) : o.wpIn Fence.wide 2 P a w k Q := by
  replace h := opW_run h
  refine ⟨fun _ _ => trivial, ?_⟩
  show o.uponIn Fence.wide 2 P a k Q ((execOp a.eval o).run P w)
  rw [exec_rel hr ho]
  generalize (mexec (ev e) (stripO ops o)).run P w = r at *
  cases r with
  | ok x w' =>
    cases x <;> simp only [opR,Oper.uponIn] at h ⊢
    case value v => exact hk _ _ _ _ hr h
    case skip => exact hk _ _ _ _ hr h
    case defer d => exact hk _ _ _ _ (rel_put_defer hr d) h
    case enter f args =>
      refine ⟨fun h => by simp [Fence.wide] at h, callsIn_wide.2 (Calls.mono h fun en w'' he => ?_)⟩
      cases en with
      | returned v => exact hk _ _ _ _ hr he
      | panicked ch => exact hX _ _ he
      | outgrown => exact he.elim
    case row row args => exact ⟨fun h => by simp [Fence.wide] at h, rowsIn_wd (Rows.mono h fun v w'' he => hk _ _ _ _ hr he)⟩
    case round l f tmps assign body =>
      refine ⟨fun h => by simp [Fence.wide] at h, RoundIn.mono h fun en w'' he => ?_⟩
      cases en with
      | returned v => exact hk _ _ _ _ hr he
      | panicked ch => exact hX _ _ he
      | outgrown => exact he.elim
  | halt x w' =>
    cases x <;> simp only [opR,Oper.uponIn] at h ⊢
    case panic v => exact hX _ _ h
theorem reg_sound {ops : Array Oper} {Q : Exit → Act → World → Prop} {X : Env → List PanicEntry → List Deferred → World → Prop} (hX : ∀ e ch a w, Rel a e n a.defers → X e ch a.defers w → Q (.panic ch) a w) (hN : ∀ e a w, Rel a e n a.defers → N e a.defers w → Q .normal a w) :
    ∀ (l : List Oper) (a : Act) (e : Env) (ds : List Deferred) (w : World), (∀ o ∈ l, operFits ops n o = true) → Rel a e n ds → regW P (l.map (stripO ops)) e ds w N X → wpListIn Fence.wide 2 P ops Q l a w
  | [], a, e, ds, w, _, hr, h => hN e a w (by rw [hr.2.2]; exact hr) (by rw [hr.2.2]; exact h)
  | o :: l, a, e, ds, w, hf, hr, h => by
    have ho := hf o (by simp)
    have hl : ∀ o ∈ l, operFits ops n o = true := fun x hx => hf x (by simp [hx])
    simp only [List.map_cons,regW] at h
    simp only [wpListIn,wanted_rel hr ho]
    split
    · rename_i hw
      rw [if_pos hw] at h
      exact op_sound hr ho (fun ch w hx => hX e ch a w (by rw [hr.2.2]; exact hr) (by rw [hr.2.2]; exact hx)) (fun v ds' w' a' hr' hk => reg_sound hX hN l _ _ ds' w' hl (rel_put hr' _ _) hk) h
    · rename_i hw
      rw [if_neg hw] at h
      exact ⟨fun _ _ => trivial, reg_sound hX hN l _ _ ds w hl (rel_put hr _ _) h⟩
theorem fits_getD {ops : Array Oper} (hf : ops.all (operFits ops n) = true) {i : Nat} {o : Oper} (h : ops[i]? = some o) : operFits ops n o = true :=
  Array.all_eq_true_iff_forall_mem.1 hf o (Array.mem_of_getElem? h)
def cnt (l : Array Bool) : Nat := (l.toList.filter (fun b => !b)).length
theorem cnt_set : ∀ (l : List Bool) (i : Nat), l[i]? = some false → ((l.set i true).filter (fun b => !b)).length + 1 = (l.filter (fun b => !b)).length
  | [], i, h => by simp at h
  | b :: l, 0, h => by simp at h; subst h; simp
  | b :: l, i + 1, h => by
    have := cnt_set l i (by simpa using h)
    cases b <;> simp only [List.set_cons_succ,List.filter_cons,Bool.not_false,Bool.not_true,if_true,Bool.false_eq_true,if_false,List.length_cons] <;> omega
theorem cnt_setIfInBounds {l : Array Bool} {i : Nat} (h : l.getD i true = false) : cnt (l.setIfInBounds i true) + 1 = cnt l := by
  have hi : l[i]? = some false := by
    cases hq : l[i]? with
    | none => simp [hq] at h
    | some b => simp [hq] at h; rw [h]
  unfold cnt
  rw [Array.toList_setIfInBounds]
  exact cnt_set l.toList i (by simpa using hi)
theorem put_defers (a : Act) (d : Option Tmp) (v : Value) : (a.put d v).defers = a.defers := by cases d <;> rfl
theorem wpOp_of {ops : Array Oper} {Q : Exit → Act → World → Prop} {i : Nat} {o : Oper} {k : Act → World → Prop} {K : Value → List Deferred → World → Prop} {a : Act} {e : Env} {ds : List Deferred} {w : World} {Y : Prop}
    (hi : ops[i]? = some o) (ho : operFits ops n o = true) (hr : Rel a e n ds) (hX : ∀ ch w, X ch ds w → Q (.panic ch) a w)
    (hk : ∀ v ds' w' a', Rel a' e n ds' → K v ds' w' → k (a'.put o.dst v) w') (hskip : Y → k (a.put o.dst undef) w)
    (h : if wantedW e (stripO ops o).g = true then opW P (stripO ops o) e ds w K X else Y) : wpOpIn Fence.wide 2 P ops Q i k a w := by
  unfold wpOpIn
  simp only [hi,wanted_rel hr ho]
  split
  · rename_i hw; rw [if_pos hw] at h; exact op_sound hr ho hX hk h
  · rename_i hw; rw [if_neg hw] at h; exact ⟨fun _ _ => trivial, hskip h⟩
section
variable {ops : Array Oper} {Q : Exit → Act → World → Prop} {S : World → Prop} {Lt : List Nat}
def behind (ops : Array Oper) (Lt : List Nat) (S : World → Prop) (i : Nat) (w w' : World) : Prop :=
  match ops[i]? with
  | some o => if Lt.contains i = true then True else if pureB o.op = true then w' = w else S w'
  | none => w' = w
def wpAnyT (P : Program) (ops : Array Oper) (Lt : List Nat) (Q : Exit → Act → World → Prop) (S : World → Prop) : Nat → Array Bool → Act → World → Prop
  | 0, listed, a, w => Region.ready .any ops listed = [] ∧ Q .normal a w
  | fuel + 1, listed, a, w => (Region.ready .any ops listed = [] → Q .normal a w) ∧
    ∀ i ∈ Region.ready .any ops listed, wpOpIn Fence.wide 2 P ops Q i (fun a' w' => behind ops Lt S i w w' ∧ wpAnyT P ops Lt Q S fuel (listed.setIfInBounds i true) a' w') a w
theorem wpAny_of_T : ∀ (fuel : Nat) (listed : Array Bool) (a : Act) (w : World), wpAnyT P ops Lt Q S fuel listed a w → wpAnyIn Fence.wide 2 P .any ops Q fuel listed a w
  | 0, _, _, _, h => h
  | fuel + 1, _, _, _, h => ⟨h.1, fun i hi => wpOpIn_mono (fun a' w' h' => wpAny_of_T fuel _ a' w' h'.2) (h.2 i hi)⟩
def Closed (ops : Array Oper) (l : Array Bool) : Prop := ∀ j o, ops[j]? = some o → l.getD j false = true → ∀ e ∈ o.after, Region.binds .any e = true → l.getD e.on false = true
theorem getD_set_cases {l : Array Bool} {i j : Nat} (h : (l.setIfInBounds i true).getD j false = true) : j = i ∨ l.getD j false = true := by
  by_cases hij : i = j
  · exact .inl hij.symm
  · rw [getD_set_ne false hij] at h; exact .inr h
theorem Closed.set {l : Array Bool} {i : Nat} (h : Closed ops l) (hi : i ∈ Region.ready .any ops l) : Closed ops (l.setIfInBounds i true) := by
  intro j o ho hj e he hb
  obtain ⟨h0, oi, hoi, hall⟩ := mem_ready.1 hi
  rcases getD_set_cases hj with rfl | hj
  · rw [hoi] at ho; cases ho
    exact getD_set_true (hall e he hb)
  · exact getD_set_true (h j o ho hj e he hb)
theorem reach_listed {l : Array Bool} (h : Closed ops l) : ∀ (n j i : Nat), reachB ops n j i = true → (∀ o, ops[j]? = some o → ∀ e ∈ o.after, Region.binds .any e = true → l.getD e.on false = true) → l.getD i false = true
  | 0, j, i, hr, _ => by simp [reachB] at hr
  | n + 1, j, i, hr, hp => by
    simp only [reachB] at hr
    split at hr
    · rename_i o ho
      obtain ⟨e, he, hb⟩ := Array.any_eq_true'.1 hr
      simp only [Bool.and_eq_true,Bool.or_eq_true,beq_iff_eq] at hb
      have hl := hp o ho e he hb.1
      rcases hb.2 with rfl | h2
      · exact hl
      · exact reach_listed h n e.on i h2 fun o' ho' e' he' hb' => h e.on o' ho' hl e' he' hb'
    · cases hr
theorem late_waits {l : Array Bool} (hL : lateOk ops Lt = true) (hc : Closed ops l) {j i : Nat} {oi : Oper} (hj : j ∈ Region.ready .any ops l) (hjl : Lt.contains j = true) (hi : ops[i]? = some oi) (hil : Lt.contains i = false)
    (hp : pureB oi.op = false) : l.getD i false = true := by
  unfold lateOk at hL
  rw [List.all_eq_true] at hL
  have h1 := hL j (by simpa using hjl)
  rw [List.all_eq_true] at h1
  have h2 := h1 i (List.mem_range.2 (Array.getElem?_eq_some_iff.1 hi).1)
  simp only [hil,hi,hp,Bool.false_or] at h2
  obtain ⟨_, o, ho, hall⟩ := mem_ready.1 hj
  exact reach_listed hc _ _ _ h2 fun o' ho' e he hb => by rw [ho] at ho'; cases ho'; exact hall e he hb
theorem not_listed {l : Array Bool} {i : Nat} (h : l.getD i true = false) : l.getD i false = false := by
  rcases Nat.lt_or_ge i l.size with h' | h'
  · simp [h'] at h ⊢; exact h
  · simp [Array.getElem?_eq_none h'] at h
theorem wpAnyT_first {i : Nat} {oi : Oper} {v : Value} (hi : ops[i]? = some oi) (hsel : ∀ (j : Nat) (o : Oper) cs b, ops[j]? = some o → o.op ≠ .select cs b) (hL : lateOk ops Lt = true) (hil : Lt.contains i = false)
    (hQ : ∀ c a w, Q (.panic c) (a.put oi.dst v) w → Q (.panic c) a w) {S' : World → Prop} (hS' : pureB oi.op = true ∨ S' = S) :
    ∀ (fuel : Nat) (listed : Array Bool) (a : Act) (w : World), Closed ops listed →
      (∀ j oj, ops[j]? = some oj → j ≠ i → listed.getD j true = false → (∀ e ∈ oj.after, Region.binds .any e = true → e.on ≠ i) → oi.apart ops oj = true) →
      i ∈ Region.ready .any ops listed → YieldsIf P ops S' oi v a → S' w → (pureB oi.op = true → ∀ w, S' w) →
      wpAnyT P ops Lt Q S fuel (listed.setIfInBounds i true) (a.put oi.dst v) w → wpAnyT P ops Lt Q S (fuel + 1) listed a w := by
  intro fuel
  have self : ∀ (listed : Array Bool) (a : Act) (w : World) (f : Nat), YieldsIf P ops S' oi v a → S' w → wpAnyT P ops Lt Q S f (listed.setIfInBounds i true) (a.put oi.dst v) w →
      wpOpIn Fence.wide 2 P ops Q i (fun a' w' => behind ops Lt S i w w' ∧ wpAnyT P ops Lt Q S f (listed.setIfInBounds i true) a' w') a w := by
    intro listed a w f hy hS H
    refine wpOpIn_yields hi hy hS ⟨?_, H⟩
    simp only [behind,hi,hil,Bool.false_eq_true,if_false]
    rcases hS' with hp | rfl
    · rw [if_pos hp]; trivial
    · split
      · trivial
      · exact hS
  induction fuel with
  | zero =>
    intro listed a w hcl _ hr hy hS _ H
    refine ⟨fun h => (by rw [h] at hr; cases hr), fun j hj => ?_⟩
    by_cases hji : j = i
    · subst hji; exact self listed a w 0 hy hS H
    · have := ready_mono hj hji
      rw [H.1] at this
      cases this
  | succ fuel ih =>
    intro listed a w hcl hfree hr hy hS hpS H
    refine ⟨fun h => (by rw [h] at hr; cases hr), fun j hj => ?_⟩
    by_cases hji : j = i
    · subst hji; exact self listed a w (fuel + 1) hy hS H
    · have h1 := H.2 j (ready_mono hj hji)
      obtain ⟨hjun, oj, hoj, hall⟩ := mem_ready.1 hj
      have hnot : ∀ e ∈ oj.after, Region.binds .any e = true → e.on ≠ i := fun e he hb heq => by
        have h1 := hall e he hb
        have h0 := (mem_ready.1 hr).1
        rw [heq, not_listed h0] at h1
        cases h1
      have h2 := wpOpIn_putIf hoj (hfree j oj hoj hji hjun hnot) (fun cs b => hsel i oi cs b hi) (fun cs b => hsel j oj cs b hoj) hQ hy h1
      have hfree' : ∀ k ok, ops[k]? = some ok → k ≠ i → (listed.setIfInBounds j true).getD k true = false →
          (∀ e ∈ ok.after, Region.binds .any e = true → e.on ≠ i) → oi.apart ops ok = true := fun k ok hk hki hun hno => by
        refine hfree k ok hk hki ?_ hno
        by_cases hjk : j = k
        · subst hjk; exact hjun
        · rw [getD_set_ne true hjk] at hun; exact hun
      refine wpOpIn_mono (fun a' w' h3 => ?_) h2
      refine ⟨h3.2.1, ih (listed.setIfInBounds j true) a' w' (hcl.set hj) hfree' (ready_mono hr (Ne.symm hji)) h3.1 ?_ hpS ?_⟩
      · by_cases hp : pureB oi.op = true
        · exact hpS hp w'
        · have hSS : S' = S := hS'.resolve_left hp
          have hb := h3.2.1
          simp only [behind,hoj] at hb
          by_cases hjl : Lt.contains j = true
          · have := late_waits hL hcl hj hjl hi hil (by simpa using hp)
            rw [not_listed (mem_ready.1 hr).1] at this
            cases this
          · rw [if_neg hjl] at hb
            split at hb
            · rw [hb]; exact hS
            · rw [hSS]; exact hb
      · rw [Array.setIfInBounds_comm _ _ hji]
        exact h3.2.2
variable (hsel : Region.noSelect ops = true) (hf : ops.all (operFits ops n) = true) (hL : lateOk ops Lt = true)
    (hX : ∀ ch a w, X ch a.defers w ↔ Q (.panic ch) a w) (hN : ∀ e a w, Rel a e n a.defers → N e a.defers w → Q .normal a w)
include hsel hf hL hX hN
theorem plan_sound : ∀ (p : Plan) (ph : Bool) (l : Array Bool) (a : Act) (e : Env) (ds : List Deferred) (w : World), (ph = false → S w) → Closed ops l → Rel a e n ds → planW P S (stripP ops p) e ds w N X →
    (planOk ops Lt p ph l none = true → ∀ fuel, cnt l ≤ fuel → wpAnyT P ops Lt Q S fuel l a w) ∧
    (∀ rs, planOk ops Lt p ph l (some rs) = true → (∀ i ∈ rs, i ∈ Region.ready .any ops l) → ∀ i ∈ rs, ∀ fuel, cnt l ≤ fuel + 1 →
      wpOpIn Fence.wide 2 P ops Q i (fun a' w' => behind ops Lt S i w w' ∧ wpAnyT P ops Lt Q S fuel (l.setIfInBounds i true) a' w') a w)
  | .done, ph, l, a, e, ds, w, hS, hcl, hr, h => by
    refine ⟨fun hok fuel hc => ?_, fun rs hok => by simp [planOk] at hok⟩
    have hnil : Region.ready .any ops l = [] := by simpa [planOk] using hok
    have hq : Q .normal a w := hN e a w (by rw [hr.2.2]; exact hr) (by rw [hr.2.2]; exact h)
    cases fuel with
    | zero => exact ⟨hnil, hq⟩
    | succ f => exact ⟨fun _ => hq, by rw [hnil]; simp⟩
  | .none, ph, l, a, e, ds, w, hS, hcl, hr, h => by
    refine ⟨fun hok => by simp [planOk] at hok, fun rs hok _ i hi => ?_⟩
    cases rs with
    | nil => cases hi
    | cons j rs => simp [planOk] at hok
  | .take i r, ph, l, a, e, ds, w, hS, hcl, hr, h => by
    refine ⟨fun hok fuel hc => ?_, fun rs hok => by simp [planOk] at hok⟩
    simp only [planOk,Bool.and_eq_true,Bool.not_eq_true'] at hok
    obtain ⟨⟨⟨⟨hfree, hready⟩, hnl⟩, hkind⟩, hrest⟩ := hok
    have hmem : i ∈ Region.ready .any ops l := by simpa using hready
    obtain ⟨h0, o, hi, _⟩ := mem_ready.1 hmem
    have hcs := cnt_setIfInBounds h0
    obtain ⟨fuel, rfl⟩ : ∃ m, fuel = m + 1 := ⟨fuel - 1, by omega⟩
    have hgd : ops.getD i default = o := by simp [hi]
    simp only [stripP,planW,hgd] at h
    have ho := fits_getD hf hi
    have hQ' : ∀ (v : Value) c a w, Q (.panic c) (a.put o.dst v) w → Q (.panic c) a w := fun v c a w hq => by
      rw [← hX] at hq ⊢; rwa [put_defers] at hq
    rw [hi] at hkind
    simp only at hkind
    obtain ⟨v, hv, hk⟩ := softW_elim h
    by_cases hld : loadB o.op = true
    · rw [if_pos hld] at hkind
      have hph : ph = false := by simpa using hkind
      have hpb : pureB o.op = false := by cases hop : o.op <;> rw [hop] at hld <;> first | (simp [loadB] at hld; done) | rfl
      refine wpAnyT_first (S' := S) (v := v) hi (Region.noSelect_spec hsel) hL hnl (hQ' v) (.inr rfl) fuel l a w hcl (Region.free_spec hi hfree) hmem ?_ (hS hph) (fun hp => by rw [hpb] at hp; cases hp) ?_
      · unfold YieldsIf
        rw [wanted_rel hr ho, exec_rel hr ho]
        exact hv
      · exact (plan_sound r ph _ _ _ ds w hS (hcl.set hmem) (rel_put hr _ _) hk).1 hrest fuel (by omega)
    · rw [if_neg hld] at hkind
      obtain ⟨v, hv, hk⟩ := softW_pure hkind h
      refine wpAnyT_first (S' := fun _ => True) (v := v) hi (Region.noSelect_spec hsel) hL hnl (hQ' v) (.inl hkind) fuel l a w hcl (Region.free_spec hi hfree) hmem ?_ trivial (fun _ _ => trivial) ?_
      · unfold YieldsIf
        rw [wanted_rel hr ho, exec_rel hr ho]
        exact hv.imp (fun ⟨h1, h2⟩ => ⟨h1, fun w _ => h2 w⟩) id
      · exact (plan_sound r ph _ _ _ ds w hS (hcl.set hmem) (rel_put hr _ _) hk).1 hrest fuel (by omega)
  | .alt i r m, ph, l, a, e, ds, w, hS, hcl, hr, h => by
    have key : ∀ rs, (i == i && !ph && !Lt.contains i && (match ops[i]? with | some o => !pureB o.op | none => false) && planOk ops Lt r ph (l.setIfInBounds i true) none && planOk ops Lt m ph l (some rs)) = true → (∀ j ∈ i :: rs, j ∈ Region.ready .any ops l) → ∀ j ∈ i :: rs, ∀ fuel, cnt l ≤ fuel + 1 →
        wpOpIn Fence.wide 2 P ops Q j (fun a' w' => behind ops Lt S j w w' ∧ wpAnyT P ops Lt Q S fuel (l.setIfInBounds j true) a' w') a w := by
      intro rs hok hall j hj fuel hc
      simp only [Bool.and_eq_true,Bool.not_eq_true'] at hok
      obtain ⟨⟨⟨⟨⟨_, hph⟩, hnl⟩, hkd⟩, hr1⟩, hm1⟩ := hok
      have hmem := hall i (by simp)
      obtain ⟨h0, o, hi, _⟩ := mem_ready.1 hmem
      have hcs := cnt_setIfInBounds h0
      have hgd : ops.getD i default = o := by simp [hi]
      rw [hi] at hkd
      simp only [Bool.not_eq_true'] at hkd
      simp only [stripP,planW,hgd] at h
      obtain ⟨h1, h2⟩ := h
      have ho := fits_getD hf hi
      have hbh : ∀ w', S w' → behind ops Lt S i w w' := fun w' hs => by simp only [behind,hi,hnl,hkd,Bool.false_eq_true,if_false]; exact hs
      rcases List.mem_cons.1 hj with rfl | hj
      · refine wpOp_of hi ho hr (fun ch w hx => (hX ch a w).1 (by rw [hr.2.2]; exact hx)) (fun v ds' w' a' hr' hk => ?_) (fun hk => ?_) h1
        · exact ⟨hbh w' hk.1, (plan_sound r ph _ _ _ ds' w' (fun _ => hk.1) (hcl.set hmem) (rel_put hr' _ _) hk.2).1 hr1 fuel (by omega)⟩
        · exact ⟨hbh w (hS hph), (plan_sound r ph _ _ _ ds w hS (hcl.set hmem) (rel_put hr _ _) hk).1 hr1 fuel (by omega)⟩
      · exact (plan_sound m ph l a e ds w hS hcl hr h2).2 rs hm1 (fun k hk => hall k (by simp [hk])) j hj fuel hc
    refine ⟨fun hok fuel hc => ?_, fun rs hok hall j hj fuel hc => ?_⟩
    · simp only [planOk] at hok
      cases hready : Region.ready .any ops l with
      | nil => rw [hready] at hok; cases hok
      | cons k rs =>
        rw [hready] at hok
        obtain rfl : k = i := by simp only [Bool.and_eq_true,beq_iff_eq] at hok; exact hok.1.1.1.1.1
        obtain ⟨h0, _⟩ := mem_ready.1 (show k ∈ Region.ready .any ops l by rw [hready]; simp)
        have hcs := cnt_setIfInBounds h0
        obtain ⟨fuel, rfl⟩ : ∃ m, fuel = m + 1 := ⟨fuel - 1, by omega⟩
        refine ⟨fun h0 => (by rw [hready] at h0; cases h0), fun j hj => ?_⟩
        exact key rs hok (by rw [hready]; exact fun _ h => h) j (by rw [← hready]; exact hj) fuel hc
    · cases rs with
      | nil => cases hj
      | cons k rs =>
        simp only [planOk] at hok
        obtain rfl : k = i := by simp only [Bool.and_eq_true,beq_iff_eq] at hok; exact hok.1.1.1.1.1
        exact key rs hok hall j hj fuel hc
  | .altL i r m, ph, l, a, e, ds, w, hS, hcl, hr, h => by
    have key : ∀ rs, (i == i && Lt.contains i && planOk ops Lt r true (l.setIfInBounds i true) none && planOk ops Lt m ph l (some rs)) = true → (∀ j ∈ i :: rs, j ∈ Region.ready .any ops l) → ∀ j ∈ i :: rs, ∀ fuel, cnt l ≤ fuel + 1 →
        wpOpIn Fence.wide 2 P ops Q j (fun a' w' => behind ops Lt S j w w' ∧ wpAnyT P ops Lt Q S fuel (l.setIfInBounds j true) a' w') a w := by
      intro rs hok hall j hj fuel hc
      simp only [Bool.and_eq_true] at hok
      obtain ⟨⟨⟨_, hnl⟩, hr1⟩, hm1⟩ := hok
      have hmem := hall i (by simp)
      obtain ⟨h0, o, hi, _⟩ := mem_ready.1 hmem
      have hcs := cnt_setIfInBounds h0
      have hgd : ops.getD i default = o := by simp [hi]
      simp only [stripP,planW,hgd] at h
      obtain ⟨h1, h2⟩ := h
      have ho := fits_getD hf hi
      have hbh : ∀ w', behind ops Lt S i w w' := fun w' => by simp only [behind,hi,hnl,if_true]
      rcases List.mem_cons.1 hj with rfl | hj
      · refine wpOp_of hi ho hr (fun ch w hx => (hX ch a w).1 (by rw [hr.2.2]; exact hx)) (fun v ds' w' a' hr' hk => ?_) (fun hk => ?_) h1
        · exact ⟨hbh w', (plan_sound r true _ _ _ ds' w' (fun h => by cases h) (hcl.set hmem) (rel_put hr' _ _) hk).1 hr1 fuel (by omega)⟩
        · exact ⟨hbh w, (plan_sound r true _ _ _ ds w (fun h => by cases h) (hcl.set hmem) (rel_put hr _ _) hk).1 hr1 fuel (by omega)⟩
      · exact (plan_sound m ph l a e ds w hS hcl hr h2).2 rs hm1 (fun k hk => hall k (by simp [hk])) j hj fuel hc
    refine ⟨fun hok fuel hc => ?_, fun rs hok hall j hj fuel hc => ?_⟩
    · simp only [planOk] at hok
      cases hready : Region.ready .any ops l with
      | nil => rw [hready] at hok; cases hok
      | cons k rs =>
        rw [hready] at hok
        obtain rfl : k = i := by simp only [Bool.and_eq_true,beq_iff_eq] at hok; exact hok.1.1.1
        obtain ⟨h0, _⟩ := mem_ready.1 (show k ∈ Region.ready .any ops l by rw [hready]; simp)
        have hcs := cnt_setIfInBounds h0
        obtain ⟨fuel, rfl⟩ : ∃ m, fuel = m + 1 := ⟨fuel - 1, by omega⟩
        refine ⟨fun h0 => (by rw [hready] at h0; cases h0), fun j hj => ?_⟩
        exact key rs hok (by rw [hready]; exact fun _ h => h) j (by rw [← hready]; exact hj) fuel hc
    · cases rs with
      | nil => cases hj
      | cons k rs =>
        simp only [planOk] at hok
        obtain rfl : k = i := by simp only [Bool.and_eq_true,beq_iff_eq] at hok; exact hok.1.1.1
        exact key rs hok hall j hj fuel hc
end
theorem cnt_replicate (m : Nat) : cnt (Array.replicate m false) ≤ m := by
  unfold cnt
  exact Nat.le_trans (List.length_filter_le _ _) (by simp)
theorem wp_loop_rel {σ : Type} {c : Code} {Q : Exit → Act → World → Prop} {a : Act} {w : World} (I : σ → Act → World → Prop) (μ : σ → World → Nat) {s : σ} (h₀ : I s a w)
    (round : ∀ s a w, I s a w → c.wp P (Exit.then (fun a' w' => ∃ s', I s' a' w' ∧ μ s' w' < μ s w) Q) a w) : (Code.loop c).wp P Q a w := by
  intro b k cs
  have key : ∀ n s a w, μ s w = n → I s a w →
      ∃ e a' w', Q e a' w' ∧ Arrives P (lone (b.at a (.code c :: .inLoop c :: k)) cs w) b k cs e a' w' := by
    intro n
    induction n using Nat.strongRecOn with
    | _ n ih =>
      intro s a w hn hI
      obtain ⟨e, a₁, w₁, hq, harr⟩ := round s a w hI b (.inLoop c :: k) cs
      cases e with
      | normal =>
        obtain ⟨s₁, hI₁, hlt⟩ := hq
        obtain ⟨e₂, a₂, w₂, hq₂, harr₂⟩ := ih (μ s₁ w₁) (hn ▸ hlt) s₁ a₁ w₁ rfl hI₁
        exact ⟨e₂, a₂, w₂, hq₂, .of_steps (Steps.trans harr (.one step_inLoop)) harr₂⟩
      | exit id => exact ⟨_, a₁, w₁, hq, .pass (x := .inLoop c) rfl (fun _ _ => .inl (by simp)) harr⟩
      | goto l => exact ⟨_, a₁, w₁, hq, .pass (x := .inLoop c) rfl (fun _ _ => .inl (by simp)) harr⟩
      | ret => exact ⟨_, a₁, w₁, hq, .pass (x := .inLoop c) rfl (fun _ _ => .inl (by simp)) harr⟩
      | panic ch => exact ⟨_, a₁, w₁, hq, .pass (x := .inLoop c) rfl (fun _ _ => .inl (by simp)) harr⟩
      | outgrown => exact ⟨_, a₁, w₁, hq, .pass (x := .inLoop c) rfl (fun _ _ => .inl (by simp)) harr⟩
  obtain ⟨e, a', w', hq, harr⟩ := key _ s a w rfl h₀
  exact ⟨e, a', w', hq, .of_steps (.one step_loop) harr⟩
def drawQ (n : Nat) (N : Env → List Deferred → World → Prop) (E : Nat → Env → List Deferred → World → Prop) (R : Env → List Deferred → World → Prop) (X : Env → List PanicEntry → List Deferred → World → Prop) : Exit → Act → World → Prop
  | .panic ch, a, w => ∀ e, X e ch a.defers w
  | ex, a, w => liftQ n N E R X ex a w
theorem drawQ_lift {X : Env → List PanicEntry → List Deferred → World → Prop} (ex : Exit) (a : Act) (w : World) (h : drawQ n N E R X ex a w) : liftQ n N E R X ex a w := by
  cases ex with
  | panic ch => exact ⟨fun t => a.tmps.getD t undef, fun _ _ => rfl, h _⟩
  | normal => exact h
  | exit i => exact h
  | goto l => exact h
  | ret => exact h
  | outgrown => exact h
theorem getD_rel {a : Act} {e : Env} {ds : List Deferred} (h : Rel a e n ds) {t : Nat} (ht : t < n) : a.tmps.getD t undef = e t := by
  have := h.2.1 t ht; simp [this]
theorem mwp_sound (hm : P.follows .mixedOrders = true) (pl : Nat → Plan) : ∀ (c : Code) (a : Act) (e : Env) (ds : List Deferred) (w : World) (N : Env → List Deferred → World → Prop) (E : Nat → Env → List Deferred → World → Prop)
    (R : Env → List Deferred → World → Prop) (X : Env → List PanicEntry → List Deferred → World → Prop), plansOk pl c = true → fits n c = true → Rel a e n ds → mwp P (strip pl c) e ds w N E R X → c.wp P (liftQ n N E R X) a w
  | .skip, a, e, ds, w, N, E, R, X, _, _, hr, h => wp_skip ⟨e, by rw [hr.2.2]; exact hr, by rw [hr.2.2]; exact h⟩
  | .region id ops b, a, e, ds, w, N, E, R, X, hp, hf, hr, h => by
    have hX : ∀ e ch a w, Rel a e n a.defers → X e ch a.defers w → liftQ n N E R X (.panic ch) a w := fun e ch a w hr hx => ⟨e, fun t ht => getD_rel hr ht, hx⟩
    have hN : ∀ e a w, Rel a e n a.defers → N e a.defers w → liftQ n N E R X .normal a w := fun e a w h1 h2 => ⟨e, h1, h2⟩
    simp only [fits] at hf
    cases b with
    | false =>
      simp only [strip] at h
      exact wpIn_wide.1 (wpIn_region_list (reg_sound hX hN ops.toList a e ds w (fun o ho => Array.all_eq_true_iff_forall_mem.1 hf o (by simpa using ho)) hr h))
    | true =>
      simp only [strip,mwp,if_true] at h
      obtain ⟨S, hS, h⟩ := h
      simp only [plansOk,Bool.not_true,Bool.false_or,Bool.and_eq_true] at hp
      refine wpIn_wide.1 (wpIn_mono (wpIn_region_any hm (wpAny_of_T _ _ _ _ ((plan_sound (Q := drawQ n N E R X) hp.1.1 hf hp.1.2 (fun ch a w => Iff.rfl) hN (pl id) false _ a e ds w.drew (fun _ => hS) ?_ hr h).1 hp.2 ops.size (cnt_replicate _)))) (fun ex a w hq => drawQ_lift ex a w hq))
      intro j o ho hj
      simp only [Array.getD_eq_getD_getElem?,Array.getElem?_replicate] at hj
      split at hj <;> simp at hj
  | .seq x y, a, e, ds, w, N, E, R, X, hp, hf, hr, h => by
    simp only [plansOk,fits,Bool.and_eq_true] at hp hf
    simp only [strip,mwp] at h
    refine wp_seq (Go.wp_mono (mwp_sound hm pl x a e ds w _ _ _ _ hp.1 hf.1 hr h) fun ex a w hq => ?_)
    cases ex with
    | normal =>
      obtain ⟨e', hr', h'⟩ := hq
      exact mwp_sound hm pl y a e' a.defers w N E R X hp.2 hf.2 hr' h'
    | exit i => exact hq
    | goto i => exact hq
    | ret => exact hq
    | panic ch => exact hq
    | outgrown => exact hq
  | .cond c x y, a, e, ds, w, N, E, R, X, hp, hf, hr, h => by
    simp only [plansOk,fits,Bool.and_eq_true] at hp hf
    simp only [strip,mwp] at h
    rcases h with ⟨hc, h⟩ | ⟨hc, h⟩
    · exact wp_cond_true (by rw [ev_eval hr hf.1.1]; exact hc) (mwp_sound hm pl x a e ds w N E R X hp.1 hf.1.2 hr h)
    · exact wp_cond_false (by rw [ev_eval hr hf.1.1]; exact hc) (mwp_sound hm pl y a e ds w N E R X hp.2 hf.2 hr h)
  | .block id b, a, e, ds, w, N, E, R, X, hp, hf, hr, h => by
    simp only [plansOk,fits] at hp hf
    simp only [strip,mwp] at h
    refine wp_block (Go.wp_mono (mwp_sound hm pl b a e ds w _ _ _ _ hp hf hr h) fun ex a w hq => ?_)
    cases ex with
    | normal => exact hq
    | exit i =>
      obtain ⟨e', hr', h'⟩ := hq
      simp only [Exit.inBlock]
      by_cases hi : i = id
      · rw [if_pos hi] at h' ⊢; exact ⟨e', hr', h'⟩
      · rw [if_neg hi] at h' ⊢; exact ⟨e', hr', h'⟩
    | goto i => exact hq
    | ret => exact hq
    | panic ch => exact hq
    | outgrown => exact hq
  | .loop b, a, e, ds, w, N, E, R, X, hp, hf, hr, h => by
    simp only [plansOk,fits] at hp hf
    simp only [strip,mwp] at h
    obtain ⟨I, μ, hI, hstep⟩ := h
    refine wp_loop_rel (fun (s : Env × List Deferred) a w => s.2 = a.defers ∧ Rel a s.1 n a.defers ∧ I s.1 a.defers w) (fun s w => μ s.1 s.2 w) (s := (e, a.defers)) ⟨rfl, by rw [hr.2.2]; exact hr, by rw [hr.2.2]; exact hI⟩ fun s a w hs => ?_
    refine Go.wp_mono (mwp_sound hm pl b a s.1 a.defers w _ _ _ _ hp hf hs.2.1 (hstep s.1 a.defers w hs.2.2)) fun ex a w hq => ?_
    cases ex with
    | normal =>
      obtain ⟨e', hr', h'⟩ := hq
      exact ⟨(e', _), ⟨rfl, hr', h'.1⟩, by rw [hs.1]; exact h'.2⟩
    | exit i => exact hq
    | goto i => exact hq
    | ret => exact hq
    | panic ch => exact hq
    | outgrown => exact hq
  | .exit id, a, e, ds, w, N, E, R, X, _, _, hr, h => wp_exit ⟨e, by rw [hr.2.2]; exact hr, by rw [hr.2.2]; exact h⟩
  | .ret, a, e, ds, w, N, E, R, X, _, _, hr, h => wp_ret ⟨e, by rw [hr.2.2]; exact hr, by rw [hr.2.2]; exact h⟩
  | .rangeFunc .., a, e, ds, w, N, E, R, X, _, hf, hr, h => h n a hr hf
  | .scope .., _, _, _, _, _, _, _, _, _, _, _, h => h.elim
  | .label .., _, _, _, _, _, _, _, _, _, _, _, h => h.elim
  | .goto .., _, _, _, _, _, _, _, _, _, _, _, h => h.elim
  | .refuse .., _, _, _, _, _, _, _, _, _, _, _, h => h.elim
def argEnv (args : List Value) : Env := fun t => args.getD t undef
def resL (P : Program) : List ResultVar → Env → World → (List Value → Prop) → Prop
  | [], _, _, k => k []
  | .tmp t :: r, e, w, k => resL P r e w fun vs => k (e t :: vs)
  | .cell a t :: r, e, w, k => oK (loadV P w t (e a)) fun v => resL P r e w fun vs => k (v :: vs)
def resW (P : Program) : List ResultVar → Env → World → (Value → Prop) → Prop
  | [.tmp t], e, _, k => k (e t)
  | [.cell a t], e, w, k => oK (loadV P w t (e a)) k
  | rs, e, w, k => resL P rs e w fun vs => k (.tuple vs.toArray)
def resFits (n : Nat) : List ResultVar → Bool
  | [] => true
  | .tmp t :: r => decide (t < n) && resFits n r
  | .cell t _ :: r => decide (t < n) && resFits n r
theorem resL_sound {n : Nat} {tmps : Array Value} {e : Env} {w : World} (hr : ∀ t, t < n → tmps.getD t undef = e t) : ∀ (l : List ResultVar) (k : List Value → Prop), resFits n l = true → resL P l e w k →
    ∃ vs, vs.length = l.length ∧ (l.mapM (fun (x : ResultVar) => (match x with | .tmp t => pure (tmps.getD t undef) | .cell a t => do loadVar t (← asAddr (tmps.getD a undef)) : Sem Value))).run P w = .ok vs w ∧ k vs
  | [], k, _, h => ⟨[], rfl, by simp, h⟩
  | .tmp t :: r, k, hf, h => by
    simp only [resFits,decide_eq_true_eq,Bool.and_eq_true] at hf
    obtain ⟨vs, h0, h1, h2⟩ := resL_sound hr r _ hf.2 h
    refine ⟨e t :: vs, by simp [h0], ?_, h2⟩
    simp only [List.mapM_cons,Sem.run_bind,Sem.run_pure,Result.andThen_ok,h1,hr _ hf.1]
  | .cell a t :: r, k, hf, h => by
    simp only [resFits,decide_eq_true_eq,Bool.and_eq_true] at hf
    obtain ⟨v, hl, h⟩ := oK_elim h
    obtain ⟨p, hp, hv⟩ := loadV_ptr hl
    obtain ⟨vs, h0, h1, h2⟩ := resL_sound hr r _ hf.2 h
    refine ⟨v :: vs, by simp [h0], ?_, h2⟩
    rw [← hr _ hf.1] at hp
    have ha : (asAddr (tmps.getD a undef)).run P w = .ok p w := by rw [hp]; rfl
    simp only [List.mapM_cons,Sem.run_bind,Sem.run_pure,Result.andThen_ok,ha,hv,h1]
theorem results_list {fn : Func} {l : List ResultVar} (h : fn.results = l.toArray) (h2 : l.length ≠ 1) (tmps : Array Value) (w : World) {vs : List Value} (hl : vs.length = l.length)
    (hm : (l.mapM (fun (x : ResultVar) => (match x with | .tmp t => pure (tmps.getD t undef) | .cell a t => do loadVar t (← asAddr (tmps.getD a undef)) : Sem Value))).run P w = .ok vs w) : (results fn tmps).run P w = .ok (.tuple vs.toArray) w := by
  have hne : ¬ vs.toArray.size = 1 := by simp; omega
  unfold results
  rw [h]
  rw [List.mapM_toArray, map_eq_pure_bind]
  have hm2 : ((do let a ← l.mapM (fun (x : ResultVar) => (match x with | .tmp t => pure (tmps.getD t undef) | .cell a t => do loadVar t (← asAddr (tmps.getD a undef)) : Sem Value)); pure a.toArray) : Sem (Array Value)).run P w = .ok vs.toArray w := by
    rw [Sem.run_bind, hm]; rfl
  rw [Sem.run_bind]
  refine (congrArg (fun r => Result.andThen r _) hm2).trans ?_
  simp only [Result.andThen_ok,Sem.run_pure,hne,dif_neg,not_false_eq_true]
theorem resT_sound {fn : Func} {a : Act} {e : Env} {w : World} {k : Value → Prop} (hr : ∀ t, t < n → a.tmps.getD t undef = e t) (hf : resFits n fn.results.toList = true)
    (h : resW P fn.results.toList e w k) : ∃ v, (results fn a.tmps).run P w = .ok v w ∧ k v := by
  generalize hl : fn.results.toList = l at *
  have hfr : fn.results = l.toArray := by rw [← hl]
  unfold resW at h
  split at h
  · simp only [resFits,Bool.and_true,decide_eq_true_eq] at hf
    exact ⟨_, results_tmp hfr _ _ _, by rw [hr _ hf]; exact h⟩
  · simp only [resFits,Bool.and_true,decide_eq_true_eq] at hf
    obtain ⟨v, hl, h⟩ := oK_elim h
    obtain ⟨p, hp, hv⟩ := loadV_ptr hl
    refine ⟨v, ?_, h⟩
    rw [← hr _ hf] at hp
    simp at hp
    simp [results, hfr, hp, asAddr, hv]
  · rename_i hn1 hn2
    obtain ⟨vs, h0, h1, h2⟩ := resL_sound hr l _ hf h
    refine ⟨_, results_list hfr (fun hl1 => ?_) _ _ h0 h1, h2⟩
    match l, hl1 with
    | [.tmp t], _ => exact hn1 t rfl
    | [.cell a t], _ => exact hn2 a t rfl
theorem resW_sound {fn : Func} {a : Act} {e : Env} {ds : List Deferred} {w : World} {k : Value → Prop} (hr : Rel a e n ds) (hf : resFits n fn.results.toList = true)
    (h : resW P fn.results.toList e w k) : ∃ v, (results fn a.tmps).run P w = .ok v w ∧ k v := resT_sound (fun _ ht => getD_rel hr ht) hf h
def okB (pl : Nat → Plan) (fn : Func) (n : Nat) : Bool :=
  decide (n ≤ fn.ntmps) && resFits fn.ntmps fn.results.toList && (match fn.body with | some c => plansOk pl c && fits fn.ntmps c | none => false)
theorem calls_of_mwp {f : FuncId} {fn : Func} {m : MC} {args : Array Value} {rs : List ResultVar} {w : World} {R : Ending → World → Prop} (hm : P.follows .mixedOrders = true) (hf : P.funcs[f]? = some fn) (pl : Nat → Plan)
    (hst : fn.body.map (strip pl) = some m) (hok : okB pl fn args.size = true) (hrs : fn.results.toList = rs)
    (h : mwp P m (argEnv args.toList) [] w (fun e ds w => ds = [] ∧ resW P rs e w fun v => R (.returned v) w) (fun _ _ _ _ => False)
      (fun e ds w => ds = [] ∧ resW P rs e w fun v => R (.returned v) w) (fun _ ch ds w => ds = [] ∧ R (.panicked ch) w)) : Calls P f args w R := by
  subst hrs
  cases hb : fn.body with
  | none => rw [hb] at hst; cases hst
  | some c =>
    rw [hb] at hst
    simp only [Option.map_some,Option.some.injEq] at hst
    subst hst
    simp only [okB,hb,Bool.and_eq_true,decide_eq_true_eq] at hok
    obtain ⟨⟨hsz, hres⟩, hpl, hfit⟩ := hok
    refine calls_of_wp hf hb (Go.wp_mono (mwp_sound hm pl c _ (argEnv args.toList) [] w _ _ _ _ hpl hfit ?_ h) fun ex a w hq => ?_)
    · refine ⟨by simp; omega, fun t ht => ?_, rfl⟩
      simp only [argEnv]
      by_cases h1 : t < args.size
      · rw [Array.getElem?_append_left h1]; simp [h1]
      · simp [Array.getElem?_append, show ¬ t < args.size from h1, show t - args.size < fn.ntmps - args.size by omega]
    · cases ex with
      | normal =>
        obtain ⟨e, hr, hd, hv⟩ := hq
        obtain ⟨v, h1, h2⟩ := resW_sound hr hres hv
        exact ⟨hd, v, h1, h2⟩
      | ret =>
        obtain ⟨e, hr, hd, hv⟩ := hq
        obtain ⟨v, h1, h2⟩ := resW_sound hr hres hv
        exact ⟨hd, v, h1, h2⟩
      | exit i => obtain ⟨_, _, h⟩ := hq; exact h.elim
      | goto i => exact hq.elim
      | panic ch => obtain ⟨_, _, h⟩ := hq; exact h
      | outgrown => exact hq.elim
end
end Go.Proofs.YtdkdibeimeaakabGreatDoor
