/- Layer 02 in plain Lean: choices, and how two of them meet. -/
namespace Go.Proofs.YtolamibbionobaaGreatDoor
structure Ch where
 k : Int
 d : Int
 L : List Int
namespace Ch
def lsd (c : Ch) : Bool := decide (c.k = 1) || decide (c.k = 2)
def lo (c : Ch) : Int := c.L.getD 0 0
def hi (c : Ch) : Int := c.L.getD 1 0
def stp (c : Ch) : Int := if c.k = 4 then c.L.getD 2 0 else 1
def has (c : Ch) (n : Int) : Bool := if c.lsd then c.L.contains n else decide (c.lo ≤ n) && (decide (n ≤ c.hi) && decide ((n - c.lo) % c.stp = 0))
end Ch
def inT (n : Int) : Bool := decide (0 ≤ n) && decide (n ≤ 1000000000)
def dis : List Int → Bool
 | [] => true
 | a :: l => !l.contains a && dis l
namespace Ch
def form (c : Ch) : Bool := if c.k = 1 then decide (c.L.length = 1) else if c.k = 2 then decide (1 ≤ c.L.length) && decide (c.L.length ≤ 20) && dis c.L
 else if c.k = 3 then decide (c.L.length = 2) && decide (c.lo ≤ c.hi) else if c.k = 4 then decide (c.L.length = 3) && decide (c.lo ≤ c.hi) && (decide (1 ≤ c.stp) && decide (c.stp ≤ 1000)) else false
def valid (c : Ch) : Bool := c.L.all inT && c.form && c.has c.d
end Ch
def rng (hi s : Int) : Nat → Int → List Int
 | 0, _ => []
 | m + 1, n => if n ≤ hi then n :: rng hi s m (n + s) else []
def Ch.first (c : Ch) (m : Nat) : List Int := if c.lsd then c.L.take m else rng c.hi c.stp m c.lo
def lstK (l : List Int) : Int := if l.length = 1 then 1 else 2
def wish (k : Int) (L : List Int) (ad bd : Int) : Ch :=
 if (Ch.mk k 0 L).has ad then ⟨k, ad, L⟩ else if (Ch.mk k 0 L).has bd then ⟨k, bd, L⟩ else ⟨k, L.getD 0 0, L⟩
def both (a b : Ch) (n : Int) : Bool := a.has n && b.has n
def byO (a b : Ch) : Int := (Nat.lcm a.stp.toNat b.stp.toNat : Nat)
def FirstIs (a b : Ch) : Option Int → Prop
 | none => ∀ n, both a b n = false
 | some f => both a b f = true ∧ ∀ n, both a b n = true → f ≤ n
def cntO (a b : Ch) (f : Int) : Nat := ((min a.hi b.hi - f) / byO a b + 1).toNat
def seqL (f s : Int) (n : Nat) : List Int := (List.range n).map fun (i : Nat) => f + (i : Int) * s
def metR (a b : Ch) (f : Int) : Int × List Int :=
 if cntO a b f ≤ 20 ∨ 1000 < byO a b then (lstK (seqL f (byO a b) (min (cntO a b f) 20)), seqL f (byO a b) (min (cntO a b f) 20))
 else if a.k = 3 ∧ b.k = 3 then (3, [f, f + ((cntO a b f : Int) - 1) * byO a b])
 else (4, [f, f + ((cntO a b f : Int) - 1) * byO a b, byO a b])
def keptL (a b : Ch) : List Int := if a.lsd then a.L.filter b.has else b.L.filter a.has
def Met (a b : Ch) (o : Option Ch) : Prop :=
 if a.lsd || b.lsd then o = (if keptL a b = [] then none else some (wish (lstK (keptL a b)) (keptL a b) a.d b.d))
 else ∃ f, FirstIs a b f ∧ o = f.map fun f => wish (metR a b f).1 (metR a b f).2 a.d b.d
structure Rg (c : Ch) : Prop where
 nl : c.lsd = false
 l0 : 0 ≤ c.lo
 l1 : c.lo ≤ c.hi
 l2 : c.hi ≤ 1000000000
 s0 : 1 ≤ c.stp
 s1 : c.stp ≤ 1000
end Go.Proofs.YtolamibbionobaaGreatDoor
/- Layer 02 in plain Lean: what the statement ChoiceMeets asks of how choices meet. -/
namespace Go.Proofs.YtolamibbionobaaGreatDoor
end Go.Proofs.YtolamibbionobaaGreatDoor
