/- Layer 02 in plain Lean: choices, and how two of them meet. -/
import Derived.Test.YthcdnjbhhaonhaaGreatDoorQvMwF0
import Derived.Test.YthcdnjbhhaonhaaGreatDoorQvMwF1
import Derived.Test.YthcdnjbhhaonhaaGreatDoorQvMwF2
import Derived.Test.YthcdnjbhhaonhaaGreatDoorQvMwMem
import Derived.Test.YthcdnjbhhaonhaaGreatDoorQvMwSet
import Derived.MapKept
namespace Go.Proofs.YthcdnjbhhaonhaaGreatDoor
structure Ch where
 k : Int
 d : Int
 L : List Int
namespace Ch
def lsd (c : Ch) : Bool := decide (c.k = 1) || decide (c.k = 2)
def lo (c : Ch) : Int := c.L.getD 0 0
def hi (c : Ch) : Int := c.L.getD 1 0
def stp (c : Ch) : Int := if c.k = 4 then c.L.getD 2 0 else 1
def has (c : Ch) (n : Int) : Bool := if c.lsd then c.L.contains n else decide (c.lo ≤ n) && (decide (n ≤ c.hi) && decide ((n - c.lo) % c.stp = 0))
end Ch
def inT (n : Int) : Bool := decide (0 ≤ n) && decide (n ≤ 1000000000)
def dis : List Int → Bool
 | [] => true
 | a :: l => !l.contains a && dis l
namespace Ch
def form (c : Ch) : Bool := if c.k = 1 then decide (c.L.length = 1) else if c.k = 2 then decide (1 ≤ c.L.length) && decide (c.L.length ≤ 20) && dis c.L
 else if c.k = 3 then decide (c.L.length = 2) && decide (c.lo ≤ c.hi) else if c.k = 4 then decide (c.L.length = 3) && decide (c.lo ≤ c.hi) && (decide (1 ≤ c.stp) && decide (c.stp ≤ 1000)) else false
def valid (c : Ch) : Bool := c.L.all inT && c.form && c.has c.d
end Ch
def rng (hi s : Int) : Nat → Int → List Int
 | 0, _ => []
 | m + 1, n => if n ≤ hi then n :: rng hi s m (n + s) else []
def Ch.first (c : Ch) (m : Nat) : List Int := if c.lsd then c.L.take m else rng c.hi c.stp m c.lo
def lstK (l : List Int) : Int := if l.length = 1 then 1 else 2
def wish (k : Int) (L : List Int) (ad bd : Int) : Ch :=
 if (Ch.mk k 0 L).has ad then ⟨k, ad, L⟩ else if (Ch.mk k 0 L).has bd then ⟨k, bd, L⟩ else ⟨k, L.getD 0 0, L⟩
def both (a b : Ch) (n : Int) : Bool := a.has n && b.has n
def byO (a b : Ch) : Int := (Nat.lcm a.stp.toNat b.stp.toNat : Nat)
def FirstIs (a b : Ch) : Option Int → Prop
 | none => ∀ n, both a b n = false
 | some f => both a b f = true ∧ ∀ n, both a b n = true → f ≤ n
def cntO (a b : Ch) (f : Int) : Nat := ((min a.hi b.hi - f) / byO a b + 1).toNat
def seqL (f s : Int) (n : Nat) : List Int := (List.range n).map fun (i : Nat) => f + (i : Int) * s
def metR (a b : Ch) (f : Int) : Int × List Int :=
 if cntO a b f ≤ 20 ∨ 1000 < byO a b then (lstK (seqL f (byO a b) (min (cntO a b f) 20)), seqL f (byO a b) (min (cntO a b f) 20))
 else if a.k = 3 ∧ b.k = 3 then (3, [f, f + ((cntO a b f : Int) - 1) * byO a b])
 else (4, [f, f + ((cntO a b f : Int) - 1) * byO a b, byO a b])
def keptL (a b : Ch) : List Int := if a.lsd then a.L.filter b.has else b.L.filter a.has
def Met (a b : Ch) (o : Option Ch) : Prop :=
 if a.lsd || b.lsd then o = (if keptL a b = [] then none else some (wish (lstK (keptL a b)) (keptL a b) a.d b.d))
 else ∃ f, FirstIs a b f ∧ o = f.map fun f => wish (metR a b f).1 (metR a b f).2 a.d b.d
theorem FirstIs.eq {a b : Ch} : ∀ {o o' : Option Int}, FirstIs a b o → FirstIs a b o' → o = o'
 | none, none, _, _ => rfl
 | none, some f, h, h' => by have h1 := h'.1; rw [h f] at h1; exact absurd h1 (by simp)
 | some f, none, h, h' => by have h1 := h.1; rw [h' f] at h1; exact absurd h1 (by simp)
 | some f, some g, h, h' => by rw [Int.le_antisymm (h.2 g h'.1) (h'.2 f h.1)]
theorem Met.eq {a b : Ch} {o o' : Option Ch} (h : Met a b o) (h' : Met a b o') : o = o' := by
 unfold Met at h h'
 split at h
 · rename_i hc
   rw [if_pos hc] at h'
   rw [h, h']
 · rename_i hc
   rw [if_neg hc] at h'
   obtain ⟨f, h1, h2⟩ := h
   obtain ⟨g, g1, g2⟩ := h'
   rw [h2, g2, h1.eq g1]
theorem has_range {c : Ch} (h : c.lsd = false) {n : Int} : c.has n = true ↔ c.lo ≤ n ∧ n ≤ c.hi ∧ c.stp ∣ n - c.lo := by
 simp only [Ch.has,h,if_false,Bool.false_eq_true,Bool.and_eq_true,decide_eq_true_eq,Int.dvd_iff_emod_eq_zero]
structure Rg (c : Ch) : Prop where
 nl : c.lsd = false
 l0 : 0 ≤ c.lo
 l1 : c.lo ≤ c.hi
 l2 : c.hi ≤ 1000000000
 s0 : 1 ≤ c.stp
 s1 : c.stp ≤ 1000
end Go.Proofs.YthcdnjbhhaonhaaGreatDoor
/- Layer 02 in plain Lean: what the statement ChoiceMeets asks of how choices meet. -/
namespace Go.Proofs.YthcdnjbhhaonhaaGreatDoor
theorem valid_list {c : Ch} (h : c.valid = true) (hl : c.lsd = true) : 1 ≤ c.L.length ∧ c.L.length ≤ 20 ∧ dis c.L = true ∧ c.L.all inT = true ∧ c.L.contains c.d = true := by
 unfold Ch.valid at h
 simp only [Bool.and_eq_true] at h
 obtain ⟨⟨h1, h2⟩, h3⟩ := h
 have h3 : c.L.contains c.d = true := by unfold Ch.has at h3; rw [if_pos hl] at h3; exact h3
 unfold Ch.form at h2
 split at h2
 · have h2 : c.L.length = 1 := by simpa using h2
   obtain ⟨x, hx⟩ := List.length_eq_one_iff.1 h2
   exact ⟨by omega, by omega, by rw [hx]; rfl, h1, h3⟩
 · split at h2
   · simp only [Bool.and_eq_true,decide_eq_true_eq] at h2
     exact ⟨h2.1.1, h2.1.2, h2.2, h1, h3⟩
   · rename_i a b
     unfold Ch.lsd at hl
     simp [a, b] at hl
theorem valid_rg {c : Ch} (h : c.valid = true) (hl : c.lsd = false) : Rg c ∧ (c.k = 3 ∧ c.L.length = 2 ∨ c.k = 4 ∧ c.L.length = 3) := by
 have hl' := hl
 unfold Ch.valid at h
 simp only [Bool.and_eq_true] at h
 obtain ⟨⟨h1, h2⟩, h3⟩ := h
 unfold Ch.lsd at hl
 simp only [Bool.or_eq_false_iff,decide_eq_false_iff_not] at hl
 unfold Ch.form at h2
 rw [if_neg hl.1, if_neg hl.2] at h2
 have mem : ∀ i, i < c.L.length → 0 ≤ c.L.getD i 0 ∧ c.L.getD i 0 ≤ 1000000000 := fun i hi => by
  have := List.all_eq_true.1 h1 c.L[i] (List.getElem_mem hi)
  simp only [inT,Bool.and_eq_true,decide_eq_true_eq] at this
  rw [List.getD_eq_getElem?_getD, List.getElem?_eq_getElem hi]
  exact this
 split at h2
 · rename_i hk
   simp only [Bool.and_eq_true,decide_eq_true_eq] at h2
   have m0 := mem 0 (by omega)
   have m1 := mem 1 (by omega)
   have hs : c.stp = 1 := by unfold Ch.stp; rw [if_neg (by omega)]
   exact ⟨⟨hl', m0.1, h2.2, m1.2, by omega, by omega⟩, .inl ⟨hk, h2.1⟩⟩
 · split at h2
   · rename_i hk
     simp only [Bool.and_eq_true,decide_eq_true_eq] at h2
     have m0 := mem 0 (by omega)
     have m1 := mem 1 (by omega)
     exact ⟨⟨hl', m0.1, h2.1.2, m1.2, h2.2.1, h2.2.2⟩, .inr ⟨hk, h2.1.1⟩⟩
   · cases h2
end Go.Proofs.YthcdnjbhhaonhaaGreatDoor
/- Layer 02: package format's sets of numbers. -/
namespace Go.Proofs.YthcdnjbhhaonhaaGreatDoor
open Go.RowKit
open Nat renaming reduceEqDiff → ZA, reduceAdd → ZB, reduceMul → ZC, reduceSub → ZD
open Int renaming reduceToNat → ZE, reduceEq → ZF, reduceLT → ZG, reduceLE → ZH, reduceNeg → ZI
open Go.Value renaming oneCell' → ZK, cells → ZJ
open Go.Proofs.Tryz renaming prog → ZP
set_option linter.unusedSimpArgs false
def chV (c : Ch) (s : Value) : Value := .agg #[.int .i64 c.k, .int .i64 c.d, s]
def spV (a b c : Int) (r ok : Bool) : Value := .agg #[.int .i64 a, .int .i64 b, .int .i64 c, .bool r, .bool ok]
def setV (c : Ch) (s : Value) : Value :=
 if (c.k = 1 ∧ c.L.length = 1) ∨ c.k = 2 then .iface 110 s
 else if c.k = 3 ∧ c.L.length = 2 then .iface 112 (spV c.lo c.hi 1 true true)
 else if c.k = 4 ∧ c.L.length = 3 then .iface 112 (spV c.lo c.hi (c.L.getD 2 0) false true)
 else .iface 112 (spV 0 0 0 false false)
theorem bv_sp (a b c : Int) (r ok : Bool) : buildV ZP 112 [(0, .int .i64 a), (1, .int .i64 b), (2, .int .i64 c), (3, .bool r), (4, .bool ok)] = some (spV a b c r ok) := by kernel_rfl
theorem bv_sp0 : buildV ZP 112 [] = some (spV 0 0 0 false false) := by kernel_rfl
theorem box_cell {w w' : World} {cs : Array Value} {t : TypeId} (h : Ext (w.alloc (.cells cs t)) w') {j : Nat} {v : Value} (hj : cs[j]? = some v) : w'.cell? ⟨w.heap.size, j, none⟩ = some v :=
 h.cell (by rw [World.cell?_alloc_new]; exact hj)
theorem numbers_c (c : Ch) (s : Value) (w : World) (hs : SlI w s c.L) : Rets ZP 66 #[chV c s] w fun r w' => r = setV c s ∧ Ext w w' := by
 obtain ⟨k, d, L⟩ := c
 obtain ⟨p, cap, rfl, hc1, hc2⟩ := hs.shape
 simp only at hs hc1 hc2
 have hx : Ext w (w.alloc (.cells #[.int .i64 k, .int .i64 d, .slice p L.length cap] 35)) := Ext.alloc _ _
 refine en66 ?_
 by_cases k1 : k = 1
 · subst k1
   by_cases l1 : L.length = 1
   · have e1 : (L.length : Int) = 1 := by omega
     simp -dsimp -implicitDefEqProofs only [chV,e1,m66,sF66,ZA,↓reduceIte,ZB,ZC,ZJ,ZK,ZE,ZF,ZG,ZH,ZI,reduceCtorEq,ZD,mwV,↓mwD,mwU]
     exact ⟨by simp [setV, l1], hx⟩
   · have e1 : ¬ (L.length : Int) = 1 := by omega
     simp -dsimp -implicitDefEqProofs only [chV,e1,bv_sp0,m66,sF66,ZA,↓reduceIte,ZB,ZC,ZJ,ZK,ZE,ZF,ZG,ZH,ZI,reduceCtorEq,ZD,mwV,↓mwD,mwU]
     exact ⟨by simp [setV, l1], hx⟩
 · by_cases k2 : k = 2
   · subst k2
     simp -dsimp -implicitDefEqProofs only [chV,m66,sF66,ZA,↓reduceIte,ZB,ZC,ZJ,ZK,ZE,ZF,ZG,ZH,ZI,reduceCtorEq,ZD,mwV,↓mwD,mwU]
     exact ⟨by simp [setV], hx⟩
   · by_cases k3 : k = 3
     · subst k3
       by_cases l2 : L.length = 2
       · obtain ⟨x, y, rfl⟩ : ∃ x y, L = [x, y] := by
          match L, l2 with
          | [x, y], _ => exact ⟨x, y, rfl⟩
         obtain ⟨b, o, cap', hv, _, _, hcell⟩ := hs.at (by simp)
         cases hv
         have q0 := cell_old (hcell 0 (by simp)) (.cells #[.int .i64 3, .int .i64 d, .slice (some ⟨b, o, none⟩) 2 cap] 35)
         have q1 := cell_old (hcell 1 (by simp)) (.cells #[.int .i64 3, .int .i64 d, .slice (some ⟨b, o, none⟩) 2 cap] 35)
         simp only [Nat.add_zero,List.getElem_cons_zero,List.getElem_cons_succ] at q0 q1
         simp -dsimp -implicitDefEqProofs only [chV,m66,sF66,ZA,↓reduceIte,ZB,ZC,ZJ,ZK,ZE,ZF,ZG,ZH,ZI,reduceCtorEq,ZD,mwV,↓mwD,mwU]
         refine mwpB_drawE ?_
         simp -dsimp -implicitDefEqProofs only [chV,q0,q1,bv_sp,m66,sF66,ZA,↓reduceIte,ZB,ZC,ZJ,ZK,ZE,ZF,ZG,ZH,ZI,reduceCtorEq,ZD,mwV,↓mwD,mwU]
         exact ⟨by simp [setV, Ch.lo, Ch.hi], hx.trans (Ext.drew _)⟩
       · have e1 : ¬ (L.length : Int) = 2 := by omega
         simp -dsimp -implicitDefEqProofs only [chV,e1,bv_sp0,m66,sF66,ZA,↓reduceIte,ZB,ZC,ZJ,ZK,ZE,ZF,ZG,ZH,ZI,reduceCtorEq,ZD,mwV,↓mwD,mwU]
         exact ⟨by simp [setV, l2], hx⟩
     · by_cases k4 : k = 4
       · subst k4
         by_cases l3 : L.length = 3
         · obtain ⟨x, y, z, rfl⟩ : ∃ x y z, L = [x, y, z] := by
            match L, l3 with
            | [x, y, z], _ => exact ⟨x, y, z, rfl⟩
           obtain ⟨b, o, cap', hv, _, _, hcell⟩ := hs.at (by simp)
           cases hv
           have q0 := cell_old (hcell 0 (by simp)) (.cells #[.int .i64 4, .int .i64 d, .slice (some ⟨b, o, none⟩) 3 cap] 35)
           have q1 := cell_old (hcell 1 (by simp)) (.cells #[.int .i64 4, .int .i64 d, .slice (some ⟨b, o, none⟩) 3 cap] 35)
           have q2 := cell_old (hcell 2 (by simp)) (.cells #[.int .i64 4, .int .i64 d, .slice (some ⟨b, o, none⟩) 3 cap] 35)
           simp only [Nat.add_zero,List.getElem_cons_zero,List.getElem_cons_succ] at q0 q1 q2
           simp -dsimp -implicitDefEqProofs only [chV,m66,sF66,ZA,↓reduceIte,ZB,ZC,ZJ,ZK,ZE,ZF,ZG,ZH,ZI,reduceCtorEq,ZD,mwV,↓mwD,mwU]
           refine mwpB_drawE ?_
           simp -dsimp -implicitDefEqProofs only [chV,q0,q1,q2,bv_sp,m66,sF66,ZA,↓reduceIte,ZB,ZC,ZJ,ZK,ZE,ZF,ZG,ZH,ZI,reduceCtorEq,ZD,mwV,↓mwD,mwU]
           exact ⟨by simp [setV, Ch.lo, Ch.hi], hx.trans (Ext.drew _)⟩
         · have e1 : ¬ (L.length : Int) = 3 := by omega
           simp -dsimp -implicitDefEqProofs only [chV,e1,bv_sp0,m66,sF66,ZA,↓reduceIte,ZB,ZC,ZJ,ZK,ZE,ZF,ZG,ZH,ZI,reduceCtorEq,ZD,mwV,↓mwD,mwU]
           exact ⟨by simp [setV, l3], hx⟩
       · simp -dsimp -implicitDefEqProofs only [chV,k1,k2,k3,k4,bv_sp0,m66,sF66,ZA,↓reduceIte,ZB,ZC,ZJ,ZK,ZE,ZF,ZG,ZH,ZI,reduceCtorEq,ZD,mwV,↓mwD,mwU]
         exact ⟨by simp [setV, k1, k2, k3, k4], hx⟩
def stB (a b c n : Int) : Bool := decide (a ≤ n) && (decide (n ≤ b) && decide ((n - a) % c = 0))
theorem stepsHas_c (a b c n : Int) (r ok : Bool) (w : World) (ha : 0 ≤ a) (hb : b ≤ 1000000000) (hc : 1 ≤ c) : Rets ZP 108 #[spV a b c r ok, .int .i64 n] w fun v w' => v = .bool (stB a b c n) ∧ Ext w w' := by
 refine en108 ?_
 by_cases h1 : a ≤ n
 · by_cases h2 : n ≤ b
   · have hc0 : ¬ c = 0 := by omega
     have hw : IntKind.i64.wrap (n - a) = n - a := w64 (by omega) (by omega)
     have ht : (n - a).tmod c = (n - a) % c := Int.tmod_eq_emod_of_nonneg (by omega)
     simp -dsimp -implicitDefEqProofs only [spV,h1,h2,hc0,hw,ht,not_false_eq_true,m108,sF108,ZA,↓reduceIte,ZB,ZC,ZJ,ZK,ZE,ZF,ZG,ZH,ZI,reduceCtorEq,ZD,mwV,↓mwD,mwU]
     exact ⟨by simp [stB, h1, h2], Ext.alloc _ _⟩
   · simp -dsimp -implicitDefEqProofs only [spV,h1,h2,m108,sF108,ZA,↓reduceIte,ZB,ZC,ZJ,ZK,ZE,ZF,ZG,ZH,ZI,reduceCtorEq,ZD,mwV,↓mwD,mwU]
     exact ⟨by simp [stB, h1, h2], Ext.alloc _ _⟩
 · simp -dsimp -implicitDefEqProofs only [spV,h1,m108,sF108,ZA,↓reduceIte,ZB,ZC,ZJ,ZK,ZE,ZF,ZG,ZH,ZI,reduceCtorEq,ZD,mwV,↓mwD,mwU]
   exact ⟨by simp [stB, h1], Ext.alloc _ _⟩
def stR (a b c : Int) (ok : Bool) : Bool := ok && (decide (0 ≤ a) && (decide (a ≤ b) && (decide (b ≤ 1000000000) && (decide (1 ≤ c) && decide (c ≤ 1000)))))
theorem stepsRight_c (a b c : Int) (r ok : Bool) (w : World) : Rets ZP 232 #[spV a b c r ok] w fun v w' => v = .bool (stR a b c ok) ∧ Ext w w' := by
 refine en232 ?_
 cases ok
 · simp -dsimp -implicitDefEqProofs only [spV,m232,sF232,ZA,↓reduceIte,ZB,ZC,ZJ,ZK,ZE,ZF,ZG,ZH,ZI,reduceCtorEq,ZD,mwV,↓mwD,mwU]
   exact ⟨by simp [stR], Ext.alloc _ _⟩
 · by_cases h1 : 0 ≤ a
   · by_cases h2 : a ≤ b
     · by_cases h3 : b ≤ 1000000000
       · by_cases h4 : 1 ≤ c
         · simp -dsimp -implicitDefEqProofs only [spV,h1,h2,h3,h4,m232,sF232,ZA,↓reduceIte,ZB,ZC,ZJ,ZK,ZE,ZF,ZG,ZH,ZI,reduceCtorEq,ZD,mwV,↓mwD,mwU]
           exact ⟨by simp [stR, h1, h2, h3, h4], Ext.alloc _ _⟩
         · simp -dsimp -implicitDefEqProofs only [spV,h1,h2,h3,h4,m232,sF232,ZA,↓reduceIte,ZB,ZC,ZJ,ZK,ZE,ZF,ZG,ZH,ZI,reduceCtorEq,ZD,mwV,↓mwD,mwU]
           exact ⟨by simp [stR, h4], Ext.alloc _ _⟩
       · simp -dsimp -implicitDefEqProofs only [spV,h1,h2,h3,m232,sF232,ZA,↓reduceIte,ZB,ZC,ZJ,ZK,ZE,ZF,ZG,ZH,ZI,reduceCtorEq,ZD,mwV,↓mwD,mwU]
         exact ⟨by simp [stR, h3], Ext.alloc _ _⟩
     · simp -dsimp -implicitDefEqProofs only [spV,h1,h2,m232,sF232,ZA,↓reduceIte,ZB,ZC,ZJ,ZK,ZE,ZF,ZG,ZH,ZI,reduceCtorEq,ZD,mwV,↓mwD,mwU]
       exact ⟨by simp [stR, h2], Ext.alloc _ _⟩
   · simp -dsimp -implicitDefEqProofs only [spV,h1,m232,sF232,ZA,↓reduceIte,ZB,ZC,ZJ,ZK,ZE,ZF,ZG,ZH,ZI,reduceCtorEq,ZD,mwV,↓mwD,mwU]
     exact ⟨by simp [stR, h1], Ext.alloc _ _⟩
end Go.Proofs.YthcdnjbhhaonhaaGreatDoor
/- Layer 02: package format's lists of numbers. -/
namespace Go.Proofs.YthcdnjbhhaonhaaGreatDoor
open Go.RowKit
open Nat renaming reduceEqDiff → ZA, reduceAdd → ZB, reduceMul → ZC, reduceSub → ZD
open Int renaming reduceToNat → ZE, reduceEq → ZF, reduceLT → ZG, reduceLE → ZH, reduceNeg → ZI
open Go.Value renaming oneCell' → ZK, cells → ZJ
open Go.Proofs.Tryz renaming prog → ZP
set_option linter.unusedSimpArgs false
theorem w64_succ {k n : Nat} (h : k < n) (hn : n ≤ maxLen) : IntKind.i64.wrap ((k : Int) + 1) = ((k + 1 : Nat) : Int) := by
 unfold maxLen at hn
 rw [w64 (by omega) (by omega)]; omega
theorem contains_take_succ {xs : List Int} {k : Nat} (h : k < xs.length) (n : Int) : (xs.take (k + 1)).contains n = ((xs.take k).contains n || decide (n = xs[k])) := by
 rw [List.take_succ_eq_append_getElem h]
 simp only [List.contains_eq_mem,List.mem_append,List.mem_singleton,Bool.decide_or]
theorem IndexL_c (v : Value) (xs : List Int) (n : Int) (w : World) (h : SlI w v xs) :
 Rets ZP 231 #[v, .int .i64 n] w fun r w' => (∃ i : Int, r = .int .i64 i ∧ decide (0 ≤ i) = xs.contains n) ∧ w' = w := by
 obtain ⟨q, cap, rfl, hc1, hc2⟩ := h.shape
 refine en231 ?_
 simp -dsimp -implicitDefEqProofs only [m231,sF231,ZA,↓reduceIte,ZB,ZC,ZJ,ZK,ZE,ZF,ZG,ZH,ZI,reduceCtorEq,ZD,mwV,↓mwD,mwU]
 refine mwpB_loop (fun e ds w' => ∃ k : Nat, k ≤ xs.length ∧ e 8 = .int .i64 k ∧ e 7 = .int .i64 xs.length ∧ e 0 = .slice q xs.length cap ∧ e 1 = .int .i64 n ∧ ds = [] ∧ w' = w ∧ (xs.take k).contains n = false)
  (fun e _ => xs.length - (intOf (e 8)).toNat) ?_ ?_
 · simp -dsimp -implicitDefEqProofs only [m231,sF231,ZA,↓reduceIte,ZB,ZC,ZJ,ZK,ZE,ZF,ZG,ZH,ZI,reduceCtorEq,ZD,mwV,↓mwD,mwU]
   exact ⟨0, by omega, rfl, rfl⟩
 · rintro e ds w' ⟨k, hk, h8, h7, h0, h1, rfl, rfl, hp⟩
   simp -dsimp -implicitDefEqProofs only [h8,h7,h0,h1,m231,sF231,ZA,↓reduceIte,ZB,ZC,ZJ,ZK,ZE,ZF,ZG,ZH,ZI,reduceCtorEq,ZD,mwV,↓mwD,mwU]
   refine iteW_dec (fun hlt => ?_) (fun hge => ?_)
   · have hlt' : k < xs.length := by omega
     obtain ⟨b, o, cap', hv, _, _, hcell⟩ := h.at (by intro h0; rw [h0] at hlt'; simp at hlt')
     cases hv
     have hck := hcell k hlt'
     have hb1 : (0 : Int) ≤ k ∧ (k : Int) < xs.length := by omega
     have hw := w64_succ hlt' (Nat.le_trans hc1 hc2)
     have hs := contains_take_succ hlt' n
     simp -dsimp -implicitDefEqProofs only [h8,h7,h0,h1,hb1,and_self,hck,m231,sF231,ZA,↓reduceIte,ZB,ZC,ZJ,ZK,ZE,ZF,ZG,ZH,ZI,reduceCtorEq,ZD,mwV,↓mwD,mwU]
     by_cases he : n = xs[k]
     · simp -dsimp -implicitDefEqProofs only [h8,h7,h0,h1,he,m231,sF231,ZA,↓reduceIte,ZB,ZC,ZJ,ZK,ZE,ZF,ZG,ZH,ZI,reduceCtorEq,ZD,mwV,↓mwD,mwU]
       refine ⟨_, rfl, ?_⟩
       have : xs.contains xs[k] = true := by rw [List.contains_eq_mem, decide_eq_true_eq]; exact List.getElem_mem hlt'
       rw [this]; simp
     · simp -dsimp -implicitDefEqProofs only [h8,h7,h0,h1,he,hw,m231,sF231,ZA,↓reduceIte,ZB,ZC,ZJ,ZK,ZE,ZF,ZG,ZH,ZI,reduceCtorEq,ZD,mwV,↓mwD,mwU]
       refine ⟨⟨k + 1, by omega, rfl, ?_⟩, ?_⟩
       · rw [hs, hp]; simp [he]
       · simp only [intOf]; omega
   · have hkl : k = xs.length := by omega
     subst hkl
     simp -dsimp -implicitDefEqProofs only [h8,h7,h0,h1,m231,sF231,ZA,↓reduceIte,ZB,ZC,ZJ,ZK,ZE,ZF,ZG,ZH,ZI,reduceCtorEq,ZD,mwV,↓mwD,mwU]
     refine ⟨_, rfl, ?_⟩
     rw [List.take_length] at hp
     rw [hp]; simp
theorem ContainsL_c (v : Value) (xs : List Int) (n : Int) (w : World) (h : SlI w v xs) : Rets ZP 230 #[v, .int .i64 n] w fun r w' => r = .bool (xs.contains n) ∧ w' = w := by
 refine en230 ?_
 simp -dsimp -implicitDefEqProofs only [m230,sF230,ZA,↓reduceIte,ZB,ZC,ZJ,ZK,ZE,ZF,ZG,ZH,ZI,reduceCtorEq,ZD,mwV,↓mwD,mwU]
 refine (IndexL_c v xs n w h).use ?_
 rintro r w' ⟨⟨i, rfl, hi⟩, rfl⟩
 simp -dsimp -implicitDefEqProofs only [m230,sF230,ZA,↓reduceIte,ZB,ZC,ZJ,ZK,ZE,ZF,ZG,ZH,ZI,reduceCtorEq,ZD,mwV,↓mwD,mwU]
 rw [hi]
theorem listHas_c (v : Value) (xs : List Int) (n : Int) (w : World) (h : SlI w v xs) : Rets ZP 227 #[v, .int .i64 n] w fun r w' => r = .bool (xs.contains n) ∧ w' = w := by
 refine en227 ?_
 simp -dsimp -implicitDefEqProofs only [m227,sF227,ZA,↓reduceIte,ZB,ZC,ZJ,ZK,ZE,ZF,ZG,ZH,ZI,reduceCtorEq,ZD,mwV,↓mwD,mwU]
 refine (ContainsL_c v xs n w h).use ?_
 rintro r w' ⟨rfl, rfl⟩
 simp -dsimp -implicitDefEqProofs only [m227,sF227,ZA,↓reduceIte,ZB,ZC,ZJ,ZK,ZE,ZF,ZG,ZH,ZI,reduceCtorEq,ZD,mwV,↓mwD,mwU]
structure MapB (w : World) (b : Nat) (xs : List Int) : Prop where
 ex : ∃ es ck, w.heap[b]? = some (.map es ck) ∧ es.toList.map (·.key) = ints xs ∧ ∀ e ∈ es.toList, e.val = .bool true
theorem find_met {n : Int} : ∀ {l : List MapEntry} {xs : List Int} {i : Nat}, l.map (·.key) = ints xs → (∀ e ∈ l, e.val = .bool true) →
 (xs.contains n = true → ∃ j, Instr.findNow (.int .i64) (.int .i64 n) l i = some (some (j, .bool true))) ∧ (xs.contains n = false → Instr.findNow (.int .i64) (.int .i64 n) l i = some none)
 | [], [], i, _, _ => ⟨fun h => by simp at h, fun _ => rfl⟩
 | e :: l, x :: xs, i, hk, hv => by
  simp only [List.map_cons,ints,List.cons.injEq] at hk
  have ih := find_met (n := n) (l := l) (xs := xs) (i := i + 1) hk.2 (fun e he => hv e (List.mem_cons_of_mem _ he))
  have hs : Instr.sameNow (.int .i64) (.int .i64 n) e.key = some (n == x) := by rw [hk.1]; rfl
  by_cases hx : n = x
  · subst hx
    refine ⟨fun _ => ⟨i, ?_⟩, fun h => by simp at h⟩
    simp [Instr.findNow, hs, hv e (List.mem_cons_self ..)]
  · have hb : (n == x) = false := by simpa using hx
    have hc : (x :: xs).contains n = xs.contains n := by simp only [List.contains_cons,hb,Bool.false_or]
    rw [hc]
    refine ⟨fun h => ?_, fun h => ?_⟩
    · obtain ⟨j, hj⟩ := ih.1 h
      exact ⟨j, by simp [Instr.findNow, hs, hb, hj]⟩
    · simp [Instr.findNow, hs, hb, ih.2 h]
 | [], _ :: _, _, hk, _ => by simp [ints] at hk
 | _ :: _, [], _, hk, _ => by simp [ints] at hk
theorem und_map : (ZP).underlying 202 = some (.map 3 4) := Tryz.underlying202
theorem look_met {w : World} {b : Nat} {xs : List Int} (h : MapB w b xs) (n : Int) : (Instr.lookup 202 (.map (some b)) (.int .i64 n) false).run ZP w = .ok (.bool (xs.contains n)) w := by
 obtain ⟨es, ck, ho, hk, hv⟩ := h.ex
 have hik : Go.MapKept.IsKey (.int .i64) (.int .i64 n) := rfl
 have hd : (ZP).underlying 3 = some (.int .i64) := Tryz.underlying3
 have hz : tzero ZP 4 = some (.bool false) := tzero_4
 have hf := find_met (n := n) (i := 0) hk hv
 cases hc : xs.contains n
 · simp [Instr.lookup, run_underlying und_map, Go.MapKept.run_getObj_map ho, Go.MapKept.run_checkKey hd hik, Go.MapKept.run_findKey hd (hf.2 hc), run_tzero hz, Result.andThen]
 · obtain ⟨j, hj⟩ := hf.1 hc
   simp [Instr.lookup, run_underlying und_map, Go.MapKept.run_getObj_map ho, Go.MapKept.run_checkKey hd hik, Go.MapKept.run_findKey hd hj, Result.andThen]
theorem upd_met {w : World} {b : Nat} {xs : List Int} (h : MapB w b xs) (n : Int) (hn : xs.contains n = false) : ∃ w', (Instr.mapUpdate 202 (.map (some b)) (.int .i64 n) (.bool true)).run ZP w = .ok () w' ∧ MapB w' b (xs ++ [n]) ∧ w'.os = w.os ∧ w'.tape = w.tape ∧ w'.output = w.output ∧ w'.heap.size = w.heap.size ∧ ∀ k, k ≠ b → w'.heap[k]? = w.heap[k]? := by
 obtain ⟨es, ck, ho, hk, hv⟩ := h.ex
 have hik : Go.MapKept.IsKey (.int .i64) (.int .i64 n) := rfl
 have hd : (ZP).underlying 3 = some (.int .i64) := Tryz.underlying3
 have hf := find_met (n := n) (i := 0) hk hv
 refine ⟨{ w with heap := w.heap.setIfInBounds b (.map (es.push { key := .int .i64 n, val := .bool true, born := ck }) (ck + 1)) }, ?_, ⟨_, _, (Go.MapKept.heap_set ho).1, ?_, ?_⟩, rfl, rfl, rfl, by simp, fun k hkb => (Go.MapKept.heap_set ho).2 k hkb⟩
 · simp [Instr.mapUpdate, run_underlying und_map, Go.MapKept.run_getObj_map ho, Go.MapKept.run_checkKey hd hik, Go.MapKept.run_findKey hd (hf.2 hn), Go.MapKept.run_setObj_map _ ho, Result.andThen]
 · simp [hk, ints]
 · intro e he
   simp only [Array.toList_push,List.mem_append,List.mem_singleton] at he
   rcases he with he | rfl
   · exact hv e he
   · rfl
theorem opB_lookup' {d : Option Tmp} {t ty : TypeId} {m k : Operand} {ok : Bool} {g : Option (Option Tmp × Bool)} {e : Env} {ds : List Deferred} {w : World} {KV : Value → List Deferred → World → Prop} {X : List PanicEntry → List Deferred → World → Prop} {tk : Tk2 KV X} {v : Value}
 (h : (Instr.lookup t (ev e m) (ev e k) ok).run ZP w = .ok v w) (hk : KV v ds w) : opB ZP ⟨d, .lookup t m k ok, ty, g⟩ e ds w KV X tk := by
 unfold opB
 simp only [opW,mexec,execOp,Sem.run_bind,h,Result.andThen_ok,Sem.run_pure,opR]
 exact hk
theorem opB_mapUpdate' {d : Option Tmp} {t ty : TypeId} {m k x : Operand} {g : Option (Option Tmp × Bool)} {e : Env} {ds : List Deferred} {w w' : World} {KV : Value → List Deferred → World → Prop} {X : List PanicEntry → List Deferred → World → Prop} {tk : Tk2 KV X}
 (h : (Instr.mapUpdate t (ev e m) (ev e k) (ev e x)).run ZP w = .ok () w') (hk : KV undef ds w') : opB ZP ⟨d, .mapUpdate t m k x, ty, g⟩ e ds w KV X tk := by
 unfold opB
 simp only [opW,mexec,execOp,Sem.run_bind,h,Result.andThen_ok,Sem.run_pure,opR]
 exact hk
theorem opB_makeMap' {d : Option Tmp} {t ty : TypeId} {g : Option (Option Tmp × Bool)} {e : Env} {ds : List Deferred} {w : World} {KV : Value → List Deferred → World → Prop} {X : List PanicEntry → List Deferred → World → Prop} {tk : Tk2 KV X}
 (hk : KV (.map (some w.heap.size)) ds (w.alloc (.map #[] 0))) : opB ZP ⟨d, .makeMap t none, ty, g⟩ e ds w KV X tk := by
 have h : (Instr.makeMap t none).run ZP w = .ok (.map (some w.heap.size)) (w.alloc (.map #[] 0)) := rfl
 unfold opB
 simp only [opW,mexec,execOp,Option.map_none,Sem.run_bind,h,Result.andThen_ok,Sem.run_pure,opR]
 exact hk
theorem dis_app {n : Int} : ∀ {xs : List Int}, dis (xs ++ [n]) = (dis xs && !xs.contains n)
 | [] => by simp [dis]
 | a :: l => by
  simp only [List.cons_append,dis,dis_app (xs := l)]
  by_cases h : n = a
  · subst h
    simp [List.contains_eq_mem]
  · have h' : ¬ a = n := fun e => h e.symm
    simp [List.contains_eq_mem, h, h', Bool.and_assoc]
def listR (xs : List Int) : Bool := xs.all inT && dis xs && (decide (1 ≤ xs.length) && decide (xs.length ≤ 20))
theorem listRight_c (v : Value) (xs : List Int) (w : World) (h : SlI w v xs) : Rets ZP 228 #[v] w fun r w' => r = .bool (listR xs) ∧ Ext w w' := by
 obtain ⟨q, cap, rfl, hc1, hc2⟩ := h.shape
 refine en228 ?_
 simp -dsimp -implicitDefEqProofs only [m228,sF228,ZA,↓reduceIte,ZB,ZC,ZJ,ZK,ZE,ZF,ZG,ZH,ZI,reduceCtorEq,ZD,mwV,↓mwD,mwU]
 refine opB_makeMap' ?_
 simp -dsimp -implicitDefEqProofs only [m228,sF228,ZA,↓reduceIte,ZB,ZC,ZJ,ZK,ZE,ZF,ZG,ZH,ZI,reduceCtorEq,ZD,mwV,↓mwD,mwU]
 have hsz : (w.alloc (.map #[] 0)).heap.size = w.heap.size + 1 := World.size_alloc _ _
 refine mwpB_loop (fun e ds w' => ∃ k : Nat, k ≤ xs.length ∧ e 9 = .int .i64 k ∧ e 8 = .int .i64 xs.length ∧ e 7 = .slice q xs.length cap ∧ e 0 = .slice q xs.length cap ∧ e 3 = .map (some w.heap.size) ∧ ds = [] ∧ Ext w w' ∧ MapB w' w.heap.size (xs.take k) ∧ (xs.take k).all inT = true ∧ dis (xs.take k) = true)
  (fun e _ => xs.length - (intOf (e 9)).toNat) ?_ ?_
 · simp -dsimp -implicitDefEqProofs only [m228,sF228,ZA,↓reduceIte,ZB,ZC,ZJ,ZK,ZE,ZF,ZG,ZH,ZI,reduceCtorEq,ZD,mwV,↓mwD,mwU]
   exact ⟨0, by omega, rfl, Ext.alloc _ _, ⟨#[], 0, heap_alloc_new w _, rfl, fun e he => by simp at he⟩, rfl, rfl⟩
 · rintro e ds w' ⟨k, hk, h9, h8, h7, h0, h3, rfl, hx, hm, hall, hdis⟩
   simp -dsimp -implicitDefEqProofs only [h9,h8,h7,h0,h3,m228,sF228,ZA,↓reduceIte,ZB,ZC,ZJ,ZK,ZE,ZF,ZG,ZH,ZI,reduceCtorEq,ZD,mwV,↓mwD,mwU]
   refine iteW_dec (fun hlt => ?_) (fun hge => ?_)
   · have hlt' : k < xs.length := by omega
     obtain ⟨b, o, cap', hv, _, _, hcell⟩ := h.at (by intro h0; rw [h0] at hlt'; simp at hlt')
     cases hv
     have hck := hx.cell (hcell k hlt')
     have hb1 : (0 : Int) ≤ k ∧ (k : Int) < xs.length := by omega
     have hw := w64_succ hlt' (Nat.le_trans hc1 hc2)
     have htk := List.take_succ_eq_append_getElem hlt'
     have hno : (xs.take k).contains xs[k] = true ∨ inT xs[k] = false → listR xs = false := fun hh => by
      have e1 : xs.take (k + 1) ++ xs.drop (k + 1) = xs := List.take_append_drop _ _
      rcases hh with hh | hh
      · have : dis (xs.take (k + 1)) = false := by rw [htk, dis_app, hh]; simp
        have h2 : dis xs = false := by
         cases hd : dis xs with
         | false => rfl
         | true =>
          have : ∀ (l m : List Int), dis (l ++ m) = true → dis l = true := fun l => by
           induction l with
           | nil => intro m _; rfl
           | cons a l ih =>
            intro m hl
            simp only [List.cons_append,dis,Bool.and_eq_true,Bool.not_eq_true'] at hl ⊢
            refine ⟨?_, ih m hl.2⟩
            have := hl.1
            simp only [List.contains_eq_mem,decide_eq_false_iff_not,List.mem_append,not_or] at this ⊢
            exact this.1
          have := this (xs.take (k + 1)) (xs.drop (k + 1)) (by rw [e1]; exact hd)
          simp_all
        simp [listR, h2]
      · have : xs.all inT = false := by
         cases ha : xs.all inT with
         | false => rfl
         | true => have := List.all_eq_true.1 ha xs[k] (List.getElem_mem hlt'); rw [this] at hh; cases hh
        simp [listR, this]
     simp -dsimp -implicitDefEqProofs only [h9,h8,h7,h0,h3,hb1,and_self,hck,m228,sF228,ZA,↓reduceIte,ZB,ZC,ZJ,ZK,ZE,ZF,ZG,ZH,ZI,reduceCtorEq,ZD,mwV,↓mwD,mwU]
     refine opB_lookup' (v := .bool ((xs.take k).contains xs[k])) ?_ ?_
     · simp -dsimp -implicitDefEqProofs only [h3,m228,sF228,ZA,↓reduceIte,ZB,ZC,ZJ,ZK,ZE,ZF,ZG,ZH,ZI,reduceCtorEq,ZD,mwV,↓mwD,mwU]
       exact look_met hm _
     · cases hc : (xs.take k).contains xs[k]
       · by_cases h1 : xs[k] < 0
         · simp -dsimp -implicitDefEqProofs only [h9,h8,h7,h0,h3,h1,m228,sF228,ZA,↓reduceIte,ZB,ZC,ZJ,ZK,ZE,ZF,ZG,ZH,ZI,reduceCtorEq,ZD,mwV,↓mwD,mwU]
           exact ⟨by rw [hno (.inr (by simp [inT]; omega))], hx⟩
         · by_cases h2 : 1000000000 < xs[k]
           · simp -dsimp -implicitDefEqProofs only [h9,h8,h7,h0,h3,h1,h2,m228,sF228,ZA,↓reduceIte,ZB,ZC,ZJ,ZK,ZE,ZF,ZG,ZH,ZI,reduceCtorEq,ZD,mwV,↓mwD,mwU]
             exact ⟨by rw [hno (.inr (by simp [inT]; omega))], hx⟩
           · simp -dsimp -implicitDefEqProofs only [h9,h8,h7,h0,h3,h1,h2,m228,sF228,ZA,↓reduceIte,ZB,ZC,ZJ,ZK,ZE,ZF,ZG,ZH,ZI,reduceCtorEq,ZD,mwV,↓mwD,mwU]
             obtain ⟨w2, u1, u2, u3, u4, u5, u6, u7⟩ := upd_met hm xs[k] hc
             refine opB_mapUpdate' (w' := w2) ?_ ?_
             · simp -dsimp -implicitDefEqProofs only [h3,m228,sF228,ZA,↓reduceIte,ZB,ZC,ZJ,ZK,ZE,ZF,ZG,ZH,ZI,reduceCtorEq,ZD,mwV,↓mwD,mwU]
               exact u1
             · simp -dsimp -implicitDefEqProofs only [h9,h8,h7,h0,h3,hw,m228,sF228,ZA,↓reduceIte,ZB,ZC,ZJ,ZK,ZE,ZF,ZG,ZH,ZI,reduceCtorEq,ZD,mwV,↓mwD,mwU]
               refine ⟨⟨k + 1, by omega, rfl, ?_, ?_, ?_, ?_⟩, ?_⟩
               · exact Below.trans hx ⟨u3, u4, u5, by omega, fun k hk => u7 k (by omega)⟩
               · rw [htk]; exact u2
               · rw [htk, List.all_append, hall]; simp [inT]; omega
               · rw [htk, dis_app, hdis, hc]; rfl
               · simp only [intOf]; omega
       · simp -dsimp -implicitDefEqProofs only [h9,h8,h7,h0,h3,m228,sF228,ZA,↓reduceIte,ZB,ZC,ZJ,ZK,ZE,ZF,ZG,ZH,ZI,reduceCtorEq,ZD,mwV,↓mwD,mwU]
         exact ⟨by rw [hno (.inl hc)], hx⟩
   · have hkl : k = xs.length := by omega
     subst hkl
     rw [List.take_length] at hall hdis
     by_cases l1 : 1 ≤ xs.length
     · have l1' : (1 : Int) ≤ (xs.length : Int) := by omega
       simp -dsimp -implicitDefEqProofs only [h9,h8,h7,h0,h3,l1',m228,sF228,ZA,↓reduceIte,ZB,ZC,ZJ,ZK,ZE,ZF,ZG,ZH,ZI,reduceCtorEq,ZD,mwV,↓mwD,mwU]
       exact ⟨by simp [listR, hall, hdis, l1]; omega, hx⟩
     · have l1' : ¬ (1 : Int) ≤ (xs.length : Int) := by omega
       simp -dsimp -implicitDefEqProofs only [h9,h8,h7,h0,h3,l1',m228,sF228,ZA,↓reduceIte,ZB,ZC,ZJ,ZK,ZE,ZF,ZG,ZH,ZI,reduceCtorEq,ZD,mwV,↓mwD,mwU]
       exact ⟨by simp [listR, l1], hx⟩
end Go.Proofs.YthcdnjbhhaonhaaGreatDoor
/- Layer 02: package format's ValidChoice, Has, Numbers. -/
namespace Go.Proofs.YthcdnjbhhaonhaaGreatDoor
open Go.RowKit
open Nat renaming reduceEqDiff → ZA, reduceAdd → ZB, reduceMul → ZC, reduceSub → ZD
open Int renaming reduceToNat → ZE, reduceEq → ZF, reduceLT → ZG, reduceLE → ZH, reduceNeg → ZI
open Go.Value renaming oneCell' → ZK, cells → ZJ
open Go.Proofs.Tryz renaming prog → ZP
set_option linter.unusedSimpArgs false
def Fit (c : Ch) : Prop := ((c.k = 1 ∧ c.L.length = 1) ∨ c.k = 2) ∨ (Rg c ∧ (c.k = 3 ∧ c.L.length = 2 ∨ c.k = 4 ∧ c.L.length = 3))
theorem inv_list (s : Value) : invV ZP "continuo/format.has" (.iface 110 s) = some (227, s) := by
 rw [invV_iface, show methB ZP 110 "continuo/format.has" = some 227 by kernel_rfl, Option.map_some]
theorem inv_steps (s : Value) : invV ZP "continuo/format.has" (.iface 112 s) = some (108, s) := by
 rw [invV_iface, show methB ZP 112 "continuo/format.has" = some 108 by kernel_rfl, Option.map_some]
theorem invR_list (s : Value) : invV ZP "continuo/format.right" (.iface 110 s) = some (228, s) := by
 rw [invV_iface, show methB ZP 110 "continuo/format.right" = some 228 by kernel_rfl, Option.map_some]
theorem invR_steps (s : Value) : invV ZP "continuo/format.right" (.iface 112 s) = some (232, s) := by
 rw [invV_iface, show methB ZP 112 "continuo/format.right" = some 232 by kernel_rfl, Option.map_some]
theorem has_list {c : Ch} (h : c.lsd = true) (n : Int) : c.has n = c.L.contains n := by unfold Ch.has; rw [if_pos h]
theorem lsd_of {c : Ch} (h : (c.k = 1 ∧ c.L.length = 1) ∨ c.k = 2) : c.lsd = true := by unfold Ch.lsd; rcases h with h | h <;> simp [h]
theorem nl_of {c : Ch} (h : c.lsd = false) : ¬ ((c.k = 1 ∧ c.L.length = 1) ∨ c.k = 2) := fun hh => by rw [lsd_of hh] at h; cases h
theorem setHas_c {c : Ch} {s : Value} {w : World} (hf : Fit c) (hs : SlI w s c.L) (n : Int) : ∃ f v, invV ZP "continuo/format.has" (setV c s) = some (f, v) ∧ okF ZP f = true ∧ Rets ZP f #[v, .int .i64 n] w fun r w' => r = .bool (c.has n) ∧ Ext w w' := by
 rcases hf with hf | ⟨hr, hk⟩
 · refine ⟨_, _, by rw [show setV c s = .iface 110 s by unfold setV; rw [if_pos hf]]; exact inv_list s, okF_227, (listHas_c s c.L n w hs).mono ?_⟩
   rintro r w' ⟨rfl, rfl⟩
   exact ⟨by rw [has_list (lsd_of hf)], Ext.refl _⟩
 · have hn := nl_of hr.nl
   have h0 := hr.l0
   have h2 := hr.l2
   have h3 := hr.s0
   rcases hk with ⟨hk, hl⟩ | ⟨hk, hl⟩
   · refine ⟨_, _, by rw [show setV c s = .iface 112 (spV c.lo c.hi 1 true true) by unfold setV; rw [if_neg hn, if_pos ⟨hk, hl⟩]]; exact inv_steps _, okF_108, (stepsHas_c c.lo c.hi 1 n true true w h0 h2 (by omega)).mono ?_⟩
     rintro r w' ⟨rfl, hx⟩
     refine ⟨?_, hx⟩
     unfold Ch.has stB
     rw [hr.nl, show c.stp = 1 by unfold Ch.stp; rw [if_neg (by omega)]]
     simp
   · have e : c.L.getD 2 0 = c.stp := by unfold Ch.stp; rw [if_pos hk]
     refine ⟨_, _, by rw [show setV c s = .iface 112 (spV c.lo c.hi (c.L.getD 2 0) false true) by unfold setV; rw [if_neg hn, if_neg (by omega), if_pos ⟨hk, hl⟩]]; exact inv_steps _, okF_108, (stepsHas_c c.lo c.hi _ n false true w h0 h2 (by omega)).mono ?_⟩
     rintro r w' ⟨rfl, hx⟩
     refine ⟨?_, hx⟩
     unfold Ch.has stB
     rw [hr.nl, e]
     simp
def rightB (c : Ch) : Bool := if (c.k = 1 ∧ c.L.length = 1) ∨ c.k = 2 then listR c.L else if c.k = 3 ∧ c.L.length = 2 then stR c.lo c.hi 1 true else if c.k = 4 ∧ c.L.length = 3 then stR c.lo c.hi (c.L.getD 2 0) true else false
theorem setRight_c {c : Ch} {s : Value} {w : World} (hs : SlI w s c.L) : ∃ f v, invV ZP "continuo/format.right" (setV c s) = some (f, v) ∧ okF ZP f = true ∧ Rets ZP f #[v] w fun r w' => r = .bool (rightB c) ∧ Ext w w' := by
 unfold setV rightB
 split
 · exact ⟨_, _, invR_list s, okF_228, listRight_c s c.L w hs⟩
 · split
   · exact ⟨_, _, invR_steps _, okF_232, stepsRight_c _ _ _ _ _ w⟩
   · split
     · exact ⟨_, _, invR_steps _, okF_232, stepsRight_c _ _ _ _ _ w⟩
     · exact ⟨_, _, invR_steps _, okF_232, stepsRight_c 0 0 0 false false w⟩
theorem inT_iff {n : Int} : inT n = true ↔ 0 ≤ n ∧ n ≤ 1000000000 := by simp [inT]
theorem right_fit {c : Ch} (h : rightB c = true) : Fit c := by
 unfold rightB at h
 split at h
 · rename_i hk; exact .inl hk
 · rename_i hn
   have hl : ∀ {x}, c.k = x → x ≠ 1 → x ≠ 2 → c.lsd = false := fun {x} e h1 h2 => by unfold Ch.lsd; simp [e, h1, h2]
   split at h
   · rename_i hk
     simp only [stR,Bool.true_and,Bool.and_eq_true,decide_eq_true_eq] at h
     have e : c.stp = 1 := by unfold Ch.stp; rw [if_neg (by omega)]
     exact .inr ⟨⟨hl hk.1 (by decide) (by decide), h.1, h.2.1, h.2.2.1, by omega, by omega⟩, .inl hk⟩
   · split at h
     · rename_i hk
       simp only [stR,Bool.true_and,Bool.and_eq_true,decide_eq_true_eq] at h
       have e : c.L.getD 2 0 = c.stp := by unfold Ch.stp; rw [if_pos hk.1]
       exact .inr ⟨⟨hl hk.1 (by decide) (by decide), h.1, h.2.1, h.2.2.1, by omega, by omega⟩, .inr hk⟩
     · cases h
theorem valid_right (c : Ch) : c.valid = (rightB c && c.has c.d) := by
 unfold Ch.valid
 congr 1
 obtain ⟨k, d, L⟩ := c
 unfold Ch.form rightB
 simp only
 by_cases k1 : k = 1
 · subst k1
   rw [if_pos rfl]
   by_cases l1 : L.length = 1
   · rw [if_pos (.inl ⟨rfl, l1⟩)]
     obtain ⟨x, rfl⟩ := List.length_eq_one_iff.1 l1
     simp [listR, dis]
   · rw [if_neg (by simp [l1]), if_neg (by simp), if_neg (by simp)]
     simp [l1]
 · rw [if_neg k1]
   by_cases k2 : k = 2
   · subst k2
     rw [if_pos rfl, if_pos (.inr rfl)]
     unfold listR
     cases L.all inT <;> cases dis L <;> simp
   · have e1 : ¬ ((k = 1 ∧ L.length = 1) ∨ k = 2) := by simp [k1, k2]
     rw [if_neg k2, if_neg e1]
     by_cases k3 : k = 3
     · by_cases l2 : L.length = 2
       · rw [if_pos k3, if_pos (show k = 3 ∧ L.length = 2 from ⟨k3, l2⟩)]
         match L, l2 with
         | [x, y], _ =>
          rw [Bool.eq_iff_iff]
          simp [stR, Ch.lo, Ch.hi, inT_iff]
          omega
       · rw [if_pos k3, if_neg (show ¬ (k = 3 ∧ L.length = 2) from fun h => l2 h.2), if_neg (show ¬ (k = 4 ∧ L.length = 3) from fun h => by omega)]
         simp [l2]
     · rw [if_neg k3, if_neg (show ¬ (k = 3 ∧ L.length = 2) from fun h => k3 h.1)]
       by_cases k4 : k = 4
       · by_cases l3 : L.length = 3
         · rw [if_pos k4, if_pos (show k = 4 ∧ L.length = 3 from ⟨k4, l3⟩)]
           match L, l3 with
           | [x, y, z], _ =>
            rw [Bool.eq_iff_iff]
            simp [stR, Ch.lo, Ch.hi, Ch.stp, inT_iff, k4]
            omega
         · rw [if_pos k4, if_neg (show ¬ (k = 4 ∧ L.length = 3) from fun h => l3 h.2)]
           simp [l3]
       · rw [if_neg k4, if_neg (show ¬ (k = 4 ∧ L.length = 3) from fun h => k4 h.1)]
         simp
theorem ValidChoice_c (c : Ch) (s : Value) (w : World) (hs : SlI w s c.L) : Rets ZP 20 #[chV c s] w fun r w' => r = .bool c.valid ∧ Ext w w' := by
 have hx : Ext w (w.alloc (.cells #[.int .i64 c.k, .int .i64 c.d, s] 35)) := Ext.alloc _ _
 refine en20 ?_
 obtain ⟨p, cap, rfl, _, _⟩ := hs.shape
 simp -dsimp -implicitDefEqProofs only [chV,m20,sF20,ZA,↓reduceIte,ZB,ZC,ZJ,ZK,ZE,ZF,ZG,ZH,ZI,reduceCtorEq,ZD,mwV,↓mwD,mwU]
 refine (numbers_c c _ _ (hs.ext hx)).use ?_
 rintro r w1 ⟨rfl, h1⟩
 obtain ⟨f, v, i1, i2, i3⟩ := setRight_c (w := w1) ((hs.ext hx).ext h1)
 simp -dsimp -implicitDefEqProofs only [chV,i1,i2,m20,sF20,ZA,↓reduceIte,ZB,ZC,ZJ,ZK,ZE,ZF,ZG,ZH,ZI,reduceCtorEq,ZD,mwV,↓mwD,mwU]
 refine i3.use ?_
 rintro r w2 ⟨rfl, h2⟩
 have hx2 := (hx.trans h1).trans h2
 rw [valid_right]
 cases hr : rightB c
 · simp -dsimp -implicitDefEqProofs only [m20,sF20,ZA,↓reduceIte,ZB,ZC,ZJ,ZK,ZE,ZF,ZG,ZH,ZI,reduceCtorEq,ZD,mwV,↓mwD,mwU]
   exact ⟨rfl, hx2⟩
 · have bc := box_cell (h1.trans h2) (j := 1) rfl
   obtain ⟨g, u, j1, j2, j3⟩ := setHas_c (w := w2) (right_fit hr) (hs.ext hx2) c.d
   simp -dsimp -implicitDefEqProofs only [j1,j2,bc,m20,sF20,ZA,↓reduceIte,ZB,ZC,ZJ,ZK,ZE,ZF,ZG,ZH,ZI,reduceCtorEq,ZD,mwV,↓mwD,mwU]
   refine j3.use ?_
   rintro r w3 ⟨rfl, h3⟩
   simp -dsimp -implicitDefEqProofs only [m20,sF20,ZA,↓reduceIte,ZB,ZC,ZJ,ZK,ZE,ZF,ZG,ZH,ZI,reduceCtorEq,ZD,mwV,↓mwD,mwU]
   exact ⟨rfl, hx2.trans h3⟩
end Go.Proofs.YthcdnjbhhaonhaaGreatDoor
/- Layer 02: package format's Has, Numbers. -/
namespace Go.Proofs.YthcdnjbhhaonhaaGreatDoor
open Go.RowKit
open Nat renaming reduceEqDiff → ZA, reduceAdd → ZB, reduceMul → ZC, reduceSub → ZD
open Int renaming reduceToNat → ZE, reduceEq → ZF, reduceLT → ZG, reduceLE → ZH, reduceNeg → ZI
open Go.Value renaming oneCell' → ZK, cells → ZJ
open Go.Proofs.Tryz renaming prog → ZP
set_option linter.unusedSimpArgs false
end Go.Proofs.YthcdnjbhhaonhaaGreatDoor
/- Layer 02: package format's Numbers. -/
namespace Go.Proofs.YthcdnjbhhaonhaaGreatDoor
open Go.RowKit
open Nat renaming reduceEqDiff → ZA, reduceAdd → ZB, reduceMul → ZC, reduceSub → ZD
open Int renaming reduceToNat → ZE, reduceEq → ZF, reduceLT → ZG, reduceLE → ZH, reduceNeg → ZI
open Go.Value renaming oneCell' → ZK, cells → ZJ
open Go.Proofs.Tryz renaming prog → ZP
set_option linter.unusedSimpArgs false
theorem SlI.take {w : World} {q : Option Addr} {xs : List Int} {cap : Nat} (h : SlI w (.slice q xs.length cap) xs) (k : Nat) (hk : k ≤ xs.length) : SlI w (.slice q k cap) (xs.take k) := by
 have hl : (ints (xs.take k)).length = k := by rw [ints_length, List.length_take]; omega
 rcases h with ⟨p, c2, h1, hc, h2, h00⟩ | ⟨b, o, c2, h1, h2, h3, h4⟩
 · obtain rfl : xs = [] := by simpa [ints] using h2
   cases h1
   obtain rfl : k = 0 := by simpa using hk
   exact SlI.empty w _ hc h00
 · simp only [Value.slice.injEq,ints_length] at h1 h2
   obtain ⟨rfl, _, rfl⟩ := h1
   refine .inr ⟨b, o, cap, by rw [hl], by omega, h3, fun j u hj => h4 j u ?_⟩
   simp only [ints,List.map_take,List.getElem?_take] at hj
   split at hj
   · simpa [ints] using hj
   · cases hj
end Go.Proofs.YthcdnjbhhaonhaaGreatDoor
/- Layer 02 in plain Lean: numbers that two ranges have in common. -/
namespace Go.Proofs.YthcdnjbhhaonhaaGreatDoor
structure Stand (a b : Ch) (at' : Int) : Prop where
 dv : a.stp ∣ at' - a.lo
 low : max a.lo b.lo ≤ at'
 le : ∀ n, both a b n = true → at' ≤ n
end Go.Proofs.YthcdnjbhhaonhaaGreatDoor
/- Layer 02: package format's listed, kept, greatest. -/
namespace Go.Proofs.YthcdnjbhhaonhaaGreatDoor
open Go.RowKit
open Nat renaming reduceEqDiff → ZA, reduceAdd → ZB, reduceMul → ZC, reduceSub → ZD
open Int renaming reduceToNat → ZE, reduceEq → ZF, reduceLT → ZG, reduceLE → ZH, reduceNeg → ZI
open Go.Value renaming oneCell' → ZK, cells → ZJ
open Go.Proofs.Tryz renaming prog → ZP
set_option linter.unusedSimpArgs false
def Bk (w : World) (b : Nat) (cs : List Value) (t : TypeId) : Prop := w.heap[b]? = some (.cells cs.toArray t)
section
variable {w w' : World} {b b' o : Nat} {cs : List Value} {t : TypeId}
theorem Bk.lt (h : Bk w b cs t) : b < w.heap.size := (Array.getElem?_eq_some_iff.1 h).1
theorem Bk.cell (h : Bk w b cs t) (o : Nat) : w.cell? ⟨b, o, none⟩ = cs[o]? := by
 unfold Bk at h; simp [World.cell?, h]
theorem Bk.get (h : Bk w b cs t) {v : Value} (hv : cs[o]? = some v) : w.cell? ⟨b, o, none⟩ = some v := by rw [h.cell, hv]
theorem Bk.frozen (h : Bk w b cs t) (o : Nat) : w.frozen? ⟨b, o, none⟩ = false := by
 unfold Bk at h; simp [World.frozen?, h]
theorem Bk.set (h : Bk w b cs t) (o : Nat) (v : Value) : Bk (w.setCell ⟨b, o, none⟩ v) b (cs.set o v) t := by
 unfold Bk at h ⊢; simp [World.setCell, Array.getElem?_modify, h]
theorem Bk.ne (h : Bk w b cs t) (hne : b' ≠ b) (o : Nat) (v : Value) : Bk (w.setCell ⟨b', o, none⟩ v) b cs t := by
 unfold Bk at h ⊢; simp [World.setCell, Array.getElem?_modify, hne, h]
theorem Bk.new (w : World) (cs : List Value) (t : TypeId) : Bk (w.alloc (.cells cs.toArray t)) w.heap.size cs t := heap_alloc_new w _
theorem Bk.ext (h : Bk w b cs t) (he : Ext w w') : Bk w' b cs t := by
 unfold Bk at h ⊢; rw [he.block b (Bk.lt h)]; exact h
end
def set3 (w : World) (b : Nat) (a0 a1 a2 : Value) : World := ((w.setCell ⟨b, 0, none⟩ a0).setCell ⟨b, 1, none⟩ a1).setCell ⟨b, 2, none⟩ a2
structure Put3 (w : World) (b : Nat) (a0 a1 a2 : Value) (t : TypeId) : Prop where
 c0 : ∃ x, w.cell? ⟨b, 0, none⟩ = some x
 z0 : w.frozen? ⟨b, 0, none⟩ = false
 c1 : ∃ x, (w.setCell ⟨b, 0, none⟩ a0).cell? ⟨b, 1, none⟩ = some x
 z1 : (w.setCell ⟨b, 0, none⟩ a0).frozen? ⟨b, 1, none⟩ = false
 c2 : ∃ x, ((w.setCell ⟨b, 0, none⟩ a0).setCell ⟨b, 1, none⟩ a1).cell? ⟨b, 2, none⟩ = some x
 z2 : ((w.setCell ⟨b, 0, none⟩ a0).setCell ⟨b, 1, none⟩ a1).frozen? ⟨b, 2, none⟩ = false
 bk : Bk (((w.setCell ⟨b, 0, none⟩ a0).setCell ⟨b, 1, none⟩ a1).setCell ⟨b, 2, none⟩ a2) b [a0, a1, a2] t
theorem Ext.set3 {w0 w : World} {b : Nat} (h : Ext w0 w) (hb : w0.heap.size ≤ b) (a0 a1 a2 : Value) : Ext w0 (((w.setCell ⟨b, 0, none⟩ a0).setCell ⟨b, 1, none⟩ a1).setCell ⟨b, 2, none⟩ a2) := by
 have one : ∀ {w : World} (o : Nat) (v : Value), Ext w0 w → Ext w0 (w.setCell ⟨b, o, none⟩ v) := fun {w} o v h =>
  Below.trans h ⟨rfl, rfl, rfl, by simp [World.setCell], fun k hk => Below.heap_setCell _ _ _ _ (by simp only; omega)⟩
 exact one 2 a2 (one 1 a1 (one 0 a0 h))
theorem Own.same {w w' : World} {base : Nat} {e : TypeId} {size : Nat} {v : Value} {n : Nat} {cs : List Value} (h : w.ownsRow base e size v n cs) (hs : ∀ k, base ≤ k → k < w.heap.size → w'.heap[k]? = w.heap[k]?) : w'.ownsRow base e size v n cs := by
 refine ⟨h.1, ?_⟩
 rcases h.2 with h2 | ⟨g, cap, cur, hv, hg, hh, r⟩
 · exact .inl h2
 · exact .inr ⟨g, cap, cur, hv, hg, by rw [hs g hg (Array.getElem?_eq_some_iff.1 hh).1]; exact hh, r⟩
theorem Own.set3 {w : World} {base b : Nat} {e : TypeId} {size : Nat} {v : Value} {n : Nat} {cs : List Value} (h : w.ownsRow base e size v n cs) (hb : b < base) (a0 a1 a2 : Value) : (((w.setCell ⟨b, 0, none⟩ a0).setCell ⟨b, 1, none⟩ a1).setCell ⟨b, 2, none⟩ a2).ownsRow base e size v n cs :=
 Own.same h fun k hk _ => by
  rw [Below.heap_setCell _ _ _ _ (by simp only; omega), Below.heap_setCell _ _ _ _ (by simp only; omega), Below.heap_setCell _ _ _ _ (by simp only; omega)]
end Go.Proofs.YthcdnjbhhaonhaaGreatDoor
