/- Library functions as contracts (words cut, joined, numbers told and read), and what they tell, in a form that the kernel reads. -/
import Derived.Test.YtdkdibeimeaakabGreatDoorQsMwMem
import Derived.Test.YtdkdibeimeaakabGreatDoorQsShelf
import Derived.Lib.ItoaLen
import Derived.Lib.ItoaMem
import Derived.Lib.SplitLaws
import Derived.Lib.PathFns

namespace Go.Proofs.YtdkdibeimeaakabGreatDoor
open Go.RowKit
open Go.Proofs.Tryz renaming prog → ZP
set_option linter.unusedSimpArgs false
def idxF : List UInt8 → List UInt8 → Option Nat
 | [], sub => if sub.isEmpty then some 0 else none
 | b :: l, sub => if sub.isPrefixOf (b :: l) then some 0 else (idxF l sub).map (· + 1)
def oI : Option Nat → Int
 | none => -1
 | some n => n
theorem idxF_eq : ∀ (s sub : List UInt8), Lib.index s sub = oI (idxF s sub)
 | [], sub => by
  unfold Lib.index idxF
  split <;> rfl
 | b :: l, sub => by
  unfold Lib.index idxF
  rw [idxF_eq l sub]
  split
  · rfl
  · cases idxF l sub with
    | none => rfl
    | some n =>
     have h : ¬ ((oI (some n) == -1) = true) := by simp only [oI,beq_iff_eq]; omega
     rw [if_neg h]
     simp [oI]
def cutF (s sep : List UInt8) : List UInt8 × List UInt8 × Bool := match idxF s sep with
 | some i => (s.take i, s.drop (i + sep.length), true)
 | none => (s, [], false)
theorem cutF_eq (s sep : List UInt8) : Lib.cut s sep = cutF s sep := by
 unfold Lib.cut cutF
 rw [idxF_eq]
 cases idxF s sep with
 | none => rw [if_neg (by simp [oI])]
 | some i => rw [if_pos (by simp [oI])]; rfl
def countF (sub : List UInt8) : Nat → List UInt8 → Nat
 | 0, _ => 0
 | n + 1, s => match idxF s sub with
  | none => 0
  | some i => 1 + countF sub n (s.drop (i + sub.length))
theorem countF_eq (sub : List UInt8) : ∀ (n : Nat) (s : List UInt8), Lib.countFrom sub n s = countF sub n s
 | 0, s => rfl
 | n + 1, s => by
  unfold Lib.countFrom countF
  rw [idxF_eq]
  cases idxF s sub with
  | none => rfl
  | some i =>
   rw [if_neg (by simp only [oI,beq_iff_eq]; omega), countF_eq sub n]
   rfl
def splitL (sep : List UInt8) : Nat → List UInt8 → List (List UInt8)
 | 0, s => [s]
 | n + 1, s => match idxF s sep with
  | none => [s]
  | some i => s.take i :: splitL sep n (s.drop (i + sep.length))
def bw (l : List UInt8) : ByteArray := ⟨⟨l⟩⟩
theorem splitL_eq (sep : ByteArray) : ∀ (n : Nat) (s : ByteArray), Lib.splitB sep 0 n s = (splitL sep.data.toList n s.data.toList).map bw
 | 0, s => rfl
 | n + 1, s => by
  unfold Lib.splitB splitL
  rw [show Lib.indexB s sep = Lib.index s.data.toList sep.data.toList from rfl, idxF_eq]
  cases idxF s.data.toList sep.data.toList with
  | none => rfl
  | some i =>
   rw [if_neg (by simp only [oI,beq_iff_eq]; omega), splitL_eq sep n, Lib.Pa.extract_from, Lib.Pa.extract_upto]
   rfl
def splitF (s sep : List UInt8) : List (List UInt8) := splitL sep (countF sep (s.length + 1) s) s
theorem splitF_eq (s sep : ByteArray) : Lib.splitB sep 0 (Lib.countB s sep) s = (splitF s.data.toList sep.data.toList).map bw := by
 rw [splitL_eq]
 unfold splitF
 rw [← countF_eq]
 rfl
def decF : Nat → Nat → List UInt8
 | 0, _ => []
 | n + 1, u => if u < 10 then [UInt8.ofNat (48 + u)] else decF n (u / 10) ++ [UInt8.ofNat (48 + u % 10)]
theorem decF_eq : ∀ (n u : Nat), u < 10 ^ n → 0 < n → Lib.decDigits u = decF n u
 | 0, _, _, h0 => absurd h0 (by decide)
 | n + 1, u, h, _ => by
  rw [Lib.decDigits, decF]
  by_cases hu : u < 10
  · rw [dif_pos hu, if_pos hu]
  · rw [dif_neg hu, if_neg hu]
    have hn : 0 < n := by
     cases n with
     | zero => exact absurd (by simpa using h) hu
     | succ n => omega
    rw [decF_eq n (u / 10) (by rw [Nat.pow_succ] at h; omega) hn]
def itoaF (n : Int) : List UInt8 := if n < 0 then 45 :: decF 20 n.natAbs else decF 20 n.toNat
def inI (n : Int) : Prop := -9223372036854775808 ≤ n ∧ n ≤ 9223372036854775807
theorem itoaF_eq {n : Int} (h : inI n) : Lib.itoa n = itoaF n := by
 obtain ⟨h1, h2⟩ := h
 unfold Lib.itoa itoaF
 split
 · rw [decF_eq 20 _ (by simp; omega) (by decide)]
 · rw [decF_eq 20 _ (by simp; omega) (by decide)]
structure EnvS (w : World) : Prop where
 pow : Lib.TabIs ZP w "internal/strconv.uint64pow10" .u64 Lib.pow10Tab
 most : ∃ m, w.cell? ⟨0, 0, none⟩ = some (.int .i64 m)
 syn : ∃ tp p, w.var? ZP "strconv.ErrSyntax" = some #[.iface tp p]
 rng : ∃ tp p, w.var? ZP "strconv.ErrRange" = some #[.iface tp p]
theorem var_ext {w w' : World} {n : String} {cs : Array Value} (h : w.var? ZP n = some cs) (he : Ext w w') : w'.var? ZP n = some cs := by
 unfold World.var? at h ⊢
 cases hg : (ZP).globalNamed n with
 | none => rw [hg] at h; cases h
 | some g =>
  rw [hg] at h
  simp only [Option.bind_some] at h ⊢
  by_cases hlt : g < w.heap.size
  · rw [he.block g hlt]; exact h
  · rw [Array.getElem?_eq_none (by omega)] at h; cases h
theorem EnvS.ext {w w' : World} (h : EnvS w) (he : Ext w w') : EnvS w' := by
 refine ⟨var_ext h.pow he, ?_, ?_, ?_⟩
 · obtain ⟨m, hm⟩ := h.most; exact ⟨m, he.cell hm⟩
 · obtain ⟨a, b, hm⟩ := h.syn; exact ⟨a, b, var_ext hm he⟩
 · obtain ⟨a, b, hm⟩ := h.rng; exact ⟨a, b, var_ext hm he⟩
theorem ext_grow (w : World) (k : Nat) (os : Array Obj) : Ext w (Sort.grow (w.drewN k) os) := by
 refine ⟨rfl, rfl, rfl, ?_, fun i hi => ?_⟩
 · simp [Sort.grow]
 · show (w.heap ++ os)[i]? = _
   rw [Array.getElem?_append_left hi]
theorem Itoa_a {n : Int} {w : World} (h : inI n) (hE : EnvS w) : Calls ZP 53 #[.int .i64 n] w fun e w' => e = .returned (.string (bw (itoaF n))) ∧ Ext w w' := by
 refine (Tryz.strconv_Itoa n h.1 h.2 w hE.pow).mono fun e w' ⟨he, k, os, hw⟩ => ?_
 rw [itoaF_eq h] at he
 exact ⟨he, hw ▸ ext_grow w k os⟩
theorem Split_a {s sep : ByteArray} {w : World} (hs : s.size ≤ 1000000000) (h1 : 1 ≤ sep.size) (hE : EnvS w) : Calls ZP 57 #[.string s, .string sep] w fun e w' =>
 e = .returned (.slice (some ⟨w.heap.size, 0, none⟩) (splitF s.data.toList sep.data.toList).length (splitF s.data.toList sep.data.toList).length) ∧ w' = w.alloc (.cells ((splitF s.data.toList sep.data.toList).map fun l => Value.string (bw l)).toArray 9) := by
 obtain ⟨m, hm⟩ := hE.most
 refine (Tryz.strings_Split s sep m w (by omega) hm h1).mono fun e w' ⟨he, hw⟩ => ?_
 have hl : Lib.countB s sep + 1 = (splitF s.data.toList sep.data.toList).length := by
  rw [← Lib.splitB_all sep h1 0 _ s rfl, splitF_eq, List.length_map]
 rw [hl] at he
 rw [splitF_eq, List.map_map] at hw
 exact ⟨he, hw⟩
theorem Cut_a {s sep : ByteArray} {w : World} (hs : s.size ≤ 1000000000) (hE : EnvS w) : Calls ZP 27 #[.string s, .string sep] w fun e w' =>
 e = .returned (.tuple #[.string (bw (cutF s.data.toList sep.data.toList).1), .string (bw (cutF s.data.toList sep.data.toList).2.1), .bool (cutF s.data.toList sep.data.toList).2.2]) ∧ Ext w w' := by
 obtain ⟨m, hm⟩ := hE.most
 refine (Tryz.strings_Cut s sep m w (by omega) hm).mono fun e w' ⟨he, n, hw⟩ => ?_
 rw [cutF_eq] at he
 exact ⟨he, hw ▸ ⟨rfl, rfl, rfl, Nat.le_refl _, fun _ _ => rfl⟩⟩
end Go.Proofs.YtdkdibeimeaakabGreatDoor
