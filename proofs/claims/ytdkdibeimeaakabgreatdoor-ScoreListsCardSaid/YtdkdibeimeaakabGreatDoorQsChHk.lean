/- What the closed run of awake is told of the library. -/
import Derived.Test.YtdkdibeimeaakabGreatDoorQsMwHook
import Derived.Test.YtdkdibeimeaakabGreatDoorQsChSh

namespace Go.Proofs.YtdkdibeimeaakabGreatDoor
open Go.RowKit
open Go.Proofs.Tryz renaming prog → ZP
noncomputable section
set_option linter.unusedVariables false
set_option linter.unusedSimpArgs false
def smallB (s : ByteArray) : Bool := decide (s.data.toList.length ≤ 1000)
def cutH : List Value → AW → CRes
 | [.string s, .string p], A => if smallB s then .ret (.tuple #[.string (bw (cutF s.data.toList p.data.toList).1), .string (bw (cutF s.data.toList p.data.toList).2.1), .bool (cutF s.data.toList p.data.toList).2.2]) A else .fail
 | _, _ => .fail
def splitH : List Value → AW → CRes
 | [.string s, .string p], A => if (smallB s && Nat.blt 0 p.data.toList.length && Nat.ble (splitF s.data.toList p.data.toList).length 2000) then
  (match newRow A none ((splitF s.data.toList p.data.toList).map fun l => Value.string (bw l)) 9 1 with
  | some (id, A') => .ret (.slice (some ⟨id, 0, none⟩) (splitF s.data.toList p.data.toList).length (splitF s.data.toList p.data.toList).length) A'
  | none => .fail) else .fail
 | _, _ => .fail
def itoaH : List Value → AW → CRes
 | [.int .i64 n], A => if decide (-9223372036854775808 ≤ n) && decide (n ≤ 9223372036854775807) then .ret (.string (bw (itoaF n))) A else .fail
 | _, _ => .fail
def joinH : List Value → AW → CRes
 | [v, .string p], A => (match elemsA A 1 v with
  | some (news, n) => (match strsA news with
   | some xs => if Nat.blt 0 n && Nat.ble xs.length 1000000000 && Nat.ble (Lib.join (xs.map (·.data.toList)) p.data.toList).length 1000000000 then .ret (.string (bw (Lib.join (xs.map (·.data.toList)) p.data.toList))) A else .fail
   | none => .fail)
  | none => .fail)
 | _, _ => .fail
section
variable {w0 : World} {η : Nat → Value}
theorem EnvS.inv {σ : Nat → Option Ent} {A : AW} {w : World} (hE : EnvS w0) (h : Inv w0 σ η A w) : EnvS w := hE.ext h.ext
theorem vrs2 {σ : Nat → Option Ent} {a b : Value} {l : List Value} (h : VRs σ η [a, b] l) : ∃ a' b', l = [a', b'] ∧ VR σ η a a' ∧ VR σ η b b' := by
 have h1 := h.1
 match l, h1 with
 | [a', b'], _ => exact ⟨a', b', rfl, h.2 0 _ _ rfl rfl, h.2 1 _ _ rfl rfl⟩
theorem vrs1 {σ : Nat → Option Ent} {a : Value} {l : List Value} (h : VRs σ η [a] l) : ∃ a', l = [a'] ∧ VR σ η a a' := by
 have h1 := h.1
 match l, h1 with
 | [a'], _ => exact ⟨a', rfl, h.2 0 _ _ rfl rfl⟩
theorem smallB_size {s : ByteArray} (h : smallB s = true) : s.size ≤ 1000000000 := by
 unfold smallB at h
 have h2 : s.data.toList.length ≤ 1000 := by simpa using h
 have : s.size = s.data.toList.length := by cases s; rfl
 omega
theorem cutH_ok (hE : EnvS w0) : OneOK ZP w0 η 27 cutH := by
 intro q0 A σ w as' h hv
 unfold cutH
 split
 · rename_i s p
   split
   · rename_i hs
     obtain ⟨a', b', rfl, ha, hb⟩ := vrs2 hv
     cases ha
     cases hb
     exact .plain h (VRs.tuple (a := [_, _, _]) (b := [_, _, _]) (.cons (.string _) (.cons (.string _) (.cons (.bool _) .nil)))) (Cut_a (smallB_size hs) (hE.inv h))
   · trivial
 · trivial
theorem itoaH_ok (hE : EnvS w0) : OneOK ZP w0 η 53 itoaH := by
 intro q0 A σ w as' h hv
 unfold itoaH
 split
 · rename_i n
   split
   · rename_i hs
     obtain ⟨a', rfl, ha⟩ := vrs1 hv
     cases ha
     exact .plain h (.string _) (Itoa_a (by simpa [inI] using hs) (hE.inv h))
   · trivial
 · trivial
theorem splitH_ok (hE : EnvS w0) : OneOK ZP w0 η 57 splitH := by
 intro q0 A σ w as' h hv
 unfold splitH
 split
 · rename_i s p
   split
   · rename_i hs
     simp only [Bool.and_eq_true] at hs
     obtain ⟨⟨hs1, hs2⟩, hs3⟩ := hs
     have hs3 := Nat.le_of_ble_eq_true hs3
     have hp : 1 ≤ p.size := by
      have : p.size = p.data.toList.length := by cases p; rfl
      have := Nat.le_of_ble_eq_true hs2
      omega
     obtain ⟨a', b', rfl, ha, hb⟩ := vrs2 hv
     cases ha
     cases hb
     split
     · rename_i id A' hn
       have hself : VRs σ η ((splitF s.data.toList p.data.toList).map fun l => Value.string (bw l)) ((splitF s.data.toList p.data.toList).map fun l => Value.string (bw l)) := ⟨rfl, fun i u v hu hv => by
        rw [hu] at hv
        cases hv
        rw [List.getElem?_map] at hu
        obtain ⟨x, _, rfl⟩ := Option.map_eq_some_iff.1 hu
        exact .string _⟩
       obtain ⟨x, hx1, hx2, hx3, hI, hS⟩ := newRow_sound h hself hn
       refine (Split_a (smallB_size hs1) hp (hE.inv h)).mono fun e w' ⟨he, hw⟩ => ⟨_, upS σ id x, he, ?_, hw ▸ hI, hw ▸ hS⟩
       rw [← hx1]
       refine .slc (upS_self id x) (.inl rfl) ?_ (Nat.le_refl _) (fun _ => rfl) (fun hc => ?_)
       · unfold maxLen; omega
       · unfold capU at hc; omega
     · trivial
   · trivial
 · trivial
def hoJ : HookT := onH 53 itoaH noH
theorem hoJ_ok (hE : EnvS w0) : HookOK ZP w0 η hoJ := onH_ok (itoaH_ok hE) noH_ok
def hoB : HookT := onH 27 cutH hoJ
theorem hoB_ok (hE : EnvS w0) : HookOK ZP w0 η hoB := onH_ok (cutH_ok hE) (hoJ_ok hE)
def ho02 : HookT := onH 57 splitH hoB
theorem ho02_ok (hE : EnvS w0) : HookOK ZP w0 η ho02 := onH_ok (splitH_ok hE) (hoB_ok hE)
end
end
end Go.Proofs.YtdkdibeimeaakabGreatDoor
