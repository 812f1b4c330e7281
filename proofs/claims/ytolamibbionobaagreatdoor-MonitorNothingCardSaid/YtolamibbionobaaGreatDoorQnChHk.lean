/- What the closed run of awake is told of the library. -/
import Derived.Test.YtolamibbionobaaGreatDoorQnMwHook
import Derived.Test.YtolamibbionobaaGreatDoorQnChSh

namespace Go.Proofs.YtolamibbionobaaGreatDoor
open Go.RowKit
noncomputable section
set_option linter.unusedVariables false
set_option linter.unusedSimpArgs false
def smallB (s : ByteArray) : Bool := decide (s.data.toList.length ≤ 1000)
def cutH : List Value → AW → CRes
 | [.string s, .string p], A => if smallB s then .ret (.tuple #[.string (bw (cutF s.data.toList p.data.toList).1), .string (bw (cutF s.data.toList p.data.toList).2.1), .bool (cutF s.data.toList p.data.toList).2.2]) A else .fail
 | _, _ => .fail
def splitH : List Value → AW → CRes
 | [.string s, .string p], A => if (smallB s && Nat.blt 0 p.data.toList.length && Nat.ble (splitF s.data.toList p.data.toList).length 2000) then
  (match newRow A none ((splitF s.data.toList p.data.toList).map fun l => Value.string (bw l)) 9 1 with
  | some (id, A') => .ret (.slice (some ⟨id, 0, none⟩) (splitF s.data.toList p.data.toList).length (splitF s.data.toList p.data.toList).length) A'
  | none => .fail) else .fail
 | _, _ => .fail
def itoaH : List Value → AW → CRes
 | [.int .i64 n], A => if decide (-9223372036854775808 ≤ n) && decide (n ≤ 9223372036854775807) then .ret (.string (bw (itoaF n))) A else .fail
 | _, _ => .fail
def joinH : List Value → AW → CRes
 | [v, .string p], A => (match elemsA A 1 v with
  | some (news, n) => (match strsA news with
   | some xs => if Nat.blt 0 n && Nat.ble xs.length 1000000000 && Nat.ble (Lib.join (xs.map (·.data.toList)) p.data.toList).length 1000000000 then .ret (.string (bw (Lib.join (xs.map (·.data.toList)) p.data.toList))) A else .fail
   | none => .fail)
  | none => .fail)
 | _, _ => .fail
section
variable {w0 : World} {η : Nat → Value}
theorem EnvS.inv {σ : Nat → Option Ent} {A : AW} {w : World} (hE : EnvS w0) (h : Inv w0 σ η A w) : EnvS w := hE.ext h.ext
theorem vrs2 {σ : Nat → Option Ent} {a b : Value} {l : List Value} (h : VRs σ η [a, b] l) : ∃ a' b', l = [a', b'] ∧ VR σ η a a' ∧ VR σ η b b' := by
 have h1 := h.1
 match l, h1 with
 | [a', b'], _ => exact ⟨a', b', rfl, h.2 0 _ _ rfl rfl, h.2 1 _ _ rfl rfl⟩
theorem vrs1 {σ : Nat → Option Ent} {a : Value} {l : List Value} (h : VRs σ η [a] l) : ∃ a', l = [a'] ∧ VR σ η a a' := by
 have h1 := h.1
 match l, h1 with
 | [a'], _ => exact ⟨a', rfl, h.2 0 _ _ rfl rfl⟩
theorem smallB_size {s : ByteArray} (h : smallB s = true) : s.size ≤ 1000000000 := by
 unfold smallB at h
 have h2 : s.data.toList.length ≤ 1000 := by simpa using h
 have : s.size = s.data.toList.length := by cases s; rfl
 omega
theorem cutH_ok (hE : EnvS w0) : OneOK Go.Proofs.Tryz.prog w0 η 25 cutH := by
 intro q0 A σ w as' h hv
 unfold cutH
 split
 · rename_i s p
   split
   · rename_i hs
     obtain ⟨a', b', rfl, ha, hb⟩ := vrs2 hv
     cases ha
     cases hb
     exact .plain h (VRs.tuple (a := [_, _, _]) (b := [_, _, _]) (.cons (.string _) (.cons (.string _) (.cons (.bool _) .nil)))) (Cut_a (smallB_size hs) (hE.inv h))
   · trivial
 · trivial
theorem itoaH_ok (hE : EnvS w0) : OneOK Go.Proofs.Tryz.prog w0 η 28 itoaH := by
 intro q0 A σ w as' h hv
 unfold itoaH
 split
 · rename_i n
   split
   · rename_i hs
     obtain ⟨a', rfl, ha⟩ := vrs1 hv
     cases ha
     exact .plain h (.string _) (Itoa_a (by simpa [inI] using hs) (hE.inv h))
   · trivial
 · trivial
theorem joinH_ok : OneOK Go.Proofs.Tryz.prog w0 η 80 joinH := by
 intro q0 A σ w as' h hv
 unfold joinH
 split
 · rename_i v p
   obtain ⟨a', b', rfl, ha, hb⟩ := vrs2 hv
   cases hb
   split
   · rename_i news n he
     split
     · rename_i xs hxs
       split
       · rename_i hs
         simp only [Bool.and_eq_true] at hs
         obtain ⟨⟨hs1, hs2⟩, hs3⟩ := hs
         have hs1 := Nat.le_of_ble_eq_true hs1
         have hs2 := Nat.le_of_ble_eq_true hs2
         have hs3 := Nat.le_of_ble_eq_true hs3
         obtain ⟨av, nv, cv, rfl⟩ : ∃ x y z, v = .slice x y z := by
          unfold elemsA at he
          split at he <;> first | exact ⟨_, _, _, rfl⟩ | cases he
         obtain ⟨a, c, rfl, hl, hr, _⟩ := elemsA_sound h ha he
         obtain ⟨a0, news', rfl, hv', hcell⟩ := hr (by omega)
         have hn' := strsA_sound hxs hv'
         have hlen : xs.length = n := by
          have h1 := hv'.1
          rw [hn', List.length_map] at h1
          omega
         subst hlen
         have hcap : xs.length ≤ c := by
          cases ha with
          | slc hx ho hm hn h1 h2 => exact hn
         obtain ⟨b, o, g⟩ := a0
         have hg : g = none := by cases ha; rfl
         subst hg
         refine .plain h (.string _) (Join_a (by intro hh; subst hh; simp at hs1) hcap (fun k u hk => ?_) hs3 hs2)
         have := hcell k u (by rw [hn']; exact hk)
         rwa [add_ptr] at this
       · trivial
     · trivial
   · trivial
 · trivial
def hoJ : HookT := onH 80 joinH (onH 28 itoaH noH)
theorem hoJ_ok (hE : EnvS w0) : HookOK Go.Proofs.Tryz.prog w0 η hoJ := onH_ok joinH_ok (onH_ok (itoaH_ok hE) noH_ok)
def hoB : HookT := onH 25 cutH hoJ
theorem hoB_ok (hE : EnvS w0) : HookOK Go.Proofs.Tryz.prog w0 η hoB := onH_ok (cutH_ok hE) (hoJ_ok hE)
end
end
end Go.Proofs.YtolamibbionobaaGreatDoor
