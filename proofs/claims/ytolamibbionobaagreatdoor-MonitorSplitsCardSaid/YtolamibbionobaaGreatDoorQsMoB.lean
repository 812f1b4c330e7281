/- Layer 34: full names taken apart, by the program and by the reference. -/
import Derived.Test.YtolamibbionobaaGreatDoorQsMoA
import Derived.Test.YtolamibbionobaaGreatDoorQsXtBase

namespace Go.Proofs.YtolamibbionobaaGreatDoor
open Go.RowKit
open Nat renaming reduceEqDiff → ZA, reduceAdd → ZB, reduceMul → ZC, reduceSub → ZD
open Int renaming reduceToNat → ZE, reduceEq → ZF, reduceLT → ZG, reduceLE → ZH, reduceNeg → ZI
open Go.Value renaming oneCell' → ZK, cells → ZJ
set_option linter.unusedSimpArgs false
set_option linter.unusedVariables false
theorem cls (c : Int) : (¬ c < 97 ∧ ¬ 122 < c) ∨ (¬ c < 97 ∧ 122 < c ∧ ¬ c < 65 ∧ 90 < c ∧ ¬ c < 48 ∧ 57 < c ∧ ¬ c = 45) ∨ (c < 97 ∧ ¬ c < 65 ∧ ¬ 90 < c) ∨ (c < 97 ∧ ¬ c < 65 ∧ 90 < c ∧ ¬ c < 48 ∧ 57 < c ∧ ¬ c = 45) ∨ (c < 97 ∧ c < 65 ∧ ¬ c < 48 ∧ ¬ 57 < c) ∨
    (c < 97 ∧ c < 65 ∧ ¬ c < 48 ∧ 57 < c ∧ ¬ c = 45) ∨ (c < 97 ∧ c < 65 ∧ c < 48 ∧ c = 45) ∨ (c < 97 ∧ c < 65 ∧ c < 48 ∧ ¬ c = 45) := by omega
theorem cls' (c : Int) : (97 ≤ c ∧ c ≤ 122) ∨ (97 ≤ c ∧ ¬ c ≤ 122 ∧ 65 ≤ c ∧ ¬ c ≤ 90 ∧ 48 ≤ c ∧ ¬ c ≤ 57 ∧ ¬ c = 45) ∨ (¬ 97 ≤ c ∧ 65 ≤ c ∧ c ≤ 90) ∨ (¬ 97 ≤ c ∧ 65 ≤ c ∧ ¬ c ≤ 90 ∧ 48 ≤ c ∧ ¬ c ≤ 57 ∧ ¬ c = 45) ∨ (¬ 97 ≤ c ∧ ¬ 65 ≤ c ∧ 48 ≤ c ∧ c ≤ 57) ∨
    (¬ 97 ≤ c ∧ ¬ 65 ≤ c ∧ 48 ≤ c ∧ ¬ c ≤ 57 ∧ ¬ c = 45) ∨ (¬ 97 ≤ c ∧ ¬ 65 ≤ c ∧ ¬ 48 ≤ c ∧ c = 45) ∨ (¬ 97 ≤ c ∧ ¬ 65 ≤ c ∧ ¬ 48 ≤ c ∧ ¬ c = 45) := by omega
theorem nameC_iff (c : UInt8) : nameC c = true ↔ (97 ≤ (c.toNat : Int) ∧ (c.toNat : Int) ≤ 122) ∨ (65 ≤ (c.toNat : Int) ∧ (c.toNat : Int) ≤ 90) ∨ (48 ≤ (c.toNat : Int) ∧ (c.toNat : Int) ≤ 57) ∨ (c.toNat : Int) = 45 := by
  unfold nameC
  simp only [Bool.or_eq_true,Bool.and_eq_true,decide_eq_true_eq]
  omega
theorem all_take {s : By} {k : Nat} (h : k < s.length) (hp : (s.take k).all nameC = true) (hc : nameC s[k] = true) : (s.take (k + 1)).all nameC = true := by
  rw [List.take_succ_eq_append_getElem h, List.all_append, hp, List.all_cons, hc]; rfl
theorem nameB_no {s : By} {k : Nat} (h : k < s.length) (hc : ¬ nameC s[k] = true) : nameB s = false := by
  unfold nameB
  have : s.all nameC = false := by
    rw [Bool.eq_false_iff]
    intro ha
    exact hc (List.all_eq_true.1 ha _ (List.getElem_mem h))
  rw [this]; rfl
set_option maxHeartbeats 1000000 in
theorem mname_c (s : By) (w : World) (hs : s.length ≤ 1000000) : Rets Go.Proofs.Tryz.prog 27 #[.string (bw s)] w fun r w' => r = .bool (nameB s) ∧ Ext w w' := by
  obtain ⟨hn, b, cap, W, hrun, hx, hsl⟩ := bytes_new w (bw s) (by rw [bw_size]; omega)
  rw [bw_size] at hrun hsl
  have hsl' : Sl W (.slice (some ⟨b, 0, none⟩) s.length cap) (byts s) := hsl
  refine en27 ?_
  simp -dsimp -implicitDefEqProofs only [m27,sF27,ZA,↓reduceIte,ZB,ZC,ZJ,ZK,ZE,ZF,ZG,ZH,ZI,reduceCtorEq,ZD,mwV,↓mwD,mwU]
  refine convB_run hn (by simp -dsimp -implicitDefEqProofs only [m27,sF27,ZA,↓reduceIte,ZB,ZC,ZJ,ZK,ZE,ZF,ZG,ZH,ZI,reduceCtorEq,ZD,mwV,↓mwD,mwU]) hrun ?_
  simp -dsimp -implicitDefEqProofs only [m27,sF27,ZA,↓reduceIte,ZB,ZC,ZJ,ZK,ZE,ZF,ZG,ZH,ZI,reduceCtorEq,ZD,mwV,↓mwD,mwU]
  refine mwpB_loop (fun e ds w' => ∃ k : Nat, k ≤ s.length ∧ e 8 = .int .i64 k ∧ e 7 = .int .i64 s.length ∧ e 6 = .slice (some ⟨b, 0, none⟩) s.length cap ∧ e 0 = .string (bw s) ∧ ds = [] ∧ w' = W ∧ (s.take k).all nameC = true)
    (fun e _ => s.length - (intOf (e 8)).toNat) ?_ ?_
  · simp -dsimp -implicitDefEqProofs only [m27,sF27,ZA,↓reduceIte,ZB,ZC,ZJ,ZK,ZE,ZF,ZG,ZH,ZI,reduceCtorEq,ZD,mwV,↓mwD,mwU]
    exact ⟨0, by omega, rfl, rfl⟩
  · rintro e ds w' ⟨k, hk, h8, h7, h6, h0, rfl, rfl, hp⟩
    by_cases hlt : (k : Int) < s.length
    · have hlt' : k < s.length := by omega
      obtain ⟨b', o', cap', hv, _, _, hcell⟩ := Sl.at hsl' (by intro h0; rw [← byts_length, h0] at hlt'; simp at hlt')
      rw [byts_length] at hv
      cases hv
      have hck := hcell k _ (byts_get hlt')
      have hb1 : (0 : Int) ≤ k ∧ (k : Int) < s.length := by omega
      have hw := w64_succ hlt' (show s.length ≤ maxLen by unfold maxLen; omega)
      rw [Nat.zero_add] at hck
      have yes : nameC s[k] = true → (s.take (k + 1)).all nameC = true := all_take hlt' hp
      have no : ¬ nameC s[k] = true → nameB s = false := nameB_no hlt'
      rw [nameC_iff] at yes no
      rcases cls (s[k].toNat : Int) with ⟨c1, c2⟩ | ⟨c1, c2, c3, c4, c5, c6, c7⟩ | ⟨c1, c2, c3⟩ | ⟨c1, c2, c3, c4, c5, c6⟩ | ⟨c1, c2, c3, c4⟩ | ⟨c1, c2, c3, c4, c5⟩ | ⟨c1, c2, c3, c4⟩ | ⟨c1, c2, c3, c4⟩
      · simp -dsimp -implicitDefEqProofs only [h8,h7,h6,h0,hlt,hb1,and_self,hck,hw,c1,c2,m27,sF27,ZA,↓reduceIte,ZB,ZC,ZJ,ZK,ZE,ZF,ZG,ZH,ZI,reduceCtorEq,ZD,mwV,↓mwD,mwU]
        exact ⟨⟨k + 1, by omega, rfl, yes (by omega)⟩, by simp only [intOf,h8]; omega⟩
      · simp -dsimp -implicitDefEqProofs only [h8,h7,h6,h0,hlt,hb1,and_self,hck,hw,c1,c2,c3,c4,c5,c6,c7,m27,sF27,ZA,↓reduceIte,ZB,ZC,ZJ,ZK,ZE,ZF,ZG,ZH,ZI,reduceCtorEq,ZD,mwV,↓mwD,mwU]
        exact ⟨by rw [no (by omega)], hx⟩
      · simp -dsimp -implicitDefEqProofs only [h8,h7,h6,h0,hlt,hb1,and_self,hck,hw,c1,c2,c3,m27,sF27,ZA,↓reduceIte,ZB,ZC,ZJ,ZK,ZE,ZF,ZG,ZH,ZI,reduceCtorEq,ZD,mwV,↓mwD,mwU]
        exact ⟨⟨k + 1, by omega, rfl, yes (by omega)⟩, by simp only [intOf,h8]; omega⟩
      · simp -dsimp -implicitDefEqProofs only [h8,h7,h6,h0,hlt,hb1,and_self,hck,hw,c1,c2,c3,c4,c5,c6,m27,sF27,ZA,↓reduceIte,ZB,ZC,ZJ,ZK,ZE,ZF,ZG,ZH,ZI,reduceCtorEq,ZD,mwV,↓mwD,mwU]
        exact ⟨by rw [no (by omega)], hx⟩
      · simp -dsimp -implicitDefEqProofs only [h8,h7,h6,h0,hlt,hb1,and_self,hck,hw,c1,c2,c3,c4,m27,sF27,ZA,↓reduceIte,ZB,ZC,ZJ,ZK,ZE,ZF,ZG,ZH,ZI,reduceCtorEq,ZD,mwV,↓mwD,mwU]
        exact ⟨⟨k + 1, by omega, rfl, yes (by omega)⟩, by simp only [intOf,h8]; omega⟩
      · simp -dsimp -implicitDefEqProofs only [h8,h7,h6,h0,hlt,hb1,and_self,hck,hw,c1,c2,c3,c4,c5,m27,sF27,ZA,↓reduceIte,ZB,ZC,ZJ,ZK,ZE,ZF,ZG,ZH,ZI,reduceCtorEq,ZD,mwV,↓mwD,mwU]
        exact ⟨by rw [no (by omega)], hx⟩
      · simp -dsimp -implicitDefEqProofs only [h8,h7,h6,h0,hlt,hb1,and_self,hck,hw,c1,c2,c3,c4,m27,sF27,ZA,↓reduceIte,ZB,ZC,ZJ,ZK,ZE,ZF,ZG,ZH,ZI,reduceCtorEq,ZD,mwV,↓mwD,mwU]
        exact ⟨⟨k + 1, by omega, rfl, yes (by omega)⟩, by simp only [intOf,h8]; omega⟩
      · simp -dsimp -implicitDefEqProofs only [h8,h7,h6,h0,hlt,hb1,and_self,hck,hw,c1,c2,c3,c4,m27,sF27,ZA,↓reduceIte,ZB,ZC,ZJ,ZK,ZE,ZF,ZG,ZH,ZI,reduceCtorEq,ZD,mwV,↓mwD,mwU]
        exact ⟨by rw [no (by omega)], hx⟩
    · have hkl : k = s.length := by omega
      rw [hkl, List.take_length] at hp
      by_cases l1 : (1 : Int) ≤ s.length
      · by_cases l2 : (s.length : Int) ≤ 20
        · simp -dsimp -implicitDefEqProofs only [h8,h7,h6,h0,hlt,bw_size,l1,l2,m27,sF27,ZA,↓reduceIte,ZB,ZC,ZJ,ZK,ZE,ZF,ZG,ZH,ZI,reduceCtorEq,ZD,mwV,↓mwD,mwU]
          exact ⟨by unfold nameB; rw [hp]; simp; omega, hx⟩
        · simp -dsimp -implicitDefEqProofs only [h8,h7,h6,h0,hlt,bw_size,l1,l2,m27,sF27,ZA,↓reduceIte,ZB,ZC,ZJ,ZK,ZE,ZF,ZG,ZH,ZI,reduceCtorEq,ZD,mwV,↓mwD,mwU]
          exact ⟨by unfold nameB; rw [hp]; simp; omega, hx⟩
      · simp -dsimp -implicitDefEqProofs only [h8,h7,h6,h0,hlt,bw_size,l1,m27,sF27,ZA,↓reduceIte,ZB,ZC,ZJ,ZK,ZE,ZF,ZG,ZH,ZI,reduceCtorEq,ZD,mwV,↓mwD,mwU]
        exact ⟨by unfold nameB; rw [hp]; simp; omega, hx⟩
set_option maxHeartbeats 1000000 in
theorem rName_c (s : By) (w : World) (hs : s.length ≤ 1000000) : Rets Go.Proofs.Tryz.prog 30 #[.string (bw s)] w fun r w' => r = .bool (nameB s) ∧ w' = w := by
  refine en30 ?_
  simp -dsimp -implicitDefEqProofs only [m30,sF30,ZA,↓reduceIte,ZB,ZC,ZJ,ZK,ZE,ZF,ZG,ZH,ZI,reduceCtorEq,ZD,mwV,↓mwD,mwU]
  refine mwpB_loop (fun e ds w' => ∃ k : Nat, k ≤ s.length ∧ e 3 = .int .i64 k ∧ e 0 = .string (bw s) ∧ ds = [] ∧ w' = w ∧ (s.take k).all nameC = true)
    (fun e _ => s.length - (intOf (e 3)).toNat) ?_ ?_
  · simp -dsimp -implicitDefEqProofs only [m30,sF30,ZA,↓reduceIte,ZB,ZC,ZJ,ZK,ZE,ZF,ZG,ZH,ZI,reduceCtorEq,ZD,mwV,↓mwD,mwU]
    exact ⟨0, by omega, rfl, rfl⟩
  · rintro e ds w' ⟨k, hk, h8, h0, rfl, rfl, hp⟩
    by_cases hlt : (k : Int) < s.length
    · have hlt' : k < s.length := by omega
      have hck := bw_get hlt'
      have hb1 : (0 : Int) ≤ k := by omega
      have hw := w64_succ hlt' (show s.length ≤ maxLen by unfold maxLen; omega)
      have yes : nameC s[k] = true → (s.take (k + 1)).all nameC = true := all_take hlt' hp
      have no : ¬ nameC s[k] = true → nameB s = false := nameB_no hlt'
      rw [nameC_iff] at yes no
      rcases cls' (s[k].toNat : Int) with ⟨c1, c2⟩ | ⟨c1, c2, c3, c4, c5, c6, c7⟩ | ⟨c1, c2, c3⟩ | ⟨c1, c2, c3, c4, c5, c6⟩ | ⟨c1, c2, c3, c4⟩ | ⟨c1, c2, c3, c4, c5⟩ | ⟨c1, c2, c3, c4⟩ | ⟨c1, c2, c3, c4⟩
      · simp -dsimp -implicitDefEqProofs only [h8,h0,bw_size,hlt,hb1,and_self,hck,Int.toNat_natCast,hw,c1,c2,m30,sF30,ZA,↓reduceIte,ZB,ZC,ZJ,ZK,ZE,ZF,ZG,ZH,ZI,reduceCtorEq,ZD,mwV,↓mwD,mwU]
        exact ⟨⟨k + 1, by omega, rfl, yes (by omega)⟩, by simp only [intOf,h8]; omega⟩
      · simp -dsimp -implicitDefEqProofs only [h8,h0,bw_size,hlt,hb1,and_self,hck,Int.toNat_natCast,hw,c1,c2,c3,c4,c5,c6,c7,m30,sF30,ZA,↓reduceIte,ZB,ZC,ZJ,ZK,ZE,ZF,ZG,ZH,ZI,reduceCtorEq,ZD,mwV,↓mwD,mwU]
        rw [no (by omega)]
      · simp -dsimp -implicitDefEqProofs only [h8,h0,bw_size,hlt,hb1,and_self,hck,Int.toNat_natCast,hw,c1,c2,c3,m30,sF30,ZA,↓reduceIte,ZB,ZC,ZJ,ZK,ZE,ZF,ZG,ZH,ZI,reduceCtorEq,ZD,mwV,↓mwD,mwU]
        exact ⟨⟨k + 1, by omega, rfl, yes (by omega)⟩, by simp only [intOf,h8]; omega⟩
      · simp -dsimp -implicitDefEqProofs only [h8,h0,bw_size,hlt,hb1,and_self,hck,Int.toNat_natCast,hw,c1,c2,c3,c4,c5,c6,m30,sF30,ZA,↓reduceIte,ZB,ZC,ZJ,ZK,ZE,ZF,ZG,ZH,ZI,reduceCtorEq,ZD,mwV,↓mwD,mwU]
        rw [no (by omega)]
      · simp -dsimp -implicitDefEqProofs only [h8,h0,bw_size,hlt,hb1,and_self,hck,Int.toNat_natCast,hw,c1,c2,c3,c4,m30,sF30,ZA,↓reduceIte,ZB,ZC,ZJ,ZK,ZE,ZF,ZG,ZH,ZI,reduceCtorEq,ZD,mwV,↓mwD,mwU]
        exact ⟨⟨k + 1, by omega, rfl, yes (by omega)⟩, by simp only [intOf,h8]; omega⟩
      · simp -dsimp -implicitDefEqProofs only [h8,h0,bw_size,hlt,hb1,and_self,hck,Int.toNat_natCast,hw,c1,c2,c3,c4,c5,m30,sF30,ZA,↓reduceIte,ZB,ZC,ZJ,ZK,ZE,ZF,ZG,ZH,ZI,reduceCtorEq,ZD,mwV,↓mwD,mwU]
        rw [no (by omega)]
      · simp -dsimp -implicitDefEqProofs only [h8,h0,bw_size,hlt,hb1,and_self,hck,Int.toNat_natCast,hw,c1,c2,c3,c4,m30,sF30,ZA,↓reduceIte,ZB,ZC,ZJ,ZK,ZE,ZF,ZG,ZH,ZI,reduceCtorEq,ZD,mwV,↓mwD,mwU]
        exact ⟨⟨k + 1, by omega, rfl, yes (by omega)⟩, by simp only [intOf,h8]; omega⟩
      · simp -dsimp -implicitDefEqProofs only [h8,h0,bw_size,hlt,hb1,and_self,hck,Int.toNat_natCast,hw,c1,c2,c3,c4,m30,sF30,ZA,↓reduceIte,ZB,ZC,ZJ,ZK,ZE,ZF,ZG,ZH,ZI,reduceCtorEq,ZD,mwV,↓mwD,mwU]
        rw [no (by omega)]
    · have hkl : k = s.length := by omega
      rw [hkl, List.take_length] at hp
      by_cases l1 : (1 : Int) ≤ s.length
      · by_cases l2 : (s.length : Int) ≤ 20
        · simp -dsimp -implicitDefEqProofs only [h8,h0,hlt,bw_size,l1,l2,m30,sF30,ZA,↓reduceIte,ZB,ZC,ZJ,ZK,ZE,ZF,ZG,ZH,ZI,reduceCtorEq,ZD,mwV,↓mwD,mwU]
          unfold nameB; rw [hp]; simp; omega
        · simp -dsimp -implicitDefEqProofs only [h8,h0,hlt,bw_size,l1,l2,m30,sF30,ZA,↓reduceIte,ZB,ZC,ZJ,ZK,ZE,ZF,ZG,ZH,ZI,reduceCtorEq,ZD,mwV,↓mwD,mwU]
          unfold nameB; rw [hp]; simp; omega
      · simp -dsimp -implicitDefEqProofs only [h8,h0,hlt,bw_size,l1,m30,sF30,ZA,↓reduceIte,ZB,ZC,ZJ,ZK,ZE,ZF,ZG,ZH,ZI,reduceCtorEq,ZD,mwV,↓mwD,mwU]
        unfold nameB; rw [hp]; simp; omega
end Go.Proofs.YtolamibbionobaaGreatDoor
