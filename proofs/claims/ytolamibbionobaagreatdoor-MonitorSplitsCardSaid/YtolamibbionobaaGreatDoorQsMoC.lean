/- Layer 34: full names taken apart, second part: cutting and numbers, by the reference. -/
import Derived.Test.YtolamibbionobaaGreatDoorQsMoB

namespace Go.Proofs.YtolamibbionobaaGreatDoor
open Go.RowKit
open Nat renaming reduceEqDiff → ZA, reduceAdd → ZB, reduceMul → ZC, reduceSub → ZD
open Int renaming reduceToNat → ZE, reduceEq → ZF, reduceLT → ZG, reduceLE → ZH, reduceNeg → ZI
open Go.Value renaming oneCell' → ZK, cells → ZJ
set_option linter.unusedSimpArgs false
set_option linter.unusedVariables false
theorem rsplit_c (s : By) (c : UInt8) (n : Int) (hc : n = c.toNat) (hs : s.length ≤ 100000) (w : World) : Rets Go.Proofs.Tryz.prog 29 #[.string (bw s), .int .u8 n] w fun r w' => Ext w w' ∧ w'.ownsRow w.heap.size 9 1 r (splitC c s).length (strs (splitC c s)) := by
  refine en29 ?_
  simp -dsimp -implicitDefEqProofs only [m29,sF29,ZA,↓reduceIte,ZB,ZC,ZJ,ZK,ZE,ZF,ZG,ZH,ZI,reduceCtorEq,ZD,mwV,↓mwD,mwU]
  refine mwpB_loop (fun e ds w' => ∃ (k m : Nat) (xs : List By) (v : Value), k ≤ s.length + 1 ∧ xs.length ≤ k ∧ e 7 = .int .i64 k ∧ e 6 = .int .i64 m ∧ e 5 = v ∧ e 0 = .string (bw s) ∧ e 1 = .int .u8 n ∧ ds = [] ∧ Ext w w' ∧ w'.ownsRow w.heap.size 9 1 v xs.length (strs xs) ∧
      (k ≤ s.length → m ≤ k ∧ splitC c s = xs ++ splitC c (s.drop m) ∧ c ∉ (s.drop m).take (k - m)) ∧ (k = s.length + 1 → splitC c s = xs))
    (fun e _ => s.length + 1 - (intOf (e 7)).toNat) ?_ ?_
  · simp -dsimp -implicitDefEqProofs only [m29,sF29,ZA,↓reduceIte,ZB,ZC,ZJ,ZK,ZE,ZF,ZG,ZH,ZI,reduceCtorEq,ZD,mwV,↓mwD,mwU]
    exact ⟨0, 0, [], _, by omega, by simp, rfl, rfl, rfl, Ext.refl _, World.ownsRow_nil _ _ _ _, fun _ => ⟨by omega, rfl, by simp⟩, fun h => by omega⟩
  · rintro e ds w' ⟨k, m, xs, v, hk, hxl, h7, h6, h5, h0, h1, rfl, hx, hown, hA, hB⟩
    by_cases hle : (k : Int) ≤ s.length
    · obtain ⟨hm, hsp, hno⟩ := hA (by omega)
      have hw : IntKind.i64.wrap ((k : Int) + 1) = ((k + 1 : Nat) : Int) := w64_succ (n := s.length + 1) (by omega) (by unfold maxLen; omega)
      obtain ⟨v', w5, happ, hown5, hext5⟩ := append_st hown ((s.drop m).take (k - m)) (by omega) hx.size
      have hb2 : (0 : Int) ≤ m ∧ (m : Int) ≤ k ∧ (k : Int) ≤ s.length := by omega
      by_cases hend : (k : Int) = s.length
      · have hke : k = s.length := by omega
        subst hke
        have htl : (s.drop m).take (s.length - m) = s.drop m := List.take_of_length_le (by rw [List.length_drop]; omega)
        rw [htl] at happ hown5 hno
        have hb3 : (0 : Int) ≤ m ∧ (m : Int) ≤ s.length ∧ (s.length : Int) ≤ s.length := by omega
        simp -dsimp -implicitDefEqProofs only [h7,h6,h5,h0,h1,bw_size,hle,hb3,and_self,htl,bs_str,Int.toNat_natCast,bw_ext,m29,sF29,ZA,↓reduceIte,ZB,ZC,ZJ,ZK,ZE,ZF,ZG,ZH,ZI,reduceCtorEq,ZD,mwV,↓mwD,mwU]
        refine appB.mk happ ?_
        simp -dsimp -implicitDefEqProofs only [h7,h6,h5,h0,h1,hw,m29,sF29,ZA,↓reduceIte,ZB,ZC,ZJ,ZK,ZE,ZF,ZG,ZH,ZI,reduceCtorEq,ZD,mwV,↓mwD,mwU]
        refine ⟨⟨s.length + 1, s.length + 1, xs ++ [s.drop m], _, by omega, by simp; omega, rfl, rfl, rfl, hext5 hx (Nat.le_refl _), hown5, fun h => by omega, fun _ => ?_⟩, by simp only [intOf]; omega⟩
        rw [hsp, splitC_no hno]
      · have hlt' : k < s.length := by omega
        have hg := bw_get hlt'
        have hb1 : (0 : Int) ≤ k := by omega
        have hdk : s.drop m = (s.drop m).take (k - m) ++ s[k] :: s.drop (k + 1) := by
          conv => lhs; rw [← List.take_append_drop (k - m) (s.drop m)]
          rw [List.drop_drop, show m + (k - m) = k by omega, ← List.drop_eq_getElem_cons hlt']
        by_cases he : (s[k].toNat : Int) = n
        · have hce : s[k] = c := UInt8.toNat_inj.1 (by omega)
          have de : decide ((s[k].toNat : Int) = n) = true := by simp [he]
          simp -dsimp -implicitDefEqProofs only [h7,h6,h5,h0,h1,bw_size,hle,hend,hb1,hg,Int.toNat_natCast,de,hb2,and_self,bw_ext,bs_str,m29,sF29,ZA,↓reduceIte,ZB,ZC,ZJ,ZK,ZE,ZF,ZG,ZH,ZI,reduceCtorEq,ZD,mwV,↓mwD,mwU]
          refine appB.mk happ ?_
          simp -dsimp -implicitDefEqProofs only [h7,h6,h5,h0,h1,hw,m29,sF29,ZA,↓reduceIte,ZB,ZC,ZJ,ZK,ZE,ZF,ZG,ZH,ZI,reduceCtorEq,ZD,mwV,↓mwD,mwU]
          refine ⟨⟨k + 1, k + 1, xs ++ [(s.drop m).take (k - m)], _, by omega, by simp; omega, rfl, rfl, rfl, hext5 hx (Nat.le_refl _), hown5, fun _ => ⟨by omega, ?_, by simp⟩, fun h => by omega⟩, by simp only [intOf]; omega⟩
          have hq : splitC c (s.drop m) = (s.drop m).take (k - m) :: splitC c (s.drop (k + 1)) := by
            conv => lhs; rw [hdk, hce, splitC_app _ hno]
          rw [hsp, hq, List.append_assoc]; rfl
        · have hce : s[k] ≠ c := fun h => he (by rw [h]; exact hc.symm)
          have de : decide ((s[k].toNat : Int) = n) = false := by simp [he]
          simp -dsimp -implicitDefEqProofs only [h7,h6,h5,h0,h1,bw_size,hle,hend,hb1,hg,Int.toNat_natCast,de,hw,m29,sF29,ZA,↓reduceIte,ZB,ZC,ZJ,ZK,ZE,ZF,ZG,ZH,ZI,reduceCtorEq,ZD,mwV,↓mwD,mwU]
          refine ⟨⟨k + 1, m, xs, v, by omega, by omega, rfl, rfl, rfl, hx, hown, fun _ => ⟨by omega, hsp, ?_⟩, fun h => by omega⟩, by simp only [intOf]; omega⟩
          rw [show k + 1 - m = (k - m) + 1 by omega, List.take_succ_eq_append_getElem (by rw [List.length_drop]; omega)]
          intro hm'
          rcases List.mem_append.1 hm' with hm' | hm'
          · exact hno hm'
          · rw [List.mem_singleton, List.getElem_drop] at hm'
            have : s[m + (k - m)] = s[k] := by simp only [show m + (k - m) = k by omega]
            exact hce (by rw [← this]; exact hm'.symm)
    · have hkl : k = s.length + 1 := by omega
      simp -dsimp -implicitDefEqProofs only [h7,h6,h5,h0,h1,bw_size,hle,m29,sF29,ZA,↓reduceIte,ZB,ZC,ZJ,ZK,ZE,ZF,ZG,ZH,ZI,reduceCtorEq,ZD,mwV,↓mwD,mwU]
      refine ⟨hx, ?_⟩
      rw [hB hkl]
      exact hown
theorem valD_drop {s : By} {k : Nat} (h : k < s.length) (acc : Int) : valD acc (s.drop k) = if (s[k].toNat : Int) < 48 ∨ 57 < (s[k].toNat : Int) then none else valD (acc * 10 + ((s[k].toNat : Int) - 48)) (s.drop (k + 1)) := by
  rw [List.drop_eq_getElem_cons h, valD]
def rdT : Option Int → Value
  | some k => .tuple #[.int .i64 k, .bool true]
  | none => .tuple #[.int .i64 0, .bool false]
theorem rread_c (s : By) (hs : s.length ≤ 100000) (w : World) : Rets Go.Proofs.Tryz.prog 31 #[.string (bw s)] w fun r w' => r = rdT (readB s) ∧ w' = w := by
  refine en31 ?_
  by_cases l1 : (s.length : Int) < 1
  · simp -dsimp -implicitDefEqProofs only [bw_size,l1,m31,sF31,ZA,↓reduceIte,ZB,ZC,ZJ,ZK,ZE,ZF,ZG,ZH,ZI,reduceCtorEq,ZD,mwV,↓mwD,mwU]
    unfold readB; rw [if_pos (.inl (by omega))]; rfl
  by_cases l2 : (18 : Int) < s.length
  · simp -dsimp -implicitDefEqProofs only [bw_size,l1,l2,m31,sF31,ZA,↓reduceIte,ZB,ZC,ZJ,ZK,ZE,ZF,ZG,ZH,ZI,reduceCtorEq,ZD,mwV,↓mwD,mwU]
    unfold readB; rw [if_pos (.inr (.inl (by omega)))]; rfl
  have hpos : 0 < s.length := by omega
  have hg0 := bw_get hpos
  have hh : (s.headD 0 = 48) ↔ (s[0].toNat : Int) = 48 := by
    obtain ⟨x, r, rfl⟩ := List.exists_cons_of_ne_nil (List.length_pos_iff.1 hpos)
    simp only [List.headD_cons,List.getElem_cons_zero]
    constructor
    · rintro rfl; rfl
    · intro h; exact UInt8.toNat_inj.1 (by have h48 : (48 : UInt8).toNat = 48 := rfl; rw [h48]; omega)
  by_cases l3 : (1 : Int) < s.length ∧ (s[0].toNat : Int) = 48
  · obtain ⟨l3, l4⟩ := l3
    simp -dsimp -implicitDefEqProofs only [bw_size,l1,l2,l3,hg0,l4,m31,sF31,ZA,↓reduceIte,ZB,ZC,ZJ,ZK,ZE,ZF,ZG,ZH,ZI,reduceCtorEq,ZD,mwV,↓mwD,mwU]
    unfold readB; rw [if_pos (.inr (.inr ⟨by omega, hh.2 l4⟩))]; rfl
  have hrd : readB s = valD 0 s := by
    unfold readB
    rw [if_neg]
    rintro (h | h | ⟨h, h2⟩)
    · omega
    · omega
    · exact l3 ⟨by omega, hh.1 h2⟩
  have hc : ((1 : Int) < s.length ∧ ¬ (s[0].toNat : Int) = 48) ∨ ¬ (1 : Int) < s.length := by
    by_cases l4 : (1 : Int) < s.length
    · exact .inl ⟨l4, fun h => l3 ⟨l4, h⟩⟩
    · exact .inr l4
  have hbig : ∀ k : Nat, k ≤ 18 → (10 : Int) ^ k ≤ 10 ^ 18 := fun k hk => by
    have := Nat.pow_le_pow_right (n := 10) (by decide) hk
    exact_mod_cast this
  rw [hrd]
  rcases hc with ⟨l4, l5⟩ | l4
  all_goals (first | (simp -dsimp -implicitDefEqProofs only [bw_size,l1,l2,l4,hg0,l5,m31,sF31,ZA,↓reduceIte,ZB,ZC,ZJ,ZK,ZE,ZF,ZG,ZH,ZI,reduceCtorEq,ZD,mwV,↓mwD,mwU]) | (simp -dsimp -implicitDefEqProofs only [bw_size,l1,l2,l4,m31,sF31,ZA,↓reduceIte,ZB,ZC,ZJ,ZK,ZE,ZF,ZG,ZH,ZI,reduceCtorEq,ZD,mwV,↓mwD,mwU]))
  all_goals (
    refine mwpB_loop (fun e ds w' => ∃ (k : Nat) (acc : Int), k ≤ s.length ∧ 0 ≤ acc ∧ acc < 10 ^ k ∧ e 5 = .int .i64 k ∧ e 4 = .int .i64 acc ∧ e 0 = .string (bw s) ∧ ds = [] ∧ w' = w ∧ valD 0 s = valD acc (s.drop k))
      (fun e _ => s.length - (intOf (e 5)).toNat) ?_ ?_
    · simp -dsimp -implicitDefEqProofs only [m31,sF31,ZA,↓reduceIte,ZB,ZC,ZJ,ZK,ZE,ZF,ZG,ZH,ZI,reduceCtorEq,ZD,mwV,↓mwD,mwU]
      exact ⟨0, 0, by omega, by omega, by decide, rfl, rfl, rfl⟩
    · rintro e ds w' ⟨k, acc, hk, ha0, ha1, h5, h4, h0, rfl, rfl, hd⟩
      by_cases hlt : (k : Int) < s.length
      · have hlt' : k < s.length := by omega
        have hg := bw_get hlt'
        rw [valD_drop hlt'] at hd
        have hb1 : (0 : Int) ≤ k := by omega
        have hw := w64_succ hlt' (show s.length ≤ maxLen by unfold maxLen; omega)
        have hlb := s[k].toNat_lt
        by_cases t1 : (s[k].toNat : Int) < 48
        · rw [if_pos (.inl t1)] at hd
          simp -dsimp -implicitDefEqProofs only [h5,h4,h0,bw_size,hlt,hb1,hg,Int.toNat_natCast,t1,m31,sF31,ZA,↓reduceIte,ZB,ZC,ZJ,ZK,ZE,ZF,ZG,ZH,ZI,reduceCtorEq,ZD,mwV,↓mwD,mwU]
          rw [hd]; rfl
        by_cases t2 : 57 < (s[k].toNat : Int)
        · rw [if_pos (.inr t2)] at hd
          simp -dsimp -implicitDefEqProofs only [h5,h4,h0,bw_size,hlt,hb1,hg,Int.toNat_natCast,t1,t2,m31,sF31,ZA,↓reduceIte,ZB,ZC,ZJ,ZK,ZE,ZF,ZG,ZH,ZI,reduceCtorEq,ZD,mwV,↓mwD,mwU]
          rw [hd]; rfl
        rw [if_neg (by omega)] at hd
        have hp := hbig (k + 1) (by omega)
        rw [Int.pow_succ] at hp
        have w1 : IntKind.u8.wrap ((s[k].toNat : Int) - 48) = (s[k].toNat : Int) - 48 := by rw [IntKind.wrap_u8]; omega
        have w3 : IntKind.i64.wrap ((s[k].toNat : Int) - 48) = (s[k].toNat : Int) - 48 := w64 (by omega) (by omega)
        have e18 : (10 : Int) ^ 18 = 1000000000000000000 := by decide
        have w5 : IntKind.i64.wrap (acc * 10) = acc * 10 := w64 (by omega) (by omega)
        have w6 : IntKind.i64.wrap (acc * 10 + ((s[k].toNat : Int) - 48)) = acc * 10 + ((s[k].toNat : Int) - 48) := w64 (by omega) (by omega)
        simp -dsimp -implicitDefEqProofs only [h5,h4,h0,bw_size,hlt,hb1,hg,Int.toNat_natCast,t1,t2,cv_u8,w1,w3,w5,w6,hw,m31,sF31,ZA,↓reduceIte,ZB,ZC,ZJ,ZK,ZE,ZF,ZG,ZH,ZI,reduceCtorEq,ZD,mwV,↓mwD,mwU]
        exact ⟨⟨k + 1, _, by omega, by omega, by rw [Int.pow_succ]; omega, rfl, rfl, hd⟩, by simp only [intOf,h5]; omega⟩
      · have hkl : k = s.length := by omega
        rw [hkl, List.drop_length] at hd
        have hd : valD 0 s = some acc := hd
        simp -dsimp -implicitDefEqProofs only [h5,h4,h0,bw_size,hlt,m31,sF31,ZA,↓reduceIte,ZB,ZC,ZJ,ZK,ZE,ZF,ZG,ZH,ZI,reduceCtorEq,ZD,mwV,↓mwD,mwU]
        rw [hd]; rfl)
end Go.Proofs.YtolamibbionobaaGreatDoor
