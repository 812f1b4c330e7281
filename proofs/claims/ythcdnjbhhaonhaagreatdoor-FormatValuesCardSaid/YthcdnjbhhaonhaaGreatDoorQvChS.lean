/- Layer 02: the reference's ValidChoice, Has. -/
import Derived.Test.YthcdnjbhhaonhaaGreatDoorQvChR

namespace Go.Proofs.YthcdnjbhhaonhaaGreatDoor
open Go.RowKit
open Nat renaming reduceEqDiff → ZA, reduceAdd → ZB, reduceMul → ZC, reduceSub → ZD
open Int renaming reduceToNat → ZE, reduceEq → ZF, reduceLT → ZG, reduceLE → ZH, reduceNeg → ZI
open Go.Value renaming oneCell' → ZK, cells → ZJ
set_option linter.unusedSimpArgs false
theorem form_fit {c : Ch} (ha : c.L.all inT = true) (hf : c.form = true) : Fit c := by
 have mem : ∀ i, i < c.L.length → 0 ≤ c.L.getD i 0 ∧ c.L.getD i 0 ≤ 1000000000 := fun i hi => by
  have := List.all_eq_true.1 ha c.L[i] (List.getElem_mem hi)
  simp only [inT,Bool.and_eq_true,decide_eq_true_eq] at this
  rw [getD_get hi]
  exact this
 unfold Ch.form at hf
 split at hf
 · rename_i hk; exact .inl (.inl ⟨hk, by simpa using hf⟩)
 · split at hf
   · rename_i hk; exact .inl (.inr hk)
   · split at hf
     · rename_i h1 h2 hk
       simp only [Bool.and_eq_true,decide_eq_true_eq] at hf
       have hs : c.stp = 1 := by unfold Ch.stp; rw [if_neg (by omega)]
       have m0 := mem 0 (by omega)
       have m1 := mem 1 (by omega)
       exact .inr ⟨⟨by unfold Ch.lsd; simp [h1, h2], m0.1, hf.2, m1.2, by omega, by omega⟩, .inl ⟨hk, hf.1⟩⟩
     · split at hf
       · rename_i h1 h2 _ hk
         simp only [Bool.and_eq_true,decide_eq_true_eq] at hf
         have m0 := mem 0 (by omega)
         have m1 := mem 1 (by omega)
         exact .inr ⟨⟨by unfold Ch.lsd; simp [h1, h2], m0.1, hf.1.2, m1.2, hf.2.1, hf.2.2⟩, .inr ⟨hk, hf.1.1⟩⟩
       · cases hf
theorem dis_pre : ∀ (l m : List Int), dis (l ++ m) = true → dis l = true := fun l => by
 induction l with
 | nil => intro m _; rfl
 | cons a l ih =>
  intro m hl
  simp only [List.cons_append,dis,Bool.and_eq_true,Bool.not_eq_true'] at hl ⊢
  refine ⟨?_, ih m hl.2⟩
  have := hl.1
  simp only [List.contains_eq_mem,decide_eq_false_iff_not,List.mem_append,not_or] at this ⊢
  exact this.1
theorem contains_take_mem {xs : List Int} {i j : Nat} (hi : i < j) (hj : j ≤ xs.length) : (xs.take j).contains xs[i] = true := by
 rw [List.contains_eq_mem, decide_eq_true_eq]
 exact List.mem_take_iff_getElem.2 ⟨i, by omega, rfl⟩
theorem refValid_c (c : Ch) (s : Value) (w : World) (hs : SlI w s c.L) : Rets Go.Proofs.Tryz.prog 21 #[chV c s] w fun r w' => r = .bool c.valid ∧ Ext w w' := by
 obtain ⟨p, cap, rfl, hc1, hc2⟩ := hs.shape
 have hx0 : Ext w (w.alloc (.cells #[.int .i64 c.k, .int .i64 c.d, .slice p c.L.length cap] 35)) := Ext.alloc _ _
 have hB : Bk (w.alloc (.cells #[.int .i64 c.k, .int .i64 c.d, .slice p c.L.length cap] 35)) w.heap.size [.int .i64 c.k, .int .i64 c.d, .slice p c.L.length cap] 35 := Bk.new _ _ _
 refine en21 ?_
 simp -dsimp -implicitDefEqProofs only [chV,m21,sF21,ZA,↓reduceIte,ZB,ZC,ZJ,ZK,ZE,ZF,ZG,ZH,ZI,reduceCtorEq,ZD,mwV,↓mwD,mwU]
 generalize w.alloc (.cells #[.int .i64 c.k, .int .i64 c.d, .slice p c.L.length cap] 35) = W at *
 refine mwpB_loop (fun e ds w' => ∃ i : Nat, i ≤ c.L.length ∧ e 3 = .int .i64 i ∧ e 1 = .pointer (some ⟨w.heap.size, 0, none⟩) ∧ ds = [] ∧ Ext W w' ∧ (c.L.take i).all inT = true ∧ (c.k = 2 → dis (c.L.take i) = true)) (fun e _ => c.L.length - (intOf (e 3)).toNat) ?_ ?_
 · simp -dsimp -implicitDefEqProofs only [m21,sF21,ZA,↓reduceIte,ZB,ZC,ZJ,ZK,ZE,ZF,ZG,ZH,ZI,reduceCtorEq,ZD,mwV,↓mwD,mwU]
   exact ⟨0, by omega, rfl, Ext.refl _, rfl, fun _ => rfl⟩
 · rintro e ds w1 ⟨i, hi, h3, h1, rfl, hx1, hall, hdis⟩
   have b2 := (hB.ext hx1).get (o := 2) rfl
   simp -dsimp -implicitDefEqProofs only [h3,h1,b2,m21,sF21,ZA,↓reduceIte,ZB,ZC,ZJ,ZK,ZE,ZF,ZG,ZH,ZI,reduceCtorEq,ZD,mwV,↓mwD,mwU]
   refine iteW_dec (fun hlt => ?_) (fun hge => ?_)
   · have hlt' : i < c.L.length := by omega
     obtain ⟨b, o, cap', hv, _, _, hcell⟩ := hs.at (by intro h0; rw [h0] at hlt'; simp at hlt')
     cases hv
     have hxw : ∀ {w2}, Ext W w2 → Ext w w2 := fun hh => hx0.trans hh
     have hck := (hxw hx1).cell (hcell i hlt')
     have hb1 : (0 : Int) ≤ i ∧ (i : Int) < c.L.length := by omega
     have hw := w64_succ hlt' (Nat.le_trans hc1 hc2)
     have htk := List.take_succ_eq_append_getElem hlt'
     have hnoT : inT c.L[i] = false → c.valid = false := fun hh => by
      have : c.L.all inT = false := by
       cases ha : c.L.all inT with
       | false => rfl
       | true => have := List.all_eq_true.1 ha c.L[i] (List.getElem_mem hlt'); rw [this] at hh; cases hh
      unfold Ch.valid; rw [this]; rfl
     by_cases n1 : c.L[i] < 0
     · simp -dsimp -implicitDefEqProofs only [h3,h1,b2,hb1,and_self,hck,n1,m21,sF21,ZA,↓reduceIte,ZB,ZC,ZJ,ZK,ZE,ZF,ZG,ZH,ZI,reduceCtorEq,ZD,mwV,↓mwD,mwU]
       exact ⟨by rw [hnoT (by simp [inT]; omega)], hxw hx1⟩
     · by_cases n2 : 1000000000 < c.L[i]
       · simp -dsimp -implicitDefEqProofs only [h3,h1,b2,hb1,and_self,hck,n1,n2,m21,sF21,ZA,↓reduceIte,ZB,ZC,ZJ,ZK,ZE,ZF,ZG,ZH,ZI,reduceCtorEq,ZD,mwV,↓mwD,mwU]
         exact ⟨by rw [hnoT (by simp [inT]; omega)], hxw hx1⟩
       · have hin : inT c.L[i] = true := by simp [inT]; omega
         simp -dsimp -implicitDefEqProofs only [h3,h1,b2,hb1,and_self,hck,n1,n2,m21,sF21,ZA,↓reduceIte,ZB,ZC,ZJ,ZK,ZE,ZF,ZG,ZH,ZI,reduceCtorEq,ZD,mwV,↓mwD,mwU]
         refine mwpB_loop (fun e ds w' => ∃ k : Nat, k ≤ i ∧ e 4 = .int .i64 k ∧ e 3 = .int .i64 i ∧ e 1 = .pointer (some ⟨w.heap.size, 0, none⟩) ∧ ds = [] ∧ Ext W w' ∧ (c.k = 2 → ∀ j (hj2 : j < c.L.length), j < k → c.L[j] ≠ c.L[i])) (fun e _ => i - (intOf (e 4)).toNat) ?_ ?_
         · simp -dsimp -implicitDefEqProofs only [h3,h1,m21,sF21,ZA,↓reduceIte,ZB,ZC,ZJ,ZK,ZE,ZF,ZG,ZH,ZI,reduceCtorEq,ZD,mwV,↓mwD,mwU]
           exact ⟨0, by omega, rfl, hx1, fun _ j hj2 hj => by omega⟩
         · rintro e' ds w2 ⟨k, hk, g4, g3, g1, rfl, hx2, hne⟩
           have c0 := (hB.ext hx2).get (o := 0) rfl
           have c2 := (hB.ext hx2).get (o := 2) rfl
           have done2 : (c.k = 2 → (c.L.take i).contains c.L[i] = false) → (c.k = 2 → dis (c.L.take (i + 1)) = true) := fun h2 hk2 => by
            rw [htk, dis_app, hdis hk2, h2 hk2]; rfl
           have hall2 : (c.L.take (i + 1)).all inT = true := by rw [htk, List.all_append, hall]; simp [hin]
           by_cases hki : (k : Int) < (i : Int)
           · by_cases hk2 : c.k = 2
             · have hki' : k < i := by omega
               have hcj := (hxw hx2).cell (hcell k (by omega))
               have hci := (hxw hx2).cell (hcell i hlt')
               have hbk : (0 : Int) ≤ k ∧ (k : Int) < c.L.length := by omega
               have hwk := w64_succ (k := k) (n := c.L.length) (by omega) (Nat.le_trans hc1 hc2)
               simp -dsimp -implicitDefEqProofs only [g4,g3,g1,c0,c2,hki,hk2,m21,sF21,ZA,↓reduceIte,ZB,ZC,ZJ,ZK,ZE,ZF,ZG,ZH,ZI,reduceCtorEq,ZD,mwV,↓mwD,mwU]
               refine mwpB_drawE ?_
               simp -dsimp -implicitDefEqProofs only [g4,g3,g1,c0,c2,hbk,hb1,and_self,hcj,hci,m21,sF21,ZA,↓reduceIte,ZB,ZC,ZJ,ZK,ZE,ZF,ZG,ZH,ZI,reduceCtorEq,ZD,mwV,↓mwD,mwU]
               refine iteW_dec (fun he => ?_) (fun he => ?_)
               · simp -dsimp -implicitDefEqProofs only [g4,g3,g1,m21,sF21,ZA,↓reduceIte,ZB,ZC,ZJ,ZK,ZE,ZF,ZG,ZH,ZI,reduceCtorEq,ZD,mwV,↓mwD,mwU]
                 refine ⟨?_, (hxw hx2).trans (Ext.drew _)⟩
                 have h1' : dis (c.L.take (i + 1)) = false := by rw [htk, dis_app, ← he, contains_take_mem hki' (by omega)]; simp
                 have h2' : dis c.L = false := by
                  cases hd : dis c.L with
                  | false => rfl
                  | true =>
                   have := dis_pre (c.L.take (i + 1)) (c.L.drop (i + 1)) (by rw [List.take_append_drop]; exact hd)
                   rw [h1'] at this; cases this
                 have : c.form = false := by unfold Ch.form; rw [if_neg (by omega), if_pos hk2, h2']; simp
                 unfold Ch.valid; rw [this]; simp
               · simp -dsimp -implicitDefEqProofs only [g4,g3,g1,hwk,m21,sF21,ZA,↓reduceIte,ZB,ZC,ZJ,ZK,ZE,ZF,ZG,ZH,ZI,reduceCtorEq,ZD,mwV,↓mwD,mwU]
                 refine ⟨⟨k + 1, by omega, rfl, hx2.trans (Ext.drew _), fun hk2' j hj2 hj => ?_⟩, ?_⟩
                 · by_cases hjk : j = k
                   · subst hjk; exact he
                   · exact hne hk2' j hj2 (by omega)
                 · simp only [intOf]; omega
             · simp -dsimp -implicitDefEqProofs only [g4,g3,g1,c0,c2,hki,hk2,hw,m21,sF21,ZA,↓reduceIte,ZB,ZC,ZJ,ZK,ZE,ZF,ZG,ZH,ZI,reduceCtorEq,ZD,mwV,↓mwD,mwU]
               refine ⟨⟨i + 1, by omega, rfl, hx2, hall2, fun h => h.elim⟩, ?_⟩
               simp only [intOf,h3]; omega
           · have hke : k = i := by omega
             subst hke
             simp -dsimp -implicitDefEqProofs only [g4,g3,g1,c0,c2,hki,hw,m21,sF21,ZA,↓reduceIte,ZB,ZC,ZJ,ZK,ZE,ZF,ZG,ZH,ZI,reduceCtorEq,ZD,mwV,↓mwD,mwU]
             refine ⟨⟨k + 1, by omega, rfl, hx2, hall2, done2 (fun h2 => ?_)⟩, ?_⟩
             · rw [List.contains_eq_mem, decide_eq_false_iff_not]
               intro hm
               obtain ⟨j, hj, he⟩ := List.mem_take_iff_getElem.1 hm
               exact hne h2 j (by omega) (by omega) he
             · simp only [intOf,h3]; omega
   · have hil : i = c.L.length := by omega
     subst hil
     rw [List.take_length] at hall hdis
     have c0 := (hB.ext hx1).get (o := 0) rfl
     have c1 := (hB.ext hx1).get (o := 1) rfl
     have c2 := (hB.ext hx1).get (o := 2) rfl
     have hv : c.valid = (c.form && c.has c.d) := by unfold Ch.valid; rw [hall]; rfl
     have hxw : Ext w w1 := hx0.trans hx1
     -- the form is wrong
     have bad : c.form = false → c.valid = false := fun h => by rw [hv, h]; rfl
     -- the form is right
     have good : ∀ (w2 : World), c.form = true → Ext w w2 → Rets Go.Proofs.Tryz.prog 26 #[chV c (.slice p c.L.length cap), .int .i64 c.d] w2 fun r w' => r = .bool c.valid ∧ Ext w w' := fun w2 hf hx2 =>
      (Has1_c c _ c.d w2 (hs.ext hx2) (form_fit hall hf)).mono fun r w' ⟨hr, hx3⟩ => ⟨by rw [hr, hv, hf]; rfl, hx2.trans hx3⟩
     simp only [chV] at good
     by_cases k1 : c.k = 1
     · by_cases l1 : c.L.length = 1
       · have l1' : (c.L.length : Int) = 1 := by omega
         have hf : c.form = true := by unfold Ch.form; rw [if_pos k1]; simp [l1]
         have gg := good w1 hf hxw
         rw [k1] at gg
         simp -dsimp -implicitDefEqProofs only [h3,h1,c0,c1,c2,k1,l1',m21,sF21,ZA,↓reduceIte,ZB,ZC,ZJ,ZK,ZE,ZF,ZG,ZH,ZI,reduceCtorEq,ZD,mwV,↓mwD,mwU]
         refine gg.use ?_
         rintro r w2 ⟨rfl, hx2⟩
         simp -dsimp -implicitDefEqProofs only [m21,sF21,ZA,↓reduceIte,ZB,ZC,ZJ,ZK,ZE,ZF,ZG,ZH,ZI,reduceCtorEq,ZD,mwV,↓mwD,mwU]
         exact hx2
       · have l1' : ¬ (c.L.length : Int) = 1 := by omega
         have hf : c.form = false := by unfold Ch.form; rw [if_pos k1]; simp [l1]
         simp -dsimp -implicitDefEqProofs only [h3,h1,c0,c1,c2,k1,l1',m21,sF21,ZA,↓reduceIte,ZB,ZC,ZJ,ZK,ZE,ZF,ZG,ZH,ZI,reduceCtorEq,ZD,mwV,↓mwD,mwU]
         exact ⟨by rw [bad hf], hxw⟩
     · by_cases k2 : c.k = 2
       · have hd := hdis k2
         by_cases l1 : 1 ≤ c.L.length
         · have l1' : (1 : Int) ≤ (c.L.length : Int) := by omega
           by_cases l2 : c.L.length ≤ 20
           · have l2' : (c.L.length : Int) ≤ 20 := by omega
             have hf : c.form = true := by unfold Ch.form; rw [if_neg k1, if_pos k2, hd]; simp [l1, l2]
             have gg := good w1 hf hxw
             rw [k2] at gg
             simp -dsimp -implicitDefEqProofs only [h3,h1,c0,c1,c2,k2,l1',l2',m21,sF21,ZA,↓reduceIte,ZB,ZC,ZJ,ZK,ZE,ZF,ZG,ZH,ZI,reduceCtorEq,ZD,mwV,↓mwD,mwU]
             refine gg.use ?_
             rintro r w2 ⟨rfl, hx2⟩
             simp -dsimp -implicitDefEqProofs only [m21,sF21,ZA,↓reduceIte,ZB,ZC,ZJ,ZK,ZE,ZF,ZG,ZH,ZI,reduceCtorEq,ZD,mwV,↓mwD,mwU]
             exact hx2
           · have l2' : ¬ (c.L.length : Int) ≤ 20 := by omega
             have hf : c.form = false := by unfold Ch.form; rw [if_neg k1, if_pos k2]; simp [l2]
             simp -dsimp -implicitDefEqProofs only [h3,h1,c0,c1,c2,k2,l1',l2',m21,sF21,ZA,↓reduceIte,ZB,ZC,ZJ,ZK,ZE,ZF,ZG,ZH,ZI,reduceCtorEq,ZD,mwV,↓mwD,mwU]
             exact ⟨by rw [bad hf], hxw⟩
         · have l1' : ¬ (1 : Int) ≤ (c.L.length : Int) := by omega
           have hf : c.form = false := by unfold Ch.form; rw [if_neg k1, if_pos k2]; simp [l1]
           simp -dsimp -implicitDefEqProofs only [h3,h1,c0,c1,c2,k2,l1',m21,sF21,ZA,↓reduceIte,ZB,ZC,ZJ,ZK,ZE,ZF,ZG,ZH,ZI,reduceCtorEq,ZD,mwV,↓mwD,mwU]
           exact ⟨by rw [bad hf], hxw⟩
       · by_cases k3 : c.k = 3
         · by_cases l2 : c.L.length = 2
           · have l2' : (c.L.length : Int) = 2 := by omega
             obtain ⟨b, o, cap', hv', _, _, hcell⟩ := hs.at (by intro e; rw [e] at l2; simp at l2)
             cases hv'
             have q0 := hxw.cell (hcell 0 (by omega))
             have q1 := hxw.cell (hcell 1 (by omega))
             simp only [Nat.add_zero] at q0
             have e0 : c.lo = c.L[0] := getD_get (by omega)
             have e1 : c.hi = c.L[1] := getD_get (by omega)
             rw [← e0] at q0
             rw [← e1] at q1
             have b0 : (0 : Int) < (c.L.length : Int) := by omega
             have b1 : (1 : Int) < (c.L.length : Int) := by omega
             simp -dsimp -implicitDefEqProofs only [h3,h1,c0,c1,c2,k3,m21,sF21,ZA,↓reduceIte,ZB,ZC,ZJ,ZK,ZE,ZF,ZG,ZH,ZI,reduceCtorEq,ZD,mwV,↓mwD,mwU]
             refine mwpB_drawE ?_
             by_cases hle : c.lo ≤ c.hi
             · have hf : c.form = true := by unfold Ch.form; rw [if_neg k1, if_neg k2, if_pos k3]; simp [l2, hle]
               have gg := good w1.drew hf (hxw.trans (Ext.drew _))
               rw [k3] at gg
               simp -dsimp -implicitDefEqProofs only [h3,h1,c0,c1,c2,k3,q0,q1,b0,b1,hle,l2',m21,sF21,ZA,↓reduceIte,ZB,ZC,ZJ,ZK,ZE,ZF,ZG,ZH,ZI,reduceCtorEq,ZD,mwV,↓mwD,mwU]
               refine gg.use ?_
               rintro r w2 ⟨rfl, hx2⟩
               simp -dsimp -implicitDefEqProofs only [m21,sF21,ZA,↓reduceIte,ZB,ZC,ZJ,ZK,ZE,ZF,ZG,ZH,ZI,reduceCtorEq,ZD,mwV,↓mwD,mwU]
               exact hx2
             · have hf : c.form = false := by unfold Ch.form; rw [if_neg k1, if_neg k2, if_pos k3]; simp [hle]
               simp -dsimp -implicitDefEqProofs only [h3,h1,c0,c1,c2,k3,q0,q1,b0,b1,hle,l2',m21,sF21,ZA,↓reduceIte,ZB,ZC,ZJ,ZK,ZE,ZF,ZG,ZH,ZI,reduceCtorEq,ZD,mwV,↓mwD,mwU]
               exact ⟨by rw [bad hf], hxw.trans (Ext.drew _)⟩
           · have l2' : ¬ (c.L.length : Int) = 2 := by omega
             have hf : c.form = false := by unfold Ch.form; rw [if_neg k1, if_neg k2, if_pos k3]; simp [l2]
             simp -dsimp -implicitDefEqProofs only [h3,h1,c0,c1,c2,k3,m21,sF21,ZA,↓reduceIte,ZB,ZC,ZJ,ZK,ZE,ZF,ZG,ZH,ZI,reduceCtorEq,ZD,mwV,↓mwD,mwU]
             refine mwpB_drawE ?_
             simp -dsimp -implicitDefEqProofs only [h3,h1,c0,c1,c2,k3,l2',m21,sF21,ZA,↓reduceIte,ZB,ZC,ZJ,ZK,ZE,ZF,ZG,ZH,ZI,reduceCtorEq,ZD,mwV,↓mwD,mwU]
             exact ⟨by rw [bad hf], hxw.trans (Ext.drew _)⟩
         · by_cases k4 : c.k = 4
           · by_cases l3 : c.L.length = 3
             · have l3' : (c.L.length : Int) = 3 := by omega
               obtain ⟨b, o, cap', hv', _, _, hcell⟩ := hs.at (by intro e; rw [e] at l3; simp at l3)
               cases hv'
               have q0 := hxw.cell (hcell 0 (by omega))
               have q1 := hxw.cell (hcell 1 (by omega))
               have q2 := hxw.cell (hcell 2 (by omega))
               simp only [Nat.add_zero] at q0
               have e0 : c.lo = c.L[0] := getD_get (by omega)
               have e1 : c.hi = c.L[1] := getD_get (by omega)
               have e2 : c.stp = c.L[2] := by unfold Ch.stp; rw [if_pos k4]; exact getD_get (by omega)
               rw [← e0] at q0
               rw [← e1] at q1
               rw [← e2] at q2
               have b0 : (0 : Int) < (c.L.length : Int) := by omega
               have b1 : (1 : Int) < (c.L.length : Int) := by omega
               have b2' : (2 : Int) < (c.L.length : Int) := by omega
               simp -dsimp -implicitDefEqProofs only [h3,h1,c0,c1,c2,k4,m21,sF21,ZA,↓reduceIte,ZB,ZC,ZJ,ZK,ZE,ZF,ZG,ZH,ZI,reduceCtorEq,ZD,mwV,↓mwD,mwU]
               refine mwpB_drawE ?_
               by_cases hle : c.lo ≤ c.hi
               · by_cases hs0 : 1 ≤ c.stp
                 · by_cases hs1 : c.stp ≤ 1000
                   · have hf : c.form = true := by unfold Ch.form; rw [if_neg k1, if_neg k2, if_neg k3, if_pos k4]; simp [l3, hle, hs0, hs1]
                     have gg := good w1.drew hf (hxw.trans (Ext.drew _))
                     rw [k4] at gg
                     simp -dsimp -implicitDefEqProofs only [h3,h1,c0,c1,c2,k4,q0,q1,q2,b0,b1,b2',hle,l3',hs0,hs1,m21,sF21,ZA,↓reduceIte,ZB,ZC,ZJ,ZK,ZE,ZF,ZG,ZH,ZI,reduceCtorEq,ZD,mwV,↓mwD,mwU]
                     refine gg.use ?_
                     rintro r w2 ⟨rfl, hx2⟩
                     simp -dsimp -implicitDefEqProofs only [m21,sF21,ZA,↓reduceIte,ZB,ZC,ZJ,ZK,ZE,ZF,ZG,ZH,ZI,reduceCtorEq,ZD,mwV,↓mwD,mwU]
                     exact hx2
                   · have hf : c.form = false := by unfold Ch.form; rw [if_neg k1, if_neg k2, if_neg k3, if_pos k4]; simp [hs1]
                     simp -dsimp -implicitDefEqProofs only [h3,h1,c0,c1,c2,k4,q0,q1,q2,b0,b1,b2',hle,l3',hs0,hs1,m21,sF21,ZA,↓reduceIte,ZB,ZC,ZJ,ZK,ZE,ZF,ZG,ZH,ZI,reduceCtorEq,ZD,mwV,↓mwD,mwU]
                     exact ⟨by rw [bad hf], hxw.trans (Ext.drew _)⟩
                 · have hf : c.form = false := by unfold Ch.form; rw [if_neg k1, if_neg k2, if_neg k3, if_pos k4]; simp [hs0]
                   simp -dsimp -implicitDefEqProofs only [h3,h1,c0,c1,c2,k4,q0,q1,q2,b0,b1,b2',hle,l3',hs0,m21,sF21,ZA,↓reduceIte,ZB,ZC,ZJ,ZK,ZE,ZF,ZG,ZH,ZI,reduceCtorEq,ZD,mwV,↓mwD,mwU]
                   exact ⟨by rw [bad hf], hxw.trans (Ext.drew _)⟩
               · have hf : c.form = false := by unfold Ch.form; rw [if_neg k1, if_neg k2, if_neg k3, if_pos k4]; simp [hle]
                 simp -dsimp -implicitDefEqProofs only [h3,h1,c0,c1,c2,k4,q0,q1,q2,b0,b1,b2',hle,l3',m21,sF21,ZA,↓reduceIte,ZB,ZC,ZJ,ZK,ZE,ZF,ZG,ZH,ZI,reduceCtorEq,ZD,mwV,↓mwD,mwU]
                 exact ⟨by rw [bad hf], hxw.trans (Ext.drew _)⟩
             · have l3' : ¬ (c.L.length : Int) = 3 := by omega
               have hf : c.form = false := by unfold Ch.form; rw [if_neg k1, if_neg k2, if_neg k3, if_pos k4]; simp [l3]
               simp -dsimp -implicitDefEqProofs only [h3,h1,c0,c1,c2,k4,m21,sF21,ZA,↓reduceIte,ZB,ZC,ZJ,ZK,ZE,ZF,ZG,ZH,ZI,reduceCtorEq,ZD,mwV,↓mwD,mwU]
               refine mwpB_drawE ?_
               simp -dsimp -implicitDefEqProofs only [h3,h1,c0,c1,c2,k4,l3',m21,sF21,ZA,↓reduceIte,ZB,ZC,ZJ,ZK,ZE,ZF,ZG,ZH,ZI,reduceCtorEq,ZD,mwV,↓mwD,mwU]
               exact ⟨by rw [bad hf], hxw.trans (Ext.drew _)⟩
           · have hf : c.form = false := by unfold Ch.form; rw [if_neg k1, if_neg k2, if_neg k3, if_neg k4]
             simp -dsimp -implicitDefEqProofs only [h3,h1,c0,c1,c2,k1,k2,k3,k4,m21,sF21,ZA,↓reduceIte,ZB,ZC,ZJ,ZK,ZE,ZF,ZG,ZH,ZI,reduceCtorEq,ZD,mwV,↓mwD,mwU]
             exact ⟨by rw [bad hf], hxw⟩
end Go.Proofs.YthcdnjbhhaonhaaGreatDoor
