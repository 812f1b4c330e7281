/- Layer 02: the reference's Valid; which formats are light. -/
import Derived.Test.YthcdnjbhhaonhaaGreatDoorQgFoBToFoE
import Derived.Test.YthcdnjbhhaonhaaGreatDoorQgChRToChS
import Derived.RecoverIn

namespace Go.Proofs.YthcdnjbhhaonhaaGreatDoor
open Go.RowKit
open Nat renaming reduceEqDiff → ZA, reduceAdd → ZB, reduceMul → ZC, reduceSub → ZD
open Int renaming reduceToNat → ZE, reduceEq → ZF, reduceLT → ZG, reduceLE → ZH, reduceNeg → ZI
open Go.Value renaming oneCell' → ZK, cells → ZJ
open Go.Proofs.Tryz renaming prog → ZP
set_option linter.unusedSimpArgs false
theorem refFValid_c (f : Fm) (s : Value) (w : World) (hs : SlF w s f.F) : Rets ZP 27 #[fmV f s] w fun r w' => r = .bool f.valid ∧ Ext w w' := by
 have hx0 : Ext w (w.alloc (.cells #[.int .i64 f.m, s] 24)) := Ext.alloc _ _
 have hB : Bk (w.alloc (.cells #[.int .i64 f.m, s] 24)) w.heap.size [.int .i64 f.m, s] 24 := Bk.new _ _ _
 obtain ⟨p, cap, rfl, hc1, hc2⟩ := hs.shape
 refine en27 ?_
 by_cases m1 : f.m < 1
 · simp -dsimp -implicitDefEqProofs only [fmV,m1,m27,sF27,ZA,↓reduceIte,ZB,ZC,ZJ,ZK,ZE,ZF,ZG,ZH,ZI,reduceCtorEq,ZD,mwV,↓mwD,mwU]
   exact ⟨by have : ¬ 1 ≤ f.m := by omega
             simp [Fm.valid, this], hx0⟩
 by_cases m2 : 3 < f.m
 · simp -dsimp -implicitDefEqProofs only [fmV,m1,m2,m27,sF27,ZA,↓reduceIte,ZB,ZC,ZJ,ZK,ZE,ZF,ZG,ZH,ZI,reduceCtorEq,ZD,mwV,↓mwD,mwU]
   exact ⟨by have : ¬ f.m ≤ 3 := by omega
             simp [Fm.valid, this], hx0⟩
 have hv : f.valid = fieldsB 0 f.F := by
  have e1 : 1 ≤ f.m := by omega
  have e2 : f.m ≤ 3 := by omega
  simp [Fm.valid, e1, e2]
 rw [hv]
 simp -dsimp -implicitDefEqProofs only [fmV,m1,m2,m27,sF27,ZA,↓reduceIte,ZB,ZC,ZJ,ZK,ZE,ZF,ZG,ZH,ZI,reduceCtorEq,ZD,mwV,↓mwD,mwU]
 generalize w.alloc (.cells #[.int .i64 f.m, .slice p f.F.length cap] 24) = w1 at *
 refine mwpB_loop (fun e ds w' => ∃ k : Nat, k ≤ f.F.length ∧ e 3 = .int .i64 k ∧ e 1 = .pointer (some ⟨w.heap.size, 0, none⟩) ∧ ds = [] ∧ Ext w1 w' ∧ 0 ≤ pkey f.F k ∧ fieldsB 0 f.F = fieldsB (pkey f.F k) (f.F.drop k))
  (fun e _ => f.F.length - (intOf (e 3)).toNat) ?_ ?_
 · simp -dsimp -implicitDefEqProofs only [m27,sF27,ZA,↓reduceIte,ZB,ZC,ZJ,ZK,ZE,ZF,ZG,ZH,ZI,reduceCtorEq,ZD,mwV,↓mwD,mwU]
   exact ⟨0, by omega, rfl, Ext.refl _, by simp [pkey], rfl⟩
 · rintro e ds w' ⟨k, hk, h3, h1, rfl, hx, hpk, hF⟩
   have hB' := hB.ext hx
   have d1 := hB'.get (o := 1) rfl
   simp -dsimp -implicitDefEqProofs only [h3,h1,d1,m27,sF27,ZA,↓reduceIte,ZB,ZC,ZJ,ZK,ZE,ZF,ZG,ZH,ZI,reduceCtorEq,ZD,mwV,↓mwD,mwU]
   refine iteW_dec (fun hlt => ?_) (fun hge => ?_)
   · have hlt' : k < f.F.length := by omega
     obtain ⟨b, o, rfl, hfs⟩ := (hs.ext (hx0.trans hx)).at (by intro h0; rw [h0] at hlt'; simp at hlt')
     obtain ⟨sk, q0, q1, q2, q3, hsk⟩ := hfs.get hlt'
     have hb1 : (0 : Int) ≤ k ∧ (k : Int) < f.F.length := by omega
     have hw := w64_succ hlt' (Nat.le_trans hc1 hc2)
     rw [fieldsB_drop hlt'] at hF
     obtain ⟨ps, cs, rfl, _, _⟩ := hsk.shape
     by_cases t1 : f.F[k].key < 1
     · simp -dsimp -implicitDefEqProofs only [h3,h1,d1,hb1,and_self,q0,Nat.mul_comm k 4,t1,m27,sF27,ZA,↓reduceIte,ZB,ZC,ZJ,ZK,ZE,ZF,ZG,ZH,ZI,reduceCtorEq,ZD,mwV,↓mwD,mwU]
       have : ¬ pkey f.F k < f.F[k].key := by omega
       exact ⟨by rw [hF]; simp [this], hx0.trans hx⟩
     by_cases t2 : 6 < f.F[k].key
     · simp -dsimp -implicitDefEqProofs only [h3,h1,d1,hb1,and_self,q0,Nat.mul_comm k 4,t1,t2,m27,sF27,ZA,↓reduceIte,ZB,ZC,ZJ,ZK,ZE,ZF,ZG,ZH,ZI,reduceCtorEq,ZD,mwV,↓mwD,mwU]
       have : ¬ f.F[k].key ≤ 6 := by omega
       exact ⟨by rw [hF]; simp [this], hx0.trans hx⟩
     have e2 : f.F[k].key ≤ 6 := by omega
     have next : pkey f.F k < f.F[k].key → f.F[k].c.valid = true → 0 ≤ pkey f.F (k + 1) ∧ fieldsB 0 f.F = fieldsB (pkey f.F (k + 1)) (f.F.drop (k + 1)) := fun h h' => by
      refine ⟨by rw [pkey_succ hlt']; omega, ?_⟩
      rw [hF, h']; simp [h, e2]
     rcases Nat.eq_zero_or_pos k with h0 | h0
     · have z : ¬ (0 : Int) < (k : Int) := by omega
       have hp : pkey f.F k < f.F[k].key := by
        have : pkey f.F k = 0 := by rw [h0]; rfl
        omega
       simp -dsimp -implicitDefEqProofs only [h3,h1,d1,hb1,and_self,q0,q1,q2,q3,Nat.mul_comm k 4,t1,t2,z,m27,sF27,ZA,↓reduceIte,ZB,ZC,ZJ,ZK,ZE,ZF,ZG,ZH,ZI,reduceCtorEq,ZD,mwV,↓mwD,mwU]
       refine (refValid_c f.F[k].c _ w' hsk).use ?_
       rintro r w3 ⟨rfl, h4⟩
       cases hv : f.F[k].c.valid
       · simp -dsimp -implicitDefEqProofs only [m27,sF27,ZA,↓reduceIte,ZB,ZC,ZJ,ZK,ZE,ZF,ZG,ZH,ZI,reduceCtorEq,ZD,mwV,↓mwD,mwU]
         exact ⟨by rw [hF, hv]; simp, hx0.trans (hx.trans h4)⟩
       · simp -dsimp -implicitDefEqProofs only [h3,h1,hw,m27,sF27,ZA,↓reduceIte,ZB,ZC,ZJ,ZK,ZE,ZF,ZG,ZH,ZI,reduceCtorEq,ZD,mwV,↓mwD,mwU]
         exact ⟨⟨k + 1, by omega, rfl, hx.trans h4, next hp hv⟩, by simp only [intOf]; omega⟩
     · have z : (0 : Int) < (k : Int) := by omega
       have hk1 : k - 1 < f.F.length := by omega
       obtain ⟨sp, p0, _⟩ := hfs.get hk1
       have e3 : pkey f.F k = f.F[k - 1].key := by
        have := pkey_succ hk1
        rw [show k - 1 + 1 = k by omega] at this
        exact this
       have hw3 : IntKind.i64.wrap ((k : Int) - 1) = ((k - 1 : Nat) : Int) := by rw [w64 (by omega) (by unfold maxLen at hc2; omega)]; omega
       have hb3 : (0 : Int) ≤ ((k - 1 : Nat) : Int) ∧ ((k - 1 : Nat) : Int) < f.F.length := by omega
       by_cases t4 : f.F[k].key ≤ f.F[k - 1].key
       · simp -dsimp -implicitDefEqProofs only [h3,h1,d1,hb1,and_self,q0,q1,q2,q3,Nat.mul_comm k 4,t1,t2,z,hw3,hb3,p0,Nat.mul_comm (k - 1) 4,t4,m27,sF27,ZA,↓reduceIte,ZB,ZC,ZJ,ZK,ZE,ZF,ZG,ZH,ZI,reduceCtorEq,ZD,mwV,↓mwD,mwU]
         have : ¬ pkey f.F k < f.F[k].key := by omega
         exact ⟨by rw [hF]; simp [this], hx0.trans hx⟩
       · have hp : pkey f.F k < f.F[k].key := by omega
         simp -dsimp -implicitDefEqProofs only [h3,h1,d1,hb1,and_self,q0,q1,q2,q3,Nat.mul_comm k 4,t1,t2,z,hw3,hb3,p0,Nat.mul_comm (k - 1) 4,t4,m27,sF27,ZA,↓reduceIte,ZB,ZC,ZJ,ZK,ZE,ZF,ZG,ZH,ZI,reduceCtorEq,ZD,mwV,↓mwD,mwU]
         refine (refValid_c f.F[k].c _ w' hsk).use ?_
         rintro r w3 ⟨rfl, h4⟩
         cases hv : f.F[k].c.valid
         · simp -dsimp -implicitDefEqProofs only [m27,sF27,ZA,↓reduceIte,ZB,ZC,ZJ,ZK,ZE,ZF,ZG,ZH,ZI,reduceCtorEq,ZD,mwV,↓mwD,mwU]
           exact ⟨by rw [hF, hv]; simp, hx0.trans (hx.trans h4)⟩
         · simp -dsimp -implicitDefEqProofs only [h3,h1,hw,m27,sF27,ZA,↓reduceIte,ZB,ZC,ZJ,ZK,ZE,ZF,ZG,ZH,ZI,reduceCtorEq,ZD,mwV,↓mwD,mwU]
           exact ⟨⟨k + 1, by omega, rfl, hx.trans h4, next hp hv⟩, by simp only [intOf]; omega⟩
   · have hkl : k = f.F.length := by omega
     subst hkl
     rw [List.drop_length] at hF
     simp -dsimp -implicitDefEqProofs only [h3,h1,m27,sF27,ZA,↓reduceIte,ZB,ZC,ZJ,ZK,ZE,ZF,ZG,ZH,ZI,reduceCtorEq,ZD,mwV,↓mwD,mwU]
     exact ⟨by rw [hF]; rfl, hx0.trans hx⟩
def lightB (f : Fm) : Bool := (f.F.take 12).all (fun x => decide (x.c.L.length ≤ 60)) && decide (f.F.length ≤ 12)
theorem Light_c (f : Fm) (s : Value) (w : World) (hs : SlF w s f.F) : Rets ZP 9 #[fmV f s] w fun r w' => r = .bool (lightB f) ∧ Ext w w' := by
 have hx0 : Ext w (w.alloc (.cells #[.int .i64 f.m, s] 24)) := Ext.alloc _ _
 have hB : Bk (w.alloc (.cells #[.int .i64 f.m, s] 24)) w.heap.size [.int .i64 f.m, s] 24 := Bk.new _ _ _
 obtain ⟨p, cap, rfl, hc1, hc2⟩ := hs.shape
 refine en9 ?_
 simp -dsimp -implicitDefEqProofs only [fmV,m9,sF9,ZA,↓reduceIte,ZB,ZC,ZJ,ZK,ZE,ZF,ZG,ZH,ZI,reduceCtorEq,ZD,mwV,↓mwD,mwU]
 generalize w.alloc (.cells #[.int .i64 f.m, .slice p f.F.length cap] 24) = w1 at *
 have d1 := hB.get (o := 1) rfl
 refine mwpB_loop (fun e ds w' => ∃ k : Nat, k ≤ f.F.length ∧ k ≤ 12 ∧ e 3 = .int .i64 k ∧ e 1 = .pointer (some ⟨w.heap.size, 0, none⟩) ∧ ds = [] ∧ w' = w1 ∧ (f.F.take k).all (fun x => decide (x.c.L.length ≤ 60)) = true)
  (fun e _ => f.F.length - (intOf (e 3)).toNat) ?_ ?_
 · simp -dsimp -implicitDefEqProofs only [m9,sF9,ZA,↓reduceIte,ZB,ZC,ZJ,ZK,ZE,ZF,ZG,ZH,ZI,reduceCtorEq,ZD,mwV,↓mwD,mwU]
   exact ⟨0, by omega, by omega, rfl, rfl⟩
 · rintro e ds w' ⟨k, hk, hk12, h3, h1, rfl, rfl, hall⟩
   by_cases t1 : (k : Int) < (f.F.length : Int)
   · by_cases t2 : (k : Int) < 12
     · have hlt' : k < f.F.length := by omega
       obtain ⟨b, o, rfl, hfs⟩ := (hs.ext hx0).at (by intro h0; rw [h0] at hlt'; simp at hlt')
       obtain ⟨sk, q0, q1, q2, q3, hsk⟩ := hfs.get hlt'
       have hb1 : (0 : Int) ≤ k ∧ (k : Int) < f.F.length := by omega
       have hw := w64_succ hlt' (Nat.le_trans hc1 hc2)
       obtain ⟨ps, cs, rfl, _, _⟩ := hsk.shape
       by_cases t3 : (60 : Int) < (f.F[k].c.L.length : Int)
       · simp -dsimp -implicitDefEqProofs only [h3,h1,d1,t1,t2,hb1,and_self,q3,Nat.mul_comm k 4,t3,m9,sF9,ZA,↓reduceIte,ZB,ZC,ZJ,ZK,ZE,ZF,ZG,ZH,ZI,reduceCtorEq,ZD,mwV,↓mwD,mwU]
         refine ⟨?_, hx0⟩
         have : (f.F.take 12).all (fun x => decide (x.c.L.length ≤ 60)) = false := by
          rw [List.all_eq_false]
          refine ⟨f.F[k], List.mem_take_iff_getElem.2 ⟨k, by omega, rfl⟩, ?_⟩
          simp; omega
         simp [lightB, this]
       · simp -dsimp -implicitDefEqProofs only [h3,h1,d1,t1,t2,hb1,and_self,q3,Nat.mul_comm k 4,t3,hw,m9,sF9,ZA,↓reduceIte,ZB,ZC,ZJ,ZK,ZE,ZF,ZG,ZH,ZI,reduceCtorEq,ZD,mwV,↓mwD,mwU]
         refine ⟨⟨k + 1, by omega, by omega, rfl, ?_⟩, by simp only [intOf]; omega⟩
         rw [List.take_succ_eq_append_getElem hlt', List.all_append, hall]
         simp; omega
     · have hk12' : k = 12 := by omega
       have hn : ¬ (f.F.length : Int) ≤ 12 := by omega
       simp -dsimp -implicitDefEqProofs only [h3,h1,d1,t1,t2,hn,m9,sF9,ZA,↓reduceIte,ZB,ZC,ZJ,ZK,ZE,ZF,ZG,ZH,ZI,reduceCtorEq,ZD,mwV,↓mwD,mwU]
       have hn' : ¬ f.F.length ≤ 12 := by omega
       exact ⟨by simp [lightB, hn'], hx0⟩
   · have hkl : k = f.F.length := by omega
     subst hkl
     have hn : (f.F.length : Int) ≤ 12 := by omega
     have hn' : f.F.length ≤ 12 := by omega
     simp -dsimp -implicitDefEqProofs only [h3,h1,d1,t1,hn,m9,sF9,ZA,↓reduceIte,ZB,ZC,ZJ,ZK,ZE,ZF,ZG,ZH,ZI,reduceCtorEq,ZD,mwV,↓mwD,mwU]
     refine ⟨?_, hx0⟩
     rw [List.take_length] at hall
     simp only [lightB,List.take_of_length_le hn',hall,hn',decide_true,Bool.and_self]
end Go.Proofs.YthcdnjbhhaonhaaGreatDoor
/- Layer 02: package format's Within. -/
namespace Go.Proofs.YthcdnjbhhaonhaaGreatDoor
open Go.RowKit
open Nat renaming reduceEqDiff → ZA, reduceAdd → ZB, reduceMul → ZC, reduceSub → ZD
open Int renaming reduceToNat → ZE, reduceEq → ZF, reduceLT → ZG, reduceLE → ZH, reduceNeg → ZI
open Go.Value renaming oneCell' → ZK, cells → ZJ
open Go.Proofs.Tryz renaming prog → ZP
set_option linter.unusedSimpArgs false
section
variable {P : Program} {n : Nat}
theorem mwpB_rng {rf A B : Code} {g : Operand} {ps : Array Tmp} (hrf : rf = .rangeFunc g ps A B) {e : Env} {ds : List Deferred} {w : World} {N : Env → List Deferred → World → Prop} {E : Nat → Env → List Deferred → World → Prop} {R : Env → List Deferred → World → Prop} {X : Env → List PanicEntry → List Deferred → World → Prop} {tk}
 {gf : FuncId} {first cap : Array Value} (hg : ev e g = .func (.func gf) first cap) (hok : okF P gf = true)
 (h : ∀ (n : Nat) (fn : FuncId) (tmps : Array Value), tmps.size = n → (∀ t, t < n → tmps[t]? = some (e t)) → fits n (.rangeFunc g ps A B) = true →
  Calls P gf (first ++ #[.func (.yield (w.heap.size + 1)) #[] #[]] ++ cap) ((w.alloc (.deferred (some []))).alloc (.loop (loopRec fn tmps ps A B w.heap.size))) fun en w3 =>
   ∃ v pend w4, en = .returned v ∧ (Instr.endLoop (w.heap.size + 1)).run P w3 = .ok pend w4 ∧ (match pend with
    | none => N e ({ target := .collected w.heap.size, args := #[] } :: ds) w4
    | some .ret => R e ({ target := .collected w.heap.size, args := #[] } :: ds) w4
    | some (.exit i) => E i e ({ target := .collected w.heap.size, args := #[] } :: ds) w4
    | _ => False)) : mwpB P (.raw rf) e ds w N E R X tk := by
 subst hrf
 unfold mwpB
 exact mwp_rangeFunc hg hok h
theorem yield_rnd {l : Nat} {fn : FuncId} {tmps : Array Value} {ps : Array Tmp} {A B : Code} {D : Nat} {args : Array Value} {W : World} {e0 : Env} {g : Operand} {pl : Nat → Plan} {ma mb : MC} {R : Ending → World → Prop} (hm : P.follows .mixedOrders = true) (hl : W.heap[l]? = some (.loop (loopRec fn tmps ps A B D)))
 (hsz : args.size = ps.size) (hn : tmps.size = n) (ht : ∀ t, t < n → tmps[t]? = some (e0 t)) (hf : fits n (.rangeFunc g ps A B) = true)
 (hokA : (plansOk pl A && noDefer A) = true) (hokB : (plansOk pl B && noDefer B) = true) (hsA : strip pl A = ma) (hsB : strip pl B = mb)
 (h : mwpB P ma (setPs e0 ps.toList args.toList) [] W
  (fun e1 ds1 W1 => ds1 = [] ∧ ∃ r1, W1.heap[l]? = some (.loop r1) ∧ r1.state = .ready ∧ mwpB P mb e1 [] (W1.putObj l (.loop { r1 with state := .busy }))
   (fun _ _ W2 => ∃ r2, W2.heap[l]? = some (.loop r2) ∧ R (.returned (.bool true)) (W2.putObj l (.loop { r2 with state := .ready, pending := none })))
   (fun i _ _ W2 => ∃ r2, W2.heap[l]? = some (.loop r2) ∧ R (.returned (.bool false)) (W2.putObj l (.loop { r2 with state := .done, pending := some (.exit i) })))
   (fun _ _ W2 => ∃ r2, W2.heap[l]? = some (.loop r2) ∧ R (.returned (.bool false)) (W2.putObj l (.loop { r2 with state := .done, pending := some .ret })))
   (fun _ _ _ _ => False) ⟨⟩)
  (fun _ _ _ _ => False) (fun _ _ _ => False) (fun _ _ _ _ => False) ⟨⟩) : YieldAt Fence.wide 1 P l args W R := by
 subst hsA
 subst hsB
 unfold mwpB at h
 simp only [Bool.and_eq_true] at hokA hokB
 exact yieldAt_round (r := loopRec fn tmps ps A B D) hm hl hsz hn ht hf ⟨hokA.2, hokA.1⟩ ⟨hokB.2, hokB.1⟩ h
end
theorem endW_nil {P : Program} {rs : List ResultVar} {e : Env} {w : World} {Q : Value → World → Prop} : endW P rs [] e w Q = resW P rs e w fun v => Q v w := by with_unfolding_all rfl
theorem endW_cons {P : Program} {rs : List ResultVar} {d : Deferred} {ds : List Deferred} {e : Env} {w : World} {Q : Value → World → Prop} : endW P rs (d :: ds) e w Q = ∃ r w', d.target = .collected r ∧ (Instr.takeDeferred r).run P w = .ok [] w' ∧ endW P rs ds e w' Q := by with_unfolding_all rfl
theorem setPs_two (e : Env) (p q : Nat) (v u : Value) : setPs e [p, q] [v, u] = upd (upd e p v) q u := rfl
theorem Bk.put {w : World} {b D : Nat} {cs : List Value} {t : TypeId} (h : Bk w b cs t) (hne : D ≠ b) (o : Obj) : Bk (w.putObj D o) b cs t := by
 unfold Bk at h ⊢
 rw [World.putObj_heap_other (Ne.symm hne)]; exact h
structure Set2 (w : World) (b4 b5 : Nat) (v4 v5 : Value) (t4 t5 : TypeId) : Prop where
 s4 : (w.cell? ⟨b4, 0, none⟩).isSome = true
 z4 : w.frozen? ⟨b4, 0, none⟩ = false
 s5 : ((w.setCell ⟨b4, 0, none⟩ v4).cell? ⟨b5, 0, none⟩).isSome = true
 z5 : (w.setCell ⟨b4, 0, none⟩ v4).frozen? ⟨b5, 0, none⟩ = false
 k4 : Bk ((w.setCell ⟨b4, 0, none⟩ v4).setCell ⟨b5, 0, none⟩ v5) b4 [v4] t4
 k5 : Bk ((w.setCell ⟨b4, 0, none⟩ v4).setCell ⟨b5, 0, none⟩ v5) b5 [v5] t5
 ch : ChP (fun k => k = b4 ∨ k = b5) w ((w.setCell ⟨b4, 0, none⟩ v4).setCell ⟨b5, 0, none⟩ v5)
theorem set2 {w : World} {b4 b5 : Nat} {x y : Value} {t4 t5 : TypeId} (h4 : Bk w b4 [x] t4) (h5 : Bk w b5 [y] t5) (hne : b4 ≠ b5) (v4 v5 : Value) : Set2 w b4 b5 v4 v5 t4 t5 := by
 have e5 := h5.ne hne 0 v4
 exact ⟨by rw [h4.get (o := 0) rfl]; rfl, h4.frozen 0, by rw [e5.get (o := 0) rfl]; rfl, e5.frozen 0, (h4.set 0 v4).ne (Ne.symm hne) 0 v5, e5.set 0 v5, ((ChP.refl _ w).setCell (fun _ => .inl rfl) _).setCell (fun _ => .inr rfl) _⟩
theorem Ends.calls {P : Program} {f : FuncId} {args : Array Value} {w : World} {Q : Value → World → Prop} {X : List PanicEntry → World → Prop} (h : Ends P f args w Q X) : Calls P f args w (endR Q X) := by unfold Ends at h; exact h
theorem wiP_none (o : Option Fl) : WiP (o, none) := fun _ h => by cases h
theorem cell_put {W : World} {l : Nat} {o : Obj} (o' : Obj) (hl : W.heap[l]? = some o) (ho : o.isCells = false) : ∀ a v, W.cell? a = some v → (W.putObj l o').cell? a = some v := fun a v hc => by
 obtain ⟨ob, h1, h2⟩ := cells_of_cell hc
 have : a.block ≠ l := fun e => by rw [e, hl] at h1; cases h1; rw [ho] at h2; cases h2
 rw [World.cell?_of_block (w := W) (World.putObj_heap_other this)]
 exact hc
theorem FldAt.cells {w : World} {b o : Nat} {f : Fl} (h : FldAt w b o f) : ∃ s, w.cell? ⟨b, o, none⟩ = some (.int .i64 f.key) ∧ w.cell? ⟨b, o + 1, none⟩ = some (.int .i64 f.c.k) ∧ w.cell? ⟨b, o + 2, none⟩ = some (.int .i64 f.c.d) ∧ w.cell? ⟨b, o + 3, none⟩ = some s ∧ SlI w s f.c.L := by
 obtain ⟨s, h1, h2⟩ := h
 exact ⟨s, h1 0 _ rfl, h1 1 _ rfl, h1 2 _ rfl, h1 3 _ rfl, h2⟩
structure WiS (w0 u : World) (D l : Nat) (rec : Loop) (b4 b5 : Nat) (x4 : Bool) : Prop where
 ext : Ext w0 u
 dead : u.heap[D]? = some (.deferred (some []))
 loop : u.heap[l]? = some (.loop rec)
 k4 : Bk u b4 [.bool x4] 4
 k5 : Bk u b5 [.int .i64 0] 28
section
variable {w0 u u' : World} {D l b4 b5 : Nat} {rec r2 : Loop} {x4 : Bool}
theorem WiS.chp {G : Nat → Prop} (h : WiS w0 u D l rec b4 b5 x4) (c : ChP G u u') (hG : ∀ b, G b → w0.heap.size ≤ b) (h1 : ¬ G D) (h2 : ¬ G l) (h3 : ¬ G b4) (h4 : ¬ G b5) : WiS w0 u' D l rec b4 b5 x4 :=
 ⟨c.ext h.ext hG, by rw [c.block D (Array.getElem?_eq_some_iff.1 h.dead).1 h1]; exact h.dead, by rw [c.block l (Array.getElem?_eq_some_iff.1 h.loop).1 h2]; exact h.loop, c.bk h3 h.k4, c.bk h4 h.k5⟩
theorem WiS.next (h : WiS w0 u D l rec b4 b5 x4) (c : Ext u u') : WiS w0 u' D l rec b4 b5 x4 := h.chp (G := fun _ => False) (Ext.chp c) (fun _ h => h.elim) id id id id
theorem WiS.put (h : WiS w0 u D l rec b4 b5 x4) (h0 : w0.heap.size ≤ l) (h1 : l ≠ D) (h3 : l ≠ b4) (h4 : l ≠ b5) : WiS w0 (u.putObj l (.loop r2)) D l r2 b4 b5 x4 := by
 have c : ChP (fun k => k = l) u (u.putObj l (.loop r2)) := ChP.put (G := fun k => k = l) (ChP.refl _ u) (fun _ => rfl) _
 refine ⟨c.ext h.ext (fun b hb => by subst hb; exact h0), by rw [World.putObj_heap_other (Ne.symm h1)]; exact h.dead, ?_, h.k4.put h3 _, h.k5.put h4 _⟩
 exact World.putObj_heap_same (Array.getElem?_eq_some_iff.1 h.loop).1
end
theorem fieldsB_len : ∀ {l : List Fl} {k : Int}, fieldsB k l = true → l = [] ∨ (l.length : Int) + k ≤ 6
 | [], _, _ => .inl rfl
 | f :: l, k, h => by
  have h' := fieldsB_cons.1 h
  rcases fieldsB_len h'.2.2.2 with rfl | h2
  · right; simp; omega
  · right; simp only [List.length_cons]; omega
theorem tlP_mem {A B : List Fl} {x : Fl} (h : x ∈ tlP A B) : x ∈ A := by
 unfold tlP at h
 split at h
 · exact List.mem_of_mem_tail h
 · exact h
theorem hdP_mem : ∀ {A B : List Fl} {x : Fl}, hdP A B = some x → x ∈ A
 | [], _, _, h => by cases h
 | x :: A, [], _, h => by cases h; exact List.mem_cons_self ..
 | x :: A, y :: B, _, h => by
  unfold hdP at h
  simp only at h
  split at h
  · cases h; exact List.mem_cons_self ..
  · cases h
set_option maxHeartbeats 2000000 in
theorem FWithin_c (a b : Fm) (sa sb : Value) (w : World) (hA : SlF w sa a.F) (hB : SlF w sb b.F) : Rets ZP 28 #[fmV a sa, fmV b sb] w fun r w' => Ext w w' ∧
 if (a.valid && b.valid) = true then ∃ x : Bool, r = .tuple #[.bool x, .int .i64 0] ∧ (x = true ↔ wiF a b) else r = .tuple #[.bool false, .int .i64 1] := by
 obtain ⟨pa, ca, rfl, hc1, hc2⟩ := hA.shape
 obtain ⟨pb, cb, rfl, hc3, hc4⟩ := hB.shape
 obtain ⟨W, hW, A, B, C4, C5, hx⟩ : ∃ W, W = (((w.alloc (.cells #[.int .i64 a.m, .slice pa a.F.length ca] 24)).alloc (.cells #[.int .i64 b.m, .slice pb b.F.length cb] 24)).alloc (.cells #[.bool false] 4)).alloc (.cells #[.int .i64 0] 28) ∧
  Bk W w.heap.size [.int .i64 a.m, .slice pa a.F.length ca] 24 ∧ Bk W (w.heap.size + 1) [.int .i64 b.m, .slice pb b.F.length cb] 24 ∧ Bk W (w.heap.size + 2) [.bool false] 4 ∧ Bk W (w.heap.size + 3) [.int .i64 0] 28 ∧ Ext w W := by
  refine ⟨_, rfl, (((Bk.new w _ _).ext (Ext.alloc _ _)).ext (Ext.alloc _ _)).ext (Ext.alloc _ _), ?_, ?_, ?_, (((Ext.alloc _ _).trans (Ext.alloc _ _)).trans (Ext.alloc _ _)).trans (Ext.alloc _ _)⟩
  · have := Bk.new (w.alloc (.cells #[.int .i64 a.m, .slice pa a.F.length ca] 24)) [.int .i64 b.m, .slice pb b.F.length cb] 24
    rw [World.size_alloc] at this
    exact (this.ext (Ext.alloc _ _)).ext (Ext.alloc _ _)
  · have := Bk.new ((w.alloc (.cells #[.int .i64 a.m, .slice pa a.F.length ca] 24)).alloc (.cells #[.int .i64 b.m, .slice pb b.F.length cb] 24)) [.bool false] 4
    rw [World.size_alloc, World.size_alloc] at this
    exact this.ext (Ext.alloc _ _)
  · have := Bk.new (((w.alloc (.cells #[.int .i64 a.m, .slice pa a.F.length ca] 24)).alloc (.cells #[.int .i64 b.m, .slice pb b.F.length cb] 24)).alloc (.cells #[.bool false] 4)) [.int .i64 0] 28
    rw [World.size_alloc, World.size_alloc, World.size_alloc] at this
    exact this
 have hsz : W.heap.size = w.heap.size + 4 := by rw [hW]; simp only [World.size_alloc]
 refine enM28 ?_
 refine mwpB_cut 1 (fun e ds w' => e 2 = .pointer (some ⟨w.heap.size, 0, none⟩) ∧ e 3 = .pointer (some ⟨w.heap.size + 1, 0, none⟩) ∧ e 4 = .pointer (some ⟨w.heap.size + 2, 0, none⟩) ∧ e 5 = .pointer (some ⟨w.heap.size + 3, 0, none⟩) ∧ ds = [] ∧ w' = W) ?_ ?_
 · simp -dsimp -implicitDefEqProofs only [fmV,headM_zero,headM_seq,World.size_alloc,Nat.add_assoc,← hW,m28,sF28,ZA,↓reduceIte,ZB,ZC,ZJ,ZK,ZE,ZF,ZG,ZH,ZI,reduceCtorEq,ZD,mwV,↓mwD,mwU]
 clear hW
 rintro e ds w0 ⟨k2, k3, k4, k5, rfl, rfl⟩
 have A0 := A.get (o := 0) rfl
 have A1 := A.get (o := 1) rfl
 simp -dsimp -implicitDefEqProofs only [tailM_zero,tailM_seq,k2,k3,k4,k5,A0,A1,m28,sF28,ZA,↓reduceIte,ZB,ZC,ZJ,ZK,ZE,ZF,ZG,ZH,ZI,reduceCtorEq,ZD,mwV,↓mwD,mwU]
 refine (Valid_c a _ w0 (hA.ext hx)).use ?_
 rintro r w1 ⟨rfl, h1⟩
 cases va : a.valid
 · have S := set2 (C4.ext h1) (C5.ext h1) (by omega) (.bool false) (.int .i64 1)
   have r4 := S.k4.get (o := 0) rfl
   have r5 := S.k5.get (o := 0) rfl
   have hch := S.ch.ext (hx.trans h1) (fun b hb => by rcases hb with rfl | rfl <;> omega)
   simp -dsimp -implicitDefEqProofs only [k2,k3,k4,k5,S.s4,S.z4,S.s5,S.z5,endW_nil,r4,r5,m28,sF28,ZA,↓reduceIte,ZB,ZC,ZJ,ZK,ZE,ZF,ZG,ZH,ZI,reduceCtorEq,ZD,mwV,↓mwD,mwU]
   exact ⟨hch, by simp⟩
 have B0' := (B.ext h1).get (o := 0) rfl
 have B1' := (B.ext h1).get (o := 1) rfl
 simp -dsimp -implicitDefEqProofs only [k2,k3,k4,k5,B0',B1',m28,sF28,ZA,↓reduceIte,ZB,ZC,ZJ,ZK,ZE,ZF,ZG,ZH,ZI,reduceCtorEq,ZD,mwV,↓mwD,mwU]
 refine (Valid_c b _ w1 (hB.ext (hx.trans h1))).use ?_
 rintro r w2 ⟨rfl, h2⟩
 have h12 := h1.trans h2
 have hx2 := hx.trans h12
 have D4 := C4.ext h12
 have D5 := C5.ext h12
 cases vb : b.valid
 · have S := set2 D4 D5 (by omega) (.bool false) (.int .i64 1)
   have r4 := S.k4.get (o := 0) rfl
   have r5 := S.k5.get (o := 0) rfl
   have hch := S.ch.ext hx2 (fun b hb => by rcases hb with rfl | rfl <;> omega)
   simp -dsimp -implicitDefEqProofs only [k2,k3,k4,k5,S.s4,S.z4,S.s5,S.z5,endW_nil,r4,r5,m28,sF28,ZA,↓reduceIte,ZB,ZC,ZJ,ZK,ZE,ZF,ZG,ZH,ZI,reduceCtorEq,ZD,mwV,↓mwD,mwU]
   exact ⟨hch, by simp⟩
 have A0 := (A.ext h12).get (o := 0) rfl
 have A1 := (A.ext h12).get (o := 1) rfl
 have B0 := (B.ext h12).get (o := 0) rfl
 have B1 := (B.ext h12).get (o := 1) rfl
 by_cases hm : a.m = b.m
 · simp -dsimp -implicitDefEqProofs only [k2,k3,k4,k5,A0,A1,B0,B1,hm,m28,sF28,ZA,↓reduceIte,ZB,ZC,ZJ,ZK,ZE,ZF,ZG,ZH,ZI,reduceCtorEq,ZD,mwV,↓mwD,mwU]
   refine (both_c _ _ w2).use ?_
   rintro r w3 ⟨rfl, hw3⟩
   simp -dsimp -implicitDefEqProofs only [m28,sF28,ZA,↓reduceIte,ZB,ZC,ZJ,ZK,ZE,ZF,ZG,ZH,ZI,reduceCtorEq,ZD,mwV,↓mwD,mwU]
   generalize hE : updO _ (some 25) _ = E0
   have q25 : E0 25 = .func (.func 103) #[] #[.pointer (some ⟨w2.heap.size, 0, none⟩), .pointer (some ⟨w2.heap.size + 1, 0, none⟩)] := by rw [← hE]; rfl
   have q4 : E0 4 = .pointer (some ⟨w.heap.size + 2, 0, none⟩) := by rw [← hE]; exact k4
   have q5 : E0 5 = .pointer (some ⟨w.heap.size + 3, 0, none⟩) := by rw [← hE]; exact k5
   clear hE k2 k3 k4 k5
   have hx3 : Ext w2 w3 := by rw [hw3]; exact (Ext.alloc _ _).trans (Ext.alloc _ _)
   have hsz3 : w3.heap.size = w2.heap.size + 2 := by rw [hw3]; simp only [World.size_alloc]
   have ka : Bk w3 w2.heap.size [.slice pa a.F.length ca] 22 := by rw [hw3]; exact (Bk.new w2 [.slice pa a.F.length ca] _).ext (Ext.alloc _ _)
   have kb : Bk w3 (w2.heap.size + 1) [.slice pb b.F.length cb] 22 := by
    have := Bk.new (w2.alloc (.cells #[.slice pa a.F.length ca] 22)) [.slice pb b.F.length cb] 22
    rw [World.size_alloc] at this
    rw [hw3]; exact this
   clear hw3
   have hs2 : w.heap.size + 4 ≤ w2.heap.size := by have := h12.size; omega
   refine mwpB_rng rfE28_0 (by rw [ev_tmp]; exact q25) okF_103 (fun n fn tmps hn ht hf => ?_)
   have hx34 : Ext w3 ((w3.alloc (.deferred (some []))).alloc (.loop (loopRec fn tmps #[26, 27] ra28_0 rb28_0 w3.heap.size))) := (Ext.alloc _ _).trans (Ext.alloc _ _)
   have hD : ((w3.alloc (.deferred (some []))).alloc (.loop (loopRec fn tmps #[26, 27] ra28_0 rb28_0 w3.heap.size))).heap[w3.heap.size]? = some (.deferred (some [])) := by
    rw [Below.heap_alloc _ _ _ (by rw [World.size_alloc]; omega)]; exact heap_alloc_new w3 _
   have hL : ((w3.alloc (.deferred (some []))).alloc (.loop (loopRec fn tmps #[26, 27] ra28_0 rb28_0 w3.heap.size))).heap[w3.heap.size + 1]? = some (.loop (loopRec fn tmps #[26, 27] ra28_0 rb28_0 w3.heap.size)) := by
    have := heap_alloc_new (w3.alloc (.deferred (some []))) (.loop (loopRec fn tmps #[26, 27] ra28_0 rb28_0 w3.heap.size))
    rw [World.size_alloc] at this; exact this
   generalize (w3.alloc (.deferred (some []))).alloc (.loop (loopRec fn tmps #[26, 27] ra28_0 rb28_0 w3.heap.size)) = W4 at *
   generalize hrec : loopRec fn tmps #[26, 27] ra28_0 rb28_0 w3.heap.size = rec at *
   have hready : rec.state = .ready := by rw [← hrec]; rfl
   have fA : fieldsB 0 a.F = true := by unfold Fm.valid at va; simp only [Bool.and_eq_true] at va; exact va.1
   have fB : fieldsB 0 b.F = true := by unfold Fm.valid at vb; simp only [Bool.and_eq_true] at vb; exact vb.1
   have lenA : a.F.length ≤ 1000 := by
    rcases fieldsB_len fA with h | h
    · rw [h]; simp
    · omega
   have lenB : b.F.length ≤ 1000 := by
    rcases fieldsB_len fB with h | h
    · rw [h]; simp
    · omega
   show Calls _ _ #[.func (.yield (w3.heap.size + 1)) #[] #[], .pointer (some ⟨w2.heap.size, 0, none⟩), .pointer (some ⟨w2.heap.size + 1, 0, none⟩)] _ _
   refine Calls.mono (both1_c (l := w3.heap.size + 1) (ba := w2.heap.size) (bb := w2.heap.size + 1) (W0 := w) (W := W4) (A := a.F) (B := b.F)
    (J := fun A' B' u => WiS w u w3.heap.size (w3.heap.size + 1) rec (w.heap.size + 2) (w.heap.size + 3) false ∧ ((∀ p ∈ pairs a.F b.F, WiP p) ↔ ∀ p ∈ pairs A' B', WiP p) ∧ (∀ x ∈ A', x.c.valid = true) ∧ ∀ y ∈ B', y.c.valid = true)
    (S := fun u => WiS w u w3.heap.size (w3.heap.size + 1) { rec with state := .done, pending := some .ret } (w.heap.size + 2) (w.heap.size + 3) false ∧ ¬ ∀ p ∈ pairs a.F b.F, WiP p)
    (T := fun _ _ => False) (by omega) lenA lenB (by omega) (by omega) hA hB (ka.ext hx34) (kb.ext hx34) (fun A' B' u h => h.1.ext)
    (fun A' B' u u' h c _ _ => ⟨h.1.chp c (fun b hb => by rcases hb with rfl | rfl <;> omega) (by omega) (by omega) (by omega) (by omega), h.2⟩)
    ?rnd ⟨⟨(hx2.trans hx3).trans hx34, hD, hL, (D4.ext hx3).ext hx34, (D5.ext hx3).ext hx34⟩, Iff.rfl, fun x hx => (fieldsB_mem fA x hx).2.2, fun y hy => (fieldsB_mem fB y hy).2.2⟩).calls ?fin
   case fin =>
    intro en w5 hq
    cases en with
    | outgrown => exact hq.elim
    | panicked ch => exact hq.elim
    | returned v =>
     rcases hq with ⟨hS, hiff, _⟩ | ⟨hS, hno⟩
     · refine ⟨v, _, _, rfl, run_endLoop hS.loop (by rw [hready]; decide), ?_⟩
       have hp : rec.pending = none := by rw [← hrec]; rfl
       have hS2 := hS.put (r2 := { rec with state := .exhausted }) (by omega) (by omega) (by omega) (by omega)
       generalize w5.putObj (w3.heap.size + 1) _ = W6 at *
       rw [hp]
       have Z := set2 hS2.k4 hS2.k5 (by omega) (.bool true) (.int .i64 0)
       have hch := (Z.ch.ext hS2.ext (fun b hb => by rcases hb with rfl | rfl <;> omega))
       have hdead := (Z.ch.block w3.heap.size (Array.getElem?_eq_some_iff.1 hS2.dead).1 (by omega)).trans hS2.dead
       simp -dsimp -implicitDefEqProofs only [q4,q5,Z.s4,Z.z4,Z.s5,Z.z5,endW_cons,m28,sF28,ZA,↓reduceIte,ZB,ZC,ZJ,ZK,ZE,ZF,ZG,ZH,ZI,reduceCtorEq,ZD,mwV,↓mwD,mwU]
       refine ⟨_, _, rfl, run_takeDeferred hdead, ?_⟩
       have r4 := (Z.k4.put (D := w3.heap.size) (by omega) (.deferred none)).get (o := 0) rfl
       have r5 := (Z.k5.put (D := w3.heap.size) (by omega) (.deferred none)).get (o := 0) rfl
       have hch2 := (ChP.put (G := fun k => k = w3.heap.size) (ChP.refl _ _) (fun _ => rfl) (.deferred none)).ext hch (fun b hb => by subst hb; omega)
       simp -dsimp -implicitDefEqProofs only [q4,q5,endW_nil,r4,r5,m28,sF28,ZA,↓reduceIte,ZB,ZC,ZJ,ZK,ZE,ZF,ZG,ZH,ZI,reduceCtorEq,ZD,mwV,↓mwD,mwU]
       refine ⟨hch2, ?_⟩
       rw [if_pos (by rfl)]
       refine ⟨true, rfl, ⟨fun _ => ⟨hm, (pairs_within _ _ _ _ fA fB).1 (hiff.2 (fun p hp => by rw [pairs] at hp; cases hp))⟩, fun _ => rfl⟩⟩
     · refine ⟨v, _, _, rfl, run_endLoop hS.loop (by simp), ?_⟩
       have hS2 := hS.put (r2 := { rec with state := .exhausted, pending := some .ret }) (by omega) (by omega) (by omega) (by omega)
       generalize w5.putObj (w3.heap.size + 1) _ = W6 at *
       simp -dsimp -implicitDefEqProofs only [endW_cons,m28,sF28,ZA,↓reduceIte,ZB,ZC,ZJ,ZK,ZE,ZF,ZG,ZH,ZI,reduceCtorEq,ZD,mwV,↓mwD,mwU]
       refine ⟨_, _, rfl, run_takeDeferred hS2.dead, ?_⟩
       have r4 := (hS2.k4.put (D := w3.heap.size) (by omega) (.deferred none)).get (o := 0) rfl
       have r5 := (hS2.k5.put (D := w3.heap.size) (by omega) (.deferred none)).get (o := 0) rfl
       have hch2 := (ChP.put (G := fun k => k = w3.heap.size) (ChP.refl _ _) (fun _ => rfl) (.deferred none)).ext hS2.ext (fun b hb => by subst hb; omega)
       simp -dsimp -implicitDefEqProofs only [q4,q5,endW_nil,r4,r5,m28,sF28,ZA,↓reduceIte,ZB,ZC,ZJ,ZK,ZE,ZF,ZG,ZH,ZI,reduceCtorEq,ZD,mwV,↓mwD,mwU]
       refine ⟨hch2, ?_⟩
       rw [if_pos (by rfl)]
       exact ⟨false, rfl, ⟨fun h => (by cases h), fun h => absurd ((pairs_within _ _ _ _ fA fB).2 h.2) hno⟩⟩
   case rnd =>
    intro A' B' px py u hj hne hpx hpy ⟨_, lba⟩ ⟨_, lbb⟩
    replace lba := lba.lt
    replace lbb := lbb.lt
    refine yield_rnd follows_mo (by rw [hrec]; exact hj.1.loop) rfl hn ht hf okra28_0 okrb28_0 stra28_0 strb28_0 ?_
    simp -dsimp -implicitDefEqProofs only [mra28_0,setPs_two,m28,sF28,ZA,↓reduceIte,ZB,ZC,ZJ,ZK,ZE,ZF,ZG,ZH,ZI,reduceCtorEq,ZD,mwV,↓mwD,mwU]
    refine ⟨rec, hj.1.loop, hready, ?_⟩
    have hB0 := hj.1.put (r2 := { rec with state := .busy }) (by omega) (by omega) (by omega) (by omega)
    have hkp := cell_put (.loop { rec with state := .busy }) hj.1.loop rfl
    have hkeep : ∀ k, k ≠ w3.heap.size + 1 → (u.putObj (w3.heap.size + 1) (.loop { rec with state := .busy })).heap[k]? = u.heap[k]? := fun k hk => World.putObj_heap_other hk
    have hsU : (u.putObj (w3.heap.size + 1) (.loop { rec with state := .busy })).heap.size = u.heap.size := World.putObj_size
    generalize u.putObj (w3.heap.size + 1) _ = U at *
    obtain ⟨hj1, hj2, hj3, hj4⟩ := hj
    have hst := pairs_step hne
    -- a round that goes on
    have on : ∀ {U' : World}, Ext U U' → WiP (hdP A' B', hdP B' A') → ∃ r2, U'.heap[w3.heap.size + 1]? = some (Obj.loop r2) ∧ RoundB
     (fun A' B' u => WiS w u w3.heap.size (w3.heap.size + 1) rec (w.heap.size + 2) (w.heap.size + 3) false ∧ ((∀ p ∈ pairs a.F b.F, WiP p) ↔ ∀ p ∈ pairs A' B', WiP p) ∧ (∀ x ∈ A', x.c.valid = true) ∧ ∀ y ∈ B', y.c.valid = true)
     (fun u => WiS w u w3.heap.size (w3.heap.size + 1) { rec with state := .done, pending := some .ret } (w.heap.size + 2) (w.heap.size + 3) false ∧ ¬ ∀ p ∈ pairs a.F b.F, WiP p)
     (fun _ _ => False) A' B' w2.heap.size (w2.heap.size + 1) u (.returned (.bool true)) (U'.putObj (w3.heap.size + 1) (.loop { r2 with state := .ready, pending := none })) := fun {U'} hx hw => by
     have hn := hB0.next hx
     have hp := hn.put (r2 := rec) (by omega) (by omega) (by omega) (by omega)
     refine ⟨_, hn.loop, .inl ⟨rfl, ⟨?_, ?_, fun x hx => hj3 x (tlP_mem hx), fun y hy => hj4 y (tlP_mem hy)⟩, ?_, ?_⟩⟩
     · have e : ({ rec with state := .ready, pending := none } : Loop) = rec := by rw [← hrec]; rfl
       show WiS w (U'.putObj (w3.heap.size + 1) (.loop { rec with state := .ready, pending := none })) _ _ _ _ _ _
       rw [e]; exact hp
     · rw [hj2, hst]; simp only [List.mem_cons,forall_eq_or_imp,hw,true_and]
     · rw [World.putObj_heap_other (by omega), hx.block _ (by omega), hkeep _ (by omega)]
     · rw [World.putObj_heap_other (by omega), hx.block _ (by omega), hkeep _ (by omega)]
    have off : ∀ {U' : World}, WiS w U' w3.heap.size (w3.heap.size + 1) { rec with state := .busy } (w.heap.size + 2) (w.heap.size + 3) false → ¬ WiP (hdP A' B', hdP B' A') → ∃ r2, U'.heap[w3.heap.size + 1]? = some (Obj.loop r2) ∧ RoundB
     (fun A' B' u => WiS w u w3.heap.size (w3.heap.size + 1) rec (w.heap.size + 2) (w.heap.size + 3) false ∧ ((∀ p ∈ pairs a.F b.F, WiP p) ↔ ∀ p ∈ pairs A' B', WiP p) ∧ (∀ x ∈ A', x.c.valid = true) ∧ ∀ y ∈ B', y.c.valid = true)
     (fun u => WiS w u w3.heap.size (w3.heap.size + 1) { rec with state := .done, pending := some .ret } (w.heap.size + 2) (w.heap.size + 3) false ∧ ¬ ∀ p ∈ pairs a.F b.F, WiP p)
     (fun _ _ => False) A' B' w2.heap.size (w2.heap.size + 1) u (.returned (.bool false)) (U'.putObj (w3.heap.size + 1) (.loop { r2 with state := .done, pending := some .ret })) := fun {U'} hn hw => by
     refine ⟨_, hn.loop, .inr (.inl ⟨rfl, hn.put (by omega) (by omega) (by omega) (by omega), fun h => hw ((hj2.1 h) _ ?_)⟩)⟩
     rw [hst]; exact List.mem_cons_self ..
    generalize hE : updO _ (some 7) _ = E1
    have m6 : E1 6 = px := by rw [← hE]; rfl
    have m7 : E1 7 = py := by rw [← hE]; rfl
    have m4 : E1 4 = .pointer (some ⟨w.heap.size + 2, 0, none⟩) := by rw [← hE]; exact q4
    have m5 : E1 5 = .pointer (some ⟨w.heap.size + 3, 0, none⟩) := by rw [← hE]; exact q5
    clear hE
    cases hy : hdP B' A' with
    | none =>
     rw [hy] at hpy on
     obtain rfl : py = .pointer none := hpy
     simp -dsimp -implicitDefEqProofs only [mrb28_0,m28,sF28,ZA,↓reduceIte,ZB,ZC,ZJ,ZK,ZE,ZF,ZG,ZH,ZI,reduceCtorEq,ZD,mwV,↓mwD,mwU]
     refine mwpB_drawE ?_
     simp -dsimp -implicitDefEqProofs only [m6,m7,m4,m5,m28,sF28,ZA,↓reduceIte,ZB,ZC,ZJ,ZK,ZE,ZF,ZG,ZH,ZI,reduceCtorEq,ZD,mwV,↓mwD,mwU]
     exact on (Ext.drew _) (wiP_none _)
    | some y =>
     rw [hy] at hpy on off
     obtain ⟨bY, oY, rfl, hfY⟩ := hpy
     cases hxx : hdP A' B' with
     | none =>
      rw [hxx] at hpx on off
      obtain rfl : px = .pointer none := hpx
      have Z := set2 (hB0.next (Ext.drew U)).k4 (hB0.next (Ext.drew U)).k5 (by omega) (.bool false) (.int .i64 0)
      simp -dsimp -implicitDefEqProofs only [mrb28_0,m28,sF28,ZA,↓reduceIte,ZB,ZC,ZJ,ZK,ZE,ZF,ZG,ZH,ZI,reduceCtorEq,ZD,mwV,↓mwD,mwU]
      refine mwpB_drawE ?_
      simp -dsimp -implicitDefEqProofs only [m6,m7,m4,m5,Z.s4,Z.z4,Z.s5,Z.z5,m28,sF28,ZA,↓reduceIte,ZB,ZC,ZJ,ZK,ZE,ZF,ZG,ZH,ZI,reduceCtorEq,ZD,mwV,↓mwD,mwU]
      have hn := hB0.next (Ext.drew U)
      refine ⟨Z.s4, ?_⟩
      refine off ⟨Z.ch.ext hn.ext (fun b hb => by rcases hb with rfl | rfl <;> omega), ?_, ?_, Z.k4, Z.k5⟩ (wiP_right y)
      · rw [Z.ch.block _ (Array.getElem?_eq_some_iff.1 hn.dead).1 (by omega)]; exact hn.dead
      · rw [Z.ch.block _ (Array.getElem?_eq_some_iff.1 hn.loop).1 (by omega)]; exact hn.loop
     | some x =>
      rw [hxx] at hpx on off
      obtain ⟨bX, oX, rfl, hfX⟩ := hpx
      have vx := hj3 x (hdP_mem hxx)
      have vy := hj4 y (hdP_mem hy)
      obtain ⟨sx, x0, x1, x2, x3, hsx⟩ := (hfX.ext hB0.ext).cells
      obtain ⟨sy, y0, y1, y2, y3, hsy⟩ := (hfY.ext hB0.ext).cells
      obtain ⟨px, cx, rfl, _, _⟩ := hsx.shape
      obtain ⟨py, cy, rfl, _, _⟩ := hsy.shape
      simp -dsimp -implicitDefEqProofs only [mrb28_0,m28,sF28,ZA,↓reduceIte,ZB,ZC,ZJ,ZK,ZE,ZF,ZG,ZH,ZI,reduceCtorEq,ZD,mwV,↓mwD,mwU]
      refine mwpB_drawE ?_
      simp -dsimp -implicitDefEqProofs only [m6,m7,m4,m5,x1,x2,x3,y1,y2,y3,m28,sF28,ZA,↓reduceIte,ZB,ZC,ZJ,ZK,ZE,ZF,ZG,ZH,ZI,reduceCtorEq,ZD,mwV,↓mwD,mwU]
      refine (within_c x.c y.c _ _ U.drew vx vy (hsx.ext (Ext.drew _)) (hsy.ext (Ext.drew _))).use ?_
      rintro r U2 ⟨hx5, z, rfl, hz⟩
      have hxU : Ext U U2 := (Ext.drew U).trans hx5
      have hn := hB0.next hxU
      cases z
      · have Z := set2 hn.k4 hn.k5 (by omega) (.bool false) (.int .i64 0)
        simp -dsimp -implicitDefEqProofs only [hx5,m4,m5,Z.s4,Z.z4,Z.s5,Z.z5,m28,sF28,ZA,↓reduceIte,ZB,ZC,ZJ,ZK,ZE,ZF,ZG,ZH,ZI,reduceCtorEq,ZD,mwV,↓mwD,mwU]
        refine off ⟨Z.ch.ext hn.ext (fun b hb => by rcases hb with rfl | rfl <;> omega), ?_, ?_, Z.k4, Z.k5⟩ (fun h => by have := hz.2 ((wiP_both x y).1 h); cases this)
        · rw [Z.ch.block _ (Array.getElem?_eq_some_iff.1 hn.dead).1 (by omega)]; exact hn.dead
        · rw [Z.ch.block _ (Array.getElem?_eq_some_iff.1 hn.loop).1 (by omega)]; exact hn.loop
      · simp -dsimp -implicitDefEqProofs only [hx5,m28,sF28,ZA,↓reduceIte,ZB,ZC,ZJ,ZK,ZE,ZF,ZG,ZH,ZI,reduceCtorEq,ZD,mwV,↓mwD,mwU]
        exact on hxU ((wiP_both x y).2 (hz.1 rfl))
 · have S := set2 D4 D5 (by omega) (.bool false) (.int .i64 0)
   have r4 := S.k4.get (o := 0) rfl
   have r5 := S.k5.get (o := 0) rfl
   have hch := S.ch.ext hx2 (fun b hb => by rcases hb with rfl | rfl <;> omega)
   simp -dsimp -implicitDefEqProofs only [k2,k3,k4,k5,A0,A1,B0,B1,hm,S.s4,S.z4,S.s5,S.z5,endW_nil,r4,r5,m28,sF28,ZA,↓reduceIte,ZB,ZC,ZJ,ZK,ZE,ZF,ZG,ZH,ZI,reduceCtorEq,ZD,mwV,↓mwD,mwU]
   refine ⟨hch, ?_⟩
   simp [wiF, hm]
end Go.Proofs.YthcdnjbhhaonhaaGreatDoor
/- Layer 02: package format's own, and what join defers. -/
namespace Go.Proofs.YthcdnjbhhaonhaaGreatDoor
open Go.RowKit
open Nat renaming reduceEqDiff → ZA, reduceAdd → ZB, reduceMul → ZC, reduceSub → ZD
open Int renaming reduceToNat → ZE, reduceEq → ZF, reduceLT → ZG, reduceLE → ZH, reduceNeg → ZI
open Go.Value renaming oneCell' → ZK, cells → ZJ
open Go.Proofs.Tryz renaming prog → ZP
set_option linter.unusedSimpArgs false
theorem CloneI_c (v : Value) (xs : List Int) (w : World) (h : SlI w v xs) (hn : xs.length ≤ 1099511627776) :
 Rets ZP 113 #[v] w fun r w' => Ext w w' ∧ w'.ownsRow w.heap.size 3 1 r xs.length (ints xs) := by
 rcases h.clone with ⟨rfl, hx⟩ | ⟨a, cap, rfl, h1, h2, h3⟩
 · subst hx
   refine en113 ?_
   simp -dsimp -implicitDefEqProofs only [m113,sF113,ZA,↓reduceIte,ZB,ZC,ZJ,ZK,ZE,ZF,ZG,ZH,ZI,reduceCtorEq,ZD,mwV,↓mwD,mwU]
   exact ⟨Ext.refl _, World.ownsRow_nil _ _ _ _⟩
 · have hb : buildS ZP 33 0 [] = some (3, #[]) := by kernel_rfl
   refine en113 ?_
   simp -dsimp -implicitDefEqProofs only [hb,m113,sF113,ZA,↓reduceIte,ZB,ZC,ZJ,ZK,ZE,ZF,ZG,ZH,ZI,reduceCtorEq,ZD,mwV,↓mwD,mwU]
   have ho := own_new w [] 3 w.heap.size 0 1 rfl (Nat.le_refl _) (by simp)
   obtain ⟨v', w', ha, hown, hg⟩ := append_own (P := ZP) (w := w.alloc (.cells #[] 3)) (t := 33) (ty := 33) (z := .int .i64 0) (ats := [33, 33]) rfl telem_33 tok_3 tzero_3 (by rw [tsz_3]; rfl) (by rw [tsz_3]; omega)
    (by rw [tsz_3]; exact ho) (a := a) (m := xs.length) (c := cap) (news := ints xs) (by rw [tsz_3, ints_length]; omega)
    (fun j u hj => cell_old (h3 j u hj) _) (fun u hu => by simp [ints] at hu; obtain ⟨n, _, rfl⟩ := hu; rfl) (by unfold maxLen; omega) (by rw [tby_3]; omega) (by simp)
   refine appB.mk ha ?_
   simp -dsimp -implicitDefEqProofs only [m113,sF113,ZA,↓reduceIte,ZB,ZC,ZJ,ZK,ZE,ZF,ZG,ZH,ZI,reduceCtorEq,ZD,mwV,↓mwD,mwU]
   refine ⟨(Ext.alloc _ _).grown hg (fun k hk => ?_), ?_⟩
   · simp [Value.ownBlock] at hk; omega
   · rw [tsz_3] at hown; simpa using hown
theorem own_c (c : Ch) (s : Value) (w : World) (hs : SlI w s c.L) (hn : c.L.length ≤ 1099511627776) :
 Rets ZP 83 #[chV c s] w fun r w' => Ext w w' ∧ ∃ v, r = chV c v ∧ w'.ownsRow w.heap.size 3 1 v c.L.length (ints c.L) := by
 obtain ⟨W, hW, A, B, hx⟩ : ∃ W, W = (w.alloc (.cells #[.int .i64 c.k, .int .i64 c.d, s] 35)).alloc (.cells #[.int .i64 0, .int .i64 0, .slice none 0 0] 35) ∧ Bk W w.heap.size (cellsOf c s) 35 ∧ Bk W (w.heap.size + 1) [.int .i64 0, .int .i64 0, .slice none 0 0] 35 ∧ Ext w W := by
  refine ⟨_, rfl, (Bk.new w (cellsOf c s) _).ext (Ext.alloc _ _), ?_, (Ext.alloc _ _).trans (Ext.alloc _ _)⟩
  have := Bk.new (w.alloc (.cells #[.int .i64 c.k, .int .i64 c.d, s] 35)) [.int .i64 0, .int .i64 0, .slice none 0 0] 35
  rw [World.size_alloc] at this
  exact this
 have hsz : W.heap.size = w.heap.size + 2 := by rw [hW]; simp only [World.size_alloc]
 obtain ⟨p, cap, rfl, _, _⟩ := hs.shape
 have A2 := A.get (o := 2) rfl
 refine en83 ?_
 simp -dsimp -implicitDefEqProofs only [chV,World.size_alloc,← hW,A2,m83,sF83,ZA,↓reduceIte,ZB,ZC,ZJ,ZK,ZE,ZF,ZG,ZH,ZI,reduceCtorEq,ZD,mwV,↓mwD,mwU]
 refine (CloneI_c _ c.L W (hs.ext hx) hn).use ?_
 rintro r w2 ⟨hx2, hown⟩
 obtain ⟨_, q, cq, rfl⟩ := own_shape hown
 have hA := A.ext hx2
 have hB := B.ext hx2
 have f2 := hA.frozen 2
 have q2 := hA.get (o := 2) rfl
 have hA' := hA.set 2 (.slice q c.L.length cq)
 have hB' := hB.ne (show w.heap.size ≠ w.heap.size + 1 by omega) 2 (.slice q c.L.length cq)
 have hown' := Own.off (x := .slice q c.L.length cq) (b := w.heap.size) (o := 2) hown (fun he => by have := (World.ownsRow.lt hown _ he).1; omega)
 have hx3 : Ext w (w2.setCell ⟨w.heap.size, 2, none⟩ (.slice q c.L.length cq)) := (hx.trans hx2).setCell (by simp) _
 have a0 := hA'.get (o := 0) rfl
 have a1 := hA'.get (o := 1) rfl
 have a2 := hA'.get (o := 2) rfl
 simp -dsimp -implicitDefEqProofs only [World.size_alloc,f2,q2,m83,sF83,ZA,↓reduceIte,ZB,ZC,ZJ,ZK,ZE,ZF,ZG,ZH,ZI,reduceCtorEq,ZD,mwV,↓mwD,mwU]
 generalize w2.setCell _ _ = W3 at *
 have hP := put3 hB' (.int .i64 c.k) (.int .i64 c.d) (.slice q c.L.length cq)
 obtain ⟨y0, c0⟩ := hP.c0
 obtain ⟨y1, c1⟩ := hP.c1
 obtain ⟨y2, c2⟩ := hP.c2
 have z0 := hP.z0
 have z1 := hP.z1
 have z2 := hP.z2
 have k0 := hP.bk.get (o := 0) rfl
 have k1 := hP.bk.get (o := 1) rfl
 have k2 := hP.bk.get (o := 2) rfl
 simp -dsimp -implicitDefEqProofs only [World.size_alloc,a0,a1,a2,c0,c1,c2,z0,z1,z2,k0,k1,k2,m83,sF83,ZA,↓reduceIte,ZB,ZC,ZJ,ZK,ZE,ZF,ZG,ZH,ZI,reduceCtorEq,ZD,mwV,↓mwD,mwU]
 exact ⟨hx3.set3 (by omega) _ _ _, _, rfl, Own.mono (Own.set3 hown' (by omega) _ _ _) (by omega)⟩
def stopV (n : Int) : Value := .iface 124 (.agg #[.int .i64 n])
theorem ta_none (w : World) : (Instr.typeAssert .nilIface 20 124 true).run ZP w = .ok (.tuple #[.agg #[.int .i64 0], .bool false]) w := assertV_run (by kernel_rfl) w
theorem ta_stop (n : Int) (w : World) : (Instr.typeAssert (stopV n) 20 124 true).run ZP w = .ok (.tuple #[.agg #[.int .i64 n], .bool true]) w := assertV_run (by kernel_rfl) w
set_option maxRecDepth 10000 in
theorem joined_ret {w : World} {b4 b5 : Nat} : CallsDIn Fence.wide 1 ZP 109 #[.pointer (some ⟨b4, 0, none⟩), .pointer (some ⟨b5, 0, none⟩)] .returning w fun e u' w' => e = .returned (.tuple #[]) ∧ u' = .returning ∧ Ext w w' := by
 refine callsDIn_of_wpSIn Tryz.func109 rfl trivial fun c₀ cs hu => ?_
 apply wpSIn_seq
 apply wpSIn_region
 simp [wpOpsSIn, go_sem, recoverD, hu, ta_none, Tryz.ntmps109, Exit.thenS]
 apply wpSIn_seq
 apply wpSIn_region
 simp [wpOpsSIn, go_sem, Exit.thenS]
 refine wpSIn_cond (t := false) (by simp [Act.eval, Array.replicate]) ?_
 simp only [Bool.false_eq_true,if_false]
 refine wpSIn_of_wpIn rfl (wpIn_skip ?_)
 cases c₀
 simp_all [bodyPostS, results, Tryz.results109]
 exact Ext.alloc _ _
def stopM : MC := match m109 with
 | .seq _ (.seq _ (.cond _ d _)) => d
 | _ => .skip
theorem bv_fm0 : buildV ZP 24 [] = some (.agg #[.int .i64 0, .slice none 0 0]) := by kernel_rfl
set_option maxRecDepth 10000 in
theorem joined_stop {w : World} {b4 b5 : Nat} {n : Int} {x y z : Value} (h4 : Bk w b4 [x, y] 24) (h5 : Bk w b5 [z] 28) (hne : b4 ≠ b5) : CallsDIn Fence.wide 1 ZP 109 #[.pointer (some ⟨b4, 0, none⟩), .pointer (some ⟨b5, 0, none⟩)] (.panicking [⟨stopV n, false, false⟩]) w fun e u' w' =>
 e = .returned (.tuple #[]) ∧ settle u' = .returning ∧ ChP (fun k => k = b4 ∨ k = b5) w w' ∧ Bk w' b4 [.int .i64 0, .slice none 0 0] 24 ∧ Bk w' b5 [.int .i64 n] 28 := by
 refine callsDIn_of_wpSIn Tryz.func109 rfl trivial fun c₀ cs hu => ?_
 apply wpSIn_seq
 apply wpSIn_region
 simp [wpOpsSIn, go_sem, recoverD, hu, ta_stop, Tryz.ntmps109, Exit.thenS]
 apply wpSIn_seq
 apply wpSIn_region
 simp [wpOpsSIn, go_sem, Exit.thenS]
 refine wpSIn_cond (t := true) (by simp [Act.eval, Array.replicate]) ?_
 simp only [if_true]
 generalize hT : (#[Value.pointer (some ⟨b4, 0, none⟩), Value.pointer (some ⟨b5, 0, none⟩)] : Array Value) ++ _ = TM
 have hz : TM.size = 13 := by rw [← hT]; simp
 have g0 : TM.getD 0 undef = .pointer (some ⟨b4, 0, none⟩) := by rw [← hT]; simp [Array.getD_eq_getD_getElem?, Array.getElem?_append, Array.getElem?_setIfInBounds]
 have g1 : TM.getD 1 undef = .pointer (some ⟨b5, 0, none⟩) := by rw [← hT]; simp [Array.getD_eq_getD_getElem?, Array.getElem?_append, Array.getElem?_setIfInBounds]
 have g2 : TM.getD 2 undef = .pointer (some ⟨w.heap.size, 0, none⟩) := by rw [← hT]; simp [Array.getD_eq_getD_getElem?, Array.getElem?_append, Array.getElem?_setIfInBounds]
 clear hT
 have hx : Ext w (w.alloc (.cells #[.int .i64 n] 124)) := Ext.alloc _ _
 have hS : Bk (w.alloc (.cells #[.int .i64 n] 124)) w.heap.size [.int .i64 n] 124 := Bk.new _ _ _
 generalize w.alloc (.cells #[.int .i64 n] 124) = W at *
 refine wpSIn_of_wpIn rfl (wpIn_wide.2 (Go.wp_mono (mwp_sound (n := 13) follows_mo pl109 _ { tmps := TM, defers := [] } (fun t => TM.getD t undef) [] W (fun e ds w' => ds = [] ∧ ChP (fun k => k = b4 ∨ k = b5) W w' ∧ Bk w' b4 [.int .i64 0, .slice none 0 0] 24 ∧ Bk w' b5 [.int .i64 n] 28) (fun _ _ _ _ => False) (fun _ _ _ => False) (fun _ _ _ _ => False) (by kernel_rfl) (by kernel_rfl) ⟨hz, fun t ht => by simp [Array.getD, hz, ht], rfl⟩ ?_) fun ex a' w' hq => ?_))
 · show mwp _ stopM _ _ _ _ _ _ _
   have main : mwpB ZP stopM (fun t => TM.getD t undef) [] W (fun e ds w' => ds = [] ∧ ChP (fun k => k = b4 ∨ k = b5) W w' ∧ Bk w' b4 [.int .i64 0, .slice none 0 0] 24 ∧ Bk w' b5 [.int .i64 n] 28) (fun _ _ _ _ => False) (fun _ _ _ => False) (fun _ _ _ _ => False) ⟨⟩ := by
    have e0 : TM[0]?.getD undef = .pointer (some ⟨b4, 0, none⟩) := by rw [← g0, Array.getD_eq_getD_getElem?]
    have e1 : TM[1]?.getD undef = .pointer (some ⟨b5, 0, none⟩) := by rw [← g1, Array.getD_eq_getD_getElem?]
    have e2 : TM[2]?.getD undef = .pointer (some ⟨w.heap.size, 0, none⟩) := by rw [← g2, Array.getD_eq_getD_getElem?]
    have l4 := h4.lt
    have l5 := h5.lt
    have k4 : Bk W.drew b4 [x, y] 24 := (h4.ext hx).ext (Ext.drew _)
    have k5 : Bk W.drew b5 [z] 28 := (h5.ext hx).ext (Ext.drew _)
    have kS : Bk W.drew w.heap.size [.int .i64 n] 124 := hS.ext (Ext.drew _)
    have u4 := k4.set 0 (.int .i64 0)
    have v4 := u4.set 1 (.slice none 0 0)
    have v5 := (k5.ne hne 0 (.int .i64 0)).ne hne 1 (.slice none 0 0)
    have vS := (kS.ne (show b4 ≠ w.heap.size by omega) 0 (.int .i64 0)).ne (show b4 ≠ w.heap.size by omega) 1 (.slice none 0 0)
    have y4 := v4.ne (Ne.symm hne) 0 (.int .i64 n)
    have y5 := v5.set 0 (.int .i64 n)
    have ch : ChP (fun k => k = b4 ∨ k = b5) W (((W.drew.setCell ⟨b4, 0, none⟩ (.int .i64 0)).setCell ⟨b4, 1, none⟩ (.slice none 0 0)).setCell ⟨b5, 0, none⟩ (.int .i64 n)) := (((Ext.chp (Ext.drew W)).setCell (fun _ => .inl rfl) _).setCell (fun _ => .inl rfl) _).setCell (fun _ => .inr rfl) _
    have q0 := k4.get (o := 0) rfl
    have q1 := u4.get (o := 1) rfl
    have q2 := v5.get (o := 0) rfl
    have z0 := k4.frozen 0
    have z1 := u4.frozen 1
    have z2 := v5.frozen 0
    simp -dsimp -implicitDefEqProofs only [stopM,m109,sF109,ZA,↓reduceIte,ZB,ZC,ZJ,ZK,ZE,ZF,ZG,ZH,ZI,reduceCtorEq,ZD,mwV,↓mwD,mwU]
    refine mwpB_draw (fun w' => w'.cell? ⟨w.heap.size, 0, none⟩ = some (.int .i64 n)) (kS.get rfl) ?_
    simp -dsimp -implicitDefEqProofs only [bv_fm0,e0,e1,e2,m109,sF109,ZA,↓reduceIte,ZB,ZC,ZJ,ZK,ZE,ZF,ZG,ZH,ZI,reduceCtorEq,ZD,mwV,↓mwD,mwU]
    refine softB_load (v := .int .i64 n) (fun w' hw => ?_) ?_
    · simp -dsimp -implicitDefEqProofs only [e2,hw,m109,sF109,ZA,↓reduceIte,ZB,ZC,ZJ,ZK,ZE,ZF,ZG,ZH,ZI,reduceCtorEq,ZD,mwV,↓mwD,mwU]
    simp -dsimp -implicitDefEqProofs only [bv_fm0,e0,e1,e2,q0,q1,q2,z0,z1,z2,m109,sF109,ZA,↓reduceIte,ZB,ZC,ZJ,ZK,ZE,ZF,ZG,ZH,ZI,reduceCtorEq,ZD,mwV,↓mwD,mwU]
    exact ⟨vS.get rfl, ch, y4, y5⟩
   unfold mwpB at main
   exact main
 · cases ex with
   | normal =>
    obtain ⟨e', hr', hd, hch, k4, k5⟩ := hq
    exact ⟨hd, _, rfl, .tuple #[], by simp [results, Tryz.results109], rfl, rfl, (Ext.chp hx).trans hch, k4, k5⟩
   | exit i => obtain ⟨_, _, h⟩ := hq; exact h.elim
   | goto i => exact hq.elim
   | ret => obtain ⟨_, _, h⟩ := hq; exact h.elim
   | panic ch => obtain ⟨_, _, h⟩ := hq; exact h.elim
   | outgrown => exact hq.elim
end Go.Proofs.YthcdnjbhhaonhaaGreatDoor
/- Layer 02: rows of fields of a call's own. -/
namespace Go.Proofs.YthcdnjbhhaonhaaGreatDoor
open Go.RowKit
open Nat renaming reduceEqDiff → ZA, reduceAdd → ZB, reduceMul → ZC, reduceSub → ZD
open Int renaming reduceToNat → ZE, reduceEq → ZF, reduceLT → ZG, reduceLE → ZH, reduceNeg → ZI
open Go.Value renaming oneCell' → ZK, cells → ZJ
open Go.Proofs.Tryz renaming prog → ZP
set_option linter.unusedSimpArgs false
def rowsF : List (Fl × Value) → List Value
 | [] => []
 | p :: l => flVs p.1 p.2 ++ rowsF l
theorem rowsF_app : ∀ (a b : List (Fl × Value)), rowsF (a ++ b) = rowsF a ++ rowsF b
 | [], _ => rfl
 | p :: a, b => by rw [List.cons_append, rowsF, rowsF_app a b, rowsF, List.append_assoc]
theorem rowsF_get : ∀ {l : List (Fl × Value)} {k : Nat} {p : Fl × Value} {j : Nat} {u : Value}, l[k]? = some p → (flVs p.1 p.2)[j]? = some u → (rowsF l)[4 * k + j]? = some u
 | [], _, _, _, _, h, _ => by simp at h
 | q :: l, 0, p, j, u, h, hj => by
  simp only [List.getElem?_cons_zero,Option.some.injEq] at h
  subst h
  have := (List.getElem?_eq_some_iff.1 hj).1
  rw [rowsF, List.getElem?_append_left (by omega), show 4 * 0 + j = j by omega]; exact hj
 | q :: l, k + 1, p, j, u, h, hj => by
  rw [rowsF, List.getElem?_append_right (by simp [flVs]; omega)]
  rw [show 4 * (k + 1) + j - (flVs q.1 q.2).length = 4 * k + j by simp [flVs]; omega]
  exact rowsF_get (by simpa using h) hj
theorem Own.slF {w : World} {base : Nat} {v : Value} {acc : List (Fl × Value)} (h : w.ownsRow base 72 4 v acc.length (rowsF acc)) (hl : ∀ p ∈ acc, SlI w p.2 p.1.c.L) : SlF w v (acc.map (·.1)) := by
 rcases h.2 with ⟨hv, h0⟩ | ⟨g, cap, cur, hv, hb, hg, h1, h2, h3, h4⟩
 · have : acc = [] := List.eq_nil_of_length_eq_zero h0
   subst this
   rw [hv]; exact SlF.nil w
 · refine ⟨_, cap, by rw [hv, List.length_map], by rw [List.length_map]; omega, h2, fun _ => ⟨g, 0, rfl, fun k f hk => ?_⟩⟩
   rw [List.getElem?_map, Option.map_eq_some_iff] at hk
   obtain ⟨p, hp, rfl⟩ := hk
   refine ⟨p.2, fun j u hj => ?_, hl p (List.mem_of_getElem? hp)⟩
   have := World.ownsRow.cells h (g := g) (by simp [hv, Value.ownBlock]) (4 * k + j) u (rowsF_get hp hj)
   simpa [Addr.add_lit] using this
theorem Own.ch {w w' : World} {base : Nat} {e : TypeId} {size : Nat} {v : Value} {n : Nat} {cs : List Value} (h : w.ownsRow base e size v n cs) (hs : ∀ (k : Nat) (cur : Array Value), w.heap[k]? = some (Obj.cells cur e) → w'.heap[k]? = w.heap[k]?) : w'.ownsRow base e size v n cs := by
 refine ⟨h.1, ?_⟩
 rcases h.2 with h2 | ⟨g, cap, cur, hv, hg, hh, r⟩
 · exact .inl h2
 · exact .inr ⟨g, cap, cur, hv, hg, by rw [hs g _ hh]; exact hh, r⟩
theorem bs_fl (f : Fl) (s : Value) : buildS ZP 22 1 [(0, .agg #[.int .i64 f.key, .int .i64 f.c.k, .int .i64 f.c.d, s])] = some (72, #[.int .i64 f.key, .int .i64 f.c.k, .int .i64 f.c.d, s]) := by kernel_rfl
theorem append_fl {w : World} {base : Nat} {v : Value} {acc : List (Fl × Value)} (hown : w.ownsRow base 72 4 v acc.length (rowsF acc)) (f : Fl) (s : Value) (hs : s.oneCell' = true) (hn : acc.length ≤ 1000000) (hb : base ≤ w.heap.size) :
 ∃ v' w', (Builtin.append_ #[22, 22] 22 #[v, .slice (some ⟨w.heap.size, 0, none⟩) 1 1]).run ZP (w.alloc (.cells #[.int .i64 f.key, .int .i64 f.c.k, .int .i64 f.c.d, s] 72)) = .ok v' w' ∧ w'.ownsRow base 72 4 v' (acc ++ [(f, s)]).length (rowsF (acc ++ [(f, s)])) ∧
  (w.alloc (.cells #[.int .i64 f.key, .int .i64 f.c.k, .int .i64 f.c.d, s] 72)).grownBy w' v.ownBlock := by
 obtain ⟨v', w', ha, hown', hg⟩ := append_own (P := ZP) (w := w.alloc (.cells #[.int .i64 f.key, .int .i64 f.c.k, .int .i64 f.c.d, s] 72)) (t := 22) (ty := 22) (z := .agg #[.int .i64 0, .int .i64 0, .int .i64 0, .slice none 0 0]) (ats := [22, 22]) rfl telem_22 tok_72 tzero_72 (by rw [tsz_72]; rfl) (by rw [tsz_72]; omega)
  (by rw [tsz_72]; exact Own.ext hown (Ext.alloc _ _)) (a := ⟨w.heap.size, 0, none⟩) (m := 1) (c := 1) (news := flVs f s) (by rw [tsz_72]; rfl)
  (fun j u hj => by rw [Addr.add_lit, World.cell?_alloc_new]; simpa [flVs] using hj) (fun u hu => by simp [flVs] at hu; rcases hu with rfl | rfl | rfl | rfl <;> first | rfl | exact hs) (by unfold maxLen; omega) (by rw [tby_72]; omega) (by simp; omega)
 refine ⟨v', w', ha, ?_, hg⟩
 rw [tsz_72] at hown'
 rw [rowsF_app, List.length_append]
 simpa [rowsF] using hown'
def OwnF (w : World) (base : Nat) (v : Value) (acc : List (Fl × Value)) : Prop := w.ownsRow base 72 4 v acc.length (rowsF acc) ∧ ∀ p ∈ acc, w.ownsRow base 3 1 p.2 p.1.c.L.length (ints p.1.c.L)
structure JoS (w0 u : World) (D l : Nat) (rec : Loop) (b4 b5 : Nat) (m : Int) (v : Value) (acc : List (Fl × Value)) : Prop where
 ext : Ext w0 u
 dead : u.heap[D]? = some (.deferred (some []))
 loop : u.heap[l]? = some (.loop rec)
 k4 : Bk u b4 [.int .i64 m, v] 24
 k5 : Bk u b5 [.int .i64 0] 28
 own : u.ownsRow w0.heap.size 72 4 v acc.length (rowsF acc)
 lists : ∀ p ∈ acc, u.ownsRow w0.heap.size 3 1 p.2 p.1.c.L.length (ints p.1.c.L)
def Odd (u : World) (b : Nat) : Prop := ∀ (cs : Array Value) (t : TypeId), u.heap[b]? = some (Obj.cells cs t) → t ≠ 72 ∧ t ≠ 3
theorem Bk.odd {u : World} {b : Nat} {cs : List Value} {t : TypeId} (h : Bk u b cs t) (h1 : t ≠ 72) (h2 : t ≠ 3) : Odd u b := fun cs' t' h' => by
 unfold Bk at h
 rw [h] at h'
 simp only [Option.some.injEq,Obj.cells.injEq] at h'
 obtain ⟨_, rfl, _⟩ := h'
 exact ⟨h1, h2⟩
theorem odd_obj {u : World} {b : Nat} {o : Obj} (h : u.heap[b]? = some o) (ho : o.isCells = false) : Odd u b := fun cs' t' h' => by
 rw [h] at h'; cases h'; cases ho
section
variable {w0 u u' : World} {D l b4 b5 : Nat} {rec r2 : Loop} {m : Int} {v : Value} {acc : List (Fl × Value)}
theorem JoS.chp {G : Nat → Prop} (h : JoS w0 u D l rec b4 b5 m v acc) (c : ChP G u u') (hG : ∀ b, G b → w0.heap.size ≤ b) (h1 : ¬ G D) (h2 : ¬ G l) (h3 : ¬ G b4) (h4 : ¬ G b5) (hO : ∀ b, G b → Odd u b) : JoS w0 u' D l rec b4 b5 m v acc := by
 refine ⟨c.ext h.ext hG, by rw [c.block D (Array.getElem?_eq_some_iff.1 h.dead).1 h1]; exact h.dead, by rw [c.block l (Array.getElem?_eq_some_iff.1 h.loop).1 h2]; exact h.loop, c.bk h3 h.k4, c.bk h4 h.k5, Own.ch h.own fun k cur hk => ?_, fun p hp => Own.ch (h.lists p hp) fun k cur hk => ?_⟩
 · exact c.block k (Array.getElem?_eq_some_iff.1 hk).1 (fun hg => (hO k hg cur _ hk).1 rfl)
 · exact c.block k (Array.getElem?_eq_some_iff.1 hk).1 (fun hg => (hO k hg cur _ hk).2 rfl)
theorem JoS.next (h : JoS w0 u D l rec b4 b5 m v acc) (c : Ext u u') : JoS w0 u' D l rec b4 b5 m v acc := h.chp (G := fun _ => False) (Ext.chp c) (fun _ h => h.elim) id id id id (fun _ h => h.elim)
theorem JoS.put (h : JoS w0 u D l rec b4 b5 m v acc) (h0 : w0.heap.size ≤ l) (h1 : l ≠ D) (h3 : l ≠ b4) (h4 : l ≠ b5) : JoS w0 (u.putObj l (.loop r2)) D l r2 b4 b5 m v acc := by
 have c : ChP (fun k => k = l) u (u.putObj l (.loop r2)) := ChP.put (G := fun k => k = l) (ChP.refl _ u) (fun _ => rfl) _
 have no : ∀ (k : Nat) (cur : Array Value) (t : TypeId), u.heap[k]? = some (Obj.cells cur t) → k ≠ l := fun k cur t hk e => by subst e; rw [h.loop] at hk; cases hk
 refine ⟨c.ext h.ext (fun b hb => by subst hb; exact h0), by rw [World.putObj_heap_other (Ne.symm h1)]; exact h.dead, World.putObj_heap_same (Array.getElem?_eq_some_iff.1 h.loop).1, h.k4.put h3 _, h.k5.put h4 _, Own.ch h.own fun k cur hk => ?_, fun p hp => Own.ch (h.lists p hp) fun k cur hk => ?_⟩
 · exact World.putObj_heap_other (no k cur _ hk)
 · exact World.putObj_heap_other (no k cur _ hk)
theorem OwnF.slF {w : World} {base : Nat} (h : OwnF w base v acc) : SlF w v (acc.map (·.1)) := Own.slF h.1 fun p hp => Own.sl (h.2 p hp)
theorem OwnF.ext {w w' : World} {base : Nat} (h : OwnF w base v acc) (c : Ext w w') : OwnF w' base v acc := ⟨Own.ext h.1 c, fun p hp => Own.ext (h.2 p hp) c⟩
theorem OwnF.mono {w : World} {base base' : Nat} (h : OwnF w base v acc) (hb : base' ≤ base) : OwnF w base' v acc := ⟨Own.mono h.1 hb, fun p hp => Own.mono (h.2 p hp) hb⟩
theorem OwnF.ch {w w' : World} {base : Nat} {G : Nat → Prop} (h : OwnF w base v acc) (c : ChP G w w') (hO : ∀ b, G b → Odd w b) : OwnF w' base v acc := by
 refine ⟨Own.ch h.1 fun k cur hk => ?_, fun p hp => Own.ch (h.2 p hp) fun k cur hk => ?_⟩
 · exact c.block k (Array.getElem?_eq_some_iff.1 hk).1 (fun hg => (hO k hg cur _ hk).1 rfl)
 · exact c.block k (Array.getElem?_eq_some_iff.1 hk).1 (fun hg => (hO k hg cur _ hk).2 rfl)
theorem JoS.ownF (h : JoS w0 u D l rec b4 b5 m v acc) : OwnF u w0.heap.size v acc := ⟨h.own, h.lists⟩
theorem own_slice {w : World} {base n size : Nat} {e : TypeId} {v : Value} {cs : List Value} (h : w.ownsRow base e size v n cs) : ∃ q k c, v = .slice q k c := by
 rcases h.2 with ⟨hv, _⟩ | ⟨g, cap, cur, hv, _⟩
 · exact ⟨_, _, _, hv⟩
 · exact ⟨_, _, _, hv⟩
theorem JoS.push {u1 u2 : World} {f : Fl} {s v2 : Value} (h : JoS w0 u D l rec b4 b5 m v acc) (hx : Ext u u1) (hne : b4 ≠ b5) (h4 : w0.heap.size ≤ b4) (hs : u1.ownsRow w0.heap.size 3 1 s f.c.L.length (ints f.c.L))
 (hown : u2.ownsRow w0.heap.size 72 4 v2 (acc ++ [(f, s)]).length (rowsF (acc ++ [(f, s)]))) (hg : (u1.alloc (.cells #[.int .i64 f.key, .int .i64 f.c.k, .int .i64 f.c.d, s] 72)).grownBy u2 v.ownBlock) :
 Ext w0 u2 ∧ Bk u2 b4 [.int .i64 m, v] 24 ∧ JoS w0 (u2.setCell ⟨b4, 1, none⟩ v2) D l rec b4 b5 m v2 (acc ++ [(f, s)]) ∧ ∀ k, k < u.heap.size → k ≠ b4 → Odd u k → (u2.setCell ⟨b4, 1, none⟩ v2).heap[k]? = u.heap[k]? := by
 have hx1 : Ext u (u1.alloc (.cells #[.int .i64 f.key, .int .i64 f.c.k, .int .i64 f.c.d, s] 72)) := hx.trans (Ext.alloc _ _)
 have rowO : ∀ k, v.ownBlock = some k → ∃ cur, u.heap[k]? = some (Obj.cells cur 72) := fun k hk => by
  rcases h.own.2 with ⟨hv, _⟩ | ⟨g, cap, cur, hv, _, hh, _⟩
  · rw [hv] at hk; cases hk
  · rw [hv] at hk; simp only [Value.ownBlock,Option.some.injEq] at hk; subst hk; exact ⟨cur, hh⟩
 have keep2 : ∀ k, k < u.heap.size → (∀ cur, u.heap[k]? ≠ some (Obj.cells cur 72)) → u2.heap[k]? = u.heap[k]? := fun k hk hn => by
  rw [hg.block k (Nat.lt_of_lt_of_le hk hx1.size) (fun e => by obtain ⟨cur, hc⟩ := rowO k e.symm; exact hn cur hc), hx1.block k hk]
 have odd2 : ∀ k, Odd u k → ∀ cur, u.heap[k]? ≠ some (Obj.cells cur 72) := fun k ho cur hc => (ho cur _ hc).1 rfl
 have k42 : Bk u2 b4 [.int .i64 m, v] 24 := by
  unfold Bk; rw [keep2 b4 h.k4.lt (odd2 _ (h.k4.odd (by decide) (by decide)))]; exact h.k4
 have k52 : Bk u2 b5 [.int .i64 0] 28 := by
  unfold Bk; rw [keep2 b5 h.k5.lt (odd2 _ (h.k5.odd (by decide) (by decide)))]; exact h.k5
 have lD := (Array.getElem?_eq_some_iff.1 h.dead).1
 have lL := (Array.getElem?_eq_some_iff.1 h.loop).1
 have dead2 := (keep2 D lD (odd2 _ (odd_obj h.dead rfl))).trans h.dead
 have loop2 := (keep2 l lL (odd2 _ (odd_obj h.loop rfl))).trans h.loop
 have hD : D ≠ b4 := fun e => by have := h.k4; unfold Bk at this; rw [← e, h.dead] at this; cases this
 have hL : l ≠ b4 := fun e => by have := h.k4; unfold Bk at this; rw [← e, h.loop] at this; cases this
 have listK : ∀ {k : Nat} {cur : Array Value}, u1.heap[k]? = some (Obj.cells cur 3) → (u2.setCell ⟨b4, 1, none⟩ v2).heap[k]? = u1.heap[k]? := fun {k cur} hk => by
  have hkl := (Array.getElem?_eq_some_iff.1 hk).1
  have hkb : k ≠ b4 := fun e => by
   have := h.k4.ext hx
   unfold Bk at this
   rw [← e, hk] at this
   simp at this
  rw [Below.heap_setCell _ _ _ _ hkb, hg.block k (by rw [World.size_alloc]; omega) (fun e => ?_), Below.heap_alloc _ _ _ hkl]
  obtain ⟨cur', hc⟩ := rowO k e.symm
  have hku := (Array.getElem?_eq_some_iff.1 hc).1
  rw [hx.block k hku, hc] at hk
  simp at hk
 have hx2 : Ext w0 u2 := ((h.ext.trans hx).trans (Ext.alloc _ _)).grown hg (fun k hk => (World.ownsRow.lt h.own k hk).1)
 refine ⟨hx2, k42, ⟨?_, by rw [Below.heap_setCell _ _ _ _ hD]; exact dead2, by rw [Below.heap_setCell _ _ _ _ hL]; exact loop2, k42.set 1 v2, k52.ne hne 1 v2, Own.off hown (own_ne hown k42 (by decide)), fun p hp => ?_⟩, fun k hk hk4 ho => ?_⟩
 · exact hx2.setCell h4 _
 · rcases List.mem_append.1 hp with hp | hp
   · exact Own.ch (Own.ext (h.lists p hp) hx) fun k cur hk => listK hk
   · simp only [List.mem_singleton] at hp
     subst hp
     exact Own.ch hs fun k cur hk => listK hk
 · rw [Below.heap_setCell _ _ _ _ hk4]; exact keep2 k hk (odd2 k ho)
end
end Go.Proofs.YthcdnjbhhaonhaaGreatDoor
