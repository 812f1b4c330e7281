/- Layer 01: which values fit, by the program. -/
import Derived.Test.YthcdnjbhhaonhaaGreatDoorQvVaH
import Derived.Test.YthcdnjbhhaonhaaGreatDoorQvFoDToFoG

namespace Go.Proofs.YthcdnjbhhaonhaaGreatDoor
open Go.RowKit
open Nat renaming reduceEqDiff → ZA, reduceAdd → ZB, reduceMul → ZC, reduceSub → ZD
open Int renaming reduceToNat → ZE, reduceEq → ZF, reduceLT → ZG, reduceLE → ZH, reduceNeg → ZI
open Go.Value renaming oneCell' → ZK, cells → ZJ
set_option linter.unusedSimpArgs false
structure FiS (w0 u : World) (D l : Nat) (rec : Loop) (bn br : Nat) (n : Int) (x : Bool) : Prop where
  ext : Ext w0 u
  dead : u.heap[D]? = some (.deferred (some []))
  loop : u.heap[l]? = some (.loop rec)
  kr : Bk u br [.bool x] 4
  kn : Bk u bn [.int .i64 n] 3
section
variable {w0 u u' : World} {D l bn br : Nat} {rec r2 : Loop} {n : Int} {x : Bool}
theorem FiS.chp {G : Nat → Prop} (h : FiS w0 u D l rec bn br n x) (c : ChP G u u') (hG : ∀ b, G b → w0.heap.size ≤ b) (h1 : ¬ G D) (h2 : ¬ G l) (h3 : ¬ G br) (h4 : ¬ G bn) : FiS w0 u' D l rec bn br n x :=
  ⟨c.ext h.ext hG, by rw [c.block D (Array.getElem?_eq_some_iff.1 h.dead).1 h1]; exact h.dead, by rw [c.block l (Array.getElem?_eq_some_iff.1 h.loop).1 h2]; exact h.loop, c.bk h3 h.kr, c.bk h4 h.kn⟩
theorem FiS.next (h : FiS w0 u D l rec bn br n x) (c : Ext u u') : FiS w0 u' D l rec bn br n x := h.chp (G := fun _ => False) (Ext.chp c) (fun _ h => h.elim) id id id id
theorem FiS.put (h : FiS w0 u D l rec bn br n x) (h0 : w0.heap.size ≤ l) (h1 : l ≠ D) (h3 : l ≠ br) (h4 : l ≠ bn) : FiS w0 (u.putObj l (.loop r2)) D l r2 bn br n x := by
  have c : ChP (fun k => k = l) u (u.putObj l (.loop r2)) := ChP.put (G := fun k => k = l) (ChP.refl _ u) (fun _ => rfl) _
  refine ⟨c.ext h.ext (fun b hb => by subst hb; exact h0), by rw [World.putObj_heap_other (Ne.symm h1)]; exact h.dead, ?_, h.kr.put h3 _, h.kn.put h4 _⟩
  exact World.putObj_heap_same (Array.getElem?_eq_some_iff.1 h.loop).1
theorem FiS.setn (h : FiS w0 u D l rec bn br n x) (h0 : w0.heap.size ≤ bn) (h1 : bn ≠ D) (h2 : bn ≠ l) (h3 : bn ≠ br) (m : Int) : FiS w0 (u.setCell ⟨bn, 0, none⟩ (.int .i64 m)) D l rec bn br m x := by
  have c : ChP (fun k => k = bn) u (u.setCell ⟨bn, 0, none⟩ (.int .i64 m)) := ChP.setCell (G := fun k => k = bn) (ChP.refl _ u) (fun _ => rfl) _
  refine ⟨c.ext h.ext (fun b hb => by subst hb; exact h0), by rw [c.block D (Array.getElem?_eq_some_iff.1 h.dead).1 (Ne.symm h1)]; exact h.dead, by rw [c.block l (Array.getElem?_eq_some_iff.1 h.loop).1 (Ne.symm h2)]; exact h.loop, h.kr.ne h3 0 _, h.kn.set 0 _⟩
theorem FiS.setr (h : FiS w0 u D l rec bn br n x) (h0 : w0.heap.size ≤ br) (h1 : br ≠ D) (h2 : br ≠ l) (h3 : br ≠ bn) (y : Bool) : FiS w0 (u.setCell ⟨br, 0, none⟩ (.bool y)) D l rec bn br n y := by
  have c : ChP (fun k => k = br) u (u.setCell ⟨br, 0, none⟩ (.bool y)) := ChP.setCell (G := fun k => k = br) (ChP.refl _ u) (fun _ => rfl) _
  refine ⟨c.ext h.ext (fun b hb => by subst hb; exact h0), by rw [c.block D (Array.getElem?_eq_some_iff.1 h.dead).1 (Ne.symm h1)]; exact h.dead, by rw [c.block l (Array.getElem?_eq_some_iff.1 h.loop).1 (Ne.symm h2)]; exact h.loop, h.kr.set 0 _, h.kn.ne h3 0 _⟩
end
def FitD (D : List (Vt × Int)) : Prop := D.length ≤ 500 ∧ ∀ p ∈ D, p.2 ≤ 10 ∧ Formed p.1
theorem FitD.pre {D L : List (Vt × Int)} (h : FitD L) (hp : D <+: L) : FitD D := ⟨Nat.le_trans hp.length_le h.1, fun p hm => h.2 p (hp.subset hm)⟩
theorem fitD_iff (v : Vt) : FitD (preV v 1) ↔ AllV v ∧ deepV v ≤ 10 ∧ countV v ≤ 500 := by
  have h1 := preV_formed v 1
  have h2 := preV_deep v 1 10
  have h3 := preV_len v 1
  unfold FitD
  rw [h3]
  constructor
  · rintro ⟨a, b⟩
    exact ⟨h1.1 fun p hp => (b p hp).2, by have := h2.1 fun p hp => (b p hp).1; omega, a⟩
  · rintro ⟨a, b, c⟩
    exact ⟨c, fun p hp => ⟨h2.2 (by omega) p hp, h1.2 a p hp⟩⟩
set_option maxHeartbeats 2000000 in
theorem fits_c (v : Vt) (s1 s2 : Value) (w : World) (hv : VAt w v s1 s2) (hm : massV v < 3000) : Rets Go.Proofs.Tryz.prog 115 #[vtV v s1 s2] w (YesQ (FitD (preV v 1)) w) := by
  obtain ⟨q1, c1, rfl, ka1, ka2⟩ := hv.ks.shape
  obtain ⟨q2, c2, rfl, hc1, hc2⟩ := hv.vs.shape
  obtain ⟨W, hW, A, Cr, hx⟩ : ∃ W, W = ((w.alloc (.cells #[.int .i64 v.k, .int .i64 v.n, .string v.s, .slice q1 v.keys.length c1, .slice q2 v.kids.length c2] 64)).alloc (.cells #[.bool false] 4)) ∧
      Bk W w.heap.size (vtCs v (.slice q1 v.keys.length c1) (.slice q2 v.kids.length c2)) 64 ∧ Bk W (w.heap.size + 1) [.bool false] 4 ∧ Ext w W := by
    refine ⟨_, rfl, (Bk.new w (vtCs v _ _) _).ext (Ext.alloc _ _), ?_, (Ext.alloc _ _).trans (Ext.alloc _ _)⟩
    have := Bk.new (w.alloc (.cells #[.int .i64 v.k, .int .i64 v.n, .string v.s, .slice q1 v.keys.length c1, .slice q2 v.kids.length c2] 64)) [.bool false] 4
    rw [World.size_alloc] at this
    exact this
  have hsz : W.heap.size = w.heap.size + 2 := by rw [hW]; simp only [World.size_alloc]
  refine enM115 ?_
  refine mwpB_cut 1 (fun e ds w' => e 1 = .pointer (some ⟨w.heap.size, 0, none⟩) ∧ e 2 = .pointer (some ⟨w.heap.size + 1, 0, none⟩) ∧ ds = [] ∧ w' = W) ?_ ?_
  · simp -dsimp -implicitDefEqProofs only [vtV,headM_zero,headM_seq,World.size_alloc,Nat.add_assoc,hW,m115,sF115,ZA,↓reduceIte,ZB,ZC,ZJ,ZK,ZE,ZF,ZG,ZH,ZI,reduceCtorEq,ZD,mwV,↓mwD,mwU]
  clear hW
  rintro e ds w1 ⟨k1, k2, rfl, rfl⟩
  obtain ⟨W, hW, Cn, x1⟩ : ∃ W, W = w1.alloc (.cells #[.int .i64 0] 3) ∧ Bk W w1.heap.size [.int .i64 0] 3 ∧ Ext w1 W := ⟨_, rfl, Bk.new _ _ _, Ext.alloc _ _⟩
  have hsz1 : W.heap.size = w1.heap.size + 1 := by rw [hW]; exact World.size_alloc _ _
  refine mwpB_cut 1 (fun e ds w' => e 1 = .pointer (some ⟨w.heap.size, 0, none⟩) ∧ e 2 = .pointer (some ⟨w.heap.size + 1, 0, none⟩) ∧ e 3 = .pointer (some ⟨w1.heap.size, 0, none⟩) ∧ ds = [] ∧ w' = W) ?_ ?_
  · simp -dsimp -implicitDefEqProofs only [tailM_zero,tailM_seq,headM_zero,headM_seq,k1,k2,hW,setCell_new,m115,sF115,ZA,↓reduceIte,ZB,ZC,ZJ,ZK,ZE,ZF,ZG,ZH,ZI,reduceCtorEq,ZD,mwV,↓mwD,mwU]
  clear hW
  rintro e ds w0 ⟨k1, k2, k3, rfl, rfl⟩
  replace hx := hx.trans x1
  replace A := A.ext x1
  replace Cr := Cr.ext x1
  obtain ⟨a0, a1, a2, a3, a4⟩ := bk_vt A (Ext.refl w0)
  simp -dsimp -implicitDefEqProofs only [tailM_zero,tailM_seq,k1,k2,k3,a0,a1,a2,a3,a4,m115,sF115,ZA,↓reduceIte,ZB,ZC,ZJ,ZK,ZE,ZF,ZG,ZH,ZI,reduceCtorEq,ZD,mwV,↓mwD,mwU]
  refine (values_c v _ _ w0).use ?_
  rintro r w3 ⟨rfl, hw3⟩
  simp -dsimp -implicitDefEqProofs only [m115,sF115,ZA,↓reduceIte,ZB,ZC,ZJ,ZK,ZE,ZF,ZG,ZH,ZI,reduceCtorEq,ZD,mwV,↓mwD,mwU]
  generalize hE : updO _ (some 7) _ = E0
  have q7 : E0 7 = .func (.func 160) #[] #[.pointer (some ⟨w0.heap.size, 0, none⟩)] := by rw [← hE]; rfl
  have q2' : E0 2 = .pointer (some ⟨w.heap.size + 1, 0, none⟩) := by rw [← hE]; exact k2
  have q3' : E0 3 = .pointer (some ⟨w1.heap.size, 0, none⟩) := by rw [← hE]; exact k3
  clear hE k1 k2 k3
  have hx3 : Ext w0 w3 := by rw [hw3]; exact Ext.alloc _ _
  have hsz3 : w3.heap.size = w0.heap.size + 1 := by rw [hw3]; simp only [World.size_alloc]
  have ka : Bk w3 w0.heap.size (vtCs v (.slice q1 v.keys.length c1) (.slice q2 v.kids.length c2)) 64 := by rw [hw3]; exact Bk.new w0 (vtCs v _ _) _
  clear hw3
  refine mwpB_rng rfE115_0 (by rw [ev_tmp]; exact q7) okF_160 (fun n fn tmps hn ht hf => ?_)
  have hx34 : Ext w3 ((w3.alloc (.deferred (some []))).alloc (.loop (loopRec fn tmps #[8, 9] ra115_0 rb115_0 w3.heap.size))) := (Ext.alloc _ _).trans (Ext.alloc _ _)
  have hD : ((w3.alloc (.deferred (some []))).alloc (.loop (loopRec fn tmps #[8, 9] ra115_0 rb115_0 w3.heap.size))).heap[w3.heap.size]? = some (.deferred (some [])) := by
    rw [Below.heap_alloc _ _ _ (by rw [World.size_alloc]; omega)]; exact heap_alloc_new w3 _
  have hL : ((w3.alloc (.deferred (some []))).alloc (.loop (loopRec fn tmps #[8, 9] ra115_0 rb115_0 w3.heap.size))).heap[w3.heap.size + 1]? = some (.loop (loopRec fn tmps #[8, 9] ra115_0 rb115_0 w3.heap.size)) := by
    have := heap_alloc_new (w3.alloc (.deferred (some []))) (.loop (loopRec fn tmps #[8, 9] ra115_0 rb115_0 w3.heap.size))
    rw [World.size_alloc] at this; exact this
  have hsz4 : ((w3.alloc (.deferred (some []))).alloc (.loop (loopRec fn tmps #[8, 9] ra115_0 rb115_0 w3.heap.size))).heap.size = w3.heap.size + 2 := by simp only [World.size_alloc]
  generalize (w3.alloc (.deferred (some []))).alloc (.loop (loopRec fn tmps #[8, 9] ra115_0 rb115_0 w3.heap.size)) = W4 at *
  generalize hrec : loopRec fn tmps #[8, 9] ra115_0 rb115_0 w3.heap.size = rec at *
  have hready : rec.state = .ready := by rw [← hrec]; rfl
  show Calls _ _ #[.func (.yield (w3.heap.size + 1)) #[] #[], .pointer (some ⟨w0.heap.size, 0, none⟩)] _ _
  refine Calls.mono (values1_c (l := w3.heap.size + 1) (B := w3.heap.size + 2) (b1 := w0.heap.size) (W0 := w) (W := W4) (v := v)
    (J := fun D u => FiS w u w3.heap.size (w3.heap.size + 1) rec w1.heap.size (w.heap.size + 1) D.length false ∧ FitD D ∧ w3.heap.size + 2 ≤ u.heap.size)
    (S := fun u => ∃ n, FiS w u w3.heap.size (w3.heap.size + 1) { rec with state := .done, pending := some .ret } w1.heap.size (w.heap.size + 1) n false ∧ ¬ FitD (preV v 1))
    (fun D u h => ⟨h.1.ext, h.2.2⟩) (fun D u u' h c => ⟨h.1.next c, h.2.1, Nat.le_trans h.2.2 c.size⟩) ?rnd hv hm (ka.ext hx34) ⟨⟨(hx.trans hx3).trans hx34, hD, hL, (Cr.ext hx3).ext hx34, (Cn.ext hx3).ext hx34⟩, ⟨by simp, fun p hp => by cases hp⟩, by omega⟩).calls ?fin
  case fin =>
    intro en w5 hq
    cases en with
    | outgrown => exact hq.elim
    | panicked ch => exact hq.elim
    | returned r =>
      rcases hq with ⟨hS, hfit, _⟩ | ⟨n, hS, hno⟩
      · refine ⟨r, _, _, rfl, run_endLoop hS.loop (by rw [hready]; decide), ?_⟩
        have hp : rec.pending = none := by rw [← hrec]; rfl
        have hS2 := hS.put (r2 := { rec with state := .exhausted }) (by omega) (by omega) (by omega) (by omega)
        generalize w5.putObj (w3.heap.size + 1) _ = W6 at *
        rw [hp]
        have Z := hS2.setr (by omega) (by omega) (by omega) (by omega) true
        have zs : (W6.cell? ⟨w.heap.size + 1, 0, none⟩).isSome = true := by rw [hS2.kr.get (o := 0) rfl]; rfl
        have zf := hS2.kr.frozen 0
        simp -dsimp -implicitDefEqProofs only [q2',zs,zf,endW_cons,m115,sF115,ZA,↓reduceIte,ZB,ZC,ZJ,ZK,ZE,ZF,ZG,ZH,ZI,reduceCtorEq,ZD,mwV,↓mwD,mwU]
        refine ⟨_, _, rfl, run_takeDeferred Z.dead, ?_⟩
        have r4 := (Z.kr.put (D := w3.heap.size) (by omega) (.deferred none)).get (o := 0) rfl
        have hch2 := (ChP.put (G := fun k => k = w3.heap.size) (ChP.refl _ _) (fun _ => rfl) (.deferred none)).ext Z.ext (fun b hb => by subst hb; omega)
        simp -dsimp -implicitDefEqProofs only [q2',endW_nil,r4,m115,sF115,ZA,↓reduceIte,ZB,ZC,ZJ,ZK,ZE,ZF,ZG,ZH,ZI,reduceCtorEq,ZD,mwV,↓mwD,mwU]
        exact .yes hch2 hfit
      · refine ⟨r, _, _, rfl, run_endLoop hS.loop (by simp), ?_⟩
        have hS2 := hS.put (r2 := { rec with state := .exhausted, pending := some .ret }) (by omega) (by omega) (by omega) (by omega)
        generalize w5.putObj (w3.heap.size + 1) _ = W6 at *
        simp -dsimp -implicitDefEqProofs only [endW_cons,m115,sF115,ZA,↓reduceIte,ZB,ZC,ZJ,ZK,ZE,ZF,ZG,ZH,ZI,reduceCtorEq,ZD,mwV,↓mwD,mwU]
        refine ⟨_, _, rfl, run_takeDeferred hS2.dead, ?_⟩
        have r4 := (hS2.kr.put (D := w3.heap.size) (by omega) (.deferred none)).get (o := 0) rfl
        have hch2 := (ChP.put (G := fun k => k = w3.heap.size) (ChP.refl _ _) (fun _ => rfl) (.deferred none)).ext hS2.ext (fun b hb => by subst hb; omega)
        simp -dsimp -implicitDefEqProofs only [q2',endW_nil,r4,m115,sF115,ZA,↓reduceIte,ZB,ZC,ZJ,ZK,ZE,ZF,ZG,ZH,ZI,reduceCtorEq,ZD,mwV,↓mwD,mwU]
        exact .no hch2 hno
  case rnd =>
    intro D x d t1 t2 u hj hvx hpre
    obtain ⟨r1, e1, rfl, _, _⟩ := hvx.ks.shape
    obtain ⟨r2, e2, rfl, _, _⟩ := hvx.vs.shape
    obtain ⟨Wb, hWb, Ab, y0⟩ := new_vt u x (.slice r1 x.keys.length e1) (.slice r2 x.kids.length e2)
    refine yield_rnd follows_mo (by rw [hrec]; exact hj.1.loop) rfl hn ht hf okra115_0 okrb115_0 stra115_0 strb115_0 ?_
    simp -dsimp -implicitDefEqProofs only [mra115_0,setPs_two,vtV,← hWb,m115,sF115,ZA,↓reduceIte,ZB,ZC,ZJ,ZK,ZE,ZF,ZG,ZH,ZI,reduceCtorEq,ZD,mwV,↓mwD,mwU]
    have hszb : Wb.heap.size = u.heap.size + 1 := by rw [hWb]; exact World.size_alloc _ _
    clear hWb
    obtain ⟨hj1, hj2, hj3⟩ := hj
    have hj0 := hj1.next y0
    refine ⟨rec, hj0.loop, hready, ?_⟩
    have hB0 := hj0.put (r2 := { rec with state := .busy }) (by omega) (by omega) (by omega) (by omega)
    have Ab' := Ab.put (D := w3.heap.size + 1) (by omega) (.loop { rec with state := .busy })
    have hkeep : ∀ k, k ≠ w3.heap.size + 1 → k < u.heap.size → (Wb.putObj (w3.heap.size + 1) (.loop { rec with state := .busy })).heap[k]? = u.heap[k]? := fun k hk hl => (World.putObj_heap_other hk).trans (y0.block k hl)
    have hsU : (Wb.putObj (w3.heap.size + 1) (.loop { rec with state := .busy })).heap.size = Wb.heap.size := World.putObj_size
    generalize Wb.putObj (w3.heap.size + 1) _ = U at *
    have hlen := hj2.1
    have hw1 : IntKind.i64.wrap ((D.length : Int) + 1) = ((D.length + 1 : Nat) : Int) := by rw [w64 (by omega) (by omega)]; omega
    have n0 := hB0.kn.get (o := 0) rfl
    have z0 := hB0.kn.frozen 0
    have hB1 := hB0.setn (by omega) (by omega) (by omega) (by omega) ((D.length + 1 : Nat) : Int)
    have n1 := hB1.kn.get (o := 0) rfl
    have A1 := Ab'.ne (show w1.heap.size ≠ u.heap.size by omega) 0 (.int .i64 ((D.length + 1 : Nat) : Int))
    obtain ⟨b0, b1, b2, b3, b4⟩ := bk_vt A1 (Ext.refl _)
    have c1 : ChP (fun k => k = w1.heap.size) U (U.setCell ⟨w1.heap.size, 0, none⟩ (.int .i64 ((D.length + 1 : Nat) : Int))) := ChP.setCell (G := fun k => k = w1.heap.size) (ChP.refl _ U) (fun _ => rfl) _
    generalize hU1 : U.setCell ⟨w1.heap.size, 0, none⟩ (.int .i64 ((D.length + 1 : Nat) : Int)) = U1 at *
    have on : ∀ {U' : World}, Ext U1 U' → D.length + 1 ≤ 500 → d ≤ 10 → Formed x → ∃ r2, U'.heap[w3.heap.size + 1]? = some (Obj.loop r2) ∧ RoundV (fun D u => FiS w u w3.heap.size (w3.heap.size + 1) rec w1.heap.size (w.heap.size + 1) D.length false ∧ FitD D ∧ w3.heap.size + 2 ≤ u.heap.size) (fun u => ∃ n, FiS w u w3.heap.size (w3.heap.size + 1) { rec with state := .done, pending := some .ret } w1.heap.size (w.heap.size + 1) n false ∧ ¬ FitD (preV v 1)) (w3.heap.size + 2) D x d u (.returned (.bool true)) (U'.putObj (w3.heap.size + 1) (.loop { r2 with state := .ready, pending := none })) := fun {U'} hx h1 h2 h3 => by
      have hn := hB1.next hx
      have hp := hn.put (r2 := rec) (by omega) (by omega) (by omega) (by omega)
      refine ⟨_, hn.loop, .inl ⟨rfl, ⟨?_, ⟨by simp; omega, fun p hp => ?_⟩, ?_⟩, fun b hb hl => ?_⟩⟩
      · have e : ({ rec with state := .ready, pending := none } : Loop) = rec := by rw [← hrec]; rfl
        show FiS w (U'.putObj (w3.heap.size + 1) (.loop { rec with state := .ready, pending := none })) _ _ _ _ _ _ _
        rw [e, List.length_append]; exact hp
      · rcases List.mem_append.1 hp with hp | hp
        · exact hj2.2 p hp
        · rw [List.mem_singleton] at hp
          rw [hp]; exact ⟨h2, h3⟩
      · have := hx.size
        have := c1.size
        show w3.heap.size + 2 ≤ (U'.putObj _ _).heap.size
        rw [World.putObj_size]; omega
      · rw [World.putObj_heap_other (by omega), hx.block _ (by have := c1.size; omega), c1.block _ (by omega) (by omega), hkeep _ (by omega) hl]
    have off : ∀ {U' : World}, Ext U1 U' → ¬(D.length + 1 ≤ 500 ∧ d ≤ 10 ∧ Formed x) → ∃ r2, (U'.setCell ⟨w.heap.size + 1, 0, none⟩ (.bool false)).heap[w3.heap.size + 1]? = some (Obj.loop r2) ∧ RoundV (fun D u => FiS w u w3.heap.size (w3.heap.size + 1) rec w1.heap.size (w.heap.size + 1) D.length false ∧ FitD D ∧ w3.heap.size + 2 ≤ u.heap.size) (fun u => ∃ n, FiS w u w3.heap.size (w3.heap.size + 1) { rec with state := .done, pending := some .ret } w1.heap.size (w.heap.size + 1) n false ∧ ¬ FitD (preV v 1)) (w3.heap.size + 2) D x d u (.returned (.bool false)) ((U'.setCell ⟨w.heap.size + 1, 0, none⟩ (.bool false)).putObj (w3.heap.size + 1) (.loop { r2 with state := .done, pending := some .ret })) := fun {U'} hx hno => by
      have hn := (hB1.next hx).setr (by omega) (by omega) (by omega) (by omega) false
      refine ⟨_, hn.loop, .inr ⟨rfl, _, hn.put (by omega) (by omega) (by omega) (by omega), fun hf => hno ?_⟩⟩
      have hf2 := hf.pre hpre
      exact ⟨by have := hf2.1; simpa using this, hf2.2 (x, d) (by simp)⟩
    have offc : ∀ {U' : World}, Ext U1 U' → (U'.cell? ⟨w.heap.size + 1, 0, none⟩).isSome = true ∧ U'.frozen? ⟨w.heap.size + 1, 0, none⟩ = false := fun {U'} hx => ⟨by rw [(hB1.next hx).kr.get (o := 0) rfl]; rfl, (hB1.next hx).kr.frozen 0⟩
    generalize hE : updO _ (some 5) _ = E1
    have m4 : E1 4 = .pointer (some ⟨u.heap.size, 0, none⟩) := by rw [← hE]; rfl
    have m5 : E1 5 = .int .i64 d := by rw [← hE]; rfl
    have m3 : E1 3 = .pointer (some ⟨w1.heap.size, 0, none⟩) := by rw [← hE]; exact q3'
    have m2 : E1 2 = .pointer (some ⟨w.heap.size + 1, 0, none⟩) := by rw [← hE]; exact q2'
    clear hE
    have zs0 : (U.cell? ⟨w1.heap.size, 0, none⟩).isSome = true := by rw [n0]; rfl
    by_cases p1 : (500 : Int) < ((D.length + 1 : Nat) : Int)
    · obtain ⟨zs, zf⟩ := offc (Ext.refl U1)
      simp -dsimp -implicitDefEqProofs only [mrb115_0,m2,m3,m4,m5,n0,z0,zs0,hw1,hU1,n1,p1,zs,zf,m115,sF115,ZA,↓reduceIte,ZB,ZC,ZJ,ZK,ZE,ZF,ZG,ZH,ZI,reduceCtorEq,ZD,mwV,↓mwD,mwU]
      exact off (Ext.refl U1) (fun h => by omega)
    by_cases p2 : (10 : Int) < d
    · obtain ⟨zs, zf⟩ := offc (Ext.refl U1)
      simp -dsimp -implicitDefEqProofs only [mrb115_0,m2,m3,m4,m5,n0,z0,zs0,hw1,hU1,n1,p1,p2,zs,zf,m115,sF115,ZA,↓reduceIte,ZB,ZC,ZJ,ZK,ZE,ZF,ZG,ZH,ZI,reduceCtorEq,ZD,mwV,↓mwD,mwU]
      exact off (Ext.refl U1) (fun h => by omega)
    simp -dsimp -implicitDefEqProofs only [mrb115_0,m2,m3,m4,m5,n0,z0,zs0,hw1,hU1,n1,p1,p2,b0,b1,b2,b3,b4,m115,sF115,ZA,↓reduceIte,ZB,ZC,ZJ,ZK,ZE,ZF,ZG,ZH,ZI,reduceCtorEq,ZD,mwV,↓mwD,mwU]
    refine (formed_c x _ _ U1 (hvx.ext hB1.ext)).use ?_
    rintro r U2 ⟨hx2, y, rfl, hy⟩
    cases y
    · obtain ⟨zs, zf⟩ := offc hx2
      simp -dsimp -implicitDefEqProofs only [m2,zs,zf,m115,sF115,ZA,↓reduceIte,ZB,ZC,ZJ,ZK,ZE,ZF,ZG,ZH,ZI,reduceCtorEq,ZD,mwV,↓mwD,mwU]
      exact off hx2 (fun h => by have := hy.2 h.2.2; cases this)
    · simp -dsimp -implicitDefEqProofs only [m115,sF115,ZA,↓reduceIte,ZB,ZC,ZJ,ZK,ZE,ZF,ZG,ZH,ZI,reduceCtorEq,ZD,mwV,↓mwD,mwU]
      exact on hx2 (by omega) (by omega) (hy.1 rfl)
theorem ValidV_c (v : Vt) (s1 s2 : Value) (w : World) (hv : VAt w v s1 s2) (hm : massV v < 3000) : Rets Go.Proofs.Tryz.prog 88 #[vtV v s1 s2] w (YesQ (ValidV v) w) := by
  obtain ⟨q1, c1, rfl, _, _⟩ := hv.ks.shape
  obtain ⟨q2, c2, rfl, _, _⟩ := hv.vs.shape
  obtain ⟨W, hW, A, x0⟩ := new_vt w v (.slice q1 v.keys.length c1) (.slice q2 v.kids.length c2)
  obtain ⟨a0, a1, a2, a3, a4⟩ := bk_vt A (Ext.refl W)
  refine en88 ?_
  simp -dsimp -implicitDefEqProofs only [vtV,← hW,a0,a1,a2,a3,a4,m88,sF88,ZA,↓reduceIte,ZB,ZC,ZJ,ZK,ZE,ZF,ZG,ZH,ZI,reduceCtorEq,ZD,mwV,↓mwD,mwU]
  clear hW
  refine (fits_c v _ _ W (hv.ext x0) hm).use ?_
  rintro r w1 ⟨hx, b, rfl, hb⟩
  have hb' := hb.trans (fitD_iff v)
  cases b
  · simp -dsimp -implicitDefEqProofs only [m88,sF88,ZA,↓reduceIte,ZB,ZC,ZJ,ZK,ZE,ZF,ZG,ZH,ZI,reduceCtorEq,ZD,mwV,↓mwD,mwU]
    exact .no (x0.trans hx) (fun h => by have := hb'.2 ⟨h.1, h.2.1, h.2.2.1⟩; cases this)
  obtain ⟨a0, a1, a2, a3, a4⟩ := bk_vt A hx
  simp -dsimp -implicitDefEqProofs only [a0,a1,a2,a3,a4,m88,sF88,ZA,↓reduceIte,ZB,ZC,ZJ,ZK,ZE,ZF,ZG,ZH,ZI,reduceCtorEq,ZD,mwV,↓mwD,mwU]
  refine (size_c v _ _ w1 (hv.ext (x0.trans hx)) hm).use ?_
  rintro r w2 ⟨rfl, hx2⟩
  simp -dsimp -implicitDefEqProofs only [m88,sF88,ZA,↓reduceIte,ZB,ZC,ZJ,ZK,ZE,ZF,ZG,ZH,ZI,reduceCtorEq,ZD,mwV,↓mwD,mwU]
  refine .mk' (x0.trans (hx.trans hx2)) ?_
  obtain ⟨g1, g2, g3⟩ := hb'.1 rfl
  rw [decide_eq_true_eq]
  exact ⟨fun h => ⟨g1, g2, g3, by omega⟩, fun h => by have := h.2.2.2; omega⟩
end Go.Proofs.YthcdnjbhhaonhaaGreatDoor
/- Layer 01: bare, keys and numbers of the reference. -/
namespace Go.Proofs.YthcdnjbhhaonhaaGreatDoor
open Go.RowKit
open Nat renaming reduceEqDiff → ZA, reduceAdd → ZB, reduceMul → ZC, reduceSub → ZD
open Int renaming reduceToNat → ZE, reduceEq → ZF, reduceLT → ZG, reduceLE → ZH, reduceNeg → ZI
open Go.Value renaming oneCell' → ZK, cells → ZJ
set_option linter.unusedSimpArgs false
set_option maxHeartbeats 2000000 in
theorem rbare_c (v : Vt) (s1 s2 : Value) (n s ks kd : Bool) (w : World) (hv : VAt w v s1 s2) : Rets Go.Proofs.Tryz.prog 142 #[vtV v s1 s2, .bool n, .bool s, .bool ks, .bool kd] w (YesQ (Bare v n s ks kd) w) := by
  obtain ⟨q1, c1, rfl, _, _⟩ := hv.ks.shape
  obtain ⟨q2, c2, rfl, _, _⟩ := hv.vs.shape
  obtain ⟨W, hW, A, x0⟩ := new_vt w v (.slice q1 v.keys.length c1) (.slice q2 v.kids.length c2)
  refine en142 ?_
  refine mwpB_cut 1 (fun e ds w' => e 5 = .pointer (some ⟨w.heap.size, 0, none⟩) ∧ e 1 = .bool n ∧ e 2 = .bool s ∧ e 3 = .bool ks ∧ e 4 = .bool kd ∧ ds = [] ∧ w' = W) ?_ ?_
  · simp -dsimp -implicitDefEqProofs only [headM_zero,headM_seq,vtV,hW,m142,sF142,ZA,↓reduceIte,ZB,ZC,ZJ,ZK,ZE,ZF,ZG,ZH,ZI,reduceCtorEq,ZD,mwV,↓mwD,mwU]
  clear hW
  rintro e ds w0 ⟨h5, h1, h2, h3, h4, rfl, rfl⟩
  obtain ⟨a0, a1, a2, a3, a4⟩ := bk_vt A (Ext.refl w0)
  cases n
  · by_cases p0 : v.n = 0
    · skip
      cases s
      · by_cases p1 : v.s = ⟨#[]⟩
        · skip
          cases ks
          · by_cases p2 : (v.keys.length : Int) = 0
            · skip
              cases kd
              · by_cases p3 : (v.kids.length : Int) = 0
                · skip
                  simp -dsimp -implicitDefEqProofs only [tailM_zero,tailM_seq,h5,h1,h2,h3,h4,a1,a2,a3,a4,binV_eqS,p0,p1,p2,p3,m142,sF142,ZA,↓reduceIte,ZB,ZC,ZJ,ZK,ZE,ZF,ZG,ZH,ZI,reduceCtorEq,ZD,mwV,↓mwD,mwU]
                  exact .yes x0 (by unfold Bare; simp_all)
                · simp -dsimp -implicitDefEqProofs only [tailM_zero,tailM_seq,h5,h1,h2,h3,h4,a1,a2,a3,a4,binV_eqS,p0,p1,p2,p3,m142,sF142,ZA,↓reduceIte,ZB,ZC,ZJ,ZK,ZE,ZF,ZG,ZH,ZI,reduceCtorEq,ZD,mwV,↓mwD,mwU]
                  exact .no x0 (by unfold Bare; simp_all)
              · skip
                simp -dsimp -implicitDefEqProofs only [tailM_zero,tailM_seq,h5,h1,h2,h3,h4,a1,a2,a3,a4,binV_eqS,p0,p1,p2,m142,sF142,ZA,↓reduceIte,ZB,ZC,ZJ,ZK,ZE,ZF,ZG,ZH,ZI,reduceCtorEq,ZD,mwV,↓mwD,mwU]
                exact .yes x0 (by unfold Bare; simp_all)
            · simp -dsimp -implicitDefEqProofs only [tailM_zero,tailM_seq,h5,h1,h2,h3,h4,a1,a2,a3,a4,binV_eqS,p0,p1,p2,m142,sF142,ZA,↓reduceIte,ZB,ZC,ZJ,ZK,ZE,ZF,ZG,ZH,ZI,reduceCtorEq,ZD,mwV,↓mwD,mwU]
              exact .no x0 (by unfold Bare; simp_all)
          · skip
            cases kd
            · by_cases p3 : (v.kids.length : Int) = 0
              · skip
                simp -dsimp -implicitDefEqProofs only [tailM_zero,tailM_seq,h5,h1,h2,h3,h4,a1,a2,a3,a4,binV_eqS,p0,p1,p3,m142,sF142,ZA,↓reduceIte,ZB,ZC,ZJ,ZK,ZE,ZF,ZG,ZH,ZI,reduceCtorEq,ZD,mwV,↓mwD,mwU]
                exact .yes x0 (by unfold Bare; simp_all)
              · simp -dsimp -implicitDefEqProofs only [tailM_zero,tailM_seq,h5,h1,h2,h3,h4,a1,a2,a3,a4,binV_eqS,p0,p1,p3,m142,sF142,ZA,↓reduceIte,ZB,ZC,ZJ,ZK,ZE,ZF,ZG,ZH,ZI,reduceCtorEq,ZD,mwV,↓mwD,mwU]
                exact .no x0 (by unfold Bare; simp_all)
            · skip
              simp -dsimp -implicitDefEqProofs only [tailM_zero,tailM_seq,h5,h1,h2,h3,h4,a1,a2,a3,a4,binV_eqS,p0,p1,m142,sF142,ZA,↓reduceIte,ZB,ZC,ZJ,ZK,ZE,ZF,ZG,ZH,ZI,reduceCtorEq,ZD,mwV,↓mwD,mwU]
              exact .yes x0 (by unfold Bare; simp_all)
        · simp -dsimp -implicitDefEqProofs only [tailM_zero,tailM_seq,h5,h1,h2,h3,h4,a1,a2,a3,a4,binV_eqS,p0,p1,m142,sF142,ZA,↓reduceIte,ZB,ZC,ZJ,ZK,ZE,ZF,ZG,ZH,ZI,reduceCtorEq,ZD,mwV,↓mwD,mwU]
          exact .no x0 (by unfold Bare; simp_all)
      · skip
        cases ks
        · by_cases p2 : (v.keys.length : Int) = 0
          · skip
            cases kd
            · by_cases p3 : (v.kids.length : Int) = 0
              · skip
                simp -dsimp -implicitDefEqProofs only [tailM_zero,tailM_seq,h5,h1,h2,h3,h4,a1,a2,a3,a4,binV_eqS,p0,p2,p3,m142,sF142,ZA,↓reduceIte,ZB,ZC,ZJ,ZK,ZE,ZF,ZG,ZH,ZI,reduceCtorEq,ZD,mwV,↓mwD,mwU]
                exact .yes x0 (by unfold Bare; simp_all)
              · simp -dsimp -implicitDefEqProofs only [tailM_zero,tailM_seq,h5,h1,h2,h3,h4,a1,a2,a3,a4,binV_eqS,p0,p2,p3,m142,sF142,ZA,↓reduceIte,ZB,ZC,ZJ,ZK,ZE,ZF,ZG,ZH,ZI,reduceCtorEq,ZD,mwV,↓mwD,mwU]
                exact .no x0 (by unfold Bare; simp_all)
            · skip
              simp -dsimp -implicitDefEqProofs only [tailM_zero,tailM_seq,h5,h1,h2,h3,h4,a1,a2,a3,a4,binV_eqS,p0,p2,m142,sF142,ZA,↓reduceIte,ZB,ZC,ZJ,ZK,ZE,ZF,ZG,ZH,ZI,reduceCtorEq,ZD,mwV,↓mwD,mwU]
              exact .yes x0 (by unfold Bare; simp_all)
          · simp -dsimp -implicitDefEqProofs only [tailM_zero,tailM_seq,h5,h1,h2,h3,h4,a1,a2,a3,a4,binV_eqS,p0,p2,m142,sF142,ZA,↓reduceIte,ZB,ZC,ZJ,ZK,ZE,ZF,ZG,ZH,ZI,reduceCtorEq,ZD,mwV,↓mwD,mwU]
            exact .no x0 (by unfold Bare; simp_all)
        · skip
          cases kd
          · by_cases p3 : (v.kids.length : Int) = 0
            · skip
              simp -dsimp -implicitDefEqProofs only [tailM_zero,tailM_seq,h5,h1,h2,h3,h4,a1,a2,a3,a4,binV_eqS,p0,p3,m142,sF142,ZA,↓reduceIte,ZB,ZC,ZJ,ZK,ZE,ZF,ZG,ZH,ZI,reduceCtorEq,ZD,mwV,↓mwD,mwU]
              exact .yes x0 (by unfold Bare; simp_all)
            · simp -dsimp -implicitDefEqProofs only [tailM_zero,tailM_seq,h5,h1,h2,h3,h4,a1,a2,a3,a4,binV_eqS,p0,p3,m142,sF142,ZA,↓reduceIte,ZB,ZC,ZJ,ZK,ZE,ZF,ZG,ZH,ZI,reduceCtorEq,ZD,mwV,↓mwD,mwU]
              exact .no x0 (by unfold Bare; simp_all)
          · skip
            simp -dsimp -implicitDefEqProofs only [tailM_zero,tailM_seq,h5,h1,h2,h3,h4,a1,a2,a3,a4,binV_eqS,p0,m142,sF142,ZA,↓reduceIte,ZB,ZC,ZJ,ZK,ZE,ZF,ZG,ZH,ZI,reduceCtorEq,ZD,mwV,↓mwD,mwU]
            exact .yes x0 (by unfold Bare; simp_all)
    · simp -dsimp -implicitDefEqProofs only [tailM_zero,tailM_seq,h5,h1,h2,h3,h4,a1,a2,a3,a4,binV_eqS,p0,m142,sF142,ZA,↓reduceIte,ZB,ZC,ZJ,ZK,ZE,ZF,ZG,ZH,ZI,reduceCtorEq,ZD,mwV,↓mwD,mwU]
      exact .no x0 (by unfold Bare; simp_all)
  · skip
    cases s
    · by_cases p1 : v.s = ⟨#[]⟩
      · skip
        cases ks
        · by_cases p2 : (v.keys.length : Int) = 0
          · skip
            cases kd
            · by_cases p3 : (v.kids.length : Int) = 0
              · skip
                simp -dsimp -implicitDefEqProofs only [tailM_zero,tailM_seq,h5,h1,h2,h3,h4,a1,a2,a3,a4,binV_eqS,p1,p2,p3,m142,sF142,ZA,↓reduceIte,ZB,ZC,ZJ,ZK,ZE,ZF,ZG,ZH,ZI,reduceCtorEq,ZD,mwV,↓mwD,mwU]
                exact .yes x0 (by unfold Bare; simp_all)
              · simp -dsimp -implicitDefEqProofs only [tailM_zero,tailM_seq,h5,h1,h2,h3,h4,a1,a2,a3,a4,binV_eqS,p1,p2,p3,m142,sF142,ZA,↓reduceIte,ZB,ZC,ZJ,ZK,ZE,ZF,ZG,ZH,ZI,reduceCtorEq,ZD,mwV,↓mwD,mwU]
                exact .no x0 (by unfold Bare; simp_all)
            · skip
              simp -dsimp -implicitDefEqProofs only [tailM_zero,tailM_seq,h5,h1,h2,h3,h4,a1,a2,a3,a4,binV_eqS,p1,p2,m142,sF142,ZA,↓reduceIte,ZB,ZC,ZJ,ZK,ZE,ZF,ZG,ZH,ZI,reduceCtorEq,ZD,mwV,↓mwD,mwU]
              exact .yes x0 (by unfold Bare; simp_all)
          · simp -dsimp -implicitDefEqProofs only [tailM_zero,tailM_seq,h5,h1,h2,h3,h4,a1,a2,a3,a4,binV_eqS,p1,p2,m142,sF142,ZA,↓reduceIte,ZB,ZC,ZJ,ZK,ZE,ZF,ZG,ZH,ZI,reduceCtorEq,ZD,mwV,↓mwD,mwU]
            exact .no x0 (by unfold Bare; simp_all)
        · skip
          cases kd
          · by_cases p3 : (v.kids.length : Int) = 0
            · skip
              simp -dsimp -implicitDefEqProofs only [tailM_zero,tailM_seq,h5,h1,h2,h3,h4,a1,a2,a3,a4,binV_eqS,p1,p3,m142,sF142,ZA,↓reduceIte,ZB,ZC,ZJ,ZK,ZE,ZF,ZG,ZH,ZI,reduceCtorEq,ZD,mwV,↓mwD,mwU]
              exact .yes x0 (by unfold Bare; simp_all)
            · simp -dsimp -implicitDefEqProofs only [tailM_zero,tailM_seq,h5,h1,h2,h3,h4,a1,a2,a3,a4,binV_eqS,p1,p3,m142,sF142,ZA,↓reduceIte,ZB,ZC,ZJ,ZK,ZE,ZF,ZG,ZH,ZI,reduceCtorEq,ZD,mwV,↓mwD,mwU]
              exact .no x0 (by unfold Bare; simp_all)
          · skip
            simp -dsimp -implicitDefEqProofs only [tailM_zero,tailM_seq,h5,h1,h2,h3,h4,a1,a2,a3,a4,binV_eqS,p1,m142,sF142,ZA,↓reduceIte,ZB,ZC,ZJ,ZK,ZE,ZF,ZG,ZH,ZI,reduceCtorEq,ZD,mwV,↓mwD,mwU]
            exact .yes x0 (by unfold Bare; simp_all)
      · simp -dsimp -implicitDefEqProofs only [tailM_zero,tailM_seq,h5,h1,h2,h3,h4,a1,a2,a3,a4,binV_eqS,p1,m142,sF142,ZA,↓reduceIte,ZB,ZC,ZJ,ZK,ZE,ZF,ZG,ZH,ZI,reduceCtorEq,ZD,mwV,↓mwD,mwU]
        exact .no x0 (by unfold Bare; simp_all)
    · skip
      cases ks
      · by_cases p2 : (v.keys.length : Int) = 0
        · skip
          cases kd
          · by_cases p3 : (v.kids.length : Int) = 0
            · skip
              simp -dsimp -implicitDefEqProofs only [tailM_zero,tailM_seq,h5,h1,h2,h3,h4,a1,a2,a3,a4,binV_eqS,p2,p3,m142,sF142,ZA,↓reduceIte,ZB,ZC,ZJ,ZK,ZE,ZF,ZG,ZH,ZI,reduceCtorEq,ZD,mwV,↓mwD,mwU]
              exact .yes x0 (by unfold Bare; simp_all)
            · simp -dsimp -implicitDefEqProofs only [tailM_zero,tailM_seq,h5,h1,h2,h3,h4,a1,a2,a3,a4,binV_eqS,p2,p3,m142,sF142,ZA,↓reduceIte,ZB,ZC,ZJ,ZK,ZE,ZF,ZG,ZH,ZI,reduceCtorEq,ZD,mwV,↓mwD,mwU]
              exact .no x0 (by unfold Bare; simp_all)
          · skip
            simp -dsimp -implicitDefEqProofs only [tailM_zero,tailM_seq,h5,h1,h2,h3,h4,a1,a2,a3,a4,binV_eqS,p2,m142,sF142,ZA,↓reduceIte,ZB,ZC,ZJ,ZK,ZE,ZF,ZG,ZH,ZI,reduceCtorEq,ZD,mwV,↓mwD,mwU]
            exact .yes x0 (by unfold Bare; simp_all)
        · simp -dsimp -implicitDefEqProofs only [tailM_zero,tailM_seq,h5,h1,h2,h3,h4,a1,a2,a3,a4,binV_eqS,p2,m142,sF142,ZA,↓reduceIte,ZB,ZC,ZJ,ZK,ZE,ZF,ZG,ZH,ZI,reduceCtorEq,ZD,mwV,↓mwD,mwU]
          exact .no x0 (by unfold Bare; simp_all)
      · skip
        cases kd
        · by_cases p3 : (v.kids.length : Int) = 0
          · skip
            simp -dsimp -implicitDefEqProofs only [tailM_zero,tailM_seq,h5,h1,h2,h3,h4,a1,a2,a3,a4,binV_eqS,p3,m142,sF142,ZA,↓reduceIte,ZB,ZC,ZJ,ZK,ZE,ZF,ZG,ZH,ZI,reduceCtorEq,ZD,mwV,↓mwD,mwU]
            exact .yes x0 (by unfold Bare; simp_all)
          · simp -dsimp -implicitDefEqProofs only [tailM_zero,tailM_seq,h5,h1,h2,h3,h4,a1,a2,a3,a4,binV_eqS,p3,m142,sF142,ZA,↓reduceIte,ZB,ZC,ZJ,ZK,ZE,ZF,ZG,ZH,ZI,reduceCtorEq,ZD,mwV,↓mwD,mwU]
            exact .no x0 (by unfold Bare; simp_all)
        · skip
          simp -dsimp -implicitDefEqProofs only [tailM_zero,tailM_seq,h5,h1,h2,h3,h4,a1,a2,a3,a4,binV_eqS,m142,sF142,ZA,↓reduceIte,ZB,ZC,ZJ,ZK,ZE,ZF,ZG,ZH,ZI,reduceCtorEq,ZD,mwV,↓mwD,mwU]
          exact .yes x0 (by unfold Bare; simp_all)
theorem keyOk_get {hi : Int} {st : Bool} {l : List Int} {i : Nat} (h : i < l.length) : KeyOk hi st l i ↔ 0 ≤ l[i] ∧ l[i] ≤ hi ∧ (i = 0 ∨ l[i - 1]'(by omega) < l[i] ∨ (st = false ∧ l[i - 1]'(by omega) = l[i])) := by
  unfold KeyOk; rw [getD_get h, getD_get (by omega)]
set_option maxHeartbeats 1000000 in
theorem keysR_c (v : Value) (l : List Int) (hi : Int) (st : Bool) (w : World) (h : SlI w v l) : Rets Go.Proofs.Tryz.prog 163 #[v, .int .i64 hi, .bool st] w (YesQ (KeysOk hi st l) w) := by
  obtain ⟨q, cap, rfl, hc1, hc2⟩ := h.shape
  refine en163 ?_
  simp -dsimp -implicitDefEqProofs only [m163,sF163,ZA,↓reduceIte,ZB,ZC,ZJ,ZK,ZE,ZF,ZG,ZH,ZI,reduceCtorEq,ZD,mwV,↓mwD,mwU]
  refine mwpB_loop (fun e ds w' => ∃ i : Nat, i ≤ l.length ∧ e 7 = .int .i64 i ∧ e 0 = .slice q l.length cap ∧ e 1 = .int .i64 hi ∧ e 2 = .bool st ∧ ds = [] ∧ Ext w w' ∧ ∀ j, j < i → KeyOk hi st l j)
    (fun e _ => l.length - (intOf (e 7)).toNat) ?_ ?_
  · simp -dsimp -implicitDefEqProofs only [m163,sF163,ZA,↓reduceIte,ZB,ZC,ZJ,ZK,ZE,ZF,ZG,ZH,ZI,reduceCtorEq,ZD,mwV,↓mwD,mwU]
    exact ⟨0, by omega, rfl, Ext.refl _, fun j hj => by omega⟩
  · rintro e ds w' ⟨i, hi', h7, h0, h1, h2, rfl, hx, hk⟩
    simp -dsimp -implicitDefEqProofs only [h7,h0,h1,h2,m163,sF163,ZA,↓reduceIte,ZB,ZC,ZJ,ZK,ZE,ZF,ZG,ZH,ZI,reduceCtorEq,ZD,mwV,↓mwD,mwU]
    refine iteW_dec (fun hlt => ?_) (fun hge => ?_)
    · have hlt' : i < l.length := by omega
      obtain ⟨b, o, cap', hv, _, _, hcell⟩ := h.at (by intro h0; rw [h0] at hlt'; simp at hlt')
      cases hv
      have hck := hx.cell (hcell i hlt')
      have hb1 : (0 : Int) ≤ i ∧ (i : Int) < l.length := by omega
      have hs1 := w64_succ hlt' (Nat.le_trans hc1 hc2)
      have hK := keyOk_get (hi := hi) (st := st) hlt'
      have out : ¬ KeyOk hi st l i → ¬ KeysOk hi st l := fun h h' => h (h' i hlt')
      have nx : KeyOk hi st l i → ∀ j, j < i + 1 → KeyOk hi st l j := fun h => Nat.forall_lt_succ_right.2 ⟨hk, h⟩
      by_cases p1 : l[i] < 0
      · simp -dsimp -implicitDefEqProofs only [h7,h0,h1,h2,hb1,and_self,hck,p1,m163,sF163,ZA,↓reduceIte,ZB,ZC,ZJ,ZK,ZE,ZF,ZG,ZH,ZI,reduceCtorEq,ZD,mwV,↓mwD,mwU]
        exact .no hx (out (by rw [hK]; omega))
      by_cases p2 : hi < l[i]
      · simp -dsimp -implicitDefEqProofs only [h7,h0,h1,h2,hb1,and_self,hck,p1,p2,m163,sF163,ZA,↓reduceIte,ZB,ZC,ZJ,ZK,ZE,ZF,ZG,ZH,ZI,reduceCtorEq,ZD,mwV,↓mwD,mwU]
        exact .no hx (out (by rw [hK]; omega))
      simp -dsimp -implicitDefEqProofs only [h7,h0,h1,h2,hb1,and_self,hck,p1,p2,m163,sF163,ZA,↓reduceIte,ZB,ZC,ZJ,ZK,ZE,ZF,ZG,ZH,ZI,reduceCtorEq,ZD,mwV,↓mwD,mwU]
      refine mwpB_drawE ?_
      have hxd := hx.trans (Ext.drew w')
      by_cases p3 : 0 < (i : Int)
      rotate_left
      · have d3 : decide (0 < (i : Int)) = false := by simpa using p3
        simp -dsimp -implicitDefEqProofs only [h7,h0,h1,h2,d3,hs1,m163,sF163,ZA,↓reduceIte,ZB,ZC,ZJ,ZK,ZE,ZF,ZG,ZH,ZI,reduceCtorEq,ZD,mwV,↓mwD,mwU]
        exact ⟨⟨i + 1, by omega, rfl, hxd, nx (hK.2 ⟨by omega, by omega, .inl (by omega)⟩)⟩, by simp only [intOf,h7]; omega⟩
      have hcp := hx.cell (hcell (i - 1) (by omega))
      have hw3 : IntKind.i64.wrap ((i : Int) - 1) = ((i - 1 : Nat) : Int) := by rw [w64 (by omega) (by unfold maxLen at hc2; omega)]; omega
      have hb3 : (0 : Int) ≤ ((i - 1 : Nat) : Int) ∧ ((i - 1 : Nat) : Int) < l.length := by omega
      have base : True := trivial
      generalize hy : l[i - 1]'(by omega) = y at *
      generalize hz : l[i] = z at *
      by_cases p4 : z < y
      · simp -dsimp -implicitDefEqProofs only [h7,h0,h1,h2,hb1,and_self,hck,p3,hw3,hb3,hcp,p4,m163,sF163,ZA,↓reduceIte,ZB,ZC,ZJ,ZK,ZE,ZF,ZG,ZH,ZI,reduceCtorEq,ZD,mwV,↓mwD,mwU]
        exact .no hxd (out (by rw [hK]; omega))
      by_cases p5 : y = z
      · subst p5
        cases st
        · simp -dsimp -implicitDefEqProofs only [h7,h0,h1,h2,hb1,and_self,hck,p3,hw3,hb3,hcp,p4,hs1,m163,sF163,ZA,↓reduceIte,ZB,ZC,ZJ,ZK,ZE,ZF,ZG,ZH,ZI,reduceCtorEq,ZD,mwV,↓mwD,mwU]
          exact ⟨⟨i + 1, by omega, rfl, hxd, nx (hK.2 ⟨by omega, by omega, .inr (.inr ⟨rfl, rfl⟩)⟩)⟩, by simp only [intOf,h7]; omega⟩
        · simp -dsimp -implicitDefEqProofs only [h7,h0,h1,h2,hb1,and_self,hck,p3,hw3,hb3,hcp,p4,m163,sF163,ZA,↓reduceIte,ZB,ZC,ZJ,ZK,ZE,ZF,ZG,ZH,ZI,reduceCtorEq,ZD,mwV,↓mwD,mwU]
          exact .no hxd (out (by rw [hK]; simp only [Bool.true_eq_false,false_and,or_false]; omega))
      cases st
      · simp -dsimp -implicitDefEqProofs only [h7,h0,h1,h2,hb1,and_self,hck,p3,hw3,hb3,hcp,p4,p5,hs1,m163,sF163,ZA,↓reduceIte,ZB,ZC,ZJ,ZK,ZE,ZF,ZG,ZH,ZI,reduceCtorEq,ZD,mwV,↓mwD,mwU]
        exact ⟨⟨i + 1, by omega, rfl, hxd, nx (hK.2 ⟨by omega, by omega, .inr (.inl (by omega))⟩)⟩, by simp only [intOf,h7]; omega⟩
      · simp -dsimp -implicitDefEqProofs only [h7,h0,h1,h2,hb1,and_self,hck,p3,hw3,hb3,hcp,p4,p5,hs1,m163,sF163,ZA,↓reduceIte,ZB,ZC,ZJ,ZK,ZE,ZF,ZG,ZH,ZI,reduceCtorEq,ZD,mwV,↓mwD,mwU]
        exact ⟨⟨i + 1, by omega, rfl, hxd, nx (hK.2 ⟨by omega, by omega, .inr (.inl (by omega))⟩)⟩, by simp only [intOf,h7]; omega⟩
    · have hkl : i = l.length := by omega
      subst hkl
      simp -dsimp -implicitDefEqProofs only [h7,h0,h1,h2,m163,sF163,ZA,↓reduceIte,ZB,ZC,ZJ,ZK,ZE,ZF,ZG,ZH,ZI,reduceCtorEq,ZD,mwV,↓mwD,mwU]
      exact .yes hx hk
end Go.Proofs.YthcdnjbhhaonhaaGreatDoor
/- Layer 01: the numbers of a choice by the reference. -/
namespace Go.Proofs.YthcdnjbhhaonhaaGreatDoor
open Go.RowKit
open Nat renaming reduceEqDiff → ZA, reduceAdd → ZB, reduceMul → ZC, reduceSub → ZD
open Int renaming reduceToNat → ZE, reduceEq → ZF, reduceLT → ZG, reduceLE → ZH, reduceNeg → ZI
open Go.Value renaming oneCell' → ZK, cells → ZJ
set_option linter.unusedSimpArgs false
set_option maxHeartbeats 8000000 in
theorem numbersR_c (how : Int) (v : Value) (l : List Vt) (w : World) (h : SlV w v l) : Rets Go.Proofs.Tryz.prog 164 #[.int .i64 how, v] w (YesQ ((∀ x, x ∈ l → x.k = 3 ∧ Bare x true false false false) ∧ NumsOk how (l.map Vt.n)) w) := by
  obtain ⟨q, cap, rfl, hc1, hc2⟩ := h.shape
  refine en164 ?_
  refine mwpB_cut 2 (fun e ds w' => e 0 = .int .i64 how ∧ e 1 = .slice q l.length cap ∧ ds = [] ∧ Ext w w' ∧ ∀ x, x ∈ l → x.k = 3 ∧ Bare x true false false false) ?_ ?_
  · simp -dsimp -implicitDefEqProofs only [headM_zero,headM_seq,m164,sF164,ZA,↓reduceIte,ZB,ZC,ZJ,ZK,ZE,ZF,ZG,ZH,ZI,reduceCtorEq,ZD,mwV,↓mwD,mwU]
    refine mwpB_loop (fun e ds w' => ∃ i : Nat, i ≤ l.length ∧ e 5 = .int .i64 i ∧ e 0 = .int .i64 how ∧ e 1 = .slice q l.length cap ∧ ds = [] ∧ Ext w w' ∧ ∀ x, x ∈ l.take i → x.k = 3 ∧ Bare x true false false false)
      (fun e _ => l.length - (intOf (e 5)).toNat) ?_ ?_
    · simp -dsimp -implicitDefEqProofs only [m164,sF164,ZA,↓reduceIte,ZB,ZC,ZJ,ZK,ZE,ZF,ZG,ZH,ZI,reduceCtorEq,ZD,mwV,↓mwD,mwU]
      exact ⟨0, by omega, rfl, Ext.refl _, fun x hx => by simp at hx⟩
    · rintro e ds w' ⟨i, hi, h5, h0, h1, rfl, hx, hp⟩
      simp -dsimp -implicitDefEqProofs only [h5,h0,h1,m164,sF164,ZA,↓reduceIte,ZB,ZC,ZJ,ZK,ZE,ZF,ZG,ZH,ZI,reduceCtorEq,ZD,mwV,↓mwD,mwU]
      refine iteW_dec (fun hlt => ?_) (fun hge => ?_)
      · have hlt' : i < l.length := by omega
        obtain ⟨b, o, t1, m1, d1, t2, d2, rfl, k0, k1, k2, k3, k4, hk, rfl⟩ := (h.ext hx).get hlt'
        have hb1 : (0 : Int) ≤ i ∧ (i : Int) < l.length := by omega
        have hs1 := w64_succ hlt' (Nat.le_trans hc1 hc2)
        by_cases p1 : l[i].k = 3
        rotate_left
        · simp -dsimp -implicitDefEqProofs only [h5,h0,h1,hb1,and_self,Nat.mul_comm i 5,k0,p1,m164,sF164,ZA,↓reduceIte,ZB,ZC,ZJ,ZK,ZE,ZF,ZG,ZH,ZI,reduceCtorEq,ZD,mwV,↓mwD,mwU]
          exact .no hx (fun h => p1 (h.1 _ (List.getElem_mem hlt')).1)
        have d1' : decide (l[i].k = 3) = true := by simpa using p1
        simp -dsimp -implicitDefEqProofs only [h5,h0,h1,hb1,and_self,Nat.mul_comm i 5,k0,k1,k2,k3,k4,d1',m164,sF164,ZA,↓reduceIte,ZB,ZC,ZJ,ZK,ZE,ZF,ZG,ZH,ZI,reduceCtorEq,ZD,mwV,↓mwD,mwU]
        refine (rbare_c _ _ _ true false false false w' hk).use ?_
        rintro r w2 ⟨hx2, y, rfl, hy⟩
        cases y
        · simp -dsimp -implicitDefEqProofs only [m164,sF164,ZA,↓reduceIte,ZB,ZC,ZJ,ZK,ZE,ZF,ZG,ZH,ZI,reduceCtorEq,ZD,mwV,↓mwD,mwU]
          exact .no (hx.trans hx2) (fun h => by have := hy.2 (h.1 _ (List.getElem_mem hlt')).2; cases this)
        · simp -dsimp -implicitDefEqProofs only [h5,h0,h1,hs1,m164,sF164,ZA,↓reduceIte,ZB,ZC,ZJ,ZK,ZE,ZF,ZG,ZH,ZI,reduceCtorEq,ZD,mwV,↓mwD,mwU]
          refine ⟨⟨i + 1, by omega, rfl, hx.trans hx2, fun x hm => ?_⟩, by simp only [intOf,h5]; omega⟩
          rw [List.take_succ_eq_append_getElem hlt', List.mem_append, List.mem_singleton] at hm
          rcases hm with hm | rfl
          · exact hp x hm
          · exact ⟨p1, hy.1 rfl⟩
      · have hkl : i = l.length := by omega
        rw [hkl, List.take_length] at hp
        simp -dsimp -implicitDefEqProofs only [h5,h0,h1,m164,sF164,ZA,↓reduceIte,ZB,ZC,ZJ,ZK,ZE,ZF,ZG,ZH,ZI,reduceCtorEq,ZD,mwV,↓mwD,mwU]
        exact ⟨hx, hp⟩
  rintro e ds w1 ⟨h0, h1, rfl, hx, hall⟩
  rw [show ((∀ x, x ∈ l → x.k = 3 ∧ Bare x true false false false) ∧ NumsOk how (l.map Vt.n)) ↔ NumsOk how (l.map Vt.n) from ⟨fun h => h.2, fun h => ⟨hall, h⟩⟩]
  cases l with
  | nil =>
    simp -dsimp -implicitDefEqProofs only [tailM_zero,tailM_seq,h0,h1,List.length_nil,Int.natCast_zero,Int.ofNat_zero,m164,sF164,ZA,↓reduceIte,ZB,ZC,ZJ,ZK,ZE,ZF,ZG,ZH,ZI,reduceCtorEq,ZD,mwV,↓mwD,mwU]
    exact .no hx (fun h => h)
  | cons x l =>
  have hne : ¬ ((x :: l).length : Int) = 0 := by simp only [List.length_cons]; omega
  have num : ∀ {w' : World} (i : Nat) (hi : i < l.length), Ext w1 w' → ∃ b o, q = some ⟨b, o, none⟩ ∧ w'.cell? ⟨b, o + 5 * (i + 1) + 1, none⟩ = some (.int .i64 ((l.map Vt.n).getD i 0)) := fun {w'} i hi he => by
    obtain ⟨b, o, hq, hc⟩ := (h.ext (hx.trans he)).num (i := i + 1) (by simp; omega)
    exact ⟨b, o, hq, by simpa using hc⟩
  have num2 : ∀ i, i < l.length → -9223372036854775808 ≤ (l.map Vt.n).getD i 0 ∧ (l.map Vt.n).getD i 0 ≤ 9223372036854775807 := fun i hi => by
    obtain ⟨_, _, _, _, _, _, _, _, _, _, _, _, _, hk2, _⟩ := h.get (i := i + 1) (by simp; omega)
    have hb := hk2.text
    simp only [List.getElem_cons_succ] at hb
    rw [List.getD_eq_getElem?_getD, List.getElem?_map, List.getElem?_eq_getElem hi]
    exact hb.2.2
  obtain ⟨b, o, rfl, k0, k1⟩ := (h.ext hx).first
  have hlen : (x :: l).length = l.length + 1 := rfl
  have hcl : l.length < cap := by omega
  generalize hN : (x :: l).length = N at *
  have hb1 : (0 : Int) ≤ 0 ∧ (0 : Int) < (N : Int) := by omega
  rw [show (x :: l).map Vt.n = x.n :: l.map Vt.n from rfl]
  generalize hL : l.map Vt.n = L at *
  have hLl : L.length = l.length := by rw [← hL]; simp
  generalize x.n = d at *
  by_cases n1 : how = 1
  · subst n1
    by_cases e1 : (N : Int) = 1
    · simp -dsimp -implicitDefEqProofs only [tailM_zero,tailM_seq,h0,h1,hne,hb1,and_self,k1,Nat.mul_zero,Nat.zero_mul,Nat.add_zero,Int.toNat_zero,m164,sF164,ZA,↓reduceIte,ZB,ZC,ZJ,ZK,ZE,ZF,ZG,ZH,ZI,reduceCtorEq,ZD,mwV,↓mwD,mwU]
      exact .mk' hx (by rw [decide_eq_true_eq]; exact ⟨fun _ => .inl ⟨rfl, by omega⟩, fun _ => e1⟩)
    · simp -dsimp -implicitDefEqProofs only [tailM_zero,tailM_seq,h0,h1,hne,hb1,and_self,k1,Nat.mul_zero,Nat.zero_mul,Nat.add_zero,Int.toNat_zero,m164,sF164,ZA,↓reduceIte,ZB,ZC,ZJ,ZK,ZE,ZF,ZG,ZH,ZI,reduceCtorEq,ZD,mwV,↓mwD,mwU]
      refine .mk' hx ?_
      rw [decide_eq_true_eq]
      refine ⟨fun h => absurd h e1, fun h => ?_⟩
      rcases h with h | h | h | h
      · omega
      · exact absurd h.1 (by decide)
      · exact absurd h.1 (by decide)
      · exact absurd h.1 (by decide)
  by_cases n2 : how = 2
  · subst n2
    simp -dsimp -implicitDefEqProofs only [tailM_zero,tailM_seq,h0,h1,hne,hb1,and_self,k1,Nat.mul_zero,Nat.zero_mul,Nat.add_zero,Int.toNat_zero,m164,sF164,ZA,↓reduceIte,ZB,ZC,ZJ,ZK,ZE,ZF,ZG,ZH,ZI,reduceCtorEq,ZD,mwV,↓mwD,mwU]
    refine mwpB_loop (fun e ds w' => ∃ (j : Nat) (f : Bool), j + 1 ≤ N ∧ e 8 = .int .i64 ((j + 1 : Nat) : Int) ∧ e 7 = .bool f ∧ e 6 = .int .i64 d ∧ e 1 = .slice (some ⟨b, o, none⟩) N cap ∧ ds = [] ∧ Ext w1 w' ∧ (f = true ↔ (L.take j).contains d = true) ∧ dis (L.take j) = true)
      (fun e _ => N - (intOf (e 8)).toNat) ?_ ?_
    · simp -dsimp -implicitDefEqProofs only [h1,m164,sF164,ZA,↓reduceIte,ZB,ZC,ZJ,ZK,ZE,ZF,ZG,ZH,ZI,reduceCtorEq,ZD,mwV,↓mwD,mwU]
      exact ⟨0, _, by omega, rfl, rfl, Ext.refl _, by simp, rfl⟩
    · clear h0 h1
      rintro e ds w' ⟨j, f, hj, h8, h7, h6, h1, rfl, hxw, hf, hdis⟩
      simp -dsimp -implicitDefEqProofs only [h8,h7,h6,h1,m164,sF164,ZA,↓reduceIte,ZB,ZC,ZJ,ZK,ZE,ZF,ZG,ZH,ZI,reduceCtorEq,ZD,mwV,↓mwD,mwU]
      refine iteW_dec (fun hlt => ?_) (fun hge => ?_)
      · have hjl : j < l.length := by omega
        have hjL : j < L.length := by omega
        obtain ⟨b3, o3, hq3, m0⟩ := num j hjl hxw
        cases hq3
        have hbj : (0 : Int) ≤ ((j + 1 : Nat) : Int) ∧ ((j + 1 : Nat) : Int) < (N : Int) := by omega
        have hs1 : IntKind.i64.wrap (((j + 1 : Nat) : Int) + 1) = ((j + 1 + 1 : Nat) : Int) := by rw [w64 (by omega) (by unfold maxLen at hc2; omega)]; omega
        have htk := List.take_succ_eq_append_getElem hjL
        have hgj := getD_get hjL
        have hnf : ∀ b' : Bool, (b' = true ↔ (f = true ∨ L.getD j 0 = d)) → (b' = true ↔ (L.take (j + 1)).contains d = true) := fun b' hb' => by
          rw [hb', hf, contains_take_succ hjL, ← hgj]
          simp only [Bool.or_eq_true,decide_eq_true_eq]
          exact or_congr Iff.rfl ⟨fun h => h.symm, fun h => h.symm⟩
        have H8 := h8
        cases f
        all_goals
          simp -dsimp -implicitDefEqProofs only [h8,h7,h6,h1,hbj,and_self,Nat.mul_comm (j + 1) 5,m0,m164,sF164,ZA,↓reduceIte,ZB,ZC,ZJ,ZK,ZE,ZF,ZG,ZH,ZI,reduceCtorEq,ZD,mwV,↓mwD,mwU]
          refine mwpB_loop (fun e ds w2 => ∃ (k : Nat) (f' : Bool), k ≤ j ∧ e 9 = .int .i64 ((k + 1 : Nat) : Int) ∧ e 8 = .int .i64 ((j + 1 : Nat) : Int) ∧ e 7 = .bool f' ∧ e 6 = .int .i64 d ∧ e 1 = .slice (some ⟨b, o, none⟩) N cap ∧ ds = [] ∧ Ext w1 w2 ∧ (f' = true ↔ (L.take (j + 1)).contains d = true) ∧ ∀ m, m < k → L.getD m 0 ≠ L.getD j 0)
            (fun e _ => j + 1 - (intOf (e 9)).toNat) ?_ ?_
          · simp -dsimp -implicitDefEqProofs only [h8,h7,h6,h1,m164,sF164,ZA,↓reduceIte,ZB,ZC,ZJ,ZK,ZE,ZF,ZG,ZH,ZI,reduceCtorEq,ZD,mwV,↓mwD,mwU]
            exact ⟨0, _, by omega, rfl, rfl, hxw, hnf _ (by simp), fun m hm => by omega⟩
          · clear h8 h7 h6 h1
            rintro e ds w2 ⟨k, f', hkj, g9, g8, g7, g6, g1, rfl, hx2, hf', hne'⟩
            simp -dsimp -implicitDefEqProofs only [g9,g8,g7,g6,g1,m164,sF164,ZA,↓reduceIte,ZB,ZC,ZJ,ZK,ZE,ZF,ZG,ZH,ZI,reduceCtorEq,ZD,mwV,↓mwD,mwU]
            refine iteW_dec (fun hlt2 => ?_) (fun hge2 => ?_)
            · have hkl : k < l.length := by omega
              have hkL : k < L.length := by omega
              obtain ⟨b3, o3, hq3, m1⟩ := num k hkl (hx2.trans (Ext.drew _))
              cases hq3
              obtain ⟨b3, o3, hq3, m2⟩ := num j hjl (hx2.trans (Ext.drew _))
              cases hq3
              have hbk : (0 : Int) ≤ ((k + 1 : Nat) : Int) ∧ ((k + 1 : Nat) : Int) < (N : Int) := by omega
              have hs2 : IntKind.i64.wrap (((k + 1 : Nat) : Int) + 1) = ((k + 1 + 1 : Nat) : Int) := by rw [w64 (by omega) (by unfold maxLen at hc2; omega)]; omega
              simp -dsimp -implicitDefEqProofs only [g9,g8,g7,g6,g1,m164,sF164,ZA,↓reduceIte,ZB,ZC,ZJ,ZK,ZE,ZF,ZG,ZH,ZI,reduceCtorEq,ZD,mwV,↓mwD,mwU]
              refine mwpB_drawE ?_
              by_cases he : L.getD k 0 = L.getD j 0
              · have he' : decide (L.getD k 0 = L.getD j 0) = true := by simpa using he
                simp -dsimp -implicitDefEqProofs only [g9,g8,g7,g6,g1,hbk,hbj,and_self,Nat.mul_comm (k + 1) 5,Nat.mul_comm (j + 1) 5,m1,m2,he',m164,sF164,ZA,↓reduceIte,ZB,ZC,ZJ,ZK,ZE,ZF,ZG,ZH,ZI,reduceCtorEq,ZD,mwV,↓mwD,mwU]
                refine .no (hx.trans (hx2.trans (Ext.drew _))) (fun h => ?_)
                have hd : dis L = true := by
                  rcases h with h | h | h | h
                  · exact absurd h.1 (by decide)
                  · exact h.2.1
                  · exact absurd h.1 (by decide)
                  · exact absurd h.1 (by decide)
                have := dis_pre (L.take (j + 1)) (L.drop (j + 1)) (by rw [List.take_append_drop]; exact hd)
                rw [htk, dis_app, ← hgj, ← he, getD_get hkL, contains_take_mem (by omega) (by omega)] at this
                simp at this
              · have he' : decide (L.getD k 0 = L.getD j 0) = false := by simpa using he
                simp -dsimp -implicitDefEqProofs only [g9,g8,g7,g6,g1,hbk,hbj,and_self,Nat.mul_comm (k + 1) 5,Nat.mul_comm (j + 1) 5,m1,m2,he',hs2,m164,sF164,ZA,↓reduceIte,ZB,ZC,ZJ,ZK,ZE,ZF,ZG,ZH,ZI,reduceCtorEq,ZD,mwV,↓mwD,mwU]
                refine ⟨⟨k + 1, f', by omega, rfl, rfl, hx2.trans (Ext.drew _), hf', fun m hm => ?_⟩, by simp only [intOf,g9]; omega⟩
                rcases Nat.lt_succ_iff_lt_or_eq.1 hm with hm | rfl
                · exact hne' m hm
                · exact he
            · have hkj' : k = j := by omega
              subst hkj'
              simp -dsimp -implicitDefEqProofs only [g9,g8,g7,g6,g1,hs1,m164,sF164,ZA,↓reduceIte,ZB,ZC,ZJ,ZK,ZE,ZF,ZG,ZH,ZI,reduceCtorEq,ZD,mwV,↓mwD,mwU]
              refine ⟨⟨k + 1, f', by omega, rfl, rfl, hx2, hf', ?_⟩, by simp only [intOf,H8]; omega⟩
              rw [htk, dis_app, hdis]
              simp only [Bool.true_and,Bool.not_eq_true',List.contains_eq_mem,decide_eq_false_iff_not]
              intro hm
              obtain ⟨m, hm1, hm2⟩ := List.mem_take_iff_getElem.1 hm
              exact hne' m (by omega) (by rw [hgj, ← hm2, getD_get])
      · have hjl : j = L.length := by omega
        rw [hjl, List.take_length] at hf hdis
        simp -dsimp -implicitDefEqProofs only [h8,h7,h6,h1,m164,sF164,ZA,↓reduceIte,ZB,ZC,ZJ,ZK,ZE,ZF,ZG,ZH,ZI,reduceCtorEq,ZD,mwV,↓mwD,mwU]
        refine .mk' (hx.trans hxw) (hf.trans ⟨fun h => .inr (.inl ⟨rfl, hdis, h⟩), fun h => ?_⟩)
        rcases h with h | h | h | h
        · exact absurd h.1 (by decide)
        · exact h.2.2
        · exact absurd h.1 (by decide)
        · exact absurd h.1 (by decide)
  by_cases n3 : how = 3
  · subst n3
    by_cases l2 : (N : Int) = 3
    rotate_left
    · simp -dsimp -implicitDefEqProofs only [tailM_zero,tailM_seq,h0,h1,hne,hb1,and_self,k1,Nat.mul_zero,Nat.zero_mul,Nat.add_zero,Int.toNat_zero,l2,m164,sF164,ZA,↓reduceIte,ZB,ZC,ZJ,ZK,ZE,ZF,ZG,ZH,ZI,reduceCtorEq,ZD,mwV,↓mwD,mwU]
      refine .no hx (fun h => ?_)
      rcases h with h | h | h | h
      · exact absurd h.1 (by decide)
      · exact absurd h.1 (by decide)
      · omega
      · exact absurd h.1 (by decide)
    obtain ⟨b3, o3, hq3, m0⟩ := num 0 (by omega) (Ext.refl w1)
    cases hq3
    obtain ⟨b3, o3, hq3, m1⟩ := num 1 (by omega) (Ext.refl w1)
    cases hq3
    have m0a : w1.cell? ⟨b, o + 5 + 1, none⟩ = some (.int .i64 (L.getD 0 0)) := m0
    have m0b : w1.cell? ⟨b, o + 6, none⟩ = some (.int .i64 (L.getD 0 0)) := m0
    have m1a : w1.cell? ⟨b, o + 10 + 1, none⟩ = some (.int .i64 (L.getD 1 0)) := m1
    have m1b : w1.cell? ⟨b, o + 11, none⟩ = some (.int .i64 (L.getD 1 0)) := m1
    have hb4 : (0 : Int) ≤ 1 ∧ (1 : Int) < (N : Int) := by omega
    have hb5 : (0 : Int) ≤ 2 ∧ (2 : Int) < (N : Int) := by omega
    have hno : NumsOk 3 (d :: L) ↔ L.getD 0 0 ≤ d ∧ d ≤ L.getD 1 0 := by
      simp only [NumsOk]
      constructor
      · rintro (h | h | h | h)
        · exact absurd h.1 (by decide)
        · exact absurd h.1 (by decide)
        · exact h.2.2
        · exact absurd h.1 (by decide)
      · exact fun h => .inr (.inr (.inl ⟨trivial, by omega, h⟩))
    rw [hno]
    generalize L.getD 0 0 = y0 at *
    generalize L.getD 1 0 = y1 at *
    by_cases e1 : y0 ≤ d
    · by_cases e2 : d ≤ y1
      · simp -dsimp -implicitDefEqProofs only [tailM_zero,tailM_seq,h0,h1,hne,hb1,hb4,hb5,and_self,k1,Nat.mul_zero,Nat.zero_mul,Nat.add_zero,Int.toNat_zero,l2,m0a,m0b,m1a,m1b,e1,e2,m164,sF164,ZA,↓reduceIte,ZB,ZC,ZJ,ZK,ZE,ZF,ZG,ZH,ZI,reduceCtorEq,ZD,mwV,↓mwD,mwU]
        exact .yes hx (by trivial)
      · simp -dsimp -implicitDefEqProofs only [tailM_zero,tailM_seq,h0,h1,hne,hb1,hb4,hb5,and_self,k1,Nat.mul_zero,Nat.zero_mul,Nat.add_zero,Int.toNat_zero,l2,m0a,m0b,m1a,m1b,e1,e2,m164,sF164,ZA,↓reduceIte,ZB,ZC,ZJ,ZK,ZE,ZF,ZG,ZH,ZI,reduceCtorEq,ZD,mwV,↓mwD,mwU]
        exact .no hx (by simp)
    · simp -dsimp -implicitDefEqProofs only [tailM_zero,tailM_seq,h0,h1,hne,hb1,hb4,hb5,and_self,k1,Nat.mul_zero,Nat.zero_mul,Nat.add_zero,Int.toNat_zero,l2,m0a,m0b,m1a,m1b,e1,m164,sF164,ZA,↓reduceIte,ZB,ZC,ZJ,ZK,ZE,ZF,ZG,ZH,ZI,reduceCtorEq,ZD,mwV,↓mwD,mwU]
      exact .no hx (by simp)
  by_cases n4 : how = 4
  · subst n4
    have hxd := hx.trans (Ext.drew w1)
    simp -dsimp -implicitDefEqProofs only [tailM_zero,tailM_seq,h0,h1,hne,hb1,and_self,k1,Nat.mul_zero,Nat.zero_mul,Nat.add_zero,Int.toNat_zero,m164,sF164,ZA,↓reduceIte,ZB,ZC,ZJ,ZK,ZE,ZF,ZG,ZH,ZI,reduceCtorEq,ZD,mwV,↓mwD,mwU]
    refine mwpB_drawE ?_
    by_cases l3 : (N : Int) = 4
    rotate_left
    · simp -dsimp -implicitDefEqProofs only [h0,h1,l3,m164,sF164,ZA,↓reduceIte,ZB,ZC,ZJ,ZK,ZE,ZF,ZG,ZH,ZI,reduceCtorEq,ZD,mwV,↓mwD,mwU]
      refine .no hxd (fun h => ?_)
      rcases h with h | h | h | h
      · exact absurd h.1 (by decide)
      · exact absurd h.1 (by decide)
      · exact absurd h.1 (by decide)
      · omega
    obtain ⟨b3, o3, hq3, m0⟩ := num 0 (by omega) (Ext.refl w1)
    cases hq3
    obtain ⟨b3, o3, hq3, m1⟩ := num 1 (by omega) (Ext.refl w1)
    cases hq3
    obtain ⟨b3, o3, hq3, m2⟩ := num 2 (by omega) (Ext.refl w1)
    cases hq3
    have m0a : w1.cell? ⟨b, o + 5 + 1, none⟩ = some (.int .i64 (L.getD 0 0)) := m0
    have m0b : w1.cell? ⟨b, o + 6, none⟩ = some (.int .i64 (L.getD 0 0)) := m0
    have m1a : w1.cell? ⟨b, o + 10 + 1, none⟩ = some (.int .i64 (L.getD 1 0)) := m1
    have m1b : w1.cell? ⟨b, o + 11, none⟩ = some (.int .i64 (L.getD 1 0)) := m1
    have m2a : w1.cell? ⟨b, o + 15 + 1, none⟩ = some (.int .i64 (L.getD 2 0)) := m2
    have m2b : w1.cell? ⟨b, o + 16, none⟩ = some (.int .i64 (L.getD 2 0)) := m2
    have hb4 : (0 : Int) ≤ 1 ∧ (1 : Int) < (N : Int) := by omega
    have hb5 : (0 : Int) ≤ 2 ∧ (2 : Int) < (N : Int) := by omega
    have hb6 : (0 : Int) ≤ 3 ∧ (3 : Int) < (N : Int) := by omega
    have hno : NumsOk 4 (d :: L) ↔ 0 < L.getD 2 0 ∧ L.getD 0 0 ≤ d ∧ d ≤ L.getD 1 0 ∧ (IntKind.u64.wrap (IntKind.u64.wrap d - IntKind.u64.wrap (L.getD 0 0))).tmod (IntKind.u64.wrap (L.getD 2 0)) = 0 := by
      simp only [NumsOk]
      constructor
      · rintro (h | h | h | h)
        · exact absurd h.1 (by decide)
        · exact absurd h.1 (by decide)
        · exact absurd h.1 (by decide)
        · exact h.2.2
      · exact fun h => .inr (.inr (.inr ⟨trivial, by omega, h⟩))
    have hy2 : 0 < L.getD 2 0 → ¬ IntKind.u64.wrap (L.getD 2 0) = 0 := fun h => by
      have := num2 2 (by omega)
      rw [IntKind.wrap_u64]
      omega
    rw [hno]
    generalize L.getD 0 0 = y0 at *
    generalize L.getD 1 0 = y1 at *
    generalize L.getD 2 0 = y2 at *
    by_cases e1 : y0 ≤ d
    rotate_left
    · simp -dsimp -implicitDefEqProofs only [h0,h1,hb1,hb4,hb5,hb6,and_self,Nat.mul_zero,Nat.zero_mul,Nat.add_zero,Int.toNat_zero,l3,m0a,m0b,m1a,m1b,m2a,m2b,e1,m164,sF164,ZA,↓reduceIte,ZB,ZC,ZJ,ZK,ZE,ZF,ZG,ZH,ZI,reduceCtorEq,ZD,mwV,↓mwD,mwU]
      exact .no hxd (by simp)
    by_cases e2 : d ≤ y1
    rotate_left
    · simp -dsimp -implicitDefEqProofs only [h0,h1,hb1,hb4,hb5,hb6,and_self,Nat.mul_zero,Nat.zero_mul,Nat.add_zero,Int.toNat_zero,l3,m0a,m0b,m1a,m1b,m2a,m2b,e1,e2,m164,sF164,ZA,↓reduceIte,ZB,ZC,ZJ,ZK,ZE,ZF,ZG,ZH,ZI,reduceCtorEq,ZD,mwV,↓mwD,mwU]
      exact .no hxd (by simp)
    by_cases e0 : 0 < y2
    rotate_left
    · simp -dsimp -implicitDefEqProofs only [h0,h1,hb1,hb4,hb5,hb6,and_self,Nat.mul_zero,Nat.zero_mul,Nat.add_zero,Int.toNat_zero,l3,m0a,m0b,m1a,m1b,m2a,m2b,e1,e2,e0,m164,sF164,ZA,↓reduceIte,ZB,ZC,ZJ,ZK,ZE,ZF,ZG,ZH,ZI,reduceCtorEq,ZD,mwV,↓mwD,mwU]
      exact .no hxd (by simp)
    simp -dsimp -implicitDefEqProofs only [h0,h1,hb1,hb4,hb5,hb6,and_self,Nat.mul_zero,Nat.zero_mul,Nat.add_zero,Int.toNat_zero,l3,m0a,m0b,m1a,m1b,m2a,m2b,e1,e2,e0,m164,sF164,ZA,↓reduceIte,ZB,ZC,ZJ,ZK,ZE,ZF,ZG,ZH,ZI,reduceCtorEq,ZD,mwV,↓mwD,mwU]
    exact ⟨hy2 e0, .mk' hxd decide_eq_true_iff⟩
  simp -dsimp -implicitDefEqProofs only [tailM_zero,tailM_seq,h0,h1,hne,hb1,and_self,k1,Nat.mul_zero,Nat.zero_mul,Nat.add_zero,Int.toNat_zero,n1,n2,n3,n4,m164,sF164,ZA,↓reduceIte,ZB,ZC,ZJ,ZK,ZE,ZF,ZG,ZH,ZI,reduceCtorEq,ZD,mwV,↓mwD,mwU]
  refine .no hx ?_
  simp only [NumsOk]
  omega
end Go.Proofs.YthcdnjbhhaonhaaGreatDoor
