/- Layer 02: the reference's Join; the law FormatJoins. -/
import Derived.Test.YthcdnjbhhaonhaaGreatDoorQjFoQToFoS

namespace Go.Proofs.YthcdnjbhhaonhaaGreatDoor
open Go.RowKit
open Nat renaming reduceEqDiff → ZA, reduceAdd → ZB, reduceMul → ZC, reduceSub → ZD
open Int renaming reduceToNat → ZE, reduceEq → ZF, reduceLT → ZG, reduceLE → ZH, reduceNeg → ZI
open Go.Value renaming oneCell' → ZK, cells → ZJ
set_option linter.unusedSimpArgs false
theorem refJoin_c (a b : Fm) (sa sb : Value) (w : World) (hA : SlF w sa a.F) (hB : SlF w sb b.F) : Rets Go.Proofs.Tryz.prog 37 #[fmV a sa, fmV b sb] w (JoinF a b w) := by
 obtain ⟨pa, ca, rfl, hc1, hc2⟩ := hA.shape
 obtain ⟨pb, cb, rfl, hc3, hc4⟩ := hB.shape
 obtain ⟨W, hW, A, B, C4, hx⟩ : ∃ W, W = ((w.alloc (.cells #[.int .i64 a.m, .slice pa a.F.length ca] 24)).alloc (.cells #[.int .i64 b.m, .slice pb b.F.length cb] 24)).alloc (.cells #[.int .i64 0, .slice none 0 0] 24) ∧
  Bk W w.heap.size [.int .i64 a.m, .slice pa a.F.length ca] 24 ∧ Bk W (w.heap.size + 1) [.int .i64 b.m, .slice pb b.F.length cb] 24 ∧ Bk W (w.heap.size + 2) [.int .i64 0, .slice none 0 0] 24 ∧ Ext w W := by
  refine ⟨_, rfl, ((Bk.new w _ _).ext (Ext.alloc _ _)).ext (Ext.alloc _ _), ?_, ?_, ((Ext.alloc _ _).trans (Ext.alloc _ _)).trans (Ext.alloc _ _)⟩
  · have := Bk.new (w.alloc (.cells #[.int .i64 a.m, .slice pa a.F.length ca] 24)) [.int .i64 b.m, .slice pb b.F.length cb] 24
    rw [World.size_alloc] at this
    exact this.ext (Ext.alloc _ _)
  · have := Bk.new ((w.alloc (.cells #[.int .i64 a.m, .slice pa a.F.length ca] 24)).alloc (.cells #[.int .i64 b.m, .slice pb b.F.length cb] 24)) [.int .i64 0, .slice none 0 0] 24
    rw [World.size_alloc, World.size_alloc] at this
    exact this
 have hsz : W.heap.size = w.heap.size + 3 := by rw [hW]; simp only [World.size_alloc]
 refine en37 ?_
 refine mwpB_cut 1 (fun e ds w' => e 2 = .pointer (some ⟨w.heap.size, 0, none⟩) ∧ e 3 = .pointer (some ⟨w.heap.size + 1, 0, none⟩) ∧ e 4 = .pointer (some ⟨w.heap.size + 2, 0, none⟩) ∧ ds = [] ∧ w' = W) ?_ ?_
 · simp -dsimp -implicitDefEqProofs only [fmV,headM_zero,headM_seq,World.size_alloc,Nat.add_assoc,← hW,m37,sF37,ZA,↓reduceIte,ZB,ZC,ZJ,ZK,ZE,ZF,ZG,ZH,ZI,reduceCtorEq,ZD,mwV,↓mwD,mwU]
 clear hW
 rintro e ds w0 ⟨k2, k3, k4, rfl, rfl⟩
 have A0 := A.get (o := 0) rfl
 have A1 := A.get (o := 1) rfl
 simp -dsimp -implicitDefEqProofs only [tailM_zero,tailM_seq,k2,k3,k4,A0,A1,m37,sF37,ZA,↓reduceIte,ZB,ZC,ZJ,ZK,ZE,ZF,ZG,ZH,ZI,reduceCtorEq,ZD,mwV,↓mwD,mwU]
 refine (refFValid_c a _ w0 (hA.ext hx)).use ?_
 rintro r w1 ⟨rfl, h1⟩
 have bad : ∀ {w2 : World}, Ext w0 w2 → ∃ c0 c1, w2.cell? ⟨w.heap.size + 2, 0, none⟩ = some c0 ∧ (w2.setCell ⟨w.heap.size + 2, 0, none⟩ (.int .i64 0)).cell? ⟨w.heap.size + 2, 1, none⟩ = some c1 ∧ w2.frozen? ⟨w.heap.size + 2, 0, none⟩ = false ∧ (w2.setCell ⟨w.heap.size + 2, 0, none⟩ (.int .i64 0)).frozen? ⟨w.heap.size + 2, 1, none⟩ = false ∧
  Bk ((w2.setCell ⟨w.heap.size + 2, 0, none⟩ (.int .i64 0)).setCell ⟨w.heap.size + 2, 1, none⟩ (.slice none 0 0)) (w.heap.size + 2) [.int .i64 0, .slice none 0 0] 24 ∧ Ext w ((w2.setCell ⟨w.heap.size + 2, 0, none⟩ (.int .i64 0)).setCell ⟨w.heap.size + 2, 1, none⟩ (.slice none 0 0)) := fun {w2} h => by
  have d := C4.ext h
  have d1 := d.set 0 (.int .i64 0)
  exact ⟨_, _, d.get rfl, d1.get rfl, d.frozen 0, d1.frozen 1, d1.set 1 _, ((hx.trans h).setCell (by simp) _).setCell (by simp) _⟩
 cases va : a.valid
 · obtain ⟨c0, c1, p1, p2, p3, p4, p5, p6⟩ := bad h1
   have r0 := p5.get (o := 0) rfl
   have r1 := p5.get (o := 1) rfl
   simp -dsimp -implicitDefEqProofs only [k2,k3,k4,bv_fm0,p1,p2,p3,p4,r0,r1,m37,sF37,ZA,↓reduceIte,ZB,ZC,ZJ,ZK,ZE,ZF,ZG,ZH,ZI,reduceCtorEq,ZD,mwV,↓mwD,mwU]
   exact ⟨p6, by rw [va]; simp⟩
 have B0 := (B.ext h1).get (o := 0) rfl
 have B1 := (B.ext h1).get (o := 1) rfl
 simp -dsimp -implicitDefEqProofs only [k2,k3,k4,B0,B1,m37,sF37,ZA,↓reduceIte,ZB,ZC,ZJ,ZK,ZE,ZF,ZG,ZH,ZI,reduceCtorEq,ZD,mwV,↓mwD,mwU]
 refine (refFValid_c b _ w1 (hB.ext (hx.trans h1))).use ?_
 rintro r w2 ⟨rfl, h2⟩
 cases vb : b.valid
 · obtain ⟨c0, c1, p1, p2, p3, p4, p5, p6⟩ := bad (h1.trans h2)
   have r0 := p5.get (o := 0) rfl
   have r1 := p5.get (o := 1) rfl
   simp -dsimp -implicitDefEqProofs only [k2,k3,k4,bv_fm0,p1,p2,p3,p4,r0,r1,m37,sF37,ZA,↓reduceIte,ZB,ZC,ZJ,ZK,ZE,ZF,ZG,ZH,ZI,reduceCtorEq,ZD,mwV,↓mwD,mwU]
   exact ⟨p6, by rw [vb]; simp⟩
 have A0 := (A.ext (h1.trans h2)).get (o := 0) rfl
 have A1 := (A.ext (h1.trans h2)).get (o := 1) rfl
 have B0 := (B.ext (h1.trans h2)).get (o := 0) rfl
 have B1 := (B.ext (h1.trans h2)).get (o := 1) rfl
 have hx2 := hx.trans (h1.trans h2)
 simp -dsimp -implicitDefEqProofs only [k2,k3,k4,A0,A1,B0,B1,m37,sF37,ZA,↓reduceIte,ZB,ZC,ZJ,ZK,ZE,ZF,ZG,ZH,ZI,reduceCtorEq,ZD,mwV,↓mwD,mwU]
 refine (Joined_c a b _ _ w2 (hA.ext hx2) (hB.ext hx2) va vb).use ?_
 rintro r w3 ⟨h3, hq⟩
 -- what join told, however it is
 obtain ⟨m, qs, ks, cs, n, rfl⟩ : ∃ m qs ks cs n, r = .tuple #[.agg #[.int .i64 m, .slice qs ks cs], .int .i64 n] := by
  split at hq
  · obtain ⟨o, _, ho⟩ := hq
    cases o with
    | none => exact ⟨_, _, _, _, _, ho⟩
    | some J =>
     obtain ⟨s, acc, hr, _, hown⟩ := ho
     obtain ⟨q, k, c, rfl⟩ := own_slice hown.1
     exact ⟨_, _, _, _, _, hr⟩
  · exact ⟨_, _, _, _, _, hq⟩
 have d := C4.ext ((h1.trans h2).trans h3)
 have d1 := d.set 0 (.int .i64 m)
 have d2 := d1.set 1 (.slice qs ks cs)
 have p1 := d.get (o := 0) rfl
 have p2 := d1.get (o := 1) rfl
 have p3 := d.frozen 0
 have p4 := d1.frozen 1
 have r0 := d2.get (o := 0) rfl
 have r1 := d2.get (o := 1) rfl
 have hch : ChP (fun k => k = w.heap.size + 2) w3 ((w3.setCell ⟨w.heap.size + 2, 0, none⟩ (.int .i64 m)).setCell ⟨w.heap.size + 2, 1, none⟩ (.slice qs ks cs)) := ChP.setCell (G := fun k => k = w.heap.size + 2) (ChP.setCell (G := fun k => k = w.heap.size + 2) (ChP.refl _ w3) (fun _ => rfl) _) (fun _ => rfl) _
 simp -dsimp -implicitDefEqProofs only [k2,k3,k4,p1,p2,p3,p4,r0,r1,m37,sF37,ZA,↓reduceIte,ZB,ZC,ZJ,ZK,ZE,ZF,ZG,ZH,ZI,reduceCtorEq,ZD,mwV,↓mwD,mwU]
 have hfin := hch.ext (hx2.trans h3) (fun b hb => by subst hb; omega)
 unfold JoinF JoinQ
 rw [va, vb, if_pos (by rfl)]
 refine ⟨hfin, hfin, ?_⟩
 split
 · rename_i hm
   rw [if_pos hm] at hq
   obtain ⟨o, ho1, ho⟩ := hq
   refine ⟨o, ho1, ?_⟩
   cases o with
   | none => exact ho
   | some J =>
    obtain ⟨s', acc, hr, hJ, hown⟩ := ho
    refine ⟨s', acc, hr, hJ, (hown.ch hch (fun b hb => by subst hb; exact d.odd (by decide) (by decide))).mono hx2.size⟩
 · rename_i hm
   rw [if_neg hm] at hq
   exact hq
theorem join_tell {a b : Fm} {w w' : World} {r : Value} (h : JoinF a b w r w') : Ext w w' ∧ ∃ (f : Fm) (q : Option Addr) (n : Nat) (c : Int), r = .tuple #[.agg #[.int .i64 f.m, .slice q f.F.length n], .int .i64 c] ∧ SlF w' (.slice q f.F.length n) f.F ∧
 (if (a.valid && b.valid) = true then (if a.m = b.m then ∃ o, JoinR (pairs a.F b.F) o ∧ (match o with
  | none => f = ⟨0, []⟩ ∧ c = 13
  | some J => f = ⟨a.m, J⟩ ∧ c = 0) else f = ⟨0, []⟩ ∧ c = 10) else f = ⟨0, []⟩ ∧ c = 1) := by
 obtain ⟨hx, h⟩ := h
 refine ⟨hx, ?_⟩
 by_cases hv : (a.valid && b.valid) = true
 · rw [if_pos hv] at h
   obtain ⟨_, h⟩ := h
   by_cases hm : a.m = b.m
   · rw [if_pos hm] at h
     obtain ⟨o, hj, ho⟩ := h
     cases o with
     | none => exact ⟨⟨0, []⟩, none, 0, 13, ho, SlF.nil _, by rw [if_pos hv, if_pos hm]; exact ⟨none, hj, rfl, rfl⟩⟩
     | some J =>
      obtain ⟨s, acc, rfl, rfl, hown⟩ := ho
      have hs := hown.slF
      obtain ⟨q, c, rfl, h1, h2⟩ := hs.shape
      exact ⟨⟨a.m, acc.map (·.1)⟩, q, c, 0, rfl, hs, by rw [if_pos hv, if_pos hm]; exact ⟨some _, hj, rfl, rfl⟩⟩
   · rw [if_neg hm] at h
     exact ⟨⟨0, []⟩, none, 0, 10, h, SlF.nil _, by rw [if_pos hv, if_neg hm]; exact ⟨rfl, rfl⟩⟩
 · rw [if_neg hv] at h
   exact ⟨⟨0, []⟩, none, 0, 1, h, SlF.nil _, by rw [if_neg hv]; exact ⟨rfl, rfl⟩⟩
theorem join_one {a b f f' : Fm} {c c' : Int} (h : if (a.valid && b.valid) = true then (if a.m = b.m then ∃ o, JoinR (pairs a.F b.F) o ∧ (match o with
      | none => f = ⟨0, []⟩ ∧ c = 13
      | some J => f = ⟨a.m, J⟩ ∧ c = 0) else f = ⟨0, []⟩ ∧ c = 10) else f = ⟨0, []⟩ ∧ c = 1)
 (h' : if (a.valid && b.valid) = true then (if a.m = b.m then ∃ o, JoinR (pairs a.F b.F) o ∧ (match o with
  | none => f' = ⟨0, []⟩ ∧ c' = 13
  | some J => f' = ⟨a.m, J⟩ ∧ c' = 0) else f' = ⟨0, []⟩ ∧ c' = 10) else f' = ⟨0, []⟩ ∧ c' = 1) : f = f' ∧ c = c' := by
 split at h
 · rename_i hv
   rw [if_pos hv] at h'
   split at h
   · rename_i hm
     rw [if_pos hm] at h'
     obtain ⟨o, hj, ho⟩ := h
     obtain ⟨o', hj', ho'⟩ := h'
     have e := hj.eq hj'
     subst e
     cases o with
     | none => exact ⟨ho.1.trans ho'.1.symm, ho.2.trans ho'.2.symm⟩
     | some J => exact ⟨ho.1.trans ho'.1.symm, ho.2.trans ho'.2.symm⟩
   · rename_i hm
     rw [if_neg hm] at h'
     exact ⟨h.1.trans h'.1.symm, h.2.trans h'.2.symm⟩
 · rename_i hv
   rw [if_neg hv] at h'
   exact ⟨h.1.trans h'.1.symm, h.2.trans h'.2.symm⟩
theorem fix_tell {a : Fm} {w w' : World} {r : Value} (h : FixR a w r w') : Ext w w' ∧ ∃ (q : Option Addr) (n : Nat), r = .tuple #[.agg #[.int .i64 (if a.valid = true then Fm.mk a.m (a.F.map fixF) else ⟨0, []⟩).m, .slice q (if a.valid = true then Fm.mk a.m (a.F.map fixF) else ⟨0, []⟩).F.length n], .int .i64 (if a.valid = true then 0 else 1)] ∧
 SlF w' (.slice q (if a.valid = true then Fm.mk a.m (a.F.map fixF) else ⟨0, []⟩).F.length n) (if a.valid = true then Fm.mk a.m (a.F.map fixF) else ⟨0, []⟩).F := by
 obtain ⟨hx, h⟩ := h
 refine ⟨hx, ?_⟩
 split at h
 · rename_i hv
   rw [if_pos hv]
   obtain ⟨s, acc, rfl, hacc, hown⟩ := h
   have hs := hown.slF
   rw [hacc] at hs
   obtain ⟨q, c, rfl, h1, h2⟩ := hs.shape
   exact ⟨q, c, by rw [if_pos hv]; rfl, hs⟩
 · rename_i hv
   rw [if_neg hv]
   exact ⟨none, 0, by rw [if_neg hv]; exact h, SlF.nil _⟩
theorem field_tell {a : Fm} {key : Int} {w w' : World} {r : Value} (h : FieldQ a key w r w') : Ext w w' ∧ ∃ (c : Ch) (q : Option Addr) (n : Nat) (e : Int), r = .tuple #[.agg #[.int .i64 c.k, .int .i64 c.d, .slice q c.L.length n], .int .i64 e] ∧ SlI w' (.slice q c.L.length n) c.L ∧
 (if a.valid = true then (match atF a.F key with
  | none => c = ⟨0, 0, []⟩ ∧ e = 8
  | some d => c = d ∧ e = 0) else c = ⟨0, 0, []⟩ ∧ e = 1) := by
 obtain ⟨hx, h⟩ := h
 refine ⟨hx, ?_⟩
 by_cases hv : a.valid = true
 · rw [if_pos hv] at h
   cases hat : atF a.F key with
   | none =>
    rw [hat] at h
    exact ⟨⟨0, 0, []⟩, none, 0, 8, h, SlI.nil _, by rw [if_pos hv]; exact ⟨rfl, rfl⟩⟩
   | some d =>
    rw [hat] at h
    obtain ⟨v, rfl, hs⟩ := h
    obtain ⟨q, n, rfl, _, _⟩ := hs.shape
    exact ⟨d, q, n, 0, rfl, hs, by rw [if_pos hv]; exact ⟨rfl, rfl⟩⟩
 · rw [if_neg hv] at h
   exact ⟨⟨0, 0, []⟩, none, 0, 1, h, SlI.nil _, by rw [if_neg hv]; exact ⟨rfl, rfl⟩⟩
theorem field_one {a : Fm} {key : Int} {c c' : Ch} {e e' : Int} (h : if a.valid = true then (match atF a.F key with
      | none => c = ⟨0, 0, []⟩ ∧ e = 8
      | some d => c = d ∧ e = 0) else c = ⟨0, 0, []⟩ ∧ e = 1) (h' : if a.valid = true then (match atF a.F key with
      | none => c' = ⟨0, 0, []⟩ ∧ e' = 8
      | some d => c' = d ∧ e' = 0) else c' = ⟨0, 0, []⟩ ∧ e' = 1) : c = c' ∧ e = e' := by
 split at h
 · rename_i hv
   rw [if_pos hv] at h'
   cases hat : atF a.F key with
   | none => rw [hat] at h h'; exact ⟨h.1.trans h'.1.symm, h.2.trans h'.2.symm⟩
   | some d => rw [hat] at h h'; exact ⟨h.1.trans h'.1.symm, h.2.trans h'.2.symm⟩
 · rename_i hv
   rw [if_neg hv] at h'
   exact ⟨h.1.trans h'.1.symm, h.2.trans h'.2.symm⟩
theorem within_tell {a b : Fm} {r : Value} (h : if (a.valid && b.valid) = true then ∃ x : Bool, r = .tuple #[.bool x, .int .i64 0] ∧ (x = true ↔ wiF a b) else r = .tuple #[.bool false, .int .i64 1]) :
 ∃ (x : Bool) (e : Int), r = .tuple #[.bool x, .int .i64 e] ∧ (x = true ↔ ((a.valid && b.valid) = true ∧ wiF a b)) ∧ e = if (a.valid && b.valid) = true then 0 else 1 := by
 split at h
 · rename_i hv
   obtain ⟨x, rfl, hx⟩ := h
   exact ⟨x, 0, rfl, by rw [hx]; exact ⟨fun h => ⟨hv, h⟩, fun h => h.2⟩, by rw [if_pos hv]⟩
 · rename_i hv
   exact ⟨false, 1, h, ⟨fun h => (by cases h), fun h => absurd h.1 hv⟩, by rw [if_neg hv]⟩
set_option maxHeartbeats 4000000 in
theorem lawJ_c (a b : Fm) (sa sb : Value) (key : Int) (w : World) (ha : SlF w sa a.F) (hb : SlF w sb b.F) (haw : ∀ w', Ext w w' → Rets Go.Proofs.Tryz.prog 10 #[] w' fun r w2 => r = .bool true ∧ Ext w' w2) :
 Rets Go.Proofs.Tryz.prog 7 #[fmV a sa, fmV b sb, .int .i64 key] w fun r w' => r = .bool true ∧ Ext w w' := by
 obtain ⟨pa, na, rfl, _, _⟩ := ha.shape
 obtain ⟨pb, nb, rfl, _, _⟩ := hb.shape
 obtain ⟨W, hW, A, B, hx⟩ := box_fm w [.int .i64 a.m, .slice pa a.F.length na] 24 [.int .i64 b.m, .slice pb b.F.length nb] 24
 refine en7 ?_
 refine mwpB_cut 1 (fun e ds w' => e 2 = .int .i64 key ∧ e 3 = .pointer (some ⟨w.heap.size, 0, none⟩) ∧ e 4 = .pointer (some ⟨w.heap.size + 1, 0, none⟩) ∧ ds = [] ∧ w' = W) ?_ ?_
 · simp -dsimp -implicitDefEqProofs only [fmV,headM_zero,headM_seq,World.size_alloc,hW,m7,sF7,ZA,↓reduceIte,ZB,ZC,ZJ,ZK,ZE,ZF,ZG,ZH,ZI,reduceCtorEq,ZD,mwV,↓mwD,mwU]
 clear hW
 rintro e ds w0 ⟨k2, k3, k4, rfl, rfl⟩
 have cells : ∀ {w' : World}, Ext w0 w' → (w'.cell? ⟨w.heap.size, 0, none⟩ = some (.int .i64 a.m) ∧ w'.cell? ⟨w.heap.size, 1, none⟩ = some (.slice pa a.F.length na)) ∧ w'.cell? ⟨w.heap.size + 1, 0, none⟩ = some (.int .i64 b.m) ∧ w'.cell? ⟨w.heap.size + 1, 1, none⟩ = some (.slice pb b.F.length nb) :=
  fun h => ⟨⟨(A.ext h).get rfl, (A.ext h).get rfl⟩, (B.ext h).get rfl, (B.ext h).get rfl⟩
 have end1 : ∀ {w'}, Ext w0 w' → Rets Go.Proofs.Tryz.prog 10 #[] w' fun r w2 => r = .bool true ∧ Ext w w2 := fun h => (haw _ (hx.trans h)).mono fun r w2 hr => ⟨hr.1, (hx.trans h).trans hr.2⟩
 have hx0 : Ext w0 w0 := Ext.refl _
 obtain ⟨⟨A0, A1⟩, B0, B1⟩ := cells hx0
 simp -dsimp -implicitDefEqProofs only [tailM_zero,tailM_seq,k2,k3,k4,A0,A1,m7,sF7,ZA,↓reduceIte,ZB,ZC,ZJ,ZK,ZE,ZF,ZG,ZH,ZI,reduceCtorEq,ZD,mwV,↓mwD,mwU]
 refine (Light_c a _ w0 (ha.ext hx)).use ?_
 rintro r w1 ⟨rfl, h1⟩
 cases la : lightB a
 · simp -dsimp -implicitDefEqProofs only [m7,sF7,ZA,↓reduceIte,ZB,ZC,ZJ,ZK,ZE,ZF,ZG,ZH,ZI,reduceCtorEq,ZD,mwV,↓mwD,mwU]
   refine (end1 h1).use ?_
   rintro r w2 ⟨rfl, h2⟩
   simp -dsimp -implicitDefEqProofs only [m7,sF7,ZA,↓reduceIte,ZB,ZC,ZJ,ZK,ZE,ZF,ZG,ZH,ZI,reduceCtorEq,ZD,mwV,↓mwD,mwU]
   exact h2
 obtain ⟨⟨A0, A1⟩, B0, B1⟩ := cells h1
 simp -dsimp -implicitDefEqProofs only [k2,k3,k4,B0,B1,m7,sF7,ZA,↓reduceIte,ZB,ZC,ZJ,ZK,ZE,ZF,ZG,ZH,ZI,reduceCtorEq,ZD,mwV,↓mwD,mwU]
 refine (Light_c b _ w1 (hb.ext (hx.trans h1))).use ?_
 rintro r w2 ⟨rfl, h2⟩
 have hx2 := h1.trans h2
 cases lb : lightB b
 · simp -dsimp -implicitDefEqProofs only [m7,sF7,ZA,↓reduceIte,ZB,ZC,ZJ,ZK,ZE,ZF,ZG,ZH,ZI,reduceCtorEq,ZD,mwV,↓mwD,mwU]
   refine (end1 hx2).use ?_
   rintro r w3 ⟨rfl, h3⟩
   simp -dsimp -implicitDefEqProofs only [m7,sF7,ZA,↓reduceIte,ZB,ZC,ZJ,ZK,ZE,ZF,ZG,ZH,ZI,reduceCtorEq,ZD,mwV,↓mwD,mwU]
   exact h3
 obtain ⟨⟨A0, A1⟩, B0, B1⟩ := cells hx2
 simp -dsimp -implicitDefEqProofs only [k2,k3,k4,A0,A1,B0,B1,m7,sF7,ZA,↓reduceIte,ZB,ZC,ZJ,ZK,ZE,ZF,ZG,ZH,ZI,reduceCtorEq,ZD,mwV,↓mwD,mwU]
 refine (Join_c a b _ _ w2 (ha.ext (hx.trans hx2)) (hb.ext (hx.trans hx2))).use ?_
 rintro r w3 hq
 obtain ⟨h3, f, q3, n3, c3, rfl, hs3, ht3⟩ := join_tell hq
 have K3 := Bk.new w3 [.int .i64 f.m, .slice q3 f.F.length n3] 24
 have y3 : Ext w3 (w3.alloc (.cells #[.int .i64 f.m, .slice q3 f.F.length n3] 24)) := Ext.alloc _ _
 have hx3 := hx2.trans (h3.trans y3)
 replace hs3 := hs3.ext y3
 obtain ⟨⟨A0, A1⟩, B0, B1⟩ := cells hx3
 simp -dsimp -implicitDefEqProofs only [k2,k3,k4,A0,A1,B0,B1,m7,sF7,ZA,↓reduceIte,ZB,ZC,ZJ,ZK,ZE,ZF,ZG,ZH,ZI,reduceCtorEq,ZD,mwV,↓mwD,mwU]
 generalize hv3 : w3.alloc (.cells #[.int .i64 f.m, .slice q3 f.F.length n3] 24) = v3 at *
 replace K3 : Bk v3 w3.heap.size [.int .i64 f.m, .slice q3 f.F.length n3] 24 := K3
 refine (refJoin_c a b _ _ v3 (ha.ext (hx.trans hx3)) (hb.ext (hx.trans hx3))).use ?_
 rintro r w4 hq
 obtain ⟨h4, f', q4, n4, c4, rfl, hs4, ht4⟩ := join_tell hq
 obtain ⟨rfl, rfl⟩ := join_one ht3 ht4
 clear ht3 ht4
 have K4 := Bk.new w4 [.int .i64 f.m, .slice q4 f.F.length n4] 24
 have y4 : Ext w4 (w4.alloc (.cells #[.int .i64 f.m, .slice q4 f.F.length n4] 24)) := Ext.alloc _ _
 have hx4 := hx3.trans (h4.trans y4)
 replace hs4 := hs4.ext y4
 replace hs3 := hs3.ext (h4.trans y4)
 replace K3 := K3.ext (h4.trans y4)
 obtain ⟨⟨A0, A1⟩, B0, B1⟩ := cells hx4
 simp -dsimp -implicitDefEqProofs only [k2,k3,k4,A0,A1,B0,B1,m7,sF7,ZA,↓reduceIte,ZB,ZC,ZJ,ZK,ZE,ZF,ZG,ZH,ZI,reduceCtorEq,ZD,mwV,↓mwD,mwU]
 generalize w4.alloc (.cells #[.int .i64 f.m, .slice q4 f.F.length n4] 24) = v4 at *
 replace K4 : Bk v4 w4.heap.size [.int .i64 f.m, .slice q4 f.F.length n4] 24 := K4
 refine (Fix_c a _ v4 (ha.ext (hx.trans hx4))).use ?_
 rintro r w5 hq
 obtain ⟨h5, q5, n5, rfl, hs5⟩ := fix_tell hq
 generalize hg : (if a.valid = true then Fm.mk a.m (a.F.map fixF) else ⟨0, []⟩) = g at *
 generalize hc5 : (if a.valid = true then (0 : Int) else 1) = c5 at *
 have K5 := Bk.new w5 [.int .i64 g.m, .slice q5 g.F.length n5] 24
 have y5 : Ext w5 (w5.alloc (.cells #[.int .i64 g.m, .slice q5 g.F.length n5] 24)) := Ext.alloc _ _
 have hx5 := hx4.trans (h5.trans y5)
 replace hs5 := hs5.ext y5
 replace hs4 := hs4.ext (h5.trans y5)
 replace hs3 := hs3.ext (h5.trans y5)
 replace K3 := K3.ext (h5.trans y5)
 replace K4 := K4.ext (h5.trans y5)
 obtain ⟨⟨A0, A1⟩, B0, B1⟩ := cells hx5
 simp -dsimp -implicitDefEqProofs only [k2,k3,k4,A0,A1,B0,B1,m7,sF7,ZA,↓reduceIte,ZB,ZC,ZJ,ZK,ZE,ZF,ZG,ZH,ZI,reduceCtorEq,ZD,mwV,↓mwD,mwU]
 generalize w5.alloc (.cells #[.int .i64 g.m, .slice q5 g.F.length n5] 24) = v5 at *
 replace K5 : Bk v5 w5.heap.size [.int .i64 g.m, .slice q5 g.F.length n5] 24 := K5
 refine (refFix_c a _ v5 (ha.ext (hx.trans hx5))).use ?_
 rintro r w6 hq6
 obtain ⟨h6, q6, n6, rfl, hs6⟩ := fix_tell hq6
 rw [hg] at hs6
 rw [hg, hc5]
 have K6 := Bk.new w6 [.int .i64 g.m, .slice q6 g.F.length n6] 24
 have y6 : Ext w6 (w6.alloc (.cells #[.int .i64 g.m, .slice q6 g.F.length n6] 24)) := Ext.alloc _ _
 have hx6 := hx5.trans (h6.trans y6)
 replace hs6 := hs6.ext y6
 replace hs5 := hs5.ext (h6.trans y6)
 replace hs4 := hs4.ext (h6.trans y6)
 replace hs3 := hs3.ext (h6.trans y6)
 replace K3 := K3.ext (h6.trans y6)
 replace K4 := K4.ext (h6.trans y6)
 replace K5 := K5.ext (h6.trans y6)
 have m0 := K3.get (o := 0) rfl
 have m1 := K3.get (o := 1) rfl
 have n0 := K4.get (o := 0) rfl
 have n1 := K4.get (o := 1) rfl
 simp -dsimp -implicitDefEqProofs only [k2,k3,k4,m0,m1,n0,n1,m7,sF7,ZA,↓reduceIte,ZB,ZC,ZJ,ZK,ZE,ZF,ZG,ZH,ZI,reduceCtorEq,ZD,mwV,↓mwD,mwU]
 generalize w6.alloc (.cells #[.int .i64 g.m, .slice q6 g.F.length n6] 24) = v6 at *
 replace K6 : Bk v6 w6.heap.size [.int .i64 g.m, .slice q6 g.F.length n6] 24 := K6
 refine (refSame_c f f _ _ v6 hs3 hs4).use ?_
 rintro r w7 ⟨rfl, h7⟩
 rw [eqFm_refl]
 have m0 := (K5.ext h7).get (o := 0) rfl
 have m1 := (K5.ext h7).get (o := 1) rfl
 have n0 := (K6.ext h7).get (o := 0) rfl
 have n1 := (K6.ext h7).get (o := 1) rfl
 simp -dsimp -implicitDefEqProofs only [k2,k3,k4,m0,m1,n0,n1,bne_self_eq_false,m7,sF7,ZA,↓reduceIte,ZB,ZC,ZJ,ZK,ZE,ZF,ZG,ZH,ZI,reduceCtorEq,ZD,mwV,↓mwD,mwU]
 refine (refSame_c g g _ _ w7 (hs5.ext h7) (hs6.ext h7)).use ?_
 rintro r w8 ⟨rfl, h8⟩
 rw [eqFm_refl]
 have hx8 := hx6.trans (h7.trans h8)
 obtain ⟨⟨A0, A1⟩, B0, B1⟩ := cells hx8
 simp -dsimp -implicitDefEqProofs only [k2,k3,k4,A0,A1,B0,B1,bne_self_eq_false,m7,sF7,ZA,↓reduceIte,ZB,ZC,ZJ,ZK,ZE,ZF,ZG,ZH,ZI,reduceCtorEq,ZD,mwV,↓mwD,mwU]
 refine (FWithin_c a b _ _ w8 (ha.ext (hx.trans hx8)) (hb.ext (hx.trans hx8))).use ?_
 rintro r w9 ⟨h9, hr⟩
 obtain ⟨xw, ew, rfl, hxw, hew⟩ := within_tell hr
 have hx9 := hx8.trans h9
 obtain ⟨⟨A0, A1⟩, B0, B1⟩ := cells hx9
 simp -dsimp -implicitDefEqProofs only [k2,k3,k4,A0,A1,B0,B1,m7,sF7,ZA,↓reduceIte,ZB,ZC,ZJ,ZK,ZE,ZF,ZG,ZH,ZI,reduceCtorEq,ZD,mwV,↓mwD,mwU]
 refine (refWithin_c a b _ _ w9 (ha.ext (hx.trans hx9)) (hb.ext (hx.trans hx9))).use ?_
 rintro r w10 ⟨h10, hr⟩
 obtain ⟨xw', ew', rfl, hxw', hew'⟩ := within_tell hr
 obtain rfl : xw = xw' := by rw [Bool.eq_iff_iff]; exact hxw.trans hxw'.symm
 obtain rfl : ew = ew' := hew.trans hew'.symm
 clear hxw hxw' hew hew'
 have hx10 := hx9.trans h10
 obtain ⟨⟨A0, A1⟩, B0, B1⟩ := cells hx10
 simp -dsimp -implicitDefEqProofs only [k2,k3,k4,A0,A1,B0,B1,m7,sF7,ZA,↓reduceIte,ZB,ZC,ZJ,ZK,ZE,ZF,ZG,ZH,ZI,reduceCtorEq,ZD,mwV,↓mwD,mwU]
 refine (Field_c a _ key w10 (ha.ext (hx.trans hx10))).use ?_
 rintro r w11 hq
 obtain ⟨h11, c, q11, n11, e11, rfl, hs11, ht11⟩ := field_tell hq
 have K11 := Bk.new w11 [.int .i64 c.k, .int .i64 c.d, .slice q11 c.L.length n11] 35
 have y11 : Ext w11 (w11.alloc (.cells #[.int .i64 c.k, .int .i64 c.d, .slice q11 c.L.length n11] 35)) := Ext.alloc _ _
 have hx11 := hx10.trans (h11.trans y11)
 replace hs11 := hs11.ext y11
 obtain ⟨⟨A0, A1⟩, B0, B1⟩ := cells hx11
 simp -dsimp -implicitDefEqProofs only [k2,k3,k4,A0,A1,B0,B1,m7,sF7,ZA,↓reduceIte,ZB,ZC,ZJ,ZK,ZE,ZF,ZG,ZH,ZI,reduceCtorEq,ZD,mwV,↓mwD,mwU]
 generalize w11.alloc (.cells #[.int .i64 c.k, .int .i64 c.d, .slice q11 c.L.length n11] 35) = v11 at *
 replace K11 : Bk v11 w11.heap.size [.int .i64 c.k, .int .i64 c.d, .slice q11 c.L.length n11] 35 := K11
 refine (refField_c a _ key v11 (ha.ext (hx.trans hx11))).use ?_
 rintro r w12 hq
 obtain ⟨h12, c', q12, n12, e12, rfl, hs12, ht12⟩ := field_tell hq
 obtain ⟨rfl, rfl⟩ := field_one ht11 ht12
 clear ht11 ht12
 have K12 := Bk.new w12 [.int .i64 c.k, .int .i64 c.d, .slice q12 c.L.length n12] 35
 have y12 : Ext w12 (w12.alloc (.cells #[.int .i64 c.k, .int .i64 c.d, .slice q12 c.L.length n12] 35)) := Ext.alloc _ _
 have hx12 := hx11.trans (h12.trans y12)
 replace hs12 := hs12.ext y12
 replace hs11 := hs11.ext (h12.trans y12)
 replace K11 := K11.ext (h12.trans y12)
 have m0 := K11.get (o := 0) rfl
 have m1 := K11.get (o := 1) rfl
 have m2 := K11.get (o := 2) rfl
 have n0 := K12.get (o := 0) rfl
 have n1 := K12.get (o := 1) rfl
 have n2 := K12.get (o := 2) rfl
 simp -dsimp -implicitDefEqProofs only [k2,k3,k4,m0,m1,m2,n0,n1,n2,bne_self_eq_false,m7,sF7,ZA,↓reduceIte,ZB,ZC,ZJ,ZK,ZE,ZF,ZG,ZH,ZI,reduceCtorEq,ZD,mwV,↓mwD,mwU]
 generalize w12.alloc (.cells #[.int .i64 c.k, .int .i64 c.d, .slice q12 c.L.length n12] 35) = v12 at *
 refine (rsame_c c c _ _ v12 hs11 hs12).use ?_
 rintro r w13 ⟨rfl, h13⟩
 rw [eqCh_refl]
 have hx13 := hx12.trans h13
 obtain ⟨⟨A0, A1⟩, B0, B1⟩ := cells hx13
 simp -dsimp -implicitDefEqProofs only [k2,k3,k4,A0,A1,B0,B1,bne_self_eq_false,m7,sF7,ZA,↓reduceIte,ZB,ZC,ZJ,ZK,ZE,ZF,ZG,ZH,ZI,reduceCtorEq,ZD,mwV,↓mwD,mwU]
 refine mwpB_drawE ?_
 simp -dsimp -implicitDefEqProofs only [k2,k3,k4,A0,A1,B0,B1,m7,sF7,ZA,↓reduceIte,ZB,ZC,ZJ,ZK,ZE,ZF,ZG,ZH,ZI,reduceCtorEq,ZD,mwV,↓mwD,mwU]
 have hxd := hx.trans (hx13.trans (Ext.drew w13))
 have x13 : Ext w13.drew w13.drew := Ext.refl _
 refine (Valid_c a _ w13.drew (ha.ext (hxd.trans x13))).use ?_
 rintro r w14 ⟨rfl, h14⟩
 have x14 := x13.trans h14
 simp -dsimp -implicitDefEqProofs only [k2,k3,k4,A0,A1,B0,B1,x14,beq_self_eq_true,m7,sF7,ZA,↓reduceIte,ZB,ZC,ZJ,ZK,ZE,ZF,ZG,ZH,ZI,reduceCtorEq,ZD,mwV,↓mwD,mwU]
 refine (refFValid_c a _ w14 (ha.ext (hxd.trans x14))).use ?_
 rintro r w15 ⟨rfl, h15⟩
 have x15 := x14.trans h15
 simp -dsimp -implicitDefEqProofs only [k2,k3,k4,A0,A1,B0,B1,x15,beq_self_eq_true,m7,sF7,ZA,↓reduceIte,ZB,ZC,ZJ,ZK,ZE,ZF,ZG,ZH,ZI,reduceCtorEq,ZD,mwV,↓mwD,mwU]
 refine (Same_c a b _ _ w15 (ha.ext (hxd.trans x15)) (hb.ext (hxd.trans x15))).use ?_
 rintro r w16 ⟨rfl, h16⟩
 have x16 := x15.trans h16
 simp -dsimp -implicitDefEqProofs only [k2,k3,k4,A0,A1,B0,B1,x16,beq_self_eq_true,m7,sF7,ZA,↓reduceIte,ZB,ZC,ZJ,ZK,ZE,ZF,ZG,ZH,ZI,reduceCtorEq,ZD,mwV,↓mwD,mwU]
 refine (refSame_c a b _ _ w16 (ha.ext (hxd.trans x16)) (hb.ext (hxd.trans x16))).use ?_
 rintro r w17 ⟨rfl, h17⟩
 have x17 := x16.trans h17
 simp -dsimp -implicitDefEqProofs only [k2,k3,k4,A0,A1,B0,B1,x17,beq_self_eq_true,m7,sF7,ZA,↓reduceIte,ZB,ZC,ZJ,ZK,ZE,ZF,ZG,ZH,ZI,reduceCtorEq,ZD,mwV,↓mwD,mwU]
 refine (Fixed_c a _ w17 (ha.ext (hxd.trans x17))).use ?_
 rintro r w18 ⟨rfl, h18⟩
 have x18 := x17.trans h18
 simp -dsimp -implicitDefEqProofs only [k2,k3,k4,A0,A1,B0,B1,x18,beq_self_eq_true,m7,sF7,ZA,↓reduceIte,ZB,ZC,ZJ,ZK,ZE,ZF,ZG,ZH,ZI,reduceCtorEq,ZD,mwV,↓mwD,mwU]
 refine (refFixed_c a _ w18 (ha.ext (hxd.trans x18))).use ?_
 rintro r w19 ⟨rfl, h19⟩
 have x19 := x18.trans h19
 simp -dsimp -implicitDefEqProofs only [k2,k3,k4,A0,A1,B0,B1,x19,beq_self_eq_true,m7,sF7,ZA,↓reduceIte,ZB,ZC,ZJ,ZK,ZE,ZF,ZG,ZH,ZI,reduceCtorEq,ZD,mwV,↓mwD,mwU]
 refine (haw w19 (hxd.trans x19)).use ?_
 rintro r w20 ⟨rfl, h20⟩
 have x20 := x19.trans h20
 simp -dsimp -implicitDefEqProofs only [x20,m7,sF7,ZA,↓reduceIte,ZB,ZC,ZJ,ZK,ZE,ZF,ZG,ZH,ZI,reduceCtorEq,ZD,mwV,↓mwD,mwU]
 exact hxd.trans x20
end Go.Proofs.YthcdnjbhhaonhaaGreatDoor
