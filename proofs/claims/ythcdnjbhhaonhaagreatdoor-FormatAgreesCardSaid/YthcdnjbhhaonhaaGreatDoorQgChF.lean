/- Layer 02: package format's listed, kept, greatest. -/
import Derived.Test.YthcdnjbhhaonhaaGreatDoorQgChSpecToChNum

namespace Go.Proofs.YthcdnjbhhaonhaaGreatDoor
open Go.RowKit
open Nat renaming reduceEqDiff → ZA, reduceAdd → ZB, reduceMul → ZC, reduceSub → ZD
open Int renaming reduceToNat → ZE, reduceEq → ZF, reduceLT → ZG, reduceLE → ZH, reduceNeg → ZI
open Go.Value renaming oneCell' → ZK, cells → ZJ
set_option linter.unusedSimpArgs false
def Bk (w : World) (b : Nat) (cs : List Value) (t : TypeId) : Prop := w.heap[b]? = some (.cells cs.toArray t)
section
variable {w w' : World} {b b' o : Nat} {cs : List Value} {t : TypeId}
theorem Bk.lt (h : Bk w b cs t) : b < w.heap.size := (Array.getElem?_eq_some_iff.1 h).1
theorem Bk.cell (h : Bk w b cs t) (o : Nat) : w.cell? ⟨b, o, none⟩ = cs[o]? := by
 unfold Bk at h; simp [World.cell?, h]
theorem Bk.get (h : Bk w b cs t) {v : Value} (hv : cs[o]? = some v) : w.cell? ⟨b, o, none⟩ = some v := by rw [h.cell, hv]
theorem Bk.frozen (h : Bk w b cs t) (o : Nat) : w.frozen? ⟨b, o, none⟩ = false := by
 unfold Bk at h; simp [World.frozen?, h]
theorem Bk.set (h : Bk w b cs t) (o : Nat) (v : Value) : Bk (w.setCell ⟨b, o, none⟩ v) b (cs.set o v) t := by
 unfold Bk at h ⊢; simp [World.setCell, Array.getElem?_modify, h]
theorem Bk.ne (h : Bk w b cs t) (hne : b' ≠ b) (o : Nat) (v : Value) : Bk (w.setCell ⟨b', o, none⟩ v) b cs t := by
 unfold Bk at h ⊢; simp [World.setCell, Array.getElem?_modify, hne, h]
theorem Bk.new (w : World) (cs : List Value) (t : TypeId) : Bk (w.alloc (.cells cs.toArray t)) w.heap.size cs t := heap_alloc_new w _
theorem Bk.ext (h : Bk w b cs t) (he : Ext w w') : Bk w' b cs t := by
 unfold Bk at h ⊢; rw [he.block b (Bk.lt h)]; exact h
end
def set3 (w : World) (b : Nat) (a0 a1 a2 : Value) : World := ((w.setCell ⟨b, 0, none⟩ a0).setCell ⟨b, 1, none⟩ a1).setCell ⟨b, 2, none⟩ a2
structure Put3 (w : World) (b : Nat) (a0 a1 a2 : Value) (t : TypeId) : Prop where
 c0 : ∃ x, w.cell? ⟨b, 0, none⟩ = some x
 z0 : w.frozen? ⟨b, 0, none⟩ = false
 c1 : ∃ x, (w.setCell ⟨b, 0, none⟩ a0).cell? ⟨b, 1, none⟩ = some x
 z1 : (w.setCell ⟨b, 0, none⟩ a0).frozen? ⟨b, 1, none⟩ = false
 c2 : ∃ x, ((w.setCell ⟨b, 0, none⟩ a0).setCell ⟨b, 1, none⟩ a1).cell? ⟨b, 2, none⟩ = some x
 z2 : ((w.setCell ⟨b, 0, none⟩ a0).setCell ⟨b, 1, none⟩ a1).frozen? ⟨b, 2, none⟩ = false
 bk : Bk (((w.setCell ⟨b, 0, none⟩ a0).setCell ⟨b, 1, none⟩ a1).setCell ⟨b, 2, none⟩ a2) b [a0, a1, a2] t
theorem put3 {w : World} {b : Nat} {x0 x1 x2 : Value} {t : TypeId} (h : Bk w b [x0, x1, x2] t) (a0 a1 a2 : Value) : Put3 w b a0 a1 a2 t := by
 have h1 := h.set 0 a0
 have h2 := h1.set 1 a1
 have h3 := h2.set 2 a2
 exact ⟨⟨x0, h.get rfl⟩, h.frozen 0, ⟨x1, h1.get rfl⟩, h1.frozen 1, ⟨x2, h2.get rfl⟩, h2.frozen 2, h3⟩
theorem Ext.set3 {w0 w : World} {b : Nat} (h : Ext w0 w) (hb : w0.heap.size ≤ b) (a0 a1 a2 : Value) : Ext w0 (((w.setCell ⟨b, 0, none⟩ a0).setCell ⟨b, 1, none⟩ a1).setCell ⟨b, 2, none⟩ a2) := by
 have one : ∀ {w : World} (o : Nat) (v : Value), Ext w0 w → Ext w0 (w.setCell ⟨b, o, none⟩ v) := fun {w} o v h =>
  Below.trans h ⟨rfl, rfl, rfl, by simp [World.setCell], fun k hk => Below.heap_setCell _ _ _ _ (by simp only; omega)⟩
 exact one 2 a2 (one 1 a1 (one 0 a0 h))
theorem Own.same {w w' : World} {base : Nat} {e : TypeId} {size : Nat} {v : Value} {n : Nat} {cs : List Value} (h : w.ownsRow base e size v n cs) (hs : ∀ k, base ≤ k → k < w.heap.size → w'.heap[k]? = w.heap[k]?) : w'.ownsRow base e size v n cs := by
 refine ⟨h.1, ?_⟩
 rcases h.2 with h2 | ⟨g, cap, cur, hv, hg, hh, r⟩
 · exact .inl h2
 · exact .inr ⟨g, cap, cur, hv, hg, by rw [hs g hg (Array.getElem?_eq_some_iff.1 hh).1]; exact hh, r⟩
theorem Own.set3 {w : World} {base b : Nat} {e : TypeId} {size : Nat} {v : Value} {n : Nat} {cs : List Value} (h : w.ownsRow base e size v n cs) (hb : b < base) (a0 a1 a2 : Value) : (((w.setCell ⟨b, 0, none⟩ a0).setCell ⟨b, 1, none⟩ a1).setCell ⟨b, 2, none⟩ a2).ownsRow base e size v n cs :=
 Own.same h fun k hk _ => by
  rw [Below.heap_setCell _ _ _ _ (by simp only; omega), Below.heap_setCell _ _ _ _ (by simp only; omega), Below.heap_setCell _ _ _ _ (by simp only; omega)]
theorem bv_ch (k : Int) (q : Option Addr) (n cap : Nat) : buildV Go.Proofs.Tryz.prog 35 [(0, .int .i64 k), (2, .slice q n cap)] = some (.agg #[.int .i64 k, .int .i64 0, .slice q n cap]) := by kernel_rfl
theorem bv_ch0 : buildV Go.Proofs.Tryz.prog 35 [] = some (.agg #[.int .i64 0, .int .i64 0, .slice none 0 0]) := by kernel_rfl
theorem listed_c (v : Value) (xs : List Int) (w : World) (h : SlI w v xs) : Rets Go.Proofs.Tryz.prog 158 #[v] w fun r w' => r = chV ⟨lstK xs, 0, xs⟩ v ∧ Ext w w' := by
 obtain ⟨q, cap, rfl, hc1, hc2⟩ := h.shape
 refine en158 ?_
 by_cases h1 : xs.length = 1
 · have e1 : (xs.length : Int) = 1 := by omega
   simp -dsimp -implicitDefEqProofs only [e1,bv_ch,setCell_new,m158,sF158,ZA,↓reduceIte,ZB,ZC,ZJ,ZK,ZE,ZF,ZG,ZH,ZI,reduceCtorEq,ZD,mwV,↓mwD,mwU]
   exact ⟨by simp [chV, lstK, h1], Ext.alloc _ _⟩
 · have e1 : ¬ (xs.length : Int) = 1 := by omega
   simp -dsimp -implicitDefEqProofs only [e1,bv_ch,setCell_new,m158,sF158,ZA,↓reduceIte,ZB,ZC,ZJ,ZK,ZE,ZF,ZG,ZH,ZI,reduceCtorEq,ZD,mwV,↓mwD,mwU]
   exact ⟨by simp [chV, lstK, h1], Ext.alloc _ _⟩
theorem filter_take_succ {xs : List Int} {k : Nat} (h : k < xs.length) (p : Int → Bool) : (xs.take (k + 1)).filter p = (xs.take k).filter p ++ (if p xs[k] = true then [xs[k]] else []) := by
 rw [List.take_succ_eq_append_getElem h, List.filter_append]
 simp [List.filter_cons]
theorem kept_c (lv : Value) (xs : List Int) (b : Ch) (sb : Value) (w : World) (hl : SlI w lv xs) (hb : Fit b) (hs : SlI w sb b.L) (hn : xs.length ≤ 1000000) :
 Rets Go.Proofs.Tryz.prog 131 #[lv, setV b sb] w fun r w' => Ext w w' ∧ ∃ v, r = .tuple #[chV ⟨lstK (xs.filter b.has), 0, xs.filter b.has⟩ v, .bool (decide (0 < (xs.filter b.has).length))] ∧ w'.ownsRow w.heap.size 3 1 v (xs.filter b.has).length (ints (xs.filter b.has)) := by
 obtain ⟨q, cap, rfl, hc1, hc2⟩ := hl.shape
 have hx0 : Ext w (w.alloc (.cells #[.int .i64 0, .int .i64 0, .slice none 0 0] 35)) := Ext.alloc _ _
 have hsz : (w.alloc (.cells #[.int .i64 0, .int .i64 0, .slice none 0 0] 35)).heap.size = w.heap.size + 1 := World.size_alloc _ _
 have hB : Bk (w.alloc (.cells #[.int .i64 0, .int .i64 0, .slice none 0 0] 35)) w.heap.size [.int .i64 0, .int .i64 0, .slice none 0 0] 35 := Bk.new _ _ _
 refine en131 ?_
 simp -dsimp -implicitDefEqProofs only [m131,sF131,ZA,↓reduceIte,ZB,ZC,ZJ,ZK,ZE,ZF,ZG,ZH,ZI,reduceCtorEq,ZD,mwV,↓mwD,mwU]
 generalize w.alloc (.cells #[.int .i64 0, .int .i64 0, .slice none 0 0] 35) = w1 at *
 refine mwpB_loop (fun e ds w' => ∃ k : Nat, k ≤ xs.length ∧ e 11 = .int .i64 k ∧ e 10 = .int .i64 xs.length ∧ e 9 = .slice q xs.length cap ∧ e 1 = setV b sb ∧ e 4 = .pointer (some ⟨w.heap.size, 0, none⟩) ∧ ds = [] ∧ Ext w1 w' ∧
  w'.ownsRow w1.heap.size 3 1 (e 6) ((xs.take k).filter b.has).length (ints ((xs.take k).filter b.has))) (fun e _ => xs.length - (intOf (e 11)).toNat) ?_ ?_
 · simp -dsimp -implicitDefEqProofs only [m131,sF131,ZA,↓reduceIte,ZB,ZC,ZJ,ZK,ZE,ZF,ZG,ZH,ZI,reduceCtorEq,ZD,mwV,↓mwD,mwU]
   exact ⟨0, by omega, rfl, Ext.refl _, World.ownsRow_nil _ _ _ _⟩
 · rintro e ds w' ⟨k, hk, h11, h10, h9, h1, h4, rfl, hx, hown⟩
   obtain ⟨_, q6, cap6, h6⟩ := own_shape hown
   simp -dsimp -implicitDefEqProofs only [h11,h10,h9,h1,h4,m131,sF131,ZA,↓reduceIte,ZB,ZC,ZJ,ZK,ZE,ZF,ZG,ZH,ZI,reduceCtorEq,ZD,mwV,↓mwD,mwU]
   refine iteW_dec (fun hlt => ?_) (fun hge => ?_)
   · have hlt' : k < xs.length := by omega
     obtain ⟨bb, o, cap', hv, _, _, hcell⟩ := hl.at (by intro h0; rw [h0] at hlt'; simp at hlt')
     cases hv
     have hck := (hx0.trans hx).cell (hcell k hlt')
     have hb1 : (0 : Int) ≤ k ∧ (k : Int) < xs.length := by omega
     have hw := w64_succ hlt' (Nat.le_trans hc1 hc2)
     obtain ⟨g, u, j1, j2, j3⟩ := setHas_c (w := w') hb (hs.ext (hx0.trans hx)) xs[k]
     have hf := filter_take_succ hlt' b.has
     simp -dsimp -implicitDefEqProofs only [h11,h10,h9,h1,h4,hb1,and_self,hck,j1,j2,m131,sF131,ZA,↓reduceIte,ZB,ZC,ZJ,ZK,ZE,ZF,ZG,ZH,ZI,reduceCtorEq,ZD,mwV,↓mwD,mwU]
     refine j3.use ?_
     rintro r w2 ⟨rfl, hx2⟩
     cases hh : b.has xs[k]
     · rw [hh] at hf
       simp -dsimp -implicitDefEqProofs only [h11,h10,h9,h1,h4,hw,m131,sF131,ZA,↓reduceIte,ZB,ZC,ZJ,ZK,ZE,ZF,ZG,ZH,ZI,reduceCtorEq,ZD,mwV,↓mwD,mwU]
       refine ⟨⟨k + 1, by omega, rfl, hx.trans hx2, ?_⟩, ?_⟩
       · rw [hf]; simpa using Own.ext hown hx2
       · simp only [intOf]; omega
     · rw [hh, if_pos rfl] at hf
       have hlen : ((xs.take k).filter b.has).length ≤ 1000000 := Nat.le_trans (List.length_filter_le _ _) (by rw [List.length_take]; omega)
       simp -dsimp -implicitDefEqProofs only [h11,h10,h9,h1,h4,bs_one,m131,sF131,ZA,↓reduceIte,ZB,ZC,ZJ,ZK,ZE,ZF,ZG,ZH,ZI,reduceCtorEq,ZD,mwV,↓mwD,mwU]
       obtain ⟨v3, w3, ha3, hown3, hg3⟩ := append_int (Own.ext hown hx2) xs[k] (by omega) (hx.trans hx2).size
       refine appB.mk ha3 ?_
       simp -dsimp -implicitDefEqProofs only [h11,h10,h9,h1,h4,hw,m131,sF131,ZA,↓reduceIte,ZB,ZC,ZJ,ZK,ZE,ZF,ZG,ZH,ZI,reduceCtorEq,ZD,mwV,↓mwD,mwU]
       refine ⟨⟨k + 1, by omega, rfl, append_ext (hx.trans hx2) (Own.ext hown hx2) hg3, ?_⟩, ?_⟩
       · rw [hf]; simpa using hown3
       · simp only [intOf]; omega
   · have hkl : k = xs.length := by omega
     subst hkl
     rw [List.take_length] at hown h6
     generalize hF : xs.filter b.has = F at *
     rw [h6] at hown
     simp -dsimp -implicitDefEqProofs only [h11,h10,h9,h1,h4,h6,m131,sF131,ZA,↓reduceIte,ZB,ZC,ZJ,ZK,ZE,ZF,ZG,ZH,ZI,reduceCtorEq,ZD,mwV,↓mwD,mwU]
     refine (listed_c _ F _ (Own.sl hown)).use ?_
     rintro r w2 ⟨rfl, hx2⟩
     have hP := put3 ((hB.ext hx).ext hx2) (.int .i64 (lstK F)) (.int .i64 0) (.slice q6 F.length cap6)
     obtain ⟨y0, c0⟩ := hP.c0
     obtain ⟨y1, c1⟩ := hP.c1
     obtain ⟨y2, c2⟩ := hP.c2
     have z0 := hP.z0
     have z1 := hP.z1
     have z2 := hP.z2
     have k0 := hP.bk.get (o := 0) rfl
     have k1 := hP.bk.get (o := 1) rfl
     have k2 := hP.bk.get (o := 2) rfl
     simp -dsimp -implicitDefEqProofs only [h4,h6,chV,c0,c1,c2,z0,z1,z2,k0,k1,k2,m131,sF131,ZA,↓reduceIte,ZB,ZC,ZJ,ZK,ZE,ZF,ZG,ZH,ZI,reduceCtorEq,ZD,mwV,↓mwD,mwU]
     have hd : decide ((0 : Int) < (F.length : Int)) = decide (0 < F.length) := by rw [decide_eq_decide]; omega
     exact ⟨(hx0.trans (hx.trans hx2)).set3 (Nat.le_refl _) _ _ _, .slice q6 F.length cap6, by rw [hd], Own.mono (Own.set3 (Own.ext hown hx2) (by omega) _ _ _) (by omega)⟩
end Go.Proofs.YthcdnjbhhaonhaaGreatDoor
