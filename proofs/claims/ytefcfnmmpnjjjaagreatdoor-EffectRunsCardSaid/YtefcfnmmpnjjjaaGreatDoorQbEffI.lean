/- How units come to be: begun and its closures, own, unit, New. -/
import Derived.Test.YtefcfnmmpnjjjaaGreatDoorQbEffH
namespace Go.Proofs.YtefcfnmmpnjjjaaGreatDoor
open Go.RowKit
set_option linter.unusedSimpArgs false

/-- A new unit's state. -/
def initU (k : Int) (A T : List Int) : US :=
  if k = 1 then .gain (A.getD 0 0)
  else if k = 2 then .delay (List.replicate (A.getD 0 0).toNat 0)
  else if k = 3 then .echo (List.replicate (A.getD 0 0).toNat 0) (A.getD 1 0)
  else if k = 4 then .filter (List.replicate (T.length - 1) 0) T
  else if k = 5 then .press (A.getD 0 0) (A.getD 1 0) (A.getD 2 0) (A.getD 3 0) 0
  else if k = 6 then .gate (A.getD 0 0) (A.getD 1 0) 4097
  else .look (A.getD 0 0) (A.getD 1 0) (A.getD 2 0) (A.getD 3 0) 0 (List.replicate (A.getD 4 0).toNat 0)

/-- A new work: all its blocks are new. -/
def NewW (w : World) (s : US) (v : Value) (w' : World) : Prop := ∃ F, WorkAt w' v F s ∧ Ext w w' ∧ ∀ b ∈ F, w.heap.size ≤ b

theorem ring_zero (n : Nat) : Ring (List.replicate n 0) (List.replicate n 0) 0 := by
  refine ⟨rfl, fun h => h, fun i hi => ?_⟩
  rw [List.length_replicate] at hi ⊢
  rw [show ringIx n 0 i = i by unfold ringIx; split <;> omega]

theorem bv_gain (g : Int) : buildV Go.Proofs.Tryz.prog 148 [(0, .int .i64 g)] = some (.agg #[.int .i64 g]) := by kernel_rfl
theorem bv_delay (r n : Nat) : buildV Go.Proofs.Tryz.prog 153 [(0, .agg #[.slice (some ⟨r, 0, none⟩) n n, .int .i64 0])] = some (.agg #[.slice (some ⟨r, 0, none⟩) n n, .int .i64 0]) := by kernel_rfl
theorem bv_echo (r n : Nat) (g : Int) : buildV Go.Proofs.Tryz.prog 156 [(0, .agg #[.slice (some ⟨r, 0, none⟩) n n, .int .i64 0]), (1, .int .i64 g)] = some (.agg #[.slice (some ⟨r, 0, none⟩) n n, .int .i64 0, .int .i64 g]) := by kernel_rfl
theorem bv_filter (r n : Nat) (p : Option Addr) (m c : Nat) : buildV Go.Proofs.Tryz.prog 160 [(0, .agg #[.slice (some ⟨r, 0, none⟩) n n, .int .i64 0]), (1, .slice p m c)] = some (.agg #[.slice (some ⟨r, 0, none⟩) n n, .int .i64 0, .slice p m c]) := by kernel_rfl
theorem bv_level (a b c d : Int) : buildV Go.Proofs.Tryz.prog 98 [(0, .int .i64 a), (1, .int .i64 b), (2, .int .i64 c), (3, .int .i64 d), (4, .int .i64 0)] = some (.agg #[.int .i64 a, .int .i64 b, .int .i64 c, .int .i64 d, .int .i64 0]) := by kernel_rfl
theorem bv_press (a b c d e : Int) : buildV Go.Proofs.Tryz.prog 100 [(0, .agg #[.int .i64 a, .int .i64 b, .int .i64 c, .int .i64 d, .int .i64 e])] = some (.agg #[.int .i64 a, .int .i64 b, .int .i64 c, .int .i64 d, .int .i64 e]) := by kernel_rfl
theorem bv_gate (a b c : Int) : buildV Go.Proofs.Tryz.prog 163 [(0, .int .i64 a), (1, .int .i64 b), (2, .int .i64 c)] = some (.agg #[.int .i64 a, .int .i64 b, .int .i64 c]) := by kernel_rfl
theorem bv_look (a b c d e : Int) (r n : Nat) : buildV Go.Proofs.Tryz.prog 105 [(0, .agg #[.int .i64 a, .int .i64 b, .int .i64 c, .int .i64 d, .int .i64 e]), (1, .agg #[.slice (some ⟨r, 0, none⟩) n n, .int .i64 0])] =
    some (.agg #[.int .i64 a, .int .i64 b, .int .i64 c, .int .i64 d, .int .i64 e, .slice (some ⟨r, 0, none⟩) n n, .int .i64 0]) := by kernel_rfl

/-- A history that has just been built into a new block. -/
theorem hist_new {w : World} {r n o : Nat} {cs : List Value} {t : TypeId} (hr : Bk w r (ints (List.replicate n 0)) 3) (hn : n ≤ 4096) (h0 : cs[o]? = some (.slice (some ⟨r, 0, none⟩) n n)) (h1 : cs[o + 1]? = some (.int .i64 0)) :
    Hist (w.alloc (.cells cs.toArray t)) w.heap.size o r (List.replicate n 0) cs t :=
  ⟨0, List.replicate n 0, Bk.new _ _ _, h1, by rw [List.length_replicate]; omega, .inr ⟨by have := hr.lt; omega, by rw [List.length_replicate]; exact h0, hr.ext (Ext.alloc _ _), ring_zero n⟩⟩

section
variable {bx : Nat} {a : Value} {w : World}

theorem begun2_c (g : Int) (hx : w.cell? ⟨bx, 1, none⟩ = some a) (hA : SlI w a [g]) : Rets Go.Proofs.Tryz.prog 87 #[.pointer (some ⟨bx, 0, none⟩)] w (NewW w (.gain g)) := by
  obtain ⟨b, o, cap, rfl, hc⟩ := hA.some (by simp)
  have c0 := hc 0 g rfl
  simp only [Nat.add_zero, List.length_cons, List.length_nil, Nat.zero_add] at c0 hx
  refine en87 ?_
  have l0 : (0 : Int) < (1 : Nat) := by omega
  simp -dsimp -implicitDefEqProofs only [hx, c0, l0, bv_gain, Int.le_refl, and_self, m87, sF87, Nat.reduceEqDiff, ↓reduceIte, Nat.reduceAdd, Nat.reduceMul, Value.cells, Value.oneCell', eq_self, ne_eq, Int.reduceToNat, Int.reduceEq, Int.reduceLT, Int.reduceLE, Int.reduceNeg, if_true, if_false, reduceCtorEq, Nat.reduceSub, storeV_ptr, slcV_slice, ↓mwD, mwU]
  exact ⟨[w.heap.size], ⟨w.heap.size, rfl, rfl, Bk.new _ _ _⟩, Ext.alloc _ _, by simp⟩

theorem begun3_c (n : Int) (h0 : 0 ≤ n) (h1 : n ≤ 4096) (hx : w.cell? ⟨bx, 1, none⟩ = some a) (hA : SlI w a [n]) : Rets Go.Proofs.Tryz.prog 88 #[.pointer (some ⟨bx, 0, none⟩)] w (NewW w (.delay (List.replicate n.toNat 0))) := by
  obtain ⟨b, o, cap, rfl, hc⟩ := hA.some (by simp)
  have c0 := hc 0 n rfl
  simp only [Nat.add_zero, List.length_cons, List.length_nil, Nat.zero_add] at c0 hx
  refine en88 ?_
  have l0 : (0 : Int) < (1 : Nat) := by omega
  simp -dsimp -implicitDefEqProofs only [hx, c0, l0, Int.le_refl, and_self, m88, sF88, Nat.reduceEqDiff, ↓reduceIte, Nat.reduceAdd, Nat.reduceMul, Value.cells, Value.oneCell', eq_self, ne_eq, Int.reduceToNat, Int.reduceEq, Int.reduceLT, Int.reduceLE, Int.reduceNeg, if_true, if_false, reduceCtorEq, Nat.reduceSub, storeV_ptr, slcV_slice, ↓mwD, mwU]
  refine (past_c n h0 (by omega) w).use ?_
  rintro v w1 ⟨r, rfl, hr, hb, he⟩
  simp -dsimp -implicitDefEqProofs only [bv_delay, m88, sF88, Nat.reduceEqDiff, ↓reduceIte, Nat.reduceAdd, Nat.reduceMul, Value.cells, Value.oneCell', eq_self, ne_eq, Int.reduceToNat, Int.reduceEq, Int.reduceLT, Int.reduceLE, Int.reduceNeg, if_true, if_false, reduceCtorEq, Nat.reduceSub, storeV_ptr, slcV_slice, ↓mwD, mwU]
  exact ⟨[w1.heap.size, r], ⟨w1.heap.size, r, _, rfl, rfl, hist_new hb (by omega) rfl rfl⟩, he.alloc' _, by simp [he.le, hr]⟩

theorem begun4_c (n g : Int) (h0 : 0 ≤ n) (h1 : n ≤ 4096) (hx : w.cell? ⟨bx, 1, none⟩ = some a) (hA : SlI w a [n, g]) : Rets Go.Proofs.Tryz.prog 90 #[.pointer (some ⟨bx, 0, none⟩)] w (NewW w (.echo (List.replicate n.toNat 0) g)) := by
  obtain ⟨b, o, cap, rfl, hc⟩ := hA.some (by simp)
  have c0 := hc 0 n rfl
  have c1 := hc 1 g rfl
  simp only [Nat.add_zero, List.length_cons, List.length_nil, Nat.zero_add] at c0 hx
  refine en90 ?_
  have l0 : (0 : Int) < (1 + 1 : Nat) := by omega
  have l1 : (1 : Int) < (1 + 1 : Nat) := by omega
  simp -dsimp -implicitDefEqProofs only [m90, sF90, Nat.reduceEqDiff, ↓reduceIte, Nat.reduceAdd, Nat.reduceMul, Value.cells, Value.oneCell', eq_self, ne_eq, Int.reduceToNat, Int.reduceEq, Int.reduceLT, Int.reduceLE, Int.reduceNeg, if_true, if_false, reduceCtorEq, Nat.reduceSub, storeV_ptr, slcV_slice, ↓mwD, mwU]
  refine mwpB_drawE ?_
  simp -dsimp -implicitDefEqProofs only [hx, c0, c1, l0, l1, Int.le_refl, and_self, m90, sF90, Nat.reduceEqDiff, ↓reduceIte, Nat.reduceAdd, Nat.reduceMul, Value.cells, Value.oneCell', eq_self, ne_eq, Int.reduceToNat, Int.reduceEq, Int.reduceLT, Int.reduceLE, Int.reduceNeg, if_true, if_false, reduceCtorEq, Nat.reduceSub, storeV_ptr, slcV_slice, ↓mwD, mwU]
  refine (past_c n h0 (by omega) w.drew).use ?_
  rintro v w1 ⟨r, rfl, hr, hb, he⟩
  simp -dsimp -implicitDefEqProofs only [hx, c0, c1, l0, l1, bv_echo, m90, sF90, Nat.reduceEqDiff, ↓reduceIte, Nat.reduceAdd, Nat.reduceMul, Value.cells, Value.oneCell', eq_self, ne_eq, Int.reduceToNat, Int.reduceEq, Int.reduceLT, Int.reduceLE, Int.reduceNeg, if_true, if_false, reduceCtorEq, Nat.reduceSub, storeV_ptr, slcV_slice, ↓mwD, mwU]
  have he' : Ext w w1 := (Ext.drew w).trans he
  exact ⟨he, he.alloc' _, [w1.heap.size, r], ⟨w1.heap.size, r, _, rfl, rfl, hist_new hb (by omega) rfl rfl, rfl⟩, he'.alloc' _, by simp [he'.le]; exact hr⟩

theorem begun5_c (T : List Int) (h0 : 1 ≤ T.length) (h1 : T.length ≤ 512) (hx : w.cell? ⟨bx, 2, none⟩ = some a) (hA : SlI w a T) : Rets Go.Proofs.Tryz.prog 91 #[.pointer (some ⟨bx, 0, none⟩)] w (NewW w (.filter (List.replicate (T.length - 1) 0) T)) := by
  obtain ⟨p, cap, rfl, hcap, hm⟩ := hA.shape
  have e1 : IntKind.i64.wrap ((T.length : Int) - 1) = (T.length - 1 : Nat) := by rw [w64 (by omega) (by omega)]; omega
  refine en91 ?_
  simp -dsimp -implicitDefEqProofs only [m91, sF91, Nat.reduceEqDiff, ↓reduceIte, Nat.reduceAdd, Nat.reduceMul, Value.cells, Value.oneCell', eq_self, ne_eq, Int.reduceToNat, Int.reduceEq, Int.reduceLT, Int.reduceLE, Int.reduceNeg, if_true, if_false, reduceCtorEq, Nat.reduceSub, storeV_ptr, slcV_slice, ↓mwD, mwU]
  refine mwpB_drawE ?_
  simp -dsimp -implicitDefEqProofs only [hx, e1, m91, sF91, Nat.reduceEqDiff, ↓reduceIte, Nat.reduceAdd, Nat.reduceMul, Value.cells, Value.oneCell', eq_self, ne_eq, Int.reduceToNat, Int.reduceEq, Int.reduceLT, Int.reduceLE, Int.reduceNeg, if_true, if_false, reduceCtorEq, Nat.reduceSub, storeV_ptr, slcV_slice, ↓mwD, mwU]
  refine (past_c _ (by omega) (by omega) w.drew).use ?_
  rintro v w1 ⟨r, rfl, hr, hb, he⟩
  have hA1 : SlI w1 _ T := hA.ext ((Ext.drew w).trans he)
  simp -dsimp -implicitDefEqProofs only [hx, m91, sF91, Nat.reduceEqDiff, ↓reduceIte, Nat.reduceAdd, Nat.reduceMul, Value.cells, Value.oneCell', eq_self, ne_eq, Int.reduceToNat, Int.reduceEq, Int.reduceLT, Int.reduceLE, Int.reduceNeg, if_true, if_false, reduceCtorEq, Nat.reduceSub, storeV_ptr, slcV_slice, ↓mwD, mwU]
  refine ⟨he, (CloneI_c _ T w1 hA1 (by omega)).use ?_⟩
  rintro v w2 ⟨he2, hown⟩
  have hsl : SlI w2 v T := Own.sl hown
  have hT0 : T ≠ [] := by rintro rfl; simp at h0
  obtain ⟨q, oq, cap2, rfl, _⟩ := hsl.at hT0
  have hq := World.ownsRow.lt hown q rfl
  rw [Int.toNat_natCast] at hb
  simp -dsimp -implicitDefEqProofs only [bv_filter, m91, sF91, Nat.reduceEqDiff, ↓reduceIte, Nat.reduceAdd, Nat.reduceMul, Value.cells, Value.oneCell', eq_self, ne_eq, Int.reduceToNat, Int.reduceEq, Int.reduceLT, Int.reduceLE, Int.reduceNeg, if_true, if_false, reduceCtorEq, Nat.reduceSub, storeV_ptr, slcV_slice, ↓mwD, mwU]
  have hb2 : Bk w2 r _ _ := hb.ext he2
  have hh := hist_new (cs := [.slice (some ⟨r, 0, none⟩) (T.length - 1) (T.length - 1), .int .i64 0, .slice (some ⟨q, oq, none⟩) T.length cap2]) (t := 160) (o := 0) hb2 (by omega) rfl rfl
  have he' : Ext w w1 := (Ext.drew w).trans he
  have hl := hb.lt
  refine ⟨he.trans he2, (he.trans he2).alloc' _, [w2.heap.size, r, q], ⟨w2.heap.size, r, q, _, _, _, rfl, rfl, hh, rfl, hsl.ext (Ext.alloc _ _), by omega, by omega, hT0⟩, (he'.trans he2).alloc' _, ?_⟩
  simp only [List.mem_cons, List.not_mem_nil, or_false, forall_eq_or_imp, forall_eq]
  exact ⟨(he'.trans he2).le, hr, Nat.le_trans he'.le hq.1⟩

theorem begun1_c (c0 c1 c2 c3 : Int) (rest : List Int) (hx : w.cell? ⟨bx, 1, none⟩ = some a) (hA : SlI w a (c0 :: c1 :: c2 :: c3 :: rest)) : Rets Go.Proofs.Tryz.prog 86 #[.pointer (some ⟨bx, 0, none⟩)] w fun v w' =>
    v = .agg #[.int .i64 c0, .int .i64 c1, .int .i64 c2, .int .i64 c3, .int .i64 0] ∧ Ext w w' := by
  obtain ⟨b, o, cap, rfl, hc⟩ := hA.some (by simp)
  have he : Ext w (w.alloc (.cells #[.int .i64 0, .int .i64 0, .int .i64 0, .int .i64 0, .int .i64 0] 98)) := Ext.alloc _ _
  have g0 := he.cell (hc 0 c0 rfl)
  have g1 := he.cell (hc 1 c1 rfl)
  have g2 := he.cell (hc 2 c2 rfl)
  have g3 := he.cell (hc 3 c3 rfl)
  have hx1 := he.cell hx
  have l0 : (0 : Int) < ((c0 :: c1 :: c2 :: c3 :: rest).length : Nat) := by simp only [List.length_cons]; omega
  have l1 : (1 : Int) < ((c0 :: c1 :: c2 :: c3 :: rest).length : Nat) := by simp only [List.length_cons]; omega
  have l2 : (2 : Int) < ((c0 :: c1 :: c2 :: c3 :: rest).length : Nat) := by simp only [List.length_cons]; omega
  have l3 : (3 : Int) < ((c0 :: c1 :: c2 :: c3 :: rest).length : Nat) := by simp only [List.length_cons]; omega
  generalize (c0 :: c1 :: c2 :: c3 :: rest).length = n at *
  simp only [Nat.add_zero] at g0
  have hb := (Bk.new w [.int .i64 0, .int .i64 0, .int .i64 0, .int .i64 0, .int .i64 0] 98).drew
  obtain ⟨w', hs, hb', hf⟩ := storeV_bk (P := Go.Proofs.Tryz.prog) (t := 98) (v := .agg #[.int .i64 c0, .int .i64 c1, .int .i64 c2, .int .i64 c3, .int .i64 0]) 0 hb tok_98 (by rw [tsz_98]; rfl) (by simp [Value.cells, Value.oneCell']) (by simp [Value.cells])
  have d0 := hb'.get (o := 0) rfl
  have d1 := hb'.get (o := 1) rfl
  have d2 := hb'.get (o := 2) rfl
  have d3 := hb'.get (o := 3) rfl
  have d4 := hb'.get (o := 4) rfl
  refine en86 ?_
  simp -dsimp -implicitDefEqProofs only [m86, sF86, Nat.reduceEqDiff, ↓reduceIte, Nat.reduceAdd, Nat.reduceMul, Value.cells, Value.oneCell', eq_self, ne_eq, Int.reduceToNat, Int.reduceEq, Int.reduceLT, Int.reduceLE, Int.reduceNeg, if_true, if_false, reduceCtorEq, Nat.reduceSub, storeV_ptr, slcV_slice, ↓mwD, mwU]
  refine mwpB_drawE ?_
  simp -dsimp -implicitDefEqProofs only [hx1, g0, g1, g2, g3, l0, l1, l2, l3, Int.le_refl, and_self, bv_level, hs, d0, d1, d2, d3, d4, m86, sF86, Nat.reduceEqDiff, ↓reduceIte, Nat.reduceAdd, Nat.reduceMul, Value.cells, Value.oneCell', eq_self, ne_eq, Int.reduceToNat, Int.reduceEq, Int.reduceLT, Int.reduceLE, Int.reduceNeg, if_true, if_false, reduceCtorEq, Nat.reduceSub, slcV_slice, ↓mwD, mwU]
  exact hf.ext he.drew' (by simp)

theorem begun6_c {bf : Nat} (c0 c1 c2 c3 : Int) (hx : w.cell? ⟨bx, 1, none⟩ = some a) (hA : SlI w a [c0, c1, c2, c3]) (hfol : w.cell? ⟨bf, 0, none⟩ = some (.func (.func 86) #[] #[.pointer (some ⟨bx, 0, none⟩)])) :
    Rets Go.Proofs.Tryz.prog 93 #[.pointer (some ⟨bf, 0, none⟩)] w (NewW w (.press c0 c1 c2 c3 0)) := by
  refine en93 ?_
  simp -dsimp -implicitDefEqProofs only [hfol, okF_86, m93, sF93, Nat.reduceEqDiff, ↓reduceIte, Nat.reduceAdd, Nat.reduceMul, Value.cells, Value.oneCell', eq_self, ne_eq, Int.reduceToNat, Int.reduceEq, Int.reduceLT, Int.reduceLE, Int.reduceNeg, if_true, if_false, reduceCtorEq, Nat.reduceSub, storeV_ptr, slcV_slice, ↓mwD, mwU]
  refine (begun1_c c0 c1 c2 c3 [] hx hA).use ?_
  rintro v w1 ⟨rfl, he⟩
  simp -dsimp -implicitDefEqProofs only [bv_press, m93, sF93, Nat.reduceEqDiff, ↓reduceIte, Nat.reduceAdd, Nat.reduceMul, Value.cells, Value.oneCell', eq_self, ne_eq, Int.reduceToNat, Int.reduceEq, Int.reduceLT, Int.reduceLE, Int.reduceNeg, if_true, if_false, reduceCtorEq, Nat.reduceSub, storeV_ptr, slcV_slice, ↓mwD, mwU]
  exact ⟨[w1.heap.size], ⟨w1.heap.size, _, rfl, rfl, Bk.new _ _ _, rfl, rfl, rfl, rfl, rfl⟩, he.alloc' _, by simp [he.le]⟩

theorem begun7_c (n g : Int) (hx : w.cell? ⟨bx, 1, none⟩ = some a) (hA : SlI w a [n, g]) : Rets Go.Proofs.Tryz.prog 94 #[.pointer (some ⟨bx, 0, none⟩)] w (NewW w (.gate n g 4097)) := by
  obtain ⟨b, o, cap, rfl, hc⟩ := hA.some (by simp)
  have c0 := hc 0 n rfl
  have c1 := hc 1 g rfl
  simp only [Nat.add_zero, List.length_cons, List.length_nil, Nat.zero_add] at c0 hx
  refine en94 ?_
  have l0 : (0 : Int) < (1 + 1 : Nat) := by omega
  have l1 : (1 : Int) < (1 + 1 : Nat) := by omega
  simp -dsimp -implicitDefEqProofs only [m94, sF94, Nat.reduceEqDiff, ↓reduceIte, Nat.reduceAdd, Nat.reduceMul, Value.cells, Value.oneCell', eq_self, ne_eq, Int.reduceToNat, Int.reduceEq, Int.reduceLT, Int.reduceLE, Int.reduceNeg, if_true, if_false, reduceCtorEq, Nat.reduceSub, storeV_ptr, slcV_slice, ↓mwD, mwU]
  refine mwpB_drawE ?_
  simp -dsimp -implicitDefEqProofs only [hx, c0, c1, l0, l1, Int.le_refl, and_self, bv_gate, m94, sF94, Nat.reduceEqDiff, ↓reduceIte, Nat.reduceAdd, Nat.reduceMul, Value.cells, Value.oneCell', eq_self, ne_eq, Int.reduceToNat, Int.reduceEq, Int.reduceLT, Int.reduceLE, Int.reduceNeg, if_true, if_false, reduceCtorEq, Nat.reduceSub, storeV_ptr, slcV_slice, ↓mwD, mwU]
  exact ⟨Ext.alloc _ _, [w.heap.size], ⟨w.heap.size, rfl, rfl, Bk.new _ _ _⟩, (Ext.drew w).alloc' _, by simp⟩

theorem begun8_c {bf : Nat} (c0 c1 c2 c3 n : Int) (h0 : 0 ≤ n) (h1 : n ≤ 512) (hx : w.cell? ⟨bx, 1, none⟩ = some a) (hA : SlI w a [c0, c1, c2, c3, n]) (hfol : w.cell? ⟨bf, 0, none⟩ = some (.func (.func 86) #[] #[.pointer (some ⟨bx, 0, none⟩)])) :
    Rets Go.Proofs.Tryz.prog 95 #[.pointer (some ⟨bf, 0, none⟩), .pointer (some ⟨bx, 0, none⟩)] w (NewW w (.look c0 c1 c2 c3 0 (List.replicate n.toNat 0))) := by
  obtain ⟨b, o, cap, rfl, hc⟩ := hA.some (by simp)
  have g4 := hc 4 n rfl
  have l4 : (4 : Int) < ([c0, c1, c2, c3, n].length : Nat) := by simp only [List.length_cons, List.length_nil]; omega
  have hx0 := hx
  have hA0 := hA
  generalize [c0, c1, c2, c3, n].length = m at *
  refine en95 ?_
  simp -dsimp -implicitDefEqProofs only [m95, sF95, Nat.reduceEqDiff, ↓reduceIte, Nat.reduceAdd, Nat.reduceMul, Value.cells, Value.oneCell', eq_self, ne_eq, Int.reduceToNat, Int.reduceEq, Int.reduceLT, Int.reduceLE, Int.reduceNeg, if_true, if_false, reduceCtorEq, Nat.reduceSub, storeV_ptr, slcV_slice, ↓mwD, mwU]
  refine mwpB_drawE ?_
  simp -dsimp -implicitDefEqProofs only [hfol, okF_86, hx, g4, l4, Int.le_refl, and_self, m95, sF95, Nat.reduceEqDiff, ↓reduceIte, Nat.reduceAdd, Nat.reduceMul, Value.cells, Value.oneCell', eq_self, ne_eq, Int.reduceToNat, Int.reduceEq, Int.reduceLT, Int.reduceLE, Int.reduceNeg, if_true, if_false, reduceCtorEq, Nat.reduceSub, storeV_ptr, slcV_slice, ↓mwD, mwU]
  refine (begun1_c (w := w.drew) c0 c1 c2 c3 [n] hx hA).use ?_
  rintro v w1 ⟨rfl, he⟩
  simp -dsimp -implicitDefEqProofs only [m95, sF95, Nat.reduceEqDiff, ↓reduceIte, Nat.reduceAdd, Nat.reduceMul, Value.cells, Value.oneCell', eq_self, ne_eq, Int.reduceToNat, Int.reduceEq, Int.reduceLT, Int.reduceLE, Int.reduceNeg, if_true, if_false, reduceCtorEq, Nat.reduceSub, storeV_ptr, slcV_slice, ↓mwD, mwU]
  refine ⟨he, (past_c n h0 (by omega) w1).use ?_⟩
  rintro v w2 ⟨r, rfl, hr, hb, he2⟩
  simp -dsimp -implicitDefEqProofs only [bv_look, m95, sF95, Nat.reduceEqDiff, ↓reduceIte, Nat.reduceAdd, Nat.reduceMul, Value.cells, Value.oneCell', eq_self, ne_eq, Int.reduceToNat, Int.reduceEq, Int.reduceLT, Int.reduceLE, Int.reduceNeg, if_true, if_false, reduceCtorEq, Nat.reduceSub, storeV_ptr, slcV_slice, ↓mwD, mwU]
  have he' : Ext w w1 := (Ext.drew w).trans he
  refine ⟨he.trans he2, (he.trans he2).alloc' _, [w2.heap.size, r], ⟨w2.heap.size, r, _, rfl, rfl, hist_new hb (by omega) rfl rfl, rfl, rfl, rfl, rfl, rfl⟩, (he'.trans he2).alloc' _, ?_⟩
  simp only [List.mem_cons, List.not_mem_nil, or_false, forall_eq_or_imp, forall_eq]
  exact ⟨(he'.trans he2).le, Nat.le_trans he'.le hr⟩

end

theorem NewW.from {w0 w1 w2 : World} {s : US} {v : Value} (h : NewW w1 s v w2) (he : Ext w0 w1) : NewW w0 s v w2 := by
  obtain ⟨F, h1, h2, h3⟩ := h
  exact ⟨F, h1, he.trans h2, fun b hb => Nat.le_trans he.le (h3 b hb)⟩

theorem bv_makes (c1 c2 c3 c4 c5 c6 c7 : Array Value) : buildV Go.Proofs.Tryz.prog 164 [(1, .func (.func 87) #[] c1), (2, .func (.func 88) #[] c2), (3, .func (.func 90) #[] c3), (4, .func (.func 91) #[] c4),
    (5, .func (.func 93) #[] c5), (6, .func (.func 94) #[] c6), (7, .func (.func 95) #[] c7)] =
    some (.agg #[.nilFunc, .func (.func 87) #[] c1, .func (.func 88) #[] c2, .func (.func 90) #[] c3, .func (.func 91) #[] c4, .func (.func 93) #[] c5, .func (.func 94) #[] c6, .func (.func 95) #[] c7]) := by kernel_rfl

theorem cell_old2 (w : World) (o1 o2 : Obj) (i : Nat) : ((w.alloc o1).alloc o2).cell? ⟨w.heap.size, i, none⟩ = (w.alloc o1).cell? ⟨w.heap.size, i, none⟩ := World.cell?_alloc_old _ _ _ (by simp)
theorem cell_old3 (w : World) (o1 o2 o3 : Obj) (i : Nat) : (((w.alloc o1).alloc o2).alloc o3).cell? ⟨w.heap.size, i, none⟩ = (w.alloc o1).cell? ⟨w.heap.size, i, none⟩ := by
  rw [World.cell?_alloc_old _ _ _ (by simp; omega)]; exact cell_old2 _ _ _ _

theorem taps_len {T : List Int} (h : tapsB T = true) : 1 ≤ T.length ∧ T.length ≤ 512 := by
  simp only [tapsB, Bool.and_eq_true, wtn_iff] at h
  omega

/-- What begun makes of a valid effect. -/
theorem begun_c (k : Int) (a t : Value) (A T : List Int) (w : World) (hs : VShape k A T) (hA : SlI w a A) (hT : SlI w t T) : Rets Go.Proofs.Tryz.prog 48 #[.agg #[.int .i64 k, a, t]] w (NewW w (initU k A T)) := by
  obtain ⟨pa, ca, rfl, _, _⟩ := hA.shape
  obtain ⟨pt, ct, rfl, _, _⟩ := hT.shape
  refine en48 ?_
  simp -dsimp -implicitDefEqProofs only [bv_makes, cell_old3, m48, sF48, Nat.reduceEqDiff, ↓reduceIte, Nat.reduceAdd, Nat.reduceMul, Value.cells, Value.oneCell', eq_self, ne_eq, Int.reduceToNat, Int.reduceEq, Int.reduceLT, Int.reduceLE, Int.reduceNeg, if_true, if_false, reduceCtorEq, Nat.reduceSub, storeV_ptr, slcV_slice, ↓mwD, mwU]
  generalize hW : World.alloc (World.alloc (World.alloc w _) _) _ = W
  have he : Ext w W := by rw [← hW]; exact ((Ext.alloc _ _).alloc' _).alloc' _
  have hx1 : W.cell? ⟨w.heap.size, 1, none⟩ = some (.slice pa A.length ca) := by rw [← hW, cell_old3, World.cell?_alloc_new]; rfl
  have hx2 : W.cell? ⟨w.heap.size, 2, none⟩ = some (.slice pt T.length ct) := by rw [← hW, cell_old3, World.cell?_alloc_new]; rfl
  have hfol : W.cell? ⟨(w.alloc (.cells #[.int .i64 k, .slice pa A.length ca, .slice pt T.length ct] 24)).heap.size, 0, none⟩ = some (.func (.func 86) #[] #[.pointer (some ⟨w.heap.size, 0, none⟩)]) := by
    rw [← hW, cell_old2, World.cell?_alloc_new]; rfl
  have hmk : ∀ i : Nat, W.cell? ⟨((w.alloc (.cells #[.int .i64 k, .slice pa A.length ca, .slice pt T.length ct] 24)).alloc (.cells #[.func (.func 86) #[] #[.pointer (some ⟨w.heap.size, 0, none⟩)]] 145)).heap.size, i, none⟩ = _ :=
    fun i => by rw [← hW, World.cell?_alloc_new]
  have hA' : SlI W _ A := hA.ext he
  have hT' : SlI W _ T := hT.ext he
  clear hW
  cases hs with
  | gain g hg =>
    simp -dsimp -implicitDefEqProofs only [hmk, and_self, okF_87, m48, sF48, Nat.reduceEqDiff, ↓reduceIte, Nat.reduceAdd, Nat.reduceMul, Value.cells, Value.oneCell', eq_self, ne_eq, Int.reduceToNat, Int.reduceEq, Int.reduceLT, Int.reduceLE, Int.reduceNeg, if_true, if_false, reduceCtorEq, Nat.reduceSub, storeV_ptr, slcV_slice, ↓mwD, mwU]
    refine (begun2_c g hx1 hA').use ?_
    rintro v w1 hn
    simp -dsimp -implicitDefEqProofs only [m48, sF48, Nat.reduceEqDiff, ↓reduceIte, Nat.reduceAdd, Nat.reduceMul, Value.cells, Value.oneCell', eq_self, ne_eq, Int.reduceToNat, Int.reduceEq, Int.reduceLT, Int.reduceLE, Int.reduceNeg, if_true, if_false, reduceCtorEq, Nat.reduceSub, storeV_ptr, slcV_slice, ↓mwD, mwU]
    exact hn.from he
  | delay n hn =>
    simp -dsimp -implicitDefEqProofs only [hmk, and_self, okF_88, m48, sF48, Nat.reduceEqDiff, ↓reduceIte, Nat.reduceAdd, Nat.reduceMul, Value.cells, Value.oneCell', eq_self, ne_eq, Int.reduceToNat, Int.reduceEq, Int.reduceLT, Int.reduceLE, Int.reduceNeg, if_true, if_false, reduceCtorEq, Nat.reduceSub, storeV_ptr, slcV_slice, ↓mwD, mwU]
    refine (begun3_c n hn.1 hn.2 hx1 hA').use ?_
    rintro v w1 hn
    simp -dsimp -implicitDefEqProofs only [m48, sF48, Nat.reduceEqDiff, ↓reduceIte, Nat.reduceAdd, Nat.reduceMul, Value.cells, Value.oneCell', eq_self, ne_eq, Int.reduceToNat, Int.reduceEq, Int.reduceLT, Int.reduceLE, Int.reduceNeg, if_true, if_false, reduceCtorEq, Nat.reduceSub, storeV_ptr, slcV_slice, ↓mwD, mwU]
    exact hn.from he
  | echo n g hn hg =>
    simp -dsimp -implicitDefEqProofs only [hmk, and_self, okF_90, m48, sF48, Nat.reduceEqDiff, ↓reduceIte, Nat.reduceAdd, Nat.reduceMul, Value.cells, Value.oneCell', eq_self, ne_eq, Int.reduceToNat, Int.reduceEq, Int.reduceLT, Int.reduceLE, Int.reduceNeg, if_true, if_false, reduceCtorEq, Nat.reduceSub, storeV_ptr, slcV_slice, ↓mwD, mwU]
    refine (begun4_c n g (by omega) hn.2 hx1 hA').use ?_
    rintro v w1 hn
    simp -dsimp -implicitDefEqProofs only [m48, sF48, Nat.reduceEqDiff, ↓reduceIte, Nat.reduceAdd, Nat.reduceMul, Value.cells, Value.oneCell', eq_self, ne_eq, Int.reduceToNat, Int.reduceEq, Int.reduceLT, Int.reduceLE, Int.reduceNeg, if_true, if_false, reduceCtorEq, Nat.reduceSub, storeV_ptr, slcV_slice, ↓mwD, mwU]
    exact hn.from he
  | filter _ hT0 =>
    simp -dsimp -implicitDefEqProofs only [hmk, and_self, okF_91, m48, sF48, Nat.reduceEqDiff, ↓reduceIte, Nat.reduceAdd, Nat.reduceMul, Value.cells, Value.oneCell', eq_self, ne_eq, Int.reduceToNat, Int.reduceEq, Int.reduceLT, Int.reduceLE, Int.reduceNeg, if_true, if_false, reduceCtorEq, Nat.reduceSub, storeV_ptr, slcV_slice, ↓mwD, mwU]
    refine (begun5_c T (taps_len hT0).1 (taps_len hT0).2 hx2 hT').use ?_
    rintro v w1 hn
    simp -dsimp -implicitDefEqProofs only [m48, sF48, Nat.reduceEqDiff, ↓reduceIte, Nat.reduceAdd, Nat.reduceMul, Value.cells, Value.oneCell', eq_self, ne_eq, Int.reduceToNat, Int.reduceEq, Int.reduceLT, Int.reduceLE, Int.reduceNeg, if_true, if_false, reduceCtorEq, Nat.reduceSub, storeV_ptr, slcV_slice, ↓mwD, mwU]
    exact hn.from he
  | press c0 c1 c2 c3 _ _ _ _ =>
    simp -dsimp -implicitDefEqProofs only [hmk, and_self, okF_93, m48, sF48, Nat.reduceEqDiff, ↓reduceIte, Nat.reduceAdd, Nat.reduceMul, Value.cells, Value.oneCell', eq_self, ne_eq, Int.reduceToNat, Int.reduceEq, Int.reduceLT, Int.reduceLE, Int.reduceNeg, if_true, if_false, reduceCtorEq, Nat.reduceSub, storeV_ptr, slcV_slice, ↓mwD, mwU]
    refine (begun6_c c0 c1 c2 c3 hx1 hA' hfol).use ?_
    rintro v w1 hn
    simp -dsimp -implicitDefEqProofs only [m48, sF48, Nat.reduceEqDiff, ↓reduceIte, Nat.reduceAdd, Nat.reduceMul, Value.cells, Value.oneCell', eq_self, ne_eq, Int.reduceToNat, Int.reduceEq, Int.reduceLT, Int.reduceLE, Int.reduceNeg, if_true, if_false, reduceCtorEq, Nat.reduceSub, storeV_ptr, slcV_slice, ↓mwD, mwU]
    exact hn.from he
  | gate n g _ _ =>
    simp -dsimp -implicitDefEqProofs only [hmk, and_self, okF_94, m48, sF48, Nat.reduceEqDiff, ↓reduceIte, Nat.reduceAdd, Nat.reduceMul, Value.cells, Value.oneCell', eq_self, ne_eq, Int.reduceToNat, Int.reduceEq, Int.reduceLT, Int.reduceLE, Int.reduceNeg, if_true, if_false, reduceCtorEq, Nat.reduceSub, storeV_ptr, slcV_slice, ↓mwD, mwU]
    refine (begun7_c n g hx1 hA').use ?_
    rintro v w1 hn
    simp -dsimp -implicitDefEqProofs only [m48, sF48, Nat.reduceEqDiff, ↓reduceIte, Nat.reduceAdd, Nat.reduceMul, Value.cells, Value.oneCell', eq_self, ne_eq, Int.reduceToNat, Int.reduceEq, Int.reduceLT, Int.reduceLE, Int.reduceNeg, if_true, if_false, reduceCtorEq, Nat.reduceSub, storeV_ptr, slcV_slice, ↓mwD, mwU]
    exact hn.from he
  | look c0 c1 c2 c3 n _ _ _ _ h4 =>
    simp -dsimp -implicitDefEqProofs only [hmk, and_self, okF_95, m48, sF48, Nat.reduceEqDiff, ↓reduceIte, Nat.reduceAdd, Nat.reduceMul, Value.cells, Value.oneCell', eq_self, ne_eq, Int.reduceToNat, Int.reduceEq, Int.reduceLT, Int.reduceLE, Int.reduceNeg, if_true, if_false, reduceCtorEq, Nat.reduceSub, storeV_ptr, slcV_slice, ↓mwD, mwU]
    refine (begun8_c c0 c1 c2 c3 n h4.1 h4.2 hx1 hA' hfol).use ?_
    rintro v w1 hn
    simp -dsimp -implicitDefEqProofs only [m48, sF48, Nat.reduceEqDiff, ↓reduceIte, Nat.reduceAdd, Nat.reduceMul, Value.cells, Value.oneCell', eq_self, ne_eq, Int.reduceToNat, Int.reduceEq, Int.reduceLT, Int.reduceLE, Int.reduceNeg, if_true, if_false, reduceCtorEq, Nat.reduceSub, storeV_ptr, slcV_slice, ↓mwD, mwU]
    exact hn.from he

end Go.Proofs.YtefcfnmmpnjjjaaGreatDoor
