/- Hosts made: appends of pointers. -/
import Derived.Test.YtefcfnmmpnjjjaaEffR
import Derived.Deep.AppendLies
namespace Go.Proofs.Ytefcfnmmpnjjjaa
open Go.RowKit
set_option linter.unusedSimpArgs false

/-- append(out, y) onto a slice of the call's own, of elements of one cell: and where the outcome lies. -/
theorem append_one {w : World} {base : Nat} {t ty e : TypeId} {z v y : Value} {n : Nat} {xs : List Value} (he : telem Go.Proofs.Try.prog t = some e) (hok : tok Go.Proofs.Try.prog e = true) (hz : tzero Go.Proofs.Try.prog e = some z) (hzs : z.cells.size = 1) (hsz : tsz Go.Proofs.Try.prog e = 1) (hby : tbytes Go.Proofs.Try.prog e = 8)
    (hown : w.ownsRow base e 1 v n xs) (hy : y.oneCell' = true) (hn : n ≤ 1099511627776) (hb : base ≤ w.heap.size) :
    ∃ g cap w', (Builtin.append_ #[t, t] ty #[v, .slice (some ⟨w.heap.size, 0, none⟩) 1 1]).run Go.Proofs.Try.prog (w.alloc (.cells #[y] e)) = .ok (.slice (some ⟨g, 0, none⟩) (n + 1) cap) w' ∧ w'.ownsRow base e 1 (.slice (some ⟨g, 0, none⟩) (n + 1) cap) (n + 1) (xs ++ [y]) ∧
      (w.alloc (.cells #[y] e)).grownBy w' v.ownBlock ∧ (v.ownBlock = some g ∨ g = w.heap.size + 1) ∧ g < w'.heap.size := by
  have hi : ∃ i, (Go.Proofs.Try.prog).info? e = some i := by unfold tok at hok; simp only [Bool.and_eq_true] at hok; exact Option.isSome_iff_exists.1 hok.1
  obtain ⟨i, hi⟩ := hi
  have hz' : i.zero = some z := by simpa [tzero, hi] using hz
  exact run_append_lies (P := Go.Proofs.Try.prog) (w.alloc (.cells #[y] e)) t ty base e i z 1 8 (telem_some he) hi hz' (by simpa [tsz, hi] using hsz) (by simpa [tbytes, hi] using hby) hzs (by omega) v n xs (Own.ext hown (Ext.alloc _ _)) ⟨w.heap.size, 0, none⟩ 1 1 [y] rfl
    (fun j u hj => by rw [Addr.add_lit, World.cell?_alloc_new]; simpa using hj) (fun u hu => by simp at hu; subst hu; exact hy) (by omega) (by unfold maxLen; omega) (by omega) (by simp; omega) _ (by simp)

/-- A new unit, all its blocks new. -/
theorem unitN_c (k : Int) (a t : Value) (A T : List Int) (w : World) (hs : VShape k A T) (hA : SlI w a A) (hT : SlI w t T) :
    Rets Go.Proofs.Try.prog 52 #[.agg #[.int .i64 k, a, t]] w fun v w' => UnitIn w' v (fun q => w.heap.size ≤ q ∧ q < w'.heap.size) ⟨initU k A T, k, A, T⟩ ∧ Ext w w' := by
  obtain ⟨pa, ca, rfl, _, _⟩ := hA.shape
  obtain ⟨pt, ct, rfl, _, _⟩ := hT.shape
  refine en52 ?_
  simp -dsimp -implicitDefEqProofs only [m52, sF52, Nat.reduceEqDiff, ↓reduceIte, Nat.reduceAdd, Nat.reduceMul, Value.cells, Value.oneCell', eq_self, ne_eq, Int.reduceToNat, Int.reduceEq, Int.reduceLT, Int.reduceLE, Int.reduceNeg, if_true, if_false, reduceCtorEq, Nat.reduceSub, storeV_ptr, slcV_slice, ↓mwD, mwU]
  refine mwpB_drawE ?_
  simp -dsimp -implicitDefEqProofs only [m52, sF52, Nat.reduceEqDiff, ↓reduceIte, Nat.reduceAdd, Nat.reduceMul, Value.cells, Value.oneCell', eq_self, ne_eq, Int.reduceToNat, Int.reduceEq, Int.reduceLT, Int.reduceLE, Int.reduceNeg, if_true, if_false, reduceCtorEq, Nat.reduceSub, storeV_ptr, slcV_slice, ↓mwD, mwU]
  generalize hW : (World.alloc w _).drew = W
  have he : Ext w W := by rw [← hW]; exact (Ext.alloc _ _).drew'
  refine (begun_c k _ _ A T W hs (hA.ext he) (hT.ext he)).use ?_
  rintro v w1 ⟨F, hwk, he1, hF⟩
  obtain ⟨u, p, rfl⟩ := hwk.iface
  have hl := shape_len hs
  have hlt := hwk.lt
  simp -dsimp -implicitDefEqProofs only [m52, sF52, Nat.reduceEqDiff, ↓reduceIte, Nat.reduceAdd, Nat.reduceMul, Value.cells, Value.oneCell', eq_self, ne_eq, Int.reduceToNat, Int.reduceEq, Int.reduceLT, Int.reduceLE, Int.reduceNeg, if_true, if_false, reduceCtorEq, Nat.reduceSub, storeV_ptr, slcV_slice, ↓mwD, mwU]
  refine ⟨he1, (own_c k _ _ A T w1 (hA.ext (he.trans he1)) (hT.ext (he.trans he1)) (by omega) (by omega)).use ?_⟩
  rintro v w2 ⟨a', t', rfl, hA2, hT2, he2, na, nt⟩
  obtain ⟨p1, n1, rfl, _, _⟩ := hA2.shape
  obtain ⟨p2, n2, rfl, _, _⟩ := hT2.shape
  simp -dsimp -implicitDefEqProofs only [bv_unit, m52, sF52, Nat.reduceEqDiff, ↓reduceIte, Nat.reduceAdd, Nat.reduceMul, Value.cells, Value.oneCell', eq_self, ne_eq, Int.reduceToNat, Int.reduceEq, Int.reduceLT, Int.reduceLE, Int.reduceNeg, if_true, if_false, reduceCtorEq, Nat.reduceSub, storeV_ptr, slcV_slice, ↓mwD, mwU]
  have hz := he.le
  have hz1 := he1.le
  have hz2 := he2.le
  refine ⟨he1.trans he2, (he1.trans he2).alloc' _, ⟨F, w2.heap.size, _, _, _, _, rfl, Bk.new _ _ _, ?_, rfl, rfl, rfl, rfl, (hwk.ext he2).ext (Ext.alloc _ _), hA2.ext (Ext.alloc _ _), hT2.ext (Ext.alloc _ _), ?_, ?_, ⟨by omega, by simp⟩, fun q hq => ⟨by have := hF q hq; omega, by have := hlt q hq; simp; omega⟩⟩, ((he.trans he1).trans he2).alloc' _⟩
  · intro hb; have := hlt _ hb; omega
  · intro hne q hq
    have h1 := na q hq
    have h2 := Sl.block (cs := ints A) hA2 (by simpa [ints] using hne) q hq
    exact ⟨fun hb => by have := hlt q hb; omega, by omega, by simp; omega⟩
  · intro hne q hq
    have h1 := nt q hq
    have h2 := Sl.block (cs := ints T) hT2 (by simpa [ints] using hne) q hq
    exact ⟨fun hb => by have := hlt q hb; omega, by omega, by simp; omega⟩

def newU (x : EX) : UX := ⟨initU x.1 x.2.1 x.2.2, x.1, x.2.1, x.2.2⟩
def newL (xs : List EX) : LX := ⟨[], xs.map newU⟩
theorem newU_ok {x : EX} (h : exValid x = true) : (newU x).s.ok ∧ (newU x).valid := ⟨initU_ok (valid_shape h), valid_shape h⟩
theorem newL_ok {xs : List EX} (h : ∀ x ∈ xs, exValid x = true) : (newL xs).ok ∧ ∀ u ∈ (newL xs).us, u.valid := by
  refine ⟨⟨fun x hx => by simp [newL] at hx, fun u hu => ?_⟩, fun u hu => ?_⟩
  · obtain ⟨x, hx, rfl⟩ := List.mem_map.1 hu; exact (newU_ok (h x hx)).1
  · obtain ⟨x, hx, rfl⟩ := List.mem_map.1 hu; exact (newU_ok (h x hx)).2

theorem bv_host (e : Bool) : buildV Go.Proofs.Try.prog 73 [(1, .bool e)] = some (.agg #[.slice none 0 0, .bool e]) := by kernel_rfl
theorem bv_lane : buildV Go.Proofs.Try.prog 79 [] = some (.agg #[.slice none 0 0, .int .i64 0, .slice none 0 0]) := by kernel_rfl

end Go.Proofs.Ytefcfnmmpnjjjaa
