/- Appends of slices of ints to rows of the call's own. -/
import Derived.Test.YtefcfnmmpnjjjaaGreatDoorQbEffP
import Derived.Maps.AppendAt
import Derived.Deep.AppendLies
namespace Go.Proofs.YtefcfnmmpnjjjaaGreatDoor
open Go.RowKit
set_option linter.unusedSimpArgs false

theorem app_nil {w : World} {b : Option Addr} {n c : Nat} (hle : n ≤ c) : (Builtin.append_ #[22, 22] 22 #[.slice b n c, .slice none 0 0]).run Go.Proofs.Tryz.prog w = .ok (.slice b n c) w := by
  have hi : ∃ i, (Go.Proofs.Tryz.prog).info? 3 = some i := by
    have := tok_3
    unfold tok at this; simp only [Bool.and_eq_true] at this; exact Option.isSome_iff_exists.1 this.1
  obtain ⟨i, hi⟩ := hi
  have ht := telem_some telem_22
  cases b <;> simp [Builtin.append_, Builtin.lenOf, Builtin.firstCells, run_underlying ht, sizeOf, typeInfo, hi, storeCells, hle]

theorem planEB_alt {P : Program} {w0 : World} {e : Env} {ds : List Deferred} {w : World} {K : Env → List Deferred → World → Prop} {X : List PanicEntry → List Deferred → World → Prop} {d : Option Tmp} {op : Op} {ty : TypeId} {r m : MP} {t}
    (h : opB P ⟨d, op, ty, none⟩ e ds w (fun v ds w => Ext w0 w ∧ planEB P w0 r (updO e d v) ds w K X ⟨⟩) X ⟨⟩) (h' : planEB P w0 m e ds w K X ⟨⟩) : planEB P w0 (.alt ⟨d, op, ty, none⟩ r m) e ds w K X t := by
  unfold planEB opB at *
  simp only [planE, wantedW, if_true]
  exact ⟨h, h'⟩
/-- append(v, u...) onto a row of the call's own; another row stays. -/
theorem app_ints {w8 W : World} {v u z : Value} {n m : Nat} {xs ys zs : List Int} (he : Ext w8 W) (h1 : W.ownsRow w8.heap.size 3 1 v n (ints xs)) (hu : SlI W u ys) (h2 : W.ownsRow w8.heap.size 3 1 z m (ints zs))
    (hd : ∀ q, v.ownBlock = some q → z.ownBlock ≠ some q) (hn : n ≤ 100000) (hy : ys.length ≤ 100000) :
    ∃ v' W', (Builtin.append_ #[22, 22] 22 #[v, u]).run Go.Proofs.Tryz.prog W = .ok v' W' ∧ Ext w8 W' ∧ W'.ownsRow w8.heap.size 3 1 v' (n + ys.length) (ints (xs ++ ys)) ∧ W'.ownsRow w8.heap.size 3 1 z m (ints zs) ∧
      (∀ q, v'.ownBlock = some q → z.ownBlock ≠ some q) ∧ ∀ u' ys', SlI W u' ys' → (ys' ≠ [] → ∀ q, u'.ownBlock = some q → q < w8.heap.size) → SlI W' u' ys' := by
  rcases hu with ⟨rfl, hy0⟩ | ⟨b, o, cap, rfl, hc1, hc2, hr⟩
  · have : ys = [] := by simpa [ints] using hy0
    subst this
    obtain ⟨p, cv, rfl, hcv, _⟩ := (ow_sl h1).shape
    exact ⟨_, W, app_nil hcv, he, by simpa using h1, h2, hd, fun u' ys' h _ => h⟩
  · have hi : ∃ i, (Go.Proofs.Tryz.prog).info? 3 = some i := by
      have := tok_3
      unfold tok at this; simp only [Bool.and_eq_true] at this; exact Option.isSome_iff_exists.1 this.1
    obtain ⟨i, hi⟩ := hi
    have hz' : i.zero = some (.int .i64 0) := by have := tzero_3; simpa [tzero, hi] using this
    obtain ⟨v', W', ha, hown, hg, _, hlies⟩ := run_append_own_at (P := Go.Proofs.Tryz.prog) (w := W) w8.heap.size 22 22 3 i (.int .i64 0) 1 8 (telem_some telem_22) hi hz' (by have := tsz_3; simpa [tsz, hi] using this) (by have := tby_3; simpa [tbytes, hi] using this) rfl (by omega)
      v n (ints xs) h1 ⟨b, o, none⟩ ys.length cap (ints ys) (by simp [ints_length]) (fun j u hj => by rw [Addr.add_lit]; exact hr j u hj) (fun u hu => by
        simp only [ints, List.mem_map] at hu
        obtain ⟨x, _, rfl⟩ := hu
        rfl) (by unfold maxLen; omega) (by omega) he.le
    have hge := Own.ge h1
    have hl2 := World.ownsRow.lt h2
    refine ⟨v', W', by rw [ints_length]; exact ha, he.grown hg hge, by simpa [ints] using hown, ?_, ?_, ?_⟩
    · refine ⟨h2.1, ?_⟩
      rcases h2.2 with h | ⟨g, cap, cur, hv, hg', hh, r⟩
      · exact .inl h
      · refine .inr ⟨g, cap, cur, hv, hg', ?_, r⟩
        rw [hg.block g (Array.getElem?_eq_some_iff.1 hh).1 (fun e => hd g e.symm (by rw [hv]; rfl))]
        exact hh
    · intro q hq hzq
      rcases hlies with h | h
      · exact hd q (h ▸ hq) hzq
      · rw [h] at hq
        simp only [Option.some.injEq] at hq
        have := (hl2 q hzq).2
        omega
    · intro u' ys' hu' hlt
      have hs : Same (fun q => q < w8.heap.size) W W' := fun q hq => hg.block q (Nat.lt_of_lt_of_le hq he.le) (fun e => by have := hge q e.symm; omega)
      exact Sl.same (cs := ints ys') hu' hs fun hne => hlt (by simpa [ints] using hne)

/-- append(v, u...) onto a row of the call's own. -/
theorem app_row {w8 W : World} {v u : Value} {n : Nat} {xs ys : List Int} (he : Ext w8 W) (h1 : W.ownsRow w8.heap.size 3 1 v n (ints xs)) (hu : SlI W u ys) (hn : n ≤ 100000) (hy : ys.length ≤ 100000) :
    ∃ v' W', (Builtin.append_ #[22, 22] 22 #[v, u]).run Go.Proofs.Tryz.prog W = .ok v' W' ∧ Ext w8 W' ∧ W'.ownsRow w8.heap.size 3 1 v' (n + ys.length) (ints (xs ++ ys)) ∧
      ∀ u' ys', SlI W u' ys' → (ys' ≠ [] → ∀ q, u'.ownBlock = some q → q < w8.heap.size) → SlI W' u' ys' := by
  obtain ⟨v', W', h1, h2, h3, _, _, h6⟩ := app_ints (z := .slice none 0 0) (m := 0) (zs := []) he h1 hu (World.ownsRow_nil _ _ _ _) (fun q _ => by simp [Value.ownBlock]) hn hy
  exact ⟨v', W', h1, h2, h3, h6⟩

/-- append(out, y) onto a slice of the call's own, of elements of one cell: and where the outcome lies. -/
theorem append_cell {w : World} {base : Nat} {t ty e : TypeId} {z v y : Value} {n nb : Nat} {xs : List Value} (he : telem Go.Proofs.Tryz.prog t = some e) (hok : tok Go.Proofs.Tryz.prog e = true) (hz : tzero Go.Proofs.Tryz.prog e = some z) (hzs : z.cells.size = 1) (hsz : tsz Go.Proofs.Tryz.prog e = 1) (hby : tbytes Go.Proofs.Tryz.prog e = nb) (hnb : nb ≤ 64)
    (hown : w.ownsRow base e 1 v n xs) (hy : y.oneCell' = true) (hn : n ≤ 1099511627776) (hb : base ≤ w.heap.size) :
    ∃ g cap w', (Builtin.append_ #[t, t] ty #[v, .slice (some ⟨w.heap.size, 0, none⟩) 1 1]).run Go.Proofs.Tryz.prog (w.alloc (.cells #[y] e)) = .ok (.slice (some ⟨g, 0, none⟩) (n + 1) cap) w' ∧ w'.ownsRow base e 1 (.slice (some ⟨g, 0, none⟩) (n + 1) cap) (n + 1) (xs ++ [y]) ∧
      (w.alloc (.cells #[y] e)).grownBy w' v.ownBlock ∧ (v.ownBlock = some g ∨ g = w.heap.size + 1) ∧ g < w'.heap.size := by
  have hi : ∃ i, (Go.Proofs.Tryz.prog).info? e = some i := by unfold tok at hok; simp only [Bool.and_eq_true] at hok; exact Option.isSome_iff_exists.1 hok.1
  obtain ⟨i, hi⟩ := hi
  have hz' : i.zero = some z := by simpa [tzero, hi] using hz
  exact run_append_lies (P := Go.Proofs.Tryz.prog) (w.alloc (.cells #[y] e)) t ty base e i z 1 nb (telem_some he) hi hz' (by simpa [tsz, hi] using hsz) (by simpa [tbytes, hi] using hby) hzs (by omega) v n xs (Own.ext hown (Ext.alloc _ _)) ⟨w.heap.size, 0, none⟩ 1 1 [y] rfl
    (fun j u hj => by rw [Addr.add_lit, World.cell?_alloc_new]; simpa using hj) (fun u hu => by simp at hu; subst hu; exact hy) (by omega) (by unfold maxLen; omega) (by have : (n + 1) * nb ≤ (n + 1) * 64 := Nat.mul_le_mul_left _ hnb; omega) (by simp; omega) _ (by simp)

theorem Own.same' {w w' : World} {base : Nat} {e : TypeId} {size : Nat} {v : Value} {n : Nat} {cs : List Value} (h : w.ownsRow base e size v n cs) (hs : ∀ k, v.ownBlock = some k → w'.heap[k]? = w.heap[k]?) : w'.ownsRow base e size v n cs := by
  refine ⟨h.1, ?_⟩
  rcases h.2 with h2 | ⟨g, cap, cur, hv, hg, hh, r⟩
  · exact .inl h2
  · exact .inr ⟨g, cap, cur, hv, hg, by rw [hs g (by rw [hv]; rfl)]; exact hh, r⟩

theorem ChP.grown' {G : Nat → Prop} {w0 w w' : World} {row : Option Nat} (h : ChP G w0 w) (hg : w.grownBy w' row) (hr : ∀ k, row = some k → k < w0.heap.size → G k) : ChP G w0 w' :=
  ⟨hg.os.trans h.os, hg.tape.trans h.tape, hg.output.trans h.output, Nat.le_trans h.size hg.size, fun k hk hG => (hg.block k (Nat.lt_of_lt_of_le hk h.size) (fun e => hG (hr k e.symm hk))).trans (h.block k hk hG)⟩
theorem ChP.setCell {G : Nat → Prop} {w0 w : World} (h : ChP G w0 w) {b o : Nat} (hb : b < w0.heap.size → G b) (v : Value) : ChP G w0 (w.setCell ⟨b, o, none⟩ v) :=
  ⟨h.os, h.tape, h.output, by rw [show (w.setCell ⟨b, o, none⟩ v).heap.size = w.heap.size by simp [World.setCell]]; exact h.size, fun k hk hG => (Below.heap_setCell _ _ _ _ (fun e => hG (by subst e; exact hb hk))).trans (h.block k hk hG)⟩

end Go.Proofs.YtefcfnmmpnjjjaaGreatDoor
