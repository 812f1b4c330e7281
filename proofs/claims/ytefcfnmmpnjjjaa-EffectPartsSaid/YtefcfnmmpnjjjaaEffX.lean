/- Appends of slices of ints; hosts side by side. -/
import Derived.Test.YtefcfnmmpnjjjaaEffV
namespace Go.Proofs.Ytefcfnmmpnjjjaa
open Go.RowKit
set_option linter.unusedSimpArgs false

theorem app_nil {w : World} {b : Option Addr} {n c : Nat} (hle : n ≤ c) : (Builtin.append_ #[22, 22] 22 #[.slice b n c, .slice none 0 0]).run Go.Proofs.Try.prog w = .ok (.slice b n c) w := by
  have hi : ∃ i, (Go.Proofs.Try.prog).info? 3 = some i := by
    have := tok_3
    unfold tok at this; simp only [Bool.and_eq_true] at this; exact Option.isSome_iff_exists.1 this.1
  obtain ⟨i, hi⟩ := hi
  have ht := telem_some telem_22
  cases b <;> simp [Builtin.append_, Builtin.lenOf, Builtin.firstCells, run_underlying ht, sizeOf, typeInfo, hi, storeCells, hle]

theorem planB_alt {P : Program} {S : World → Prop} {e : Env} {ds : List Deferred} {w : World} {K : Env → List Deferred → World → Prop} {X : List PanicEntry → List Deferred → World → Prop} {d : Option Tmp} {op : Op} {ty : TypeId} {r m : MP} {t}
    (h : opB P ⟨d, op, ty, none⟩ e ds w (fun v ds w => S w ∧ planB P S r (updO e d v) ds w K X ⟨⟩) X ⟨⟩) (h' : planB P S m e ds w K X ⟨⟩) : planB P S (.alt ⟨d, op, ty, none⟩ r m) e ds w K X t := by
  unfold planB opB at *
  simp only [planW, wantedW, if_true]
  exact ⟨h, h'⟩
theorem planB_no {P : Program} {S : World → Prop} {e : Env} {ds : List Deferred} {w : World} {K : Env → List Deferred → World → Prop} {X : List PanicEntry → List Deferred → World → Prop} {t} : planB P S .none e ds w K X t := by rw [planB_nil]; trivial

/-- append(v, u...) onto a row of the call's own; another row stays. -/
theorem app_ints {w8 W : World} {v u z : Value} {n m : Nat} {xs ys zs : List Int} (he : Ext w8 W) (h1 : W.ownsRow w8.heap.size 3 1 v n (ints xs)) (hu : SlI W u ys) (h2 : W.ownsRow w8.heap.size 3 1 z m (ints zs))
    (hd : ∀ q, v.ownBlock = some q → z.ownBlock ≠ some q) (hn : n ≤ 100000) (hy : ys.length ≤ 100000) :
    ∃ v' W', (Builtin.append_ #[22, 22] 22 #[v, u]).run Go.Proofs.Try.prog W = .ok v' W' ∧ Ext w8 W' ∧ W'.ownsRow w8.heap.size 3 1 v' (n + ys.length) (ints (xs ++ ys)) ∧ W'.ownsRow w8.heap.size 3 1 z m (ints zs) ∧
      (∀ q, v'.ownBlock = some q → z.ownBlock ≠ some q) ∧ ∀ u' ys', SlI W u' ys' → (ys' ≠ [] → ∀ q, u'.ownBlock = some q → q < w8.heap.size) → SlI W' u' ys' := by
  rcases hu with ⟨rfl, hy0⟩ | ⟨b, o, cap, rfl, hc1, hc2, hr⟩
  · have : ys = [] := by simpa [ints] using hy0
    subst this
    obtain ⟨p, cv, rfl, hcv, _⟩ := (ow_sl h1).shape
    exact ⟨_, W, app_nil hcv, he, by simpa using h1, h2, hd, fun u' ys' h _ => h⟩
  · have hi : ∃ i, (Go.Proofs.Try.prog).info? 3 = some i := by
      have := tok_3
      unfold tok at this; simp only [Bool.and_eq_true] at this; exact Option.isSome_iff_exists.1 this.1
    obtain ⟨i, hi⟩ := hi
    have hz' : i.zero = some (.int .i64 0) := by have := tzero_3; simpa [tzero, hi] using this
    obtain ⟨v', W', ha, hown, hg, _, hlies⟩ := run_append_own_at (P := Go.Proofs.Try.prog) (w := W) w8.heap.size 22 22 3 i (.int .i64 0) 1 8 (telem_some telem_22) hi hz' (by have := tsz_3; simpa [tsz, hi] using this) (by have := tby_3; simpa [tbytes, hi] using this) rfl (by omega)
      v n (ints xs) h1 ⟨b, o, none⟩ ys.length cap (ints ys) (by simp [ints_length]) (fun j u hj => by rw [Addr.add_lit]; exact hr j u hj) (fun u hu => by
        simp only [ints, List.mem_map] at hu
        obtain ⟨x, _, rfl⟩ := hu
        rfl) (by unfold maxLen; omega) (by omega) he.le
    have hge := Own.ge h1
    have hl2 := World.ownsRow.lt h2
    refine ⟨v', W', by rw [ints_length]; exact ha, he.grown hg hge, by simpa [ints] using hown, ?_, ?_, ?_⟩
    · refine ⟨h2.1, ?_⟩
      rcases h2.2 with h | ⟨g, cap, cur, hv, hg', hh, r⟩
      · exact .inl h
      · refine .inr ⟨g, cap, cur, hv, hg', ?_, r⟩
        rw [hg.block g (Array.getElem?_eq_some_iff.1 hh).1 (fun e => hd g e.symm (by rw [hv]; rfl))]
        exact hh
    · intro q hq hzq
      rcases hlies with h | h
      · exact hd q (h ▸ hq) hzq
      · rw [h] at hq
        simp only [Option.some.injEq] at hq
        have := (hl2 q hzq).2
        omega
    · intro u' ys' hu' hlt
      have hs : Same (fun q => q < w8.heap.size) W W' := fun q hq => hg.block q (Nat.lt_of_lt_of_le hq he.le) (fun e => by have := hge q e.symm; omega)
      exact Sl.same (cs := ints ys') hu' hs fun hne => hlt (by simpa [ints] using hne)

theorem Own.same' {w w' : World} {base : Nat} {e : TypeId} {size : Nat} {v : Value} {n : Nat} {cs : List Value} (h : w.ownsRow base e size v n cs) (hs : ∀ k, v.ownBlock = some k → w'.heap[k]? = w.heap[k]?) : w'.ownsRow base e size v n cs := by
  refine ⟨h.1, ?_⟩
  rcases h.2 with h2 | ⟨g, cap, cur, hv, hg, hh, r⟩
  · exact .inl h2
  · exact .inr ⟨g, cap, cur, hv, hg, by rw [hs g (by rw [hv]; rfl)]; exact hh, r⟩

/-- A host depends on its own blocks alone. -/
theorem HostIn.local_ (eq : Bool) : Local (fun w v G s => HostIn w v G s eq) := by
  intro w w' v G ls h hs
  obtain ⟨b, lp, vs, Gf, rfl, hb, hlp, ho, d1, d2, gb, gG⟩ := h
  refine ⟨b, lp, vs, Gf, rfl, hb.same hs gb, hlp.same hs fun hne q hq => (d2 hne q hq).2.1, ho.same LaneIn.local_ fun i hi q hq => hs q (gG i hi q hq), d1, d2, gb, gG⟩

theorem Sl.chp {G : Nat → Prop} {w w' : World} {v : Value} {cs : List Value} (h : Sl w v cs) (hc : ChP G w w') (hp : cs ≠ [] → ∀ p, v.ownBlock = some p → ¬ G p) : Sl w' v cs := by
  rcases h with h | ⟨b, o, cap, rfl, h2, h3, h4⟩
  · exact .inl h
  · refine .inr ⟨b, o, cap, rfl, h2, h3, fun k u hk => hc.cell (a := ⟨b, o + k, none⟩) (hp (by rintro rfl; simp at hk) b rfl) (h4 k u hk)⟩

theorem eqL_ok {xs : List EX} (m : Int) (h : ∀ x ∈ xs, exValid x = true) : (eqL m (newL xs)).ok ∧ ∀ u ∈ (eqL m (newL xs)).us, u.valid := by
  have hn := newL_ok h
  refine ⟨⟨fun x hx => ?_, hn.1.2⟩, hn.2⟩
  have : x ∈ laterL [] (m - latL (newL xs).us).toNat := hx
  unfold laterL at this
  split at this
  · simp at this
  · simp [fillL] at this
    rw [this.2]; unfold Smp; omega
end Go.Proofs.Ytefcfnmmpnjjjaa
