/- Lanes made later; hosts made. -/
import Derived.Test.YtefcfnmmpnjjjaaEffP
namespace Go.Proofs.Ytefcfnmmpnjjjaa
open Go.RowKit
set_option linter.unusedSimpArgs false

/-- A lane's history when it is to be n frames later. -/
def laterL (h : List Int) (n : Nat) : List Int := if n = h.length then h else fillL n h

theorem later_c {w : World} {v : Value} {G : Nat → Prop} {x : LX} {n : Int} (h : LaneIn w v G x) (hG : ∀ q, G q → q < w.heap.size) (h0 : 0 ≤ n) (h1 : n ≤ 1048576) :
    Rets Go.Proofs.Try.prog 65 #[v, .int .i64 n] w fun _ w' => ∃ G', LaneIn w' v G' ⟨laterL x.h n.toNat, x.us⟩ ∧ ChP G w w' ∧ (∀ q, G' q → (G q ∨ w.heap.size ≤ q) ∧ q < w'.heap.size) ∧ ∀ q, G q → G' q := by
  have hlane := h
  obtain ⟨b, r, cs, up, vs, Gf, rfl, hh, hu, hup, ho, d1, d2, gb, gr, gG⟩ := h
  obtain ⟨p, hs⟩ := hh.slice
  have hb := hh.bk
  have c0 := hb.get hs
  obtain ⟨m, rfl⟩ : ∃ m : Nat, n = m := ⟨n.toNat, by omega⟩
  rw [Int.toNat_natCast]
  refine en65 ?_
  simp -dsimp -implicitDefEqProofs only [c0, m65, sF65, Nat.reduceEqDiff, ↓reduceIte, Nat.reduceAdd, Nat.reduceMul, Value.cells, Value.oneCell', eq_self, ne_eq, Int.reduceToNat, Int.reduceEq, Int.reduceLT, Int.reduceLE, Int.reduceNeg, if_true, if_false, reduceCtorEq, Nat.reduceSub, storeV_ptr, slcV_slice, ↓mwD, mwU]
  refine iteW_dec (fun heq => ?_) (fun hne => ?_)
  · simp -dsimp -implicitDefEqProofs only [m65, sF65, Nat.reduceEqDiff, ↓reduceIte, Nat.reduceAdd, Nat.reduceMul, Value.cells, Value.oneCell', eq_self, ne_eq, Int.reduceToNat, Int.reduceEq, Int.reduceLT, Int.reduceLE, Int.reduceNeg, if_true, if_false, reduceCtorEq, Nat.reduceSub, storeV_ptr, slcV_slice, ↓mwD, mwU]
    have : laterL x.h m = x.h := by rw [laterL, if_pos (by omega)]
    rw [this]
    exact ⟨G, hlane, ChP.refl _ _, fun q hq => ⟨.inl hq, hG q hq⟩, fun q hq => hq⟩
  · simp -dsimp -implicitDefEqProofs only [m65, sF65, Nat.reduceEqDiff, ↓reduceIte, Nat.reduceAdd, Nat.reduceMul, Value.cells, Value.oneCell', eq_self, ne_eq, Int.reduceToNat, Int.reduceEq, Int.reduceLT, Int.reduceLE, Int.reduceNeg, if_true, if_false, reduceCtorEq, Nat.reduceSub, storeV_ptr, slcV_slice, ↓mwD, mwU]
    refine (all_c b 0 r x.h cs _ w hh).use ?_
    rintro v1 w1 ⟨hown, he1⟩
    obtain ⟨p1, q1, rfl, _, _⟩ := (ow_sl hown).shape
    simp -dsimp -implicitDefEqProofs only [m65, sF65, Nat.reduceEqDiff, ↓reduceIte, Nat.reduceAdd, Nat.reduceMul, Value.cells, Value.oneCell', eq_self, ne_eq, Int.reduceToNat, Int.reduceEq, Int.reduceLT, Int.reduceLE, Int.reduceNeg, if_true, if_false, reduceCtorEq, Nat.reduceSub, storeV_ptr, slcV_slice, ↓mwD, mwU]
    refine (past_c m h0 h1 w1).use ?_
    rintro v2 w2 ⟨r', rfl, hr', hbr, he2⟩
    rw [Int.toNat_natCast] at *
    have he := he1.trans he2
    have hc3 : 2 < cs.length := (List.getElem?_eq_some_iff.1 hu).1
    obtain ⟨w3, hst, hb3, hf3⟩ := storeV_bk (P := Go.Proofs.Try.prog) (t := 76) (v := .agg #[.slice (some ⟨r', 0, none⟩) m m, .int .i64 0]) 0 (hb.ext he) tok_76 (by rw [tsz_76]; rfl) (by simp [Value.cells, Value.oneCell']) (by simp [Value.cells]; omega)
    simp -dsimp -implicitDefEqProofs only [hst, m65, sF65, Nat.reduceEqDiff, ↓reduceIte, Nat.reduceAdd, Nat.reduceMul, Value.cells, Value.oneCell', eq_self, ne_eq, Int.reduceToNat, Int.reduceEq, Int.reduceLT, Int.reduceLE, Int.reduceNeg, if_true, if_false, reduceCtorEq, Nat.reduceSub, slcV_slice, ↓mwD, mwU]
    have hb3' : Bk w3 b (.slice (some ⟨r', 0, none⟩) m m :: .int .i64 0 :: cs.drop 2) 79 := by simpa [Value.cells] using hb3
    have hbl := hb.lt
    have hw1 := he1.le
    have hbr' : b ≠ r' := by omega
    have hr3 : Bk w3 r' (ints (List.replicate m 0)) 3 := hf3.bk (by simp [Ne.symm hbr']) hbr
    have hh3 : Hist w3 b 0 r' (List.replicate m 0) (.slice (some ⟨r', 0, none⟩) m m :: .int .i64 0 :: cs.drop 2) 79 :=
      ⟨0, List.replicate m 0, hb3', rfl, by rw [List.length_replicate]; omega, .inr ⟨hbr', by rw [List.length_replicate]; rfl, hr3, ring_zero m⟩⟩
    have hl1 := World.ownsRow.lt hown
    have hsl3 : SlI w3 (.slice p1 x.h.length q1) x.h := Sl.fr (Sl.ext (ow_sl hown) he2) hf3 (fun q hq => by
      have := (hl1 q hq).1
      simp only [List.mem_cons, List.not_mem_nil, or_false]
      omega)
    refine (fill_c b 0 r' _ _ _ _ x.h w3 hh3 hsl3 (fun hne' q hq => ?_)).use ?_
    · have h3 := (hl1 q hq).1
      have h4 := (hl1 q hq).2
      omega
    rintro u w4 ⟨hf4, hh4⟩
    rw [List.length_replicate] at hh4
    simp -dsimp -implicitDefEqProofs only [m65, sF65, Nat.reduceEqDiff, ↓reduceIte, Nat.reduceAdd, Nat.reduceMul, Value.cells, Value.oneCell', eq_self, ne_eq, Int.reduceToNat, Int.reduceEq, Int.reduceLT, Int.reduceLE, Int.reduceNeg, if_true, if_false, reduceCtorEq, Nat.reduceSub, storeV_ptr, slcV_slice, ↓mwD, mwU]
    have hla : laterL x.h m = fillL m x.h := by rw [laterL, if_neg (by omega)]
    rw [hla]
    have hw2 := he.le
    have hw3 := hf3.size
    have hw4 := hf4.size
    have hr2 := hbr.lt
    have hch : ChP (fun q => q = b) w w4 := ⟨hf4.os.trans (hf3.os.trans he.os), hf4.tape.trans (hf3.tape.trans he.tape), hf4.output.trans (hf3.output.trans he.output), by omega, fun q hq hqb => by
      rw [hf4.block q (by simp only [List.mem_cons, List.not_mem_nil, or_false]; omega), hf3.block q (by simpa using hqb), he.block q hq]⟩
    have hsame : ∀ i, i < vs.length → Same (Gf i) w w4 := fun i hi q hq => hch.block q (hG q (gG i hi q hq)) (fun e => (d1 i hi).1 (e ▸ hq))
    refine ⟨fun q => G q ∨ q = r', ⟨b, r', _, up, vs, Gf, rfl, hh4, ?_, ?_, ho.same UnitIn.local_ hsame, fun i hi => ⟨(d1 i hi).1, fun hq => ?_⟩, fun hne' q hq => ?_, .inl gb, .inr rfl, fun i hi q hq => .inl (gG i hi q hq)⟩, hch.mono (fun q hq => by rw [hq]; exact gb), fun q hq => ?_, fun q hq => .inl hq⟩
    · have : (cs.drop 2)[0]? = some up := by rw [List.getElem?_drop]; exact hu
      simpa using this
    · exact Sl.same hup (G := fun q => q ≠ b ∧ q < w.heap.size) (fun q hq => hch.block q hq.2 hq.1) (fun hne' q hq => ⟨(d2 hne' q hq).1, hG q (d2 hne' q hq).2.2.1⟩)
    · have := hG _ (gG i hi _ hq); omega
    · have := d2 hne' q hq
      have h5 := hG q this.2.2.1
      exact ⟨this.1, by omega, .inl this.2.2.1, this.2.2.2⟩
    · rcases hq with hq | rfl
      · exact ⟨.inl hq, by have := hG q hq; omega⟩
      · exact ⟨.inr (by omega), by omega⟩

theorem Objs.replace {α : Type} {R : World → Value → (Nat → Prop) → α → Prop} {w w' : World} {vs : List Value} {Gf : Nat → Nat → Prop} {ss : List α} (hR : Local R) (h : Objs R w vs Gf ss) {i : Nat} {v : Value} {s' : α} {G' : Nat → Prop} (hv : vs[i]? = some v) (hn : R w' v G' s')
    (hs : ∀ j, j < vs.length → j ≠ i → Same (Gf j) w w') (hd : ∀ j b, j < vs.length → j ≠ i → Gf j b → ¬ G' b) : Objs R w' vs (fun j => if j = i then G' else Gf j) (ss.set i s') := by
  refine ⟨by simp [h.1], fun j u s hu hss => ?_, fun j k b hj hk hjk hb => ?_⟩
  · have hj := (List.getElem?_eq_some_iff.1 hu).1
    by_cases hij : i = j
    · subst hij
      rw [List.getElem?_set] at hss
      simp only [if_true] at hss ⊢
      split at hss
      · cases hss
        rw [hv] at hu; cases hu
        exact hn
      · cases hss
    · rw [List.getElem?_set_ne hij] at hss
      simp only [show ¬ j = i from fun e => hij e.symm, if_false]
      exact hR _ _ _ _ _ (h.2.1 j u s hu hss) (hs j hj (fun e => hij e.symm))
  · by_cases h1 : j = i
    · have h2 : k ≠ i := by omega
      simp only [h1, if_true, h2, if_false] at hb ⊢
      exact fun hg => hd k b hk h2 hg hb
    · by_cases h2 : k = i
      · simp only [h1, if_false, h2, if_true] at hb ⊢
        exact hd j b hj h1 hb
      · simp only [h1, h2, if_false] at hb ⊢
        exact h.2.2 j k b hj hk hjk hb

def eqL (m : Int) (x : LX) : LX := ⟨laterL x.h (m - latL x.us).toNat, x.us⟩
theorem latF_eq (m0 m : Int) : ∀ (A B : List LX), latF m0 (A.map (eqL m) ++ B) = latF m0 (A ++ B) := by
  intro A B
  induction A generalizing m0 with
  | nil => rfl
  | cons x A ih => exact ih (maxI m0 (latL x.us))
theorem latF_ge : ∀ (ls : List LX) (m : Int), m ≤ latF m ls ∧ ∀ x ∈ ls, latL x.us ≤ latF m ls
  | [], m => ⟨Int.le_refl _, fun x hx => by cases hx⟩
  | y :: ls, m => by
    have h := latF_ge ls (maxI m (latL y.us))
    have hm : m ≤ maxI m (latL y.us) ∧ latL y.us ≤ maxI m (latL y.us) := by unfold maxI; split <;> omega
    have e : latF m (y :: ls) = latF (maxI m (latL y.us)) ls := rfl
    rw [e]
    refine ⟨by omega, fun x hx => ?_⟩
    rcases List.mem_cons.1 hx with rfl | hx
    · omega
    · exact h.2 x hx
theorem latF_le : ∀ (ls : List LX) (m B : Int), m ≤ B → (∀ x ∈ ls, latL x.us ≤ B) → latF m ls ≤ B
  | [], m, B, h, _ => h
  | y :: ls, m, B, h, h2 => by
    have := h2 y (by simp)
    exact latF_le ls (maxI m (latL y.us)) B (by unfold maxI; split <;> omega) (fun x hx => h2 x (by simp [hx]))

theorem equalize_c {w : World} {v : Value} {G : Nat → Prop} {ls : List LX} {eq : Bool} (h : HostIn w v G ls eq) (hG : ∀ q, G q → q < w.heap.size) (hv : ∀ x ∈ ls, ∀ u ∈ x.us, u.valid) (h8 : ∀ x ∈ ls, x.us.length ≤ 8) (hl8 : ls.length ≤ 8) :
    Rets Go.Proofs.Try.prog 53 #[v] w fun _ w' => ∃ G', HostIn w' v G' (if eq = true then ls.map (eqL (latF 0 ls)) else ls) eq ∧ ChP G w w' ∧ ∀ q, G' q → (G q ∨ w.heap.size ≤ q) ∧ q < w'.heap.size := by
  obtain ⟨b, lp, vs, Gf, rfl, hb, hlp, ho, d1, d2, gb, gG⟩ := h
  have c0 := hb.get (o := 0) rfl
  obtain ⟨p, cp, rfl, hp1, hp2⟩ := hlp.shape
  have hl := ho.1
  have hM0 := (latF_ge ls 0).1
  have hM1 : latF 0 ls ≤ 32768 := latF_le ls 0 32768 (by omega) fun x hx => by
    have := latL_bd x.us (hv x hx)
    have := h8 x hx
    omega
  refine en53 ?_
  simp -dsimp -implicitDefEqProofs only [c0, m53, sF53, Nat.reduceEqDiff, ↓reduceIte, Nat.reduceAdd, Nat.reduceMul, Value.cells, Value.oneCell', eq_self, ne_eq, Int.reduceToNat, Int.reduceEq, Int.reduceLT, Int.reduceLE, Int.reduceNeg, if_true, if_false, reduceCtorEq, Nat.reduceSub, storeV_ptr, slcV_slice, ↓mwD, mwU]
  refine mwpB_loop (fun e ds wl => ∃ n : Nat, n ≤ vs.length ∧ e 9 = .int .i64 n ∧ e 8 = .int .i64 vs.length ∧ e 7 = .slice p vs.length cp ∧ e 0 = .pointer (some ⟨b, 0, none⟩) ∧ ds = [] ∧ ∃ Gn : Nat → Nat → Prop, Objs LaneIn wl vs Gn (if eq = true then (ls.take n).map (eqL (latF 0 ls)) ++ ls.drop n else ls) ∧
    Bk wl b [.slice p vs.length cp, .bool eq] 73 ∧ Sl wl (.slice p vs.length cp) vs ∧ ChP G w wl ∧ (∀ i, i < vs.length → ∀ q, Gn i q → (G q ∨ w.heap.size ≤ q) ∧ q < wl.heap.size) ∧ (∀ i, i < vs.length → ¬ Gn i b) ∧ (vs ≠ [] → ∀ q, (Value.slice p vs.length cp).ownBlock = some q → ∀ i, i < vs.length → ¬ Gn i q))
    (fun e _ => vs.length - (intOf (e 9)).toNat) ?_ ?_
  · simp -dsimp -implicitDefEqProofs only [m53, sF53, Nat.reduceEqDiff, ↓reduceIte, Nat.reduceAdd, Nat.reduceMul, Value.cells, Value.oneCell', eq_self, ne_eq, Int.reduceToNat, Int.reduceEq, Int.reduceLT, Int.reduceLE, Int.reduceNeg, if_true, if_false, reduceCtorEq, Nat.reduceSub, storeV_ptr, slcV_slice, ↓mwD, mwU]
    refine ⟨0, by omega, rfl, Gf, by cases eq <;> simpa using ho, hb, hlp, ChP.refl _ _, fun i hi q hq => ⟨.inl (gG i hi q hq), hG q (gG i hi q hq)⟩, d1, fun hne q hq => (d2 hne q hq).2.2⟩
  · rintro e ds wl ⟨n, hn, h9, h8', h7, h0, rfl, Gn, hob, hbl, hlpl, hch, hGn, e1, e2⟩
    simp -dsimp -implicitDefEqProofs only [h9, h8', h7, h0, m53, sF53, Nat.reduceEqDiff, ↓reduceIte, Nat.reduceAdd, Nat.reduceMul, Value.cells, Value.oneCell', eq_self, ne_eq, Int.reduceToNat, Int.reduceEq, Int.reduceLT, Int.reduceLE, Int.reduceNeg, if_true, if_false, reduceCtorEq, Nat.reduceSub, storeV_ptr, slcV_slice, ↓mwD, mwU]
    refine iteW_dec (fun hlt => ?_) (fun hge => ?_)
    · have hnl : n < vs.length := by omega
      have hnl' : n < ls.length := by omega
      obtain ⟨bv, ov, cv, hpe, hcv⟩ := Sl.get hlpl (i := n) (u := vs[n]) (by simp [hnl])
      simp only [Value.slice.injEq, true_and] at hpe
      obtain ⟨rfl, rfl⟩ := hpe
      have q1 := hbl.get (o := 1) rfl
      have hb1 : (0 : Int) ≤ n ∧ (n : Int) < vs.length := by omega
      have hw1 : IntKind.i64.wrap ((n : Int) + 1) = ((n + 1 : Nat) : Int) := by rw [w64 (by omega) (by omega)]; omega
      cases eq
      · simp -dsimp -implicitDefEqProofs only [h9, h8', h7, h0, hb1, and_self, hcv, q1, hw1, m53, sF53, Nat.reduceEqDiff, ↓reduceIte, Nat.reduceAdd, Nat.reduceMul, Value.cells, Value.oneCell', eq_self, ne_eq, Int.reduceToNat, Int.reduceEq, Int.reduceLT, Int.reduceLE, Int.reduceNeg, if_true, if_false, reduceCtorEq, Nat.reduceSub, storeV_ptr, slcV_slice, ↓mwD, mwU]
        exact ⟨⟨n + 1, by omega, rfl, Gn, by simpa using hob, hbl, hlpl, hch, hGn, e1, e2⟩, by simp only [intOf]; omega⟩
      · simp only [if_true] at hob
        have hus : ∀ x ∈ (ls.take n).map (eqL (latF 0 ls)) ++ ls.drop n, (∀ u ∈ x.us, u.valid) ∧ x.us.length ≤ 8 := by
          intro x hx
          rcases List.mem_append.1 hx with hx | hx
          · obtain ⟨y, hy, rfl⟩ := List.mem_map.1 hx
            have hy' := List.mem_of_mem_take hy
            exact ⟨hv y hy', h8 y hy'⟩
          · have hy' := List.mem_of_mem_drop hx
            exact ⟨hv x hy', h8 x hy'⟩
        have hhost : HostIn wl (.pointer (some ⟨b, 0, none⟩)) (fun _ => True) ((ls.take n).map (eqL (latF 0 ls)) ++ ls.drop n) true :=
          ⟨b, _, vs, Gn, rfl, hbl, hlpl, hob, e1, fun hne q hq => ⟨(d2 hne q hq).1, trivial, e2 hne q hq⟩, trivial, fun _ _ _ _ => trivial⟩
        have hsl : ((ls.take n).map (eqL (latF 0 ls))).length = n := by simp; omega
        have hdrop : ls.drop n = ls[n] :: ls.drop (n + 1) := List.drop_eq_getElem_cons hnl'
        have hxn : (∀ u ∈ ls[n].us, u.valid) ∧ ls[n].us.length ≤ 8 := ⟨hv _ (by simp), h8 _ (by simp)⟩
        have hlF : latF 0 ((ls.take n).map (eqL (latF 0 ls)) ++ ls.drop n) = latF 0 ls := by rw [latF_eq, List.take_append_drop]
        simp -dsimp -implicitDefEqProofs only [h9, h8', h7, h0, hb1, and_self, hcv, q1, m53, sF53, Nat.reduceEqDiff, ↓reduceIte, Nat.reduceAdd, Nat.reduceMul, Value.cells, Value.oneCell', eq_self, ne_eq, Int.reduceToNat, Int.reduceEq, Int.reduceLT, Int.reduceLE, Int.reduceNeg, if_true, if_false, reduceCtorEq, Nat.reduceSub, storeV_ptr, slcV_slice, ↓mwD, mwU]
        refine (HLatency_c hhost (fun x hx => (hus x hx).1) (fun x hx => (hus x hx).2) (by simp; omega)).use ?_
        rintro r1 w1 ⟨rfl, he1⟩
        rw [hlF]
        rw [hdrop] at hob
        have hlane : LaneIn wl vs[n] (Gn n) ls[n] := hob.2.1 n vs[n] ls[n] (by simp [hnl]) (midset _ _ ls[n] ls[n] n hsl).1
        simp -dsimp -implicitDefEqProofs only [m53, sF53, Nat.reduceEqDiff, ↓reduceIte, Nat.reduceAdd, Nat.reduceMul, Value.cells, Value.oneCell', eq_self, ne_eq, Int.reduceToNat, Int.reduceEq, Int.reduceLT, Int.reduceLE, Int.reduceNeg, if_true, if_false, reduceCtorEq, Nat.reduceSub, storeV_ptr, slcV_slice, ↓mwD, mwU]
        refine (laneLatency_c (hlane.ext he1) hxn.1 hxn.2).use ?_
        rintro r2 w2 ⟨rfl, he2⟩
        have hle := (latF_ge ls 0).2 ls[n] (by simp)
        have hlb := latL_bd ls[n].us hxn.1
        have hws : IntKind.i64.wrap (latF 0 ls - latL ls[n].us) = latF 0 ls - latL ls[n].us := w64 (by omega) (by omega)
        have he := he1.trans he2
        have hz := he.le
        simp -dsimp -implicitDefEqProofs only [hws, m53, sF53, Nat.reduceEqDiff, ↓reduceIte, Nat.reduceAdd, Nat.reduceMul, Value.cells, Value.oneCell', eq_self, ne_eq, Int.reduceToNat, Int.reduceEq, Int.reduceLT, Int.reduceLE, Int.reduceNeg, if_true, if_false, reduceCtorEq, Nat.reduceSub, storeV_ptr, slcV_slice, ↓mwD, mwU]
        refine (later_c (hlane.ext he) (fun q hq => by have := (hGn n hnl q hq).2; omega) (by omega) (by omega)).use ?_
        rintro r3 w3 ⟨G', hn', hch3, hG', hsub⟩
        simp -dsimp -implicitDefEqProofs only [h9, h8', h7, h0, hw1, m53, sF53, Nat.reduceEqDiff, ↓reduceIte, Nat.reduceAdd, Nat.reduceMul, Value.cells, Value.oneCell', eq_self, ne_eq, Int.reduceToNat, Int.reduceEq, Int.reduceLT, Int.reduceLE, Int.reduceNeg, if_true, if_false, reduceCtorEq, Nat.reduceSub, storeV_ptr, slcV_slice, ↓mwD, mwU]
        have hchT : ChP (Gn n) wl w3 := (Ext.chp he).trans hch3
        have hbl' := hbl.lt
        have hwz := hch.size
        have hw3 := hch3.size
        have hlq : vs ≠ [] → ∀ q, (Value.slice (some ⟨bv, ov, none⟩) vs.length cp).ownBlock = some q → q < wl.heap.size := fun hne q hq => by
          have := hG q (d2 hne q hq).2.1
          omega
        have hobj := Objs.replace (w' := w3) LaneIn.local_ hob (i := n) (v := vs[n]) (s' := eqL (latF 0 ls) ls[n]) (G' := G') (by simp [hnl]) hn'
          (fun j hj hjn q hq => hchT.block q (hGn j hj q hq).2 (fun hqn => hob.2.2 j n q hj hnl hjn hq hqn))
          (fun j q hj hjn hq hq' => by
            rcases (hG' q hq').1 with h | h
            · exact hob.2.2 j n q hj hnl hjn hq h
            · have := (hGn j hj q hq).2; omega)
        rw [(midset _ _ ls[n] _ n hsl).2] at hobj
        have htk : (ls.take (n + 1)).map (eqL (latF 0 ls)) = (ls.take n).map (eqL (latF 0 ls)) ++ [eqL (latF 0 ls) ls[n]] := by
          rw [List.take_add_one, List.getElem?_eq_getElem hnl', List.map_append]; rfl
        refine ⟨⟨n + 1, by omega, rfl, fun j => if j = n then G' else Gn j, by rw [htk]; exact hobj, hchT.bk (e1 n hnl) hbl, ?_, ?_, ?_, ?_, ?_⟩, by simp only [intOf]; omega⟩
        · exact Sl.same hlpl (G := fun q => ¬ Gn n q ∧ q < wl.heap.size) (fun q hq => hchT.block q hq.2 hq.1) (fun hne q hq => ⟨e2 hne q hq n hnl, hlq hne q hq⟩)
        · exact ⟨hchT.os.trans hch.os, hchT.tape.trans hch.tape, hchT.output.trans hch.output, by omega, fun k hk hgk => by
            rw [hchT.block k (by omega) (fun hq => by
              rcases (hGn n hnl k hq).1 with h | h
              · exact hgk h
              · omega), hch.block k hk hgk]⟩
        · intro i hi q hq
          by_cases hin : i = n
          · simp only [hin, if_true] at hq
            refine ⟨?_, (hG' q hq).2⟩
            rcases (hG' q hq).1 with h | h
            · exact (hGn n hnl q h).1
            · exact .inr (by omega)
          · simp only [hin, if_false] at hq
            exact ⟨(hGn i hi q hq).1, by have := (hGn i hi q hq).2; omega⟩
        · intro i hi hq
          by_cases hin : i = n
          · simp only [hin, if_true] at hq
            rcases (hG' b hq).1 with h | h
            · exact e1 n hnl h
            · omega
          · simp only [hin, if_false] at hq
            exact e1 i hi hq
        · intro hne q hq i hi hqi
          by_cases hin : i = n
          · simp only [hin, if_true] at hqi
            rcases (hG' q hqi).1 with h | h
            · exact e2 hne q hq n hnl h
            · have := hlq hne q hq; omega
          · simp only [hin, if_false] at hqi
            exact e2 hne q hq i hi hqi
    · have hnl : n = vs.length := by omega
      subst hnl
      simp -dsimp -implicitDefEqProofs only [h9, h8', h7, h0, m53, sF53, Nat.reduceEqDiff, ↓reduceIte, Nat.reduceAdd, Nat.reduceMul, Value.cells, Value.oneCell', eq_self, ne_eq, Int.reduceToNat, Int.reduceEq, Int.reduceLT, Int.reduceLE, Int.reduceNeg, if_true, if_false, reduceCtorEq, Nat.reduceSub, storeV_ptr, slcV_slice, ↓mwD, mwU]
      refine ⟨fun q => (G q ∨ w.heap.size ≤ q) ∧ q < wl.heap.size, ⟨b, _, vs, Gn, rfl, hbl, hlpl, ?_, e1, fun hne q hq => ⟨(d2 hne q hq).1, ⟨.inl (d2 hne q hq).2.1, ?_⟩, e2 hne q hq⟩, ⟨.inl gb, hbl.lt⟩, hGn⟩, hch, fun q hq => hq⟩
      · rw [hl] at hob
        cases eq
        · simpa using hob
        · simpa using hob
      · have := hG q (d2 hne q hq).2.1
        have := hch.size
        omega

end Go.Proofs.Ytefcfnmmpnjjjaa
