/- Closed runs, fourth part: memory that is made, append, copy. -/
import Derived.Test.YthcdnjbhhaonhaaGreatDoorQvMwRunAToMwRunC
import Derived.Maps.AppendAt
import Derived.Deep.Upon
import Derived.Laws.IdiomStrings
import Derived.MapKept

namespace Go.Proofs.YthcdnjbhhaonhaaGreatDoor
open Go.RowKit
open Go.Value renaming oneCell' → ZK
noncomputable section
set_option linter.unusedVariables false
set_option linter.unusedSimpArgs false
section
variable {P : Program} {w0 : World} {σ : Nat → Option Ent} {η : Nat → Value} {A : AW} {w : World}
theorem rep_get (z : List Value) (hz : 0 < z.length) : ∀ (n i : Nat), i < n * z.length → (List.replicate n z).flatten[i]? = z[i % z.length]?
  | 0, i, h => by simp at h
  | n + 1, i, h => by
    rw [List.replicate_succ, List.flatten_cons]
    by_cases hi : i < z.length
    · rw [List.getElem?_append_left hi, Nat.mod_eq_of_lt hi]
    · rw [List.getElem?_append_right (by omega), rep_get z hz n (i - z.length) (by rw [Nat.add_mul] at h; omega)]
      congr 1
      exact (Nat.mod_eq_sub_mod (by omega)).symm
theorem rep_cells (z : Array Value) (n s : Nat) (hs : z.toList.length = s) : (repCells z (n * s)).toList = (List.replicate n z.toList).flatten := by
  have hsz : z.size = s := by rw [← hs]; simp
  by_cases h0 : s = 0
  · have : z.toList = [] := List.length_eq_zero_iff.1 (hs.trans h0)
    rw [this, h0]
    simp [repCells]
  · have hlen : (List.replicate n z.toList).flatten.length = n * s := by simp [hsz]
    apply List.ext_getElem?
    intro i
    by_cases hi : i < n * s
    · rw [rep_get z.toList (by omega) n i (by rw [hs]; exact hi), hs]
      unfold repCells
      have hm : i % z.size < z.size := Nat.mod_lt _ (by omega)
      simp only [Array.toList_map,List.getElem?_map,Array.getElem?_toList]
      rw [Array.getElem?_eq_getElem (by simpa using hi)]
      subst hsz
      simp [hm]
    · rw [List.getElem?_eq_none (l := (List.replicate n z.toList).flatten) (by rw [hlen]; omega)]
      exact List.getElem?_eq_none (by simp [repCells]; omega)
def allocA (P : Program) (A : AW) (rid : Option Nat) (t : TypeId) : Option (Value × AW) :=
  match tzero P t with
  | some z => if cv z = true then (newRow A rid z.cells.toList t 0).map fun r => (.pointer (some ⟨r.1, 0, none⟩), r.2) else none
  | none => none
theorem allocA_sound {rid : Option Nat} {t : TypeId} {v : Value} {A' : AW} (h : Inv w0 σ η A w) (ha : allocA P A rid t = some (v, A')) :
    ∃ z, tzero P t = some z ∧ ∃ σ', VR σ' η v (.pointer (some ⟨w.heap.size, 0, none⟩)) ∧ Inv w0 σ' η A' (w.alloc (.cells z.cells t)) ∧ Step σ σ' A A' w (w.alloc (.cells z.cells t)) := by
  unfold allocA at ha
  split at ha
  · rename_i z hz
    split at ha
    · rename_i hc
      obtain ⟨⟨id, A1⟩, hn, he⟩ := Option.map_eq_some_iff.1 ha
      cases he
      obtain ⟨x, h1, h2, h3, h4, h5⟩ := newRow_sound h (VR.cells (VR.cv hc)) hn
      refine ⟨z, hz, _, ?_, by simpa using h4, by simpa using h5⟩
      rw [← h1]
      exact .ptr (upS_self _ _)
    · cases ha
  · cases ha
def boxA (A : AW) (rid : Option Nat) (t : TypeId) (v : Value) : Option (Value × AW) :=
  (newRow A rid v.cells.toList t 0).map fun r => (.pointer (some ⟨r.1, 0, none⟩), r.2)
theorem boxA_sound {rid : Option Nat} {t : TypeId} {u u' v : Value} {A' : AW} (h : Inv w0 σ η A w) (hu : VR σ η u u') (ha : boxA A rid t u = some (v, A')) :
    ∃ σ', VR σ' η v (.pointer (some ⟨w.heap.size, 0, none⟩)) ∧ Inv w0 σ' η A' (w.alloc (.cells u'.cells t)) ∧ Step σ σ' A A' w (w.alloc (.cells u'.cells t)) := by
  obtain ⟨⟨id, A1⟩, hn, he⟩ := Option.map_eq_some_iff.1 ha
  cases he
  obtain ⟨x, h1, h2, h3, h4, h5⟩ := newRow_sound h hu.cells hn
  refine ⟨_, ?_, by simpa using h4, by simpa using h5⟩
  rw [← h1]
  exact .ptr (upS_self _ _)
def buildSA (P : Program) (A : AW) (rid : Option Nat) (t : TypeId) (len : Nat) (parts : List (Nat × Value)) : Option (Value × AW) :=
  match telem P t with
  | some e => if tok P e = true ∧ len * tsz P e ≤ 16777216 ∧ len < capU then
      (match tzero P e with
       | some z => if cv z = true ∧ z.cells.toList.length = tsz P e then
           (fillL (fun i => some (i * tsz P e, tsz P e)) (List.replicate len z.cells.toList).flatten parts).bind fun cs => (newRow A rid cs e (tsz P e)).map fun r => (.slice (some ⟨r.1, 0, none⟩) len len, r.2) else none
       | none => none) else none
  | none => none
theorem vrs_flat {z : List Value} (hz : VRs σ η z z) : ∀ n, VRs σ η (List.replicate n z).flatten (List.replicate n z).flatten
  | 0 => .nil
  | n + 1 => by rw [List.replicate_succ, List.flatten_cons]; exact hz.append (vrs_flat hz n)
theorem buildSA_sound {rid : Option Nat} {t : TypeId} {len : Nat} {ps ps' : List (Nat × Value)} {v : Value} {A' : AW} (h : Inv w0 σ η A w) (hp : PRel σ η ps ps') (ha : buildSA P A rid t len ps = some (v, A')) :
    ∃ e cs, buildS P t len ps' = some (e, cs) ∧ ∃ σ', VR σ' η v (.slice (some ⟨w.heap.size, 0, none⟩) len len) ∧ Inv w0 σ' η A' (w.alloc (.cells cs e)) ∧ Step σ σ' A A' w (w.alloc (.cells cs e)) := by
  unfold buildSA at ha
  split at ha
  · rename_i e he
    split at ha
    · rename_i hc
      split at ha
      · rename_i z hz
        split at ha
        · rename_i hcz
          obtain ⟨cs, hf, ha⟩ := Option.bind_eq_some_iff.1 ha
          obtain ⟨⟨id, A1⟩, hn, he2⟩ := Option.map_eq_some_iff.1 ha
          cases he2
          have hrep := rep_cells z.cells len _ hcz.2
          have hz0 : VRs σ η (List.replicate len z.cells.toList).flatten (repCells z.cells (len * tsz P e)).toList := by rw [hrep]; exact vrs_flat (VR.cells (VR.cv hcz.1)) len
          obtain ⟨r', h1, h2⟩ := fillL_vr hp hz0 hf
          have hb : buildS P t len ps' = some (e, r') := by
            unfold buildS
            rw [he]
            simp only
            rw [if_pos ⟨hc.1, hc.2.1⟩]
            split
            · rename_i h0
              have e1 : repCells z.cells (len * tsz P e) = repCells #[] (len * tsz P e) := by rw [h0]; simp [repCells]
              rw [e1] at h1
              rw [h1]
              rfl
            · rw [hz]
              simp only
              rw [h1]
              rfl
          obtain ⟨x, g1, g2, g3, g4, g5⟩ := newRow_sound h h2 hn
          have hm : len ≤ maxLen := by have := hc.2.2; unfold capU at this; simp only [maxLen]; omega
          refine ⟨e, r', hb, _, ?_, by simpa using g4, by simpa using g5⟩
          rw [← g1]
          exact .slc (upS_self _ _) (.inl rfl) hm (Nat.le_refl _) (fun _ => rfl) (fun hh => absurd hc.2.2 (by omega))
        · cases ha
      · cases ha
    · cases ha
  · cases ha
def makeSA (P : Program) (A : AW) (rid : Option Nat) (t : TypeId) : Value → Value → Option (Value × AW)
  | .int _ l, .int _ c => match telem P t with
    | some e => if tok P e = true ∧ 0 ≤ l ∧ l ≤ c ∧ c * tbytes P e ≤ 281474976710656 ∧ c < capU then
      (match tzero P e with
       | some z => if cv z = true ∧ z.cells.toList.length = tsz P e then
           (newRow A rid (List.replicate c.toNat z.cells.toList).flatten e (tsz P e)).map fun r => (.slice (some ⟨r.1, 0, none⟩) l.toNat c.toNat, r.2) else none
       | none => none) else none
    | none => none
  | _, _ => none
theorem makeSA_sound {rid : Option Nat} {t : TypeId} {a a' b b' v : Value} {A' : AW} (h : Inv w0 σ η A w) (hva : VR σ η a a') (hvb : VR σ η b b') (ha : makeSA P A rid t a b = some (v, A')) :
    ∃ e cs l c, makeS P t a' b' = some (e, cs, l, c) ∧ ∃ σ', VR σ' η v (.slice (some ⟨w.heap.size, 0, none⟩) l c) ∧ Inv w0 σ' η A' (w.alloc (.cells cs e)) ∧ Step σ σ' A A' w (w.alloc (.cells cs e)) := by
  unfold makeSA at ha
  split at ha
  · cases hva
    cases hvb
    rename_i k1 l k2 c
    split at ha
    · rename_i e he
      split at ha
      · rename_i hc
        split at ha
        · rename_i z hz
          split at ha
          · rename_i hcz
            obtain ⟨⟨id, A1⟩, hn, he2⟩ := Option.map_eq_some_iff.1 ha
            cases he2
            obtain ⟨hc1, hc2, hc3, hc4, hc5⟩ := hc
            have hrep := rep_cells z.cells c.toNat _ hcz.2
            have hcell : (if c.toNat * tsz P e = 0 then #[] else repCells z.cells (c.toNat * tsz P e)) = (List.replicate c.toNat z.cells.toList).flatten.toArray := by
              split
              · rename_i h0
                rw [h0] at hrep
                rw [← hrep]
                simp [repCells]
              · rw [← hrep]
            obtain ⟨x, g1, g2, g3, g4, g5⟩ := newRow_sound h (vrs_flat (VR.cells (VR.cv hcz.1)) c.toNat) hn
            have hm : c.toNat ≤ maxLen := by unfold capU at hc5; simp only [maxLen]; omega
            have hcu : c.toNat < capU := by omega
            refine ⟨e, _, l.toNat, c.toNat, ?_, _, ?_, g4, g5⟩
            · simp only [makeS,he]
              rw [if_pos ⟨hc1, hc2, hc3, hc4, by unfold capU at hc5; omega⟩]
              rw [hz]
              simp only
              rw [hcell]
            · rw [← g1]
              exact .slc (upS_self _ _) (.inl rfl) hm (by omega) (fun _ => rfl) (fun hh => by omega)
          · cases ha
        · cases ha
      · cases ha
    · cases ha
  · cases ha
def elemsA (A : AW) (size : Nat) : Value → Option (List Value × Nat)
  | .slice none n _ => if n = 0 then some ([], 0) else none
  | .slice (some ⟨j, o, none⟩) n _ => if n = 0 then some ([], 0) else (A.rows.get j).bind fun r => if o + n * size ≤ r.cs.length then some ((r.cs.drop o).take (n * size), n) else none
  | _ => none
def pickId (A : AW) (rid : Option Nat) : Option (Nat × AW) :=
  match rid with
  | none => some (A.n, { A with n := A.n + 1 })
  | some id => if id < A.n ∧ A.rsv.contains id = true then some (id, { A with rsv := A.rsv.filter (· != id) }) else none
theorem pickId_sound {rid : Option Nat} {id : Nat} {A1 : AW} (h : Inv w0 σ η A w) (hp : pickId A rid = some (id, A1)) :
    σ id = none ∧ (∀ j, A1.n ≤ j → A.n ≤ j ∧ j ≠ id) ∧ A.n ≤ A1.n ∧ (∀ j ∈ A1.rsv, j ∈ A.rsv ∧ j ≠ id) ∧ A1.rows = A.rows ∧ A1.maps = A.maps ∧ A1.ls = A.ls := by
  unfold pickId at hp
  split at hp
  · cases hp
    exact ⟨h.fresh _ (Nat.le_refl _), fun j hj => by simp at hj; omega, by simp, fun j hj => ⟨hj, fun e => by have := (h.rsv j hj).2; omega⟩, rfl, rfl, rfl⟩
  · split at hp
    · rename_i hl
      cases hp
      exact ⟨(h.rsv _ (by simpa using hl.2)).1, fun j hj => ⟨hj, by have := hl.1; simp only at hj; omega⟩, Nat.le_refl _, fun j hj => by
        simp only [List.mem_filter,bne_iff_ne] at hj
        exact hj, rfl, rfl, rfl⟩
    · cases hp
def appendB (P : Program) (A : AW) (rid : Option Nat) (e : TypeId) (x : Value) (news : List Value) (m : Nat) : Option (Value × AW) :=
  match x with
  | .slice none 0 0 => if m = 0 then some (x, A) else
      (match tzero P e with
       | some z => if z.cells.size = tsz P e ∧ news.all ZK = true ∧ m * tbytes P e ≤ 140737488355328 ∧ m < capU then
           (pickId A rid).map fun q => (.slice (some ⟨q.1, 0, none⟩) m capU, { q.2 with rows := A.rows.set q.1 (some ⟨news, e, tsz P e, false, true, 0⟩) }) else none
       | none => none)
  | .slice (some ⟨j, 0, none⟩) n c => if m = 0 then some (x, A) else
      (A.rows.get j).bind fun r =>
      (match tzero P e with
       | some z => if z.cells.size = tsz P e ∧ news.all ZK = true ∧ (n + m) * tbytes P e ≤ 140737488355328 ∧ n + m < capU ∧ r.e = e ∧ r.es = tsz P e ∧ n * tsz P e ≤ r.cs.length ∧ (c < capU → r.full = true ∧ c * tsz P e = r.cs.length) ∧ r.own = true then
           (pickId A rid).map fun q => (.slice (some ⟨q.1, 0, none⟩) (n + m) capU, { q.2 with rows := (A.rows.set j none).set q.1 (some ⟨r.cs.take (n * tsz P e) ++ news, e, tsz P e, false, true, 0⟩) }) else none
       | none => none)
  | _ => none
def appendA (P : Program) (A : AW) (rid : Option Nat) (t : TypeId) (x y : Value) : Option (Value × AW) :=
  match telem P t with
  | some e => if tok P e = true ∧ 0 < tsz P e then (elemsA A (tsz P e) y).bind fun nm => appendB P A rid e x nm.1 nm.2 else none
  | none => none
theorem elemsA_sound {size : Nat} {y y' : Value} {news : List Value} {m : Nat} (h : Inv w0 σ η A w) (hy : VR σ η y y') (he : elemsA A size y = some (news, m)) :
    ∃ (a : Option Addr) (c : Nat), y' = .slice a m c ∧ news.length = m * size ∧ (m ≠ 0 → ∃ a0 news', a = some a0 ∧ VRs σ η news news' ∧ ∀ j u, news'[j]? = some u → w.cell? (a0.add j) = some u) ∧ (a = none → c = 0) := by
  unfold elemsA at he
  split at he
  · split at he
    · rename_i h0
      cases he
      cases hy
      exact ⟨none, 0, rfl, by simp, fun hh => absurd rfl hh, fun _ => rfl⟩
    · cases he
  · rename_i j o n c
    cases hy with
    | slc hx ho hm hn h1 h2 =>
      rename_i c' o' x
      split at he
      · rename_i h0
        cases he
        subst h0
        exact ⟨_, _, rfl, by simp, fun hh => absurd rfl hh, fun hh => by cases hh⟩
      · rename_i h0
        obtain ⟨r, hg, he⟩ := Option.bind_eq_some_iff.1 he
        split at he
        · rename_i hl
          cases he
          obtain rfl : o' = o := by rcases ho with h | ⟨h, _⟩; exact h; exact absurd h h0
          obtain ⟨y, cur, hy, g1, g2, g3, g4, g5, g6, g7⟩ := h.row j r hg
          rw [hx] at hy
          cases hy
          refine ⟨_, _, rfl, by simp; omega, fun _ => ⟨_, _, rfl, vrs_cur g6 hl (by simpa using g7), fun k u hk => ?_⟩, fun hh => by cases hh⟩
          rw [add_ptr, cell_blk g3]
          rw [List.getElem?_take] at hk
          split at hk
          · rw [List.getElem?_drop] at hk
            simpa using hk
          · cases hk
        · cases he
  · cases he
theorem tinfo {e : TypeId} (hok : tok P e = true) : ∃ i, P.info? e = some i := by
  unfold tok at hok
  simp only [Bool.and_eq_true] at hok
  exact Option.isSome_iff_exists.1 hok.1
theorem appendNew {A' : AW} {id : Nat} {dead : Option Nat} {deadB : Option Nat} {cs : List Value} {e : TypeId} {size n cap : Nat} {v2 : Value} {w' : World} {xs : List Value} (h : Inv w0 σ η A w) (hn0 : 0 < n)
    (hown : w'.ownsRow w0.heap.size e size v2 n xs) (hg : w.grownBy w' deadB) (hat : v2.ownBlock = deadB ∨ v2.ownBlock = some w.heap.size) (hcs : VRs σ η cs xs)
    (hdead : ∀ b, deadB = some b → ∃ j r x, dead = some j ∧ A.rows.get j = some r ∧ σ j = some x ∧ x.b = b) (hdn : deadB = none → dead = none)
    (e1 : A'.rows = ((match dead with | some j => A.rows.set j none | none => A.rows)).set id (some ⟨cs, e, size, false, true, 0⟩)) (hfr : σ id = none) (e2 : ∀ j, A'.n ≤ j → A.n ≤ j ∧ j ≠ id) (e2n : A.n ≤ A'.n) (e3 : ∀ j ∈ A'.rsv, j ∈ A.rsv ∧ j ≠ id) (e4 : A'.maps = A.maps) (e5 : A'.ls = A.ls) :
    ∃ σ', VR σ' η (.slice (some ⟨id, 0, none⟩) n capU) v2 ∧ Inv w0 σ' η A' w' ∧ Step σ σ' A A' w w' := by
  rcases hown.2 with ⟨rfl, h0⟩ | ⟨g, cap, cur, rfl, hbg, hgh, hnc, hcm, hcsz, htake⟩
  · omega
  · have hsub := upS_sub (x := ⟨g, cur.size, size, (0, 0)⟩) hfr
    have blt : ∀ {j r x}, A.rows.get j = some r → σ j = some x → x.b < w.heap.size := fun {j r x} hg hx => by
      obtain ⟨y, cur, hy, _, _, hb, _⟩ := h.row j r hg
      rw [hx] at hy
      cases hy
      exact (Array.getElem?_eq_some_iff.1 hb).1
    have hxl : xs.length = n * size := hown.1
    -- a row that lives on: another one than what died, elsewhere than the new one
    have live : ∀ {j r x}, A.rows.get j = some r → σ j = some x → dead ≠ some j → w'.heap[x.b]? = w.heap[x.b]? ∧ x.b ≠ g := fun {j r x} hgj hx hd => by
      have hne : some x.b ≠ deadB := fun he => by
        obtain ⟨j2, r2, x2, hd2, hg2, hx2, hb2⟩ := hdead x.b he.symm
        have := h.sep j j2 r r2 x x2 hgj hg2 hx hx2 hb2.symm
        subst this
        exact hd hd2
      refine ⟨hg.block _ (blt hgj hx) hne, fun he => ?_⟩
      simp only [Value.ownBlock] at hat
      rcases hat with hat | hat
      · rw [← he] at hat; exact hne hat
      · have := blt hgj hx
        simp at hat
        omega
    have getA : ∀ {j r}, A'.rows.get j = some r → j ≠ id → A.rows.get j = some r ∧ dead ≠ some j := fun {j r} hj hne => by
      rw [e1, Tr.get_set, if_neg hne] at hj
      cases dead with
      | none => exact ⟨hj, by simp⟩
      | some d =>
        simp only [Tr.get_set] at hj
        split at hj
        · cases hj
        · rename_i hd
          exact ⟨hj, fun e => hd (by cases e; rfl)⟩
    refine ⟨upS σ id ⟨g, cur.size, size, (0, 0)⟩, .slc (upS_self _ _) (.inl rfl) hcm hnc (fun hh => absurd hh (by omega)) (fun _ _ => hcsz.symm), ⟨?_, fun j hj => ?_, fun j hj => ?_, fun j r hj => ?_, fun i j ri rj x y hi hj hx hy hxy => ?_, ?_⟩, ⟨hsub, e5, fun j r x hgj hx => ?_⟩⟩
    · exact Ext.grown h.ext hg (fun k hk => by
        obtain ⟨j2, r2, x2, hd2, hg2, hx2, hb2⟩ := hdead k hk
        obtain ⟨y, _, hy, _, hge, _⟩ := h.row j2 r2 hg2
        rw [hx2] at hy
        cases hy
        omega)
    · have := e2 j hj
      simp [upS, this.2, h.fresh j this.1]
    · have h3 := e3 j hj
      have := h.rsv j h3.1
      exact ⟨by simp [upS, h3.2, this.1], Nat.lt_of_lt_of_le this.2 e2n⟩
    · by_cases hjn : j = id
      · subst hjn
        rw [e1, Tr.get_set, if_pos rfl] at hj
        cases hj
        refine ⟨_, cur, upS_self _ _, rfl, hbg, hgh, rfl, ⟨(fun hf => by cases hf), fun _ => rfl⟩, ?_, ?_⟩
        · simp only
          rw [hcs.1, hxl, htake]
          exact hcs.mono hsub
        · simp only
          rw [hcs.1, hxl, hcsz]
          exact Nat.mul_le_mul_right _ hnc
      · obtain ⟨hgj, hd⟩ := getA hj hjn
        obtain ⟨x, cj, hx, g1, g2, g3, g4, g5, g6, g7⟩ := h.row j r hgj
        refine ⟨x, cj, hsub _ _ hx, g1, g2, ?_, g4, g5, g6.mono hsub, g7⟩
        rw [(live hgj hx hd).1]
        exact g3
    · by_cases hin : i = id <;> by_cases hjn : j = id
      · omega
      · subst hin
        rw [upS_self] at hx
        cases hx
        obtain ⟨hgj, hd⟩ := getA hj hjn
        simp only [upS,if_neg hjn] at hy
        exact absurd hxy.symm (live hgj hy hd).2
      · subst hjn
        rw [upS_self] at hy
        cases hy
        obtain ⟨hgi, hd⟩ := getA hi hin
        simp only [upS,if_neg hin] at hx
        exact absurd hxy (live hgi hx hd).2
      · obtain ⟨hgi, _⟩ := getA hi hin
        obtain ⟨hgj, _⟩ := getA hj hjn
        simp only [upS,if_neg hin] at hx
        simp only [upS,if_neg hjn] at hy
        exact h.sep i j ri rj x y hgi hgj hx hy hxy
    · rw [e4, e5]
      refine h.mp.keep hsub fun k o hk hn => hg.block k (Array.getElem?_eq_some_iff.1 hk).1 fun he => ?_
      obtain ⟨j2, r2, x2, hd2, hg2, hx2, hb2⟩ := hdead k he.symm
      obtain ⟨y, cj, hy, _, _, h3, _⟩ := h.row j2 r2 hg2
      rw [hx2] at hy
      cases hy
      rw [hb2, hk] at h3
      cases h3
      exact hn _ _ _ rfl
    · have hjn : j ≠ id := fun e => by subst e; rw [hfr] at hx; cases hx
      obtain ⟨hga, hd⟩ := getA hgj hjn
      exact ⟨r, hga, Nat.le_refl _, fun _ => (live hga hx hd).1⟩
theorem appendA_sound {rid : Option Nat} {t ty : TypeId} {x x' y y' v : Value} {A' : AW} (h : Inv w0 σ η A w) (hx : VR σ η x x') (hy : VR σ η y y') (ha : appendA P A rid t x y = some (v, A')) :
    ∃ v' w' σ', (Builtin.append_ #[t, t] ty #[x', y']).run P w = .ok v' w' ∧ VR σ' η v v' ∧ Inv w0 σ' η A' w' ∧ Step σ σ' A A' w w' := by
  unfold appendA at ha
  split at ha
  · rename_i e he
    split at ha
    · rename_i hok
      obtain ⟨⟨news, m⟩, hel, ha⟩ := Option.bind_eq_some_iff.1 ha
      simp only at ha
      obtain ⟨a, c, rfl, hnl, hnews, hac⟩ := elemsA_sound h hy hel
      obtain ⟨i, hi⟩ := tinfo hok.1
      have hsz : i.size = tsz P e := by simp [tsz, hi]
      have hby : i.bytes = tbytes P e := by simp [tbytes, hi]
      -- nothing is appended
      have nothing : m = 0 → ∀ {base : Option Addr} {sl sc : Nat}, sl ≤ sc → (Builtin.append_ #[t, t] ty #[.slice base sl sc, .slice a m c]).run P w = .ok (.slice base sl sc) w := fun h0 base sl sc hle => by
        subst h0
        refine run_append_nothing w t t ty e i (telem_some he) hi base sl sc hle _ ?_
        cases a with
        | none => exact Src.ofNil w (telem_some he) c
        | some a => exact Src.ofSlice w (telem_some he) a 0 c [] (by simp) (fun j u hu => by simp at hu) (fun u hu => by simp at hu)
      unfold appendB at ha
      split at ha
      · cases hx
        split at ha
        · rename_i h0
          cases ha
          exact ⟨_, w, σ, nothing h0 (Nat.le_refl _), .nilSlc, h, Step.refl _ _ _⟩
        · rename_i h0
          split at ha
          · rename_i z hz
            split at ha
            · rename_i hc
              obtain ⟨c1, c2, c3, c4⟩ := hc
              obtain ⟨⟨id, A1⟩, hpk, hpe⟩ := Option.map_eq_some_iff.1 ha
              cases hpe
              obtain ⟨u1, u2, u3, u4, u5, u6, u7⟩ := pickId_sound h hpk
              obtain ⟨a0, news', rfl, hvn, hcell⟩ := hnews h0
              have hz' : i.zero = some z := by simpa [tzero, hi] using hz
              obtain ⟨v2, w2, g1, g2, g3, g4, g5⟩ := run_append_own_at w w0.heap.size t ty e i z (tsz P e) (tbytes P e) (telem_some he) hi hz' hsz hby c1 hok.2 (.slice none 0 0) 0 [] (World.ownsRow_nil _ _ _ _) a0 m c news' (by rw [← hvn.1]; exact hnl) hcell
                (vrs_one hvn c2) (by unfold capU at c4; simp only [maxLen]; omega) (by rw [Nat.zero_add]; exact c3) h.ext.le
              rw [Nat.zero_add, List.nil_append] at g2
              obtain ⟨σ', k1, k2, k3⟩ := appendNew (dead := none) (deadB := none) (cap := 0) (A' := { A1 with rows := A.rows.set id (some ⟨news, e, tsz P e, false, true, 0⟩) }) h (by omega) g2 g3 g5 hvn (fun b hb => by cases hb) (fun _ => rfl) rfl u1 u2 u3 u4 u6 u7
              exact ⟨v2, w2, σ', g1, k1, k2, k3⟩
            · cases ha
          · cases ha
      · rename_i j n cc _hq
        cases hx with
        | slc hj ho hm hn e1 e2 =>
          rename_i c' o' xe
          obtain rfl : o' = 0 := by rcases ho with h | ⟨_, _, h⟩; exact h; omega
          split at ha
          · rename_i h0
            cases ha
            exact ⟨_, w, σ, nothing h0 hn, .slc hj (.inl rfl) hm hn e1 e2, h, Step.refl _ _ _⟩
          · rename_i h0
            obtain ⟨r, hgr, ha⟩ := Option.bind_eq_some_iff.1 ha
            split at ha
            · rename_i z hz
              split at ha
              · rename_i hc
                obtain ⟨c1, c2, c3, c4, c6, c7, c8, c9, c10⟩ := hc
                obtain ⟨⟨id, A1⟩, hpk, hpe⟩ := Option.map_eq_some_iff.1 ha
                cases hpe
                obtain ⟨u1, u2, u3, u4, u5, u6, u7⟩ := pickId_sound h hpk
                obtain ⟨a0, news', rfl, hvn, hcell⟩ := hnews h0
                have hz' : i.zero = some z := by simpa [tzero, hi] using hz
                obtain ⟨xe', cur, hxe, f1, f2, f3, f4, f5, f6, f7⟩ := h.row j r hgr
                rw [hj] at hxe
                cases hxe
                have hcap : cur.size = c' * tsz P e := by
                  by_cases hcu : cc < capU
                  · obtain ⟨d1, d2⟩ := c9 hcu
                    rw [f5.1 d1, e1 hcu, d2]
                  · rw [f4, ← e2 (by omega) rfl, f1, c7]
                have hown : w.ownsRow w0.heap.size e (tsz P e) (.slice (some ⟨xe.b, 0, none⟩) n c') n (cur.toList.take (n * tsz P e)) := by
                  refine ⟨?_, .inr ⟨xe.b, c', cur, rfl, f2, ?_, hn, hm, hcap, rfl⟩⟩
                  · simp; omega
                  · rw [f3, c6, f5.2 c10]
                obtain ⟨v2, w2, g1, g2, g3, g4, g5⟩ := run_append_own_at w w0.heap.size t ty e i z (tsz P e) (tbytes P e) (telem_some he) hi hz' hsz hby c1 hok.2 _ n _ hown a0 m c news' (by rw [← hvn.1]; exact hnl) hcell
                  (vrs_one hvn c2) (by unfold capU at c4; simp only [maxLen]; omega) c3 h.ext.le
                have hold : VRs σ η (r.cs.take (n * tsz P e)) (cur.toList.take (n * tsz P e)) := by
                  have := vrs_cur (o := 0) (n := n * tsz P e) f6 (by omega) (by simpa using f7)
                  simpa using this
                obtain ⟨σ', k1, k2, k3⟩ := appendNew (dead := some j) (deadB := some xe.b) (cap := 0) (A' := { A1 with rows := (A.rows.set j none).set id (some ⟨r.cs.take (n * tsz P e) ++ news, e, tsz P e, false, true, 0⟩) }) h (by omega) g2 g3 g5 (hold.append hvn)
                  (fun b hb => ⟨j, r, xe, rfl, hgr, hj, by cases hb; rfl⟩) (fun hh => by cases hh) rfl u1 u2 u3 u4 u6 u7
                exact ⟨v2, w2, σ', g1, k1, k2, k3⟩
              · cases ha
            · cases ha
      · cases ha
    · cases ha
  · cases ha
def tbyte (P : Program) (t : TypeId) : Bool := match P.underlying t with | some (.int .u8) => true | _ => false
theorem tbyte_some {t : TypeId} (h : tbyte P t = true) : P.underlying t = some (.int .u8) := by
  unfold tbyte at h
  split at h
  · assumption
  · cases h
def bytesL (s : ByteArray) : List Value := s.data.toList.map fun b => .int .u8 b.toNat
def convA (P : Program) (A : AW) (t t' : TypeId) : Value → Option (Value × AW)
  | .string s => match telem P t' with
    | some e => if tstr P t = true ∧ tbyte P e = true ∧ s.data.toList.length < capU then
        some (.slice (some ⟨A.n, 0, none⟩) s.data.toList.length capU, { A with rows := A.rows.set A.n (some ⟨bytesL s, e, 1, false, false, 0⟩), n := A.n + 1 }) else none
    | none => none
  | _ => none
theorem convA_sound {t t' : TypeId} {u u' v : Value} {A' : AW} (h : Inv w0 σ η A w) (hu : VR σ η u u') (ha : convA P A t t' u = some (v, A')) :
    convV P t t' u' = none ∧ ∃ v' w' σ', (convert t t' u').run P w = .ok v' w' ∧ VR σ' η v v' ∧ Inv w0 σ' η A' w' ∧ Step σ σ' A A' w w' := by
  unfold convA at ha
  split at ha
  · rename_i s
    cases hu
    split at ha
    · rename_i e he
      split at ha
      · rename_i hc
        obtain ⟨c1, c2, c4⟩ := hc
        cases ha
        have hnone : convV P t t' (.string s) = none := by
          have : tstr P t' = false := by unfold tstr; rw [telem_some he]
          simp [convV, this]
        refine ⟨hnone, ?_⟩
        have hrun := run_bytes_of_string (P := P) w t t' e s (tstr_some c1) (telem_some he) (tbyte_some c2)
        have hfr := h.fresh A.n (Nat.le_refl _)
        generalize hcap : grownCap w s.size 0 e = cap at hrun
        have hcap1 : s.size ≤ cap := by rw [← hcap]; exact grownCap_ge w s.size 0 e
        have hcapm : cap ≤ maxLen := by
          rw [← hcap]
          exact grownCap_le_maxLen w s.size 0 e (by unfold capU at c4; simp only [maxLen]; exact Nat.le_trans (Nat.le_of_lt c4) (by omega))
        have hrow : (bytesRow s cap).toList = bytesL s ++ List.replicate (cap - s.size) (.int .u8 0) := by simp [bytesRow, bytesL]
        have hsz : (bytesRow s cap).size = cap := by
          have := congrArg List.length hrow
          simp only [List.length_append,List.length_replicate,bytesL,List.length_map] at this
          have h2 : s.data.toList.length = s.size := rfl
          rw [Array.length_toList] at this
          omega
        have hnew : ∀ o, (w.drew.alloc o).heap[w.heap.size]? = some o := fun o => heap_alloc_new w.drew o
        have hold : ∀ o k, k < w.heap.size → (w.drew.alloc o).heap[k]? = w.heap[k]? := fun o k hk => Below.heap_alloc w.drew o k hk
        have hsub := upS_sub (x := ⟨w.heap.size, cap, 1, (cap, cap + 1)⟩) hfr
        rw [hsz] at hrun
        have blt : ∀ {j r x}, A.rows.get j = some r → σ j = some x → x.b < w.heap.size := fun {j r x} hg hx => by
          obtain ⟨y, cur, hy, _, _, hb, _⟩ := h.row j r hg
          rw [hx] at hy
          cases hy
          exact (Array.getElem?_eq_some_iff.1 hb).1
        have hnone : A.rows.get A.n = none := by
          cases hg : A.rows.get A.n with
          | none => rfl
          | some r => obtain ⟨x, cur, hx, _⟩ := h.row A.n r hg; rw [hfr] at hx; cases hx
        have hvl : VRs σ η (bytesL s) (bytesL s) := VRs.cvA (by unfold bytesL; rw [List.all_eq_true]; intro x hx; obtain ⟨b, _, rfl⟩ := List.mem_map.1 hx; rfl)
        refine ⟨_, _, upS σ A.n ⟨w.heap.size, cap, 1, (cap, cap + 1)⟩, hrun, .slc (upS_self _ _) (.inl rfl) hcapm hcap1 (fun hh => absurd hh (by omega)) (fun _ _ => by simp), ⟨?_, fun j hj => ?_, fun j hj => ?_, fun j r hj => ?_, fun i j ri rj x y hi hj hx hy hxy => ?_, ?_⟩, ⟨hsub, rfl, fun j r x hg hx => ?_⟩⟩
        · exact h.ext.drew'.alloc' _
        · simp only at hj
          simp [upS, show j ≠ A.n by omega, h.fresh j (by omega)]
        · have := h.rsv j hj
          exact ⟨by simp [upS, show j ≠ A.n by omega, this.1], by simp only; omega⟩
        · simp only [Tr.get_set] at hj
          split at hj
          · rename_i e1
            subst e1
            cases hj
            refine ⟨_, _, upS_self _ _, rfl, h.ext.le, hnew _, hsz, ⟨(fun hf => by cases hf), (fun hf => by cases hf)⟩, ?_, ?_⟩
            · simp only [hrow]
              rw [List.take_left]
              exact hvl.mono hsub
            · simp only [hsz,bytesL,List.length_map]
              exact hcap1
          · rename_i e1
            obtain ⟨x, cur, hx, h1, h2, h3, h4, h5, h6, h7⟩ := h.row j r hj
            refine ⟨x, cur, hsub _ _ hx, h1, h2, ?_, h4, h5, h6.mono hsub, h7⟩
            rw [hold _ _ (blt hj hx)]
            exact h3
        · simp only [Tr.get_set] at hi hj
          split at hi <;> split at hj
          · omega
          · rename_i e1 e2
            subst e1
            rw [upS_self] at hx
            cases hx
            simp only [upS,if_neg e2] at hy
            have := blt hj hy
            simp only at hxy
            omega
          · rename_i e1 e2
            subst e2
            rw [upS_self] at hy
            cases hy
            simp only [upS,if_neg e1] at hx
            have := blt hi hx
            simp only at hxy
            omega
          · rename_i e1 e2
            simp only [upS,if_neg e1] at hx
            simp only [upS,if_neg e2] at hy
            exact h.sep i j ri rj x y hi hj hx hy hxy
        · exact h.mp.keep hsub fun k o hk _ => hold _ _ (Array.getElem?_eq_some_iff.1 hk).1
        · have hjn : j ≠ A.n := fun e => by subst e; rw [hfr] at hx; cases hx
          simp only [Tr.get_set] at hg
          rw [if_neg hjn] at hg
          exact ⟨r, hg, Nat.le_refl _, fun _ => hold _ _ (blt hg hx)⟩
      · cases ha
    · cases ha
  · cases ha
end
end
end Go.Proofs.YthcdnjbhhaonhaaGreatDoor
/- Closed runs: maps whose keys are numbers, texts or bools. -/
namespace Go.Proofs.YthcdnjbhhaonhaaGreatDoor
open Go.RowKit Go.MapKept
open Go.Value renaming oneCell' → ZK
noncomputable section
set_option linter.unusedVariables false
set_option linter.unusedSimpArgs false
def tmapA (P : Program) (t : TypeId) : Option (TypeId × TypeId) := match P.underlying t with | some (.map k e) => some (k, e) | _ => none
theorem tmapA_some {P : Program} {t k e : TypeId} (h : tmapA P t = some (k, e)) : P.underlying t = some (.map k e) := by
  unfold tmapA at h
  split at h
  · rename_i hu; cases h; exact hu
  · cases h
def isKeyA (d : TypeDesc) (k : Value) : Bool := match d, k with
  | .bool, .bool _ => true
  | .int a, .int b _ => decide (b = a)
  | .string, .string _ => true
  | _, _ => false
theorem isKeyA_key {d : TypeDesc} {k : Value} (h : isKeyA d k = true) : IsKey d k := by
  unfold isKeyA at h
  split at h
  · exact trivial
  · simpa [IsKey] using h
  · exact trivial
  · cases h
theorem isKeyA_eq {d : TypeDesc} {σ : Nat → Option Ent} {η : Nat → Value} {k k' : Value} (h : isKeyA d k = true) (hv : VR σ η k k') : k' = k := by
  unfold isKeyA at h
  split at h
  · cases hv; rfl
  · cases hv; rfl
  · cases hv; rfl
  · cases h
def sameA (d : TypeDesc) (a b : Value) : Option Bool := match d, a, b with
  | .int _, .int k a, .int k' b => if k = k' then some (a == b) else none
  | .string, .string a, .string b => some (a.data.toList == b.data.toList)
  | .bool, .bool a, .bool b => some (a == b)
  | _, _, _ => none
theorem str_beq (a b : ByteArray) : (a.data.toList == b.data.toList) = (a == b) := by
  rw [Bool.eq_iff_iff, bytes_beq, beq_iff_eq]
  refine ⟨fun h => ?_, fun h => by rw [h]⟩
  apply ByteArray.ext
  exact Array.toList_inj.1 h
theorem sameA_now {d : TypeDesc} {a b : Value} {c : Bool} (h : sameA d a b = some c) : Instr.sameNow d a b = some c := by
  unfold sameA at h
  split at h
  · exact h
  · rw [str_beq] at h; exact h
  · exact h
  · cases h
theorem sameA_eq {d : TypeDesc} {a b : Value} (h : sameA d a b = some true) : a = b := by
  unfold sameA at h
  split at h
  · split at h
    · rename_i e; cases e; simp at h; rw [h]
    · cases h
  · rw [str_beq] at h; simp only [Option.some.injEq] at h; rw [(bytes_beq _ _).1 h]
  · simp at h; rw [h]
  · cases h
def findA (d : TypeDesc) (k : Value) : List (Value × Value × Nat) → Nat → Option (Option (Nat × Value))
  | [], _ => some none
  | e :: l, i => match sameA d k e.1 with
    | some true => some (some (i, e.2.1))
    | some false => findA d k l (i + 1)
    | none => none
def modL : List (Value × Value × Nat) → Nat → (Value × Value × Nat → Value × Value × Nat) → List (Value × Value × Nat)
  | [], _, _ => []
  | a :: l, 0, f => f a :: l
  | a :: l, n + 1, f => a :: modL l n f
theorem modL_length (f : Value × Value × Nat → Value × Value × Nat) : ∀ (l : List (Value × Value × Nat)) (i : Nat), (modL l i f).length = l.length
  | [], _ => rfl
  | _ :: _, 0 => rfl
  | _ :: l, n + 1 => by simp [modL, modL_length f l n]
theorem modL_get (f : Value × Value × Nat → Value × Value × Nat) : ∀ (l : List (Value × Value × Nat)) (i j : Nat), (modL l i f)[j]? = if i = j then l[j]?.map f else l[j]?
  | [], _, _ => by simp [modL]
  | a :: l, 0, j => by cases j <;> simp [modL]
  | a :: l, n + 1, j => by cases j <;> simp [modL, modL_get f l n]
def delL : List (Value × Value × Nat) → Nat → List (Value × Value × Nat)
  | [], _ => []
  | _ :: l, 0 => l
  | a :: l, n + 1 => a :: delL l n
theorem delL_eq : ∀ (l : List (Value × Value × Nat)) (i : Nat), delL l i = l.eraseIdx i
  | [], _ => by simp [delL]
  | _ :: l, 0 => by simp [delL]
  | a :: l, n + 1 => by simp [delL, delL_eq l n]
section
variable {P : Program} {w0 : World} {σ : Nat → Option Ent} {η : Nat → Value} {A : AW} {w : World}
theorem findA_sound {d : TypeDesc} {k : Value} : ∀ {l : List (Value × Value × Nat)} {xs : List MapEntry} {i : Nat} {r : Option (Nat × Value)}, l.length = xs.length → (∀ (i : Nat) e x, l[i]? = some e → xs[i]? = some x → EntR σ η e x) → findA d k l i = some r →
    (r = none ∧ Instr.findNow d k xs i = some none) ∨ ∃ j e x, r = some (i + j, e.2.1) ∧ Instr.findNow d k xs i = some (some (i + j, x.val)) ∧ l[j]? = some e ∧ xs[j]? = some x ∧ EntR σ η e x ∧ x.key = k
  | [], [], i, r, _, _, h => by cases h; exact .inl ⟨rfl, rfl⟩
  | e :: l, x :: xs, i, r, hl, hr, h => by
    have hx := hr 0 e x rfl rfl
    simp only [findA] at h
    split at h
    · rename_i hs
      cases h
      refine .inr ⟨0, e, x, rfl, ?_, rfl, rfl, hx, by rw [hx.key, sameA_eq hs]⟩
      simp [Instr.findNow, hx.key, sameA_now hs]
    · rename_i hs
      rcases findA_sound (l := l) (xs := xs) (by simpa using hl) (fun j a b ha hb => hr (j + 1) a b (by simpa using ha) (by simpa using hb)) h with ⟨h1, h2⟩ | ⟨j, a, b, h1, h2, h3, h4, h5, h6⟩
      · exact .inl ⟨h1, by simp [Instr.findNow, hx.key, sameA_now hs, h2]⟩
      · exact .inr ⟨j + 1, a, b, by rw [h1]; congr 2; omega, by simp [Instr.findNow, hx.key, sameA_now hs, h2]; omega, by simpa using h3, by simpa using h4, h5, h6⟩
    · cases h
  | [], _ :: _, _, _, hl, _, _ => by simp at hl
  | _ :: _, [], _, _, hl, _, _ => by simp at hl
def mapOf (A : AW) (j : Nat) : Option (List (Value × Value × Nat) × Nat) := match A.maps.get j with | some (.map l ck) => some (l, ck) | _ => none
theorem mapOf_some {j : Nat} {mm : List (Value × Value × Nat) × Nat} (h : mapOf A j = some mm) : A.maps.get j = some (.map mm.1 mm.2) := by
  unfold mapOf at h
  split at h
  · rename_i hg; cases h; exact hg
  · cases h
theorem map_at {j : Nat} {mm : List (Value × Value × Nat) × Nat} {m' : Value} (h : Inv w0 σ η A w) (hm : VR σ η (.map (some j)) m') (hg : mapOf A j = some mm) : ∃ x es, σ j = some x ∧ m' = .map (some x.b) ∧ w0.heap.size ≤ x.b ∧ w.heap[x.b]? = some (.map es mm.2) ∧ MapR σ η mm.1 es := by
  obtain ⟨x, o, hx, hb, ho, hr⟩ := h.mp.1 j _ (mapOf_some hg)
  cases o <;> simp only [ObjR] at hr
  obtain ⟨rfl, hr⟩ := hr
  cases hm with
  | map hy => rw [hx] at hy; cases hy; exact ⟨x, _, hx, rfl, hb, ho, hr⟩
theorem setThing {j : Nat} {mm m2 : ObjA} {x : Ent} {o o2 : Obj} (h : Inv w0 σ η A w) (hg : A.maps.get j = some mm) (hx : σ j = some x) (hb : w0.heap.size ≤ x.b) (ho : w.heap[x.b]? = some o) (hnc : ∀ cur e fz, o ≠ .cells cur e fz) (hr : ObjR σ η (lsGet A.ls j) m2 o2) :
    Inv w0 σ η { A with maps := A.maps.set j (some m2) } { w with heap := w.heap.setIfInBounds x.b o2 } ∧ Step σ σ A { A with maps := A.maps.set j (some m2) } w { w with heap := w.heap.setIfInBounds x.b o2 } := by
  obtain ⟨hs1, hs2⟩ := heap_set (o' := o2) ho
  have hrow : ∀ {i r y}, A.rows.get i = some r → σ i = some y → y.b ≠ x.b := fun {i r y} hgi hy he => by
    obtain ⟨z, cur, hz, _, _, h3, _⟩ := h.row i r hgi
    rw [hy] at hz
    cases hz
    rw [he, ho] at h3
    cases h3
    exact hnc _ _ _ rfl
  refine ⟨⟨Below.trans h.ext ⟨rfl, rfl, rfl, by simp, fun k hk => hs2 k (by omega)⟩, h.fresh, h.rsv, fun i r hi => ?_, h.sep, fun i m hi => ?_, fun i k mi mk y z hi hk hy hz hyz => ?_⟩, ⟨Sub.refl _, rfl, fun i r y hi hy => ⟨r, hi, Nat.le_refl _, fun _ => hs2 _ (hrow hi hy)⟩⟩⟩
  · obtain ⟨y, cur, hy, g1, g2, g3, g4⟩ := h.row i r hi
    exact ⟨y, cur, hy, g1, g2, (hs2 _ (hrow hi hy)).trans g3, g4⟩
  · simp only [Tr.get_set] at hi
    split at hi
    · rename_i e
      subst e
      cases hi
      exact ⟨x, o2, hx, hb, hs1, hr⟩
    · rename_i e
      obtain ⟨y, ey, hy, g1, g2, g3⟩ := h.mp.1 i m hi
      exact ⟨y, ey, hy, g1, (hs2 _ (fun e2 => e (h.mp.2 i j m mm y x hi hg hy hx e2))).trans g2, g3⟩
  · have : ∀ {i mi}, (A.maps.set j (some m2)).get i = some mi → ∃ m', A.maps.get i = some m' := fun {i mi} hi => by
      simp only [Tr.get_set] at hi
      split at hi
      · rename_i e; subst e; exact ⟨mm, hg⟩
      · exact ⟨mi, hi⟩
    obtain ⟨m3, h3⟩ := this hi
    obtain ⟨m4, h4⟩ := this hk
    exact h.mp.2 i k m3 m4 y z h3 h4 hy hz hyz
theorem run_mkMap {P : Program} (t : TypeId) (w : World) : (Instr.makeMap t none).run P w = .ok (.map (some w.heap.size)) (w.alloc (.map #[] 0)) := rfl
theorem dropThing {j : Nat} {mm : ObjA} {x : Ent} {o : Obj} (h : Inv w0 σ η A w) (hg : A.maps.get j = some mm) (hx : σ j = some x) (hb : w0.heap.size ≤ x.b) (ho : w.heap[x.b]? = some o) (hnc : ∀ cur e fz, o ≠ .cells cur e fz) (o2 : Obj) :
    Inv w0 σ η { A with maps := A.maps.set j none } { w with heap := w.heap.setIfInBounds x.b o2 } ∧ Step σ σ A { A with maps := A.maps.set j none } w { w with heap := w.heap.setIfInBounds x.b o2 } := by
  obtain ⟨hs1, hs2⟩ := heap_set (o' := o2) ho
  have hrow : ∀ {i r y}, A.rows.get i = some r → σ i = some y → y.b ≠ x.b := fun {i r y} hgi hy he => by
    obtain ⟨z, cur, hz, _, _, h3, _⟩ := h.row i r hgi
    rw [hy] at hz
    cases hz
    rw [he, ho] at h3
    cases h3
    exact hnc _ _ _ rfl
  have old : ∀ {i mi}, (A.maps.set j none).get i = some mi → i ≠ j ∧ A.maps.get i = some mi := fun {i mi} hi => by
    simp only [Tr.get_set] at hi
    split at hi
    · cases hi
    · rename_i e; exact ⟨e, hi⟩
  refine ⟨⟨Below.trans h.ext ⟨rfl, rfl, rfl, by simp, fun k hk => hs2 k (by omega)⟩, h.fresh, h.rsv, fun i r hi => ?_, h.sep, fun i m hi => ?_, fun i k mi mk y z hi hk hy hz hyz => ?_⟩, ⟨Sub.refl _, rfl, fun i r y hi hy => ⟨r, hi, Nat.le_refl _, fun _ => hs2 _ (hrow hi hy)⟩⟩⟩
  · obtain ⟨y, cur, hy, g1, g2, g3, g4⟩ := h.row i r hi
    exact ⟨y, cur, hy, g1, g2, (hs2 _ (hrow hi hy)).trans g3, g4⟩
  · obtain ⟨e, hi⟩ := old hi
    obtain ⟨y, ey, hy, g1, g2, g3⟩ := h.mp.1 i m hi
    exact ⟨y, ey, hy, g1, (hs2 _ (fun e2 => e (h.mp.2 i j m mm y x hi hg hy hx e2))).trans g2, g3⟩
  · exact h.mp.2 i k mi mk y z (old hi).2 (old hk).2 hy hz hyz
theorem setMap {j : Nat} {mm m2 : List (Value × Value × Nat) × Nat} {x : Ent} {es es2 : Array MapEntry} (h : Inv w0 σ η A w) (hg : mapOf A j = some mm) (hx : σ j = some x) (hb : w0.heap.size ≤ x.b) (ho : w.heap[x.b]? = some (.map es mm.2)) (hr : MapR σ η m2.1 es2) :
    Inv w0 σ η { A with maps := A.maps.set j (some (.map m2.1 m2.2)) } { w with heap := w.heap.setIfInBounds x.b (.map es2 m2.2) } ∧ Step σ σ A { A with maps := A.maps.set j (some (.map m2.1 m2.2)) } w { w with heap := w.heap.setIfInBounds x.b (.map es2 m2.2) } :=
  setThing h (mapOf_some hg) hx hb ho (fun _ _ _ he => by cases he) ⟨rfl, hr⟩
def mkThing (A : AW) (m : ObjA) : Nat × AW := (A.n, { A with n := A.n + 1, maps := A.maps.set A.n (some m) })
def mkMapA (A : AW) : Value × AW := (.map (some (mkThing A (.map [] 0)).1), (mkThing A (.map [] 0)).2)
theorem mkThing_sound {m : ObjA} {o : Obj} (h : Inv w0 σ η A w) (hr : ObjR σ η (lsGet A.ls A.n) m o) : ∃ σ', σ' (mkThing A m).1 = some ⟨w.heap.size, 0, 0, (0, 0)⟩ ∧ Inv w0 σ' η (mkThing A m).2 (w.alloc o) ∧ Step σ σ' A (mkThing A m).2 w (w.alloc o) := by
  have hfr := h.fresh A.n (Nat.le_refl _)
  have hsub := upS_sub (x := ⟨w.heap.size, 0, 0, (0, 0)⟩) hfr
  obtain ⟨ha1, ha2⟩ := heap_alloc w o
  have hne : ∀ {j x}, σ j = some x → j ≠ A.n := fun {j x} hx e => by subst e; rw [hfr] at hx; cases hx
  have blt : ∀ {j r x}, A.rows.get j = some r → σ j = some x → x.b < w.heap.size := fun {j r x} hg hx => by
    obtain ⟨y, cur, hy, _, _, hb, _⟩ := h.row j r hg
    rw [hx] at hy
    cases hy
    exact (Array.getElem?_eq_some_iff.1 hb).1
  have mlt : ∀ {j m x}, A.maps.get j = some m → σ j = some x → x.b < w.heap.size := fun {j r x} hg hx => by
    obtain ⟨y, cur, hy, _, hb, _⟩ := h.mp.1 j r hg
    rw [hx] at hy
    cases hy
    exact (Array.getElem?_eq_some_iff.1 hb).1
  refine ⟨upS σ A.n ⟨w.heap.size, 0, 0, (0, 0)⟩, upS_self _ _, ⟨h.ext.alloc' _, fun j hj => ?_, fun j hj => ?_, fun j r hj => ?_, fun i j ri rj x y hi hj hx hy hxy => ?_, fun j m hj => ?_, fun i j mi mj x y hi hj hx hy hxy => ?_⟩, ⟨hsub, rfl, fun j r x hg hx => ⟨r, hg, Nat.le_refl _, fun _ => ha2 _ (blt hg hx)⟩⟩⟩
  · simp only [mkThing] at hj
    simp [upS, show j ≠ A.n by omega, h.fresh j (by omega)]
  · have := h.rsv j hj
    exact ⟨by simp [upS, show j ≠ A.n by omega, this.1], by simp only [mkThing]; omega⟩
  · obtain ⟨y, cur, hy, g1, g2, g3, g4, g5, g6, g7⟩ := h.row j r hj
    exact ⟨y, cur, hsub _ _ hy, g1, g2, (ha2 _ (blt hj hy)).trans g3, g4, g5, g6.mono hsub, g7⟩
  · obtain ⟨x', _, hx', _⟩ := h.row i ri hi
    obtain ⟨y', _, hy', _⟩ := h.row j rj hj
    rw [hsub _ _ hx'] at hx
    cases hx
    rw [hsub _ _ hy'] at hy
    cases hy
    exact h.sep i j ri rj _ _ hi hj hx' hy' hxy
  · simp only [mkThing,Tr.get_set] at hj
    split at hj
    · rename_i e
      subst e
      cases hj
      exact ⟨_, o, upS_self _ _, h.ext.le, ha1, hr.mono hsub⟩
    · obtain ⟨y, ey, hy, g1, g2, g3⟩ := h.mp.1 j m hj
      exact ⟨y, ey, hsub _ _ hy, g1, (ha2 _ (mlt hj hy)).trans g2, g3.mono hsub⟩
  · simp only [mkThing,Tr.get_set] at hi hj
    split at hi <;> split at hj
    · omega
    · rename_i e1 e2
      subst e1
      rw [upS_self] at hx
      cases hx
      simp only [upS,if_neg e2] at hy
      have := mlt hj hy
      simp only at hxy
      omega
    · rename_i e1 e2
      subst e2
      rw [upS_self] at hy
      cases hy
      simp only [upS,if_neg e1] at hx
      have := mlt hi hx
      simp only at hxy
      omega
    · rename_i e1 e2
      simp only [upS,if_neg e1] at hx
      simp only [upS,if_neg e2] at hy
      exact h.mp.2 i j mi mj x y hi hj hx hy hxy
theorem mkMapA_sound (h : Inv w0 σ η A w) : ∃ σ', VR σ' η (mkMapA A).1 (.map (some w.heap.size)) ∧ Inv w0 σ' η (mkMapA A).2 (w.alloc (.map #[] 0)) ∧ Step σ σ' A (mkMapA A).2 w (w.alloc (.map #[] 0)) := by
  obtain ⟨σ', h1, h2, h3⟩ := mkThing_sound (m := .map [] 0) (o := .map #[] 0) h ⟨rfl, rfl, fun i e x he => by simp at he⟩
  exact ⟨σ', .map h1, h2, h3⟩
def foundM (A : AW) (d : TypeDesc) (k m : Value) : Option (Option (Nat × Value)) := match m with
  | .map none => some none
  | .map (some j) => (mapOf A j).bind fun mm => findA d k mm.1 0
  | _ => none
def lookupA (P : Program) (A : AW) (t : TypeId) (m k : Value) (ok : Bool) : Option Value := (tmapA P t).bind fun te => (P.underlying te.1).bind fun d => if isKeyA d k = true then
    (foundM A d k m).bind fun r => (match r with
      | some (_, v) => some (if ok = true then .tuple #[v, .bool true] else v)
      | none => (tzero P te.2).bind fun z => if cv z = true then some (if ok = true then .tuple #[z, .bool false] else z) else none) else none
theorem lookupA_sound {t : TypeId} {m m' k k' v : Value} {ok : Bool} (h : Inv w0 σ η A w) (hm : VR σ η m m') (hk : VR σ η k k') (hl : lookupA P A t m k ok = some v) : ∃ v', (Instr.lookup t m' k' ok).run P w = .ok v' w ∧ VR σ η v v' := by
  unfold lookupA at hl
  obtain ⟨⟨kt, et⟩, ht, hl⟩ := Option.bind_eq_some_iff.1 hl
  obtain ⟨d, hd, hl⟩ := Option.bind_eq_some_iff.1 hl
  split at hl
  · rename_i hkey
    obtain rfl := isKeyA_eq hkey hk
    have hik := isKeyA_key hkey
    have htu := tmapA_some ht
    obtain ⟨r, hr, hl⟩ := Option.bind_eq_some_iff.1 hl
    have tup : ∀ {a b : Value} {c : Bool}, VR σ η a b → VR σ η (if ok = true then .tuple #[a, .bool c] else a) (if ok = true then .tuple #[b, .bool c] else b) := fun {a b c} hab => by
      split
      · have := VRs.tuple (VRs.cons hab (VRs.cons (.bool c) .nil)); simpa using this
      · exact hab
    unfold foundM at hr
    split at hr
    · cases hr
      simp only at hl
      obtain ⟨z, hz, hl⟩ := Option.bind_eq_some_iff.1 hl
      split at hl
      · rename_i hcv
        cases hl
        cases hm
        have h1 : Instr.findNow d k' ([] : List MapEntry) 0 = some none := rfl
        refine ⟨_, ?_, tup (VR.cv hcv)⟩
        simp [Instr.lookup, run_underlying htu, Go.MapKept.run_checkKey hd hik, Go.MapKept.run_findKey hd h1, run_tzero hz, Result.andThen]
      · cases hl
    · obtain ⟨mm, hg, hr⟩ := Option.bind_eq_some_iff.1 hr
      obtain ⟨x, es, hx, rfl, hb, ho, hrr⟩ := map_at h hm hg
      rcases findA_sound (by rw [Array.length_toList]; exact hrr.1) (fun i e x he hx => hrr.2 i e x he (by simpa using hx)) hr with ⟨rfl, h1⟩ | ⟨j2, e, y, rfl, h1, h2, h3, h4, h5⟩
      · simp only at hl
        obtain ⟨z, hz, hl⟩ := Option.bind_eq_some_iff.1 hl
        split at hl
        · rename_i hcv
          cases hl
          refine ⟨_, ?_, tup (VR.cv hcv)⟩
          simp [Instr.lookup, run_underlying htu, Go.MapKept.run_getObj_map ho, Go.MapKept.run_checkKey hd hik, Go.MapKept.run_findKey hd h1, run_tzero hz, Result.andThen]
        · cases hl
      · simp only [Option.some.injEq] at hl
        subst hl
        refine ⟨_, ?_, tup h4.val⟩
        simp [Instr.lookup, run_underlying htu, Go.MapKept.run_getObj_map ho, Go.MapKept.run_checkKey hd hik, Go.MapKept.run_findKey hd h1, Result.andThen]
    · cases hr
  · cases hl
theorem MapR.push {l : List (Value × Value × Nat)} {es : Array MapEntry} (h : MapR σ η l es) {e : Value × Value × Nat} {x : MapEntry} (he : EntR σ η e x) : MapR σ η (l ++ [e]) (es.push x) := by
  refine ⟨by simp [h.1], fun i a b ha hb => ?_⟩
  by_cases hi : i < l.length
  · rw [List.getElem?_append_left hi] at ha
    rw [Array.getElem?_push, if_neg (by have := h.1; omega)] at hb
    exact h.2 i a b ha hb
  · have hil := (List.getElem?_eq_some_iff.1 ha).1
    simp at hil
    obtain rfl : i = l.length := by omega
    rw [List.getElem?_append_right (Nat.le_refl _)] at ha
    rw [h.1] at hb
    simp at ha hb
    subst ha hb
    exact he
theorem MapR.modify {l : List (Value × Value × Nat)} {es : Array MapEntry} (h : MapR σ η l es) (i : Nat) {f : Value × Value × Nat → Value × Value × Nat} {g : MapEntry → MapEntry} (hf : ∀ e x, l[i]? = some e → es[i]? = some x → EntR σ η (f e) (g x)) : MapR σ η (modL l i f) (es.modify i g) := by
  refine ⟨by rw [modL_length]; simpa using h.1, fun j a b ha hb => ?_⟩
  rw [modL_get] at ha
  rw [Array.getElem?_modify] at hb
  split at ha
  · rename_i e
    subst e
    rw [if_pos rfl] at hb
    obtain ⟨u, hu, rfl⟩ := Option.map_eq_some_iff.1 ha
    obtain ⟨v, hv, rfl⟩ := Option.map_eq_some_iff.1 hb
    exact hf u v hu hv
  · rename_i e
    rw [if_neg e] at hb
    exact h.2 j a b ha hb
def updA (P : Program) (A : AW) (t : TypeId) (m k v : Value) : Option AW := match m with
  | .map (some j) => (tmapA P t).bind fun te => (P.underlying te.1).bind fun d => if isKeyA d k = true then (mapOf A j).bind fun mm => (findA d k mm.1 0).map fun r =>
      { A with maps := A.maps.set j (some (match r with | some (i, _) => .map (modL mm.1 i fun e => (k, v, e.2.2)) mm.2 | none => .map (mm.1 ++ [(k, v, mm.2)]) (mm.2 + 1))) } else none
  | _ => none
theorem updA_sound {t : TypeId} {m m' k k' v v' : Value} {A' : AW} (h : Inv w0 σ η A w) (hm : VR σ η m m') (hk : VR σ η k k') (hv : VR σ η v v') (hl : updA P A t m k v = some A') : ∃ w', (Instr.mapUpdate t m' k' v').run P w = .ok () w' ∧ Inv w0 σ η A' w' ∧ Step σ σ A A' w w' := by
  unfold updA at hl
  split at hl
  · rename_i j
    obtain ⟨⟨kt, et⟩, ht, hl⟩ := Option.bind_eq_some_iff.1 hl
    obtain ⟨d, hd, hl⟩ := Option.bind_eq_some_iff.1 hl
    split at hl
    · rename_i hkey
      obtain rfl := isKeyA_eq hkey hk
      have hik := isKeyA_key hkey
      have htu := tmapA_some ht
      obtain ⟨mm, hg, hl⟩ := Option.bind_eq_some_iff.1 hl
      obtain ⟨r, hr, rfl⟩ := Option.map_eq_some_iff.1 hl
      obtain ⟨x, es, hx, rfl, hb, ho, hrr⟩ := map_at h hm hg
      rcases findA_sound (by rw [Array.length_toList]; exact hrr.1) (fun i e x he hx => hrr.2 i e x he (by simpa using hx)) hr with ⟨rfl, h1⟩ | ⟨j2, e, y, rfl, h1, h2, h3, h4, h5⟩
      · obtain ⟨q1, q2⟩ := setMap (m2 := (mm.1 ++ [(k', v, mm.2)], mm.2 + 1)) h hg hx hb ho (hrr.push (x := { key := k', val := v', born := mm.2 }) ⟨rfl, hv, rfl⟩)
        refine ⟨_, ?_, q1, q2⟩
        simp [Instr.mapUpdate, run_underlying htu, Go.MapKept.run_getObj_map ho, Go.MapKept.run_checkKey hd hik, Go.MapKept.run_findKey hd h1, Go.MapKept.run_setObj_map _ ho, Result.andThen]
      · simp only [Nat.zero_add] at h1
        have hj : es[j2]? = some y := by simpa using h3
        obtain ⟨q1, q2⟩ := setMap (m2 := (modL mm.1 j2 fun e => (k', v, e.2.2), mm.2)) h hg hx hb ho (hrr.modify j2 (g := fun e => { e with key := k', val := v' }) fun e x he hx => ⟨rfl, hv, (hrr.2 _ _ _ he hx).born⟩)
        simp only [Nat.zero_add]
        refine ⟨_, ?_, q1, q2⟩
        simp [Instr.mapUpdate, run_underlying htu, Go.MapKept.run_getObj_map ho, Go.MapKept.run_checkKey hd hik, Go.MapKept.run_findKey hd h1, hj, h5, Go.MapKept.run_keyThatStays hik, Go.MapKept.run_setObj_map _ ho, Result.andThen]
    · cases hl
  · cases hl
def entA (P : Program) (A : AW) (t : TypeId) (m k : Value) : Option (Value × AW) := match m with
  | .map (some j) => (tmapA P t).bind fun te => (P.underlying te.1).bind fun d => if isKeyA d k = true then (mapOf A j).bind fun mm => (findA d k mm.1 0).bind fun r =>
      (match r with
        | some (i, v) => (mm.1[i]?).map fun e => (.tuple #[v, .int .i64 e.2.2], { A with maps := A.maps.set j (some (.map (modL mm.1 i fun e => (k, e.2)) mm.2)) })
        | none => (tzero P te.2).bind fun z => if cv z = true then some (.tuple #[z, (.int .i64 mm.2)], { A with maps := A.maps.set j (some (.map (mm.1 ++ [(k, z, mm.2)]) (mm.2 + 1))) }) else none) else none
  | _ => none
theorem entA_sound {t : TypeId} {m m' k k' v : Value} {A' : AW} (h : Inv w0 σ η A w) (hm : VR σ η m m') (hk : VR σ η k k') (hl : entA P A t m k = some (v, A')) : ∃ v' w', (Instr.mapEntry t m' k').run P w = .ok v' w' ∧ VR σ η v v' ∧ Inv w0 σ η A' w' ∧ Step σ σ A A' w w' := by
  unfold entA at hl
  split at hl
  · rename_i j
    obtain ⟨⟨kt, et⟩, ht, hl⟩ := Option.bind_eq_some_iff.1 hl
    obtain ⟨d, hd, hl⟩ := Option.bind_eq_some_iff.1 hl
    split at hl
    · rename_i hkey
      obtain rfl := isKeyA_eq hkey hk
      have hik := isKeyA_key hkey
      have htu := tmapA_some ht
      obtain ⟨mm, hg, hl⟩ := Option.bind_eq_some_iff.1 hl
      obtain ⟨r, hr, hl⟩ := Option.bind_eq_some_iff.1 hl
      obtain ⟨x, es, hx, rfl, hb, ho, hrr⟩ := map_at h hm hg
      have tup : ∀ {a b : Value} {c : Int}, VR σ η a b → VR σ η (.tuple #[a, .int .i64 c]) (.tuple #[b, .int .i64 c]) := fun {a b c} hab => by
        have := VRs.tuple (VRs.cons hab (VRs.cons (.int .i64 c) .nil)); simpa using this
      rcases findA_sound (by rw [Array.length_toList]; exact hrr.1) (fun i e x he hx => hrr.2 i e x he (by simpa using hx)) hr with ⟨rfl, h1⟩ | ⟨j2, e, y, rfl, h1, h2, h3, h4, h5⟩
      · simp only at hl
        obtain ⟨z, hz, hl⟩ := Option.bind_eq_some_iff.1 hl
        split at hl
        · rename_i hcv
          cases hl
          obtain ⟨q1, q2⟩ := setMap (m2 := (mm.1 ++ [(k', z, mm.2)], mm.2 + 1)) h hg hx hb ho (hrr.push (x := { key := k', val := z, born := mm.2 }) ⟨rfl, VR.cv hcv, rfl⟩)
          refine ⟨_, _, ?_, tup (VR.cv hcv), q1, q2⟩
          simp [Instr.mapEntry, run_underlying htu, Go.MapKept.run_getObj_map ho, Go.MapKept.run_checkKey hd hik, Go.MapKept.run_findKey hd h1, run_tzero hz, Go.MapKept.run_setObj_map _ ho, goInt, Result.andThen]
        · cases hl
      · simp only [Nat.zero_add] at h1 hl
        have hj : es[j2]? = some y := by simpa using h3
        rw [h2] at hl
        simp only [Option.map_some,Option.some.injEq,Prod.mk.injEq] at hl
        obtain ⟨rfl, rfl⟩ := hl
        obtain ⟨q1, q2⟩ := setMap (m2 := (modL mm.1 j2 fun e => (k', e.2), mm.2)) h hg hx hb ho (hrr.modify j2 (g := fun e => { e with key := k' }) fun e x he hx => ⟨rfl, (hrr.2 _ _ _ he hx).val, (hrr.2 _ _ _ he hx).born⟩)
        refine ⟨_, _, ?_, tup h4.val, q1, q2⟩
        simp [Instr.mapEntry, run_underlying htu, Go.MapKept.run_getObj_map ho, Go.MapKept.run_checkKey hd hik, Go.MapKept.run_findKey hd h1, hj, h5, h4.born, Go.MapKept.run_keyThatStays hik, Go.MapKept.run_setObj_map _ ho, goInt, Result.andThen]
    · cases hl
  · cases hl
def estA (A : AW) (m st v : Value) : Option AW := match m, st with
  | .map (some j), .int _ n => (mapOf A j).bind fun mm => (mm.1.findIdx? fun e => (e.2.2 : Int) == n).map fun i => { A with maps := A.maps.set j (some (.map (modL mm.1 i fun e => (e.1, v, e.2.2)) mm.2)) }
  | _, _ => none
theorem born_idx {l : List (Value × Value × Nat)} {es : Array MapEntry} (h : MapR σ η l es) (n : Int) : es.findIdx? (fun e => (e.born : Int) == n) = l.findIdx? fun e => (e.2.2 : Int) == n := by
  have hm : es.toList.map (·.born) = l.map fun e => e.2.2 := by
    apply List.ext_getElem?
    intro i
    simp only [List.getElem?_map,Array.getElem?_toList]
    by_cases hi : i < l.length
    · have hi2 : i < es.size := by rw [← h.1]; exact hi
      rw [List.getElem?_eq_getElem hi, Array.getElem?_eq_getElem hi2]
      have := h.2 i _ _ (List.getElem?_eq_getElem hi) (Array.getElem?_eq_getElem hi2)
      simp [this.born]
    · rw [List.getElem?_eq_none (by omega), Array.getElem?_eq_none (by have := h.1; omega)]
      rfl
  have e0 : es.findIdx? (fun e => (e.born : Int) == n) = es.toList.findIdx? (fun e => (e.born : Int) == n) := by obtain ⟨l⟩ := es; exact List.findIdx?_toArray _ l
  have e1 : es.toList.findIdx? (fun e => (e.born : Int) == n) = (es.toList.map (·.born)).findIdx? (fun (b : Nat) => (b : Int) == n) := by rw [List.findIdx?_map]; rfl
  have e2 : l.findIdx? (fun e => (e.2.2 : Int) == n) = (l.map fun e => e.2.2).findIdx? (fun (b : Nat) => (b : Int) == n) := by rw [List.findIdx?_map]; rfl
  rw [e0, e1, e2, hm]
theorem estA_sound {t : TypeId} {m m' k k' v v' : Value} {A' : AW} (h : Inv w0 σ η A w) (hm : VR σ η m m') (hk : VR σ η k k') (hv : VR σ η v v') (hl : estA A m k v = some A') : ∃ w', (Instr.entryStore t m' k' v').run P w = .ok () w' ∧ Inv w0 σ η A' w' ∧ Step σ σ A A' w w' := by
  unfold estA at hl
  split at hl
  · rename_i j _ n
    cases hk
    obtain ⟨mm, hg, hl⟩ := Option.bind_eq_some_iff.1 hl
    obtain ⟨i, hi, rfl⟩ := Option.map_eq_some_iff.1 hl
    obtain ⟨x, es, hx, rfl, hb, ho, hrr⟩ := map_at h hm hg
    rw [← born_idx hrr] at hi
    obtain ⟨q1, q2⟩ := setMap (m2 := (modL mm.1 i fun e => (e.1, v, e.2.2), mm.2)) h hg hx hb ho (hrr.modify i (g := fun e => { e with val := v' }) fun e x he hx => ⟨(hrr.2 _ _ _ he hx).key, hv, (hrr.2 _ _ _ he hx).born⟩)
    refine ⟨_, ?_, q1, q2⟩
    simp [Instr.entryStore, Go.MapKept.run_getObj_map ho, asInt, asIntOf, hi, Go.MapKept.run_setObj_map _ ho, Result.andThen]
  · cases hl
def lenMA (P : Program) (A : AW) (t : TypeId) (m : Value) : Option Value := (tmapA P t).bind fun _ => match m with
  | .map none => some (.int .i64 0)
  | .map (some j) => (mapOf A j).map fun mm => .int .i64 mm.1.length
  | _ => none
theorem lenMA_sound {t ty : TypeId} {m m' v : Value} (h : Inv w0 σ η A w) (hm : VR σ η m m') (hl : lenMA P A t m = some v) : ∃ v', (Builtin.len_ #[t] ty #[m']).run P w = .ok v' w ∧ VR σ η v v' := by
  unfold lenMA at hl
  obtain ⟨⟨kt, et⟩, ht, hl⟩ := Option.bind_eq_some_iff.1 hl
  have htu := tmapA_some ht
  split at hl
  · cases hl
    cases hm
    exact ⟨_, by simp [Builtin.len_, run_underlying htu, goInt, Result.andThen], .int _ _⟩
  · obtain ⟨mm, hg, rfl⟩ := Option.map_eq_some_iff.1 hl
    obtain ⟨x, es, hx, rfl, hb, ho, hrr⟩ := map_at h hm hg
    refine ⟨.int .i64 es.size, by simp [Builtin.len_, run_underlying htu, Go.MapKept.run_getObj_map ho, goInt, Result.andThen], ?_⟩
    rw [hrr.1]
    exact .int _ _
  · cases hl
def delA (P : Program) (A : AW) (t : TypeId) (m k : Value) : Option AW := match m with
  | .map (some j) => (tmapA P t).bind fun te => (P.underlying te.1).bind fun d => if isKeyA d k = true then (mapOf A j).bind fun mm => (findA d k mm.1 0).map fun r =>
      { A with maps := A.maps.set j (some (match r with | some (i, _) => .map (delL mm.1 i) mm.2 | none => .map mm.1 mm.2)) } else none
  | _ => none
theorem MapR.erase {l : List (Value × Value × Nat)} {es : Array MapEntry} (h : MapR σ η l es) (i : Nat) : MapR σ η (delL l i) (es.eraseIdxIfInBounds i) := by
  rw [delL_eq]
  have e : (es.eraseIdxIfInBounds i).toList = es.toList.eraseIdx i := by
    unfold Array.eraseIdxIfInBounds
    split
    · simp
    · rename_i hi
      rw [List.eraseIdx_of_length_le (by simpa using hi)]
  refine ⟨?_, fun j a b ha hb => ?_⟩
  · show (l.eraseIdx i).length = (es.eraseIdxIfInBounds i).size
    rw [← Array.length_toList, e]
    simp only [List.length_eraseIdx,Array.length_toList,h.1]
  · rw [← Array.getElem?_toList, e] at hb
    rw [List.getElem?_eraseIdx] at ha hb
    split at ha
    · rename_i hj
      rw [if_pos hj] at hb
      exact h.2 j a b ha (by simpa using hb)
    · rename_i hj
      rw [if_neg hj] at hb
      exact h.2 (j + 1) a b ha (by simpa using hb)
theorem delA_sound {t t2 ty : TypeId} {m m' k k' : Value} {A' : AW} (h : Inv w0 σ η A w) (hm : VR σ η m m') (hk : VR σ η k k') (hl : delA P A t m k = some A') : ∃ w', (Builtin.delete_ #[t, t2] ty #[m', k']).run P w = .ok undef w' ∧ Inv w0 σ η A' w' ∧ Step σ σ A A' w w' := by
  unfold delA at hl
  split at hl
  · rename_i j
    obtain ⟨⟨kt, et⟩, ht, hl⟩ := Option.bind_eq_some_iff.1 hl
    obtain ⟨d, hd, hl⟩ := Option.bind_eq_some_iff.1 hl
    split at hl
    · rename_i hkey
      obtain rfl := isKeyA_eq hkey hk
      have hik := isKeyA_key hkey
      have htu := tmapA_some ht
      obtain ⟨mm, hg, hl⟩ := Option.bind_eq_some_iff.1 hl
      obtain ⟨r, hr, rfl⟩ := Option.map_eq_some_iff.1 hl
      obtain ⟨x, es, hx, rfl, hb, ho, hrr⟩ := map_at h hm hg
      rcases findA_sound (by rw [Array.length_toList]; exact hrr.1) (fun i e x he hx => hrr.2 i e x he (by simpa using hx)) hr with ⟨rfl, h1⟩ | ⟨j2, e, y, rfl, h1, h2, h3, h4, h5⟩
      · obtain ⟨q1, q2⟩ := setMap (m2 := mm) h hg hx hb ho hrr
        refine ⟨_, ?_, q1, q2⟩
        simp [Builtin.delete_, run_underlying htu, Go.MapKept.run_getObj_map ho, Go.MapKept.run_checkKey hd hik, Go.MapKept.run_findKey hd h1, Go.MapKept.run_setObj_map _ ho, Result.andThen, undef]
      · simp only [Nat.zero_add] at h1
        obtain ⟨q1, q2⟩ := setMap (m2 := (delL mm.1 j2, mm.2)) h hg hx hb ho (hrr.erase j2)
        simp only [Nat.zero_add]
        refine ⟨_, ?_, q1, q2⟩
        simp [Builtin.delete_, run_underlying htu, Go.MapKept.run_getObj_map ho, Go.MapKept.run_checkKey hd hik, Go.MapKept.run_findKey hd h1, Go.MapKept.run_setObj_map _ ho, Result.andThen, undef]
    · cases hl
  · cases hl
def rangeA (P : Program) (A : AW) (t : TypeId) (m : Value) : Option (Value × AW) := (tmapA P t).bind fun _ => match m with
  | .map (some j) => (mapOf A j).map fun mm => (.pointer (some ⟨(mkThing A (.iter j mm.2 [] mm.2)).1, 0, none⟩), (mkThing A (.iter j mm.2 [] mm.2)).2)
  | _ => none
theorem rangeA_sound {t : TypeId} {m m' v : Value} {A' : AW} (h : Inv w0 σ η A w) (hm : VR σ η m m') (hl : rangeA P A t m = some (v, A')) : ∃ v' w' σ', (Instr.range t m').run P w = .ok v' w' ∧ VR σ' η v v' ∧ Inv w0 σ' η A' w' ∧ Step σ σ' A A' w w' := by
  unfold rangeA at hl
  obtain ⟨⟨kt, et⟩, ht, hl⟩ := Option.bind_eq_some_iff.1 hl
  have htu := tmapA_some ht
  split at hl
  · rename_i j _
    obtain ⟨mm, hg, hl⟩ := Option.map_eq_some_iff.1 hl
    obtain ⟨x, es, hx, rfl, hb, ho, hrr⟩ := map_at h hm hg
    simp only [Prod.mk.injEq] at hl
    obtain ⟨rfl, rfl⟩ := hl
    obtain ⟨σ', h1, h2, h3⟩ := mkThing_sound (m := .iter j mm.2 [] mm.2) (o := .mapIter (some x.b) mm.2 #[] mm.2) h ⟨⟨x, hx, rfl⟩, rfl, rfl, rfl⟩
    refine ⟨_, _, σ', ?_, .ptr h1, h2, h3⟩
    simp [Instr.range, run_underlying htu, Go.MapKept.run_getObj_map ho, newObj, Sem.run, Result.andThen]
  · cases hl
theorem filt_r (p : Nat → Bool) : ∀ {l : List (Value × Value × Nat)} {xs : List MapEntry}, l.length = xs.length → (∀ (i : Nat) e x, l[i]? = some e → xs[i]? = some x → EntR σ η e x) →
    ((l.filter fun e => p e.2.2).length = (xs.filter fun x => p x.born).length ∧ (∀ (i : Nat) e x, (l.filter fun e => p e.2.2)[i]? = some e → (xs.filter fun x => p x.born)[i]? = some x → EntR σ η e x)) ∧ (l.all fun e => p e.2.2) = xs.all fun x => p x.born
  | [], [], _, _ => ⟨⟨rfl, fun i e x h => by simp at h⟩, rfl⟩
  | e :: l, x :: xs, hl, hr => by
    have h0 := hr 0 e x rfl rfl
    obtain ⟨⟨h1, h2⟩, h3⟩ := filt_r p (l := l) (xs := xs) (by simpa using hl) (fun j a b ha hb => hr (j + 1) a b (by simpa using ha) (by simpa using hb))
    refine ⟨?_, by simp only [List.all_cons,h3,h0.born]⟩
    simp only [List.filter_cons,h0.born]
    split
    · refine ⟨by simp [h1], fun i a b ha hb => ?_⟩
      cases i with
      | zero => simp at ha hb; subst ha hb; exact h0
      | succ i => exact h2 i a b (by simpa using ha) (by simpa using hb)
    · exact ⟨h1, h2⟩
  | [], _ :: _, hl, _ => by simp at hl
  | _ :: _, [], hl, _ => by simp at hl
def nextA (A : AW) : Value → Option (Value × AW)
  | .pointer (some ⟨j, 0, none⟩) => match A.maps.get j with
    | some (.iter m since seen last) => (mapOf A m).bind fun mm =>
      if (!seen.isEmpty && !mm.1.isEmpty && mm.1.all fun e => Nat.ble last e.2.2) = true then none else
      match mm.1.filter fun e => !seen.contains e.2.2 with
      | [] => some (.tuple #[.bool false], A)
      | [e] => if (Nat.blt e.2.2 since && cvA e.1) = true then some (.tuple #[.bool true, e.1, e.2.1], { A with maps := A.maps.set j (some (.iter m since (seen ++ [e.2.2]) mm.2)) }) else none
      | _ => none
    | _ => none
  | _ => none
theorem run_next {P : Program} {w : World} {r m since last clock : Nat} {seen : Array Nat} {es left old new : Array MapEntry} {c : Option MapEntry} {ty : TypeId} (hr : w.heap[r]? = some (.mapIter (some m) since seen last)) (hm : w.heap[m]? = some (.map es clock))
    (hn : ¬ (!seen.isEmpty && !es.isEmpty && es.all (·.born ≥ last)) = true) (hleft : left = es.filter fun e => !seen.contains e.born) (hold : old = left.filter (·.born < since)) (hnew : new = left.filter (·.born ≥ since))
    (hc : (if old.isEmpty then #[none] else #[]) ++ (old ++ new).map some = #[c]) :
    (Instr.next (.pointer (some ⟨r, 0, none⟩)) false ty).run P w = (match c with
      | some e => .ok (.tuple #[.bool true, e.key, e.val]) { w with heap := w.heap.setIfInBounds r (.mapIter (some m) since (seen.push e.born) clock) }
      | none => .ok (.tuple #[.bool false]) w) := by
  subst hleft hold hnew
  have g1 : (getObj r).run P w = .ok (.mapIter (some m) since seen last) w := by simp [getObj, Sem.run, hr]
  have g2 := Go.MapKept.run_getObj_map (P := P) hm
  have g3 : ∀ o, (setObj r o).run P w = .ok () { w with heap := w.heap.setIfInBounds r o } := fun o => by simp [setObj, Sem.run, hr]
  have hq : (choose (.mapNext 1)).run P w = .ok 0 w := by simp [choose, Sem.run, Question.forced]
  unfold Instr.next
  simp only [Sem.run_bind,g1,Result.andThen,g2,if_neg hn,Sem.run_pure,hc,List.size_toArray,List.length_cons,List.length_nil,Nat.zero_add,hq]
  cases c <;> simp [Sem.run_bind, g3, Result.andThen]
theorem nextA_sound {it it' v : Value} {ty : TypeId} {A' : AW} (h : Inv w0 σ η A w) (hi : VR σ η it it') (hl : nextA A it = some (v, A')) : ∃ v' w', (Instr.next it' false ty).run P w = .ok v' w' ∧ VR σ η v v' ∧ Inv w0 σ η A' w' ∧ Step σ σ A A' w w' := by
  unfold nextA at hl
  split at hl
  · rename_i j
    split at hl
    · rename_i m since seen last hgi
      obtain ⟨mm, hg, hl2⟩ := Option.bind_eq_some_iff.1 hl
      clear hl
      split at hl2
      · cases hl2
      · rename_i hcond
        obtain ⟨xi, oi, hxi, hbi, hoi, hri⟩ := h.mp.1 j _ hgi
        cases oi <;> simp only [ObjR] at hri
        rename_i m' since' seen' last'
        obtain ⟨⟨xm, hxm, rfl⟩, rfl, hseen, rfl⟩ := hri
        obtain ⟨x, es, hx, hxe, hb, ho, hrr⟩ := map_at h (.map hxm) hg
        rw [hxm] at hx
        cases hx
        cases hi with
        | ptr hj =>
          rw [hxi] at hj
          cases hj
          obtain ⟨seenL⟩ := seen'
          simp only at hseen
          subst hseen
          have hlen : mm.1.length = es.toList.length := by rw [Array.length_toList]; exact hrr.1
          have hidx : ∀ (i : Nat) e x, mm.1[i]? = some e → es.toList[i]? = some x → EntR σ η e x := fun i e x he hx => hrr.2 i e x he (by simpa using hx)
          obtain ⟨_, hall⟩ := filt_r (fun b => Nat.ble last' b) hlen hidx
          obtain ⟨⟨hf1, hf2⟩, _⟩ := filt_r (fun b => !seenL.contains b) hlen hidx
          have hn : ¬ (!(⟨seenL⟩ : Array Nat).isEmpty && !es.isEmpty && es.all (·.born ≥ last')) = true := by
            intro hh
            apply hcond
            simp only [Bool.and_eq_true,Bool.not_eq_true'] at hh ⊢
            refine ⟨⟨by simpa using hh.1.1, ?_⟩, ?_⟩
            · have := hh.1.2
              cases hm0 : mm.1 with
              | nil => rw [hm0] at hrr; have := hrr.1; simp at this; simp_all [Array.isEmpty]
              | cons => rfl
            · rw [hall]
              have := hh.2
              rw [← Array.all_toList] at this
              rw [List.all_eq_true] at this ⊢
              intro x hx
              have := this x hx
              simp only [decide_eq_true_eq] at this
              exact Nat.ble_eq_true_of_le this
          have hfl : ∀ ys, (es.toList.filter fun x => !seenL.contains x.born) = ys → (es.filter fun e => !(⟨seenL⟩ : Array Nat).contains e.born) = ys.toArray := fun ys hys => by
            rw [← hys]
            apply Array.toList_inj.1
            simp
          split at hl2
          · rename_i hnil
            rw [hnil] at hf1
            have hz := hfl [] (by simpa using hf1.symm)
            cases hl2
            refine ⟨_, w, run_next (c := none) (ty := ty) hoi ho hn rfl rfl rfl (by rw [hz]; simp), ?_, h, Step.refl _ _ _⟩
            have := VRs.tuple (σ := σ) (η := η) (VRs.cons (.bool false) .nil); simpa using this
          · rename_i e hone
            split at hl2
            · rename_i hcv
              simp only [Bool.and_eq_true] at hcv
              obtain ⟨hlt, hcv⟩ := hcv
              have hlt : e.2.2 < since' := Nat.lt_of_lt_of_le (Nat.lt_succ_self _) (Nat.le_of_ble_eq_true hlt)
              rw [hone] at hf1 hf2
              obtain ⟨y, hy⟩ : ∃ y, (es.toList.filter fun x => !seenL.contains x.born) = [y] := List.length_eq_one_iff.1 (by simpa using hf1.symm)
              have hz := hfl _ hy
              have hey := hf2 0 e y rfl (by rw [hy]; rfl)
              cases hl2
              have hby : y.born < since' := by rw [hey.born]; exact hlt
              have hby2 : ¬ since' ≤ y.born := by omega
              obtain ⟨q1, q2⟩ := setThing (m2 := .iter m since' (seenL ++ [e.2.2]) mm.2) (o2 := .mapIter (some xm.b) since' ((⟨seenL⟩ : Array Nat).push y.born) mm.2) h hgi hxi hbi hoi (fun _ _ _ he => by cases he) ⟨⟨xm, hxm, rfl⟩, rfl, by simp [hey.born], rfl⟩
              refine ⟨_, _, run_next (c := some y) (ty := ty) hoi ho hn rfl rfl rfl (by rw [hz]; simp [hby, hby2]), ?_, q1, q2⟩
              have := VRs.tuple (σ := σ) (η := η) (VRs.cons (.bool true) (VRs.cons (VR.cvA hcv) (VRs.cons hey.val .nil)))
              rw [hey.key]
              simpa using this
            · cases hl2
          · cases hl2
    · cases hl
  · cases hl
theorem lenMA_none {t : TypeId} {m m' v : Value} (hm : VR σ η m m') (hl : lenMA P A t m = some v) : lenV P t m' = none := by
  unfold lenMA at hl
  obtain ⟨_, _, hl⟩ := Option.bind_eq_some_iff.1 hl
  split at hl
  · cases hm; rfl
  · cases hm; rfl
  · cases hl
def findB (s : Nat) : List (Value × Value × Nat) → Option (Value × Value × Nat)
  | [] => none
  | e :: l => if Nat.beq e.2.2 s = true then some e else findB s l
theorem findB_sound {s : Nat} : ∀ {l : List (Value × Value × Nat)} {xs : List MapEntry} {e : Value × Value × Nat}, l.length = xs.length → (∀ (i : Nat) e x, l[i]? = some e → xs[i]? = some x → EntR σ η e x) → findB s l = some e →
    ∃ x, xs.find? (fun x => x.born == s) = some x ∧ EntR σ η e x
  | [], _, e, _, _, h => by cases h
  | a :: l, [], e, hl, _, h => by simp at hl
  | a :: l, x :: xs, e, hl, hr, h => by
    have hx := hr 0 a x rfl rfl
    simp only [findB] at h
    split at h
    · rename_i hb
      cases h
      exact ⟨x, by simp [List.find?, hx.born, Nat.eq_of_beq_eq_true hb], hx⟩
    · rename_i hb
      have hne : (x.born == s) = false := by
        rw [hx.born]
        cases hc : (a.2.2 == s) with
        | false => rfl
        | true => exact absurd (by simpa using hc) (by intro he; apply hb; rw [he]; exact Nat.beq_refl s)
      obtain ⟨y, h1, h2⟩ := findB_sound (l := l) (xs := xs) (by simpa using hl) (fun i e x he hx => hr (i + 1) e x (by simpa using he) (by simpa using hx)) h
      exact ⟨y, by simp [List.find?, hne, h1], h2⟩
def entryA (A : AW) : Value → Option Value
  | .pointer (some ⟨j, 0, none⟩) => match A.maps.get j with
    | some (.iter m since seen last) => (mapOf A m).bind fun mm => (seen.getLast?).bind fun s => if mm.2 = last then (findB s mm.1).bind fun e => if cvA e.1 = true then some (.tuple #[e.1, e.2.1]) else none else none
    | _ => none
  | _ => none
theorem entryA_sound {it it' v : Value} (h : Inv w0 σ η A w) (hi : VR σ η it it') (hl : entryA A it = some v) : ∃ v', (Instr.entry it').run P w = .ok v' w ∧ VR σ η v v' := by
  unfold entryA at hl
  split at hl
  · rename_i j
    split at hl
    · rename_i m since seen last hgi
      obtain ⟨mm, hg, hl⟩ := Option.bind_eq_some_iff.1 hl
      obtain ⟨s, hs, hl⟩ := Option.bind_eq_some_iff.1 hl
      split at hl
      · rename_i hck
        obtain ⟨e, he, hl⟩ := Option.bind_eq_some_iff.1 hl
        split at hl
        · rename_i hcv
          cases hl
          obtain ⟨xi, oi, hxi, hbi, hoi, hri⟩ := h.mp.1 j _ hgi
          cases oi <;> simp only [ObjR] at hri
          rename_i m' since' seen' last'
          obtain ⟨⟨xm, hxm, rfl⟩, rfl, hseen, rfl⟩ := hri
          obtain ⟨x, es, hx, hxe, hb, ho, hrr⟩ := map_at h (.map hxm) hg
          rw [hxm] at hx
          cases hx
          cases hi with
          | ptr hj =>
            rw [hxi] at hj
            cases hj
            obtain ⟨y, hy, hey⟩ := findB_sound (xs := es.toList) (by rw [Array.length_toList]; exact hrr.1) (fun i e x he hx => hrr.2 i e x he (by simpa using hx)) he
            have hy2 : es.find? (fun x => x.born == s) = some y := by rw [← Array.find?_toList]; exact hy
            have hback : seen'.back? = some s := by rw [← Array.getLast?_toList, hseen]; exact hs
            have g1 : (getObj xi.b).run P w = .ok (.mapIter (some xm.b) since' seen' last') w := by simp [getObj, Sem.run, hoi]
            have g2 := Go.MapKept.run_getObj_map (P := P) ho
            refine ⟨.tuple #[y.key, y.val], ?_, ?_⟩
            · unfold Instr.entry
              simp [Sem.run_bind, g1, Result.andThen, hback, g2, hck, hy2]
            · rw [hey.key]
              have := VRs.tuple (σ := σ) (η := η) (VRs.cons (VR.cvA hcv) (VRs.cons hey.val .nil))
              simpa using this
        · cases hl
      · cases hl
    · cases hl
  · cases hl
def clearA (P : Program) (A : AW) (t : TypeId) : Value → Option AW
  | .slice none _ _ => if (telem P t).isSome = true then some A else none
  | .slice (some ⟨j, o, none⟩) n _ => (telem P t).bind fun e => if n = 0 then some A else (tzero P e).bind fun z => (A.rows.get j).bind fun r =>
      if cv z = true ∧ z.cells.toList.all ZK = true ∧ o + (List.replicate n z.cells.toList).flatten.length ≤ r.cs.length ∧ r.own = true then
        some { A with rows := A.rows.set j (some { r with cs := splice r.cs o (List.replicate n z.cells.toList).flatten, st := r.st + 1 }) } else none
  | _ => none
theorem zeroCells_list (z : Array Value) (n : Nat) : (Builtin.zeroCells z n).toList = (List.replicate n z.toList).flatten := by
  have := rep_cells z n z.size (by simp)
  rw [← this]
  rfl
theorem clearA_sound {t ty : TypeId} {x x' : Value} {A' : AW} (h : Inv w0 σ η A w) (hx : VR σ η x x') (ha : clearA P A t x = some A') : ∃ w', (Builtin.clear_ #[t] ty #[x']).run P w = .ok undef w' ∧ Inv w0 σ η A' w' ∧ Step σ σ A A' w w' := by
  unfold clearA at ha
  split at ha
  · split at ha
    · rename_i he
      cases ha
      obtain ⟨e, he⟩ := Option.isSome_iff_exists.1 he
      cases hx
      exact ⟨w, by simp [Builtin.clear_, run_underlying (telem_some he), undef], h, Step.refl _ _ _⟩
    · cases ha
  · rename_i j o n c
    obtain ⟨e, he, ha⟩ := Option.bind_eq_some_iff.1 ha
    cases hx with
    | slc hj ho hm hn e1 e2 =>
      rename_i c' o' xe
      split at ha
      · rename_i h0
        cases ha
        subst h0
        exact ⟨w, by simp [Builtin.clear_, run_underlying (telem_some he), undef], h, Step.refl _ _ _⟩
      · rename_i h0
        obtain rfl : o' = o := by rcases ho with h | ⟨h, _⟩; exact h; exact absurd h h0
        obtain ⟨z, hz, ha⟩ := Option.bind_eq_some_iff.1 ha
        obtain ⟨r, hg, ha⟩ := Option.bind_eq_some_iff.1 ha
        split at ha
        · rename_i hc
          obtain ⟨c1, c2, c3, c4⟩ := hc
          cases ha
          obtain ⟨y, cur, hy, h1, h2, h3, h4, h5, h6, h7⟩ := h.row j r hg
          rw [hj] at hy
          cases hy
          rw [h5.2 c4] at h3
          have hvl : VRs σ η (List.replicate n z.cells.toList).flatten (List.replicate n z.cells.toList).flatten := vrs_flat (VR.cells (VR.cv c1)) n
          have h1c : ∀ v ∈ (List.replicate n z.cells.toList).flatten, v.oneCell' = true := fun v hv => by
            obtain ⟨l, hl, hvl⟩ := List.mem_flatten.1 hv
            rw [List.eq_of_mem_replicate hl] at hvl
            exact List.all_eq_true.1 c2 v hvl
          generalize hL : (List.replicate n z.cells.toList).flatten = L at *
          obtain ⟨w', cur', g1, g2, g3, g4, g5, g6, g7, g8⟩ := stores_blk L w cur o' 0 h3 h1c (by omega)
          have hst := storesV_run (P := P) L 0 w w' g1
          obtain ⟨m, rfl⟩ : ∃ m, n = m + 1 := ⟨n - 1, by omega⟩
          refine ⟨w', by simp [Builtin.clear_, run_underlying (telem_some he), run_tzero hz, zeroCells_list, hL, hst, undef], putRow (cs2 := splice r.cs o' L) h hg hj h3 g2 ?_ ?_ (splice_length c3) g4 g5 g6 g7 g8 rfl rfl rfl rfl rfl⟩
          · have := congrArg List.length g3
            rw [splice_length (by simp; omega)] at this
            simpa using this
          · rw [splice_length c3, g3]
            have e1 : (splice cur.toList (o' + 0) L).take r.cs.length = splice (cur.toList.take r.cs.length) o' L := by
              unfold splice
              simp only [Nat.add_zero]
              have ha : (cur.toList.take o' ++ L).length ≤ r.cs.length := by simp; omega
              rw [List.take_append, List.take_of_length_le ha]
              congr 1
              · congr 1
                rw [List.take_take, Nat.min_eq_left (by omega)]
              · rw [List.drop_take]
                congr 1
                simp
                omega
            rw [e1]
            exact h6.splice hvl o'
        · cases ha
  · cases ha
end
end
end Go.Proofs.YthcdnjbhhaonhaaGreatDoor
