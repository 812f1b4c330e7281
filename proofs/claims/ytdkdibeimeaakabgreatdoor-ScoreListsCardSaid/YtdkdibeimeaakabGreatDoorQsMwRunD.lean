/- Closed runs, fourth part: memory that is made, append, copy. -/
import Derived.Test.YtdkdibeimeaakabGreatDoorQsMwRunAToMwRunC
import Derived.Lib.AppendZeros
import Derived.Maps.AppendAt
import Derived.Deep.Upon
import Derived.Laws.IdiomStrings

namespace Go.Proofs.YtdkdibeimeaakabGreatDoor
open Go.RowKit
open Go.Value renaming oneCell' → ZK
noncomputable section
set_option linter.unusedVariables false
set_option linter.unusedSimpArgs false
section
variable {P : Program} {w0 : World} {σ : Nat → Option Ent} {η : Nat → Value} {A : AW} {w : World}
theorem rep_get (z : List Value) (hz : 0 < z.length) : ∀ (n i : Nat), i < n * z.length → (List.replicate n z).flatten[i]? = z[i % z.length]?
  | 0, i, h => by simp at h
  | n + 1, i, h => by
    rw [List.replicate_succ, List.flatten_cons]
    by_cases hi : i < z.length
    · rw [List.getElem?_append_left hi, Nat.mod_eq_of_lt hi]
    · rw [List.getElem?_append_right (by omega), rep_get z hz n (i - z.length) (by rw [Nat.add_mul] at h; omega)]
      congr 1
      exact (Nat.mod_eq_sub_mod (by omega)).symm
theorem rep_cells (z : Array Value) (n s : Nat) (hs : z.toList.length = s) : (repCells z (n * s)).toList = (List.replicate n z.toList).flatten := by
  have hsz : z.size = s := by rw [← hs]; simp
  by_cases h0 : s = 0
  · have : z.toList = [] := List.length_eq_zero_iff.1 (hs.trans h0)
    rw [this, h0]
    simp [repCells]
  · have hlen : (List.replicate n z.toList).flatten.length = n * s := by simp [hsz]
    apply List.ext_getElem?
    intro i
    by_cases hi : i < n * s
    · rw [rep_get z.toList (by omega) n i (by rw [hs]; exact hi), hs]
      unfold repCells
      have hm : i % z.size < z.size := Nat.mod_lt _ (by omega)
      simp only [Array.toList_map,List.getElem?_map,Array.getElem?_toList]
      rw [Array.getElem?_eq_getElem (by simpa using hi)]
      subst hsz
      simp [hm]
    · rw [List.getElem?_eq_none (l := (List.replicate n z.toList).flatten) (by rw [hlen]; omega)]
      exact List.getElem?_eq_none (by simp [repCells]; omega)
def allocA (P : Program) (A : AW) (rid : Option Nat) (t : TypeId) : Option (Value × AW) :=
  match tzero P t with
  | some z => if cv z = true then (newRow A rid z.cells.toList t 0).map fun r => (.pointer (some ⟨r.1, 0, none⟩), r.2) else none
  | none => none
theorem allocA_sound {rid : Option Nat} {t : TypeId} {v : Value} {A' : AW} (h : Inv w0 σ η A w) (ha : allocA P A rid t = some (v, A')) :
    ∃ z, tzero P t = some z ∧ ∃ σ', VR σ' η v (.pointer (some ⟨w.heap.size, 0, none⟩)) ∧ Inv w0 σ' η A' (w.alloc (.cells z.cells t)) ∧ Step σ σ' A A' w (w.alloc (.cells z.cells t)) := by
  unfold allocA at ha
  split at ha
  · rename_i z hz
    split at ha
    · rename_i hc
      obtain ⟨⟨id, A1⟩, hn, he⟩ := Option.map_eq_some_iff.1 ha
      cases he
      obtain ⟨x, h1, h2, h3, h4, h5⟩ := newRow_sound h (VR.cells (VR.cv hc)) hn
      refine ⟨z, hz, _, ?_, by simpa using h4, by simpa using h5⟩
      rw [← h1]
      exact .ptr (upS_self _ _)
    · cases ha
  · cases ha
def boxA (A : AW) (rid : Option Nat) (t : TypeId) (v : Value) : Option (Value × AW) :=
  (newRow A rid v.cells.toList t 0).map fun r => (.pointer (some ⟨r.1, 0, none⟩), r.2)
theorem boxA_sound {rid : Option Nat} {t : TypeId} {u u' v : Value} {A' : AW} (h : Inv w0 σ η A w) (hu : VR σ η u u') (ha : boxA A rid t u = some (v, A')) :
    ∃ σ', VR σ' η v (.pointer (some ⟨w.heap.size, 0, none⟩)) ∧ Inv w0 σ' η A' (w.alloc (.cells u'.cells t)) ∧ Step σ σ' A A' w (w.alloc (.cells u'.cells t)) := by
  obtain ⟨⟨id, A1⟩, hn, he⟩ := Option.map_eq_some_iff.1 ha
  cases he
  obtain ⟨x, h1, h2, h3, h4, h5⟩ := newRow_sound h hu.cells hn
  refine ⟨_, ?_, by simpa using h4, by simpa using h5⟩
  rw [← h1]
  exact .ptr (upS_self _ _)
def buildSA (P : Program) (A : AW) (rid : Option Nat) (t : TypeId) (len : Nat) (parts : List (Nat × Value)) : Option (Value × AW) :=
  match telem P t with
  | some e => if tok P e = true ∧ len * tsz P e ≤ 16777216 ∧ len < capU then
      (match tzero P e with
       | some z => if cv z = true ∧ z.cells.toList.length = tsz P e then
           (fillL (fun i => some (i * tsz P e, tsz P e)) (List.replicate len z.cells.toList).flatten parts).bind fun cs => (newRow A rid cs e (tsz P e)).map fun r => (.slice (some ⟨r.1, 0, none⟩) len len, r.2) else none
       | none => none) else none
  | none => none
theorem vrs_flat {z : List Value} (hz : VRs σ η z z) : ∀ n, VRs σ η (List.replicate n z).flatten (List.replicate n z).flatten
  | 0 => .nil
  | n + 1 => by rw [List.replicate_succ, List.flatten_cons]; exact hz.append (vrs_flat hz n)
theorem buildSA_sound {rid : Option Nat} {t : TypeId} {len : Nat} {ps ps' : List (Nat × Value)} {v : Value} {A' : AW} (h : Inv w0 σ η A w) (hp : PRel σ η ps ps') (ha : buildSA P A rid t len ps = some (v, A')) :
    ∃ e cs, buildS P t len ps' = some (e, cs) ∧ ∃ σ', VR σ' η v (.slice (some ⟨w.heap.size, 0, none⟩) len len) ∧ Inv w0 σ' η A' (w.alloc (.cells cs e)) ∧ Step σ σ' A A' w (w.alloc (.cells cs e)) := by
  unfold buildSA at ha
  split at ha
  · rename_i e he
    split at ha
    · rename_i hc
      split at ha
      · rename_i z hz
        split at ha
        · rename_i hcz
          obtain ⟨cs, hf, ha⟩ := Option.bind_eq_some_iff.1 ha
          obtain ⟨⟨id, A1⟩, hn, he2⟩ := Option.map_eq_some_iff.1 ha
          cases he2
          have hrep := rep_cells z.cells len _ hcz.2
          have hz0 : VRs σ η (List.replicate len z.cells.toList).flatten (repCells z.cells (len * tsz P e)).toList := by rw [hrep]; exact vrs_flat (VR.cells (VR.cv hcz.1)) len
          obtain ⟨r', h1, h2⟩ := fillL_vr hp hz0 hf
          have hb : buildS P t len ps' = some (e, r') := by
            unfold buildS
            rw [he]
            simp only
            rw [if_pos ⟨hc.1, hc.2.1⟩]
            split
            · rename_i h0
              have e1 : repCells z.cells (len * tsz P e) = repCells #[] (len * tsz P e) := by rw [h0]; simp [repCells]
              rw [e1] at h1
              rw [h1]
              rfl
            · rw [hz]
              simp only
              rw [h1]
              rfl
          obtain ⟨x, g1, g2, g3, g4, g5⟩ := newRow_sound h h2 hn
          have hm : len ≤ maxLen := by have := hc.2.2; unfold capU at this; simp only [maxLen]; omega
          refine ⟨e, r', hb, _, ?_, by simpa using g4, by simpa using g5⟩
          rw [← g1]
          exact .slc (upS_self _ _) (.inl rfl) hm (Nat.le_refl _) (fun _ => rfl) (fun hh => absurd hc.2.2 (by omega))
        · cases ha
      · cases ha
    · cases ha
  · cases ha
def makeSA (P : Program) (A : AW) (rid : Option Nat) (t : TypeId) : Value → Value → Option (Value × AW)
  | .int _ l, .int _ c => match telem P t with
    | some e => if tok P e = true ∧ 0 ≤ l ∧ l ≤ c ∧ c * tbytes P e ≤ 281474976710656 ∧ c < capU then
      (match tzero P e with
       | some z => if cv z = true ∧ z.cells.toList.length = tsz P e then
           (newRow A rid (List.replicate c.toNat z.cells.toList).flatten e (tsz P e)).map fun r => (.slice (some ⟨r.1, 0, none⟩) l.toNat c.toNat, r.2) else none
       | none => none) else none
    | none => none
  | _, _ => none
theorem makeSA_sound {rid : Option Nat} {t : TypeId} {a a' b b' v : Value} {A' : AW} (h : Inv w0 σ η A w) (hva : VR σ η a a') (hvb : VR σ η b b') (ha : makeSA P A rid t a b = some (v, A')) :
    ∃ e cs l c, makeS P t a' b' = some (e, cs, l, c) ∧ ∃ σ', VR σ' η v (.slice (some ⟨w.heap.size, 0, none⟩) l c) ∧ Inv w0 σ' η A' (w.alloc (.cells cs e)) ∧ Step σ σ' A A' w (w.alloc (.cells cs e)) := by
  unfold makeSA at ha
  split at ha
  · cases hva
    cases hvb
    rename_i k1 l k2 c
    split at ha
    · rename_i e he
      split at ha
      · rename_i hc
        split at ha
        · rename_i z hz
          split at ha
          · rename_i hcz
            obtain ⟨⟨id, A1⟩, hn, he2⟩ := Option.map_eq_some_iff.1 ha
            cases he2
            obtain ⟨hc1, hc2, hc3, hc4, hc5⟩ := hc
            have hrep := rep_cells z.cells c.toNat _ hcz.2
            have hcell : (if c.toNat * tsz P e = 0 then #[] else repCells z.cells (c.toNat * tsz P e)) = (List.replicate c.toNat z.cells.toList).flatten.toArray := by
              split
              · rename_i h0
                rw [h0] at hrep
                rw [← hrep]
                simp [repCells]
              · rw [← hrep]
            obtain ⟨x, g1, g2, g3, g4, g5⟩ := newRow_sound h (vrs_flat (VR.cells (VR.cv hcz.1)) c.toNat) hn
            have hm : c.toNat ≤ maxLen := by unfold capU at hc5; simp only [maxLen]; omega
            have hcu : c.toNat < capU := by omega
            refine ⟨e, _, l.toNat, c.toNat, ?_, _, ?_, g4, g5⟩
            · simp only [makeS,he]
              rw [if_pos ⟨hc1, hc2, hc3, hc4, by unfold capU at hc5; omega⟩]
              rw [hz]
              simp only
              rw [hcell]
            · rw [← g1]
              exact .slc (upS_self _ _) (.inl rfl) hm (by omega) (fun _ => rfl) (fun hh => by omega)
          · cases ha
        · cases ha
      · cases ha
    · cases ha
  · cases ha
def elemsA (A : AW) (size : Nat) : Value → Option (List Value × Nat)
  | .slice none n _ => if n = 0 then some ([], 0) else none
  | .slice (some ⟨j, o, none⟩) n _ => if n = 0 then some ([], 0) else (A.rows.get j).bind fun r => if o + n * size ≤ r.cs.length then some ((r.cs.drop o).take (n * size), n) else none
  | _ => none
def pickId (A : AW) (rid : Option Nat) : Option (Nat × AW) :=
  match rid with
  | none => some (A.n, { A with n := A.n + 1 })
  | some id => if id < A.n ∧ A.rsv.contains id = true then some (id, { A with rsv := A.rsv.filter (· != id) }) else none
theorem pickId_sound {rid : Option Nat} {id : Nat} {A1 : AW} (h : Inv w0 σ η A w) (hp : pickId A rid = some (id, A1)) :
    σ id = none ∧ (∀ j, A1.n ≤ j → A.n ≤ j ∧ j ≠ id) ∧ A.n ≤ A1.n ∧ (∀ j ∈ A1.rsv, j ∈ A.rsv ∧ j ≠ id) ∧ A1.rows = A.rows ∧ A1.maps = A.maps ∧ A1.ls = A.ls := by
  unfold pickId at hp
  split at hp
  · cases hp
    exact ⟨h.fresh _ (Nat.le_refl _), fun j hj => by simp at hj; omega, by simp, fun j hj => ⟨hj, fun e => by have := (h.rsv j hj).2; omega⟩, rfl, rfl, rfl⟩
  · split at hp
    · rename_i hl
      cases hp
      exact ⟨(h.rsv _ (by simpa using hl.2)).1, fun j hj => ⟨hj, by have := hl.1; simp only at hj; omega⟩, Nat.le_refl _, fun j hj => by
        simp only [List.mem_filter,bne_iff_ne] at hj
        exact hj, rfl, rfl, rfl⟩
    · cases hp
def appendB (P : Program) (A : AW) (rid : Option Nat) (e : TypeId) (x : Value) (news : List Value) (m : Nat) : Option (Value × AW) :=
  match x with
  | .slice none 0 0 => if m = 0 then some (x, A) else
      (match tzero P e with
       | some z => if z.cells.size = tsz P e ∧ news.all ZK = true ∧ m * tbytes P e ≤ 140737488355328 ∧ m < capU then
           (pickId A rid).map fun q => (.slice (some ⟨q.1, 0, none⟩) m capU, { q.2 with rows := A.rows.set q.1 (some ⟨news, e, tsz P e, false, true, 0⟩) }) else none
       | none => none)
  | .slice (some ⟨j, 0, none⟩) n c => if m = 0 then some (x, A) else
      (A.rows.get j).bind fun r =>
      (match tzero P e with
       | some z => if z.cells.size = tsz P e ∧ news.all ZK = true ∧ (n + m) * tbytes P e ≤ 140737488355328 ∧ n + m < capU ∧ r.e = e ∧ r.es = tsz P e ∧ n * tsz P e ≤ r.cs.length ∧ (c < capU → r.full = true ∧ c * tsz P e = r.cs.length) ∧ r.own = true then
           (pickId A rid).map fun q => (.slice (some ⟨q.1, 0, none⟩) (n + m) capU, { q.2 with rows := (A.rows.set j none).set q.1 (some ⟨r.cs.take (n * tsz P e) ++ news, e, tsz P e, false, true, 0⟩) }) else none
       | none => none)
  | _ => none
def appendA (P : Program) (A : AW) (rid : Option Nat) (t : TypeId) (x y : Value) : Option (Value × AW) :=
  match telem P t with
  | some e => if tok P e = true ∧ 0 < tsz P e then (elemsA A (tsz P e) y).bind fun nm => appendB P A rid e x nm.1 nm.2 else none
  | none => none
theorem elemsA_sound {size : Nat} {y y' : Value} {news : List Value} {m : Nat} (h : Inv w0 σ η A w) (hy : VR σ η y y') (he : elemsA A size y = some (news, m)) :
    ∃ (a : Option Addr) (c : Nat), y' = .slice a m c ∧ news.length = m * size ∧ (m ≠ 0 → ∃ a0 news', a = some a0 ∧ VRs σ η news news' ∧ ∀ j u, news'[j]? = some u → w.cell? (a0.add j) = some u) ∧ (a = none → c = 0) := by
  unfold elemsA at he
  split at he
  · split at he
    · rename_i h0
      cases he
      cases hy
      exact ⟨none, 0, rfl, by simp, fun hh => absurd rfl hh, fun _ => rfl⟩
    · cases he
  · rename_i j o n c
    cases hy with
    | slc hx ho hm hn h1 h2 =>
      rename_i c' o' x
      split at he
      · rename_i h0
        cases he
        subst h0
        exact ⟨_, _, rfl, by simp, fun hh => absurd rfl hh, fun hh => by cases hh⟩
      · rename_i h0
        obtain ⟨r, hg, he⟩ := Option.bind_eq_some_iff.1 he
        split at he
        · rename_i hl
          cases he
          obtain rfl : o' = o := by rcases ho with h | ⟨h, _⟩; exact h; exact absurd h h0
          obtain ⟨y, cur, hy, g1, g2, g3, g4, g5, g6, g7⟩ := h.row j r hg
          rw [hx] at hy
          cases hy
          refine ⟨_, _, rfl, by simp; omega, fun _ => ⟨_, _, rfl, vrs_cur g6 hl (by simpa using g7), fun k u hk => ?_⟩, fun hh => by cases hh⟩
          rw [add_ptr, cell_blk g3]
          rw [List.getElem?_take] at hk
          split at hk
          · rw [List.getElem?_drop] at hk
            simpa using hk
          · cases hk
        · cases he
  · cases he
theorem tinfo {e : TypeId} (hok : tok P e = true) : ∃ i, P.info? e = some i := by
  unfold tok at hok
  simp only [Bool.and_eq_true] at hok
  exact Option.isSome_iff_exists.1 hok.1
theorem appendNew {A' : AW} {id : Nat} {dead : Option Nat} {deadB : Option Nat} {cs : List Value} {e : TypeId} {size n cap : Nat} {v2 : Value} {w' : World} {xs : List Value} (h : Inv w0 σ η A w) (hn0 : 0 < n)
    (hown : w'.ownsRow w0.heap.size e size v2 n xs) (hg : w.grownBy w' deadB) (hat : v2.ownBlock = deadB ∨ v2.ownBlock = some w.heap.size) (hcs : VRs σ η cs xs)
    (hdead : ∀ b, deadB = some b → ∃ j r x, dead = some j ∧ A.rows.get j = some r ∧ σ j = some x ∧ x.b = b) (hdn : deadB = none → dead = none)
    (e1 : A'.rows = ((match dead with | some j => A.rows.set j none | none => A.rows)).set id (some ⟨cs, e, size, false, true, 0⟩)) (hfr : σ id = none) (e2 : ∀ j, A'.n ≤ j → A.n ≤ j ∧ j ≠ id) (e2n : A.n ≤ A'.n) (e3 : ∀ j ∈ A'.rsv, j ∈ A.rsv ∧ j ≠ id) (e4 : A'.maps = A.maps) (e5 : A'.ls = A.ls) :
    ∃ σ', VR σ' η (.slice (some ⟨id, 0, none⟩) n capU) v2 ∧ Inv w0 σ' η A' w' ∧ Step σ σ' A A' w w' := by
  rcases hown.2 with ⟨rfl, h0⟩ | ⟨g, cap, cur, rfl, hbg, hgh, hnc, hcm, hcsz, htake⟩
  · omega
  · have hsub := upS_sub (x := ⟨g, cur.size, size, (0, 0)⟩) hfr
    have blt : ∀ {j r x}, A.rows.get j = some r → σ j = some x → x.b < w.heap.size := fun {j r x} hg hx => by
      obtain ⟨y, cur, hy, _, _, hb, _⟩ := h.row j r hg
      rw [hx] at hy
      cases hy
      exact (Array.getElem?_eq_some_iff.1 hb).1
    have hxl : xs.length = n * size := hown.1
    -- a row that lives on: another one than what died, elsewhere than the new one
    have live : ∀ {j r x}, A.rows.get j = some r → σ j = some x → dead ≠ some j → w'.heap[x.b]? = w.heap[x.b]? ∧ x.b ≠ g := fun {j r x} hgj hx hd => by
      have hne : some x.b ≠ deadB := fun he => by
        obtain ⟨j2, r2, x2, hd2, hg2, hx2, hb2⟩ := hdead x.b he.symm
        have := h.sep j j2 r r2 x x2 hgj hg2 hx hx2 hb2.symm
        subst this
        exact hd hd2
      refine ⟨hg.block _ (blt hgj hx) hne, fun he => ?_⟩
      simp only [Value.ownBlock] at hat
      rcases hat with hat | hat
      · rw [← he] at hat; exact hne hat
      · have := blt hgj hx
        simp at hat
        omega
    have getA : ∀ {j r}, A'.rows.get j = some r → j ≠ id → A.rows.get j = some r ∧ dead ≠ some j := fun {j r} hj hne => by
      rw [e1, Tr.get_set, if_neg hne] at hj
      cases dead with
      | none => exact ⟨hj, by simp⟩
      | some d =>
        simp only [Tr.get_set] at hj
        split at hj
        · cases hj
        · rename_i hd
          exact ⟨hj, fun e => hd (by cases e; rfl)⟩
    refine ⟨upS σ id ⟨g, cur.size, size, (0, 0)⟩, .slc (upS_self _ _) (.inl rfl) hcm hnc (fun hh => absurd hh (by omega)) (fun _ _ => hcsz.symm), ⟨?_, fun j hj => ?_, fun j hj => ?_, fun j r hj => ?_, fun i j ri rj x y hi hj hx hy hxy => ?_, ?_⟩, ⟨hsub, e5, fun j r x hgj hx => ?_⟩⟩
    · exact Ext.grown h.ext hg (fun k hk => by
        obtain ⟨j2, r2, x2, hd2, hg2, hx2, hb2⟩ := hdead k hk
        obtain ⟨y, _, hy, _, hge, _⟩ := h.row j2 r2 hg2
        rw [hx2] at hy
        cases hy
        omega)
    · have := e2 j hj
      simp [upS, this.2, h.fresh j this.1]
    · have h3 := e3 j hj
      have := h.rsv j h3.1
      exact ⟨by simp [upS, h3.2, this.1], Nat.lt_of_lt_of_le this.2 e2n⟩
    · by_cases hjn : j = id
      · subst hjn
        rw [e1, Tr.get_set, if_pos rfl] at hj
        cases hj
        refine ⟨_, cur, upS_self _ _, rfl, hbg, hgh, rfl, ⟨(fun hf => by cases hf), fun _ => rfl⟩, ?_, ?_⟩
        · simp only
          rw [hcs.1, hxl, htake]
          exact hcs.mono hsub
        · simp only
          rw [hcs.1, hxl, hcsz]
          exact Nat.mul_le_mul_right _ hnc
      · obtain ⟨hgj, hd⟩ := getA hj hjn
        obtain ⟨x, cj, hx, g1, g2, g3, g4, g5, g6, g7⟩ := h.row j r hgj
        refine ⟨x, cj, hsub _ _ hx, g1, g2, ?_, g4, g5, g6.mono hsub, g7⟩
        rw [(live hgj hx hd).1]
        exact g3
    · by_cases hin : i = id <;> by_cases hjn : j = id
      · omega
      · subst hin
        rw [upS_self] at hx
        cases hx
        obtain ⟨hgj, hd⟩ := getA hj hjn
        simp only [upS,if_neg hjn] at hy
        exact absurd hxy.symm (live hgj hy hd).2
      · subst hjn
        rw [upS_self] at hy
        cases hy
        obtain ⟨hgi, hd⟩ := getA hi hin
        simp only [upS,if_neg hin] at hx
        exact absurd hxy (live hgi hx hd).2
      · obtain ⟨hgi, _⟩ := getA hi hin
        obtain ⟨hgj, _⟩ := getA hj hjn
        simp only [upS,if_neg hin] at hx
        simp only [upS,if_neg hjn] at hy
        exact h.sep i j ri rj x y hgi hgj hx hy hxy
    · rw [e4, e5]
      refine h.mp.keep hsub fun k o hk hn => hg.block k (Array.getElem?_eq_some_iff.1 hk).1 fun he => ?_
      obtain ⟨j2, r2, x2, hd2, hg2, hx2, hb2⟩ := hdead k he.symm
      obtain ⟨y, cj, hy, _, _, h3, _⟩ := h.row j2 r2 hg2
      rw [hx2] at hy
      cases hy
      rw [hb2, hk] at h3
      cases h3
      exact hn _ _ _ rfl
    · have hjn : j ≠ id := fun e => by subst e; rw [hfr] at hx; cases hx
      obtain ⟨hga, hd⟩ := getA hgj hjn
      exact ⟨r, hga, Nat.le_refl _, fun _ => (live hga hx hd).1⟩
theorem appendA_sound {rid : Option Nat} {t ty : TypeId} {x x' y y' v : Value} {A' : AW} (h : Inv w0 σ η A w) (hx : VR σ η x x') (hy : VR σ η y y') (ha : appendA P A rid t x y = some (v, A')) :
    ∃ v' w' σ', (Builtin.append_ #[t, t] ty #[x', y']).run P w = .ok v' w' ∧ VR σ' η v v' ∧ Inv w0 σ' η A' w' ∧ Step σ σ' A A' w w' := by
  unfold appendA at ha
  split at ha
  · rename_i e he
    split at ha
    · rename_i hok
      obtain ⟨⟨news, m⟩, hel, ha⟩ := Option.bind_eq_some_iff.1 ha
      simp only at ha
      obtain ⟨a, c, rfl, hnl, hnews, hac⟩ := elemsA_sound h hy hel
      obtain ⟨i, hi⟩ := tinfo hok.1
      have hsz : i.size = tsz P e := by simp [tsz, hi]
      have hby : i.bytes = tbytes P e := by simp [tbytes, hi]
      -- nothing is appended
      have nothing : m = 0 → ∀ {base : Option Addr} {sl sc : Nat}, sl ≤ sc → (Builtin.append_ #[t, t] ty #[.slice base sl sc, .slice a m c]).run P w = .ok (.slice base sl sc) w := fun h0 base sl sc hle => by
        subst h0
        refine run_append_nothing w t t ty e i (telem_some he) hi base sl sc hle _ ?_
        cases a with
        | none => exact Src.ofNil w (telem_some he) c
        | some a => exact Src.ofSlice w (telem_some he) a 0 c [] (by simp) (fun j u hu => by simp at hu) (fun u hu => by simp at hu)
      unfold appendB at ha
      split at ha
      · cases hx
        split at ha
        · rename_i h0
          cases ha
          exact ⟨_, w, σ, nothing h0 (Nat.le_refl _), .nilSlc, h, Step.refl _ _ _⟩
        · rename_i h0
          split at ha
          · rename_i z hz
            split at ha
            · rename_i hc
              obtain ⟨c1, c2, c3, c4⟩ := hc
              obtain ⟨⟨id, A1⟩, hpk, hpe⟩ := Option.map_eq_some_iff.1 ha
              cases hpe
              obtain ⟨u1, u2, u3, u4, u5, u6, u7⟩ := pickId_sound h hpk
              obtain ⟨a0, news', rfl, hvn, hcell⟩ := hnews h0
              have hz' : i.zero = some z := by simpa [tzero, hi] using hz
              obtain ⟨v2, w2, g1, g2, g3, g4, g5⟩ := run_append_own_at w w0.heap.size t ty e i z (tsz P e) (tbytes P e) (telem_some he) hi hz' hsz hby c1 hok.2 (.slice none 0 0) 0 [] (World.ownsRow_nil _ _ _ _) a0 m c news' (by rw [← hvn.1]; exact hnl) hcell
                (vrs_one hvn c2) (by unfold capU at c4; simp only [maxLen]; omega) (by rw [Nat.zero_add]; exact c3) h.ext.le
              rw [Nat.zero_add, List.nil_append] at g2
              obtain ⟨σ', k1, k2, k3⟩ := appendNew (dead := none) (deadB := none) (cap := 0) (A' := { A1 with rows := A.rows.set id (some ⟨news, e, tsz P e, false, true, 0⟩) }) h (by omega) g2 g3 g5 hvn (fun b hb => by cases hb) (fun _ => rfl) rfl u1 u2 u3 u4 u6 u7
              exact ⟨v2, w2, σ', g1, k1, k2, k3⟩
            · cases ha
          · cases ha
      · rename_i j n cc _hq
        cases hx with
        | slc hj ho hm hn e1 e2 =>
          rename_i c' o' xe
          obtain rfl : o' = 0 := by rcases ho with h | ⟨_, _, h⟩; exact h; omega
          split at ha
          · rename_i h0
            cases ha
            exact ⟨_, w, σ, nothing h0 hn, .slc hj (.inl rfl) hm hn e1 e2, h, Step.refl _ _ _⟩
          · rename_i h0
            obtain ⟨r, hgr, ha⟩ := Option.bind_eq_some_iff.1 ha
            split at ha
            · rename_i z hz
              split at ha
              · rename_i hc
                obtain ⟨c1, c2, c3, c4, c6, c7, c8, c9, c10⟩ := hc
                obtain ⟨⟨id, A1⟩, hpk, hpe⟩ := Option.map_eq_some_iff.1 ha
                cases hpe
                obtain ⟨u1, u2, u3, u4, u5, u6, u7⟩ := pickId_sound h hpk
                obtain ⟨a0, news', rfl, hvn, hcell⟩ := hnews h0
                have hz' : i.zero = some z := by simpa [tzero, hi] using hz
                obtain ⟨xe', cur, hxe, f1, f2, f3, f4, f5, f6, f7⟩ := h.row j r hgr
                rw [hj] at hxe
                cases hxe
                have hcap : cur.size = c' * tsz P e := by
                  by_cases hcu : cc < capU
                  · obtain ⟨d1, d2⟩ := c9 hcu
                    rw [f5.1 d1, e1 hcu, d2]
                  · rw [f4, ← e2 (by omega) rfl, f1, c7]
                have hown : w.ownsRow w0.heap.size e (tsz P e) (.slice (some ⟨xe.b, 0, none⟩) n c') n (cur.toList.take (n * tsz P e)) := by
                  refine ⟨?_, .inr ⟨xe.b, c', cur, rfl, f2, ?_, hn, hm, hcap, rfl⟩⟩
                  · simp; omega
                  · rw [f3, c6, f5.2 c10]
                obtain ⟨v2, w2, g1, g2, g3, g4, g5⟩ := run_append_own_at w w0.heap.size t ty e i z (tsz P e) (tbytes P e) (telem_some he) hi hz' hsz hby c1 hok.2 _ n _ hown a0 m c news' (by rw [← hvn.1]; exact hnl) hcell
                  (vrs_one hvn c2) (by unfold capU at c4; simp only [maxLen]; omega) c3 h.ext.le
                have hold : VRs σ η (r.cs.take (n * tsz P e)) (cur.toList.take (n * tsz P e)) := by
                  have := vrs_cur (o := 0) (n := n * tsz P e) f6 (by omega) (by simpa using f7)
                  simpa using this
                obtain ⟨σ', k1, k2, k3⟩ := appendNew (dead := some j) (deadB := some xe.b) (cap := 0) (A' := { A1 with rows := (A.rows.set j none).set id (some ⟨r.cs.take (n * tsz P e) ++ news, e, tsz P e, false, true, 0⟩) }) h (by omega) g2 g3 g5 (hold.append hvn)
                  (fun b hb => ⟨j, r, xe, rfl, hgr, hj, by cases hb; rfl⟩) (fun hh => by cases hh) rfl u1 u2 u3 u4 u6 u7
                exact ⟨v2, w2, σ', g1, k1, k2, k3⟩
              · cases ha
            · cases ha
      · cases ha
    · cases ha
  · cases ha
def tintB (P : Program) (t : TypeId) : Bool := match P.underlying t with | some (.int _) => true | _ => false
theorem tintB_some {t : TypeId} (h : tintB P t = true) : ∃ k, P.underlying t = some (.int k) := by
  unfold tintB at h
  split at h
  · rename_i k hk; exact ⟨k, hk⟩
  · cases h
def appendZ (P : Program) (A : AW) (rid : Option Nat) (t t' : TypeId) : Value → Value → Option (Value × AW)
  | .slice none 0 0, .int _ (.ofNat n) => match telem P t with
    | some e => (match tzero P e with
      | some z => (match z.cells with
        | ⟨[c]⟩ => if tok P e = true ∧ tsz P e = 1 ∧ cvA c = true ∧ tintB P t' = true ∧ 0 < n ∧ n * tbytes P e ≤ 140737488355328 ∧ n < capU then
            (pickId A rid).map fun q => (.slice (some ⟨q.1, 0, none⟩) n capU, { q.2 with rows := A.rows.set q.1 (some ⟨List.replicate n c, e, 1, false, true, 0⟩) }) else none
        | _ => none)
      | none => none)
    | none => none
  | _, _ => none
theorem zeroCells_one (c : Value) (k : Nat) : (Builtin.zeroCells #[c] k).toList = List.replicate k c := by
  apply List.ext_getElem
  · simp [Builtin.zeroCells]
  · intro i h1 h2
    simp [Builtin.zeroCells, Nat.mod_one]
theorem appendZ_sound {rid : Option Nat} {t t' ty : TypeId} {x x' y y' v : Value} {A' : AW} (h : Inv w0 σ η A w) (hx : VR σ η x x') (hy : VR σ η y y') (ha : appendZ P A rid t t' x y = some (v, A')) :
    ∃ v' w' σ', (Builtin.append_ #[t, t'] ty #[x', y']).run P w = .ok v' w' ∧ VR σ' η v v' ∧ Inv w0 σ' η A' w' ∧ Step σ σ' A A' w w' := by
  unfold appendZ at ha
  split at ha
  · rename_i k n
    cases hx
    cases hy
    split at ha
    · rename_i e he
      split at ha
      · rename_i z hz
        split at ha
        · rename_i c hzc
          split at ha
          · rename_i hc
            obtain ⟨c1, c2, c3, c4, c5, c6, c7⟩ := hc
            obtain ⟨⟨id, A1⟩, hpk, hpe⟩ := Option.map_eq_some_iff.1 ha
            cases hpe
            obtain ⟨u1, u2, u3, u4, u5, u6, u7⟩ := pickId_sound h hpk
            obtain ⟨i, hi⟩ := tinfo c1
            have hsz : i.size = tsz P e := by simp [tsz, hi]
            have hby : i.bytes = tbytes P e := by simp [tbytes, hi]
            have hz' : i.zero = some z := by simpa [tzero, hi] using hz
            obtain ⟨kn, hkn⟩ := tintB_some c4
            have hr := Lib.run_append_nil_zeros (P := P) w t t' ty e i z k kn (telem_some he) hkn hi hz' n c5 (by omega) (by unfold capU at c7; omega) (by rw [hby]; omega)
            have hge := grownCap_ge w n 0 e
            have hcm : grownCap w n 0 e ≤ maxLen := grownCap_le_maxLen w n 0 e (by unfold capU at c7; unfold maxLen; omega)
            rw [hzc] at hr
            have hown : (w.drew.alloc (.cells (Builtin.zeroCells #[c] n ++ Builtin.zeroCells #[c] (grownCap w n 0 e - n)) e)).ownsRow w0.heap.size e 1 (.slice (some ⟨w.heap.size, 0, none⟩) n (grownCap w n 0 e)) n (List.replicate n c) := by
              refine ⟨by simp, .inr ⟨w.heap.size, _, _, rfl, h.ext.le, heap_alloc_new w.drew _, hge, hcm, ?_, ?_⟩⟩
              · simp only [Array.size_append,size_zeroCells,List.size_toArray,List.length_cons,List.length_nil]
                omega
              · rw [Array.toList_append, zeroCells_one]
                exact List.take_left' (by simp)
            have hself : VRs σ η (List.replicate n c) (List.replicate n c) := ⟨rfl, fun i u v hu hv => by
              rw [hu] at hv
              cases hv
              obtain ⟨_, rfl⟩ := List.getElem?_eq_some_iff.1 hu
              rw [List.getElem_replicate]
              exact VR.cvA c3⟩
            obtain ⟨σ', k1, k2, k3⟩ := appendNew (dead := none) (deadB := none) (cap := 0) (A' := { A1 with rows := A.rows.set id (some ⟨List.replicate n c, e, 1, false, true, 0⟩) }) h c5 hown
              ⟨rfl, rfl, rfl, by simp, fun q hq _ => (show (w.heap.push _)[q]? = w.heap[q]? from by rw [Array.getElem?_push, if_neg (by omega)])⟩ (.inr rfl) hself (fun b hb => by cases hb) (fun _ => rfl) rfl u1 u2 u3 u4 u6 u7
            exact ⟨_, _, σ', hr, k1, k2, k3⟩
          · cases ha
        · cases ha
      · cases ha
    · cases ha
  · cases ha
def tbyte (P : Program) (t : TypeId) : Bool := match P.underlying t with | some (.int .u8) => true | _ => false
theorem tbyte_some {t : TypeId} (h : tbyte P t = true) : P.underlying t = some (.int .u8) := by
  unfold tbyte at h
  split at h
  · assumption
  · cases h
def bytesL (s : ByteArray) : List Value := s.data.toList.map fun b => .int .u8 b.toNat
def convA (P : Program) (A : AW) (t t' : TypeId) : Value → Option (Value × AW)
  | .string s => match telem P t' with
    | some e => if tstr P t = true ∧ tbyte P e = true ∧ s.data.toList.length < capU then
        some (.slice (some ⟨A.n, 0, none⟩) s.data.toList.length capU, { A with rows := A.rows.set A.n (some ⟨bytesL s, e, 1, false, false, 0⟩), n := A.n + 1 }) else none
    | none => none
  | _ => none
theorem convA_sound {t t' : TypeId} {u u' v : Value} {A' : AW} (h : Inv w0 σ η A w) (hu : VR σ η u u') (ha : convA P A t t' u = some (v, A')) :
    convV P t t' u' = none ∧ ∃ v' w' σ', (convert t t' u').run P w = .ok v' w' ∧ VR σ' η v v' ∧ Inv w0 σ' η A' w' ∧ Step σ σ' A A' w w' := by
  unfold convA at ha
  split at ha
  · rename_i s
    cases hu
    split at ha
    · rename_i e he
      split at ha
      · rename_i hc
        obtain ⟨c1, c2, c4⟩ := hc
        cases ha
        have hnone : convV P t t' (.string s) = none := by
          have : tstr P t' = false := by unfold tstr; rw [telem_some he]
          simp [convV, this]
        refine ⟨hnone, ?_⟩
        have hrun := run_bytes_of_string (P := P) w t t' e s (tstr_some c1) (telem_some he) (tbyte_some c2)
        have hfr := h.fresh A.n (Nat.le_refl _)
        generalize hcap : grownCap w s.size 0 e = cap at hrun
        have hcap1 : s.size ≤ cap := by rw [← hcap]; exact grownCap_ge w s.size 0 e
        have hcapm : cap ≤ maxLen := by
          rw [← hcap]
          exact grownCap_le_maxLen w s.size 0 e (by unfold capU at c4; simp only [maxLen]; exact Nat.le_trans (Nat.le_of_lt c4) (by omega))
        have hrow : (bytesRow s cap).toList = bytesL s ++ List.replicate (cap - s.size) (.int .u8 0) := by simp [bytesRow, bytesL]
        have hsz : (bytesRow s cap).size = cap := by
          have := congrArg List.length hrow
          simp only [List.length_append,List.length_replicate,bytesL,List.length_map] at this
          have h2 : s.data.toList.length = s.size := rfl
          rw [Array.length_toList] at this
          omega
        have hnew : ∀ o, (w.drew.alloc o).heap[w.heap.size]? = some o := fun o => heap_alloc_new w.drew o
        have hold : ∀ o k, k < w.heap.size → (w.drew.alloc o).heap[k]? = w.heap[k]? := fun o k hk => Below.heap_alloc w.drew o k hk
        have hsub := upS_sub (x := ⟨w.heap.size, cap, 1, (cap, cap + 1)⟩) hfr
        rw [hsz] at hrun
        have blt : ∀ {j r x}, A.rows.get j = some r → σ j = some x → x.b < w.heap.size := fun {j r x} hg hx => by
          obtain ⟨y, cur, hy, _, _, hb, _⟩ := h.row j r hg
          rw [hx] at hy
          cases hy
          exact (Array.getElem?_eq_some_iff.1 hb).1
        have hnone : A.rows.get A.n = none := by
          cases hg : A.rows.get A.n with
          | none => rfl
          | some r => obtain ⟨x, cur, hx, _⟩ := h.row A.n r hg; rw [hfr] at hx; cases hx
        have hvl : VRs σ η (bytesL s) (bytesL s) := VRs.cvA (by unfold bytesL; rw [List.all_eq_true]; intro x hx; obtain ⟨b, _, rfl⟩ := List.mem_map.1 hx; rfl)
        refine ⟨_, _, upS σ A.n ⟨w.heap.size, cap, 1, (cap, cap + 1)⟩, hrun, .slc (upS_self _ _) (.inl rfl) hcapm hcap1 (fun hh => absurd hh (by omega)) (fun _ _ => by simp), ⟨?_, fun j hj => ?_, fun j hj => ?_, fun j r hj => ?_, fun i j ri rj x y hi hj hx hy hxy => ?_, ?_⟩, ⟨hsub, rfl, fun j r x hg hx => ?_⟩⟩
        · exact h.ext.drew'.alloc' _
        · simp only at hj
          simp [upS, show j ≠ A.n by omega, h.fresh j (by omega)]
        · have := h.rsv j hj
          exact ⟨by simp [upS, show j ≠ A.n by omega, this.1], by simp only; omega⟩
        · simp only [Tr.get_set] at hj
          split at hj
          · rename_i e1
            subst e1
            cases hj
            refine ⟨_, _, upS_self _ _, rfl, h.ext.le, hnew _, hsz, ⟨(fun hf => by cases hf), (fun hf => by cases hf)⟩, ?_, ?_⟩
            · simp only [hrow]
              rw [List.take_left]
              exact hvl.mono hsub
            · simp only [hsz,bytesL,List.length_map]
              exact hcap1
          · rename_i e1
            obtain ⟨x, cur, hx, h1, h2, h3, h4, h5, h6, h7⟩ := h.row j r hj
            refine ⟨x, cur, hsub _ _ hx, h1, h2, ?_, h4, h5, h6.mono hsub, h7⟩
            rw [hold _ _ (blt hj hx)]
            exact h3
        · simp only [Tr.get_set] at hi hj
          split at hi <;> split at hj
          · omega
          · rename_i e1 e2
            subst e1
            rw [upS_self] at hx
            cases hx
            simp only [upS,if_neg e2] at hy
            have := blt hj hy
            simp only at hxy
            omega
          · rename_i e1 e2
            subst e2
            rw [upS_self] at hy
            cases hy
            simp only [upS,if_neg e1] at hx
            have := blt hi hx
            simp only at hxy
            omega
          · rename_i e1 e2
            simp only [upS,if_neg e1] at hx
            simp only [upS,if_neg e2] at hy
            exact h.sep i j ri rj x y hi hj hx hy hxy
        · exact h.mp.keep hsub fun k o hk _ => hold _ _ (Array.getElem?_eq_some_iff.1 hk).1
        · have hjn : j ≠ A.n := fun e => by subst e; rw [hfr] at hx; cases hx
          simp only [Tr.get_set] at hg
          rw [if_neg hjn] at hg
          exact ⟨r, hg, Nat.le_refl _, fun _ => hold _ _ (blt hg hx)⟩
      · cases ha
    · cases ha
  · cases ha
end
end
end Go.Proofs.YtdkdibeimeaakabGreatDoor
