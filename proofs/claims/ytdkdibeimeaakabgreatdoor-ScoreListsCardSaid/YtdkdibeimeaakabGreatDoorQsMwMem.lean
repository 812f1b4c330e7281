/- Memory: extension of a world, rows of cells, slices of ints; append onto a slice of the call's own. -/
import Derived.Test.YtdkdibeimeaakabGreatDoorQsMwOps
import Derived.Below
import Derived.Lib.SlicesS
import Derived.OneCell

namespace Go.Proofs.YtdkdibeimeaakabGreatDoor
open Go.RowKit
def Row (w : World) (b o : Nat) (cs : List Value) : Prop := ∀ k v, cs[k]? = some v → w.cell? ⟨b, o + k, none⟩ = some v
theorem Row.ext {w w' : World} {b o : Nat} {cs : List Value} (h : Row w b o cs) (he : Ext w w') : Row w' b o cs := fun k v hk => he.cell (h k v hk)
theorem Row.nil (w : World) (b o : Nat) : Row w b o [] := fun k v hk => by simp at hk
def Sl (w : World) (v : Value) (cs : List Value) : Prop :=
  (∃ p cap, v = .slice p 0 cap ∧ cap ≤ maxLen ∧ cs = [] ∧ (p = none → cap = 0)) ∨ ∃ b o cap, v = .slice (some ⟨b, o, none⟩) cs.length cap ∧ cs.length ≤ cap ∧ cap ≤ maxLen ∧ Row w b o cs
def ints (xs : List Int) : List Value := xs.map (.int .i64)
def SlI (w : World) (v : Value) (xs : List Int) : Prop := Sl w v (ints xs)
theorem ints_length (xs : List Int) : (ints xs).length = xs.length := by simp [ints]
theorem ints_get {xs : List Int} {k : Nat} (h : k < xs.length) : (ints xs)[k]? = some (.int .i64 xs[k]) := by simp [ints, h]
theorem Sl.ext {w w' : World} {v : Value} {cs : List Value} (h : Sl w v cs) (he : Ext w w') : Sl w' v cs := by
  rcases h with h | ⟨b, o, cap, h1, h2, h3, h4⟩
  · exact .inl h
  · exact .inr ⟨b, o, cap, h1, h2, h3, h4.ext he⟩
theorem SlI.ext {w w' : World} {v : Value} {xs : List Int} (h : SlI w v xs) (he : Ext w w') : SlI w' v xs := Sl.ext h he
theorem SlI.empty (w : World) (p : Option Addr) {cap : Nat} (h : cap ≤ maxLen) (h0 : p = none → cap = 0) : SlI w (.slice p 0 cap) [] := .inl ⟨p, cap, rfl, h, rfl, h0⟩
theorem SlI.nil (w : World) : SlI w (.slice none 0 0) [] := SlI.empty w none (by simp) (fun _ => rfl)
theorem Sl.shape {w : World} {v : Value} {cs : List Value} (h : Sl w v cs) : ∃ p cap, v = .slice p cs.length cap ∧ cs.length ≤ cap ∧ cap ≤ maxLen := by
  rcases h with ⟨p, cap, h, hc, h', _⟩ | ⟨b, o, cap, h1, h2, h3, h4⟩
  · exact ⟨p, cap, by rw [h, h']; rfl, by rw [h']; simp, hc⟩
  · exact ⟨_, cap, h1, h2, h3⟩
theorem SlI.shape {w : World} {v : Value} {xs : List Int} (h : SlI w v xs) : ∃ p cap, v = .slice p xs.length cap ∧ xs.length ≤ cap ∧ cap ≤ maxLen := by
  obtain ⟨p, cap, h1, h2, h3⟩ := Sl.shape h
  rw [ints_length] at h1 h2
  exact ⟨p, cap, h1, h2, h3⟩
theorem Sl.at {w : World} {v : Value} {cs : List Value} (h : Sl w v cs) (hne : cs ≠ []) : ∃ b o cap, v = .slice (some ⟨b, o, none⟩) cs.length cap ∧ cs.length ≤ cap ∧ cap ≤ maxLen ∧ Row w b o cs := by
  rcases h with ⟨_, _, _, _, h', _⟩ | h
  · exact absurd h' hne
  · exact h
theorem SlI.at {w : World} {v : Value} {xs : List Int} (h : SlI w v xs) (hne : xs ≠ []) :
    ∃ b o cap, v = .slice (some ⟨b, o, none⟩) xs.length cap ∧ xs.length ≤ cap ∧ cap ≤ maxLen ∧ ∀ k (hk : k < xs.length), w.cell? ⟨b, o + k, none⟩ = some (.int .i64 xs[k]) := by
  obtain ⟨b, o, cap, h1, h2, h3, h4⟩ := Sl.at h (by intro h0; apply hne; simpa [ints] using h0)
  rw [ints_length] at h1 h2
  exact ⟨b, o, cap, h1, h2, h3, fun k hk => h4 k _ (ints_get hk)⟩
def Own (w : World) (base : Nat) (e : TypeId) (size : Nat) (v : Value) (n : Nat) (cs : List Value) : Prop := w.ownsRow base e size v n cs
theorem append_own {P : Program} {w : World} {base : Nat} {t ty e : TypeId} {z : Value} {v : Value} {n : Nat} {xs : List Value} {ats : List TypeId}
    (hats : ats = [t, t]) (he : telem P t = some e) (hok : tok P e = true) (hz : tzero P e = some z) (hzs : z.cells.size = tsz P e) (hsz : 0 < tsz P e)
    (hown : w.ownsRow base e (tsz P e) v n xs) {a : Addr} {m c : Nat} {news : List Value} (hl : news.length = m * tsz P e) (hnews : ∀ j u, news[j]? = some u → w.cell? (a.add j) = some u)
    (h1 : ∀ u ∈ news, u.oneCell' = true) (h63 : n + m ≤ maxLen) (hbytes : (n + m) * tbytes P e ≤ 140737488355328) (hbase : base ≤ w.heap.size) :
    ∃ v' w', (Builtin.append_ ats.toArray ty #[v, .slice (some a) m c]).run P w = .ok v' w' ∧ w'.ownsRow base e (tsz P e) v' (n + m) (xs ++ news) ∧ w.grownBy w' v.ownBlock := by
  have hi : ∃ i, P.info? e = some i := by unfold tok at hok; simp only [Bool.and_eq_true] at hok; exact Option.isSome_iff_exists.1 hok.1
  obtain ⟨i, hi⟩ := hi
  have hz' : i.zero = some z := by simpa [tzero, hi] using hz
  subst hats
  obtain ⟨v', w', h2, h3, h4, _⟩ := run_append_own w base t ty e i z (tsz P e) (tbytes P e) (telem_some he) hi hz' (by simp [tsz, hi]) (by simp [tbytes, hi]) hzs hsz v n xs hown a m c news hl hnews h1 h63 hbytes hbase
  exact ⟨v', w', h2, h3, h4⟩
theorem Own.sl {w : World} {base : Nat} {e : TypeId} {v : Value} {n : Nat} {cs : List Value} (h : w.ownsRow base e 1 v n cs) : Sl w v cs := by
  have hn : cs.length = n := by simpa using h.1
  rcases h.2 with ⟨hv, h0⟩ | ⟨g, cap, cur, hv, hb, hg, h1, h2, h3, h4⟩
  · left; refine ⟨none, 0, hv, by simp, ?_, fun _ => rfl⟩; cases cs with
    | nil => rfl
    | cons a l => simp at hn; omega
  · right
    refine ⟨g, 0, cap, by rw [hv, hn], by omega, h2, fun k u hk => ?_⟩
    have := World.ownsRow.cells h (g := g) (by simp [hv, Value.ownBlock]) k u hk
    simpa [Addr.add_lit] using this
theorem Own.mono {w : World} {base base' : Nat} {e : TypeId} {size : Nat} {v : Value} {n : Nat} {cs : List Value} (h : w.ownsRow base e size v n cs) (hb : base' ≤ base) : w.ownsRow base' e size v n cs := by
  refine ⟨h.1, ?_⟩
  rcases h.2 with h2 | ⟨g, cap, cur, hv, hg, r⟩
  · exact .inl h2
  · exact .inr ⟨g, cap, cur, hv, by omega, r⟩
theorem Own.ext {w w' : World} {base : Nat} {e : TypeId} {size : Nat} {v : Value} {n : Nat} {cs : List Value} (h : w.ownsRow base e size v n cs) (he : Ext w w') : w'.ownsRow base e size v n cs := by
  refine ⟨h.1, ?_⟩
  rcases h.2 with h2 | ⟨g, cap, cur, hv, hg, hh, r⟩
  · exact .inl h2
  · exact .inr ⟨g, cap, cur, hv, hg, by rw [he.block g (Array.getElem?_eq_some_iff.1 hh).1]; exact hh, r⟩
theorem Ext.grown {w0 w w' : World} {row : Option Nat} (h : Ext w0 w) (hg : w.grownBy w' row) (hr : ∀ k, row = some k → w0.heap.size ≤ k) : Ext w0 w' := Below.grown h hg h.size hr
theorem row_new (w : World) (cs : List Value) (t : TypeId) : Row (w.alloc (.cells cs.toArray t)) w.heap.size 0 cs := fun k v hk => by
  rw [World.cell?_alloc_new]; simpa using hk
theorem own_new (w : World) (cs : List Value) (t : TypeId) (base n : Nat) (size : Nat) (hs : cs.length = n * size) (hb : base ≤ w.heap.size) (hm : n ≤ maxLen) : (w.alloc (.cells cs.toArray t)).ownsRow base t size (.slice (some ⟨w.heap.size, 0, none⟩) n n) n cs := by
  refine ⟨hs, .inr ⟨w.heap.size, n, cs.toArray, rfl, hb, ?_, Nat.le_refl _, hm, by simpa using hs, ?_⟩⟩
  · exact heap_alloc_new w _
  · rw [← hs]; simp
theorem setCell_new (w : World) (c : Array Value) (t : TypeId) (i : Nat) (v : Value) : (w.alloc (.cells c t)).setCell ⟨w.heap.size, i, none⟩ v = w.alloc (.cells (c.setIfInBounds i v) t) := by
  simp only [World.alloc,World.setCell]
  congr 1
  apply Array.ext_getElem?
  intro k
  rw [Array.getElem?_modify, Array.getElem?_push, Array.getElem?_push]
  by_cases hk : k = w.heap.size
  · subst hk; simp
  · have : ¬ w.heap.size = k := fun h => hk h.symm
    simp [this, hk]
theorem cell_old {w : World} {a : Addr} {v : Value} (h : w.cell? a = some v) (o : Obj) : (w.alloc o).cell? a = some v := (Ext.alloc w o).cell h
theorem binV_neS {P : Program} {t : TypeId} (a b : ByteArray) : binV P t .neq (.string a) (.string b) = some (.bool (decide (a ≠ b))) := by
  show some (Value.bool (!(a.toList == b.toList))) = _
  by_cases h : a = b
  · subst h; simp
  · rw [(Lib.bytes_beq_false_iff a b).2 h]; simp [h]
theorem binV_eqS {P : Program} {t : TypeId} (a b : ByteArray) : binV P t .eql (.string a) (.string b) = some (.bool (decide (a = b))) := by
  show some (Value.bool ((a.toList == b.toList))) = _
  by_cases h : a = b
  · subst h; simp
  · rw [(Lib.bytes_beq_false_iff a b).2 h]; simp [h]
theorem panV_iface (t : TypeId) (v : Value) : panV (.iface t v) = some (.iface t v) := rfl
end Go.Proofs.YtdkdibeimeaakabGreatDoor
