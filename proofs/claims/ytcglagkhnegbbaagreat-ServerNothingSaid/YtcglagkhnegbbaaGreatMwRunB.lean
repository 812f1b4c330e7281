/- Closed runs, second part: operations that only read. -/
import Derived.Test.YtcglagkhnegbbaaGreatMwRunA
namespace Go.Proofs.YtcglagkhnegbbaaGreat
open Go.RowKit
noncomputable section
set_option linter.unusedVariables false
set_option linter.unusedSimpArgs false
variable {P : Program} {σ : Nat → Option Ent} {η : Nat → Value}

/-! ### binary operators -/
def binK (P : Program) (t : TypeId) (op : BinOp) (u v : Value) (c : Bool) : Option Value :=
  match op, u, v with
  | .eql, .string a, .string b => some (.bool (a.data.toList == b.data.toList))
  | .neq, .string a, .string b => some (.bool (!(a.data.toList == b.data.toList)))
  | .add, .string a, .string b => if a.data.toList.length + b.data.toList.length ≤ 9223372036854775807 then some (.string ⟨⟨a.data.toList ++ b.data.toList⟩⟩) else none
  | .lss, .string a, .string b => some (.bool (Op.bytesLess a.data.toList b.data.toList))
  | .leq, .string a, .string b => some (.bool (Op.bytesLess a.data.toList b.data.toList || a.data.toList == b.data.toList))
  | .gtr, .string a, .string b => some (.bool (!(Op.bytesLess a.data.toList b.data.toList || a.data.toList == b.data.toList)))
  | .geq, .string a, .string b => some (.bool (!Op.bytesLess a.data.toList b.data.toList))
  | op, u, v => binVC P t op u v c
theorem binK_eq (t : TypeId) (op : BinOp) (u v : Value) (c : Bool) : binK P t op u v c = binVC P t op u v c := by
  unfold binK
  split <;> simp only [binVC, binV, ByteArray.toList_eq]
  rename_i a b
  have h1 : a.data.toList.length = a.size := rfl
  have h2 : b.data.toList.length = b.size := rfl
  rw [h1, h2]
  have : (⟨⟨a.data.toList ++ b.data.toList⟩⟩ : ByteArray) = a ++ b := by
    apply ByteArray.ext
    rw [ByteArray.data_append]
    simp
  rw [this]
set_option maxHeartbeats 1000000 in
theorem binK_vr {t : TypeId} {op : BinOp} {u v u' v' : Value} {c : Bool} (hu : VR σ η u u') (hv : VR σ η v v') {r : Value} (h : binK P t op u v c = some r) : ∃ r', binVC P t op u' v' c = some r' ∧ VR σ η r r' := by
  rw [binK_eq] at h
  by_cases hpp : ∃ j o j' o', u = .pointer (some ⟨j, o, none⟩) ∧ v = .pointer (some ⟨j', o', none⟩)
  · obtain ⟨j, o, j', o', rfl, rfl⟩ := hpp
    cases hu with
    | ptr h1 =>
      cases hv with
      | ptr h2 =>
        cases op <;> simp only [binVC, binV] at h ⊢ <;> try (cases h; done)
        all_goals
          split at h
          · rename_i hk
            obtain ⟨hk, rfl⟩ := hk
            rw [h1] at h2
            cases h2
            cases h
            exact ⟨_, if_pos ⟨hk, rfl⟩, .bool _⟩
          · cases h
  have key : binVC P t op u' v' c = some r ∧ cvA r = true := by
    cases hu <;> cases hv <;> cases op <;> first
      | (simp [binVC, binV] at h; done)
      | (simp only [binVC, binV] at h ⊢; (repeat' split at h) <;> first | (cases h; done) | (cases h; simp_all [cvA]; done) | (simp_all [cvA]; done))
      | (exact absurd ⟨_, _, _, _, rfl, rfl⟩ hpp)
  exact ⟨r, key.1, VR.cvA key.2⟩

/-! ### the others, one by one -/
theorem unV_vr {op : UnOp} {u u' : Value} (hu : VR σ η u u') {r : Value} (h : unV op u = some r) : ∃ r', unV op u' = some r' ∧ VR σ η r r' := by
  cases hu <;> cases op <;> simp only [unV] at h ⊢ <;> first | (cases h; done) | (cases h; exact ⟨_, rfl, by constructor⟩)
theorem convV_vr {s d : TypeId} {u u' : Value} (hu : VR σ η u u') {r : Value} (h : convV P s d u = some r) : ∃ r', convV P s d u' = some r' ∧ VR σ η r r' := by
  cases hu <;> simp only [convV] at h ⊢ <;> first
    | (cases h; done)
    | (refine ⟨r, h, ?_⟩
       split at h
       · first
           | (obtain ⟨k, _, rfl⟩ := Option.map_eq_some_iff.1 h; exact .int _ _)
           | (cases h; exact .string _)
       · cases h)
theorem add_ptr (j o n : Nat) : (⟨j, o, none⟩ : Addr).add n = ⟨j, o + n, none⟩ := by
  unfold Addr.add
  split
  · rename_i h; subst h; rfl
  · rfl
theorem fldV_vr {s f : Nat} {u u' : Value} (hu : VR σ η u u') {r : Value} (h : fldV P s f u = some r) : ∃ r', fldV P s f u' = some r' ∧ VR σ η r r' := by
  cases hu <;> simp only [fldV] at h ⊢ <;> first
    | (cases h; done)
    | (obtain ⟨n, hn, rfl⟩ := Option.map_eq_some_iff.1 h
       rw [hn]
       refine ⟨_, rfl, ?_⟩
       simp only [add_ptr]
       exact .ptr (by assumption))
def partA (P : Program) (t : TypeId) (cs : List Value) (off : Nat) : Option Value :=
  if tok P t then (if tagg P t then some (.agg ((cs.drop off).take (tsz P t)).toArray) else cs[off]?) else none
theorem partA_vr {t : TypeId} {cs : List Value} {cs' : Array Value} {off : Nat} (hc : VRs σ η cs cs'.toList) {r : Value} (h : partA P t cs off = some r) : ∃ r', partV P t cs' off = some r' ∧ VR σ η r r' := by
  unfold partA at h
  unfold partV
  split at h
  · rename_i h1
    rw [if_pos h1]
    split at h
    · rename_i h2
      rw [if_pos h2]
      cases h
      refine ⟨_, rfl, ?_⟩
      have : cs'.extract off (off + tsz P t) = ((cs'.toList.drop off).take (tsz P t)).toArray := by
        apply Array.toList_inj.1
        simp [Array.toList_extract, List.extract_eq_take_drop]
      rw [this]
      exact VRs.agg ((hc.drop off).take _)
    · rename_i h2
      rw [if_neg h2]
      obtain ⟨v, hv, hr⟩ := hc.get h
      exact ⟨v, by simpa using hv, hr⟩
  · cases h
def fieldA (P : Program) (s : TypeId) (f : Nat) : Value → Option Value
  | .agg cs => match tfld P s f with | some (t, off) => partA P t cs.toList off | none => none
  | _ => none
theorem fieldA_vr {s f : Nat} {u u' : Value} (hu : VR σ η u u') {r : Value} (h : fieldA P s f u = some r) : ∃ r', fieldV P s f u' = some r' ∧ VR σ η r r' := by
  cases hu <;> simp only [fieldA] at h <;> try (cases h; done)
  rename_i a a' ha h1
  simp only [fieldV]
  split at h
  · rename_i t off ht
    rw [ht]
    exact partA_vr (VRs.ofArr ha h1) h
  · cases h
theorem idxA_vr {t : TypeId} {u u' v v' : Value} (hu : VR σ η u u') (hv : VR σ η v v') {r : Value} (h : idxA P t u v = some r) : ∃ r', idxA P t u' v' = some r' ∧ VR σ η r r' := by
  cases hu <;> cases hv <;> simp only [idxA] at h ⊢ <;> try (cases h; done)
  · split at h
    · rename_i n e he
      split at h
      · rename_i hok
        split at h
        · rename_i hi
          cases h
          simp only [hok, if_true, hi, and_self, add_ptr]
          exact ⟨_, rfl, .ptr (by assumption)⟩
        · cases h
      · cases h
    · cases h
  · split at h
    · rename_i e he
      split at h
      · rename_i hok
        split at h
        · rename_i hi
          cases h
          simp only [hok, if_true, hi, and_self, add_ptr]
          refine ⟨_, rfl, ?_⟩
          rename_i ho _ _ _ _ _ _ _
          rcases ho with rfl | ⟨h0, _⟩
          · exact .ptr (by assumption)
          · omega
        · cases h
      · cases h
    · cases h
def idxK (P : Program) (t : TypeId) : Value → Value → Option Value
  | .agg cs, .int _ i => match tarr P t with
    | some (n, e) => if tok P e then (if 0 ≤ i ∧ i < n then partA P e cs.toList (i.toNat * tsz P e) else none) else none
    | none => none
  | .string s, .int _ i => if tstr P t then (if 0 ≤ i then (s.data.toList[i.toNat]?).map fun b => .int .u8 b.toNat else none) else none
  | _, _ => none
theorem ba_get (s : ByteArray) (i : Nat) : s[i]? = s.data.toList[i]? := by
  by_cases h : i < s.size
  · rw [getElem?_pos s i h]
    have h2 : i < s.data.toList.length := h
    rw [List.getElem?_eq_getElem h2]
    rfl
  · rw [getElem?_neg s i h]
    have h2 : ¬ i < s.data.toList.length := h
    rw [List.getElem?_eq_none (by omega)]
theorem idxK_vr {t : TypeId} {u u' v v' : Value} (hu : VR σ η u u') (hv : VR σ η v v') {r : Value} (h : idxK P t u v = some r) : ∃ r', idxV P t u' v' = some r' ∧ VR σ η r r' := by
  cases hu <;> cases hv <;> simp only [idxK] at h <;> try (cases h; done)
  · simp only [idxV]
    refine ⟨r, ?_, ?_⟩
    · rw [ba_get]; exact h
    · split at h
      · split at h
        · obtain ⟨b, _, rfl⟩ := Option.map_eq_some_iff.1 h
          exact .int _ _
        · cases h
      · cases h
  · rename_i a a' ha h1 k i
    simp only [idxV]
    split at h
    · rename_i n e he
      split at h
      · rename_i hok
        split at h
        · rename_i hi
          rw [he]
          simp only [hok, if_true, hi, and_self]
          exact partA_vr (VRs.ofArr ha h1) h
        · cases h
      · cases h
    · cases h
theorem bound_vr {d : Int} {u u' : Value} (hu : VR σ η u u') {r : Int} (h : boundV (some u) d = some r) : boundV (some u') d = some r := by
  cases hu <;> simp only [boundV] at h ⊢ <;> first | exact h | cases h
def slcA (P : Program) (t : TypeId) (x : Value) (lo hi : Option Value) : Option Value :=
  match x with
  | .slice none n c => slcV P t (.slice none n c) lo hi
  | .slice (some ⟨j, o, none⟩) n c => if c < capU then slcV P t (.slice (some ⟨j, o, none⟩) n c) lo hi else
      (match telem P t, boundV lo 0, boundV hi n with
      | some e, some l, some h => if tok P e = true ∧ 0 < tsz P e ∧ 0 ≤ l ∧ l ≤ h ∧ h ≤ n then some (.slice (some ⟨j, o + l.toNat * tsz P e, none⟩) (h - l).toNat c) else none
      | _, _, _ => none)
  | .string s => match boundV lo 0, boundV hi s.data.toList.length with
    | some l, some h => if tstr P t then (if 0 ≤ l ∧ l ≤ h ∧ h ≤ s.data.toList.length then some (.string ⟨⟨(s.data.toList.drop l.toNat).take (h.toNat - l.toNat)⟩⟩) else none) else none
    | _, _ => none
  | _ => none
def ORel (σ : Nat → Option Ent) (η : Nat → Value) : Option Value → Option Value → Prop
  | none, none => True
  | some u, some v => VR σ η u v
  | _, _ => False
theorem boundO_vr {d : Int} {u u' : Option Value} (hu : ORel σ η u u') {r : Int} (h : boundV u d = some r) : boundV u' d = some r := by
  cases u <;> cases u' <;> simp only [ORel] at hu
  · exact h
  · exact bound_vr hu h
theorem ba_extract (s : ByteArray) (l h : Nat) : s.extract l h = ⟨⟨(s.data.toList.drop l).take (h - l)⟩⟩ := by
  apply ByteArray.ext
  rw [ByteArray.data_extract]
  apply Array.toList_inj.1
  simp [Array.toList_extract, List.extract_eq_take_drop]
theorem slcA_vr {t : TypeId} {u u' : Value} {lo lo' hi hi' : Option Value} (hu : VR σ η u u') (hl : ORel σ η lo lo') (hh : ORel σ η hi hi') {r : Value} (h : slcA P t u lo hi = some r) : ∃ r', slcV P t u' lo' hi' = some r' ∧ VR σ η r r' := by
  cases hu <;> simp only [slcA] at h <;> try (cases h; done)
  · rename_i s
    simp only [slcV]
    cases h1 : boundV lo 0 with
    | none => rw [h1] at h; cases h
    | some l =>
      rw [h1] at h
      rw [boundO_vr hl h1]
      cases h2 : boundV hi s.data.toList.length with
      | none => rw [h2] at h; cases h
      | some m =>
        rw [h2] at h
        have : (s.size : Int) = (s.data.toList.length : Int) := rfl
        rw [this, boundO_vr hh h2]
        simp only at h ⊢
        split at h
        · rename_i ht
          rw [if_pos ht]
          split at h
          · rename_i hc
            rw [if_pos hc]
            cases h
            exact ⟨_, rfl, by rw [ba_extract]; exact .string _⟩
          · cases h
        · cases h
  · simp only [slcV] at h ⊢
    cases he : telem P t with
    | none => rw [he] at h; cases h
    | some e =>
      rw [he] at h
      cases h1 : boundV lo 0 with
      | none => rw [h1] at h; cases h
      | some l =>
        rw [h1] at h
        rw [boundO_vr hl h1]
        cases h2 : boundV hi (0 : Nat) with
        | none => rw [h2] at h; cases h
        | some m =>
          rw [h2] at h
          rw [boundO_vr hh h2]
          simp only at h ⊢
          refine ⟨r, h, ?_⟩
          split at h
          · split at h
            · rename_i hc
              have e1 : l = 0 := by omega
              have e2 : m = 0 := by omega
              subst e1 e2
              cases h
              exact .nilSlc
            · cases h
          · cases h
  · rename_i j o n c c' o' x hx ho hm hn g1 g2
    split at h
    · rename_i hc
      have e1 := g1 hc
      subst e1
      obtain rfl : o' = o := by rcases ho with h | h; exact h; omega
      simp only [slcV] at h ⊢
      cases he : telem P t with
      | none => rw [he] at h; cases h
      | some e =>
        rw [he] at h
        cases h1 : boundV lo 0 with
        | none => rw [h1] at h; cases h
        | some l =>
          rw [h1] at h
          rw [boundO_vr hl h1]
          cases h2 : boundV hi n with
          | none => rw [h2] at h; cases h
          | some m =>
            rw [h2] at h
            rw [boundO_vr hh h2]
            simp only at h ⊢
            split at h
            · rename_i hok
              rw [if_pos hok]
              split at h
              · rename_i hb
                rw [if_pos hb]
                refine ⟨_, rfl, ?_⟩
                cases h
                by_cases hcl : (c' : Int) = l
                · rw [if_pos hcl, if_pos hcl]
                  exact .slc hx (.inl rfl) (by omega) (by omega) (fun _ => rfl) (fun h => by omega)
                · rw [if_neg hcl, if_neg hcl]
                  simp only [Option.map_some, add_ptr]
                  exact .slc hx (.inl rfl) (by omega) (by omega) (fun _ => rfl) (fun h => by omega)
              · cases h
            · cases h
    · rename_i hc
      simp only [slcV]
      cases he : telem P t with
      | none => rw [he] at h; cases h
      | some e =>
        rw [he] at h
        cases h1 : boundV lo 0 with
        | none => rw [h1] at h; cases h
        | some l =>
          rw [h1] at h
          rw [boundO_vr hl h1]
          cases h2 : boundV hi n with
          | none => rw [h2] at h; cases h
          | some m =>
            rw [h2] at h
            rw [boundO_vr hh h2]
            simp only at h ⊢
            split at h
            · rename_i hb
              obtain ⟨hok, hsz, hb1, hb2, hb3⟩ := hb
              rw [if_pos hok, if_pos ⟨hb1, hb2, by omega⟩]
              refine ⟨_, rfl, ?_⟩
              cases h
              have hl0 : l.toNat = 0 → o + l.toNat * tsz P e = o := fun h => by rw [h]; simp
              have hl1 : 0 < l.toNat → 0 < l.toNat * tsz P e := fun h => Nat.mul_pos h hsz
              by_cases hcl : (c' : Int) = l
              · rw [if_pos hcl]
                refine .slc hx ?_ (by omega) (by omega) (fun h => by omega) (fun _ h0 => ?_)
                · by_cases hz : l.toNat = 0
                  · rw [hl0 hz]
                    rcases ho with h | ⟨_, _, h⟩
                    · exact .inl h
                    · exact .inr ⟨by omega, by omega, h⟩
                  · exact .inr ⟨by omega, by omega, by have := hl1 (by omega); omega⟩
                · have hz : l.toNat = 0 := by
                    rcases Nat.eq_zero_or_pos l.toNat with h | h
                    · exact h
                    · have := hl1 h; omega
                  have := g2 (by omega) (by omega)
                  have e0 : ((c' : Int) - l).toNat = c' := by omega
                  rw [e0]; exact this
              · rw [if_neg hcl]
                simp only [Option.map_some, add_ptr]
                refine .slc hx ?_ (by omega) (by omega) (fun h => by omega) (fun _ h0 => ?_)
                · rcases ho with h | ⟨h1, h2, h3⟩
                  · exact .inl (by rw [h])
                  · exact .inr ⟨by omega, by omega, by omega⟩
                · have hz : l.toNat = 0 := by
                    rcases Nat.eq_zero_or_pos l.toNat with h | h
                    · exact h
                    · have := hl1 h; omega
                  have := g2 (by omega) (by omega)
                  have e0 : ((c' : Int) - l).toNat = c' := by omega
                  rw [e0]; exact this
            · cases h

theorem nilV_vr {u u' : Value} (hu : VR σ η u u') {r : Value} (h : nilV u = some r) : ∃ r', nilV u' = some r' ∧ VR σ η r r' := by
  cases hu with
  | ptr hx => cases h; exact ⟨_, rfl, .ptr hx⟩
  | nilSlc => cases h; exact ⟨_, rfl, .nilSlc⟩
  | slc hx ho hm hn h1 h2 => cases h; exact ⟨_, rfl, .slc hx ho hm hn h1 h2⟩
  | iface hx => cases h; exact ⟨_, rfl, .iface hx⟩
  | @func f a a' b b' ha hb h1 h2 =>
    cases f <;> simp only [nilV] at h ⊢ <;> first | (cases h; done) | (cases h; exact ⟨_, rfl, .func ha hb h1 h2⟩)
  | _ => simp [nilV] at h
def extA (i : Nat) : Value → Option Value
  | .tuple vs => vs.toList[i]?
  | _ => none
theorem extA_vr {i : Nat} {u u' : Value} (hu : VR σ η u u') {r : Value} (h : extA i u = some r) : ∃ r', extV i u' = some r' ∧ VR σ η r r' := by
  cases hu with
  | tuple ha h1 =>
    obtain ⟨v, hv, hr⟩ := (VRs.ofArr ha h1).get h
    exact ⟨v, by simpa [extV] using hv, hr⟩
  | _ => simp [extA] at h
theorem vr_pair {u u' : Value} (h : VR σ η u u') (b : Bool) : VR σ η (.tuple #[u, .bool b]) (.tuple #[u', .bool b]) := VRs.tuple (a := [u, .bool b]) (b := [u', .bool b]) (.cons h (.cons (.bool b) .nil))
def assertA (P : Program) (t : TypeId) (ok : Bool) : Value → Option Value
  | .iface u v => if tconc P t then (if u = t then some (if ok then .tuple #[v, .bool true] else v) else if ok then (match tzero P t with | some z => if cv z then some (.tuple #[z, .bool false]) else none | none => none) else none) else none
  | .nilIface => if tconc P t && ok then (match tzero P t with | some z => if cv z then some (.tuple #[z, .bool false]) else none | none => none) else none
  | _ => none
theorem assertA_vr {t : TypeId} {ok : Bool} {u u' : Value} (hu : VR σ η u u') {r : Value} (h : assertA P t ok u = some r) : ∃ r', assertV P t ok u' = some r' ∧ VR σ η r r' := by
  cases hu with
  | iface hx =>
    simp only [assertA] at h
    simp only [assertV]
    split at h
    · rename_i hc
      rw [if_pos hc]
      split at h
      · rename_i ht
        rw [if_pos ht]
        cases h
        cases ok
        · exact ⟨_, rfl, hx⟩
        · exact ⟨_, rfl, vr_pair hx true⟩
      · rename_i ht
        rw [if_neg ht]
        split at h
        · rename_i hok
          rw [if_pos hok]
          split at h
          · rename_i z hz
            split at h
            · rename_i hcv
              cases h
              exact ⟨_, by rw [hz]; rfl, vr_pair (VR.cv hcv) false⟩
            · cases h
          · cases h
        · cases h
    · cases h
  | nilIface =>
    simp only [assertA] at h
    simp only [assertV]
    split at h
    · rename_i hc
      rw [if_pos hc]
      split at h
      · rename_i z hz
        split at h
        · rename_i hcv
          cases h
          exact ⟨_, by rw [hz]; rfl, vr_pair (VR.cv hcv) false⟩
        · cases h
      · cases h
    · cases h
  | _ => simp [assertA] at h
/-! ### composite values -/
def splice (l : List Value) (off : Nat) (xs : List Value) : List Value := l.take off ++ xs ++ l.drop (off + xs.length)
theorem splice_length {l xs : List Value} {off : Nat} (h : off + xs.length ≤ l.length) : (splice l off xs).length = l.length := by
  simp only [splice, List.length_append, List.length_take, List.length_drop]; omega
theorem VRs.splice {a b c d : List Value} (h : VRs σ η a b) (k : VRs σ η c d) (off : Nat) : VRs σ η (splice a off c) (splice b off d) := by
  unfold Go.Proofs.YtcglagkhnegbbaaGreat.splice
  rw [k.1]
  exact ((h.take off).append k).append (h.drop _)
theorem foldSet : ∀ (l : List Value) (k : Nat) (b : Array Value) (off : Nat), off + k + l.length ≤ b.size →
    ((l.zipIdx k).foldl (fun cs (x : Value × Nat) => cs.setIfInBounds (off + x.2) x.1) b).toList = splice b.toList (off + k) l
  | [], k, b, off, h => by simp [splice]
  | v :: l, k, b, off, h => by
    simp only [List.zipIdx_cons, List.foldl_cons]
    simp only [List.length_cons] at h
    rw [foldSet l (k + 1) _ off (by simp; omega)]
    apply List.ext_getElem?
    intro i
    unfold splice
    simp only [Array.toList_setIfInBounds]
    have hlen : b.toList.length = b.size := by simp
    by_cases h1 : i < off + k
    · rw [List.getElem?_append_left (by simp; omega), List.getElem?_append_left (by simp; omega), List.getElem?_append_left (by simp; omega), List.getElem?_append_left (by simp; omega), List.getElem?_take_of_lt (by omega), List.getElem?_take_of_lt (by omega), List.getElem?_set_ne (by omega)]
    · by_cases h2 : i = off + k
      · subst h2
        rw [List.getElem?_append_left (by simp; omega), List.getElem?_append_left (by simp; omega), List.getElem?_append_left (by simp; omega), List.getElem?_append_right (by simp; omega), List.getElem?_take_of_lt (by omega), List.getElem?_set_self (by omega)]
        simp [Nat.min_eq_left (show off + k ≤ b.size by omega)]
      · by_cases h3 : i < off + (k + 1) + l.length
        · rw [List.getElem?_append_left (by simp; omega), List.getElem?_append_right (by simp; omega), List.getElem?_append_left (by simp; omega), List.getElem?_append_right (by simp; omega)]
          simp only [List.length_take, List.length_set, hlen]
          rw [Nat.min_eq_left (by omega), Nat.min_eq_left (by omega), show i - (off + k) = (i - (off + (k + 1))) + 1 by omega, List.getElem?_cons_succ]
        · rw [List.getElem?_append_right (by simp; omega), List.getElem?_append_right (by simp; omega)]
          simp only [List.length_append, List.length_take, List.length_set, hlen, List.length_cons, List.getElem?_drop]
          rw [Nat.min_eq_left (by omega), Nat.min_eq_left (by omega), List.getElem?_set_ne (by omega)]
          congr 1
          omega
def fillL (place : Nat → Option (Nat × Nat)) (cells : List Value) : List (Nat × Value) → Option (List Value)
  | [] => some cells
  | (i, v) :: rest => match place i with
    | none => none
    | some (off, size) => if v.cells.toList.length = size ∧ off + v.cells.toList.length ≤ cells.length then fillL place (splice cells off v.cells.toList) rest else none
def PRel (σ : Nat → Option Ent) (η : Nat → Value) : List (Nat × Value) → List (Nat × Value) → Prop
  | [], [] => True
  | (i, u) :: a, (j, v) :: b => i = j ∧ VR σ η u v ∧ PRel σ η a b
  | _, _ => False
theorem fillL_vr {place : Nat → Option (Nat × Nat)} : ∀ {ps ps' : List (Nat × Value)} {cs : List Value} {cs' : Array Value}, PRel σ η ps ps' → VRs σ η cs cs'.toList → ∀ {r : List Value}, fillL place cs ps = some r →
    ∃ r', fillV place cs' ps' = some r' ∧ VRs σ η r r'.toList
  | [], [], cs, cs', _, hc, r, h => by cases h; exact ⟨cs', rfl, hc⟩
  | (i, u) :: a, (j, v) :: b, cs, cs', hp, hc, r, h => by
    obtain ⟨rfl, hv, hp⟩ := hp
    simp only [fillL] at h
    cases hpl : place i with
    | none => rw [hpl] at h; cases h
    | some p =>
      obtain ⟨off, size⟩ := p
      rw [hpl] at h
      simp only at h
      split at h
      · rename_i hc1
        have hcv := hv.cells
        have hl := hcv.1
        have hl2 := hc.1
        simp only [Array.length_toList] at hl2 hl hc1
        have hfs := foldSet v.cells.toList 0 cs' off (by simp; omega)
        simp only [Nat.add_zero] at hfs
        obtain ⟨r', h1, h2⟩ := fillL_vr (cs' := v.cells.zipIdx.foldl (fun cs (x : Value × Nat) => cs.setIfInBounds (off + x.2) x.1) cs') hp (by
          rw [← Array.foldl_toList, Array.toList_zipIdx, hfs]
          exact hc.splice hcv off) h
        refine ⟨r', ?_, h2⟩
        have hg : ¬ (v.cells.size ≠ size || off + v.cells.size > cs'.size) = true := by simp; omega
        show Instr.fill place cs' ((i, v) :: b) = some r'
        rw [Instr.fill, hpl]
        simp only
        rw [if_neg hg]
        exact h1
      · cases h
  | [], _ :: _, _, _, hp, _, _, _ => hp.elim
  | _ :: _, [], _, _, hp, _, _, _ => hp.elim
theorem partsA_vr {E : Tr Value} {e : Env} (hE : ER σ η E e) : ∀ {l : List (Nat × Operand)} {ps : List (Nat × Value)}, partsA E l = some ps → PRel σ η ps (l.map fun x => (x.1, ev e x.2))
  | [], _, h => by cases h; trivial
  | (i, x) :: l, _, h => by
    simp only [partsA] at h
    obtain ⟨v, hv, h⟩ := Option.bind_eq_some_iff.1 h
    obtain ⟨vs, hvs, rfl⟩ := Option.map_eq_some_iff.1 h
    exact ⟨rfl, opd_sound hE hv, partsA_vr hE hvs⟩
def buildA (P : Program) (t : TypeId) (parts : List (Nat × Value)) : Option Value :=
  match P.underlying t, tzero P t with
  | some (.struct fs), some z => if fs.all (fun f => tok P f.type) && cv z then (fillL (fun i => (fs[i]?).map fun f => (f.offset, tsz P f.type)) z.cells.toList parts).map fun c => .agg c.toArray else none
  | some (.array _ e), some z => if tok P e && cv z then (fillL (fun i => some (i * tsz P e, tsz P e)) z.cells.toList parts).map fun c => .agg c.toArray else none
  | _, _ => none
theorem buildA_vr {t : TypeId} {ps ps' : List (Nat × Value)} (hp : PRel σ η ps ps') {r : Value} (h : buildA P t ps = some r) : ∃ r', buildV P t ps' = some r' ∧ VR σ η r r' := by
  unfold buildA at h
  unfold buildV
  cases h1 : P.underlying t with
  | none => rw [h1] at h; cases h
  | some d =>
    rw [h1] at h
    cases h2 : tzero P t with
    | none => rw [h2] at h; cases d <;> cases h
    | some z =>
      rw [h2] at h
      cases d <;> simp only at h ⊢ <;> try (cases h; done)
      · split at h
        · rename_i hc
          simp only [Bool.and_eq_true] at hc
          rw [if_pos hc.1]
          obtain ⟨c, hf, rfl⟩ := Option.map_eq_some_iff.1 h
          obtain ⟨r', h3, h4⟩ := fillL_vr hp (VR.cells (VR.cv hc.2)) hf
          exact ⟨_, by rw [h3]; rfl, by have := VRs.agg h4; simpa using this⟩
        · cases h
      · split at h
        · rename_i hc
          simp only [Bool.and_eq_true] at hc
          rw [if_pos hc.1]
          obtain ⟨c, hf, rfl⟩ := Option.map_eq_some_iff.1 h
          obtain ⟨r', h3, h4⟩ := fillL_vr hp (VR.cells (VR.cv hc.2)) hf
          exact ⟨_, by rw [h3]; rfl, by have := VRs.agg h4; simpa using this⟩
        · cases h

def lenA (P : Program) (t : TypeId) : Value → Option Value
  | .slice _ n _ => if (telem P t).isSome then some (.int .i64 n) else none
  | .string s => if tstr P t then some (.int .i64 s.data.toList.length) else none
  | _ => none
theorem lenA_vr {t : TypeId} {u u' : Value} (hu : VR σ η u u') {r : Value} (h : lenA P t u = some r) : ∃ r', lenV P t u' = some r' ∧ VR σ η r r' := by
  cases hu <;> simp only [lenA] at h <;> try (cases h; done)
  all_goals
    split at h
    · rename_i hc
      cases h
      exact ⟨_, by simp only [lenV]; exact if_pos hc, .int _ _⟩
    · cases h
theorem min2_vr {u u' v v' : Value} (hu : VR σ η u u') (hv : VR σ η v v') {r : Value} (h : min2V u v = some r) : ∃ r', min2V u' v' = some r' ∧ VR σ η r r' := by
  cases hu <;> cases hv <;> simp only [min2V] at h ⊢ <;> first | (cases h; done) | (cases h; exact ⟨_, rfl, .int _ _⟩)
theorem max2_vr {u u' v v' : Value} (hu : VR σ η u u') (hv : VR σ η v v') {r : Value} (h : max2V u v = some r) : ∃ r', max2V u' v' = some r' ∧ VR σ η r r' := by
  cases hu <;> cases hv <;> simp only [max2V] at h ⊢ <;> first | (cases h; done) | (cases h; exact ⟨_, rfl, .int _ _⟩)
def opdO (E : Tr Value) : Option Operand → Option (Option Value)
  | none => some none
  | some x => (opd E x).map some
theorem opdO_vr {E : Tr Value} {e : Env} (hE : ER σ η E e) {x : Option Operand} {v : Option Value} (h : opdO E x = some v) : ORel σ η v (x.map (ev e)) := by
  cases x with
  | none => cases h; trivial
  | some x => obtain ⟨u, hu, rfl⟩ := Option.map_eq_some_iff.1 h; exact opd_sound hE hu
def pureA (P : Program) (E : Tr Value) : Op → Option Value
  | .move x => opd E x
  | .assign x => opd E x
  | .pick c a b => (opd E c).bind fun v => match v with | .bool t => if t then opd E a else opd E b | _ => none
  | .binOp op t x y _ => (opd E x).bind fun u => (opd E y).bind fun v => binK P t op u v (isC y)
  | .unOp op _ x => (opd E x).bind fun u => unV op u
  | .convert s d x => (opd E x).bind fun u => convV P s d u
  | .fieldAddr s x f => (opd E x).bind fun u => fldV P s f u
  | .field s x f => (opd E x).bind fun u => fieldA P s f u
  | .indexAddr t x i => (opd E x).bind fun u => (opd E i).bind fun v => idxA P t u v
  | .index t x i => (opd E x).bind fun u => (opd E i).bind fun v => idxK P t u v
  | .slice t x lo hi none => (opd E x).bind fun u => (opdO E lo).bind fun l => (opdO E hi).bind fun h => slcA P t u l h
  | .nilCheck x => (opd E x).bind nilV
  | .makeFunc fn a b => (opds E a.toList).bind fun va => (opds E b.toList).map fun vb => .func fn va.toArray vb.toArray
  | .makeInterface t x => if tconc P t then (opd E x).map (.iface t ·) else none
  | .extract x i => (opd E x).bind (extA i)
  | .typeAssert x _ t ok => (opd E x).bind (assertA P t ok)
  | .build t parts => (partsA E parts.toList).bind fun ps => buildA P t ps
  | .call { callee := .builtin .len, args := ⟨[x]⟩, argTypes := ⟨[t]⟩ } => (opd E x).bind (lenA P t)
  | .call { callee := .builtin .min, args := ⟨[x, y]⟩, .. } => (opd E x).bind fun u => (opd E y).bind fun v => min2V u v
  | .call { callee := .builtin .max, args := ⟨[x, y]⟩, .. } => (opd E x).bind fun u => (opd E y).bind fun v => max2V u v
  | _ => none
theorem VR.bool_inv {t : Bool} {v : Value} (h : VR σ η (.bool t) v) : v = .bool t := by cases h; rfl
theorem pureA_sound {E : Tr Value} {e : Env} (hE : ER σ η E e) {op : Op} {v : Value} (h : pureA P E op = some v) : ∃ v', pureV P (ev e) op = some v' ∧ VR σ η v v' := by
  have o : ∀ {x u}, opd E x = some u → VR σ η u (ev e x) := fun h => opd_sound hE h
  unfold pureA at h
  unfold pureV
  split at h <;> simp only at h ⊢ <;> try (cases h; done)
  · exact ⟨_, rfl, o h⟩
  · exact ⟨_, rfl, o h⟩
  · obtain ⟨c, hc, h⟩ := Option.bind_eq_some_iff.1 h
    have hc' := o hc
    split at h
    · rename_i t
      rw [VR.bool_inv hc']
      simp only [pickV]
      split at h
      · rename_i ht; exact ⟨_, rfl, by simp only [ht, if_true]; exact o h⟩
      · rename_i ht; exact ⟨_, rfl, by simp only [ht, if_false, Bool.false_eq_true]; exact o h⟩
    · cases h
  · obtain ⟨a, ha, h⟩ := Option.bind_eq_some_iff.1 h; obtain ⟨b, hb, h⟩ := Option.bind_eq_some_iff.1 h
    exact binK_vr (o ha) (o hb) h
  · obtain ⟨a, ha, h⟩ := Option.bind_eq_some_iff.1 h; exact unV_vr (o ha) h
  · obtain ⟨a, ha, h⟩ := Option.bind_eq_some_iff.1 h; exact convV_vr (o ha) h
  · obtain ⟨a, ha, h⟩ := Option.bind_eq_some_iff.1 h; exact fldV_vr (o ha) h
  · obtain ⟨a, ha, h⟩ := Option.bind_eq_some_iff.1 h; exact fieldA_vr (o ha) h
  · obtain ⟨a, ha, h⟩ := Option.bind_eq_some_iff.1 h; obtain ⟨b, hb, h⟩ := Option.bind_eq_some_iff.1 h
    exact idxA_vr (o ha) (o hb) h
  · obtain ⟨a, ha, h⟩ := Option.bind_eq_some_iff.1 h; obtain ⟨b, hb, h⟩ := Option.bind_eq_some_iff.1 h
    exact idxK_vr (o ha) (o hb) h
  · obtain ⟨a, ha, h⟩ := Option.bind_eq_some_iff.1 h; obtain ⟨l, hl, h⟩ := Option.bind_eq_some_iff.1 h; obtain ⟨b, hb, h⟩ := Option.bind_eq_some_iff.1 h
    exact slcA_vr (o ha) (opdO_vr hE hl) (opdO_vr hE hb) h
  · obtain ⟨a, ha, h⟩ := Option.bind_eq_some_iff.1 h; exact nilV_vr (o ha) h
  · obtain ⟨a, ha, h⟩ := Option.bind_eq_some_iff.1 h; obtain ⟨b, hb, rfl⟩ := Option.map_eq_some_iff.1 h
    have h1 := opds_sound hE ha
    have h2 := opds_sound hE hb
    refine ⟨_, rfl, .func ?_ ?_ (fun i u v hu hv => ?_) (fun i u v hu hv => ?_)⟩
    · simpa using h1.1
    · simpa using h2.1
    · exact h1.2 i u v (by simpa using hu) (by simpa using hv)
    · exact h2.2 i u v (by simpa using hu) (by simpa using hv)
  · split at h
    · rename_i hc
      obtain ⟨a, ha, rfl⟩ := Option.map_eq_some_iff.1 h
      exact ⟨_, by rw [if_pos hc], .iface (o ha)⟩
    · cases h
  · obtain ⟨a, ha, h⟩ := Option.bind_eq_some_iff.1 h; exact extA_vr (o ha) h
  · obtain ⟨a, ha, h⟩ := Option.bind_eq_some_iff.1 h; exact assertA_vr (o ha) h
  · obtain ⟨a, ha, h⟩ := Option.bind_eq_some_iff.1 h; exact buildA_vr (partsA_vr hE ha) h
  · obtain ⟨a, ha, h⟩ := Option.bind_eq_some_iff.1 h; exact lenA_vr (o ha) h
  · obtain ⟨a, ha, h⟩ := Option.bind_eq_some_iff.1 h; obtain ⟨b, hb, h⟩ := Option.bind_eq_some_iff.1 h
    exact min2_vr (o ha) (o hb) h
  · obtain ⟨a, ha, h⟩ := Option.bind_eq_some_iff.1 h; obtain ⟨b, hb, h⟩ := Option.bind_eq_some_iff.1 h
    exact max2_vr (o ha) (o hb) h
end
end Go.Proofs.YtcglagkhnegbbaaGreat
