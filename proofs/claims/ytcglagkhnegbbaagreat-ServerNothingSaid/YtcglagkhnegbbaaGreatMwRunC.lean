/- Closed runs, third part: the abstract memory. -/
import Derived.Test.YtcglagkhnegbbaaGreatMwRunB
namespace Go.Proofs.YtcglagkhnegbbaaGreat
open Go.RowKit
noncomputable section
set_option linter.unusedVariables false
set_option linter.unusedSimpArgs false

structure AR where
  cs : List Value
  e : TypeId
  es : Nat
  full : Bool
  own : Bool
  st : Nat
/-- What is no row: a map (its entries: key, value, stamp; its clock); a walk over a map. -/
inductive ObjA where
  | map (es : List (Value × Value × Nat)) (ck : Nat)
  | iter (m since : Nat) (seen : List Nat) (last : Nat)
  | loop (st : Nat) (pend : Option (Option Nat))
  | defs
/-- What of a live loop's record stays. -/
structure LoopS where
  E : Tr Value
  ps : List Nat
  A : Code
  B : Code
  pl : Nat → Plan
structure AW where
  rows : Tr AR
  n : Nat
  rsv : List Nat
  maps : Tr ObjA
  ls : List (Nat × LoopS)
structure EntR (σ : Nat → Option Ent) (η : Nat → Value) (e : Value × Value × Nat) (x : MapEntry) : Prop where
  key : x.key = e.1
  val : VR σ η e.2.1 x.val
  born : x.born = e.2.2
def MapR (σ : Nat → Option Ent) (η : Nat → Value) (l : List (Value × Value × Nat)) (es : Array MapEntry) : Prop := l.length = es.size ∧ ∀ (i : Nat) e x, l[i]? = some e → es[i]? = some x → EntR σ η e x
theorem MapR.mono {σ σ' : Nat → Option Ent} {η : Nat → Value} {l : List (Value × Value × Nat)} {es : Array MapEntry} (h : MapR σ η l es) (hs : Sub σ σ') : MapR σ' η l es :=
  ⟨h.1, fun i e x he hx => ⟨(h.2 i e x he hx).key, (h.2 i e x he hx).val.mono hs, (h.2 i e x he hx).born⟩⟩
def stC : Nat → LoopState
  | 0 => .ready
  | 1 => .busy
  | 2 => .done
  | _ => .exhausted
def pendC : Option (Option Nat) → Option Code
  | none => none
  | some none => some .ret
  | some (some i) => some (.exit i)
structure LoopR (σ : Nat → Option Ent) (η : Nat → Value) (S : LoopS) (st : Nat) (pend : Option (Option Nat)) (r : Loop) : Prop where
  state : r.state = stC st
  pending : r.pending = pendC pend
  params : r.params.toList = S.ps
  assign : r.assign = S.A
  body : r.body = S.B
  okA : noDefer r.assign = true ∧ plansOk S.pl r.assign = true
  okB : noDefer r.body = true ∧ plansOk S.pl r.body = true
  fits : ∃ g, fits r.tmps.size (.rangeFunc g r.params r.assign r.body) = true
  tmps : ∃ e0, ER σ η S.E e0 ∧ ∀ t, t < r.tmps.size → r.tmps[t]? = some (e0 t)
def lsGet : List (Nat × LoopS) → Nat → Option LoopS
  | [], _ => none
  | x :: l, j => Bool.rec (lsGet l j) (some x.2) (Nat.beq x.1 j)
def ObjR (σ : Nat → Option Ent) (η : Nat → Value) (L : Option LoopS) : ObjA → Obj → Prop
  | .map l ck, .map es ck' => ck' = ck ∧ MapR σ η l es
  | .iter m since seen last, .mapIter m' since' seen' last' => (∃ x, σ m = some x ∧ m' = some x.b) ∧ since' = since ∧ seen'.toList = seen ∧ last' = last
  | .loop st pend, .loop r => ∃ S, L = some S ∧ LoopR σ η S st pend r
  | .defs, .deferred (some []) => True
  | _, _ => False
theorem ObjR.mono {σ σ' : Nat → Option Ent} {η : Nat → Value} {L : Option LoopS} {a : ObjA} {o : Obj} (h : ObjR σ η L a o) (hs : Sub σ σ') : ObjR σ' η L a o := by
  unfold ObjR at h ⊢
  split at h
  · exact ⟨h.1, h.2.mono hs⟩
  · obtain ⟨⟨x, hx, he⟩, h2⟩ := h
    exact ⟨⟨x, hs _ _ hx, he⟩, h2⟩
  · obtain ⟨S, hS, hr⟩ := h
    obtain ⟨e0, he0, ht⟩ := hr.tmps
    exact ⟨S, hS, hr.state, hr.pending, hr.params, hr.assign, hr.body, hr.okA, hr.okB, hr.fits, e0, he0.mono hs, ht⟩
  · trivial
  · exact h.elim
theorem ObjR.nc {σ : Nat → Option Ent} {η : Nat → Value} {L : Option LoopS} {a : ObjA} {o : Obj} (h : ObjR σ η L a o) : ∀ cur e fz, o ≠ .cells cur e fz := by
  intro cur e fz he
  subst he
  cases a <;> exact h
def MInv (w0 : World) (σ : Nat → Option Ent) (η : Nat → Value) (L : List (Nat × LoopS)) (M : Tr ObjA) (w : World) : Prop :=
  (∀ j m, M.get j = some m → ∃ x o, σ j = some x ∧ w0.heap.size ≤ x.b ∧ w.heap[x.b]? = some o ∧ ObjR σ η (lsGet L j) m o) ∧
  ∀ i j mi mj x y, M.get i = some mi → M.get j = some mj → σ i = some x → σ j = some y → x.b = y.b → i = j
theorem MInv.keep {w0 w w' : World} {σ σ' : Nat → Option Ent} {η : Nat → Value} {L : List (Nat × LoopS)} {M : Tr ObjA} (h : MInv w0 σ η L M w) (hs : Sub σ σ') (hk : ∀ (k : Nat) (o : Obj), w.heap[k]? = some o → (∀ cur e fz, o ≠ .cells cur e fz) → w'.heap[k]? = w.heap[k]?) : MInv w0 σ' η L M w' :=
  ⟨fun j m hg => by
    obtain ⟨x, o, hx, hb, ho, hr⟩ := h.1 j m hg
    exact ⟨x, o, hs _ _ hx, hb, (hk _ _ ho hr.nc).trans ho, hr.mono hs⟩,
  fun i j mi mj x y hi hj hx hy hxy => by
    obtain ⟨x', _, hx', _⟩ := h.1 i mi hi
    obtain ⟨y', _, hy', _⟩ := h.1 j mj hj
    rw [hs _ _ hx'] at hx
    cases hx
    rw [hs _ _ hy'] at hy
    cases hy
    exact h.2 i j mi mj _ _ hi hj hx' hy' hxy⟩
structure Inv (w0 : World) (σ : Nat → Option Ent) (η : Nat → Value) (A : AW) (w : World) : Prop where
  ext : Ext w0 w
  fresh : ∀ j, A.n ≤ j → σ j = none
  rsv : ∀ j ∈ A.rsv, σ j = none ∧ j < A.n
  row : ∀ j r, A.rows.get j = some r → ∃ x cur, σ j = some x ∧ x.es = r.es ∧ w0.heap.size ≤ x.b ∧ w.heap[x.b]? = some (.cells cur r.e x.fz) ∧ cur.size = x.tot ∧ ((r.full = true → cur.size = r.cs.length) ∧ (r.own = true → x.fz = (0, 0))) ∧ VRs σ η r.cs (cur.toList.take r.cs.length) ∧ r.cs.length ≤ cur.size
  sep : ∀ i j ri rj x y, A.rows.get i = some ri → A.rows.get j = some rj → σ i = some x → σ j = some y → x.b = y.b → i = j
  mp : MInv w0 σ η A.ls A.maps w
structure Step (σ σ' : Nat → Option Ent) (A A' : AW) (w w' : World) : Prop where
  sub : Sub σ σ'
  ls : A'.ls = A.ls
  keep : ∀ j r' x, A'.rows.get j = some r' → σ j = some x → ∃ r, A.rows.get j = some r ∧ r.st ≤ r'.st ∧ (r.st = r'.st → w'.heap[x.b]? = w.heap[x.b]?)
theorem Step.refl (σ : Nat → Option Ent) (A : AW) (w : World) : Step σ σ A A w w := ⟨Sub.refl _, rfl, fun j r x hg _ => ⟨r, hg, Nat.le_refl _, fun _ => rfl⟩⟩
theorem Step.trans {σ1 σ2 σ3 : Nat → Option Ent} {A1 A2 A3 : AW} {w1 w2 w3 : World} (h : Step σ1 σ2 A1 A2 w1 w2) (k : Step σ2 σ3 A2 A3 w2 w3) : Step σ1 σ3 A1 A3 w1 w3 :=
  ⟨h.sub.trans k.sub, k.ls.trans h.ls, fun j r3 x hg hx => by
    obtain ⟨r2, h2, l2, e2⟩ := k.keep j r3 x hg (h.sub _ _ hx)
    obtain ⟨r1, h1, l1, e1⟩ := h.keep j r2 x h2 hx
    exact ⟨r1, h1, Nat.le_trans l1 l2, fun he => (e2 (by omega)).trans (e1 (by omega))⟩⟩
section
variable {P : Program} {w0 : World} {σ : Nat → Option Ent} {η : Nat → Value} {A : AW} {w : World}

theorem Inv.drew (h : Inv w0 σ η A w) : Inv w0 σ η A w.drew := ⟨h.ext.drew', h.fresh, h.rsv, h.row, h.sep, h.mp⟩
theorem Step.drew (h : Step σ σ A A w w) : Step σ σ A A w w.drew := ⟨Sub.refl _, rfl, fun j r x hg _ => ⟨r, hg, Nat.le_refl _, fun _ => rfl⟩⟩

/-! ### new rows -/
def newRow (A : AW) (rid : Option Nat) (cs : List Value) (e : TypeId) (es : Nat) : Option (Nat × AW) :=
  match rid with
  | none => some (A.n, { A with rows := A.rows.set A.n (some ⟨cs, e, es, true, true, 0⟩), n := A.n + 1 })
  | some id => if id < A.n ∧ A.rsv.contains id = true then some (id, { A with rows := A.rows.set id (some ⟨cs, e, es, true, true, 0⟩), rsv := A.rsv.filter (· != id) }) else none
def upS (σ : Nat → Option Ent) (j : Nat) (x : Ent) : Nat → Option Ent := fun i => if i = j then some x else σ i
theorem upS_self (j : Nat) (x : Ent) : upS σ j x j = some x := by simp [upS]
theorem upS_sub {j : Nat} {x : Ent} (h : σ j = none) : Sub σ (upS σ j x) := fun i y hi => by
  unfold upS
  split
  · rename_i e; subst e; rw [h] at hi; cases hi
  · exact hi
theorem alloc_new (w : World) (cs : List Value) (e : TypeId) : (w.alloc (.cells cs.toArray e)).heap[w.heap.size]? = some (.cells cs.toArray e) := heap_alloc_new w _
/-- A new row, wherever the world came to lie. -/
theorem newAny {A' : AW} {id : Nat} {cs cs' : List Value} {e : TypeId} {es : Nat} (h : Inv w0 σ η A w) (hid : σ id = none) (hcs : VRs σ η cs cs')
    (hr : A'.rows = A.rows.set id (some ⟨cs, e, es, true, true, 0⟩)) (hn : ∀ j, A'.n ≤ j → A.n ≤ j ∧ j ≠ id) (hnn : A.n ≤ A'.n) (hv : ∀ j ∈ A'.rsv, j ∈ A.rsv ∧ j ≠ id) (hm : A'.maps = A.maps) (hls : A'.ls = A.ls) :
    Inv w0 (upS σ id ⟨w.heap.size, cs.length, es, (0, 0)⟩) η A' (w.alloc (.cells cs'.toArray e)) ∧ Step σ (upS σ id ⟨w.heap.size, cs.length, es, (0, 0)⟩) A A' w (w.alloc (.cells cs'.toArray e)) := by
  have hsub := upS_sub (x := ⟨w.heap.size, cs.length, es, (0, 0)⟩) hid
  have hnone : A.rows.get id = none := by
    cases hg : A.rows.get id with
    | none => rfl
    | some r => obtain ⟨x, cur, hx, _⟩ := h.row id r hg; rw [hid] at hx; cases hx
  have blt : ∀ {j r x}, A.rows.get j = some r → σ j = some x → x.b < w.heap.size := fun {j r x} hg hx => by
    obtain ⟨y, cur, hy, _, _, hb, _⟩ := h.row j r hg
    rw [hx] at hy
    cases hy
    exact (Array.getElem?_eq_some_iff.1 hb).1
  refine ⟨⟨h.ext.alloc' _, fun j hj => ?_, fun j hj => ?_, fun j r hg => ?_, fun i j ri rj x y hi hj hx hy hxy => ?_, ?_⟩, ⟨hsub, hls, fun j r x hg hx => ?_⟩⟩
  · have := hn j hj
    simp [upS, this.2, h.fresh j this.1]
  · have := hv j hj
    have hr1 := h.rsv j this.1
    refine ⟨by simp [upS, this.2, hr1.1], ?_⟩
    exact Nat.lt_of_lt_of_le hr1.2 hnn
  · rw [hr, Tr.get_set] at hg
    split at hg
    · rename_i e1
      subst e1
      cases hg
      exact ⟨_, _, upS_self _ _, rfl, h.ext.le, alloc_new _ _ _, by simp [hcs.1], ⟨fun _ => by simp [hcs.1], fun _ => rfl⟩, by simpa [hcs.1] using hcs.mono hsub, by simp [hcs.1]⟩
    · obtain ⟨x, cur, hx, h1, h2, h3, h4, h5, h6, h7⟩ := h.row j r hg
      refine ⟨x, cur, hsub _ _ hx, h1, h2, ?_, h4, h5, h6.mono hsub, h7⟩
      rw [Below.heap_alloc _ _ _ (blt hg hx)]
      exact h3
  · rw [hr, Tr.get_set] at hi hj
    split at hi <;> split at hj
    · omega
    · rename_i e1 e2
      subst e1
      rw [upS_self] at hx
      cases hx
      simp only [upS, if_neg e2] at hy
      have := blt hj hy
      simp only at hxy
      omega
    · rename_i e1 e2
      subst e2
      rw [upS_self] at hy
      cases hy
      simp only [upS, if_neg e1] at hx
      have := blt hi hx
      simp only at hxy
      omega
    · rename_i e1 e2
      simp only [upS, if_neg e1] at hx
      simp only [upS, if_neg e2] at hy
      exact h.sep i j ri rj x y hi hj hx hy hxy
  · rw [hm, hls]
    exact h.mp.keep hsub fun k o hk _ => Below.heap_alloc _ _ _ (Array.getElem?_eq_some_iff.1 hk).1
  · have hj : j ≠ id := fun e => by subst e; rw [hid] at hx; cases hx
    rw [hr, Tr.get_set, if_neg hj] at hg
    exact ⟨r, hg, Nat.le_refl _, fun _ => Below.heap_alloc _ _ _ (blt hg hx)⟩
theorem newRow_sound {rid : Option Nat} {cs cs' : List Value} {e : TypeId} {es id : Nat} {A' : AW} (h : Inv w0 σ η A w) (hcs : VRs σ η cs cs') (hn : newRow A rid cs e es = some (id, A')) :
    ∃ x, x.b = w.heap.size ∧ x.es = es ∧ x.tot = cs.length ∧ Inv w0 (upS σ id x) η A' (w.alloc (.cells cs'.toArray e)) ∧ Step σ (upS σ id x) A A' w (w.alloc (.cells cs'.toArray e)) := by
  refine ⟨⟨w.heap.size, cs.length, es, (0, 0)⟩, rfl, rfl, rfl, ?_⟩
  unfold newRow at hn
  split at hn
  · cases hn
    exact newAny h (h.fresh _ (Nat.le_refl _)) hcs rfl (fun j hj => by simp at hj; omega) (by simp) (fun j hj => ⟨hj, fun e => by have := (h.rsv j hj).2; omega⟩) rfl rfl
  · split at hn
    · rename_i hl
      cases hn
      refine newAny h (h.rsv _ (by simpa using hl.2)).1 hcs rfl (fun j hj => ⟨hj, by have := hl.1; simp only at hj; omega⟩) (Nat.le_refl _) (fun j hj => ?_) rfl rfl
      simp only [List.mem_filter, bne_iff_ne] at hj
      exact hj
    · cases hn

/-! ### reading -/
theorem cell_blk {w : World} {b : Nat} {cur : Array Value} {e : TypeId} {fz : Nat × Nat} (h : w.heap[b]? = some (.cells cur e fz)) (o : Nat) : w.cell? ⟨b, o, none⟩ = cur[o]? := by
  unfold World.cell?
  simp only [h]
  simp
theorem frozen_blk {w : World} {b : Nat} {cur : Array Value} {e : TypeId} (h : w.heap[b]? = some (.cells cur e)) (o : Nat) : w.frozen? ⟨b, o, none⟩ = false := by
  unfold World.frozen?
  simp only [h]
  simp
theorem loads_blk {w : World} {b : Nat} {cur : Array Value} {e : TypeId} {fz : Nat × Nat} (h : w.heap[b]? = some (.cells cur e fz)) (o : Nat) : ∀ (n i : Nat), o + i + n ≤ cur.size → loadsV w ⟨b, o, none⟩ n i = some ((cur.toList.drop (o + i)).take n)
  | 0, _, _ => by simp [loadsV]
  | n + 1, i, hl => by
    simp only [loadsV, add_ptr, cell_blk h]
    rw [Array.getElem?_eq_getElem (by omega)]
    simp only [Option.bind_some]
    rw [loads_blk h o n (i + 1) (by omega)]
    simp only [Option.map_some]
    rw [List.drop_eq_getElem_cons (i := o + i) (by simp; omega), List.take_succ_cons]
    simp [Nat.add_assoc]
/-- The same, the list built up as it goes. -/
def spliceF {β : Type} : List Value → Nat → List Value → (List Value → β) → β
  | l, 0, [], k => k l
  | a :: l, 0, x :: xs, k => spliceF l 0 xs fun t => k (x :: t)
  | a :: l, o + 1, xs, k => spliceF l o xs fun t => k (a :: t)
  | [], _, _, k => k []
def leLen : List Value → Nat → Bool
  | _, 0 => true
  | [], _ + 1 => false
  | _ :: l, n + 1 => leLen l n
theorem leLen_iff : ∀ (l : List Value) (n : Nat), leLen l n = true ↔ n ≤ l.length
  | l, 0 => by cases l <;> simp [leLen]
  | [], n + 1 => by simp [leLen]
  | _ :: l, n + 1 => by simp [leLen, leLen_iff l n]
theorem spliceF_eq {β : Type} : ∀ (l : List Value) (o : Nat) (xs : List Value) (k : List Value → β), o + xs.length ≤ l.length → spliceF l o xs k = k (splice l o xs)
  | l, 0, [], k, _ => by cases l <;> simp [spliceF, splice]
  | a :: l, 0, x :: xs, k, h => by
    simp only [List.length_cons] at h
    rw [spliceF, spliceF_eq l 0 xs _ (by omega)]
    simp [splice]
  | a :: l, o + 1, xs, k, h => by
    simp only [List.length_cons] at h
    rw [spliceF, spliceF_eq l o xs _ (by omega)]
    unfold splice
    rw [show o + 1 + xs.length = (o + xs.length) + 1 by omega]
    simp
  | [], 0, x :: xs, k, h => by simp at h
  | [], o + 1, xs, k, h => by simp at h
def loadA (P : Program) (A : AW) (t : TypeId) : Value → Option Value
  | .pointer (some ⟨j, o, none⟩) => if tok P t = true then (A.rows.get j).bind fun r =>
      if tagg P t = true then (if leLen r.cs (o + tsz P t) = true then some (.agg ((r.cs.drop o).take (tsz P t)).toArray) else none) else r.cs[o]? else none
  | _ => none
theorem vrs_cur {r cs' : List Value} {n o : Nat} (h : VRs σ η r (cs'.take r.length)) (ho : o + n ≤ r.length) (hl : r.length ≤ cs'.length) : VRs σ η ((r.drop o).take n) ((cs'.drop o).take n) := by
  have := (h.drop o).take n
  refine ⟨this.1.trans ?_, fun i u v hu hv => this.2 i u v hu ?_⟩
  · simp only [List.length_take, List.length_drop]; omega
  · rw [← hv]
    simp only [List.getElem?_take, List.getElem?_drop]
    split
    · rw [if_pos (by omega)]
    · rfl
theorem loadA_blk {t : TypeId} {r : AR} {cur : Array Value} {b : Nat} {w : World} {fz : Nat × Nat} (h3 : w.heap[b]? = some (.cells cur r.e fz)) (h6 : VRs σ η r.cs (cur.toList.take r.cs.length)) (h7 : r.cs.length ≤ cur.size) {o : Nat} {v : Value} (hok : tok P t = true)
    (h : (if tagg P t = true then (if leLen r.cs (o + tsz P t) = true then some (Value.agg ((r.cs.drop o).take (tsz P t)).toArray) else none) else r.cs[o]?) = some v) :
    ∃ v', loadV P w t (.pointer (some ⟨b, o, none⟩)) = some v' ∧ VR σ η v v' := by
  simp only [loadV, hok, if_true]
  split at h
  · rename_i ha
    rw [if_pos ha]
    split at h
    · rename_i hl
      have hl := (leLen_iff _ _).1 hl
      cases h
      rw [loads_blk h3 o _ 0 (by omega)]
      exact ⟨_, rfl, VRs.agg (vrs_cur h6 hl (by simpa using h7))⟩
    · cases h
  · rename_i ha
    rw [if_neg ha]
    rw [cell_blk h3]
    obtain ⟨u, hu, hr⟩ := h6.get h
    have ho := (List.getElem?_eq_some_iff.1 h).1
    refine ⟨u, ?_, hr⟩
    rw [← hu, List.getElem?_take, if_pos ho, Array.getElem?_toList]
theorem loadA_sound {t : TypeId} {p p' : Value} (h : Inv w0 σ η A w) (hp : VR σ η p p') {v : Value} (hv : loadA P A t p = some v) : ∃ v', loadV P w t p' = some v' ∧ VR σ η v v' := by
  unfold loadA at hv
  split at hv
  · rename_i j o
    split at hv
    · rename_i hok
      obtain ⟨r, hg, hv⟩ := Option.bind_eq_some_iff.1 hv
      obtain ⟨x, cur, hx, h1, h2, h3, h4, h5, h6, h7⟩ := h.row j r hg
      cases hp with
      | ptr hy =>
        rw [hx] at hy
        cases hy
        exact loadA_blk h3 h6 h7 hok hv
    · cases hv
  · cases hv

/-! ### writing -/
theorem heap_set_self {w : World} {b : Nat} {cur : Array Value} {e : TypeId} (h : w.heap[b]? = some (.cells cur e)) (o : Nat) (v : Value) : (w.setCell ⟨b, o, none⟩ v).heap[b]? = some (.cells (cur.setIfInBounds o v) e) := by
  unfold World.setCell
  simp only [Array.getElem?_modify, if_true, h]
  simp
theorem stores_blk {b : Nat} {e : TypeId} : ∀ (l : List Value) (w : World) (cur : Array Value) (o i : Nat), w.heap[b]? = some (.cells cur e) → (∀ v ∈ l, v.oneCell' = true) → o + i + l.length ≤ cur.size →
    ∃ w' cur', storesV w ⟨b, o, none⟩ l i = some w' ∧ w'.heap[b]? = some (.cells cur' e) ∧ cur'.toList = splice cur.toList (o + i) l ∧ (∀ k, k ≠ b → w'.heap[k]? = w.heap[k]?) ∧ w'.os = w.os ∧ w'.tape = w.tape ∧ w'.output = w.output ∧ w'.heap.size = w.heap.size
  | [], w, cur, o, i, h, _, _ => ⟨w, cur, rfl, h, by simp [splice], fun _ _ => rfl, rfl, rfl, rfl, rfl⟩
  | v :: l, w, cur, o, i, h, h1, hl => by
    simp only [List.length_cons] at hl
    obtain ⟨w', cur', g1, g2, g3, g4, g5, g6, g7, g8⟩ := stores_blk l (w.setCell ⟨b, o + i, none⟩ v) (cur.setIfInBounds (o + i) v) o (i + 1) (heap_set_self h _ _) (fun u hu => h1 u (by simp [hu])) (by simp; omega)
    have hc : (w.cell? ⟨b, o + i, none⟩).isSome = true := by rw [cell_blk h]; simp; omega
    refine ⟨w', cur', ?_, g2, ?_, fun k hk => (g4 k hk).trans (Below.heap_setCell _ _ _ _ hk), g5, g6, g7, by rw [g8]; simp [World.setCell]⟩
    · simp only [storesV, add_ptr, hc, frozen_blk h, h1 v (by simp), and_self, if_true, g1]
    · rw [g3]
      have hh := foldSet (v :: l) 0 cur (o + i) (by simp; omega)
      have hh2 := foldSet l 0 (cur.setIfInBounds (o + i) v) (o + i + 1) (by simp; omega)
      have hshift : ∀ (l : List Value) (k : Nat) (b : Array Value) (off : Nat), (l.zipIdx (k + 1)).foldl (fun cs (x : Value × Nat) => cs.setIfInBounds (off + x.2) x.1) b = (l.zipIdx k).foldl (fun cs (x : Value × Nat) => cs.setIfInBounds (off + 1 + x.2) x.1) b := by
        intro l
        induction l with
        | nil => intros; rfl
        | cons a l ih =>
          intro k b off
          simp only [List.zipIdx_cons, List.foldl_cons]
          rw [ih, show off + (k + 1) = off + 1 + k by omega]
      simp only [List.zipIdx_cons, List.foldl_cons, Nat.add_zero] at hh
      rw [hshift] at hh
      rw [← hh, hh2]
      simp [Nat.add_assoc]
def storeA (P : Program) (A : AW) (t : TypeId) (v : Value) : Value → Option AW
  | .pointer (some ⟨j, o, none⟩) => (A.rows.get j).bind fun r =>
      if tok P t = true ∧ v.cells.toList.length = tsz P t ∧ v.cells.toList.all Value.oneCell' = true ∧ leLen r.cs (o + v.cells.toList.length) = true ∧ r.own = true then
        spliceF r.cs o v.cells.toList fun cs => some { A with rows := A.rows.set j (some { r with cs := cs, st := r.st + 1 }) } else none
  | _ => none
theorem one_vr {u v : Value} (h : VR σ η u v) (h1 : u.oneCell' = true) : v.oneCell' = true := by
  cases h with
  | agg => simp [Value.oneCell'] at h1
  | tuple => simp [Value.oneCell'] at h1
  | hole i h => exact h
  | _ => rfl
theorem vrs_one {a b : List Value} (h : VRs σ η a b) (h1 : a.all Value.oneCell' = true) : ∀ v ∈ b, v.oneCell' = true := fun v hv => by
  obtain ⟨i, hi, rfl⟩ := List.getElem_of_mem hv
  have hi' : i < a.length := by rw [h.1]; exact hi
  exact one_vr (h.2 i a[i] b[i] (List.getElem?_eq_getElem hi') (List.getElem?_eq_getElem hi)) (List.all_eq_true.1 h1 _ (List.getElem_mem hi'))
/-- A row that holds other cells now; nothing else turned. -/
theorem putRow {A' : AW} {j : Nat} {r : AR} {x : Ent} {cur cur' : Array Value} {w' : World} {cs2 : List Value} (h : Inv w0 σ η A w) (hg : A.rows.get j = some r) (hx : σ j = some x) (hb : w.heap[x.b]? = some (.cells cur r.e))
    (hb' : w'.heap[x.b]? = some (.cells cur' r.e)) (hsz : cur'.size = cur.size) (hv : VRs σ η cs2 (cur'.toList.take cs2.length)) (hl : cs2.length = r.cs.length)
    (ho : ∀ k, k ≠ x.b → w'.heap[k]? = w.heap[k]?) (hos : w'.os = w.os) (htp : w'.tape = w.tape) (hout : w'.output = w.output) (hhs : w'.heap.size = w.heap.size)
    (e1 : A'.rows = A.rows.set j (some { r with cs := cs2, st := r.st + 1 })) (e2 : A'.n = A.n) (e3 : A'.rsv = A.rsv) (e4 : A'.maps = A.maps) (e5 : A'.ls = A.ls) : Inv w0 σ η A' w' ∧ Step σ σ A A' w w' := by
  obtain ⟨x', cur0, hx', h1, h2, h3, h4, h5, h6, h7⟩ := h.row j r hg
  rw [hx] at hx'
  cases hx'
  rw [hb] at h3
  simp only [Option.some.injEq, Obj.cells.injEq, true_and] at h3
  obtain ⟨rfl, hfz⟩ := h3
  have hwx : Ext w0 w' := Below.trans h.ext ⟨hos, htp, hout, by omega, fun k hk => ho k (by omega)⟩
  refine ⟨⟨hwx, fun i hi => h.fresh i (by omega), fun i hi => by rw [e3] at hi; rw [e2]; exact h.rsv i hi, fun i ri hi => ?_, fun i k ri rk y z hi hk hy hz hyz => ?_, ?_⟩, ⟨Sub.refl _, e5, fun i ri y hgi hy => ?_⟩⟩
  · rw [e1, Tr.get_set] at hi
    split at hi
    · rename_i e5
      subst e5
      cases hi
      exact ⟨x, cur', hx, h1, h2, by rw [← hfz]; exact hb', by omega, ⟨fun hf => by have := h5.1 hf; simp only; omega, h5.2⟩, hv, by simp only; omega⟩
    · rename_i e5
      obtain ⟨y, cy, hy, g1, g2, g3, g4, g5, g6, g7⟩ := h.row i ri hi
      refine ⟨y, cy, hy, g1, g2, ?_, g4, g5, g6, g7⟩
      rw [ho y.b (fun e6 => e5 (h.sep i j ri r y x hi hg hy hx e6))]
      exact g3
  · rw [e1, Tr.get_set] at hi hk
    have gi : ∃ r', A.rows.get i = some r' := by
      split at hi
      · rename_i e5; subst e5; exact ⟨r, hg⟩
      · exact ⟨ri, hi⟩
    have gk : ∃ r', A.rows.get k = some r' := by
      split at hk
      · rename_i e5; subst e5; exact ⟨r, hg⟩
      · exact ⟨rk, hk⟩
    obtain ⟨r1, g1⟩ := gi
    obtain ⟨r2, g2⟩ := gk
    exact h.sep i k r1 r2 y z g1 g2 hy hz hyz
  · rw [e4, e5]
    exact h.mp.keep (Sub.refl _) fun k o hk hn => ho k (fun e => by subst e; rw [hb] at hk; cases hk; exact hn _ _ _ rfl)
  · rw [e1, Tr.get_set] at hgi
    split at hgi
    · rename_i e5
      subst e5
      cases hgi
      exact ⟨r, hg, by simp, fun he => by simp at he⟩
    · rename_i e5
      exact ⟨ri, hgi, Nat.le_refl _, fun _ => ho y.b (fun e6 => e5 (h.sep i j ri r y x hgi hg hy hx e6))⟩
theorem storeA_sound {t : TypeId} {p p' v v' : Value} {A' : AW} (h : Inv w0 σ η A w) (hp : VR σ η p p') (hv : VR σ η v v') (hs : storeA P A t v p = some A') : ∃ w', storeV P w t v' p' = some w' ∧ Inv w0 σ η A' w' ∧ Step σ σ A A' w w' := by
  unfold storeA at hs
  split at hs
  · rename_i j o
    obtain ⟨r, hg, hs⟩ := Option.bind_eq_some_iff.1 hs
    split at hs
    · rename_i hc
      obtain ⟨hok, hsz, hall, hlen, hown⟩ := hc
      have hlen := (leLen_iff _ _).1 hlen
      rw [spliceF_eq _ _ _ _ hlen] at hs
      cases hs
      obtain ⟨x, cur, hx, h1, h2, h3, h4, h5, h6, h7⟩ := h.row j r hg
      rw [h5.2 hown] at h3
      cases hp with
      | ptr hy =>
        rw [hx] at hy
        cases hy
        have hcv := hv.cells
        have hl := hcv.1
        have hl' : v'.cells.size = v.cells.toList.length := by rw [hl]; simp
        obtain ⟨w', cur', g1, g2, g3, g4, g5, g6, g7, g8⟩ := stores_blk v'.cells.toList w cur o 0 h3 (vrs_one hcv hall) (by omega)
        refine ⟨w', ?_, putRow (cs2 := splice r.cs o v.cells.toList) h hg hx h3 g2 ?_ ?_ (splice_length hlen) g4 g5 g6 g7 g8 rfl rfl rfl rfl rfl⟩
        · have hsz' : v'.cells.size = tsz P t := by rw [← hsz, hl]; simp
          simp only [storeV, hok, hsz', and_self, if_true]
          exact g1
        · have := congrArg List.length g3
          rw [splice_length (by simp; omega)] at this
          simpa using this
        · rw [splice_length hlen, g3]
          have e1 : (splice cur.toList (o + 0) v'.cells.toList).take r.cs.length = splice (cur.toList.take r.cs.length) o v'.cells.toList := by
            unfold splice
            simp only [Nat.add_zero]
            have ha : (cur.toList.take o ++ v'.cells.toList).length ≤ r.cs.length := by simp; omega
            rw [List.take_append, List.take_of_length_le ha]
            congr 1
            · congr 1
              rw [List.take_take, Nat.min_eq_left (by omega)]
            · rw [List.drop_take]
              congr 1
              simp
              omega
          rw [e1]
          exact h6.splice hcv o
    · cases hs
  · cases hs
end
end
end Go.Proofs.YtcglagkhnegbbaaGreat
