/- Closed runs: ranges over functions. -/
import Derived.Test.YtcglagkhnegbbaaGreatMwRunG
import Derived.Test.YtcglagkhnegbbaaGreatMwLoop
namespace Go.Proofs.YtcglagkhnegbbaaGreat
open Go.RowKit
noncomputable section
set_option linter.unusedVariables false
set_option linter.unusedSimpArgs false

def enterL (pl : Nat → Plan) (ps : List Nat) (A B : Code) (E : Tr Value) (W : AW) : AW :=
  { W with n := W.n + 2, maps := (W.maps.set W.n (some .defs)).set (W.n + 1) (some (.loop 0 none)), ls := (W.n + 1, ⟨E, ps, A, B, pl⟩) :: W.ls }
def rawF (P : Program) (pl : Nat → Plan) (call : CallT) (g : Operand) (ps : Array Tmp) (A B : Code) (s : St) : Res := match opd s.E g with
  | some (.func (.func f) first cap) => if (okF P f && (noDefer A && plansOk pl A) && (noDefer B && plansOk pl B)) = true then
      forceN s.A.n fun base => (match call (.fn f) (first.toList ++ [.complex .f64 (base + 1) 0] ++ cap.toList) (enterL pl ps.toList A B s.E s.A) with
      | .ret _ A2 => (match A2.maps.get (base + 1) with
        | some (.loop st pend) => if st = 1 then .fail else (match pend with
          | none => .norm ⟨s.E, (0, [.complex .f64 base 1]) :: s.ds, { A2 with maps := A2.maps.set (base + 1) none, ls := s.A.ls }⟩
          | some none => .ret ⟨s.E, (0, [.complex .f64 base 1]) :: s.ds, { A2 with maps := A2.maps.set (base + 1) none, ls := s.A.ls }⟩
          | some (some i) => .exit i ⟨s.E, (0, [.complex .f64 base 1]) :: s.ds, { A2 with maps := A2.maps.set (base + 1) none, ls := s.A.ls }⟩)
        | _ => .fail)
      | _ => .fail) else .fail
  | _ => .fail

section
variable {P : Program} {w0 : World} {σ : Nat → Option Ent} {η : Nat → Value} {A : AW} {w : World}
theorem lsGet_cons (a : Nat) (S : LoopS) (l : List (Nat × LoopS)) (j : Nat) : lsGet ((a, S) :: l) j = if a = j then some S else lsGet l j := by
  simp only [lsGet]
  by_cases h : a = j
  · subst h; simp [Nat.beq_refl]
  · have : Nat.beq a j = false := by
      cases hb : Nat.beq a j with
      | true => exact absurd (Nat.eq_of_beq_eq_true hb) h
      | false => rfl
    simp [h, this]
/-- Other statics, the same for all that is there. -/
theorem Inv.withLs {L : List (Nat × LoopS)} (h : Inv w0 σ η A w) (hl : ∀ j m, A.maps.get j = some m → lsGet L j = lsGet A.ls j) : Inv w0 σ η { A with ls := L } w :=
  ⟨h.ext, h.fresh, h.rsv, h.row, h.sep, ⟨fun j m hj => by
    obtain ⟨x, o, h1, h2, h3, h4⟩ := h.mp.1 j m hj
    exact ⟨x, o, h1, h2, h3, by simp only; rw [hl j m hj]; exact h4⟩, h.mp.2⟩⟩
theorem maps_lt (h : Inv w0 σ η A w) {j : Nat} {m : ObjA} (hj : A.maps.get j = some m) : j < A.n := by
  obtain ⟨x, o, hx, _⟩ := h.mp.1 j m hj
  by_cases hlt : j < A.n
  · exact hlt
  · rw [h.fresh j (by omega)] at hx; cases hx
theorem enterL_sound {pl : Nat → Plan} {ps : Array Tmp} {g : Operand} {Ac B : Code} {E : Tr Value} {e : Env} {fn : FuncId} {tmps : Array Value} (h : Inv w0 σ η A w) (hE : ER σ η E e) (ht : ∀ t, t < tmps.size → tmps[t]? = some (e t)) (hfit : fits tmps.size (.rangeFunc g ps Ac B) = true)
    (hA : noDefer Ac = true ∧ plansOk pl Ac = true) (hB : noDefer B = true ∧ plansOk pl B = true) :
    ∃ σ1 xd xl, Inv w0 σ1 η (enterL pl ps.toList Ac B E A) ((w.alloc (.deferred (some []))).alloc (.loop (loopRec fn tmps ps Ac B w.heap.size))) ∧ σ1 A.n = some xd ∧ xd.b = w.heap.size ∧ σ1 (A.n + 1) = some xl ∧ xl.b = w.heap.size + 1 ∧
      Step σ σ1 { A with ls := (A.n + 1, ⟨E, ps.toList, Ac, B, pl⟩) :: A.ls } (enterL pl ps.toList Ac B E A) w ((w.alloc (.deferred (some []))).alloc (.loop (loopRec fn tmps ps Ac B w.heap.size))) := by
  have h0 := h.withLs (L := (A.n + 1, ⟨E, ps.toList, Ac, B, pl⟩) :: A.ls) fun j m hj => by
    rw [lsGet_cons, if_neg (by have := maps_lt h hj; omega)]
  obtain ⟨σ1, a1, a2, a3⟩ := mkThing_sound (m := .defs) (o := .deferred (some [])) h0 trivial
  have hr : ObjR σ1 η (lsGet ((A.n + 1, (⟨E, ps.toList, Ac, B, pl⟩ : LoopS)) :: A.ls) (A.n + 1)) (.loop 0 none) (.loop (loopRec fn tmps ps Ac B w.heap.size)) := by
    rw [lsGet_cons, if_pos rfl]
    exact ⟨_, rfl, rfl, rfl, rfl, rfl, rfl, hA, hB, ⟨g, hfit⟩, e, hE.mono a3.sub, ht⟩
  obtain ⟨σ2, b1, b2, b3⟩ := mkThing_sound (m := .loop 0 none) (o := .loop (loopRec fn tmps ps Ac B w.heap.size)) a2 hr
  refine ⟨σ2, _, _, b2, b3.sub _ _ a1, rfl, b1, ?_, a3.trans b3⟩
  exact World.size_alloc _ _
theorem loop_at {w0 : World} {η : Nat → Value} {j st : Nat} {pend : Option (Option Nat)} {A : AW} {σ : Nat → Option Ent} {w : World} {x : Ent} (h : Inv w0 σ η A w) (hx : σ j = some x) (hj : A.maps.get j = some (.loop st pend)) :
    ∃ r S, w0.heap.size ≤ x.b ∧ w.heap[x.b]? = some (.loop r) ∧ lsGet A.ls j = some S ∧ LoopR σ η S st pend r := by
  obtain ⟨x', o, hx', hb, ho, hr0⟩ := h.mp.1 j _ hj
  rw [hx] at hx'
  cases hx'
  cases o <;> simp only [ObjR] at hr0
  obtain ⟨S, hS, hl⟩ := hr0
  exact ⟨_, S, hb, ho, hS, hl⟩
theorem stC_busy {st : Nat} (h : ¬ st = 1) : stC st ≠ .busy := by
  match st, h with
  | 0, _ => simp [stC]
  | 1, h => exact absurd rfl h
  | n + 2, _ => cases n <;> simp [stC]
theorem rawF_sound {call : CallT} (hc : CallOK P w0 η call) {pl : Nat → Plan} {g : Operand} {ps : Array Tmp} {Ac B : Code} {s : St} {e : Env} {dsC : List Deferred} {N R : Env → List Deferred → World → Prop} {EX : Nat → Env → List Deferred → World → Prop} {X : Env → List PanicEntry → List Deferred → World → Prop}
    (hE : ER σ η s.E e) (hd : DR σ η s.ds dsC) (h : Inv w0 σ η s.A w) (hp : Post w0 η σ s.A w (rawF P pl call g ps Ac B s) N EX R X) : mwp P (.raw (.rangeFunc g ps Ac B)) e dsC w N EX R X := by
  unfold rawF at hp
  split at hp
  · rename_i f first cap ho
    split at hp
    · rename_i hok
      simp only [Bool.and_eq_true] at hok
      rw [forceN_eq] at hp
      have h1 := opd_sound hE ho
      generalize hz : ev e g = z at h1
      cases h1 with
      | func ha hb q1 q2 =>
        refine mwp_rangeFunc hz hok.1.1 fun n fn tmps hsz ht hfit => ?_
        subst hsz
        obtain ⟨σ1, xd, xl, i1, x1, x2, x3, x4, st1⟩ := enterL_sound (g := g) (fn := fn) h hE ht hfit hok.1.2 hok.2
        have hvs := (((VRs.ofArr ha q1).mono st1.sub).append (VRs.cons (VR.yld (η := η) x3) VRs.nil)).append ((VRs.ofArr hb q2).mono st1.sub)
        rw [x4] at hvs
        split at hp
        · rename_i v A2 hcl
          have hcc := hc.1 f _ _ σ1 _ _ i1 hvs
          rw [hcl] at hcc
          simp only at hcc
          have harr : ∀ (a b : Array Value) (y : Value), (a.toList ++ [y] ++ b.toList).toArray = a ++ #[y] ++ b := fun a b y => by
            apply Array.toList_inj.1
            simp
          rw [harr] at hcc
          refine Calls.mono hcc fun en w3 ⟨v', σ2, he, k1, k2, k3⟩ => ?_
          subst he
          split at hp
          · rename_i st pend hj
            split at hp
            · exact hp.elim
            · rename_i hst
              have hx2 := k3.sub _ _ x3
              obtain ⟨r, S, hb2, ho3, hS, hl⟩ := loop_at k2 hx2 hj
              obtain ⟨d1, d2⟩ := dropThing k2 hj hx2 hb2 ho3 (fun _ _ _ he => by cases he) (.loop { r with state := .exhausted })
              rw [x4] at ho3 d1 d2
              have hls : A2.ls = (s.A.n + 1, (⟨s.E, ps.toList, Ac, B, pl⟩ : LoopS)) :: s.A.ls := k3.ls
              have d3 := d1.withLs (L := s.A.ls) fun j m hj' => by
                simp only [Tr.get_set] at hj'
                split at hj'
                · cases hj'
                · rename_i hne
                  simp only
                  rw [hls, lsGet_cons, if_neg (fun e => hne e.symm)]
              have t := st1.trans (k3.trans d2)
              have hend := run_endLoop (P := P) ho3 (by rw [hl.state]; exact stC_busy hst)
              obtain ⟨w4, hw4⟩ : ∃ w4, w4 = w3.putObj (w.heap.size + 1) (.loop { r with state := .exhausted }) := ⟨_, rfl⟩
              have d4 : Inv w0 σ2 η { A2 with maps := A2.maps.set (s.A.n + 1) none, ls := s.A.ls } w4 := by rw [hw4]; exact d3
              have t4 : Step σ σ2 s.A { A2 with maps := A2.maps.set (s.A.n + 1) none, ls := s.A.ls } w w4 := by rw [hw4]; exact ⟨t.sub, rfl, t.keep⟩
              refine ⟨v', pendC pend, w4, rfl, by rw [hw4, ← hl.pending]; exact hend, ?_⟩
              have hds : DR σ2 η ((0, [.complex .f64 s.A.n 1]) :: s.ds) ({ target := .collected w.heap.size, args := #[] } :: dsC) := ⟨.inr ⟨s.A.n, xd, rfl, k3.sub _ _ x1, by rw [x2]⟩, hd.mono t.sub⟩
              split at hp
              · exact hp σ2 e _ _ (hE.mono t.sub) hds d4 t4
              · exact hp σ2 e _ _ (hE.mono t.sub) hds d4 t4
              · exact hp σ2 e _ _ (hE.mono t.sub) hds d4 t4
          · exact hp.elim
        · exact hp.elim
    · exact hp.elim
  · exact hp.elim
end
end
end Go.Proofs.YtcglagkhnegbbaaGreat
