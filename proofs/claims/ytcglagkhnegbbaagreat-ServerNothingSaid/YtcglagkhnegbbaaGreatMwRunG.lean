/- Closed runs, seventh part: functions that are entered as deferred calls and may recover. -/
import Derived.Test.YtcglagkhnegbbaaGreatMwRunF
namespace Go.Proofs.YtcglagkhnegbbaaGreat
open Go.RowKit
noncomputable section
set_option linter.unusedVariables false
set_option linter.unusedSimpArgs false

/-- In what mode the function is that deferred the call. -/
inductive AM where
  | ret
  | pan (v : Value)
  | was (v : Value)
def recA : AM → Value × AM
  | .ret => (.nilIface, .ret)
  | .pan v => (v, .was v)
  | .was v => (.nilIface, .was v)
inductive FR (σ : Nat → Option Ent) (η : Nat → Value) : AM → FrameMode → Prop
  | ret : FR σ η .ret .returning
  | pan {v v' : Value} (h : VR σ η v v') : FR σ η (.pan v) (.panicking [{ v := v', recovered := false }])
  | was {v v' : Value} (h : VR σ η v v') : FR σ η (.was v) (.panicking [{ v := v', recovered := true }])
theorem FR.mono {σ σ' : Nat → Option Ent} {η : Nat → Value} (hs : Sub σ σ') {u : AM} {m : FrameMode} (h : FR σ η u m) : FR σ' η u m := by
  cases h with
  | ret => exact .ret
  | pan h => exact .pan (h.mono hs)
  | was h => exact .was (h.mono hs)

/-! ### a region in which recover is called: the library's steps, one by one, until it was called -/
inductive OpsT (P : Program) (ops : Array Oper) (Q : Exit → Act → List Frame → World → Prop) : List Nat → Act → List Frame → World → Prop
  | leave {l : List Nat} {a : Act} {cs : List Frame} {w : World} (h : wpOpsIn Fence.wide 1 P ops (fun e a' w' => Q e a' cs w') l a w) : OpsT P ops Q l a cs w
  | val {i : Nat} {l : List Nat} {o : Oper} {a : Act} {cs : List Frame} {w w' : World} {v : Value} (ho : ops[i]? = some o) (hw : Region.wanted o (yielded ops a.tmps) = true) (hr : (execOp a.eval o).run P w = .ok (.value v) w') (h : OpsT P ops Q l (a.put o.dst v) cs w') : OpsT P ops Q (i :: l) a cs w
  | recov {i : Nat} {l : List Nat} {o : Oper} {a : Act} {cs cs' : List Frame} {w w' : World} {v : Value} (ho : ops[i]? = some o) (hw : Region.wanted o (yielded ops a.tmps) = true) (hr : (execOp a.eval o).run P w = .ok .recover w')
      (hrec : recoverD cs = some (v, cs') ∨ (recoverD cs = none ∧ v = .nilIface ∧ cs' = cs)) (h : OpsT P ops Q l (a.put o.dst v) cs' w') : OpsT P ops Q (i :: l) a cs w
theorem opsT_sound {P : Program} {ops : Array Oper} {Q : Exit → Act → List Frame → World → Prop} {l : List Nat} {a : Act} {cs : List Frame} {w : World} (h : OpsT P ops Q l a cs w) : ∀ (b : Frame) (k : List Item), b.kind = .deferred → b.roundOf = none →
    ∃ e a' cs' w', cs'.length = cs.length ∧ Q e a' cs' w' ∧ ArrivesIn (Machine.fenced P Fence.wide) P (lone (b.atR a (.inRegion ops l :: k)) cs w) b k cs' e a' w' := by
  induction h with
  | leave h =>
    rename_i l a cs w
    intro b k hk hro
    obtain ⟨e, a', w', hq, harr⟩ := wp_opsIn (F := Fence.wide) (n := 1) l a w h b k cs hro trivial (room_wide _)
    exact ⟨e, a', cs, w', rfl, hq, harr⟩
  | @val i l o a cs w w' v ho hw hr h ih =>
    intro b k hk hro
    obtain ⟨e, a', cs', w2, hl, hq, harr⟩ := ih b k hk hro
    have h0 : (lone (b.atR a (.inRegion ops (i :: l) :: k)) cs w).fenced P Fence.wide := fenced_wide P _
    have hg := stepGR_op (P := P) (b := b) (k := k) (cs := cs) (w := w) (rest := l) ho hw
    rw [hro, Oper.semAt_none] at hg
    have hfin : ∀ v, (b.atR a (.inRegion ops (i :: l) :: k)).finish v = b.atR (a.put o.dst v) (.inRegion ops l :: k) := by
      intro v; rw [Frame.finish_atR, ho]; rfl
    refine ⟨e, a', cs', w2, hl, hq, .of_steps (.one h0 (step_lone_go ?_)) harr⟩
    rw [hg, ← hfin]; simp [stepG.apply, hr]
  | @recov i l o a cs cs' w w' v ho hw hr hrec h ih =>
    intro b k hk hro
    obtain ⟨e, a', cs2, w2, hl, hq, harr⟩ := ih b k hk hro
    have h0 : (lone (b.atR a (.inRegion ops (i :: l) :: k)) cs w).fenced P Fence.wide := fenced_wide P _
    have hg := stepGR_op (P := P) (b := b) (k := k) (cs := cs) (w := w) (rest := l) ho hw
    rw [hro, Oper.semAt_none] at hg
    have hfin : ∀ v, (b.atR a (.inRegion ops (i :: l) :: k)).finish v = b.atR (a.put o.dst v) (.inRegion ops l :: k) := by
      intro v; rw [Frame.finish_atR, ho]; rfl
    have htr := tryRecover_deferred (show (b.atR a (.inRegion ops (i :: l) :: k)).kind = .deferred from hk) cs
    rcases hrec with hrec | ⟨hrec, rfl, rfl⟩
    · have hlen := recoverD_length hrec
      refine ⟨e, a', cs2, w2, hl.trans hlen, hq, .of_steps (.one h0 (step_lone_go ?_)) harr⟩
      rw [hg, ← hfin]
      simp only [Frame.atR, hro] at htr ⊢
      simp [stepG.apply, hr, htr, hrec]
    · refine ⟨e, a', cs2, w2, hl, hq, .of_steps (.one h0 (step_lone_go ?_)) harr⟩
      rw [hg, ← hfin]
      simp only [Frame.atR, hro] at htr ⊢
      simp [stepG.apply, hr, htr, hrec]
theorem wpS_region_text {P : Program} {id : Nat} {ops : Array Oper} {Q : Exit → Act → List Frame → World → Prop} {a : Act} {cs : List Frame} {w : World} (h : OpsT P ops Q (List.range ops.size) a cs w) : (Code.region id ops false).wpSIn Fence.wide 1 P Q a cs w :=
  fun b k hb hr hF hroom => let ⟨e, a', cs', w', l, q, r⟩ := opsT_sound h b k hb hr; ⟨e, a', cs', w', l, q, .of_steps (.one (fenced_calm hF hroom rfl) stepR_region) r⟩
theorem wpS_region_draw {P : Program} {id : Nat} {ops : Array Oper} {Q : Exit → Act → List Frame → World → Prop} {a : Act} {cs : List Frame} {w : World} (hm : P.follows .mixedOrders = true) (h : ∀ t, OpsT P ops Q (Region.linearise .any ops t) a cs w.drew) : (Code.region id ops true).wpSIn Fence.wide 1 P Q a cs w :=
  fun b k hb hr hF hroom => by
    obtain ⟨e, a', cs', w', l, q, r⟩ := opsT_sound (h (w.tape w.drawn (.order b.fn id))) b k hb hr
    refine ⟨e, a', cs', w', l, q, .of_steps (.one (fenced_calm hF hroom rfl) stepR_region_draw) ?_⟩
    simp only [Region.schedule, hm, Bool.true_or, if_true]
    exact r

/-! ### all orders of a region -/
def readyL (ops : Array Oper) (listed : Array Bool) : List Nat := (List.range ops.size).filter fun i =>
  !listed.getD i true && ((ops[i]?).map (·.after.all fun e => !Region.binds .any e || listed.getD e.on false)).getD false
def allLin (ops : Array Oper) : Nat → Array Bool → List (List Nat)
  | 0, _ => [[]]
  | fuel + 1, listed => match readyL ops listed with
    | [] => [[]]
    | r :: rs => (r :: rs).flatMap fun i => (allLin ops fuel (listed.setIfInBounds i true)).map (i :: ·)
theorem lin_mem (ops : Array Oper) : ∀ (fuel t : Nat) (listed : Array Bool), Region.linearise.go .any ops fuel t listed [] ∈ allLin ops fuel listed
  | 0, t, listed => by simp [Region.linearise.go, allLin]
  | fuel + 1, t, listed => by
    simp only [Region.linearise.go]
    change (match (readyL ops listed)[t % (readyL ops listed).length]? with
      | some i => Region.linearise.go .any ops fuel (t / (readyL ops listed).length) (listed.setIfInBounds i true) [i]
      | none => [].reverse) ∈ _
    unfold allLin
    cases hr : readyL ops listed with
    | nil => simp
    | cons r rs =>
      have hlt : t % (r :: rs).length < (r :: rs).length := Nat.mod_lt _ (by simp)
      rw [List.getElem?_eq_getElem hlt]
      simp only
      rw [linearise_go_acc, List.reverse_singleton, List.singleton_append, List.mem_flatMap]
      exact ⟨_, List.getElem_mem hlt, List.mem_map.2 ⟨_, lin_mem ops fuel _ _, rfl⟩⟩

/-! ### the reader -/
def opAt (ops : Array Oper) (i : Nat) : Oper := (ops[i]?).getD default
theorem opAt_some {ops : Array Oper} {i : Nat} (h : i < ops.size) : ops[i]? = some (opAt ops i) := by simp [opAt, h]
theorem opAt_eq {ops : Array Oper} {i : Nat} (h : i < ops.size) : opAt ops i = ops[i] := by simp [opAt, h]

def isRec (o : MO) : Bool := match o.op with
  | .call { callee := .builtin .recover, args := ⟨[]⟩, .. } => true
  | _ => false
def loadO (P : Program) (s : St) : Op → Option Value
  | .load t x => (opd s.E x).bind (loadA P s.A t)
  | op => pureA P s.E op
/-- A region in a given order. -/
def regSA (P : Program) (call : CallT) : List MO → St → AM → Option (St × AM)
  | [], s, u => some (s, u)
  | o :: l, s, u => match wantedA s.E o.g with
    | some true => if isRec o then (match regA P call l ⟨setO s.E o.d (recA u).1, s.ds, s.A⟩ with | .norm s' => some (s', (recA u).2) | _ => none)
        else (match loadO P s o.op with | some v => regSA P call l ⟨setO s.E o.d v, s.ds, s.A⟩ u | none => none)
    | _ => none
def beqAM : AM → AM → Bool
  | .ret, .ret => true
  | .pan a, .pan b => beqV 20 a b
  | .was a, .was b => beqV 20 a b
  | _, _ => false
theorem beqAM_eq {a b : AM} (h : beqAM a b = true) : a = b := by
  unfold beqAM at h
  split at h
  · rfl
  · rw [beqV_eq 20 h]
  · rw [beqV_eq 20 h]
  · cases h
def forceS (ls : List (Nat × LoopS)) (r : Option (St × AM)) : Option (St × AM) := match r with
  | some (s, u) => some (⟨s.E, s.ds, { s.A with ls := ls }⟩, u)
  | none => none
theorem forceS_some {ls : List (Nat × LoopS)} {r : Option (St × AM)} {x : St × AM} (h : forceS ls r = some x) : ∃ s u, r = some (s, u) ∧ x = (⟨s.E, s.ds, { s.A with ls := ls }⟩, u) := by
  unfold forceS at h
  split at h
  · rename_i s u; cases h; exact ⟨s, u, rfl, rfl⟩
  · cases h
/-- Whatever the order: the same comes out. -/
def ordersA (P : Program) (call : CallT) (ops : Array Oper) (s : St) (u : AM) : List (List Nat) → Option (St × AM)
  | [] => none
  | [l] => forceS s.A.ls (regSA P call (l.map fun i => stripO ops (opAt ops i)) s u)
  | l :: ls => match forceS s.A.ls (regSA P call (l.map fun i => stripO ops (opAt ops i)) s u), ordersA P call ops s u ls with
    | some a, some b => if beqSt a.1 b.1 = true ∧ beqAM a.2 b.2 = true then some a else none
    | _, _ => none
theorem ordersA_ls {P : Program} {call : CallT} {ops : Array Oper} {s : St} {u : AM} : ∀ {l : List (List Nat)} {x : St × AM}, ordersA P call ops s u l = some x → x.1.A.ls = s.A.ls
  | [], _, h => by simp [ordersA] at h
  | [l], x, h => by
    obtain ⟨s1, u1, _, rfl⟩ := forceS_some h
    rfl
  | l :: l2 :: ls, x, h => by
    simp only [ordersA] at h
    split at h
    · rename_i a b h1 _
      split at h
      · cases h
        obtain ⟨s1, u1, _, rfl⟩ := forceS_some h1
        rfl
      · cases h
    · cases h
inductive SRes where
  | norm (s : St) (u : AM)
  | ret (s : St) (u : AM)
  | fail
def viaN (r : Res) (u : AM) : SRes := match r with
  | .norm s => .norm s u
  | .ret s => .ret s u
  | _ => .fail
def runS (P : Program) (pl : Nat → Plan) (call : CallT) (rn : MC → St → Res) : Code → St → AM → SRes
  | .seq a b, s, u => match runS P pl call rn a s u with
    | .norm s' u' => runS P pl call rn b s' u'
    | r => r
  | .cond c a b, s, u => match opd s.E c with
    | some (.bool true) => runS P pl call rn a s u
    | some (.bool false) => runS P pl call rn b s u
    | _ => .fail
  | .region id ops d, s, u => if (ops.toList.any fun o => isRec (stripO ops o)) = true then
      (match ordersA P call ops s u (if d then allLin ops ops.size (Array.replicate ops.size false) else [List.range ops.size]) with
       | some r => .norm r.1 r.2
       | none => .fail)
      else viaN (rn (strip pl (.region id ops d)) s) u
  | c, s, u => viaN (rn (strip pl c) s) u

section
variable {P : Program} {w0 : World} {σ : Nat → Option Ent} {η : Nat → Value} {A : AW} {w : World} {call : CallT} {rn : MC → St → Res} {pl : Nat → Plan}

/-- What is known of the code's runs. -/
def RunOK (P : Program) (w0 : World) (η : Nat → Value) (rn : MC → St → Res) : Prop := ∀ (c : MC) (s : St) (σ : Nat → Option Ent) (e : Env) (dsC : List Deferred) (w : World) (N : Env → List Deferred → World → Prop) (EX : Nat → Env → List Deferred → World → Prop)
  (R : Env → List Deferred → World → Prop) (X : Env → List PanicEntry → List Deferred → World → Prop), ER σ η s.E e → DR σ η s.ds dsC → Inv w0 σ η s.A w → Post w0 η σ s.A w (rn c s) N EX R X → mwp P c e dsC w N EX R X

theorem wpOps_list {ops : Array Oper} {Q : Exit → Act → World → Prop} {n : Nat} : ∀ (l : List Nat), (∀ i ∈ l, i < ops.size) → ∀ a w, wpListIn Fence.wide n P ops Q (l.map fun i => opAt ops i) a w → wpOpsIn Fence.wide n P ops Q l a w
  | [], _, a, w, h => h
  | i :: l, hl, a, w, h => by
    have hi : i < ops.size := hl i (by simp)
    have ho : ops[i]? = some (opAt ops i) := opAt_some hi
    have hl' : ∀ j ∈ l, j < ops.size := fun j hj => hl j (by simp [hj])
    simp only [List.map_cons, wpListIn] at h
    simp only [wpOpsIn, ho]
    split at h
    · rename_i hw
      rw [if_pos hw]
      exact Oper.wpIn_mono (fun a w hk => wpOps_list l hl' a w hk) h
    · rename_i hw
      rw [if_neg hw]
      exact ⟨h.1, wpOps_list l hl' _ _ h.2⟩
/-- What is asked of a state and a mode that were come to. -/
def SGood (w0 : World) (η : Nat → Value) (σ : Nat → Option Ent) (A : AW) (w : World) (n : Nat) (c0 : Frame) (cs : List Frame) (s : St) (u : AM) (K : Act → List Frame → World → Prop) : Prop :=
  ∀ σ' a' e' m' w', Rel a' e' n a'.defers → ER σ' η s.E e' → DR σ' η s.ds a'.defers → Inv w0 σ' η s.A w' → Step σ σ' A s.A w w' → FR σ' η u m' → K a' ({ c0 with mode := m' } :: cs) w'
theorem SGood.step {σ1 : Nat → Option Ent} {A1 : AW} {w1 : World} {n : Nat} {c0 : Frame} {cs : List Frame} {s : St} {u : AM} {K : Act → List Frame → World → Prop} (h : SGood w0 η σ A w n c0 cs s u K) (hs : Step σ σ1 A A1 w w1) : SGood w0 η σ1 A1 w1 n c0 cs s u K :=
  fun σ' a' e' m' w' h1 h2 h3 h4 h5 h6 => h σ' a' e' m' w' h1 h2 h3 h4 (hs.trans h5) h6
theorem SGood.force {n : Nat} {c0 : Frame} {cs : List Frame} {s : St} {u : AM} {K : Act → List Frame → World → Prop} (h : SGood w0 η σ A w n c0 cs ⟨s.E, s.ds, { s.A with ls := A.ls }⟩ u K) : SGood w0 η σ A w n c0 cs s u K := by
  intro σ' a' e' m' w' h1 h2 h3 h4 h5 h6
  have he : ({ s.A with ls := A.ls } : AW) = s.A := by rw [← h5.ls]
  rw [he] at h
  exact h σ' a' e' m' w' h1 h2 h3 h4 h5 h6
theorem loadO_sound {s : St} {e : Env} {o : MO} {v : Value} (hE : ER σ η s.E e) (h : Inv w0 σ η s.A w) (ho : loadO P s o.op = some v) : ∃ v', (mexec (ev e) o).run P w = .ok (.value v') w ∧ VR σ η v v' := by
  obtain ⟨d, op, ty, g⟩ := o
  simp only at ho
  unfold loadO at ho
  split at ho
  · obtain ⟨p, hp, hl⟩ := Option.bind_eq_some_iff.1 ho
    obtain ⟨v', h1, h2⟩ := loadA_sound h (opd_sound hE hp) hl
    exact ⟨v', by simp [mexec, execOp, loadV_run h1], h2⟩
  · obtain ⟨v', h1, h2⟩ := pureA_sound hE ho
    exact ⟨v', pure_run h1 w, h2⟩
theorem recover_run {ρ : Operand → Value} {o : MO} (h : isRec o = true) : (mexec ρ o).run P w = .ok .recover w := by
  obtain ⟨d, op, ty, g⟩ := o
  unfold isRec at h
  split at h
  · rename_i c hop
    simp only at hop
    subst hop
    simp [mexec, execOp, resolve, invoke, builtin]
  · cases h
theorem recA_sound {u : AM} {c0 : Frame} {cs : List Frame} (hu : FR σ η u c0.mode) : ∃ v cs' m', (recoverD (c0 :: cs) = some (v, cs') ∨ (recoverD (c0 :: cs) = none ∧ v = .nilIface ∧ cs' = c0 :: cs)) ∧ cs' = { c0 with mode := m' } :: cs ∧ VR σ η (recA u).1 v ∧ FR σ η (recA u).2 m' := by
  obtain ⟨fn, tmps, todo, mode⟩ := c0
  simp only at hu
  cases hu with
  | ret => exact ⟨.nilIface, _, .returning, .inr ⟨rfl, rfl, rfl⟩, rfl, .nilIface, .ret⟩
  | pan h => exact ⟨_, _, _, .inl rfl, rfl, h, .was h⟩
  | was h => exact ⟨.nilIface, _, _, .inr ⟨rfl, rfl, rfl⟩, rfl, .nilIface, .was h⟩
theorem regSA_sound (hc : CallOK P w0 η call) {ops : Array Oper} {n : Nat} (hf : ops.all (operFits ops n) = true) (hnd : ops.all noDeferO = true) {c0 : Frame} {cs : List Frame} {Q : Exit → Act → List Frame → World → Prop} : ∀ (l : List Nat), (∀ i ∈ l, i < ops.size) →
    ∀ {s s' : St} {u u' : AM} {σ : Nat → Option Ent} {a : Act} {e : Env} {w : World}, Rel a e n a.defers → ER σ η s.E e → DR σ η s.ds a.defers → Inv w0 σ η s.A w → FR σ η u c0.mode → regSA P call (l.map fun i => stripO ops (opAt ops i)) s u = some (s', u') →
      SGood w0 η σ s.A w n c0 cs s' u' (Q .normal) → OpsT P ops Q l a (c0 :: cs) w
  | [], _, s, s', u, u', σ, a, e, w, hr, hE, hd, h, hu, hp, hq => by
    cases hp
    refine .leave ?_
    have := hq σ a e c0.mode w hr hE hd h (Step.refl _ _ _) hu
    simpa [wpOpsIn] using this
  | i :: l, hl, s, s', u, u', σ, a, e, w, hr, hE, hd, h, hu, hp, hq => by
    have hi : i < ops.size := hl i (by simp)
    have ho : ops[i]? = some (opAt ops i) := opAt_some hi
    have hfo : operFits ops n (opAt ops i) = true := fits_getD hf ho
    have hl' : ∀ j ∈ l, j < ops.size := fun j hj => hl j (by simp [hj])
    simp only [List.map_cons, regSA] at hp
    split at hp
    · rename_i hw
      have hww : Region.wanted (opAt ops i) (yielded ops a.tmps) = true := by rw [wanted_rel hr hfo]; exact wantedA_sound hE hw
      split at hp
      · rename_i hrec
        split at hp
        · rename_i s2 hreg
          cases hp
          obtain ⟨v, cs', m', h1, rfl, h3, h4⟩ := recA_sound (cs := cs) hu
          refine .recov (w' := w) ho hww (by rw [exec_rel hr hfo]; exact recover_run hrec) h1 (.leave (wpOps_list l hl' _ _ (list_in (ro := none) (n := 0) (m := 1) _ _ _ (fun o ho => ?_) ?_)))
          · obtain ⟨j, hj, rfl⟩ := List.mem_map.1 ho
            have hj' := hl' j hj
            rw [opAt_eq hj']
            exact Array.all_eq_true_iff_forall_mem.1 hnd _ (Array.getElem_mem hj')
          · have hr2 := rel_put hr (opAt ops i).dst v
            refine reg_sound (n := n) (X := fun _ _ _ _ => False) (N := fun e ds w' => ∀ a', Rel a' e n ds → Q .normal a' ({ c0 with mode := m' } :: cs) w') (fun _ _ _ _ _ hx => hx.elim) (fun e a w hr hn => hn a hr) _ _ (updO e (opAt ops i).dst v) a.defers w (fun o ho => ?_) hr2 ?_
            · obtain ⟨j, hj, rfl⟩ := List.mem_map.1 ho
              exact fits_getD hf (opAt_some (hl' j hj))
            · have hlm : (l.map fun i => opAt ops i).map (stripO ops) = l.map fun i => stripO ops (opAt ops i) := by simp
              rw [hlm]
              refine regA_sound (EX := fun _ _ _ _ => False) (R := fun _ _ _ => False) hc _ (s := ⟨setO s.E (stripO ops (opAt ops i)).d (recA u).1, s.ds, s.A⟩) (hE.updO _ h3) hd h ?_
              rw [hreg]
              intro σ' e' ds' w' k1 k2 k3 k4 a' hra
              have hda : a'.defers = ds' := hra.2.2
              subst hda
              exact hq σ' a' e' m' w' hra k1 k2 k3 k4 (h4.mono k4.sub)
        · cases hp
      · split at hp
        · rename_i v hv
          obtain ⟨v', h1, h2⟩ := loadO_sound hE h hv
          refine .val (v := v') (w' := w) ho hww (by rw [exec_rel hr hfo]; exact h1) ?_
          have hr2 := rel_put hr (opAt ops i).dst v'
          have hdef : (a.put (opAt ops i).dst v').defers = a.defers := put_defers _ _ _
          exact regSA_sound hc hf hnd l hl' (s := ⟨setO s.E (stripO ops (opAt ops i)).d v, s.ds, s.A⟩) (by rw [hdef]; exact hr2) (hE.updO _ h2) (by rw [hdef]; exact hd) h hu hp hq
        · cases hp
    · cases hp
theorem ordersA_sound (hc : CallOK P w0 η call) {ops : Array Oper} {n : Nat} (hf : ops.all (operFits ops n) = true) (hnd : ops.all noDeferO = true) {c0 : Frame} {cs : List Frame} {Q : Exit → Act → List Frame → World → Prop} {a : Act} {e : Env} {s : St} {u : AM} (hr : Rel a e n a.defers) (hE : ER σ η s.E e) (hd : DR σ η s.ds a.defers)
    (h : Inv w0 σ η s.A w) (hu : FR σ η u c0.mode) : ∀ (ls : List (List Nat)) {s' : St} {u' : AM}, ordersA P call ops s u ls = some (s', u') → SGood w0 η σ s.A w n c0 cs s' u' (Q .normal) → ∀ l ∈ ls, (∀ i ∈ l, i < ops.size) → OpsT P ops Q l a (c0 :: cs) w
  | [], _, _, hp, _ => by simp [ordersA] at hp
  | [l], s', u', hp, hq => fun l' hl' hb => by
    simp only [List.mem_singleton] at hl'
    subst hl'
    obtain ⟨s1, u1, hp1, hx⟩ := forceS_some hp
    cases hx
    exact regSA_sound hc hf hnd l' hb hr hE hd h hu hp1 hq.force
  | l :: l2 :: ls, s', u', hp, hq => fun l' hl' hb => by
    simp only [ordersA] at hp
    split at hp
    · rename_i a1 b1 h1 h2
      split at hp
      · rename_i hbq
        cases hp
        have e1 := beqSt_eq hbq.1 (by
          obtain ⟨s3, u3, _, hx⟩ := forceS_some h1
          rw [ordersA_ls h2]
          have := congrArg (fun x : St × AM => x.1.A.ls) hx
          exact this)
        have e2 := beqAM_eq hbq.2
        obtain ⟨b11, b12⟩ := b1
        simp only at e1 e2
        subst e1 e2
        rcases List.mem_cons.1 hl' with rfl | hm
        · obtain ⟨s3, u3, h3, hx⟩ := forceS_some h1
          cases hx
          exact regSA_sound hc hf hnd l' hb hr hE hd h hu h3 hq.force
        · exact ordersA_sound hc hf hnd hr hE hd h hu (l2 :: ls) h2 hq l' hm hb
      · cases hp
    · cases hp
theorem lin_lt (ops : Array Oper) : ∀ (fuel : Nat) (listed : Array Bool) (l : List Nat), l ∈ allLin ops fuel listed → ∀ i ∈ l, i < ops.size
  | 0, _, l, h => by simp [allLin] at h; subst h; simp
  | fuel + 1, listed, l, h => by
    unfold allLin at h
    split at h
    · simp at h; subst h; simp
    · rename_i r rs hrd
      rw [List.mem_flatMap] at h
      obtain ⟨i, hi, h⟩ := h
      obtain ⟨l2, h2, rfl⟩ := List.mem_map.1 h
      have hir : i ∈ readyL ops listed := by rw [hrd]; exact hi
      have hii : i < ops.size := by
        unfold readyL at hir
        exact List.mem_range.1 (List.mem_filter.1 hir).1
      intro j hj
      rcases List.mem_cons.1 hj with rfl | hj
      · exact hii
      · exact lin_lt ops fuel _ l2 h2 j hj
/-- What a deferred function's body comes to. -/
def SPost (w0 : World) (η : Nat → Value) (σ : Nat → Option Ent) (A : AW) (w : World) (n : Nat) (c0 : Frame) (cs : List Frame) (r : SRes) (Q : Exit → Act → List Frame → World → Prop) : Prop := match r with
  | .norm s u => SGood w0 η σ A w n c0 cs s u (Q .normal)
  | .ret s u => SGood w0 η σ A w n c0 cs s u (Q .ret)
  | .fail => False
theorem viaN_sound (hR : RunOK P w0 η rn) (hm : P.follows .mixedOrders = true) {c : Code} {n : Nat} (hnd : noDefer c = true) (hpl : plansOk pl c = true) (hf : fits n c = true) {c0 : Frame} {cs : List Frame} {Q : Exit → Act → List Frame → World → Prop} {a : Act} {e : Env} {s : St} {u : AM} (hr : Rel a e n a.defers) (hE : ER σ η s.E e) (hd : DR σ η s.ds a.defers)
    (h : Inv w0 σ η s.A w) (hu : FR σ η u c0.mode) (hp : SPost w0 η σ s.A w n c0 cs (viaN (rn (strip pl c) s) u) Q) : c.wpSIn Fence.wide 1 P Q a (c0 :: cs) w := by
  refine wpSIn_of_wpIn rfl ?_
  have key : ∀ (ex : Exit) (s' : St), SGood w0 η σ s.A w n c0 cs s' u (Q ex) → ∀ σ' e' ds w', ER σ' η s'.E e' → DR σ' η s'.ds ds → Inv w0 σ' η s'.A w' → Step σ σ' s.A s'.A w w' → ∀ a', Rel a' e' n ds → Q ex a' (c0 :: cs) w' := fun ex s' hg σ' e' ds w' k1 k2 k3 k4 a' hra => by
    have hda : a'.defers = ds := hra.2.2
    subst hda
    exact hg σ' a' e' c0.mode w' hra k1 k2 k3 k4 (hu.mono k4.sub)
  refine wpIn_mono (mwpIn_sound (ro := none) (m := 0) hm pl c a e a.defers w (fun e ds w => ∀ a', Rel a' e n ds → Q .normal a' (c0 :: cs) w) (fun _ _ _ _ => False) (fun e ds w => ∀ a', Rel a' e n ds → Q .ret a' (c0 :: cs) w) (fun _ _ _ _ => False) hnd hpl hf hr ?_) ?_
  · refine hR _ s σ e a.defers w _ _ _ _ hE hd h ?_
    unfold viaN at hp
    split at hp
    · rename_i s' hrn
      rw [hrn]
      exact key .normal s' hp
    · rename_i s' hrn
      rw [hrn]
      exact key .ret s' hp
    · exact hp.elim
  · intro ex a' w' hq
    cases ex with
    | normal => obtain ⟨e', hra, hq⟩ := hq; exact hq a' hra
    | ret => obtain ⟨e', hra, hq⟩ := hq; exact hq a' hra
    | exit i => obtain ⟨_, _, hq⟩ := hq; exact hq.elim
    | goto i => exact hq.elim
    | panic ch => obtain ⟨_, _, hq⟩ := hq; exact hq.elim
    | outgrown => exact hq.elim
theorem runS_sound (hc : CallOK P w0 η call) (hR : RunOK P w0 η rn) (hm : P.follows .mixedOrders = true) {n : Nat} {cs : List Frame} : ∀ (c : Code), noDefer c = true → plansOk pl c = true → fits n c = true → ∀ {c0 : Frame} {Q : Exit → Act → List Frame → World → Prop} {a : Act} {e : Env} {s : St} {u : AM} {σ : Nat → Option Ent} {w : World},
    Rel a e n a.defers → ER σ η s.E e → DR σ η s.ds a.defers → Inv w0 σ η s.A w → FR σ η u c0.mode → SPost w0 η σ s.A w n c0 cs (runS P pl call rn c s u) Q → c.wpSIn Fence.wide 1 P Q a (c0 :: cs) w
  | .seq x y, hnd, hpl, hf, c0, Q, a, e, s, u, σ, w, hr, hE, hd, h, hu, hp => by
    simp only [noDefer, plansOk, fits, Bool.and_eq_true] at hnd hpl hf
    refine wpSIn_seq (runS_sound hc hR hm x hnd.1 hpl.1 hf.1 hr hE hd h hu ?_)
    simp only [runS] at hp
    split at hp
    · rename_i s' u' hx
      rw [hx]
      intro σ' a' e' m' w' k1 k2 k3 k4 k5 k6
      refine runS_sound hc hR hm y hnd.2 hpl.2 hf.2 (c0 := { c0 with mode := m' }) k1 k2 k3 k4 k6 ?_
      generalize runS P pl call rn y s' u' = r at hp
      cases r with
      | norm s2 u2 => exact SGood.step hp k5
      | ret s2 u2 => exact SGood.step hp k5
      | fail => exact hp
    · rename_i hno
      generalize runS P pl call rn x s u = r at hp hno
      cases r with
      | norm s2 u2 => exact absurd rfl (hno s2 u2)
      | ret s2 u2 => exact hp
      | fail => exact hp
  | .cond c x y, hnd, hpl, hf, c0, Q, a, e, s, u, σ, w, hr, hE, hd, h, hu, hp => by
    simp only [noDefer, plansOk, fits, Bool.and_eq_true] at hnd hpl hf
    simp only [runS] at hp
    split at hp
    · rename_i ho
      exact wpSIn_cond (t := true) (by rw [ev_eval hr hf.1.1]; exact VR.bool_inv (opd_sound hE ho)) (by simp only [if_true]; exact runS_sound hc hR hm x hnd.1 hpl.1 hf.1.2 hr hE hd h hu hp)
    · rename_i ho
      exact wpSIn_cond (t := false) (by rw [ev_eval hr hf.1.1]; exact VR.bool_inv (opd_sound hE ho)) (by simp only [Bool.false_eq_true, if_false]; exact runS_sound hc hR hm y hnd.2 hpl.2 hf.2 hr hE hd h hu hp)
    · exact hp.elim
  | .region id ops d, hnd, hpl, hf, c0, Q, a, e, s, u, σ, w, hr, hE, hd, h, hu, hp => by
    simp only [runS] at hp
    split at hp
    · split at hp
      · rename_i r hor
        obtain ⟨s', u'⟩ := r
        simp only [noDefer, fits] at hnd hf
        cases d with
        | false =>
          refine wpS_region_text ?_
          exact ordersA_sound hc hf hnd hr hE hd h hu _ hor hp _ (by simp) (fun i hi => by simpa using hi)
        | true =>
          refine wpS_region_draw hm fun t => ?_
          have hmem := lin_mem ops ops.size t (Array.replicate ops.size false)
          exact ordersA_sound hc hf hnd hr hE hd h.drew hu _ hor (fun σ' a' e' m' w' k1 k2 k3 k4 k5 k6 => hp σ' a' e' m' w' k1 k2 k3 k4 ((Step.refl _ _ _).drew.trans k5) k6) _ (by rw [if_pos rfl]; exact hmem) (lin_lt ops _ _ _ hmem)
      · exact hp.elim
    · exact viaN_sound hR hm hnd hpl hf hr hE hd h hu hp
  | .skip, hnd, hpl, hf, c0, Q, a, e, s, u, σ, w, hr, hE, hd, h, hu, hp => viaN_sound hR hm hnd hpl hf hr hE hd h hu hp
  | .ret, hnd, hpl, hf, c0, Q, a, e, s, u, σ, w, hr, hE, hd, h, hu, hp => viaN_sound hR hm hnd hpl hf hr hE hd h hu hp
  | .block id b, hnd, hpl, hf, c0, Q, a, e, s, u, σ, w, hr, hE, hd, h, hu, hp => viaN_sound hR hm hnd hpl hf hr hE hd h hu hp
  | .loop b, hnd, hpl, hf, c0, Q, a, e, s, u, σ, w, hr, hE, hd, h, hu, hp => viaN_sound hR hm hnd hpl hf hr hE hd h hu hp
  | .exit id, hnd, hpl, hf, c0, Q, a, e, s, u, σ, w, hr, hE, hd, h, hu, hp => viaN_sound hR hm hnd hpl hf hr hE hd h hu hp
  | .rangeFunc .., hnd, _, _, _, _, _, _, _, _, _, _, _, _, _, _, _, _ => by simp [noDefer] at hnd
  | .scope .., hnd, _, _, _, _, _, _, _, _, _, _, _, _, _, _, _, _ => by simp [noDefer] at hnd
  | .label .., hnd, _, _, _, _, _, _, _, _, _, _, _, _, _, _, _, _ => by simp [noDefer] at hnd
  | .goto .., hnd, _, _, _, _, _, _, _, _, _, _, _, _, _, _, _, _ => by simp [noDefer] at hnd
  | .refuse .., hnd, _, _, _, _, _, _, _, _, _, _, _, _, _, _, _, _ => by simp [noDefer] at hnd
end
end
end Go.Proofs.YtcglagkhnegbbaaGreat
