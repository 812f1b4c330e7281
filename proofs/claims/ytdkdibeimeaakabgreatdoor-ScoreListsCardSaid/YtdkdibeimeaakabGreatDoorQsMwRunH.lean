/- Closed runs, eighth part: the code, calls, the whole. -/
import Derived.Test.YtdkdibeimeaakabGreatDoorQsMwRunFToMwRunR

namespace Go.Proofs.YtdkdibeimeaakabGreatDoor
open Go.RowKit
noncomputable section
set_option linter.unusedVariables false
set_option linter.unusedSimpArgs false
def bindN (k : St → Res) (r : Res) : Res := Res.rec (fun s => k s) (fun i s => .exit i s) (fun s => .ret s) (fun v s => .pan v s) .fail (fun _ _ a b => .alt a b) r
def bindX (id : Nat) (r : Res) : Res := Res.rec (fun s => .norm s) (fun i s => if i = id then .norm s else .exit i s) (fun s => .ret s) (fun v s => .pan v s) .fail (fun _ _ a b => .alt a b) r
def runF (P : Program) (pl : Nat → Plan) (call : CallT) (rn : MC → St → Res) : MC → St → Res
  | .skip, s => .norm s
  | .ops l, s => regA P call l s
  | .draw p, s => drawA P call p s
  | .seq a b, s => bindN (rn b) (rn a s)
  | .cond c a b, s => match opd s.E c with
    | some (.bool true) => rn a s
    | some (.bool false) => rn b s
    | _ => .fail
  | .block id b, s => bindX id (rn b s)
  | .loop b, s => bindN (fun s' => rn (.loop b) s') (rn b s)
  | .exit id, s => .exit id s
  | .ret, s => .ret s
  | .raw (.rangeFunc g ps A B), s => rawF P pl call g ps A B s
  | _, _ => .fail
def argT : Nat → List Value → Tr Value
  | _, [] => .e
  | i, v :: l => (argT (i + 1) l).set i (some v)
def resLA (P : Program) (E : Tr Value) (A : AW) : List ResultVar → Option (List Value)
  | [] => some []
  | .tmp t :: r => (resLA P E A r).map (((E.get t).getD undef) :: ·)
  | .cell a t :: r => (loadA P A t ((E.get a).getD undef)).bind fun v => (resLA P E A r).map (v :: ·)
def resA (P : Program) (E : Tr Value) (A : AW) : List ResultVar → Option Value
  | [.tmp t] => some ((E.get t).getD undef)
  | [.cell a t] => loadA P A t ((E.get a).getD undef)
  | rs => (resLA P E A rs).map fun vs => .tuple vs.toArray
def modeA : Option Value → AM
  | none => .ret
  | some v => .pan v
def settleA : AM → Option Value
  | .ret => none
  | .pan v => some v
  | .was _ => none
def dcallF (P : Program) (pl : Nat → Nat → Plan) (gl : List Nat) (call : CallT) (rn : (Nat → Plan) → MC → St → Res) (f : FuncId) (as : List Value) (m : Option Value) (A : AW) : Option (Option Value × AW) :=
  match P.funcs[f]? with
  | some fn => match fn.body with
    | some c => if gl.contains f = true ∧ as.length ≤ fn.ntmps ∧ okF P f = true ∧ noDefer c = true then
        (match runS P (pl f) call (rn (pl f)) c ⟨argT 0 as, [], A⟩ (modeA m) with
        | .norm s u => if s.ds.isEmpty = true ∧ (resA P s.E s.A fn.results.toList).isSome = true then some (settleA u, s.A) else none
        | .ret s u => if s.ds.isEmpty = true ∧ (resA P s.E s.A fn.results.toList).isSome = true then some (settleA u, s.A) else none
        | .fail => none) else none
    | none => none
  | none => none
def leaveA (P : Program) (dc : FuncId → List Value → Option Value → AW → Option (Option Value × AW)) (rs : List ResultVar) : DL → Option Value → Tr Value → AW → CRes
  | [], none, E, A => match resA P E A rs with
    | some v => .ret v A
    | none => .fail
  | [], some v, E, A => .pan v A
  | (f, as) :: ds, m, E, A => match isMark as with
    | some j => (match A.maps.get j with
      | some .defs => leaveA P dc rs ds m E { A with maps := A.maps.set j none }
      | _ => .fail)
    | none => (match dc f as m A with
      | some r => leaveA P dc rs ds r.1 E r.2
      | none => .fail)
def bindL (k : Option Value → St → CRes) (r : Res) : CRes := Res.rec (fun s => k none s) (fun _ _ => .fail) (fun s => k none s) (fun v s => k (some v) s) .fail (fun _ _ a b => .alt a b) r
def meetT {α : Type} (f : α → α → Option α) : Tr α → Tr α → Tr α
  | .n l v r, .n l' v' r' => .n (meetT f l l') (match v, v' with | some a, some b => f a b | _, _ => none) (meetT f r r')
  | _, _ => .e
def meetR (a b : AR) : Option AR := if (beqLs (beqV 20) a.cs b.cs && a.e == b.e && a.es == b.es && a.full == b.full && a.own == b.own) = true then some { a with st := Nat.max a.st b.st } else none
def meetM (a b : ObjA) : Option ObjA := if beqMM a b = true then some a else none
def idsV : Nat → Value → List Nat
  | 0, _ => []
  | n + 1, v => match v with
    | .pointer (some ⟨j, _, _⟩) => [j]
    | .slice (some ⟨j, _, _⟩) (_ + 1) _ => [j]
    | .map (some j) => [j]
    | .iface _ u => idsV n u
    | .func _ a b => a.toList.flatMap (idsV n) ++ b.toList.flatMap (idsV n)
    | .agg a => a.toList.flatMap (idsV n)
    | .tuple a => a.toList.flatMap (idsV n)
    | _ => []
def memN (j : Nat) : List Nat → Bool
  | [] => false
  | a :: l => Bool.rec (memN j l) true (Nat.beq a j)
def sameFrom (A A' : AW) : Nat → List Nat → List Nat → Bool
  | 0, _, _ => false
  | _, _, [] => true
  | n + 1, seen, j :: todo => if memN j seen = true then sameFrom A A' n seen todo else
    match A.rows.get j, A'.rows.get j with
    | some r, some r' => if (meetR r r').isSome = true then sameFrom A A' n (j :: seen) (r.cs.flatMap (idsV 9) ++ todo) else false
    | none, none => (match A.maps.get j, A'.maps.get j with
      | some (.map es c), some (.map es' c') => if beqMM (.map es c) (.map es' c') = true then sameFrom A A' n (j :: seen) ((es.flatMap fun e => idsV 9 e.2.1) ++ todo) else false
      | none, none => sameFrom A A' n (j :: seen) todo
      | _, _ => false)
    | _, _ => false
def sameOld (A0 A A' : AW) : Nat → Bool
  | 0 => true
  | j + 1 => (match A0.rows.get j with
    | some r0 => (match A.rows.get j, A'.rows.get j with
      | some r, some r' => if (Nat.beq r.st r0.st && Nat.beq r'.st r0.st) = true then true else (meetR r r').isSome
      | none, none => true
      | _, _ => false)
    | none => (match A0.maps.get j with
      | some (.map _ _) => (match A.maps.get j, A'.maps.get j with
        | some m, some m' => beqMM m m'
        | none, none => true
        | _, _ => false)
      | _ => true)) && sameOld A0 A A' j
def oldIds (A0 A : AW) : Nat → List Nat
  | 0 => []
  | j + 1 => (match A0.rows.get j, A.rows.get j with
    | some r0, some r => if Nat.beq r.st r0.st = true then [] else r.cs.flatMap (idsV 9)
    | _, _ => []) ++ (match A0.maps.get j, A.maps.get j with
    | some (.map _ _), some (.map es _) => es.flatMap fun e => idsV 9 e.2.1
    | _, _ => []) ++ oldIds A0 A j
def meetC (A0 : AW) (a b : CRes) : CRes := match a, b with
  | .ret v A, .ret v' A' => if (beqV 20 v v' && A.n == A'.n && beqLs (· == ·) A.rsv A'.rsv && (sameOld A0 A A' A0.n && sameFrom A A' 5000 [] (idsV 9 v ++ oldIds A0 A A0.n))) = true then .ret v ⟨meetT meetR A.rows A'.rows, A.n, A.rsv, meetT meetM A.maps A'.maps, A0.ls⟩ else .alt (.ret v A) (.ret v' A')
  | a, b => .alt a b
def joinC (A0 : AW) (r : CRes) : CRes := CRes.rec (fun v A => .ret v A) (fun v A => .pan v A) .fail (fun _ _ a b => meetC A0 a b) r
def callF (P : Program) (pl : Nat → Nat → Plan) (gl : List Nat) (call : CallT) (rn : (Nat → Plan) → MC → St → Res) (f : FuncId) (as : List Value) (A : AW) : CRes :=
  match P.funcs[f]? with
  | some fn => match fn.body with
    | some c => if gl.contains f = true ∧ as.length ≤ fn.ntmps then
        joinC A (bindL (fun m s => leaveA P (dcallF P pl gl call rn) fn.results.toList s.ds m s.E s.A) (rn (pl f) (strip (pl f) c) ⟨argT 0 as, [], A⟩)) else .fail
    | none => .fail
  | none => .fail
def setT (E : Tr Value) : List Nat → List Value → Tr Value
  | p :: ps, v :: vs => setT (E.set p (some v)) ps vs
  | _, _ => E
def endY (j : Nat) (st : Nat) (pend : Option (Option Nat)) (b : Bool) (s : St) : CRes := match s.A.maps.get j with
  | some (.loop _ _) => .ret (.bool b) { s.A with maps := s.A.maps.set j (some (.loop st pend)) }
  | _ => .fail
def yieldF (rn : (Nat → Plan) → MC → St → Res) (j : Nat) (as : List Value) (A : AW) : CRes := match lsGet A.ls j, A.maps.get j with
  | some S, some (.loop 0 none) => if as.length = S.ps.length then (match rn S.pl (strip S.pl S.A) ⟨setT S.E S.ps as, [], A⟩ with
    | .norm s1 => if s1.ds.isEmpty = true then (match s1.A.maps.get j with
      | some (.loop 0 none) => (match rn S.pl (strip S.pl S.B) ⟨s1.E, [], { s1.A with maps := s1.A.maps.set j (some (.loop 1 none)) }⟩ with
        | .norm s2 => endY j 0 none true s2
        | .ret s2 => endY j 2 (some none) false s2
        | .exit i s2 => endY j 2 (some (some i)) false s2
        | _ => .fail)
      | _ => .fail) else .fail
    | _ => .fail) else .fail
  | _, _ => .fail
abbrev HookT := FuncId → List Value → AW → CRes
def noH : HookT := fun _ _ _ => .fail
def orC (a b : CRes) : CRes := match a with | .fail => b | r => r
def callT (P : Program) (pl : Nat → Nat → Plan) (gl : List Nat) (ho : HookT) (call : CallT) (rn : (Nat → Plan) → MC → St → Res) : CallT
  | .fn f, as, A => orC (ho f as A) (callF P pl gl call rn f as A)
  | .yl j, as, A => yieldF rn j as A
def exec (P : Program) (pl : Nat → Nat → Plan) (gl : List Nat) (ho : HookT) (n : Nat) : ((Nat → Plan) → MC → St → Res) × CallT :=
  Nat.rec (fun _ _ _ => Res.fail, fun _ _ _ => CRes.fail) (fun _ ih => (fun p => runF P p ih.2 (ih.1 p), callT P pl gl ho ih.2 ih.1)) n
theorem exec_succ (P : Program) (pl : Nat → Nat → Plan) (gl : List Nat) (ho : HookT) (n : Nat) : exec P pl gl ho (n + 1) = (fun p => runF P p (exec P pl gl ho n).2 ((exec P pl gl ho n).1 p), callT P pl gl ho (exec P pl gl ho n).2 (exec P pl gl ho n).1) := rfl
section
variable {P : Program} {w0 : World} {σ : Nat → Option Ent} {η : Nat → Value} {A : AW} {w : World} {call : CallT} {rn : MC → St → Res} {pl : Nat → Nat → Plan} {gl : List Nat} {ho : HookT}
theorem argT_get : ∀ (l : List Value) (i t : Nat), (argT i l).get t = if i ≤ t then l[t - i]? else none
  | [], i, t => by simp [argT, Tr.get_e]
  | v :: l, i, t => by
    simp only [argT,Tr.get_set,argT_get l (i + 1) t]
    by_cases h : t = i
    · subst h; simp
    · rw [if_neg h]
      by_cases h2 : i + 1 ≤ t
      · rw [if_pos h2, if_pos (by omega), show t - i = (t - (i + 1)) + 1 by omega, List.getElem?_cons_succ]
      · rw [if_neg h2, if_neg (by omega)]
theorem argT_ER {as as' : List Value} (h : VRs σ η as as') : ER σ η (argT 0 as) (argEnv as') := fun t => by
  rw [argT_get]
  simp only [Nat.zero_le,if_true,Nat.sub_zero,argEnv]
  rw [List.getD_eq_getElem?_getD]
  cases ha : as[t]? with
  | none =>
    have : as'[t]? = none := by
      rw [List.getElem?_eq_none_iff] at ha ⊢
      rw [← h.1]; exact ha
    rw [this]
    exact VR.undef
  | some v =>
    obtain ⟨v', h1, h2⟩ := h.get ha
    rw [h1]
    exact h2
theorem resLA_sound {E : Tr Value} {e : Env} (hE : ER σ η E e) (h : Inv w0 σ η A w) : ∀ {rs : List ResultVar} {vs : List Value}, resLA P E A rs = some vs → ∀ {k : List Value → Prop}, (∀ vs', VRs σ η vs vs' → k vs') → resL P rs e w k
  | [], vs, hr, k, hk => by cases hr; exact hk [] .nil
  | .tmp t :: r, vs, hr, k, hk => by
    simp only [resLA] at hr
    obtain ⟨l, hl, rfl⟩ := Option.map_eq_some_iff.1 hr
    exact resLA_sound hE h hl fun vs' hv => hk _ (.cons (hE t) hv)
  | .cell a t :: r, vs, hr, k, hk => by
    simp only [resLA] at hr
    obtain ⟨v, hv, hr⟩ := Option.bind_eq_some_iff.1 hr
    obtain ⟨l, hl, rfl⟩ := Option.map_eq_some_iff.1 hr
    obtain ⟨v', h1, h2⟩ := loadA_sound h (hE a) hv
    simp only [resL,h1,oK]
    exact resLA_sound hE h hl fun vs' hv => hk _ (.cons h2 hv)
theorem resA_sound {E : Tr Value} {e : Env} (hE : ER σ η E e) (h : Inv w0 σ η A w) {rs : List ResultVar} {v : Value} (hr : resA P E A rs = some v) {k : Value → Prop} (hk : ∀ v', VR σ η v v' → k v') : resW P rs e w k := by
  unfold resA at hr
  unfold resW
  split at hr
  · cases hr; exact hk _ (hE _)
  · obtain ⟨v', h1, h2⟩ := loadA_sound h (hE _) hr
    simp only [h1,oK]
    exact hk _ h2
  · rename_i rs h1 h2
    obtain ⟨vs, hl, rfl⟩ := Option.map_eq_some_iff.1 hr
    split
    · exact absurd rfl (h1 _)
    · exact absurd rfl (h2 _ _)
    · exact resLA_sound hE h hl fun vs' hv => hk _ hv.tuple
theorem meetT_get {α : Type} {f : α → α → Option α} : ∀ {s t : Tr α} {j : Nat} {x : α}, (meetT f s t).get j = some x → ∃ a b, s.get j = some a ∧ t.get j = some b ∧ f a b = some x
  | .n l v r, .n l' v' r', 0, x, h => by
    simp only [meetT,Tr.get_zero] at h ⊢
    cases v with
    | none => cases h
    | some a =>
      cases v' with
      | none => cases h
      | some b => exact ⟨a, b, rfl, rfl, h⟩
  | .n l v r, .n l' v' r', j + 1, x, h => by
    simp only [meetT,Tr.get_succ] at h ⊢
    split at h
    · rename_i hj
      simp only [hj,if_true]
      exact meetT_get h
    · rename_i hj
      simp only [hj,if_false]
      exact meetT_get h
  | .e, .e, _, _, h => by simp [meetT, Tr.get_e] at h
  | .e, .n _ _ _, _, _, h => by simp [meetT, Tr.get_e] at h
  | .n _ _ _, .e, _, _, h => by simp [meetT, Tr.get_e] at h
theorem beqAR_row {a b r : AR} (h : meetR a b = some r) : (r = { a with st := Nat.max a.st b.st }) ∧ (r = { b with st := Nat.max a.st b.st }) := by
  unfold meetR at h
  split at h
  · rename_i hc
    simp only [Bool.and_eq_true,beq_iff_eq] at hc
    cases h
    refine ⟨rfl, ?_⟩
    have h1 := beqLs_eq (fun _ _ => beqV_eq 20) hc.1.1.1.1
    cases a; cases b
    simp only at h1 hc ⊢
    rw [h1, hc.1.1.1.2, hc.1.1.2, hc.1.2, hc.2]
  · cases h
theorem Inv.less {A1 A2 : AW} (h : Inv w0 σ η A1 w) (hn : A2.n = A1.n) (hr : A2.rsv = A1.rsv) (hl : A2.ls = A1.ls) (hrow : ∀ j r, A2.rows.get j = some r → ∃ st, A1.rows.get j = some { r with st := st }) (hm : ∀ j m, A2.maps.get j = some m → A1.maps.get j = some m) : Inv w0 σ η A2 w := by
  refine ⟨h.ext, by rw [hn]; exact h.fresh, by rw [hr, hn]; exact h.rsv, fun j r hj => ?_, fun i j ri rj x y hi hj => ?_, ?_⟩
  · obtain ⟨st, h1⟩ := hrow j r hj
    obtain ⟨x, cur, k1, k2, k3, k4, k5, k6⟩ := h.row j _ h1
    exact ⟨x, cur, k1, k2, k3, k4, k5, k6⟩
  · obtain ⟨s1, h1⟩ := hrow i ri hi
    obtain ⟨s2, h2⟩ := hrow j rj hj
    exact h.sep i j _ _ x y h1 h2
  · rw [hl]
    exact ⟨fun j m hj => h.mp.1 j m (hm j m hj), fun i j mi mj x y hi hj => h.mp.2 i j mi mj x y (hm i mi hi) (hm j mj hj)⟩
theorem Step.less {σ' : Nat → Option Ent} {A1 A2 : AW} {w' : World} (h : Step σ σ' A A1 w w') (hl : A2.ls = A.ls) (hrow : ∀ j r, A2.rows.get j = some r → ∃ st, A1.rows.get j = some { r with st := st } ∧ st ≤ r.st) : Step σ σ' A A2 w w' := by
  refine ⟨h.sub, hl, fun j r' x hj hx => ?_⟩
  obtain ⟨st, h1, h2⟩ := hrow j r' hj
  obtain ⟨r, k1, k2, k3⟩ := h.keep j _ x h1 hx
  exact ⟨r, k1, Nat.le_trans k2 h2, fun he => k3 (Nat.le_antisymm k2 (by rw [he]; exact h2))⟩
theorem meetC_post {Rr : Ending → World → Prop} {a b : CRes} (h : CPost w0 η σ A w (meetC A a b) Rr) : CPost w0 η σ A w a Rr ∧ CPost w0 η σ A w b Rr := by
  unfold meetC at h
  split at h
  · rename_i v A1 v' A2
    split at h
    · rename_i hc
      simp only [Bool.and_eq_true,beq_iff_eq] at hc
      obtain ⟨⟨⟨hv, hn⟩, hrs⟩, _⟩ := hc
      have hv := beqV_eq 20 hv
      have hrs := beqLs_eq (fun x y hxy => by simpa using hxy) hrs
      subst hv
      refine ⟨fun σ' u w' k1 k2 k3 => h σ' u w' k1 (k2.less rfl rfl k3.ls.symm (fun j r hj => ?_) (fun j m hj => ?_)) (k3.less rfl fun j r hj => ?_), fun σ' u w' k1 k2 k3 => h σ' u w' k1 (k2.less hn hrs k3.ls.symm (fun j r hj => ?_) (fun j m hj => ?_)) (k3.less rfl fun j r hj => ?_)⟩
      · obtain ⟨x, y, h1, h2, h3⟩ := meetT_get hj
        refine ⟨x.st, ?_⟩
        rw [(beqAR_row h3).1]; exact h1
      · obtain ⟨x, y, h1, h2, h3⟩ := meetT_get hj
        unfold meetM at h3
        split at h3
        · cases h3; exact h1
        · cases h3
      · obtain ⟨x, y, h1, h2, h3⟩ := meetT_get hj
        refine ⟨x.st, ?_, ?_⟩
        · rw [(beqAR_row h3).1]; exact h1
        · rw [(beqAR_row h3).1]; exact Nat.le_max_left _ _
      · obtain ⟨x, y, h1, h2, h3⟩ := meetT_get hj
        refine ⟨y.st, ?_⟩
        rw [(beqAR_row h3).2]; exact h2
      · obtain ⟨x, y, h1, h2, h3⟩ := meetT_get hj
        unfold meetM at h3
        split at h3
        · rename_i he
          cases h3; rw [beqMM_eq he]; exact h2
        · cases h3
      · obtain ⟨x, y, h1, h2, h3⟩ := meetT_get hj
        refine ⟨y.st, ?_, ?_⟩
        · rw [(beqAR_row h3).2]; exact h2
        · rw [(beqAR_row h3).2]; exact Nat.le_max_right _ _
    · exact h
  · exact h
theorem joinC_post {Rr : Ending → World → Prop} : ∀ (r : CRes), CPost w0 η σ A w (joinC A r) Rr → CPost w0 η σ A w r Rr
  | .ret v A', h => h
  | .pan v A', h => h
  | .fail, h => h
  | .alt a b, h => ⟨joinC_post a (meetC_post h).1, joinC_post b (meetC_post h).2⟩
def TabOK (P : Program) (pl : Nat → Nat → Plan) (gl : List Nat) : Prop := P.follows .mixedOrders = true ∧ ∀ f ∈ gl, ∀ fn, P.funcs[f]? = some fn → okB (pl f) fn 0 = true
theorem TabOK.use (h : TabOK P pl gl) {f : FuncId} {fn : Func} {c : Code} (hf : P.funcs[f]? = some fn) (hb : fn.body = some c) (hg : gl.contains f = true) : resFits fn.ntmps fn.results.toList = true ∧ plansOk (pl f) c = true ∧ fits fn.ntmps c = true := by
  have := h.2 f (by simpa using hg) fn hf
  simp only [okB,hb,Bool.and_eq_true] at this
  exact ⟨this.1.2, this.2.1, this.2.2⟩
theorem arg_rel {arr : Array Value} {n : Nat} (hn : arr.size ≤ n) : Rel { tmps := arr ++ Array.replicate (n - arr.size) undef, defers := [] } (argEnv arr.toList) n [] := by
  refine ⟨by simp; omega, fun t ht => ?_, rfl⟩
  simp only [argEnv]
  by_cases h1 : t < arr.size
  · rw [Array.getElem?_append_left h1]; simp [h1]
  · simp [Array.getElem?_append, show ¬ t < arr.size from h1, show t - arr.size < n - arr.size by omega]
theorem dcallF_sound (ht : TabOK P pl gl) (hc : CallOK P w0 η call) {rn : (Nat → Plan) → MC → St → Res} (hR : ∀ p, RunOK P w0 η (rn p)) {f : FuncId} {as : List Value} {arr : Array Value} {m m2 : Option Value} {A2 : AW} {u : FrameMode} (h : Inv w0 σ η A w) (hv : VRs σ η as arr.toList) (hu : FR σ η (modeA m) u)
    (hd : dcallF P pl gl call rn f as m A = some (m2, A2)) : okF P f = true ∧ ∀ {Rr : Ending → FrameMode → World → Prop}, (∀ σ' v' u' w', Inv w0 σ' η A2 w' → Step σ σ' A A2 w w' → FR σ' η (modeA m2) (settle u') → Rr (.returned v') u' w') → CallsDIn Fence.wide 1 P f arr u w Rr := by
  unfold dcallF at hd
  split at hd
  · rename_i fn hfn
    split at hd
    · rename_i c hb
      split at hd
      · rename_i hg
        obtain ⟨g1, g2, g3, g4⟩ := hg
        obtain ⟨t1, t2, t3⟩ := ht.use hfn hb g1
        refine ⟨g3, fun {Rr} hk => ?_⟩
        have hsz : arr.size ≤ fn.ntmps := by have := hv.1; simp at this; omega
        refine callsDIn_of_wpSIn hfn hb trivial fun c0 cs hcu => ?_
        have hset : ∀ {σ' : Nat → Option Ent} {u2 : AM} {m' : FrameMode}, FR σ' η u2 m' → FR σ' η (modeA (settleA u2)) (settle m') := fun {σ' u2 m'} hf => by
          cases hf with
          | ret => exact .ret
          | pan h => exact .pan h
          | was h => exact .ret
        have fin : ∀ (s : St) (u2 : AM) (ex : Exit), (ex = .normal ∨ ex = .ret) → (s.ds.isEmpty = true ∧ (resA P s.E s.A fn.results.toList).isSome = true) → (settleA u2, s.A) = (m2, A2) →
            SGood w0 η σ A w fn.ntmps c0 cs s u2 (bodyPostS P fn c0 cs Rr ex) := fun s u2 ex hex hs he => by
          intro σ' a' e' m' w' k1 k2 k3 k4 k5 k6
          obtain ⟨v, hres⟩ := Option.isSome_iff_exists.1 hs.2
          cases he
          have hds : s.ds = [] := by simpa using hs.1
          rw [hds] at k3
          have hda : a'.defers = [] := by
            generalize a'.defers = d at k3
            cases d with
            | nil => rfl
            | cons x l => exact k3.elim
          obtain ⟨v', hrv⟩ : ∃ v', (results fn a'.tmps).run P w' = .ok v' w' := by
            obtain ⟨v', h1, _⟩ := resW_sound (k := fun _ => True) k1 t1 (resA_sound k2 k4 hres fun _ _ => trivial)
            exact ⟨v', h1⟩
          rcases hex with rfl | rfl <;> exact ⟨hda, m', rfl, v', hrv, hk σ' v' m' w' k4 k5 (hset k6)⟩
        refine runS_sound hc (hR (pl f)) ht.1 c g4 t2 t3 (s := ⟨argT 0 as, [], A⟩) (u := modeA m) (arg_rel hsz) (argT_ER hv) trivial h (by rw [hcu]; exact hu) ?_
        split at hd
        · rename_i s u2 hrs
          rw [hrs]
          split at hd
          · rename_i hs
            exact fin s u2 .normal (.inl rfl) hs (Option.some.inj hd)
          · cases hd
        · rename_i s u2 hrs
          rw [hrs]
          split at hd
          · rename_i hs
            exact fin s u2 .ret (.inr rfl) hs (Option.some.inj hd)
          · cases hd
        · cases hd
      · cases hd
    · cases hd
  · cases hd
theorem leaveA_sound (ht : TabOK P pl gl) (hc : CallOK P w0 η call) {rn : (Nat → Plan) → MC → St → Res} (hR : ∀ p, RunOK P w0 η (rn p)) {rs : List ResultVar} {E : Tr Value} {e : Env} {Rr : Ending → World → Prop} : ∀ {ds : DL} {m : Option Value} {A : AW} {σ : Nat → Option Ent} {dsC : List Deferred} {u : FrameMode} {w : World}, ER σ η E e → DR σ η ds dsC → Inv w0 σ η A w → FR σ η (modeA m) u →
    CPost w0 η σ A w (leaveA P (dcallF P pl gl call rn) rs ds m E A) Rr → leaveM P rs Rr dsC u e w
  | [], none, A, σ, [], u, w, hE, hd, h, hu, hp => by
    cases hu
    simp only [leaveA] at hp
    split at hp
    · rename_i v hv
      have hgoal : resW P rs e w fun v => Rr (.returned v) w := resA_sound hE h hv fun v' hv' => hp σ v' w hv' h (Step.refl _ _ _)
      with_unfolding_all exact hgoal
    · exact hp.elim
  | [], some v, A, σ, [], u, w, hE, hd, h, hu, hp => by
    cases hu with
    | pan hv =>
      rename_i v'
      have hgoal : Rr (.panicked [{ v := v', recovered := false }]) w := hp σ v' w hv h (Step.refl _ _ _)
      with_unfolding_all exact hgoal
  | (f, as) :: ds, m, A, σ, d :: dsC, u, w, hE, hd, h, hu, hp => by
    obtain ⟨hd1, hd2⟩ := hd
    have hne : u ≠ .run := by cases m <;> cases hu <;> simp
    simp only [leaveA] at hp
    rcases hd1 with ⟨hmk, cap, h1, h2⟩ | ⟨j, x, hmk, hx, rfl⟩
    rotate_left
    · rw [hmk] at hp
      simp only at hp
      split at hp
      · rename_i hj
        obtain ⟨x', o, hx', hb, ho, hr0⟩ := h.mp.1 j _ hj
        rw [hx] at hx'
        cases hx'
        have ho2 : o = .deferred (some []) := by
          unfold ObjR at hr0
          split at hr0 <;> first | rfl | (rename_i e; cases e; done) | exact hr0.elim
        subst ho2
        obtain ⟨q1, q2⟩ := dropThing h hj hx hb ho (fun _ _ _ he => by cases he) (.deferred none)
        exact leaveM_mark hne (run_takeDeferred ho) (leaveA_sound ht hc hR hE hd2 q1 hu (hp.step q2))
      · exact hp.elim
    rw [hmk] at hp
    simp only at hp
    split at hp
    · rename_i r hr
      obtain ⟨m2, A2⟩ := r
      obtain ⟨hok, hcall⟩ := dcallF_sound ht hc hR h h2 hu hr
      have hinv : (invoke d.target d.args).run P w = .ok (.enter f (d.args ++ cap)) w := by
        rw [h1]
        simp only [invoke]
        exact okF_run hok _ _
      refine leaveM_call hne h1 hinv (hcall fun σ' v' u' w' k1 k2 k3 => ?_)
      exact leaveA_sound ht hc hR (hE.mono k2.sub) (hd2.mono k2.sub) k1 k3 (hp.step k2)
    · exact hp.elim
  | [], _, _, _, _ :: _, _, _, _, hd, _, _, _ => hd.elim
  | _ :: _, _, _, _, [], _, _, _, hd, _, _, _ => hd.elim
theorem setT_ER {σ : Nat → Option Ent} {η : Nat → Value} : ∀ (ps : List Nat) {as as' : List Value} {E : Tr Value} {e : Env}, ER σ η E e → VRs σ η as as' → ER σ η (setT E ps as) (setPs e ps as')
  | [], as, as', E, e, hE, hv => by simpa [setT, setPs] using hE
  | p :: ps, [], [], E, e, hE, hv => by simpa [setT, setPs] using hE
  | p :: ps, v :: vs, v' :: vs', E, e, hE, hv => by
    have h0 : VR σ η v v' := hv.2 0 v v' rfl rfl
    have h1 : VRs σ η vs vs' := ⟨by simpa using hv.1, fun i a b ha hb => hv.2 (i + 1) a b (by simpa using ha) (by simpa using hb)⟩
    have := setT_ER ps (hE.upd p h0) h1
    simpa [setT, setPs] using this
  | _ :: _, [], _ :: _, _, _, _, hv => by have := hv.1; simp at this
  | _ :: _, _ :: _, [], _, _, _, hv => by have := hv.1; simp at this
theorem loop_set {w0 : World} {η : Nat → Value} {j st : Nat} {pend : Option (Option Nat)} {A : AW} {σ : Nat → Option Ent} {w : World} {x : Ent} {r : Loop} {S : LoopS} (h : Inv w0 σ η A w) (hx : σ j = some x) (hj : A.maps.get j = some (.loop st pend))
    (hb : w0.heap.size ≤ x.b) (ho : w.heap[x.b]? = some (.loop r)) (hS : lsGet A.ls j = some S) (hl : LoopR σ η S st pend r) (st2 : Nat) (pend2 : Option (Option Nat)) :
    Inv w0 σ η { A with maps := A.maps.set j (some (.loop st2 pend2)) } (w.putObj x.b (.loop { r with state := stC st2, pending := pendC pend2 })) ∧ Step σ σ A { A with maps := A.maps.set j (some (.loop st2 pend2)) } w (w.putObj x.b (.loop { r with state := stC st2, pending := pendC pend2 })) :=
  setThing h hj hx hb ho (fun _ _ _ he => by cases he) ⟨S, hS, rfl, rfl, hl.params, hl.assign, hl.body, hl.okA, hl.okB, hl.fits, hl.tmps⟩
theorem yieldF_sound (hm : P.follows .mixedOrders = true) {rn : (Nat → Plan) → MC → St → Res} (hR : ∀ p, RunOK P w0 η (rn p)) {j : Nat} {as as' : List Value} {x : Ent} {v : Value} {A' : AW} (h : Inv w0 σ η A w) (hx : σ j = some x) (hv : VRs σ η as as') (hr : yieldF rn j as A = .ret v A') :
    YieldAt Fence.wide 1 P x.b as'.toArray w fun en w' => ∃ v' σ', en = .returned v' ∧ VR σ' η v v' ∧ Inv w0 σ' η A' w' ∧ Step σ σ' A A' w w' := by
  unfold yieldF at hr
  split at hr
  · rename_i S hS hj
    split at hr
    · rename_i hlen
      obtain ⟨r, S', hb, ho, hS', hl⟩ := loop_at h hx hj
      rw [hS] at hS'
      cases hS'
      obtain ⟨g, hfit⟩ := hl.fits
      obtain ⟨e0, he0, ht⟩ := hl.tmps
      have hsz : as'.toArray.size = r.params.size := by
        have h1 := hv.1
        have h2 := congrArg List.length hl.params
        simp only [Array.length_toList] at h2
        simp only [List.size_toArray]
        omega
      refine yieldAt_round (e0 := e0) (pl := S.pl) hm ho hsz rfl ht hfit hl.okA hl.okB ?_
      rw [show strip S.pl r.assign = strip S.pl S.A by rw [hl.assign], show strip S.pl r.body = strip S.pl S.B by rw [hl.body]]
      refine hR S.pl (strip S.pl S.A) ⟨setT S.E S.ps as, [], A⟩ σ (setPs e0 r.params.toList as'.toArray.toList) [] w _ _ _ _ (by rw [hl.params]; exact setT_ER S.ps he0 hv) trivial h ?_
      split at hr
      · rename_i s1 hrs
        rw [hrs]
        split at hr
        · rename_i hds
          split at hr
          · rename_i hj1
            intro σ1 e1 ds1 w1 k1 k2 k3 k4
            have hds1 : ds1 = [] := by
              have : s1.ds = [] := by simpa using hds
              rw [this] at k2
              cases ds1 with
              | nil => rfl
              | cons a l => exact k2.elim
            have hx1 := k4.sub _ _ hx
            obtain ⟨r1, S1, hb1, ho1, hS1, hl1⟩ := loop_at k3 hx1 hj1
            rw [k4.ls, hS] at hS1
            cases hS1
            obtain ⟨q1, q2⟩ := loop_set k3 hx1 hj1 hb1 ho1 (by rw [k4.ls]; exact hS) hl1 1 none
            have hpend : r1.pending = none := hl1.pending
            have hrec : ({ r1 with state := LoopState.busy } : Loop) = { r1 with state := stC 1, pending := pendC none } := by
              cases r1
              simp only at hpend
              subst hpend
              rfl
            refine ⟨hds1, r1, ho1, hl1.state, ?_⟩
            rw [hrec]
            refine hR S.pl (strip S.pl S.B) ⟨s1.E, [], _⟩ σ1 e1 [] _ _ _ _ _ k1 trivial q1 ?_
            have fin : ∀ (st : Nat) (pend : Option (Option Nat)) (b : Bool) (s2 : St), endY j st pend b s2 = .ret v A' → ∀ σ2 e2 ds2 w2, ER σ2 η s2.E e2 → DR σ2 η s2.ds ds2 → Inv w0 σ2 η s2.A w2 → Step σ1 σ2 { s1.A with maps := s1.A.maps.set j (some (.loop 1 none)) } s2.A (w1.putObj x.b (.loop { r1 with state := stC 1, pending := pendC none })) w2 →
                ∃ r2, w2.heap[x.b]? = some (.loop r2) ∧ ∃ v' σ', Ending.returned (.bool b) = .returned v' ∧ VR σ' η v v' ∧ Inv w0 σ' η A' (w2.putObj x.b (.loop { r2 with state := stC st, pending := pendC pend })) ∧ Step σ σ' A A' w (w2.putObj x.b (.loop { r2 with state := stC st, pending := pendC pend })) := fun st pend b s2 he σ2 e2 ds2 w2 m1 m2 m3 m4 => by
              unfold endY at he
              split at he
              · rename_i st0 pend0 hj2
                cases he
                have hx2 := m4.sub _ _ hx1
                obtain ⟨r2, S2, hb2, ho2, hS2, hl2⟩ := loop_at m3 hx2 hj2
                obtain ⟨t1, t2⟩ := loop_set m3 hx2 hj2 hb2 ho2 hS2 hl2 st pend
                exact ⟨r2, ho2, _, σ2, rfl, .bool b, t1, (k4.trans q2).trans (m4.trans t2)⟩
              · cases he
            split at hr
            · rename_i s2 hrs2
              rw [hrs2]
              exact fun σ2 e2 ds2 w2 m1 m2 m3 m4 => fin 0 none true s2 hr σ2 e2 ds2 w2 m1 m2 m3 m4
            · rename_i s2 hrs2
              rw [hrs2]
              exact fun σ2 e2 ds2 w2 m1 m2 m3 m4 => fin 2 (some none) false s2 hr σ2 e2 ds2 w2 m1 m2 m3 m4
            · rename_i i s2 hrs2
              rw [hrs2]
              exact fun σ2 e2 ds2 w2 m1 m2 m3 m4 => fin 2 (some (some i)) false s2 hr σ2 e2 ds2 w2 m1 m2 m3 m4
            · cases hr
          · cases hr
        · cases hr
      · cases hr
    · cases hr
  · cases hr
def HookOK (P : Program) (w0 : World) (η : Nat → Value) (ho : HookT) : Prop := ∀ (f : FuncId) (as : List Value) (A : AW) (σ : Nat → Option Ent) (w : World) (as' : List Value), Inv w0 σ η A w → VRs σ η as as' →
  match ho f as A with
  | .fail => True
  | .ret v A' => Calls P f as'.toArray w fun en w' => ∃ v' σ', en = .returned v' ∧ VR σ' η v v' ∧ Inv w0 σ' η A' w' ∧ Step σ σ' A A' w w'
  | .pan v A' => Calls P f as'.toArray w fun en w' => ∃ v' σ', en = .panicked [{ v := v', recovered := false }] ∧ VR σ' η v v' ∧ Inv w0 σ' η A' w' ∧ Step σ σ' A A' w w'
  | .alt _ _ => False
theorem noH_ok : HookOK P w0 η noH := fun _ _ _ _ _ _ _ _ => trivial
theorem bindL_post {k : Option Value → St → CRes} {Rr : Ending → World → Prop} {N R : Env → List Deferred → World → Prop} {EX : Nat → Env → List Deferred → World → Prop} {X : Env → List PanicEntry → List Deferred → World → Prop}
    (h1 : ∀ s, CPost w0 η σ A w (k none s) Rr → ∀ σ' e ds w', ER σ' η s.E e → DR σ' η s.ds ds → Inv w0 σ' η s.A w' → Step σ σ' A s.A w w' → N e ds w' ∧ R e ds w')
    (h2 : ∀ v s, CPost w0 η σ A w (k (some v) s) Rr → ∀ σ' e ds w' v', ER σ' η s.E e → DR σ' η s.ds ds → VR σ' η v v' → Inv w0 σ' η s.A w' → Step σ σ' A s.A w w' → X e [{ v := v', recovered := false }] ds w') : ∀ (r : Res), CPost w0 η σ A w (bindL k r) Rr → Post w0 η σ A w r N EX R X
  | .norm s, h => fun σ' e ds w' a b c d => (h1 s h σ' e ds w' a b c d).1
  | .ret s, h => fun σ' e ds w' a b c d => (h1 s h σ' e ds w' a b c d).2
  | .pan v s, h => fun σ' e ds w' v' a b x c d => h2 v s h σ' e ds w' v' a b x c d
  | .exit i s, h => h.elim
  | .fail, h => h.elim
  | .alt a b, h => ⟨bindL_post h1 h2 a h.1, bindL_post h1 h2 b h.2⟩
theorem callF_sound (hh : HookOK P w0 η ho) (ht : TabOK P pl gl) (hc : CallOK P w0 η call) {rn : (Nat → Plan) → MC → St → Res} (hR : ∀ p, RunOK P w0 η (rn p)) : CallOK P w0 η (callT P pl gl ho call rn) := by
  refine ⟨?_, fun j as A σ w as' x h hx hv v A' hr => yieldF_sound ht.1 hR h hx hv hr⟩
  intro f as A σ w as' h hv Rr hp
  rw [show callT P pl gl ho call rn (.fn f) as A = orC (ho f as A) (callF P pl gl call rn f as A) from rfl] at hp
  have h0 := hh f as A σ w as' h hv
  cases hq : ho f as A with
  | alt a b => rw [hq] at h0; exact h0.elim
  | ret v A' => rw [hq] at h0 hp; exact Calls.mono h0 fun en w' ⟨v', σ', he, a, b, c⟩ => by subst he; exact hp σ' v' w' a b c
  | pan v A' => rw [hq] at h0 hp; exact Calls.mono h0 fun en w' ⟨v', σ', he, a, b, c⟩ => by subst he; exact hp σ' v' w' a b c
  | fail =>
  rw [hq] at hp
  replace hp : CPost w0 η σ A w (callF P pl gl call rn f as A) Rr := hp
  unfold callF at hp
  split at hp
  · rename_i fn hfn
    split at hp
    · rename_i c hb
      split at hp
      · rename_i hg
        obtain ⟨t1, t2, t3⟩ := ht.use hfn hb hg.1
        have hsz : as'.toArray.size ≤ fn.ntmps := by have := hv.1; simp; omega
        refine calls_of_mwpB (m := strip (pl f) c) (rs := fn.results.toList) ht.1 hfn (pl f) (by rw [hb]; rfl) (by simp only [okB,hb,t1,t2,t3,hsz,decide_true,Bool.and_self]) rfl ?_
        refine hR (pl f) (strip (pl f) c) ⟨argT 0 as, [], A⟩ σ (argEnv as'.toArray.toList) [] w _ _ _ _ (argT_ER (by simpa using hv)) trivial h (bindL_post ?_ ?_ _ (joinC_post _ hp))
        · exact fun s hp σ' e ds w' k1 k2 k3 k4 => ⟨leaveA_sound ht hc hR k1 k2 k3 .ret (hp.step k4), leaveA_sound ht hc hR k1 k2 k3 .ret (hp.step k4)⟩
        · exact fun v s hp σ' e ds w' v' k1 k2 kv k3 k4 => leaveA_sound ht hc hR (m := some v) k1 k2 k3 (.pan kv) (hp.step k4)
      · exact hp.elim
    · exact hp.elim
  · exact hp.elim
theorem least_ex {p : Nat → Prop} (h : ∃ k, p k) : ∃ k, p k ∧ ∀ j, p j → k ≤ j := by
  obtain ⟨k, hk⟩ := h
  induction k using Nat.strongRecOn with
  | ind k ih =>
    by_cases hs : ∃ j, j < k ∧ p j
    · obtain ⟨j, hj, hp⟩ := hs
      exact ih j hj hp
    · exact ⟨k, hk, fun j hj => Nat.le_of_not_lt fun hlt => hs ⟨j, hlt, hj⟩⟩
open Classical in
noncomputable def least (p : Nat → Prop) : Nat := if h : ∃ k, p k then Classical.choose (least_ex h) else 0
theorem least_spec {p : Nat → Prop} (h : ∃ k, p k) : p (least p) ∧ ∀ j, p j → least p ≤ j := by
  unfold least
  rw [dif_pos h]
  exact Classical.choose_spec (least_ex h)
theorem bindN_post {k : St → Res} {N R : Env → List Deferred → World → Prop} {EX : Nat → Env → List Deferred → World → Prop} {X : Env → List PanicEntry → List Deferred → World → Prop} {N2 : Env → List Deferred → World → Prop}
    (hk : ∀ s, Post w0 η σ A w (k s) N EX R X → ∀ σ' e ds w', ER σ' η s.E e → DR σ' η s.ds ds → Inv w0 σ' η s.A w' → Step σ σ' A s.A w w' → N2 e ds w') : ∀ (r : Res), Post w0 η σ A w (bindN k r) N EX R X → Post w0 η σ A w r N2 EX R X
  | .norm s, h => hk s h
  | .exit i s, h => h
  | .ret s, h => h
  | .pan v s, h => h
  | .fail, h => h
  | .alt a b, h => ⟨bindN_post hk a h.1, bindN_post hk b h.2⟩
theorem bindX_post {id : Nat} {N R : Env → List Deferred → World → Prop} {EX : Nat → Env → List Deferred → World → Prop} {X : Env → List PanicEntry → List Deferred → World → Prop} {E2 : Nat → Env → List Deferred → World → Prop}
    (hk : ∀ i s, Post w0 η σ A w (if i = id then .norm s else .exit i s) N EX R X → ∀ σ' e ds w', ER σ' η s.E e → DR σ' η s.ds ds → Inv w0 σ' η s.A w' → Step σ σ' A s.A w w' → E2 i e ds w') : ∀ (r : Res), Post w0 η σ A w (bindX id r) N EX R X → Post w0 η σ A w r N E2 R X
  | .norm s, h => h
  | .exit i s, h => hk i s h
  | .ret s, h => h
  | .pan v s, h => h
  | .fail, h => h
  | .alt a b, h => ⟨bindX_post hk a h.1, bindX_post hk b h.2⟩
theorem runF_sound {p : Nat → Plan} (hc : CallOK P w0 η call) (hR : RunOK P w0 η rn) {c : MC} (hloop : ∀ b, c ≠ .loop b) {s : St} {e : Env} {dsC : List Deferred} {N R : Env → List Deferred → World → Prop} {EX : Nat → Env → List Deferred → World → Prop} {X : Env → List PanicEntry → List Deferred → World → Prop}
    (hE : ER σ η s.E e) (hd : DR σ η s.ds dsC) (h : Inv w0 σ η s.A w) (hp : Post w0 η σ s.A w (runF P p call rn c s) N EX R X) : mwp P c e dsC w N EX R X := by
  cases c with
  | skip => exact hp σ e dsC w hE hd h (Step.refl _ _ _)
  | ops l => exact regA_sound hc l hE hd h hp
  | draw p => exact drawA_sound hc hE hd h hp
  | seq a b =>
    simp only [runF] at hp
    simp only [mwp]
    exact hR a s σ e dsC w _ EX R X hE hd h (bindN_post (fun s' hp σ' e' ds' w' k1 k2 k3 k4 => hR b s' σ' e' ds' w' N EX R X k1 k2 k3 (hp.step k4)) _ hp)
  | cond c a b =>
    simp only [runF] at hp
    simp only [mwp]
    split at hp
    · rename_i ho
      exact .inl ⟨VR.bool_inv (opd_sound hE ho), hR a s σ e dsC w N EX R X hE hd h hp⟩
    · rename_i ho
      exact .inr ⟨VR.bool_inv (opd_sound hE ho), hR b s σ e dsC w N EX R X hE hd h hp⟩
    · exact hp.elim
  | block id b =>
    simp only [runF] at hp
    simp only [mwp]
    refine hR b s σ e dsC w N _ R X hE hd h (bindX_post (fun i s' hp σ' e' ds' w' k1 k2 k3 k4 => ?_) _ hp)
    split at hp
    · rename_i hi
      rw [if_pos hi]
      exact hp σ' e' ds' w' k1 k2 k3 k4
    · rename_i hi
      rw [if_neg hi]
      exact hp σ' e' ds' w' k1 k2 k3 k4
  | loop b => exact absurd rfl (hloop b)
  | exit id => exact hp σ e dsC w hE hd h (Step.refl _ _ _)
  | ret => exact hp σ e dsC w hE hd h (Step.refl _ _ _)
  | raw c => cases c <;> first | exact hp.elim | exact rawF_sound hc hE hd h hp
  | bad => exact hp.elim
theorem exec_sound (hh : HookOK P w0 η ho) (ht : TabOK P pl gl) : ∀ n, (∀ k, k ≤ n → ∀ p, RunOK P w0 η ((exec P pl gl ho k).1 p)) ∧ CallOK P w0 η (exec P pl gl ho n).2
  | 0 => ⟨fun k hk p => by
      obtain rfl : k = 0 := by omega
      intro c s σ e dsC w N EX R X hE hd h hp
      exact hp.elim, ⟨fun f as A σ w as' h hv Rr hp => hp.elim, fun j as A σ w as' x h hx hv v A' hr => by cases hr⟩⟩
  | n + 1 => by
    obtain ⟨ih1, ih2⟩ := exec_sound hh ht n
    refine ⟨fun k hk p => ?_, ?_⟩
    · by_cases hkn : k ≤ n
      · exact ih1 k hkn p
      · obtain rfl : k = n + 1 := by omega
        intro c s σ e dsC w N EX R X hE hd h hp
        by_cases hl : ∃ b, c = .loop b
        · obtain ⟨b, rfl⟩ := hl
          simp only [mwp]
          -- how much is still to run
          let Rk : Nat → Env → List Deferred → World → Prop := fun k e ds w => ∃ s σ, ER σ η s.E e ∧ DR σ η s.ds ds ∧ Inv w0 σ η s.A w ∧ Post w0 η σ s.A w ((exec P pl gl ho k).1 p (.loop b) s) N EX R X
          refine ⟨fun e ds w => ∃ k, k ≤ n + 1 ∧ Rk k e ds w, fun e ds w => least fun k => Rk k e ds w, ⟨n + 1, Nat.le_refl _, s, σ, hE, hd, h, hp⟩, fun e ds w ⟨k0, hk0, hr0⟩ => ?_⟩
          obtain ⟨hl1, hl2⟩ := least_spec (p := fun k => Rk k e ds w) ⟨k0, hr0⟩
          generalize hk : (least fun k => Rk k e ds w) = k at hl1 hl2
          have hkle := hl2 k0 hr0
          obtain ⟨s1, σ1, g1, g2, g3, g4⟩ := hl1
          cases k with
          | zero => exact g4.elim
          | succ k =>
            rw [exec_succ] at g4
            simp only [runF] at g4
            refine ih1 k (by omega) p b s1 σ1 e ds w _ EX R X g1 g2 g3 (bindN_post (fun s2 g4 σ' e' ds' w' k1 k2 k3 k4 => ?_) _ g4)
            have hRk : Rk k e' ds' w' := ⟨s2, σ', k1, k2, k3, g4.step k4⟩
            exact ⟨⟨k, by omega, hRk⟩, Nat.lt_of_le_of_lt ((least_spec (p := fun k => Rk k e' ds' w') ⟨k, hRk⟩).2 k hRk) (by change k < least (fun k => Rk k e ds w); rw [hk]; omega)⟩
        · exact runF_sound (p := p) ih2 (ih1 n (Nat.le_refl _) p) (fun b hb => hl ⟨b, hb⟩) hE hd h hp
    · exact callF_sound hh ht ih2 (ih1 n (Nat.le_refl _))
def aw0 : AW := ⟨.e, 0, [], .e, []⟩
theorem inv0 (w : World) (η : Nat → Value) : Inv w (fun _ => none) η aw0 w := ⟨Ext.refl _, fun _ _ => rfl, fun j hj => by simp [aw0] at hj, fun j r h => by simp [aw0, Tr.get_e] at h, fun i j ri rj x y h => by simp [aw0, Tr.get_e] at h, fun j m h => by simp [aw0, Tr.get_e] at h, fun i j mi mj x y h => by simp [aw0, Tr.get_e] at h⟩
theorem exec_rets (hh : HookOK P w η ho) (ht : TabOK P pl gl) {n : Nat} {f : FuncId} {as as' : List Value} {v : Value} {A' : AW} (hv : VRs (fun _ => none) η as as') (hr : (exec P pl gl ho n).2 (.fn f) as aw0 = .ret v A') :
    Rets P f as'.toArray w fun r w' => (∃ σ, VR σ η v r) ∧ Ext w w' := by
  have this : Calls P f as'.toArray w fun en w' => ∃ v' σ', en = .returned v' ∧ VR σ' η v v' ∧ Inv w σ' η A' w' ∧ Step (fun _ => none) σ' aw0 A' w w' := by
    refine (exec_sound (w0 := w) (η := η) hh ht n).2.1 f as aw0 (fun _ => none) w as' (inv0 w η) hv _ ?_
    rw [hr]
    exact fun σ' v' w' a b c => ⟨v', σ', rfl, a, b, c⟩
  unfold Rets
  exact Calls.mono this fun en w' ⟨v', σ', he, h1, h2, h3⟩ => ⟨v', he, ⟨σ', h1⟩, h2.ext⟩
end
end
end Go.Proofs.YtdkdibeimeaakabGreatDoor
