/- Layer 02: package format's join. -/
import Derived.Test.YthcdnjbhhaonhaaGreatDoorQgFoFToFoJ

namespace Go.Proofs.YthcdnjbhhaonhaaGreatDoor
open Go.RowKit
open Nat renaming reduceEqDiff → ZA, reduceAdd → ZB, reduceMul → ZC, reduceSub → ZD
open Int renaming reduceToNat → ZE, reduceEq → ZF, reduceLT → ZG, reduceLE → ZH, reduceNeg → ZI
open Go.Value renaming oneCell' → ZK, cells → ZJ
open Go.Proofs.Tryz renaming prog → ZP
set_option linter.unusedSimpArgs false
section
variable {P : Program} {f : FuncId}
theorem mwpAt_cut {a b : MC} {e : Env} {ds : List Deferred} {w : World} {N : Env → List Deferred → World → Prop} {E : Nat → Env → List Deferred → World → Prop} {R : Env → List Deferred → World → Prop} {X : Env → List PanicEntry → List Deferred → World → Prop}
 (I : Env → List Deferred → World → Prop) (h1 : mwpB P a e ds w I E R X ⟨⟩) (h2 : ∀ e ds w, I e ds w → mwpAt P f b e ds w N E R X) : mwpAt P f (.seq a b) e ds w N E R X := by
 refine mwpAt_seq ?_
 unfold mwpB at h1 ⊢
 exact mwp_mono a e ds w _ _ E E h2 (fun _ _ _ _ h => h) h1
theorem mwpAt_two {a b : MC} {e : Env} {ds : List Deferred} {w : World} {N : Env → List Deferred → World → Prop} {E : Nat → Env → List Deferred → World → Prop} {R : Env → List Deferred → World → Prop} {X : Env → List PanicEntry → List Deferred → World → Prop}
 (h : mwpAt P f a e ds w (fun e ds w => mwpAt P f b e ds w N E R X) E R X) : mwpAt P f (.seq a b) e ds w N E R X := h
theorem mwpAt_blk {b : MC} {id : Nat} {e : Env} {ds : List Deferred} {w : World} {N : Env → List Deferred → World → Prop} {E : Nat → Env → List Deferred → World → Prop} {R : Env → List Deferred → World → Prop} {X : Env → List PanicEntry → List Deferred → World → Prop}
 (h : mwpAt P f b e ds w N (fun i e ds w => if i = id then N e ds w else E i e ds w) R X) : mwpAt P f (.block id b) e ds w N E R X := h
end
theorem opB_deferC {P : Program} {d : Option Tmp} {ty : TypeId} {g : Option (Option Tmp × Bool)} {e : Env} {ds : List Deferred} {w : World} {KV : Value → List Deferred → World → Prop} {X : List PanicEntry → List Deferred → World → Prop} {tk : Tk2 KV X} {x : Operand} {ts : Array TypeId} {fv : Fn} {first cap : Array Value} (h : ev e x = .func fv first cap)
 (hk : KV undef (⟨.fn fv cap, first⟩ :: ds) w) : opB P ⟨d, .defer { callee := .value x, args := #[], argTypes := ts }, ty, g⟩ e ds w KV X tk := by
 unfold opB
 simpa [opW, opR, mexec, execOp, resolve, Deferred.ofValue, h] using hk
theorem yield_rndX {P : Program} {n : Nat} {l : Nat} {fn : FuncId} {fd : Func} {tmps : Array Value} {ps : Array Tmp} {A B : Code} {D : Nat} {args : Array Value} {W : World} {e0 : Env} {g : Operand} {pl : Nat → Plan} {ma mb : MC} {R : Ending → World → Prop} (hm : P.follows .mixedOrders = true) (hl : W.heap[l]? = some (.loop (loopRec fn tmps ps A B D))) (hfn : P.funcs[fn]? = some fd)
 (hsz : args.size = ps.size) (hn : tmps.size = n) (ht : ∀ t, t < n → tmps[t]? = some (e0 t)) (hf : fits n (.rangeFunc g ps A B) = true)
 (hokA : (plansOk pl A && noDefer A) = true) (hokB : (plansOk pl B && noDefer B) = true) (hsA : strip pl A = ma) (hsB : strip pl B = mb)
 (h : mwpB P ma (setPs e0 ps.toList args.toList) [] W
  (fun e1 ds1 W1 => ds1 = [] ∧ ∃ r1, W1.heap[l]? = some (.loop r1) ∧ r1.state = .ready ∧ mwpB P mb e1 [] (W1.putObj l (.loop { r1 with state := .busy }))
   (fun _ _ W2 => ∃ r2, W2.heap[l]? = some (.loop r2) ∧ R (.returned (.bool true)) (W2.putObj l (.loop { r2 with state := .ready, pending := none })))
   (fun i _ _ W2 => ∃ r2, W2.heap[l]? = some (.loop r2) ∧ R (.returned (.bool false)) (W2.putObj l (.loop { r2 with state := .done, pending := some (.exit i) })))
   (fun _ _ W2 => ∃ r2, W2.heap[l]? = some (.loop r2) ∧ R (.returned (.bool false)) (W2.putObj l (.loop { r2 with state := .done, pending := some .ret })))
   (fun _ ch ds W2 => ds = [] ∧ R (.panicked ch) W2) ⟨⟩)
  (fun _ _ _ _ => False) (fun _ _ _ => False) (fun _ _ _ _ => False) ⟨⟩) : YieldAt Fence.wide 1 P l args W R := by
 subst hsA
 subst hsB
 unfold mwpB at h
 simp only [Bool.and_eq_true] at hokA hokB
 exact yieldAt_roundX (r := loopRec fn tmps ps A B D) hm hl hfn hsz hn ht hf ⟨hokA.2, hokA.1⟩ ⟨hokB.2, hokB.1⟩ h
theorem hd_some : ∀ {A B : List Fl}, (A ≠ [] ∨ B ≠ []) → hdP B A = none → ∃ x, hdP A B = some x
 | [], [], h, _ => by simp at h
 | [], y :: B, _, h => by cases h
 | x :: A, [], _, _ => ⟨x, rfl⟩
 | x :: A, y :: B, _, h => by
  by_cases hk : y.key ≤ x.key
  · rw [hdP_le hk] at h; cases h
  · exact ⟨x, hdP_le (by omega)⟩
def joinD (b4 b5 : Nat) : Deferred := { target := .fn (.func 109) #[.pointer (some ⟨b4, 0, none⟩), .pointer (some ⟨b5, 0, none⟩)], args := #[] }
theorem leaveM_nil {P : Program} {rs : List ResultVar} {R : Ending → World → Prop} {e : Env} {w : World} (h : resW P rs e w fun v => R (.returned v) w) : leaveM P rs R [] .returning e w := by
 with_unfolding_all exact h
theorem joinD_run {w : World} {b4 b5 : Nat} : (invoke (joinD b4 b5).target (joinD b4 b5).args).run ZP w = .ok (.enter 109 #[.pointer (some ⟨b4, 0, none⟩), .pointer (some ⟨b5, 0, none⟩)]) w := by simp [joinD, go_sem]
theorem join_leave {R : Ending → World → Prop} {e : Env} {w : World} {b4 b5 : Nat} {m s n : Value} (e4 : e 4 = .pointer (some ⟨b4, 0, none⟩)) (e5 : e 5 = .pointer (some ⟨b5, 0, none⟩)) (k4 : Bk w b4 [m, s] 24) (k5 : Bk w b5 [n] 28)
 (hR : ∀ w', Ext w w' → R (.returned (.tuple #[.agg #[m, s], n])) w') : leaveM ZP [.cell 4 24, .cell 5 28] R [joinD b4 b5] .returning e w := by
 refine leaveM_call (by simp) rfl joinD_run (callsD_mono (joined_ret (b4 := b4) (b5 := b5)) fun ex u' w' hq => ?_)
 obtain ⟨rfl, rfl, hx⟩ := hq
 refine leaveM_nil ?_
 have c0 := (k4.ext hx).get (o := 0) rfl
 have c1 := (k4.ext hx).get (o := 1) rfl
 have c2 := (k5.ext hx).get (o := 0) rfl
 have hR' := hR w' hx
 simp -dsimp -implicitDefEqProofs only [e4,e5,c0,c1,c2,m73,sF73,ZA,↓reduceIte,ZB,ZC,ZJ,ZK,ZE,ZF,ZG,ZH,ZI,reduceCtorEq,ZD,mwV,↓mwD,mwU]
 exact hR'
theorem join_stop {R : Ending → World → Prop} {e : Env} {w : World} {b4 b5 : Nat} {x y z : Value} {n : Int} (hne : b4 ≠ b5) (e4 : e 4 = .pointer (some ⟨b4, 0, none⟩)) (e5 : e 5 = .pointer (some ⟨b5, 0, none⟩)) (k4 : Bk w b4 [x, y] 24) (k5 : Bk w b5 [z] 28)
 (hR : ∀ w', ChP (fun k => k = b4 ∨ k = b5) w w' → R (.returned (.tuple #[.agg #[.int .i64 0, .slice none 0 0], .int .i64 n])) w') : leaveM ZP [.cell 4 24, .cell 5 28] R [joinD b4 b5] (.panicking [⟨stopV n, false, false⟩]) e w := by
 refine leaveM_call (by simp) rfl joinD_run (callsD_mono (joined_stop k4 k5 hne) fun ex u' w' hq => ?_)
 obtain ⟨rfl, hu, hch, k4', k5'⟩ := hq
 show leaveM _ _ R [] (settle u') e w'
 rw [hu]
 refine leaveM_nil ?_
 have c0 := k4'.get (o := 0) rfl
 have c1 := k4'.get (o := 1) rfl
 have c2 := k5'.get (o := 0) rfl
 have hR' := hR w' hch
 simp -dsimp -implicitDefEqProofs only [e4,e5,c0,c1,c2,m73,sF73,ZA,↓reduceIte,ZB,ZC,ZJ,ZK,ZE,ZF,ZG,ZH,ZI,reduceCtorEq,ZD,mwV,↓mwD,mwU]
 exact hR'
theorem leave_mark {rs : List ResultVar} {R : Ending → World → Prop} {ds : List Deferred} {u : FrameMode} {e : Env} {w : World} {D : Nat} (hu : u ≠ .run) (hd : w.heap[D]? = some (.deferred (some []))) (h : leaveM ZP rs R ds u e (w.putObj D (.deferred none))) : leaveM ZP rs R ({ target := .collected D, args := #[] } :: ds) u e w :=
 leaveM_mark hu (run_takeDeferred hd) h
theorem tl_len : ∀ {A B : List Fl}, (A ≠ [] ∨ B ≠ []) → (tlP A B).length + (tlP B A).length + 1 ≤ A.length + B.length
 | [], [], h => by simp at h
 | [], y :: B, _ => by
  rw [tlP_some (x := y) (z := y) (A := B) (B := []) rfl, tlP_none (A := []) (B := y :: B) rfl]; simp
 | x :: A, [], _ => by
  rw [tlP_some (x := x) (z := x) (A := A) (B := []) rfl, tlP_none (A := []) (B := x :: A) rfl]; simp
 | x :: A, y :: B, _ => by
  by_cases h1 : x.key ≤ y.key
  · by_cases h2 : y.key ≤ x.key
    · rw [tlP_some (hdP_le h1), tlP_some (hdP_le h2)]; simp; omega
    · rw [tlP_some (hdP_le h1), tlP_none (hdP_gt h2)]; simp; omega
  · rw [tlP_none (hdP_gt h1), tlP_some (hdP_le (show y.key ≤ x.key by omega))]; simp; omega
def JoJ (w0 : World) (D l : Nat) (rec : Loop) (b4 b5 : Nat) (m : Int) (A B A' B' : List Fl) (u : World) : Prop :=
 ∃ v acc, JoS w0 u D l rec b4 b5 m v acc ∧ (∀ o, JoinR (pairs A' B') o → JoinR (pairs A B) (o.map (acc.map (·.1) ++ ·))) ∧ (∀ x ∈ A', x.c.valid = true) ∧ (∀ y ∈ B', y.c.valid = true) ∧ acc.length + A'.length + B'.length ≤ 2000
def JoT (w0 : World) (D b4 b5 : Nat) (m : Int) (A B : List Fl) (ch : List PanicEntry) (u : World) : Prop :=
 ch = [⟨stopV 13, false, false⟩] ∧ Ext w0 u ∧ u.heap[D]? = some (.deferred (some [])) ∧ (∃ v, Bk u b4 [.int .i64 m, v] 24) ∧ Bk u b5 [.int .i64 0] 28 ∧ JoinR (pairs A B) none
theorem bv_fl (k kk d : Int) (s : Value) : buildV ZP 72 [(0, .int .i64 k), (1, .agg #[.int .i64 kk, .int .i64 d, s])] = some (.agg #[.int .i64 k, .int .i64 kk, .int .i64 d, s]) := by kernel_rfl
def JoinQ (a b : Fm) (w : World) (r : Value) (w' : World) : Prop := Ext w w' ∧ if a.m = b.m then ∃ o, JoinR (pairs a.F b.F) o ∧ match o with
 | none => r = .tuple #[.agg #[.int .i64 0, .slice none 0 0], .int .i64 13]
 | some J => ∃ s acc, r = .tuple #[fmV ⟨a.m, J⟩ s, .int .i64 0] ∧ J = acc.map (·.1) ∧ OwnF w' w.heap.size s acc
 else r = .tuple #[.agg #[.int .i64 0, .slice none 0 0], .int .i64 10]
set_option maxRecDepth 10000 in
theorem join_c (a b : Fm) (sa sb : Value) (w : World) (hA : SlF w sa a.F) (hB : SlF w sb b.F) (va : a.valid = true) (vb : b.valid = true) : Calls ZP 73 #[fmV a sa, fmV b sb] w fun en w' => ∃ r, en = .returned r ∧ JoinQ a b w r w' := by
 obtain ⟨pa, ca, rfl, hc1, hc2⟩ := hA.shape
 obtain ⟨pb, cb, rfl, hc3, hc4⟩ := hB.shape
 refine calls_of_mwpAt follows_mo Tryz.func73 pl73 st73 ok73 (rs := [.cell 4 24, .cell 5 28]) (by kernel_rfl) ?_
 obtain ⟨W, hW, A, B, C4, C5, hx⟩ : ∃ W, W = (((w.alloc (.cells #[.int .i64 a.m, .slice pa a.F.length ca] 24)).alloc (.cells #[.int .i64 b.m, .slice pb b.F.length cb] 24)).alloc (.cells #[.int .i64 0, .slice none 0 0] 24)).alloc (.cells #[.int .i64 0] 28) ∧
  Bk W w.heap.size [.int .i64 a.m, .slice pa a.F.length ca] 24 ∧ Bk W (w.heap.size + 1) [.int .i64 b.m, .slice pb b.F.length cb] 24 ∧ Bk W (w.heap.size + 2) [.int .i64 0, .slice none 0 0] 24 ∧ Bk W (w.heap.size + 3) [.int .i64 0] 28 ∧ Ext w W := by
  refine ⟨_, rfl, (((Bk.new w _ _).ext (Ext.alloc _ _)).ext (Ext.alloc _ _)).ext (Ext.alloc _ _), ?_, ?_, ?_, (((Ext.alloc _ _).trans (Ext.alloc _ _)).trans (Ext.alloc _ _)).trans (Ext.alloc _ _)⟩
  · have := Bk.new (w.alloc (.cells #[.int .i64 a.m, .slice pa a.F.length ca] 24)) [.int .i64 b.m, .slice pb b.F.length cb] 24
    rw [World.size_alloc] at this
    exact (this.ext (Ext.alloc _ _)).ext (Ext.alloc _ _)
  · have := Bk.new ((w.alloc (.cells #[.int .i64 a.m, .slice pa a.F.length ca] 24)).alloc (.cells #[.int .i64 b.m, .slice pb b.F.length cb] 24)) [.int .i64 0, .slice none 0 0] 24
    rw [World.size_alloc, World.size_alloc] at this
    exact this.ext (Ext.alloc _ _)
  · have := Bk.new (((w.alloc (.cells #[.int .i64 a.m, .slice pa a.F.length ca] 24)).alloc (.cells #[.int .i64 b.m, .slice pb b.F.length cb] 24)).alloc (.cells #[.int .i64 0, .slice none 0 0] 24)) [.int .i64 0] 28
    rw [World.size_alloc, World.size_alloc, World.size_alloc] at this
    exact this
 have hsz : W.heap.size = w.heap.size + 4 := by rw [hW]; simp only [World.size_alloc]
 unfold m73
 refine mwpAt_cut (fun e ds w' => e 2 = .pointer (some ⟨w.heap.size, 0, none⟩) ∧ e 3 = .pointer (some ⟨w.heap.size + 1, 0, none⟩) ∧ e 4 = .pointer (some ⟨w.heap.size + 2, 0, none⟩) ∧ e 5 = .pointer (some ⟨w.heap.size + 3, 0, none⟩) ∧ ds = [] ∧ w' = W) ?_ ?_
 · simp -dsimp -implicitDefEqProofs only [fmV,World.size_alloc,Nat.add_assoc,← hW,m73,sF73,ZA,↓reduceIte,ZB,ZC,ZJ,ZK,ZE,ZF,ZG,ZH,ZI,reduceCtorEq,ZD,mwV,↓mwD,mwU]
 clear hW
 rintro e ds w0 ⟨k2, k3, k4, k5, rfl, rfl⟩
 refine mwpAt_cut (fun e ds w' => e 2 = .pointer (some ⟨w.heap.size, 0, none⟩) ∧ e 3 = .pointer (some ⟨w.heap.size + 1, 0, none⟩) ∧ e 4 = .pointer (some ⟨w.heap.size + 2, 0, none⟩) ∧ e 5 = .pointer (some ⟨w.heap.size + 3, 0, none⟩) ∧ ds = [joinD (w.heap.size + 2) (w.heap.size + 3)] ∧ w' = w0) ?_ ?_
 · simp -dsimp -implicitDefEqProofs only [k2,k3,k4,k5,m73,sF73,ZA,↓reduceIte,ZB,ZC,ZJ,ZK,ZE,ZF,ZG,ZH,ZI,reduceCtorEq,ZD,mwV,↓mwD,mwU]
   refine opB_deferC (by rw [ev_tmp]; rfl) ?_
   simp -dsimp -implicitDefEqProofs only [k2,k3,k4,k5,m73,sF73,ZA,↓reduceIte,ZB,ZC,ZJ,ZK,ZE,ZF,ZG,ZH,ZI,reduceCtorEq,ZD,mwV,↓mwD,mwU]
   rfl
 rintro e ds w0 ⟨k2, k3, k4, k5, rfl, rfl⟩
 have A0 := A.get (o := 0) rfl
 have A1 := A.get (o := 1) rfl
 have B0 := B.get (o := 0) rfl
 have B1 := B.get (o := 1) rfl
 have hbs : buildV ZP 124 [(0, .int .i64 10)] = some (.agg #[.int .i64 10]) := by kernel_rfl
 by_cases hm : a.m = b.m
 · refine mwpAt_cut (fun e ds w' => e 2 = .pointer (some ⟨w.heap.size, 0, none⟩) ∧ e 3 = .pointer (some ⟨w.heap.size + 1, 0, none⟩) ∧ e 4 = .pointer (some ⟨w.heap.size + 2, 0, none⟩) ∧ e 5 = .pointer (some ⟨w.heap.size + 3, 0, none⟩) ∧ ds = [joinD (w.heap.size + 2) (w.heap.size + 3)] ∧ w' = w0) ?_ ?_
   · simp -dsimp -implicitDefEqProofs only [k2,k3,k4,k5,A0,B0,hm,m73,sF73,ZA,↓reduceIte,ZB,ZC,ZJ,ZK,ZE,ZF,ZG,ZH,ZI,reduceCtorEq,ZD,mwV,↓mwD,mwU]
   rintro e ds w0 ⟨k2, k3, k4, k5, rfl, rfl⟩
   have c0 := C4.get (o := 0) rfl
   have f0 := C4.frozen 0
   refine mwpAt_cut (fun e ds w' => e 2 = .pointer (some ⟨w.heap.size, 0, none⟩) ∧ e 3 = .pointer (some ⟨w.heap.size + 1, 0, none⟩) ∧ e 4 = .pointer (some ⟨w.heap.size + 2, 0, none⟩) ∧ e 5 = .pointer (some ⟨w.heap.size + 3, 0, none⟩) ∧ ds = [joinD (w.heap.size + 2) (w.heap.size + 3)] ∧ w' = w0.setCell ⟨w.heap.size + 2, 0, none⟩ (.int .i64 a.m)) ?_ ?_
   · simp -dsimp -implicitDefEqProofs only [k2,k3,k4,k5,A0,c0,f0,m73,sF73,ZA,↓reduceIte,ZB,ZC,ZJ,ZK,ZE,ZF,ZG,ZH,ZI,reduceCtorEq,ZD,mwV,↓mwD,mwU]
   rintro e ds w1 ⟨k2, k3, k4, k5, rfl, hw1⟩
   replace A := A.ne (show w.heap.size + 2 ≠ w.heap.size by omega) 0 (.int .i64 a.m)
   replace B := B.ne (show w.heap.size + 2 ≠ w.heap.size + 1 by omega) 0 (.int .i64 a.m)
   replace C5 := C5.ne (show w.heap.size + 2 ≠ w.heap.size + 3 by omega) 0 (.int .i64 a.m)
   replace C4 := C4.set 0 (.int .i64 a.m)
   replace hx : Ext w (w0.setCell ⟨w.heap.size + 2, 0, none⟩ (.int .i64 a.m)) := hx.setCell (by simp) _
   have hsz1 : w1.heap.size = w.heap.size + 4 := by rw [hw1, ← hsz]; simp [World.setCell]
   rw [← hw1] at A B C4 C5 hx
   clear hw1 A0 A1 B0 B1 c0 f0 hsz
   have A1 := A.get (o := 1) rfl
   have B1 := B.get (o := 1) rfl
   refine mwpAt_two ?_
   refine mwpAt_cut (fun e ds w' => e 25 = .func (.func 103) #[] #[.pointer (some ⟨w1.heap.size, 0, none⟩), .pointer (some ⟨w1.heap.size + 1, 0, none⟩)] ∧ e 4 = .pointer (some ⟨w.heap.size + 2, 0, none⟩) ∧ e 5 = .pointer (some ⟨w.heap.size + 3, 0, none⟩) ∧ ds = [joinD (w.heap.size + 2) (w.heap.size + 3)] ∧
    w' = (w1.alloc (.cells (Value.slice pa a.F.length ca).cells 22)).alloc (.cells (Value.slice pb b.F.length cb).cells 22)) ?_ ?_
   · simp -dsimp -implicitDefEqProofs only [k2,k3,k4,k5,A1,B1,m73,sF73,ZA,↓reduceIte,ZB,ZC,ZJ,ZK,ZE,ZF,ZG,ZH,ZI,reduceCtorEq,ZD,mwV,↓mwD,mwU]
     refine (both_c _ _ w1).use ?_
     rintro r w3 ⟨rfl, rfl⟩
     simp -dsimp -implicitDefEqProofs only [k4,k5,m73,sF73,ZA,↓reduceIte,ZB,ZC,ZJ,ZK,ZE,ZF,ZG,ZH,ZI,reduceCtorEq,ZD,mwV,↓mwD,mwU]
   rintro E0 ds w3 ⟨q25, q4, q5, rfl, hw3⟩
   have hx3 : Ext w1 w3 := by rw [hw3]; exact (Ext.alloc _ _).trans (Ext.alloc _ _)
   have hsz3 : w3.heap.size = w1.heap.size + 2 := by rw [hw3]; simp only [World.size_alloc]
   have ka : Bk w3 w1.heap.size [.slice pa a.F.length ca] 22 := by rw [hw3]; exact (Bk.new w1 [.slice pa a.F.length ca] _).ext (Ext.alloc _ _)
   have kb : Bk w3 (w1.heap.size + 1) [.slice pb b.F.length cb] 22 := by
    have := Bk.new (w1.alloc (.cells #[.slice pa a.F.length ca] 22)) [.slice pb b.F.length cb] 22
    rw [World.size_alloc] at this
    rw [hw3]; exact this
   clear hw3
   refine mwpAt_blk ?_
   rw [rfE73_0]
   have fA : fieldsB 0 a.F = true := by unfold Fm.valid at va; simp only [Bool.and_eq_true] at va; exact va.1
   have fB : fieldsB 0 b.F = true := by unfold Fm.valid at vb; simp only [Bool.and_eq_true] at vb; exact vb.1
   have lenA : a.F.length ≤ 1000 := by
    rcases fieldsB_len fA with h | h
    · rw [h]; simp
    · omega
   have lenB : b.F.length ≤ 1000 := by
    rcases fieldsB_len fB with h | h
    · rw [h]; simp
    · omega
   refine mwpAt_rangeFunc (by rw [ev_tmp]; exact q25) okF_103 (fun n tmps hn ht hf => ?_)
   have hx34 : Ext w3 ((w3.alloc (.deferred (some []))).alloc (.loop (loopRec 73 tmps #[26, 27] ra73_0 rb73_0 w3.heap.size))) := (Ext.alloc _ _).trans (Ext.alloc _ _)
   have hD : ((w3.alloc (.deferred (some []))).alloc (.loop (loopRec 73 tmps #[26, 27] ra73_0 rb73_0 w3.heap.size))).heap[w3.heap.size]? = some (.deferred (some [])) := by
    rw [Below.heap_alloc _ _ _ (by rw [World.size_alloc]; omega)]; exact heap_alloc_new w3 _
   have hL : ((w3.alloc (.deferred (some []))).alloc (.loop (loopRec 73 tmps #[26, 27] ra73_0 rb73_0 w3.heap.size))).heap[w3.heap.size + 1]? = some (.loop (loopRec 73 tmps #[26, 27] ra73_0 rb73_0 w3.heap.size)) := by
    have := heap_alloc_new (w3.alloc (.deferred (some []))) (.loop (loopRec 73 tmps #[26, 27] ra73_0 rb73_0 w3.heap.size))
    rw [World.size_alloc] at this; exact this
   generalize (w3.alloc (.deferred (some []))).alloc (.loop (loopRec 73 tmps #[26, 27] ra73_0 rb73_0 w3.heap.size)) = W4 at *
   generalize hrec : loopRec 73 tmps #[26, 27] ra73_0 rb73_0 w3.heap.size = rec at *
   have hready : rec.state = .ready := by rw [← hrec]; rfl
   have hpend : rec.pending = none := by rw [← hrec]; rfl
   show Calls _ _ #[.func (.yield (w3.heap.size + 1)) #[] #[], .pointer (some ⟨w1.heap.size, 0, none⟩), .pointer (some ⟨w1.heap.size + 1, 0, none⟩)] _ _
   refine Calls.mono (both1_c (l := w3.heap.size + 1) (ba := w1.heap.size) (bb := w1.heap.size + 1) (W0 := w) (W := W4) (A := a.F) (B := b.F)
    (J := JoJ w w3.heap.size (w3.heap.size + 1) rec (w.heap.size + 2) (w.heap.size + 3) a.m a.F b.F)
    (S := fun _ => False) (T := JoT w w3.heap.size (w.heap.size + 2) (w.heap.size + 3) a.m a.F b.F) (by omega) lenA lenB (by omega) (by omega) hA hB (ka.ext hx34) (kb.ext hx34)
    (fun A' B' u ⟨_, _, h, _⟩ => h.ext)
    (fun A' B' u u' ⟨v, acc, h, h'⟩ c ⟨_, o1⟩ ⟨_, o2⟩ => ⟨v, acc, h.chp c (fun b hb => by rcases hb with rfl | rfl <;> omega) (by omega) (by omega) (by omega) (by omega) (fun b hb => by
     rcases hb with rfl | rfl
     · exact o1.odd (by decide) (by decide)
     · exact o2.odd (by decide) (by decide)), h'⟩)
    ?rnd ⟨.slice none 0 0, [], ⟨(hx.trans hx3).trans hx34, hD, hL, (C4.ext hx3).ext hx34, (C5.ext hx3).ext hx34, World.ownsRow_nil _ _ _ _, fun p hp => by cases hp⟩, fun o ho => by simpa using ho, fun x hx => (fieldsB_mem fA x hx).2.2, fun y hy => (fieldsB_mem fB y hy).2.2, by simp; omega⟩).calls ?fin
   case fin =>
    intro en w5 hq
    cases en with
    | outgrown => exact hq.elim
    | panicked ch =>
     obtain ⟨rfl, hxT, hdT, ⟨vT, k4T⟩, k5T, hno⟩ := hq
     refine .inr ⟨_, rfl, leave_mark (by simp) hdT (join_stop (n := 13) (by omega) q4 q5 (k4T.put (by omega) _) (k5T.put (by omega) _) (fun w' hch => ⟨_, rfl, ?_, ?_⟩))⟩
     · exact hch.ext ((ChP.put (G := fun k => k = w3.heap.size) (ChP.refl _ _) (fun _ => rfl) (.deferred none)).ext hxT (fun b hb => by subst hb; omega)) (fun b hb => by rcases hb with rfl | rfl <;> omega)
     · rw [if_pos hm]; exact ⟨none, hno, rfl⟩
    | returned v =>
     rcases hq with ⟨vs, acc, hS, hK, _⟩ | h
     · refine .inl ⟨v, _, _, rfl, run_endLoop hS.loop (by rw [hready]; decide), ?_⟩
       have hS2 := hS.put (r2 := { rec with state := .exhausted }) (by omega) (by omega) (by omega) (by omega)
       generalize w5.putObj (w3.heap.size + 1) _ = W6 at *
       rw [hpend]
       refine mwpAt_all ?_
       obtain ⟨pv, cv, rfl, _, _⟩ := hS2.ownF.slF.shape
       have c0 := hS2.k4.get (o := 0) rfl
       have c1 := hS2.k4.get (o := 1) rfl
       have f0 := hS2.k4.frozen 0
       have d4 := hS2.k4.set 0 (.int .i64 a.m)
       have g1 := d4.get (o := 1) rfl
       have f1 := d4.frozen 1
       have h4 := d4.set 1 (.slice pv (acc.map (·.1)).length cv)
       have h5 := (hS2.k5.ne (show w.heap.size + 2 ≠ w.heap.size + 3 by omega) 0 (.int .i64 a.m)).ne (show w.heap.size + 2 ≠ w.heap.size + 3 by omega) 1 (.slice pv (acc.map (·.1)).length cv)
       have g2 := h5.get (o := 0) rfl
       have f2 := h5.frozen 0
       have r4 := h4.ne (show w.heap.size + 3 ≠ w.heap.size + 2 by omega) 0 (.int .i64 0)
       have r5 := h5.set 0 (.int .i64 0)
       have ch3 : ChP (fun k => k = w.heap.size + 2 ∨ k = w.heap.size + 3) W6 (((W6.setCell ⟨w.heap.size + 2, 0, none⟩ (.int .i64 a.m)).setCell ⟨w.heap.size + 2, 1, none⟩ (.slice pv (acc.map (·.1)).length cv)).setCell ⟨w.heap.size + 3, 0, none⟩ (.int .i64 0)) :=
        (((ChP.refl _ W6).setCell (fun _ => .inl rfl) _).setCell (fun _ => .inl rfl) _).setCell (fun _ => .inr rfl) _
       simp -dsimp -implicitDefEqProofs only [q4,q5,c0,c1,f0,g1,f1,g2,f2,m73,sF73,ZA,↓reduceIte,ZB,ZC,ZJ,ZK,ZE,ZF,ZG,ZH,ZI,reduceCtorEq,ZD,mwV,↓mwD,mwU]
       generalize ((W6.setCell _ _).setCell _ _).setCell _ _ = W7 at *
       have hd7 := (ch3.block w3.heap.size (Array.getElem?_eq_some_iff.1 hS2.dead).1 (by omega)).trans hS2.dead
       have ch4 : ChP (fun k => (k = w.heap.size + 2 ∨ k = w.heap.size + 3) ∨ k = w3.heap.size) W6 (W7.putObj w3.heap.size (.deferred none)) := (ch3.mono fun b hb => .inl hb).put (fun _ => .inr rfl) _
       refine leave_mark (by simp) hd7 (join_leave q4 q5 (r4.put (by omega) _) (r5.put (by omega) _) (fun w' hx' => ⟨_, rfl, ?_, ?_⟩))
       · exact (ch4.ext hS2.ext (fun b hb => by rcases hb with (rfl | rfl) | rfl <;> omega)).trans hx'
       · rw [if_pos hm]
         refine ⟨some (acc.map (·.1)), ?_, _, acc, rfl, rfl, (hS2.ownF.ch ch4 (fun b hb => ?_)).ext hx'⟩
         · have := hK (some []) (by rw [pairs]; rfl)
           simpa using this
         · rcases hb with (rfl | rfl) | rfl
           · exact hS2.k4.odd (by decide) (by decide)
           · exact hS2.k5.odd (by decide) (by decide)
           · exact odd_obj hS2.dead rfl
     · exact h.elim
   case rnd =>
    rintro A' B' px py u ⟨v, acc, hj1, hK, hj3, hj4, hj5⟩ hne hpx hpy ⟨va', lba⟩ ⟨vb', lbb⟩
    refine yield_rndX follows_mo (by rw [hrec]; exact hj1.loop) Tryz.func73 rfl hn ht hf okra73_0 okrb73_0 stra73_0 strb73_0 ?_
    simp -dsimp -implicitDefEqProofs only [mra73_0,setPs_two,m73,sF73,ZA,↓reduceIte,ZB,ZC,ZJ,ZK,ZE,ZF,ZG,ZH,ZI,reduceCtorEq,ZD,mwV,↓mwD,mwU]
    refine ⟨rec, hj1.loop, hready, ?_⟩
    have hU0 := hj1.put (r2 := { rec with state := .busy }) (by omega) (by omega) (by omega) (by omega)
    have hkeep : ∀ k, k ≠ w3.heap.size + 1 → (u.putObj (w3.heap.size + 1) (.loop { rec with state := .busy })).heap[k]? = u.heap[k]? := fun k hk => World.putObj_heap_other hk
    have kaU := lba.put (D := w3.heap.size + 1) (by omega) (.loop { rec with state := .busy })
    have kbU := lbb.put (D := w3.heap.size + 1) (by omega) (.loop { rec with state := .busy })
    have hsU : (u.putObj (w3.heap.size + 1) (.loop { rec with state := .busy })).heap.size = u.heap.size := World.putObj_size
    generalize u.putObj (w3.heap.size + 1) _ = U at *
    have hst := pairs_step hne
    have hlen := tl_len hne
    -- a round's end
    have on : ∀ {F : World} {v2 : Value} {f : Fl} {s : Value}, JoS w F w3.heap.size (w3.heap.size + 1) { rec with state := .busy } (w.heap.size + 2) (w.heap.size + 3) a.m v2 (acc ++ [(f, s)]) → F.heap[w1.heap.size]? = U.heap[w1.heap.size]? → F.heap[w1.heap.size + 1]? = U.heap[w1.heap.size + 1]? →
     (∀ o, JoinR (pairs (tlP A' B') (tlP B' A')) o → JoinR (pairs A' B') (o.map (f :: ·))) →
     ∃ r2, F.heap[w3.heap.size + 1]? = some (Obj.loop r2) ∧ RoundB (JoJ w w3.heap.size (w3.heap.size + 1) rec (w.heap.size + 2) (w.heap.size + 3) a.m a.F b.F) (fun _ => False) (JoT w w3.heap.size (w.heap.size + 2) (w.heap.size + 3) a.m a.F b.F) A' B'
      w1.heap.size (w1.heap.size + 1) u (.returned (.bool true)) (F.putObj (w3.heap.size + 1) (.loop { r2 with state := .ready, pending := none })) := fun {F v2 f s} hF e1 e2 hstep => by
     have hp := hF.put (r2 := rec) (by omega) (by omega) (by omega) (by omega)
     refine ⟨_, hF.loop, .inl ⟨rfl, ⟨v2, acc ++ [(f, s)], ?_, fun o ho => ?_, fun x hx => hj3 x (tlP_mem hx), fun y hy => hj4 y (tlP_mem hy), by simp; omega⟩, ?_, ?_⟩⟩
     · have e : ({ rec with state := .ready, pending := none } : Loop) = rec := by rw [← hrec]; rfl
       show JoS w (F.putObj (w3.heap.size + 1) (.loop { rec with state := .ready, pending := none })) _ _ _ _ _ _ _ _
       rw [e]; exact hp
     · have := hK _ (hstep o ho)
       rw [Option.map_map] at this
       have e : ((fun x => List.map (fun x => x.fst) acc ++ x) ∘ fun x => f :: x) = fun x => List.map (fun x => x.fst) (acc ++ [(f, s)]) ++ x := by funext l; simp
       rw [e] at this
       exact this
     · rw [World.putObj_heap_other (by omega), e1, hkeep _ (by omega)]
     · rw [World.putObj_heap_other (by omega), e2, hkeep _ (by omega)]
    generalize hE : updO _ (some 7) _ = E1
    have m6 : E1 6 = px := by rw [← hE]; rfl
    have m7 : E1 7 = py := by rw [← hE]; rfl
    have m4 : E1 4 = .pointer (some ⟨w.heap.size + 2, 0, none⟩) := by rw [← hE]; exact q4
    clear hE
    have oddA := kaU.odd (by decide) (by decide)
    have oddB := kbU.odd (by decide) (by decide)
    have la := kaU.lt
    have lb := kbU.lt
    have U1 := hU0.k4.get (o := 1) rfl
    cases hy : hdP B' A' with
    | none =>
     rw [hy] at hpy
     obtain rfl : py = .pointer none := hpy
     obtain ⟨x, hxx⟩ := hd_some hne hy
     rw [hxx] at hpx
     obtain ⟨bX, oX, rfl, hfX⟩ := hpx
     have vx := hj3 x (hdP_mem hxx)
     obtain ⟨sx, X0, X1, X2, X3, hsx⟩ := hfX.cells
     obtain ⟨ps, cs, rfl, _, _⟩ := hsx.shape
     have x0 := hU0.ext.cell X0
     have x1 := hU0.ext.cell X1
     have x2 := hU0.ext.cell X2
     have x3 := hU0.ext.cell X3
     simp -dsimp -implicitDefEqProofs only [mrb73_0,m7,m73,sF73,ZA,↓reduceIte,ZB,ZC,ZJ,ZK,ZE,ZF,ZG,ZH,ZI,reduceCtorEq,ZD,mwV,↓mwD,mwU]
     refine mwpB_draw (fun w' => w'.cell? ⟨w.heap.size + 2, 1, none⟩ = some v ∧ w'.cell? ⟨bX, oX, none⟩ = some (.int .i64 x.key) ∧ w'.cell? ⟨bX, oX + 1, none⟩ = some (.int .i64 x.c.k) ∧ w'.cell? ⟨bX, oX + 2, none⟩ = some (.int .i64 x.c.d) ∧ w'.cell? ⟨bX, oX + 3, none⟩ = some (.slice ps x.c.L.length cs)) ⟨U1, x0, x1, x2, x3⟩ ?_
     simp -dsimp -implicitDefEqProofs only [m4,m6,m73,sF73,ZA,↓reduceIte,ZB,ZC,ZJ,ZK,ZE,ZF,ZG,ZH,ZI,reduceCtorEq,ZD,mwV,↓mwD,mwU]
     refine softB_load (v := v) (fun w' hw => ?_) ?_
     · simp -dsimp -implicitDefEqProofs only [m4,hw.1,m73,sF73,ZA,↓reduceIte,ZB,ZC,ZJ,ZK,ZE,ZF,ZG,ZH,ZI,reduceCtorEq,ZD,mwV,↓mwD,mwU]
     simp -dsimp -implicitDefEqProofs only [m4,m6,m73,sF73,ZA,↓reduceIte,ZB,ZC,ZJ,ZK,ZE,ZF,ZG,ZH,ZI,reduceCtorEq,ZD,mwV,↓mwD,mwU]
     refine softB_load (v := .int .i64 x.key) (fun w' hw => ?_) ?_
     · simp -dsimp -implicitDefEqProofs only [m6,hw.2.1,m73,sF73,ZA,↓reduceIte,ZB,ZC,ZJ,ZK,ZE,ZF,ZG,ZH,ZI,reduceCtorEq,ZD,mwV,↓mwD,mwU]
     simp -dsimp -implicitDefEqProofs only [m4,m6,m73,sF73,ZA,↓reduceIte,ZB,ZC,ZJ,ZK,ZE,ZF,ZG,ZH,ZI,reduceCtorEq,ZD,mwV,↓mwD,mwU]
     refine softB_load (v := .agg #[.int .i64 x.c.k, .int .i64 x.c.d, .slice ps x.c.L.length cs]) (fun w' hw => ?_) ?_
     · obtain ⟨_, _, h1, h2, h3⟩ := hw
       simp -dsimp -implicitDefEqProofs only [m6,h1,h2,h3,m73,sF73,ZA,↓reduceIte,ZB,ZC,ZJ,ZK,ZE,ZF,ZG,ZH,ZI,reduceCtorEq,ZD,mwV,↓mwD,mwU]
     simp -dsimp -implicitDefEqProofs only [m4,m6,m73,sF73,ZA,↓reduceIte,ZB,ZC,ZJ,ZK,ZE,ZF,ZG,ZH,ZI,reduceCtorEq,ZD,mwV,↓mwD,mwU]
     refine (own_c x.c _ U.drew (hsx.ext (hU0.ext.trans (Ext.drew _))) (by have := valid_len vx; omega)).use ?_
     rintro r U1' ⟨hx5, s', rfl, hown⟩
     obtain ⟨_, qs, cq, rfl⟩ := own_shape hown
     have hxU : Ext U U1' := (Ext.drew U).trans hx5
     refine ⟨⟨hxU.cell U1, hxU.cell x0, hxU.cell x1, hxU.cell x2, hxU.cell x3⟩, ?_⟩
     simp -dsimp -implicitDefEqProofs only [m4,m6,chV,bv_fl,bs_fl x (.slice qs x.c.L.length cq),m73,sF73,ZA,↓reduceIte,ZB,ZC,ZJ,ZK,ZE,ZF,ZG,ZH,ZI,reduceCtorEq,ZD,mwV,↓mwD,mwU]
     refine ⟨⟨cell_old (hxU.cell U1) _, cell_old (hxU.cell x0) _, cell_old (hxU.cell x1) _, cell_old (hxU.cell x2) _, cell_old (hxU.cell x3) _⟩, ?_⟩
     obtain ⟨v2, u2, happ, hown2, hg2⟩ := append_fl (Own.ext hU0.own hxU) x (.slice qs x.c.L.length cq) rfl (by omega) (hU0.ext.trans hxU).size
     refine appB.mk happ ?_
     obtain ⟨hx2, k42, hF, hkp⟩ := hU0.push hxU (by omega) (by omega) (Own.mono hown (by have := hU0.ext.size; simpa using this)) hown2 hg2
     have kc := k42.get (o := 1) rfl
     have kf := k42.frozen 1
     obtain ⟨q2, n2, c2, rfl⟩ := own_slice hown2
     refine ⟨⟨kc, hx2.cell X0, hx2.cell X1, hx2.cell X2, hx2.cell X3⟩, ?_⟩
     simp -dsimp -implicitDefEqProofs only [m4,kc,kf,m73,sF73,ZA,↓reduceIte,ZB,ZC,ZJ,ZK,ZE,ZF,ZG,ZH,ZI,reduceCtorEq,ZD,mwV,↓mwD,mwU]
     refine on hF (hkp _ la (by omega) oddA) (hkp _ lb (by omega) oddB) (fun o ho => ?_)
     rw [hst, hxx, hy]
     exact ⟨o, ho, rfl⟩
    | some y =>
     rw [hy] at hpy
     obtain ⟨bY, oY, rfl, hfY⟩ := hpy
     cases hxx : hdP A' B' with
     | none =>
      rw [hxx] at hpx
      obtain rfl : px = .pointer none := hpx
      have vy := hj4 y (hdP_mem hy)
      obtain ⟨sx, X0, X1, X2, X3, hsx⟩ := hfY.cells
      obtain ⟨ps, cs, rfl, _, _⟩ := hsx.shape
      have x0 := hU0.ext.cell X0
      have x1 := hU0.ext.cell X1
      have x2 := hU0.ext.cell X2
      have x3 := hU0.ext.cell X3
      simp -dsimp -implicitDefEqProofs only [mrb73_0,m7,m6,m73,sF73,ZA,↓reduceIte,ZB,ZC,ZJ,ZK,ZE,ZF,ZG,ZH,ZI,reduceCtorEq,ZD,mwV,↓mwD,mwU]
      refine mwpB_draw (fun w' => w'.cell? ⟨w.heap.size + 2, 1, none⟩ = some v ∧ w'.cell? ⟨bY, oY, none⟩ = some (.int .i64 y.key) ∧ w'.cell? ⟨bY, oY + 1, none⟩ = some (.int .i64 y.c.k) ∧ w'.cell? ⟨bY, oY + 2, none⟩ = some (.int .i64 y.c.d) ∧ w'.cell? ⟨bY, oY + 3, none⟩ = some (.slice ps y.c.L.length cs)) ⟨U1, x0, x1, x2, x3⟩ ?_
      simp -dsimp -implicitDefEqProofs only [m4,m7,m73,sF73,ZA,↓reduceIte,ZB,ZC,ZJ,ZK,ZE,ZF,ZG,ZH,ZI,reduceCtorEq,ZD,mwV,↓mwD,mwU]
      refine softB_load (v := v) (fun w' hw => ?_) ?_
      · simp -dsimp -implicitDefEqProofs only [m4,hw.1,m73,sF73,ZA,↓reduceIte,ZB,ZC,ZJ,ZK,ZE,ZF,ZG,ZH,ZI,reduceCtorEq,ZD,mwV,↓mwD,mwU]
      simp -dsimp -implicitDefEqProofs only [m4,m7,m73,sF73,ZA,↓reduceIte,ZB,ZC,ZJ,ZK,ZE,ZF,ZG,ZH,ZI,reduceCtorEq,ZD,mwV,↓mwD,mwU]
      refine softB_load (v := .int .i64 y.key) (fun w' hw => ?_) ?_
      · simp -dsimp -implicitDefEqProofs only [m7,hw.2.1,m73,sF73,ZA,↓reduceIte,ZB,ZC,ZJ,ZK,ZE,ZF,ZG,ZH,ZI,reduceCtorEq,ZD,mwV,↓mwD,mwU]
      simp -dsimp -implicitDefEqProofs only [m4,m7,m73,sF73,ZA,↓reduceIte,ZB,ZC,ZJ,ZK,ZE,ZF,ZG,ZH,ZI,reduceCtorEq,ZD,mwV,↓mwD,mwU]
      refine softB_load (v := .agg #[.int .i64 y.c.k, .int .i64 y.c.d, .slice ps y.c.L.length cs]) (fun w' hw => ?_) ?_
      · obtain ⟨_, _, h1, h2, h3⟩ := hw
        simp -dsimp -implicitDefEqProofs only [m7,h1,h2,h3,m73,sF73,ZA,↓reduceIte,ZB,ZC,ZJ,ZK,ZE,ZF,ZG,ZH,ZI,reduceCtorEq,ZD,mwV,↓mwD,mwU]
      simp -dsimp -implicitDefEqProofs only [m4,m7,m73,sF73,ZA,↓reduceIte,ZB,ZC,ZJ,ZK,ZE,ZF,ZG,ZH,ZI,reduceCtorEq,ZD,mwV,↓mwD,mwU]
      refine (own_c y.c _ U.drew (hsx.ext (hU0.ext.trans (Ext.drew _))) (by have := valid_len vy; omega)).use ?_
      rintro r U1' ⟨hx5, s', rfl, hown⟩
      obtain ⟨_, qs, cq, rfl⟩ := own_shape hown
      have hxU : Ext U U1' := (Ext.drew U).trans hx5
      refine ⟨⟨hxU.cell U1, hxU.cell x0, hxU.cell x1, hxU.cell x2, hxU.cell x3⟩, ?_⟩
      simp -dsimp -implicitDefEqProofs only [m4,m7,chV,bv_fl,bs_fl y (.slice qs y.c.L.length cq),m73,sF73,ZA,↓reduceIte,ZB,ZC,ZJ,ZK,ZE,ZF,ZG,ZH,ZI,reduceCtorEq,ZD,mwV,↓mwD,mwU]
      refine ⟨⟨cell_old (hxU.cell U1) _, cell_old (hxU.cell x0) _, cell_old (hxU.cell x1) _, cell_old (hxU.cell x2) _, cell_old (hxU.cell x3) _⟩, ?_⟩
      obtain ⟨v2, u2, happ, hown2, hg2⟩ := append_fl (Own.ext hU0.own hxU) y (.slice qs y.c.L.length cq) rfl (by omega) (hU0.ext.trans hxU).size
      refine appB.mk happ ?_
      obtain ⟨hx2, k42, hF, hkp⟩ := hU0.push hxU (by omega) (by omega) (Own.mono hown (by have := hU0.ext.size; simpa using this)) hown2 hg2
      have kc := k42.get (o := 1) rfl
      have kf := k42.frozen 1
      obtain ⟨q2, n2, c2, rfl⟩ := own_slice hown2
      refine ⟨⟨kc, hx2.cell X0, hx2.cell X1, hx2.cell X2, hx2.cell X3⟩, ?_⟩
      simp -dsimp -implicitDefEqProofs only [m4,kc,kf,m73,sF73,ZA,↓reduceIte,ZB,ZC,ZJ,ZK,ZE,ZF,ZG,ZH,ZI,reduceCtorEq,ZD,mwV,↓mwD,mwU]
      refine on hF (hkp _ la (by omega) oddA) (hkp _ lb (by omega) oddB) (fun o ho => ?_)
      rw [hst, hxx, hy]
      exact ⟨o, ho, rfl⟩
     | some x =>
      rw [hxx] at hpx
      obtain ⟨bX, oX, rfl, hfX⟩ := hpx
      have vx := hj3 x (hdP_mem hxx)
      have vy := hj4 y (hdP_mem hy)
      obtain ⟨sx, X0, X1, X2, X3, hsx⟩ := hfX.cells
      obtain ⟨sy, Y0, Y1, Y2, Y3, hsy⟩ := hfY.cells
      obtain ⟨ps, cs, rfl, _, _⟩ := hsx.shape
      obtain ⟨pt, ct, rfl, _, _⟩ := hsy.shape
      have x1 := hU0.ext.cell X1
      have x2 := hU0.ext.cell X2
      have x3 := hU0.ext.cell X3
      have y1 := hU0.ext.cell Y1
      have y2 := hU0.ext.cell Y2
      have y3 := hU0.ext.cell Y3
      simp -dsimp -implicitDefEqProofs only [mrb73_0,m7,m6,m73,sF73,ZA,↓reduceIte,ZB,ZC,ZJ,ZK,ZE,ZF,ZG,ZH,ZI,reduceCtorEq,ZD,mwV,↓mwD,mwU]
      refine mwpB_mid (fun e' ds w' => e' 6 = .pointer (some ⟨bX, oX, none⟩) ∧ e' 7 = .pointer (some ⟨bY, oY, none⟩) ∧ e' 4 = .pointer (some ⟨w.heap.size + 2, 0, none⟩) ∧ ds = [] ∧ Ext U w' ∧ ∃ o b8, Met x.c y.c o ∧ e' 8 = .pointer (some ⟨b8, 0, none⟩) ∧ U.heap.size ≤ b8 ∧ match o with
       | none => e' 9 = .bool false
       | some c => e' 9 = .bool true ∧ ∃ s, Bk w' b8 [.int .i64 c.k, .int .i64 c.d, s] 35 ∧ w'.ownsRow U.heap.size 3 1 s c.L.length (ints c.L)) ?_ ?_
      · refine mwpB_drawE ?_
        have EA : Ext U.drew (U.drew.alloc (.cells #[.int .i64 0, .int .i64 0, .slice none 0 0] 35)) := Ext.alloc _ _
        have xE : ∀ {u'}, Ext U.drew u' → SlI u' (.slice ps x.c.L.length cs) x.c.L ∧ SlI u' (.slice pt y.c.L.length ct) y.c.L := fun h => ⟨hsx.ext ((hU0.ext.trans (Ext.drew U)).trans h), hsy.ext ((hU0.ext.trans (Ext.drew U)).trans h)⟩
        simp -dsimp -implicitDefEqProofs only [m4,m7,m6,x1,x2,x3,y1,y2,y3,planEB_two,EA,m73,sF73,ZA,↓reduceIte,ZB,ZC,ZJ,ZK,ZE,ZF,ZG,ZH,ZI,reduceCtorEq,ZD,mwV,↓mwD,mwU]
        refine ⟨?_, ?_⟩
        · refine (meet_c x.c y.c _ _ U.drew vx vy (xE (Ext.refl _)).1 (xE (Ext.refl _)).2).use ?_
          rintro r u1 ⟨hx5, o, hmet, ho⟩
          have E2 : Ext U.drew (u1.alloc (.cells #[.int .i64 0, .int .i64 0, .slice none 0 0] 35)) := hx5.trans (Ext.alloc _ _)
          cases o with
          | none =>
           simp only at ho
           subst ho
           simp -dsimp -implicitDefEqProofs only [m4,m7,m6,hx5,E2,m73,sF73,ZA,↓reduceIte,ZB,ZC,ZJ,ZK,ZE,ZF,ZG,ZH,ZI,reduceCtorEq,ZD,mwV,↓mwD,mwU]
           exact ⟨(Ext.drew U).trans (hx5.trans (Ext.alloc _ _)), none, _, hmet, rfl, hx5.size, trivial⟩
          | some c =>
           obtain ⟨v, rfl, hown⟩ := ho
           obtain ⟨_, qv, cv, rfl⟩ := own_shape hown
           simp -dsimp -implicitDefEqProofs only [m4,m7,m6,hx5,E2,chV,m73,sF73,ZA,↓reduceIte,ZB,ZC,ZJ,ZK,ZE,ZF,ZG,ZH,ZI,reduceCtorEq,ZD,mwV,↓mwD,mwU]
           exact ⟨(Ext.drew U).trans (hx5.trans (Ext.alloc _ _)), some c, _, hmet, rfl, hx5.size, _, Bk.new _ _ _, Own.mono (Own.ext hown (Ext.alloc _ _)) (Nat.le_refl _)⟩
        · refine (meet_c x.c y.c _ _ _ vx vy (xE EA).1 (xE EA).2).use ?_
          rintro r u1 ⟨hx5, o, hmet, ho⟩
          have E2 := EA.trans hx5
          have hB := (Bk.new U.drew [.int .i64 0, .int .i64 0, .slice none 0 0] 35).ext hx5
          cases o with
          | none =>
           simp only at ho
           subst ho
           have hP := put3 hB (.int .i64 0) (.int .i64 0) (.slice none 0 0)
           obtain ⟨z0', c0⟩ := hP.c0
           obtain ⟨z1', c1⟩ := hP.c1
           obtain ⟨z2', c2⟩ := hP.c2
           have z0 := hP.z0
           have z1 := hP.z1
           have z2 := hP.z2
           simp -dsimp -implicitDefEqProofs only [m4,m7,m6,E2,c0,c1,c2,z0,z1,z2,m73,sF73,ZA,↓reduceIte,ZB,ZC,ZJ,ZK,ZE,ZF,ZG,ZH,ZI,reduceCtorEq,ZD,mwV,↓mwD,mwU]
           exact ⟨((Ext.drew U).trans E2).set3 (Nat.le_refl _) _ _ _, none, _, hmet, rfl, Nat.le_refl _, trivial⟩
          | some c =>
           obtain ⟨v, rfl, hown⟩ := ho
           obtain ⟨_, qv, cv, rfl⟩ := own_shape hown
           have hP := put3 hB (.int .i64 c.k) (.int .i64 c.d) (.slice qv c.L.length cv)
           obtain ⟨z0', c0⟩ := hP.c0
           obtain ⟨z1', c1⟩ := hP.c1
           obtain ⟨z2', c2⟩ := hP.c2
           have z0 := hP.z0
           have z1 := hP.z1
           have z2 := hP.z2
           simp -dsimp -implicitDefEqProofs only [m4,m7,m6,E2,chV,c0,c1,c2,z0,z1,z2,m73,sF73,ZA,↓reduceIte,ZB,ZC,ZJ,ZK,ZE,ZF,ZG,ZH,ZI,reduceCtorEq,ZD,mwV,↓mwD,mwU]
           have hl := World.ownsRow.lt hown
           exact ⟨((Ext.drew U).trans E2).set3 (Nat.le_refl _) _ _ _, some c, _, hmet, rfl, Nat.le_refl _, _, hP.bk, Own.mono (Own.set3 hown (by rw [World.size_alloc]; omega) _ _ _) (by rw [World.size_alloc]; exact Nat.le_succ _)⟩
      · rintro e' ds w5 ⟨m6, m7, m4, rfl, hx5, o, b8, hmet, m8, hb8, ho⟩
        have hU5 := hU0.next hx5
        have hbs13 : buildV ZP 124 [(0, .int .i64 13)] = some (.agg #[.int .i64 13]) := by kernel_rfl
        cases o with
        | none =>
         simp only at ho
         simp -dsimp -implicitDefEqProofs only [m4,m7,m6,ho,hbs13,m73,sF73,ZA,↓reduceIte,ZB,ZC,ZJ,ZK,ZE,ZF,ZG,ZH,ZI,reduceCtorEq,ZD,mwV,↓mwD,mwU]
         refine .inr (.inr ⟨_, rfl, rfl, hU5.ext, hU5.dead, ⟨v, hU5.k4⟩, hU5.k5, ?_⟩)
         have := hK none (by rw [hst, hxx, hy]; exact ⟨none, hmet, rfl⟩)
         exact this
        | some c =>
         obtain ⟨m9, s5, k8, hown⟩ := ho
         obtain ⟨_, qs, cq, rfl⟩ := own_shape hown
         have U5 := hU5.k4.get (o := 1) rfl
         have t0 := k8.get (o := 0) rfl
         have t1 := k8.get (o := 1) rfl
         have t2 := k8.get (o := 2) rfl
         simp -dsimp -implicitDefEqProofs only [m4,m7,m6,m9,m73,sF73,ZA,↓reduceIte,ZB,ZC,ZJ,ZK,ZE,ZF,ZG,ZH,ZI,reduceCtorEq,ZD,mwV,↓mwD,mwU]
         refine mwpB_draw (fun w' => w'.cell? ⟨w.heap.size + 2, 1, none⟩ = some v ∧ w'.cell? ⟨bX, oX, none⟩ = some (.int .i64 x.key) ∧ w'.cell? ⟨b8, 0, none⟩ = some (.int .i64 c.k) ∧ w'.cell? ⟨b8, 1, none⟩ = some (.int .i64 c.d) ∧ w'.cell? ⟨b8, 2, none⟩ = some (.slice qs c.L.length cq)) ⟨U5, hU5.ext.cell X0, t0, t1, t2⟩ ?_
         simp -dsimp -implicitDefEqProofs only [m4,m6,m73,sF73,ZA,↓reduceIte,ZB,ZC,ZJ,ZK,ZE,ZF,ZG,ZH,ZI,reduceCtorEq,ZD,mwV,↓mwD,mwU]
         refine softB_load (v := v) (fun w' hw => ?_) ?_
         · simp -dsimp -implicitDefEqProofs only [m4,hw.1,m73,sF73,ZA,↓reduceIte,ZB,ZC,ZJ,ZK,ZE,ZF,ZG,ZH,ZI,reduceCtorEq,ZD,mwV,↓mwD,mwU]
         simp -dsimp -implicitDefEqProofs only [m4,m6,m73,sF73,ZA,↓reduceIte,ZB,ZC,ZJ,ZK,ZE,ZF,ZG,ZH,ZI,reduceCtorEq,ZD,mwV,↓mwD,mwU]
         refine softB_load (v := .int .i64 x.key) (fun w' hw => ?_) ?_
         · simp -dsimp -implicitDefEqProofs only [m6,hw.2.1,m73,sF73,ZA,↓reduceIte,ZB,ZC,ZJ,ZK,ZE,ZF,ZG,ZH,ZI,reduceCtorEq,ZD,mwV,↓mwD,mwU]
         simp -dsimp -implicitDefEqProofs only [m4,m6,m73,sF73,ZA,↓reduceIte,ZB,ZC,ZJ,ZK,ZE,ZF,ZG,ZH,ZI,reduceCtorEq,ZD,mwV,↓mwD,mwU]
         refine softB_load (v := .agg #[.int .i64 c.k, .int .i64 c.d, .slice qs c.L.length cq]) (fun w' hw => ?_) ?_
         · obtain ⟨_, _, h1, h2, h3⟩ := hw
           simp -dsimp -implicitDefEqProofs only [m8,h1,h2,h3,m73,sF73,ZA,↓reduceIte,ZB,ZC,ZJ,ZK,ZE,ZF,ZG,ZH,ZI,reduceCtorEq,ZD,mwV,↓mwD,mwU]
         have bsc : buildS ZP 22 1 [(0, .agg #[.int .i64 x.key, .int .i64 c.k, .int .i64 c.d, .slice qs c.L.length cq])] = _ := bs_fl ⟨x.key, c⟩ (.slice qs c.L.length cq)
         simp -dsimp -implicitDefEqProofs only [m4,m6,bv_fl,bsc,m73,sF73,ZA,↓reduceIte,ZB,ZC,ZJ,ZK,ZE,ZF,ZG,ZH,ZI,reduceCtorEq,ZD,mwV,↓mwD,mwU]
         have hxd : Ext U w5.drew := hx5.trans (Ext.drew _)
         refine ⟨⟨cell_old U5 _, cell_old (hU5.ext.cell X0) _, cell_old t0 _, cell_old t1 _, cell_old t2 _⟩, ?_⟩
         obtain ⟨v2, u2, happ, hown2, hg2⟩ := append_fl (Own.ext hU0.own hxd) ⟨x.key, c⟩ (.slice qs c.L.length cq) rfl (by omega) (hU0.ext.trans hxd).size
         refine appB.mk happ ?_
         obtain ⟨hx2, k42, hF, hkp⟩ := hU0.push (f := ⟨x.key, c⟩) hxd (by omega) (by omega) (Own.mono (Own.ext hown (Ext.drew _)) hU0.ext.size) hown2 hg2
         have kc := k42.get (o := 1) rfl
         have kf := k42.frozen 1
         obtain ⟨q2, n2, c2, rfl⟩ := own_slice hown2
         have k8' : Bk u2 b8 [.int .i64 c.k, .int .i64 c.d, .slice qs c.L.length cq] 35 := by
          unfold Bk
          rw [hg2.block b8 (by rw [World.size_alloc]; have := (k8.ext (Ext.drew w5)).lt; omega) (fun e => by have := World.ownsRow.lt hU0.own _ e.symm; omega)]
          exact (k8.ext (Ext.drew w5)).ext (Ext.alloc _ _)
         refine ⟨⟨kc, hx2.cell X0, k8'.get rfl, k8'.get rfl, k8'.get rfl⟩, ?_⟩
         simp -dsimp -implicitDefEqProofs only [m4,kc,kf,m73,sF73,ZA,↓reduceIte,ZB,ZC,ZJ,ZK,ZE,ZF,ZG,ZH,ZI,reduceCtorEq,ZD,mwV,↓mwD,mwU]
         refine on hF (hkp _ la (by omega) oddA) (hkp _ lb (by omega) oddB) (fun o ho => ?_)
         rw [hst, hxx, hy]
         exact ⟨some c, hmet, o, ho, rfl⟩
 · refine mwpAt_cut (fun e ds w' => False) ?_ (fun _ _ _ h => h.elim)
   simp -dsimp -implicitDefEqProofs only [k2,k3,k4,k5,A0,B0,hm,hbs,m73,sF73,ZA,↓reduceIte,ZB,ZC,ZJ,ZK,ZE,ZF,ZG,ZH,ZI,reduceCtorEq,ZD,mwV,↓mwD,mwU]
   exact join_stop (n := 10) (by omega) k4 k5 C4 C5 (fun w' hch => ⟨_, rfl, hch.ext hx (fun b hb => by rcases hb with rfl | rfl <;> omega), by rw [if_neg hm]⟩)
theorem join_r (a b : Fm) (sa sb : Value) (w : World) (hA : SlF w sa a.F) (hB : SlF w sb b.F) (va : a.valid = true) (vb : b.valid = true) : Rets ZP 73 #[fmV a sa, fmV b sb] w (JoinQ a b w) := by
 unfold Rets
 exact join_c a b sa sb w hA hB va vb
def JoinF (a b : Fm) (w : World) (r : Value) (w' : World) : Prop := Ext w w' ∧ if (a.valid && b.valid) = true then JoinQ a b w r w' else r = .tuple #[.agg #[.int .i64 0, .slice none 0 0], .int .i64 1]
end Go.Proofs.YthcdnjbhhaonhaaGreatDoor
/- Layer 02: Same, of the program and of the reference. -/
namespace Go.Proofs.YthcdnjbhhaonhaaGreatDoor
open Go.RowKit
open Nat renaming reduceEqDiff → ZA, reduceAdd → ZB, reduceMul → ZC, reduceSub → ZD
open Int renaming reduceToNat → ZE, reduceEq → ZF, reduceLT → ZG, reduceLE → ZH, reduceNeg → ZI
open Go.Value renaming oneCell' → ZK, cells → ZJ
open Go.Proofs.Tryz renaming prog → ZP
set_option linter.unusedSimpArgs false
def eqCh (a b : Ch) : Bool := decide (a.k = b.k) && (decide (a.d = b.d) && decide (a.L = b.L))
def eqFs : List Fl → List Fl → Bool
 | [], [] => true
 | x :: A, y :: B => decide (x.key = y.key) && (eqCh x.c y.c && eqFs A B)
 | _, _ => false
def eqFm (a b : Fm) : Bool := decide (a.m = b.m) && eqFs a.F b.F
theorem eqCh_refl (a : Ch) : eqCh a a = true := by simp [eqCh]
theorem eqFs_refl : ∀ A : List Fl, eqFs A A = true
 | [] => rfl
 | x :: A => by simp [eqFs, eqCh_refl, eqFs_refl A]
theorem eqFm_refl (a : Fm) : eqFm a a = true := by simp [eqFm, eqFs_refl]
theorem eqFs_len : ∀ {A B : List Fl}, A.length ≠ B.length → eqFs A B = false
 | [], [], h => by simp at h
 | [], y :: B, _ => rfl
 | x :: A, [], _ => rfl
 | x :: A, y :: B, h => by
  rw [eqFs, eqFs_len (A := A) (B := B) (by simpa using h)]; simp
theorem eqFs_drop {A B : List Fl} {k : Nat} (h : k < A.length) (h' : k < B.length) : eqFs (A.drop k) (B.drop k) = (decide (A[k].key = B[k].key) && (eqCh A[k].c B[k].c && eqFs (A.drop (k + 1)) (B.drop (k + 1)))) := by
 rw [List.drop_eq_getElem_cons h, List.drop_eq_getElem_cons h']; rfl
theorem drop_eq_iff {xs ys : List Int} {k : Nat} (h : k < xs.length) (h' : k < ys.length) : (xs.drop k = ys.drop k) ↔ (xs[k] = ys[k] ∧ xs.drop (k + 1) = ys.drop (k + 1)) := by
 rw [List.drop_eq_getElem_cons h, List.drop_eq_getElem_cons h', List.cons.injEq]
def flA (f : Fl) (s : Value) : Value := .agg #[.int .i64 f.key, .int .i64 f.c.k, .int .i64 f.c.d, s]
theorem rsame_c (a b : Ch) (sa sb : Value) (w : World) (ha : SlI w sa a.L) (hb : SlI w sb b.L) : Rets ZP 25 #[chV a sa, chV b sb] w fun r w' => r = .bool (eqCh a b) ∧ Ext w w' := by
 obtain ⟨pa, ca, rfl, hca1, hca2⟩ := ha.shape
 obtain ⟨pb, cb, rfl, hcb1, hcb2⟩ := hb.shape
 obtain ⟨W, hW, BA, BB, hxW⟩ : ∃ W, W = (w.alloc (.cells #[.int .i64 a.k, .int .i64 a.d, .slice pa a.L.length ca] 35)).alloc (.cells #[.int .i64 b.k, .int .i64 b.d, .slice pb b.L.length cb] 35) ∧ Bk W w.heap.size [.int .i64 a.k, .int .i64 a.d, .slice pa a.L.length ca] 35 ∧ Bk W (w.heap.size + 1) [.int .i64 b.k, .int .i64 b.d, .slice pb b.L.length cb] 35 ∧ Ext w W := by
  refine ⟨_, rfl, (Bk.new w _ _).ext (Ext.alloc _ _), ?_, (Ext.alloc _ _).trans (Ext.alloc _ _)⟩
  have := Bk.new (w.alloc (.cells #[.int .i64 a.k, .int .i64 a.d, .slice pa a.L.length ca] 35)) [.int .i64 b.k, .int .i64 b.d, .slice pb b.L.length cb] 35
  rw [World.size_alloc] at this
  exact this
 have A0 := BA.get (o := 0) rfl
 have A1 := BA.get (o := 1) rfl
 have A2 := BA.get (o := 2) rfl
 have B0 := BB.get (o := 0) rfl
 have B1 := BB.get (o := 1) rfl
 have B2 := BB.get (o := 2) rfl
 refine en25 ?_
 by_cases hk : ¬ a.k = b.k
 · have dk : decide (a.k = b.k) = false := by simp [hk]
   simp -dsimp -implicitDefEqProofs only [chV,World.size_alloc,← hW,A0,A1,A2,B0,B1,B2,dk,m25,sF25,ZA,↓reduceIte,ZB,ZC,ZJ,ZK,ZE,ZF,ZG,ZH,ZI,reduceCtorEq,ZD,mwV,↓mwD,mwU]
   exact ⟨by simp [eqCh, hk], hxW⟩
 replace hk := Decidable.not_not.1 hk
 have dk : decide (a.k = b.k) = true := by simp [hk]
 by_cases hd : ¬ a.d = b.d
 · have dd : decide (a.d = b.d) = false := by simp [hd]
   simp -dsimp -implicitDefEqProofs only [chV,World.size_alloc,← hW,A0,A1,A2,B0,B1,B2,dk,dd,m25,sF25,ZA,↓reduceIte,ZB,ZC,ZJ,ZK,ZE,ZF,ZG,ZH,ZI,reduceCtorEq,ZD,mwV,↓mwD,mwU]
   exact ⟨by simp [eqCh, hd], hxW⟩
 replace hd := Decidable.not_not.1 hd
 have dd : decide (a.d = b.d) = true := by simp [hd]
 by_cases hl : ¬ a.L.length = b.L.length
 · have dl : decide ((a.L.length : Int) = (b.L.length : Int)) = false := by simp; omega
   simp -dsimp -implicitDefEqProofs only [chV,World.size_alloc,← hW,A0,A1,A2,B0,B1,B2,dk,dd,dl,m25,sF25,ZA,↓reduceIte,ZB,ZC,ZJ,ZK,ZE,ZF,ZG,ZH,ZI,reduceCtorEq,ZD,mwV,↓mwD,mwU]
   exact ⟨by have : ¬ a.L = b.L := fun h => hl (by rw [h])
             simp [eqCh, this], hxW⟩
 replace hl := Decidable.not_not.1 hl
 have dl : decide ((a.L.length : Int) = (b.L.length : Int)) = true := by simp [hl]
 have hv : eqCh a b = decide (a.L = b.L) := by simp [eqCh, hk, hd]
 rw [hv]
 simp -dsimp -implicitDefEqProofs only [chV,World.size_alloc,← hW,A0,A1,A2,B0,B1,B2,dk,dd,dl,m25,sF25,ZA,↓reduceIte,ZB,ZC,ZJ,ZK,ZE,ZF,ZG,ZH,ZI,reduceCtorEq,ZD,mwV,↓mwD,mwU]
 refine mwpB_loop (fun e ds w' => ∃ i : Nat, i ≤ a.L.length ∧ e 5 = .int .i64 i ∧ e 2 = .pointer (some ⟨w.heap.size, 0, none⟩) ∧ e 3 = .pointer (some ⟨w.heap.size + 1, 0, none⟩) ∧ ds = [] ∧ Ext W w' ∧ (a.L = b.L ↔ a.L.drop i = b.L.drop i)) (fun e _ => a.L.length - (intOf (e 5)).toNat) ?_ ?_
 · simp -dsimp -implicitDefEqProofs only [World.size_alloc,m25,sF25,ZA,↓reduceIte,ZB,ZC,ZJ,ZK,ZE,ZF,ZG,ZH,ZI,reduceCtorEq,ZD,mwV,↓mwD,mwU]
   exact ⟨0, by omega, rfl, Ext.refl _, Iff.rfl⟩
 · rintro e ds w1 ⟨i, hi, h5, h2, h3, rfl, hx, hiff⟩
   have a2 := (BA.ext hx).get (o := 2) rfl
   have b2 := (BB.ext hx).get (o := 2) rfl
   by_cases hlt : i < a.L.length
   · have hlt' : (i : Int) < (a.L.length : Int) := by omega
     have hltb : i < b.L.length := by omega
     obtain ⟨ba, oa, c1, hv1, _, _, hcA⟩ := ha.at (by intro h0; rw [h0] at hlt; simp at hlt)
     obtain ⟨bb, ob, c2, hv2, _, _, hcB⟩ := hb.at (by intro h0; rw [h0] at hltb; simp at hltb)
     simp only [Value.slice.injEq] at hv1 hv2
     obtain ⟨rfl, _, rfl⟩ := hv1
     obtain ⟨rfl, _, rfl⟩ := hv2
     have q1 := (hxW.trans hx).cell (hcA i hlt)
     have q2 := (hxW.trans hx).cell (hcB i hltb)
     have hb1 : (0 : Int) ≤ i ∧ (i : Int) < a.L.length := by omega
     have hb2 : (0 : Int) ≤ i ∧ (i : Int) < b.L.length := by omega
     have hw := w64_succ hlt (Nat.le_trans hca1 hca2)
     rw [drop_eq_iff hlt hltb] at hiff
     simp -dsimp -implicitDefEqProofs only [h5,h2,h3,a2,b2,hlt',m25,sF25,ZA,↓reduceIte,ZB,ZC,ZJ,ZK,ZE,ZF,ZG,ZH,ZI,reduceCtorEq,ZD,mwV,↓mwD,mwU]
     refine mwpB_drawE ?_
     have hxd := hx.trans (Ext.drew w1)
     by_cases he : a.L[i] = b.L[i]
     · have de : decide (a.L[i] = b.L[i]) = true := by simp [he]
       simp -dsimp -implicitDefEqProofs only [h5,h2,h3,a2,b2,hb1,hb2,and_self,q1,q2,de,hw,m25,sF25,ZA,↓reduceIte,ZB,ZC,ZJ,ZK,ZE,ZF,ZG,ZH,ZI,reduceCtorEq,ZD,mwV,↓mwD,mwU]
       exact ⟨⟨i + 1, by omega, rfl, hxd, hiff.trans ⟨fun h => h.2, fun h => ⟨he, h⟩⟩⟩, by simp only [intOf]; omega⟩
     · have de : decide (a.L[i] = b.L[i]) = false := by simp [he]
       simp -dsimp -implicitDefEqProofs only [h5,h2,h3,a2,b2,hb1,hb2,and_self,q1,q2,de,m25,sF25,ZA,↓reduceIte,ZB,ZC,ZJ,ZK,ZE,ZF,ZG,ZH,ZI,reduceCtorEq,ZD,mwV,↓mwD,mwU]
       exact ⟨by have : ¬ a.L = b.L := fun h => he (hiff.1 h).1
                 simp [this], hxW.trans hxd⟩
   · have hlt' : ¬ (i : Int) < (a.L.length : Int) := by omega
     simp -dsimp -implicitDefEqProofs only [h5,h2,h3,a2,b2,hlt',m25,sF25,ZA,↓reduceIte,ZB,ZC,ZJ,ZK,ZE,ZF,ZG,ZH,ZI,reduceCtorEq,ZD,mwV,↓mwD,mwU]
     rw [List.drop_of_length_le (by omega), List.drop_of_length_le (by omega)] at hiff
     exact ⟨by simp [hiff], hxW.trans hx⟩
theorem refSame_c (a b : Fm) (sa sb : Value) (w : World) (hA : SlF w sa a.F) (hB : SlF w sb b.F) : Rets ZP 15 #[fmV a sa, fmV b sb] w fun r w' => r = .bool (eqFm a b) ∧ Ext w w' := by
 obtain ⟨pa, ca, rfl, hc1, hc2⟩ := hA.shape
 obtain ⟨pb, cb, rfl, hc3, hc4⟩ := hB.shape
 obtain ⟨W, hW, A, B, hx⟩ : ∃ W, W = (w.alloc (.cells #[.int .i64 a.m, .slice pa a.F.length ca] 24)).alloc (.cells #[.int .i64 b.m, .slice pb b.F.length cb] 24) ∧ Bk W w.heap.size [.int .i64 a.m, .slice pa a.F.length ca] 24 ∧ Bk W (w.heap.size + 1) [.int .i64 b.m, .slice pb b.F.length cb] 24 ∧ Ext w W := by
  refine ⟨_, rfl, (Bk.new w [.int .i64 a.m, .slice pa a.F.length ca] _).ext (Ext.alloc _ _), ?_, (Ext.alloc _ _).trans (Ext.alloc _ _)⟩
  have := Bk.new (w.alloc (.cells #[.int .i64 a.m, .slice pa a.F.length ca] 24)) [.int .i64 b.m, .slice pb b.F.length cb] 24
  rw [World.size_alloc] at this
  exact this
 have A0 := A.get (o := 0) rfl
 have A1 := A.get (o := 1) rfl
 have B0 := B.get (o := 0) rfl
 have B1 := B.get (o := 1) rfl
 refine en15 ?_
 by_cases hm : ¬ a.m = b.m
 · have dm : decide (a.m = b.m) = false := by simp [hm]
   simp -dsimp -implicitDefEqProofs only [fmV,World.size_alloc,← hW,A0,A1,B0,B1,dm,m15,sF15,ZA,↓reduceIte,ZB,ZC,ZJ,ZK,ZE,ZF,ZG,ZH,ZI,reduceCtorEq,ZD,mwV,↓mwD,mwU]
   exact ⟨by simp [eqFm, hm], hx⟩
 replace hm := Decidable.not_not.1 hm
 have dm : decide (a.m = b.m) = true := by simp [hm]
 by_cases hl : ¬ a.F.length = b.F.length
 · have dl : decide ((a.F.length : Int) = (b.F.length : Int)) = false := by simp; omega
   simp -dsimp -implicitDefEqProofs only [fmV,World.size_alloc,← hW,A0,A1,B0,B1,dm,dl,m15,sF15,ZA,↓reduceIte,ZB,ZC,ZJ,ZK,ZE,ZF,ZG,ZH,ZI,reduceCtorEq,ZD,mwV,↓mwD,mwU]
   exact ⟨by simp [eqFm, eqFs_len hl], hx⟩
 replace hl := Decidable.not_not.1 hl
 have dl : decide ((a.F.length : Int) = (b.F.length : Int)) = true := by simp [hl]
 have hv : eqFm a b = eqFs a.F b.F := by simp [eqFm, hm]
 rw [hv]
 simp -dsimp -implicitDefEqProofs only [fmV,World.size_alloc,← hW,A0,A1,B0,B1,dm,dl,m15,sF15,ZA,↓reduceIte,ZB,ZC,ZJ,ZK,ZE,ZF,ZG,ZH,ZI,reduceCtorEq,ZD,mwV,↓mwD,mwU]
 refine mwpB_loop (fun e ds w' => ∃ i : Nat, i ≤ a.F.length ∧ e 5 = .int .i64 i ∧ e 2 = .pointer (some ⟨w.heap.size, 0, none⟩) ∧ e 3 = .pointer (some ⟨w.heap.size + 1, 0, none⟩) ∧ ds = [] ∧ Ext W w' ∧ eqFs a.F b.F = eqFs (a.F.drop i) (b.F.drop i)) (fun e _ => a.F.length - (intOf (e 5)).toNat) ?_ ?_
 · simp -dsimp -implicitDefEqProofs only [World.size_alloc,m15,sF15,ZA,↓reduceIte,ZB,ZC,ZJ,ZK,ZE,ZF,ZG,ZH,ZI,reduceCtorEq,ZD,mwV,↓mwD,mwU]
   exact ⟨0, by omega, rfl, Ext.refl _, rfl⟩
 · rintro e ds w1 ⟨i, hi, h5, h2, h3, rfl, hxx, heq⟩
   have a1 := (A.ext hxx).get (o := 1) rfl
   have b1 := (B.ext hxx).get (o := 1) rfl
   by_cases hlt : i < a.F.length
   · have hlt' : (i : Int) < (a.F.length : Int) := by omega
     have hltb : i < b.F.length := by omega
     have hx1 := hx.trans hxx
     obtain ⟨ba, oa, rfl, hfs⟩ := (hA.ext hx1).at (by intro h0; rw [h0] at hlt; simp at hlt)
     obtain ⟨bb, ob, rfl, hfs'⟩ := (hB.ext hx1).at (by intro h0; rw [h0] at hltb; simp at hltb)
     obtain ⟨s, q0, q1, q2, q3, hs⟩ := hfs.get hlt
     obtain ⟨s', r0, r1, r2, r3, hs'⟩ := hfs'.get hltb
     obtain ⟨ps, cs, rfl, _, _⟩ := hs.shape
     obtain ⟨ps', cs', rfl, _, _⟩ := hs'.shape
     have hb1 : (0 : Int) ≤ i ∧ (i : Int) < a.F.length := by omega
     have hb2 : (0 : Int) ≤ i ∧ (i : Int) < b.F.length := by omega
     have hw := w64_succ hlt (Nat.le_trans hc1 hc2)
     rw [eqFs_drop hlt hltb] at heq
     simp -dsimp -implicitDefEqProofs only [h5,h2,h3,a1,b1,hlt',m15,sF15,ZA,↓reduceIte,ZB,ZC,ZJ,ZK,ZE,ZF,ZG,ZH,ZI,reduceCtorEq,ZD,mwV,↓mwD,mwU]
     refine mwpB_drawE ?_
     have hxd := hxx.trans (Ext.drew w1)
     by_cases he : a.F[i].key = b.F[i].key
     · have de : decide (a.F[i].key = b.F[i].key) = true := by simp [he]
       simp -dsimp -implicitDefEqProofs only [h5,h2,h3,a1,b1,hb1,hb2,and_self,q0,q1,q2,q3,r0,r1,r2,r3,de,Nat.mul_comm i 4,m15,sF15,ZA,↓reduceIte,ZB,ZC,ZJ,ZK,ZE,ZF,ZG,ZH,ZI,reduceCtorEq,ZD,mwV,↓mwD,mwU]
       refine (rsame_c a.F[i].c b.F[i].c _ _ _ (hs.ext (Ext.drew _)) (hs'.ext (Ext.drew _))).use ?_
       rintro r w3 ⟨rfl, h4⟩
       cases hc : eqCh a.F[i].c b.F[i].c
       · simp -dsimp -implicitDefEqProofs only [h4,m15,sF15,ZA,↓reduceIte,ZB,ZC,ZJ,ZK,ZE,ZF,ZG,ZH,ZI,reduceCtorEq,ZD,mwV,↓mwD,mwU]
         exact ⟨by rw [heq, hc]; simp, hx.trans (hxd.trans h4)⟩
       · simp -dsimp -implicitDefEqProofs only [h4,h5,h2,h3,hw,m15,sF15,ZA,↓reduceIte,ZB,ZC,ZJ,ZK,ZE,ZF,ZG,ZH,ZI,reduceCtorEq,ZD,mwV,↓mwD,mwU]
         exact ⟨⟨i + 1, by omega, rfl, hxd.trans h4, by rw [heq, hc, de]; rfl⟩, by simp only [intOf]; omega⟩
     · have de : decide (a.F[i].key = b.F[i].key) = false := by simp [he]
       simp -dsimp -implicitDefEqProofs only [h5,h2,h3,a1,b1,hb1,hb2,and_self,q0,q1,q2,q3,r0,r1,r2,r3,de,Nat.mul_comm i 4,m15,sF15,ZA,↓reduceIte,ZB,ZC,ZJ,ZK,ZE,ZF,ZG,ZH,ZI,reduceCtorEq,ZD,mwV,↓mwD,mwU]
       exact ⟨by rw [heq, de]; rfl, hx.trans hxd⟩
   · have hlt' : ¬ (i : Int) < (a.F.length : Int) := by omega
     simp -dsimp -implicitDefEqProofs only [h5,h2,h3,a1,b1,hlt',m15,sF15,ZA,↓reduceIte,ZB,ZC,ZJ,ZK,ZE,ZF,ZG,ZH,ZI,reduceCtorEq,ZD,mwV,↓mwD,mwU]
     rw [List.drop_of_length_le (by omega), List.drop_of_length_le (by omega)] at heq
     exact ⟨by rw [heq]; rfl, hx.trans hxx⟩
end Go.Proofs.YthcdnjbhhaonhaaGreatDoor
