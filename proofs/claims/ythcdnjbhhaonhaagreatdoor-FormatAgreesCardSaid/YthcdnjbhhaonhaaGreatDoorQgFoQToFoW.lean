/- Layer 02: the reference's Within. -/
import Derived.Test.YthcdnjbhhaonhaaGreatDoorQgFoP
import Derived.Test.YthcdnjbhhaonhaaGreatDoorQgChWToChY

namespace Go.Proofs.YthcdnjbhhaonhaaGreatDoor
open Go.RowKit
open Nat renaming reduceEqDiff → ZA, reduceAdd → ZB, reduceMul → ZC, reduceSub → ZD
open Int renaming reduceToNat → ZE, reduceEq → ZF, reduceLT → ZG, reduceLE → ZH, reduceNeg → ZI
open Go.Value renaming oneCell' → ZK, cells → ZJ
open Go.Proofs.Tryz renaming prog → ZP
set_option linter.unusedSimpArgs false
end Go.Proofs.YthcdnjbhhaonhaaGreatDoor
/- Layer 02: the reference's Join. -/
namespace Go.Proofs.YthcdnjbhhaonhaaGreatDoor
open Go.RowKit
open Nat renaming reduceEqDiff → ZA, reduceAdd → ZB, reduceMul → ZC, reduceSub → ZD
open Int renaming reduceToNat → ZE, reduceEq → ZF, reduceLT → ZG, reduceLE → ZH, reduceNeg → ZI
open Go.Value renaming oneCell' → ZK, cells → ZJ
open Go.Proofs.Tryz renaming prog → ZP
set_option linter.unusedSimpArgs false
def fromK (A : List Fl) (k : Int) : List Fl := A.filter fun x => decide (k ≤ x.key)
theorem fromK_gt : ∀ {A : List Fl} {j k : Int}, fieldsB j A = true → k ≤ j + 1 → fromK A k = A
 | [], _, _, _, _ => rfl
 | x :: A, j, k, h, hk => by
  have h' := fieldsB_cons.1 h
  unfold fromK
  have : decide (k ≤ x.key) = true := by simp; omega
  rw [List.filter_cons, this, if_pos rfl]
  have ih := fromK_gt (k := k) h'.2.2.2 (by omega)
  unfold fromK at ih
  rw [ih]
theorem fromK_seven {A : List Fl} (h : fieldsB 0 A = true) : fromK A 7 = [] := by
 unfold fromK
 rw [List.filter_eq_nil_iff]
 intro x hx
 have := (fieldsB_mem h x hx).2.1
 simp; omega
theorem fromK_ge {A : List Fl} {k : Int} : ∀ x ∈ fromK A k, k ≤ x.key := fun x hx => by
 unfold fromK at hx
 simpa using (List.mem_filter.1 hx).2
theorem atF_gt : ∀ {A : List Fl} {j k : Int}, fieldsB j A = true → k ≤ j → atF A k = none
 | [], _, _, _, _ => rfl
 | x :: A, j, k, h, hk => by
  have h' := fieldsB_cons.1 h
  unfold atF
  rw [if_neg (by omega)]; exact atF_gt h'.2.2.2 (by omega)
theorem fromK_step : ∀ {A : List Fl} {j : Int} (k : Int), fieldsB j A = true → fromK A k = (match atF A k with
 | some c => ⟨k, c⟩ :: fromK A (k + 1)
 | none => fromK A (k + 1))
 | [], _, _, _ => rfl
 | x :: A, j, k, h => by
  have h' := fieldsB_cons.1 h
  have ih := fromK_step k h'.2.2.2
  by_cases h1 : x.key = k
  · subst h1
    have e1 : atF (x :: A) x.key = some x.c := by unfold atF; rw [if_pos rfl]
    have e2 : fromK (x :: A) x.key = x :: A := by
     have := fromK_gt h'.2.2.2 (show x.key ≤ x.key + 1 by omega)
     unfold fromK at this ⊢
     rw [List.filter_cons, if_pos (by simp), this]
    have e3 : fromK (x :: A) (x.key + 1) = A := by
     have := fromK_gt h'.2.2.2 (Int.le_refl (x.key + 1))
     unfold fromK at this ⊢
     rw [List.filter_cons, if_neg (by simp; omega), this]
    rw [e1, e2, e3]
  · have e1 : atF (x :: A) k = atF A k := by rw [atF]; rw [if_neg h1]
    rw [e1]
    by_cases h2 : x.key < k
    · have e2 : ∀ k', k ≤ k' → fromK (x :: A) k' = fromK A k' := fun k' hk => by unfold fromK; rw [List.filter_cons, if_neg (by simp; omega)]
      rw [e2 k (by omega), e2 (k + 1) (by omega)]; exact ih
    · have e2 : atF A k = none := atF_gt h'.2.2.2 (by omega)
      rw [e2] at ih ⊢
      have e3 : ∀ k', k' ≤ x.key → fromK (x :: A) k' = x :: fromK A k' := fun k' hk => by unfold fromK; rw [List.filter_cons, if_pos (by simpa using hk)]
      rw [e3 k (by omega), e3 (k + 1) (by omega), ih]
theorem pairs_same (k : Int) (c d : Ch) (A B : List Fl) : pairs (⟨k, c⟩ :: A) (⟨k, d⟩ :: B) = (some ⟨k, c⟩, some ⟨k, d⟩) :: pairs A B := by rw [pairs, if_pos rfl]
theorem pairs_left {k : Int} {c : Ch} {A B : List Fl} (h : ∀ x ∈ B, k + 1 ≤ x.key) : pairs (⟨k, c⟩ :: A) B = (some ⟨k, c⟩, none) :: pairs A B := by
 cases B with
 | nil => rw [pairs]
 | cons y B =>
  have := h y (List.mem_cons_self ..)
  rw [pairs, if_neg (by simp only; omega), if_pos (by simp only; omega)]
theorem pairs_right {k : Int} {d : Ch} {A B : List Fl} (h : ∀ x ∈ A, k + 1 ≤ x.key) : pairs A (⟨k, d⟩ :: B) = (none, some ⟨k, d⟩) :: pairs A B := by
 cases A with
 | nil => rw [pairs]
 | cons x A =>
  have := h x (List.mem_cons_self ..)
  rw [pairs, if_neg (by simp only; omega), if_neg (by simp only; omega)]
theorem copy_row (U : World) (base : Nat) (s : Value) (L : List Int) (hb : base ≤ U.heap.size) (hs : SlI U s L) (hne : 1 ≤ L.length) (hlen : L.length ≤ 1000000) :
 ∃ v' U2, (Builtin.append_ #[33, 33] 33 #[.slice (some ⟨U.heap.size, 0, none⟩) 0 0, s]).run ZP (U.alloc (.cells #[] 3)) = .ok v' U2 ∧ U2.ownsRow base 3 1 v' L.length (ints L) ∧ Ext U U2 := by
 rcases hs.clone with ⟨_, hx⟩ | ⟨a, cap, rfl, h1, h2, h3⟩
 · rw [hx] at hne; simp at hne
 · have ho := own_new U [] 3 base 0 1 rfl hb (by simp)
   obtain ⟨v', w', ha, hown, hg⟩ := append_own (P := ZP) (w := U.alloc (.cells #[] 3)) (t := 33) (ty := 33) (z := .int .i64 0) (ats := [33, 33]) rfl telem_33 tok_3 tzero_3 (by rw [tsz_3]; rfl) (by rw [tsz_3]; omega)
    (by rw [tsz_3]; exact ho) (a := a) (m := L.length) (c := cap) (news := ints L) (by rw [tsz_3, ints_length]; omega)
    (fun j u hj => cell_old (h3 j u hj) _) (fun u hu => by simp [ints] at hu; obtain ⟨n, _, rfl⟩ := hu; rfl) (by unfold maxLen; omega) (by rw [tby_3]; omega) (by rw [World.size_alloc]; omega)
   refine ⟨v', w', ha, ?_, (Ext.alloc _ _).grown hg (fun k hk => ?_)⟩
   · rw [tsz_3] at hown; simpa using hown
   · simp [Value.ownBlock] at hk; omega
theorem bs_none : buildS ZP 33 0 [] = some (3, #[]) := by kernel_rfl
structure JrS (w u : World) (b6 : Nat) (m : Int) (A B : List Value) (v : Value) (acc : List (Fl × Value)) : Prop where
 ext : Ext w u
 kA : Bk u w.heap.size A 24
 kB : Bk u (w.heap.size + 1) B 24
 k4 : Bk u (w.heap.size + 2) [.int .i64 0, .slice none 0 0] 24
 k6 : Bk u b6 [.int .i64 m, v] 24
 own : OwnF u w.heap.size v acc
theorem JrS.next {w u u' : World} {b6 : Nat} {m : Int} {A B : List Value} {v : Value} {acc : List (Fl × Value)} (h : JrS w u b6 m A B v acc) (c : Ext u u') : JrS w u' b6 m A B v acc :=
 ⟨h.ext.trans c, h.kA.ext c, h.kB.ext c, h.k4.ext c, h.k6.ext c, h.own.ext c⟩
theorem JrS.ch {w u u' : World} {b6 b : Nat} {m : Int} {A B : List Value} {v : Value} {acc : List (Fl × Value)} (h : JrS w u b6 m A B v acc) (c : ChP (fun k => k = b) u u') (hb : w.heap.size + 3 ≤ b) (h6 : b6 ≠ b) (ho : Odd u b) : JrS w u' b6 m A B v acc :=
 ⟨c.ext h.ext (fun k hk => by subst hk; omega), c.bk (by omega) h.kA, c.bk (by omega) h.kB, c.bk (by omega) h.k4, c.bk h6 h.k6, h.own.ch c (fun k hk => by subst hk; exact ho)⟩
set_option maxHeartbeats 4000000 in
theorem Joined_c (a b : Fm) (sa sb : Value) (w : World) (hA : SlF w sa a.F) (hB : SlF w sb b.F) (va : a.valid = true) (vb : b.valid = true) : Rets ZP 76 #[fmV a sa, fmV b sb] w (JoinQ a b w) := by
 obtain ⟨pa, ca, rfl, hc1, hc2⟩ := hA.shape
 obtain ⟨pb, cb, rfl, hc3, hc4⟩ := hB.shape
 have fA : fieldsB 0 a.F = true := by have := va; unfold Fm.valid at this; simp only [Bool.and_eq_true] at this; exact this.1
 have fB : fieldsB 0 b.F = true := by have := vb; unfold Fm.valid at this; simp only [Bool.and_eq_true] at this; exact this.1
 obtain ⟨W, hW, A, B, C4, hx⟩ : ∃ W, W = ((w.alloc (.cells #[.int .i64 a.m, .slice pa a.F.length ca] 24)).alloc (.cells #[.int .i64 b.m, .slice pb b.F.length cb] 24)).alloc (.cells #[.int .i64 0, .slice none 0 0] 24) ∧
  Bk W w.heap.size [.int .i64 a.m, .slice pa a.F.length ca] 24 ∧ Bk W (w.heap.size + 1) [.int .i64 b.m, .slice pb b.F.length cb] 24 ∧ Bk W (w.heap.size + 2) [.int .i64 0, .slice none 0 0] 24 ∧ Ext w W := by
  refine ⟨_, rfl, ((Bk.new w _ _).ext (Ext.alloc _ _)).ext (Ext.alloc _ _), ?_, ?_, ((Ext.alloc _ _).trans (Ext.alloc _ _)).trans (Ext.alloc _ _)⟩
  · have := Bk.new (w.alloc (.cells #[.int .i64 a.m, .slice pa a.F.length ca] 24)) [.int .i64 b.m, .slice pb b.F.length cb] 24
    rw [World.size_alloc] at this
    exact this.ext (Ext.alloc _ _)
  · have := Bk.new ((w.alloc (.cells #[.int .i64 a.m, .slice pa a.F.length ca] 24)).alloc (.cells #[.int .i64 b.m, .slice pb b.F.length cb] 24)) [.int .i64 0, .slice none 0 0] 24
    rw [World.size_alloc, World.size_alloc] at this
    exact this
 have hsz : W.heap.size = w.heap.size + 3 := by rw [hW]; simp only [World.size_alloc]
 refine en76 ?_
 refine mwpB_cut 1 (fun e ds w' => e 2 = .pointer (some ⟨w.heap.size, 0, none⟩) ∧ e 3 = .pointer (some ⟨w.heap.size + 1, 0, none⟩) ∧ e 4 = .pointer (some ⟨w.heap.size + 2, 0, none⟩) ∧ ds = [] ∧ w' = W) ?_ ?_
 · simp -dsimp -implicitDefEqProofs only [fmV,headM_zero,headM_seq,World.size_alloc,Nat.add_assoc,← hW,m76,sF76,ZA,↓reduceIte,ZB,ZC,ZJ,ZK,ZE,ZF,ZG,ZH,ZI,reduceCtorEq,ZD,mwV,↓mwD,mwU]
 clear hW
 rintro e ds w0 ⟨k2, k3, k4, rfl, rfl⟩
 have A0 := A.get (o := 0) rfl
 have A1 := A.get (o := 1) rfl
 have B0 := B.get (o := 0) rfl
 have B1 := B.get (o := 1) rfl
 by_cases hm : ¬ a.m = b.m
 · have d1 := C4.set 0 (.int .i64 0)
   have d2 := d1.set 1 (.slice none 0 0)
   have b0 := C4.get (o := 0) rfl
   have b1 := d1.get (o := 1) rfl
   have f0 := C4.frozen 0
   have f1 := d1.frozen 1
   have r0 := d2.get (o := 0) rfl
   have r1 := d2.get (o := 1) rfl
   simp -dsimp -implicitDefEqProofs only [tailM_zero,tailM_seq,k2,k3,k4,A0,B0,hm,bv_fm0,b0,b1,f0,f1,r0,r1,m76,sF76,ZA,↓reduceIte,ZB,ZC,ZJ,ZK,ZE,ZF,ZG,ZH,ZI,reduceCtorEq,ZD,mwV,↓mwD,mwU]
   exact ⟨(hx.setCell (by simp) _).setCell (by simp) _, by rw [if_neg hm]⟩
 replace hm := Decidable.not_not.1 hm
 have dm : decide (a.m = b.m) = true := by simp [hm]
 have C := Bk.new w0 [.int .i64 a.m, .slice none 0 0] 24
 have x6 : Ext w0 (w0.alloc (.cells #[.int .i64 a.m, .slice none 0 0] 24)) := Ext.alloc _ _
 simp -dsimp -implicitDefEqProofs only [tailM_zero,tailM_seq,k2,k3,k4,A0,B0,dm,bv_fm1,setCell_new,m76,sF76,ZA,↓reduceIte,ZB,ZC,ZJ,ZK,ZE,ZF,ZG,ZH,ZI,reduceCtorEq,ZD,mwV,↓mwD,mwU]
 have S0 : JrS w (w0.alloc (.cells #[.int .i64 a.m, .slice none 0 0] 24)) w0.heap.size a.m [.int .i64 a.m, .slice pa a.F.length ca] [.int .i64 b.m, .slice pb b.F.length cb] (.slice none 0 0) [] := ⟨hx.trans x6, A.ext x6, B.ext x6, C4.ext x6, C, World.ownsRow_nil _ _ _ _, fun p hp => by cases hp⟩
 generalize w0.alloc _ = W1 at *
 refine mwpB_loop (fun e ds u => ∃ (k : Nat) (v : Value) (acc : List (Fl × Value)), 1 ≤ k ∧ k ≤ 7 ∧ acc.length ≤ k ∧ e 7 = .int .i64 k ∧ e 2 = .pointer (some ⟨w.heap.size, 0, none⟩) ∧ e 3 = .pointer (some ⟨w.heap.size + 1, 0, none⟩) ∧ e 4 = .pointer (some ⟨w.heap.size + 2, 0, none⟩) ∧ e 6 = .pointer (some ⟨w0.heap.size, 0, none⟩) ∧ ds = [] ∧
  JrS w u w0.heap.size a.m [.int .i64 a.m, .slice pa a.F.length ca] [.int .i64 b.m, .slice pb b.F.length cb] v acc ∧ ∀ o, JoinR (pairs (fromK a.F k) (fromK b.F k)) o → JoinR (pairs a.F b.F) (o.map (acc.map (·.1) ++ ·)))
  (fun e _ => 7 - (intOf (e 7)).toNat) ?_ ?_
 · simp -dsimp -implicitDefEqProofs only [k2,k3,k4,m76,sF76,ZA,↓reduceIte,ZB,ZC,ZJ,ZK,ZE,ZF,ZG,ZH,ZI,reduceCtorEq,ZD,mwV,↓mwD,mwU]
   refine ⟨1, _, [], by omega, by omega, by simp, rfl, S0, fun o ho => ?_⟩
   rw [show ((1 : Nat) : Int) = 1 from rfl, fromK_gt fA (by omega), fromK_gt fB (by omega)] at ho
   simpa using ho
 · rintro e ds u ⟨k, v, acc, hk1, hk7, hal, h7, h2, h3, h4, h6, rfl, S, hK⟩
   simp -dsimp -implicitDefEqProofs only [h7,h2,h3,h4,h6,m76,sF76,ZA,↓reduceIte,ZB,ZC,ZJ,ZK,ZE,ZF,ZG,ZH,ZI,reduceCtorEq,ZD,mwV,↓mwD,mwU]
   refine iteW_dec (fun hlt => ?_) (fun hge => ?_)
   · have hk6 : k ≤ 6 := by omega
     have hw : IntKind.i64.wrap ((k : Int) + 1) = ((k + 1 : Nat) : Int) := by rw [w64 (by omega) (by omega)]; omega
     have ek : ((k + 1 : Nat) : Int) = (k : Int) + 1 := by omega
     have stA := fromK_step (k : Int) fA
     have stB := fromK_step (k : Int) fB
     have geA : ∀ x ∈ fromK a.F ((k : Int) + 1), (k : Int) + 1 ≤ x.key := fromK_ge
     have geB : ∀ x ∈ fromK b.F ((k : Int) + 1), (k : Int) + 1 ≤ x.key := fromK_ge
     have a0 := S.kA.get (o := 0) rfl
     have a1 := S.kA.get (o := 1) rfl
     simp -dsimp -implicitDefEqProofs only [h7,h2,h3,h4,h6,a0,a1,m76,sF76,ZA,↓reduceIte,ZB,ZC,ZJ,ZK,ZE,ZF,ZG,ZH,ZI,reduceCtorEq,ZD,mwV,↓mwD,mwU]
     refine (At_c a _ k w u hA S.ext).use ?_
     rintro r u1 ⟨x1, hr1⟩
     have S1 := S.next x1
     cases hatA : atF a.F (k : Int) with
     | none =>
      rw [hatA] at stA hr1
      simp only at hr1
      subst hr1
      have y1 : Ext u1 (u1.alloc (.cells #[.int .i64 0, .int .i64 0, .slice none 0 0] 35)) := Ext.alloc _ _
      have K8 := Bk.new u1 [.int .i64 0, .int .i64 0, .slice none 0 0] 35
      have S2 := S1.next y1
      have b0 := S2.kB.get (o := 0) rfl
      have b1 := S2.kB.get (o := 1) rfl
      simp -dsimp -implicitDefEqProofs only [h7,h2,h3,h4,h6,chV,b0,b1,m76,sF76,ZA,↓reduceIte,ZB,ZC,ZJ,ZK,ZE,ZF,ZG,ZH,ZI,reduceCtorEq,ZD,mwV,↓mwD,mwU]
      have sz1 : (u1.alloc (.cells #[.int .i64 0, .int .i64 0, .slice none 0 0] 35)).heap.size = u1.heap.size + 1 := World.size_alloc _ _
      generalize u1.alloc (.cells #[.int .i64 0, .int .i64 0, .slice none 0 0] 35) = v1 at *
      replace K8 : Bk v1 u1.heap.size [.int .i64 0, .int .i64 0, .slice none 0 0] 35 := K8
      refine (At_c b _ k w v1 hB S2.ext).use ?_
      rintro r u2' ⟨x2, hr2⟩
      have S3 := S2.next x2
      cases hatB : atF b.F (k : Int) with
      | none =>
       rw [hatB] at stB hr2
       simp only at hr2
       subst hr2
       have y2 : Ext u2' (u2'.alloc (.cells #[.int .i64 0, .int .i64 0, .slice none 0 0] 35)) := Ext.alloc _ _
       have y3 : Ext (u2'.alloc (.cells #[.int .i64 0, .int .i64 0, .slice none 0 0] 35)) ((u2'.alloc (.cells #[.int .i64 0, .int .i64 0, .slice none 0 0] 35)).alloc (.cells #[.int .i64 0, .int .i64 0, .slice none 0 0] 35)) := Ext.alloc _ _
       have K10 := Bk.new u2' [.int .i64 0, .int .i64 0, .slice none 0 0] 35
       have K12 := Bk.new (u2'.alloc (.cells #[.int .i64 0, .int .i64 0, .slice none 0 0] 35)) [.int .i64 0, .int .i64 0, .slice none 0 0] 35
       have K8b := (K8.ext x2).ext y2
       have i0 := K8b.get (o := 0) rfl
       have i1 := K8b.get (o := 1) rfl
       have i2 := K8b.get (o := 2) rfl
       have sz2 : (u2'.alloc (.cells #[.int .i64 0, .int .i64 0, .slice none 0 0] 35)).heap.size = u2'.heap.size + 1 := World.size_alloc _ _
       have S5 := (S3.next y2).next y3
       have hgtb : w.heap.size + 4 ≤ u2'.heap.size := by have := S3.k6.lt; have := K8.lt; have := x2.size; have := S.k6.lt; have := x1.size; omega
       have hg6 : w0.heap.size < u1.heap.size := S1.k6.lt
       have hg7 : u1.heap.size < u2'.heap.size := by have := K8.lt; have := x2.size; omega
       simp -dsimp -implicitDefEqProofs only [h7,h2,h3,h4,h6,chV,i0,i1,i2,hw,m76,sF76,ZA,↓reduceIte,ZB,ZC,ZJ,ZK,ZE,ZF,ZG,ZH,ZI,reduceCtorEq,ZD,mwV,↓mwD,mwU]
       refine ⟨⟨k + 1, v, acc, by omega, by omega, by omega, rfl, S5, fun o ho => hK o ?_⟩, by simp only [intOf]; omega⟩
       rw [stA, stB]
       rw [ek] at ho; exact ho
      | some cB =>
       obtain ⟨xB, hxB, hkB, hcB⟩ := atF_some hatB
       have vBv : cB.valid = true := by rw [← hcB]; exact (fieldsB_mem fB xB hxB).2.2
       have lenB : 1 ≤ cB.L.length ∧ cB.L.length ≤ 20 := ⟨valid_ne vBv, valid_len vBv⟩
       rw [hatB] at stB hr2
       obtain ⟨vB, rfl, hsB⟩ := hr2
       obtain ⟨qcB, ncB, rfl, _, _⟩ := hsB.shape
       have y2 : Ext u2' (u2'.alloc (.cells #[.int .i64 cB.k, .int .i64 cB.d, .slice qcB cB.L.length ncB] 35)) := Ext.alloc _ _
       have y3 : Ext (u2'.alloc (.cells #[.int .i64 cB.k, .int .i64 cB.d, .slice qcB cB.L.length ncB] 35)) ((u2'.alloc (.cells #[.int .i64 cB.k, .int .i64 cB.d, .slice qcB cB.L.length ncB] 35)).alloc (.cells #[.int .i64 0, .int .i64 0, .slice none 0 0] 35)) := Ext.alloc _ _
       have K10 := Bk.new u2' [.int .i64 cB.k, .int .i64 cB.d, .slice qcB cB.L.length ncB] 35
       have K12 := Bk.new (u2'.alloc (.cells #[.int .i64 cB.k, .int .i64 cB.d, .slice qcB cB.L.length ncB] 35)) [.int .i64 0, .int .i64 0, .slice none 0 0] 35
       have K8b := (K8.ext x2).ext y2
       have i0 := K8b.get (o := 0) rfl
       have i1 := K8b.get (o := 1) rfl
       have i2 := K8b.get (o := 2) rfl
       have sz2 : (u2'.alloc (.cells #[.int .i64 cB.k, .int .i64 cB.d, .slice qcB cB.L.length ncB] 35)).heap.size = u2'.heap.size + 1 := World.size_alloc _ _
       have S5 := (S3.next y2).next y3
       have hgtb : w.heap.size + 4 ≤ u2'.heap.size := by have := S3.k6.lt; have := K8.lt; have := x2.size; have := S.k6.lt; have := x1.size; omega
       have hg6 : w0.heap.size < u1.heap.size := S1.k6.lt
       have hg7 : u1.heap.size < u2'.heap.size := by have := K8.lt; have := x2.size; omega
       have K10b := K10.ext y3
       have P := put3 K12 (.int .i64 cB.k) (.int .i64 cB.d) (.slice qcB cB.L.length ncB)
       have j0 := K10b.get (o := 0) rfl
       have j1 := K10b.get (o := 1) rfl
       have j2 := K10b.get (o := 2) rfl
       obtain ⟨w00, c0⟩ := P.c0
       obtain ⟨w01, c1⟩ := P.c1
       obtain ⟨w02, c2⟩ := P.c2
       have z0 := P.z0
       have z1 := P.z1
       have z22 := P.z2
       have Kp := P.bk
       rw [sz2] at c0 c1 c2 z0 z1 z22 Kp K12
       simp -dsimp -implicitDefEqProofs only [h7,h2,h3,h4,h6,chV,i0,i1,i2,m76,sF76,ZA,↓reduceIte,ZB,ZC,ZJ,ZK,ZE,ZF,ZG,ZH,ZI,reduceCtorEq,ZD,mwV,↓mwD,mwU]
       simp -dsimp -implicitDefEqProofs only [h7,h2,h3,h4,h6,sz2,j0,j1,j2,c0,c1,c2,z0,z1,z22,m76,sF76,ZA,↓reduceIte,ZB,ZC,ZJ,ZK,ZE,ZF,ZG,ZH,ZI,reduceCtorEq,ZD,mwV,↓mwD,mwU]
       have chp : ChP (fun j => j = u2'.heap.size + 1) ((u2'.alloc (.cells #[.int .i64 cB.k, .int .i64 cB.d, .slice qcB cB.L.length ncB] 35)).alloc (.cells #[.int .i64 0, .int .i64 0, .slice none 0 0] 35)) (((((u2'.alloc (.cells #[.int .i64 cB.k, .int .i64 cB.d, .slice qcB cB.L.length ncB] 35)).alloc (.cells #[.int .i64 0, .int .i64 0, .slice none 0 0] 35)).setCell ⟨u2'.heap.size + 1, 0, none⟩ (.int .i64 cB.k)).setCell ⟨u2'.heap.size + 1, 1, none⟩ (.int .i64 cB.d)).setCell ⟨u2'.heap.size + 1, 2, none⟩ (.slice qcB cB.L.length ncB)) :=
        ChP.setCell (G := fun j => j = u2'.heap.size + 1) (ChP.setCell (G := fun j => j = u2'.heap.size + 1) (ChP.setCell (G := fun j => j = u2'.heap.size + 1) (ChP.refl _ _) (fun _ => rfl) _) (fun _ => rfl) _) (fun _ => rfl) _
       have SP := S5.ch chp (by omega) (by omega) (K12.odd (by decide) (by decide))
       generalize (((World.setCell _ _ _).setCell _ _).setCell _ _) = U at *
       have K12 := Kp
       have hsl : SlI U _ (Fl.mk k cB).c.L := hsB.ext SP.ext
       have hne := (show 1 ≤ cB.L.length ∧ cB.L.length ≤ 20 from lenB)
       have SU : JrS w U w0.heap.size a.m _ _ v acc := SP
       obtain ⟨vv, U2, happ, hown, xU⟩ := copy_row U w.heap.size _ _ SU.ext.size hsl hne.1 (Nat.le_trans hne.2 (by decide))
       obtain ⟨qv, nv, cv, rfl⟩ := own_slice hown
       have K2 := K12.ext xU
       have z2 := K2.get (o := 2) rfl
       have fz := K2.frozen 2
       have K3 := K2.set 2 (.slice qv nv cv)
       have x0' := K12.get (o := 2) rfl
       have t0 := K3.get (o := 0) rfl
       have t1 := K3.get (o := 1) rfl
       have t2 := K3.get (o := 2) rfl
       have ch3 : ChP (fun j => j = (u2'.heap.size + 1)) U2 (U2.setCell ⟨(u2'.heap.size + 1), 2, none⟩ (.slice qv nv cv)) := ChP.setCell (G := fun j => j = (u2'.heap.size + 1)) (ChP.refl _ U2) (fun _ => rfl) _
       have SU3 := (SU.next xU).ch ch3 (by have := K12.lt; have := hgtb; omega) (by have := hgtb; omega) (K2.odd (by decide) (by decide))
       have hown3 := Own.off (o := 2) (x := .slice qv nv cv) hown (own_ne hown K2 (by decide))
       have y6 := SU3.k6.get (o := 1) rfl
       have xq0 := cell_old x0' (.cells #[] 3)
       simp -dsimp -implicitDefEqProofs only [h7,h2,h3,h4,h6,bs_none,xq0,sz2,m76,sF76,ZA,↓reduceIte,ZB,ZC,ZJ,ZK,ZE,ZF,ZG,ZH,ZI,reduceCtorEq,ZD,mwV,↓mwD,mwU]
       refine appB.mk happ ?_
       simp -dsimp -implicitDefEqProofs only [h7,h2,h3,h4,h6,sz2,z2,fz,m76,sF76,ZA,↓reduceIte,ZB,ZC,ZJ,ZK,ZE,ZF,ZG,ZH,ZI,reduceCtorEq,ZD,mwV,↓mwD,mwU]
       generalize U2.setCell _ _ = U3 at *
       obtain ⟨v2, u2, happ2, hown2, hg2⟩ := append_fl SU3.own.1 (Fl.mk k cB) (.slice qv nv cv) rfl (by omega) SU3.ext.size
       obtain ⟨p1, p2, p3, p4, p5, p6⟩ := OwnF.push SU3.ext SU3.k6 SU3.own (Ext.refl U3) (by omega) hown3 hown2 hg2
       obtain ⟨qw, nw, cw, rfl⟩ := own_slice hown2
       have g1 := p2.get (o := 1) rfl
       have gz := p2.frozen 1
       have bsf := bs_fl (Fl.mk k cB) (.slice qv nv cv)
       simp -dsimp -implicitDefEqProofs only [h7,h2,h3,h4,h6,sz2,y6,t0,t1,t2,bv_fl,bsf,m76,sF76,ZA,↓reduceIte,ZB,ZC,ZJ,ZK,ZE,ZF,ZG,ZH,ZI,reduceCtorEq,ZD,mwV,↓mwD,mwU]
       refine appB.mk happ2 ?_
       simp -dsimp -implicitDefEqProofs only [h7,h2,h3,h4,h6,g1,gz,hw,m76,sF76,ZA,↓reduceIte,ZB,ZC,ZJ,ZK,ZE,ZF,ZG,ZH,ZI,reduceCtorEq,ZD,mwV,↓mwD,mwU]
       have oddF : ∀ {j : Nat} {cs : List Value}, Bk U3 j cs 24 → Odd U3 j := fun h => h.odd (by decide) (by decide)
       refine ⟨⟨k + 1, _, acc ++ [((Fl.mk k cB), .slice qv nv cv)], by omega, by omega, by simp; omega, rfl, ⟨p5, ?_, ?_, ?_, p3, p4⟩, fun o ho => ?_⟩, by simp only [intOf]; omega⟩
       · unfold Bk; rw [p6 _ SU3.kA.lt (by omega) (oddF SU3.kA)]; exact SU3.kA
       · unfold Bk; rw [p6 _ SU3.kB.lt (by omega) (oddF SU3.kB)]; exact SU3.kB
       · unfold Bk; rw [p6 _ SU3.k4.lt (by omega) (oddF SU3.k4)]; exact SU3.k4
       · rw [ek] at ho
         have := hK (o.map ((Fl.mk k cB) :: ·)) (by rw [stA, stB, pairs_right geA]; exact ⟨o, ho, rfl⟩)
         rw [Option.map_map] at this
         have e : ((fun x => List.map (fun x => x.fst) acc ++ x) ∘ fun x => (Fl.mk k cB) :: x) = fun x => List.map (fun x => x.fst) (acc ++ [((Fl.mk k cB), .slice qv nv cv)]) ++ x := by funext l; simp
         rw [e] at this
         exact this
     | some cA =>
      obtain ⟨xA, hxA, hkA, hcA⟩ := atF_some hatA
      have vAv : cA.valid = true := by rw [← hcA]; exact (fieldsB_mem fA xA hxA).2.2
      have lenA : 1 ≤ cA.L.length ∧ cA.L.length ≤ 20 := ⟨valid_ne vAv, valid_len vAv⟩
      rw [hatA] at stA hr1
      obtain ⟨vA, rfl, hsA⟩ := hr1
      obtain ⟨qcA, ncA, rfl, _, _⟩ := hsA.shape
      have y1 : Ext u1 (u1.alloc (.cells #[.int .i64 cA.k, .int .i64 cA.d, .slice qcA cA.L.length ncA] 35)) := Ext.alloc _ _
      have K8 := Bk.new u1 [.int .i64 cA.k, .int .i64 cA.d, .slice qcA cA.L.length ncA] 35
      have S2 := S1.next y1
      have b0 := S2.kB.get (o := 0) rfl
      have b1 := S2.kB.get (o := 1) rfl
      simp -dsimp -implicitDefEqProofs only [h7,h2,h3,h4,h6,chV,b0,b1,m76,sF76,ZA,↓reduceIte,ZB,ZC,ZJ,ZK,ZE,ZF,ZG,ZH,ZI,reduceCtorEq,ZD,mwV,↓mwD,mwU]
      have sz1 : (u1.alloc (.cells #[.int .i64 cA.k, .int .i64 cA.d, .slice qcA cA.L.length ncA] 35)).heap.size = u1.heap.size + 1 := World.size_alloc _ _
      generalize u1.alloc (.cells #[.int .i64 cA.k, .int .i64 cA.d, .slice qcA cA.L.length ncA] 35) = v1 at *
      replace K8 : Bk v1 u1.heap.size [.int .i64 cA.k, .int .i64 cA.d, .slice qcA cA.L.length ncA] 35 := K8
      refine (At_c b _ k w v1 hB S2.ext).use ?_
      rintro r u2' ⟨x2, hr2⟩
      have S3 := S2.next x2
      cases hatB : atF b.F (k : Int) with
      | none =>
       rw [hatB] at stB hr2
       simp only at hr2
       subst hr2
       have y2 : Ext u2' (u2'.alloc (.cells #[.int .i64 0, .int .i64 0, .slice none 0 0] 35)) := Ext.alloc _ _
       have y3 : Ext (u2'.alloc (.cells #[.int .i64 0, .int .i64 0, .slice none 0 0] 35)) ((u2'.alloc (.cells #[.int .i64 0, .int .i64 0, .slice none 0 0] 35)).alloc (.cells #[.int .i64 cA.k, .int .i64 cA.d, .slice qcA cA.L.length ncA] 35)) := Ext.alloc _ _
       have K10 := Bk.new u2' [.int .i64 0, .int .i64 0, .slice none 0 0] 35
       have K12 := Bk.new (u2'.alloc (.cells #[.int .i64 0, .int .i64 0, .slice none 0 0] 35)) [.int .i64 cA.k, .int .i64 cA.d, .slice qcA cA.L.length ncA] 35
       have K8b := (K8.ext x2).ext y2
       have i0 := K8b.get (o := 0) rfl
       have i1 := K8b.get (o := 1) rfl
       have i2 := K8b.get (o := 2) rfl
       have sz2 : (u2'.alloc (.cells #[.int .i64 0, .int .i64 0, .slice none 0 0] 35)).heap.size = u2'.heap.size + 1 := World.size_alloc _ _
       have S5 := (S3.next y2).next y3
       have hgtb : w.heap.size + 4 ≤ u2'.heap.size := by have := S3.k6.lt; have := K8.lt; have := x2.size; have := S.k6.lt; have := x1.size; omega
       have hg6 : w0.heap.size < u1.heap.size := S1.k6.lt
       have hg7 : u1.heap.size < u2'.heap.size := by have := K8.lt; have := x2.size; omega
       simp -dsimp -implicitDefEqProofs only [h7,h2,h3,h4,h6,chV,i0,i1,i2,m76,sF76,ZA,↓reduceIte,ZB,ZC,ZJ,ZK,ZE,ZF,ZG,ZH,ZI,reduceCtorEq,ZD,mwV,↓mwD,mwU]
       generalize hU : (u2'.alloc (.cells #[.int .i64 0, .int .i64 0, .slice none 0 0] 35)).alloc (.cells #[.int .i64 cA.k, .int .i64 cA.d, .slice qcA cA.L.length ncA] 35) = U at *
       rw [sz2] at K12
       have K12 := K12
       have hsl : SlI U _ (Fl.mk k cA).c.L := hsA.ext S5.ext
       have hne := (show 1 ≤ cA.L.length ∧ cA.L.length ≤ 20 from lenA)
       have SU : JrS w U w0.heap.size a.m _ _ v acc := S5
       obtain ⟨vv, U2, happ, hown, xU⟩ := copy_row U w.heap.size _ _ SU.ext.size hsl hne.1 (Nat.le_trans hne.2 (by decide))
       obtain ⟨qv, nv, cv, rfl⟩ := own_slice hown
       have K2 := K12.ext xU
       have z2 := K2.get (o := 2) rfl
       have fz := K2.frozen 2
       have K3 := K2.set 2 (.slice qv nv cv)
       have x0' := K12.get (o := 2) rfl
       have t0 := K3.get (o := 0) rfl
       have t1 := K3.get (o := 1) rfl
       have t2 := K3.get (o := 2) rfl
       have ch3 : ChP (fun j => j = (u2'.heap.size + 1)) U2 (U2.setCell ⟨(u2'.heap.size + 1), 2, none⟩ (.slice qv nv cv)) := ChP.setCell (G := fun j => j = (u2'.heap.size + 1)) (ChP.refl _ U2) (fun _ => rfl) _
       have SU3 := (SU.next xU).ch ch3 (by have := K12.lt; have := hgtb; omega) (by have := hgtb; omega) (K2.odd (by decide) (by decide))
       have hown3 := Own.off (o := 2) (x := .slice qv nv cv) hown (own_ne hown K2 (by decide))
       have y6 := SU3.k6.get (o := 1) rfl
       have xq0 := cell_old x0' (.cells #[] 3)
       simp -dsimp -implicitDefEqProofs only [h7,h2,h3,h4,h6,bs_none,xq0,sz2,m76,sF76,ZA,↓reduceIte,ZB,ZC,ZJ,ZK,ZE,ZF,ZG,ZH,ZI,reduceCtorEq,ZD,mwV,↓mwD,mwU]
       refine appB.mk happ ?_
       simp -dsimp -implicitDefEqProofs only [h7,h2,h3,h4,h6,sz2,z2,fz,m76,sF76,ZA,↓reduceIte,ZB,ZC,ZJ,ZK,ZE,ZF,ZG,ZH,ZI,reduceCtorEq,ZD,mwV,↓mwD,mwU]
       generalize U2.setCell _ _ = U3 at *
       obtain ⟨v2, u2, happ2, hown2, hg2⟩ := append_fl SU3.own.1 (Fl.mk k cA) (.slice qv nv cv) rfl (by omega) SU3.ext.size
       obtain ⟨p1, p2, p3, p4, p5, p6⟩ := OwnF.push SU3.ext SU3.k6 SU3.own (Ext.refl U3) (by omega) hown3 hown2 hg2
       obtain ⟨qw, nw, cw, rfl⟩ := own_slice hown2
       have g1 := p2.get (o := 1) rfl
       have gz := p2.frozen 1
       have bsf := bs_fl (Fl.mk k cA) (.slice qv nv cv)
       simp -dsimp -implicitDefEqProofs only [h7,h2,h3,h4,h6,sz2,y6,t0,t1,t2,bv_fl,bsf,m76,sF76,ZA,↓reduceIte,ZB,ZC,ZJ,ZK,ZE,ZF,ZG,ZH,ZI,reduceCtorEq,ZD,mwV,↓mwD,mwU]
       refine appB.mk happ2 ?_
       simp -dsimp -implicitDefEqProofs only [h7,h2,h3,h4,h6,g1,gz,hw,m76,sF76,ZA,↓reduceIte,ZB,ZC,ZJ,ZK,ZE,ZF,ZG,ZH,ZI,reduceCtorEq,ZD,mwV,↓mwD,mwU]
       have oddF : ∀ {j : Nat} {cs : List Value}, Bk U3 j cs 24 → Odd U3 j := fun h => h.odd (by decide) (by decide)
       refine ⟨⟨k + 1, _, acc ++ [((Fl.mk k cA), .slice qv nv cv)], by omega, by omega, by simp; omega, rfl, ⟨p5, ?_, ?_, ?_, p3, p4⟩, fun o ho => ?_⟩, by simp only [intOf]; omega⟩
       · unfold Bk; rw [p6 _ SU3.kA.lt (by omega) (oddF SU3.kA)]; exact SU3.kA
       · unfold Bk; rw [p6 _ SU3.kB.lt (by omega) (oddF SU3.kB)]; exact SU3.kB
       · unfold Bk; rw [p6 _ SU3.k4.lt (by omega) (oddF SU3.k4)]; exact SU3.k4
       · rw [ek] at ho
         have := hK (o.map ((Fl.mk k cA) :: ·)) (by rw [stA, stB, pairs_left geB]; exact ⟨o, ho, rfl⟩)
         rw [Option.map_map] at this
         have e : ((fun x => List.map (fun x => x.fst) acc ++ x) ∘ fun x => (Fl.mk k cA) :: x) = fun x => List.map (fun x => x.fst) (acc ++ [((Fl.mk k cA), .slice qv nv cv)]) ++ x := by funext l; simp
         rw [e] at this
         exact this
      | some cB =>
       obtain ⟨xB, hxB, hkB, hcB⟩ := atF_some hatB
       have vBv : cB.valid = true := by rw [← hcB]; exact (fieldsB_mem fB xB hxB).2.2
       have lenB : 1 ≤ cB.L.length ∧ cB.L.length ≤ 20 := ⟨valid_ne vBv, valid_len vBv⟩
       rw [hatB] at stB hr2
       obtain ⟨vB, rfl, hsB⟩ := hr2
       obtain ⟨qcB, ncB, rfl, _, _⟩ := hsB.shape
       have y2 : Ext u2' (u2'.alloc (.cells #[.int .i64 cB.k, .int .i64 cB.d, .slice qcB cB.L.length ncB] 35)) := Ext.alloc _ _
       have y3 : Ext (u2'.alloc (.cells #[.int .i64 cB.k, .int .i64 cB.d, .slice qcB cB.L.length ncB] 35)) ((u2'.alloc (.cells #[.int .i64 cB.k, .int .i64 cB.d, .slice qcB cB.L.length ncB] 35)).alloc (.cells #[.int .i64 cA.k, .int .i64 cA.d, .slice qcA cA.L.length ncA] 35)) := Ext.alloc _ _
       have K10 := Bk.new u2' [.int .i64 cB.k, .int .i64 cB.d, .slice qcB cB.L.length ncB] 35
       have K12 := Bk.new (u2'.alloc (.cells #[.int .i64 cB.k, .int .i64 cB.d, .slice qcB cB.L.length ncB] 35)) [.int .i64 cA.k, .int .i64 cA.d, .slice qcA cA.L.length ncA] 35
       have K8b := (K8.ext x2).ext y2
       have i0 := K8b.get (o := 0) rfl
       have i1 := K8b.get (o := 1) rfl
       have i2 := K8b.get (o := 2) rfl
       have sz2 : (u2'.alloc (.cells #[.int .i64 cB.k, .int .i64 cB.d, .slice qcB cB.L.length ncB] 35)).heap.size = u2'.heap.size + 1 := World.size_alloc _ _
       have S5 := (S3.next y2).next y3
       have hgtb : w.heap.size + 4 ≤ u2'.heap.size := by have := S3.k6.lt; have := K8.lt; have := x2.size; have := S.k6.lt; have := x1.size; omega
       have hg6 : w0.heap.size < u1.heap.size := S1.k6.lt
       have hg7 : u1.heap.size < u2'.heap.size := by have := K8.lt; have := x2.size; omega
       rw [sz2] at K12
       have K10b := K10.ext y3
       have K8c := K8b.ext y3
       have j0 := K10b.get (o := 0) rfl
       have j1 := K10b.get (o := 1) rfl
       have j2 := K10b.get (o := 2) rfl
       have l0 := K8c.get (o := 0) rfl
       have l1 := K8c.get (o := 1) rfl
       have l2 := K8c.get (o := 2) rfl
       simp -dsimp -implicitDefEqProofs only [h7,h2,h3,h4,h6,chV,i0,i1,i2,m76,sF76,ZA,↓reduceIte,ZB,ZC,ZJ,ZK,ZE,ZF,ZG,ZH,ZI,reduceCtorEq,ZD,mwV,↓mwD,mwU]
       simp -dsimp -implicitDefEqProofs only [h7,h2,h3,h4,h6,sz2,j0,j1,j2,l0,l1,l2,m76,sF76,ZA,↓reduceIte,ZB,ZC,ZJ,ZK,ZE,ZF,ZG,ZH,ZI,reduceCtorEq,ZD,mwV,↓mwD,mwU]
       generalize hU : (u2'.alloc (.cells #[.int .i64 cB.k, .int .i64 cB.d, .slice qcB cB.L.length ncB] 35)).alloc (.cells #[.int .i64 cA.k, .int .i64 cA.d, .slice qcA cA.L.length ncA] 35) = U0 at *
       refine (Met_c cA cB _ _ U0 vAv vBv (hsA.ext S5.ext) (hsB.ext S5.ext)).use ?_
       rintro r U1 ⟨x5, o', hmet, ho'⟩
       have S6 := S5.next x5
       have K12' := K12.ext x5
       cases o' with
       | none =>
        simp only at ho'
        subst ho'
        have P := put3 K12' (.int .i64 0) (.int .i64 0) (.slice none 0 0)
        obtain ⟨w00, c0⟩ := P.c0
        obtain ⟨w01, c1⟩ := P.c1
        obtain ⟨w02, c2⟩ := P.c2
        have z0 := P.z0
        have z1 := P.z1
        have z22 := P.z2
        have chp : ChP (fun j => j = u2'.heap.size + 1) U1 (((U1.setCell ⟨u2'.heap.size + 1, 0, none⟩ (.int .i64 0)).setCell ⟨u2'.heap.size + 1, 1, none⟩ (.int .i64 0)).setCell ⟨u2'.heap.size + 1, 2, none⟩ (.slice none 0 0)) :=
         ChP.setCell (G := fun j => j = u2'.heap.size + 1) (ChP.setCell (G := fun j => j = u2'.heap.size + 1) (ChP.setCell (G := fun j => j = u2'.heap.size + 1) (ChP.refl _ _) (fun _ => rfl) _) (fun _ => rfl) _) (fun _ => rfl) _
        have SP := S6.ch chp (by omega) (by omega) (K12'.odd (by decide) (by decide))
        have d1 := SP.k4.set 0 (.int .i64 0)
        have d2 := d1.set 1 (.slice none 0 0)
        have e0 := SP.k4.get (o := 0) rfl
        have e1 := d1.get (o := 1) rfl
        have f0 := SP.k4.frozen 0
        have f1 := d1.frozen 1
        have r0 := d2.get (o := 0) rfl
        have r1 := d2.get (o := 1) rfl
        simp -dsimp -implicitDefEqProofs only [h7,h2,h3,h4,h6,sz2,c0,c1,c2,z0,z1,z22,bv_fm0,e0,e1,f0,f1,r0,r1,m76,sF76,ZA,↓reduceIte,ZB,ZC,ZJ,ZK,ZE,ZF,ZG,ZH,ZI,reduceCtorEq,ZD,mwV,↓mwD,mwU]
        refine ⟨(SP.ext.setCell (by simp) _).setCell (by simp) _, ?_⟩
        rw [if_pos hm]
        refine ⟨none, ?_, rfl⟩
        have := hK none (by rw [stA, stB, pairs_same]; exact ⟨none, hmet, rfl⟩)
        exact this
       | some cM =>
        obtain ⟨vM, rfl, hownM⟩ := ho'
        have vMv := (met_ok vAv vBv hmet).1
        have lenM : 1 ≤ cM.L.length ∧ cM.L.length ≤ 20 := ⟨valid_ne vMv, valid_len vMv⟩
        obtain ⟨_, qM, nM, rfl⟩ := own_shape hownM
        have P := put3 K12' (.int .i64 cM.k) (.int .i64 cM.d) (.slice qM cM.L.length nM)
        obtain ⟨w00, c0⟩ := P.c0
        obtain ⟨w01, c1⟩ := P.c1
        obtain ⟨w02, c2⟩ := P.c2
        have z0 := P.z0
        have z1 := P.z1
        have z22 := P.z2
        have Kp := P.bk
        have chp : ChP (fun j => j = u2'.heap.size + 1) U1 (((U1.setCell ⟨u2'.heap.size + 1, 0, none⟩ (.int .i64 cM.k)).setCell ⟨u2'.heap.size + 1, 1, none⟩ (.int .i64 cM.d)).setCell ⟨u2'.heap.size + 1, 2, none⟩ (.slice qM cM.L.length nM)) :=
         ChP.setCell (G := fun j => j = u2'.heap.size + 1) (ChP.setCell (G := fun j => j = u2'.heap.size + 1) (ChP.setCell (G := fun j => j = u2'.heap.size + 1) (ChP.refl _ _) (fun _ => rfl) _) (fun _ => rfl) _) (fun _ => rfl) _
        have SP := S6.ch chp (by omega) (by omega) (K12'.odd (by decide) (by decide))
        have slM : SlI (((U1.setCell ⟨u2'.heap.size + 1, 0, none⟩ (.int .i64 cM.k)).setCell ⟨u2'.heap.size + 1, 1, none⟩ (.int .i64 cM.d)).setCell ⟨u2'.heap.size + 1, 2, none⟩ (.slice qM cM.L.length nM)) (.slice qM cM.L.length nM) cM.L := Own.sl (Own.set3 hownM (by have := K12.lt; omega) _ _ _)
        simp -dsimp -implicitDefEqProofs only [h7,h2,h3,h4,h6,sz2,chV,c0,c1,c2,z0,z1,z22,m76,sF76,ZA,↓reduceIte,ZB,ZC,ZJ,ZK,ZE,ZF,ZG,ZH,ZI,reduceCtorEq,ZD,mwV,↓mwD,mwU]
        generalize (((U1.setCell _ _).setCell _ _).setCell _ _) = U at *
        have K12 := Kp
        have hsl : SlI U _ (Fl.mk k cM).c.L := slM
        have hne := (show 1 ≤ cM.L.length ∧ cM.L.length ≤ 20 from lenM)
        have SU : JrS w U w0.heap.size a.m _ _ v acc := SP
        obtain ⟨vv, U2, happ, hown, xU⟩ := copy_row U w.heap.size _ _ SU.ext.size hsl hne.1 (Nat.le_trans hne.2 (by decide))
        obtain ⟨qv, nv, cv, rfl⟩ := own_slice hown
        have K2 := K12.ext xU
        have z2 := K2.get (o := 2) rfl
        have fz := K2.frozen 2
        have K3 := K2.set 2 (.slice qv nv cv)
        have x0' := K12.get (o := 2) rfl
        have t0 := K3.get (o := 0) rfl
        have t1 := K3.get (o := 1) rfl
        have t2 := K3.get (o := 2) rfl
        have ch3 : ChP (fun j => j = (u2'.heap.size + 1)) U2 (U2.setCell ⟨(u2'.heap.size + 1), 2, none⟩ (.slice qv nv cv)) := ChP.setCell (G := fun j => j = (u2'.heap.size + 1)) (ChP.refl _ U2) (fun _ => rfl) _
        have SU3 := (SU.next xU).ch ch3 (by have := K12.lt; have := hgtb; omega) (by have := hgtb; omega) (K2.odd (by decide) (by decide))
        have hown3 := Own.off (o := 2) (x := .slice qv nv cv) hown (own_ne hown K2 (by decide))
        have y6 := SU3.k6.get (o := 1) rfl
        have xq0 := cell_old x0' (.cells #[] 3)
        simp -dsimp -implicitDefEqProofs only [h7,h2,h3,h4,h6,bs_none,xq0,sz2,m76,sF76,ZA,↓reduceIte,ZB,ZC,ZJ,ZK,ZE,ZF,ZG,ZH,ZI,reduceCtorEq,ZD,mwV,↓mwD,mwU]
        refine appB.mk happ ?_
        simp -dsimp -implicitDefEqProofs only [h7,h2,h3,h4,h6,sz2,z2,fz,m76,sF76,ZA,↓reduceIte,ZB,ZC,ZJ,ZK,ZE,ZF,ZG,ZH,ZI,reduceCtorEq,ZD,mwV,↓mwD,mwU]
        generalize U2.setCell _ _ = U3 at *
        obtain ⟨v2, u2, happ2, hown2, hg2⟩ := append_fl SU3.own.1 (Fl.mk k cM) (.slice qv nv cv) rfl (by omega) SU3.ext.size
        obtain ⟨p1, p2, p3, p4, p5, p6⟩ := OwnF.push SU3.ext SU3.k6 SU3.own (Ext.refl U3) (by omega) hown3 hown2 hg2
        obtain ⟨qw, nw, cw, rfl⟩ := own_slice hown2
        have g1 := p2.get (o := 1) rfl
        have gz := p2.frozen 1
        have bsf := bs_fl (Fl.mk k cM) (.slice qv nv cv)
        simp -dsimp -implicitDefEqProofs only [h7,h2,h3,h4,h6,sz2,y6,t0,t1,t2,bv_fl,bsf,m76,sF76,ZA,↓reduceIte,ZB,ZC,ZJ,ZK,ZE,ZF,ZG,ZH,ZI,reduceCtorEq,ZD,mwV,↓mwD,mwU]
        refine appB.mk happ2 ?_
        simp -dsimp -implicitDefEqProofs only [h7,h2,h3,h4,h6,g1,gz,hw,m76,sF76,ZA,↓reduceIte,ZB,ZC,ZJ,ZK,ZE,ZF,ZG,ZH,ZI,reduceCtorEq,ZD,mwV,↓mwD,mwU]
        have oddF : ∀ {j : Nat} {cs : List Value}, Bk U3 j cs 24 → Odd U3 j := fun h => h.odd (by decide) (by decide)
        refine ⟨⟨k + 1, _, acc ++ [((Fl.mk k cM), .slice qv nv cv)], by omega, by omega, by simp; omega, rfl, ⟨p5, ?_, ?_, ?_, p3, p4⟩, fun o ho => ?_⟩, by simp only [intOf]; omega⟩
        · unfold Bk; rw [p6 _ SU3.kA.lt (by omega) (oddF SU3.kA)]; exact SU3.kA
        · unfold Bk; rw [p6 _ SU3.kB.lt (by omega) (oddF SU3.kB)]; exact SU3.kB
        · unfold Bk; rw [p6 _ SU3.k4.lt (by omega) (oddF SU3.k4)]; exact SU3.k4
        · rw [ek] at ho
          have := hK (o.map ((Fl.mk k cM) :: ·)) (by rw [stA, stB, pairs_same]; exact ⟨some cM, hmet, o, ho, rfl⟩)
          rw [Option.map_map] at this
          have e : ((fun x => List.map (fun x => x.fst) acc ++ x) ∘ fun x => (Fl.mk k cM) :: x) = fun x => List.map (fun x => x.fst) (acc ++ [((Fl.mk k cM), .slice qv nv cv)]) ++ x := by funext l; simp
          rw [e] at this
          exact this
   · have hk : k = 7 := by omega
     subst hk
     obtain ⟨qv, nv, cv, rfl⟩ := own_slice S.own.1
     have c0 := S.k6.get (o := 0) rfl
     have c1 := S.k6.get (o := 1) rfl
     have b0 := S.k4.get (o := 0) rfl
     have d1 := S.k4.set 0 (.int .i64 a.m)
     have b1 := d1.get (o := 1) rfl
     have d2 := d1.set 1 (.slice qv nv cv)
     have f0 := S.k4.frozen 0
     have f1 := d1.frozen 1
     have r0 := d2.get (o := 0) rfl
     have r1 := d2.get (o := 1) rfl
     have hch : ChP (fun j => j = w.heap.size + 2) u ((u.setCell ⟨w.heap.size + 2, 0, none⟩ (.int .i64 a.m)).setCell ⟨w.heap.size + 2, 1, none⟩ (.slice qv nv cv)) := ChP.setCell (G := fun k => k = w.heap.size + 2) (ChP.setCell (G := fun k => k = w.heap.size + 2) (ChP.refl _ u) (fun _ => rfl) _) (fun _ => rfl) _
     simp -dsimp -implicitDefEqProofs only [h7,h2,h3,h4,h6,c0,c1,b0,b1,f0,f1,r0,r1,m76,sF76,ZA,↓reduceIte,ZB,ZC,ZJ,ZK,ZE,ZF,ZG,ZH,ZI,reduceCtorEq,ZD,mwV,↓mwD,mwU]
     refine ⟨hch.ext S.ext (fun b hb => by subst hb; omega), ?_⟩
     rw [if_pos hm]
     refine ⟨some (acc.map (·.1)), ?_, _, acc, rfl, rfl, S.own.ch hch (fun b hb => by subst hb; exact S.k4.odd (by decide) (by decide))⟩
     have := hK (some []) (by rw [show ((7 : Nat) : Int) = 7 from rfl, fromK_seven fA, fromK_seven fB, pairs]; rfl)
     simpa using this
end Go.Proofs.YthcdnjbhhaonhaaGreatDoor
/- Layer 02: lists of formats. -/
namespace Go.Proofs.YthcdnjbhhaonhaaGreatDoor
open Go.RowKit
open Nat renaming reduceEqDiff → ZA, reduceAdd → ZB, reduceMul → ZC, reduceSub → ZD
open Int renaming reduceToNat → ZE, reduceEq → ZF, reduceLT → ZG, reduceLE → ZH, reduceNeg → ZI
open Go.Value renaming oneCell' → ZK, cells → ZJ
open Go.Proofs.Tryz renaming prog → ZP
set_option linter.unusedSimpArgs false
def JoinO (x f : Fm) (o : Option Fm) : Prop := if x.m = f.m then ∃ j, JoinR (pairs x.F f.F) j ∧ o = j.map (Fm.mk x.m ·) else o = none
theorem JoinO.eq {x f : Fm} {o o' : Option Fm} (h : JoinO x f o) (h' : JoinO x f o') : o = o' := by
 unfold JoinO at h h'
 split at h
 · rename_i hm
   rw [if_pos hm] at h'
   obtain ⟨j, h1, h2⟩ := h
   obtain ⟨j', g1, g2⟩ := h'
   rw [h2, g2, h1.eq g1]
 · rename_i hm
   rw [if_neg hm] at h'
   rw [h, h']
def FilR : List Fm → Fm → List Fm → Prop
 | [], _, gs => gs = []
 | x :: l, f, gs => ∃ o, JoinO x f o ∧ ∃ gs', FilR l f gs' ∧ gs = o.toList ++ gs'
theorem FilR.eq : ∀ {l : List Fm} {f : Fm} {gs gs' : List Fm}, FilR l f gs → FilR l f gs' → gs = gs'
 | [], _, _, _, h, h' => by unfold FilR at h h'; rw [h, h']
 | x :: l, f, _, _, ⟨o, h1, a, h2, h3⟩, ⟨o', g1, b, g2, g3⟩ => by rw [h3, g3, h1.eq g1, h2.eq g2]
def AgQ (a b : List Fm) : Option (Fm × Nat × Nat) → Prop
 | none => ∀ (i j : Nat) (x y : Fm), a[i]? = some x → b[j]? = some y → JoinO x y none
 | some (g, i, j) => ∃ x y, a[i]? = some x ∧ b[j]? = some y ∧ JoinO x y (some g) ∧ ∀ (i' j' : Nat) (x' y' : Fm), a[i']? = some x' → b[j']? = some y' → (i' < i ∨ (i' = i ∧ j' < j)) → JoinO x' y' none
theorem AgQ.eq {a b : List Fm} : ∀ {o o' : Option (Fm × Nat × Nat)}, AgQ a b o → AgQ a b o' → o = o'
 | none, none, _, _ => rfl
 | none, some (g, i, j), h, ⟨x, y, h1, h2, h3, _⟩ => by have := (h i j x y h1 h2).eq h3; cases this
 | some (g, i, j), none, ⟨x, y, h1, h2, h3, _⟩, h => by have := (h i j x y h1 h2).eq h3; cases this
 | some (g, i, j), some (g', i', j'), ⟨x, y, h1, h2, h3, h4⟩, ⟨x', y', k1, k2, k3, k4⟩ => by
  have e1 : ¬ (i' < i ∨ (i' = i ∧ j' < j)) := fun hl => by have := (h4 i' j' x' y' k1 k2 hl).eq k3; cases this
  have e2 : ¬ (i < i' ∨ (i = i' ∧ j < j')) := fun hl => by have := (k4 i j x y h1 h2 hl).eq h3; cases this
  obtain rfl : i = i' := by omega
  obtain rfl : j = j' := by omega
  rw [h1] at k1; cases k1
  rw [h2] at k2; cases k2
  have := h3.eq k3
  cases this
  rfl
def rightG (gs : List Fm) : Bool := decide (gs.length ≤ 40) && gs.all Fm.valid
def lightsB (gs : List Fm) : Bool := (gs.take 50).all lightB && decide (gs.length ≤ 50)
theorem fix1_valid {c : Ch} (h : c.valid = true) : (Ch.mk 1 c.d [c.d]).valid = true ∧ wiC (Ch.mk 1 c.d [c.d]) c := by
 have hd : c.has c.d = true := by unfold Ch.valid at h; simp only [Bool.and_eq_true] at h; exact h.2
 have hin : inT c.d = true := by
  cases hl : c.lsd
  · have hr := (valid_rg h hl).1
    obtain ⟨d1, d2, _⟩ := (has_range hl).1 hd
    have := hr.l0
    have := hr.l2
    simp only [inT,Bool.and_eq_true,decide_eq_true_eq]; omega
  · have hv := valid_list h hl
    have hm : c.d ∈ c.L := by simpa using hv.2.2.2.2
    have := List.all_eq_true.1 hv.2.2.2.1 _ hm
    exact this
 refine ⟨?_, fun n hn => ?_⟩
 · unfold Ch.valid Ch.form Ch.has Ch.lsd
   simp [hin]
 · unfold Ch.has Ch.lsd at hn
   simp at hn
   rw [hn]; exact hd
theorem fixL_ok : ∀ {F : List Fl} {k : Int}, fieldsB k F = true → fieldsB k (F.map fixF) = true ∧ wiL (F.map fixF) F
 | [], _, _ => ⟨rfl, wiL_nil _⟩
 | x :: F, k, h => by
  have h' := fieldsB_cons.1 h
  obtain ⟨i1, i2⟩ := fixL_ok h'.2.2.2
  obtain ⟨v1, v2⟩ := fix1_valid h'.2.2.1
  exact ⟨fieldsB_cons.2 ⟨h'.1, h'.2.1, v1, i1⟩, wiL_cons rfl v2 i2⟩
def FmAt (w : World) (b o : Nat) (f : Fm) : Prop := ∃ s, w.cell? ⟨b, o, none⟩ = some (.int .i64 f.m) ∧ w.cell? ⟨b, o + 1, none⟩ = some s ∧ SlF w s f.F
def SlG (w : World) (v : Value) (gs : List Fm) : Prop := ∃ p cap, v = .slice p gs.length cap ∧ gs.length ≤ cap ∧ cap ≤ maxLen ∧ (gs ≠ [] → ∃ b o, p = some ⟨b, o, none⟩ ∧ ∀ k f, gs[k]? = some f → FmAt w b (o + 2 * k) f)
section
variable {w w' : World} {v : Value} {gs : List Fm}
theorem FmAt.ext {b o : Nat} {f : Fm} (h : FmAt w b o f) (he : Ext w w') : FmAt w' b o f := by
 obtain ⟨s, h1, h2, h3⟩ := h
 exact ⟨s, he.cell h1, he.cell h2, h3.ext he⟩
theorem SlG.ext (h : SlG w v gs) (he : Ext w w') : SlG w' v gs := by
 obtain ⟨p, cap, h1, h2, h3, h4⟩ := h
 refine ⟨p, cap, h1, h2, h3, fun hne => ?_⟩
 obtain ⟨b, o, h5, h6⟩ := h4 hne
 exact ⟨b, o, h5, fun k f hk => (h6 k f hk).ext he⟩
theorem SlG.nil (w : World) : SlG w (.slice none 0 0) [] := ⟨none, 0, rfl, by simp, by simp, fun h => absurd rfl h⟩
theorem SlG.shape (h : SlG w v gs) : ∃ p cap, v = .slice p gs.length cap ∧ gs.length ≤ cap ∧ cap ≤ maxLen := by
 obtain ⟨p, cap, h1, h2, h3, _⟩ := h
 exact ⟨p, cap, h1, h2, h3⟩
theorem SlG.get {p : Option Addr} {n cap k : Nat} (h : SlG w (.slice p n cap) gs) (hk : k < gs.length) : ∃ b o q c, p = some ⟨b, o, none⟩ ∧ w.cell? ⟨b, o + 2 * k, none⟩ = some (.int .i64 gs[k].m) ∧ w.cell? ⟨b, o + 2 * k + 1, none⟩ = some (.slice q gs[k].F.length c) ∧ SlF w (.slice q gs[k].F.length c) gs[k].F := by
 obtain ⟨p', cap', h1, _, _, h4⟩ := h
 cases h1
 obtain ⟨b, o, rfl, h6⟩ := h4 (by intro h0; rw [h0] at hk; simp at hk)
 obtain ⟨s, q1, q2, q3⟩ := h6 k gs[k] (List.getElem?_eq_getElem hk)
 obtain ⟨q, c, rfl, _, _⟩ := q3.shape
 exact ⟨b, o, q, c, rfl, q1, q2, q3⟩
end
def rowsG : List (Fm × Value) → List Value
 | [] => []
 | p :: l => [.int .i64 p.1.m, p.2] ++ rowsG l
theorem rowsG_app : ∀ (a b : List (Fm × Value)), rowsG (a ++ b) = rowsG a ++ rowsG b
 | [], _ => rfl
 | p :: a, b => by rw [List.cons_append, rowsG, rowsG_app a b, rowsG, List.append_assoc]
theorem rowsG_get : ∀ {l : List (Fm × Value)} {k : Nat} {p : Fm × Value} {j : Nat} {u : Value}, l[k]? = some p → ([Value.int .i64 p.1.m, p.2] : List Value)[j]? = some u → (rowsG l)[2 * k + j]? = some u
 | [], _, _, _, _, h, _ => by simp at h
 | q :: l, 0, p, j, u, h, hj => by
  simp only [List.getElem?_cons_zero,Option.some.injEq] at h
  subst h
  have := (List.getElem?_eq_some_iff.1 hj).1
  rw [rowsG, List.getElem?_append_left (by omega), show 2 * 0 + j = j by omega]; exact hj
 | q :: l, k + 1, p, j, u, h, hj => by
  rw [rowsG, List.getElem?_append_right (by simp; omega)]
  rw [show 2 * (k + 1) + j - ([Value.int .i64 q.1.m, q.2] : List Value).length = 2 * k + j by simp; omega]
  exact rowsG_get (by simpa using h) hj
def OwnG (w : World) (base : Nat) (v : Value) (gs : List (Fm × Value)) : Prop := w.ownsRow base 24 2 v gs.length (rowsG gs) ∧ ∀ p ∈ gs, ∃ acc, p.1.F = acc.map (·.1) ∧ OwnF w base p.2 acc
theorem OwnG.slG {w : World} {base : Nat} {v : Value} {gs : List (Fm × Value)} (h : OwnG w base v gs) : SlG w v (gs.map (·.1)) := by
 obtain ⟨h, hl⟩ := h
 rcases h.2 with ⟨hv, h0⟩ | ⟨g, cap, cur, hv, hb, hg, h1, h2, h3, h4⟩
 · have : gs = [] := List.eq_nil_of_length_eq_zero h0
   subst this
   rw [hv]; exact SlG.nil w
 · refine ⟨_, cap, by rw [hv, List.length_map], by rw [List.length_map]; omega, h2, fun _ => ⟨g, 0, rfl, fun k f hk => ?_⟩⟩
   rw [List.getElem?_map, Option.map_eq_some_iff] at hk
   obtain ⟨p, hp, rfl⟩ := hk
   obtain ⟨acc, ha, hf⟩ := hl p (List.mem_of_getElem? hp)
   have c0 := World.ownsRow.cells h (g := g) (by simp [hv, Value.ownBlock]) (2 * k + 0) _ (rowsG_get hp (j := 0) rfl)
   have c1 := World.ownsRow.cells h (g := g) (by simp [hv, Value.ownBlock]) (2 * k + 1) _ (rowsG_get hp (j := 1) rfl)
   rw [Addr.add_lit] at c0 c1
   exact ⟨p.2, by simpa using c0, by simpa [Nat.add_assoc] using c1, by rw [ha]; exact hf.slF⟩
theorem OwnG.ext {w w' : World} {base : Nat} {v : Value} {gs : List (Fm × Value)} (h : OwnG w base v gs) (c : Ext w w') : OwnG w' base v gs :=
 ⟨Own.ext h.1 c, fun p hp => by obtain ⟨acc, h1, h2⟩ := h.2 p hp; exact ⟨acc, h1, h2.ext c⟩⟩
theorem OwnG.mono {w : World} {base base' : Nat} {v : Value} {gs : List (Fm × Value)} (h : OwnG w base v gs) (c : base' ≤ base) : OwnG w base' v gs :=
 ⟨Own.mono h.1 c, fun p hp => by obtain ⟨acc, h1, h2⟩ := h.2 p hp; exact ⟨acc, h1, h2.mono c⟩⟩
theorem bs_fm (m : Int) (q : Option Addr) (n c : Nat) : buildS ZP 50 1 [(0, .agg #[.int .i64 m, .slice q n c])] = some (24, #[.int .i64 m, .slice q n c]) := by kernel_rfl
theorem append_fm {w : World} {base : Nat} {v : Value} {gs : List (Fm × Value)} (hown : OwnG w base v gs) (f : Fm) (q : Option Addr) (n c : Nat) (acc : List (Fl × Value)) (hf : f.F = acc.map (·.1)) (hs : OwnF w base (.slice q n c) acc) (hn : gs.length ≤ 1000000) (hb : base ≤ w.heap.size) :
 ∃ v' w', (Builtin.append_ #[50, 50] 50 #[v, .slice (some ⟨w.heap.size, 0, none⟩) 1 1]).run ZP (w.alloc (.cells #[.int .i64 f.m, .slice q n c] 24)) = .ok v' w' ∧ OwnG w' base v' (gs ++ [(f, .slice q n c)]) ∧ ∀ {w0 : World}, Ext w0 w → w0.heap.size ≤ base → Ext w0 w' := by
 obtain ⟨v', w', ha, hown', hg⟩ := append_own (P := ZP) (w := w.alloc (.cells #[.int .i64 f.m, .slice q n c] 24)) (t := 50) (ty := 50) (z := .agg #[.int .i64 0, .slice none 0 0]) (ats := [50, 50]) rfl telem_50 tok_24 tzero_24 (by rw [tsz_24]; rfl) (by rw [tsz_24]; omega)
  (by rw [tsz_24]; exact Own.ext hown.1 (Ext.alloc _ _)) (a := ⟨w.heap.size, 0, none⟩) (m := 1) (c := 1) (news := [.int .i64 f.m, .slice q n c]) (by rw [tsz_24]; rfl)
  (fun j u hj => by rw [Addr.add_lit, World.cell?_alloc_new]; simpa using hj) (fun u hu => by simp at hu; rcases hu with rfl | rfl <;> rfl) (by unfold maxLen; omega) (by rw [tby_24]; omega) (by simp; omega)
 have rowO : ∀ k, v.ownBlock = some k → ∃ cur, w.heap[k]? = some (Obj.cells cur 24) := fun k hk => by
  rcases hown.1.2 with ⟨hv, _⟩ | ⟨g, cap, cur, hv, _, hh, _⟩
  · rw [hv] at hk; cases hk
  · rw [hv] at hk; simp only [Value.ownBlock,Option.some.injEq] at hk; subst hk; exact ⟨cur, hh⟩
 have keep : ∀ {k : Nat} {cur : Array Value} {t : TypeId}, t ≠ 24 → w.heap[k]? = some (Obj.cells cur t) → w'.heap[k]? = w.heap[k]? := fun {k cur t} ht hk => by
  have hkl := (Array.getElem?_eq_some_iff.1 hk).1
  rw [hg.block k (by rw [World.size_alloc]; omega) (fun e => ?_), Below.heap_alloc _ _ _ hkl]
  obtain ⟨cur', hc⟩ := rowO k e.symm
  rw [hk] at hc
  simp only [Option.some.injEq,Obj.cells.injEq] at hc
  exact ht hc.2.1
 have own2 : ∀ {s : Value} {ac : List (Fl × Value)}, OwnF w base s ac → OwnF w' base s ac := fun h => ⟨Own.ch h.1 fun k cur hk => keep (by decide) hk, fun p hp => Own.ch (h.2 p hp) fun k cur hk => keep (by decide) hk⟩
 refine ⟨v', w', ha, ⟨?_, fun p hp => ?_⟩, fun h0 hb0 => (h0.trans (Ext.alloc _ _)).grown hg (fun k hk => Nat.le_trans hb0 (World.ownsRow.lt hown.1 k hk).1)⟩
 · rw [tsz_24] at hown'
   rw [rowsG_app, List.length_append]
   simpa [rowsG] using hown'
 · rcases List.mem_append.1 hp with hp | hp
   · obtain ⟨ac, h1, h2⟩ := hown.2 p hp
     exact ⟨ac, h1, own2 h2⟩
   · simp only [List.mem_singleton] at hp
     subst hp
     exact ⟨acc, hf, own2 hs⟩
theorem joinQ_tell {a b : Fm} {w w' : World} {r : Value} (h : JoinQ a b w r w') : Ext w w' ∧ ∃ m q k n c, r = .tuple #[.agg #[.int .i64 m, .slice q k n], .int .i64 c] ∧ ((c = 0 ∧ ∃ acc, JoinO a b (some ⟨m, acc.map (·.1)⟩) ∧ OwnF w' w.heap.size (.slice q k n) acc) ∨ (¬ c = 0 ∧ JoinO a b none)) := by
 obtain ⟨hx, h⟩ := h
 refine ⟨hx, ?_⟩
 by_cases hm : a.m = b.m
 · rw [if_pos hm] at h
   obtain ⟨o, hj, ho⟩ := h
   cases o with
   | none => exact ⟨0, none, 0, 0, 13, ho, .inr ⟨by decide, by unfold JoinO; rw [if_pos hm]; exact ⟨none, hj, rfl⟩⟩⟩
   | some J =>
    obtain ⟨s, acc, rfl, rfl, hown⟩ := ho
    obtain ⟨q, k, c, rfl⟩ := own_slice hown.1
    exact ⟨a.m, q, k, c, 0, rfl, .inl ⟨rfl, acc, by unfold JoinO; rw [if_pos hm]; exact ⟨some _, hj, rfl⟩, hown⟩⟩
 · rw [if_neg hm] at h
   exact ⟨0, none, 0, 0, 10, h, .inr ⟨by decide, by unfold JoinO; rw [if_neg hm]⟩⟩
end Go.Proofs.YthcdnjbhhaonhaaGreatDoor
/- Layer 02: which lists of formats are light; which are valid. -/
namespace Go.Proofs.YthcdnjbhhaonhaaGreatDoor
open Go.RowKit
open Nat renaming reduceEqDiff → ZA, reduceAdd → ZB, reduceMul → ZC, reduceSub → ZD
open Int renaming reduceToNat → ZE, reduceEq → ZF, reduceLT → ZG, reduceLE → ZH, reduceNeg → ZI
open Go.Value renaming oneCell' → ZK, cells → ZJ
open Go.Proofs.Tryz renaming prog → ZP
set_option linter.unusedSimpArgs false
theorem Lights_c (gs : List Fm) (v : Value) (w : World) (h : SlG w v gs) : Rets ZP 30 #[v] w fun r w' => r = .bool (lightsB gs) ∧ Ext w w' := by
 obtain ⟨q, cap, rfl, hc1, hc2⟩ := h.shape
 refine en30 ?_
 simp -dsimp -implicitDefEqProofs only [m30,sF30,ZA,↓reduceIte,ZB,ZC,ZJ,ZK,ZE,ZF,ZG,ZH,ZI,reduceCtorEq,ZD,mwV,↓mwD,mwU]
 refine mwpB_loop (fun e ds w' => ∃ k : Nat, k ≤ gs.length ∧ k ≤ 50 ∧ e 3 = .int .i64 k ∧ e 0 = .slice q gs.length cap ∧ ds = [] ∧ Ext w w' ∧ (gs.take k).all lightB = true)
  (fun e _ => gs.length - (intOf (e 3)).toNat) ?_ ?_
 · simp -dsimp -implicitDefEqProofs only [m30,sF30,ZA,↓reduceIte,ZB,ZC,ZJ,ZK,ZE,ZF,ZG,ZH,ZI,reduceCtorEq,ZD,mwV,↓mwD,mwU]
   exact ⟨0, by omega, by omega, rfl, Ext.refl _, rfl⟩
 · rintro e ds w' ⟨k, hk, hk50, h3, h0, rfl, hx, hall⟩
   by_cases t1 : (k : Int) < (gs.length : Int)
   · by_cases t2 : (k : Int) < 50
     · have hlt' : k < gs.length := by omega
       obtain ⟨b, o, p, c, rfl, q0, q1, hf⟩ := (h.ext hx).get hlt'
       have hb1 : (0 : Int) ≤ k ∧ (k : Int) < gs.length := by omega
       have hw := w64_succ hlt' (Nat.le_trans hc1 hc2)
       simp -dsimp -implicitDefEqProofs only [h3,h0,t1,t2,hb1,and_self,q0,q1,Nat.mul_comm k 2,m30,sF30,ZA,↓reduceIte,ZB,ZC,ZJ,ZK,ZE,ZF,ZG,ZH,ZI,reduceCtorEq,ZD,mwV,↓mwD,mwU]
       refine (Light_c gs[k] _ w' hf).use ?_
       rintro r w2 ⟨rfl, h2⟩
       cases hl : lightB gs[k]
       · simp -dsimp -implicitDefEqProofs only [h3,h0,m30,sF30,ZA,↓reduceIte,ZB,ZC,ZJ,ZK,ZE,ZF,ZG,ZH,ZI,reduceCtorEq,ZD,mwV,↓mwD,mwU]
         refine ⟨?_, hx.trans h2⟩
         have : (gs.take 50).all lightB = false := by
          rw [List.all_eq_false]
          exact ⟨gs[k], List.mem_take_iff_getElem.2 ⟨k, by omega, rfl⟩, by rw [hl]; decide⟩
         simp [lightsB, this]
       · simp -dsimp -implicitDefEqProofs only [h3,h0,hw,m30,sF30,ZA,↓reduceIte,ZB,ZC,ZJ,ZK,ZE,ZF,ZG,ZH,ZI,reduceCtorEq,ZD,mwV,↓mwD,mwU]
         refine ⟨⟨k + 1, by omega, by omega, rfl, hx.trans h2, ?_⟩, by simp only [intOf]; omega⟩
         rw [List.take_succ_eq_append_getElem hlt', List.all_append, hall]
         simp [hl]
     · have hk' : k = 50 := by omega
       have hn : ¬ (gs.length : Int) ≤ 50 := by omega
       simp -dsimp -implicitDefEqProofs only [h3,h0,t1,t2,hn,m30,sF30,ZA,↓reduceIte,ZB,ZC,ZJ,ZK,ZE,ZF,ZG,ZH,ZI,reduceCtorEq,ZD,mwV,↓mwD,mwU]
       have hn' : ¬ gs.length ≤ 50 := by omega
       exact ⟨by simp [lightsB, hn'], hx⟩
   · have hkl : k = gs.length := by omega
     have hn : (gs.length : Int) ≤ 50 := by omega
     have hn' : gs.length ≤ 50 := by omega
     simp -dsimp -implicitDefEqProofs only [h3,h0,t1,hn,m30,sF30,ZA,↓reduceIte,ZB,ZC,ZJ,ZK,ZE,ZF,ZG,ZH,ZI,reduceCtorEq,ZD,mwV,↓mwD,mwU]
     refine ⟨?_, hx⟩
     rw [hkl, List.take_length] at hall
     simp only [lightsB,List.take_of_length_le hn',hall,hn',decide_true,Bool.and_self]
theorem valid1_c (x : Fm) (s : Value) (w : World) (hs : SlF w s x.F) : Rets ZP 111 #[fmV x s] w fun r w' => r = .bool (!x.valid) ∧ Ext w w' := by
 have x0 : Ext w (w.alloc (.cells #[.int .i64 x.m, s] 24)) := Ext.alloc _ _
 obtain ⟨p, cap, rfl, hc1, hc2⟩ := hs.shape
 refine en111 ?_
 simp -dsimp -implicitDefEqProofs only [fmV,m111,sF111,ZA,↓reduceIte,ZB,ZC,ZJ,ZK,ZE,ZF,ZG,ZH,ZI,reduceCtorEq,ZD,mwV,↓mwD,mwU]
 refine (Valid_c x _ _ (hs.ext x0)).use ?_
 rintro r w1 ⟨rfl, h1⟩
 simp -dsimp -implicitDefEqProofs only [m111,sF111,ZA,↓reduceIte,ZB,ZC,ZJ,ZK,ZE,ZF,ZG,ZH,ZI,reduceCtorEq,ZD,mwV,↓mwD,mwU]
 exact x0.trans h1
theorem IndexFG_c (v : Value) (gs : List Fm) (w : World) (h : SlG w v gs) : Rets ZP 137 #[v, .func (.func 111) #[] #[]] w fun r w' => (∃ i : Int, r = .int .i64 i ∧ decide (0 ≤ i) = !gs.all Fm.valid) ∧ Ext w w' := by
 obtain ⟨q, cap, rfl, hc1, hc2⟩ := h.shape
 have hok := okF_111
 refine en137 ?_
 simp -dsimp -implicitDefEqProofs only [m137,sF137,ZA,↓reduceIte,ZB,ZC,ZJ,ZK,ZE,ZF,ZG,ZH,ZI,reduceCtorEq,ZD,mwV,↓mwD,mwU]
 refine mwpB_loop (fun e ds w' => ∃ k : Nat, k ≤ gs.length ∧ e 8 = .int .i64 k ∧ e 7 = .int .i64 gs.length ∧ e 0 = .slice q gs.length cap ∧ e 1 = .func (.func 111) #[] #[] ∧ ds = [] ∧ Ext w w' ∧ (gs.take k).all Fm.valid = true)
  (fun e _ => gs.length - (intOf (e 8)).toNat) ?_ ?_
 · simp -dsimp -implicitDefEqProofs only [m137,sF137,ZA,↓reduceIte,ZB,ZC,ZJ,ZK,ZE,ZF,ZG,ZH,ZI,reduceCtorEq,ZD,mwV,↓mwD,mwU]
   exact ⟨0, by omega, rfl, Ext.refl _, rfl⟩
 · rintro e ds w' ⟨k, hk, h8, h7, h0, h1, rfl, hx, hall⟩
   simp -dsimp -implicitDefEqProofs only [h8,h7,h0,h1,m137,sF137,ZA,↓reduceIte,ZB,ZC,ZJ,ZK,ZE,ZF,ZG,ZH,ZI,reduceCtorEq,ZD,mwV,↓mwD,mwU]
   refine iteW_dec (fun hlt => ?_) (fun hge => ?_)
   · have hlt' : k < gs.length := by omega
     obtain ⟨b, o, p, c, rfl, q0, q1, hf⟩ := (h.ext hx).get hlt'
     have hb1 : (0 : Int) ≤ k ∧ (k : Int) < gs.length := by omega
     have hw := w64_succ hlt' (Nat.le_trans hc1 hc2)
     simp -dsimp -implicitDefEqProofs only [h8,h7,h0,h1,hb1,and_self,q0,q1,Nat.mul_comm k 2,hok,m137,sF137,ZA,↓reduceIte,ZB,ZC,ZJ,ZK,ZE,ZF,ZG,ZH,ZI,reduceCtorEq,ZD,mwV,↓mwD,mwU]
     refine (valid1_c gs[k] _ w' hf).use ?_
     rintro r w2 ⟨rfl, h2⟩
     cases hv : gs[k].valid
     · simp -dsimp -implicitDefEqProofs only [h8,h7,h0,h1,m137,sF137,ZA,↓reduceIte,ZB,ZC,ZJ,ZK,ZE,ZF,ZG,ZH,ZI,reduceCtorEq,ZD,mwV,↓mwD,mwU]
       refine ⟨⟨_, rfl, ?_⟩, hx.trans h2⟩
       have : gs.all Fm.valid = false := by
        rw [List.all_eq_false]; exact ⟨gs[k], List.getElem_mem hlt', by rw [hv]; decide⟩
       rw [this]; simp
     · simp -dsimp -implicitDefEqProofs only [h8,h7,h0,h1,hw,m137,sF137,ZA,↓reduceIte,ZB,ZC,ZJ,ZK,ZE,ZF,ZG,ZH,ZI,reduceCtorEq,ZD,mwV,↓mwD,mwU]
       refine ⟨⟨k + 1, by omega, rfl, hx.trans h2, ?_⟩, by simp only [intOf]; omega⟩
       rw [List.take_succ_eq_append_getElem hlt', List.all_append, hall]; simp [hv]
   · have hkl : k = gs.length := by omega
     subst hkl
     simp -dsimp -implicitDefEqProofs only [h8,h7,h0,h1,m137,sF137,ZA,↓reduceIte,ZB,ZC,ZJ,ZK,ZE,ZF,ZG,ZH,ZI,reduceCtorEq,ZD,mwV,↓mwD,mwU]
     refine ⟨⟨_, rfl, ?_⟩, hx⟩
     rw [List.take_length] at hall
     rw [hall]; rfl
theorem valid_c' (v : Value) (gs : List Fm) (w : World) (h : SlG w v gs) : Rets ZP 74 #[v] w fun r w' => r = .bool (rightG gs) ∧ Ext w w' := by
 obtain ⟨q, cap, rfl, hc1, hc2⟩ := h.shape
 refine en74 ?_
 by_cases hl : (gs.length : Int) ≤ 40
 · have hl' : gs.length ≤ 40 := by omega
   simp -dsimp -implicitDefEqProofs only [hl,m74,sF74,ZA,↓reduceIte,ZB,ZC,ZJ,ZK,ZE,ZF,ZG,ZH,ZI,reduceCtorEq,ZD,mwV,↓mwD,mwU]
   have hcf : Rets ZP 110 #[.slice q gs.length cap, .func (.func 111) #[] #[]] w fun r w' => r = .bool (!gs.all Fm.valid) ∧ Ext w w' := by
    refine en110 ?_
    simp -dsimp -implicitDefEqProofs only [m110,sF110,ZA,↓reduceIte,ZB,ZC,ZJ,ZK,ZE,ZF,ZG,ZH,ZI,reduceCtorEq,ZD,mwV,↓mwD,mwU]
    refine (IndexFG_c _ gs w h).use ?_
    rintro r w2 ⟨⟨i, rfl, hi⟩, h2⟩
    simp -dsimp -implicitDefEqProofs only [hi,m110,sF110,ZA,↓reduceIte,ZB,ZC,ZJ,ZK,ZE,ZF,ZG,ZH,ZI,reduceCtorEq,ZD,mwV,↓mwD,mwU]
    exact h2
   refine hcf.use ?_
   rintro r w2 ⟨rfl, h2⟩
   simp -dsimp -implicitDefEqProofs only [m74,sF74,ZA,↓reduceIte,ZB,ZC,ZJ,ZK,ZE,ZF,ZG,ZH,ZI,reduceCtorEq,ZD,mwV,↓mwD,mwU]
   exact ⟨by simp [rightG, hl'], h2⟩
 · have hl' : ¬ gs.length ≤ 40 := by omega
   simp -dsimp -implicitDefEqProofs only [hl,m74,sF74,ZA,↓reduceIte,ZB,ZC,ZJ,ZK,ZE,ZF,ZG,ZH,ZI,reduceCtorEq,ZD,mwV,↓mwD,mwU]
   exact ⟨by simp [rightG, hl'], Ext.refl _⟩
theorem right_c (v : Value) (gs : List Fm) (w : World) (h : SlG w v gs) : Rets ZP 75 #[v] w fun r w' => r = .bool (rightG gs) ∧ Ext w w' := by
 obtain ⟨q, cap, rfl, hc1, hc2⟩ := h.shape
 refine en75 ?_
 simp -dsimp -implicitDefEqProofs only [m75,sF75,ZA,↓reduceIte,ZB,ZC,ZJ,ZK,ZE,ZF,ZG,ZH,ZI,reduceCtorEq,ZD,mwV,↓mwD,mwU]
 refine mwpB_loop (fun e ds w' => ∃ k : Nat, k ≤ gs.length ∧ e 3 = .int .i64 k ∧ e 0 = .slice q gs.length cap ∧ ds = [] ∧ Ext w w' ∧ (gs.take k).all Fm.valid = true)
  (fun e _ => gs.length - (intOf (e 3)).toNat) ?_ ?_
 · simp -dsimp -implicitDefEqProofs only [m75,sF75,ZA,↓reduceIte,ZB,ZC,ZJ,ZK,ZE,ZF,ZG,ZH,ZI,reduceCtorEq,ZD,mwV,↓mwD,mwU]
   exact ⟨0, by omega, rfl, Ext.refl _, rfl⟩
 · rintro e ds w' ⟨k, hk, h3, h0, rfl, hx, hall⟩
   simp -dsimp -implicitDefEqProofs only [h3,h0,m75,sF75,ZA,↓reduceIte,ZB,ZC,ZJ,ZK,ZE,ZF,ZG,ZH,ZI,reduceCtorEq,ZD,mwV,↓mwD,mwU]
   refine iteW_dec (fun hlt => ?_) (fun hge => ?_)
   · have hlt' : k < gs.length := by omega
     obtain ⟨b, o, p, c, rfl, q0, q1, hf⟩ := (h.ext hx).get hlt'
     have hb1 : (0 : Int) ≤ k ∧ (k : Int) < gs.length := by omega
     have hw := w64_succ hlt' (Nat.le_trans hc1 hc2)
     simp -dsimp -implicitDefEqProofs only [h3,h0,hb1,and_self,q0,q1,Nat.mul_comm k 2,m75,sF75,ZA,↓reduceIte,ZB,ZC,ZJ,ZK,ZE,ZF,ZG,ZH,ZI,reduceCtorEq,ZD,mwV,↓mwD,mwU]
     refine (refFValid_c gs[k] _ w' hf).use ?_
     rintro r w2 ⟨rfl, h2⟩
     cases hv : gs[k].valid
     · simp -dsimp -implicitDefEqProofs only [h3,h0,m75,sF75,ZA,↓reduceIte,ZB,ZC,ZJ,ZK,ZE,ZF,ZG,ZH,ZI,reduceCtorEq,ZD,mwV,↓mwD,mwU]
       refine ⟨?_, hx.trans h2⟩
       have : gs.all Fm.valid = false := by
        rw [List.all_eq_false]; exact ⟨gs[k], List.getElem_mem hlt', by rw [hv]; decide⟩
       simp [rightG, this]
     · simp -dsimp -implicitDefEqProofs only [h3,h0,hw,m75,sF75,ZA,↓reduceIte,ZB,ZC,ZJ,ZK,ZE,ZF,ZG,ZH,ZI,reduceCtorEq,ZD,mwV,↓mwD,mwU]
       refine ⟨⟨k + 1, by omega, rfl, hx.trans h2, ?_⟩, by simp only [intOf]; omega⟩
       rw [List.take_succ_eq_append_getElem hlt', List.all_append, hall]; simp [hv]
   · have hkl : k = gs.length := by omega
     simp -dsimp -implicitDefEqProofs only [h3,h0,m75,sF75,ZA,↓reduceIte,ZB,ZC,ZJ,ZK,ZE,ZF,ZG,ZH,ZI,reduceCtorEq,ZD,mwV,↓mwD,mwU]
     refine ⟨?_, hx⟩
     rw [hkl, List.take_length] at hall
     simp [rightG, hall]
     omega
end Go.Proofs.YthcdnjbhhaonhaaGreatDoor
/- Layer 02: Filter, of the program and of the reference. -/
namespace Go.Proofs.YthcdnjbhhaonhaaGreatDoor
open Go.RowKit
open Nat renaming reduceEqDiff → ZA, reduceAdd → ZB, reduceMul → ZC, reduceSub → ZD
open Int renaming reduceToNat → ZE, reduceEq → ZF, reduceLT → ZG, reduceLE → ZH, reduceNeg → ZI
open Go.Value renaming oneCell' → ZK, cells → ZJ
open Go.Proofs.Tryz renaming prog → ZP
set_option linter.unusedSimpArgs false
theorem FilR_snoc : ∀ {l : List Fm} {f x : Fm} {gs : List Fm} {o : Option Fm}, FilR l f gs → JoinO x f o → FilR (l ++ [x]) f (gs ++ o.toList)
 | [], _, _, _, o, h, hj => by
  unfold FilR at h; subst h
  exact ⟨o, hj, [], rfl, by simp⟩
 | y :: l, f, x, gs, o, ⟨o', h1, gs', h2, h3⟩, hj => by
  refine ⟨o', h1, gs' ++ o.toList, FilR_snoc h2 hj, ?_⟩
  rw [h3, List.append_assoc]
def FilQ (l : List Fm) (f : Fm) (w : World) (r : Value) (w' : World) : Prop := Ext w w' ∧ if (rightG l && f.valid) = true then ∃ v gs, r = .tuple #[v, .int .i64 0] ∧ FilR l f (gs.map (·.1)) ∧ OwnG w' w.heap.size v gs else r = .tuple #[.slice none 0 0, .int .i64 1]
theorem OwnG.nil (w : World) (base : Nat) : OwnG w base (.slice none 0 0) [] := ⟨World.ownsRow_nil _ _ _ _, fun p hp => by cases hp⟩
theorem right_get {l : List Fm} (h : rightG l = true) {k : Nat} (hk : k < l.length) : l[k].valid = true ∧ l.length ≤ 40 := by
 unfold rightG at h
 simp only [Bool.and_eq_true,decide_eq_true_eq] at h
 exact ⟨List.all_eq_true.1 h.2 _ (List.getElem_mem hk), h.1⟩
theorem new_bk (w : World) (cs : List Value) (t : TypeId) : ∃ W, W = w.alloc (.cells cs.toArray t) ∧ Bk W w.heap.size cs t ∧ Ext w W := ⟨_, rfl, Bk.new _ _ _, Ext.alloc _ _⟩
set_option maxHeartbeats 1000000 in
theorem Filter_c (l : List Fm) (f : Fm) (v s : Value) (w : World) (hl : SlG w v l) (hs : SlF w s f.F) : Rets ZP 31 #[v, fmV f s] w (FilQ l f w) := by
 obtain ⟨q, cap, rfl, hc1, hc2⟩ := hl.shape
 obtain ⟨p, cp, rfl, _, _⟩ := hs.shape
 obtain ⟨W, hW, A, x0⟩ := new_bk w [.int .i64 f.m, .slice p f.F.length cp] 24
 refine en31 ?_
 simp -dsimp -implicitDefEqProofs only [fmV,← hW,m31,sF31,ZA,↓reduceIte,ZB,ZC,ZJ,ZK,ZE,ZF,ZG,ZH,ZI,reduceCtorEq,ZD,mwV,↓mwD,mwU]
 clear hW
 refine (valid_c' _ l W (hl.ext x0)).use ?_
 rintro r w1 ⟨rfl, h1⟩
 cases hr : rightG l
 · simp -dsimp -implicitDefEqProofs only [m31,sF31,ZA,↓reduceIte,ZB,ZC,ZJ,ZK,ZE,ZF,ZG,ZH,ZI,reduceCtorEq,ZD,mwV,↓mwD,mwU]
   exact ⟨x0.trans h1, by rw [hr]; rfl⟩
 have A0 := (A.ext h1).get (o := 0) rfl
 have A1 := (A.ext h1).get (o := 1) rfl
 simp -dsimp -implicitDefEqProofs only [A0,A1,m31,sF31,ZA,↓reduceIte,ZB,ZC,ZJ,ZK,ZE,ZF,ZG,ZH,ZI,reduceCtorEq,ZD,mwV,↓mwD,mwU]
 refine (Valid_c f _ w1 (hs.ext (x0.trans h1))).use ?_
 rintro r w2 ⟨rfl, h2⟩
 cases vf : f.valid
 · simp -dsimp -implicitDefEqProofs only [m31,sF31,ZA,↓reduceIte,ZB,ZC,ZJ,ZK,ZE,ZF,ZG,ZH,ZI,reduceCtorEq,ZD,mwV,↓mwD,mwU]
   exact ⟨x0.trans (h1.trans h2), by rw [hr, vf]; rfl⟩
 simp -dsimp -implicitDefEqProofs only [m31,sF31,ZA,↓reduceIte,ZB,ZC,ZJ,ZK,ZE,ZF,ZG,ZH,ZI,reduceCtorEq,ZD,mwV,↓mwD,mwU]
 refine mwpB_loop (fun e ds w' => ∃ (k : Nat) (gs : List (Fm × Value)) (v : Value), k ≤ l.length ∧ e 21 = .int .i64 k ∧ e 20 = .int .i64 l.length ∧ e 19 = .slice q l.length cap ∧ e 3 = .pointer (some ⟨w.heap.size, 0, none⟩) ∧ e 6 = v ∧ ds = [] ∧ Ext W w' ∧ OwnG w' W.heap.size v gs ∧ FilR (l.take k) f (gs.map (·.1)) ∧ gs.length ≤ k)
  (fun e _ => l.length - (intOf (e 21)).toNat) ?_ ?_
 · simp -dsimp -implicitDefEqProofs only [m31,sF31,ZA,↓reduceIte,ZB,ZC,ZJ,ZK,ZE,ZF,ZG,ZH,ZI,reduceCtorEq,ZD,mwV,↓mwD,mwU]
   exact ⟨0, [], _, by omega, rfl, rfl, h1.trans h2, OwnG.nil _ _, rfl, by simp⟩
 · rintro e ds w' ⟨k, gs, v, hk, h21, h20, h19, h3, h6, rfl, hx, hown, hfil, hgl⟩
   simp -dsimp -implicitDefEqProofs only [h21,h20,h19,h3,h6,m31,sF31,ZA,↓reduceIte,ZB,ZC,ZJ,ZK,ZE,ZF,ZG,ZH,ZI,reduceCtorEq,ZD,mwV,↓mwD,mwU]
   refine iteW_dec (fun hlt => ?_) (fun hge => ?_)
   · have hlt' : k < l.length := by omega
     obtain ⟨vk, h40⟩ := right_get hr hlt'
     obtain ⟨b, o, pk, ck, rfl, q0, q1, hf⟩ := (hl.ext (x0.trans hx)).get hlt'
     have hb1 : (0 : Int) ≤ k ∧ (k : Int) < l.length := by omega
     have hw := w64_succ hlt' (Nat.le_trans hc1 hc2)
     obtain ⟨W1, hW1, B, x1⟩ := new_bk w' [.int .i64 l[k].m, .slice pk l[k].F.length ck] 24
     have B0 := B.get (o := 0) rfl
     have B1 := B.get (o := 1) rfl
     have A0 := (A.ext (hx.trans x1)).get (o := 0) rfl
     have A1 := (A.ext (hx.trans x1)).get (o := 1) rfl
     simp -dsimp -implicitDefEqProofs only [h21,h20,h19,h3,h6,hb1,and_self,q0,q1,Nat.mul_comm k 2,← hW1,A0,A1,B0,B1,m31,sF31,ZA,↓reduceIte,ZB,ZC,ZJ,ZK,ZE,ZF,ZG,ZH,ZI,reduceCtorEq,ZD,mwV,↓mwD,mwU]
     clear hW1
     refine (join_r l[k] f _ _ W1 (hf.ext x1) (hs.ext (x0.trans (hx.trans x1))) vk vf).use ?_
     intro r w3 hj
     obtain ⟨h3', m, qj, kj, cj, c, rfl, hc⟩ := joinQ_tell hj
     obtain ⟨W4, hW4, D, x4⟩ := new_bk w3 [.int .i64 m, .slice qj kj cj] 24
     have D0 := D.get (o := 0) rfl
     have D1 := D.get (o := 1) rfl
     have xx : Ext w' W4 := x1.trans (h3'.trans x4)
     have e14 : W.heap.size ≤ W1.heap.size := (hx.trans x1).size
     rcases hc with ⟨rfl, acc, hjo, hof⟩ | ⟨hne, hjo⟩
     · obtain ⟨v', w5, happ, hown5, hext5⟩ := append_fm (hown.ext xx) ⟨m, acc.map (·.1)⟩ qj kj cj acc rfl ((hof.ext x4).mono e14) (by omega) (hx.trans xx).size
       simp -dsimp -implicitDefEqProofs only [h21,h20,h19,h3,h6,← hW4,D0,D1,bs_fm,m31,sF31,ZA,↓reduceIte,ZB,ZC,ZJ,ZK,ZE,ZF,ZG,ZH,ZI,reduceCtorEq,ZD,mwV,↓mwD,mwU]
       refine appB.mk happ ?_
       simp -dsimp -implicitDefEqProofs only [h21,h20,h19,h3,h6,hw,m31,sF31,ZA,↓reduceIte,ZB,ZC,ZJ,ZK,ZE,ZF,ZG,ZH,ZI,reduceCtorEq,ZD,mwV,↓mwD,mwU]
       refine ⟨⟨k + 1, gs ++ [(⟨m, acc.map (·.1)⟩, .slice qj kj cj)], _, by omega, rfl, rfl, hext5 (hx.trans xx) (Nat.le_refl _), hown5, ?_, by simp; omega⟩, by simp only [intOf]; omega⟩
       · rw [List.take_succ_eq_append_getElem hlt', List.map_append]
         exact FilR_snoc hfil hjo
     · simp -dsimp -implicitDefEqProofs only [h21,h20,h19,h3,h6,← hW4,hne,hw,m31,sF31,ZA,↓reduceIte,ZB,ZC,ZJ,ZK,ZE,ZF,ZG,ZH,ZI,reduceCtorEq,ZD,mwV,↓mwD,mwU]
       refine ⟨⟨k + 1, gs, _, by omega, rfl, rfl, hx.trans xx, hown.ext xx, ?_, by omega⟩, by simp only [intOf]; omega⟩
       rw [List.take_succ_eq_append_getElem hlt']
       have := FilR_snoc hfil hjo
       simpa using this
   · have hkl : k = l.length := by omega
     rw [hkl, List.take_length] at hfil
     simp -dsimp -implicitDefEqProofs only [h21,h20,h19,h3,h6,m31,sF31,ZA,↓reduceIte,ZB,ZC,ZJ,ZK,ZE,ZF,ZG,ZH,ZI,reduceCtorEq,ZD,mwV,↓mwD,mwU]
     refine ⟨x0.trans hx, ?_⟩
     rw [hr, vf, if_pos (by rfl)]
     exact ⟨_, gs, rfl, hfil, hown.mono x0.size⟩
end Go.Proofs.YthcdnjbhhaonhaaGreatDoor
