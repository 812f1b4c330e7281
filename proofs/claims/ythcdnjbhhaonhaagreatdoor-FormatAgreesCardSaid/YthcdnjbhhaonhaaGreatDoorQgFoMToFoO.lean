/- Layer 02: Fix, of the program and of the reference. -/
import Derived.Test.YthcdnjbhhaonhaaGreatDoorQgFoIToFoL

namespace Go.Proofs.YthcdnjbhhaonhaaGreatDoor
open Go.RowKit
open Nat renaming reduceEqDiff → ZA, reduceAdd → ZB, reduceMul → ZC, reduceSub → ZD
open Int renaming reduceToNat → ZE, reduceEq → ZF, reduceLT → ZG, reduceLE → ZH, reduceNeg → ZI
open Go.Value renaming oneCell' → ZK, cells → ZJ
open Go.Proofs.Tryz renaming prog → ZP
set_option linter.unusedSimpArgs false
theorem OwnF.push {w0 u u1 u2 : World} {b4 : Nat} {m v s v2 : Value} {acc : List (Fl × Value)} {f : Fl} (hext : Ext w0 u) (k4 : Bk u b4 [m, v] 24) (h : OwnF u w0.heap.size v acc) (hx : Ext u u1) (h4 : w0.heap.size ≤ b4) (hs : u1.ownsRow w0.heap.size 3 1 s f.c.L.length (ints f.c.L))
 (hown : u2.ownsRow w0.heap.size 72 4 v2 (acc ++ [(f, s)]).length (rowsF (acc ++ [(f, s)]))) (hg : (u1.alloc (.cells #[.int .i64 f.key, .int .i64 f.c.k, .int .i64 f.c.d, s] 72)).grownBy u2 v.ownBlock) :
 Ext w0 u2 ∧ Bk u2 b4 [m, v] 24 ∧ Bk (u2.setCell ⟨b4, 1, none⟩ v2) b4 [m, v2] 24 ∧ OwnF (u2.setCell ⟨b4, 1, none⟩ v2) w0.heap.size v2 (acc ++ [(f, s)]) ∧ Ext w0 (u2.setCell ⟨b4, 1, none⟩ v2) ∧
  ∀ k, k < u.heap.size → k ≠ b4 → Odd u k → (u2.setCell ⟨b4, 1, none⟩ v2).heap[k]? = u.heap[k]? := by
 have hx1 : Ext u (u1.alloc (.cells #[.int .i64 f.key, .int .i64 f.c.k, .int .i64 f.c.d, s] 72)) := hx.trans (Ext.alloc _ _)
 have rowO : ∀ k, v.ownBlock = some k → ∃ cur, u.heap[k]? = some (Obj.cells cur 72) := fun k hk => by
  rcases h.1.2 with ⟨hv, _⟩ | ⟨g, cap, cur, hv, _, hh, _⟩
  · rw [hv] at hk; cases hk
  · rw [hv] at hk; simp only [Value.ownBlock,Option.some.injEq] at hk; subst hk; exact ⟨cur, hh⟩
 have keep2 : ∀ k, k < u.heap.size → (∀ cur, u.heap[k]? ≠ some (Obj.cells cur 72)) → u2.heap[k]? = u.heap[k]? := fun k hk hn => by
  rw [hg.block k (Nat.lt_of_lt_of_le hk hx1.size) (fun e => by obtain ⟨cur, hc⟩ := rowO k e.symm; exact hn cur hc), hx1.block k hk]
 have odd2 : ∀ k, Odd u k → ∀ cur, u.heap[k]? ≠ some (Obj.cells cur 72) := fun k ho cur hc => (ho cur _ hc).1 rfl
 have k42 : Bk u2 b4 [m, v] 24 := by
  unfold Bk; rw [keep2 b4 k4.lt (odd2 _ (k4.odd (by decide) (by decide)))]; exact k4
 have listK : ∀ {k : Nat} {cur : Array Value}, u1.heap[k]? = some (Obj.cells cur 3) → (u2.setCell ⟨b4, 1, none⟩ v2).heap[k]? = u1.heap[k]? := fun {k cur} hk => by
  have hkl := (Array.getElem?_eq_some_iff.1 hk).1
  have hkb : k ≠ b4 := fun e => by
   have := k4.ext hx
   unfold Bk at this
   rw [← e, hk] at this
   simp at this
  rw [Below.heap_setCell _ _ _ _ hkb, hg.block k (by rw [World.size_alloc]; omega) (fun e => ?_), Below.heap_alloc _ _ _ hkl]
  obtain ⟨cur', hc⟩ := rowO k e.symm
  have hku := (Array.getElem?_eq_some_iff.1 hc).1
  rw [hx.block k hku, hc] at hk
  simp at hk
 have hx2 : Ext w0 u2 := ((hext.trans hx).trans (Ext.alloc _ _)).grown hg (fun k hk => (World.ownsRow.lt h.1 k hk).1)
 refine ⟨hx2, k42, k42.set 1 v2, ⟨Own.off hown (own_ne hown k42 (by decide)), fun p hp => ?_⟩, hx2.setCell h4 _, fun k hk hk4 ho => ?_⟩
 · rcases List.mem_append.1 hp with hp | hp
   · exact Own.ch (Own.ext (h.2 p hp) hx) fun k cur hk => listK hk
   · simp only [List.mem_singleton] at hp
     subst hp
     exact Own.ch hs fun k cur hk => listK hk
 · rw [Below.heap_setCell _ _ _ _ hk4]; exact keep2 k hk (odd2 k ho)
theorem box_fm (w : World) (cs : List Value) (t : TypeId) (ds : List Value) (t' : TypeId) : ∃ W, W = (w.alloc (.cells cs.toArray t)).alloc (.cells ds.toArray t') ∧ Bk W w.heap.size cs t ∧ Bk W (w.heap.size + 1) ds t' ∧ Ext w W := by
 refine ⟨_, rfl, (Bk.new w cs t).ext (Ext.alloc _ _), ?_, (Ext.alloc _ _).trans (Ext.alloc _ _)⟩
 have := Bk.new (w.alloc (.cells cs.toArray t)) ds t'
 rw [World.size_alloc] at this
 exact this
def fixF (f : Fl) : Fl := ⟨f.key, ⟨1, f.c.d, [f.c.d]⟩⟩
theorem bv_fm1 (m : Int) : buildV ZP 24 [(0, .int .i64 m)] = some (.agg #[.int .i64 m, .slice none 0 0]) := by kernel_rfl
theorem bv_fix (d : Int) (q : Option Addr) (n c : Nat) : buildV ZP 35 [(0, .int .i64 1), (1, .int .i64 d), (2, .slice q n c)] = some (.agg #[.int .i64 1, .int .i64 d, .slice q n c]) := by kernel_rfl
theorem one_int (u : World) (base : Nat) (d : Int) (hb : base ≤ u.heap.size) : (u.alloc (.cells #[.int .i64 d] 3)).ownsRow base 3 1 (.slice (some ⟨u.heap.size, 0, none⟩) 1 1) 1 (ints [d]) := own_new u (ints [d]) 3 base 1 1 rfl hb (by unfold maxLen; omega)
theorem fix_row (w : World) (cs : List Value) (d : Int) (base : Nat) (hb : base ≤ w.heap.size) : ∃ U3, U3 = ((w.alloc (.cells cs.toArray 72)).alloc (.cells #[.int .i64 d] 3)).alloc (.cells #[.int .i64 1, .int .i64 d, .slice (some ⟨w.heap.size + 1, 0, none⟩) 1 1] 35) ∧ Bk U3 w.heap.size cs 72 ∧
 U3.ownsRow base 3 1 (.slice (some ⟨w.heap.size + 1, 0, none⟩) 1 1) 1 (ints [d]) ∧ Bk U3 (w.heap.size + 1 + 1) [.int .i64 1, .int .i64 d, .slice (some ⟨w.heap.size + 1, 0, none⟩) 1 1] 35 ∧ Ext w U3 := by
 refine ⟨_, rfl, ((Bk.new w cs _).ext (Ext.alloc _ _)).ext (Ext.alloc _ _), ?_, ?_, ((Ext.alloc _ _).trans (Ext.alloc _ _)).trans (Ext.alloc _ _)⟩
 · have := one_int (w.alloc (.cells cs.toArray 72)) base d (by rw [World.size_alloc]; omega)
   rw [World.size_alloc] at this
   exact Own.ext this (Ext.alloc _ _)
 · have := Bk.new ((w.alloc (.cells cs.toArray 72)).alloc (.cells #[.int .i64 d] 3)) [.int .i64 1, .int .i64 d, .slice (some ⟨w.heap.size + 1, 0, none⟩) 1 1] 35
   rw [World.size_alloc, World.size_alloc] at this
   exact this
def FixQ (f : Fm) (w : World) (r : Value) (w' : World) : Prop := Ext w w' ∧ ∃ s acc, r = fmV ⟨f.m, f.F.map fixF⟩ s ∧ acc.map (·.1) = f.F.map fixF ∧ OwnF w' w.heap.size s acc
theorem fix_c (f : Fm) (s : Value) (w : World) (hs : SlF w s f.F) (hlen : f.F.length ≤ 1000) : Rets ZP 77 #[fmV f s] w (FixQ f w) := by
 obtain ⟨p, cap, rfl, hc1, hc2⟩ := hs.shape
 obtain ⟨W, hW, A, B, hx⟩ := box_fm w [.int .i64 f.m, .slice p f.F.length cap] 24 [.int .i64 0, .slice none 0 0] 24
 have hsz : W.heap.size = w.heap.size + 2 := by rw [hW]; simp only [World.size_alloc]
 refine en77 ?_
 refine mwpB_cut 1 (fun e ds w' => e 1 = .pointer (some ⟨w.heap.size, 0, none⟩) ∧ e 2 = .pointer (some ⟨w.heap.size + 1, 0, none⟩) ∧ ds = [] ∧ w' = W) ?_ ?_
 · simp -dsimp -implicitDefEqProofs only [fmV,headM_zero,headM_seq,World.size_alloc,hW,m77,sF77,ZA,↓reduceIte,ZB,ZC,ZJ,ZK,ZE,ZF,ZG,ZH,ZI,reduceCtorEq,ZD,mwV,↓mwD,mwU]
 rintro e ds w0 ⟨k1, k2, rfl, rfl⟩
 clear hW
 have A0 := A.get (o := 0) rfl
 have A1 := A.get (o := 1) rfl
 have x3 : Ext w0 (w0.alloc (.cells #[.int .i64 f.m, .slice none 0 0] 24)) := Ext.alloc _ _
 have C := Bk.new w0 [.int .i64 f.m, .slice none 0 0] 24
 have A1' := x3.cell A1
 simp -dsimp -implicitDefEqProofs only [tailM_zero,tailM_seq,k1,k2,A0,bv_fm1,setCell_new,A1',m77,sF77,ZA,↓reduceIte,ZB,ZC,ZJ,ZK,ZE,ZF,ZG,ZH,ZI,reduceCtorEq,ZD,mwV,↓mwD,mwU]
 replace A := A.ext x3
 replace B := B.ext x3
 have hx3 := hx.trans x3
 have hsz3 : (w0.alloc (.cells #[.int .i64 f.m, .slice none 0 0] 24)).heap.size = w0.heap.size + 1 := World.size_alloc _ _
 generalize hW1 : w0.alloc _ = W1 at *
 have hC : Bk W1 w0.heap.size [.int .i64 f.m, .slice none 0 0] 24 := C
 refine mwpB_loop (fun e ds w' => ∃ (k : Nat) (acc : List (Fl × Value)) (v : Value), k ≤ f.F.length ∧ e 13 = .int .i64 k ∧ e 12 = .int .i64 f.F.length ∧ e 11 = .slice p f.F.length cap ∧ e 2 = .pointer (some ⟨w.heap.size + 1, 0, none⟩) ∧ e 3 = .pointer (some ⟨w0.heap.size, 0, none⟩) ∧ ds = [] ∧
  Ext w w' ∧ Bk w' (w.heap.size + 1) [.int .i64 0, .slice none 0 0] 24 ∧ Bk w' w0.heap.size [.int .i64 f.m, v] 24 ∧ OwnF w' w.heap.size v acc ∧ acc.map (·.1) = (f.F.take k).map fixF)
  (fun e _ => f.F.length - (intOf (e 13)).toNat) ?_ ?_
 · simp -dsimp -implicitDefEqProofs only [k2,m77,sF77,ZA,↓reduceIte,ZB,ZC,ZJ,ZK,ZE,ZF,ZG,ZH,ZI,reduceCtorEq,ZD,mwV,↓mwD,mwU]
   exact ⟨0, [], _, by omega, rfl, hx3, B, hC, ⟨World.ownsRow_nil _ _ _ _, fun p hp => by cases hp⟩, rfl⟩
 · rintro e ds w' ⟨k, acc, v, hk, h13, h12, h11, h2, h3, rfl, hxw, kB, kC, hown, hacc⟩
   simp -dsimp -implicitDefEqProofs only [h13,h12,h11,h2,h3,m77,sF77,ZA,↓reduceIte,ZB,ZC,ZJ,ZK,ZE,ZF,ZG,ZH,ZI,reduceCtorEq,ZD,mwV,↓mwD,mwU]
   refine iteW_dec (fun hlt => ?_) (fun hge => ?_)
   · have hlt' : k < f.F.length := by omega
     have hal : acc.length = k := by have := congrArg List.length hacc; simp at this; omega
     obtain ⟨b, o, rfl, hfs⟩ := (hs.ext hxw).at (by intro h0; rw [h0] at hlt'; simp at hlt')
     obtain ⟨sk, q0, q1, q2, q3, hsk⟩ := hfs.get hlt'
     obtain ⟨ps, cs, rfl, _, _⟩ := hsk.shape
     have hb1 : (0 : Int) ≤ k ∧ (k : Int) < f.F.length := by omega
     have hw := w64_succ hlt' (Nat.le_trans hc1 hc2)
     obtain ⟨U3, hU3, F0, R1, C2, x3'⟩ := fix_row w' (flVs f.F[k] (.slice ps f.F[k].c.L.length cs)) f.F[k].c.d w.heap.size hxw.size
     have c0 := C2.get (o := 0) rfl
     have c1 := C2.get (o := 1) rfl
     have c2 := C2.get (o := 2) rfl
     have g0 := F0.get (o := 0) rfl
     have v1 := (kC.ext x3').get (o := 1) rfl
     obtain ⟨v2, u2, happ, hown2, hg2⟩ := append_fl (hown.ext x3').1 (fixF f.F[k]) (.slice (some ⟨w'.heap.size + 1, 0, none⟩) 1 1) rfl (by omega) (hxw.trans x3').size
     obtain ⟨p1, p2, p3, p4, p5, p6⟩ := OwnF.push hxw kC hown x3' (by omega) R1 hown2 hg2
     have r1 := p2.get (o := 1) rfl
     have fz := p2.frozen 1
     obtain ⟨qv, nv, cv, rfl⟩ := own_slice hown2
     have bsf := bs_fl (fixF f.F[k]) (.slice (some ⟨w'.heap.size + 1, 0, none⟩) 1 1)
     simp only [fixF] at bsf
     simp -dsimp -implicitDefEqProofs only [h13,h12,h11,h2,h3,hb1,and_self,q0,q1,q2,q3,Nat.mul_comm k 4,bs_one,bv_fix,m77,sF77,ZA,↓reduceIte,ZB,ZC,ZJ,ZK,ZE,ZF,ZG,ZH,ZI,reduceCtorEq,ZD,mwV,↓mwD,mwU]
     simp only [flVs] at hU3
     simp -dsimp -implicitDefEqProofs only [World.size_alloc,← hU3,h3,v1,g0,c0,c1,c2,bv_fl,bsf,m77,sF77,ZA,↓reduceIte,ZB,ZC,ZJ,ZK,ZE,ZF,ZG,ZH,ZI,reduceCtorEq,ZD,mwV,↓mwD,mwU]
     refine appB.mk happ ?_
     simp -dsimp -implicitDefEqProofs only [h13,h12,h11,h2,h3,r1,fz,hw,m77,sF77,ZA,↓reduceIte,ZB,ZC,ZJ,ZK,ZE,ZF,ZG,ZH,ZI,reduceCtorEq,ZD,mwV,↓mwD,mwU]
     refine ⟨⟨k + 1, acc ++ [(fixF f.F[k], .slice (some ⟨w'.heap.size + 1, 0, none⟩) 1 1)], _, by omega, rfl, p5, ?_, p3, p4, ?_⟩, by simp only [intOf]; omega⟩
     · unfold Bk
       rw [p6 _ kB.lt (by omega) (kB.odd (by decide) (by decide))]; exact kB
     · rw [List.map_append, hacc, List.take_succ_eq_append_getElem hlt', List.map_append]; rfl
   · have hkl : k = f.F.length := by omega
     subst hkl
     rw [List.take_length] at hacc
     obtain ⟨qv, nv, cv, rfl⟩ := own_slice hown.1
     have c0 := kC.get (o := 0) rfl
     have c1 := kC.get (o := 1) rfl
     have b0 := kB.get (o := 0) rfl
     have d1 := kB.set 0 (.int .i64 f.m)
     have b1 := d1.get (o := 1) rfl
     have d2 := d1.set 1 (.slice qv nv cv)
     have f0 := kB.frozen 0
     have f1 := d1.frozen 1
     have r0 := d2.get (o := 0) rfl
     have r1 := d2.get (o := 1) rfl
     have hch : ChP (fun j => j = w.heap.size + 1) w' ((w'.setCell ⟨w.heap.size + 1, 0, none⟩ (.int .i64 f.m)).setCell ⟨w.heap.size + 1, 1, none⟩ (.slice qv nv cv)) := ChP.setCell (G := fun k => k = w.heap.size + 1) (ChP.setCell (G := fun k => k = w.heap.size + 1) (ChP.refl _ w') (fun _ => rfl) _) (fun _ => rfl) _
     simp -dsimp -implicitDefEqProofs only [h13,h12,h11,h2,h3,c0,c1,b0,b1,f0,f1,r0,r1,m77,sF77,ZA,↓reduceIte,ZB,ZC,ZJ,ZK,ZE,ZF,ZG,ZH,ZI,reduceCtorEq,ZD,mwV,↓mwD,mwU]
     exact ⟨hch.ext hxw (fun b hb => by subst hb; omega), _, acc, rfl, hacc, hown.ch hch (fun b hb => by subst hb; exact kB.odd (by decide) (by decide))⟩
theorem Fix1_c (f : Fm) (s : Value) (w : World) (hs : SlF w s f.F) (hlen : f.F.length ≤ 1000) : Rets ZP 78 #[fmV f s] w (FixQ f w) := by
 obtain ⟨p, cap, rfl, hc1, hc2⟩ := hs.shape
 obtain ⟨W, hW, A, B, hx⟩ := box_fm w [.int .i64 f.m, .slice p f.F.length cap] 24 [.int .i64 0, .slice none 0 0] 24
 have hsz : W.heap.size = w.heap.size + 2 := by rw [hW]; simp only [World.size_alloc]
 refine en78 ?_
 refine mwpB_cut 1 (fun e ds w' => e 1 = .pointer (some ⟨w.heap.size, 0, none⟩) ∧ e 2 = .pointer (some ⟨w.heap.size + 1, 0, none⟩) ∧ ds = [] ∧ w' = W) ?_ ?_
 · simp -dsimp -implicitDefEqProofs only [fmV,headM_zero,headM_seq,World.size_alloc,hW,m78,sF78,ZA,↓reduceIte,ZB,ZC,ZJ,ZK,ZE,ZF,ZG,ZH,ZI,reduceCtorEq,ZD,mwV,↓mwD,mwU]
 rintro e ds w0 ⟨k1, k2, rfl, rfl⟩
 clear hW
 have A0 := A.get (o := 0) rfl
 have A1 := A.get (o := 1) rfl
 have x3 : Ext w0 (w0.alloc (.cells #[.int .i64 f.m, .slice none 0 0] 24)) := Ext.alloc _ _
 have C := Bk.new w0 [.int .i64 f.m, .slice none 0 0] 24
 have A1' := x3.cell A1
 simp -dsimp -implicitDefEqProofs only [tailM_zero,tailM_seq,k1,k2,A0,bv_fm1,setCell_new,A1',m78,sF78,ZA,↓reduceIte,ZB,ZC,ZJ,ZK,ZE,ZF,ZG,ZH,ZI,reduceCtorEq,ZD,mwV,↓mwD,mwU]
 replace A := A.ext x3
 replace B := B.ext x3
 have hx3 := hx.trans x3
 have hsz3 : (w0.alloc (.cells #[.int .i64 f.m, .slice none 0 0] 24)).heap.size = w0.heap.size + 1 := World.size_alloc _ _
 generalize hW1 : w0.alloc _ = W1 at *
 have hC : Bk W1 w0.heap.size [.int .i64 f.m, .slice none 0 0] 24 := C
 refine mwpB_loop (fun e ds w' => ∃ (k : Nat) (acc : List (Fl × Value)) (v : Value), k ≤ f.F.length ∧ e 4 = .int .i64 k ∧ e 1 = .pointer (some ⟨w.heap.size, 0, none⟩) ∧ e 2 = .pointer (some ⟨w.heap.size + 1, 0, none⟩) ∧ e 3 = .pointer (some ⟨w0.heap.size, 0, none⟩) ∧ ds = [] ∧
  Ext w w' ∧ Bk w' w.heap.size [.int .i64 f.m, .slice p f.F.length cap] 24 ∧ Bk w' (w.heap.size + 1) [.int .i64 0, .slice none 0 0] 24 ∧ Bk w' w0.heap.size [.int .i64 f.m, v] 24 ∧ OwnF w' w.heap.size v acc ∧ acc.map (·.1) = (f.F.take k).map fixF)
  (fun e _ => f.F.length - (intOf (e 4)).toNat) ?_ ?_
 · simp -dsimp -implicitDefEqProofs only [k1,k2,m78,sF78,ZA,↓reduceIte,ZB,ZC,ZJ,ZK,ZE,ZF,ZG,ZH,ZI,reduceCtorEq,ZD,mwV,↓mwD,mwU]
   exact ⟨0, [], _, by omega, rfl, hx3, A, B, hC, ⟨World.ownsRow_nil _ _ _ _, fun p hp => by cases hp⟩, rfl⟩
 · rintro e ds w' ⟨k, acc, v, hk, h4, h1, h2, h3, rfl, hxw, kA, kB, kC, hown, hacc⟩
   have a1 := kA.get (o := 1) rfl
   simp -dsimp -implicitDefEqProofs only [h4,h1,h2,h3,a1,m78,sF78,ZA,↓reduceIte,ZB,ZC,ZJ,ZK,ZE,ZF,ZG,ZH,ZI,reduceCtorEq,ZD,mwV,↓mwD,mwU]
   refine iteW_dec (fun hlt => ?_) (fun hge => ?_)
   · have hlt' : k < f.F.length := by omega
     have hal : acc.length = k := by have := congrArg List.length hacc; simp at this; omega
     obtain ⟨b, o, rfl, hfs0⟩ := hs.at (by intro h0; rw [h0] at hlt'; simp at hlt')
     obtain ⟨sk, q0', _⟩ := hfs0.get hlt'
     have q0 := hxw.cell q0'
     obtain ⟨_, _, _, q2, _⟩ := (hfs0.ext hxw).get hlt'
     have hb1 : (0 : Int) ≤ k ∧ (k : Int) < f.F.length := by omega
     have hw := w64_succ hlt' (Nat.le_trans hc1 hc2)
     have c1 := kC.get (o := 1) rfl
     simp -dsimp -implicitDefEqProofs only [h4,h1,h2,h3,a1,hb1,and_self,q2,Nat.mul_comm k 4,m78,sF78,ZA,↓reduceIte,ZB,ZC,ZJ,ZK,ZE,ZF,ZG,ZH,ZI,reduceCtorEq,ZD,mwV,↓mwD,mwU]
     refine mwpB_draw (fun w'' => w''.cell? ⟨w0.heap.size, 1, none⟩ = some v ∧ w''.cell? ⟨w.heap.size, 1, none⟩ = some (.slice (some ⟨b, o, none⟩) f.F.length cap) ∧ w''.cell? ⟨b, o + 4 * k, none⟩ = some (.int .i64 f.F[k].key)) ⟨c1, a1, q0⟩ ?_
     simp -dsimp -implicitDefEqProofs only [h4,h1,h2,h3,m78,sF78,ZA,↓reduceIte,ZB,ZC,ZJ,ZK,ZE,ZF,ZG,ZH,ZI,reduceCtorEq,ZD,mwV,↓mwD,mwU]
     refine softB_load (v := v) (fun w'' hw' => ?_) ?_
     · simp -dsimp -implicitDefEqProofs only [h3,hw'.1,m78,sF78,ZA,↓reduceIte,ZB,ZC,ZJ,ZK,ZE,ZF,ZG,ZH,ZI,reduceCtorEq,ZD,mwV,↓mwD,mwU]
     simp -dsimp -implicitDefEqProofs only [h4,h1,h2,h3,m78,sF78,ZA,↓reduceIte,ZB,ZC,ZJ,ZK,ZE,ZF,ZG,ZH,ZI,reduceCtorEq,ZD,mwV,↓mwD,mwU]
     refine softB_load (v := .slice (some ⟨b, o, none⟩) f.F.length cap) (fun w'' hw' => ?_) ?_
     · simp -dsimp -implicitDefEqProofs only [h1,hw'.2.1,m78,sF78,ZA,↓reduceIte,ZB,ZC,ZJ,ZK,ZE,ZF,ZG,ZH,ZI,reduceCtorEq,ZD,mwV,↓mwD,mwU]
     simp -dsimp -implicitDefEqProofs only [h4,h1,h2,h3,hb1,and_self,Nat.mul_comm k 4,m78,sF78,ZA,↓reduceIte,ZB,ZC,ZJ,ZK,ZE,ZF,ZG,ZH,ZI,reduceCtorEq,ZD,mwV,↓mwD,mwU]
     refine softB_load (v := .int .i64 f.F[k].key) (fun w'' hw' => ?_) ?_
     · simp -dsimp -implicitDefEqProofs only [hw'.2.2,m78,sF78,ZA,↓reduceIte,ZB,ZC,ZJ,ZK,ZE,ZF,ZG,ZH,ZI,reduceCtorEq,ZD,mwV,↓mwD,mwU]
     have bsf := bs_fl (fixF f.F[k]) (.slice (some ⟨w'.drew.heap.size, 0, none⟩) 1 1)
     simp only [fixF] at bsf
     simp -dsimp -implicitDefEqProofs only [h4,h1,h2,h3,bs_one,bv_fix,bv_fl,bsf,m78,sF78,ZA,↓reduceIte,ZB,ZC,ZJ,ZK,ZE,ZF,ZG,ZH,ZI,reduceCtorEq,ZD,mwV,↓mwD,mwU]
     have R1 := one_int w'.drew w.heap.size f.F[k].c.d hxw.size
     have x3' : Ext w' (w'.drew.alloc (.cells #[.int .i64 f.F[k].c.d] 3)) := (Ext.drew w').trans (Ext.alloc _ _)
     have xr : ∀ (o : Obj), Ext w' ((w'.drew.alloc (.cells #[.int .i64 f.F[k].c.d] 3)).alloc o) := fun o => x3'.trans (Ext.alloc _ _)
     refine ⟨⟨x3'.cell c1, x3'.cell a1, x3'.cell q0⟩, ⟨(xr _).cell c1, (xr _).cell a1, (xr _).cell q0⟩, ?_⟩
     obtain ⟨v2, u2, happ, hown2, hg2⟩ := append_fl (hown.ext x3').1 (fixF f.F[k]) (.slice (some ⟨w'.drew.heap.size, 0, none⟩) 1 1) rfl (by omega) (hxw.trans x3').size
     obtain ⟨p1, p2, p3, p4, p5, p6⟩ := OwnF.push hxw kC hown x3' (by omega) R1 hown2 hg2
     have r1 := p2.get (o := 1) rfl
     have fz := p2.frozen 1
     obtain ⟨qv, nv, cv, rfl⟩ := own_slice hown2
     refine appB.mk happ ?_
     have oddF : ∀ {j : Nat} {cs : List Value}, Bk w' j cs 24 → Odd w' j := fun h => h.odd (by decide) (by decide)
     have a2 : u2.cell? ⟨w.heap.size, 1, none⟩ = some (.slice (some ⟨b, o, none⟩) f.F.length cap) := by
      have := p6 _ kA.lt (by omega) (oddF kA)
      rw [Below.heap_setCell _ _ _ _ (by simp; omega)] at this
      rw [World.cell?_of_block (w := w') this]; exact a1
     refine ⟨⟨r1, a2, p1.cell q0'⟩, ?_⟩
     simp -dsimp -implicitDefEqProofs only [h4,h1,h2,h3,r1,fz,hw,m78,sF78,ZA,↓reduceIte,ZB,ZC,ZJ,ZK,ZE,ZF,ZG,ZH,ZI,reduceCtorEq,ZD,mwV,↓mwD,mwU]
     refine ⟨⟨k + 1, acc ++ [(fixF f.F[k], .slice (some ⟨w'.drew.heap.size, 0, none⟩) 1 1)], _, by omega, rfl, p5, ?_, ?_, p3, p4, ?_⟩, by simp only [intOf]; omega⟩
     · unfold Bk
       rw [p6 _ kA.lt (by omega) (oddF kA)]; exact kA
     · unfold Bk
       rw [p6 _ kB.lt (by omega) (oddF kB)]; exact kB
     · rw [List.map_append, hacc, List.take_succ_eq_append_getElem hlt', List.map_append]; rfl
   · have hkl : k = f.F.length := by omega
     subst hkl
     rw [List.take_length] at hacc
     obtain ⟨qv, nv, cv, rfl⟩ := own_slice hown.1
     have c0 := kC.get (o := 0) rfl
     have c1 := kC.get (o := 1) rfl
     have b0 := kB.get (o := 0) rfl
     have d1 := kB.set 0 (.int .i64 f.m)
     have b1 := d1.get (o := 1) rfl
     have d2 := d1.set 1 (.slice qv nv cv)
     have f0 := kB.frozen 0
     have f1 := d1.frozen 1
     have r0 := d2.get (o := 0) rfl
     have r1 := d2.get (o := 1) rfl
     have hch : ChP (fun j => j = w.heap.size + 1) w' ((w'.setCell ⟨w.heap.size + 1, 0, none⟩ (.int .i64 f.m)).setCell ⟨w.heap.size + 1, 1, none⟩ (.slice qv nv cv)) := ChP.setCell (G := fun k => k = w.heap.size + 1) (ChP.setCell (G := fun k => k = w.heap.size + 1) (ChP.refl _ w') (fun _ => rfl) _) (fun _ => rfl) _
     simp -dsimp -implicitDefEqProofs only [h4,h1,h2,h3,c0,c1,b0,b1,f0,f1,r0,r1,m78,sF78,ZA,↓reduceIte,ZB,ZC,ZJ,ZK,ZE,ZF,ZG,ZH,ZI,reduceCtorEq,ZD,mwV,↓mwD,mwU]
     exact ⟨hch.ext hxw (fun b hb => by subst hb; omega), _, acc, rfl, hacc, hown.ch hch (fun b hb => by subst hb; exact kB.odd (by decide) (by decide))⟩
end Go.Proofs.YthcdnjbhhaonhaaGreatDoor
/- Layer 02: Fix and Fixed, of the program and of the reference. -/
namespace Go.Proofs.YthcdnjbhhaonhaaGreatDoor
open Go.RowKit
open Nat renaming reduceEqDiff → ZA, reduceAdd → ZB, reduceMul → ZC, reduceSub → ZD
open Int renaming reduceToNat → ZE, reduceEq → ZF, reduceLT → ZG, reduceLE → ZH, reduceNeg → ZI
open Go.Value renaming oneCell' → ZK, cells → ZJ
open Go.Proofs.Tryz renaming prog → ZP
set_option linter.unusedSimpArgs false
def FixR (f : Fm) (w : World) (r : Value) (w' : World) : Prop := Ext w w' ∧ if f.valid = true then ∃ s acc, r = .tuple #[fmV ⟨f.m, f.F.map fixF⟩ s, .int .i64 0] ∧ acc.map (·.1) = f.F.map fixF ∧ OwnF w' w.heap.size s acc else r = .tuple #[.agg #[.int .i64 0, .slice none 0 0], .int .i64 1]
def fixedB (f : Fm) : Bool := f.F.all fun x => decide (x.c.k = 1)
theorem Fixed1_c (x : Fl) (s : Value) (w : World) : Rets ZP 80 #[flA x s] w fun r w' => r = .bool (!decide (x.c.k = 1)) ∧ Ext w w' := by
 refine en80 ?_
 simp -dsimp -implicitDefEqProofs only [flA,m80,sF80,ZA,↓reduceIte,ZB,ZC,ZJ,ZK,ZE,ZF,ZG,ZH,ZI,reduceCtorEq,ZD,mwV,↓mwD,mwU]
 exact Ext.alloc _ _
theorem IndexFF_c (v : Value) (A : List Fl) (w : World) (hA : SlF w v A) : Rets ZP 112 #[v, .func (.func 80) #[] #[]] w fun r w' => (∃ i : Int, r = .int .i64 i ∧ decide (0 ≤ i) = !(A.all fun x => decide (x.c.k = 1))) ∧ Ext w w' := by
 obtain ⟨q, cap, rfl, hc1, hc2⟩ := hA.shape
 have hok := okF_80
 refine en112 ?_
 simp -dsimp -implicitDefEqProofs only [m112,sF112,ZA,↓reduceIte,ZB,ZC,ZJ,ZK,ZE,ZF,ZG,ZH,ZI,reduceCtorEq,ZD,mwV,↓mwD,mwU]
 refine mwpB_loop (fun e ds w' => ∃ k : Nat, k ≤ A.length ∧ e 8 = .int .i64 k ∧ e 7 = .int .i64 A.length ∧ e 0 = .slice q A.length cap ∧ e 1 = .func (.func 80) #[] #[] ∧ ds = [] ∧ Ext w w' ∧ ((A.take k).all fun x => decide (x.c.k = 1)) = true)
  (fun e _ => A.length - (intOf (e 8)).toNat) ?_ ?_
 · simp -dsimp -implicitDefEqProofs only [m112,sF112,ZA,↓reduceIte,ZB,ZC,ZJ,ZK,ZE,ZF,ZG,ZH,ZI,reduceCtorEq,ZD,mwV,↓mwD,mwU]
   exact ⟨0, by omega, rfl, Ext.refl _, rfl⟩
 · rintro e ds w' ⟨k, hk, h8, h7, h0, h1, rfl, hx, hall⟩
   simp -dsimp -implicitDefEqProofs only [h8,h7,h0,h1,m112,sF112,ZA,↓reduceIte,ZB,ZC,ZJ,ZK,ZE,ZF,ZG,ZH,ZI,reduceCtorEq,ZD,mwV,↓mwD,mwU]
   refine iteW_dec (fun hlt => ?_) (fun hge => ?_)
   · have hlt' : k < A.length := by omega
     obtain ⟨b, o, rfl, hfs⟩ := (hA.ext hx).at (by intro h0; rw [h0] at hlt'; simp at hlt')
     obtain ⟨s, q0, q1, q2, q3, hs⟩ := hfs.get hlt'
     have hb1 : (0 : Int) ≤ k ∧ (k : Int) < A.length := by omega
     have hw := w64_succ hlt' (Nat.le_trans hc1 hc2)
     simp -dsimp -implicitDefEqProofs only [h8,h7,h0,h1,hb1,and_self,q0,q1,q2,q3,Nat.mul_comm k 4,hok,m112,sF112,ZA,↓reduceIte,ZB,ZC,ZJ,ZK,ZE,ZF,ZG,ZH,ZI,reduceCtorEq,ZD,mwV,↓mwD,mwU]
     refine (Fixed1_c A[k] s w').use ?_
     rintro r w2 ⟨rfl, h2⟩
     by_cases hk1 : A[k].c.k = 1
     · have dk : decide (A[k].c.k = 1) = true := by simp [hk1]
       simp -dsimp -implicitDefEqProofs only [h8,h7,h0,h1,dk,hw,m112,sF112,ZA,↓reduceIte,ZB,ZC,ZJ,ZK,ZE,ZF,ZG,ZH,ZI,reduceCtorEq,ZD,mwV,↓mwD,mwU]
       refine ⟨⟨k + 1, by omega, rfl, hx.trans h2, ?_⟩, by simp only [intOf]; omega⟩
       rw [List.take_succ_eq_append_getElem hlt', List.all_append, hall]; simp [hk1]
     · have dk : decide (A[k].c.k = 1) = false := by simp [hk1]
       simp -dsimp -implicitDefEqProofs only [h8,h7,h0,h1,dk,m112,sF112,ZA,↓reduceIte,ZB,ZC,ZJ,ZK,ZE,ZF,ZG,ZH,ZI,reduceCtorEq,ZD,mwV,↓mwD,mwU]
       refine ⟨⟨_, rfl, ?_⟩, hx.trans h2⟩
       have : (A.all fun x => decide (x.c.k = 1)) = false := by
        rw [List.all_eq_false]; exact ⟨A[k], List.getElem_mem hlt', by simp [hk1]⟩
       rw [this]; simp
   · have hkl : k = A.length := by omega
     subst hkl
     simp -dsimp -implicitDefEqProofs only [h8,h7,h0,h1,m112,sF112,ZA,↓reduceIte,ZB,ZC,ZJ,ZK,ZE,ZF,ZG,ZH,ZI,reduceCtorEq,ZD,mwV,↓mwD,mwU]
     refine ⟨⟨_, rfl, ?_⟩, hx⟩
     rw [List.take_length] at hall
     rw [hall]; rfl
theorem Fixed_c (f : Fm) (s : Value) (w : World) (hs : SlF w s f.F) : Rets ZP 36 #[fmV f s] w fun r w' => r = .bool (f.valid && fixedB f) ∧ Ext w w' := by
 have x0 : Ext w (w.alloc (.cells #[.int .i64 f.m, s] 24)) := Ext.alloc _ _
 have A := Bk.new w [.int .i64 f.m, s] 24
 obtain ⟨p, cap, rfl, hc1, hc2⟩ := hs.shape
 refine en36 ?_
 simp -dsimp -implicitDefEqProofs only [fmV,m36,sF36,ZA,↓reduceIte,ZB,ZC,ZJ,ZK,ZE,ZF,ZG,ZH,ZI,reduceCtorEq,ZD,mwV,↓mwD,mwU]
 replace A : Bk (w.alloc (.cells #[.int .i64 f.m, .slice p f.F.length cap] 24)) w.heap.size _ _ := A
 generalize w.alloc _ = W at *
 refine (Valid_c f _ W (hs.ext x0)).use ?_
 rintro r w1 ⟨rfl, h1⟩
 cases hv : f.valid
 · simp -dsimp -implicitDefEqProofs only [m36,sF36,ZA,↓reduceIte,ZB,ZC,ZJ,ZK,ZE,ZF,ZG,ZH,ZI,reduceCtorEq,ZD,mwV,↓mwD,mwU]
   exact ⟨by simp, x0.trans h1⟩
 · have A1 := (A.ext h1).get (o := 1) rfl
   simp -dsimp -implicitDefEqProofs only [A1,m36,sF36,ZA,↓reduceIte,ZB,ZC,ZJ,ZK,ZE,ZF,ZG,ZH,ZI,reduceCtorEq,ZD,mwV,↓mwD,mwU]
   have hcf : Rets ZP 79 #[.slice p f.F.length cap, .func (.func 80) #[] #[]] w1 fun r w' => r = .bool (!fixedB f) ∧ Ext w1 w' := by
    refine en79 ?_
    simp -dsimp -implicitDefEqProofs only [m79,sF79,ZA,↓reduceIte,ZB,ZC,ZJ,ZK,ZE,ZF,ZG,ZH,ZI,reduceCtorEq,ZD,mwV,↓mwD,mwU]
    refine (IndexFF_c _ f.F w1 (hs.ext (x0.trans h1))).use ?_
    rintro r w2 ⟨⟨i, rfl, hi⟩, h2⟩
    simp -dsimp -implicitDefEqProofs only [hi,m79,sF79,ZA,↓reduceIte,ZB,ZC,ZJ,ZK,ZE,ZF,ZG,ZH,ZI,reduceCtorEq,ZD,mwV,↓mwD,mwU]
    exact ⟨rfl, h2⟩
   refine hcf.use ?_
   rintro r w2 ⟨rfl, h2⟩
   simp -dsimp -implicitDefEqProofs only [m36,sF36,ZA,↓reduceIte,ZB,ZC,ZJ,ZK,ZE,ZF,ZG,ZH,ZI,reduceCtorEq,ZD,mwV,↓mwD,mwU]
   exact ⟨by simp, (x0.trans h1).trans h2⟩
end Go.Proofs.YthcdnjbhhaonhaaGreatDoor
/- Layer 02: a field's choice, of the program and of the reference. -/
namespace Go.Proofs.YthcdnjbhhaonhaaGreatDoor
open Go.RowKit
open Nat renaming reduceEqDiff → ZA, reduceAdd → ZB, reduceMul → ZC, reduceSub → ZD
open Int renaming reduceToNat → ZE, reduceEq → ZF, reduceLT → ZG, reduceLE → ZH, reduceNeg → ZI
open Go.Value renaming oneCell' → ZK, cells → ZJ
open Go.Proofs.Tryz renaming prog → ZP
set_option linter.unusedSimpArgs false
def atF : List Fl → Int → Option Ch
 | [], _ => none
 | x :: l, k => if x.key = k then some x.c else atF l k
theorem atF_drop {F : List Fl} {k : Nat} (h : k < F.length) (key : Int) : atF (F.drop k) key = if F[k].key = key then some F[k].c else atF (F.drop (k + 1)) key := by
 rw [List.drop_eq_getElem_cons h]; rfl
theorem atF_some : ∀ {F : List Fl} {k : Int} {c : Ch}, atF F k = some c → ∃ x ∈ F, x.key = k ∧ x.c = c
 | [], _, _, h => by cases h
 | x :: F, k, c, h => by
  unfold atF at h
  split at h
  · rename_i hk; cases h; exact ⟨x, List.mem_cons_self .., hk, rfl⟩
  · obtain ⟨y, hy, h1⟩ := atF_some h
    exact ⟨y, List.mem_cons_of_mem _ hy, h1⟩
def AtQ (o : Option Ch) (w0 w : World) (r : Value) (w' : World) : Prop := Ext w w' ∧ match o with
 | none => r = .tuple #[.agg #[.int .i64 0, .int .i64 0, .slice none 0 0], .bool false]
 | some c => ∃ v, r = .tuple #[chV c v, .bool true] ∧ SlI w0 v c.L
theorem At_c (f : Fm) (s : Value) (key : Int) (wo w : World) (hs : SlF wo s f.F) (ho : Ext wo w) : Rets ZP 81 #[fmV f s, .int .i64 key] w (AtQ (atF f.F key) wo w) := by
 obtain ⟨p, cap, rfl, hc1, hc2⟩ := hs.shape
 obtain ⟨W, hW, A, B, hx⟩ := box_fm w [.int .i64 f.m, .slice p f.F.length cap] 24 [.int .i64 0, .int .i64 0, .slice none 0 0] 35
 have hsz : W.heap.size = w.heap.size + 2 := by rw [hW]; simp only [World.size_alloc]
 refine en81 ?_
 refine mwpB_cut 1 (fun e ds w' => e 1 = .int .i64 key ∧ e 2 = .pointer (some ⟨w.heap.size, 0, none⟩) ∧ e 4 = .pointer (some ⟨w.heap.size + 1, 0, none⟩) ∧ ds = [] ∧ w' = W) ?_ ?_
 · simp -dsimp -implicitDefEqProofs only [fmV,headM_zero,headM_seq,World.size_alloc,hW,m81,sF81,ZA,↓reduceIte,ZB,ZC,ZJ,ZK,ZE,ZF,ZG,ZH,ZI,reduceCtorEq,ZD,mwV,↓mwD,mwU]
 rintro e ds w0 ⟨k1, k2, k4, rfl, rfl⟩
 clear hW
 have A1 := A.get (o := 1) rfl
 have P := put3 B (.int .i64 0) (.int .i64 0) (.slice none 0 0)
 simp -dsimp -implicitDefEqProofs only [tailM_zero,tailM_seq,k1,k2,k4,m81,sF81,ZA,↓reduceIte,ZB,ZC,ZJ,ZK,ZE,ZF,ZG,ZH,ZI,reduceCtorEq,ZD,mwV,↓mwD,mwU]
 refine mwpB_loop (fun e ds w' => ∃ k : Nat, k ≤ f.F.length ∧ e 6 = .int .i64 k ∧ e 1 = .int .i64 key ∧ e 2 = .pointer (some ⟨w.heap.size, 0, none⟩) ∧ e 4 = .pointer (some ⟨w.heap.size + 1, 0, none⟩) ∧ ds = [] ∧ w' = w0 ∧ atF f.F key = atF (f.F.drop k) key)
  (fun e _ => f.F.length - (intOf (e 6)).toNat) ?_ ?_
 · simp -dsimp -implicitDefEqProofs only [k1,k2,k4,m81,sF81,ZA,↓reduceIte,ZB,ZC,ZJ,ZK,ZE,ZF,ZG,ZH,ZI,reduceCtorEq,ZD,mwV,↓mwD,mwU]
   exact ⟨0, by omega, rfl, rfl⟩
 · rintro e ds w' ⟨k, hk, h6, h1, h2, h4, rfl, rfl, hat⟩
   by_cases hlt : (k : Int) < (f.F.length : Int)
   · have hlt' : k < f.F.length := by omega
     obtain ⟨b, o, rfl, hfs⟩ := hs.at (by intro h0; rw [h0] at hlt'; simp at hlt')
     obtain ⟨sk, q0, q1, q2, q3, hsk⟩ := hfs.get hlt'
     replace q0 := (ho.trans hx).cell q0
     replace q1 := (ho.trans hx).cell q1
     replace q2 := (ho.trans hx).cell q2
     replace q3 := (ho.trans hx).cell q3
     obtain ⟨ps, cs, rfl, _, _⟩ := hsk.shape
     have hb1 : (0 : Int) ≤ k ∧ (k : Int) < f.F.length := by omega
     have hw := w64_succ hlt' (Nat.le_trans hc1 hc2)
     rw [atF_drop hlt'] at hat
     by_cases he : f.F[k].key = key
     · have de : decide (f.F[k].key = key) = true := by simp [he]
       rw [if_pos he] at hat
       have P := put3 B (.int .i64 f.F[k].c.k) (.int .i64 f.F[k].c.d) (.slice ps f.F[k].c.L.length cs)
       obtain ⟨y0, c0⟩ := P.c0
       obtain ⟨y1, c1⟩ := P.c1
       obtain ⟨y2, c2⟩ := P.c2
       have z0 := P.z0
       have z1 := P.z1
       have z2 := P.z2
       have r0 := P.bk.get (o := 0) rfl
       have r1 := P.bk.get (o := 1) rfl
       have r2 := P.bk.get (o := 2) rfl
       simp -dsimp -implicitDefEqProofs only [h6,h1,h2,h4,A1,hlt,hb1,and_self,q0,q1,q2,q3,Nat.mul_comm k 4,de,c0,c1,c2,z0,z1,z2,r0,r1,r2,m81,sF81,ZA,↓reduceIte,ZB,ZC,ZJ,ZK,ZE,ZF,ZG,ZH,ZI,reduceCtorEq,ZD,mwV,↓mwD,mwU]
       refine ⟨hx.set3 (by omega) _ _ _, ?_⟩
       rw [hat]
       exact ⟨_, rfl, hsk⟩
     · have de : decide (f.F[k].key = key) = false := by simp [he]
       rw [if_neg he] at hat
       simp -dsimp -implicitDefEqProofs only [h6,h1,h2,h4,A1,hlt,hb1,and_self,q0,q1,q2,q3,Nat.mul_comm k 4,de,hw,m81,sF81,ZA,↓reduceIte,ZB,ZC,ZJ,ZK,ZE,ZF,ZG,ZH,ZI,reduceCtorEq,ZD,mwV,↓mwD,mwU]
       exact ⟨⟨k + 1, by omega, rfl, hat⟩, by simp only [intOf]; omega⟩
   · have hkl : k = f.F.length := by omega
     subst hkl
     rw [List.drop_length] at hat
     obtain ⟨y0, c0⟩ := P.c0
     obtain ⟨y1, c1⟩ := P.c1
     obtain ⟨y2, c2⟩ := P.c2
     have z0 := P.z0
     have z1 := P.z1
     have z2 := P.z2
     have r0 := P.bk.get (o := 0) rfl
     have r1 := P.bk.get (o := 1) rfl
     have r2 := P.bk.get (o := 2) rfl
     simp -dsimp -implicitDefEqProofs only [h6,h1,h2,h4,A1,hlt,bv_ch0,c0,c1,c2,z0,z1,z2,r0,r1,r2,m81,sF81,ZA,↓reduceIte,ZB,ZC,ZJ,ZK,ZE,ZF,ZG,ZH,ZI,reduceCtorEq,ZD,mwV,↓mwD,mwU]
     refine ⟨hx.set3 (by omega) _ _ _, ?_⟩
     rw [hat]; rfl
def FieldQ (f : Fm) (key : Int) (w : World) (r : Value) (w' : World) : Prop := Ext w w' ∧ if f.valid = true then (match atF f.F key with
 | none => r = .tuple #[.agg #[.int .i64 0, .int .i64 0, .slice none 0 0], .int .i64 8]
 | some c => ∃ v, r = .tuple #[chV c v, .int .i64 0] ∧ SlI w' v c.L)
 else r = .tuple #[.agg #[.int .i64 0, .int .i64 0, .slice none 0 0], .int .i64 1]
end Go.Proofs.YthcdnjbhhaonhaaGreatDoor
