/- append of zeros onto a row of the call's own. -/
import Derived.Test.YtefcfnmmpnjjjaaGreatDoorQbEffX0
import Derived.Lib.AppendZerosOnto
namespace Go.Proofs.YtefcfnmmpnjjjaaGreatDoor
open Go.RowKit
set_option linter.unusedSimpArgs false

theorem Ext.trans' {a b : World} {g : Nat} {c : Array Value} (h : Ext a b) (hk : ∀ q, q < a.heap.size → (b.setRow g c).heap[q]? = b.heap[q]?) : Ext a (b.setRow g c) :=
  ⟨h.os, h.tape, h.output, by simpa [World.setRow] using h.size, fun q hq => (hk q hq).trans (h.block q hq)⟩
theorem zeroCells_ints (k : Nat) : (Builtin.zeroCells (Value.int .i64 0).cells k) = (ints (List.replicate k 0)).toArray := by
  apply Array.ext
  · simp [Builtin.zeroCells, Value.cells, ints]
  · intro i h1 h2
    simp [Builtin.zeroCells, Value.cells, ints, Nat.mod_one]
/-- append(v, make([]int, k)...) onto a row of the call's own. -/
theorem app_zeros {w8 W : World} {v : Value} {n k : Nat} {xs : List Int} (he : Ext w8 W) (h1 : W.ownsRow w8.heap.size 3 1 v n (ints xs)) (hn : n ≤ 100000) (hk : k ≤ 100000) :
    ∃ v' W', (Builtin.append_ #[22, 3] 22 #[v, .int .i64 k]).run Go.Proofs.Tryz.prog W = .ok v' W' ∧ Ext w8 W' ∧ W'.ownsRow w8.heap.size 3 1 v' (n + k) (ints (xs ++ List.replicate k 0)) := by
  have hi : ∃ i, (Go.Proofs.Tryz.prog).info? 3 = some i := by
    have := tok_3
    unfold tok at this; simp only [Bool.and_eq_true] at this; exact Option.isSome_iff_exists.1 this.1
  obtain ⟨i, hi⟩ := hi
  have hz : i.zero = some (.int .i64 0) := by have := tzero_3; simpa [tzero, hi] using this
  have hsz : i.size = 1 := by have := tsz_3; simpa [tsz, hi] using this
  have hby : i.bytes = 8 := by have := tby_3; simpa [tbytes, hi] using this
  have ht := telem_some telem_22
  have htn : (Go.Proofs.Tryz.prog).underlying 3 = some (.int .i64) := Tryz.underlying3
  have hlx : xs.length = n := by have := h1.1; simpa [ints] using this
  -- a new row
  have grown : ∀ (old : Nat), old < n + k → Ext w8 (W.drew.alloc (.cells ((ints xs).toArray ++ (ints (List.replicate k 0)).toArray ++ Builtin.zeroCells (Value.int .i64 0).cells (grownCap W (n + k) old 3 - (n + k))) 3)) ∧
      (W.drew.alloc (.cells ((ints xs).toArray ++ (ints (List.replicate k 0)).toArray ++ Builtin.zeroCells (Value.int .i64 0).cells (grownCap W (n + k) old 3 - (n + k))) 3)).ownsRow w8.heap.size 3 1 (.slice (some ⟨W.heap.size, 0, none⟩) (n + k) (grownCap W (n + k) old 3)) (n + k) (ints (xs ++ List.replicate k 0)) := by
    intro old ho
    have hge := grownCap_ge W (n + k) old 3
    have hcm : grownCap W (n + k) old 3 ≤ maxLen := grownCap_le_maxLen W (n + k) old 3 (by unfold maxLen; omega)
    refine ⟨he.trans ((Ext.drew W).alloc' _), ⟨by simp [ints, hlx], .inr ⟨W.heap.size, _, _, rfl, he.le, heap_alloc_new W.drew _, hge, hcm, ?_, ?_⟩⟩⟩
    · simp only [Array.size_append, List.size_toArray, size_zeroCells, ints_length, List.length_replicate, hlx]
      simp [Value.cells]
      omega
    · have e : (ints xs).toArray.toList ++ (ints (List.replicate k 0)).toArray.toList = ints (xs ++ List.replicate k 0) := by simp [ints]
      have e2 : (ints (xs ++ List.replicate k 0)).length = (n + k) * 1 := by simp [ints, hlx]
      simp only [Array.toList_append, e]
      rw [← e2]
      exact List.take_left
  rcases h1.2 with ⟨rfl, rfl⟩ | ⟨g, cap, cur, rfl, hbg, hg, hnc, hcm, hcs, htake⟩
  · have hx : xs = [] := by simpa using hlx
    subst hx
    by_cases hk0 : k = 0
    · subst hk0
      refine ⟨.slice none 0 0, W, ?_, he, by simpa [ints] using World.ownsRow_nil W w8.heap.size 3 1⟩
      simp [Builtin.append_, run_underlying ht, run_underlying htn, sizeOf, typeInfo, hi, asInt, asIntOf, IntKind.wrap_i64]
    · have hr := Lib.run_append_nil_zeros (P := Go.Proofs.Tryz.prog) W 22 3 22 3 i (.int .i64 0) .i64 .i64 ht htn hi hz k (by omega) (by omega) (by omega) (by rw [hby]; omega)
      have hgr := grown 0 (by omega)
      rw [zeroCells_ints k] at hr
      simp only [Nat.zero_add, List.nil_append] at hgr hr ⊢
      exact ⟨_, _, hr, by simpa [ints] using hgr.1, by simpa [ints] using hgr.2⟩
  · have holds : ∀ j u, (ints xs)[j]? = some u → W.cell? ((⟨g, 0, none⟩ : Addr).add j) = some u := h1.cells (g := g) rfl
    by_cases hroom : n + k ≤ cap
    · by_cases hk0 : k = 0
      · subst hk0
        refine ⟨.slice (some ⟨g, 0, none⟩) n cap, W, ?_, he, by simpa [ints] using h1⟩
        simp [Builtin.append_, run_underlying ht, run_underlying htn, sizeOf, typeInfo, hi, asInt, asIntOf, IntKind.wrap_i64, hnc, storeCells]
      · have hl : (ints (List.replicate k 0)).length = k := by simp [ints]
        have hst := run_storeCells_at (P := Go.Proofs.Tryz.prog) g n 3 (ints (List.replicate k 0)) 0 cur W hg (by rw [hl, hcs]; omega) (fun u hu => by
          simp only [ints, List.mem_map] at hu
          obtain ⟨x, _, rfl⟩ := hu
          rfl)
        have hw : IntKind.i64.wrap (k : Int) = k := by rw [IntKind.wrap_i64]; omega
        have hneg : ¬ ((k : Int) < 0) := by omega
        have h48i : ¬ (281474976710656 < (k : Int) * (i.bytes : Int)) := by rw [hby]; omega
        have hns : ¬ (k * i.size = 0) := by rw [hsz]; omega
        refine ⟨.slice (some ⟨g, 0, none⟩) (n + k) cap, W.setRow g (cur.toList.take (n + 0) ++ ints (List.replicate k 0) ++ cur.toList.drop (n + 0 + (ints (List.replicate k 0)).length)).toArray, ?_, ?_, ?_⟩
        · have hzc : (Builtin.zeroCells #[Value.int .i64 0] k).toList = ints (List.replicate k 0) := by have := zeroCells_ints k; simp only [Value.cells] at this; rw [this]
          simp [Builtin.append_, run_underlying ht, run_underlying htn, sizeOf, typeInfo, zeroValue, hi, hz, asInt, asIntOf, hw, hneg, h48i, hns, hroom, hsz, Value.cells, hzc, Addr.add_lit, hk0]
          simp at hst
          rw [hst]
          rfl
        · exact he.trans' (fun q hq => setRow_other W g q _ (by omega))
        · have htk : cur.toList.take n = ints xs := by simpa using htake
          refine ⟨by simp [ints, hlx], .inr ⟨g, cap, _, rfl, hbg, setRow_heap W g cur _ 3 _ hg, hroom, hcm, ?_, ?_⟩⟩
          · simp only [List.size_toArray, List.length_append, List.length_take, List.length_drop, Array.length_toList, hl]
            omega
          · rw [Nat.add_zero, htk]
            have e : ints xs ++ ints (List.replicate k 0) = ints (xs ++ List.replicate k 0) := by simp [ints]
            have e2 : (ints (xs ++ List.replicate k 0)).length = (n + k) * 1 := by simp [ints, hlx]
            rw [e, ← e2]
            exact List.take_left
    · have hf := run_firstCells_some (P := Go.Proofs.Tryz.prog) W.drew i.size n ⟨g, 0, none⟩ n cap (ints xs) (by rw [hsz, ints_length]; omega) (by simpa using holds)
      have hr := Lib.run_append_grow_zeros (P := Go.Proofs.Tryz.prog) W 22 3 22 3 i (.int .i64 0) .i64 .i64 ht htn hi hz (some ⟨g, 0, none⟩) n cap (ints xs) hf k (by omega) (by omega) (by omega) (by omega) (by rw [hby]; omega) (growslice_fits (by omega) (by rw [hby]; omega))
      rw [zeroCells_ints k] at hr
      have hgr := grown cap (by omega)
      exact ⟨_, _, hr, hgr.1, hgr.2⟩
end Go.Proofs.YtefcfnmmpnjjjaaGreatDoor
