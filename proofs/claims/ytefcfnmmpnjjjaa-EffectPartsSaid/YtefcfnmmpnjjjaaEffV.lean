/- Plain laws: hosts of delays and gains. -/
import Derived.Test.YtefcfnmmpnjjjaaEffU
namespace Go.Proofs.Ytefcfnmmpnjjjaa
set_option linter.unusedSimpArgs false

def dX (d : Int) : EX := (2, [d], [])
def gX (g : Int) : EX := (1, [g], [])
def lanesL : List Int → List Int → List (List EX)
  | d :: ds, g :: gs => [dX d, gX g] :: lanesL ds gs
  | _, _ => []
def plainL (gs : List Int) : List (List EX) := gs.map fun g => [gX g]
def mostF (m : Int) (ds : List Int) : Int := ds.foldl maxI m

theorem lanesL_length : ∀ (ds gs : List Int), ds.length = gs.length → (lanesL ds gs).length = ds.length
  | [], [], _ => rfl
  | d :: ds, g :: gs, h => by simp only [lanesL, List.length_cons, lanesL_length ds gs (by simpa using h)]
  | [], _ :: _, h => by simp at h
  | _ :: _, [], h => by simp at h
theorem lanesL_snoc : ∀ (ds gs : List Int) (d g : Int), ds.length = gs.length → lanesL (ds ++ [d]) (gs ++ [g]) = lanesL ds gs ++ [[dX d, gX g]]
  | [], [], d, g, _ => rfl
  | a :: ds, b :: gs, d, g, h => by simp only [List.cons_append, lanesL, lanesL_snoc ds gs d g (by simpa using h)]
  | [], _ :: _, _, _, h => by simp at h
  | _ :: _, [], _, _, h => by simp at h
theorem plainL_snoc (gs : List Int) (g : Int) : plainL (gs ++ [g]) = plainL gs ++ [[gX g]] := by simp [plainL]
theorem mostF_snoc (m : Int) (ds : List Int) (d : Int) : mostF m (ds ++ [d]) = maxI (mostF m ds) d := by simp [mostF]
theorem mostF_ge : ∀ (ds : List Int) (m : Int), m ≤ mostF m ds ∧ ∀ d ∈ ds, d ≤ mostF m ds
  | [], m => ⟨Int.le_refl _, fun d h => by simp at h⟩
  | d :: ds, m => by
    have h := mostF_ge ds (maxI m d)
    have e : mostF m (d :: ds) = mostF (maxI m d) ds := rfl
    rw [e]
    have h1 : m ≤ maxI m d ∧ d ≤ maxI m d := by unfold maxI; split <;> omega
    refine ⟨by omega, fun x hx => ?_⟩
    rcases List.mem_cons.1 hx with rfl | hx
    · omega
    · exact h.2 x hx
theorem mostF_le : ∀ (ds : List Int) (m B : Int), m ≤ B → (∀ d ∈ ds, d ≤ B) → mostF m ds ≤ B
  | [], m, B, h, _ => h
  | d :: ds, m, B, h, hd => by
    have e : mostF m (d :: ds) = mostF (maxI m d) ds := rfl
    rw [e]
    refine mostF_le ds _ B ?_ fun x hx => hd x (by simp [hx])
    have := hd d (by simp)
    unfold maxI; split <;> omega
theorem latF_lanes : ∀ (ds gs : List Int) (m : Int), ds.length = gs.length → latF m ((lanesL ds gs).map newL) = mostF m ds
  | [], [], m, _ => rfl
  | d :: ds, g :: gs, m, h => by
    have := latF_lanes ds gs (maxI m d) (by simpa using h)
    simp only [lanesL, List.map_cons, latF, mostF, List.foldl_cons] at this ⊢
    have e : latL (newL [dX d, gX g]).us = d := by simp [newL, newU, dX, gX, latL, latI]
    rw [e]
    exact this
  | [], _ :: _, _, h => by simp at h
  | _ :: _, [], _, h => by simp at h
theorem dlane_new (m d g : Int) (h0 : 0 ≤ d) (h1 : d ≤ m) : DLane (List.replicate m.toNat 0) (eqL m (newL [dX d, gX g])) g := by
  refine ⟨List.replicate (m - d).toNat 0, List.replicate d.toNat 0, 2, [d], [], 1, [g], [], ?_, ?_⟩
  · have e : latL (newL [dX d, gX g]).us = d := by simp [newL, newU, dX, gX, latL, latI]
    have e2 : laterL [] (m - d).toNat = List.replicate (m - d).toNat 0 := by
      unfold laterL; split
      · rename_i h
        have : (m - d).toNat = 0 := h
        rw [this]; rfl
      · simp [fillL]
    unfold eqL
    rw [e]
    simp only [newL]
    rw [e2]
    simp [newU, dX, gX, initU]
  · rw [List.reverse_replicate, List.reverse_replicate, List.replicate_append_replicate]
    congr 1; omega
theorem dlanes_new : ∀ (ds gs : List Int) (m : Int), ds.length = gs.length → (∀ d ∈ ds, 0 ≤ d ∧ d ≤ m) → DLanes (List.replicate m.toNat 0) (((lanesL ds gs).map newL).map (eqL m)) gs
  | [], [], m, _, _ => trivial
  | d :: ds, g :: gs, m, h, hd => ⟨dlane_new m d g (hd d (by simp)).1 (hd d (by simp)).2, dlanes_new ds gs m (by simpa using h) fun x hx => hd x (by simp [hx])⟩
  | [], _ :: _, _, h, _ => by simp at h
  | _ :: _, [], _, h, _ => by simp at h
theorem glanes_new : ∀ (gs : List Int), GLanes ((plainL gs).map newL) gs
  | [] => trivial
  | g :: gs => ⟨⟨1, [g], [], by simp [newL, newU, gX, initU]⟩, glanes_new gs⟩

/-- The law: equal delays make the gains' outcome later. -/
theorem equal_law (ds gs L : List Int) (h : ds.length = gs.length) (hd : ∀ d ∈ ds, 0 ≤ d) :
    (runH (((lanesL ds gs).map newL).map (eqL (mostF 0 ds))) L).2 ++ (runH (runH (((lanesL ds gs).map newL).map (eqL (mostF 0 ds))) L).1 (List.replicate (mostF 0 ds).toNat 0)).2
      = List.replicate (mostF 0 ds).toNat 0 ++ (runH ((plainL gs).map newL) L).2 := by
  have hD := dlanes_new ds gs (mostF 0 ds) h fun d hx => ⟨hd d hx, (mostF_ge ds 0).2 d hx⟩
  have e := hD.runH (L ++ List.replicate (mostF 0 ds).toNat 0)
  rw [runH_append] at e
  simp only at e
  rw [e, (glanes_new gs).runH L, ← List.append_assoc, List.take_append_of_le_length (by simp; omega), List.take_of_length_le (by simp; omega), List.map_append]
  congr 1
  simp [gsum_zero, bnd]

theorem lanes_valid : ∀ (ds gs : List Int), (∀ d ∈ ds, 0 ≤ d ∧ d ≤ 600) → (∀ g ∈ gs, 0 ≤ g ∧ g ≤ 655360) → ∀ xs ∈ lanesL ds gs, xs.length = 2 ∧ ∀ x ∈ xs, exValid x = true
  | [], _, _, _, xs, h => by simp [lanesL] at h
  | _ :: _, [], _, _, xs, h => by simp [lanesL] at h
  | d :: ds, g :: gs, hd, hg, xs, h => by
    rcases List.mem_cons.1 h with rfl | h
    · have h1 := hd d (by simp)
      have h2 := hg g (by simp)
      refine ⟨rfl, fun x hx => ?_⟩
      simp only [List.mem_cons, List.not_mem_nil, or_false] at hx
      rcases hx with rfl | rfl
      · simp [exValid, dX, validB, eqfB, rangesOf, wtn]; omega
      · simp [exValid, gX, validB, eqfB, rangesOf, wtn]; omega
    · exact lanes_valid ds gs (fun x hx => hd x (by simp [hx])) (fun x hx => hg x (by simp [hx])) xs h
theorem plain_valid (gs : List Int) (hg : ∀ g ∈ gs, 0 ≤ g ∧ g ≤ 655360) : ∀ xs ∈ plainL gs, xs.length = 1 ∧ ∀ x ∈ xs, exValid x = true := by
  intro xs h
  obtain ⟨g, hgm, rfl⟩ := List.mem_map.1 h
  have h2 := hg g hgm
  refine ⟨rfl, fun x hx => ?_⟩
  simp only [List.mem_cons, List.not_mem_nil, or_false] at hx
  subst hx
  simp [exValid, gX, validB, eqfB, rangesOf, wtn]; omega
end Go.Proofs.Ytefcfnmmpnjjjaa
