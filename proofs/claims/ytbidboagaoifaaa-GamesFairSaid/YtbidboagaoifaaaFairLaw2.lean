/- The Shapley payments: who changes no cost pays nothing, who raise all costs alike pay alike, sums add. Plain Lean. -/
import Derived.Test.YtbidboagaoifaaaFairLaw
namespace Go.Proofs.Ytbidboagaoifaaa
open Go.RowKit

/-- Some set's cost is changed by player i, among the first k sets. -/
def raisesTo (c : List Int) (i k : Nat) : Bool := (List.range k).any fun s => decide (c.getD (s ||| 2 ^ i) 0 ≠ c.getD s 0)
theorem raisesTo_succ (c : List Int) (i k : Nat) : raisesTo c i (k + 1) = (raisesTo c i k || decide (c.getD (k ||| 2 ^ i) 0 ≠ c.getD k 0)) := by
  simp [raisesTo, List.range_succ]
def alikeAt (c : List Int) (i j s : Nat) : Bool := s.testBit i || (s.testBit j || decide (c.getD (s ||| 2 ^ i) 0 = c.getD (s ||| 2 ^ j) 0))
def alikeTo (c : List Int) (i j k : Nat) : Bool := (List.range k).all fun s => alikeAt c i j s
theorem alikeTo_succ (c : List Int) (i j k : Nat) : alikeTo c i j (k + 1) = (alikeTo c i j k && alikeAt c i j k) := by
  simp [alikeTo, List.range_succ]

theorem null1_0 (c0 c1 : Int) (h : raisesTo [c0, c1] 0 2 = false) : (shapL [c0, c1] 1).getD 0 0 = 0 := by
  have h : c1 = c0 := by
    simpa [raisesTo, List.range_succ] using h
  unfold shapL
  rw [sums1, F1]
  simp only [List.map_cons, List.map_nil, List.getD_cons_zero, List.getD_cons_succ]
  have e : ∀ (s F : Int), s = 0 → Rat.divInt s F = 0 := fun s F h => by rw [h, Rat.zero_divInt]
  exact e _ _ (by omega)
theorem null2_0 (c0 c1 c2 c3 : Int) (h : raisesTo [c0, c1, c2, c3] 0 4 = false) : (shapL [c0, c1, c2, c3] 2).getD 0 0 = 0 := by
  have h : c1 = c0 ∧ c3 = c2 := by
    simpa [raisesTo, List.range_succ] using h
  unfold shapL
  rw [sums2, F2]
  simp only [List.map_cons, List.map_nil, List.getD_cons_zero, List.getD_cons_succ]
  have e : ∀ (s F : Int), s = 0 → Rat.divInt s F = 0 := fun s F h => by rw [h, Rat.zero_divInt]
  exact e _ _ (by omega)
theorem null2_1 (c0 c1 c2 c3 : Int) (h : raisesTo [c0, c1, c2, c3] 1 4 = false) : (shapL [c0, c1, c2, c3] 2).getD 1 0 = 0 := by
  have h : c2 = c0 ∧ c3 = c1 := by
    simpa [raisesTo, List.range_succ] using h
  unfold shapL
  rw [sums2, F2]
  simp only [List.map_cons, List.map_nil, List.getD_cons_zero, List.getD_cons_succ]
  have e : ∀ (s F : Int), s = 0 → Rat.divInt s F = 0 := fun s F h => by rw [h, Rat.zero_divInt]
  exact e _ _ (by omega)
theorem sym2_1_0 (c0 c1 c2 c3 : Int) (h : alikeTo [c0, c1, c2, c3] 1 0 4 = true) : (shapL [c0, c1, c2, c3] 2).getD 1 0 = (shapL [c0, c1, c2, c3] 2).getD 0 0 := by
  have h : c2 = c1 := by
    simpa [alikeTo, alikeAt, List.range_succ, Nat.testBit_eq_decide_div_mod_eq] using h
  unfold shapL
  rw [sums2, F2]
  simp only [List.map_cons, List.map_nil, List.getD_cons_zero, List.getD_cons_succ]
  have e : ∀ (s t F : Int), s = t → Rat.divInt s F = Rat.divInt t F := fun s t F h => by rw [h]
  exact e _ _ _ (by omega)
theorem null3_0 (c0 c1 c2 c3 c4 c5 c6 c7 : Int) (h : raisesTo [c0, c1, c2, c3, c4, c5, c6, c7] 0 8 = false) : (shapL [c0, c1, c2, c3, c4, c5, c6, c7] 3).getD 0 0 = 0 := by
  have h : c1 = c0 ∧ c3 = c2 ∧ c5 = c4 ∧ c7 = c6 := by
    simpa [raisesTo, List.range_succ] using h
  unfold shapL
  rw [sums3, F3]
  simp only [List.map_cons, List.map_nil, List.getD_cons_zero, List.getD_cons_succ]
  have e : ∀ (s F : Int), s = 0 → Rat.divInt s F = 0 := fun s F h => by rw [h, Rat.zero_divInt]
  exact e _ _ (by omega)
theorem null3_1 (c0 c1 c2 c3 c4 c5 c6 c7 : Int) (h : raisesTo [c0, c1, c2, c3, c4, c5, c6, c7] 1 8 = false) : (shapL [c0, c1, c2, c3, c4, c5, c6, c7] 3).getD 1 0 = 0 := by
  have h : c2 = c0 ∧ c3 = c1 ∧ c6 = c4 ∧ c7 = c5 := by
    simpa [raisesTo, List.range_succ] using h
  unfold shapL
  rw [sums3, F3]
  simp only [List.map_cons, List.map_nil, List.getD_cons_zero, List.getD_cons_succ]
  have e : ∀ (s F : Int), s = 0 → Rat.divInt s F = 0 := fun s F h => by rw [h, Rat.zero_divInt]
  exact e _ _ (by omega)
theorem null3_2 (c0 c1 c2 c3 c4 c5 c6 c7 : Int) (h : raisesTo [c0, c1, c2, c3, c4, c5, c6, c7] 2 8 = false) : (shapL [c0, c1, c2, c3, c4, c5, c6, c7] 3).getD 2 0 = 0 := by
  have h : c4 = c0 ∧ c5 = c1 ∧ c6 = c2 ∧ c7 = c3 := by
    simpa [raisesTo, List.range_succ] using h
  unfold shapL
  rw [sums3, F3]
  simp only [List.map_cons, List.map_nil, List.getD_cons_zero, List.getD_cons_succ]
  have e : ∀ (s F : Int), s = 0 → Rat.divInt s F = 0 := fun s F h => by rw [h, Rat.zero_divInt]
  exact e _ _ (by omega)
theorem sym3_1_0 (c0 c1 c2 c3 c4 c5 c6 c7 : Int) (h : alikeTo [c0, c1, c2, c3, c4, c5, c6, c7] 1 0 8 = true) : (shapL [c0, c1, c2, c3, c4, c5, c6, c7] 3).getD 1 0 = (shapL [c0, c1, c2, c3, c4, c5, c6, c7] 3).getD 0 0 := by
  have h : c2 = c1 ∧ c6 = c5 := by
    simpa [alikeTo, alikeAt, List.range_succ, Nat.testBit_eq_decide_div_mod_eq] using h
  unfold shapL
  rw [sums3, F3]
  simp only [List.map_cons, List.map_nil, List.getD_cons_zero, List.getD_cons_succ]
  have e : ∀ (s t F : Int), s = t → Rat.divInt s F = Rat.divInt t F := fun s t F h => by rw [h]
  exact e _ _ _ (by omega)
theorem sym3_2_0 (c0 c1 c2 c3 c4 c5 c6 c7 : Int) (h : alikeTo [c0, c1, c2, c3, c4, c5, c6, c7] 2 0 8 = true) : (shapL [c0, c1, c2, c3, c4, c5, c6, c7] 3).getD 2 0 = (shapL [c0, c1, c2, c3, c4, c5, c6, c7] 3).getD 0 0 := by
  have h : c4 = c1 ∧ c6 = c3 := by
    simpa [alikeTo, alikeAt, List.range_succ, Nat.testBit_eq_decide_div_mod_eq] using h
  unfold shapL
  rw [sums3, F3]
  simp only [List.map_cons, List.map_nil, List.getD_cons_zero, List.getD_cons_succ]
  have e : ∀ (s t F : Int), s = t → Rat.divInt s F = Rat.divInt t F := fun s t F h => by rw [h]
  exact e _ _ _ (by omega)
theorem sym3_2_1 (c0 c1 c2 c3 c4 c5 c6 c7 : Int) (h : alikeTo [c0, c1, c2, c3, c4, c5, c6, c7] 2 1 8 = true) : (shapL [c0, c1, c2, c3, c4, c5, c6, c7] 3).getD 2 0 = (shapL [c0, c1, c2, c3, c4, c5, c6, c7] 3).getD 1 0 := by
  have h : c4 = c2 ∧ c5 = c3 := by
    simpa [alikeTo, alikeAt, List.range_succ, Nat.testBit_eq_decide_div_mod_eq] using h
  unfold shapL
  rw [sums3, F3]
  simp only [List.map_cons, List.map_nil, List.getD_cons_zero, List.getD_cons_succ]
  have e : ∀ (s t F : Int), s = t → Rat.divInt s F = Rat.divInt t F := fun s t F h => by rw [h]
  exact e _ _ _ (by omega)
theorem null4_0 (c0 c1 c2 c3 c4 c5 c6 c7 c8 c9 c10 c11 c12 c13 c14 c15 : Int) (h : raisesTo [c0, c1, c2, c3, c4, c5, c6, c7, c8, c9, c10, c11, c12, c13, c14, c15] 0 16 = false) : (shapL [c0, c1, c2, c3, c4, c5, c6, c7, c8, c9, c10, c11, c12, c13, c14, c15] 4).getD 0 0 = 0 := by
  have h : c1 = c0 ∧ c3 = c2 ∧ c5 = c4 ∧ c7 = c6 ∧ c9 = c8 ∧ c11 = c10 ∧ c13 = c12 ∧ c15 = c14 := by
    simpa [raisesTo, List.range_succ] using h
  unfold shapL
  rw [sums4, F4]
  simp only [List.map_cons, List.map_nil, List.getD_cons_zero, List.getD_cons_succ]
  have e : ∀ (s F : Int), s = 0 → Rat.divInt s F = 0 := fun s F h => by rw [h, Rat.zero_divInt]
  exact e _ _ (by omega)
theorem null4_1 (c0 c1 c2 c3 c4 c5 c6 c7 c8 c9 c10 c11 c12 c13 c14 c15 : Int) (h : raisesTo [c0, c1, c2, c3, c4, c5, c6, c7, c8, c9, c10, c11, c12, c13, c14, c15] 1 16 = false) : (shapL [c0, c1, c2, c3, c4, c5, c6, c7, c8, c9, c10, c11, c12, c13, c14, c15] 4).getD 1 0 = 0 := by
  have h : c2 = c0 ∧ c3 = c1 ∧ c6 = c4 ∧ c7 = c5 ∧ c10 = c8 ∧ c11 = c9 ∧ c14 = c12 ∧ c15 = c13 := by
    simpa [raisesTo, List.range_succ] using h
  unfold shapL
  rw [sums4, F4]
  simp only [List.map_cons, List.map_nil, List.getD_cons_zero, List.getD_cons_succ]
  have e : ∀ (s F : Int), s = 0 → Rat.divInt s F = 0 := fun s F h => by rw [h, Rat.zero_divInt]
  exact e _ _ (by omega)
theorem null4_2 (c0 c1 c2 c3 c4 c5 c6 c7 c8 c9 c10 c11 c12 c13 c14 c15 : Int) (h : raisesTo [c0, c1, c2, c3, c4, c5, c6, c7, c8, c9, c10, c11, c12, c13, c14, c15] 2 16 = false) : (shapL [c0, c1, c2, c3, c4, c5, c6, c7, c8, c9, c10, c11, c12, c13, c14, c15] 4).getD 2 0 = 0 := by
  have h : c4 = c0 ∧ c5 = c1 ∧ c6 = c2 ∧ c7 = c3 ∧ c12 = c8 ∧ c13 = c9 ∧ c14 = c10 ∧ c15 = c11 := by
    simpa [raisesTo, List.range_succ] using h
  unfold shapL
  rw [sums4, F4]
  simp only [List.map_cons, List.map_nil, List.getD_cons_zero, List.getD_cons_succ]
  have e : ∀ (s F : Int), s = 0 → Rat.divInt s F = 0 := fun s F h => by rw [h, Rat.zero_divInt]
  exact e _ _ (by omega)
theorem null4_3 (c0 c1 c2 c3 c4 c5 c6 c7 c8 c9 c10 c11 c12 c13 c14 c15 : Int) (h : raisesTo [c0, c1, c2, c3, c4, c5, c6, c7, c8, c9, c10, c11, c12, c13, c14, c15] 3 16 = false) : (shapL [c0, c1, c2, c3, c4, c5, c6, c7, c8, c9, c10, c11, c12, c13, c14, c15] 4).getD 3 0 = 0 := by
  have h : c8 = c0 ∧ c9 = c1 ∧ c10 = c2 ∧ c11 = c3 ∧ c12 = c4 ∧ c13 = c5 ∧ c14 = c6 ∧ c15 = c7 := by
    simpa [raisesTo, List.range_succ] using h
  unfold shapL
  rw [sums4, F4]
  simp only [List.map_cons, List.map_nil, List.getD_cons_zero, List.getD_cons_succ]
  have e : ∀ (s F : Int), s = 0 → Rat.divInt s F = 0 := fun s F h => by rw [h, Rat.zero_divInt]
  exact e _ _ (by omega)
theorem sym4_1_0 (c0 c1 c2 c3 c4 c5 c6 c7 c8 c9 c10 c11 c12 c13 c14 c15 : Int) (h : alikeTo [c0, c1, c2, c3, c4, c5, c6, c7, c8, c9, c10, c11, c12, c13, c14, c15] 1 0 16 = true) : (shapL [c0, c1, c2, c3, c4, c5, c6, c7, c8, c9, c10, c11, c12, c13, c14, c15] 4).getD 1 0 = (shapL [c0, c1, c2, c3, c4, c5, c6, c7, c8, c9, c10, c11, c12, c13, c14, c15] 4).getD 0 0 := by
  have h : c2 = c1 ∧ c6 = c5 ∧ c10 = c9 ∧ c14 = c13 := by
    simpa [alikeTo, alikeAt, List.range_succ, Nat.testBit_eq_decide_div_mod_eq] using h
  unfold shapL
  rw [sums4, F4]
  simp only [List.map_cons, List.map_nil, List.getD_cons_zero, List.getD_cons_succ]
  have e : ∀ (s t F : Int), s = t → Rat.divInt s F = Rat.divInt t F := fun s t F h => by rw [h]
  exact e _ _ _ (by omega)
theorem sym4_2_0 (c0 c1 c2 c3 c4 c5 c6 c7 c8 c9 c10 c11 c12 c13 c14 c15 : Int) (h : alikeTo [c0, c1, c2, c3, c4, c5, c6, c7, c8, c9, c10, c11, c12, c13, c14, c15] 2 0 16 = true) : (shapL [c0, c1, c2, c3, c4, c5, c6, c7, c8, c9, c10, c11, c12, c13, c14, c15] 4).getD 2 0 = (shapL [c0, c1, c2, c3, c4, c5, c6, c7, c8, c9, c10, c11, c12, c13, c14, c15] 4).getD 0 0 := by
  have h : c4 = c1 ∧ c6 = c3 ∧ c12 = c9 ∧ c14 = c11 := by
    simpa [alikeTo, alikeAt, List.range_succ, Nat.testBit_eq_decide_div_mod_eq] using h
  unfold shapL
  rw [sums4, F4]
  simp only [List.map_cons, List.map_nil, List.getD_cons_zero, List.getD_cons_succ]
  have e : ∀ (s t F : Int), s = t → Rat.divInt s F = Rat.divInt t F := fun s t F h => by rw [h]
  exact e _ _ _ (by omega)
theorem sym4_2_1 (c0 c1 c2 c3 c4 c5 c6 c7 c8 c9 c10 c11 c12 c13 c14 c15 : Int) (h : alikeTo [c0, c1, c2, c3, c4, c5, c6, c7, c8, c9, c10, c11, c12, c13, c14, c15] 2 1 16 = true) : (shapL [c0, c1, c2, c3, c4, c5, c6, c7, c8, c9, c10, c11, c12, c13, c14, c15] 4).getD 2 0 = (shapL [c0, c1, c2, c3, c4, c5, c6, c7, c8, c9, c10, c11, c12, c13, c14, c15] 4).getD 1 0 := by
  have h : c4 = c2 ∧ c5 = c3 ∧ c12 = c10 ∧ c13 = c11 := by
    simpa [alikeTo, alikeAt, List.range_succ, Nat.testBit_eq_decide_div_mod_eq] using h
  unfold shapL
  rw [sums4, F4]
  simp only [List.map_cons, List.map_nil, List.getD_cons_zero, List.getD_cons_succ]
  have e : ∀ (s t F : Int), s = t → Rat.divInt s F = Rat.divInt t F := fun s t F h => by rw [h]
  exact e _ _ _ (by omega)
theorem sym4_3_0 (c0 c1 c2 c3 c4 c5 c6 c7 c8 c9 c10 c11 c12 c13 c14 c15 : Int) (h : alikeTo [c0, c1, c2, c3, c4, c5, c6, c7, c8, c9, c10, c11, c12, c13, c14, c15] 3 0 16 = true) : (shapL [c0, c1, c2, c3, c4, c5, c6, c7, c8, c9, c10, c11, c12, c13, c14, c15] 4).getD 3 0 = (shapL [c0, c1, c2, c3, c4, c5, c6, c7, c8, c9, c10, c11, c12, c13, c14, c15] 4).getD 0 0 := by
  have h : c8 = c1 ∧ c10 = c3 ∧ c12 = c5 ∧ c14 = c7 := by
    simpa [alikeTo, alikeAt, List.range_succ, Nat.testBit_eq_decide_div_mod_eq] using h
  unfold shapL
  rw [sums4, F4]
  simp only [List.map_cons, List.map_nil, List.getD_cons_zero, List.getD_cons_succ]
  have e : ∀ (s t F : Int), s = t → Rat.divInt s F = Rat.divInt t F := fun s t F h => by rw [h]
  exact e _ _ _ (by omega)
theorem sym4_3_1 (c0 c1 c2 c3 c4 c5 c6 c7 c8 c9 c10 c11 c12 c13 c14 c15 : Int) (h : alikeTo [c0, c1, c2, c3, c4, c5, c6, c7, c8, c9, c10, c11, c12, c13, c14, c15] 3 1 16 = true) : (shapL [c0, c1, c2, c3, c4, c5, c6, c7, c8, c9, c10, c11, c12, c13, c14, c15] 4).getD 3 0 = (shapL [c0, c1, c2, c3, c4, c5, c6, c7, c8, c9, c10, c11, c12, c13, c14, c15] 4).getD 1 0 := by
  have h : c8 = c2 ∧ c9 = c3 ∧ c12 = c6 ∧ c13 = c7 := by
    simpa [alikeTo, alikeAt, List.range_succ, Nat.testBit_eq_decide_div_mod_eq] using h
  unfold shapL
  rw [sums4, F4]
  simp only [List.map_cons, List.map_nil, List.getD_cons_zero, List.getD_cons_succ]
  have e : ∀ (s t F : Int), s = t → Rat.divInt s F = Rat.divInt t F := fun s t F h => by rw [h]
  exact e _ _ _ (by omega)
theorem sym4_3_2 (c0 c1 c2 c3 c4 c5 c6 c7 c8 c9 c10 c11 c12 c13 c14 c15 : Int) (h : alikeTo [c0, c1, c2, c3, c4, c5, c6, c7, c8, c9, c10, c11, c12, c13, c14, c15] 3 2 16 = true) : (shapL [c0, c1, c2, c3, c4, c5, c6, c7, c8, c9, c10, c11, c12, c13, c14, c15] 4).getD 3 0 = (shapL [c0, c1, c2, c3, c4, c5, c6, c7, c8, c9, c10, c11, c12, c13, c14, c15] 4).getD 2 0 := by
  have h : c8 = c4 ∧ c9 = c5 ∧ c10 = c6 ∧ c11 = c7 := by
    simpa [alikeTo, alikeAt, List.range_succ, Nat.testBit_eq_decide_div_mod_eq] using h
  unfold shapL
  rw [sums4, F4]
  simp only [List.map_cons, List.map_nil, List.getD_cons_zero, List.getD_cons_succ]
  have e : ∀ (s t F : Int), s = t → Rat.divInt s F = Rat.divInt t F := fun s t F h => by rw [h]
  exact e _ _ _ (by omega)

theorem shap_null {c : List Int} {n i : Nat} (hn : 1 ≤ n ∧ n ≤ 4) (hi : i < n) (hl : c.length = 2 ^ n) (h : raisesTo c i (2 ^ n) = false) : (shapL c n).getD i 0 = 0 := by
  match n, hn with
  | 1, _ =>
    obtain ⟨c0, c1, rfl⟩ := list2 c hl
    match i, hi with
    | 0, _ => exact null1_0 _ _ h
  | 2, _ =>
    obtain ⟨c0, c1, c2, c3, rfl⟩ := list4 c hl
    match i, hi with
    | 0, _ => exact null2_0 _ _ _ _ h
    | 1, _ => exact null2_1 _ _ _ _ h
  | 3, _ =>
    obtain ⟨c0, c1, c2, c3, c4, c5, c6, c7, rfl⟩ := list8 c hl
    match i, hi with
    | 0, _ => exact null3_0 _ _ _ _ _ _ _ _ h
    | 1, _ => exact null3_1 _ _ _ _ _ _ _ _ h
    | 2, _ => exact null3_2 _ _ _ _ _ _ _ _ h
  | 4, _ =>
    obtain ⟨c0, c1, c2, c3, c4, c5, c6, c7, c8, c9, c10, c11, c12, c13, c14, c15, rfl⟩ := list16 c hl
    match i, hi with
    | 0, _ => exact null4_0 _ _ _ _ _ _ _ _ _ _ _ _ _ _ _ _ h
    | 1, _ => exact null4_1 _ _ _ _ _ _ _ _ _ _ _ _ _ _ _ _ h
    | 2, _ => exact null4_2 _ _ _ _ _ _ _ _ _ _ _ _ _ _ _ _ h
    | 3, _ => exact null4_3 _ _ _ _ _ _ _ _ _ _ _ _ _ _ _ _ h
theorem shap_sym {c : List Int} {n i j : Nat} (hn : 1 ≤ n ∧ n ≤ 4) (hi : i < n) (hj : j < i) (hl : c.length = 2 ^ n) (h : alikeTo c i j (2 ^ n) = true) : (shapL c n).getD i 0 = (shapL c n).getD j 0 := by
  match n, hn with
  | 1, _ =>
    obtain ⟨c0, c1, rfl⟩ := list2 c hl
    match i, j, hi, hj with
    | 0, j, _, hj => omega
  | 2, _ =>
    obtain ⟨c0, c1, c2, c3, rfl⟩ := list4 c hl
    match i, j, hi, hj with
    | 1, 0, _, _ => exact sym2_1_0 _ _ _ _ h
  | 3, _ =>
    obtain ⟨c0, c1, c2, c3, c4, c5, c6, c7, rfl⟩ := list8 c hl
    match i, j, hi, hj with
    | 1, 0, _, _ => exact sym3_1_0 _ _ _ _ _ _ _ _ h
    | 2, 0, _, _ => exact sym3_2_0 _ _ _ _ _ _ _ _ h
    | 2, 1, _, _ => exact sym3_2_1 _ _ _ _ _ _ _ _ h
  | 4, _ =>
    obtain ⟨c0, c1, c2, c3, c4, c5, c6, c7, c8, c9, c10, c11, c12, c13, c14, c15, rfl⟩ := list16 c hl
    match i, j, hi, hj with
    | 1, 0, _, _ => exact sym4_1_0 _ _ _ _ _ _ _ _ _ _ _ _ _ _ _ _ h
    | 2, 0, _, _ => exact sym4_2_0 _ _ _ _ _ _ _ _ _ _ _ _ _ _ _ _ h
    | 2, 1, _, _ => exact sym4_2_1 _ _ _ _ _ _ _ _ _ _ _ _ _ _ _ _ h
    | 3, 0, _, _ => exact sym4_3_0 _ _ _ _ _ _ _ _ _ _ _ _ _ _ _ _ h
    | 3, 1, _, _ => exact sym4_3_1 _ _ _ _ _ _ _ _ _ _ _ _ _ _ _ _ h
    | 3, 2, _, _ => exact sym4_3_2 _ _ _ _ _ _ _ _ _ _ _ _ _ _ _ _ h

set_option maxHeartbeats 4000000 in
/-- The sums add. -/
theorem sums_add {c d e : List Int} {n : Nat} (hn : 1 ≤ n ∧ n ≤ 4) (hc : c.length = 2 ^ n) (hd : d.length = 2 ^ n) (he : e.length = 2 ^ n) (h : ∀ i, i < 2 ^ n → e.getD i 0 = c.getD i 0 + d.getD i 0) :
    ∀ i, i < n → (shapL e n).getD i 0 = (shapL c n).getD i 0 + (shapL d n).getD i 0 := by
  have key : ∀ (s t u F : Int), u = s + t → Rat.divInt u F = Rat.divInt s F + Rat.divInt t F := fun s t u F h => by rw [add_same, h]
  match n, hn with
  | 1, _ =>
    obtain ⟨c0, c1, rfl⟩ := list2 c hc
    obtain ⟨d0, d1, rfl⟩ := list2 d hd
    obtain ⟨e0, e1, rfl⟩ := list2 e he
    have hh : e0 = c0 + d0 ∧ e1 = c1 + d1 := ⟨h 0 (by decide), h 1 (by decide)⟩
    clear h hc hd he
    unfold shapL
    rw [sums1, sums1, sums1, F1]
    intro i hi
    match i, hi with
    | 0, _ =>
      simp only [List.map_cons, List.map_nil, List.getD_cons_zero, List.getD_cons_succ]
      exact key _ _ _ _ (by omega)
  | 2, _ =>
    obtain ⟨c0, c1, c2, c3, rfl⟩ := list4 c hc
    obtain ⟨d0, d1, d2, d3, rfl⟩ := list4 d hd
    obtain ⟨e0, e1, e2, e3, rfl⟩ := list4 e he
    have hh : e0 = c0 + d0 ∧ e1 = c1 + d1 ∧ e2 = c2 + d2 ∧ e3 = c3 + d3 := ⟨h 0 (by decide), h 1 (by decide), h 2 (by decide), h 3 (by decide)⟩
    clear h hc hd he
    unfold shapL
    rw [sums2, sums2, sums2, F2]
    intro i hi
    match i, hi with
    | 0, _ =>
      simp only [List.map_cons, List.map_nil, List.getD_cons_zero, List.getD_cons_succ]
      exact key _ _ _ _ (by omega)
    | 1, _ =>
      simp only [List.map_cons, List.map_nil, List.getD_cons_zero, List.getD_cons_succ]
      exact key _ _ _ _ (by omega)
  | 3, _ =>
    obtain ⟨c0, c1, c2, c3, c4, c5, c6, c7, rfl⟩ := list8 c hc
    obtain ⟨d0, d1, d2, d3, d4, d5, d6, d7, rfl⟩ := list8 d hd
    obtain ⟨e0, e1, e2, e3, e4, e5, e6, e7, rfl⟩ := list8 e he
    have hh : e0 = c0 + d0 ∧ e1 = c1 + d1 ∧ e2 = c2 + d2 ∧ e3 = c3 + d3 ∧ e4 = c4 + d4 ∧ e5 = c5 + d5 ∧ e6 = c6 + d6 ∧ e7 = c7 + d7 := ⟨h 0 (by decide), h 1 (by decide), h 2 (by decide), h 3 (by decide), h 4 (by decide), h 5 (by decide), h 6 (by decide), h 7 (by decide)⟩
    clear h hc hd he
    unfold shapL
    rw [sums3, sums3, sums3, F3]
    intro i hi
    match i, hi with
    | 0, _ =>
      simp only [List.map_cons, List.map_nil, List.getD_cons_zero, List.getD_cons_succ]
      exact key _ _ _ _ (by omega)
    | 1, _ =>
      simp only [List.map_cons, List.map_nil, List.getD_cons_zero, List.getD_cons_succ]
      exact key _ _ _ _ (by omega)
    | 2, _ =>
      simp only [List.map_cons, List.map_nil, List.getD_cons_zero, List.getD_cons_succ]
      exact key _ _ _ _ (by omega)
  | 4, _ =>
    obtain ⟨c0, c1, c2, c3, c4, c5, c6, c7, c8, c9, c10, c11, c12, c13, c14, c15, rfl⟩ := list16 c hc
    obtain ⟨d0, d1, d2, d3, d4, d5, d6, d7, d8, d9, d10, d11, d12, d13, d14, d15, rfl⟩ := list16 d hd
    obtain ⟨e0, e1, e2, e3, e4, e5, e6, e7, e8, e9, e10, e11, e12, e13, e14, e15, rfl⟩ := list16 e he
    have hh : e0 = c0 + d0 ∧ e1 = c1 + d1 ∧ e2 = c2 + d2 ∧ e3 = c3 + d3 ∧ e4 = c4 + d4 ∧ e5 = c5 + d5 ∧ e6 = c6 + d6 ∧ e7 = c7 + d7 ∧ e8 = c8 + d8 ∧ e9 = c9 + d9 ∧ e10 = c10 + d10 ∧ e11 = c11 + d11 ∧ e12 = c12 + d12 ∧ e13 = c13 + d13 ∧ e14 = c14 + d14 ∧ e15 = c15 + d15 := ⟨h 0 (by decide), h 1 (by decide), h 2 (by decide), h 3 (by decide), h 4 (by decide), h 5 (by decide), h 6 (by decide), h 7 (by decide), h 8 (by decide), h 9 (by decide), h 10 (by decide), h 11 (by decide), h 12 (by decide), h 13 (by decide), h 14 (by decide), h 15 (by decide)⟩
    clear h hc hd he
    unfold shapL
    rw [sums4, sums4, sums4, F4]
    intro i hi
    match i, hi with
    | 0, _ =>
      simp only [List.map_cons, List.map_nil, List.getD_cons_zero, List.getD_cons_succ]
      exact key _ _ _ _ (by omega)
    | 1, _ =>
      simp only [List.map_cons, List.map_nil, List.getD_cons_zero, List.getD_cons_succ]
      exact key _ _ _ _ (by omega)
    | 2, _ =>
      simp only [List.map_cons, List.map_nil, List.getD_cons_zero, List.getD_cons_succ]
      exact key _ _ _ _ (by omega)
    | 3, _ =>
      simp only [List.map_cons, List.map_nil, List.getD_cons_zero, List.getD_cons_succ]
      exact key _ _ _ _ (by omega)

/-- The sums of two games, wrapped, of the first k sets. -/
def sumTo (c d : List Int) (k : Nat) : List Int := (List.range k).map fun i => IntKind.i64.wrap (c.getD i 0 + d.getD i 0)
theorem sumTo_length (c d : List Int) (k : Nat) : (sumTo c d k).length = k := by simp [sumTo]
theorem sumTo_succ {c d : List Int} {k : Nat} {x y : Int} (hx : c[k]? = some x) (hy : d[k]? = some y) : sumTo c d (k + 1) = sumTo c d k ++ [IntKind.i64.wrap (x + y)] := by
  simp [sumTo, List.range_succ, List.getD_eq_getElem?_getD, hx, hy]
theorem sumTo_get {c d : List Int} {k i : Nat} (h : i < k) : (sumTo c d k).getD i 0 = IntKind.i64.wrap (c.getD i 0 + d.getD i 0) := by
  rw [List.getD_eq_getElem?_getD]
  simp [sumTo, h]
theorem plr_len {a b : List Int} (ha : valC a = true) (hb : valC b = true) (h : a.length = b.length) : plr a = plr b := by
  unfold plr
  rw [if_pos ha, if_pos hb, h]
theorem shap_add {c d : List Int} {n N : Nat} (hn : 1 ≤ n ∧ n ≤ 4) (hN : N = 2 ^ n) (hc : c.length = N) (hd : d.length = N) (hvc : valC c = true) (hvd : valC d = true) :
    ∀ i, i < n → (shapL (sumTo c d N) n).getD i 0 = (shapL c n).getD i 0 + (shapL d n).getD i 0 := by
  refine sums_add hn (by rw [hc, hN]) (by rw [hd, hN]) (by rw [sumTo_length, hN]) fun i hi => ?_
  rw [sumTo_get (by rw [hN]; exact hi)]
  have h1 := costs_get (valC_iff.1 hvc).2.2 i
  have h2 := costs_get (valC_iff.1 hvd).2.2 i
  exact IntWalk.i64_in _ (by omega)
end Go.Proofs.Ytbidboagaoifaaa
