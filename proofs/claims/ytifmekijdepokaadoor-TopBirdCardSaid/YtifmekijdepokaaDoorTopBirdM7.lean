/- Laws and contracts that the proof of TopBird uses, part 7. -/
import Derived.Test.YtifmekijdepokaaDoorTopBirdM3
import Derived.Test.YtifmekijdepokaaDoorTopBirdM6
import Derived.Test.YtifmekijdepokaaDoorTopBirdM1
import Derived.Test.YtifmekijdepokaaDoorTopBirdM5
import Derived.Test.YtifmekijdepokaaDoorTopBirdM2
import Derived.Test.YtifmekijdepokaaDoorTopBirdM4
namespace Go.Proofs.YtifmekijdepokaaDoor
open Go.RowKit

/- The Shapley payments: who changes no cost pays nothing, who raise all costs alike pay alike, sums add. Plain Lean. -/

/-- Some set's cost is changed by player i, among the first k sets. -/
def raisesTo (c : List Int) (i k : Nat) : Bool := (List.range k).any fun s => decide (c.getD (s ||| 2 ^ i) 0 ≠ c.getD s 0)
theorem raisesTo_succ (c : List Int) (i k : Nat) : raisesTo c i (k + 1) = (raisesTo c i k || decide (c.getD (k ||| 2 ^ i) 0 ≠ c.getD k 0)) := by
  simp [raisesTo, List.range_succ]
def alikeAt (c : List Int) (i j s : Nat) : Bool := s.testBit i || (s.testBit j || decide (c.getD (s ||| 2 ^ i) 0 = c.getD (s ||| 2 ^ j) 0))
def alikeTo (c : List Int) (i j k : Nat) : Bool := (List.range k).all fun s => alikeAt c i j s
theorem alikeTo_succ (c : List Int) (i j k : Nat) : alikeTo c i j (k + 1) = (alikeTo c i j k && alikeAt c i j k) := by
  simp [alikeTo, List.range_succ]

theorem null1_0 (c0 c1 : Int) (h : raisesTo [c0, c1] 0 2 = false) : (shapL [c0, c1] 1).getD 0 0 = 0 := by
  have h : c1 = c0 := by
    simpa [raisesTo, List.range_succ] using h
  unfold shapL
  rw [sums1, F1]
  simp only [List.map_cons, List.map_nil, List.getD_cons_zero]
  have e : ∀ (s F : Int), s = 0 → Rat.divInt s F = 0 := fun s F h => by rw [h, Rat.zero_divInt]
  exact e _ _ (by omega)
theorem null2_0 (c0 c1 c2 c3 : Int) (h : raisesTo [c0, c1, c2, c3] 0 4 = false) : (shapL [c0, c1, c2, c3] 2).getD 0 0 = 0 := by
  have h : c1 = c0 ∧ c3 = c2 := by
    simpa [raisesTo, List.range_succ] using h
  unfold shapL
  rw [sums2, F2]
  simp only [List.map_cons, List.map_nil, List.getD_cons_zero]
  have e : ∀ (s F : Int), s = 0 → Rat.divInt s F = 0 := fun s F h => by rw [h, Rat.zero_divInt]
  exact e _ _ (by omega)
theorem null2_1 (c0 c1 c2 c3 : Int) (h : raisesTo [c0, c1, c2, c3] 1 4 = false) : (shapL [c0, c1, c2, c3] 2).getD 1 0 = 0 := by
  have h : c2 = c0 ∧ c3 = c1 := by
    simpa [raisesTo, List.range_succ] using h
  unfold shapL
  rw [sums2, F2]
  simp only [List.map_cons, List.map_nil, List.getD_cons_zero, List.getD_cons_succ]
  have e : ∀ (s F : Int), s = 0 → Rat.divInt s F = 0 := fun s F h => by rw [h, Rat.zero_divInt]
  exact e _ _ (by omega)
theorem sym2_1_0 (c0 c1 c2 c3 : Int) (h : alikeTo [c0, c1, c2, c3] 1 0 4 = true) : (shapL [c0, c1, c2, c3] 2).getD 1 0 = (shapL [c0, c1, c2, c3] 2).getD 0 0 := by
  have h : c2 = c1 := by
    simpa [alikeTo, alikeAt, List.range_succ, Nat.testBit_eq_decide_div_mod_eq] using h
  unfold shapL
  rw [sums2, F2]
  simp only [List.map_cons, List.map_nil, List.getD_cons_zero, List.getD_cons_succ]
  have e : ∀ (s t F : Int), s = t → Rat.divInt s F = Rat.divInt t F := fun s t F h => by rw [h]
  exact e _ _ _ (by omega)
theorem null3_0 (c0 c1 c2 c3 c4 c5 c6 c7 : Int) (h : raisesTo [c0, c1, c2, c3, c4, c5, c6, c7] 0 8 = false) : (shapL [c0, c1, c2, c3, c4, c5, c6, c7] 3).getD 0 0 = 0 := by
  have h : c1 = c0 ∧ c3 = c2 ∧ c5 = c4 ∧ c7 = c6 := by
    simpa [raisesTo, List.range_succ] using h
  unfold shapL
  rw [sums3, F3]
  simp only [List.map_cons, List.map_nil, List.getD_cons_zero]
  have e : ∀ (s F : Int), s = 0 → Rat.divInt s F = 0 := fun s F h => by rw [h, Rat.zero_divInt]
  exact e _ _ (by omega)
theorem null3_1 (c0 c1 c2 c3 c4 c5 c6 c7 : Int) (h : raisesTo [c0, c1, c2, c3, c4, c5, c6, c7] 1 8 = false) : (shapL [c0, c1, c2, c3, c4, c5, c6, c7] 3).getD 1 0 = 0 := by
  have h : c2 = c0 ∧ c3 = c1 ∧ c6 = c4 ∧ c7 = c5 := by
    simpa [raisesTo, List.range_succ] using h
  unfold shapL
  rw [sums3, F3]
  simp only [List.map_cons, List.map_nil, List.getD_cons_zero, List.getD_cons_succ]
  have e : ∀ (s F : Int), s = 0 → Rat.divInt s F = 0 := fun s F h => by rw [h, Rat.zero_divInt]
  exact e _ _ (by omega)
theorem null3_2 (c0 c1 c2 c3 c4 c5 c6 c7 : Int) (h : raisesTo [c0, c1, c2, c3, c4, c5, c6, c7] 2 8 = false) : (shapL [c0, c1, c2, c3, c4, c5, c6, c7] 3).getD 2 0 = 0 := by
  have h : c4 = c0 ∧ c5 = c1 ∧ c6 = c2 ∧ c7 = c3 := by
    simpa [raisesTo, List.range_succ] using h
  unfold shapL
  rw [sums3, F3]
  simp only [List.map_cons, List.map_nil, List.getD_cons_zero, List.getD_cons_succ]
  have e : ∀ (s F : Int), s = 0 → Rat.divInt s F = 0 := fun s F h => by rw [h, Rat.zero_divInt]
  exact e _ _ (by omega)
theorem sym3_1_0 (c0 c1 c2 c3 c4 c5 c6 c7 : Int) (h : alikeTo [c0, c1, c2, c3, c4, c5, c6, c7] 1 0 8 = true) : (shapL [c0, c1, c2, c3, c4, c5, c6, c7] 3).getD 1 0 = (shapL [c0, c1, c2, c3, c4, c5, c6, c7] 3).getD 0 0 := by
  have h : c2 = c1 ∧ c6 = c5 := by
    simpa [alikeTo, alikeAt, List.range_succ, Nat.testBit_eq_decide_div_mod_eq] using h
  unfold shapL
  rw [sums3, F3]
  simp only [List.map_cons, List.map_nil, List.getD_cons_zero, List.getD_cons_succ]
  have e : ∀ (s t F : Int), s = t → Rat.divInt s F = Rat.divInt t F := fun s t F h => by rw [h]
  exact e _ _ _ (by omega)
theorem sym3_2_0 (c0 c1 c2 c3 c4 c5 c6 c7 : Int) (h : alikeTo [c0, c1, c2, c3, c4, c5, c6, c7] 2 0 8 = true) : (shapL [c0, c1, c2, c3, c4, c5, c6, c7] 3).getD 2 0 = (shapL [c0, c1, c2, c3, c4, c5, c6, c7] 3).getD 0 0 := by
  have h : c4 = c1 ∧ c6 = c3 := by
    simpa [alikeTo, alikeAt, List.range_succ, Nat.testBit_eq_decide_div_mod_eq] using h
  unfold shapL
  rw [sums3, F3]
  simp only [List.map_cons, List.map_nil, List.getD_cons_zero, List.getD_cons_succ]
  have e : ∀ (s t F : Int), s = t → Rat.divInt s F = Rat.divInt t F := fun s t F h => by rw [h]
  exact e _ _ _ (by omega)
theorem sym3_2_1 (c0 c1 c2 c3 c4 c5 c6 c7 : Int) (h : alikeTo [c0, c1, c2, c3, c4, c5, c6, c7] 2 1 8 = true) : (shapL [c0, c1, c2, c3, c4, c5, c6, c7] 3).getD 2 0 = (shapL [c0, c1, c2, c3, c4, c5, c6, c7] 3).getD 1 0 := by
  have h : c4 = c2 ∧ c5 = c3 := by
    simpa [alikeTo, alikeAt, List.range_succ, Nat.testBit_eq_decide_div_mod_eq] using h
  unfold shapL
  rw [sums3, F3]
  simp only [List.map_cons, List.map_nil, List.getD_cons_zero, List.getD_cons_succ]
  have e : ∀ (s t F : Int), s = t → Rat.divInt s F = Rat.divInt t F := fun s t F h => by rw [h]
  exact e _ _ _ (by omega)
theorem null4_0 (c0 c1 c2 c3 c4 c5 c6 c7 c8 c9 c10 c11 c12 c13 c14 c15 : Int) (h : raisesTo [c0, c1, c2, c3, c4, c5, c6, c7, c8, c9, c10, c11, c12, c13, c14, c15] 0 16 = false) : (shapL [c0, c1, c2, c3, c4, c5, c6, c7, c8, c9, c10, c11, c12, c13, c14, c15] 4).getD 0 0 = 0 := by
  have h : c1 = c0 ∧ c3 = c2 ∧ c5 = c4 ∧ c7 = c6 ∧ c9 = c8 ∧ c11 = c10 ∧ c13 = c12 ∧ c15 = c14 := by
    simpa [raisesTo, List.range_succ] using h
  unfold shapL
  rw [sums4, F4]
  simp only [List.map_cons, List.map_nil, List.getD_cons_zero]
  have e : ∀ (s F : Int), s = 0 → Rat.divInt s F = 0 := fun s F h => by rw [h, Rat.zero_divInt]
  exact e _ _ (by omega)
theorem null4_1 (c0 c1 c2 c3 c4 c5 c6 c7 c8 c9 c10 c11 c12 c13 c14 c15 : Int) (h : raisesTo [c0, c1, c2, c3, c4, c5, c6, c7, c8, c9, c10, c11, c12, c13, c14, c15] 1 16 = false) : (shapL [c0, c1, c2, c3, c4, c5, c6, c7, c8, c9, c10, c11, c12, c13, c14, c15] 4).getD 1 0 = 0 := by
  have h : c2 = c0 ∧ c3 = c1 ∧ c6 = c4 ∧ c7 = c5 ∧ c10 = c8 ∧ c11 = c9 ∧ c14 = c12 ∧ c15 = c13 := by
    simpa [raisesTo, List.range_succ] using h
  unfold shapL
  rw [sums4, F4]
  simp only [List.map_cons, List.map_nil, List.getD_cons_zero, List.getD_cons_succ]
  have e : ∀ (s F : Int), s = 0 → Rat.divInt s F = 0 := fun s F h => by rw [h, Rat.zero_divInt]
  exact e _ _ (by omega)
theorem null4_2 (c0 c1 c2 c3 c4 c5 c6 c7 c8 c9 c10 c11 c12 c13 c14 c15 : Int) (h : raisesTo [c0, c1, c2, c3, c4, c5, c6, c7, c8, c9, c10, c11, c12, c13, c14, c15] 2 16 = false) : (shapL [c0, c1, c2, c3, c4, c5, c6, c7, c8, c9, c10, c11, c12, c13, c14, c15] 4).getD 2 0 = 0 := by
  have h : c4 = c0 ∧ c5 = c1 ∧ c6 = c2 ∧ c7 = c3 ∧ c12 = c8 ∧ c13 = c9 ∧ c14 = c10 ∧ c15 = c11 := by
    simpa [raisesTo, List.range_succ] using h
  unfold shapL
  rw [sums4, F4]
  simp only [List.map_cons, List.map_nil, List.getD_cons_zero, List.getD_cons_succ]
  have e : ∀ (s F : Int), s = 0 → Rat.divInt s F = 0 := fun s F h => by rw [h, Rat.zero_divInt]
  exact e _ _ (by omega)
theorem null4_3 (c0 c1 c2 c3 c4 c5 c6 c7 c8 c9 c10 c11 c12 c13 c14 c15 : Int) (h : raisesTo [c0, c1, c2, c3, c4, c5, c6, c7, c8, c9, c10, c11, c12, c13, c14, c15] 3 16 = false) : (shapL [c0, c1, c2, c3, c4, c5, c6, c7, c8, c9, c10, c11, c12, c13, c14, c15] 4).getD 3 0 = 0 := by
  have h : c8 = c0 ∧ c9 = c1 ∧ c10 = c2 ∧ c11 = c3 ∧ c12 = c4 ∧ c13 = c5 ∧ c14 = c6 ∧ c15 = c7 := by
    simpa [raisesTo, List.range_succ] using h
  unfold shapL
  rw [sums4, F4]
  simp only [List.map_cons, List.map_nil, List.getD_cons_zero, List.getD_cons_succ]
  have e : ∀ (s F : Int), s = 0 → Rat.divInt s F = 0 := fun s F h => by rw [h, Rat.zero_divInt]
  exact e _ _ (by omega)
theorem sym4_1_0 (c0 c1 c2 c3 c4 c5 c6 c7 c8 c9 c10 c11 c12 c13 c14 c15 : Int) (h : alikeTo [c0, c1, c2, c3, c4, c5, c6, c7, c8, c9, c10, c11, c12, c13, c14, c15] 1 0 16 = true) : (shapL [c0, c1, c2, c3, c4, c5, c6, c7, c8, c9, c10, c11, c12, c13, c14, c15] 4).getD 1 0 = (shapL [c0, c1, c2, c3, c4, c5, c6, c7, c8, c9, c10, c11, c12, c13, c14, c15] 4).getD 0 0 := by
  have h : c2 = c1 ∧ c6 = c5 ∧ c10 = c9 ∧ c14 = c13 := by
    simpa [alikeTo, alikeAt, List.range_succ, Nat.testBit_eq_decide_div_mod_eq] using h
  unfold shapL
  rw [sums4, F4]
  simp only [List.map_cons, List.map_nil, List.getD_cons_zero, List.getD_cons_succ]
  have e : ∀ (s t F : Int), s = t → Rat.divInt s F = Rat.divInt t F := fun s t F h => by rw [h]
  exact e _ _ _ (by omega)
theorem sym4_2_0 (c0 c1 c2 c3 c4 c5 c6 c7 c8 c9 c10 c11 c12 c13 c14 c15 : Int) (h : alikeTo [c0, c1, c2, c3, c4, c5, c6, c7, c8, c9, c10, c11, c12, c13, c14, c15] 2 0 16 = true) : (shapL [c0, c1, c2, c3, c4, c5, c6, c7, c8, c9, c10, c11, c12, c13, c14, c15] 4).getD 2 0 = (shapL [c0, c1, c2, c3, c4, c5, c6, c7, c8, c9, c10, c11, c12, c13, c14, c15] 4).getD 0 0 := by
  have h : c4 = c1 ∧ c6 = c3 ∧ c12 = c9 ∧ c14 = c11 := by
    simpa [alikeTo, alikeAt, List.range_succ, Nat.testBit_eq_decide_div_mod_eq] using h
  unfold shapL
  rw [sums4, F4]
  simp only [List.map_cons, List.map_nil, List.getD_cons_zero, List.getD_cons_succ]
  have e : ∀ (s t F : Int), s = t → Rat.divInt s F = Rat.divInt t F := fun s t F h => by rw [h]
  exact e _ _ _ (by omega)
theorem sym4_2_1 (c0 c1 c2 c3 c4 c5 c6 c7 c8 c9 c10 c11 c12 c13 c14 c15 : Int) (h : alikeTo [c0, c1, c2, c3, c4, c5, c6, c7, c8, c9, c10, c11, c12, c13, c14, c15] 2 1 16 = true) : (shapL [c0, c1, c2, c3, c4, c5, c6, c7, c8, c9, c10, c11, c12, c13, c14, c15] 4).getD 2 0 = (shapL [c0, c1, c2, c3, c4, c5, c6, c7, c8, c9, c10, c11, c12, c13, c14, c15] 4).getD 1 0 := by
  have h : c4 = c2 ∧ c5 = c3 ∧ c12 = c10 ∧ c13 = c11 := by
    simpa [alikeTo, alikeAt, List.range_succ, Nat.testBit_eq_decide_div_mod_eq] using h
  unfold shapL
  rw [sums4, F4]
  simp only [List.map_cons, List.map_nil, List.getD_cons_zero, List.getD_cons_succ]
  have e : ∀ (s t F : Int), s = t → Rat.divInt s F = Rat.divInt t F := fun s t F h => by rw [h]
  exact e _ _ _ (by omega)
theorem sym4_3_0 (c0 c1 c2 c3 c4 c5 c6 c7 c8 c9 c10 c11 c12 c13 c14 c15 : Int) (h : alikeTo [c0, c1, c2, c3, c4, c5, c6, c7, c8, c9, c10, c11, c12, c13, c14, c15] 3 0 16 = true) : (shapL [c0, c1, c2, c3, c4, c5, c6, c7, c8, c9, c10, c11, c12, c13, c14, c15] 4).getD 3 0 = (shapL [c0, c1, c2, c3, c4, c5, c6, c7, c8, c9, c10, c11, c12, c13, c14, c15] 4).getD 0 0 := by
  have h : c8 = c1 ∧ c10 = c3 ∧ c12 = c5 ∧ c14 = c7 := by
    simpa [alikeTo, alikeAt, List.range_succ, Nat.testBit_eq_decide_div_mod_eq] using h
  unfold shapL
  rw [sums4, F4]
  simp only [List.map_cons, List.map_nil, List.getD_cons_zero, List.getD_cons_succ]
  have e : ∀ (s t F : Int), s = t → Rat.divInt s F = Rat.divInt t F := fun s t F h => by rw [h]
  exact e _ _ _ (by omega)
theorem sym4_3_1 (c0 c1 c2 c3 c4 c5 c6 c7 c8 c9 c10 c11 c12 c13 c14 c15 : Int) (h : alikeTo [c0, c1, c2, c3, c4, c5, c6, c7, c8, c9, c10, c11, c12, c13, c14, c15] 3 1 16 = true) : (shapL [c0, c1, c2, c3, c4, c5, c6, c7, c8, c9, c10, c11, c12, c13, c14, c15] 4).getD 3 0 = (shapL [c0, c1, c2, c3, c4, c5, c6, c7, c8, c9, c10, c11, c12, c13, c14, c15] 4).getD 1 0 := by
  have h : c8 = c2 ∧ c9 = c3 ∧ c12 = c6 ∧ c13 = c7 := by
    simpa [alikeTo, alikeAt, List.range_succ, Nat.testBit_eq_decide_div_mod_eq] using h
  unfold shapL
  rw [sums4, F4]
  simp only [List.map_cons, List.map_nil, List.getD_cons_zero, List.getD_cons_succ]
  have e : ∀ (s t F : Int), s = t → Rat.divInt s F = Rat.divInt t F := fun s t F h => by rw [h]
  exact e _ _ _ (by omega)
theorem sym4_3_2 (c0 c1 c2 c3 c4 c5 c6 c7 c8 c9 c10 c11 c12 c13 c14 c15 : Int) (h : alikeTo [c0, c1, c2, c3, c4, c5, c6, c7, c8, c9, c10, c11, c12, c13, c14, c15] 3 2 16 = true) : (shapL [c0, c1, c2, c3, c4, c5, c6, c7, c8, c9, c10, c11, c12, c13, c14, c15] 4).getD 3 0 = (shapL [c0, c1, c2, c3, c4, c5, c6, c7, c8, c9, c10, c11, c12, c13, c14, c15] 4).getD 2 0 := by
  have h : c8 = c4 ∧ c9 = c5 ∧ c10 = c6 ∧ c11 = c7 := by
    simpa [alikeTo, alikeAt, List.range_succ, Nat.testBit_eq_decide_div_mod_eq] using h
  unfold shapL
  rw [sums4, F4]
  simp only [List.map_cons, List.map_nil, List.getD_cons_zero, List.getD_cons_succ]
  have e : ∀ (s t F : Int), s = t → Rat.divInt s F = Rat.divInt t F := fun s t F h => by rw [h]
  exact e _ _ _ (by omega)

theorem shap_null {c : List Int} {n i : Nat} (hn : 1 ≤ n ∧ n ≤ 4) (hi : i < n) (hl : c.length = 2 ^ n) (h : raisesTo c i (2 ^ n) = false) : (shapL c n).getD i 0 = 0 := by
  match n, hn with
  | 1, _ =>
    obtain ⟨c0, c1, rfl⟩ := list2 c hl
    match i, hi with
    | 0, _ => exact null1_0 _ _ h
  | 2, _ =>
    obtain ⟨c0, c1, c2, c3, rfl⟩ := list4 c hl
    match i, hi with
    | 0, _ => exact null2_0 _ _ _ _ h
    | 1, _ => exact null2_1 _ _ _ _ h
  | 3, _ =>
    obtain ⟨c0, c1, c2, c3, c4, c5, c6, c7, rfl⟩ := list8 c hl
    match i, hi with
    | 0, _ => exact null3_0 _ _ _ _ _ _ _ _ h
    | 1, _ => exact null3_1 _ _ _ _ _ _ _ _ h
    | 2, _ => exact null3_2 _ _ _ _ _ _ _ _ h
  | 4, _ =>
    obtain ⟨c0, c1, c2, c3, c4, c5, c6, c7, c8, c9, c10, c11, c12, c13, c14, c15, rfl⟩ := list16 c hl
    match i, hi with
    | 0, _ => exact null4_0 _ _ _ _ _ _ _ _ _ _ _ _ _ _ _ _ h
    | 1, _ => exact null4_1 _ _ _ _ _ _ _ _ _ _ _ _ _ _ _ _ h
    | 2, _ => exact null4_2 _ _ _ _ _ _ _ _ _ _ _ _ _ _ _ _ h
    | 3, _ => exact null4_3 _ _ _ _ _ _ _ _ _ _ _ _ _ _ _ _ h
theorem shap_sym {c : List Int} {n i j : Nat} (hn : 1 ≤ n ∧ n ≤ 4) (hi : i < n) (hj : j < i) (hl : c.length = 2 ^ n) (h : alikeTo c i j (2 ^ n) = true) : (shapL c n).getD i 0 = (shapL c n).getD j 0 := by
  match n, hn with
  | 1, _ =>
    obtain ⟨c0, c1, rfl⟩ := list2 c hl
    match i, j, hi, hj with
    | 0, j, _, hj => omega
  | 2, _ =>
    obtain ⟨c0, c1, c2, c3, rfl⟩ := list4 c hl
    match i, j, hi, hj with
    | 1, 0, _, _ => exact sym2_1_0 _ _ _ _ h
  | 3, _ =>
    obtain ⟨c0, c1, c2, c3, c4, c5, c6, c7, rfl⟩ := list8 c hl
    match i, j, hi, hj with
    | 1, 0, _, _ => exact sym3_1_0 _ _ _ _ _ _ _ _ h
    | 2, 0, _, _ => exact sym3_2_0 _ _ _ _ _ _ _ _ h
    | 2, 1, _, _ => exact sym3_2_1 _ _ _ _ _ _ _ _ h
  | 4, _ =>
    obtain ⟨c0, c1, c2, c3, c4, c5, c6, c7, c8, c9, c10, c11, c12, c13, c14, c15, rfl⟩ := list16 c hl
    match i, j, hi, hj with
    | 1, 0, _, _ => exact sym4_1_0 _ _ _ _ _ _ _ _ _ _ _ _ _ _ _ _ h
    | 2, 0, _, _ => exact sym4_2_0 _ _ _ _ _ _ _ _ _ _ _ _ _ _ _ _ h
    | 2, 1, _, _ => exact sym4_2_1 _ _ _ _ _ _ _ _ _ _ _ _ _ _ _ _ h
    | 3, 0, _, _ => exact sym4_3_0 _ _ _ _ _ _ _ _ _ _ _ _ _ _ _ _ h
    | 3, 1, _, _ => exact sym4_3_1 _ _ _ _ _ _ _ _ _ _ _ _ _ _ _ _ h
    | 3, 2, _, _ => exact sym4_3_2 _ _ _ _ _ _ _ _ _ _ _ _ _ _ _ _ h

set_option maxHeartbeats 4000000 in
/-- The sums add. -/
theorem sums_add {c d e : List Int} {n : Nat} (hn : 1 ≤ n ∧ n ≤ 4) (hc : c.length = 2 ^ n) (hd : d.length = 2 ^ n) (he : e.length = 2 ^ n) (h : ∀ i, i < 2 ^ n → e.getD i 0 = c.getD i 0 + d.getD i 0) :
    ∀ i, i < n → (shapL e n).getD i 0 = (shapL c n).getD i 0 + (shapL d n).getD i 0 := by
  have key : ∀ (s t u F : Int), u = s + t → Rat.divInt u F = Rat.divInt s F + Rat.divInt t F := fun s t u F h => by rw [add_same, h]
  match n, hn with
  | 1, _ =>
    obtain ⟨c0, c1, rfl⟩ := list2 c hc
    obtain ⟨d0, d1, rfl⟩ := list2 d hd
    obtain ⟨e0, e1, rfl⟩ := list2 e he
    have hh : e0 = c0 + d0 ∧ e1 = c1 + d1 := ⟨h 0 (by decide), h 1 (by decide)⟩
    clear h hc hd he
    unfold shapL
    rw [sums1, sums1, sums1, F1]
    intro i hi
    match i, hi with
    | 0, _ =>
      simp only [List.map_cons, List.map_nil, List.getD_cons_zero]
      exact key _ _ _ _ (by omega)
  | 2, _ =>
    obtain ⟨c0, c1, c2, c3, rfl⟩ := list4 c hc
    obtain ⟨d0, d1, d2, d3, rfl⟩ := list4 d hd
    obtain ⟨e0, e1, e2, e3, rfl⟩ := list4 e he
    have hh : e0 = c0 + d0 ∧ e1 = c1 + d1 ∧ e2 = c2 + d2 ∧ e3 = c3 + d3 := ⟨h 0 (by decide), h 1 (by decide), h 2 (by decide), h 3 (by decide)⟩
    clear h hc hd he
    unfold shapL
    rw [sums2, sums2, sums2, F2]
    intro i hi
    match i, hi with
    | 0, _ =>
      simp only [List.map_cons, List.map_nil, List.getD_cons_zero]
      exact key _ _ _ _ (by omega)
    | 1, _ =>
      simp only [List.map_cons, List.map_nil, List.getD_cons_zero, List.getD_cons_succ]
      exact key _ _ _ _ (by omega)
  | 3, _ =>
    obtain ⟨c0, c1, c2, c3, c4, c5, c6, c7, rfl⟩ := list8 c hc
    obtain ⟨d0, d1, d2, d3, d4, d5, d6, d7, rfl⟩ := list8 d hd
    obtain ⟨e0, e1, e2, e3, e4, e5, e6, e7, rfl⟩ := list8 e he
    have hh : e0 = c0 + d0 ∧ e1 = c1 + d1 ∧ e2 = c2 + d2 ∧ e3 = c3 + d3 ∧ e4 = c4 + d4 ∧ e5 = c5 + d5 ∧ e6 = c6 + d6 ∧ e7 = c7 + d7 := ⟨h 0 (by decide), h 1 (by decide), h 2 (by decide), h 3 (by decide), h 4 (by decide), h 5 (by decide), h 6 (by decide), h 7 (by decide)⟩
    clear h hc hd he
    unfold shapL
    rw [sums3, sums3, sums3, F3]
    intro i hi
    match i, hi with
    | 0, _ =>
      simp only [List.map_cons, List.map_nil, List.getD_cons_zero]
      exact key _ _ _ _ (by omega)
    | 1, _ =>
      simp only [List.map_cons, List.map_nil, List.getD_cons_zero, List.getD_cons_succ]
      exact key _ _ _ _ (by omega)
    | 2, _ =>
      simp only [List.map_cons, List.map_nil, List.getD_cons_zero, List.getD_cons_succ]
      exact key _ _ _ _ (by omega)
  | 4, _ =>
    obtain ⟨c0, c1, c2, c3, c4, c5, c6, c7, c8, c9, c10, c11, c12, c13, c14, c15, rfl⟩ := list16 c hc
    obtain ⟨d0, d1, d2, d3, d4, d5, d6, d7, d8, d9, d10, d11, d12, d13, d14, d15, rfl⟩ := list16 d hd
    obtain ⟨e0, e1, e2, e3, e4, e5, e6, e7, e8, e9, e10, e11, e12, e13, e14, e15, rfl⟩ := list16 e he
    have hh : e0 = c0 + d0 ∧ e1 = c1 + d1 ∧ e2 = c2 + d2 ∧ e3 = c3 + d3 ∧ e4 = c4 + d4 ∧ e5 = c5 + d5 ∧ e6 = c6 + d6 ∧ e7 = c7 + d7 ∧ e8 = c8 + d8 ∧ e9 = c9 + d9 ∧ e10 = c10 + d10 ∧ e11 = c11 + d11 ∧ e12 = c12 + d12 ∧ e13 = c13 + d13 ∧ e14 = c14 + d14 ∧ e15 = c15 + d15 := ⟨h 0 (by decide), h 1 (by decide), h 2 (by decide), h 3 (by decide), h 4 (by decide), h 5 (by decide), h 6 (by decide), h 7 (by decide), h 8 (by decide), h 9 (by decide), h 10 (by decide), h 11 (by decide), h 12 (by decide), h 13 (by decide), h 14 (by decide), h 15 (by decide)⟩
    clear h hc hd he
    unfold shapL
    rw [sums4, sums4, sums4, F4]
    intro i hi
    match i, hi with
    | 0, _ =>
      simp only [List.map_cons, List.map_nil, List.getD_cons_zero]
      exact key _ _ _ _ (by omega)
    | 1, _ =>
      simp only [List.map_cons, List.map_nil, List.getD_cons_zero, List.getD_cons_succ]
      exact key _ _ _ _ (by omega)
    | 2, _ =>
      simp only [List.map_cons, List.map_nil, List.getD_cons_zero, List.getD_cons_succ]
      exact key _ _ _ _ (by omega)
    | 3, _ =>
      simp only [List.map_cons, List.map_nil, List.getD_cons_zero, List.getD_cons_succ]
      exact key _ _ _ _ (by omega)

/-- The sums of two games, wrapped, of the first k sets. -/
def sumTo (c d : List Int) (k : Nat) : List Int := (List.range k).map fun i => IntKind.i64.wrap (c.getD i 0 + d.getD i 0)
theorem sumTo_length (c d : List Int) (k : Nat) : (sumTo c d k).length = k := by simp [sumTo]
theorem sumTo_succ {c d : List Int} {k : Nat} {x y : Int} (hx : c[k]? = some x) (hy : d[k]? = some y) : sumTo c d (k + 1) = sumTo c d k ++ [IntKind.i64.wrap (x + y)] := by
  simp [sumTo, List.range_succ, List.getD_eq_getElem?_getD, hx, hy]
theorem sumTo_get {c d : List Int} {k i : Nat} (h : i < k) : (sumTo c d k).getD i 0 = IntKind.i64.wrap (c.getD i 0 + d.getD i 0) := by
  rw [List.getD_eq_getElem?_getD]
  simp [sumTo, h]
theorem plr_len {a b : List Int} (ha : valC a = true) (hb : valC b = true) (h : a.length = b.length) : plr a = plr b := by
  unfold plr
  rw [if_pos ha, if_pos hb, h]
theorem shap_add {c d : List Int} {n N : Nat} (hn : 1 ≤ n ∧ n ≤ 4) (hN : N = 2 ^ n) (hc : c.length = N) (hd : d.length = N) (hvc : valC c = true) (hvd : valC d = true) :
    ∀ i, i < n → (shapL (sumTo c d N) n).getD i 0 = (shapL c n).getD i 0 + (shapL d n).getD i 0 := by
  refine sums_add hn (by rw [hc, hN]) (by rw [hd, hN]) (by rw [sumTo_length, hN]) fun i hi => ?_
  rw [sumTo_get (by rw [hN]; exact hi)]
  have h1 := costs_get (valC_iff.1 hvc).2.2 i
  have h2 := costs_get (valC_iff.1 hvd).2.2 i
  exact IntWalk.i64_in _ (by omega)

/- All costs multiplied by a number: plain Lean. -/

def timesL (c : List Int) (k : Nat) : List Int := c.map (· * (k : Int))
theorem timesL_length (c : List Int) (k : Nat) : (timesL c k).length = c.length := by simp [timesL]
theorem timesL_get (c : List Int) (k i : Nat) : (timesL c k).getD i 0 = c.getD i 0 * (k : Int) := by
  unfold timesL
  rw [List.getD_eq_getElem?_getD, List.getElem?_map, List.getD_eq_getElem?_getD]
  cases c[i]? <;> simp
theorem shap_times {c : List Int} {n : Nat} (hn : 1 ≤ n ∧ n ≤ 4) (hc : c.length = 2 ^ n) : ∀ k, ∀ i, i < n → (shapL (timesL c (k + 1)) n).getD i 0 = (shapL c n).getD i 0 * (((k + 1 : Nat) : Int) : Rat) := by
  intro k
  induction k with
  | zero =>
    intro i _
    have e : timesL c 1 = c := by unfold timesL; simp
    rw [e]
    have : (((0 + 1 : Nat) : Int) : Rat) = 1 := rfl
    rw [this]; grind
  | succ k ih =>
    intro i hi
    rw [sums_add (c := timesL c (k + 1)) (d := c) hn (by rw [timesL_length]; exact hc) hc (by rw [timesL_length]; exact hc) (fun s _ => by
      rw [timesL_get, timesL_get, show ((k + 1 + 1 : Nat) : Int) = ((k + 1 : Nat) : Int) + 1 from by omega, Int.mul_add, Int.mul_one]) i hi, ih i hi]
    rw [show ((k + 1 + 1 : Nat) : Int) = ((k + 1 : Nat) : Int) + 1 from by omega, Rat.intCast_add]
    have : ((1 : Int) : Rat) = 1 := rfl
    rw [this]; grind
theorem dot_scale (n : Nat) (t : Rat) (d : Nat → Rat) (s : Nat) : dotS n (fun i => t * d i) s = t * dotS n d s := by
  unfold dotS
  rw [← sumQ_mul]
  exact sumQ_congr fun i _ => by grind
theorem cq_times (c : List Int) (k s : Nat) : cq (timesL c k) s = ((k : Int) : Rat) * cq c s := by
  unfold cq
  rw [timesL_get, Rat.intCast_mul, Rat.mul_comm]
theorem times_in {c : List Int} {n k : Nat} (hk : 1 ≤ k) : (∃ x, InC (timesL c k) n x) ↔ ∃ x, InC c n x := by
  have hk0 : (0 : Rat) < ((k : Int) : Rat) := (Rat.intCast_lt_intCast (a := 0) (b := (k : Int))).2 (by omega)
  have hki : ((k : Int) : Rat)⁻¹ * ((k : Int) : Rat) = 1 := by
    rw [Rat.mul_comm]; exact Rat.mul_inv_cancel _ (by grind)
  have hi0 := Rat.le_of_lt (Rat.inv_pos.2 hk0)
  constructor
  · rintro ⟨x, h1, h2⟩
    refine ⟨fun i => ((k : Int) : Rat)⁻¹ * x i, ?_, fun s hs => ?_⟩
    · rw [dot_scale, h1, cq_times, ← Rat.mul_assoc, hki, Rat.one_mul]
    · have h3 := Rat.mul_le_mul_of_nonneg_left (h2 s hs) hi0
      rw [cq_times, ← Rat.mul_assoc, hki, Rat.one_mul] at h3
      rw [dot_scale]; exact h3
  · rintro ⟨x, h1, h2⟩
    refine ⟨fun i => ((k : Int) : Rat) * x i, ?_, fun s hs => ?_⟩
    · rw [dot_scale, h1, cq_times]
    · rw [dot_scale, cq_times]
      exact Rat.mul_le_mul_of_nonneg_left (h2 s hs) (Rat.le_of_lt hk0)
theorem bool_of_iff {a b : Bool} (h : a = true ↔ b = true) : a = b := by cases a <;> cases b <;> simp_all
theorem times_core {c : List Int} {k : Nat} (hk : 1 ≤ k) (hv : valC c = true) (hv2 : valC (timesL c k) = true) : coE (timesL c k) = coE c := by
  have hpl : plr (timesL c k) = plr c := plr_len hv2 hv (timesL_length c k)
  have e : (coreF (timesL c k)).isSome = (coreF c).isSome := bool_of_iff (by
    rw [core_iff hv2, core_iff hv, hpl]; exact times_in hk)
  unfold coE
  rw [hv, hv2, e]
theorem times_conc {c : List Int} {k : Nat} (hk : 1 ≤ k) (hv : valC c = true) (hv2 : valC (timesL c k) = true) : concA (timesL c k) = concA c := by
  have e : ∀ a b, badB (timesL c k) a b = badB c a b := by
    intro a b
    unfold badB
    rw [timesL_get, timesL_get, timesL_get, timesL_get, ← Int.add_mul, ← Int.add_mul, decide_eq_decide]
    exact Int.mul_lt_mul_right (by omega)
  unfold concA concL
  rw [hv, hv2, timesL_length]
  simp only [e]
/-- The costs while they are multiplied. -/
def timesTo (c : List Int) (k j : Nat) : List Int := (c.take j).map (· * (k : Int)) ++ c.drop j
theorem timesTo_length (c : List Int) (k j : Nat) : (timesTo c k j).length = c.length := by simp [timesTo]; omega
theorem timesTo_get {c : List Int} {k j : Nat} {x : Int} (h : c[j]? = some x) : (timesTo c k j)[j]? = some x := by
  have hj : j < c.length := List.getElem?_eq_some_iff.1 h |>.1
  unfold timesTo
  rw [List.getElem?_append_right (by simp; omega)]
  simp only [List.length_map, List.length_take]
  rw [show min j c.length = j from by omega, Nat.sub_self, List.getElem?_drop, Nat.add_zero, h]
theorem timesTo_succ {c : List Int} {k j : Nat} {x : Int} (h : c[j]? = some x) : (timesTo c k j).set j (x * (k : Int)) = timesTo c k (j + 1) := by
  have hj : j < c.length := List.getElem?_eq_some_iff.1 h |>.1
  apply List.ext_getElem?
  intro i
  rw [List.getElem?_set]
  unfold timesTo
  by_cases e : j = i
  · subst e
    rw [if_pos rfl, if_pos (by simp; omega), List.getElem?_append_left (by simp; omega), List.getElem?_map, List.getElem?_take, if_pos (by omega), h]
    rfl
  · rw [if_neg e]
    by_cases e2 : i < j
    · rw [List.getElem?_append_left (by simp; omega), List.getElem?_append_left (by simp; omega), List.getElem?_map, List.getElem?_map, List.getElem?_take, List.getElem?_take, if_pos e2, if_pos (by omega)]
    · rw [List.getElem?_append_right (by simp; omega), List.getElem?_append_right (by simp; omega)]
      simp only [List.length_map, List.length_take, List.getElem?_drop]
      congr 1
      omega
theorem timesTo_zero (c : List Int) (k : Nat) : timesTo c k 0 = c := by simp [timesTo]
theorem timesTo_all (c : List Int) (k : Nat) : timesTo c k c.length = timesL c k := by simp [timesTo, timesL]

/- The costs of a road, and equal parts of each stretch: plain Lean. -/

def lenB (l : List Int) : Bool := (decide (1 ≤ l.length) && decide (l.length ≤ 4)) && l.all inR
theorem lenB_iff {l : List Int} : lenB l = true ↔ (1 ≤ l.length ∧ l.length ≤ 4) ∧ ∀ x ∈ l, 0 ≤ x ∧ x ≤ 1000 := by simp [lenB, inR]
theorem getD_len {l : List Int} (h : lenB l = true) (i : Nat) : 0 ≤ l.getD i 0 ∧ l.getD i 0 ≤ 1000 := by
  have h2 := (lenB_iff.1 h).2
  rw [List.getD_eq_getElem?_getD]
  cases e : l[i]? with
  | none => simp
  | some x => exact h2 x (List.mem_of_getElem? e)

/-- The costs of a set, of the first k players. -/
def maxTo (l : List Int) (s : Nat) : Nat → Int
  | 0 => 0
  | i + 1 => max (maxTo l s i) (if s.testBit i then l.getD i 0 else 0)
def roadL (l : List Int) : List Int := (List.range (2 ^ l.length)).map fun s => maxTo l s l.length
theorem roadL_length (l : List Int) : (roadL l).length = 2 ^ l.length := by simp [roadL]
theorem roadL_get {l : List Int} {s : Nat} (h : s < 2 ^ l.length) : (roadL l).getD s 0 = maxTo l s l.length := by
  unfold roadL
  rw [List.getD_eq_getElem?_getD, List.getElem?_map, List.getElem?_range h]
  rfl
theorem maxTo_bd {l : List Int} (h : lenB l = true) (s k : Nat) : 0 ≤ maxTo l s k ∧ maxTo l s k ≤ 1000 := by
  induction k with
  | zero => simp [maxTo]
  | succ k ih => have := getD_len h k; simp only [maxTo]; split <;> omega
theorem maxTo_zero (l : List Int) (k : Nat) : maxTo l 0 k = 0 := by
  induction k with
  | zero => rfl
  | succ k ih => simp [maxTo, ih]
theorem road_valid {l : List Int} (h : lenB l = true) : valC (roadL l) = true := by
  have h1 := (lenB_iff.1 h).1
  refine valC_iff.2 ⟨?_, ?_, fun x hx => ?_⟩
  · rw [roadL_length]
    have : l.length = 1 ∨ l.length = 2 ∨ l.length = 3 ∨ l.length = 4 := by omega
    rcases this with e | e | e | e <;> simp [e]
  · have h0 : 0 < 2 ^ l.length := Nat.two_pow_pos _
    rw [List.getD_eq_getElem?_getD, List.getElem?_eq_getElem (by rw [roadL_length]; exact h0)]
    have := roadL_get h0
    rw [List.getD_eq_getElem?_getD, List.getElem?_eq_getElem (by rw [roadL_length]; exact h0), maxTo_zero] at this
    exact this
  · obtain ⟨s, _, rfl⟩ := List.mem_map.1 hx
    exact maxTo_bd h _ _
theorem road_plr {l : List Int} (h : lenB l = true) : plr (roadL l) = l.length := by
  have h1 := (valC_pow (road_valid h)).1
  rw [roadL_length] at h1
  exact ((Nat.pow_right_inj (by omega)).1 h1).symm
/-- Concave. -/
theorem max_or {l : List Int} (a b k : Nat) (h : ∀ i, 0 ≤ l.getD i 0) : maxTo l (a ||| b) k = max (maxTo l a k) (maxTo l b k) := by
  induction k with
  | zero => rfl
  | succ k ih =>
    have hk := h k
    have h0 : ∀ c, 0 ≤ maxTo l c k := by
      intro c
      clear ih
      induction k with
      | zero => exact Int.le_refl 0
      | succ j ih2 => simp only [maxTo]; have := ih2 (h j); omega
    have ha := h0 a
    have hb := h0 b
    simp only [maxTo, ih, Nat.testBit_or]
    cases a.testBit k <;> cases b.testBit k <;> simp <;> omega
theorem max_and {l : List Int} (a b k : Nat) (h : ∀ i, 0 ≤ l.getD i 0) : maxTo l (a &&& b) k ≤ maxTo l a k ∧ maxTo l (a &&& b) k ≤ maxTo l b k := by
  induction k with
  | zero => exact ⟨Int.le_refl _, Int.le_refl _⟩
  | succ k ih =>
    have hk := h k
    simp only [maxTo, Nat.testBit_and]
    generalize l.getD k 0 = z at *
    cases a.testBit k <;> cases b.testBit k <;> simp <;> omega
theorem road_conc {l : List Int} (h : lenB l = true) : concA (roadL l) = (0, 0, 4) := by
  have hg := fun i => (getD_len h i).1
  unfold concA
  rw [if_pos (road_valid h)]
  rcases concL_cases (roadL l) with ⟨a, b, _, ha, hb, hx⟩ | ⟨e, _⟩
  · exfalso
    rw [roadL_length] at ha hb
    unfold badB at hx
    rw [roadL_get ha, roadL_get hb, roadL_get (Nat.or_lt_two_pow ha hb), roadL_get (Nat.and_lt_two_pow _ hb)] at hx
    have h1 := max_or a b l.length hg
    have h2 := max_and a b l.length hg
    have := of_decide_eq_true hx
    omega
  · exact e

/-- How many drive beyond u. -/
def cnt (l : List Int) (u : Nat) : Nat := l.countP fun x => decide ((u : Int) < x)
/-- Twelve times what those pay who drive to t. -/
def serI (l : List Int) : Nat → Int
  | 0 => 0
  | t + 1 => serI l t + 12 / (cnt l t : Int)
theorem serI_bd (l : List Int) (t : Nat) : 0 ≤ serI l t ∧ serI l t ≤ 12 * t := by
  induction t with
  | zero => simp [serI]
  | succ t ih =>
    simp only [serI]
    have h1 : (0 : Int) ≤ 12 / (cnt l t : Int) := Int.ediv_nonneg (by omega) (by omega)
    have h2 : (12 : Int) / (cnt l t : Int) ≤ 12 := Int.ediv_le_self _ (by omega)
    omega
theorem serI_step {l : List Int} {a b m : Nat} (hab : a ≤ b) (h : ∀ u, a ≤ u → u < b → cnt l u = m) : serI l b = serI l a + ((b : Int) - (a : Int)) * (12 / (m : Int)) := by
  obtain ⟨d, rfl⟩ := Nat.exists_eq_add_of_le hab
  clear hab
  induction d with
  | zero => simp
  | succ d ih =>
    rw [show a + (d + 1) = (a + d) + 1 from rfl, serI, ih fun u h1 h2 => h u h1 (by omega), h (a + d) (by omega) (by omega)]
    have e : ((a + d + 1 : Nat) : Int) - (a : Int) = (((a + d : Nat) : Int) - (a : Int)) + 1 := by omega
    rw [e, Int.add_mul, Int.one_mul]
    omega
def serQ (l : List Int) (t : Nat) : Rat := Rat.divInt (serI l t) 12
theorem serQ_add (a d : Int) {m : Nat} (h : 1 ≤ m ∧ m ≤ 4) : Rat.divInt a 12 + Rat.divInt d m = Rat.divInt (a + d * (12 / (m : Int))) 12 := by
  have : m = 1 ∨ m = 2 ∨ m = 3 ∨ m = 4 := by omega
  rcases this with rfl | rfl | rfl | rfl
  · rw [Rat.divInt_eq_div, Rat.divInt_eq_div, Rat.divInt_eq_div, show (12 : Int) / ((1 : Nat) : Int) = 12 from rfl, Rat.intCast_add, Rat.intCast_mul]
    rw [show ((12 : Int) : Rat) = 12 from rfl, show (((1 : Nat) : Int) : Rat) = 1 from rfl]; grind
  · rw [Rat.divInt_eq_div, Rat.divInt_eq_div, Rat.divInt_eq_div, show (12 : Int) / ((2 : Nat) : Int) = 6 from rfl, Rat.intCast_add, Rat.intCast_mul]
    rw [show ((12 : Int) : Rat) = 12 from rfl, show (((2 : Nat) : Int) : Rat) = 2 from rfl, show ((6 : Int) : Rat) = 6 from rfl]; grind
  · rw [Rat.divInt_eq_div, Rat.divInt_eq_div, Rat.divInt_eq_div, show (12 : Int) / ((3 : Nat) : Int) = 4 from rfl, Rat.intCast_add, Rat.intCast_mul]
    rw [show ((12 : Int) : Rat) = 12 from rfl, show (((3 : Nat) : Int) : Rat) = 3 from rfl, show ((4 : Int) : Rat) = 4 from rfl]; grind
  · rw [Rat.divInt_eq_div, Rat.divInt_eq_div, Rat.divInt_eq_div, show (12 : Int) / ((4 : Nat) : Int) = 3 from rfl, Rat.intCast_add, Rat.intCast_mul]
    rw [show ((12 : Int) : Rat) = 12 from rfl, show (((4 : Nat) : Int) : Rat) = 4 from rfl, show ((3 : Int) : Rat) = 3 from rfl]; grind
theorem serQ_small {l : List Int} {t : Nat} (h : t ≤ 1000) : smallQ (serQ l t) := by
  have hb := serI_bd l t
  have h1 := divInt_bd (a := serI l t) (b := 12) (m := 12000) (by omega) (by omega) (by omega)
  have h2 := divInt_den_le (a := serI l t) (b := 12) (by omega)
  unfold serQ smallQ
  omega
/-- What everyone pays. -/
def serL (l : List Int) : List Rat := l.map fun x => serQ l x.toNat
theorem serL_length (l : List Int) : (serL l).length = l.length := by simp [serL]
theorem cnt_le (l : List Int) (u : Nat) : cnt l u ≤ l.length := List.countP_le_length

/- What the loops of Serial find, and Shapley of the costs of a road: plain Lean. -/

theorem serQ_zero (l : List Int) : serQ l 0 = 0 := by unfold serQ serI; exact Rat.zero_divInt _
theorem cnt_perm {l S : List Int} (h : S.Perm l) (u : Nat) : cnt S u = cnt l u := h.countP_eq _
theorem cnt_range (l : List Int) (u : Nat) : cnt l u = ((List.range l.length).filter fun i => decide ((u : Int) < l.getD i 0)).length := by
  unfold cnt
  rw [← List.countP_eq_length_filter]
  conv => lhs; rw [show l = (List.range l.length).map (fun i => l.getD i 0) from by
    apply List.ext_getElem?
    intro i
    by_cases h : i < l.length
    · rw [List.getElem?_map, List.getElem?_range h, Option.map_some, List.getD_eq_getElem?_getD, List.getElem?_eq_getElem h]; rfl
    · rw [List.getElem?_eq_none (by omega), List.getElem?_eq_none (by simp; omega)]]
  rw [List.countP_map]
  rfl
/-- The stop before the k-th one. -/
def atS (S : List Int) : Nat → Int
  | 0 => 0
  | k + 1 => S.getD k 0
theorem filter_ge (n k : Nat) (hk : k ≤ n) (p : Nat → Bool) (h : ∀ i, i < n → (p i = true ↔ k ≤ i)) : ((List.range n).filter p).length = n - k := by
  induction n with
  | zero => simp
  | succ n ih =>
    rw [List.range_succ, List.filter_append, List.length_append]
    by_cases e : k ≤ n
    · rw [ih e fun i hi => h i (by omega)]
      have : p n = true := (h n (by omega)).2 e
      simp [this]; omega
    · have hkn : k = n + 1 := by omega
      have hall : (List.range n).filter p = [] := by
        rw [List.filter_eq_nil_iff]
        intro i hi
        have hi := List.mem_range.1 hi
        have := h i (by omega)
        intro hp
        have := this.1 hp
        omega
      have : p n = false := by
        cases hp : p n with
        | false => rfl
        | true => have := (h n (by omega)).1 hp; omega
      rw [hall]; simp [this]; omega
/-- A stretch between two stops next to each other. -/
theorem stretch {l S : List Int} {k : Nat} (hv : lenB l = true) (hp : S.Perm l) (hs : ∀ a b, a < b → b < S.length → S.getD a 0 ≤ S.getD b 0) (hk : k < S.length) :
    0 ≤ atS S k ∧ atS S k ≤ S.getD k 0 ∧ serI l (S.getD k 0).toNat = serI l (atS S k).toNat + (S.getD k 0 - atS S k) * (12 / ((S.length - k : Nat) : Int)) := by
  have hin : ∀ j, j < S.length → 0 ≤ S.getD j 0 := fun j hj => by
    have hm : S.getD j 0 ∈ l := by rw [List.getD_eq_getElem?_getD, List.getElem?_eq_getElem hj]; exact hp.mem_iff.1 (List.getElem_mem hj)
    exact ((lenB_iff.1 hv).2 _ hm).1
  have h0 : 0 ≤ atS S k := by
    cases k with
    | zero => exact Int.le_refl 0
    | succ k => exact hin k (by omega)
  have h1 : atS S k ≤ S.getD k 0 := by
    cases k with
    | zero => exact hin 0 hk
    | succ k => exact hs k (k + 1) (by omega) hk
  have h2 : ∀ u : Nat, (atS S k).toNat ≤ u → u < (S.getD k 0).toNat → cnt l u = S.length - k := by
    intro u hu1 hu2
    rw [← cnt_perm hp, cnt_range]
    refine filter_ge _ _ (by omega) _ fun i hi => ?_
    rw [decide_eq_true_eq]
    constructor
    · intro hlt
      rcases Nat.lt_or_ge i k with hik | hik
      · exfalso
        obtain ⟨j, rfl⟩ : ∃ j, k = j + 1 := ⟨k - 1, by omega⟩
        have h3 : S.getD i 0 ≤ S.getD j 0 := by
          rcases Nat.lt_or_ge i j with h | h
          · exact hs i j h (by omega)
          · rw [show i = j by omega]; exact Int.le_refl _
        simp only [atS] at hu1
        omega
      · exact hik
    · intro hik
      have h3 : S.getD k 0 ≤ S.getD i 0 := by
        rcases Nat.lt_or_ge k i with h | h
        · exact hs k i h hi
        · rw [show i = k by omega]; exact Int.le_refl _
      omega
  refine ⟨h0, h1, ?_⟩
  rw [serI_step (by omega) h2, Int.toNat_of_nonneg h0, Int.toNat_of_nonneg (by omega)]
/-- The last stop that x drives to is x. -/
theorem at_end {l S : List Int} {k : Nat} {x : Int} (hp : S.Perm l) (hs : ∀ a b, a < b → b < S.length → S.getD a 0 ≤ S.getD b 0) (hx : x ∈ l) (hk : k ≤ S.length) (h1 : ∀ j, j < k → S.getD j 0 ≤ x) (h2 : k = S.length ∨ x < S.getD k 0) : atS S k = x := by
  obtain ⟨j, hj, e⟩ := List.getElem_of_mem (hp.mem_iff.2 hx)
  have e2 : S.getD j 0 = x := by rw [List.getD_eq_getElem?_getD, List.getElem?_eq_getElem hj]; exact e
  have hjk : j < k := by
    rcases Nat.lt_or_ge j k with h | h
    · exact h
    · exfalso
      rcases h2 with h2 | h2
      · omega
      · have : S.getD k 0 ≤ S.getD j 0 := by
          rcases Nat.lt_or_ge k j with h3 | h3
          · exact hs k j h3 hj
          · rw [show j = k by omega]; exact Int.le_refl _
        omega
  obtain ⟨i, rfl⟩ : ∃ i, k = i + 1 := ⟨k - 1, by omega⟩
  simp only [atS]
  have h3 := h1 i (by omega)
  have h4 : S.getD j 0 ≤ S.getD i 0 := by
    rcases Nat.lt_or_ge j i with h3 | h3
    · exact hs j i h3 (by omega)
    · rw [show j = i by omega]; exact Int.le_refl _
  omega

/-- The next stop after f, and who drives there, among the first k. -/
def NextOk (l : List Int) (f : Nat) (k : Nat) (nx : Int) (us : Nat) : Prop :=
  us = (l.take k).countP (fun x => decide ((f : Int) < x)) ∧ ((nx = -1 ∧ ∀ x ∈ l.take k, x ≤ f) ∨ ((f : Int) < nx ∧ nx ∈ l.take k ∧ ∀ x ∈ l.take k, (f : Int) < x → nx ≤ x))
theorem next_zero (l : List Int) (f : Nat) : NextOk l f 0 (-1) 0 := ⟨by simp, .inl ⟨rfl, by simp⟩⟩
theorem next_skip {l : List Int} {f k us : Nat} {nx x : Int} (h : NextOk l f k nx us) (hx : l[k]? = some x) (hf : x ≤ f) : NextOk l f (k + 1) nx us := by
  unfold NextOk at *
  rw [take_succ' hx]
  refine ⟨by rw [List.countP_append, ← h.1]; simp; omega, ?_⟩
  rcases h.2 with ⟨h1, h2⟩ | ⟨h1, h2, h3⟩
  · exact .inl ⟨h1, fun y hy => by rcases List.mem_append.1 hy with hy | hy; exact h2 y hy; rw [List.mem_singleton.1 hy]; exact hf⟩
  · exact .inr ⟨h1, List.mem_append_left _ h2, fun y hy hfy => by
      rcases List.mem_append.1 hy with hy | hy
      · exact h3 y hy hfy
      · rw [List.mem_singleton.1 hy] at hfy; omega⟩
theorem next_take {l : List Int} {f k us : Nat} {nx x : Int} (h : NextOk l f k nx us) (hx : l[k]? = some x) (hf : (f : Int) < x) (hn : nx < 0 ∨ x < nx) : NextOk l f (k + 1) x (us + 1) := by
  unfold NextOk at *
  rw [take_succ' hx]
  refine ⟨by rw [List.countP_append, ← h.1]; simp [hf], .inr ⟨hf, List.mem_append_right _ (List.mem_singleton.2 rfl), fun y hy hfy => ?_⟩⟩
  rcases List.mem_append.1 hy with hy | hy
  · rcases h.2 with ⟨h1, h2⟩ | ⟨h1, h2, h3⟩
    · have := h2 y hy; omega
    · have := h3 y hy hfy; omega
  · rw [List.mem_singleton.1 hy]; exact Int.le_refl _
theorem next_count {l : List Int} {f k us : Nat} {nx x : Int} (h : NextOk l f k nx us) (hx : l[k]? = some x) (hf : (f : Int) < x) (hn : ¬ (nx < 0 ∨ x < nx)) : NextOk l f (k + 1) nx (us + 1) := by
  unfold NextOk at *
  rw [take_succ' hx]
  refine ⟨by rw [List.countP_append, ← h.1]; simp [hf], ?_⟩
  rcases h.2 with ⟨h1, h2⟩ | ⟨h1, h2, h3⟩
  · omega
  · refine .inr ⟨h1, List.mem_append_left _ h2, fun y hy hfy => ?_⟩
    rcases List.mem_append.1 hy with hy | hy
    · exact h3 y hy hfy
    · rw [List.mem_singleton.1 hy]; omega
/-- What the reference has paid when the road is built to f. -/
def serTo (l : List Int) (f : Nat) : List Rat := l.map fun x => serQ l (min x.toNat f)
/-- In the middle of a round: the first k are brought from f to g. -/
def serMid (l : List Int) (f g k : Nat) : List Rat := (List.range l.length).map fun i => serQ l (min (l.getD i 0).toNat (if i < k then g else f))
theorem serTo_length (l : List Int) (f : Nat) : (serTo l f).length = l.length := by simp [serTo]
theorem serMid_length (l : List Int) (f g k : Nat) : (serMid l f g k).length = l.length := by simp [serMid]
theorem serTo_eq (l : List Int) (f : Nat) : serTo l f = (List.range l.length).map fun i => serQ l (min (l.getD i 0).toNat f) := by
  unfold serTo
  apply List.ext_getElem?
  intro i
  by_cases h : i < l.length
  · rw [List.getElem?_map, List.getElem?_map, List.getElem?_range h, List.getElem?_eq_getElem h, Option.map_some, Option.map_some, List.getD_eq_getElem?_getD, List.getElem?_eq_getElem h]
    rfl
  · rw [List.getElem?_eq_none (by simp; omega), List.getElem?_eq_none (by simp; omega)]
theorem serMid_zero (l : List Int) (f g : Nat) : serMid l f g 0 = serTo l f := by
  rw [serTo_eq]; unfold serMid; simp
theorem serMid_all (l : List Int) (f g : Nat) : serMid l f g l.length = serTo l g := by
  rw [serTo_eq]; unfold serMid
  refine List.map_congr_left fun i hi => ?_
  rw [if_pos (List.mem_range.1 hi)]
theorem serMid_get {l : List Int} {f g k : Nat} {x : Int} (hx : l[k]? = some x) : (serMid l f g k)[k]? = some (serQ l (min x.toNat f)) := by
  have hk : k < l.length := (List.getElem?_eq_some_iff.1 hx).1
  unfold serMid
  rw [List.getElem?_map, List.getElem?_range hk, Option.map_some, List.getD_eq_getElem?_getD, hx, if_neg (by omega)]
  rfl
theorem serMid_set {l : List Int} {f g k : Nat} {x : Int} (hx : l[k]? = some x) : (serMid l f g k).set k (serQ l (min x.toNat g)) = serMid l f g (k + 1) := by
  have hk : k < l.length := (List.getElem?_eq_some_iff.1 hx).1
  apply List.ext_getElem?
  intro i
  rw [List.getElem?_set]
  by_cases e : k = i
  · subst e
    rw [if_pos rfl, if_pos (by rw [serMid_length]; exact hk)]
    unfold serMid
    rw [List.getElem?_map, List.getElem?_range hk, Option.map_some, List.getD_eq_getElem?_getD, hx, if_pos (by omega)]
    rfl
  · rw [if_neg e]
    unfold serMid
    by_cases h : i < l.length
    · rw [List.getElem?_map, List.getElem?_map, List.getElem?_range h, Option.map_some, Option.map_some]
      by_cases h2 : i < k
      · rw [if_pos h2, if_pos (by omega)]
      · rw [if_neg h2, if_neg (by omega)]
    · rw [List.getElem?_eq_none (by simp; omega), List.getElem?_eq_none (by simp; omega)]
theorem serMid_stay {l : List Int} {f g k : Nat} {x : Int} (hx : l[k]? = some x) (h : x ≤ f) (hg : x ≤ g) : serMid l f g k = serMid l f g (k + 1) := by
  rw [← serMid_set hx, show min x.toNat g = min x.toNat f from by omega]
  apply List.ext_getElem?
  intro i
  rw [List.getElem?_set]
  split
  · rename_i e
    subst e
    rw [if_pos (by rw [serMid_length]; exact (List.getElem?_eq_some_iff.1 hx).1), serMid_get hx]
  · rfl
theorem serMid_stay' {l : List Int} {f g k : Nat} (hk : k < l.length) (h : ∀ x ∈ l, x ≤ f) (hg : ∀ x ∈ l, x ≤ g) : serMid l f g k = serMid l f g (k + 1) :=
  serMid_stay (List.getElem?_eq_getElem hk) (h _ (List.getElem_mem hk)) (hg _ (List.getElem_mem hk))
theorem serTo_end {l : List Int} (hv : lenB l = true) {f : Nat} (h : ∀ x ∈ l, x ≤ f) : serTo l f = serL l := by
  unfold serTo serL
  refine List.map_congr_left fun x hx => ?_
  have h0 := ((lenB_iff.1 hv).2 x hx).1
  have h1 := h x hx
  rw [show min x.toNat f = x.toNat from by omega]
theorem serTo_zero {l : List Int} : serTo l 0 = List.replicate l.length 0 := by
  unfold serTo
  rw [List.eq_replicate_iff]
  refine ⟨by simp, fun q hq => ?_⟩
  obtain ⟨x, _, rfl⟩ := List.mem_map.1 hq
  rw [Nat.min_zero]
  exact serQ_zero l
/-- One stretch more. -/
theorem serQ_next {l : List Int} {f g us : Nat} (hv : lenB l = true) (h : NextOk l f l.length (g : Int) us) (hus : 1 ≤ us) : f < g ∧ us ≤ 4 ∧ serQ l f + Rat.divInt ((g : Int) - (f : Int)) us = serQ l g := by
  unfold NextOk at h
  rw [List.take_length] at h
  rcases h.2 with ⟨h1, _⟩ | ⟨h1, h2, h3⟩
  · omega
  · have hu4 : us ≤ 4 := by
      have := cnt_le l f
      have h4 := (lenB_iff.1 hv).1
      rw [h.1]
      unfold cnt at this
      omega
    refine ⟨by omega, hu4, ?_⟩
    unfold serQ
    rw [serQ_add _ _ ⟨hus, hu4⟩, ← serI_step (by omega) fun u hu1 hu2 => ?_]
    rw [h.1]
    unfold cnt
    refine List.countP_congr fun x hx => ?_
    rw [decide_eq_true_eq, decide_eq_true_eq]
    constructor
    · intro hux; omega
    · intro hfx; have := h3 x hx hfx; omega
theorem next_pos {l : List Int} {f us : Nat} {g : Int} (h : NextOk l f l.length g us) (hg : 0 ≤ g) : 1 ≤ us ∧ (∃ x ∈ l, (f : Int) < x) ∧ g ∈ l := by
  unfold NextOk at h
  rw [List.take_length] at h
  rcases h.2 with ⟨h1, _⟩ | ⟨h1, h2, _⟩
  · omega
  · refine ⟨?_, ⟨g, h2, h1⟩, h2⟩
    rw [h.1]
    exact List.countP_pos_iff.2 ⟨g, h2, by simpa using h1⟩
theorem next_none {l : List Int} {f us : Nat} {g : Int} (h : NextOk l f l.length g us) (hg : ¬ 0 ≤ g) : g = -1 ∧ ∀ x ∈ l, x ≤ f := by
  unfold NextOk at h
  rw [List.take_length] at h
  rcases h.2 with ⟨h1, h2⟩ | ⟨h1, _, _⟩
  · exact ⟨h1, h2⟩
  · omega
theorem next_mem {l : List Int} {f k us : Nat} {g x : Int} (h : NextOk l f l.length g us) (hx : l[k]? = some x) (hf : (f : Int) < x) : g ≤ x ∧ (f : Int) < g := by
  unfold NextOk at h
  rw [List.take_length] at h
  have hm := List.mem_of_getElem? hx
  rcases h.2 with ⟨h1, h2⟩ | ⟨h1, _, h3⟩
  · have := h2 x hm; omega
  · exact ⟨h3 x hm hf, h1⟩

/- Shapley of the costs of a road: plain Lean. -/

/-- One unit of the road: who drives there is in M. -/
def uL (n M : Nat) : List Int := (List.range (2 ^ n)).map fun s => if s &&& M = 0 then 0 else 1
theorem uL_get {n M s : Nat} (h : s < 2 ^ n) : (uL n M).getD s 0 = if s &&& M = 0 then 0 else 1 := by
  unfold uL
  rw [List.getD_eq_getElem?_getD, List.getElem?_map, List.getElem?_range h]
  rfl
def popc (n M : Nat) : Nat := ((List.range n).filter fun i => M.testBit i).length
def unitOk (n M : Nat) : Bool := (List.range n).all fun i => 12 * (sumsL (uL n M) n).getD i 0 == (((ext n n []).length : Nat) : Int) * (if M.testBit i then 12 / (popc n M : Int) else 0)
theorem unit_ok1 : ∀ M, M < 2 → unitOk 1 M = true := by decide +kernel
theorem unit_ok2 : ∀ M, M < 4 → unitOk 2 M = true := by decide +kernel
theorem unit_ok3 : ∀ M, M < 8 → unitOk 3 M = true := by decide +kernel
theorem unit_ok4 : ∀ M, M < 16 → unitOk 4 M = true := by decide +kernel
theorem unit_ok {n M : Nat} (hn : 1 ≤ n ∧ n ≤ 4) (h : M < 2 ^ n) : unitOk n M = true := by
  match n, hn, h with
  | 1, _, h => exact unit_ok1 M h
  | 2, _, h => exact unit_ok2 M h
  | 3, _, h => exact unit_ok3 M h
  | 4, _, h => exact unit_ok4 M h
theorem unit_shap {n M i : Nat} (hn : 1 ≤ n ∧ n ≤ 4) (h : M < 2 ^ n) (hi : i < n) : (shapL (uL n M) n).getD i 0 = Rat.divInt (if M.testBit i then 12 / (popc n M : Int) else 0) 12 := by
  have hu := unit_ok hn h
  unfold unitOk at hu
  have hu := List.all_eq_true.1 hu i (List.mem_range.2 hi)
  rw [beq_iff_eq] at hu
  have hF := (ext_len hn.2).1
  have hlen : (sumsL (uL n M) n).length = n := by have := shapL_length (uL n M) n; unfold shapL at this; simpa using this
  unfold shapL
  rw [List.getD_eq_getElem?_getD, List.getElem?_map, List.getElem?_eq_getElem (by rw [hlen]; exact hi)]
  rw [List.getD_eq_getElem?_getD, List.getElem?_eq_getElem (by rw [hlen]; exact hi)] at hu
  simp only [Option.map_some, Option.getD_some] at hu ⊢
  rw [Rat.divInt_eq_divInt_iff (by omega) (by omega)]
  rw [Int.mul_comm, hu, Int.mul_comm]
/-- Every yes or no of the first n is a set. -/
theorem mask_of (f : Nat → Bool) : ∀ n, ∃ M, M < 2 ^ n ∧ ∀ i, i < n → M.testBit i = f i := by
  intro n
  induction n with
  | zero => exact ⟨0, by simp, fun i h => by omega⟩
  | succ n ih =>
    obtain ⟨M, hM, hi⟩ := ih
    have hp : (2 : Nat) ^ (n + 1) = 2 ^ n + 2 ^ n := by rw [Nat.pow_succ]; omega
    cases hf : f n with
    | false =>
      refine ⟨M, by omega, fun i h => ?_⟩
      by_cases e : i = n
      · subst e; rw [hf]; exact Nat.testBit_lt_two_pow hM
      · exact hi i (by omega)
    | true =>
      refine ⟨2 ^ n + M, by omega, fun i h => ?_⟩
      by_cases e : i = n
      · subst e
        rw [Nat.testBit_two_pow_add_eq, hf, Nat.testBit_lt_two_pow hM]; rfl
      · rw [Nat.testBit_two_pow_add_gt (by omega)]
        exact hi i (by omega)
/-- Lengths, cut at T. -/
def capL (l : List Int) (T : Nat) : List Int := l.map fun x => min x T
theorem capL_length (l : List Int) (T : Nat) : (capL l T).length = l.length := by simp [capL]
theorem capL_get {l : List Int} (T i : Nat) : (capL l T).getD i 0 = min (l.getD i 0) T := by
  unfold capL
  rw [List.getD_eq_getElem?_getD, List.getElem?_map, List.getD_eq_getElem?_getD]
  cases l[i]? <;> simp
  omega
theorem maxTo_cap {l : List Int} (s T k : Nat) : maxTo (capL l T) s k = min (maxTo l s k) T := by
  induction k with
  | zero => simp [maxTo]; omega
  | succ k ih =>
    simp only [maxTo, ih, capL_get]
    split <;> omega
theorem maxTo_lt {l : List Int} (s k T : Nat) : (T : Int) < maxTo l s k ↔ ∃ i, i < k ∧ s.testBit i = true ∧ (T : Int) < l.getD i 0 := by
  induction k with
  | zero => simp [maxTo]
  | succ k ih =>
    simp only [maxTo]
    have hm : ∀ a b : Int, (T : Int) < max a b ↔ (T : Int) < a ∨ (T : Int) < b := fun a b => by omega
    rw [hm, ih]
    constructor
    · rintro (⟨i, h1, h2, h3⟩ | h)
      · exact ⟨i, by omega, h2, h3⟩
      · split at h
        · exact ⟨k, by omega, by assumption, h⟩
        · omega
    · rintro ⟨i, h1, h2, h3⟩
      by_cases e : i = k
      · subst e; right; rw [if_pos h2]; exact h3
      · exact .inl ⟨i, by omega, h2, h3⟩
theorem and_zero {s M n : Nat} (hs : s < 2 ^ n) : s &&& M = 0 ↔ ∀ i, i < n → ¬ (s.testBit i = true ∧ M.testBit i = true) := by
  constructor
  · rintro h i _ ⟨h1, h2⟩
    have : (s &&& M).testBit i = true := by rw [Nat.testBit_and, h1, h2]; rfl
    rw [h] at this
    simp at this
  · intro h
    apply Nat.eq_of_testBit_eq
    intro i
    rw [Nat.testBit_and, Nat.zero_testBit]
    by_cases hi : i < n
    · have := h i hi
      cases h1 : s.testBit i <;> cases h2 : M.testBit i <;> simp_all
    · rw [Nat.testBit_lt_two_pow (Nat.lt_of_lt_of_le hs (Nat.pow_le_pow_right (by omega) (by omega)))]; rfl
theorem cap_step {l : List Int} {T M s : Nat} (hM : ∀ i, i < l.length → M.testBit i = decide ((T : Int) < l.getD i 0)) (hs : s < 2 ^ l.length) : (roadL (capL l (T + 1))).getD s 0 = (roadL (capL l T)).getD s 0 + (uL l.length M).getD s 0 := by
  rw [roadL_get (by rw [capL_length]; exact hs), roadL_get (by rw [capL_length]; exact hs), capL_length, capL_length, maxTo_cap, maxTo_cap, uL_get hs]
  have h1 := maxTo_lt (l := l) s l.length T
  by_cases h : s &&& M = 0
  · rw [if_pos h]
    have h2 := (and_zero hs).1 h
    have : ¬ (T : Int) < maxTo l s l.length := by
      rw [h1]
      rintro ⟨i, hi, hb, hlt⟩
      exact h2 i hi ⟨hb, by rw [hM i hi]; exact decide_eq_true hlt⟩
    omega
  · rw [if_neg h]
    have : (T : Int) < maxTo l s l.length := by
      rw [h1]
      by_cases hex : ∃ i, i < l.length ∧ s.testBit i = true ∧ (T : Int) < l.getD i 0
      · exact hex
      · exfalso
        refine h ((and_zero hs).2 fun i hi hb => hex ⟨i, hi, hb.1, ?_⟩)
        have := hb.2
        rw [hM i hi] at this
        exact of_decide_eq_true this
    omega
theorem cap_shap {l : List Int} (hv : lenB l = true) : ∀ T i, i < l.length → (shapL (roadL (capL l T)) l.length).getD i 0 = serQ l (min (l.getD i 0).toNat T) := by
  have hn := (lenB_iff.1 hv).1
  intro T
  induction T with
  | zero =>
    intro i hi
    have hz : ∀ s, s < 2 ^ l.length → (roadL (capL l 0)).getD s 0 = 0 := fun s hs => by
      rw [roadL_get (by rw [capL_length]; exact hs), maxTo_cap]
      have : 0 ≤ maxTo l s (capL l 0).length := (maxTo_bd hv _ _).1
      omega
    have hl : (roadL (capL l 0)).length = 2 ^ l.length := by rw [roadL_length, capL_length]
    have := sums_add hn hl hl hl (fun s hs => by rw [hz s hs]; rfl) i hi
    rw [Nat.min_zero]
    have h0 : serQ l 0 = 0 := serQ_zero l
    rw [h0]
    grind
  | succ T ih =>
    intro i hi
    obtain ⟨M, hM, hbit⟩ := mask_of (fun i => decide ((T : Int) < l.getD i 0)) l.length
    have hp : popc l.length M = cnt l T := by
      rw [cnt_range]
      unfold popc
      congr 1
      exact List.filter_congr fun i hi => hbit i (List.mem_range.1 hi)
    have hg := (getD_len hv i).1
    rw [sums_add hn (by rw [roadL_length, capL_length]) (by simp [uL]) (by rw [roadL_length, capL_length]) (fun s hs => cap_step hbit hs) i hi, ih i hi, unit_shap hn hM hi, hp, hbit i hi]
    by_cases hlt : (T : Int) < l.getD i 0
    · rw [if_pos (decide_eq_true hlt), show min (l.getD i 0).toNat T = T by omega, show min (l.getD i 0).toNat (T + 1) = T + 1 by omega]
      unfold serQ
      rw [add_same]
      rfl
    · rw [if_neg (by simpa using hlt), show min (l.getD i 0).toNat (T + 1) = min (l.getD i 0).toNat T by omega]
      have : Rat.divInt 0 12 = 0 := Rat.zero_divInt _
      rw [this, Rat.add_zero]
theorem road_shap {l : List Int} (hv : lenB l = true) : shapL (roadL l) l.length = serL l := by
  have e : capL l 1000 = l := by
    unfold capL
    conv => rhs; rw [← List.map_id l]
    refine List.map_congr_left fun x hx => ?_
    have := (lenB_iff.1 hv).2 x hx
    simp only [id]
    omega
  apply List.ext_getElem?
  intro i
  by_cases hi : i < l.length
  · have := cap_shap hv 1000 i hi
    rw [e] at this
    have h0 := (getD_len hv i)
    rw [show min (l.getD i 0).toNat 1000 = (l.getD i 0).toNat by omega] at this
    rw [List.getElem?_eq_getElem (by rw [shapL_length]; exact hi), List.getElem?_eq_getElem (by rw [serL_length]; exact hi)]
    rw [List.getD_eq_getElem?_getD, List.getElem?_eq_getElem (by rw [shapL_length]; exact hi)] at this
    congr 1
    refine Eq.trans this ?_
    unfold serL
    rw [List.getElem_map, List.getD_eq_getElem?_getD, List.getElem?_eq_getElem hi]
    rfl
  · rw [List.getElem?_eq_none (by rw [shapL_length]; omega), List.getElem?_eq_none (by rw [serL_length]; omega)]

/- TopRoad: trees from the beginning of a road cost what lengths cost. Plain Lean. -/

/-- The stops of a group: the first one, and those of its members. -/
def stopsTo (at_ : Nat → Nat) (set : Nat) : Nat → Nat
  | 0 => 1
  | i + 1 => if set.testBit i then stopsTo at_ set i ||| 2 ^ at_ i else stopsTo at_ set i
theorem stops_max {cs : List Int} (hc : CsOk cs) {at_ : Nat → Nat} {l : List Int} {n : Nat} (ha : ∀ i, i < n → at_ i ≤ cs.length ∧ l.getD i 0 = sumS cs (at_ i)) (set : Nat) :
    ∀ k, k ≤ n → ∃ M, M ≤ cs.length ∧ (stopsTo at_ set k).testBit M = true ∧ (∀ j, (stopsTo at_ set k).testBit j = true → j ≤ M) ∧ (stopsTo at_ set k).testBit 0 = true ∧ sumS cs M = maxTo l set k ∧ stopsTo at_ set k < 2 ^ (cs.length + 1)
  | 0, _ => ⟨0, Nat.zero_le _, by simp [stopsTo], fun j hj => by
      have e : stopsTo at_ set 0 = 2 ^ 0 := rfl
      rw [e, Nat.testBit_two_pow] at hj
      have := of_decide_eq_true hj
      omega, by simp [stopsTo], rfl, Nat.one_lt_two_pow (by omega)⟩
  | k + 1, hk => by
    obtain ⟨M, h1, h2, h3, h4, h5, h6⟩ := stops_max hc ha set k (by omega)
    obtain ⟨a1, a2⟩ := ha k (by omega)
    show ∃ M, _
    simp only [stopsTo, maxTo]
    by_cases hb : set.testBit k = true
    · rw [if_pos hb, if_pos hb, a2, ← h5]
      have hbit : ∀ j, (stopsTo at_ set k ||| 2 ^ at_ k).testBit j = ((stopsTo at_ set k).testBit j || decide (at_ k = j)) := fun j => by rw [Nat.testBit_or, Nat.testBit_two_pow]
      refine ⟨max M (at_ k), by omega, ?_, fun j hj => ?_, by rw [hbit, h4]; rfl, ?_, Nat.or_lt_two_pow h6 (Nat.pow_lt_pow_right (by omega) (by omega))⟩
      · rw [hbit]
        rcases Nat.le_total M (at_ k) with h | h
        · rw [Nat.max_eq_right h]; simp
        · rw [Nat.max_eq_left h, h2]; rfl
      · rw [hbit] at hj
        rcases (Bool.or_eq_true _ _).mp hj with h | h
        · have := h3 j h; omega
        · have := of_decide_eq_true h; omega
      · rcases Nat.le_total M (at_ k) with h | h
        · have := sumS_mono hc (at_ k) M h a1
          rw [Nat.max_eq_right h]; omega
        · have := sumS_mono hc M (at_ k) h h1
          rw [Nat.max_eq_left h]; omega
    · rw [if_neg hb, if_neg hb]
      have hz : 0 ≤ maxTo l set k := by rw [← h5]; exact (sumS_bd hc M h1).1
      exact ⟨M, h1, h2, h3, h4, by omega, h6⟩
section
variable {cs : List Int} {l : List Int} {n : Nat} {at_ : Nat → Nat}
/-- What least needs, and what it finds. -/
theorem least_road (hc : CsOk cs) (ha : ∀ i, i < n → at_ i ≤ cs.length ∧ l.getD i 0 = sumS cs (at_ i)) (set : Nat) :
    (1 ≤ stopsTo at_ set n ∧ stopsTo at_ set n < 2 ^ (cs.length + 1)) ∧ connB (reP (pathR cs)) (stopsTo at_ set n) = true ∧ steF (pathR cs) (cs.length + 1) (stopsTo at_ set n) = maxTo l set n ∧
      ∃ M, M ≤ 1000000 ∧ (firF (pathR cs) (stopsTo at_ set n) (steF (pathR cs) (cs.length + 1) (stopsTo at_ set n)) M).isSome = true ∧ (0 ≤ steF (pathR cs) (cs.length + 1) (stopsTo at_ set n) ∧ steF (pathR cs) (cs.length + 1) (stopsTo at_ set n) ≤ 350) := by
  obtain ⟨M, h1, h2, h3, h4, h5, h6⟩ := stops_max hc ha set n (Nat.le_refl _)
  have hs1 : 1 ≤ stopsTo at_ set n := by have := pow_le_of_bit h4; omega
  have hst := steF_path hc h6 h4 h2 h3
  have hl := hc.1
  have hb := sumS_bd hc M h1
  refine ⟨⟨hs1, h6⟩, reach_path hc ⟨hs1, h6⟩, by rw [hst, h5], M, by omega, ?_, by rw [hst]; omega⟩
  rw [hst]
  exact fir_path hc h1 hs1 h3
end
theorem lens_ok {cs : List Int} (hc : CsOk cs) {l : List Int} {n : Nat} {at_ : Nat → Nat} (hn : 1 ≤ n ∧ n ≤ 4) (hl : l.length = n) (ha : ∀ i, i < n → at_ i ≤ cs.length ∧ l.getD i 0 = sumS cs (at_ i)) : lenB l = true := by
  refine lenB_iff.2 ⟨by omega, fun x hx => ?_⟩
  obtain ⟨i, hi⟩ := List.getElem?_of_mem hx
  have hil := (List.getElem?_eq_some_iff.1 hi).1
  obtain ⟨a1, a2⟩ := ha i (by omega)
  rw [List.getD_eq_getElem?_getD, hi] at a2
  have hb := sumS_bd hc (at_ i) a1
  have := hc.1
  simp only [Option.getD_some] at a2
  omega

/- A block of numbers that are written one by one. -/

/-- The block of a row with some goods scaled. -/
def ScB (w : World) (g m cp : Nat) (xs : List Int) : Prop := ∃ cur, Blk w g 3 cur ∧ cur.size = cp ∧ cur.toList.take m = xs.map (Value.int .i64)
theorem ScB.lt {w : World} {g m cp : Nat} {xs : List Int} (h : ScB w g m cp xs) : g < w.heap.size := by obtain ⟨cur, h, _⟩ := h; exact h.lt
theorem ScB.ints {w : World} {g m cp : Nat} {xs : List Int} (h : ScB w g m cp xs) : Ints w (some ⟨g, 0, none⟩) xs := by
  obtain ⟨cur, hB, _, ht⟩ := h
  intro i v hv
  rw [← ht] at hv
  have hv' : cur.toList[i]? = some v := by
    rw [List.getElem?_take] at hv
    split at hv
    · exact hv
    · cases hv
  exact hB.at_ i v hv'
theorem ScB.read {w : World} {g m cp : Nat} {xs : List Int} (h : ScB w g m cp xs) {k : Nat} {x : Int} (hx : xs[k]? = some x) : w.cell? ⟨g, k, none⟩ = some (.int .i64 x) := by
  obtain ⟨cur, hB, _, ht⟩ := h
  have hv : (cur.toList.take m)[k]? = some (.int .i64 x) := by rw [ht]; simp [hx]
  rw [List.getElem?_take] at hv
  split at hv
  · rw [hB.cell, ← Array.getElem?_toList]; exact hv
  · cases hv
theorem ScB.frozen {w : World} {g m cp : Nat} {xs : List Int} (h : ScB w g m cp xs) (k : Nat) : w.frozen? ⟨g, k, none⟩ = false := by obtain ⟨cur, hB, _⟩ := h; exact hB.frozen k
theorem ScB.set_ {w : World} {g m cp : Nat} {xs : List Int} (h : ScB w g m cp xs) (k : Nat) (y : Int) : ScB (w.setCell ⟨g, k, none⟩ (.int .i64 y)) g m cp (xs.set k y) := by
  obtain ⟨cur, hB, hs, ht⟩ := h
  refine ⟨_, hB.set_ k _, by simp [hs], ?_⟩
  rw [Array.toList_setIfInBounds, List.take_set, ht, List.map_set]
theorem idx_of (x : Int) {k : Int} (hk : 1 ≤ k) (hk2 : k ≤ 1000) : ∃ p : Nat, (p : Int) < k ∧ wrap64 ((IntKind.u64.wrap x).tmod k) = (p : Int) := by
  have h0 : 0 ≤ IntKind.u64.wrap x := by
    show 0 ≤ x % 2 ^ 64
    exact Int.emod_nonneg _ (by decide)
  have h1 := Int.tmod_nonneg k h0
  have h2 := Int.tmod_lt_of_pos (IntKind.u64.wrap x) (show (0 : Int) < k by omega)
  generalize (IntKind.u64.wrap x).tmod k = r at *
  refine ⟨r.toNat, by omega, ?_⟩
  unfold wrap64
  go_num
theorem ScB.of_own {w : World} {base g n c : Nat} {xs : List Int} (h : w.ownsRow base 3 1 (.slice (some ⟨g, 0, none⟩) n c) n (xs.map (Value.int .i64))) : ScB w g n c xs := by
  rcases h.2 with ⟨h0, _⟩ | ⟨g, cap', cur, hv, _, hg, _, _, hsz, ht⟩
  · cases h0
  · injection hv with e1 _ e3
    injection e1 with e1
    injection e1 with e1
    subst e1; subst e3
    exact ⟨cur, hg, by simpa using hsz, by simpa using ht⟩
theorem ScB.below {w w' : World} {g m cp : Nat} {xs : List Int} (h : ScB w g m cp xs) (hb : Below w.heap.size w w') : ScB w' g m cp xs := by
  obtain ⟨cur, hB, hs, ht⟩ := h
  exact ⟨cur, (hb.block g hB.lt).trans hB, hs, ht⟩

/- The memory of TopRoad: the map and the sums while they are made. -/

theorem info_road : (Tryd.prog.info? 28).map (fun i => (i.zero, i.size, i.bytes)) = some (some (.agg #[.int .i64 0, .int .i64 0, .int .i64 0]), 3, 24) := by kernel_rfl
theorem sty_road : STy 24 28 (.agg #[.int .i64 0, .int .i64 0, .int .i64 0]) 3 24 := ⟨Tryd.underlying24, info_road, rfl, by decide, by decide⟩
/-- A row of one's own is not changed by what is laid to a row of another type. -/
theorem own_grown_ty {w w' : World} {base base' e e' size size' n n' : Nat} {v v' : Value} {xs ys : List Value} (h : w.ownsRow base e size v n xs) (h' : w.ownsRow base' e' size' v' n' ys) (hne : e ≠ e') (hg : w.grownBy w' v'.ownBlock) : w'.ownsRow base e size v n xs := by
  refine ⟨h.1, ?_⟩
  rcases h.2 with h0 | ⟨g, cap, cur, hv, a1, a2, a3⟩
  · exact .inl h0
  · refine .inr ⟨g, cap, cur, hv, a1, ?_, a3⟩
    refine (hg.block g (lt_of_block a2) fun he => ?_).trans a2
    rcases h'.2 with ⟨h0, _⟩ | ⟨g', cap', cur', hv', _, hg', _⟩
    · rw [h0] at he; cases he
    · rw [hv'] at he
      injection he with he
      have he' : g = g' := he
      subst he'
      rw [a2] at hg'
      injection hg' with h1
      injection h1 with _ h1 _
      exact hne h1
theorem own_lowT {w : World} {base e size n : Nat} {v : Value} {xs : List Value} (h : w.ownsRow base e size v n xs) {p : Addr} (hp : p.block < base) (u : Value) : (w.setCell p u).ownsRow base e size v n xs := by
  obtain ⟨h1, h2⟩ := h
  refine ⟨h1, ?_⟩
  rcases h2 with h2 | ⟨g, cap, cur, hv, a1, a2, a3⟩
  · exact .inl h2
  · exact .inr ⟨g, cap, cur, hv, a1, (Below.heap_setCell w p u g (by omega)).trans a2, a3⟩
def sumsP (cs : List Int) : List Int := (List.range (cs.length + 1)).map (sumS cs)
theorem sumsP_length (cs : List Int) : (sumsP cs).length = cs.length + 1 := by simp [sumsP]
theorem sumsP_get {cs : List Int} {v : Nat} (h : v ≤ cs.length) : (sumsP cs)[v]? = some (sumS cs v) := by
  unfold sumsP
  rw [List.getElem?_map, List.getElem?_range (by omega)]; rfl
theorem sumS_app (cs : List Int) (c : Int) : ∀ v, v ≤ cs.length → sumS (cs ++ [c]) v = sumS cs v
  | 0, _ => rfl
  | v + 1, hv => by
    show sumS (cs ++ [c]) v + (cs ++ [c]).getD v 0 = sumS cs v + cs.getD v 0
    rw [sumS_app cs c v (by omega), List.getD_eq_getElem?_getD, List.getD_eq_getElem?_getD, List.getElem?_append_left (by omega)]
theorem sumsP_snoc (cs : List Int) (c : Int) : sumsP (cs ++ [c]) = sumsP cs ++ [sumS cs cs.length + c] := by
  unfold sumsP
  rw [List.length_append, show cs.length + [c].length + 1 = cs.length + 1 + 1 from rfl, List.range_succ, List.map_append]
  congr 1
  · refine List.map_congr_left fun v hv => ?_
    have := List.mem_range.1 hv
    exact sumS_app cs c v (by omega)
  · show [sumS (cs ++ [c]) cs.length + (cs ++ [c]).getD cs.length 0] = _
    rw [sumS_app cs c _ (Nat.le_refl _), List.getD_eq_getElem?_getD, List.getElem?_append_right (Nat.le_refl _), Nat.sub_self]
    rfl
theorem CsOk.snoc {cs : List Int} (h : CsOk cs) (hl : cs.length < 7) {c : Int} (hc : 1 ≤ c ∧ c ≤ 50) : CsOk (cs ++ [c]) := by
  refine ⟨by simp; omega, fun x hx => ?_⟩
  rcases List.mem_append.1 hx with h1 | h1
  · exact h.2 x h1
  · rw [List.mem_singleton.1 h1]; exact hc
/-- The map and the sums of the roads that are laid. -/
structure TrR (w0 w : World) (al : List Int) (cs : List Int) (RA : Option Addr) (rc : Nat) (SA : Option Addr) (sc : Nat) : Prop where
  ar : Blk w w0.heap.size 23 (arr al)
  mp : Blk w (w0.heap.size + 1) 26 #[.int .i64 ((cs.length : Int) + 1), .slice RA cs.length rc]
  rds : w.ownsRow (w0.heap.size + 2) 28 3 (.slice RA cs.length rc) cs.length (rcells (pathR cs))
  sms : w.ownsRow (w0.heap.size + 2) 3 1 (.slice SA (cs.length + 1) sc) (cs.length + 1) ((sumsP cs).map (Value.int .i64))
  bel : Below w0.heap.size w0 w
  sz : w0.heap.size + 2 ≤ w.heap.size
section
variable {w0 w w' w9 : World} {al cs : List Int} {RA SA : Option Addr} {rc sc : Nat}
/-- One road more, and its end. -/
theorem TrR.road (h : TrR w0 w al cs RA rc SA sc) {c : Int} {RA' : Option Addr} {rc' : Nat} (hown : w'.ownsRow (w0.heap.size + 2) 28 3 (.slice RA' (cs.length + 1) rc') (cs.length + 1) (rcells (pathR cs) ++ [.int .i64 (cs.length : Int), .int .i64 ((cs.length : Int) + 1), .int .i64 c]))
    (hg : w.grownBy w' (Value.slice RA cs.length rc).ownBlock) (hb : Below (w0.heap.size + 2) w w') :
    (w'.setCell ⟨w0.heap.size + 1, 1, none⟩ (.slice RA' (cs.length + 1) rc')).ownsRow (w0.heap.size + 2) 28 3 (.slice RA' (cs ++ [c]).length rc') (cs ++ [c]).length (rcells (pathR (cs ++ [c]))) ∧
    (w'.setCell ⟨w0.heap.size + 1, 1, none⟩ (.slice RA' (cs.length + 1) rc')).ownsRow (w0.heap.size + 2) 3 1 (.slice SA (cs.length + 1) sc) (cs.length + 1) ((sumsP cs).map (Value.int .i64)) ∧
    Blk (w'.setCell ⟨w0.heap.size + 1, 1, none⟩ (.slice RA' (cs.length + 1) rc')) (w0.heap.size + 1) 26 #[.int .i64 ((cs.length : Int) + 1), .slice RA' (cs.length + 1) rc'] ∧
    Blk (w'.setCell ⟨w0.heap.size + 1, 1, none⟩ (.slice RA' (cs.length + 1) rc')) w0.heap.size 23 (arr al) ∧
    Below w0.heap.size w0 (w'.setCell ⟨w0.heap.size + 1, 1, none⟩ (.slice RA' (cs.length + 1) rc')) ∧ w0.heap.size + 2 ≤ (w'.setCell ⟨w0.heap.size + 1, 1, none⟩ (.slice RA' (cs.length + 1) rc')).heap.size := by
  refine ⟨?_, own_lowT (own_grown_ty h.sms h.rds (by decide) hg) (by show w0.heap.size + 1 < _; omega) _, (h.mp.below hb (by omega)).set_ 1 _, (h.ar.below hb (by omega)).far (by show w0.heap.size ≠ w0.heap.size + 1; omega) _, (h.bel.trans (hb.mono (by omega))).setCell (by show w0.heap.size ≤ w0.heap.size + 1; omega) _, by have := hb.size; have := h.sz; simp [World.setCell]; omega⟩
  rw [List.length_append, pathR_snoc, rcells_snoc]
  exact own_lowT hown (by show w0.heap.size + 1 < _; omega) _
end

/- Contract: plan of the top's laws. -/

set_option maxRecDepth 100000 in
set_option maxHeartbeats 1600000 in
theorem tplan_any (N : Int) (R : Option Addr) (n c : Nat) (rs : List Rd) (w : World) (hl : rs.length = n) (hn : n ≤ 9223372036854775807) (hR : Rds w R rs) :
    Calls Tryd.prog 13 #[mapV N R n c] w fun e w' => ∃ R' c', e = .returned (mapV N R' (rs.take 18).length c') ∧ Rds w' R' (rs.take 18) ∧ Below w.heap.size w w' := by
  obtain ⟨w1, hw1⟩ : ∃ w1, w1 = ((w.alloc (.cells #[.int .i64 N, .slice R n c] 46)).alloc (.cells #[.int .i64 0, .slice none 0 0] 26)).alloc (.cells #[.int .i64 N, .slice none 0 0] 26) := ⟨_, rfl⟩
  have hB0 : Blk w1 w.heap.size 46 #[.int .i64 N, .slice R n c] := by rw [hw1]; exact ((Blk.new _ _ _ rfl).alloc _).alloc _
  have hB1 : Blk w1 (w.heap.size + 1) 26 #[.int .i64 0, .slice none 0 0] := by rw [hw1]; exact (Blk.new _ _ _ (by simp)).alloc _
  have hB2 : Blk w1 (w.heap.size + 2) 26 #[.int .i64 N, .slice none 0 0] := by rw [hw1]; exact Blk.new _ _ _ (by simp)
  have hb1 : Below w.heap.size w w1 := by rw [hw1]; exact (((Below.refl _ _).alloc (Nat.le_refl _) _).alloc (by simp) _).alloc (by simp; omega) _
  have hs1 : w1.heap.size = w.heap.size + 3 := by rw [hw1]; simp
  have H := Lib.hid (And.intro hl (And.intro hR (And.intro hB0 (And.intro hB1 (And.intro hB2 hb1)))))
  obtain ⟨m1, m2, _, _⟩ := hB0.at2
  clear hl hR hB0 hB1 hB2 hb1
  go_enter Tryd.func13, Tryd.ntmps13
  go_upto_region 2 with fail
  rw [← hw1]
  clear hw1
  go_wp2_with fail
  clear m1 m2
  go_loopw [12] (fun iv wx => ∃ (k : Nat) (OA : Option Addr) (oc : Nat), k ≤ n ∧ iv = .int .i64 k ∧ Blk wx (w.heap.size + 2) 26 #[.int .i64 N, .slice OA ((rs.take 18).take k).length oc] ∧ wx.ownsRow (w.heap.size + 3) 28 3 (.slice OA ((rs.take 18).take k).length oc) ((rs.take 18).take k).length (rcells ((rs.take 18).take k)) ∧ Kept (w.heap.size + 3) [w.heap.size + 2] w1 wx) (fun iv _ => n - (intOf iv).toNat)
  case atStart => exact ⟨0, none, 0, Nat.zero_le _, rfl, by simpa using H.out.2.2.2.2.1, by simpa [rcells] using World.ownsRow_nil _ _ _ _, Kept.refl _ _ _⟩
  case round =>
    obtain ⟨k, OA, oc, hk, rfl, hB, hown, hkp⟩ := hrel
    obtain ⟨wo, rfl⟩ : ∃ wo : World, wo = wr := ⟨_, rfl⟩
    have hz := hkp.size
    have hbw : Below w.heap.size w wo := H.out.2.2.2.2.2.trans ((hkp.mono (B' := w.heap.size) (S' := []) (by omega) (fun x hx => by rw [List.mem_singleton.1 hx]; exact .inr (by omega))).below)
    have HR := Lib.hid (And.intro hB (And.intro hown (And.intro hkp hbw)))
    clear hB hown hkp hbw
    by_cases hlt : k < n
    · obtain ⟨r, hr⟩ : ∃ r, rs[k]? = some r := ⟨_, List.getElem?_eq_getElem (by rw [H.out.1]; exact hlt)⟩
      obtain ⟨aR, rfl, _, hcR⟩ := (H.out.2.1.below HR.out.2.2.2).some_ (by rw [H.out.1]; omega)
      obtain ⟨q1, q2, q3⟩ := hcR k r hr
      obtain ⟨r1, r2, cc⟩ := r
      simp only at q1 q2 q3
      have l1 : (k : Int) < (n : Int) := by omega
      have l2 : (0 : Int) ≤ (k : Int) := by omega
      obtain ⟨wf, hwf⟩ : ∃ wf, wf = wo.alloc (.cells #[.int .i64 r1, .int .i64 r2, .int .i64 cc] 70) := ⟨_, rfl⟩
      have hF : Blk wf wo.heap.size 70 #[.int .i64 r1, .int .i64 r2, .int .i64 cc] := by rw [hwf]; exact Blk.new _ _ _ rfl
      have hkf : Kept (w.heap.size + 3) [w.heap.size + 2] w1 wf := by rw [hwf]; exact HR.out.2.2.1.alloc (by omega) _
      have hownf : wf.ownsRow (w.heap.size + 3) 28 3 (.slice OA ((rs.take 18).take k).length oc) ((rs.take 18).take k).length (rcells ((rs.take 18).take k)) := by rw [hwf]; exact HR.out.2.1.alloc _
      have hBf : Blk wf (w.heap.size + 2) 26 #[.int .i64 N, .slice OA ((rs.take 18).take k).length oc] := by rw [hwf]; exact HR.out.1.alloc _
      have hzf : w.heap.size + 3 ≤ wf.heap.size := by rw [hwf]; simp; omega
      have HF := Lib.hid (And.intro hkf (And.intro hownf hBf))
      have f0 := hF.cell 0
      have f1 := hF.cell 1
      have f2 := hF.cell 2
      have HRR := Lib.hid hr
      clear hcR hr hkf hownf hBf hF
      go_upto_region 5 with fail
      rw [← hwf]
      clear hwf q1 q2 q3
      by_cases h18 : k < 18
      · have hT : (rs.take 18).take (k + 1) = (rs.take 18).take k ++ [(r1, r2, cc)] := by
          rw [List.take_add_one]
          congr 1
          rw [List.getElem?_take_of_lt h18, HRR.out]; rfl
        have HT := Lib.hid hT
        have hl16 : ((rs.take 18).take k).length ≤ 18 := by simp; omega
        have g18 : (k : Int) < 18 := by omega
        obtain ⟨Q, hQ⟩ : ∃ Q, Q = (rs.take 18).take k := ⟨_, rfl⟩
        rw [← hQ] at HT HF hl16
        obtain ⟨x1, x2, y1, y2⟩ := HF.out.2.2.at2
        clear hT hQ
        go_upto_region 6 with fail
        go_wp2_with (at_builtin; refine app1 sty_road rfl _ _ rfl (w.heap.size + 3) OA Q.length oc _ #[.int .i64 r1, .int .i64 r2, .int .i64 cc] rfl (by simp [Value.oneCell']) rfl HF.out.2.1 rfl (by omega) hzf ?_)
        intro A4 k4 w4 hown4 _ hbl4 hk41 hk42
        clear x1 x2 y1 y2 f0 f1 f2
        have hB4 := HF.out.2.2.below hbl4 (by omega)
        have hS := hB4.set_ 1 (.slice A4 (Q.length + 1) k4)
        have hO := own_lowT hown4 (p := ⟨w.heap.size + 2, 1, none⟩) (by simp) (.slice A4 (Q.length + 1) k4)
        have hK := (HF.out.1.trans (Kept.of_below hbl4 [w.heap.size + 2])).setCell (p := ⟨w.heap.size + 2, 1, none⟩) (.inl (by simp)) (.slice A4 (Q.length + 1) k4)
        obtain ⟨x1, x2, y1, y2⟩ := hB4.at2
        have hlQ : (Q ++ [(r1, r2, cc)]).length = Q.length + 1 := by simp
        have HS := Lib.hid (And.intro hS (And.intro hO (And.intro hK hlQ)))
        clear hB4 hS hO hK hlQ hown4 hbl4
        go_wp2_with fail
        go_roundw
        case rel =>
          refine ⟨k + 1, A4, k4, by omega, by go_num, ?_, ?_, HS.out.2.2.1⟩
          · rw [HT.out, HS.out.2.2.2]; exact HS.out.1
          · rw [HT.out, HS.out.2.2.2, rcells_snoc]; exact HS.out.2.1
        case measure => simp [intOf]; omega
      · have g18 : decide ((k : Int) < 18) = false := by simp; omega
        have g18' : ¬ (k : Int) < 18 := by omega
        have hT : (rs.take 18).take (k + 1) = (rs.take 18).take k := (List.take_of_length_le (i := k + 1) (l := rs.take 18) (by rw [List.length_take]; omega)).trans (List.take_of_length_le (i := k) (l := rs.take 18) (by rw [List.length_take]; omega)).symm
        have HT := Lib.hid hT
        clear hT f0 f1 f2
        go_wp2_with fail
        go_roundw
        case rel => exact ⟨k + 1, OA, oc, by omega, by go_num, by rw [HT.out]; exact HF.out.2.2, by rw [HT.out]; exact HF.out.2.1, HF.out.1⟩
        case measure => simp [intOf]; omega
    · obtain rfl : n = k := by omega
      have hT : (rs.take 18).take n = rs.take 18 := List.take_of_length_le (by rw [List.length_take, H.out.1]; omega)
      rw [hT] at HR
      obtain ⟨q, hq⟩ : ∃ q, q = rs.take 18 := ⟨_, rfl⟩
      rw [← hq] at HR
      obtain ⟨x1, x2, _, _⟩ := HR.out.1.at2
      have hR1 := H.out.2.2.2.1.kept HR.out.2.2.1 (by omega) (by simp)
      obtain ⟨y1, y2, z1, z2⟩ := hR1.at2
      have hS := (hR1.set_ 0 (.int .i64 N)).set_ 1 (.slice OA q.length oc)
      obtain ⟨s0, s1, _, _⟩ := (show Blk _ (w.heap.size + 1) 26 #[.int .i64 N, .slice OA q.length oc] from hS).at2
      have hOf := At.of_own (own_lowT (own_lowT HR.out.2.1 (p := ⟨w.heap.size + 1, 0, none⟩) (by simp) (.int .i64 N)) (p := ⟨w.heap.size + 1, 1, none⟩) (by simp) (.slice OA q.length oc))
      have HS := Lib.hid (And.intro s0 (And.intro s1 (And.intro hOf (And.intro ((HR.out.2.2.2.setCell (p := ⟨w.heap.size + 1, 0, none⟩) (by simp) (.int .i64 N)).setCell (p := ⟨w.heap.size + 1, 1, none⟩) (by simp) (.slice OA q.length oc)) hq))))
      clear hT hR1 hS s0 s1 hOf hq
      go_upto_region 8 with fail
      go_wp2_with fail
      obtain ⟨s0, s1, hOf, hbf, hq⟩ := HS.out
      exact bodyPost_ret (v := mapV N OA q.length oc) (by simp [results, Tryd.results13, go_sem, s0, s1]) rfl ⟨OA, oc, by rw [hq], by rw [← hq]; exact hOf, hbf⟩

/- Contract: Distances of package route. -/

set_option maxRecDepth 100000 in
set_option maxHeartbeats 800000 in
theorem rdistances_bad (N : Int) (R : Option Addr) (n c : Nat) (rs : List Rd) (w : World) (hl : rs.length = n) (hn : n ≤ 1000000) (hR : Rds w R rs) (hv : mapOk N rs = false) :
    Calls Tryd.prog 12 #[mapV N R n c] w fun e w' => e = .returned (.tuple #[.slice none 0 0, .int .i64 2]) ∧ Below w.heap.size w w' := by
  obtain ⟨w1, hw1⟩ : ∃ w1, w1 = w.alloc (.cells #[.int .i64 N, .slice R n c] 26) := ⟨_, rfl⟩
  have hB : Blk w1 w.heap.size 26 #[.int .i64 N, .slice R n c] := by rw [hw1]; exact Blk.new _ _ _ rfl
  have hb1 : Below w.heap.size w w1 := by rw [hw1]; exact (Below.refl _ _).alloc (Nat.le_refl _) _
  have HV := Lib.hid (rvalid_any N R n c rs w1 hl hn (hR.below hb1))
  rw [hv] at HV
  obtain ⟨m1, m2, _, _⟩ := hB.at2
  have H := Lib.hid hb1
  clear hl hR hB hb1 hv
  go_enter Tryd.func12, Tryd.ntmps12
  go_upto_region 1 with fail
  rw [← hw1]
  clear hw1
  go_wp2_with fail
  refine HV.out.mono ?_
  rintro e w2 ⟨rfl, hb2⟩
  have H2 := Lib.hid (H.out.trans (hb2.mono H.out.size))
  clear hb2 m1 m2
  go_wp2_with fail
  go_ret2
  exact ⟨rfl, H2.out⟩
set_option maxRecDepth 100000 in
set_option maxHeartbeats 1600000 in
theorem rdistances_ok (N : Nat) (R : Option Addr) (n c : Nat) (rs : List Rd) (w : World) (hl : rs.length = n) (hR : Rds w R rs) (hv : mapOk (N : Int) rs = true) :
    Calls Tryd.prog 12 #[mapV N R n c] w fun e w' => ∃ gA cap RR f, e = .returned (.tuple #[.slice (some ⟨gA, 0, none⟩) N cap, .int .i64 0]) ∧ N ≤ cap ∧ cap ≤ 9223372036854775807 ∧ Mx w' gA N N RR f ∧ Below w.heap.size w w' := by
  obtain ⟨w1, hw1⟩ : ∃ w1, w1 = w.alloc (.cells #[.int .i64 N, .slice R n c] 26) := ⟨_, rfl⟩
  have hB : Blk w1 w.heap.size 26 #[.int .i64 N, .slice R n c] := by rw [hw1]; exact Blk.new _ _ _ rfl
  have hb1 : Below w.heap.size w w1 := by rw [hw1]; exact (Below.refl _ _).alloc (Nat.le_refl _) _
  have hn16 : n ≤ 16 := by have := (mapOk_iff.1 hv).2.1; omega
  have hN8 := (mapOk_iff.1 hv).1
  have HV := Lib.hid (rvalid_any N R n c rs w1 hl (by omega) (hR.below hb1))
  rw [hv] at HV
  have H := Lib.hid (And.intro hl (And.intro hR (And.intro hv (And.intro hB hb1))))
  obtain ⟨m1, m2, _, _⟩ := hB.at2
  clear hl hR hB hb1 hv
  go_enter Tryd.func12, Tryd.ntmps12
  go_upto_region 1 with fail
  rw [← hw1]
  clear hw1
  go_wp2_with fail
  refine HV.out.mono ?_
  rintro e w2 ⟨rfl, hb2⟩
  have H2 := Lib.hid (And.intro (H.out.2.2.2.1.below hb2 H.out.2.2.2.1.lt) (H.out.2.2.2.2.trans (hb2.mono H.out.2.2.2.2.size)))
  clear hb2 m1 m2
  obtain ⟨m1, m2, _, _⟩ := H2.out.1.at2
  go_wp2_with fail
  refine (rdists_any N R n c rs w2 H.out.1 H.out.2.2.1 (H.out.2.1.below H2.out.2)).mono ?_
  rintro e w3 ⟨gA, cap, RR, rfl, hc1, hc2, hmx, ⟨hgA, hRR⟩, hb3⟩
  have hz2 := H2.out.2.size
  have H3 := Lib.hid (And.intro hmx (And.intro (H2.out.2.trans (hb3.mono hz2)) (And.intro hRR (And.intro hc1 hc2))))
  clear hmx hb3 hRR m1 m2 hc1 hc2
  go_wp2_with fail
  go_loopw [16] (fun iv wx => ∃ (i : Nat) (f : Nat → Nat → Int), i ≤ N ∧ iv = .int .i64 i ∧ Mx wx gA N N RR f ∧ Below w.heap.size w wx) (fun iv _ => N - (intOf iv).toNat)
  case atStart => exact ⟨0, _, Nat.zero_le _, rfl, H3.out.1, H3.out.2.1⟩
  case round =>
    obtain ⟨i, f, hi, rfl, hmx, hbl⟩ := hrel
    obtain ⟨wo, rfl⟩ : ∃ wo : World, wo = wr := ⟨_, rfl⟩
    have HR := Lib.hid (And.intro hmx hbl)
    by_cases hlt : i < N
    · have x1 := hmx.rows i hlt
      have l1 : (i : Int) < (N : Int) := by omega
      have l2 : (0 : Int) ≤ (i : Int) := by omega
      clear hmx hbl
      go_wp2_with fail
      clear x1
      go_loopw [22] (fun jv wx => ∃ (j : Nat) (f : Nat → Nat → Int), j ≤ N ∧ jv = .int .i64 j ∧ Mx wx gA N N RR f ∧ Below w.heap.size w wx) (fun jv _ => N - (intOf jv).toNat)
      case atStart => exact ⟨0, f, Nat.zero_le _, rfl, HR.out.1, HR.out.2⟩
      case round =>
        obtain ⟨j, f2, hj, rfl, hmx, hbl⟩ := hrel
        obtain ⟨wp, rfl⟩ : ∃ wp : World, wp = wr := ⟨_, rfl⟩
        have HP := Lib.hid (And.intro hmx hbl)
        by_cases hlt2 : j < N
        · have c1 := hmx.cell hlt hlt2
          have c2 := hmx.frozen hlt j
          have l3 : (j : Int) < (N : Int) := by omega
          have l4 : (0 : Int) ≤ (j : Int) := by omega
          have hset := hmx.set hlt j (-1)
          have hRi := H3.out.2.2.1 i hlt
          have HS := Lib.hid (And.intro hset (hbl.setCell (p := ⟨RR i, j, none⟩) (by show w.heap.size ≤ RR i; omega) (.int .i64 (-1))))
          generalize f2 i j = x at c1
          clear hmx hbl hset
          by_cases hx : (1048576 : Int) ≤ x
          · go_wp2_with fail
            go_roundw
            case rel => exact ⟨j + 1, _, by omega, by go_num, HS.out.1, HS.out.2⟩
            case measure => simp [intOf]; omega
          · have hx' : decide ((1048576 : Int) ≤ x) = false := decide_eq_false hx
            go_wp2_with fail
            go_roundw
            case rel => exact ⟨j + 1, f2, by omega, by go_num, HP.out.1, HP.out.2⟩
            case measure => simp [intOf]; omega
        · obtain rfl : N = j := by omega
          clear hmx hbl
          go_wp2_with fail
          go_roundw
          case rel => exact ⟨i + 1, f2, by omega, by go_num, HP.out.1, HP.out.2⟩
          case measure => simp [intOf]; omega
    · obtain rfl : N = i := by omega
      clear hmx hbl
      go_wp2_with fail
      go_ret2
      exact ⟨gA, cap, RR, f, rfl, H3.out.2.2.2.1, H3.out.2.2.2.2, HR.out.1, HR.out.2⟩

/- The memory of TopBird: the small map while it is made. -/

def insI (l : List Nat) : List Int := l.map fun x : Nat => (x : Int)
theorem insI_length (l : List Nat) : (insI l).length = l.length := by simp [insI]
theorem insI_get {l : List Nat} {i : Nat} (h : i < l.length) : (insI l)[i]? = some ((l.getD i 0 : Nat) : Int) := by
  unfold insI
  rw [List.getElem?_map, List.getElem?_eq_getElem h, List.getD_eq_getElem?_getD, List.getElem?_eq_getElem h]; rfl
theorem insI_snoc (l : List Nat) (x : Nat) : (insI (l ++ [x])).map (Value.int .i64) = (insI l).map (Value.int .i64) ++ [.int .i64 (x : Int)] := by
  unfold insI
  rw [List.map_append, List.map_append]; rfl
theorem core_bds {c : List Int} {qs : List Rat} (hv : valC c = true) (hq : coreF c = some qs) : ccB c (qs.map pr) = true ∧ ∀ p ∈ qs.map pr, (-9223372036854775808 ≤ p.1 ∧ p.1 ≤ 9223372036854775807) ∧ -9223372036854775808 ≤ p.2 ∧ p.2 ≤ 9223372036854775807 := by
  obtain ⟨h1, _⟩ := core_cc hq
  refine ⟨h1, fun p hp => ?_⟩
  have h3 : payB (plr c) (qs.map pr) = true := by
    unfold ccB coreI sumB at h1
    rw [hv, if_pos rfl, Bool.and_eq_true, Bool.and_eq_true] at h1
    exact h1.1.1
  unfold payB at h3
  rw [Bool.and_eq_true, List.all_eq_true] at h3
  have := scB_iff.1 (h3.1 p hp)
  omega
/-- The small map and its roads. -/
structure SmM (wS wx : World) (gS L : Nat) (RA : Option Addr) (rc : Nat) (q : List Rd) : Prop where
  mp : Blk wx gS 26 #[.int .i64 (L : Int), .slice RA q.length rc]
  own : wx.ownsRow (gS + 1) 28 3 (.slice RA q.length rc) q.length (rcells q)
  kp : Kept (gS + 1) [gS] wS wx
section
variable {wS wx w' : World} {gS L rc : Nat} {RA : Option Addr} {q : List Rd}
theorem SmM.drewN (h : SmM wS wx gS L RA rc q) (m : Nat) : SmM wS (wx.drewN m) gS L RA rc q := ⟨h.mp.drewN m, h.own, h.kp.drewN m⟩
/-- One road more. -/
theorem SmM.more (h : SmM wS wx gS L RA rc q) {r1 r2 cc : Int} {RA' : Option Addr} {rc' : Nat} (hown : w'.ownsRow (gS + 1) 28 3 (.slice RA' (q.length + 1) rc') (q.length + 1) (rcells q ++ [.int .i64 r1, .int .i64 r2, .int .i64 cc])) (hb : Below (gS + 1) wx w') :
    SmM wS (w'.setCell ⟨gS, 1, none⟩ (.slice RA' (q.length + 1) rc')) gS L RA' rc' (q ++ [(r1, r2, cc)]) := by
  have hlQ : (q ++ [(r1, r2, cc)]).length = q.length + 1 := by simp
  refine ⟨?_, ?_, (h.kp.trans (Kept.of_below hb [gS])).setCell (.inl (by simp)) _⟩
  · rw [hlQ]; exact (h.mp.below hb (by omega)).set_ 1 _
  · rw [hlQ, rcells_snoc]; exact own_lowT hown (by show gS < _; omega) _
end

/- Contract: shares of the top's laws: one player pays the cost. -/

theorem shap_09 : shapL [0, 9] 1 = [9] := by decide +kernel

set_option maxHeartbeats 800000 in
theorem tshares_any (w : World) : Calls Tryd.prog 11 #[] w fun e w' => e = .returned (.bool true) ∧ Below w.heap.size w w' := by
  have hI : Ints (w.alloc (.cells #[.int .i64 0, .int .i64 9] 3)) (some ⟨w.heap.size, 0, none⟩) [0, 9] := Blk.ints (xs := [0, 9]) (Blk.new w 3 _ rfl)
  have HI := Lib.hid hI
  clear hI
  go_enter Tryd.func11, Tryd.ntmps11
  go_wp2_with fail
  refine (shapley_ok _ 2 2 [0, 9] _ rfl HI.out (by decide)).mono ?_
  rintro e w1 ⟨A', c', rfl, hown, hb⟩
  have hp : plr [0, 9] = 1 := by decide
  rw [hp] at hown ⊢
  rw [shap_09] at hown
  have H1 := Lib.hid (And.intro hown hb)
  clear hown hb hp
  go_wp2_with fail
  obtain ⟨hown, hb⟩ := H1.out
  have hF : Fracs w1 A' [9] := At.of_own hown
  have hG : Fracs (w1.alloc (.cells #[.int .i64 9, .int .i64 1] 41)) (some ⟨w1.heap.size, 0, none⟩) [9] := by
    have h := (Blk.new w1 41 #[.int .i64 9, .int .i64 1] rfl).at_
    exact h
  refine (equalF_any A' (some ⟨w1.heap.size, 0, none⟩) 1 1 c' 1 [9] [9] _ rfl rfl (by omega) (hF.below ((Below.refl _ _).alloc (by go_size) _)) hG).mono ?_
  rintro e w2 ⟨rfl, m, rfl⟩
  have e1 : eqB ([9] : List Rat) [9] = true := by decide +kernel
  rw [e1]
  have H2 := Lib.hid (((Below.refl _ _).alloc (Nat.le_refl _) (.cells #[.int .i64 0, .int .i64 9] 3)).trans (hb.mono (by simp)))
  have hz : w.heap.size ≤ w1.heap.size := H2.out.size
  clear hown hb hF hG
  go_wp2
  go_ret
  exact ⟨rfl, below_drewN (H2.out.alloc hz _) _⟩

/- TopBird: the walk. -/

set_option maxRecDepth 100000 in
set_option maxHeartbeats 20000000 in
theorem law_tbird (N : Int) (R : Option Addr) (n c : Nat) (rs : List Rd) (W : World) (hl : rs.length = n) (hn : n ≤ 9223372036854775807) (hR : Rds W R rs) (ht : TabW W) (h2 : 2 ≤ W.heap.size) :
    Calls Tryd.prog 4 #[.agg #[.int .i64 N, .slice R n c]] W fun e w' => e = .returned (.bool true) ∧ Below W.heap.size W w' := by
  obtain ⟨w1, hw1⟩ : ∃ w1, w1 = W.alloc (.cells #[.int .i64 N, .slice R n c] 46) := ⟨_, rfl⟩
  have hB : Blk w1 W.heap.size 46 #[.int .i64 N, .slice R n c] := by rw [hw1]; exact Blk.new _ _ _ rfl
  have hb1 : Below W.heap.size W w1 := by rw [hw1]; exact (Below.refl _ _).alloc (Nat.le_refl _) _
  have H := Lib.hid (And.intro hl (And.intro hR (And.intro ht (And.intro hB hb1))))
  obtain ⟨m1, m2, _, _⟩ := hB.at2
  clear hl hR ht hB hb1
  go_enter Tryd.func4, Tryd.ntmps4
  go_upto_region 1 with fail
  rw [← hw1]
  clear hw1
  go_wp2_with fail
  refine (tplan_any N R n c rs w1 H.out.1 hn (H.out.2.1.below H.out.2.2.2.2)).mono ?_
  rintro e w2 ⟨R', c', rfl, hR2, hb2⟩
  have hs1 := H.out.2.2.2.2.size
  have hL18 : (rs.take 18).length ≤ 18 := by rw [List.length_take]; omega
  obtain ⟨rs', hrs'⟩ : ∃ rs', rs' = rs.take 18 := ⟨_, rfl⟩
  rw [← hrs'] at hR2 hL18 ⊢
  have H2 := Lib.hid (And.intro hR2 (And.intro (H.out.2.2.2.1.below hb2 H.out.2.2.2.1.lt) (H.out.2.2.2.2.trans (hb2.mono hs1))))
  clear hR2 hb2 hrs' m1 m2
  have hs2 := H2.out.2.2.size
  cases hv : mapOk N rs' with
  | false =>
    have HD := Lib.hid (rdistances_bad N R' rs'.length c' rs' w2 rfl (by omega) H2.out.1 hv)
    clear hv
    go_wp2_with fail
    refine HD.out.mono ?_
    rintro e w3 ⟨rfl, hb3⟩
    have H3 := Lib.hid (H2.out.2.2.trans (hb3.mono hs2))
    clear hb3
    go_wp2_with fail
    refine (tshares_any _).mono ?_
    rintro e w4 ⟨rfl, hb4⟩
    have H4 := Lib.hid (H3.out.trans (hb4.mono H3.out.size))
    clear hb4
    go_wp2_with fail
    go_ret
    exact ⟨rfl, H4.out⟩
  | true =>
    have hN8 := (mapOk_iff.1 hv).1
    obtain ⟨M, rfl⟩ : ∃ M : Nat, N = (M : Int) := ⟨N.toNat, by omega⟩
    have HD := Lib.hid (rdistances_ok M R' rs'.length c' rs' w2 rfl H2.out.1 hv)
    clear hv
    go_wp2_with fail
    refine HD.out.mono ?_
    rintro e w3 ⟨gA, cap, RR, f, rfl, hc1, hc2, hmx, hb3⟩
    have H3 := Lib.hid (And.intro hmx (And.intro (H2.out.2.1.below hb3 H2.out.2.1.lt) (H2.out.2.2.trans (hb3.mono hs2))))
    have hs3 := H3.out.2.2.size
    clear hb3 hmx
    obtain ⟨m1, m2, _, _⟩ := H3.out.2.1.at2
    by_cases hM : 2 ≤ M ∧ M ≤ 5
    · have d1 : decide ((M : Int) < 2) = false := decide_eq_false (by omega)
      have d2 : decide ((5 : Int) < (M : Int)) = false := decide_eq_false (by omega)
      obtain ⟨q, rfl⟩ : ∃ q, M = q + 1 := ⟨M - 1, by omega⟩
      have hq : 1 ≤ q ∧ q ≤ 4 := by omega
      have hP : IntKind.i64.wrap ((2 : Int) ^ q) = ((2 ^ q : Nat) : Int) ∧ 2 ≤ 2 ^ q ∧ 2 ^ q ≤ 16 := by
        have : q = 1 ∨ q = 2 ∨ q = 3 ∨ q = 4 := by omega
        rcases this with rfl | rfl | rfl | rfl <;> decide
      obtain ⟨P, hPe⟩ : ∃ P, P = 2 ^ q := ⟨_, rfl⟩
      rw [← hPe] at hP
      obtain ⟨hpw, hP2, hP16⟩ := hP
      have HP := Lib.hid hPe
      have e1 : (((q + 1 : Nat) : Int)) - 1 = (q : Int) := by omega
      clear hPe hM
      go_upto_region 6 with fail
      clear m1 m2 d1 d2 hpw e1
      go_loopw [5, 53] (fun cv sv wx => ∃ (s : Nat) (CA : Option Addr) (cc : Nat), s ≤ P ∧ sv = .int .i64 s ∧ cv = .slice CA s cc ∧ wx.ownsRow w3.heap.size 3 1 (.slice CA s cc) s (((birdC ordF f q).map (Value.int .i64)).take s) ∧ (∀ t, t < s → DOk f (insTo t q)) ∧ Below w3.heap.size w3 wx) (fun _ sv _ => P - (intOf sv).toNat)
      case atStart => exact ⟨0, none, 0, Nat.zero_le _, rfl, rfl, by simpa using World.ownsRow_nil _ _ _ _, fun t ht => by omega, Below.refl _ _⟩
      case round =>
        obtain ⟨s, CA, cc, hs, rfl, rfl, hown, hdo, hbl⟩ := hrel
        obtain ⟨wo, rfl⟩ : ∃ wo : World, wo = wr := ⟨_, rfl⟩
        have hzo := hbl.size
        have HR := Lib.hid (And.intro hown (And.intro hdo hbl))
        clear hown hdo hbl
        by_cases hlt : s < P
        · have hin0 : (wo.alloc (.cells #[.int .i64 0] 3)).ownsRow wo.heap.size 3 1 (.slice (some ⟨wo.heap.size, 0, none⟩) 1 1) 1 ((insI (insTo s 0)).map (Value.int .i64)) := World.ownsRow_lit (base := wo.heap.size) (e := 3) (size := 1) wo #[.int .i64 0] 1 (Nat.le_refl _) (by decide) rfl
          have HI0 := Lib.hid (And.intro hin0 ((Below.refl wo.heap.size wo).alloc (Nat.le_refl _) (.cells #[.int .i64 0] 3)))
          clear hin0
          have lP : (s : Int) < (P : Int) := by omega
          go_upto_region 9 with fail
          go_wp2_with fail
          go_loopw [7, 8] (fun lv iv wx => ∃ (k : Nat) (IA : Option Addr) (ic : Nat), k ≤ q ∧ iv = .int .i64 ((k : Int) + 1) ∧ lv = .slice IA (insTo s k).length ic ∧ wx.ownsRow wo.heap.size 3 1 (.slice IA (insTo s k).length ic) (insTo s k).length ((insI (insTo s k)).map (Value.int .i64)) ∧ Below wo.heap.size wo wx) (fun _ iv _ => q + 1 - (intOf iv).toNat)
          case atStart => exact ⟨0, some ⟨wo.heap.size, 0, none⟩, 1, Nat.zero_le _, rfl, rfl, HI0.out.1, HI0.out.2⟩
          case round =>
            obtain ⟨k, IA, ic, hk, rfl, rfl, hown, hbl⟩ := hrel
            obtain ⟨wp, rfl⟩ : ∃ wp : World, wp = wr := ⟨_, rfl⟩
            have hzp := hbl.size
            have HK := Lib.hid (And.intro hown hbl)
            have hb3 : Below w3.heap.size w3 wp := HR.out.2.2.trans (hbl.mono hzo)
            have HB3 := Lib.hid hb3
            obtain ⟨m1, _, _, _⟩ := (H3.out.2.1.below hb3 H3.out.2.1.lt).at2
            clear hown hbl hb3
            by_cases hlk : k < q
            · have hstep : insTo s (k + 1) = if s.testBit k then insTo s k ++ [k + 1] else insTo s k := rfl
              have e1 : (k : Int) + 1 - 1 = (k : Int) := by omega
              have l1 : (k : Int) + 1 < ((q + 1 : Nat) : Int) := by omega
              cases hbit : s.testBit k
              · have b1 := and_shr_f (set := s) (k := k) (by omega) hbit
                rw [hbit, if_neg (by simp)] at hstep
                have HS := Lib.hid hstep
                clear hstep hbit
                go_wp2_with fail
                go_roundw
                case rel => exact ⟨k + 1, IA, ic, by omega, by go_num, by rw [HS.out], by rw [HS.out]; exact HK.out.1, HK.out.2⟩
                case measure => simp [intOf]; omega
              · have b1 := and_shr_t (set := s) (k := k) (by omega) hbit
                rw [hbit, if_pos rfl] at hstep
                have hlL : (insTo s k).length ≤ 5 := by have := (insTo_facts s k).1; omega
                obtain ⟨ins, hins⟩ : ∃ ins, ins = insTo s k := ⟨_, rfl⟩
                rw [← hins] at hstep HK hlL ⊢
                have HS := Lib.hid hstep
                have hlen : (ins ++ [k + 1]).length = ins.length + 1 := by simp
                have HL := Lib.hid hlen
                clear hstep hbit hins hlen
                go_wp2_with (at_builtin; refine app1 sty_int rfl _ _ rfl wo.heap.size IA ins.length ic _ #[.int .i64 ((k : Int) + 1)] rfl (by simp [Value.oneCell']) rfl HK.out.1 rfl (by omega) hzp ?_)
                intro A4 k4 w4 hown4 _ hbl4 hk41 hk42
                have HK4 := Lib.hid (And.intro hown4 (HK.out.2.trans hbl4))
                clear hown4 hbl4
                go_wp2_with fail
                go_roundw
                case rel => exact ⟨k + 1, A4, k4, by omega, by go_num, by rw [HS.out, HL.out], by rw [HS.out, HL.out, insI_snoc]; exact HK4.out.1, HK4.out.2⟩
                case measure => simp [intOf]; omega
            · obtain rfl : q = k := by omega
              obtain ⟨⟨hL1, hL5⟩, _, hins3, hins4⟩ := insTo_facts s q
              obtain ⟨ins, hins⟩ : ∃ ins, ins = insTo s q := ⟨_, rfl⟩
              rw [← hins] at HK hL1 hL5 hins3 hins4 ⊢
              have HINS := Lib.hid hins
              obtain ⟨ad, hA, hadl, hcI⟩ := (show Ints wp IA (insI ins) from At.of_own HK.out.1).some_ (by rw [insI_length]; omega)
              subst hA
              have hic : ins.length ≤ ic ∧ ic ≤ 9223372036854775807 := by
                obtain ⟨_, _, he, hcap1, hcap2, _⟩ := own_form HK.out.1
                injection he with _ _ he
                rw [← he] at hcap1 hcap2
                exact ⟨hcap1, hcap2⟩
              obtain ⟨gS, hgS⟩ : ∃ gS, gS = wp.heap.size := ⟨_, rfl⟩
              obtain ⟨wS, hwS⟩ : ∃ wS, wS = wp.alloc (.cells #[.int .i64 (ins.length : Int), .slice none 0 0] 26) := ⟨_, rfl⟩
              have hsm : SmM wS wS gS ins.length none 0 [] := ⟨by rw [hwS, hgS]; exact Blk.new _ _ _ rfl, World.ownsRow_nil _ _ _ _, Kept.refl _ _ _⟩
              have hbS : Below gS wp wS := by rw [hwS, hgS]; exact (Below.refl _ _).alloc (Nat.le_refl _) _
              have hzS : wS.heap.size = gS + 1 := by rw [hwS, hgS]; simp
              have hcI2 : ∀ (i : Nat), i < ins.length → wp.cell? (ad.add i) = some (.int .i64 ((ins.getD i 0 : Nat) : Int)) := fun i hi => hcI i _ (insI_get hi)
              have HS := Lib.hid (And.intro hsm (And.intro hbS (And.intro hcI2 (And.intro hins3 hins4))))
              clear hsm hbS hcI hcI2 hins3 hins4 hins
              go_upto_region 15 with fail
              rw [← hwS, ← hgS]
              rw [← hgS] at hadl hzp
              have HG := Lib.hid (And.intro hgS hwS)
              clear hgS hwS m1 hlk hk
              go_wp2_with fail
              go_loopw [78] (fun iv wx => ∃ (i : Nat) (RA : Option Addr) (rc : Nat), i ≤ ins.length ∧ iv = .int .i64 i ∧ SmM wS wx gS ins.length RA rc (bTo f ins i) ∧ (∀ a b, b < a → a < i → 1 ≤ f (ins.getD a 0) (ins.getD b 0) ∧ f (ins.getD a 0) (ins.getD b 0) ≤ 50)) (fun iv _ => ins.length - (intOf iv).toNat)
              case atStart => exact ⟨0, none, 0, Nat.zero_le _, rfl, HS.out.1, fun a b _ h => by omega⟩
              case round =>
                obtain ⟨i, RA, rc, hi, rfl, hsm, hdk⟩ := hrel
                obtain ⟨wi, rfl⟩ : ∃ wi : World, wi = wr := ⟨_, rfl⟩
                have hbi : Below gS wp wi := HS.out.2.1.trans ((hsm.kp.mono (B' := gS) (S' := []) (by omega) fun x hx => by rw [List.mem_singleton.1 hx]; exact .inr (Nat.le_refl _)).below)
                have HI := Lib.hid (And.intro hsm (And.intro hdk hbi))
                clear hsm hdk hbi
                by_cases hlti : i < ins.length
                · have c0 : wi.cell? (ad.add i) = some (.int .i64 ((ins.getD i 0 : Nat) : Int)) := (HI.out.2.2.cell (by rw [add_block]; exact hadl)).trans (HS.out.2.2.1 i hlti)
                  have l1 : (i : Int) < (ins.length : Int) := by omega
                  have l2 : (0 : Int) ≤ (i : Int) := by omega
                  have l3 : i ≤ ic := by omega
                  have hXq : ins.getD i 0 < q + 1 := by have := HS.out.2.2.2.1 i hlti; omega
                  obtain ⟨X, hX⟩ : ∃ X, X = ins.getD i 0 := ⟨_, rfl⟩
                  rw [← hX] at c0 hXq
                  have HX := Lib.hid hX
                  clear hX
                  go_upto_region 19 with fail
                  clear c0
                  go_loopw [87] (fun jv wx => ∃ (j : Nat) (RA : Option Addr) (rc : Nat), j ≤ i ∧ jv = .int .i64 j ∧ SmM wS wx gS ins.length RA rc (bTo f ins i ++ bRow f ins i j) ∧ (∀ b, b < j → 1 ≤ f X (ins.getD b 0) ∧ f X (ins.getD b 0) ≤ 50)) (fun jv _ => i - (intOf jv).toNat)
                  case atStart => exact ⟨0, RA, rc, Nat.zero_le _, rfl, by simpa [bRow] using HI.out.1, fun b h => by omega⟩
                  case round =>
                    obtain ⟨j, RA, rc, hj, rfl, hsm, hdk⟩ := hrel
                    obtain ⟨wj, rfl⟩ : ∃ wj : World, wj = wr := ⟨_, rfl⟩
                    have hbj : Below gS wp wj := HS.out.2.1.trans ((hsm.kp.mono (B' := gS) (S' := []) (by omega) fun x hx => by rw [List.mem_singleton.1 hx]; exact .inr (Nat.le_refl _)).below)
                    have hb3 : Below w3.heap.size w3 wj := (HR.out.2.2.trans (HK.out.2.mono hzo)).trans (hbj.mono (by omega))
                    have HJ := Lib.hid (And.intro hsm (And.intro hdk (And.intro hbj hb3)))
                    have hzj : gS + 1 ≤ wj.heap.size := by have := hsm.mp.lt; omega
                    clear hsm hdk hbj hb3
                    by_cases hltj : j < i
                    · have c0 : wj.cell? (ad.add j) = some (.int .i64 ((ins.getD j 0 : Nat) : Int)) := (HJ.out.2.2.1.cell (by rw [add_block]; exact hadl)).trans (HS.out.2.2.1 j (by omega))
                      have l4 : (j : Int) < (i : Int) := by omega
                      have l5 : (0 : Int) ≤ (j : Int) := by omega
                      have hYq : ins.getD j 0 < q + 1 := by have := HS.out.2.2.2.1 j (by omega); omega
                      obtain ⟨Y, hY⟩ : ∃ Y, Y = ins.getD j 0 := ⟨_, rfl⟩
                      rw [← hY] at c0 hYq
                      have hmx := H3.out.1.next HJ.out.2.2.2
                      have x1 := hmx.rows X hXq
                      have c1 := hmx.cell hXq hYq
                      have l6 : (X : Int) < (q : Int) + 1 := by omega
                      have l7 : (0 : Int) ≤ (X : Int) := by omega
                      have l8 : (Y : Int) < (q : Int) + 1 := by omega
                      have l9 : (0 : Int) ≤ (Y : Int) := by omega
                      obtain ⟨v, hv⟩ : ∃ v, v = f X Y := ⟨_, rfl⟩
                      rw [← hv] at c1
                      have HY := Lib.hid (And.intro hY hv)
                      have HBX := Lib.hid (H3.out.2.2.trans (HJ.out.2.2.2.mono hs3))
                      clear hmx hY hv
                      by_cases e1 : v < 1
                      · go_wp2_with fail
                        refine (tshares_any _).mono ?_
                        rintro e w4 ⟨rfl, hb4⟩
                        have H4 := Lib.hid (HBX.out.trans (hb4.mono HBX.out.size))
                        clear hb4 x1 c0 c1
                        go_wp2_with fail
                        go_ret
                        exact ⟨rfl, H4.out⟩
                      · have d1 : decide (v < 1) = false := decide_eq_false e1
                        by_cases e2 : 50 < v
                        · go_wp2_with fail
                          refine (tshares_any _).mono ?_
                          rintro e w4 ⟨rfl, hb4⟩
                          have H4 := Lib.hid (HBX.out.trans (hb4.mono HBX.out.size))
                          clear hb4 x1 c0 c1
                          go_wp2_with fail
                          go_ret
                          exact ⟨rfl, H4.out⟩
                        · have d2 : decide (50 < v) = false := decide_eq_false e2
                          go_upto_region 23 with fail
                          obtain ⟨rq, hrq⟩ : ∃ rq, rq = bTo f ins i ++ bRow f ins i j := ⟨_, rfl⟩
                          have hrl : rq.length ≤ 20 := by
                            have h1 := bTo_len5 f ins (k := i) (by omega)
                            rw [hrq, List.length_append, bRow_length]; omega
                          rw [← hrq] at HJ
                          obtain ⟨m1, m2, f1, f2⟩ := HJ.out.1.mp.at2
                          have hcA : ∀ o, (wj.alloc o).cell? ⟨gS, 1, none⟩ = some (.slice RA rq.length rc) := fun o => (World.cell?_alloc_lt _ _ _ (by show gS < wj.heap.size; omega)).trans m2
                          have HOD := Lib.hid (HJ.out.1.own.drew)
                          have HRQ := Lib.hid hrq
                          clear hrq
                          go_region_law ((refine step_app1 (w := wj.drew) sty_road (by rfl) (.tmp 112) (.tmp 123) (by rfl) (gS + 1) RA rq.length rc _ #[.int .i64 (i : Int), .int .i64 (j : Int), .int .i64 v] (by rfl) (by simp [Value.oneCell']) (by rfl) HOD.out (by rfl) (by omega) hzj ?_; intro A4 k4 w4 hown4 hg4 hbl4 hk41 hk42; have hc4 := (HJ.out.1.mp.below ((below_drewN (Below.refl (gS + 1) wj) 1).trans hbl4) (by omega)).at2.2.1; have hf4 := (HJ.out.1.mp.below ((below_drewN (Below.refl (gS + 1) wj) 1).trans hbl4) (by omega)).frozen 1))
                          all_goals
                            have hfin := HJ.out.1.more hown4 ((below_drewN (Below.refl (gS + 1) wj) 1).trans hbl4)
                            have HF := Lib.hid hfin
                            clear hfin hown4 hg4 hbl4 hc4 hf4 m1 m2 f1 f2 hcA x1 c0 c1
                            go_wp2_with fail
                            go_roundw
                            case rel =>
                              have hXY := HX.out
                              have hYv := HY.out
                              refine ⟨j + 1, A4, k4, by omega, by go_num, ?_, fun b hb => ?_⟩
                              · rw [bRow_succ, ← List.append_assoc, ← HRQ.out, ← hXY, ← hYv.1, ← hYv.2]; exact HF.out
                              · by_cases e : b < j
                                · exact HJ.out.2.1 b e
                                · have : b = j := by omega
                                  subst this
                                  rw [← hYv.1, ← hYv.2]; omega
                            case measure => simp [intOf]; omega
                    · obtain rfl : i = j := by omega
                      go_wp2_with fail
                      go_roundw
                      case rel =>
                        refine ⟨i + 1, RA, rc, by omega, by go_num, HJ.out.1, fun a b hba ha => ?_⟩
                        by_cases e : a < i
                        · exact HI.out.2.1 a b hba e
                        · have : a = i := by omega
                          subst this
                          rw [← HX.out]
                          exact HJ.out.2.1 b hba
                      case measure => simp [intOf]; omega
                · obtain rfl : ins.length = i := by omega
                  obtain ⟨rq, hrq⟩ : ∃ rq, rq = bRoads f ins := ⟨_, rfl⟩
                  have hrq' : bTo f ins ins.length = rq := hrq.symm
                  rw [hrq'] at HI
                  have hdk : DOk f ins := fun a b hba ha => HI.out.2.1 a b hba ha
                  have hmok := bOk ⟨hL1, by omega⟩ hdk
                  have hrea := reach_all ⟨hL1, by omega⟩ hdk
                  have htre := span_tree ⟨hL1, by omega⟩ (ordF_ord (bRoads f ins))
                  have hl10 : rq.length ≤ 10 := by rw [hrq]; exact bTo_len5 f ins (by omega)
                  have hcst : sumC (bRoads f ins) (krC (bRoads f ins) p8 (ordF (bRoads f ins))) = costB ordF f ins := rfl
                  rw [hcst] at htre
                  rw [← hrq] at hmok hrea htre
                  have hb3 : Below w3.heap.size w3 wi := (HR.out.2.2.trans (HK.out.2.mono hzo)).trans (HI.out.2.2.mono (by omega))
                  have hbW := H3.out.2.2.trans (hb3.mono hs3)
                  have hzw := hbW.size
                  have hRq : Rds wi RA rq := At.of_own HI.out.1.own
                  have HSP := Lib.hid (rspan_any ins.length RA rq.length rc rq wi rfl hmok hRq (H.out.2.2.1.below hbW h2) (by omega) (by omega) hrea)
                  have HT := Lib.hid (And.intro hdk (And.intro hmok (And.intro htre (And.intro hRq (And.intro hbW hb3)))))
                  obtain ⟨m1, m2, _, _⟩ := HI.out.1.mp.at2
                  clear hdk hmok hrea htre hcst hRq hbW hb3 hrq' hrq hlti
                  go_wp2_with fail
                  refine HSP.out.mono ?_
                  rintro e w6 ⟨A6, c6, rfl, hI6, hb6⟩
                  obtain ⟨sl, hsl⟩ : ∃ sl, sl = spanF rq (ordF rq) := ⟨_, rfl⟩
                  have hsl8 : sl.length ≤ 12 := by
                    rw [hsl]
                    have h1 := (spanF_perm rq (ordF rq)).length_eq
                    have h2' := (kr_sub (rs := rq) (ordF rq) p8).length_le
                    rw [ordF_length] at h2'
                    omega
                  have htre := HT.out.2.2.1
                  rw [← hsl] at hI6 htre ⊢
                  have hb36 := HT.out.2.2.2.2.2.trans (hb6.mono (by have := HT.out.2.2.2.2.2.size; omega))
                  have H6 := Lib.hid (And.intro hI6 (And.intro hb6 (And.intro hb36 htre)))
                  obtain ⟨P2, hP2e⟩ : ∃ P2, P2 = 2 ^ ins.length := ⟨_, rfl⟩
                  have hpw2 : IntKind.i64.wrap ((2 : Int) ^ ins.length) = (P2 : Int) := by rw [hP2e]; exact pow_wrap ins.length (by omega)
                  have hPb : 2 ≤ P2 ∧ P2 ≤ 32 := by
                    rw [hP2e]
                    exact ⟨Nat.pow_le_pow_right (n := 2) (by omega) (show 1 ≤ ins.length by omega), Nat.pow_le_pow_right (n := 2) (by omega) (show ins.length ≤ 5 by omega)⟩
                  have hP2s : (P2 : Int) - 1 = ((P2 - 1 : Nat) : Int) := by omega
                  have hzi := HT.out.2.2.2.2.1.size
                  have HST : Hid (∀ sd : Desc w6, Calls Tryd.prog 15 #[.agg #[.int .i64 (ins.length : Int), .slice RA rq.length rc], .int .i64 ((P2 - 1 : Nat) : Int), .slice A6 sl.length c6] sd.val fun e w'' => e = .returned (.tuple #[.int .i64 (costB ordF f ins), .bool true, .int .i64 0]) ∧ ∃ s' : Desc w6, w'' = s'.val) := Lib.hid fun sd => Calls.desc_of (by
                    have hz6 := hb6.size
                    have hzs := sd.below.size
                    have h := rchktree_any ins.length RA rq.length rc rq (P2 - 1) A6 sl.length c6 sl sd.val rfl HT.out.2.1 ((HT.out.2.2.2.1.below hb6).below sd.below) (by rw [← hP2e]; omega) rfl (by omega) (hI6.below sd.below) ((H.out.2.2.1.below (HT.out.2.2.2.2.1.trans (hb6.mono hzi)) h2).below sd.below (by omega)) (by omega)
                    rw [hP2e, htre] at h
                    rw [hP2e]
                    exact h)
                  have hmp6 := HI.out.1.mp.below hb6 HI.out.1.mp.lt
                  obtain ⟨y1, y2, _, _⟩ := hmp6.at2
                  have d1 : ∀ sd : Desc w6, sd.val.cell? ⟨gS, 0, none⟩ = some (.int .i64 (ins.length : Int)) := fun sd => sd.cell y1
                  have d2 : ∀ sd : Desc w6, sd.val.cell? ⟨gS, 1, none⟩ = some (.slice RA rq.length rc) := fun sd => sd.cell y2
                  obtain ⟨X, hXe⟩ : ∃ X, X = costB ordF f ins := ⟨_, rfl⟩
                  rw [← hXe] at HST
                  have HXe := Lib.hid hXe
                  clear hI6 hb6 hb36 hsl htre hP2e hmp6 m1 m2 hXe
                  go_upto_region 27 with fail
                  refine wp_region_desc (by kernel_rfl) (by kernel_rfl) ?_
                  repeat (go_big_quiet_step (first | (go_at_call 15; exact HST.out _)))
                  refine wpQuiet_nil ?_
                  rintro _ ⟨sd, rfl⟩
                  have hb7 := sd.below
                  generalize sd.val = w7 at hb7 ⊢
                  clear d1 d2 y1 y2
                  have hbw7 : Below w3.heap.size w3 w7 := H6.out.2.2.1.trans (hb7.mono (by have := H6.out.2.2.1.size; omega))
                  have hko := HK.out.2.size
                  have hio := HI.out.2.2.size
                  have hbo7 : Below wo.heap.size wo w7 := (HK.out.2.trans (HI.out.2.2.mono (by omega))).trans ((H6.out.2.1.mono (by have := HI.out.2.2.size; omega)).trans (hb7.mono (by have := HI.out.2.2.size; have := H6.out.2.1.size; omega)))
                  have hown7 := own_below HR.out.1 hbo7
                  have hz7 := hbw7.size
                  have hnew : ((birdC ordF f q).map (Value.int .i64)).take (s + 1) = ((birdC ordF f q).map (Value.int .i64)).take s ++ [.int .i64 X] := by
                    rw [HXe.out, HINS.out]
                    rw [List.take_add_one, List.getElem?_map, birdC_get (by rw [← HP.out]; exact hlt)]; rfl
                  have H7 := Lib.hid (And.intro hown7 (And.intro hbw7 hnew))
                  clear hb7 hbw7 hbo7 hown7 hnew hko hio
                  go_upto_region 30 with fail
                  go_wp2_with (at_builtin; refine app1 sty_int rfl _ _ rfl w3.heap.size CA s cc _ #[.int .i64 X] rfl (by simp [Value.oneCell']) rfl H7.out.1 rfl (by omega) hz7 ?_)
                  intro A4 k4 w4 hown4 _ hbl4 hk41 hk42
                  rw [← H7.out.2.2] at hown4
                  have HR4 := Lib.hid (And.intro hown4 (H7.out.2.1.trans hbl4))
                  clear hown4 hbl4
                  go_wp2_with fail
                  go_roundw
                  case rel =>
                    refine ⟨s + 1, A4, k4, by omega, by go_num, rfl, HR4.out.1, fun u hu => ?_, HR4.out.2⟩
                    by_cases e : u < s
                    · exact HR.out.2.1 u e
                    · have : u = s := by omega
                      subst this
                      rw [← HINS.out]; exact HT.out.1
                  case measure => simp [intOf]; omega
        · obtain rfl : P = s := by omega
          have hlen : (birdC ordF f q).length = P := by rw [birdC_length, ← HP.out]
          have hIc : Ints wo CA (birdC ordF f q) := by
            have h := HR.out.1
            rw [List.take_of_length_le (by rw [List.length_map, hlen]; exact Nat.le_refl _)] at h
            exact At.of_own h
          obtain ⟨hv, hpl, hin⟩ := bird_core (ord := ordF) (fun rs => ordF_ord rs) (d := f) hq (fun t ht => HR.out.2.1 t (by rw [HP.out]; exact ht))
          obtain ⟨qs, hqs⟩ := core_some hv (by rw [hpl]; exact hin)
          obtain ⟨hcc, hbds⟩ := core_bds hv hqs
          have hce : ccE (birdC ordF f q) = 0 := by simp [ccE, hv]
          obtain ⟨cl, hcl⟩ : ∃ cl, cl = birdC ordF f q := ⟨_, rfl⟩
          rw [← hcl] at hlen hIc hv hpl hqs hcc hce
          have hbW := H3.out.2.2.trans (HR.out.2.2.mono hs3)
          have HC := Lib.hid (core_any CA P cc cl wo hlen (by omega) hIc)
          have HF := Lib.hid (And.intro hlen (And.intro hIc (And.intro hv (And.intro hpl (And.intro hqs (And.intro hcc (And.intro hbds (And.intro hce hbW))))))))
          clear hlen hIc hv hpl hin hqs hcc hbds hce hcl hbW
          have lP : ¬ (P : Int) < (P : Int) := by omega
          go_wp2_with fail
          refine HC.out.mono ?_
          rintro e w6 ⟨hb6, ⟨hv, rfl⟩ | ⟨hv, hn, rfl⟩ | ⟨hv, qs', A', c', hq', rfl, h1, h2, h3, h4⟩⟩
          · exfalso; have := HF.out.2.2.1; rw [this] at hv; cases hv
          · exfalso; have := HF.out.2.2.2.2.1; rw [this] at hn; cases hn
          · have e1 : qs = qs' := by have := HF.out.2.2.2.2.1; rw [this] at hq'; exact Option.some.inj hq'
            subst e1
            have hpl := HF.out.2.2.2.1
            rw [hpl] at h1 h3 ⊢
            have hbW6 := HF.out.2.2.2.2.2.2.2.2.trans (hb6.mono HF.out.2.2.2.2.2.2.2.2.size)
            have HK := Lib.hid (checkcore_any CA P cc A' q c' cl (qs.map pr) w6 HF.out.1 (by omega) (by rw [List.length_map]; exact h1) (by omega) (HF.out.2.1.below hb6) h2.prs HF.out.2.2.2.2.2.2.1)
            have HW6 := Lib.hid hbW6
            clear h1 h2 h3 h4 hv hq' hpl hbW6 hb6
            go_wp2_with fail
            refine HK.out.mono ?_
            rintro e w7 ⟨rfl, hb7⟩
            have e2 := HF.out.2.2.2.2.2.1
            have e3 := HF.out.2.2.2.2.2.2.2.1
            rw [e2, e3]
            have HW7 := Lib.hid (HW6.out.trans (hb7.mono HW6.out.size))
            clear hb7 e2 e3
            go_wp2_with fail
            refine (tshares_any _).mono ?_
            rintro e w8 ⟨rfl, hb8⟩
            have H8 := Lib.hid (HW7.out.trans (hb8.mono HW7.out.size))
            clear hb8
            go_wp2_with fail
            go_ret
            exact ⟨rfl, H8.out⟩
    · have hM' : M < 2 ∨ 5 < M := by omega
      rcases hM' with hM' | hM'
      · have d1 : (M : Int) < 2 := by omega
        go_wp2_with fail
        refine (tshares_any _).mono ?_
        rintro e w4 ⟨rfl, hb4⟩
        have H4 := Lib.hid (H3.out.2.2.trans (hb4.mono hs3))
        clear hb4 m1 m2
        go_wp2_with fail
        go_ret
        exact ⟨rfl, H4.out⟩
      · have d1 : decide ((M : Int) < 2) = false := decide_eq_false (by omega)
        have d2 : (5 : Int) < (M : Int) := by omega
        go_wp2_with fail
        refine (tshares_any _).mono ?_
        rintro e w4 ⟨rfl, hb4⟩
        have H4 := Lib.hid (H3.out.2.2.trans (hb4.mono hs3))
        clear hb4 m1 m2
        go_wp2_with fail
        go_ret
        exact ⟨rfl, H4.out⟩

/- TopBird returns true for every input, and its argument reads afterwards as before, where the two tables of math/bits hold what the program's text lays. -/
open Go.ChangeShapes Go.WideShapes Go.ChangeAt Go.RowKit

set_option maxRecDepth 100000 in
theorem topBird_lifted (os : Os) (started : os.Started) (H : Type) (enc : TypeId × Value → H) :
    ReturnsInHanded {} Tryd.checked os 4 .any (fun w args => (Rows.topBirdSpec.pre enc Tryd.prog Tryd.f4 [] false w args ∧ laidMetH Tryd.prog laidTabs w) ∧ sizedMet enc Tryd.prog Tryd.f4 (OpenSpec.ofChange Rows.topBirdSpec) false w args)
      (Rows.topBirdSpec.post enc Tryd.prog Tryd.f4 false true false false) := by
  refine returnsInHanded_of_change_and (C := Tryd.checked) (X := fun w _ => laidMetH Tryd.prog laidTabs w) (fun _ _ _ hh h => h.of_heap hh) t_own started (by kernel_rfl) Tryd.func4
    (ChangeSpec.witness_shaped (enc := enc) (C := Tryd.checked) (os := os) (X := fun w _ => laidMetH Tryd.prog laidTabs w) false (World.doorLaid Tryd.prog 400 os) #[.agg #[.int .i64 0, .slice none 0 0]] 8 rfl (World.shaped_of_RefB (by kernel_rfl) (by kernel_rfl)) (by kernel_rfl) (by kernel_rfl) (by kernel_rfl) (door_met os _)) ?_
  intro W base args ds gs before hval0 hW _ _ hL _
  have hval : ∀ (j : Nat) t v, Tryd.f4.params[j]? = some t → args[j]? = some v → Value.okWide Tryd.prog W .any base t v := hval0
  have hW' := hW
  obtain ⟨p, q, hA0, hV, rfl, hfz, hnd⟩ := hW
  have hA : DataW.TrodAll enc Tryd.prog W 0 (fun _ => true) true Tryd.f4.params.toList args.toList ds p := hA0
  have hA1 := hA
  rw [Tryd.params4] at hA hval
  obtain ⟨v0, d0, rfl, rfl, h0⟩ := trodAll_one hA
  obtain ⟨rfl, rfl⟩ := trodVars_none hV
  obtain ⟨N0, A0, n0, c0, rs0, rfl, hl0, hn0, hR0⟩ := open_pmapI h0 (hval 0 46 v0 rfl rfl)
  obtain ⟨hT, h2s⟩ := tab_of_laid hL
  clear hA0 hval0
  refine (law_tbird N0 A0 n0 c0 rs0 W hl0 hn0 hR0 hT h2s).mono fun e W' ⟨he, hb⟩ => ?_
  subst he
  have hlt := fun x (hx : x ∈ _) => hW'.lt x hx
  exact ⟨_, rfl, post_of_below (pv := []) hW' (fun _ _ _ => trodAll_mk1 (shut_bool Tryd.underlying4 _))
    (fun sp hsp => trodAll_below hb sp _ _ _ _ (by rw [Tryd.params4]; intro t ht; simp at ht; rcases ht with rfl; exact ⟨by kernel_rfl, of_decide_eq_true (by kernel_rfl)⟩) (fun x hx => hlt x (by simpa using hx)) (fun x hx => hsp x (by simpa using hx)) hA1)
    (fun _ _ => rfl) rfl hb (ok_one (by kernel_rfl) rfl (okWide_bool_mk Tryd.underlying4 _))⟩

theorem topBird_row : Rows.TopBirdSaid :=
  OpenClaim.holds_of_wide 4 Tryd.f4 rfl rfl rfl rfl rfl rfl rfl ⟨rfl, rfl, rfl, rfl, rfl⟩ rfl rfl rfl rfl rfl (by kernel_rfl) Tryd.func4 (by kernel_rfl)
    (of_decide_eq_true (by kernel_rfl)) (by unfold Func.isWrapper; first | (rw [if_pos (by decide +kernel)]; kernel_rfl) | (rw [if_neg (by decide +kernel)]; exact ⟨rfl, rfl⟩))
    (fun os started H enc _ => topBird_lifted os started H enc)
#print axioms topBird_row
end Go.Proofs.YtifmekijdepokaaDoor
