/- Laws and contracts that the proof of GamesPlus uses, part 6. -/
import Derived.Test.YtbidboagaoifaaaGamesPlusM2
import Derived.Test.YtbidboagaoifaaaGamesPlusM5
import Derived.Test.YtbidboagaoifaaaGamesPlusM1
import Derived.Test.YtbidboagaoifaaaGamesPlusM4
import Derived.StillTailTactics
import Derived.Deep.RegionHeld3
import Derived.Deep.AppendLies
import Derived.Deep.DeepCutAuto
namespace Go.Proofs.Ytbidboagaoifaaa
open Go.RowKit

/- The Shapley payments: who changes no cost pays nothing, who raise all costs alike pay alike, sums add. Plain Lean. -/

/-- Some set's cost is changed by player i, among the first k sets. -/
def raisesTo (c : List Int) (i k : Nat) : Bool := (List.range k).any fun s => decide (c.getD (s ||| 2 ^ i) 0 ≠ c.getD s 0)
theorem raisesTo_succ (c : List Int) (i k : Nat) : raisesTo c i (k + 1) = (raisesTo c i k || decide (c.getD (k ||| 2 ^ i) 0 ≠ c.getD k 0)) := by
  simp [raisesTo, List.range_succ]
def alikeAt (c : List Int) (i j s : Nat) : Bool := s.testBit i || (s.testBit j || decide (c.getD (s ||| 2 ^ i) 0 = c.getD (s ||| 2 ^ j) 0))
def alikeTo (c : List Int) (i j k : Nat) : Bool := (List.range k).all fun s => alikeAt c i j s
theorem alikeTo_succ (c : List Int) (i j k : Nat) : alikeTo c i j (k + 1) = (alikeTo c i j k && alikeAt c i j k) := by
  simp [alikeTo, List.range_succ]

theorem null1_0 (c0 c1 : Int) (h : raisesTo [c0, c1] 0 2 = false) : (shapL [c0, c1] 1).getD 0 0 = 0 := by
  have h : c1 = c0 := by
    simpa [raisesTo, List.range_succ] using h
  unfold shapL
  rw [sums1, F1]
  simp only [List.map_cons, List.map_nil, List.getD_cons_zero]
  have e : ∀ (s F : Int), s = 0 → Rat.divInt s F = 0 := fun s F h => by rw [h, Rat.zero_divInt]
  exact e _ _ (by omega)
theorem null2_0 (c0 c1 c2 c3 : Int) (h : raisesTo [c0, c1, c2, c3] 0 4 = false) : (shapL [c0, c1, c2, c3] 2).getD 0 0 = 0 := by
  have h : c1 = c0 ∧ c3 = c2 := by
    simpa [raisesTo, List.range_succ] using h
  unfold shapL
  rw [sums2, F2]
  simp only [List.map_cons, List.map_nil, List.getD_cons_zero]
  have e : ∀ (s F : Int), s = 0 → Rat.divInt s F = 0 := fun s F h => by rw [h, Rat.zero_divInt]
  exact e _ _ (by omega)
theorem null2_1 (c0 c1 c2 c3 : Int) (h : raisesTo [c0, c1, c2, c3] 1 4 = false) : (shapL [c0, c1, c2, c3] 2).getD 1 0 = 0 := by
  have h : c2 = c0 ∧ c3 = c1 := by
    simpa [raisesTo, List.range_succ] using h
  unfold shapL
  rw [sums2, F2]
  simp only [List.map_cons, List.map_nil, List.getD_cons_zero, List.getD_cons_succ]
  have e : ∀ (s F : Int), s = 0 → Rat.divInt s F = 0 := fun s F h => by rw [h, Rat.zero_divInt]
  exact e _ _ (by omega)
theorem sym2_1_0 (c0 c1 c2 c3 : Int) (h : alikeTo [c0, c1, c2, c3] 1 0 4 = true) : (shapL [c0, c1, c2, c3] 2).getD 1 0 = (shapL [c0, c1, c2, c3] 2).getD 0 0 := by
  have h : c2 = c1 := by
    simpa [alikeTo, alikeAt, List.range_succ, Nat.testBit_eq_decide_div_mod_eq] using h
  unfold shapL
  rw [sums2, F2]
  simp only [List.map_cons, List.map_nil, List.getD_cons_zero, List.getD_cons_succ]
  have e : ∀ (s t F : Int), s = t → Rat.divInt s F = Rat.divInt t F := fun s t F h => by rw [h]
  exact e _ _ _ (by omega)
theorem null3_0 (c0 c1 c2 c3 c4 c5 c6 c7 : Int) (h : raisesTo [c0, c1, c2, c3, c4, c5, c6, c7] 0 8 = false) : (shapL [c0, c1, c2, c3, c4, c5, c6, c7] 3).getD 0 0 = 0 := by
  have h : c1 = c0 ∧ c3 = c2 ∧ c5 = c4 ∧ c7 = c6 := by
    simpa [raisesTo, List.range_succ] using h
  unfold shapL
  rw [sums3, F3]
  simp only [List.map_cons, List.map_nil, List.getD_cons_zero]
  have e : ∀ (s F : Int), s = 0 → Rat.divInt s F = 0 := fun s F h => by rw [h, Rat.zero_divInt]
  exact e _ _ (by omega)
theorem null3_1 (c0 c1 c2 c3 c4 c5 c6 c7 : Int) (h : raisesTo [c0, c1, c2, c3, c4, c5, c6, c7] 1 8 = false) : (shapL [c0, c1, c2, c3, c4, c5, c6, c7] 3).getD 1 0 = 0 := by
  have h : c2 = c0 ∧ c3 = c1 ∧ c6 = c4 ∧ c7 = c5 := by
    simpa [raisesTo, List.range_succ] using h
  unfold shapL
  rw [sums3, F3]
  simp only [List.map_cons, List.map_nil, List.getD_cons_zero, List.getD_cons_succ]
  have e : ∀ (s F : Int), s = 0 → Rat.divInt s F = 0 := fun s F h => by rw [h, Rat.zero_divInt]
  exact e _ _ (by omega)
theorem null3_2 (c0 c1 c2 c3 c4 c5 c6 c7 : Int) (h : raisesTo [c0, c1, c2, c3, c4, c5, c6, c7] 2 8 = false) : (shapL [c0, c1, c2, c3, c4, c5, c6, c7] 3).getD 2 0 = 0 := by
  have h : c4 = c0 ∧ c5 = c1 ∧ c6 = c2 ∧ c7 = c3 := by
    simpa [raisesTo, List.range_succ] using h
  unfold shapL
  rw [sums3, F3]
  simp only [List.map_cons, List.map_nil, List.getD_cons_zero, List.getD_cons_succ]
  have e : ∀ (s F : Int), s = 0 → Rat.divInt s F = 0 := fun s F h => by rw [h, Rat.zero_divInt]
  exact e _ _ (by omega)
theorem sym3_1_0 (c0 c1 c2 c3 c4 c5 c6 c7 : Int) (h : alikeTo [c0, c1, c2, c3, c4, c5, c6, c7] 1 0 8 = true) : (shapL [c0, c1, c2, c3, c4, c5, c6, c7] 3).getD 1 0 = (shapL [c0, c1, c2, c3, c4, c5, c6, c7] 3).getD 0 0 := by
  have h : c2 = c1 ∧ c6 = c5 := by
    simpa [alikeTo, alikeAt, List.range_succ, Nat.testBit_eq_decide_div_mod_eq] using h
  unfold shapL
  rw [sums3, F3]
  simp only [List.map_cons, List.map_nil, List.getD_cons_zero, List.getD_cons_succ]
  have e : ∀ (s t F : Int), s = t → Rat.divInt s F = Rat.divInt t F := fun s t F h => by rw [h]
  exact e _ _ _ (by omega)
theorem sym3_2_0 (c0 c1 c2 c3 c4 c5 c6 c7 : Int) (h : alikeTo [c0, c1, c2, c3, c4, c5, c6, c7] 2 0 8 = true) : (shapL [c0, c1, c2, c3, c4, c5, c6, c7] 3).getD 2 0 = (shapL [c0, c1, c2, c3, c4, c5, c6, c7] 3).getD 0 0 := by
  have h : c4 = c1 ∧ c6 = c3 := by
    simpa [alikeTo, alikeAt, List.range_succ, Nat.testBit_eq_decide_div_mod_eq] using h
  unfold shapL
  rw [sums3, F3]
  simp only [List.map_cons, List.map_nil, List.getD_cons_zero, List.getD_cons_succ]
  have e : ∀ (s t F : Int), s = t → Rat.divInt s F = Rat.divInt t F := fun s t F h => by rw [h]
  exact e _ _ _ (by omega)
theorem sym3_2_1 (c0 c1 c2 c3 c4 c5 c6 c7 : Int) (h : alikeTo [c0, c1, c2, c3, c4, c5, c6, c7] 2 1 8 = true) : (shapL [c0, c1, c2, c3, c4, c5, c6, c7] 3).getD 2 0 = (shapL [c0, c1, c2, c3, c4, c5, c6, c7] 3).getD 1 0 := by
  have h : c4 = c2 ∧ c5 = c3 := by
    simpa [alikeTo, alikeAt, List.range_succ, Nat.testBit_eq_decide_div_mod_eq] using h
  unfold shapL
  rw [sums3, F3]
  simp only [List.map_cons, List.map_nil, List.getD_cons_zero, List.getD_cons_succ]
  have e : ∀ (s t F : Int), s = t → Rat.divInt s F = Rat.divInt t F := fun s t F h => by rw [h]
  exact e _ _ _ (by omega)
theorem null4_0 (c0 c1 c2 c3 c4 c5 c6 c7 c8 c9 c10 c11 c12 c13 c14 c15 : Int) (h : raisesTo [c0, c1, c2, c3, c4, c5, c6, c7, c8, c9, c10, c11, c12, c13, c14, c15] 0 16 = false) : (shapL [c0, c1, c2, c3, c4, c5, c6, c7, c8, c9, c10, c11, c12, c13, c14, c15] 4).getD 0 0 = 0 := by
  have h : c1 = c0 ∧ c3 = c2 ∧ c5 = c4 ∧ c7 = c6 ∧ c9 = c8 ∧ c11 = c10 ∧ c13 = c12 ∧ c15 = c14 := by
    simpa [raisesTo, List.range_succ] using h
  unfold shapL
  rw [sums4, F4]
  simp only [List.map_cons, List.map_nil, List.getD_cons_zero]
  have e : ∀ (s F : Int), s = 0 → Rat.divInt s F = 0 := fun s F h => by rw [h, Rat.zero_divInt]
  exact e _ _ (by omega)
theorem null4_1 (c0 c1 c2 c3 c4 c5 c6 c7 c8 c9 c10 c11 c12 c13 c14 c15 : Int) (h : raisesTo [c0, c1, c2, c3, c4, c5, c6, c7, c8, c9, c10, c11, c12, c13, c14, c15] 1 16 = false) : (shapL [c0, c1, c2, c3, c4, c5, c6, c7, c8, c9, c10, c11, c12, c13, c14, c15] 4).getD 1 0 = 0 := by
  have h : c2 = c0 ∧ c3 = c1 ∧ c6 = c4 ∧ c7 = c5 ∧ c10 = c8 ∧ c11 = c9 ∧ c14 = c12 ∧ c15 = c13 := by
    simpa [raisesTo, List.range_succ] using h
  unfold shapL
  rw [sums4, F4]
  simp only [List.map_cons, List.map_nil, List.getD_cons_zero, List.getD_cons_succ]
  have e : ∀ (s F : Int), s = 0 → Rat.divInt s F = 0 := fun s F h => by rw [h, Rat.zero_divInt]
  exact e _ _ (by omega)
theorem null4_2 (c0 c1 c2 c3 c4 c5 c6 c7 c8 c9 c10 c11 c12 c13 c14 c15 : Int) (h : raisesTo [c0, c1, c2, c3, c4, c5, c6, c7, c8, c9, c10, c11, c12, c13, c14, c15] 2 16 = false) : (shapL [c0, c1, c2, c3, c4, c5, c6, c7, c8, c9, c10, c11, c12, c13, c14, c15] 4).getD 2 0 = 0 := by
  have h : c4 = c0 ∧ c5 = c1 ∧ c6 = c2 ∧ c7 = c3 ∧ c12 = c8 ∧ c13 = c9 ∧ c14 = c10 ∧ c15 = c11 := by
    simpa [raisesTo, List.range_succ] using h
  unfold shapL
  rw [sums4, F4]
  simp only [List.map_cons, List.map_nil, List.getD_cons_zero, List.getD_cons_succ]
  have e : ∀ (s F : Int), s = 0 → Rat.divInt s F = 0 := fun s F h => by rw [h, Rat.zero_divInt]
  exact e _ _ (by omega)
theorem null4_3 (c0 c1 c2 c3 c4 c5 c6 c7 c8 c9 c10 c11 c12 c13 c14 c15 : Int) (h : raisesTo [c0, c1, c2, c3, c4, c5, c6, c7, c8, c9, c10, c11, c12, c13, c14, c15] 3 16 = false) : (shapL [c0, c1, c2, c3, c4, c5, c6, c7, c8, c9, c10, c11, c12, c13, c14, c15] 4).getD 3 0 = 0 := by
  have h : c8 = c0 ∧ c9 = c1 ∧ c10 = c2 ∧ c11 = c3 ∧ c12 = c4 ∧ c13 = c5 ∧ c14 = c6 ∧ c15 = c7 := by
    simpa [raisesTo, List.range_succ] using h
  unfold shapL
  rw [sums4, F4]
  simp only [List.map_cons, List.map_nil, List.getD_cons_zero, List.getD_cons_succ]
  have e : ∀ (s F : Int), s = 0 → Rat.divInt s F = 0 := fun s F h => by rw [h, Rat.zero_divInt]
  exact e _ _ (by omega)
theorem sym4_1_0 (c0 c1 c2 c3 c4 c5 c6 c7 c8 c9 c10 c11 c12 c13 c14 c15 : Int) (h : alikeTo [c0, c1, c2, c3, c4, c5, c6, c7, c8, c9, c10, c11, c12, c13, c14, c15] 1 0 16 = true) : (shapL [c0, c1, c2, c3, c4, c5, c6, c7, c8, c9, c10, c11, c12, c13, c14, c15] 4).getD 1 0 = (shapL [c0, c1, c2, c3, c4, c5, c6, c7, c8, c9, c10, c11, c12, c13, c14, c15] 4).getD 0 0 := by
  have h : c2 = c1 ∧ c6 = c5 ∧ c10 = c9 ∧ c14 = c13 := by
    simpa [alikeTo, alikeAt, List.range_succ, Nat.testBit_eq_decide_div_mod_eq] using h
  unfold shapL
  rw [sums4, F4]
  simp only [List.map_cons, List.map_nil, List.getD_cons_zero, List.getD_cons_succ]
  have e : ∀ (s t F : Int), s = t → Rat.divInt s F = Rat.divInt t F := fun s t F h => by rw [h]
  exact e _ _ _ (by omega)
theorem sym4_2_0 (c0 c1 c2 c3 c4 c5 c6 c7 c8 c9 c10 c11 c12 c13 c14 c15 : Int) (h : alikeTo [c0, c1, c2, c3, c4, c5, c6, c7, c8, c9, c10, c11, c12, c13, c14, c15] 2 0 16 = true) : (shapL [c0, c1, c2, c3, c4, c5, c6, c7, c8, c9, c10, c11, c12, c13, c14, c15] 4).getD 2 0 = (shapL [c0, c1, c2, c3, c4, c5, c6, c7, c8, c9, c10, c11, c12, c13, c14, c15] 4).getD 0 0 := by
  have h : c4 = c1 ∧ c6 = c3 ∧ c12 = c9 ∧ c14 = c11 := by
    simpa [alikeTo, alikeAt, List.range_succ, Nat.testBit_eq_decide_div_mod_eq] using h
  unfold shapL
  rw [sums4, F4]
  simp only [List.map_cons, List.map_nil, List.getD_cons_zero, List.getD_cons_succ]
  have e : ∀ (s t F : Int), s = t → Rat.divInt s F = Rat.divInt t F := fun s t F h => by rw [h]
  exact e _ _ _ (by omega)
theorem sym4_2_1 (c0 c1 c2 c3 c4 c5 c6 c7 c8 c9 c10 c11 c12 c13 c14 c15 : Int) (h : alikeTo [c0, c1, c2, c3, c4, c5, c6, c7, c8, c9, c10, c11, c12, c13, c14, c15] 2 1 16 = true) : (shapL [c0, c1, c2, c3, c4, c5, c6, c7, c8, c9, c10, c11, c12, c13, c14, c15] 4).getD 2 0 = (shapL [c0, c1, c2, c3, c4, c5, c6, c7, c8, c9, c10, c11, c12, c13, c14, c15] 4).getD 1 0 := by
  have h : c4 = c2 ∧ c5 = c3 ∧ c12 = c10 ∧ c13 = c11 := by
    simpa [alikeTo, alikeAt, List.range_succ, Nat.testBit_eq_decide_div_mod_eq] using h
  unfold shapL
  rw [sums4, F4]
  simp only [List.map_cons, List.map_nil, List.getD_cons_zero, List.getD_cons_succ]
  have e : ∀ (s t F : Int), s = t → Rat.divInt s F = Rat.divInt t F := fun s t F h => by rw [h]
  exact e _ _ _ (by omega)
theorem sym4_3_0 (c0 c1 c2 c3 c4 c5 c6 c7 c8 c9 c10 c11 c12 c13 c14 c15 : Int) (h : alikeTo [c0, c1, c2, c3, c4, c5, c6, c7, c8, c9, c10, c11, c12, c13, c14, c15] 3 0 16 = true) : (shapL [c0, c1, c2, c3, c4, c5, c6, c7, c8, c9, c10, c11, c12, c13, c14, c15] 4).getD 3 0 = (shapL [c0, c1, c2, c3, c4, c5, c6, c7, c8, c9, c10, c11, c12, c13, c14, c15] 4).getD 0 0 := by
  have h : c8 = c1 ∧ c10 = c3 ∧ c12 = c5 ∧ c14 = c7 := by
    simpa [alikeTo, alikeAt, List.range_succ, Nat.testBit_eq_decide_div_mod_eq] using h
  unfold shapL
  rw [sums4, F4]
  simp only [List.map_cons, List.map_nil, List.getD_cons_zero, List.getD_cons_succ]
  have e : ∀ (s t F : Int), s = t → Rat.divInt s F = Rat.divInt t F := fun s t F h => by rw [h]
  exact e _ _ _ (by omega)
theorem sym4_3_1 (c0 c1 c2 c3 c4 c5 c6 c7 c8 c9 c10 c11 c12 c13 c14 c15 : Int) (h : alikeTo [c0, c1, c2, c3, c4, c5, c6, c7, c8, c9, c10, c11, c12, c13, c14, c15] 3 1 16 = true) : (shapL [c0, c1, c2, c3, c4, c5, c6, c7, c8, c9, c10, c11, c12, c13, c14, c15] 4).getD 3 0 = (shapL [c0, c1, c2, c3, c4, c5, c6, c7, c8, c9, c10, c11, c12, c13, c14, c15] 4).getD 1 0 := by
  have h : c8 = c2 ∧ c9 = c3 ∧ c12 = c6 ∧ c13 = c7 := by
    simpa [alikeTo, alikeAt, List.range_succ, Nat.testBit_eq_decide_div_mod_eq] using h
  unfold shapL
  rw [sums4, F4]
  simp only [List.map_cons, List.map_nil, List.getD_cons_zero, List.getD_cons_succ]
  have e : ∀ (s t F : Int), s = t → Rat.divInt s F = Rat.divInt t F := fun s t F h => by rw [h]
  exact e _ _ _ (by omega)
theorem sym4_3_2 (c0 c1 c2 c3 c4 c5 c6 c7 c8 c9 c10 c11 c12 c13 c14 c15 : Int) (h : alikeTo [c0, c1, c2, c3, c4, c5, c6, c7, c8, c9, c10, c11, c12, c13, c14, c15] 3 2 16 = true) : (shapL [c0, c1, c2, c3, c4, c5, c6, c7, c8, c9, c10, c11, c12, c13, c14, c15] 4).getD 3 0 = (shapL [c0, c1, c2, c3, c4, c5, c6, c7, c8, c9, c10, c11, c12, c13, c14, c15] 4).getD 2 0 := by
  have h : c8 = c4 ∧ c9 = c5 ∧ c10 = c6 ∧ c11 = c7 := by
    simpa [alikeTo, alikeAt, List.range_succ, Nat.testBit_eq_decide_div_mod_eq] using h
  unfold shapL
  rw [sums4, F4]
  simp only [List.map_cons, List.map_nil, List.getD_cons_zero, List.getD_cons_succ]
  have e : ∀ (s t F : Int), s = t → Rat.divInt s F = Rat.divInt t F := fun s t F h => by rw [h]
  exact e _ _ _ (by omega)

theorem shap_null {c : List Int} {n i : Nat} (hn : 1 ≤ n ∧ n ≤ 4) (hi : i < n) (hl : c.length = 2 ^ n) (h : raisesTo c i (2 ^ n) = false) : (shapL c n).getD i 0 = 0 := by
  match n, hn with
  | 1, _ =>
    obtain ⟨c0, c1, rfl⟩ := list2 c hl
    match i, hi with
    | 0, _ => exact null1_0 _ _ h
  | 2, _ =>
    obtain ⟨c0, c1, c2, c3, rfl⟩ := list4 c hl
    match i, hi with
    | 0, _ => exact null2_0 _ _ _ _ h
    | 1, _ => exact null2_1 _ _ _ _ h
  | 3, _ =>
    obtain ⟨c0, c1, c2, c3, c4, c5, c6, c7, rfl⟩ := list8 c hl
    match i, hi with
    | 0, _ => exact null3_0 _ _ _ _ _ _ _ _ h
    | 1, _ => exact null3_1 _ _ _ _ _ _ _ _ h
    | 2, _ => exact null3_2 _ _ _ _ _ _ _ _ h
  | 4, _ =>
    obtain ⟨c0, c1, c2, c3, c4, c5, c6, c7, c8, c9, c10, c11, c12, c13, c14, c15, rfl⟩ := list16 c hl
    match i, hi with
    | 0, _ => exact null4_0 _ _ _ _ _ _ _ _ _ _ _ _ _ _ _ _ h
    | 1, _ => exact null4_1 _ _ _ _ _ _ _ _ _ _ _ _ _ _ _ _ h
    | 2, _ => exact null4_2 _ _ _ _ _ _ _ _ _ _ _ _ _ _ _ _ h
    | 3, _ => exact null4_3 _ _ _ _ _ _ _ _ _ _ _ _ _ _ _ _ h
theorem shap_sym {c : List Int} {n i j : Nat} (hn : 1 ≤ n ∧ n ≤ 4) (hi : i < n) (hj : j < i) (hl : c.length = 2 ^ n) (h : alikeTo c i j (2 ^ n) = true) : (shapL c n).getD i 0 = (shapL c n).getD j 0 := by
  match n, hn with
  | 1, _ =>
    obtain ⟨c0, c1, rfl⟩ := list2 c hl
    match i, j, hi, hj with
    | 0, j, _, hj => omega
  | 2, _ =>
    obtain ⟨c0, c1, c2, c3, rfl⟩ := list4 c hl
    match i, j, hi, hj with
    | 1, 0, _, _ => exact sym2_1_0 _ _ _ _ h
  | 3, _ =>
    obtain ⟨c0, c1, c2, c3, c4, c5, c6, c7, rfl⟩ := list8 c hl
    match i, j, hi, hj with
    | 1, 0, _, _ => exact sym3_1_0 _ _ _ _ _ _ _ _ h
    | 2, 0, _, _ => exact sym3_2_0 _ _ _ _ _ _ _ _ h
    | 2, 1, _, _ => exact sym3_2_1 _ _ _ _ _ _ _ _ h
  | 4, _ =>
    obtain ⟨c0, c1, c2, c3, c4, c5, c6, c7, c8, c9, c10, c11, c12, c13, c14, c15, rfl⟩ := list16 c hl
    match i, j, hi, hj with
    | 1, 0, _, _ => exact sym4_1_0 _ _ _ _ _ _ _ _ _ _ _ _ _ _ _ _ h
    | 2, 0, _, _ => exact sym4_2_0 _ _ _ _ _ _ _ _ _ _ _ _ _ _ _ _ h
    | 2, 1, _, _ => exact sym4_2_1 _ _ _ _ _ _ _ _ _ _ _ _ _ _ _ _ h
    | 3, 0, _, _ => exact sym4_3_0 _ _ _ _ _ _ _ _ _ _ _ _ _ _ _ _ h
    | 3, 1, _, _ => exact sym4_3_1 _ _ _ _ _ _ _ _ _ _ _ _ _ _ _ _ h
    | 3, 2, _, _ => exact sym4_3_2 _ _ _ _ _ _ _ _ _ _ _ _ _ _ _ _ h

set_option maxHeartbeats 4000000 in
/-- The sums add. -/
theorem sums_add {c d e : List Int} {n : Nat} (hn : 1 ≤ n ∧ n ≤ 4) (hc : c.length = 2 ^ n) (hd : d.length = 2 ^ n) (he : e.length = 2 ^ n) (h : ∀ i, i < 2 ^ n → e.getD i 0 = c.getD i 0 + d.getD i 0) :
    ∀ i, i < n → (shapL e n).getD i 0 = (shapL c n).getD i 0 + (shapL d n).getD i 0 := by
  have key : ∀ (s t u F : Int), u = s + t → Rat.divInt u F = Rat.divInt s F + Rat.divInt t F := fun s t u F h => by rw [add_same, h]
  match n, hn with
  | 1, _ =>
    obtain ⟨c0, c1, rfl⟩ := list2 c hc
    obtain ⟨d0, d1, rfl⟩ := list2 d hd
    obtain ⟨e0, e1, rfl⟩ := list2 e he
    have hh : e0 = c0 + d0 ∧ e1 = c1 + d1 := ⟨h 0 (by decide), h 1 (by decide)⟩
    clear h hc hd he
    unfold shapL
    rw [sums1, sums1, sums1, F1]
    intro i hi
    match i, hi with
    | 0, _ =>
      simp only [List.map_cons, List.map_nil, List.getD_cons_zero]
      exact key _ _ _ _ (by omega)
  | 2, _ =>
    obtain ⟨c0, c1, c2, c3, rfl⟩ := list4 c hc
    obtain ⟨d0, d1, d2, d3, rfl⟩ := list4 d hd
    obtain ⟨e0, e1, e2, e3, rfl⟩ := list4 e he
    have hh : e0 = c0 + d0 ∧ e1 = c1 + d1 ∧ e2 = c2 + d2 ∧ e3 = c3 + d3 := ⟨h 0 (by decide), h 1 (by decide), h 2 (by decide), h 3 (by decide)⟩
    clear h hc hd he
    unfold shapL
    rw [sums2, sums2, sums2, F2]
    intro i hi
    match i, hi with
    | 0, _ =>
      simp only [List.map_cons, List.map_nil, List.getD_cons_zero]
      exact key _ _ _ _ (by omega)
    | 1, _ =>
      simp only [List.map_cons, List.map_nil, List.getD_cons_zero, List.getD_cons_succ]
      exact key _ _ _ _ (by omega)
  | 3, _ =>
    obtain ⟨c0, c1, c2, c3, c4, c5, c6, c7, rfl⟩ := list8 c hc
    obtain ⟨d0, d1, d2, d3, d4, d5, d6, d7, rfl⟩ := list8 d hd
    obtain ⟨e0, e1, e2, e3, e4, e5, e6, e7, rfl⟩ := list8 e he
    have hh : e0 = c0 + d0 ∧ e1 = c1 + d1 ∧ e2 = c2 + d2 ∧ e3 = c3 + d3 ∧ e4 = c4 + d4 ∧ e5 = c5 + d5 ∧ e6 = c6 + d6 ∧ e7 = c7 + d7 := ⟨h 0 (by decide), h 1 (by decide), h 2 (by decide), h 3 (by decide), h 4 (by decide), h 5 (by decide), h 6 (by decide), h 7 (by decide)⟩
    clear h hc hd he
    unfold shapL
    rw [sums3, sums3, sums3, F3]
    intro i hi
    match i, hi with
    | 0, _ =>
      simp only [List.map_cons, List.map_nil, List.getD_cons_zero]
      exact key _ _ _ _ (by omega)
    | 1, _ =>
      simp only [List.map_cons, List.map_nil, List.getD_cons_zero, List.getD_cons_succ]
      exact key _ _ _ _ (by omega)
    | 2, _ =>
      simp only [List.map_cons, List.map_nil, List.getD_cons_zero, List.getD_cons_succ]
      exact key _ _ _ _ (by omega)
  | 4, _ =>
    obtain ⟨c0, c1, c2, c3, c4, c5, c6, c7, c8, c9, c10, c11, c12, c13, c14, c15, rfl⟩ := list16 c hc
    obtain ⟨d0, d1, d2, d3, d4, d5, d6, d7, d8, d9, d10, d11, d12, d13, d14, d15, rfl⟩ := list16 d hd
    obtain ⟨e0, e1, e2, e3, e4, e5, e6, e7, e8, e9, e10, e11, e12, e13, e14, e15, rfl⟩ := list16 e he
    have hh : e0 = c0 + d0 ∧ e1 = c1 + d1 ∧ e2 = c2 + d2 ∧ e3 = c3 + d3 ∧ e4 = c4 + d4 ∧ e5 = c5 + d5 ∧ e6 = c6 + d6 ∧ e7 = c7 + d7 ∧ e8 = c8 + d8 ∧ e9 = c9 + d9 ∧ e10 = c10 + d10 ∧ e11 = c11 + d11 ∧ e12 = c12 + d12 ∧ e13 = c13 + d13 ∧ e14 = c14 + d14 ∧ e15 = c15 + d15 := ⟨h 0 (by decide), h 1 (by decide), h 2 (by decide), h 3 (by decide), h 4 (by decide), h 5 (by decide), h 6 (by decide), h 7 (by decide), h 8 (by decide), h 9 (by decide), h 10 (by decide), h 11 (by decide), h 12 (by decide), h 13 (by decide), h 14 (by decide), h 15 (by decide)⟩
    clear h hc hd he
    unfold shapL
    rw [sums4, sums4, sums4, F4]
    intro i hi
    match i, hi with
    | 0, _ =>
      simp only [List.map_cons, List.map_nil, List.getD_cons_zero]
      exact key _ _ _ _ (by omega)
    | 1, _ =>
      simp only [List.map_cons, List.map_nil, List.getD_cons_zero, List.getD_cons_succ]
      exact key _ _ _ _ (by omega)
    | 2, _ =>
      simp only [List.map_cons, List.map_nil, List.getD_cons_zero, List.getD_cons_succ]
      exact key _ _ _ _ (by omega)
    | 3, _ =>
      simp only [List.map_cons, List.map_nil, List.getD_cons_zero, List.getD_cons_succ]
      exact key _ _ _ _ (by omega)

/-- The sums of two games, wrapped, of the first k sets. -/
def sumTo (c d : List Int) (k : Nat) : List Int := (List.range k).map fun i => IntKind.i64.wrap (c.getD i 0 + d.getD i 0)
theorem sumTo_length (c d : List Int) (k : Nat) : (sumTo c d k).length = k := by simp [sumTo]
theorem sumTo_succ {c d : List Int} {k : Nat} {x y : Int} (hx : c[k]? = some x) (hy : d[k]? = some y) : sumTo c d (k + 1) = sumTo c d k ++ [IntKind.i64.wrap (x + y)] := by
  simp [sumTo, List.range_succ, List.getD_eq_getElem?_getD, hx, hy]
theorem sumTo_get {c d : List Int} {k i : Nat} (h : i < k) : (sumTo c d k).getD i 0 = IntKind.i64.wrap (c.getD i 0 + d.getD i 0) := by
  rw [List.getD_eq_getElem?_getD]
  simp [sumTo, h]
theorem plr_len {a b : List Int} (ha : valC a = true) (hb : valC b = true) (h : a.length = b.length) : plr a = plr b := by
  unfold plr
  rw [if_pos ha, if_pos hb, h]
theorem shap_add {c d : List Int} {n N : Nat} (hn : 1 ≤ n ∧ n ≤ 4) (hN : N = 2 ^ n) (hc : c.length = N) (hd : d.length = N) (hvc : valC c = true) (hvd : valC d = true) :
    ∀ i, i < n → (shapL (sumTo c d N) n).getD i 0 = (shapL c n).getD i 0 + (shapL d n).getD i 0 := by
  refine sums_add hn (by rw [hc, hN]) (by rw [hd, hN]) (by rw [sumTo_length, hN]) fun i hi => ?_
  rw [sumTo_get (by rw [hN]; exact hi)]
  have h1 := costs_get (valC_iff.1 hvc).2.2 i
  have h2 := costs_get (valC_iff.1 hvd).2.2 i
  exact IntWalk.i64_in _ (by omega)

/- All costs multiplied by a number: plain Lean. -/

def timesL (c : List Int) (k : Nat) : List Int := c.map (· * (k : Int))
theorem timesL_length (c : List Int) (k : Nat) : (timesL c k).length = c.length := by simp [timesL]
theorem timesL_get (c : List Int) (k i : Nat) : (timesL c k).getD i 0 = c.getD i 0 * (k : Int) := by
  unfold timesL
  rw [List.getD_eq_getElem?_getD, List.getElem?_map, List.getD_eq_getElem?_getD]
  cases c[i]? <;> simp
theorem shap_times {c : List Int} {n : Nat} (hn : 1 ≤ n ∧ n ≤ 4) (hc : c.length = 2 ^ n) : ∀ k, ∀ i, i < n → (shapL (timesL c (k + 1)) n).getD i 0 = (shapL c n).getD i 0 * (((k + 1 : Nat) : Int) : Rat) := by
  intro k
  induction k with
  | zero =>
    intro i _
    have e : timesL c 1 = c := by unfold timesL; simp
    rw [e]
    have : (((0 + 1 : Nat) : Int) : Rat) = 1 := rfl
    rw [this]; grind
  | succ k ih =>
    intro i hi
    rw [sums_add (c := timesL c (k + 1)) (d := c) hn (by rw [timesL_length]; exact hc) hc (by rw [timesL_length]; exact hc) (fun s _ => by
      rw [timesL_get, timesL_get, show ((k + 1 + 1 : Nat) : Int) = ((k + 1 : Nat) : Int) + 1 from by omega, Int.mul_add, Int.mul_one]) i hi, ih i hi]
    rw [show ((k + 1 + 1 : Nat) : Int) = ((k + 1 : Nat) : Int) + 1 from by omega, Rat.intCast_add]
    have : ((1 : Int) : Rat) = 1 := rfl
    rw [this]; grind
theorem dot_scale (n : Nat) (t : Rat) (d : Nat → Rat) (s : Nat) : dotS n (fun i => t * d i) s = t * dotS n d s := by
  unfold dotS
  rw [← sumQ_mul]
  exact sumQ_congr fun i _ => by grind
theorem cq_times (c : List Int) (k s : Nat) : cq (timesL c k) s = ((k : Int) : Rat) * cq c s := by
  unfold cq
  rw [timesL_get, Rat.intCast_mul, Rat.mul_comm]
theorem times_in {c : List Int} {n k : Nat} (hk : 1 ≤ k) : (∃ x, InC (timesL c k) n x) ↔ ∃ x, InC c n x := by
  have hk0 : (0 : Rat) < ((k : Int) : Rat) := (Rat.intCast_lt_intCast (a := 0) (b := (k : Int))).2 (by omega)
  have hki : ((k : Int) : Rat)⁻¹ * ((k : Int) : Rat) = 1 := by
    rw [Rat.mul_comm]; exact Rat.mul_inv_cancel _ (by grind)
  have hi0 := Rat.le_of_lt (Rat.inv_pos.2 hk0)
  constructor
  · rintro ⟨x, h1, h2⟩
    refine ⟨fun i => ((k : Int) : Rat)⁻¹ * x i, ?_, fun s hs => ?_⟩
    · rw [dot_scale, h1, cq_times, ← Rat.mul_assoc, hki, Rat.one_mul]
    · have h3 := Rat.mul_le_mul_of_nonneg_left (h2 s hs) hi0
      rw [cq_times, ← Rat.mul_assoc, hki, Rat.one_mul] at h3
      rw [dot_scale]; exact h3
  · rintro ⟨x, h1, h2⟩
    refine ⟨fun i => ((k : Int) : Rat) * x i, ?_, fun s hs => ?_⟩
    · rw [dot_scale, h1, cq_times]
    · rw [dot_scale, cq_times]
      exact Rat.mul_le_mul_of_nonneg_left (h2 s hs) (Rat.le_of_lt hk0)
theorem bool_of_iff {a b : Bool} (h : a = true ↔ b = true) : a = b := by cases a <;> cases b <;> simp_all
theorem times_core {c : List Int} {k : Nat} (hk : 1 ≤ k) (hv : valC c = true) (hv2 : valC (timesL c k) = true) : coE (timesL c k) = coE c := by
  have hpl : plr (timesL c k) = plr c := plr_len hv2 hv (timesL_length c k)
  have e : (coreF (timesL c k)).isSome = (coreF c).isSome := bool_of_iff (by
    rw [core_iff hv2, core_iff hv, hpl]; exact times_in hk)
  unfold coE
  rw [hv, hv2, e]
theorem times_conc {c : List Int} {k : Nat} (hk : 1 ≤ k) (hv : valC c = true) (hv2 : valC (timesL c k) = true) : concA (timesL c k) = concA c := by
  have e : ∀ a b, badB (timesL c k) a b = badB c a b := by
    intro a b
    unfold badB
    rw [timesL_get, timesL_get, timesL_get, timesL_get, ← Int.add_mul, ← Int.add_mul, decide_eq_decide]
    exact Int.mul_lt_mul_right (by omega)
  unfold concA concL
  rw [hv, hv2, timesL_length]
  simp only [e]
/-- The costs while they are multiplied. -/
def timesTo (c : List Int) (k j : Nat) : List Int := (c.take j).map (· * (k : Int)) ++ c.drop j
theorem timesTo_length (c : List Int) (k j : Nat) : (timesTo c k j).length = c.length := by simp [timesTo]; omega
theorem timesTo_get {c : List Int} {k j : Nat} {x : Int} (h : c[j]? = some x) : (timesTo c k j)[j]? = some x := by
  have hj : j < c.length := List.getElem?_eq_some_iff.1 h |>.1
  unfold timesTo
  rw [List.getElem?_append_right (by simp; omega)]
  simp only [List.length_map, List.length_take]
  rw [show min j c.length = j from by omega, Nat.sub_self, List.getElem?_drop, Nat.add_zero, h]
theorem timesTo_succ {c : List Int} {k j : Nat} {x : Int} (h : c[j]? = some x) : (timesTo c k j).set j (x * (k : Int)) = timesTo c k (j + 1) := by
  have hj : j < c.length := List.getElem?_eq_some_iff.1 h |>.1
  apply List.ext_getElem?
  intro i
  rw [List.getElem?_set]
  unfold timesTo
  by_cases e : j = i
  · subst e
    rw [if_pos rfl, if_pos (by simp; omega), List.getElem?_append_left (by simp; omega), List.getElem?_map, List.getElem?_take, if_pos (by omega), h]
    rfl
  · rw [if_neg e]
    by_cases e2 : i < j
    · rw [List.getElem?_append_left (by simp; omega), List.getElem?_append_left (by simp; omega), List.getElem?_map, List.getElem?_map, List.getElem?_take, List.getElem?_take, if_pos e2, if_pos (by omega)]
    · rw [List.getElem?_append_right (by simp; omega), List.getElem?_append_right (by simp; omega)]
      simp only [List.length_map, List.length_take, List.getElem?_drop]
      congr 1
      omega
theorem timesTo_zero (c : List Int) (k : Nat) : timesTo c k 0 = c := by simp [timesTo]
theorem timesTo_all (c : List Int) (k : Nat) : timesTo c k c.length = timesL c k := by simp [timesTo, timesL]

/- A cost of one player's own, added to those of all sets: plain Lean. -/

/-- The costs that only player i makes. -/
def ownL (n i : Nat) (v : Int) : List Int := (List.range (2 ^ n)).map fun s => if s.testBit i then v else 0
theorem ownL_get {n i s : Nat} (v : Int) (hs : s < 2 ^ n) : (ownL n i v).getD s 0 = if s.testBit i then v else 0 := by
  unfold ownL
  rw [List.getD_eq_getElem?_getD, List.getElem?_map, List.getElem?_range hs]
  rfl
theorem own_sums (n i : Nat) (v : Int) (hn : 1 ≤ n ∧ n ≤ 4) (hi : i < n) : sumsL (ownL n i v) n = (List.range n).map fun j => if j = i then (((ext n n []).length : Nat) : Int) * v else 0 := by
  have : n = 1 ∧ i = 0 ∨ n = 2 ∧ (i = 0 ∨ i = 1) ∨ n = 3 ∧ (i = 0 ∨ i = 1 ∨ i = 2) ∨ n = 4 ∧ (i = 0 ∨ i = 1 ∨ i = 2 ∨ i = 3) := by omega
  rcases this with ⟨rfl, rfl⟩ | ⟨rfl, rfl | rfl⟩ | ⟨rfl, rfl | rfl | rfl⟩ | ⟨rfl, rfl | rfl | rfl | rfl⟩
  · rw [show ownL 1 0 v = [0, v] from rfl, sums1, F1]; simp [List.range_succ]
  · rw [show ownL 2 0 v = [0, v, 0, v] from rfl, sums2, F2]; simp [List.range_succ]; omega
  · rw [show ownL 2 1 v = [0, 0, v, v] from rfl, sums2, F2]; simp [List.range_succ]; omega
  · rw [show ownL 3 0 v = [0, v, 0, v, 0, v, 0, v] from rfl, sums3, F3]; simp [List.range_succ]; omega
  · rw [show ownL 3 1 v = [0, 0, v, v, 0, 0, v, v] from rfl, sums3, F3]; simp [List.range_succ]; omega
  · rw [show ownL 3 2 v = [0, 0, 0, 0, v, v, v, v] from rfl, sums3, F3]; simp [List.range_succ]; omega
  · rw [show ownL 4 0 v = [0, v, 0, v, 0, v, 0, v, 0, v, 0, v, 0, v, 0, v] from rfl, sums4, F4]; simp [List.range_succ]; omega
  · rw [show ownL 4 1 v = [0, 0, v, v, 0, 0, v, v, 0, 0, v, v, 0, 0, v, v] from rfl, sums4, F4]; simp [List.range_succ]; omega
  · rw [show ownL 4 2 v = [0, 0, 0, 0, v, v, v, v, 0, 0, 0, 0, v, v, v, v] from rfl, sums4, F4]; simp [List.range_succ]; omega
  · rw [show ownL 4 3 v = [0, 0, 0, 0, 0, 0, 0, 0, v, v, v, v, v, v, v, v] from rfl, sums4, F4]; simp [List.range_succ]; omega
/-- The costs with player i's own added, for the sets up to k. -/
def partTo (c : List Int) (i : Nat) (v : Int) (k : Nat) : List Int := (List.range c.length).map fun s => c.getD s 0 + if decide (s < k) && s.testBit i then v else 0
def addOne (c : List Int) (i : Nat) (v : Int) : List Int := partTo c i v c.length
def plusTo (c : List Int) (own : Nat → Int) : Nat → List Int
  | 0 => c
  | i + 1 => addOne (plusTo c own i) i (own i)
theorem partTo_length (c : List Int) (i : Nat) (v : Int) (k : Nat) : (partTo c i v k).length = c.length := by simp [partTo]
theorem partTo_at {c : List Int} {i s : Nat} {v : Int} {k : Nat} (h : s < c.length) : (partTo c i v k)[s]? = some (c.getD s 0 + if decide (s < k) && s.testBit i then v else 0) := by
  unfold partTo
  rw [List.getElem?_map, List.getElem?_range h]
  rfl
theorem partTo_zero (c : List Int) (i : Nat) (v : Int) : partTo c i v 0 = c := by
  apply List.ext_getElem?
  intro s
  by_cases h : s < c.length
  · rw [partTo_at h, List.getD_eq_getElem?_getD, List.getElem?_eq_getElem h]; simp
  · rw [List.getElem?_eq_none (by rw [partTo_length]; omega), List.getElem?_eq_none (by omega)]
theorem partTo_get {c : List Int} {i k : Nat} {v x : Int} (h : c[k]? = some x) : (partTo c i v k)[k]? = some x := by
  have hk := (List.getElem?_eq_some_iff.1 h).1
  rw [partTo_at hk, List.getD_eq_getElem?_getD, h]
  simp
theorem partTo_set {c : List Int} {i k : Nat} {v x : Int} (h : c[k]? = some x) (ht : k.testBit i = true) : (partTo c i v k).set k (x + v) = partTo c i v (k + 1) := by
  have hk := (List.getElem?_eq_some_iff.1 h).1
  apply List.ext_getElem?
  intro s
  rw [List.getElem?_set]
  by_cases e : k = s
  · subst e
    rw [if_pos rfl, if_pos (by rw [partTo_length]; exact hk), partTo_at hk, List.getD_eq_getElem?_getD, h, ht]
    simp
  · rw [if_neg e]
    by_cases hs : s < c.length
    · rw [partTo_at hs, partTo_at hs, show decide (s < k + 1) = decide (s < k) from by rw [decide_eq_decide]; omega]
    · rw [List.getElem?_eq_none (by rw [partTo_length]; omega), List.getElem?_eq_none (by rw [partTo_length]; omega)]
theorem partTo_skip {c : List Int} {i k : Nat} {v : Int} (ht : k.testBit i = false) : partTo c i v k = partTo c i v (k + 1) := by
  apply List.ext_getElem?
  intro s
  by_cases hs : s < c.length
  · rw [partTo_at hs, partTo_at hs]
    by_cases e : s = k
    · subst e; rw [ht]; simp
    · rw [show decide (s < k + 1) = decide (s < k) from by rw [decide_eq_decide]; omega]
  · rw [List.getElem?_eq_none (by rw [partTo_length]; omega), List.getElem?_eq_none (by rw [partTo_length]; omega)]
theorem addOne_length (c : List Int) (i : Nat) (v : Int) : (addOne c i v).length = c.length := partTo_length _ _ _ _
theorem addOne_get {c : List Int} {i s : Nat} {v : Int} (h : s < c.length) : (addOne c i v).getD s 0 = c.getD s 0 + if s.testBit i then v else 0 := by
  unfold addOne
  rw [List.getD_eq_getElem?_getD, partTo_at h, decide_eq_true h, Bool.true_and]
  rfl
theorem plusTo_length (c : List Int) (own : Nat → Int) (k : Nat) : (plusTo c own k).length = c.length := by
  induction k with
  | zero => rfl
  | succ k ih => rw [plusTo, addOne_length, ih]
/-- Shapley of the unit costs. -/
theorem own_shap {n i j : Nat} (v : Int) (hn : 1 ≤ n ∧ n ≤ 4) (hi : i < n) (hj : j < n) : (shapL (ownL n i v) n).getD j 0 = if j = i then (v : Rat) else 0 := by
  have hF := (ext_len hn.2).1
  have hFq : (((ext n n []).length : Int) : Rat) ≠ 0 := fun h => by
    have := (Rat.intCast_inj (a := ((ext n n []).length : Int)) (b := 0)).1 h
    omega
  unfold shapL
  rw [own_sums n i v hn hi, List.getD_eq_getElem?_getD, List.getElem?_map, List.getElem?_map, List.getElem?_range hj]
  simp only [Option.map_some, Option.getD_some]
  rw [Rat.divInt_eq_div]
  by_cases e : j = i
  · rw [if_pos e, if_pos e, Rat.intCast_mul]
    grind
  · rw [if_neg e, if_neg e]
    rw [Rat.div_def]
    exact Rat.zero_mul _
theorem shap_one {c : List Int} {n i j : Nat} {v : Int} (hn : 1 ≤ n ∧ n ≤ 4) (hc : c.length = 2 ^ n) (hi : i < n) (hj : j < n) : (shapL (addOne c i v) n).getD j 0 = (shapL c n).getD j 0 + if j = i then (v : Rat) else 0 := by
  rw [sums_add (c := c) (d := ownL n i v) hn hc (by simp [ownL]) (by rw [addOne_length]; exact hc) (fun s hs => by rw [addOne_get (by rw [hc]; exact hs), ownL_get v hs]) j hj, own_shap v hn hi hj]
theorem shap_plus {c : List Int} {n : Nat} {own : Nat → Int} (hn : 1 ≤ n ∧ n ≤ 4) (hc : c.length = 2 ^ n) : ∀ k, k ≤ n → ∀ j, j < n → (shapL (plusTo c own k) n).getD j 0 = (shapL c n).getD j 0 + if j < k then (own j : Rat) else 0 := by
  intro k
  induction k with
  | zero => intro _ j _; rw [plusTo, if_neg (by omega)]; exact (Rat.add_zero _).symm
  | succ k ih =>
    intro hk j hj
    rw [plusTo, shap_one hn (by rw [plusTo_length]; exact hc) (by omega) hj, ih (by omega) j hj]
    by_cases e : j = k
    · subst e
      rw [if_neg (by omega), if_pos rfl, if_pos (by omega)]; grind
    · rw [if_neg e]
      by_cases h2 : j < k
      · rw [if_pos h2, if_pos (by omega)]; grind
      · rw [if_neg h2, if_neg (by omega)]; grind
theorem dot_shift {n i s : Nat} (hi : i < n) (x : Nat → Rat) (v : Rat) : dotS n (fun j => x j + if j = i then v else 0) s = dotS n x s + bq s i * v := by
  have e : dotS n (fun j => x j + if j = i then v else 0) s = sumQ (fun j => bq s j * x j + if j = i then bq s i * v else 0) n := by
    refine sumQ_congr fun j _ => ?_
    by_cases h : j = i
    · subst h; simp only [if_true]; grind
    · simp only [if_neg h]; grind
  rw [e, sumQ_add, sumQ_one (f := fun j => if j = i then bq s i * v else 0) hi (fun j _ hne => by rw [if_neg hne]), if_pos rfl]
  rfl
theorem cq_one {c : List Int} {i s : Nat} {v : Int} (h : s < c.length) : cq (addOne c i v) s = cq c s + bq s i * (v : Rat) := by
  unfold cq
  rw [addOne_get h, Rat.intCast_add]
  congr 1
  unfold bq bitI
  cases s.testBit i
  · simp
  · simp
theorem in_one {c : List Int} {n i : Nat} {v : Int} (hc : c.length = 2 ^ n) (hi : i < n) : (∃ x, InC (addOne c i v) n x) ↔ ∃ x, InC c n x := by
  have hp := Nat.two_pow_pos n
  constructor
  · rintro ⟨x, h1, h2⟩
    refine ⟨fun j => x j + if j = i then -(v : Rat) else 0, ?_, fun s hs => ?_⟩
    · rw [dot_shift hi, h1, cq_one (by omega)]; grind
    · have := h2 s hs
      rw [cq_one (by omega)] at this
      rw [dot_shift hi]; grind
  · rintro ⟨x, h1, h2⟩
    refine ⟨fun j => x j + if j = i then (v : Rat) else 0, ?_, fun s hs => ?_⟩
    · rw [dot_shift hi, h1, cq_one (by omega)]
    · have := h2 s hs
      rw [cq_one (by omega), dot_shift hi]; grind
theorem in_plus {c : List Int} {n : Nat} {own : Nat → Int} (hc : c.length = 2 ^ n) : ∀ k, k ≤ n → ((∃ x, InC (plusTo c own k) n x) ↔ ∃ x, InC c n x) := by
  intro k
  induction k with
  | zero => intro _; exact Iff.rfl
  | succ k ih =>
    intro hk
    rw [plusTo, in_one (by rw [plusTo_length]; exact hc) (by omega)]
    exact ih (by omega)
theorem plus_core {c : List Int} {own : Nat → Int} (hv : valC c = true) (hv2 : valC (plusTo c own (plr c)) = true) : coE (plusTo c own (plr c)) = coE c := by
  have hpl : plr (plusTo c own (plr c)) = plr c := plr_len hv2 hv (plusTo_length _ _ _)
  have e : (coreF (plusTo c own (plr c))).isSome = (coreF c).isSome := bool_of_iff (by
    rw [core_iff hv2, core_iff hv, hpl]; exact in_plus (valC_pow hv).1 _ (Nat.le_refl _))
  unfold coE
  rw [hv, hv2, e]

/- The block of an array [4]int whose numbers are reduced one by one. -/

/-- int(uint(x) % 200). -/
def redu (x : Int) : Int := wrap64 ((IntKind.u64.wrap x).tmod 200)
theorem redu_bd (x : Int) : 0 ≤ redu x ∧ redu x < 200 := by
  obtain ⟨p, hp, e⟩ := idx_of x (k := 200) (by omega) (by omega)
  unfold redu
  rw [e]
  omega
def redTo (ow : List Int) (k : Nat) : List Int := (ow.take k).map redu ++ ow.drop k
theorem redTo_zero (ow : List Int) : redTo ow 0 = ow := by simp [redTo]
theorem redTo_length (ow : List Int) (k : Nat) : (redTo ow k).length = ow.length := by simp [redTo]; omega
theorem redTo_get {ow : List Int} {k : Nat} {x : Int} (h : ow[k]? = some x) : (redTo ow k)[k]? = some x := by
  have hj : k < ow.length := List.getElem?_eq_some_iff.1 h |>.1
  unfold redTo
  rw [List.getElem?_append_right (by simp; omega)]
  simp only [List.length_map, List.length_take]
  rw [show min k ow.length = k from by omega, Nat.sub_self, List.getElem?_drop, Nat.add_zero, h]
theorem redTo_done {ow : List Int} {k j : Nat} {x : Int} (h : ow[j]? = some x) (hj : j < k) : (redTo ow k)[j]? = some (redu x) := by
  have hl : j < ow.length := List.getElem?_eq_some_iff.1 h |>.1
  unfold redTo
  rw [List.getElem?_append_left (by simp; omega), List.getElem?_map, List.getElem?_take, if_pos hj, h]
  rfl
theorem redTo_set {ow : List Int} {k : Nat} {x : Int} (h : ow[k]? = some x) : (redTo ow k).set k (redu x) = redTo ow (k + 1) := by
  have hj : k < ow.length := List.getElem?_eq_some_iff.1 h |>.1
  apply List.ext_getElem?
  intro i
  rw [List.getElem?_set]
  unfold redTo
  by_cases e : k = i
  · subst e
    rw [if_pos rfl, if_pos (by simp; omega), List.getElem?_append_left (by simp; omega), List.getElem?_map, List.getElem?_take, if_pos (by omega), h]
    rfl
  · rw [if_neg e]
    by_cases e2 : i < k
    · rw [List.getElem?_append_left (by simp; omega), List.getElem?_append_left (by simp; omega), List.getElem?_map, List.getElem?_map, List.getElem?_take, List.getElem?_take, if_pos e2, if_pos (by omega)]
    · rw [List.getElem?_append_right (by simp; omega), List.getElem?_append_right (by simp; omega)]
      simp only [List.length_map, List.length_take, List.getElem?_drop]
      congr 1
      omega
/-- What is added to the costs. -/
def ownF (ow : List Int) (i : Nat) : Int := redu (ow.getD i 0)
theorem plusTo_bd {c : List Int} (hcb : ∀ x ∈ c, 0 ≤ x ∧ x ≤ 1000) (ow : List Int) : ∀ k, ∀ x ∈ plusTo c (ownF ow) k, 0 ≤ x ∧ x ≤ 1000 + 200 * k := by
  intro k
  induction k with
  | zero => intro x hx; have := hcb x hx; omega
  | succ k ih =>
    intro x hx
    obtain ⟨s, hs, rfl⟩ := List.mem_map.1 hx
    have hs' := List.mem_range.1 hs
    have h1 := ih ((plusTo c (ownF ow) k).getD s 0) (by rw [List.getD_eq_getElem?_getD, List.getElem?_eq_getElem hs']; exact List.getElem_mem _)
    have h2 := redu_bd (ow.getD k 0)
    unfold ownF at *
    split <;> omega

/- GamesConvex returns true for every costs and order: the walk. -/

def shapQ (c : List Int) : List Rat := if valC c then shapL c (plr c) else []
def shapE (c : List Int) : Int := if valC c then 0 else 2
theorem shapley2_any (A : Option Addr) (n cap : Nat) (c : List Int) (w : World) (hl : c.length = n) (hm : n ≤ 9223372036854775807) (h : Ints w A c) :
    Calls Try.prog 18 #[.slice A n cap] w fun e w' => ∃ A' k c', e = .returned (.tuple #[.slice A' k c', .int .i64 (shapE c)]) ∧ (shapQ c).length = k ∧ Fracs w' A' (shapQ c) ∧ Below w.heap.size w w' := by
  refine (shapley_any A n cap c w hl hm h).mono ?_
  rintro e w' ⟨A', k, c', ec, rfl, ⟨hv, rfl, rfl, hown⟩ | ⟨hv, rfl, rfl, rfl, rfl⟩, hb⟩
  · have e1 : shapQ c = shapL c (plr c) := by simp [shapQ, hv]
    refine ⟨A', plr c, c', by simp [shapE, hv], by rw [e1]; simp [shapL, sumsL, addAll_length], ?_, hb⟩
    rw [e1]
    exact At.of_own hown
  · refine ⟨none, 0, 0, by simp [shapE, hv], by simp [shapQ, hv], ?_, hb⟩
    have e1 : shapQ c = [] := by simp [shapQ, hv]
    rw [e1]
    intro i v hv
    simp [fcells] at hv
theorem shapQ_take (c : List Int) : shapQ (c.take 18) = shapQ c := by
  cases hv : valC c
  · simp [shapQ, hv, valC_take]
  · rw [take18 (by have := (valC_iff.1 hv).1; omega)]
theorem shapE_take (c : List Int) : shapE (c.take 18) = shapE c := by unfold shapE; rw [valC_take]
theorem small_bd {qs : List Rat} (h : ∀ q ∈ qs, smallQ q) : ∀ p ∈ qs.map pr, (-9223372036854775808 ≤ p.1 ∧ p.1 ≤ 9223372036854775807) ∧ -9223372036854775808 ≤ p.2 ∧ p.2 ≤ 9223372036854775807 := by
  intro p hp
  obtain ⟨q, hq, rfl⟩ := List.mem_map.1 hp
  have := h q hq
  unfold smallQ at this
  have := den_pos q
  unfold pr
  dsimp only
  omega

set_option maxRecDepth 100000 in
set_option maxHeartbeats 4000000 in
theorem law_convex (A : Option Addr) (n cap : Nat) (c : List Int) (O : Option Addr) (m capo : Nat) (l : List Int) (w : World)
    (hl : c.length = n) (hcp : n ≤ cap) (hm : cap ≤ 9223372036854775807) (hc : Ints w A c) (_ : ∀ x ∈ c, -9223372036854775808 ≤ x ∧ x ≤ 9223372036854775807)
    (hlo : l.length = m) (hmo : m ≤ capo) (hco : capo ≤ 9223372036854775807) (ho : Ints w O l) (_ : ∀ x ∈ l, -9223372036854775808 ≤ x ∧ x ≤ 9223372036854775807) :
    Calls Try.prog 15 #[.slice A n cap, .slice O m capo] w fun e w' => e = .returned (.bool true) ∧ Below w.heap.size w w' := by
  have H := Lib.hid (And.intro hl (And.intro hc (And.intro hlo ho)))
  clear hl hc hlo ho
  go_enter Try.func15, Try.ntmps15
  go_wp2_with fail
  refine (list_any A n cap c _ H.out.1 hcp hm H.out.2.1).mono ?_
  rintro e w1 ⟨A1, c1, rfl, hown, hb⟩
  have hI : Ints w1 A1 (c.take 18) := At.of_own hown
  have hlt : (c.take 18).length = min n 18 := by rw [List.length_take, H.out.1]; omega
  have H1 := Lib.hid (And.intro hI (And.intro hb hlt))
  clear hown hb hI hlt
  go_wp2_with fail
  refine (concave2_any A1 (min n 18) c1 (c.take 18) _ H1.out.2.2 (by omega) H1.out.1).mono ?_
  rintro e w2 ⟨rfl, hb2⟩
  rw [concA_take]
  have HB2 := Lib.hid (H1.out.2.1.trans (hb2.mono H1.out.2.1.size))
  clear hb2
  cases hv : valC c
  · have HG : Hid (concA c = (0, 0, 2)) := Lib.hid (by simp [concA, hv])
    rw [HG.out]
    clear hv
    dsimp only
    go_wp2_with fail
    refine (awake_any _).mono ?_
    rintro e w3 ⟨rfl, hb3⟩
    have HB3 := Lib.hid (HB2.out.trans (hb3.mono HB2.out.size))
    clear hb3
    go_wp2_with fail
    go_ret
    exact ⟨rfl, HB3.out⟩
  · have hp := valC_pow hv
    have hcb := (valC_iff.1 hv).2.2
    have hlen := (valC_iff.1 hv).1
    have hn16 : 2 ≤ n ∧ n ≤ 16 := by have := H.out.1; omega
    obtain ⟨ad, rfl, _, hc0⟩ := H.out.2.1.some_ (by omega)
    have HV := Lib.hid (And.intro hv (And.intro hp hcb))
    rcases concL_cases c with ⟨a, b, hab, ha, hb, hbad⟩ | ⟨hab, hno⟩
    · have HG : Hid (concA c = (a, b, 0)) := Lib.hid (by simp [concA, hv, hab])
      rw [HG.out]
      rw [H.out.1] at ha hb
      have hor : a ||| b < n := by
        rw [← H.out.1, hp.1]; exact Nat.or_lt_two_pow (by rw [← hp.1, H.out.1]; exact ha) (by rw [← hp.1, H.out.1]; exact hb)
      have hand : a &&& b < n := and_lt ha
      obtain ⟨s1, hs1⟩ : ∃ s, s = a ||| b := ⟨_, rfl⟩
      obtain ⟨s2, hs2⟩ : ∃ s, s = a &&& b := ⟨_, rfl⟩
      have e1 := or_nat a b (by omega) (by omega)
      have e2 := and_nat a b (by omega) (by omega)
      rw [← hs1] at e1 hor
      rw [← hs2] at e2 hand
      have hlc := H.out.1
      obtain ⟨y1, hy1⟩ : ∃ y, c[s1]? = some y := ⟨_, List.getElem?_eq_getElem (by omega)⟩
      obtain ⟨y2, hy2⟩ : ∃ y, c[s2]? = some y := ⟨_, List.getElem?_eq_getElem (by omega)⟩
      obtain ⟨y3, hy3⟩ : ∃ y, c[a]? = some y := ⟨_, List.getElem?_eq_getElem (by omega)⟩
      obtain ⟨y4, hy4⟩ : ∃ y, c[b]? = some y := ⟨_, List.getElem?_eq_getElem (by omega)⟩
      have b1 := hcb y1 (List.mem_of_getElem? hy1)
      have b2 := hcb y2 (List.mem_of_getElem? hy2)
      have b3 := hcb y3 (List.mem_of_getElem? hy3)
      have b4 := hcb y4 (List.mem_of_getElem? hy4)
      have c1' : ∀ s : Desc w2, s.val.cell? (ad.add s1) = some (.int .i64 y1) := fun s => s.cell ((HB2.out.cell (lt_of_cell (hc0 _ _ hy1))).trans (hc0 _ _ hy1))
      have c2' : ∀ s : Desc w2, s.val.cell? (ad.add s2) = some (.int .i64 y2) := fun s => s.cell ((HB2.out.cell (lt_of_cell (hc0 _ _ hy2))).trans (hc0 _ _ hy2))
      have c3' : ∀ s : Desc w2, s.val.cell? (ad.add a) = some (.int .i64 y3) := fun s => s.cell ((HB2.out.cell (lt_of_cell (hc0 _ _ hy3))).trans (hc0 _ _ hy3))
      have c4' : ∀ s : Desc w2, s.val.cell? (ad.add b) = some (.int .i64 y4) := fun s => s.cell ((HB2.out.cell (lt_of_cell (hc0 _ _ hy4))).trans (hc0 _ _ hy4))
      have hlt : y3 + y4 < y1 + y2 := by
        unfold badB at hbad
        rw [← hs1, ← hs2, List.getD_eq_getElem?_getD, List.getD_eq_getElem?_getD, List.getD_eq_getElem?_getD, List.getD_eq_getElem?_getD, hy1, hy2, hy3, hy4] at hbad
        exact of_decide_eq_true hbad
      have v1 : IntKind.i64.wrap (y1 + y2) = y1 + y2 := IntWalk.i64_in _ (by omega)
      have v2 : IntKind.i64.wrap (y3 + y4) = y3 + y4 := IntWalk.i64_in _ (by omega)
      have hd : decide (y3 + y4 < y1 + y2) = true := by simpa using hlt
      have la : ¬ (a : Int) < 0 := by omega
      have lb : ¬ (b : Int) < 0 := by omega
      have lga : decide ((a : Int) ≥ (n : Int)) = false := by simp; omega
      have lgb : decide ((b : Int) ≥ (n : Int)) = false := by simp; omega
      have HAW : Hid (∀ s : Desc w2, Calls Try.prog 21 #[] s.val fun e w'' => e = .returned (.bool true) ∧ ∃ s' : Desc w2, w'' = s'.val) := Lib.hid fun s => Calls.desc_of (awake_any _)
      clear hbad hy1 hy2 hy3 hy4 hs1 hs2 hv hc0 hp hcb hlen hab hlc
      dsimp only
      go_wp2_with fail
      refine wp_region_desc (by kernel_rfl) (by kernel_rfl) ?_
      repeat (go_big_quiet_step (first | (go_at_call 21; exact HAW.out _)))
      refine wpQuiet_nil ?_
      rintro _ ⟨sd, rfl⟩
      have HBE := Lib.hid (HB2.out.trans (sd.below.mono HB2.out.size))
      clear c1' c2' c3' c4'
      go_wp2_with fail
      go_ret
      exact ⟨rfl, HBE.out⟩
    · have HC := Lib.hid (conc_of hno)
      have HG : Hid (concA c = (0, 0, 4)) := Lib.hid (by simp [concA, hv, hab])
      rw [HG.out]
      clear hab hno hc0 hcb hlen
      dsimp only
      go_wp2_with fail
      refine (list_any (some ad) n cap c _ H.out.1 hcp hm (H.out.2.1.below HB2.out)).mono ?_
      rintro e w3 ⟨A3, c3, rfl, hown, hb⟩
      have hI : Ints w3 A3 (c.take 18) := At.of_own hown
      have H3 := Lib.hid (And.intro hI (HB2.out.trans (hb.mono HB2.out.size)))
      clear hown hb hI
      go_wp2_with fail
      refine (shapley2_any A3 (min n 18) c3 (c.take 18) _ H1.out.2.2 (by omega) H3.out.1).mono ?_
      rintro e w4 ⟨A4, k4, c4, rfl, hk, hF, hb⟩
      rw [shapQ_take] at hk hF
      have hsq : shapQ c = shapL c (plr c) := by simp [shapQ, hv]
      have hse : shapE (c.take 18) = 0 := by rw [shapE_take]; simp [shapE, hv]
      have hcs := shap_cc hv HC.out
      rw [hse]
      rw [hsq] at hk hF
      have hk4 : k4 ≤ 4 := by
        rw [← hk]; simp [shapL, sumsL, addAll_length]; exact hp.2.2
      have H4 := Lib.hid (And.intro hk (And.intro hF (And.intro (H3.out.2.trans (hb.mono H3.out.2.size)) (And.intro hcs (small_bd (shapL_small HV.out.2.2 hp.2.2))))))
      clear hk hF hb hsq hse hcs
      go_wp2_with fail
      refine (list_any (some ad) n cap c _ H.out.1 hcp hm (H.out.2.1.below H4.out.2.2.1)).mono ?_
      rintro e w5 ⟨A5, c5, rfl, hown, hb⟩
      have hI : Ints w5 A5 (c.take 18) := At.of_own hown
      have H5 := Lib.hid (And.intro hI (And.intro (H4.out.2.2.1.trans (hb.mono H4.out.2.2.1.size)) (H4.out.2.1.below hb)))
      clear hown hb hI
      go_wp2_with fail
      refine (checkcore_any A5 (min n 18) c5 A4 k4 c4 (c.take 18) ((shapL c (plr c)).map pr) _ H1.out.2.2 (by omega) (by rw [List.length_map]; exact H4.out.1) (by omega) H5.out.1 H5.out.2.2.prs H4.out.2.2.2.2).mono ?_
      rintro e w6 ⟨rfl, hb6⟩
      have hce : ccE c = 0 := by simp [ccE, hv]
      rw [ccB_take18, ccE_take, H4.out.2.2.2.1.1, hce]
      have HCE := Lib.hid hce
      have HB6 := Lib.hid (H5.out.2.1.trans (hb6.mono H5.out.2.1.size))
      clear hb6 hce
      go_wp2_with fail
      refine (list_any (some ad) n cap c _ H.out.1 hcp hm (H.out.2.1.below HB6.out)).mono ?_
      rintro e w7 ⟨A7, c7, rfl, hown, hb⟩
      have hI : Ints w7 A7 (c.take 18) := At.of_own hown
      have H7 := Lib.hid (And.intro hI (HB6.out.trans (hb.mono HB6.out.size)))
      clear hown hb hI
      go_wp2_with fail
      refine (refute2_any A7 (min n 18) c7 (c.take 18) _ H1.out.2.2 (by omega) H7.out.1).mono ?_
      rintro e w8 ⟨A8, k8, c8, rfl, _, _, _, _, hb8⟩
      have hrf : rfE (c.take 18) = 4 := by rw [rfE_take]; simp [rfE, hv, H4.out.2.2.2.1.2]
      rw [hrf]
      have HB8 := Lib.hid (H7.out.2.trans (hb8.mono H7.out.2.size))
      clear hb8 hrf
      go_wp2_with fail
      refine (list_any (some ad) n cap c _ H.out.1 hcp hm (H.out.2.1.below HB8.out)).mono ?_
      rintro e w9 ⟨A9, c9, rfl, hown, hb⟩
      have hI : Ints w9 A9 (c.take 18) := At.of_own hown
      have H9 := Lib.hid (And.intro hI (HB8.out.trans (hb.mono HB8.out.size)))
      clear hown hb hI
      go_wp2_with fail
      refine (list_any O m capo l _ H.out.2.2.1 hmo hco (H.out.2.2.2.below H9.out.2)).mono ?_
      rintro e w10 ⟨A10, c10, rfl, hown, hb⟩
      have hI : Ints w10 A10 (l.take 18) := At.of_own hown
      have hlt : (l.take 18).length = min m 18 := by rw [List.length_take, H.out.2.2.1]; omega
      have H10 := Lib.hid (And.intro hI (And.intro (H9.out.2.trans (hb.mono H9.out.2.size)) (And.intro hlt (H9.out.1.below hb))))
      clear hown hb hI hlt
      go_wp2_with fail
      refine (join2_any A9 (min n 18) c9 A10 (min m 18) c10 c l _ H1.out.2.2 H10.out.2.2.1 H10.out.2.2.2 H10.out.1).mono ?_
      rintro e w11 ⟨A11, k11, c11, rfl, hk, hJ, hb⟩
      cases hor : ordR (plr c) l
      · have hje : joinE c l = 2 := by simp [joinE, hv, hor]
        have H11 := Lib.hid (H10.out.2.1.trans (hb.mono H10.out.2.1.size))
        rw [hje]
        clear hk hJ hb hje hor hv
        go_wp2_with fail
        refine (awake_any _).mono ?_
        rintro e w12 ⟨rfl, hb12⟩
        have HB12 := Lib.hid (H11.out.trans (hb12.mono H11.out.size))
        clear hb12
        go_wp2_with fail
        go_ret
        exact ⟨rfl, HB12.out⟩
      · have hje : joinE c l = 0 := by simp [joinE, hv, hor]
        rw [hv, hor] at hk
        have hk' : k11 = plr c := hk
        have hjc := joinA_core hv HC.out hor
        have hk4' : k11 ≤ 4 := by rw [hk']; exact hp.2.2
        have H11 := Lib.hid (And.intro (H10.out.2.1.trans (hb.mono H10.out.2.1.size)) (And.intro hJ (And.intro hjc hk')))
        rw [hje]
        clear hk hJ hb hje hor hv hk' hjc hp
        go_wp2_with fail
        have hst := H11.out.1
        go_loopw [15, 128] (fun ov iv wr => ∃ (j : Nat) (B : Option Addr) (bc : Nat), j ≤ k11 ∧ iv = .int .i64 j ∧ ov = .slice B j bc ∧ wr.ownsRow w11.heap.size 31 2 (.slice B j bc) j (fcells (wholes ((joinA c l).take j))) ∧ Below w11.heap.size w11 wr) (fun _ iv _ => k11 - (intOf iv).toNat)
        case atStart => exact ⟨0, none, 0, Nat.zero_le _, rfl, rfl, World.ownsRow_nil _ _ _ _, Below.refl _ _⟩
        case round =>
          obtain ⟨j, B, bc, hj, rfl, rfl, hown, hbl⟩ := hrel
          have HR := Lib.hid (And.intro hown hbl)
          clear hown
          by_cases hlt : j < k11
          · have hjl : (joinA c l).length = k11 := by rw [H11.out.2.2.1.1, H11.out.2.2.2]
            obtain ⟨aj, rfl, _, hcj⟩ := H11.out.2.1.some_ (by omega)
            obtain ⟨y, hy⟩ : ∃ y, (joinA c l)[j]? = some y := ⟨_, List.getElem?_eq_getElem (by omega)⟩
            have g1 := (hbl.cell (lt_of_cell (hcj _ _ hy))).trans (hcj _ _ hy)
            have HNEW : Hid (fcells (wholes ((joinA c l).take (j + 1))) = fcells (wholes ((joinA c l).take j)) ++ [.int .i64 y, .int .i64 1]) := Lib.hid (by
              rw [List.take_add_one, hy]
              unfold wholes
              rw [List.map_append]
              exact fcells_snoc _ _)
            clear hbl hst hcj hy hjl
            go_wp2_with fail
            refine (lwhole_any y _).mono ?_
            rintro e w12 ⟨rfl, hb12⟩
            rw [fr_int]
            have HR2 := Lib.hid (And.intro (own_below HR.out.1 hb12) (HR.out.2.trans (hb12.mono HR.out.2.size)))
            clear hb12
            have hw12 := HR2.out.2.size
            go_wp2_with (at_builtin; refine app1 sty_frac rfl _ _ rfl w11.heap.size B j bc _ #[.int .i64 y, .int .i64 1] rfl (by simp [Value.oneCell']) rfl HR2.out.1 rfl (by omega) hw12 ?_)
            intro A13 k13 w13 hown13 _ hbl13 hk131 hk132
            rw [← HNEW.out] at hown13
            have HR4 := Lib.hid (And.intro hown13 (HR2.out.2.trans hbl13))
            clear hown13 hbl13
            go_wp2_with fail
            go_roundw
            case rel => exact ⟨j + 1, A13, k13, by omega, by go_num, rfl, HR4.out.1, HR4.out.2⟩
            case measure => simp [intOf]; omega
          · obtain rfl : j = k11 := by omega
            have hjl : (joinA c l).length = j := by rw [H11.out.2.2.1.1, H11.out.2.2.2]
            have hF : Fracs wr B (wholes (joinA c l)) := by
              have := At.of_own HR.out.1
              rw [List.take_of_length_le (by omega)] at this
              exact this
            have hsm : ∀ q ∈ wholes (joinA c l), smallQ q := by
              intro q hq
              obtain ⟨y, hy, rfl⟩ := List.mem_map.1 hq
              have := H11.out.2.2.1.2.2 y hy
              unfold smallQ
              rw [Rat.den_intCast, Rat.num_intCast]
              omega
            have HF := Lib.hid (And.intro hF (And.intro (small_bd hsm) (And.intro (H11.out.1.trans (hbl.mono H11.out.1.size)) hjl)))
            clear hF hsm hbl hst hjl
            go_wp2_with fail
            refine (list_any (some ad) n cap c _ H.out.1 hcp hm (H.out.2.1.below HF.out.2.2.1)).mono ?_
            rintro e w14 ⟨A14, c14, rfl, hown, hb⟩
            have hI : Ints w14 A14 (c.take 18) := At.of_own hown
            have H14 := Lib.hid (And.intro hI (And.intro (HF.out.2.2.1.trans (hb.mono HF.out.2.2.1.size)) (HF.out.1.below hb)))
            clear hown hb hI
            go_wp2_with fail
            refine (checkcore_any A14 (min n 18) c14 B j bc (c.take 18) ((wholes (joinA c l)).map pr) _ H1.out.2.2 (by omega) (by rw [List.length_map]; unfold wholes; rw [List.length_map]; exact HF.out.2.2.2) (by omega) H14.out.1 H14.out.2.2.prs HF.out.2.1).mono ?_
            rintro e w15 ⟨rfl, hb15⟩
            rw [ccB_take18, ccE_take, H11.out.2.2.1.2.1, HCE.out]
            have HB15 := Lib.hid (H14.out.2.1.trans (hb15.mono H14.out.2.1.size))
            clear hb15
            go_wp2_with fail
            refine (awake_any _).mono ?_
            rintro e w16 ⟨rfl, hb16⟩
            have HB16 := Lib.hid (HB15.out.trans (hb16.mono HB15.out.size))
            clear hb16
            go_wp2_with fail
            go_ret
            exact ⟨rfl, HB16.out⟩

/- A small fraction is in lowest terms, as Lowest sees it. -/

theorem low_small {q : Rat} (h : smallQ q) : lowB q.num (q.den : Int) = true := by
  obtain ⟨h1, h2, h3⟩ := h
  have := den_pos q
  simp only [lowB, rat_lowest, Bool.and_eq_true, decide_eq_true_eq]
  exact ⟨⟨by omega, by omega⟩, rfl⟩


/- GamesTimes returns true for every costs and number: the walk. -/

theorem by6_of (x : Int) : ∃ c : Nat, (1 ≤ c ∧ c ≤ 6) ∧ wrap64 (1 + wrap64 ((IntKind.u64.wrap x).tmod 6)) = (c : Int) := by
  obtain ⟨p, hp, e⟩ := idx_of x (k := 6) (by omega) (by omega)
  rw [e]
  clear e
  have hr : 1 ≤ 1 + (p : Int) ∧ 1 + (p : Int) ≤ 6 := by omega
  refine ⟨1 + p, by omega, ?_⟩
  rw [show ((1 + p : Nat) : Int) = 1 + (p : Int) from by omega]
  generalize 1 + (p : Int) = r at *
  unfold wrap64
  go_num
theorem shapQ_ok {c : List Int} (hv : valC c = true) : shapQ c = shapL c (plr c) := by simp [shapQ, hv]
theorem mul_bds {q : Rat} {k : Nat} (h : smallQ q) (hk : k ≤ 6) : -4000000000000000000 ≤ q.num * ((k : Int) : Rat).num ∧ q.num * ((k : Int) : Rat).num ≤ 4000000000000000000 ∧ (q.den : Int) * (((k : Int) : Rat).den : Int) ≤ 4000000000000000000 := by
  unfold smallQ at h
  rw [Rat.num_intCast, Rat.den_intCast]
  have h1 := mul_bd (m := 100000) (a := q.num) (b := (k : Int)) (n := 6) (by omega) (by omega) (by omega) (by omega)
  omega

set_option maxRecDepth 100000 in
set_option maxHeartbeats 4000000 in
theorem law_times (A : Option Addr) (n cap : Nat) (c : List Int) (by_ : Int) (w : World)
    (hl : c.length = n) (hcp : n ≤ cap) (hm : cap ≤ 9223372036854775807) (hc : Ints w A c) (_ : ∀ x ∈ c, -9223372036854775808 ≤ x ∧ x ≤ 9223372036854775807) (_hby : -9223372036854775808 ≤ by_ ∧ by_ ≤ 9223372036854775807) :
    Calls Try.prog 12 #[.slice A n cap, .int .i64 by_] w fun e w' => e = .returned (.bool true) ∧ Below w.heap.size w w' := by
  have H := Lib.hid (And.intro hl hc)
  clear hl hc
  go_enter Try.func12, Try.ntmps12
  go_wp2_with fail
  refine (list_any A n cap c _ H.out.1 hcp hm H.out.2).mono ?_
  rintro e w1 ⟨A1, c1, rfl, hown, hb⟩
  have hI : Ints w1 A1 (c.take 18) := At.of_own hown
  have hlt : (c.take 18).length = min n 18 := by rw [List.length_take, H.out.1]; omega
  have H1 := Lib.hid (And.intro hI (And.intro hb hlt))
  clear hown hb hI hlt
  go_wp2_with fail
  refine (shapley2_any A1 (min n 18) c1 (c.take 18) _ H1.out.2.2 (by omega) H1.out.1).mono ?_
  rintro e w2 ⟨A2, k2, c2, rfl, hk, hF, hb⟩
  rw [shapQ_take] at hk hF
  rw [shapE_take]
  have H2 := Lib.hid (And.intro hk (And.intro hF (H1.out.2.1.trans (hb.mono H1.out.2.1.size))))
  clear hk hF hb
  go_wp2_with fail
  refine (rplayers_any A n cap c _ H.out.1 (by omega) (H.out.2.below H2.out.2.2)).mono ?_
  rintro e w' ⟨rfl, rfl⟩
  cases hv : valC c
  · have HG : Hid (shapE c = 2) := Lib.hid (by simp [shapE, hv])
    rw [HG.out, plr_bad hv]
    clear hv
    go_wp2_with fail
    refine (awake_any _).mono ?_
    rintro e w3 ⟨rfl, hb3⟩
    have HB3 := Lib.hid (H2.out.2.2.trans (hb3.mono H2.out.2.2.size))
    clear hb3
    go_wp2_with fail
    go_ret
    exact ⟨rfl, HB3.out⟩
  · have hp := valC_pow hv
    have hcb := (valC_iff.1 hv).2.2
    have hlen := (valC_iff.1 hv).1
    have hn16 : 2 ≤ n ∧ n ≤ 16 := by have := H.out.1; omega
    have hx18 : c.take 18 = c := take18 (by omega)
    have hmn : min n 18 = n := by omega
    obtain ⟨q, hq⟩ : ∃ q, q = plr c := ⟨_, rfl⟩
    rw [← hq] at hp
    have hq4 : 1 ≤ q ∧ q ≤ 4 := hp.2
    have hkq : k2 = q := by rw [← H2.out.1, shapQ_ok hv, shapL_length, hq]
    subst hkq
    have hsm := shapL_small hcb hp.2.2
    have HG : Hid (shapE c = 0) := Lib.hid (by simp [shapE, hv])
    have HV := Lib.hid (And.intro hv (And.intro hp (And.intro hcb (And.intro hx18 (And.intro hsm hq)))))
    have hne : ((k2 : Int) == 0) = false := by simp; omega
    obtain ⟨a2, hA2, _, hcell⟩ := H2.out.2.1.some_ (by rw [H2.out.1]; omega)
    rw [shapQ_ok hv, ← hq] at hcell
    have HCX := Lib.hid hcell
    subst hA2
    rw [HG.out, ← hq]
    clear hv hp hcb hlen hx18 hsm hq hcell
    go_wp2_with fail
    obtain ⟨b, hbb, hbe⟩ := by6_of by_
    rw [hbe]
    clear hbe _hby
    refine (list_any A n cap c _ H.out.1 hcp hm (H.out.2.below H2.out.2.2)).mono ?_
    rintro e w3 ⟨A3, c3, rfl, hown, hb⟩
    rw [hmn, HV.out.2.2.2.1] at hown
    rw [hmn]
    clear hmn
    obtain ⟨g, rfl, hg, hg2⟩ := own_some hown (by omega)
    obtain ⟨_, _, he, hcp1, hcp2, _⟩ := own_form hown
    injection he with e1 _ e3
    subst e1; subst e3
    have hS0 := ScB.of_own hown
    have hw2 := H2.out.2.2.size
    have H3 := Lib.hid (And.intro hS0 (And.intro hb (H2.out.2.2.trans (hb.mono hw2))))
    clear hown hb hS0
    go_wp2_with fail
    go_loopw [56] (fun iv wr => ∃ k : Nat, k ≤ n ∧ iv = .int .i64 k ∧ ScB wr g n c3 (timesTo c b k) ∧ Below w2.heap.size w2 wr) (fun iv _ => n - (intOf iv).toNat)
    case atStart => exact ⟨0, Nat.zero_le _, rfl, by rw [timesTo_zero]; exact H3.out.1, H3.out.2.1⟩
    case round =>
      obtain ⟨k, hk, rfl, hsb, hbw⟩ := hrel
      have HR := Lib.hid (And.intro hsb hbw)
      clear hsb hbw
      by_cases hlt : k < n
      · obtain ⟨x, hx⟩ : ∃ x, c[k]? = some x := ⟨_, List.getElem?_eq_getElem (by rw [H.out.1]; exact hlt)⟩
        have hxb := HV.out.2.2.1 x (List.mem_of_getElem? hx)
        have hr1 : wr.cell? ⟨g, k, none⟩ = some (.int .i64 x) := HR.out.1.read (timesTo_get hx)
        have hf1 := HR.out.1.frozen k
        have hxc1 : 0 ≤ x * (b : Int) := Int.mul_nonneg hxb.1 (by omega)
        have hxc2 : x * (b : Int) ≤ 1000 * (b : Int) := Int.mul_le_mul_of_nonneg_right hxb.2 (by omega)
        have hxc : 0 ≤ x * (b : Int) ∧ x * (b : Int) ≤ 6000 := by omega
        clear hxc1 hxc2
        have hS1 := HR.out.1.set_ k (x * (b : Int))
        rw [timesTo_succ hx] at hS1
        have HS := Lib.hid hS1
        clear hx hS1
        go_wp2_with fail
        go_roundw
        case rel => exact ⟨k + 1, by omega, by go_num, HS.out, HR.out.2.setCell hg _⟩
        case measure => simp [intOf]; omega
      · obtain rfl : k = n := by omega
        have hS := HR.out.1
        rw [show k = c.length from H.out.1.symm, timesTo_all] at hS
        have hI' := hS.ints
        have hld : (timesL c b).length = k := by rw [timesL_length, H.out.1]
        have H4 := Lib.hid (And.intro hI' (And.intro hld (H2.out.2.2.trans (HR.out.2.mono hw2))))
        clear hS hI' hld
        go_wp2_with fail
        refine (shapley2_any (some ⟨g, 0, none⟩) k c3 (timesL c b) _ H4.out.2.1 (by omega) H4.out.1).mono ?_
        rintro e w5 ⟨A5, k5, c5, rfl, hk5, hF5, hb5⟩
        have hw4 := H4.out.2.2.size
        have H5 := Lib.hid (And.intro hk5 (And.intro hF5 (And.intro (H4.out.2.2.trans (hb5.mono hw4)) (And.intro (H4.out.1.below hb5) (HR.out.2.trans (hb5.mono (HR.out.2.size)))))))
        clear hk5 hF5 hb5
        cases hv2 : valC (timesL c b)
        · have HG2 : Hid (shapE (timesL c b) = 2) := Lib.hid (by simp [shapE, hv2])
          rw [HG2.out]
          clear hv2
          go_wp2_with fail
          refine (awake_any _).mono ?_
          rintro e w6 ⟨rfl, hb6⟩
          have HB6 := Lib.hid (H5.out.2.2.1.trans (hb6.mono H5.out.2.2.1.size))
          clear hb6
          go_wp2_with fail
          go_ret
          exact ⟨rfl, HB6.out⟩
        · have HG2 : Hid (shapE (timesL c b) = 0) := Lib.hid (by simp [shapE, hv2])
          have hpd : plr (timesL c b) = k2 := by rw [HV.out.2.2.2.2.2]; exact plr_len hv2 HV.out.1 (timesL_length c b)
          obtain rfl : k5 = k2 := by rw [← H5.out.1, shapQ_ok hv2, shapL_length, hpd]
          obtain ⟨a5, hA5, _, hcell5⟩ := H5.out.2.1.some_ (by rw [H5.out.1]; omega)
          rw [shapQ_ok hv2, hpd] at hcell5
          subst hA5
          have hmul : ∀ i, i < k5 → (shapL (timesL c b) k5).getD i 0 = (shapL c k5).getD i 0 * ((b : Int) : Rat) := by
            intro i hi
            have := shap_times (c := c) hq4 HV.out.2.1.1 (b - 1) i hi
            rwa [show b - 1 + 1 = b from by omega] at this
          have hce := times_core (k := b) hbb.1 HV.out.1 hv2
          have hcc := times_conc (k := b) hbb.1 HV.out.1 hv2
          have H6 := Lib.hid (And.intro hcell5 (And.intro hmul (And.intro hce hcc)))
          rw [HG2.out]
          clear hcell5 hmul hce hcc hpd hv2
          go_wp2_with fail
          go_loopw [80] (fun iv wr => ∃ j : Nat, j ≤ k5 ∧ iv = .int .i64 j ∧ Below w5.heap.size w5 wr) (fun iv _ => k5 - (intOf iv).toNat)
          case atStart => exact ⟨0, Nat.zero_le _, rfl, Below.refl _ _⟩
          case round =>
            obtain ⟨j, hj, rfl, hbl⟩ := hrel
            by_cases hlj : j < k5
            · obtain ⟨qx, hqx⟩ : ∃ q, (shapL c k5)[j]? = some q := ⟨_, List.getElem?_eq_getElem (by rw [shapL_length]; exact hlj)⟩
              obtain ⟨qy, hqy⟩ : ∃ q, (shapL (timesL c b) k5)[j]? = some q := ⟨_, List.getElem?_eq_getElem (by rw [shapL_length]; exact hlj)⟩
              have hz : qy = qx * ((b : Int) : Rat) := by
                have h := H6.out.2.1 j hlj
                rw [List.getD_eq_getElem?_getD, List.getD_eq_getElem?_getD, hqx, hqy] at h
                exact h
              have sx := HV.out.2.2.2.2.1 qx (List.mem_of_getElem? hqx)
              have hb25 : Below w2.heap.size w2 w5 := H5.out.2.2.2.2
              have hbz : Below w2.heap.size w2 wr := hb25.trans (hbl.mono hb25.size)
              have d1 : ∀ s : Desc wr, s.val.cell? (a2.add (j * 2)) = some (.int .i64 qx.num) := fun s => s.cell ((hbz.cell (lt_of_cell (HCX.out j qx hqx).1)).trans (HCX.out j qx hqx).1)
              have d2 : ∀ s : Desc wr, s.val.cell? ⟨(a2.add (j * 2)).block, (a2.add (j * 2)).off + 1, none⟩ = some (.int .i64 (qx.den : Int)) := fun s => s.cell ((hbz.cell (lt_of_cell (HCX.out j qx hqx).2)).trans (HCX.out j qx hqx).2)
              have d3 : ∀ s : Desc wr, s.val.cell? (a5.add (j * 2)) = some (.int .i64 qy.num) := fun s => s.cell ((hbl.cell (lt_of_cell (H6.out.1 j qy hqy).1)).trans (H6.out.1 j qy hqy).1)
              have d4 : ∀ s : Desc wr, s.val.cell? ⟨(a5.add (j * 2)).block, (a5.add (j * 2)).off + 1, none⟩ = some (.int .i64 (qy.den : Int)) := fun s => s.cell ((hbl.cell (lt_of_cell (H6.out.1 j qy hqy).2)).trans (H6.out.1 j qy hqy).2)
              have HQ := Lib.hid (And.intro hz (And.intro (low_small sx) (mul_bds sx hbb.2)))
              have hx3 : 1 ≤ (qx.den : Int) ∧ (qx.den : Int) ≤ 24 ∧ -100000 ≤ qx.num ∧ qx.num ≤ 100000 := ⟨den_pos qx, sx.1, sx.2.1, sx.2.2⟩
              have l3 : (j : Int) < (k5 : Int) := by omega
              have l4 : (0 : Int) ≤ (j : Int) := by omega
              have hd24 : decide ((24 : Int) < (qx.den : Int)) = false := decide_eq_false (by omega)
              have HBj := Lib.hid hbl
              have hws := hbl.size
              have HLOW : Hid (∀ s : Desc wr, Calls Try.prog 22 #[.agg #[.int .i64 qx.num, .int .i64 (qx.den : Int)]] s.val fun e w'' => e = .returned (.bool true) ∧ ∃ s' : Desc wr, w'' = s'.val) := Lib.hid fun s =>
                Calls.desc_of ((rlowest_any qx.num qx.den _ (by omega) (by omega) (by omega)).mono fun e w' h => ⟨by rw [h.1, HQ.out.2.1], h.2⟩)
              have HWH : Hid (∀ s : Desc wr, Calls Try.prog 24 #[.int .i64 (b : Int)] s.val fun e w'' => e = .returned (.agg #[.int .i64 (b : Int), .int .i64 1]) ∧ ∃ s' : Desc wr, w'' = s'.val) := Lib.hid fun s =>
                Calls.desc_of ((lwhole_any (b : Int) _).mono fun e w' h => ⟨by rw [h.1, fr_int], h.2⟩)
              have HMUL : Hid (∀ s : Desc wr, Calls Try.prog 48 #[.agg #[.int .i64 qx.num, .int .i64 (qx.den : Int)], .agg #[.int .i64 (b : Int), .int .i64 1]] s.val fun e w'' => e = .returned (.agg #[.int .i64 qy.num, .int .i64 (qy.den : Int)]) ∧ ∃ s' : Desc wr, w'' = s'.val) := Lib.hid fun s =>
                Calls.desc_of ((rmul_raw qx ((b : Int) : Rat) _ HQ.out.2.2.1 HQ.out.2.2.2.1 HQ.out.2.2.2.2).mono fun e w' h => ⟨by rw [h.1, ← HQ.out.1]; rfl, h.2⟩)
              clear sx hqx hqy hz hbl hb25 hbz
              go_wp2_with fail
              refine wp_region_desc (by kernel_rfl) (by kernel_rfl) ?_
              repeat (go_big_quiet_step (first | (go_at_call 22; exact HLOW.out _) | (go_at_call 24; exact HWH.out _) | (go_at_call 48; exact HMUL.out _)))
              refine wpQuiet_nil ?_
              rintro _ ⟨sd, rfl⟩
              have HBE := Lib.hid (HBj.out.trans (sd.below.mono hws))
              clear d1 d2 d3 d4
              go_wp2_with fail
              go_roundw
              case rel => exact ⟨j + 1, by omega, by go_num, HBE.out⟩
              case measure => simp [intOf]; omega
            · obtain rfl : j = k5 := by omega
              have HB9 := Lib.hid (And.intro (H5.out.2.2.1.trans (hbl.mono H5.out.2.2.1.size)) (H5.out.2.2.2.1.below hbl))
              clear hbl
              go_wp2_with fail
              refine (list_any A k cap c _ H.out.1 hcp hm (H.out.2.below HB9.out.1)).mono ?_
              rintro e w10 ⟨A10, c10, rfl, hown, hb⟩
              have hI : Ints w10 A10 (c.take 18) := At.of_own hown
              have H10 := Lib.hid (And.intro hI (And.intro (HB9.out.1.trans (hb.mono HB9.out.1.size)) (HB9.out.2.below hb)))
              clear hown hb hI
              go_wp2_with fail
              refine (core2_any A10 (min k 18) c10 (c.take 18) _ H1.out.2.2 (by omega) H10.out.1).mono ?_
              rintro e w11 ⟨A11, k11, c11, rfl, _, _, _, _, hb⟩
              rw [coE_take]
              have H11 := Lib.hid (And.intro (H10.out.2.1.trans (hb.mono H10.out.2.1.size)) (H10.out.2.2.below hb))
              clear hb
              go_wp2_with fail
              refine (core2_any (some ⟨g, 0, none⟩) k c3 (timesL c b) _ H4.out.2.1 (by omega) H11.out.2).mono ?_
              rintro e w12 ⟨A12, k12, c12, rfl, _, _, _, _, hb⟩
              rw [H6.out.2.2.1]
              have H12 := Lib.hid (And.intro (H11.out.1.trans (hb.mono H11.out.1.size)) (H11.out.2.below hb))
              clear hb
              go_wp2_with fail
              refine (list_any A k cap c _ H.out.1 hcp hm (H.out.2.below H12.out.1)).mono ?_
              rintro e w13 ⟨A13, c13, rfl, hown, hb⟩
              have hI : Ints w13 A13 (c.take 18) := At.of_own hown
              have H13 := Lib.hid (And.intro hI (And.intro (H12.out.1.trans (hb.mono H12.out.1.size)) (H12.out.2.below hb)))
              clear hown hb hI
              go_wp2_with fail
              refine (concave2_any A13 (min k 18) c13 (c.take 18) _ H1.out.2.2 (by omega) H13.out.1).mono ?_
              rintro e w14 ⟨rfl, hb⟩
              rw [concA_take]
              have H14 := Lib.hid (And.intro (H13.out.2.1.trans (hb.mono H13.out.2.1.size)) (H13.out.2.2.below hb))
              clear hb
              go_wp2_with fail
              refine (concave2_any (some ⟨g, 0, none⟩) k c3 (timesL c b) _ H4.out.2.1 (by omega) H14.out.2).mono ?_
              rintro e w15 ⟨rfl, hb⟩
              rw [H6.out.2.2.2]
              have H15 := Lib.hid (H14.out.1.trans (hb.mono H14.out.1.size))
              clear hb
              generalize coE c = z1
              generalize (concA c).2.2 = z2
              have y1 : (z1 == z1) = true := by simp
              have y2 : (((z2 : Nat) : Int) == ((z2 : Nat) : Int)) = true := by simp
              go_wp2_with fail
              refine (awake_any _).mono ?_
              rintro e w16 ⟨rfl, hb16⟩
              have HB16 := Lib.hid (H15.out.trans (hb16.mono H15.out.size))
              clear hb16
              go_wp2_with fail
              go_ret
              exact ⟨rfl, HB16.out⟩

/- GamesPlus returns true for every costs and own costs: the walk. -/

theorem at_kept {B : Nat} {S : List Nat} {w w' : World} {A : Option Addr} {xs : List Value} (h : At w A xs) (hk : Kept B S w w') (hA : ∀ ad, A = some ad → ad.block < B ∧ ad.block ∉ S) : At w' A xs := by
  intro i v hv
  obtain ⟨ad, had, hc⟩ := h i v hv
  have := hA ad had
  exact ⟨ad, had, (hk.cell (by rw [add_block]; exact this.1) (by rw [add_block]; exact this.2)).trans hc⟩

theorem ScB.setC {w : World} {g m cp : Nat} {xs : List Int} (h : ScB w g m cp xs) {p : Addr} (hp : p.block ≠ g) (v : Value) : ScB (w.setCell p v) g m cp xs := by
  obtain ⟨cur, hB, hs, ht⟩ := h
  exact ⟨cur, (Below.heap_setCell w p v g (fun e => hp e.symm)).trans hB, hs, ht⟩
theorem blk_setC {w : World} {g : Nat} {t : TypeId} {cs : Array Value} (h : Blk w g t cs) {p : Addr} (hp : p.block ≠ g) (v : Value) : Blk (w.setCell p v) g t cs := (Below.heap_setCell w p v g (fun e => hp e.symm)).trans h

theorem add_bds {q : Rat} {r : Int} (h : smallQ q) (hr : 0 ≤ r ∧ r < 200) : -4000000000000000000 ≤ q.num * (((r : Int) : Rat).den : Int) ∧ q.num * (((r : Int) : Rat).den : Int) ≤ 4000000000000000000 ∧ -4000000000000000000 ≤ ((r : Int) : Rat).num * (q.den : Int) ∧ ((r : Int) : Rat).num * (q.den : Int) ≤ 4000000000000000000 ∧ (q.den : Int) * (((r : Int) : Rat).den : Int) ≤ 4000000000000000000 := by
  unfold smallQ at h
  rw [Rat.num_intCast, Rat.den_intCast]
  have h1 := mul_bd (m := 200) (a := r) (b := (q.den : Int)) (n := 24) (by omega) (by omega) (by omega) (by omega)
  omega
set_option maxRecDepth 100000 in
set_option maxHeartbeats 4000000 in
theorem law_plus (A : Option Addr) (n cap : Nat) (c : List Int) (x0 x1 x2 x3 : Int) (w : World)
    (hl : c.length = n) (hcp : n ≤ cap) (hm : cap ≤ 9223372036854775807) (hc : Ints w A c) (_ : ∀ x ∈ c, -9223372036854775808 ≤ x ∧ x ≤ 9223372036854775807) :
    Calls Try.prog 10 #[.slice A n cap, .agg #[.int .i64 x0, .int .i64 x1, .int .i64 x2, .int .i64 x3]] w fun e w' => e = .returned (.bool true) ∧ Below w.heap.size w w' := by
  have hb0 : Below w.heap.size w (w.alloc (.cells #[.int .i64 x0, .int .i64 x1, .int .i64 x2, .int .i64 x3] 62)) := (Below.refl _ _).alloc (Nat.le_refl _) _
  have hB0 : Blk (w.alloc (.cells #[.int .i64 x0, .int .i64 x1, .int .i64 x2, .int .i64 x3] 62)) w.heap.size 62 (arr [x0, x1, x2, x3]) := Blk.new _ _ _ rfl
  have hsz : (w.alloc (.cells #[.int .i64 x0, .int .i64 x1, .int .i64 x2, .int .i64 x3] 62)).heap.size = w.heap.size + 1 := by simp
  have H := Lib.hid (And.intro hl (And.intro hc (And.intro hb0 (And.intro hB0 hsz))))
  clear hl hc hb0 hB0 hsz
  go_enter Try.func10, Try.ntmps10
  go_wp2_with fail
  refine (list_any A n cap c _ H.out.1 hcp hm (H.out.2.1.below H.out.2.2.1)).mono ?_
  rintro e w1 ⟨A1, c1, rfl, hown, hb⟩
  have hI : Ints w1 A1 (c.take 18) := At.of_own hown
  have hlt : (c.take 18).length = min n 18 := by rw [List.length_take, H.out.1]; omega
  have H1 := Lib.hid (And.intro hI (And.intro (H.out.2.2.1.trans (hb.mono H.out.2.2.1.size)) (And.intro hlt (And.intro (H.out.2.2.2.1.below hb (by rw [H.out.2.2.2.2]; omega)) (show w.heap.size + 1 ≤ w1.heap.size from by have := hb.size; rw [H.out.2.2.2.2] at this; exact this)))))
  clear hown hb hI hlt
  go_wp2_with fail
  refine (shapley_any A1 (min n 18) c1 (c.take 18) _ H1.out.2.2.1 (by omega) H1.out.1).mono ?_
  rintro e w2 ⟨A2, k2, c2, ec, rfl, hR, hb⟩
  have hw1 := H1.out.2.2.2.2
  have H2 := Lib.hid (And.intro hR (And.intro (H1.out.2.1.trans (hb.mono H1.out.2.1.size)) (And.intro (H1.out.2.2.2.1.below hb (by omega)) (show w.heap.size + 1 ≤ w2.heap.size from by have := hb.size; omega))))
  clear hR hb
  rcases H2.out.1 with ⟨v2, rfl, hk2, own2⟩ | ⟨v2, rfl, rfl, rfl, rfl⟩
  · have hv : valC c = true := by rw [← valC_take]; exact v2
    have hp := valC_pow hv
    have hcb := (valC_iff.1 hv).2.2
    have hlen := (valC_iff.1 hv).1
    have hn16 : 2 ≤ n ∧ n ≤ 16 := by have := H.out.1; omega
    have hx18 : c.take 18 = c := take18 (by omega)
    have hmn : min n 18 = n := by omega
    rw [hx18] at own2 hk2
    obtain ⟨q, hq⟩ : ∃ q, q = plr c := ⟨_, rfl⟩
    rw [← hq] at hp own2 hk2
    have hq4 : 1 ≤ q ∧ q ≤ 4 := hp.2
    subst hk2
    have hsm := shapL_small hcb hp.2.2
    have hne : ((k2 : Int) == 0) = false := by simp; omega
    have hF2 : Fracs w2 A2 (shapL c k2) := At.of_own own2
    have hA2 : ∃ ad, A2 = some ad ∧ w1.heap.size ≤ ad.block ∧ ad.block < w2.heap.size := by
      obtain ⟨ad, h1, h2, _⟩ := hF2.some_ (by rw [shapL_length]; omega)
      refine ⟨ad, h1, ?_, h2⟩
      rcases own2.2 with ⟨h0, _⟩ | ⟨g, cap', cur, hv', hg, _⟩
      · injection h0 with h0; rw [h1] at h0; cases h0
      · injection hv' with e1
        rw [h1] at e1
        injection e1 with e1
        rw [e1]; exact hg
    have HV := Lib.hid (And.intro hv (And.intro hp (And.intro hcb (And.intro hx18 (And.intro hsm (And.intro hq (And.intro hF2 hA2)))))))
    clear hv v2 hp hcb hlen hx18 hsm own2 hF2 hA2
    go_wp2_with fail
    refine (rplayers_any A n cap c _ H.out.1 (by omega) (H.out.2.1.below H2.out.2.1)).mono ?_
    rintro e w' ⟨rfl, rfl⟩
    rw [← hq]
    clear hq
    go_wp2_with fail
    refine (list_any A n cap c _ H.out.1 hcp hm (H.out.2.1.below H2.out.2.1)).mono ?_
    rintro e w3 ⟨A3, c3, rfl, hown, hb⟩
    rw [hmn, HV.out.2.2.2.1] at hown
    rw [hmn]
    clear hmn
    obtain ⟨g, rfl, hg, hg2⟩ := own_some hown (by omega)
    obtain ⟨_, _, he, hcp1, hcp2, _⟩ := own_form hown
    injection he with e1 _ e3
    subst e1; subst e3
    have hS0 := ScB.of_own hown
    have hw2 : w.heap.size + 1 ≤ w2.heap.size := H2.out.2.2.2
    have H3 := Lib.hid (And.intro hS0 (And.intro (Kept.of_below hb [w.heap.size]) (H2.out.2.2.1.below hb (by omega))))
    clear hown hb hS0
    go_wp2_with fail
    go_loopw [45] (fun iv wr => ∃ i : Nat, i ≤ k2 ∧ iv = .int .i64 i ∧ ScB wr g n c3 (plusTo c (ownF [x0, x1, x2, x3]) i) ∧ Blk wr w.heap.size 62 (arr (redTo [x0, x1, x2, x3] i)) ∧ Kept w2.heap.size [w.heap.size] w2 wr) (fun iv _ => k2 - (intOf iv).toNat)
    case atStart => exact ⟨0, Nat.zero_le _, rfl, H3.out.1, by rw [redTo_zero]; exact H3.out.2.2, H3.out.2.1⟩
    case round =>
      obtain ⟨i, hi, rfl, hsb, hB, hkp⟩ := hrel
      have HR := Lib.hid (And.intro hsb (And.intro hB hkp))
      clear hsb hB hkp
      by_cases hlt : i < k2
      · obtain ⟨x, hx⟩ : ∃ x, [x0, x1, x2, x3][i]? = some x := ⟨_, List.getElem?_eq_getElem (by simp; omega)⟩
        have hr1 : wr.cell? ⟨w.heap.size, i, none⟩ = some (.int .i64 x) := by
          rw [HR.out.2.1.cell, arr_get, redTo_get hx]; rfl
        have hf1 : wr.frozen? ⟨w.heap.size, i, none⟩ = false := HR.out.2.1.frozen i
        have hBs := HR.out.2.1.set_ i (.int .i64 (redu x))
        rw [arr_set, redTo_set hx] at hBs
        have hSs := HR.out.1.setC (p := ⟨w.heap.size, i, none⟩) (by show w.heap.size ≠ g; omega) (.int .i64 (redu x))
        have hKs := HR.out.2.2.setCell (p := ⟨w.heap.size, i, none⟩) (.inl (by simp)) (.int .i64 (redu x))
        have hown : ownF [x0, x1, x2, x3] i = redu x := by unfold ownF; rw [List.getD_eq_getElem?_getD, hx]; rfl
        have HS := Lib.hid (And.intro hBs (And.intro hSs (And.intro hKs (And.intro hown (redTo_done (k := i + 1) hx (by omega))))))
        clear hBs hSs hKs hown hx
        have l1 : (i : Int) < 4 := by omega
        have l2 : (0 : Int) ≤ (i : Int) := by omega
        go_wp2_with fail
        go_loopw [58] (fun iv wr => ∃ s : Nat, s ≤ n ∧ iv = .int .i64 s ∧ ScB wr g n c3 (partTo (plusTo c (ownF [x0, x1, x2, x3]) i) i (redu x) s) ∧ Blk wr w.heap.size 62 (arr (redTo [x0, x1, x2, x3] (i + 1))) ∧ Kept w2.heap.size [w.heap.size] w2 wr) (fun iv _ => n - (intOf iv).toNat)
        case atStart => exact ⟨0, Nat.zero_le _, rfl, by rw [partTo_zero]; exact HS.out.2.1, HS.out.1, HS.out.2.2.1⟩
        case round =>
          obtain ⟨s, hs, rfl, hsb, hB, hkp⟩ := hrel
          have HR2 := Lib.hid (And.intro hsb (And.intro hB hkp))
          clear hsb hB hkp
          by_cases hlts : s < n
          · obtain ⟨y, hy⟩ : ∃ y, (plusTo c (ownF [x0, x1, x2, x3]) i)[s]? = some y := ⟨_, List.getElem?_eq_getElem (by rw [plusTo_length, H.out.1]; exact hlts)⟩
            have hyb := plusTo_bd HV.out.2.2.1 [x0, x1, x2, x3] i y (List.mem_of_getElem? hy)
            have hr2 : wr.cell? ⟨g, s, none⟩ = some (.int .i64 y) := HR2.out.1.read (partTo_get hy)
            have hf2 := HR2.out.1.frozen s
            have hr3 : wr.cell? ⟨w.heap.size, i, none⟩ = some (.int .i64 (redu x)) := by
              rw [HR2.out.2.1.cell, arr_get, HS.out.2.2.2.2]; rfl
            have hrb := redu_bd x
            cases hbit : s.testBit i
            · have b1 := and_shr_f (set := s) (k := i) (by omega) hbit
              have HP := Lib.hid (partTo_skip (c := plusTo c (ownF [x0, x1, x2, x3]) i) (v := redu x) hbit)
              clear hbit hy hyb hr2 hf2 hr3 hrb
              go_wp2_with fail
              go_roundw
              case rel => exact ⟨s + 1, by omega, by go_num, by rw [← HP.out]; exact HR2.out.1, HR2.out.2.1, HR2.out.2.2⟩
              case measure => simp [intOf]; omega
            · have b1 := and_shr_t (set := s) (k := i) (by omega) hbit
              have hS1 := HR2.out.1.set_ s (y + redu x)
              rw [partTo_set hy hbit] at hS1
              have hB1 := blk_setC HR2.out.2.1 (p := ⟨g, s, none⟩) (by show g ≠ w.heap.size; omega) (.int .i64 (y + redu x))
              have hK1 := HR2.out.2.2.setCell (p := ⟨g, s, none⟩) (.inr hg) (.int .i64 (y + redu x))
              have HP := Lib.hid (And.intro hS1 (And.intro hB1 hK1))
              have v1 : IntKind.i64.wrap (y + redu x) = y + redu x := IntWalk.i64_in _ (by omega)
              clear hS1 hB1 hK1 hbit hy hyb hrb
              generalize redu x = r at *
              go_wp2_with fail
              go_region
              go_wp2_with fail
              go_roundw
              case rel => exact ⟨s + 1, by omega, by go_num, (HP.out.1), HP.out.2.1, HP.out.2.2.trans ((Kept.of_below (below_drewN (Below.refl _ _) 1) [w.heap.size]).mono HP.out.2.2.size (fun _ h => .inl h))⟩
              case measure => simp [intOf]; omega
          · obtain rfl : s = n := by omega
            have hfin : partTo (plusTo c (ownF [x0, x1, x2, x3]) i) i (redu x) s = plusTo c (ownF [x0, x1, x2, x3]) (i + 1) := by
              rw [plusTo, HS.out.2.2.2.1]
              unfold addOne
              rw [plusTo_length, H.out.1]
            have HF := Lib.hid hfin
            clear hfin
            go_wp2_with fail
            go_roundw
            case rel => exact ⟨i + 1, by omega, by go_num, by rw [← HF.out]; exact HR2.out.1, HR2.out.2.1, HR2.out.2.2⟩
            case measure => simp [intOf]; omega
      · obtain rfl : i = k2 := by omega
        have hbw : Below w.heap.size w w2 := H2.out.2.1
        have hb2 : Below w.heap.size w2 wr := (HR.out.2.2.mono (B' := w.heap.size) (S' := []) (by omega) (fun y hy => by simp at hy; omega)).below
        have hFw : Fracs wr A2 (shapL c i) := at_kept HV.out.2.2.2.2.2.2.1 HR.out.2.2 (fun ad had => by
          obtain ⟨ad', h1, h2, h3⟩ := HV.out.2.2.2.2.2.2.2
          rw [h1] at had
          injection had with had
          subst had
          exact ⟨h3, by simp; omega⟩)
        obtain ⟨a2, hA2, _, hcell⟩ := hFw.some_ (by rw [shapL_length]; omega)
        have hld : (plusTo c (ownF [x0, x1, x2, x3]) i).length = n := by rw [plusTo_length, H.out.1]
        have H4 := Lib.hid (And.intro HR.out.1.ints (And.intro hld (And.intro (hbw.trans hb2) (And.intro hcell (HR.out.2.1.lt)))))
        clear hb2 hbw hFw hld hcell
        subst hA2
        go_wp2_with fail
        refine (shapley2_any (some ⟨g, 0, none⟩) n c3 (plusTo c (ownF [x0, x1, x2, x3]) i) _ H4.out.2.1 (by omega) H4.out.1).mono ?_
        rintro e w5 ⟨A5, k5, c5, rfl, hk5, hF5, hb5⟩
        have hw4 := H4.out.2.2.1.size
        have H5 := Lib.hid (And.intro hk5 (And.intro hF5 (And.intro (H4.out.2.2.1.trans (hb5.mono hw4)) (And.intro (H4.out.1.below hb5) (And.intro hb5 (HR.out.2.1.below hb5 H4.out.2.2.2.2))))))
        clear hk5 hF5 hb5
        cases hv2 : valC (plusTo c (ownF [x0, x1, x2, x3]) i)
        · have HG2 : Hid (shapE (plusTo c (ownF [x0, x1, x2, x3]) i) = 2) := Lib.hid (by simp [shapE, hv2])
          rw [HG2.out]
          clear hv2
          go_wp2_with fail
          refine (awake_any _).mono ?_
          rintro e w6 ⟨rfl, hb6⟩
          have HB6 := Lib.hid (H5.out.2.2.1.trans (hb6.mono H5.out.2.2.1.size))
          clear hb6
          go_wp2_with fail
          go_ret
          exact ⟨rfl, HB6.out⟩
        · have HG2 : Hid (shapE (plusTo c (ownF [x0, x1, x2, x3]) i) = 0) := Lib.hid (by simp [shapE, hv2])
          have hpd : plr (plusTo c (ownF [x0, x1, x2, x3]) i) = i := by rw [plr_len hv2 HV.out.1 (plusTo_length c _ i), ← HV.out.2.2.2.2.2.1]
          obtain rfl : k5 = i := by rw [← H5.out.1, shapQ_ok hv2, shapL_length, hpd]
          obtain ⟨a5, hA5, _, hcell5⟩ := H5.out.2.1.some_ (by rw [H5.out.1]; omega)
          rw [shapQ_ok hv2, hpd] at hcell5
          subst hA5
          have hadd : ∀ j, j < k5 → (shapL (plusTo c (ownF [x0, x1, x2, x3]) k5) k5).getD j 0 = (shapL c k5).getD j 0 + ((ownF [x0, x1, x2, x3] j : Int) : Rat) := by
            intro j hj
            have := shap_plus (own := ownF [x0, x1, x2, x3]) hq4 HV.out.2.1.1 k5 (Nat.le_refl _) j hj
            rwa [if_pos hj] at this
          have hce : coE (plusTo c (ownF [x0, x1, x2, x3]) k5) = coE c := by
            have := plus_core (own := ownF [x0, x1, x2, x3]) HV.out.1 (by rw [← HV.out.2.2.2.2.2.1]; exact hv2)
            rwa [← HV.out.2.2.2.2.2.1] at this
          have H6 := Lib.hid (And.intro hcell5 (And.intro hadd hce))
          rw [HG2.out]
          clear hcell5 hadd hce hpd hv2
          go_wp2_with fail
          go_loopw [90] (fun iv wr => ∃ j : Nat, j ≤ k5 ∧ iv = .int .i64 j ∧ Below w5.heap.size w5 wr) (fun iv _ => k5 - (intOf iv).toNat)
          case atStart => exact ⟨0, Nat.zero_le _, rfl, Below.refl _ _⟩
          case round =>
            obtain ⟨j, hj, rfl, hbl⟩ := hrel
            by_cases hlj : j < k5
            · obtain ⟨qx, hqx⟩ : ∃ q, (shapL c k5)[j]? = some q := ⟨_, List.getElem?_eq_getElem (by rw [shapL_length]; exact hlj)⟩
              obtain ⟨qy, hqy⟩ : ∃ q, (shapL (plusTo c (ownF [x0, x1, x2, x3]) k5) k5)[j]? = some q := ⟨_, List.getElem?_eq_getElem (by rw [shapL_length]; exact hlj)⟩
              obtain ⟨x, hx⟩ : ∃ x, [x0, x1, x2, x3][j]? = some x := ⟨_, List.getElem?_eq_getElem (by simp; omega)⟩
              have hof : ownF [x0, x1, x2, x3] j = redu x := by unfold ownF; rw [List.getD_eq_getElem?_getD, hx]; rfl
              have hz : qy = qx + ((redu x : Int) : Rat) := by
                have h := H6.out.2.1 j hlj
                rw [List.getD_eq_getElem?_getD, List.getD_eq_getElem?_getD, hqx, hqy, hof] at h
                exact h
              have hrb := redu_bd x
              have sx := HV.out.2.2.2.2.1 qx (List.mem_of_getElem? hqx)
              have hb45 := H5.out.2.2.2.2.1
              have hbz := hb45.trans (hbl.mono hb45.size)
              have d1 : ∀ s : Desc wr, s.val.cell? (a2.add (j * 2)) = some (.int .i64 qx.num) := fun s => s.cell ((hbz.cell (lt_of_cell (H4.out.2.2.2.1 j qx hqx).1)).trans (H4.out.2.2.2.1 j qx hqx).1)
              have d2 : ∀ s : Desc wr, s.val.cell? ⟨(a2.add (j * 2)).block, (a2.add (j * 2)).off + 1, none⟩ = some (.int .i64 (qx.den : Int)) := fun s => s.cell ((hbz.cell (lt_of_cell (H4.out.2.2.2.1 j qx hqx).2)).trans (H4.out.2.2.2.1 j qx hqx).2)
              have d3 : ∀ s : Desc wr, s.val.cell? (a5.add (j * 2)) = some (.int .i64 qy.num) := fun s => s.cell ((hbl.cell (lt_of_cell (H6.out.1 j qy hqy).1)).trans (H6.out.1 j qy hqy).1)
              have d4 : ∀ s : Desc wr, s.val.cell? ⟨(a5.add (j * 2)).block, (a5.add (j * 2)).off + 1, none⟩ = some (.int .i64 (qy.den : Int)) := fun s => s.cell ((hbl.cell (lt_of_cell (H6.out.1 j qy hqy).2)).trans (H6.out.1 j qy hqy).2)
              have hB5 := H5.out.2.2.2.2.2
              have d5 : ∀ s : Desc wr, s.val.cell? ⟨w.heap.size, j, none⟩ = some (.int .i64 (redu x)) := fun s => s.cell (by
                rw [(hB5.below hbl hB5.lt).cell, arr_get, redTo_done hx hlj]; rfl)
              have HQ := Lib.hid (And.intro hz (And.intro (low_small sx) (add_bds sx hrb)))
              have hx3 : 1 ≤ (qx.den : Int) ∧ (qx.den : Int) ≤ 24 ∧ -100000 ≤ qx.num ∧ qx.num ≤ 100000 := ⟨den_pos qx, sx.1, sx.2.1, sx.2.2⟩
              generalize redu x = r at *
              have l3 : (j : Int) < (k5 : Int) := by omega
              have l4 : (0 : Int) ≤ (j : Int) := by omega
              have l5 : (j : Int) < 4 := by omega
              have hd24 : decide ((24 : Int) < (qx.den : Int)) = false := decide_eq_false (by omega)
              have HBj := Lib.hid hbl
              have hws := hbl.size
              have HLOW : Hid (∀ s : Desc wr, Calls Try.prog 22 #[.agg #[.int .i64 qx.num, .int .i64 (qx.den : Int)]] s.val fun e w'' => e = .returned (.bool true) ∧ ∃ s' : Desc wr, w'' = s'.val) := Lib.hid fun s =>
                Calls.desc_of ((rlowest_any qx.num qx.den _ (by omega) (by omega) (by omega)).mono fun e w' h => ⟨by rw [h.1, HQ.out.2.1], h.2⟩)
              have HWH : Hid (∀ s : Desc wr, Calls Try.prog 24 #[.int .i64 r] s.val fun e w'' => e = .returned (.agg #[.int .i64 r, .int .i64 1]) ∧ ∃ s' : Desc wr, w'' = s'.val) := Lib.hid fun s =>
                Calls.desc_of ((lwhole_any r _).mono fun e w' h => ⟨by rw [h.1, fr_int], h.2⟩)
              have HADD : Hid (∀ s : Desc wr, Calls Try.prog 25 #[.agg #[.int .i64 qx.num, .int .i64 (qx.den : Int)], .agg #[.int .i64 r, .int .i64 1]] s.val fun e w'' => e = .returned (.agg #[.int .i64 qy.num, .int .i64 (qy.den : Int)]) ∧ ∃ s' : Desc wr, w'' = s'.val) := Lib.hid fun s =>
                Calls.desc_of ((radd_raw qx ((r : Int) : Rat) _ HQ.out.2.2.1 HQ.out.2.2.2.1 HQ.out.2.2.2.2.1 HQ.out.2.2.2.2.2.1 HQ.out.2.2.2.2.2.2).mono fun e w' h => ⟨by rw [h.1, ← HQ.out.1]; rfl, h.2⟩)
              clear sx hqx hqy hz hbl hb45 hbz hof hx hB5
              go_wp2_with fail
              refine wp_region_desc (by kernel_rfl) (by kernel_rfl) ?_
              repeat (go_big_quiet_step (first | (go_at_call 22; exact HLOW.out _) | (go_at_call 24; exact HWH.out _) | (go_at_call 25; exact HADD.out _)))
              refine wpQuiet_nil ?_
              rintro _ ⟨sd, rfl⟩
              have HBE := Lib.hid (HBj.out.trans (sd.below.mono hws))
              clear d1 d2 d3 d4 d5
              go_wp2_with fail
              go_roundw
              case rel => exact ⟨j + 1, by omega, by go_num, HBE.out⟩
              case measure => simp [intOf]; omega
            · obtain rfl : j = k5 := by omega
              have HB9 := Lib.hid (And.intro (H5.out.2.2.1.trans (hbl.mono H5.out.2.2.1.size)) (H5.out.2.2.2.1.below hbl))
              clear hbl
              go_wp2_with fail
              refine (list_any A n cap c _ H.out.1 hcp hm (H.out.2.1.below HB9.out.1)).mono ?_
              rintro e w10 ⟨A10, c10, rfl, hown, hb⟩
              have hI : Ints w10 A10 (c.take 18) := At.of_own hown
              have H10 := Lib.hid (And.intro hI (And.intro (HB9.out.1.trans (hb.mono HB9.out.1.size)) (HB9.out.2.below hb)))
              clear hown hb hI
              go_wp2_with fail
              refine (core2_any A10 (min n 18) c10 (c.take 18) _ H1.out.2.2.1 (by omega) H10.out.1).mono ?_
              rintro e w11 ⟨A11, k11, c11, rfl, _, _, _, _, hb⟩
              rw [coE_take]
              have H11 := Lib.hid (And.intro (H10.out.2.1.trans (hb.mono H10.out.2.1.size)) (H10.out.2.2.below hb))
              clear hb
              go_wp2_with fail
              refine (core2_any (some ⟨g, 0, none⟩) n c3 (plusTo c (ownF [x0, x1, x2, x3]) j) _ H4.out.2.1 (by omega) H11.out.2).mono ?_
              rintro e w12 ⟨A12, k12, c12, rfl, _, _, _, _, hb⟩
              rw [H6.out.2.2]
              have H12 := Lib.hid (H11.out.1.trans (hb.mono H11.out.1.size))
              clear hb
              generalize coE c = z1
              have y1 : (z1 == z1) = true := by simp
              go_wp2_with fail
              refine (awake_any _).mono ?_
              rintro e w16 ⟨rfl, hb16⟩
              have HB16 := Lib.hid (H12.out.trans (hb16.mono H12.out.size))
              clear hb16
              go_wp2_with fail
              go_ret
              exact ⟨rfl, HB16.out⟩
  · have hv : valC c = false := by rw [← valC_take]; exact v2
    have HV := Lib.hid hv
    clear v2 hv
    go_wp2_with fail
    refine (rplayers_any A n cap c _ H.out.1 (by omega) (H.out.2.1.below H2.out.2.1)).mono ?_
    rintro e w' ⟨rfl, rfl⟩
    rw [plr_bad HV.out]
    go_wp2_with fail
    refine (awake_any _).mono ?_
    rintro e w3 ⟨rfl, hb3⟩
    have HB3 := Lib.hid (H2.out.2.1.trans (hb3.mono H2.out.2.1.size))
    clear hb3
    go_wp2_with fail
    go_ret
    exact ⟨rfl, HB3.out⟩
end Go.Proofs.Ytbidboagaoifaaa
