/- The Shapley sums written out for one to four players, and the laws that they keep: plain Lean. -/
import Derived.Test.YtbidboagaoifaaaShapLaw
import Derived.KernelRfl
namespace Go.Proofs.Ytbidboagaoifaaa
open Go.RowKit


theorem len_cons {α : Type} {l : List α} {n : Nat} (h : l.length = n + 1) : ∃ a t, l = a :: t ∧ t.length = n := by
  cases l with
  | nil => simp at h
  | cons a t => exact ⟨a, t, rfl, by simpa using h⟩
theorem len_zero {α : Type} {l : List α} (h : l.length = 0) : l = [] := List.eq_nil_of_length_eq_zero h

/-- The sums over all orders. -/
def sumsL (c : List Int) (n : Nat) : List Int := addAll c n (List.replicate n 0) (ext n n [])

theorem list2 (l : List Int) (h : l.length = 2) : ∃ c0 c1 : Int, l = [c0, c1] := by
  obtain ⟨c0, l0, rfl, h0⟩ := len_cons h
  obtain ⟨c1, l1, rfl, h1⟩ := len_cons h0
  obtain rfl := len_zero h1
  exact ⟨c0, c1, rfl⟩
theorem sums1_raw (c0 c1 : Int) : sumsL [c0, c1] 1 = [(0 + (c1 - c0))] := by kernel_rfl
theorem sums1 (c0 c1 : Int) : sumsL [c0, c1] 1 = [(-1) * c0 + (1) * c1] := by
  rw [sums1_raw]
  simp only [List.cons.injEq, and_true]
  omega

theorem list4 (l : List Int) (h : l.length = 4) : ∃ c0 c1 c2 c3 : Int, l = [c0, c1, c2, c3] := by
  obtain ⟨c0, l0, rfl, h0⟩ := len_cons h
  obtain ⟨c1, l1, rfl, h1⟩ := len_cons h0
  obtain ⟨c2, l2, rfl, h2⟩ := len_cons h1
  obtain ⟨c3, l3, rfl, h3⟩ := len_cons h2
  obtain rfl := len_zero h3
  exact ⟨c0, c1, c2, c3, rfl⟩
theorem sums2_raw (c0 c1 c2 c3 : Int) : sumsL [c0, c1, c2, c3] 2 = [((0 + (c1 - c0)) + (c3 - c2)), ((0 + (c3 - c1)) + (c2 - c0))] := by kernel_rfl
theorem sums2 (c0 c1 c2 c3 : Int) : sumsL [c0, c1, c2, c3] 2 = [(-1) * c0 + (1) * c1 + (-1) * c2 + (1) * c3, (-1) * c0 + (-1) * c1 + (1) * c2 + (1) * c3] := by
  rw [sums2_raw]
  simp only [List.cons.injEq, and_true]
  omega

theorem list8 (l : List Int) (h : l.length = 8) : ∃ c0 c1 c2 c3 c4 c5 c6 c7 : Int, l = [c0, c1, c2, c3, c4, c5, c6, c7] := by
  obtain ⟨c0, l0, rfl, h0⟩ := len_cons h
  obtain ⟨c1, l1, rfl, h1⟩ := len_cons h0
  obtain ⟨c2, l2, rfl, h2⟩ := len_cons h1
  obtain ⟨c3, l3, rfl, h3⟩ := len_cons h2
  obtain ⟨c4, l4, rfl, h4⟩ := len_cons h3
  obtain ⟨c5, l5, rfl, h5⟩ := len_cons h4
  obtain ⟨c6, l6, rfl, h6⟩ := len_cons h5
  obtain ⟨c7, l7, rfl, h7⟩ := len_cons h6
  obtain rfl := len_zero h7
  exact ⟨c0, c1, c2, c3, c4, c5, c6, c7, rfl⟩
theorem sums3_raw (c0 c1 c2 c3 c4 c5 c6 c7 : Int) : sumsL [c0, c1, c2, c3, c4, c5, c6, c7] 3 = [((((((0 + (c1 - c0)) + (c1 - c0)) + (c3 - c2)) + (c7 - c6)) + (c5 - c4)) + (c7 - c6)), ((((((0 + (c3 - c1)) + (c7 - c5)) + (c2 - c0)) + (c2 - c0)) + (c7 - c5)) + (c6 - c4)), ((((((0 + (c7 - c3)) + (c5 - c1)) + (c7 - c3)) + (c6 - c2)) + (c4 - c0)) + (c4 - c0))] := by kernel_rfl
theorem sums3 (c0 c1 c2 c3 c4 c5 c6 c7 : Int) : sumsL [c0, c1, c2, c3, c4, c5, c6, c7] 3 = [(-2) * c0 + (2) * c1 + (-1) * c2 + (1) * c3 + (-1) * c4 + (1) * c5 + (-2) * c6 + (2) * c7, (-2) * c0 + (-1) * c1 + (2) * c2 + (1) * c3 + (-1) * c4 + (-2) * c5 + (1) * c6 + (2) * c7, (-2) * c0 + (-1) * c1 + (-1) * c2 + (-2) * c3 + (2) * c4 + (1) * c5 + (1) * c6 + (2) * c7] := by
  rw [sums3_raw]
  simp only [List.cons.injEq, and_true]
  omega

theorem list16 (l : List Int) (h : l.length = 16) : ∃ c0 c1 c2 c3 c4 c5 c6 c7 c8 c9 c10 c11 c12 c13 c14 c15 : Int, l = [c0, c1, c2, c3, c4, c5, c6, c7, c8, c9, c10, c11, c12, c13, c14, c15] := by
  obtain ⟨c0, l0, rfl, h0⟩ := len_cons h
  obtain ⟨c1, l1, rfl, h1⟩ := len_cons h0
  obtain ⟨c2, l2, rfl, h2⟩ := len_cons h1
  obtain ⟨c3, l3, rfl, h3⟩ := len_cons h2
  obtain ⟨c4, l4, rfl, h4⟩ := len_cons h3
  obtain ⟨c5, l5, rfl, h5⟩ := len_cons h4
  obtain ⟨c6, l6, rfl, h6⟩ := len_cons h5
  obtain ⟨c7, l7, rfl, h7⟩ := len_cons h6
  obtain ⟨c8, l8, rfl, h8⟩ := len_cons h7
  obtain ⟨c9, l9, rfl, h9⟩ := len_cons h8
  obtain ⟨c10, l10, rfl, h10⟩ := len_cons h9
  obtain ⟨c11, l11, rfl, h11⟩ := len_cons h10
  obtain ⟨c12, l12, rfl, h12⟩ := len_cons h11
  obtain ⟨c13, l13, rfl, h13⟩ := len_cons h12
  obtain ⟨c14, l14, rfl, h14⟩ := len_cons h13
  obtain ⟨c15, l15, rfl, h15⟩ := len_cons h14
  obtain rfl := len_zero h15
  exact ⟨c0, c1, c2, c3, c4, c5, c6, c7, c8, c9, c10, c11, c12, c13, c14, c15, rfl⟩
theorem sums4_raw (c0 c1 c2 c3 c4 c5 c6 c7 c8 c9 c10 c11 c12 c13 c14 c15 : Int) : sumsL [c0, c1, c2, c3, c4, c5, c6, c7, c8, c9, c10, c11, c12, c13, c14, c15] 4 = [((((((((((((((((((((((((0 + (c1 - c0)) + (c1 - c0)) + (c1 - c0)) + (c1 - c0)) + (c1 - c0)) + (c1 - c0)) + (c3 - c2)) + (c3 - c2)) + (c7 - c6)) + (c15 - c14)) + (c11 - c10)) + (c15 - c14)) + (c5 - c4)) + (c5 - c4)) + (c7 - c6)) + (c15 - c14)) + (c13 - c12)) + (c15 - c14)) + (c9 - c8)) + (c9 - c8)) + (c11 - c10)) + (c15 - c14)) + (c13 - c12)) + (c15 - c14)), ((((((((((((((((((((((((0 + (c3 - c1)) + (c3 - c1)) + (c7 - c5)) + (c15 - c13)) + (c11 - c9)) + (c15 - c13)) + (c2 - c0)) + (c2 - c0)) + (c2 - c0)) + (c2 - c0)) + (c2 - c0)) + (c2 - c0)) + (c7 - c5)) + (c15 - c13)) + (c6 - c4)) + (c6 - c4)) + (c15 - c13)) + (c14 - c12)) + (c11 - c9)) + (c15 - c13)) + (c10 - c8)) + (c10 - c8)) + (c15 - c13)) + (c14 - c12)), ((((((((((((((((((((((((0 + (c7 - c3)) + (c15 - c11)) + (c5 - c1)) + (c5 - c1)) + (c15 - c11)) + (c13 - c9)) + (c7 - c3)) + (c15 - c11)) + (c6 - c2)) + (c6 - c2)) + (c15 - c11)) + (c14 - c10)) + (c4 - c0)) + (c4 - c0)) + (c4 - c0)) + (c4 - c0)) + (c4 - c0)) + (c4 - c0)) + (c15 - c11)) + (c13 - c9)) + (c15 - c11)) + (c14 - c10)) + (c12 - c8)) + (c12 - c8)), ((((((((((((((((((((((((0 + (c15 - c7)) + (c11 - c3)) + (c15 - c7)) + (c13 - c5)) + (c9 - c1)) + (c9 - c1)) + (c15 - c7)) + (c11 - c3)) + (c15 - c7)) + (c14 - c6)) + (c10 - c2)) + (c10 - c2)) + (c15 - c7)) + (c13 - c5)) + (c15 - c7)) + (c14 - c6)) + (c12 - c4)) + (c12 - c4)) + (c8 - c0)) + (c8 - c0)) + (c8 - c0)) + (c8 - c0)) + (c8 - c0)) + (c8 - c0))] := by kernel_rfl
theorem sums4 (c0 c1 c2 c3 c4 c5 c6 c7 c8 c9 c10 c11 c12 c13 c14 c15 : Int) : sumsL [c0, c1, c2, c3, c4, c5, c6, c7, c8, c9, c10, c11, c12, c13, c14, c15] 4 = [(-6) * c0 + (6) * c1 + (-2) * c2 + (2) * c3 + (-2) * c4 + (2) * c5 + (-2) * c6 + (2) * c7 + (-2) * c8 + (2) * c9 + (-2) * c10 + (2) * c11 + (-2) * c12 + (2) * c13 + (-6) * c14 + (6) * c15, (-6) * c0 + (-2) * c1 + (6) * c2 + (2) * c3 + (-2) * c4 + (-2) * c5 + (2) * c6 + (2) * c7 + (-2) * c8 + (-2) * c9 + (2) * c10 + (2) * c11 + (-2) * c12 + (-6) * c13 + (2) * c14 + (6) * c15, (-6) * c0 + (-2) * c1 + (-2) * c2 + (-2) * c3 + (6) * c4 + (2) * c5 + (2) * c6 + (2) * c7 + (-2) * c8 + (-2) * c9 + (-2) * c10 + (-6) * c11 + (2) * c12 + (2) * c13 + (2) * c14 + (6) * c15, (-6) * c0 + (-2) * c1 + (-2) * c2 + (-2) * c3 + (-2) * c4 + (-2) * c5 + (-2) * c6 + (-6) * c7 + (6) * c8 + (2) * c9 + (2) * c10 + (2) * c11 + (2) * c12 + (2) * c13 + (2) * c14 + (6) * c15] := by
  rw [sums4_raw]
  simp only [List.cons.injEq, and_true]
  omega

end Go.Proofs.Ytbidboagaoifaaa
