/- Envy and the kinds of fairness: plain Lean. -/
import Derived.Test.YtkljambjdiblkaaSDivLaw
import Derived.Test.YtkljambjdiblkaaSLaw
namespace Go.Proofs.Ytkljambjdiblkaa
open Go.RowKit

/-- i envies j. -/
def envB (V : List (List Int)) (d : List Int) (i j : Nat) : Bool := decide (wor V d i (i : Int) < wor V d i (j : Int))
def envRow (V : List (List Int)) (d : List Int) (i k : Nat) : List (Nat × Nat) := ((List.range k).filter fun j => envB V d i j).map fun j => (i, j)
def envTo (V : List (List Int)) (d : List Int) (n k : Nat) : List (Nat × Nat) := (List.range k).flatMap fun i => envRow V d i n
def envL (V : List (List Int)) (d : List Int) (n : Nat) : List (Nat × Nat) := envTo V d n n
theorem envRow_succ (V : List (List Int)) (d : List Int) (i k : Nat) : envRow V d i (k + 1) = envRow V d i k ++ if envB V d i k then [(i, k)] else [] := by
  unfold envRow
  rw [List.range_succ, List.filter_append, List.map_append]
  congr 1
  by_cases h : envB V d i k <;> simp [h]
theorem envTo_succ (V : List (List Int)) (d : List Int) (n k : Nat) : envTo V d n (k + 1) = envTo V d n k ++ envRow V d k n := by
  unfold envTo; rw [List.range_succ, List.flatMap_append]; simp
theorem envRow_length (V : List (List Int)) (d : List Int) (i k : Nat) : (envRow V d i k).length ≤ k := by
  unfold envRow; rw [List.length_map]
  exact Nat.le_trans (List.length_filter_le _ _) (by simp)
theorem envTo_length (V : List (List Int)) (d : List Int) (n k : Nat) : (envTo V d n k).length ≤ n * k := by
  induction k with
  | zero => simp [envTo]
  | succ k ih => rw [envTo_succ, List.length_append]; have := envRow_length V d k n; rw [Nat.mul_add]; omega
theorem mem_envL {V : List (List Int)} {d : List Int} {n : Nat} {p : Nat × Nat} : p ∈ envL V d n ↔ p.1 < n ∧ p.2 < n ∧ envB V d p.1 p.2 = true := by
  unfold envL envTo envRow
  simp only [List.mem_flatMap, List.mem_range, List.mem_map, List.mem_filter]
  constructor
  · rintro ⟨i, hi, j, ⟨hj, he⟩, rfl⟩; exact ⟨hi, hj, he⟩
  · rintro ⟨h1, h2, h3⟩; exact ⟨p.1, h1, p.2, ⟨h2, h3⟩, rfl⟩

/-- Without good g of j, i would not envy j. -/
def enough (V : List (List Int)) (d : List Int) (i j g : Nat) : Bool := decide (wor V d i (j : Int) - (rowV V i).getD g 0 ≤ wor V d i (i : Int))
def someE (V : List (List Int)) (d : List Int) (i j k : Nat) : Bool := (List.range k).any fun g => decide (d.getD g 0 = (j : Int)) && enough V d i j g
def eachE (V : List (List Int)) (d : List Int) (i j k : Nat) : Bool := (List.range k).all fun g => !decide (d.getD g 0 = (j : Int)) || enough V d i j g
def upTo (V : List (List Int)) (d : List Int) (i j : Nat) (any : Bool) (k : Nat) : Bool := if any then eachE V d i j k else someE V d i j k
def upB (V : List (List Int)) (d : List Int) (i j : Nat) (any : Bool) : Bool := upTo V d i j any d.length
theorem someE_succ (V : List (List Int)) (d : List Int) (i j k : Nat) : someE V d i j (k + 1) = (someE V d i j k || (decide (d.getD k 0 = (j : Int)) && enough V d i j k)) := by
  simp [someE, List.range_succ]
theorem eachE_succ (V : List (List Int)) (d : List Int) (i j k : Nat) : eachE V d i j (k + 1) = (eachE V d i j k && (!decide (d.getD k 0 = (j : Int)) || enough V d i j k)) := by
  simp [eachE, List.range_succ]
theorem upTo_zero (V : List (List Int)) (d : List Int) (i j : Nat) (any : Bool) : upTo V d i j any 0 = any := by cases any <;> simp [upTo, someE, eachE]
theorem upTo_other {V : List (List Int)} {d : List Int} {i j k : Nat} {any : Bool} (h : d.getD k 0 ≠ (j : Int)) : upTo V d i j any (k + 1) = upTo V d i j any k := by
  have e : decide (d.getD k 0 = (j : Int)) = false := decide_eq_false h
  cases any
  · show someE V d i j (k + 1) = someE V d i j k
    rw [someE_succ, e, Bool.false_and, Bool.or_false]
  · show eachE V d i j (k + 1) = eachE V d i j k
    rw [eachE_succ, e, Bool.not_false, Bool.true_or, Bool.and_true]
theorem upTo_same {V : List (List Int)} {d : List Int} {i j k : Nat} {any : Bool} (h : enough V d i j k = any) (h2 : upTo V d i j any k = any) : upTo V d i j any (k + 1) = any := by
  cases any
  · simp only [upTo, Bool.false_eq_true, if_false] at h2 ⊢; rw [someE_succ, h2, h]; simp
  · simp only [upTo, if_true] at h2 ⊢; rw [eachE_succ, h2, h]; simp
theorem upTo_diff {V : List (List Int)} {d : List Int} {i j k : Nat} {any : Bool} (hd : d.getD k 0 = (j : Int)) (hk : k < d.length) (h : enough V d i j k ≠ any) : upB V d i j any = enough V d i j k := by
  cases any
  · have he : enough V d i j k = true := by simpa using h
    rw [he]
    simp only [upB, upTo, Bool.false_eq_true, if_false, someE, List.any_eq_true]
    exact ⟨k, List.mem_range.2 hk, by rw [he, decide_eq_true hd]; rfl⟩
  · have he : enough V d i j k = false := by simpa using h
    rw [he]
    simp only [upB, upTo, if_true, eachE, List.all_eq_false]
    exact ⟨k, List.mem_range.2 hk, by rw [he, decide_eq_true hd]; simp⟩
theorem upB_some {V : List (List Int)} {d : List Int} {i j : Nat} : upB V d i j false = true ↔ ∃ g, g < d.length ∧ d.getD g 0 = (j : Int) ∧ wor V d i (j : Int) - (rowV V i).getD g 0 ≤ wor V d i (i : Int) := by
  simp only [upB, upTo, Bool.false_eq_true, if_false, someE, List.any_eq_true, List.mem_range, Bool.and_eq_true, decide_eq_true_eq, enough]
theorem upB_each {V : List (List Int)} {d : List Int} {i j : Nat} : upB V d i j true = true ↔ ∀ g, g < d.length → d.getD g 0 = (j : Int) → wor V d i (j : Int) - (rowV V i).getD g 0 ≤ wor V d i (i : Int) := by
  simp only [upB, upTo, if_true, eachE, List.all_eq_true, List.mem_range, Bool.or_eq_true, Bool.not_eq_true', decide_eq_false_iff_not, decide_eq_true_eq, enough]
  constructor
  · intro h g hg hd
    rcases h g hg with h1 | h1
    · exact absurd hd h1
    · exact h1
  · intro h g hg
    by_cases hd : d.getD g 0 = (j : Int)
    · exact .inr (h g hg hd)
    · exact .inl hd

/-- i has their part, with so much more. -/
def partB (V : List (List Int)) (d : List Int) (n i : Nat) (x : Int) : Bool := decide ((rowV V i).sum ≤ (wor V d i (i : Int) + x) * n)
/-- The greatest worth of a good of another person. -/
def mostTo (row d : List Int) (i : Nat) : Nat → Int
  | 0 => 0
  | g + 1 => if d.getD g 0 = (i : Int) then mostTo row d i g else max (mostTo row d i g) (row.getD g 0)
theorem mostTo_bd {row : List Int} (h : ∀ x ∈ row, 0 ≤ x ∧ x ≤ 100) (d : List Int) (i g : Nat) : 0 ≤ mostTo row d i g ∧ mostTo row d i g ≤ 100 := by
  induction g with
  | zero => simp [mostTo]
  | succ g ih =>
    have hb : 0 ≤ row.getD g 0 ∧ row.getD g 0 ≤ 100 := by
      rw [List.getD_eq_getElem?_getD]
      cases hx : row[g]? with
      | none => simp
      | some x => exact h x (List.mem_of_getElem? hx)
    simp only [mostTo]
    split <;> omega
/-- An envy is allowed in a kind. -/
def okE (V : List (List Int)) (d : List Int) (kind : Int) (i j : Nat) : Bool := (decide (kind = 1) && upB V d i j false) || (decide (kind = 2) && upB V d i j true)
def moreK (V : List (List Int)) (d : List Int) (kind : Int) (i : Nat) : Int := if kind = 4 then mostTo (rowV V i) d i d.length else 0
def fairB (V : List (List Int)) (d : List Int) (n : Nat) (kind : Int) : Bool :=
  if kind < 3 then (List.range n).all fun i => (List.range n).all fun j => !envB V d i j || okE V d kind i j
  else (List.range n).all fun i => partB V d n i (moreK V d kind i)
theorem fairB_low {V : List (List Int)} {d : List Int} {n : Nat} {kind : Int} (h : kind < 3) : fairB V d n kind = (envL V d n).all fun p => okE V d kind p.1 p.2 := by
  unfold fairB
  rw [if_pos h, Bool.eq_iff_iff]
  simp only [List.all_eq_true, List.mem_range, Bool.or_eq_true, Bool.not_eq_true']
  constructor
  · intro hh p hp
    obtain ⟨h1, h2, h3⟩ := mem_envL.1 hp
    rcases hh p.1 h1 p.2 h2 with h4 | h4
    · rw [h3] at h4; cases h4
    · exact h4
  · intro hh i hi j hj
    cases he : envB V d i j
    · exact .inl rfl
    · exact .inr (hh (i, j) (mem_envL.2 ⟨hi, hj, he⟩))
theorem fairB_high {V : List (List Int)} {d : List Int} {n : Nat} {kind : Int} (h : 3 ≤ kind) : fairB V d n kind = (List.range n).all fun i => partB V d n i (moreK V d kind i) := by
  unfold fairB; rw [if_neg (by omega)]
end Go.Proofs.Ytkljambjdiblkaa
