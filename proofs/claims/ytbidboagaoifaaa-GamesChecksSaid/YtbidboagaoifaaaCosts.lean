/- What valid costs are, as plain Lean; no program. -/
import Derived.Test.YtbidboagaoifaaaMem
namespace Go.Proofs.Ytbidboagaoifaaa
open Go.RowKit

/-- A number from 0 to 1000. -/
def inR (x : Int) : Bool := decide (0 ≤ x) && decide (x ≤ 1000)
/-- Valid costs. -/
def valC (xs : List Int) : Bool := (decide (xs.length = 2) || decide (xs.length = 4) || decide (xs.length = 8) || decide (xs.length = 16)) && (xs.getD 0 1 == 0) && xs.all inR
/-- How many players; 0: the costs are not valid. -/
def plr (xs : List Int) : Nat := if valC xs then (if xs.length = 2 then 1 else if xs.length = 4 then 2 else if xs.length = 8 then 3 else 4) else 0
theorem plr_bad {xs : List Int} (h : valC xs = false) : plr xs = 0 := by simp [plr, h]
theorem valC_len {xs : List Int} (h : xs.length ≠ 2 ∧ xs.length ≠ 4 ∧ xs.length ≠ 8 ∧ xs.length ≠ 16) : valC xs = false := by simp [valC, h]
theorem valC_elem {xs : List Int} {k : Nat} {x : Int} (hx : xs[k]? = some x) (h : inR x = false) : valC xs = false := by
  have : xs.all inR = false := by
    rw [List.all_eq_false]
    exact ⟨x, List.mem_of_getElem? hx, by simp [h]⟩
  simp [valC, this]
theorem valC_head {xs : List Int} {x : Int} (hx : xs[0]? = some x) (h : (x == 0) = false) : valC xs = false := by
  have : xs.getD 0 1 = x := by rw [List.getD_eq_getElem?_getD, hx]; rfl
  simp only [valC, this, h]; simp
theorem valC_ok {xs : List Int} {x : Int} (hl : xs.length = 2 ∨ xs.length = 4 ∨ xs.length = 8 ∨ xs.length = 16) (hx : xs[0]? = some x) (h : (x == 0) = true) (ha : xs.all inR = true) : valC xs = true := by
  have e : xs.getD 0 1 = x := by rw [List.getD_eq_getElem?_getD, hx]; rfl
  simp only [valC, e, h, ha]
  rcases hl with h | h | h | h <;> simp [h]
theorem all_take_succ {xs : List Int} {k : Nat} {x : Int} (hx : xs[k]? = some x) (h : (xs.take k).all inR = true) (hr : inR x = true) : (xs.take (k + 1)).all inR = true := by
  rw [take_succ' hx, List.all_append, h]; simp [hr]
theorem valC_iff {xs : List Int} : valC xs = true ↔ (xs.length = 2 ∨ xs.length = 4 ∨ xs.length = 8 ∨ xs.length = 16) ∧ xs.getD 0 1 = 0 ∧ ∀ x ∈ xs, 0 ≤ x ∧ x ≤ 1000 := by
  simp [valC, inR, and_assoc, or_assoc]
theorem valC_pow {c : List Int} (h : valC c = true) : c.length = 2 ^ plr c ∧ 1 ≤ plr c ∧ plr c ≤ 4 := by
  have h1 := (valC_iff.1 h).1
  unfold plr
  rw [if_pos h]
  rcases h1 with h | h | h | h <;> simp [h]
theorem take18 {xs : List Int} (h : xs.length ≤ 18) : xs.take 18 = xs := List.take_of_length_le h
theorem valC_take (xs : List Int) : valC (xs.take 18) = valC xs := by
  by_cases h : xs.length ≤ 18
  · rw [take18 h]
  · rw [valC_len (xs := xs) (by omega), valC_len (by rw [List.length_take]; omega)]

end Go.Proofs.Ytbidboagaoifaaa
