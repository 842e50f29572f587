/- What goods are worth: plain Lean. -/
import Derived.Test.YtkljambjdiblkaaMem
namespace Go.Proofs.Ytkljambjdiblkaa
open Go.RowKit

/-- Row i of values. -/
def rowV (V : List (List Int)) (i : Nat) : List Int := V.getD i []
/-- Numbers from 0 to 100. -/
def in100 (x : Int) : Bool := decide (0 ≤ x) && decide (x ≤ 100)
/-- Values of n people for m goods. -/
def valV (V : List (List Int)) : Bool := decide (1 ≤ V.length) && decide (V.length ≤ 4) && decide (1 ≤ (rowV V 0).length) && decide ((rowV V 0).length ≤ 7) && V.all fun r => decide (r.length = (rowV V 0).length) && r.all in100
theorem valV_iff {V : List (List Int)} : valV V = true ↔ (1 ≤ V.length ∧ V.length ≤ 4) ∧ (1 ≤ (rowV V 0).length ∧ (rowV V 0).length ≤ 7) ∧ ∀ r ∈ V, r.length = (rowV V 0).length ∧ ∀ x ∈ r, 0 ≤ x ∧ x ≤ 100 := by
  simp only [valV, Bool.and_eq_true, decide_eq_true_eq, List.all_eq_true, in100, and_assoc]
theorem rowV_get {V : List (List Int)} {i : Nat} {r : List Int} (h : V[i]? = some r) : rowV V i = r := by unfold rowV; rw [List.getD_eq_getElem?_getD, h]; rfl

/-- What the goods before g that j has are worth by a row. -/
def worTo (row d : List Int) (j : Int) : Nat → Int
  | 0 => 0
  | g + 1 => worTo row d j g + if d.getD g 0 = j then row.getD g 0 else 0
def wor (V : List (List Int)) (d : List Int) (i : Nat) (j : Int) : Int := worTo (rowV V i) d j d.length
theorem worTo_bd {row : List Int} (h : ∀ x ∈ row, 0 ≤ x ∧ x ≤ 100) (d : List Int) (j : Int) (g : Nat) : 0 ≤ worTo row d j g ∧ worTo row d j g ≤ 100 * g := by
  induction g with
  | zero => simp [worTo]
  | succ g ih =>
    have hb : 0 ≤ row.getD g 0 ∧ row.getD g 0 ≤ 100 := by
      rw [List.getD_eq_getElem?_getD]
      cases hx : row[g]? with
      | none => simp
      | some x => exact h x (List.mem_of_getElem? hx)
    have e : (100 : Int) * ((g + 1 : Nat) : Int) = 100 * g + 100 := by omega
    rw [e]
    simp only [worTo]
    split <;> omega
/-- What everyone has, by their own values. -/
def ownV (V : List (List Int)) (d : List Int) (k : Nat) : List Int := (List.range k).map fun i => wor V d i (i : Int)
theorem ownV_length (V : List (List Int)) (d : List Int) (k : Nat) : (ownV V d k).length = k := by simp [ownV]
theorem ownV_succ (V : List (List Int)) (d : List Int) (k : Nat) : ownV V d (k + 1) = ownV V d k ++ [wor V d k (k : Int)] := by simp [ownV, List.range_succ]
theorem ownV_get {V : List (List Int)} {d : List Int} {k i : Nat} (h : i < k) : (ownV V d k)[i]? = some (wor V d i (i : Int)) := by simp [ownV, h]
end Go.Proofs.Ytkljambjdiblkaa
