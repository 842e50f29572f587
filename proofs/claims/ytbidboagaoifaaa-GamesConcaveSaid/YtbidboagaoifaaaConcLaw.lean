/- The first two sets that show that costs are not concave: plain Lean. -/
import Derived.Test.YtbidboagaoifaaaBits
import Derived.Test.YtbidboagaoifaaaCosts
namespace Go.Proofs.Ytbidboagaoifaaa
open Go.RowKit

def badB (c : List Int) (a b : Nat) : Bool := decide (c.getD a 0 + c.getD b 0 < c.getD (a ||| b) 0 + c.getD (a &&& b) 0)
def concL (c : List Int) : Nat × Nat × Nat :=
  match (List.range (c.length * c.length)).find? (fun t => badB c (t / c.length) (t % c.length)) with
  | some t => (t / c.length, t % c.length, 0)
  | none => (0, 0, 4)
/-- No two sets before these show it. -/
def noneTo (c : List Int) (t : Nat) : Prop := ∀ s, s < t → badB c (s / c.length) (s % c.length) = false
theorem noneTo_zero (c : List Int) : noneTo c 0 := fun s h => by omega
theorem div_pos_eq {N a b : Nat} (hb : b < N) : (a * N + b) / N = a ∧ (a * N + b) % N = b := by
  constructor
  · rw [Nat.mul_comm, Nat.mul_add_div (by omega), Nat.div_eq_of_lt hb, Nat.add_zero]
  · rw [Nat.mul_comm, Nat.mul_add_mod, Nat.mod_eq_of_lt hb]
theorem noneTo_succ {c : List Int} {a b : Nat} (h : noneTo c (a * c.length + b)) (hb : b < c.length) (hn : badB c a b = false) : noneTo c (a * c.length + (b + 1)) := by
  intro s hs
  rcases Nat.lt_or_ge s (a * c.length + b) with h1 | h1
  · exact h s h1
  · obtain rfl : s = a * c.length + b := by omega
    obtain ⟨e1, e2⟩ := div_pos_eq (a := a) hb
    rw [e1, e2]; exact hn
theorem noneTo_row {c : List Int} {a : Nat} (h : noneTo c (a * c.length + c.length)) : noneTo c ((a + 1) * c.length) := by rwa [Nat.succ_mul]
theorem concL_hit {c : List Int} {a b : Nat} (h : noneTo c (a * c.length + b)) (ha : a < c.length) (hb : b < c.length) (hx : badB c a b = true) : concL c = (a, b, 0) := by
  obtain ⟨e1, e2⟩ := div_pos_eq (a := a) hb
  have hlt : a * c.length + b < c.length * c.length := by
    have : (a + 1) * c.length ≤ c.length * c.length := Nat.mul_le_mul_right _ ha
    rw [Nat.succ_mul] at this; omega
  have : (List.range (c.length * c.length)).find? (fun t => badB c (t / c.length) (t % c.length)) = some (a * c.length + b) := by
    rw [List.find?_range_eq_some]
    refine ⟨by rw [e1, e2]; exact hx, List.mem_range.2 hlt, fun j hj => by simp [h j hj]⟩
  unfold concL
  rw [this]
  simp only [e1, e2]
theorem concL_miss {c : List Int} (h : noneTo c (c.length * c.length)) : concL c = (0, 0, 4) := by
  have : (List.range (c.length * c.length)).find? (fun t => badB c (t / c.length) (t % c.length)) = none := by
    rw [List.find?_eq_none]
    intro t ht
    simp [h t (List.mem_range.1 ht)]
  unfold concL
  rw [this]
theorem and_lt {a b N : Nat} (h : a < N) : a &&& b < N := Nat.lt_of_le_of_lt Nat.and_le_left h
theorem valC_pow {c : List Int} (h : valC c = true) : c.length = 2 ^ plr c ∧ 1 ≤ plr c ∧ plr c ≤ 4 := by
  have h1 := (valC_iff.1 h).1
  unfold plr
  rw [if_pos h]
  rcases h1 with h | h | h | h <;> simp [h]
end Go.Proofs.Ytbidboagaoifaaa
