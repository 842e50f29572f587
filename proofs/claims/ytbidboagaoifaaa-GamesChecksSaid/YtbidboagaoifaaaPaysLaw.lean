/- Bounds of sums of small fractions: plain Lean. -/
import Derived.Test.YtbidboagaoifaaaFairLaw
namespace Go.Proofs.Ytbidboagaoifaaa
open Go.RowKit

def DQ : Nat → Int
  | 0 => 1
  | k + 1 => DQ k * 24
def MQ : Nat → Int
  | 0 => 0
  | k + 1 => MQ k * 24 + 100000 * DQ k
/-- A sum of k small fractions. -/
def capQ (k : Nat) (p : Rat) : Prop := (p.den : Int) ≤ DQ k ∧ -MQ k ≤ p.num ∧ p.num ≤ MQ k
theorem DQ_pos (k : Nat) : 1 ≤ DQ k := by
  induction k with
  | zero => decide
  | succ k ih => simp only [DQ]; omega
theorem MQ_nonneg (k : Nat) : 0 ≤ MQ k := by
  induction k with
  | zero => decide
  | succ k ih => have := DQ_pos k; simp only [MQ]; omega
theorem cap_zero : capQ 0 0 := by unfold capQ; decide
theorem cap_keep {k : Nat} {p : Rat} (h : capQ k p) : capQ (k + 1) p := by
  obtain ⟨h1, h2, h3⟩ := h
  have := DQ_pos k
  have := MQ_nonneg k
  refine ⟨?_, ?_, ?_⟩ <;> simp only [DQ, MQ] <;> omega
theorem prod_bds {k : Nat} {p q : Rat} (h : capQ k p) (hq : smallQ q) : -(MQ k * 24) ≤ p.num * q.den ∧ p.num * q.den ≤ MQ k * 24 ∧ -(100000 * DQ k) ≤ q.num * p.den ∧ q.num * p.den ≤ 100000 * DQ k ∧ (p.den : Int) * q.den ≤ DQ k * 24 := by
  obtain ⟨h1, h2, h3⟩ := h
  obtain ⟨g1, g2, g3⟩ := hq
  have dp := den_pos p
  have dq := den_pos q
  have a1 := mul_bd h2 h3 (by omega) g1
  have a2 := mul_bd g2 g3 (by omega) h1
  have a3 := mul_bd (m := DQ k) (by omega) h1 (by omega) g1
  exact ⟨a1.1, a1.2, a2.1, a2.2, a3.2⟩
theorem cap_add {k : Nat} {p q : Rat} (h : capQ k p) (hq : smallQ q) : capQ (k + 1) (p + q) := by
  obtain ⟨a1, a2, a3, a4, a5⟩ := prod_bds h hq
  have hd : 0 < (p.den : Int) * q.den := Int.mul_pos (den_pos p) (den_pos q)
  rw [capQ, ← add_divInt]
  have b1 := divInt_bd (a := p.num * q.den + q.num * p.den) hd (m := MQ k * 24 + 100000 * DQ k) (by omega) (by omega)
  have b2 := divInt_den_le (a := p.num * q.den + q.num * p.den) hd
  exact ⟨by simp only [DQ]; omega, b1.1, b1.2⟩
theorem prod_bds_small {p q : Rat} (hp : smallQ p) (hq : smallQ q) : -4000000000000000000 ≤ p.num * q.den ∧ p.num * q.den ≤ 4000000000000000000 ∧ -4000000000000000000 ≤ q.num * p.den ∧ q.num * p.den ≤ 4000000000000000000 ∧ (p.den : Int) * q.den ≤ 4000000000000000000 := by
  have h1 : capQ 1 p := ⟨hp.1, hp.2.1, hp.2.2⟩
  have := prod_bds h1 hq
  have e1 : MQ 1 = 100000 := rfl
  have e2 : DQ 1 = 24 := rfl
  rw [e1, e2] at this
  omega
theorem DQ_le {k : Nat} (h : k ≤ 4) : DQ k ≤ 331776 ∧ MQ k ≤ 5529600000 := by
  match k, h with
  | 0, _ => decide
  | 1, _ => decide
  | 2, _ => decide
  | 3, _ => decide
  | 4, _ => decide
theorem cap_pays {qs : List Rat} (h : ∀ q ∈ qs, smallQ q) (set k : Nat) (hk : k ≤ qs.length) : capQ k (paysTo qs set k) := by
  induction k with
  | zero => exact cap_zero
  | succ k ih =>
    have h1 := ih (by omega)
    rw [paysTo_succ]
    split
    · have : qs.getD k 0 = qs[k] := by rw [List.getD_eq_getElem?_getD, List.getElem?_eq_getElem (by omega)]; rfl
      rw [this]
      exact cap_add h1 (h _ (List.getElem_mem _))
    · exact cap_keep h1
end Go.Proofs.Ytbidboagaoifaaa
