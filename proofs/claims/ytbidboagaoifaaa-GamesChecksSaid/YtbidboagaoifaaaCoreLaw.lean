/- Payments in the core, and the set that objects most, by whole numbers and by fractions: plain Lean. -/
import Derived.Test.YtbidboagaoifaaaPayments
namespace Go.Proofs.Ytbidboagaoifaaa
open Go.RowKit

/-- What the set s pays, times payDen. -/
def pI (ps : List (Int × Int)) (n s : Nat) : Int := payT (payN ps) n s
/-- Payments of the players that sum to the cost of all. -/
def sumB (c : List Int) (ps : List (Int × Int)) (n : Nat) : Bool := payB n ps && decide (pI ps n (2 ^ n - 1) = c.getD (2 ^ n - 1) 0 * PD)
def coreTo (c : List Int) (ps : List (Int × Int)) (n k : Nat) : Bool := (List.range k).all fun s => decide (pI ps n s ≤ c.getD s 0 * PD)
def coreI (c : List Int) (ps : List (Int × Int)) (n : Nat) : Bool := sumB c ps n && coreTo c ps n (2 ^ n)
/-- The same by fractions. -/
def coreRTo (c : List Int) (qs : List Rat) (k : Nat) : Bool := (List.range k).all fun s => !decide (((c.getD s 0 : Int) : Rat) < paysL qs s)
theorem coreTo_succ (c : List Int) (ps : List (Int × Int)) (n k : Nat) : coreTo c ps n (k + 1) = (coreTo c ps n k && decide (pI ps n k ≤ c.getD k 0 * PD)) := by
  simp [coreTo, List.range_succ]
theorem coreTo_stop {c : List Int} {ps : List (Int × Int)} {n k N : Nat} (h : k < N) (hb : ¬ pI ps n k ≤ c.getD k 0 * PD) : coreTo c ps n N = false := by
  unfold coreTo
  rw [List.all_eq_false]
  exact ⟨k, by simpa using h, by simpa using hb⟩
theorem coreRTo_succ (c : List Int) (qs : List Rat) (k : Nat) : coreRTo c qs (k + 1) = (coreRTo c qs k && !decide (((c.getD k 0 : Int) : Rat) < paysL qs k)) := by
  simp [coreRTo, List.range_succ]
theorem coreRTo_stop {c : List Int} {qs : List Rat} {k N : Nat} (h : k < N) (hb : ((c.getD k 0 : Int) : Rat) < paysL qs k) : coreRTo c qs N = false := by
  unfold coreRTo
  rw [List.all_eq_false]
  exact ⟨k, by simpa using h, by simpa using hb⟩

theorem smallQ_dvd {q : Rat} (h : smallQ q) : (q.den : Int) ∣ PD := PD_dvd (by have := den_pos q; omega) h.1
theorem pI_rat {qs : List Rat} {n : Nat} (hl : qs.length = n) (h : ∀ q ∈ qs, smallQ q) (s : Nat) : ((pI (qs.map pr) n s : Int) : Rat) = (PD : Rat) * paysL qs s := by
  have := payT_rat (D := PD) (fun q hq => smallQ_dvd (h q hq)) s n (by omega)
  rw [show paysL qs s = paysTo qs s n from by rw [paysL, hl]; rfl]
  exact this
theorem rat_lt_scale (x y : Rat) : (PD : Rat) * x < (PD : Rat) * y ↔ x < y := Rat.mul_lt_mul_left PD_pos
theorem rat_eq_scale (x y : Rat) : (PD : Rat) * x = (PD : Rat) * y ↔ x = y := by
  constructor
  · intro h
    have h0 : (PD : Rat) ≠ 0 := by decide +kernel
    have e : ∀ z : Rat, (PD : Rat) * z / (PD : Rat) = z := fun z => by rw [Rat.mul_comm, Rat.mul_div_cancel h0]
    rw [← e x, h, e y]
  · rintro rfl; rfl
theorem pI_le {qs : List Rat} {n : Nat} (hl : qs.length = n) (h : ∀ q ∈ qs, smallQ q) (s : Nat) (x : Int) : pI (qs.map pr) n s ≤ x * PD ↔ ¬ ((x : Rat) < paysL qs s) := by
  rw [← rat_lt_scale, ← pI_rat hl h, Rat.not_lt, Rat.mul_comm, ← Rat.intCast_mul, Rat.intCast_le_intCast]
theorem pI_eq {qs : List Rat} {n : Nat} (hl : qs.length = n) (h : ∀ q ∈ qs, smallQ q) (s : Nat) (x : Int) : pI (qs.map pr) n s = x * PD ↔ paysL qs s = (x : Rat) := by
  rw [← rat_eq_scale, ← pI_rat hl h, Rat.mul_comm, ← Rat.intCast_mul, Rat.intCast_inj]
theorem coreTo_R {c : List Int} {qs : List Rat} {n : Nat} (hl : qs.length = n) (h : ∀ q ∈ qs, smallQ q) (k : Nat) : coreTo c (qs.map pr) n k = coreRTo c qs k := by
  induction k with
  | zero => rfl
  | succ k ih =>
    rw [coreTo_succ, coreRTo_succ, ih]
    congr 1
    rw [Bool.eq_iff_iff]
    simp only [decide_eq_true_eq, Bool.not_eq_true', decide_eq_false_iff_not]
    exact pI_le hl h k _
theorem sumB_R {c : List Int} {qs : List Rat} {n : Nat} (hl : qs.length = n) (h : ∀ q ∈ qs, smallQ q) : sumB c (qs.map pr) n = decide (paysL qs (2 ^ n - 1) = ((c.getD (2 ^ n - 1) 0 : Int) : Rat)) := by
  unfold sumB
  rw [payB_of hl h, Bool.true_and, decide_eq_decide]
  exact pI_eq hl h _ _

/-- The set that objects most, so far: by whole numbers. -/
def objI (c : List Int) (ps : List (Int × Int)) (n : Nat) : Nat → Nat × Int
  | 0 => (0, 0)
  | k + 1 => let p := objI c ps n k; if p.2 < pI ps n k - c.getD k 0 * PD then (k, pI ps n k - c.getD k 0 * PD) else p
/-- By fractions. -/
def objR (c : List Int) (qs : List Rat) : Nat → Nat × Rat
  | 0 => (0, 0)
  | k + 1 => let p := objR c qs k; if p.2 < paysL qs k - ((c.getD k 0 : Int) : Rat) then (k, paysL qs k - ((c.getD k 0 : Int) : Rat)) else p
theorem obj_R {c : List Int} {qs : List Rat} {n : Nat} (hl : qs.length = n) (h : ∀ q ∈ qs, smallQ q) (k : Nat) : (objI c (qs.map pr) n k).1 = (objR c qs k).1 ∧ (((objI c (qs.map pr) n k).2 : Int) : Rat) = (PD : Rat) * (objR c qs k).2 := by
  induction k with
  | zero => exact ⟨rfl, by simp [objI, objR]⟩
  | succ k ih =>
    have e : ((pI (qs.map pr) n k - c.getD k 0 * PD : Int) : Rat) = (PD : Rat) * (paysL qs k - ((c.getD k 0 : Int) : Rat)) := by
      rw [Rat.intCast_sub, pI_rat hl h, Rat.intCast_mul, Rat.sub_eq_add_neg, Rat.sub_eq_add_neg, Rat.mul_add, Rat.mul_comm ((c.getD k 0 : Int) : Rat), Rat.mul_neg]
    simp only [objI, objR]
    by_cases hlt : (objR c qs k).2 < paysL qs k - ((c.getD k 0 : Int) : Rat)
    · rw [if_pos hlt, if_pos (by rw [← Rat.intCast_lt_intCast, ih.2, e, rat_lt_scale]; exact hlt)]
      exact ⟨rfl, e⟩
    · rw [if_neg hlt, if_neg (by rw [← Rat.intCast_lt_intCast, ih.2, e, rat_lt_scale]; exact hlt)]
      exact ih
theorem objI_nonneg (c : List Int) (ps : List (Int × Int)) (n k : Nat) : 0 ≤ (objI c ps n k).2 := by
  induction k with
  | zero => simp [objI]
  | succ k ih => simp only [objI]; split <;> omega
theorem objI_lt (c : List Int) (ps : List (Int × Int)) (n k : Nat) : (objI c ps n k).1 ≤ k ∧ (0 < k → (objI c ps n k).1 < k) := by
  induction k with
  | zero => simp [objI]
  | succ k ih => simp only [objI]; split <;> simp <;> omega
/-- Whoever objects pays more than the cost. -/
theorem objI_more (c : List Int) (ps : List (Int × Int)) (n k : Nat) (h : (objI c ps n k).1 ≠ 0) : c.getD (objI c ps n k).1 0 * PD < pI ps n (objI c ps n k).1 := by
  induction k with
  | zero => simp [objI] at h
  | succ k ih =>
    simp only [objI] at h ⊢
    split
    · rename_i hlt
      have := objI_nonneg c ps n k
      simp only
      omega
    · rename_i hlt
      rw [if_neg hlt] at h
      exact ih h
/-- Nobody objects exactly if no set pays more than its cost. -/
theorem objI_core (c : List Int) (ps : List (Int × Int)) (n k : Nat) (h0 : pI ps n 0 ≤ c.getD 0 0 * PD) : decide ((objI c ps n k).1 = 0) = coreTo c ps n k ∧ ((objI c ps n k).1 = 0 → (objI c ps n k).2 = 0) := by
  induction k with
  | zero => simp [objI, coreTo]
  | succ k ih =>
    rw [coreTo_succ, ← ih.1]
    by_cases hlt : (objI c ps n k).2 < pI ps n k - c.getD k 0 * PD
    · have e : objI c ps n (k + 1) = (k, pI ps n k - c.getD k 0 * PD) := by simp only [objI]; rw [if_pos hlt]
      rw [e]
      have hn := objI_nonneg c ps n k
      have hk : k ≠ 0 := by rintro rfl; omega
      have : ¬ pI ps n k ≤ c.getD k 0 * PD := by omega
      rw [decide_eq_false this, Bool.and_false]
      exact ⟨decide_eq_false hk, fun h => absurd h hk⟩
    · have e : objI c ps n (k + 1) = objI c ps n k := by simp only [objI]; rw [if_neg hlt]
      rw [e]
      refine ⟨?_, ih.2⟩
      by_cases hz : (objI c ps n k).1 = 0
      · have := ih.2 hz
        have h2 : pI ps n k ≤ c.getD k 0 * PD := by omega
        rw [decide_eq_true h2, Bool.and_true]
      · rw [decide_eq_false hz, Bool.false_and]
theorem pI_zero (ps : List (Int × Int)) (n : Nat) : pI ps n 0 = 0 := by
  unfold pI
  induction n with
  | zero => rfl
  | succ n ih => simp [payT, ih]
end Go.Proofs.Ytbidboagaoifaaa
