/- Fractions in lowest terms are rational numbers: the plain law behind the walks over api.Frac. No program. -/
import Derived.Test.YtbidboagaoifaaaMem
namespace Go.Proofs.Ytbidboagaoifaaa
open Go.RowKit

/-- A rational number as the program's fraction. -/
def fr (q : Rat) : Value := .agg #[.int .i64 q.num, .int .i64 (q.den : Int)]

theorem gcd_nat (a b : Int) : (Int.gcd a b : Int) = Nat.gcd a.natAbs b.natAbs := rfl
theorem gcd_step (a b : Int) : Int.gcd b (a.tmod b) = Int.gcd a b := by
  unfold Int.gcd
  rw [Int.natAbs_tmod, Nat.gcd_comm a.natAbs, ← Nat.gcd_rec b.natAbs a.natAbs |>.symm, Nat.gcd_comm]
theorem gcd_pos {a b : Int} (h : 0 < b) : 0 < (Int.gcd a b : Int) := by
  have := Int.gcd_pos_of_ne_zero_right a (show b ≠ 0 by omega); omega
theorem gcd_le {a b : Int} (h : 0 < b) : (Int.gcd a b : Int) ≤ b := by
  have h1 : Int.gcd a b ≤ b.natAbs := Nat.gcd_le_right _ (by omega)
  omega
theorem div_num {a b : Int} (h : 0 < b) : a.tdiv (Int.gcd a b) = (Rat.divInt a b).num := by
  rw [Rat.num_divInt, Int.gcd_comm b a, Int.sign_eq_one_of_pos h, Int.one_mul]
  exact Int.tdiv_eq_ediv_of_dvd (Int.gcd_dvd_left a b)
theorem div_den {a b : Int} (h : 0 < b) : b.tdiv (Int.gcd a b) = ((Rat.divInt a b).den : Int) := by
  rw [Rat.den_divInt, if_neg (by omega), Int.gcd_comm b a, Int.tdiv_eq_ediv_of_dvd (Int.gcd_dvd_right a b)]
  obtain ⟨n, rfl⟩ := Int.eq_ofNat_of_zero_le (Int.le_of_lt h)
  simp
theorem tdiv_bd {a g : Int} {m : Int} (h1 : -m ≤ a) (h2 : a ≤ m) : -m ≤ a.tdiv g ∧ a.tdiv g ≤ m := by
  have h3 : (a.tdiv g).natAbs ≤ a.natAbs := by rw [Int.natAbs_tdiv]; exact Nat.div_le_self _ _
  omega
theorem divInt_bd {a b : Int} (h : 0 < b) {m : Int} (h1 : -m ≤ a) (h2 : a ≤ m) : -m ≤ (Rat.divInt a b).num ∧ (Rat.divInt a b).num ≤ m := by
  rw [← div_num h]; exact tdiv_bd h1 h2
theorem divInt_den_le {a b : Int} (h : 0 < b) : ((Rat.divInt a b).den : Int) ≤ b := by
  rw [← div_den h]
  have := gcd_pos (a := a) h
  rw [Int.tdiv_eq_ediv_of_nonneg (by omega)]
  exact Int.ediv_le_self _ (by omega)
theorem fr_inj {p q : Rat} : fr p = fr q ↔ p = q := by
  constructor
  · intro h
    simp only [fr, Value.agg.injEq, Array.mk.injEq, List.cons.injEq, Value.int.injEq, true_and, and_true] at h
    exact Rat.ext h.1 (by omega)
  · rintro rfl; rfl
theorem den_pos (q : Rat) : 0 < (q.den : Int) := by have := q.den_pos; omega
theorem add_divInt (p q : Rat) : Rat.divInt (p.num * q.den + q.num * p.den) (p.den * q.den) = p + q := by
  rw [Rat.add_def', ← Rat.divInt_ofNat]; simp
theorem sub_divInt (p q : Rat) : Rat.divInt (p.num * q.den - q.num * p.den) (p.den * q.den) = p - q := by
  rw [Rat.sub_def', ← Rat.divInt_ofNat]; simp
theorem mul_divInt (p q : Rat) : Rat.divInt (p.num * q.num) (p.den * q.den) = p * q := by
  rw [Rat.mul_def', ← Rat.divInt_ofNat]; simp
theorem less_iff (p q : Rat) : decide (p.num * q.den < q.num * p.den) = decide (p < q) := by
  rw [decide_eq_decide]; exact (Rat.lt_iff p q).symm
/-- A pair in lowest terms is a rational number. -/
theorem lowest_rat {a b : Int} (h : 0 < b) (hg : Int.gcd a b = 1) : ∃ q : Rat, q.num = a ∧ (q.den : Int) = b := by
  refine ⟨Rat.divInt a b, ?_, ?_⟩
  · rw [← div_num h, hg]; simp
  · rw [← div_den h, hg]; simp
theorem rat_lowest (q : Rat) : Int.gcd q.num q.den = 1 := q.reduced
/-- A small product. -/
theorem mul_bd {a b m n : Int} (h1 : -m ≤ a) (h2 : a ≤ m) (h3 : 0 ≤ b) (h4 : b ≤ n) : -(m * n) ≤ a * b ∧ a * b ≤ m * n := by
  have hm : 0 ≤ m := by omega
  have ha : a.natAbs ≤ m.natAbs := by omega
  have hb : b.natAbs ≤ n.natAbs := by omega
  have h := Nat.mul_le_mul ha hb
  rw [← Int.natAbs_mul, ← Int.natAbs_mul] at h
  have : 0 ≤ m * n := Int.mul_nonneg hm (by omega)
  omega
end Go.Proofs.Ytbidboagaoifaaa
