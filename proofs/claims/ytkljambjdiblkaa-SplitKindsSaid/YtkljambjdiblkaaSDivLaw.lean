/- All divisions in order: numbers written with so many digits. Plain Lean. -/
import Derived.Test.YtkljambjdiblkaaMem
namespace Go.Proofs.Ytkljambjdiblkaa
open Go.RowKit

/-- t with m digits to the base n, the greatest first. -/
def dig (n : Nat) : Nat → Nat → List Nat
  | 0, _ => []
  | m + 1, t => dig n m (t / n) ++ [t % n]
def dz (n m t : Nat) : List Int := (dig n m t).map Int.ofNat
theorem dig_length (n m t : Nat) : (dig n m t).length = m := by
  induction m generalizing t with
  | zero => rfl
  | succ m ih => simp [dig, ih]
theorem dz_length (n m t : Nat) : (dz n m t).length = m := by simp [dz, dig_length]
theorem dig_lt {n : Nat} (hn : 0 < n) (m t : Nat) : ∀ x ∈ dig n m t, x < n := by
  induction m generalizing t with
  | zero => simp [dig]
  | succ m ih =>
    intro x hx
    simp only [dig, List.mem_append, List.mem_singleton] at hx
    rcases hx with hx | rfl
    · exact ih _ x hx
    · exact Nat.mod_lt _ hn
theorem dz_lt {n : Nat} (hn : 0 < n) (m t : Nat) : ∀ x ∈ dz n m t, 0 ≤ x ∧ x < n := by
  intro x hx
  obtain ⟨y, hy, rfl⟩ := List.mem_map.1 hx
  have := dig_lt hn m t y hy
  show 0 ≤ (y : Int) ∧ (y : Int) < n
  omega
theorem dig_zero (n m : Nat) : dig n m 0 = List.replicate m 0 := by
  induction m with
  | zero => rfl
  | succ m ih => simp [dig, ih, List.replicate_succ']
theorem dz_zero (n m : Nat) : dz n m 0 = List.replicate m 0 := by simp [dz, dig_zero]
theorem dig_pow {n : Nat} (hn : 0 < n) (k j q : Nat) : dig n (k + j) (q * n ^ j) = dig n k q ++ List.replicate j 0 := by
  induction j with
  | zero => simp
  | succ j ih =>
    show dig n (k + j + 1) _ = _
    have e1 : q * n ^ (j + 1) = n * (q * n ^ j) := by rw [Nat.pow_succ, ← Nat.mul_assoc, Nat.mul_comm]
    rw [dig, e1, Nat.mul_div_cancel_left _ hn, ih, Nat.mul_mod_right, List.append_assoc, List.replicate_succ']
/-- The array while the last digits are turned to 0. -/
def dzs (n k j q : Nat) : List Int := dz n k q ++ List.replicate j 0
theorem dzs_length (n k j q : Nat) : (dzs n k j q).length = k + j := by simp [dzs, dz_length]
theorem dzs_start (n m t : Nat) : dzs n m 0 t = dz n m t := by simp [dzs]
theorem dzs_get (n k j q : Nat) : (dzs n (k + 1) j q)[k]? = some ((q % n : Nat) : Int) := by
  unfold dzs dz
  rw [dig, List.map_append, List.append_assoc, List.getElem?_append_right (by simp [dig_length])]
  simp [dig_length]
theorem dzs_set (n k j q : Nat) (x : Int) : (dzs n (k + 1) j q).set k x = dz n k (q / n) ++ x :: List.replicate j 0 := by
  unfold dzs dz
  rw [dig, List.map_append, List.append_assoc, List.set_append_right _ _ (by simp [dig_length])]
  simp [dig_length]
theorem dzs_on (n k j q : Nat) : (dzs n (k + 1) j q).set k 0 = dzs n k (j + 1) (q / n) := by
  rw [dzs_set]; rfl
theorem dzs_up {n : Nat} {k j q : Nat} (h : q % n < n - 1) : (dzs n (k + 1) j q).set k (((q % n : Nat) : Int) + 1) = dz n (k + 1 + j) ((q + 1) * n ^ j) := by
  have hn : 0 < n := by omega
  have e1 : (q + 1) / n = q / n := by
    have h1 := Nat.div_add_mod q n
    rw [Nat.div_eq_iff hn]
    have h2 : q / n * n = n * (q / n) := Nat.mul_comm _ _
    constructor <;> omega
  have e2 : (q + 1) % n = q % n + 1 := by
    have h1 := Nat.div_add_mod q n
    have h2 := Nat.div_add_mod (q + 1) n
    rw [e1] at h2
    omega
  rw [dzs_set]
  unfold dz
  rw [dig_pow hn, dig, e1, e2]
  simp
theorem last_on {n j q t : Nat} (hn : 0 < n) (ht : t + 1 = (q + 1) * n ^ j) (h : q % n = n - 1) : t + 1 = (q / n + 1) * n ^ (j + 1) := by
  have h1 := Nat.div_add_mod q n
  have e : q + 1 = (q / n + 1) * n := by
    rw [Nat.add_mul, Nat.one_mul, Nat.mul_comm]; omega
  rw [ht, e, Nat.pow_succ, Nat.mul_comm (n ^ j) n, Nat.mul_assoc]
theorem not_last {n k j q t : Nat} (ht : t < n ^ (k + 1 + j)) (he : t + 1 = (q + 1) * n ^ j) (h : q % n < n - 1) : t + 1 < n ^ (k + 1 + j) := by
  have hn : 0 < n := by omega
  refine Nat.lt_of_le_of_ne ht fun hc => ?_
  have h1 : (q + 1) * n ^ j = n ^ (k + 1) * n ^ j := by rw [← he, hc, Nat.pow_add]
  have h2 : q + 1 = n ^ (k + 1) := Nat.eq_of_mul_eq_mul_right (Nat.pow_pos hn) h1
  have h3 : (q + 1) % n = 0 := by rw [h2, Nat.pow_succ]; exact Nat.mul_mod_left _ _
  rw [Nat.add_mod] at h3
  have h4 : 1 % n = 1 := Nat.mod_eq_of_lt (by omega)
  rw [h4, Nat.mod_eq_of_lt (by omega)] at h3
  omega
end Go.Proofs.Ytkljambjdiblkaa
