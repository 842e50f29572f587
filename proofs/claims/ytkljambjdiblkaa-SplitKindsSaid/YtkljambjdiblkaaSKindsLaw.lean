/- Which kind of fairness follows from which: plain Lean. -/
import Derived.Test.YtkljambjdiblkaaSEnvyLaw
namespace Go.Proofs.Ytkljambjdiblkaa
open Go.RowKit

/-- The sum of f over the numbers below n. -/
def sumN (f : Nat → Int) : Nat → Int
  | 0 => 0
  | n + 1 => sumN f n + f n
theorem sumN_le {f : Nat → Int} {c : Int} (n : Nat) (h : ∀ j, j < n → f j ≤ c) : sumN f n ≤ c * n := by
  induction n with
  | zero => simp [sumN]
  | succ n ih =>
    have h1 := ih fun j hj => h j (by omega)
    have h2 := h n (by omega)
    simp only [sumN]
    rw [show ((n + 1 : Nat) : Int) = (n : Int) + 1 by omega, Int.mul_add, Int.mul_one]
    omega
theorem sumN_add (f g : Nat → Int) (n : Nat) : sumN (fun j => f j + g j) n = sumN f n + sumN g n := by
  induction n with
  | zero => rfl
  | succ n ih => simp only [sumN, ih]; omega
theorem sumN_one (x : Int) (p n : Nat) (h : p < n) : sumN (fun j => if (p : Int) = (j : Int) then x else 0) n = x := by
  have z : ∀ n, n ≤ p → sumN (fun j => if (p : Int) = (j : Int) then x else 0) n = 0 := by
    intro n
    induction n with
    | zero => intro _; rfl
    | succ n ih =>
      intro hn
      simp only [sumN]
      rw [ih (by omega), if_neg (by omega)]
      rfl
  induction n with
  | zero => omega
  | succ n ih =>
    simp only [sumN]
    by_cases e : p = n
    · subst e; rw [z p (Nat.le_refl _), if_pos rfl]; omega
    · rw [ih (by omega), if_neg (by omega)]; omega
theorem sumN_zero (n : Nat) : sumN (fun _ => 0) n = 0 := by
  induction n with
  | zero => rfl
  | succ n ih => simp only [sumN, ih]; rfl
theorem getD_in {d : List Int} {n : Nat} (hd : ∀ x ∈ d, 0 ≤ x ∧ x < (n : Int)) {g : Nat} (h : g < d.length) : ∃ p : Nat, d.getD g 0 = (p : Int) ∧ p < n := by
  have hb := hd (d.getD g 0) (by rw [List.getD_eq_getElem?_getD, List.getElem?_eq_getElem h]; exact List.getElem_mem h)
  exact ⟨(d.getD g 0).toNat, by omega, by omega⟩
/-- What everyone has is all. -/
theorem sum_worTo {row d : List Int} {n : Nat} (hd : ∀ x ∈ d, 0 ≤ x ∧ x < (n : Int)) (hl : d.length = row.length) (g : Nat) (hg : g ≤ row.length) : sumN (fun j => worTo row d (j : Int) g) n = (row.take g).sum := by
  induction g with
  | zero => simp only [worTo]; rw [sumN_zero]; rfl
  | succ g ih =>
    obtain ⟨p, hp, hpn⟩ := getD_in hd (show g < d.length by omega)
    simp only [worTo]
    rw [sumN_add, ih (by omega), hp, sumN_one _ p n hpn]
    have hx : row[g]? = some (row.getD g 0) := by rw [List.getD_eq_getElem?_getD, List.getElem?_eq_getElem (by omega)]; rfl
    rw [List.take_add_one, hx, List.sum_append]
    simp
theorem sum_wor {V : List (List Int)} {d : List Int} {n i : Nat} (hd : ∀ x ∈ d, 0 ≤ x ∧ x < (n : Int)) (hl : d.length = (rowV V i).length) : sumN (fun j => wor V d i (j : Int)) n = (rowV V i).sum := by
  have h := sum_worTo hd hl d.length (by omega)
  unfold wor
  rw [h, List.take_of_length_le (by omega)]
theorem worTo_mono {row d : List Int} {j : Int} (h : ∀ x ∈ row, 0 ≤ x ∧ x ≤ 100) (g k : Nat) (hgk : g ≤ k) : worTo row d j g ≤ worTo row d j k := by
  induction k with
  | zero => obtain rfl : g = 0 := by omega
            exact Int.le_refl _
  | succ k ih =>
    by_cases e : g = k + 1
    · subst e; exact Int.le_refl _
    · have h1 := ih (by omega)
      have hb : 0 ≤ row.getD k 0 := by
        rw [List.getD_eq_getElem?_getD]
        cases hx : row[k]? with
        | none => simp
        | some x => exact (h x (List.mem_of_getElem? hx)).1
      simp only [worTo]
      split <;> omega
/-- Who has something has a good. -/
theorem worTo_pos {row d : List Int} {j : Int} (g : Nat) (h : 0 < worTo row d j g) : ∃ k, k < g ∧ d.getD k 0 = j := by
  induction g with
  | zero => simp [worTo] at h
  | succ g ih =>
    simp only [worTo] at h
    by_cases e : d.getD g 0 = j
    · exact ⟨g, by omega, e⟩
    · rw [if_neg e] at h
      obtain ⟨k, hk, e'⟩ := ih (by omega)
      exact ⟨k, by omega, e'⟩
theorem mostTo_ge {row d : List Int} {i g k : Nat} (hk : k < g) (h : d.getD k 0 ≠ (i : Int)) : row.getD k 0 ≤ mostTo row d i g := by
  induction g with
  | zero => omega
  | succ g ih =>
    simp only [mostTo]
    by_cases e : k = g
    · subst e; rw [if_neg h]; omega
    · have := ih (by omega)
      split <;> omega

section
variable {V : List (List Int)} {d : List Int} {n m : Nat}

theorem fair0_iff : fairB V d n 0 = decide ((envL V d n).length = 0) := by
  rw [fairB_low (by omega)]
  cases h : envL V d n with
  | nil => rfl
  | cons p l => simp [okE]
theorem fair02 (h : fairB V d n 0 = true) : fairB V d n 2 = true := by
  rw [fair0_iff] at h
  have e : envL V d n = [] := List.eq_nil_of_length_eq_zero (of_decide_eq_true h)
  rw [fairB_low (by omega), e]
  rfl
theorem fair03 (hd : ∀ x ∈ d, 0 ≤ x ∧ x < (n : Int)) (hr : ∀ i, i < n → (rowV V i).length = m ∧ ∀ x ∈ rowV V i, 0 ≤ x ∧ x ≤ 100) (hl : d.length = m) (h : fairB V d n 0 = true) : fairB V d n 3 = true := by
  rw [fair0_iff] at h
  have e : envL V d n = [] := List.eq_nil_of_length_eq_zero (of_decide_eq_true h)
  rw [fairB_high (by omega), List.all_eq_true]
  intro i hi
  have hi := List.mem_range.1 hi
  unfold partB moreK
  rw [if_neg (by omega), decide_eq_true_eq, Int.add_zero, ← sum_wor (V := V) (i := i) hd (by rw [hl, (hr i hi).1])]
  refine sumN_le n fun j hj => ?_
  have hn : envB V d i j = false := by
    cases hb : envB V d i j
    · rfl
    · have : (i, j) ∈ envL V d n := mem_envL.2 ⟨hi, hj, hb⟩
      rw [e] at this; cases this
  unfold envB at hn
  have := of_decide_eq_false hn
  omega
theorem fair21 (hr : ∀ i, i < n → (rowV V i).length = m ∧ ∀ x ∈ rowV V i, 0 ≤ x ∧ x ≤ 100) (h : fairB V d n 2 = true) : fairB V d n 1 = true := by
  rw [fairB_low (by omega), List.all_eq_true] at h ⊢
  intro p hp
  have h2 := h p hp
  obtain ⟨h3, h4, h5⟩ := mem_envL.1 hp
  unfold okE at h2 ⊢
  simp only [show ((2 : Int) = 1) = False by simp, show ((1 : Int) = 2) = False by simp, decide_false, decide_true, Bool.false_and, Bool.true_and, Bool.false_or, Bool.or_false] at h2 ⊢
  rw [upB_some]
  have h6 := upB_each.1 h2
  unfold envB at h5
  have h7 := of_decide_eq_true h5
  have h8 := (worTo_bd (hr p.1 h3).2 d (p.1 : Int) d.length).1
  have h9 : 0 < worTo (rowV V p.1) d (p.2 : Int) d.length := by unfold wor at h7; omega
  obtain ⟨g, hg, e⟩ := worTo_pos d.length h9
  exact ⟨g, hg, e, h6 g hg e⟩
theorem fair14 (hd : ∀ x ∈ d, 0 ≤ x ∧ x < (n : Int)) (hr : ∀ i, i < n → (rowV V i).length = m ∧ ∀ x ∈ rowV V i, 0 ≤ x ∧ x ≤ 100) (hl : d.length = m) (h : fairB V d n 1 = true) : fairB V d n 4 = true := by
  rw [fairB_low (by omega), List.all_eq_true] at h
  rw [fairB_high (by omega), List.all_eq_true]
  intro i hi
  have hi := List.mem_range.1 hi
  unfold partB moreK
  rw [if_pos rfl, decide_eq_true_eq, ← sum_wor (V := V) (i := i) hd (by rw [hl, (hr i hi).1])]
  have hmb := mostTo_bd (hr i hi).2 d i d.length
  refine sumN_le n fun j hj => ?_
  cases hb : envB V d i j
  · unfold envB at hb
    have := of_decide_eq_false hb
    omega
  · have h2 := h (i, j) (mem_envL.2 ⟨hi, hj, hb⟩)
    unfold okE at h2
    simp only [show ((1 : Int) = 2) = False by simp, decide_false, decide_true, Bool.false_and, Bool.true_and, Bool.or_false] at h2
    obtain ⟨g, hg, e, h3⟩ := upB_some.1 h2
    have hij : j ≠ i := by
      rintro rfl
      unfold envB at hb
      have := of_decide_eq_true hb
      omega
    have := mostTo_ge (row := rowV V i) (i := i) hg (by rw [e]; omega)
    omega
theorem fair34 (hr : ∀ i, i < n → (rowV V i).length = m ∧ ∀ x ∈ rowV V i, 0 ≤ x ∧ x ≤ 100) (h : fairB V d n 3 = true) : fairB V d n 4 = true := by
  rw [fairB_high (by omega), List.all_eq_true] at h ⊢
  intro i hi
  have h1 := h i hi
  have hi := List.mem_range.1 hi
  unfold partB moreK at h1 ⊢
  rw [if_neg (by omega), decide_eq_true_eq, Int.add_zero] at h1
  rw [if_pos rfl, decide_eq_true_eq]
  have hmb := mostTo_bd (hr i hi).2 d i d.length
  have : wor V d i (i : Int) * (n : Int) ≤ (wor V d i (i : Int) + mostTo (rowV V i) d i d.length) * (n : Int) := Int.mul_le_mul_of_nonneg_right (by omega) (by omega)
  omega
end
end Go.Proofs.Ytkljambjdiblkaa
