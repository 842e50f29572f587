/- The share: bounds, and how it changes with people and goods. Plain Lean. -/
import Derived.Test.YtkljambjdiblkaaSShareLaw
namespace Go.Proofs.Ytkljambjdiblkaa
open Go.RowKit

/-- The share of n people. -/
def shV (l : List Int) (n : Nat) : Int := sh l (List.replicate n 0) 0
theorem shV_fl {l : List Int} {n : Nat} (hn : 1 ≤ n) : shV l n = fl l (List.replicate n 0) := by
  refine sh_fl l _ 0 (by intro h; have := congrArg List.length h; simp at this; omega) fun q _ hq => ?_
  rw [List.length_replicate] at hq
  simp [List.getD_eq_getElem?_getD, hq]

theorem fl_ge (l : List Int) : ∀ (s : List Int) (c : Int), s ≠ [] → (∀ x ∈ l, 0 ≤ x) → (∀ q, q < s.length → c ≤ s.getD q 0) → c ≤ fl l s := by
  induction l with
  | nil => intro s c hs _ h; exact (lmin_mem_ge hs c).2 h
  | cons x l ih =>
    intro s c hs hx h
    have h0 : 0 < s.length := List.length_pos_iff.2 hs
    refine Int.le_trans (ih (addA s 0 x) c (addA_ne s 0 x hs) (fun y hy => hx y (List.mem_cons_of_mem _ hy)) fun q hq => ?_) (le_maxTo (f := fun p => fl l (addA s p x)) h0)
    rw [addA_length] at hq
    rw [addA_getD s 0 q x hq]
    have := h q hq
    have := hx x (List.mem_cons_self ..)
    split <;> omega

theorem sum_set (s : List Int) (p : Nat) (v : Int) (h : p < s.length) : (s.set p v).sum = s.sum - s.getD p 0 + v := by
  induction s generalizing p with
  | nil => simp at h
  | cons y s ih =>
    cases p with
    | zero => simp; omega
    | succ p =>
      simp only [List.set_cons_succ, List.sum_cons, List.getD_cons_succ]
      rw [ih p (by simpa using h)]
      omega
theorem addA_sum (s : List Int) (p : Nat) (x : Int) (h : p < s.length) : (addA s p x).sum = s.sum + x := by
  unfold addA; rw [sum_set s p _ h]; omega
theorem sum_ge (s : List Int) (c : Int) (h : ∀ x ∈ s, c ≤ x) : c * s.length ≤ s.sum := by
  induction s with
  | nil => simp
  | cons y s ih =>
    have h1 := h y (List.mem_cons_self ..)
    have h2 := ih fun x hx => h x (List.mem_cons_of_mem _ hx)
    simp only [List.length_cons, List.sum_cons]
    rw [show ((s.length + 1 : Nat) : Int) = (s.length : Int) + 1 by omega, Int.mul_add, Int.mul_one]
    omega
/-- The least sum times the people is at most all. -/
theorem fl_sum (l : List Int) : ∀ (s : List Int), s ≠ [] → (∀ x ∈ l, 0 ≤ x) → (∀ x ∈ s, 0 ≤ x) → fl l s * s.length ≤ s.sum + l.sum := by
  induction l with
  | nil =>
    intro s hs _ _
    have := sum_ge s (lmin s) ((lmin_ge hs _).1 (Int.le_refl _))
    show lmin s * s.length ≤ s.sum + ([] : List Int).sum
    simpa using this
  | cons x l ih =>
    intro s hs hl h0
    have hx := hl x (List.mem_cons_self ..)
    have hpos : 0 < s.length := List.length_pos_iff.2 hs
    have key : ∀ p, p < s.length → fl l (addA s p x) * s.length ≤ s.sum + (x :: l).sum := by
      intro p hp
      have hh := ih (addA s p x) (addA_ne s p x hs) (fun y hy => hl y (List.mem_cons_of_mem _ hy)) (by
        intro y hy
        obtain ⟨q, hq, rfl⟩ := List.mem_iff_getElem.1 hy
        have hq' : q < s.length := by rwa [addA_length] at hq
        have e : (addA s p x)[q] = s.getD q 0 + if q = p then x else 0 := by
          rw [← addA_getD s p q x hq', List.getD_eq_getElem?_getD, List.getElem?_eq_getElem hq]; rfl
        have hs0 : 0 ≤ s.getD q 0 := by rw [List.getD_eq_getElem?_getD, List.getElem?_eq_getElem hq']; exact h0 _ (List.getElem_mem hq')
        rw [e]; split <;> omega)
      rw [addA_length, addA_sum s p x hp] at hh
      simp only [List.sum_cons]
      omega
    have hmax : ∃ p, p < s.length ∧ fl (x :: l) s = fl l (addA s p x) := by
      have gen : ∀ (f : Nat → Int) (k : Nat), 0 < k → (∀ p, p < k → -1 ≤ f p) → ∃ p, p < k ∧ maxTo f k = f p := by
        intro f k
        induction k with
        | zero => intro h; omega
        | succ k ihk =>
          intro _ hf
          by_cases hk : k = 0
          · subst hk
            refine ⟨0, by omega, ?_⟩
            simp only [maxTo]
            have := hf 0 (by omega)
            omega
          · obtain ⟨p, hp, e⟩ := ihk (by omega) fun p hp => hf p (by omega)
            simp only [maxTo]
            by_cases hle : maxTo f k ≤ f k
            · exact ⟨k, by omega, Int.max_eq_right hle⟩
            · exact ⟨p, by omega, by rw [Int.max_eq_left (by omega)]; exact e⟩
      refine gen _ _ hpos fun p hp => ?_
      refine fl_ge l _ _ (addA_ne s p x hs) (fun y hy => hl y (List.mem_cons_of_mem _ hy)) fun q hq => ?_
      rw [addA_length] at hq
      rw [addA_getD s p q x hq, List.getD_eq_getElem?_getD, List.getElem?_eq_getElem hq]
      have := h0 _ (List.getElem_mem hq)
      simp only [Option.getD_some]
      split <;> omega
    obtain ⟨p, hp, e⟩ := hmax
    rw [e]
    exact key p hp

/-- One part more: none gets more. -/
theorem fl_more (l : List Int) : ∀ (s s' : List Int) (y : Int), s ≠ [] → s.length = s'.length → (∀ x ∈ l, 0 ≤ x) → (∀ q, q < s.length → s.getD q 0 ≤ s'.getD q 0) → fl l (s ++ [y]) ≤ fl l s' := by
  induction l with
  | nil =>
    intro s s' y hs hl _ h
    have hs' : s' ≠ [] := by rintro rfl; exact hs (List.eq_nil_of_length_eq_zero (by simpa using hl))
    show lmin (s ++ [y]) ≤ lmin s'
    rw [lmin_mem_ge hs']
    intro q hq
    have h1 := (lmin_mem_ge (s := s ++ [y]) (by simp) _).1 (Int.le_refl _) q (by simp; omega)
    have e : (s ++ [y]).getD q 0 = s.getD q 0 := by
      rw [List.getD_eq_getElem?_getD, List.getD_eq_getElem?_getD, List.getElem?_append_left (by omega)]
    rw [e] at h1
    exact Int.le_trans h1 (h q (by omega))
  | cons x l ih =>
    intro s s' y hs hl hx h
    have hx0 := hx x (List.mem_cons_self ..)
    have hxl : ∀ z ∈ l, 0 ≤ z := fun z hz => hx z (List.mem_cons_of_mem _ hz)
    have hpos : 0 < s.length := List.length_pos_iff.2 hs
    show maxTo _ _ ≤ maxTo _ _
    rw [maxTo_le]
    refine ⟨maxTo_neg _ _, fun p hp => ?_⟩
    rw [List.length_append, List.length_singleton] at hp
    by_cases hps : p < s.length
    · have e : addA (s ++ [y]) p x = addA s p x ++ [y] := by
        unfold addA
        rw [List.set_append_left _ _ hps, List.getD_eq_getElem?_getD, List.getD_eq_getElem?_getD, List.getElem?_append_left hps]
      rw [e]
      refine Int.le_trans (ih (addA s p x) (addA s' p x) y (addA_ne s p x hs) (by rw [addA_length, addA_length, hl]) hxl fun q hq => ?_) (le_maxTo (f := fun p => fl l (addA s' p x)) (show p < _ by omega))
      rw [addA_length] at hq
      rw [addA_getD s p q x hq, addA_getD s' p q x (by omega)]
      have := h q hq
      omega
    · obtain rfl : p = s.length := by omega
      have e : addA (s ++ [y]) s.length x = s ++ [y + x] := by
        unfold addA
        rw [List.set_append_right _ _ (Nat.le_refl _), List.getD_eq_getElem?_getD, List.getElem?_append_right (Nat.le_refl _)]
        simp
      rw [e]
      refine Int.le_trans (ih s (addA s' 0 x) (y + x) hs (by rw [addA_length, hl]) hxl fun q hq => ?_) (le_maxTo (f := fun p => fl l (addA s' p x)) (show 0 < _ by omega))
      rw [addA_getD s' 0 q x (by omega)]
      have := h q hq
      split <;> omega

theorem shV_nonneg {l : List Int} {n : Nat} (hn : 1 ≤ n) (hl : ∀ x ∈ l, 0 ≤ x) : 0 ≤ shV l n := by
  rw [shV_fl hn]
  refine fl_ge l _ 0 (by intro h; have := congrArg List.length h; simp at this; omega) hl fun q hq => ?_
  rw [List.length_replicate] at hq
  simp [List.getD_eq_getElem?_getD, hq]
theorem sum_zeros (n : Nat) : (List.replicate n (0 : Int)).sum = 0 := by
  induction n with
  | zero => rfl
  | succ n ih => rw [List.replicate_succ, List.sum_cons, ih]; rfl
theorem shV_sum {l : List Int} {n : Nat} (hn : 1 ≤ n) (hl : ∀ x ∈ l, 0 ≤ x) : shV l n * n ≤ l.sum := by
  rw [shV_fl hn]
  have h := fl_sum l (List.replicate n 0) (by intro h; have := congrArg List.length h; simp at this; omega) hl (fun x hx => by rw [List.eq_of_mem_replicate hx]; exact Int.le_refl _)
  rw [List.length_replicate, sum_zeros, Int.zero_add] at h
  exact h
theorem shV_more {l : List Int} {n : Nat} (hn : 1 ≤ n) (hl : ∀ x ∈ l, 0 ≤ x) : shV l (n + 1) ≤ shV l n := by
  rw [shV_fl hn, shV_fl (by omega), List.replicate_succ']
  exact fl_more l _ _ 0 (by intro h; have := congrArg List.length h; simp at this; omega) rfl hl fun q _ => Int.le_refl _
theorem shV_tail {x : Int} {l : List Int} {n : Nat} (hn : 1 ≤ n) (hl : ∀ y ∈ x :: l, 0 ≤ y) : shV l n ≤ shV (x :: l) n := by
  have hne : List.replicate n (0 : Int) ≠ [] := by intro h; have := congrArg List.length h; simp at this; omega
  rw [shV_fl hn, shV_fl hn]
  refine Int.le_trans (fl_mono l (List.replicate n 0) (addA (List.replicate n 0) 0 x) hne (by rw [addA_length]) fun q hq => ?_) (le_maxTo (f := fun p => fl l (addA (List.replicate n 0) p x)) (show 0 < _ by simp; omega))
  rw [addA_getD _ 0 q x hq]
  have := hl x (List.mem_cons_self ..)
  split <;> omega
end Go.Proofs.Ytkljambjdiblkaa
