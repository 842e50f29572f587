/- The share of indivisible goods: the greatest least sum. Plain Lean. -/
import Derived.Test.YtkljambjdiblkaaMem
namespace Go.Proofs.Ytkljambjdiblkaa
open Go.RowKit

/-- The greatest of f 0 .. f (k - 1), and of -1. -/
def maxTo (f : Nat → Int) : Nat → Int
  | 0 => -1
  | k + 1 => max (maxTo f k) (f k)
theorem maxTo_le (f : Nat → Int) (k : Nat) (c : Int) : maxTo f k ≤ c ↔ -1 ≤ c ∧ ∀ p, p < k → f p ≤ c := by
  induction k with
  | zero => simp [maxTo]
  | succ k ih =>
    simp only [maxTo, Int.max_le, ih]
    constructor
    · intro ⟨⟨a, b⟩, h⟩
      refine ⟨a, fun p hp => ?_⟩
      rcases Nat.lt_succ_iff_lt_or_eq.1 hp with h' | h'
      · exact b p h'
      · rw [h']; exact h
    · intro ⟨a, b⟩
      exact ⟨⟨a, fun p hp => b p (by omega)⟩, b k (by omega)⟩
theorem le_maxTo {f : Nat → Int} {k p : Nat} (h : p < k) : f p ≤ maxTo f k := ((maxTo_le f k _).1 (Int.le_refl _)).2 p h
theorem maxTo_neg (f : Nat → Int) (k : Nat) : -1 ≤ maxTo f k := ((maxTo_le f k _).1 (Int.le_refl _)).1
theorem maxTo_congr {f g : Nat → Int} {k : Nat} (h : ∀ p, p < k → f p = g p) : maxTo f k = maxTo g k := by
  induction k with
  | zero => rfl
  | succ k ih => simp only [maxTo]; rw [ih fun p hp => h p (by omega), h k (by omega)]

/-- A good is added to a part. -/
def addA (s : List Int) (p : Nat) (x : Int) : List Int := s.set p (s.getD p 0 + x)
theorem addA_length (s : List Int) (p : Nat) (x : Int) : (addA s p x).length = s.length := by simp [addA]
theorem addA_get (s : List Int) (p q : Nat) (x : Int) (h : q < s.length) : (addA s p x)[q]? = some (if q = p then s.getD p 0 + x else s.getD q 0) := by
  unfold addA
  rw [List.getElem?_set]
  by_cases e : p = q
  · subst e; simp [h]
  · rw [if_neg e, if_neg (fun h => e h.symm), List.getD_eq_getElem?_getD, List.getElem?_eq_getElem h]; rfl
theorem addA_back (s : List Int) (p : Nat) (x : Int) : addA (addA s p x) p (-x) = s := by
  unfold addA
  by_cases h : p < s.length
  · rw [List.set_set]
    have e : (s.set p (s.getD p 0 + x)).getD p 0 = s.getD p 0 + x := by simp [List.getD_eq_getElem?_getD, h]
    rw [e, Int.add_neg_cancel_right, List.getD_eq_getElem?_getD, List.getElem?_eq_getElem h]
    simp
  · rw [List.set_eq_of_length_le (by simp; omega), List.set_eq_of_length_le (by omega)]

/-- The greatest least sum, where parts that have nothing are tried once. -/
def sh : List Int → List Int → Nat → Int
  | [], s, _ => lmin s
  | x :: l, s, u => maxTo (fun p => sh l (addA s p x) (max u (p + 1))) (min (u + 1) s.length)
/-- The greatest least sum over all. -/
def fl : List Int → List Int → Int
  | [], s => lmin s
  | x :: l, s => maxTo (fun p => fl l (addA s p x)) s.length

theorem lmin_mem_ge {s : List Int} (h : s ≠ []) (c : Int) : c ≤ lmin s ↔ ∀ q, q < s.length → c ≤ s.getD q 0 := by
  rw [lmin_ge h]
  constructor
  · intro hh q hq
    rw [List.getD_eq_getElem?_getD, List.getElem?_eq_getElem hq]
    exact hh _ (List.getElem_mem hq)
  · intro hh x hx
    obtain ⟨q, hq, rfl⟩ := List.mem_iff_getElem.1 hx
    have := hh q hq
    rwa [List.getD_eq_getElem?_getD, List.getElem?_eq_getElem hq] at this
theorem addA_getD (s : List Int) (p q : Nat) (x : Int) (h : q < s.length) : (addA s p x).getD q 0 = s.getD q 0 + if q = p then x else 0 := by
  rw [List.getD_eq_getElem?_getD, addA_get s p q x h]
  by_cases e : q = p
  · subst e; simp
  · simp [e]
theorem addA_ne (s : List Int) (p : Nat) (x : Int) (h : s ≠ []) : addA s p x ≠ [] := by
  intro e; apply h; have := congrArg List.length e; rw [addA_length] at this; exact List.eq_nil_of_length_eq_zero (by simpa using this)

/-- Greater sums make the greatest least sum no less. -/
theorem fl_mono (l : List Int) : ∀ (s s' : List Int), s ≠ [] → s.length = s'.length → (∀ q, q < s.length → s.getD q 0 ≤ s'.getD q 0) → fl l s ≤ fl l s' := by
  induction l with
  | nil =>
    intro s s' hs hl h
    have hs' : s' ≠ [] := by rintro rfl; exact hs (List.eq_nil_of_length_eq_zero (by simpa using hl))
    show lmin s ≤ lmin s'
    rw [lmin_mem_ge hs']
    intro q hq
    exact Int.le_trans ((lmin_mem_ge hs _).1 (Int.le_refl _) q (by omega)) (h q (by omega))
  | cons x l ih =>
    intro s s' hs hl h
    show maxTo _ _ ≤ maxTo _ _
    rw [maxTo_le]
    refine ⟨maxTo_neg _ _, fun p hp => ?_⟩
    refine Int.le_trans (ih (addA s p x) (addA s' p x) (addA_ne s p x hs) (by rw [addA_length, addA_length, hl]) fun q hq => ?_) (le_maxTo (f := fun p => fl l (addA s' p x)) (by omega))
    rw [addA_length] at hq
    rw [addA_getD s p q x hq, addA_getD s' p q x (by omega)]
    have := h q hq
    omega

/-- Swap two parts. -/
def swp (s : List Int) (a b : Nat) : List Int := (s.set a (s.getD b 0)).set b (s.getD a 0)
theorem swp_length (s : List Int) (a b : Nat) : (swp s a b).length = s.length := by simp [swp]
def tr (a b q : Nat) : Nat := if q = a then b else if q = b then a else q
theorem tr_lt {a b q n : Nat} (ha : a < n) (hb : b < n) (hq : q < n) : tr a b q < n := by unfold tr; split <;> (try split) <;> omega
theorem tr_tr (a b q : Nat) : tr a b (tr a b q) = q := by unfold tr; repeat' split <;> (try omega)
theorem swp_getD (s : List Int) (a b q : Nat) (ha : a < s.length) (hb : b < s.length) (hq : q < s.length) : (swp s a b).getD q 0 = s.getD (tr a b q) 0 := by
  unfold swp tr
  rw [List.getD_eq_getElem?_getD, List.getElem?_set, List.getElem?_set]
  by_cases h1 : b = q
  · subst h1
    by_cases h2 : b = a
    · subst h2; simp [hb]
    · simp [hb, h2]
  · rw [if_neg h1]
    by_cases h2 : a = q
    · subst h2; simp [ha]
    · rw [if_neg h2, if_neg (fun h => h2 h.symm), if_neg (fun h => h1 h.symm), List.getD_eq_getElem?_getD]

/-- A permutation of two parts changes nothing. -/
theorem fl_tr (l : List Int) : ∀ (s s' : List Int) (a b : Nat), s ≠ [] → s.length = s'.length → a < s.length → b < s.length → (∀ q, q < s.length → s'.getD q 0 = s.getD (tr a b q) 0) → fl l s ≤ fl l s' := by
  induction l with
  | nil =>
    intro s s' a b hs hl ha hb h
    have hs' : s' ≠ [] := by rintro rfl; exact hs (List.eq_nil_of_length_eq_zero (by simpa using hl))
    show lmin s ≤ lmin s'
    rw [lmin_mem_ge hs']
    intro q hq
    rw [h q (by omega)]
    exact (lmin_mem_ge hs _).1 (Int.le_refl _) _ (tr_lt ha hb (by omega))
  | cons x l ih =>
    intro s s' a b hs hl ha hb h
    show maxTo _ _ ≤ maxTo _ _
    rw [maxTo_le]
    refine ⟨maxTo_neg _ _, fun p hp => ?_⟩
    refine Int.le_trans (ih (addA s p x) (addA s' (tr a b p) x) a b (addA_ne s p x hs) (by rw [addA_length, addA_length, hl]) (by rw [addA_length]; exact ha) (by rw [addA_length]; exact hb) fun q hq => ?_) (le_maxTo (f := fun p => fl l (addA s' p x)) (show tr a b p < _ by have := tr_lt ha hb hp; omega))
    rw [addA_length] at hq
    rw [addA_getD s' _ q x (by omega), addA_getD s p _ x (tr_lt ha hb hq), h q hq]
    congr 1
    by_cases e : q = tr a b p
    · rw [if_pos e, if_pos (by rw [e, tr_tr])]
    · rw [if_neg e, if_neg (fun h => e (by rw [← h, tr_tr]))]

/-- Parts that have nothing are alike: the narrowed search finds the greatest. -/
theorem sh_fl (l : List Int) : ∀ (s : List Int) (u : Nat), s ≠ [] → (∀ q, u ≤ q → q < s.length → s.getD q 0 = 0) → sh l s u = fl l s := by
  induction l with
  | nil => intro s u _ _; rfl
  | cons x l ih =>
    intro s u hs h0
    have e : ∀ p, p < s.length → p ≤ u → sh l (addA s p x) (max u (p + 1)) = fl l (addA s p x) := by
      intro p hp hpu
      refine ih _ _ (addA_ne s p x hs) fun q hq hql => ?_
      rw [addA_length] at hql
      rw [addA_getD s p q x hql, h0 q (by omega) hql, if_neg (by omega)]
      rfl
    have e1 : sh (x :: l) s u = maxTo (fun p => fl l (addA s p x)) (min (u + 1) s.length) := maxTo_congr fun p hp => e p (by omega) (by omega)
    rw [e1]
    show _ = maxTo (fun p => fl l (addA s p x)) s.length
    apply Int.le_antisymm
    · rw [maxTo_le]
      exact ⟨maxTo_neg _ _, fun p hp => le_maxTo (f := fun p => fl l (addA s p x)) (by omega)⟩
    · rw [maxTo_le]
      refine ⟨maxTo_neg _ _, fun p hp => ?_⟩
      by_cases hpu : p ≤ u
      · exact le_maxTo (f := fun p => fl l (addA s p x)) (by omega)
      · have hu : u < s.length := by omega
        refine Int.le_trans (fl_tr l (addA s p x) (addA s u x) p u (addA_ne s p x hs) (by rw [addA_length, addA_length]) (by rw [addA_length]; exact hp) (by rw [addA_length]; exact hu) fun q hq => ?_) (le_maxTo (f := fun p => fl l (addA s p x)) (show u < _ by omega))
        rw [addA_length] at hq
        rw [addA_getD s u q x hq, addA_getD s p _ x (tr_lt hp hu hq)]
        unfold tr
        by_cases h1 : q = p
        · subst h1
          rw [if_pos rfl, if_neg (by omega), if_neg (by omega), h0 q (by omega) hq, h0 u (Nat.le_refl _) hu]
        · by_cases h2 : q = u
          · subst h2
            rw [if_pos rfl, if_neg h1, if_pos rfl, if_pos rfl, h0 q (Nat.le_refl _) hq, h0 p (by omega) hp]
          · rw [if_neg h2, if_neg h1, if_neg h2, if_neg h1]
end Go.Proofs.Ytkljambjdiblkaa
