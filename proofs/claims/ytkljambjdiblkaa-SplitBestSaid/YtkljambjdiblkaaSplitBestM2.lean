/- Laws and contracts that the proof of SplitBest uses, part 2. -/
import Derived.Test.YtkljambjdiblkaaSplitBestM1
namespace Go.Proofs.Ytkljambjdiblkaa
open Go.RowKit

/- The share of indivisible goods: the greatest least sum. Plain Lean. -/

/-- The greatest of f 0 .. f (k - 1), and of -1. -/
def maxTo (f : Nat → Int) : Nat → Int
  | 0 => -1
  | k + 1 => max (maxTo f k) (f k)
theorem maxTo_le (f : Nat → Int) (k : Nat) (c : Int) : maxTo f k ≤ c ↔ -1 ≤ c ∧ ∀ p, p < k → f p ≤ c := by
  induction k with
  | zero => simp [maxTo]
  | succ k ih =>
    simp only [maxTo, Int.max_le, ih]
    constructor
    · intro ⟨⟨a, b⟩, h⟩
      refine ⟨a, fun p hp => ?_⟩
      rcases Nat.lt_succ_iff_lt_or_eq.1 hp with h' | h'
      · exact b p h'
      · rw [h']; exact h
    · intro ⟨a, b⟩
      exact ⟨⟨a, fun p hp => b p (by omega)⟩, b k (by omega)⟩
theorem le_maxTo {f : Nat → Int} {k p : Nat} (h : p < k) : f p ≤ maxTo f k := ((maxTo_le f k _).1 (Int.le_refl _)).2 p h
theorem maxTo_neg (f : Nat → Int) (k : Nat) : -1 ≤ maxTo f k := ((maxTo_le f k _).1 (Int.le_refl _)).1
theorem maxTo_congr {f g : Nat → Int} {k : Nat} (h : ∀ p, p < k → f p = g p) : maxTo f k = maxTo g k := by
  induction k with
  | zero => rfl
  | succ k ih => simp only [maxTo]; rw [ih fun p hp => h p (by omega), h k (by omega)]

/-- A good is added to a part. -/
def addA (s : List Int) (p : Nat) (x : Int) : List Int := s.set p (s.getD p 0 + x)
theorem addA_length (s : List Int) (p : Nat) (x : Int) : (addA s p x).length = s.length := by simp [addA]
theorem addA_get (s : List Int) (p q : Nat) (x : Int) (h : q < s.length) : (addA s p x)[q]? = some (if q = p then s.getD p 0 + x else s.getD q 0) := by
  unfold addA
  rw [List.getElem?_set]
  by_cases e : p = q
  · subst e; simp [h]
  · rw [if_neg e, if_neg (fun h => e h.symm), List.getD_eq_getElem?_getD, List.getElem?_eq_getElem h]; rfl
theorem addA_back (s : List Int) (p : Nat) (x : Int) : addA (addA s p x) p (-x) = s := by
  unfold addA
  by_cases h : p < s.length
  · rw [List.set_set]
    have e : (s.set p (s.getD p 0 + x)).getD p 0 = s.getD p 0 + x := by simp [List.getD_eq_getElem?_getD, h]
    rw [e, Int.add_neg_cancel_right, List.getD_eq_getElem?_getD, List.getElem?_eq_getElem h]
    simp
  · rw [List.set_eq_of_length_le (by simp; omega), List.set_eq_of_length_le (by omega)]

/-- The greatest least sum, where parts that have nothing are tried once. -/
def sh : List Int → List Int → Nat → Int
  | [], s, _ => lmin s
  | x :: l, s, u => maxTo (fun p => sh l (addA s p x) (max u (p + 1))) (min (u + 1) s.length)
/-- The greatest least sum over all. -/
def fl : List Int → List Int → Int
  | [], s => lmin s
  | x :: l, s => maxTo (fun p => fl l (addA s p x)) s.length

theorem lmin_mem_ge {s : List Int} (h : s ≠ []) (c : Int) : c ≤ lmin s ↔ ∀ q, q < s.length → c ≤ s.getD q 0 := by
  rw [lmin_ge h]
  constructor
  · intro hh q hq
    rw [List.getD_eq_getElem?_getD, List.getElem?_eq_getElem hq]
    exact hh _ (List.getElem_mem hq)
  · intro hh x hx
    obtain ⟨q, hq, rfl⟩ := List.mem_iff_getElem.1 hx
    have := hh q hq
    rwa [List.getD_eq_getElem?_getD, List.getElem?_eq_getElem hq] at this
theorem addA_getD (s : List Int) (p q : Nat) (x : Int) (h : q < s.length) : (addA s p x).getD q 0 = s.getD q 0 + if q = p then x else 0 := by
  rw [List.getD_eq_getElem?_getD, addA_get s p q x h]
  by_cases e : q = p
  · subst e; simp
  · simp [e]
theorem addA_ne (s : List Int) (p : Nat) (x : Int) (h : s ≠ []) : addA s p x ≠ [] := by
  intro e; apply h; have := congrArg List.length e; rw [addA_length] at this; exact List.eq_nil_of_length_eq_zero (by simpa using this)

/-- Greater sums make the greatest least sum no less. -/
theorem fl_mono (l : List Int) : ∀ (s s' : List Int), s ≠ [] → s.length = s'.length → (∀ q, q < s.length → s.getD q 0 ≤ s'.getD q 0) → fl l s ≤ fl l s' := by
  induction l with
  | nil =>
    intro s s' hs hl h
    have hs' : s' ≠ [] := by rintro rfl; exact hs (List.eq_nil_of_length_eq_zero (by simpa using hl))
    show lmin s ≤ lmin s'
    rw [lmin_mem_ge hs']
    intro q hq
    exact Int.le_trans ((lmin_mem_ge hs _).1 (Int.le_refl _) q (by omega)) (h q (by omega))
  | cons x l ih =>
    intro s s' hs hl h
    show maxTo _ _ ≤ maxTo _ _
    rw [maxTo_le]
    refine ⟨maxTo_neg _ _, fun p hp => ?_⟩
    refine Int.le_trans (ih (addA s p x) (addA s' p x) (addA_ne s p x hs) (by rw [addA_length, addA_length, hl]) fun q hq => ?_) (le_maxTo (f := fun p => fl l (addA s' p x)) (by omega))
    rw [addA_length] at hq
    rw [addA_getD s p q x hq, addA_getD s' p q x (by omega)]
    have := h q hq
    omega

/-- Swap two parts. -/
def swp (s : List Int) (a b : Nat) : List Int := (s.set a (s.getD b 0)).set b (s.getD a 0)
theorem swp_length (s : List Int) (a b : Nat) : (swp s a b).length = s.length := by simp [swp]
def tr (a b q : Nat) : Nat := if q = a then b else if q = b then a else q
theorem tr_lt {a b q n : Nat} (ha : a < n) (hb : b < n) (hq : q < n) : tr a b q < n := by unfold tr; split <;> (try split) <;> omega
theorem tr_tr (a b q : Nat) : tr a b (tr a b q) = q := by unfold tr; repeat' split <;> (try omega)
theorem swp_getD (s : List Int) (a b q : Nat) (ha : a < s.length) (hb : b < s.length) (hq : q < s.length) : (swp s a b).getD q 0 = s.getD (tr a b q) 0 := by
  unfold swp tr
  rw [List.getD_eq_getElem?_getD, List.getElem?_set, List.getElem?_set]
  by_cases h1 : b = q
  · subst h1
    by_cases h2 : b = a
    · subst h2; simp [hb]
    · simp [hb, h2]
  · rw [if_neg h1]
    by_cases h2 : a = q
    · subst h2; simp [ha]
    · rw [if_neg h2, if_neg (fun h => h2 h.symm), if_neg (fun h => h1 h.symm), List.getD_eq_getElem?_getD]

/-- A permutation of two parts changes nothing. -/
theorem fl_tr (l : List Int) : ∀ (s s' : List Int) (a b : Nat), s ≠ [] → s.length = s'.length → a < s.length → b < s.length → (∀ q, q < s.length → s'.getD q 0 = s.getD (tr a b q) 0) → fl l s ≤ fl l s' := by
  induction l with
  | nil =>
    intro s s' a b hs hl ha hb h
    have hs' : s' ≠ [] := by rintro rfl; exact hs (List.eq_nil_of_length_eq_zero (by simpa using hl))
    show lmin s ≤ lmin s'
    rw [lmin_mem_ge hs']
    intro q hq
    rw [h q (by omega)]
    exact (lmin_mem_ge hs _).1 (Int.le_refl _) _ (tr_lt ha hb (by omega))
  | cons x l ih =>
    intro s s' a b hs hl ha hb h
    show maxTo _ _ ≤ maxTo _ _
    rw [maxTo_le]
    refine ⟨maxTo_neg _ _, fun p hp => ?_⟩
    refine Int.le_trans (ih (addA s p x) (addA s' (tr a b p) x) a b (addA_ne s p x hs) (by rw [addA_length, addA_length, hl]) (by rw [addA_length]; exact ha) (by rw [addA_length]; exact hb) fun q hq => ?_) (le_maxTo (f := fun p => fl l (addA s' p x)) (show tr a b p < _ by have := tr_lt ha hb hp; omega))
    rw [addA_length] at hq
    rw [addA_getD s' _ q x (by omega), addA_getD s p _ x (tr_lt ha hb hq), h q hq]
    congr 1
    by_cases e : q = tr a b p
    · rw [if_pos e, if_pos (by rw [e, tr_tr])]
    · rw [if_neg e, if_neg (fun h => e (by rw [← h, tr_tr]))]

/-- Parts that have nothing are alike: the narrowed search finds the greatest. -/
theorem sh_fl (l : List Int) : ∀ (s : List Int) (u : Nat), s ≠ [] → (∀ q, u ≤ q → q < s.length → s.getD q 0 = 0) → sh l s u = fl l s := by
  induction l with
  | nil => intro s u _ _; rfl
  | cons x l ih =>
    intro s u hs h0
    have e : ∀ p, p < s.length → p ≤ u → sh l (addA s p x) (max u (p + 1)) = fl l (addA s p x) := by
      intro p hp hpu
      refine ih _ _ (addA_ne s p x hs) fun q hq hql => ?_
      rw [addA_length] at hql
      rw [addA_getD s p q x hql, h0 q (by omega) hql, if_neg (by omega)]
      rfl
    have e1 : sh (x :: l) s u = maxTo (fun p => fl l (addA s p x)) (min (u + 1) s.length) := maxTo_congr fun p hp => e p (by omega) (by omega)
    rw [e1]
    show _ = maxTo (fun p => fl l (addA s p x)) s.length
    apply Int.le_antisymm
    · rw [maxTo_le]
      exact ⟨maxTo_neg _ _, fun p hp => le_maxTo (f := fun p => fl l (addA s p x)) (by omega)⟩
    · rw [maxTo_le]
      refine ⟨maxTo_neg _ _, fun p hp => ?_⟩
      by_cases hpu : p ≤ u
      · exact le_maxTo (f := fun p => fl l (addA s p x)) (by omega)
      · have hu : u < s.length := by omega
        refine Int.le_trans (fl_tr l (addA s p x) (addA s u x) p u (addA_ne s p x hs) (by rw [addA_length, addA_length]) (by rw [addA_length]; exact hp) (by rw [addA_length]; exact hu) fun q hq => ?_) (le_maxTo (f := fun p => fl l (addA s p x)) (show u < _ by omega))
        rw [addA_length] at hq
        rw [addA_getD s u q x hq, addA_getD s p _ x (tr_lt hp hu hq)]
        unfold tr
        by_cases h1 : q = p
        · subst h1
          rw [if_pos rfl, if_neg (by omega), if_neg (by omega), h0 q (by omega) hq, h0 u (Nat.le_refl _) hu]
        · by_cases h2 : q = u
          · subst h2
            rw [if_pos rfl, if_neg h1, if_pos rfl, if_pos rfl, h0 q (Nat.le_refl _) hq, h0 p (by omega) hp]
          · rw [if_neg h2, if_neg h1, if_neg h2, if_neg h1]

/- The share: bounds, and how it changes with people and goods. Plain Lean. -/

/-- The share of n people. -/
def shV (l : List Int) (n : Nat) : Int := sh l (List.replicate n 0) 0
theorem shV_fl {l : List Int} {n : Nat} (hn : 1 ≤ n) : shV l n = fl l (List.replicate n 0) := by
  refine sh_fl l _ 0 (by intro h; have := congrArg List.length h; simp at this; omega) fun q _ hq => ?_
  rw [List.length_replicate] at hq
  simp [List.getD_eq_getElem?_getD, hq]

theorem fl_ge (l : List Int) : ∀ (s : List Int) (c : Int), s ≠ [] → (∀ x ∈ l, 0 ≤ x) → (∀ q, q < s.length → c ≤ s.getD q 0) → c ≤ fl l s := by
  induction l with
  | nil => intro s c hs _ h; exact (lmin_mem_ge hs c).2 h
  | cons x l ih =>
    intro s c hs hx h
    have h0 : 0 < s.length := List.length_pos_iff.2 hs
    refine Int.le_trans (ih (addA s 0 x) c (addA_ne s 0 x hs) (fun y hy => hx y (List.mem_cons_of_mem _ hy)) fun q hq => ?_) (le_maxTo (f := fun p => fl l (addA s p x)) h0)
    rw [addA_length] at hq
    rw [addA_getD s 0 q x hq]
    have := h q hq
    have := hx x (List.mem_cons_self ..)
    split <;> omega

theorem sum_set (s : List Int) (p : Nat) (v : Int) (h : p < s.length) : (s.set p v).sum = s.sum - s.getD p 0 + v := by
  induction s generalizing p with
  | nil => simp at h
  | cons y s ih =>
    cases p with
    | zero => simp; omega
    | succ p =>
      simp only [List.set_cons_succ, List.sum_cons, List.getD_cons_succ]
      rw [ih p (by simpa using h)]
      omega
theorem addA_sum (s : List Int) (p : Nat) (x : Int) (h : p < s.length) : (addA s p x).sum = s.sum + x := by
  unfold addA; rw [sum_set s p _ h]; omega
theorem sum_ge (s : List Int) (c : Int) (h : ∀ x ∈ s, c ≤ x) : c * s.length ≤ s.sum := by
  induction s with
  | nil => simp
  | cons y s ih =>
    have h1 := h y (List.mem_cons_self ..)
    have h2 := ih fun x hx => h x (List.mem_cons_of_mem _ hx)
    simp only [List.length_cons, List.sum_cons]
    rw [show ((s.length + 1 : Nat) : Int) = (s.length : Int) + 1 by omega, Int.mul_add, Int.mul_one]
    omega
/-- The least sum times the people is at most all. -/
theorem fl_sum (l : List Int) : ∀ (s : List Int), s ≠ [] → (∀ x ∈ l, 0 ≤ x) → (∀ x ∈ s, 0 ≤ x) → fl l s * s.length ≤ s.sum + l.sum := by
  induction l with
  | nil =>
    intro s hs _ _
    have := sum_ge s (lmin s) ((lmin_ge hs _).1 (Int.le_refl _))
    show lmin s * s.length ≤ s.sum + ([] : List Int).sum
    simpa using this
  | cons x l ih =>
    intro s hs hl h0
    have hx := hl x (List.mem_cons_self ..)
    have hpos : 0 < s.length := List.length_pos_iff.2 hs
    have key : ∀ p, p < s.length → fl l (addA s p x) * s.length ≤ s.sum + (x :: l).sum := by
      intro p hp
      have hh := ih (addA s p x) (addA_ne s p x hs) (fun y hy => hl y (List.mem_cons_of_mem _ hy)) (by
        intro y hy
        obtain ⟨q, hq, rfl⟩ := List.mem_iff_getElem.1 hy
        have hq' : q < s.length := by rwa [addA_length] at hq
        have e : (addA s p x)[q] = s.getD q 0 + if q = p then x else 0 := by
          rw [← addA_getD s p q x hq', List.getD_eq_getElem?_getD, List.getElem?_eq_getElem hq]; rfl
        have hs0 : 0 ≤ s.getD q 0 := by rw [List.getD_eq_getElem?_getD, List.getElem?_eq_getElem hq']; exact h0 _ (List.getElem_mem hq')
        rw [e]; split <;> omega)
      rw [addA_length, addA_sum s p x hp] at hh
      simp only [List.sum_cons]
      omega
    have hmax : ∃ p, p < s.length ∧ fl (x :: l) s = fl l (addA s p x) := by
      have gen : ∀ (f : Nat → Int) (k : Nat), 0 < k → (∀ p, p < k → -1 ≤ f p) → ∃ p, p < k ∧ maxTo f k = f p := by
        intro f k
        induction k with
        | zero => intro h; omega
        | succ k ihk =>
          intro _ hf
          by_cases hk : k = 0
          · subst hk
            refine ⟨0, by omega, ?_⟩
            simp only [maxTo]
            have := hf 0 (by omega)
            omega
          · obtain ⟨p, hp, e⟩ := ihk (by omega) fun p hp => hf p (by omega)
            simp only [maxTo]
            by_cases hle : maxTo f k ≤ f k
            · exact ⟨k, by omega, Int.max_eq_right hle⟩
            · exact ⟨p, by omega, by rw [Int.max_eq_left (by omega)]; exact e⟩
      refine gen _ _ hpos fun p hp => ?_
      refine fl_ge l _ _ (addA_ne s p x hs) (fun y hy => hl y (List.mem_cons_of_mem _ hy)) fun q hq => ?_
      rw [addA_length] at hq
      rw [addA_getD s p q x hq, List.getD_eq_getElem?_getD, List.getElem?_eq_getElem hq]
      have := h0 _ (List.getElem_mem hq)
      simp only [Option.getD_some]
      split <;> omega
    obtain ⟨p, hp, e⟩ := hmax
    rw [e]
    exact key p hp

/-- One part more: none gets more. -/
theorem fl_more (l : List Int) : ∀ (s s' : List Int) (y : Int), s ≠ [] → s.length = s'.length → (∀ x ∈ l, 0 ≤ x) → (∀ q, q < s.length → s.getD q 0 ≤ s'.getD q 0) → fl l (s ++ [y]) ≤ fl l s' := by
  induction l with
  | nil =>
    intro s s' y hs hl _ h
    have hs' : s' ≠ [] := by rintro rfl; exact hs (List.eq_nil_of_length_eq_zero (by simpa using hl))
    show lmin (s ++ [y]) ≤ lmin s'
    rw [lmin_mem_ge hs']
    intro q hq
    have h1 := (lmin_mem_ge (s := s ++ [y]) (by simp) _).1 (Int.le_refl _) q (by simp; omega)
    have e : (s ++ [y]).getD q 0 = s.getD q 0 := by
      rw [List.getD_eq_getElem?_getD, List.getD_eq_getElem?_getD, List.getElem?_append_left (by omega)]
    rw [e] at h1
    exact Int.le_trans h1 (h q (by omega))
  | cons x l ih =>
    intro s s' y hs hl hx h
    have hx0 := hx x (List.mem_cons_self ..)
    have hxl : ∀ z ∈ l, 0 ≤ z := fun z hz => hx z (List.mem_cons_of_mem _ hz)
    have hpos : 0 < s.length := List.length_pos_iff.2 hs
    show maxTo _ _ ≤ maxTo _ _
    rw [maxTo_le]
    refine ⟨maxTo_neg _ _, fun p hp => ?_⟩
    rw [List.length_append, List.length_singleton] at hp
    by_cases hps : p < s.length
    · have e : addA (s ++ [y]) p x = addA s p x ++ [y] := by
        unfold addA
        rw [List.set_append_left _ _ hps, List.getD_eq_getElem?_getD, List.getD_eq_getElem?_getD, List.getElem?_append_left hps]
      rw [e]
      refine Int.le_trans (ih (addA s p x) (addA s' p x) y (addA_ne s p x hs) (by rw [addA_length, addA_length, hl]) hxl fun q hq => ?_) (le_maxTo (f := fun p => fl l (addA s' p x)) (show p < _ by omega))
      rw [addA_length] at hq
      rw [addA_getD s p q x hq, addA_getD s' p q x (by omega)]
      have := h q hq
      omega
    · obtain rfl : p = s.length := by omega
      have e : addA (s ++ [y]) s.length x = s ++ [y + x] := by
        unfold addA
        rw [List.set_append_right _ _ (Nat.le_refl _), List.getD_eq_getElem?_getD, List.getElem?_append_right (Nat.le_refl _)]
        simp
      rw [e]
      refine Int.le_trans (ih s (addA s' 0 x) (y + x) hs (by rw [addA_length, hl]) hxl fun q hq => ?_) (le_maxTo (f := fun p => fl l (addA s' p x)) (show 0 < _ by omega))
      rw [addA_getD s' 0 q x (by omega)]
      have := h q hq
      split <;> omega

theorem shV_nonneg {l : List Int} {n : Nat} (hn : 1 ≤ n) (hl : ∀ x ∈ l, 0 ≤ x) : 0 ≤ shV l n := by
  rw [shV_fl hn]
  refine fl_ge l _ 0 (by intro h; have := congrArg List.length h; simp at this; omega) hl fun q hq => ?_
  rw [List.length_replicate] at hq
  simp [List.getD_eq_getElem?_getD, hq]
theorem sum_zeros (n : Nat) : (List.replicate n (0 : Int)).sum = 0 := by
  induction n with
  | zero => rfl
  | succ n ih => rw [List.replicate_succ, List.sum_cons, ih]; rfl
theorem shV_sum {l : List Int} {n : Nat} (hn : 1 ≤ n) (hl : ∀ x ∈ l, 0 ≤ x) : shV l n * n ≤ l.sum := by
  rw [shV_fl hn]
  have h := fl_sum l (List.replicate n 0) (by intro h; have := congrArg List.length h; simp at this; omega) hl (fun x hx => by rw [List.eq_of_mem_replicate hx]; exact Int.le_refl _)
  rw [List.length_replicate, sum_zeros, Int.zero_add] at h
  exact h
theorem shV_more {l : List Int} {n : Nat} (hn : 1 ≤ n) (hl : ∀ x ∈ l, 0 ≤ x) : shV l (n + 1) ≤ shV l n := by
  rw [shV_fl hn, shV_fl (by omega), List.replicate_succ']
  exact fl_more l _ _ 0 (by intro h; have := congrArg List.length h; simp at this; omega) rfl hl fun q _ => Int.le_refl _
theorem shV_tail {x : Int} {l : List Int} {n : Nat} (hn : 1 ≤ n) (hl : ∀ y ∈ x :: l, 0 ≤ y) : shV l n ≤ shV (x :: l) n := by
  have hne : List.replicate n (0 : Int) ≠ [] := by intro h; have := congrArg List.length h; simp at this; omega
  rw [shV_fl hn, shV_fl hn]
  refine Int.le_trans (fl_mono l (List.replicate n 0) (addA (List.replicate n 0) 0 x) hne (by rw [addA_length]) fun q hq => ?_) (le_maxTo (f := fun p => fl l (addA (List.replicate n 0) p x)) (show 0 < _ by simp; omega))
  rw [addA_getD _ 0 q x hq]
  have := hl x (List.mem_cons_self ..)
  split <;> omega

/- Fair up to one gives everyone the share of twice as many people, less one: plain Lean. -/

theorem sumN_shift (f : Nat → Int) (n : Nat) : sumN f (n + 1) = f 0 + sumN (fun k => f (k + 1)) n := by
  induction n with
  | zero => simp [sumN]
  | succ n ih => rw [sumN, ih]; simp only [sumN]; omega
theorem sumN_congr {f g : Nat → Int} {n : Nat} (h : ∀ k, k < n → f k = g k) : sumN f n = sumN g n := by
  induction n with
  | zero => rfl
  | succ n ih => simp only [sumN]; rw [ih fun k hk => h k (by omega), h n (by omega)]
theorem sumN_swap (f : Nat → Nat → Int) (a b : Nat) : sumN (fun x => sumN (fun y => f x y) b) a = sumN (fun y => sumN (fun x => f x y) a) b := by
  induction a with
  | zero => simp only [sumN]; rw [sumN_zero]
  | succ a ih => simp only [sumN]; rw [ih, sumN_add]
theorem sumN_pick (n p : Nat) (x : Int) (h : p < n) : sumN (fun j => if p = j then x else 0) n = x := by
  refine Eq.trans (sumN_congr fun k _ => ?_) (sumN_one x p n h)
  by_cases e : p = k
  · rw [if_pos e, if_pos (by omega)]
  · rw [if_neg e, if_neg (by omega)]
theorem sumN_mul (c : Int) (f : Nat → Int) (n : Nat) : sumN (fun k => c * f k) n = c * sumN f n := by
  induction n with
  | zero => simp [sumN]
  | succ n ih => simp only [sumN]; rw [ih, Int.mul_add]
theorem sumN_const (c : Int) (n : Nat) : sumN (fun _ => c) n = c * n := by
  induction n with
  | zero => simp [sumN]
  | succ n ih => simp only [sumN]; rw [ih, show ((n + 1 : Nat) : Int) = (n : Int) + 1 by omega, Int.mul_add, Int.mul_one]
theorem maxTo_at (f : Nat → Int) (k : Nat) (hk : 0 < k) (hf : ∀ p, p < k → -1 ≤ f p) : ∃ p, p < k ∧ maxTo f k = f p := by
  induction k with
  | zero => omega
  | succ k ih =>
    by_cases h0 : k = 0
    · subst h0
      refine ⟨0, by omega, ?_⟩
      simp only [maxTo]
      have := hf 0 (by omega)
      omega
    · obtain ⟨p, hp, e⟩ := ih (by omega) fun p hp => hf p (by omega)
      simp only [maxTo]
      by_cases hle : maxTo f k ≤ f k
      · exact ⟨k, by omega, Int.max_eq_right hle⟩
      · exact ⟨p, by omega, by rw [Int.max_eq_left (by omega)]; exact e⟩

/-- The greatest least sum is had by some parts. -/
theorem fl_attain (l : List Int) : ∀ s : List Int, s ≠ [] → (∀ x ∈ l, 0 ≤ x) → (∀ q, q < s.length → 0 ≤ s.getD q 0) →
    ∃ p : List Nat, p.length = l.length ∧ (∀ k, k < l.length → p.getD k 0 < s.length) ∧ ∀ q, q < s.length → fl l s ≤ s.getD q 0 + sumN (fun k => if p.getD k 0 = q then l.getD k 0 else 0) l.length := by
  induction l with
  | nil =>
    intro s hs _ _
    refine ⟨[], rfl, fun k hk => by simp at hk, fun q hq => ?_⟩
    have := (lmin_mem_ge hs (lmin s)).1 (Int.le_refl _) q hq
    simp only [List.length_nil, sumN]
    show lmin s ≤ _
    omega
  | cons x l ih =>
    intro s hs hl h0
    have hx := hl x (List.mem_cons_self ..)
    have hll : ∀ y ∈ l, 0 ≤ y := fun y hy => hl y (List.mem_cons_of_mem _ hy)
    have hpos : 0 < s.length := List.length_pos_iff.2 hs
    have hadd : ∀ p, ∀ q, q < s.length → 0 ≤ (addA s p x).getD q 0 := by
      intro p q hq
      rw [addA_getD s p q x hq]
      have := h0 q hq
      split <;> omega
    obtain ⟨p0, hp0, e⟩ := maxTo_at (fun p => fl l (addA s p x)) s.length hpos fun p hp => by
      have := fl_ge l (addA s p x) 0 (addA_ne s p x hs) hll (fun q hq => hadd p q (by rwa [addA_length] at hq))
      omega
    obtain ⟨ps, h1, h2, h3⟩ := ih (addA s p0 x) (addA_ne s p0 x hs) hll (fun q hq => hadd p0 q (by rwa [addA_length] at hq))
    rw [addA_length] at h2 h3
    refine ⟨p0 :: ps, by simp [h1], fun k hk => ?_, fun q hq => ?_⟩
    · cases k with
      | zero => exact hp0
      | succ k => simp only [List.getD_cons_succ]; exact h2 k (by simpa using hk)
    · show maxTo _ _ ≤ _
      rw [e]
      have h4 := h3 q hq
      rw [addA_getD s p0 q x hq] at h4
      rw [List.length_cons, sumN_shift]
      simp only [List.getD_cons_zero, List.getD_cons_succ]
      by_cases eq : q = p0
      · rw [if_pos eq] at h4; rw [if_pos eq.symm]; omega
      · rw [if_neg eq] at h4; rw [if_neg (fun h => eq h.symm)]; omega

theorem worTo_sumN (row d : List Int) (j : Int) (g : Nat) : worTo row d j g = sumN (fun k => if d.getD k 0 = j then row.getD k 0 else 0) g := by
  induction g with
  | zero => rfl
  | succ g ih => simp only [worTo, sumN]; rw [ih]

theorem ef1_share {V : List (List Int)} {d : List Int} {n m i : Nat} (hn : 1 ≤ n) (hd : ∀ x ∈ d, 0 ≤ x ∧ x < (n : Int)) (hld : d.length = m) (hr : ∀ i, i < n → (rowV V i).length = m ∧ ∀ x ∈ rowV V i, 0 ≤ x ∧ x ≤ 100) (hi : i < n) (hef : ef1 V d n) :
    shV (rowV V i) (2 * n - 1) ≤ wor V d i (i : Int) := by
  obtain ⟨hrl, hrb⟩ := hr i hi
  have hnn : ∀ x ∈ rowV V i, 0 ≤ x := fun x hx => (hrb x hx).1
  obtain ⟨row, hrow⟩ : ∃ row, row = rowV V i := ⟨_, rfl⟩
  rw [← hrow] at hrl hrb hnn ⊢
  have hrk : ∀ k, 0 ≤ row.getD k 0 := by
    intro k
    rw [List.getD_eq_getElem?_getD]
    cases hx : row[k]? with
    | none => simp
    | some x => exact hnn x (List.mem_of_getElem? hx)
  obtain ⟨own, hown⟩ : ∃ own, own = wor V d i (i : Int) := ⟨_, rfl⟩
  rw [← hown]
  have hN : 1 ≤ 2 * n - 1 := by omega
  have hs0 := shV_nonneg (l := row) hN hnn
  rw [shV_fl hN] at hs0 ⊢
  obtain ⟨ps, hp1, hp2, hp3⟩ := fl_attain row (List.replicate (2 * n - 1) 0) (by intro h; have := congrArg List.length h; simp at this; omega) hnn (fun q hq => by
    rw [List.length_replicate] at hq
    rw [List.getD_eq_getElem?_getD, List.getElem?_replicate_of_lt hq]; simp)
  rw [List.length_replicate] at hp2 hp3
  generalize fl row (List.replicate (2 * n - 1) 0) = s0 at hs0 hp3 ⊢
  have hp3 : ∀ q, q < 2 * n - 1 → s0 ≤ sumN (fun k => if ps.getD k 0 = q then row.getD k 0 else 0) m := by
    intro q hq
    have h := hp3 q hq
    rw [List.getD_eq_getElem?_getD, List.getElem?_replicate_of_lt hq, hrl] at h
    simpa using h
  rw [hrl] at hp2
  -- a good of each one who is envied
  have hch : ∀ j, ∃ g : Nat, (g < m → j < n ∧ j ≠ i ∧ d.getD g 0 = (j : Int)) ∧ (j < n → wor V d i (j : Int) - (if g < m then row.getD g 0 else 0) ≤ own) := by
    intro j
    by_cases hj : j < n
    · by_cases he : envB V d i j = true
      · obtain ⟨g, hg, e, h⟩ := hef i j hi hj he
        rw [hld] at hg
        refine ⟨g, fun _ => ⟨hj, ?_, e⟩, fun _ => by rw [if_pos hg, hrow, hown]; exact h⟩
        rintro rfl
        simp [envB] at he
      · refine ⟨m, fun h => by omega, fun _ => ?_⟩
        have he' : envB V d i j = false := by simpa using he
        unfold envB at he'
        have := of_decide_eq_false he'
        rw [if_neg (by omega), hown]; omega
    · exact ⟨m, fun h => by omega, fun h => absurd h hj⟩
  obtain ⟨c, hc⟩ := Classical.axiomOfChoice hch
  have hdk : ∀ k, k < m → ∃ p : Nat, d.getD k 0 = (p : Int) ∧ p < n := fun k hk => getD_in hd (by omega)
  obtain ⟨R, hR⟩ : ∃ R : Nat → Int, R = fun k => if c (d.getD k 0).toNat = k then 1 else 0 := ⟨_, rfl⟩
  have hR01 : ∀ k, R k = 0 ∨ R k = 1 := by intro k; rw [hR]; simp only; split <;> simp
  -- at most n - 1 goods
  have h1 : sumN R m ≤ (n : Int) - 1 := by
    have e1 : sumN R m = sumN (fun k => sumN (fun j => if d.getD k 0 = (j : Int) ∧ c j = k then 1 else 0) n) m := sumN_congr fun k hk => by
      obtain ⟨p, hp, hpn⟩ := hdk k hk
      rw [hR]
      simp only [hp, Int.toNat_natCast]
      by_cases e : c p = k
      · rw [if_pos e]
        refine (Eq.trans (sumN_congr fun j _ => ?_) (sumN_pick n p 1 hpn)).symm
        · by_cases e2 : p = j
          · subst e2; rw [if_pos rfl, if_pos ⟨rfl, e⟩]
          · rw [if_neg e2, if_neg (fun h => e2 (by omega))]
      · rw [if_neg e]
        refine (Eq.trans (sumN_congr fun j _ => ?_) (sumN_zero n)).symm
        · rw [if_neg]
          rintro ⟨h, h2⟩
          have : p = j := by omega
          subst this
          exact e h2
    rw [e1, sumN_swap]
    have h2 : sumN (fun j => sumN (fun k => if d.getD k 0 = (j : Int) ∧ c j = k then 1 else 0) m) n ≤ sumN (fun j => 1 - (if i = j then 1 else 0)) n := sumN_mono n fun j hj => by
      have h3 : sumN (fun k => if d.getD k 0 = (j : Int) ∧ c j = k then (1 : Int) else 0) m ≤ sumN (fun k => if c j = k then (if c j < m then 1 else 0) * (if i = j then 0 else 1) else 0) m := sumN_mono m fun k hk => by
        by_cases e : c j = k
        · have hcj := (hc j).1 (by omega)
          rw [if_pos e, if_pos (show c j < m by omega), if_neg (show ¬ i = j from fun h => hcj.2.1 h.symm)]
          split <;> simp
        · rw [if_neg e, if_neg (fun h => e h.2)]
          exact Int.le_refl _
      refine Int.le_trans h3 ?_
      by_cases hcm : c j < m
      · rw [sumN_pick m (c j) _ hcm, if_pos hcm]
        split <;> simp
      · have e0 : sumN (fun k => if c j = k then (if c j < m then (1 : Int) else 0) * (if i = j then 0 else 1) else 0) m = 0 := by
          exact Eq.trans (sumN_congr fun k hk => by rw [if_neg (show ¬ c j = k by omega)]) (sumN_zero m)
        rw [e0]; split <;> simp
    refine Int.le_trans h2 ?_
    have e3 : sumN (fun j => (1 : Int) - (if i = j then 1 else 0)) n = sumN (fun _ => 1) n - sumN (fun j => if i = j then 1 else 0) n := by
      have := sumN_add (fun j => (1 : Int) - (if i = j then 1 else 0)) (fun j => if i = j then 1 else 0) n
      have e4 : sumN (fun j => (1 : Int) - (if i = j then 1 else 0) + (if i = j then 1 else 0)) n = sumN (fun _ => 1) n := sumN_congr fun j _ => by omega
      omega
    rw [e3, sumN_pick n i 1 hi, sumN_const]
    omega
  -- what the others are worth
  have h2 : sumN (fun k => row.getD k 0 * (1 - R k)) m ≤ own * n := by
    have e1 : sumN (fun k => row.getD k 0 * (1 - R k)) m = sumN (fun k => sumN (fun j => if d.getD k 0 = (j : Int) then row.getD k 0 * (1 - R k) else 0) n) m := sumN_congr fun k hk => by
      obtain ⟨p, hp, hpn⟩ := hdk k hk
      refine (Eq.trans (sumN_congr fun j _ => ?_) (sumN_pick n p (row.getD k 0 * (1 - R k)) hpn)).symm
      · rw [hp]
        by_cases e2 : p = j
        · rw [if_pos e2, if_pos (by omega)]
        · rw [if_neg e2, if_neg (by omega)]
    rw [e1, sumN_swap]
    refine sumN_le n fun j hj => ?_
    have h3 := (hc j).2 hj
    have e5 : wor V d i (j : Int) = sumN (fun k => if d.getD k 0 = (j : Int) then row.getD k 0 else 0) m := by unfold wor; rw [← hrow, hld, worTo_sumN]
    have e6 : (if c j < m then row.getD (c j) 0 else 0) = sumN (fun k => if c j = k then row.getD k 0 else 0) m := by
      by_cases hcm : c j < m
      · rw [if_pos hcm]
        refine (Eq.trans (sumN_congr fun k _ => ?_) (sumN_pick m (c j) (row.getD (c j) 0) hcm)).symm
        · by_cases e : c j = k
          · rw [if_pos e, if_pos e, e]
          · rw [if_neg e, if_neg e]
      · rw [if_neg hcm]
        exact (Eq.trans (sumN_congr fun k hk => by rw [if_neg (show ¬ c j = k by omega)]) (sumN_zero m)).symm
    rw [e5, e6] at h3
    have e7 : sumN (fun k => if d.getD k 0 = (j : Int) then row.getD k 0 * (1 - R k) else 0) m + sumN (fun k => if c j = k then row.getD k 0 else 0) m = sumN (fun k => if d.getD k 0 = (j : Int) then row.getD k 0 else 0) m := by
      rw [← sumN_add]
      refine sumN_congr fun k hk => ?_
      by_cases e : d.getD k 0 = (j : Int)
      · rw [if_pos e, if_pos e, hR]
        simp only [e, Int.toNat_natCast]
        by_cases e2 : c j = k
        · rw [if_pos e2, if_pos e2]; simp
        · rw [if_neg e2, if_neg e2]; simp
      · rw [if_neg e, if_neg e]
        by_cases e2 : c j = k
        · exact absurd (by rw [← e2]; exact ((hc j).1 (by omega)).2.2) e
        · rw [if_neg e2]; rfl
    omega
  -- parts without such goods
  obtain ⟨u, hu⟩ : ∃ u : Nat → Int, u = fun q => if ∃ k, k < m ∧ ps.getD k 0 = q ∧ R k = 1 then 1 else 0 := ⟨_, rfl⟩
  have hu01 : ∀ q, u q = 0 ∨ u q = 1 := by intro q; rw [hu]; simp only; split <;> simp
  have hup : ∀ k, k < m → R k ≤ u (ps.getD k 0) := by
    intro k hk
    rcases hR01 k with h | h
    · rcases hu01 (ps.getD k 0) with h' | h' <;> omega
    · rw [hu]; simp only; rw [if_pos ⟨k, hk, rfl, h⟩]; omega
  have h3 : sumN u (2 * n - 1) ≤ sumN R m := by
    have e1 : sumN R m = sumN (fun q => sumN (fun k => if ps.getD k 0 = q then R k else 0) m) (2 * n - 1) := by
      rw [sumN_swap]
      exact sumN_congr fun k hk => (sumN_pick (2 * n - 1) (ps.getD k 0) (R k) (hp2 k hk)).symm
    rw [e1]
    refine sumN_mono _ fun q _ => ?_
    have hnn0 : ∀ k, 0 ≤ (if ps.getD k 0 = q then R k else 0) := by
      intro k; split
      · rcases hR01 k with h | h <;> omega
      · exact Int.le_refl _
    by_cases hq : ∃ k, k < m ∧ ps.getD k 0 = q ∧ R k = 1
    · obtain ⟨k, hk, e2, e3⟩ := hq
      have h4 : sumN (fun k' => if k = k' then (1 : Int) else 0) m ≤ sumN (fun k => if ps.getD k 0 = q then R k else 0) m := sumN_mono m fun k' _ => by
        by_cases e4 : k = k'
        · subst e4; rw [if_pos rfl, if_pos e2, e3]; exact Int.le_refl _
        · rw [if_neg e4]; exact hnn0 k'
      rw [sumN_pick m k 1 hk] at h4
      rcases hu01 q with h | h <;> omega
    · have : u q = 0 := by rw [hu]; simp only; rw [if_neg hq]
      rw [this]
      have := sumN_mono (f := fun _ => 0) (g := fun k => if ps.getD k 0 = q then R k else 0) m fun k _ => hnn0 k
      rwa [sumN_zero] at this
  have h4 : sumN (fun q => sumN (fun k => if ps.getD k 0 = q then row.getD k 0 * (1 - u q) else 0) m) (2 * n - 1) ≤ sumN (fun k => row.getD k 0 * (1 - R k)) m := by
    rw [sumN_swap]
    refine sumN_mono m fun k hk => ?_
    have e1 : sumN (fun q => if ps.getD k 0 = q then row.getD k 0 * (1 - u q) else 0) (2 * n - 1) = row.getD k 0 * (1 - u (ps.getD k 0)) := by
      refine Eq.trans (sumN_congr fun q _ => ?_) (sumN_pick (2 * n - 1) (ps.getD k 0) (row.getD k 0 * (1 - u (ps.getD k 0))) (hp2 k hk))
      · by_cases e : ps.getD k 0 = q
        · rw [if_pos e, if_pos e, e]
        · rw [if_neg e, if_neg e]
    rw [e1]
    exact Int.mul_le_mul_of_nonneg_left (by have := hup k hk; omega) (hrk k)
  have h5 : s0 * sumN (fun q => 1 - u q) (2 * n - 1) ≤ sumN (fun q => sumN (fun k => if ps.getD k 0 = q then row.getD k 0 * (1 - u q) else 0) m) (2 * n - 1) := by
    rw [← sumN_mul]
    refine sumN_mono _ fun q hq => ?_
    rcases hu01 q with h | h
    · rw [h]
      simp only [Int.sub_zero, Int.mul_one]
      exact hp3 q hq
    · rw [h]
      simp only [Int.sub_self, Int.mul_zero]
      have e0 : sumN (fun k => if ps.getD k 0 = q then (0 : Int) else 0) m = 0 := by
        exact Eq.trans (sumN_congr fun k _ => by split <;> rfl) (sumN_zero m)
      rw [e0]; exact Int.le_refl _
  have h6 : (n : Int) ≤ sumN (fun q => 1 - u q) (2 * n - 1) := by
    have e1 := sumN_add (fun q => 1 - u q) u (2 * n - 1)
    have e2 : sumN (fun q => 1 - u q + u q) (2 * n - 1) = sumN (fun _ => 1) (2 * n - 1) := sumN_congr fun q _ => by omega
    rw [e2, sumN_const] at e1
    omega
  have h7 : s0 * n ≤ own * n := Int.le_trans (Int.mul_le_mul_of_nonneg_left h6 hs0) (Int.le_trans h5 (Int.le_trans h4 h2))
  exact Int.le_of_mul_le_mul_right h7 (by omega)

/- Contract: division of package split. -/

/-- No person. -/
def badD (n : Nat) (x : Int) : Bool := decide (x < 0) || decide ((n : Int) ≤ x)
/-- A division of the goods. -/
def divV (V : List (List Int)) (d : List Int) : Bool := decide (d.length = (rowV V 0).length) && !d.any (badD V.length)

set_option maxHeartbeats 800000 in
theorem sdivision1_any (A : Option Addr) (x : Int) (Bv n cap : Nat) (w : World) (hv : w.cell? ⟨Bv, 0, none⟩ = some (.slice A n cap)) :
    Calls Try.prog 90 #[.int .i64 x, .pointer (some ⟨Bv, 0, none⟩)] w fun e w' => e = .returned (.bool (badD n x)) ∧ w = w' := by
  by_cases h : x < 0
  · have HB : Hid (badD n x = true) := Lib.hid (by unfold badD; rw [decide_eq_true h]; rfl)
    go_enter Try.func90, Try.ntmps90
    go_wp2_with fail
    go_ret
    exact ⟨ret_bool HB.out.symm, rfl⟩
  · have HB : Hid (badD n x = decide ((n : Int) ≤ x)) := Lib.hid (by unfold badD; rw [decide_eq_false h]; rfl)
    go_enter Try.func90, Try.ntmps90
    go_wp2_with fail
    go_ret
    exact ⟨ret_bool HB.out.symm, rfl⟩

/-- What IndexFunc leaves. -/
def AnyPostD (b : Bool) (w : World) (e : Ending) (w' : World) : Prop := ∃ r : Int, e = .returned (.int .i64 r) ∧ w = w' ∧ -1 ≤ r ∧ decide (0 ≤ r) = b
set_option maxHeartbeats 800000 in
theorem indexD_any (D A : Option Addr) (nd capd n cap Bv : Nat) (d : List Int) (w : World) (hv : w.cell? ⟨Bv, 0, none⟩ = some (.slice A n cap))
    (hl : d.length = nd) (hn : nd ≤ 9223372036854775807) (hD : Ints w D d) :
    Calls Try.prog 107 #[.slice D nd capd, .func (.func 90) #[] #[.pointer (some ⟨Bv, 0, none⟩)]] w (AnyPostD (d.any (badD n)) w) := by
  have H := Lib.hid (And.intro hl hD)
  clear hl hD
  go_enter Try.func107, Try.ntmps107
  go_wp2_with fail
  go_loop [8] (fun i => ∃ k : Nat, k ≤ nd ∧ i = .int .i64 k ∧ (d.take k).any (badD n) = false) (fun i => nd - (intOf i).toNat)
  case atStart => exact ⟨0, Nat.zero_le _, rfl, by simp⟩
  case round =>
    obtain ⟨k, hk, rfl, ha⟩ := hrel
    have HA := Lib.hid ha
    clear ha
    by_cases hlt : k < nd
    · obtain ⟨x, hx⟩ : ∃ x, d[k]? = some x := ⟨_, List.getElem?_eq_getElem (by have := H.out.1; omega)⟩
      obtain ⟨ad, rfl, hc⟩ := H.out.2 k (.int .i64 x) (by rw [List.getElem?_map, hx]; rfl)
      have HX := Lib.hid hx
      have l1 : (k : Int) < (nd : Int) := by omega
      clear hx
      go_wp2_with fail
      refine (sdivision1_any A x Bv n cap _ hv).mono ?_
      rintro e w' ⟨rfl, rfl⟩
      cases hb : badD n x
      · have HN : Hid ((d.take (k + 1)).any (badD n) = false) := Lib.hid (by rw [List.take_add_one, HX.out, List.any_append, HA.out]; simp [hb])
        clear hb
        go_wp2_with fail
        go_round
        case rel => exact ⟨k + 1, by omega, by go_num, HN.out⟩
        case measure => simp [intOf]; omega
      · have HN : Hid (d.any (badD n) = true) := Lib.hid (List.any_eq_true.2 ⟨x, List.mem_of_getElem? HX.out, hb⟩)
        clear hb
        go_wp2_with fail
        go_ret
        exact ⟨(k : Int), rfl, rfl, by omega, by rw [HN.out, decide_eq_true (by omega)]⟩
    · have HN : Hid (d.any (badD n) = false) := Lib.hid (by have h := HA.out; rwa [List.take_of_length_le (by rw [H.out.1]; omega)] at h)
      go_wp2_with fail
      go_ret
      exact ⟨-1, rfl, rfl, by omega, by rw [HN.out]; rfl⟩

theorem containsD_any (D A : Option Addr) (nd capd n cap Bv : Nat) (d : List Int) (w : World) (hv : w.cell? ⟨Bv, 0, none⟩ = some (.slice A n cap))
    (hl : d.length = nd) (hn : nd ≤ 9223372036854775807) (hD : Ints w D d) :
    Calls Try.prog 89 #[.slice D nd capd, .func (.func 90) #[] #[.pointer (some ⟨Bv, 0, none⟩)]] w fun e w' => e = .returned (.bool (d.any (badD n))) ∧ w = w' := by
  go_enter Try.func89, Try.ntmps89
  go_wp2_with fail
  refine (indexD_any D A nd capd n cap Bv d _ hv hl hn hD).mono ?_
  rintro e w' ⟨r, rfl, rfl, hr, hd⟩
  have HD := Lib.hid hd
  clear hd hv hl hD
  go_wp2_with fail
  go_ret
  exact ⟨ret_bool HD.out, rfl⟩

set_option maxHeartbeats 800000 in
theorem sdivision_any (A D : Option Addr) (n cap nd capd m : Nat) (V : List (List Int)) (d : List Int) (w : World) (hlV : V.length = n) (hn : 1 ≤ n ∧ n ≤ 1000) (hm : m = (rowV V 0).length) (hm7 : m ≤ 1000) (hV : Mat w A V)
    (hl : d.length = nd) (hnd : nd ≤ 9223372036854775807) (hD : Ints w D d) :
    Calls Try.prog 49 #[.slice A n cap, .slice D nd capd] w fun e w' => e = .returned (.bool (divV V d)) ∧ Below w.heap.size w w' := by
  have hp : ∀ o, (w.alloc (.cells #[o] 61)).cell? ⟨w.heap.size, 0, none⟩ = some o := fun o => (Blk.new w 61 #[o] rfl).at1.1
  have hbw : ∀ o, Below w.heap.size w (w.alloc o) := fun o => (Below.refl _ _).alloc (Nat.le_refl _) _
  obtain ⟨b, hb⟩ : ∃ b, b = divV V d := ⟨_, rfl⟩
  rw [← hb]
  have H := Lib.hid (And.intro hlV (And.intro hm (And.intro hV (And.intro hl (And.intro hD (And.intro hbw hb))))))
  have hp1 := hp (.slice A n cap)
  clear hlV hm hV hl hD hbw hb hp
  go_enter Try.func49, Try.ntmps49
  go_wp2_with fail
  refine (goods_any A n cap m V _ H.out.1 hn.1 hn.2 H.out.2.1 hm7 (H.out.2.2.1.below (H.out.2.2.2.2.2.1 _))).mono ?_
  rintro e w' ⟨rfl, rfl⟩
  by_cases he : nd = m
  · subst he
    have HB : Hid (b = !d.any (badD n)) := Lib.hid (by rw [H.out.2.2.2.2.2.2]; unfold divV; rw [H.out.2.2.2.1, ← H.out.2.1, decide_eq_true rfl, H.out.1]; rfl)
    go_wp2_with fail
    refine (containsD_any D A nd capd n cap w.heap.size d _ hp1 H.out.2.2.2.1 hnd (H.out.2.2.2.2.1.below (H.out.2.2.2.2.2.1 _))).mono ?_
    rintro e w' ⟨rfl, rfl⟩
    go_wp2_with fail
    go_ret
    exact ⟨ret_bool HB.out.symm, H.out.2.2.2.2.2.1 _⟩
  · have HB : Hid (b = false) := Lib.hid (by rw [H.out.2.2.2.2.2.2]; unfold divV; rw [H.out.2.2.2.1, ← H.out.2.1, decide_eq_false he]; rfl)
    have h1 : ((nd : Int) == (m : Int)) = false := by rw [beq_eq_false_iff_ne]; omega
    clear he
    go_wp2_with fail
    go_ret
    exact ⟨ret_bool HB.out.symm, H.out.2.2.2.2.2.1 _⟩

/- People and goods by other names: the same worths, envy and fairness. Plain Lean. -/

/-- The name before it was turned by b. -/
def back (n b k : Nat) : Nat := (k + n - b) % n
theorem back_lt {n b k : Nat} (hn : 0 < n) : back n b k < n := Nat.mod_lt _ hn
theorem back_form {n b k : Nat} (hb : b < n) (hk : k < n) : back n b k = if b ≤ k then k - b else k + n - b := by
  unfold back
  split
  · rw [show k + n - b = (k - b) + n by omega, Nat.add_mod_right, Nat.mod_eq_of_lt (by omega)]
  · rw [Nat.mod_eq_of_lt (by omega)]
theorem forw_form {n b i : Nat} (hb : b < n) (hi : i < n) : (i + b) % n = if i + b < n then i + b else i + b - n := by
  split
  · rw [Nat.mod_eq_of_lt (by omega)]
  · rw [show i + b = (i + b - n) + n by omega, Nat.add_mod_right, Nat.mod_eq_of_lt (by omega)]; omega
theorem back_forw {n b i : Nat} (hb : b < n) (hi : i < n) : back n b ((i + b) % n) = i := by
  rw [back_form hb (Nat.mod_lt _ (by omega)), forw_form hb hi]
  split <;> split <;> omega
theorem forw_back {n b k : Nat} (hb : b < n) (hk : k < n) : (back n b k + b) % n = k := by
  rw [forw_form hb (back_lt (by omega)), back_form hb hk]
  split <;> split <;> omega
theorem sumN_split (f : Nat → Int) (a c : Nat) : sumN f (a + c) = sumN f a + sumN (fun k => f (a + k)) c := by
  induction c with
  | zero => simp [sumN]
  | succ c ih => rw [← Nat.add_assoc]; simp only [sumN]; rw [ih]; omega
theorem sumN_back (f : Nat → Int) {n b : Nat} (hb : b < n) : sumN (fun k => f (back n b k)) n = sumN f n := by
  have h1 := sumN_split (fun k => f (back n b k)) b (n - b)
  have h2 := sumN_split f (n - b) b
  rw [show b + (n - b) = n by omega] at h1
  rw [show n - b + b = n by omega] at h2
  rw [h1, h2]
  have e1 : sumN (fun k => f (back n b k)) b = sumN (fun k => f (n - b + k)) b := sumN_congr fun k hk => by
    rw [back_form hb (by omega), if_neg (by omega), show k + n - b = n - b + k by omega]
  have e2 : sumN (fun k => f (back n b (b + k))) (n - b) = sumN f (n - b) := sumN_congr fun k hk => by
    rw [back_form hb (by omega), if_pos (by omega), show b + k - b = k by omega]
  rw [e1, e2]; omega

/-- The values and the division by other names. -/
def rotV (V : List (List Int)) (n m b o : Nat) : List (List Int) := (List.range n).map fun k => (List.range m).map fun h => (rowV V (back n b k)).getD (back m o h) 0
def rotX (d : List Int) (n m b o : Nat) : List Int := (List.range m).map fun h => ((((d.getD (back m o h) 0).toNat + b) % n : Nat) : Int)
section
variable {V : List (List Int)} {d : List Int} {n m b o : Nat}
theorem rotV_length : (rotV V n m b o).length = n := by simp [rotV]
theorem rotX_length : (rotX d n m b o).length = m := by simp [rotX]
theorem rotV_row {k : Nat} (hk : k < n) : rowV (rotV V n m b o) k = (List.range m).map fun h => (rowV V (back n b k)).getD (back m o h) 0 := by
  show (rotV V n m b o).getD k [] = _
  unfold rotV
  simp [List.getD_eq_getElem?_getD, hk]
theorem rotV_get {k h : Nat} (hk : k < n) (hh : h < m) : (rowV (rotV V n m b o) k).getD h 0 = (rowV V (back n b k)).getD (back m o h) 0 := by
  rw [rotV_row hk]
  simp [List.getD_eq_getElem?_getD, hh]
theorem rotX_get {h : Nat} (hh : h < m) : (rotX d n m b o).getD h 0 = ((((d.getD (back m o h) 0).toNat + b) % n : Nat) : Int) := by
  unfold rotX
  simp [List.getD_eq_getElem?_getD, hh]
variable (hb : b < n) (ho : o < m) (hd : ∀ x ∈ d, 0 ≤ x ∧ x < (n : Int)) (hld : d.length = m)
include hb ho hd hld
omit ho in
theorem rotX_iff {h k : Nat} (hh : h < m) (hk : k < n) : (rotX d n m b o).getD h 0 = (k : Int) ↔ d.getD (back m o h) 0 = ((back n b k : Nat) : Int) := by
  rw [rotX_get hh]
  obtain ⟨p, hp, hpn⟩ := getD_in hd (g := back m o h) (by rw [hld]; exact back_lt (by omega))
  rw [hp, Int.toNat_natCast]
  constructor
  · intro e
    have e : (p + b) % n = k := by omega
    rw [← e, back_forw hb hpn]
  · intro e
    have e : p = back n b k := by omega
    rw [e, forw_back hb hk]
theorem rot_wor {k l : Nat} (hk : k < n) (hl : l < n) : wor (rotV V n m b o) (rotX d n m b o) k (l : Int) = wor V d (back n b k) ((back n b l : Nat) : Int) := by
  unfold wor
  rw [rotX_length, hld, worTo_sumN, worTo_sumN]
  refine Eq.trans (sumN_congr fun h hh => ?_) (sumN_back (fun g => if d.getD g 0 = ((back n b l : Nat) : Int) then (rowV V (back n b k)).getD g 0 else 0) ho)
  rw [rotV_get hk hh]
  by_cases e : (rotX d n m b o).getD h 0 = (l : Int)
  · rw [if_pos e, if_pos ((rotX_iff hb hd hld hh hl).1 e)]
  · rw [if_neg e, if_neg fun h2 => e ((rotX_iff hb hd hld hh hl).2 h2)]
theorem rot_env {k l : Nat} (hk : k < n) (hl : l < n) : envB (rotV V n m b o) (rotX d n m b o) k l = envB V d (back n b k) (back n b l) := by
  unfold envB
  rw [rot_wor hb ho hd hld hk hk, rot_wor hb ho hd hld hk hl]
theorem rot_up {k l : Nat} (hk : k < n) (hl : l < n) (any : Bool) : upB (rotV V n m b o) (rotX d n m b o) k l any = upB V d (back n b k) (back n b l) any := by
  have hm : 0 < m := by omega
  rw [Bool.eq_iff_iff]
  cases any
  · rw [upB_some, upB_some, rotX_length, hld]
    constructor
    · rintro ⟨h, hh, e, hle⟩
      rw [rot_wor hb ho hd hld hk hk, rot_wor hb ho hd hld hk hl, rotV_get hk hh] at hle
      exact ⟨back m o h, back_lt hm, (rotX_iff hb hd hld hh hl).1 e, hle⟩
    · rintro ⟨g, hg, e, hle⟩
      refine ⟨(g + o) % m, Nat.mod_lt _ hm, (rotX_iff hb hd hld (Nat.mod_lt _ hm) hl).2 (by rw [back_forw ho hg]; exact e), ?_⟩
      rw [rot_wor hb ho hd hld hk hk, rot_wor hb ho hd hld hk hl, rotV_get hk (Nat.mod_lt _ hm), back_forw ho hg]
      exact hle
  · rw [upB_each, upB_each, rotX_length, hld]
    constructor
    · intro hall g hg e
      have := hall ((g + o) % m) (Nat.mod_lt _ hm) ((rotX_iff hb hd hld (Nat.mod_lt _ hm) hl).2 (by rw [back_forw ho hg]; exact e))
      rw [rot_wor hb ho hd hld hk hk, rot_wor hb ho hd hld hk hl, rotV_get hk (Nat.mod_lt _ hm), back_forw ho hg] at this
      exact this
    · intro hall h hh e
      rw [rot_wor hb ho hd hld hk hk, rot_wor hb ho hd hld hk hl, rotV_get hk hh]
      exact hall (back m o h) (back_lt hm) ((rotX_iff hb hd hld hh hl).1 e)
omit hb ho hd hld in
theorem mostTo_le {row d : List Int} {i g : Nat} (c : Int) : mostTo row d i g ≤ c ↔ 0 ≤ c ∧ ∀ k, k < g → d.getD k 0 ≠ (i : Int) → row.getD k 0 ≤ c := by
  induction g with
  | zero => simp [mostTo]
  | succ g ih =>
    simp only [mostTo]
    by_cases e : d.getD g 0 = (i : Int)
    · rw [if_pos e, ih]
      constructor
      · rintro ⟨h0, h⟩
        refine ⟨h0, fun k hk hne => ?_⟩
        by_cases ek : k = g
        · subst ek; exact absurd e hne
        · exact h k (by omega) hne
      · rintro ⟨h0, h⟩
        exact ⟨h0, fun k hk hne => h k (by omega) hne⟩
    · rw [if_neg e, Int.max_le, ih]
      constructor
      · rintro ⟨⟨h0, h⟩, hg⟩
        refine ⟨h0, fun k hk hne => ?_⟩
        by_cases ek : k = g
        · subst ek; exact hg
        · exact h k (by omega) hne
      · rintro ⟨h0, h⟩
        exact ⟨⟨h0, fun k hk hne => h k (by omega) hne⟩, h g (by omega) e⟩
theorem rot_most {k : Nat} (hk : k < n) : mostTo (rowV (rotV V n m b o) k) (rotX d n m b o) k m = mostTo (rowV V (back n b k)) d (back n b k) m := by
  have hm : 0 < m := by omega
  have key : ∀ c, mostTo (rowV (rotV V n m b o) k) (rotX d n m b o) k m ≤ c ↔ mostTo (rowV V (back n b k)) d (back n b k) m ≤ c := by
    intro c
    rw [mostTo_le, mostTo_le]
    refine and_congr_right fun _ => ?_
    constructor
    · intro hall g hg hne
      have := hall ((g + o) % m) (Nat.mod_lt _ hm) (fun h => hne (by have := (rotX_iff hb hd hld (Nat.mod_lt _ hm) hk).1 h; rwa [back_forw ho hg] at this))
      rwa [rotV_get hk (Nat.mod_lt _ hm), back_forw ho hg] at this
    · intro hall h hh hne
      rw [rotV_get hk hh]
      exact hall (back m o h) (back_lt hm) fun h2 => hne ((rotX_iff hb hd hld hh hk).2 h2)
  exact Int.le_antisymm ((key _).2 (Int.le_refl _)) ((key _).1 (Int.le_refl _))
end
theorem sum_sumN : ∀ l : List Int, l.sum = sumN (fun k => l.getD k 0) l.length
  | [] => rfl
  | x :: l => by
    rw [List.sum_cons, List.length_cons, sumN_shift, sum_sumN l]
    rfl
theorem all_back {P Q : Nat → Bool} {n b : Nat} (hb : b < n) (h : ∀ k, k < n → P k = Q (back n b k)) : (List.range n).all P = (List.range n).all Q := by
  rw [Bool.eq_iff_iff, List.all_eq_true, List.all_eq_true]
  constructor
  · intro hall i hi
    have hi := List.mem_range.1 hi
    have := hall ((i + b) % n) (List.mem_range.2 (Nat.mod_lt _ (by omega)))
    rwa [h _ (Nat.mod_lt _ (by omega)), back_forw hb hi] at this
  · intro hall k hk
    have hk := List.mem_range.1 hk
    rw [h k hk]
    exact hall _ (List.mem_range.2 (back_lt (by omega)))
theorem envRow_count (V : List (List Int)) (d : List Int) (i k : Nat) : ((envRow V d i k).length : Int) = sumN (fun j => if envB V d i j then 1 else 0) k := by
  induction k with
  | zero => rfl
  | succ k ih =>
    rw [envRow_succ, List.length_append]
    simp only [sumN]
    rw [← ih]
    by_cases h : envB V d i k = true
    · rw [if_pos h, if_pos h]; simp
    · rw [if_neg h, if_neg h]; simp
theorem envTo_count (V : List (List Int)) (d : List Int) (n k : Nat) : ((envTo V d n k).length : Int) = sumN (fun i => sumN (fun j => if envB V d i j then 1 else 0) n) k := by
  induction k with
  | zero => rfl
  | succ k ih =>
    rw [envTo_succ, List.length_append]
    simp only [sumN]
    rw [← ih, ← envRow_count]; simp

section
variable {V : List (List Int)} {d : List Int} {n m b o : Nat}
variable (hb : b < n) (ho : o < m) (hd : ∀ x ∈ d, 0 ≤ x ∧ x < (n : Int)) (hld : d.length = m)
include hb ho hd hld
theorem rot_part (hr : ∀ i, i < n → (rowV V i).length = m) {k : Nat} (hk : k < n) (kind : Int) : partB (rotV V n m b o) (rotX d n m b o) n k (moreK (rotV V n m b o) (rotX d n m b o) kind k) = partB V d n (back n b k) (moreK V d kind (back n b k)) := by
  have es : (rowV (rotV V n m b o) k).sum = (rowV V (back n b k)).sum := by
    rw [sum_sumN, sum_sumN (rowV V (back n b k)), hr _ (back_lt (by omega))]
    have el : (rowV (rotV V n m b o) k).length = m := by rw [rotV_row hk]; simp
    rw [el]
    exact Eq.trans (sumN_congr fun h hh => rotV_get hk hh) (sumN_back (fun g => (rowV V (back n b k)).getD g 0) ho)
  have em : moreK (rotV V n m b o) (rotX d n m b o) kind k = moreK V d kind (back n b k) := by
    unfold moreK
    rw [rotX_length, hld, rot_most hb ho hd hld hk]
  unfold partB
  rw [es, em, rot_wor hb ho hd hld hk hk]
theorem rot_fair (hr : ∀ i, i < n → (rowV V i).length = m) (kind : Int) : fairB (rotV V n m b o) (rotX d n m b o) n kind = fairB V d n kind := by
  unfold fairB
  split
  · refine all_back hb fun k hk => all_back hb fun l hl => ?_
    rw [rot_env hb ho hd hld hk hl]
    unfold okE
    rw [rot_up hb ho hd hld hk hl, rot_up hb ho hd hld hk hl]
  · exact all_back hb fun k hk => rot_part hb ho hd hld hr hk kind
theorem rot_count : (envL (rotV V n m b o) (rotX d n m b o) n).length = (envL V d n).length := by
  have h1 := envTo_count (rotV V n m b o) (rotX d n m b o) n n
  have h2 := envTo_count V d n n
  have h3 : sumN (fun k => sumN (fun l => if envB (rotV V n m b o) (rotX d n m b o) k l then (1 : Int) else 0) n) n = sumN (fun i => sumN (fun j => if envB V d i j then 1 else 0) n) n := by
    refine Eq.trans (sumN_congr fun k hk => ?_) (sumN_back (fun i => sumN (fun j => if envB V d i j then (1 : Int) else 0) n) hb)
    refine Eq.trans (sumN_congr fun l hl => ?_) (sumN_back (fun j => if envB V d (back n b k) j then (1 : Int) else 0) hb)
    rw [rot_env hb ho hd hld hk hl]
  unfold envL
  omega
theorem rot_mem {p : Nat × Nat} (h : p ∈ envL V d n) : ((p.1 + b) % n, (p.2 + b) % n) ∈ envL (rotV V n m b o) (rotX d n m b o) n := by
  obtain ⟨h1, h2, h3⟩ := mem_envL.1 h
  refine mem_envL.2 ⟨Nat.mod_lt _ (by omega), Nat.mod_lt _ (by omega), ?_⟩
  rw [rot_env hb ho hd hld (Nat.mod_lt _ (by omega)) (Nat.mod_lt _ (by omega)), back_forw hb h1, back_forw hb h2]
  exact h3
omit hb ho hd hld in
theorem rot_valid (hn4 : 1 ≤ n ∧ n ≤ 4) (hm7 : 1 ≤ m ∧ m ≤ 7) (hr : ∀ i, i < n → (rowV V i).length = m ∧ ∀ x ∈ rowV V i, 0 ≤ x ∧ x ≤ 100) : valV (rotV V n m b o) = true ∧ divV (rotV V n m b o) (rotX d n m b o) = true := by
  have h0 : (rowV (rotV V n m b o) 0).length = m := by rw [rotV_row (by omega)]; simp
  constructor
  · refine valV_iff.2 ⟨by rw [rotV_length]; exact hn4, by rw [h0]; exact hm7, fun r hrm => ?_⟩
    obtain ⟨k, hk, rfl⟩ := List.mem_map.1 hrm
    refine ⟨by rw [h0]; simp, fun x hx => ?_⟩
    obtain ⟨h, hh, rfl⟩ := List.mem_map.1 hx
    have := hr _ (back_lt (n := n) (b := b) (k := k) (by omega))
    have hl := back_lt (n := m) (b := o) (k := h) (by omega)
    rw [List.getD_eq_getElem?_getD, List.getElem?_eq_getElem (by rw [this.1]; exact hl)]
    exact this.2 _ (List.getElem_mem _)
  · unfold divV
    simp only [Bool.and_eq_true, decide_eq_true_eq, Bool.not_eq_true', List.any_eq_false]
    refine ⟨by rw [rotX_length, h0], fun x hx => ?_⟩
    obtain ⟨h, _, rfl⟩ := List.mem_map.1 hx
    have := Nat.mod_lt ((d.getD (back m o h) 0).toNat + b) (show 0 < n by omega)
    unfold badD
    rw [rotV_length, decide_eq_false (by omega), decide_eq_false (by omega)]
    simp
end

/- The memory of SplitNames: rows of one length, made one after another. -/

theorem info_ints0 : (Try.prog.info? 23).map (fun i => (i.zero, i.size, i.bytes)) = some (some (.slice none 0 0), 1, 24) := by kernel_rfl
/-- make([][]int, n). -/
theorem make_intss (n : Nat) (hn : n ≤ 1000000) (w : World) : (Instr.makeSlice 22 (.int .i64 n) (.int .i64 n)).run Try.prog w = .ok (.slice (some ⟨w.heap.size, 0, none⟩) n n) (w.alloc (.cells (Array.replicate n (Value.slice none 0 0)) 23)) := by
  obtain ⟨i0, hi, hz0, hz1, hz2⟩ := info_parts info_ints0
  have hr := run_make (P := Try.prog) w 22 23 i0 (.slice none 0 0) Try.underlying22 hi hz0 .i64 .i64 n n (by omega) (by omega) (by rw [hz2]; omega) (by omega)
  simp only [Int.toNat_natCast, hz1] at hr
  rw [hr]
  have e : madeCells (Value.slice none 0 0).cells (n * 1) = Array.replicate n (Value.slice none 0 0) := by
    apply Array.ext'
    show (madeCells #[Value.slice none 0 0] (n * 1)).toList = _
    rw [toList_madeCells_one]; simp
  rw [e]

/-- The outer cells while the rows are made. -/
def rowsT (B n m i : Nat) : Array Value := ((List.range n).map fun k => if k < i then Value.slice (some ⟨B + 1 + k, 0, none⟩) m m else .slice none 0 0).toArray
theorem rowsT_zero (B n m : Nat) : rowsT B n m 0 = Array.replicate n (Value.slice none 0 0) := by
  unfold rowsT
  rw [← List.toArray_replicate]
  congr 1
  apply List.ext_getElem
  · simp
  · intro i h1 h2; simp
theorem rowsT_get {B n m i k : Nat} (hk : k < n) (hi : k < i) : (rowsT B n m i)[k]? = some (.slice (some ⟨B + 1 + k, 0, none⟩) m m) := by
  simp [rowsT, hk, hi]
theorem rowsT_old {B n m i : Nat} (hi : i < n) : (rowsT B n m i)[i]? = some (.slice none 0 0) := by
  simp [rowsT, hi]
theorem rowsT_set {B n m i : Nat} (_hi : i < n) : (rowsT B n m i).setIfInBounds i (.slice (some ⟨B + 1 + i, 0, none⟩) m m) = rowsT B n m (i + 1) := by
  apply Array.ext'
  unfold rowsT
  simp only [List.setIfInBounds_toArray]
  apply List.ext_getElem
  · simp
  · intro k h1 h2
    rw [List.getElem_set]
    simp only [List.getElem_map, List.getElem_range]
    by_cases e : i = k
    · subst e; rw [if_pos rfl, if_pos (by omega)]
    · rw [if_neg e]
      by_cases h : k < i
      · rw [if_pos h, if_pos (by omega)]
      · rw [if_neg h, if_neg (by omega)]

/-- A row of m numbers. -/
def rowF (f : Nat → Int) (m : Nat) : List Int := (List.range m).map f
theorem rowF_length (f : Nat → Int) (m : Nat) : (rowF f m).length = m := by simp [rowF]
theorem rowF_get {f : Nat → Int} {m h : Nat} (hh : h < m) : (rowF f m)[h]? = some (f h) := by simp [rowF, hh]
theorem rowF_set {f : Nat → Int} {m h : Nat} {y : Int} : (rowF f m).set h y = rowF (fun x => if x = h then y else f x) m := by
  apply List.ext_getElem
  · simp [rowF]
  · intro k h1 h2
    rw [List.getElem_set]
    simp only [rowF, List.getElem_map, List.getElem_range]
    by_cases e : h = k
    · rw [if_pos e, if_pos e.symm]
    · rw [if_neg e, if_neg fun h => e h.symm]
theorem rowF_zero (m : Nat) : rowF (fun _ => 0) m = List.replicate m 0 := by
  apply List.ext_getElem
  · simp [rowF]
  · intro k h1 h2; simp [rowF]
/-- The rows of a matrix of n rows of m numbers, made from block B on. -/
def WM (w : World) (B n m : Nat) (F : Nat → Nat → Int) : Prop := Blk w B 23 (rowsT B n m n) ∧ ∀ k, k < n → Blk w (B + 1 + k) 3 (arr (rowF (F k) m))
section
variable {w w' : World} {B n m : Nat} {F : Nat → Nat → Int}
theorem WM.set_ (h : WM w B n m F) {k : Nat} (hk : k < n) (x : Nat) (y : Int) : WM (w.setCell ⟨B + 1 + k, x, none⟩ (.int .i64 y)) B n m (fun k' x' => if k' = k ∧ x' = x then y else F k' x') := by
  refine ⟨h.1.far (by show B ≠ B + 1 + k; omega) _, fun j hj => ?_⟩
  by_cases e : j = k
  · subst e
    have := (h.2 j hj).set_ x (.int .i64 y)
    rw [arr_set, rowF_set] at this
    simpa using this
  · have := (h.2 j hj).far (p := ⟨B + 1 + k, x, none⟩) (by show B + 1 + j ≠ B + 1 + k; omega) (.int .i64 y)
    simpa [e] using this
theorem WM.far (h : WM w B n m F) {p : Addr} (hp : B + n < p.block) (v : Value) : WM (w.setCell p v) B n m F :=
  ⟨h.1.far (by omega) _, fun j hj => (h.2 j hj).far (by omega) _⟩
theorem WM.drewN (h : WM w B n m F) (k : Nat) : WM (w.drewN k) B n m F := h
theorem WM.below {b : Nat} (h : WM w B n m F) (hb : Below b w w') (hB : B + n < b) : WM w' B n m F :=
  ⟨h.1.below hb (by omega), fun j hj => (h.2 j hj).below hb (by omega)⟩
theorem WM.outer (h : WM w B n m F) {k : Nat} (hk : k < n) : w.cell? ⟨B, k, none⟩ = some (.slice (some ⟨B + 1 + k, 0, none⟩) m m) := by
  rw [h.1.cell, rowsT_get hk hk]
theorem WM.inner (h : WM w B n m F) {k x : Nat} (hk : k < n) (hx : x < m) : w.cell? ⟨B + 1 + k, x, none⟩ = some (.int .i64 (F k x)) := by
  rw [(h.2 k hk).cell, arr_get, rowF_get hx]; rfl
theorem WM.mat (h : WM w B n m F) (hm : m ≤ 9223372036854775807) : Mat w (some ⟨B, 0, none⟩) ((List.range n).map fun k => rowF (F k) m) := by
  intro j r hj
  have hjn : j < n := by have := (List.getElem?_eq_some_iff.1 hj).1; simpa using this
  have hr : r = rowF (F j) m := by simpa [hjn] using hj.symm
  subst hr
  have ho : w.cell? ((⟨B, 0, none⟩ : Addr).add j) = some (.slice (some ⟨B + 1 + j, 0, none⟩) m m) := by
    have := h.outer hjn
    rw [← this]
    unfold Addr.add
    split
    · rename_i h0; subst h0; rfl
    · simp
  exact ⟨_, _, m, rfl, by rw [rowF_length]; exact ho, by rw [rowF_length]; exact Nat.le_refl _, hm, blk_ints (h.2 j hjn)⟩
theorem WM.congr {G : Nat → Nat → Int} (h : WM w B n m F) (he : ∀ k x, k < n → x < m → F k x = G k x) : WM w B n m G :=
  ⟨h.1, fun k hk => by
    have e : rowF (G k) m = rowF (F k) m := List.map_congr_left fun x hx => (he k x hk (List.mem_range.1 hx)).symm
    rw [e]; exact h.2 k hk⟩
end

/-- What is written when the goods before g, and of g the people before i, are done. -/
def FA (V : List (List Int)) (n m b o g i : Nat) : Nat → Nat → Int := fun k x => if back m o x < g ∨ (back m o x = g ∧ back n b k < i) then (rowV V (back n b k)).getD (back m o x) 0 else 0
def XA (d : List Int) (n m b o g : Nat) : Nat → Int := fun x => if back m o x < g then ((((d.getD (back m o x) 0).toNat + b) % n : Nat) : Int) else 0
theorem FA_zero (V : List (List Int)) (n m b o : Nat) : FA V n m b o 0 0 = fun _ _ => 0 := by
  funext k x; unfold FA; rw [if_neg (by omega)]
theorem XA_zero (d : List Int) (n m b o : Nat) : XA d n m b o 0 = fun _ => 0 := by
  funext x; unfold XA; rw [if_neg (by omega)]
theorem back_iff {n b i k : Nat} (hb : b < n) (hi : i < n) (hk : k < n) : k = (i + b) % n ↔ back n b k = i := by
  constructor
  · rintro rfl; exact back_forw hb hi
  · rintro rfl; exact (forw_back hb hk).symm
theorem FA_set {V : List (List Int)} {n m b o g i : Nat} (hb : b < n) (ho : o < m) (hi : i < n) (hg : g < m) : ∀ k x, k < n → x < m →
    (if k = (i + b) % n ∧ x = (g + o) % m then (rowV V i).getD g 0 else FA V n m b o g i k x) = FA V n m b o g (i + 1) k x := by
  intro k x hk hx
  have ek := back_iff hb hi hk
  have ex := back_iff ho hg hx
  unfold FA
  by_cases e : back n b k = i ∧ back m o x = g
  · rw [if_pos ⟨ek.2 e.1, ex.2 e.2⟩, if_pos (by omega), e.1, e.2]
  · rw [if_neg fun h => e ⟨ek.1 h.1, ex.1 h.2⟩]
    by_cases h : back m o x < g ∨ (back m o x = g ∧ back n b k < i)
    · rw [if_pos h, if_pos (by omega)]
    · rw [if_neg h, if_neg (by omega)]
theorem FA_next {V : List (List Int)} {n m b o g : Nat} (hn : 0 < n) : ∀ k x, k < n → x < m → FA V n m b o g n k x = FA V n m b o (g + 1) 0 k x := by
  intro k x _ _
  have := back_lt (n := n) (b := b) (k := k) hn
  unfold FA
  by_cases h : back m o x ≤ g
  · rw [if_pos (by omega), if_pos (by omega)]
  · rw [if_neg (by omega), if_neg (by omega)]
theorem XA_set {d : List Int} {n m b o g y : Nat} (ho : o < m) (hg : g < m) (hy : d.getD g 0 = (y : Int)) : (rowF (XA d n m b o g) m).set ((g + o) % m) (((y + b) % n : Nat) : Int) = rowF (XA d n m b o (g + 1)) m := by
  rw [rowF_set]
  refine List.map_congr_left fun x hx => ?_
  have hx := List.mem_range.1 hx
  have ex := back_iff ho hg hx
  unfold XA
  by_cases e : back m o x = g
  · rw [if_pos (ex.2 e), if_pos (by omega), e, hy]; rfl
  · rw [if_neg fun h => e (ex.1 h)]
    by_cases h : back m o x < g
    · rw [if_pos h, if_pos (by omega)]
    · rw [if_neg h, if_neg (by omega)]
theorem FA_all (V : List (List Int)) (n m b o : Nat) (hm : 0 < m) : ((List.range n).map fun k => rowF (FA V n m b o m 0 k) m) = rotV V n m b o := by
  unfold rotV
  refine List.map_congr_left fun k _ => List.map_congr_left fun x _ => ?_
  unfold FA
  rw [if_pos (.inl (back_lt hm))]
theorem XA_all (d : List Int) (n m b o : Nat) (hm : 0 < m) : rowF (XA d n m b o m) m = rotX d n m b o := by
  unfold rotX
  refine List.map_congr_left fun x _ => ?_
  unfold XA
  rw [if_pos (back_lt hm)]

/- Contracts: cmp.Less and insertionSortOrdered on ints. -/

/-- The entry at j sinks below the greater ones. -/
def sink : Nat → List Int → List Int
  | 0, l => l
  | j + 1, l => if l.getD (j + 1) 0 < l.getD j 0 then sink j ((l.set (j + 1) (l.getD j 0)).set j (l.getD (j + 1) 0)) else l
/-- The first i are sorted. -/
def sortTo (l : List Int) : Nat → List Int
  | 0 => l
  | i + 1 => sink i (sortTo l i)
theorem sink_length (j : Nat) : ∀ l : List Int, (sink j l).length = l.length := by
  induction j with
  | zero => intro l; rfl
  | succ j ih => intro l; simp only [sink]; split; rw [ih]; simp; rfl
theorem sortTo_length (l : List Int) (i : Nat) : (sortTo l i).length = l.length := by
  induction i with
  | zero => rfl
  | succ i ih => simp only [sortTo]; rw [sink_length, ih]

theorem cmpless_any (x y : Int) (w : World) : Calls Try.prog 122 #[.int .i64 x, .int .i64 y] w fun e w' => e = .returned (.bool (decide (x < y))) ∧ w = w' := by
  go_enter Try.func122, Try.ntmps122
  go_wp2_with fail
  refine (isnan_any x _).mono ?_
  rintro e w' ⟨rfl, rfl⟩
  go_wp2_with fail
  go_ret
  exact ⟨rfl, rfl⟩
/-- The block of a slice: its first cells. -/
def PreB (w : World) (g m cp : Nat) (xs : List Int) : Prop := ∃ cur, Blk w g 3 cur ∧ cur.size = cp ∧ cur.toList.take m = xs.map (Value.int .i64)
theorem PreB.lt {w : World} {g m cp : Nat} {xs : List Int} (h : PreB w g m cp xs) : g < w.heap.size := by obtain ⟨cur, h, _⟩ := h; exact h.lt
theorem PreB.ints {w : World} {g m cp : Nat} {xs : List Int} (h : PreB w g m cp xs) : Ints w (some ⟨g, 0, none⟩) xs := by
  obtain ⟨cur, hB, _, ht⟩ := h
  intro i v hv
  rw [← ht] at hv
  have hv' : cur.toList[i]? = some v := by
    rw [List.getElem?_take] at hv
    split at hv
    · exact hv
    · cases hv
  exact hB.at_ i v hv'
theorem PreB.read {w : World} {g m cp : Nat} {xs : List Int} (h : PreB w g m cp xs) {k : Nat} {x : Int} (hx : xs[k]? = some x) : w.cell? ⟨g, k, none⟩ = some (.int .i64 x) := by
  obtain ⟨cur, hB, _, ht⟩ := h
  have hv : (cur.toList.take m)[k]? = some (.int .i64 x) := by rw [ht]; simp [hx]
  rw [List.getElem?_take] at hv
  split at hv
  · rw [hB.cell, ← Array.getElem?_toList]; exact hv
  · cases hv
theorem PreB.frozen {w : World} {g m cp : Nat} {xs : List Int} (h : PreB w g m cp xs) (k : Nat) : w.frozen? ⟨g, k, none⟩ = false := by obtain ⟨cur, hB, _⟩ := h; exact hB.frozen k
theorem PreB.set_ {w : World} {g m cp : Nat} {xs : List Int} (h : PreB w g m cp xs) (k : Nat) (y : Int) : PreB (w.setCell ⟨g, k, none⟩ (.int .i64 y)) g m cp (xs.set k y) := by
  obtain ⟨cur, hB, hs, ht⟩ := h
  refine ⟨_, hB.set_ k _, by simp [hs], ?_⟩
  rw [Array.toList_setIfInBounds, List.take_set, ht, List.map_set]

theorem PreB.drewN {w : World} {g m cp : Nat} {xs : List Int} (h : PreB w g m cp xs) (k : Nat) : PreB (w.drewN k) g m cp xs := h

set_option maxRecDepth 100000 in
set_option maxHeartbeats 1600000 in
theorem isort_any (g cap n : Nat) (l : List Int) (w : World) (hl : l.length = n) (hn : 1 ≤ n ∧ n ≤ 1000) (h : PreB w g n cap l) :
    Calls Try.prog 116 #[.slice (some ⟨g, 0, none⟩) n cap, .int .i64 0, .int .i64 n] w fun e w' => e = .returned (.tuple #[]) ∧ PreB w' g n cap (sortTo l n) ∧ Kept w.heap.size [g] w w' := by
  have H := Lib.hid (And.intro hl h)
  clear hl h
  go_enter Try.func116, Try.ntmps116
  go_wp2_with fail
  go_loopw [6] (fun iv wr => ∃ i : Nat, 1 ≤ i ∧ i ≤ n ∧ iv = .int .i64 i ∧ PreB wr g n cap (sortTo l i) ∧ Kept w.heap.size [g] w wr) (fun iv _ => n - (intOf iv).toNat)
  case atStart => exact ⟨1, by omega, by omega, rfl, H.out.2, Kept.refl _ _ _⟩
  case round =>
    obtain ⟨i, hi1, hi, rfl, hp, hk⟩ := hrel
    have HR := Lib.hid (And.intro hp hk)
    clear hp hk
    by_cases hlt : i < n
    · have l1 : (i : Int) < (n : Int) := by omega
      go_wp2_with fail
      go_loopw [7] (fun jv wr => ∃ (j : Nat) (L : List Int), j ≤ i ∧ jv = .int .i64 j ∧ L.length = n ∧ sink j L = sortTo l (i + 1) ∧ PreB wr g n cap L ∧ Kept w.heap.size [g] w wr) (fun jv _ => (intOf jv).toNat)
      case atStart => exact ⟨i, _, Nat.le_refl _, rfl, by rw [sortTo_length]; exact H.out.1, rfl, HR.out⟩
      case round =>
        obtain ⟨j, L, hj, rfl, hL, hs, hp, hk⟩ := hrel
        have HR2 := Lib.hid (And.intro hs (And.intro hp (And.intro hk hL)))
        clear hs hp hk
        by_cases hj0 : 0 < j
        · obtain ⟨j', rfl⟩ : ∃ j', j = j' + 1 := ⟨j - 1, by omega⟩
          obtain ⟨x, hx⟩ : ∃ x, L[j' + 1]? = some x := ⟨_, List.getElem?_eq_getElem (by omega)⟩
          obtain ⟨y, hy⟩ : ∃ y, L[j']? = some y := ⟨_, List.getElem?_eq_getElem (by omega)⟩
          have e1 := HR2.out.2.1.read hx
          have e2 := HR2.out.2.1.read hy
          have f1 := HR2.out.2.1.frozen (j' + 1)
          have f2 := HR2.out.2.1.frozen j'
          have gx : L.getD (j' + 1) 0 = x := by rw [List.getD_eq_getElem?_getD, hx]; rfl
          have gy : L.getD j' 0 = y := by rw [List.getD_eq_getElem?_getD, hy]; rfl
          have hs2 := HR2.out.1
          simp only [sink] at hs2
          rw [gx, gy] at hs2
          have hset := (HR2.out.2.1.set_ (j' + 1) y).set_ j' x
          have HS := Lib.hid (And.intro hs2 hset)
          have l2 : (0 : Int) < ((j' + 1 : Nat) : Int) := by omega
          have l3 : ((j' + 1 : Nat) : Int) < (n : Int) := by omega
          have l4 : ((j' + 1 : Nat) : Int) - 1 = (j' : Int) := by omega
          have l5 : (j' : Int) < (n : Int) := by omega
          have d0 : decide ((0 : Int) < ((j' + 1 : Nat) : Int)) = true := decide_eq_true l2
          have hq : ∀ w8, Calls Try.prog 122 #[.int .i64 x, .int .i64 y] w8 fun e w' => e = .returned (.bool (decide (x < y))) ∧ w' = w8 := fun w8 => (cmpless_any x y w8).mono fun _ _ ⟨a, b⟩ => ⟨a, b.symm⟩
          have HQ := Lib.hid hq
          clear hx hy gx gy hs2 hset hq hL
          by_cases hxy : x < y
          · have d1 : decide (x < y) = true := decide_eq_true hxy
            rw [d1] at HQ
            have hS2 := HS.out.1
            rw [if_pos hxy] at hS2
            have HS2 := Lib.hid hS2
            clear hS2
            go_wp2_with fail
            go_quiet ((go_at_call 122; exact Calls.quiet_of_same (HQ.out _)))
            go_wp2_with fail
            go_region
            all_goals go_wp2_with fail
            all_goals go_roundw
            case rel => exact ⟨j', _, by omega, by go_num, by simp [HR2.out.2.2.2], HS2.out, HS.out.2.drewN (nq + 1), ((HR2.out.2.2.1.setCell (.inl (by simp)) _).setCell (.inl (by simp)) _).drewN (nq + 1)⟩
            case measure => simp [intOf]
          · have d1 : decide (x < y) = false := decide_eq_false hxy
            rw [d1] at HQ
            have hS2 := HS.out.1
            rw [if_neg hxy] at hS2
            have HS2 := Lib.hid hS2
            clear hS2
            go_wp2_with fail
            go_quiet ((go_at_call 122; exact Calls.quiet_of_same (HQ.out _)))
            go_wp2_with fail
            go_roundw
            case rel => exact ⟨i + 1, by omega, by omega, by go_num, by rw [← HS2.out]; exact HR2.out.2.1.drewN nq, HR2.out.2.2.1.drewN nq⟩
            case measure => simp [intOf]; omega
        · obtain rfl : j = 0 := by omega
          have hS2 := HR2.out.1
          simp only [sink] at hS2
          have HS2 := Lib.hid hS2
          have d0 : decide ((0 : Int) < 0) = false := by decide
          clear hS2
          go_wp2_with fail
          go_quiet (fail)
          go_wp2_with fail
          go_roundw
          case rel => exact ⟨i + 1, by omega, by omega, by go_num, by rw [← HS2.out]; exact HR2.out.2.1.drewN nq, HR2.out.2.2.1.drewN nq⟩
          case measure => simp [intOf]; omega
    · obtain rfl : n = i := by omega
      go_wp2_with fail
      go_end0
      exact ⟨rfl, HR.out⟩

/- Contract: pdqsortOrdered on 12 ints or fewer. -/

set_option maxRecDepth 100000 in
set_option maxHeartbeats 1600000 in
theorem pdq_any (g cap n : Nat) (lim : Int) (l : List Int) (w : World) (hl : l.length = n) (hn : 1 ≤ n ∧ n ≤ 12) (h : PreB w g n cap l) :
    Calls Try.prog 111 #[.slice (some ⟨g, 0, none⟩) n cap, .int .i64 0, .int .i64 n, .int .i64 lim] w fun e w' => e = .returned (.tuple #[]) ∧ PreB w' g n cap (sortTo l n) ∧ Kept w.heap.size [g] w w' := by
  have H := Lib.hid (And.intro hl h)
  clear hl h
  go_enter Try.func111, Try.ntmps111
  go_wp2_with fail
  refine wp_loop_rounds 1 ?_
  rw [rounds_succ]
  go_wp2_with fail
  refine (isort_any g cap n l w H.out.1 (by omega) H.out.2).mono ?_
  rintro e w1 ⟨rfl, h1, h2⟩
  have H1 := Lib.hid (And.intro h1 h2)
  clear h1 h2
  go_wp2_with fail
  (try simp only [Exit.inBlock, Exit.then])
  refine bodyPost_ret (results_none rfl _ _ _) rfl ?_
  exact ⟨rfl, H1.out⟩

/- Contract: bits.Len of a small number. -/

set_option maxRecDepth 100000 in
set_option maxHeartbeats 1600000 in
theorem blen64_any (n : Nat) (hn : n ≤ 4) (w : World) : Calls Try.prog 126 #[.int .u64 n] w fun e w' => (∃ k : Int, e = .returned (.int .i64 k)) ∧ w = w' := by
  have h1 : ¬ (4294967296 : Int) ≤ (n : Int) := by omega
  have h2 : ¬ (65536 : Int) ≤ (n : Int) := by omega
  have h3 : ¬ (256 : Int) ≤ (n : Int) := by omega
  match n, hn with
  | 0, _ => go_enter Try.func126, Try.ntmps126; go_wp2_with fail; go_ret; exact ⟨⟨_, rfl⟩, rfl⟩
  | 1, _ => go_enter Try.func126, Try.ntmps126; go_wp2_with fail; go_ret; exact ⟨⟨_, rfl⟩, rfl⟩
  | 2, _ => go_enter Try.func126, Try.ntmps126; go_wp2_with fail; go_ret; exact ⟨⟨_, rfl⟩, rfl⟩
  | 3, _ => go_enter Try.func126, Try.ntmps126; go_wp2_with fail; go_ret; exact ⟨⟨_, rfl⟩, rfl⟩
  | 4, _ => go_enter Try.func126, Try.ntmps126; go_wp2_with fail; go_ret; exact ⟨⟨_, rfl⟩, rfl⟩
theorem blen_any (n : Nat) (hn : n ≤ 4) (w : World) : Calls Try.prog 112 #[.int .u64 n] w fun e w' => (∃ k : Int, e = .returned (.int .i64 k)) ∧ w = w' := by
  go_enter Try.func112, Try.ntmps112
  go_wp2_with fail
  refine (blen64_any n hn w).mono ?_
  rintro e w' ⟨⟨k, rfl⟩, rfl⟩
  go_wp2_with fail
  go_ret
  exact ⟨⟨_, rfl⟩, rfl⟩

set_option maxRecDepth 100000 in
set_option maxHeartbeats 1600000 in
theorem ssort_any (g cap n : Nat) (l : List Int) (w : World) (hl : l.length = n) (hn : 1 ≤ n ∧ n ≤ 4) (h : PreB w g n cap l) :
    Calls Try.prog 104 #[.slice (some ⟨g, 0, none⟩) n cap] w fun e w' => e = .returned (.tuple #[]) ∧ PreB w' g n cap (sortTo l n) ∧ Kept w.heap.size [g] w w' := by
  have H := Lib.hid (And.intro hl h)
  clear hl h
  go_enter Try.func104, Try.ntmps104
  go_wp2_with fail
  refine (blen_any n hn.2 w).mono ?_
  rintro e w' ⟨⟨k, rfl⟩, rfl⟩
  go_wp2_with fail
  refine (pdq_any g cap n k l w H.out.1 (by omega) H.out.2).mono ?_
  rintro e w1 ⟨rfl, h1, h2⟩
  have H1 := Lib.hid (And.intro h1 h2)
  clear h1 h2
  go_wp2_with fail
  go_end0
  exact ⟨rfl, H1.out⟩
end Go.Proofs.Ytkljambjdiblkaa
