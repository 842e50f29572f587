/- Collections that refute costs, by whole numbers and by fractions: plain Lean. -/
import Derived.Test.YtbidboagaoifaaaPairLaw
import Derived.Test.YtbidboagaoifaaaFairLaw
namespace Go.Proofs.Ytbidboagaoifaaa
open Go.RowKit

/-- A set with a share. -/
abbrev Pt := Int × Int × Int
def pt (ts : List Pt) (k : Nat) : Pt := ts.getD k (0, 0, 1)
/-- shareDen. -/
def SD : Int := 27720
def ptN (t : Pt) : Int := t.2.1 * (SD / t.2.2)
def prev (ts : List Pt) (k : Nat) : List Int := (ts.take k).map (·.1)
def goodI (N : Nat) (pv : List Int) (t : Pt) : Bool := scB 12 t.2.1 t.2.2 && decide (1 ≤ t.2.1) && decide (1 ≤ t.1) && decide (t.1 < N) && !decide (t.1 ∈ pv)
def goodR (N : Nat) (pv : List Int) (t : Pt) : Bool := goodI N pv t && decide (t.2.1 ≤ t.2.2)
def goodTo (N : Nat) (ts : List Pt) (k : Nat) : Bool := (List.range k).all fun j => goodI N (prev ts j) (pt ts j)
def goodRTo (N : Nat) (ts : List Pt) (k : Nat) : Bool := (List.range k).all fun j => goodR N (prev ts j) (pt ts j)
def tI (c : List Int) (ts : List Pt) : Nat → Int
  | 0 => 0
  | k + 1 => tI c ts k + ptN (pt ts k) * c.getD (pt ts k).1.toNat 0
def sI (ts : List Pt) (i : Nat) : Nat → Int
  | 0 => 0
  | k + 1 => sI ts i k + ptN (pt ts k) * (if (pt ts k).1.toNat.testBit i then 1 else 0)
def onesI (ts : List Pt) (n : Nat) : Bool := (List.range n).all fun i => decide (sI ts i ts.length = 27720)
def refI (c : List Int) (ts : List Pt) (n : Nat) : Bool := decide (ts.length < 2 ^ n) && goodTo (2 ^ n) ts ts.length && onesI ts n && decide (tI c ts ts.length < c.getD (2 ^ n - 1) 0 * 27720)
def refR (c : List Int) (ts : List Pt) (n : Nat) : Bool := goodRTo (2 ^ n) ts ts.length && onesI ts n && decide (tI c ts ts.length < c.getD (2 ^ n - 1) 0 * 27720)

theorem goodTo_succ (N : Nat) (ts : List Pt) (k : Nat) : goodTo N ts (k + 1) = (goodTo N ts k && goodI N (prev ts k) (pt ts k)) := by simp [goodTo, List.range_succ]
theorem goodRTo_succ (N : Nat) (ts : List Pt) (k : Nat) : goodRTo N ts (k + 1) = (goodRTo N ts k && goodR N (prev ts k) (pt ts k)) := by simp [goodRTo, List.range_succ]
theorem goodTo_stop {N : Nat} {ts : List Pt} {k m : Nat} (h : k < m) (hb : goodI N (prev ts k) (pt ts k) = false) : goodTo N ts m = false := by
  unfold goodTo
  rw [List.all_eq_false]
  exact ⟨k, by simpa using h, by simp [hb]⟩
theorem goodRTo_stop {N : Nat} {ts : List Pt} {k m : Nat} (h : k < m) (hb : goodR N (prev ts k) (pt ts k) = false) : goodRTo N ts m = false := by
  unfold goodRTo
  rw [List.all_eq_false]
  exact ⟨k, by simpa using h, by simp [hb]⟩
theorem goodTo_at {N : Nat} {ts : List Pt} {k j : Nat} (h : goodTo N ts k = true) (hj : j < k) : goodI N (prev ts j) (pt ts j) = true := by
  unfold goodTo at h
  rw [List.all_eq_true] at h
  exact h j (by simpa using hj)
theorem goodI_iff {N : Nat} {pv : List Int} {t : Pt} : goodI N pv t = true ↔ scB 12 t.2.1 t.2.2 = true ∧ 1 ≤ t.2.1 ∧ 1 ≤ t.1 ∧ t.1 < N ∧ t.1 ∉ pv := by
  simp only [goodI, Bool.and_eq_true, decide_eq_true_eq, Bool.not_eq_true', decide_eq_false_iff_not, and_assoc]
theorem goodRTo_goodTo {N : Nat} {ts : List Pt} (m : Nat) (h : goodRTo N ts m = true) : goodTo N ts m = true := by
  unfold goodRTo at h
  rw [List.all_eq_true] at h
  unfold goodTo
  rw [List.all_eq_true]
  intro j hj
  have := h j hj
  unfold goodR at this
  rw [Bool.and_eq_true] at this
  exact this.1
theorem pt_get {ts : List Pt} {k : Nat} {t : Pt} (h : ts[k]? = some t) : pt ts k = t := by unfold pt; rw [List.getD_eq_getElem?_getD, h]; rfl
theorem prev_succ {ts : List Pt} {k : Nat} {t : Pt} (h : ts[k]? = some t) : prev ts (k + 1) = prev ts k ++ [t.1] := by
  unfold prev; rw [List.take_add_one, h]; simp

/-- Different numbers below N are at most N. -/
theorem nodup_len (N : Nat) : ∀ l : List Int, l.Nodup → (∀ x ∈ l, 0 ≤ x ∧ x < N) → l.length ≤ N := by
  induction N with
  | zero =>
    intro l _ h
    cases l with
    | nil => simp
    | cons x l => have := h x (by simp); omega
  | succ N ih =>
    intro l hn h
    have h1 := ih (l.filter (fun x => decide (x ≠ (N : Int)))) (hn.filter _) (fun x hx => by
      rw [List.mem_filter, decide_eq_true_eq] at hx
      have := h x hx.1
      omega)
    suffices hs : ∀ l : List Int, l.Nodup → l.length ≤ (l.filter (fun x => decide (x ≠ (N : Int)))).length + 1 by
      have := hs l hn; omega
    clear h1 h hn ih
    intro l
    induction l with
    | nil => simp
    | cons x l ih =>
      intro hn
      obtain ⟨hx, hl⟩ := List.nodup_cons.1 hn
      by_cases he : x = (N : Int)
      · have hf : l.filter (fun x => decide (x ≠ (N : Int))) = l := by
          rw [List.filter_eq_self]
          intro y hy
          rw [decide_eq_true_eq]
          rintro rfl
          exact hx (he ▸ hy)
        rw [List.filter_cons_of_neg (by simp [he]), hf]
        simp
      · rw [List.filter_cons_of_pos (by simp [he])]
        have := ih hl
        simp only [List.length_cons]
        omega
theorem good_nodup {N : Nat} {ts : List Pt} (m : Nat) (hm : m ≤ ts.length) (h : goodTo N ts m = true) : (prev ts m).Nodup ∧ ∀ x ∈ prev ts m, 1 ≤ x ∧ x < N := by
  induction m with
  | zero => simp [prev]
  | succ m ih =>
    rw [goodTo_succ, Bool.and_eq_true] at h
    obtain ⟨h1, h2⟩ := ih (by omega) h.1
    have hg : ts[m]? = some ts[m] := List.getElem?_eq_getElem (by omega)
    have hp := goodI_iff.1 h.2
    rw [pt_get hg] at hp
    rw [prev_succ hg]
    refine ⟨?_, ?_⟩
    · rw [List.nodup_append]
      refine ⟨h1, by simp, fun a ha b hb => ?_⟩
      simp only [List.mem_singleton] at hb
      subst hb
      rintro rfl
      exact hp.2.2.2.2 ha
    · intro x hx
      rcases List.mem_append.1 hx with hx | hx
      · exact h2 x hx
      · simp only [List.mem_singleton] at hx
        subst hx
        exact ⟨hp.2.2.1, hp.2.2.2.1⟩
theorem good_len {N : Nat} {ts : List Pt} (hN : 1 ≤ N) {m : Nat} (hm : m ≤ ts.length) (h : goodTo N ts m = true) : m < N := by
  obtain ⟨h1, h2⟩ := good_nodup m hm h
  have h3 := nodup_len (N - 1) ((prev ts m).map (fun x => x - 1)) (by
    rw [List.Nodup, List.pairwise_map]
    exact h1.imp fun hab he => hab (by omega)) (by
    intro x hx
    obtain ⟨y, hy, rfl⟩ := List.mem_map.1 hx
    have := h2 y hy
    omega)
  simp only [List.length_map, prev, List.length_take] at h3
  omega

theorem SD_dvd {b : Int} (h1 : 1 ≤ b) (h2 : b ≤ 12) : b ∣ SD := by
  obtain ⟨n, rfl⟩ := Int.eq_ofNat_of_zero_le (show 0 ≤ b by omega)
  have h : ∀ n : Nat, n < 13 → 1 ≤ n → (n : Int) ∣ SD := by decide +kernel
  exact h n (by omega) (by omega)
theorem ptN_eq {b : Int} (h1 : 1 ≤ b) (h2 : b ≤ 12) : ∃ k, SD = b * k ∧ SD / b = k ∧ 1 ≤ k := by
  obtain ⟨k, hk⟩ := SD_dvd h1 h2
  have e : SD / b = k := by rw [hk, Int.mul_ediv_cancel_left _ (by omega)]
  refine ⟨k, hk, e, ?_⟩
  rcases Int.lt_or_le k 1 with h | h
  · have : b * k ≤ 0 := Int.mul_nonpos_of_nonneg_of_nonpos (by omega) (by omega)
    have : SD = 27720 := rfl
    omega
  · exact h
theorem ptN_pos {t : Pt} {N : Nat} {pv : List Int} (h : goodI N pv t = true) : 1 ≤ ptN t ∧ ptN t ≤ 2772000000 := by
  obtain ⟨hs, h1, _⟩ := goodI_iff.1 h
  obtain ⟨g1, g2, g3, g4, _⟩ := scB_iff.1 hs
  obtain ⟨k, hk, e, hk1⟩ := ptN_eq g1 g2
  have hkS : k ≤ SD := by rw [← e]; exact Int.ediv_le_self _ (by decide)
  have eS : SD = 27720 := rfl
  unfold ptN
  rw [e]
  have hm := mul_bd (m := 100000) (n := 27720) (by omega) g3 (show 0 ≤ k by omega) (by omega)
  have : 1 * 1 ≤ t.2.1 * k := Int.mul_le_mul h1 hk1 (by omega) (by omega)
  omega
/-- A share of at most one. -/
theorem ptN_le {t : Pt} {N : Nat} {pv : List Int} (h : goodI N pv t = true) : ptN t ≤ 27720 ↔ t.2.1 ≤ t.2.2 := by
  obtain ⟨hs, h1, _⟩ := goodI_iff.1 h
  obtain ⟨g1, g2, g3, g4, _⟩ := scB_iff.1 hs
  obtain ⟨k, hk, e, hk1⟩ := ptN_eq g1 g2
  have eS : (27720 : Int) = t.2.2 * k := hk
  unfold ptN
  rw [e, eS]
  constructor
  · intro h
    exact Int.le_of_mul_le_mul_right h (by omega)
  · intro h
    exact Int.mul_le_mul_of_nonneg_right h (by omega)
theorem sI_mono {N : Nat} {ts : List Pt} {i : Nat} {m : Nat} (h : goodTo N ts m = true) : ∀ j, j ≤ m → 0 ≤ sI ts i j ∧ ∀ k, k < j → (pt ts k).1.toNat.testBit i = true → ptN (pt ts k) ≤ sI ts i j := by
  intro j
  induction j with
  | zero => intro _; exact ⟨by simp [sI], fun k hk => by omega⟩
  | succ j ih =>
    intro hj
    obtain ⟨h1, h2⟩ := ih (by omega)
    have hp := ptN_pos (goodTo_at h (show j < m by omega))
    simp only [sI]
    refine ⟨by split <;> omega, fun k hk hb => ?_⟩
    by_cases hkj : k = j
    · subst hkj
      rw [if_pos hb]; omega
    · have := h2 k (by omega) hb
      split <;> omega
theorem bit_exists {s n : Nat} (h1 : 1 ≤ s) (h2 : s < 2 ^ n) : ∃ i, i < n ∧ s.testBit i = true := by
  refine Decidable.byContradiction fun h => ?_
  have h0 : s = 0 := by
    apply Nat.eq_of_testBit_eq
    intro i
    rw [Nat.zero_testBit]
    by_cases hi : i < n
    · rw [← Bool.not_eq_true]
      exact fun hb => h ⟨i, hi, hb⟩
    · exact Nat.testBit_lt_two_pow (Nat.lt_of_lt_of_le h2 (Nat.pow_le_pow_right (by omega) (by omega)))
  omega
theorem ref_good {ts : List Pt} {n : Nat} (hg : goodTo (2 ^ n) ts ts.length = true) (ho : onesI ts n = true) : goodRTo (2 ^ n) ts ts.length = true := by
  unfold goodRTo
  rw [List.all_eq_true]
  intro j hj
  rw [List.mem_range] at hj
  have hp := goodTo_at hg hj
  unfold goodR
  rw [hp, Bool.true_and, decide_eq_true_eq, ← ptN_le hp]
  have hi := goodI_iff.1 hp
  obtain ⟨i, hin, hb⟩ := bit_exists (s := (pt ts j).1.toNat) (n := n) (by omega) (by omega)
  have h1 := (sI_mono (i := i) hg ts.length (Nat.le_refl _)).2 j hj hb
  unfold onesI at ho
  rw [List.all_eq_true] at ho
  have := ho i (by simpa using hin)
  rw [decide_eq_true_eq] at this
  omega
theorem refI_refR {c : List Int} {ts : List Pt} {n : Nat} : refI c ts n = refR c ts n := by
  rw [Bool.eq_iff_iff]
  unfold refI refR
  simp only [Bool.and_eq_true, decide_eq_true_eq]
  constructor
  · rintro ⟨⟨⟨_, h2⟩, h3⟩, h4⟩
    exact ⟨⟨ref_good h2 h3, h3⟩, h4⟩
  · rintro ⟨⟨h2, h3⟩, h4⟩
    have hg := goodRTo_goodTo _ h2
    exact ⟨⟨⟨good_len (Nat.pos_of_neZero _) (Nat.le_refl _) hg, hg⟩, h3⟩, h4⟩
theorem refI_take {c : List Int} {ts : List Pt} {n : Nat} (hn : n ≤ 4) : refI c (ts.take 18) n = refR c ts n := by
  by_cases h : ts.length ≤ 18
  · rw [List.take_of_length_le h, refI_refR]
  · have hp : 2 ^ n ≤ 16 := by have := Nat.pow_le_pow_right (show 0 < 2 by omega) hn; simpa using this
    have e1 : refI c (ts.take 18) n = false := by
      unfold refI
      rw [decide_eq_false (by rw [List.length_take]; omega)]; rfl
    have e2 : refR c ts n = false := by
      rw [← Bool.not_eq_true]
      intro hr
      unfold refR at hr
      simp only [Bool.and_eq_true, decide_eq_true_eq] at hr
      have := good_len (Nat.pos_of_neZero _) (Nat.le_refl _) (goodRTo_goodTo _ hr.1.1)
      omega
    rw [e1, e2]
end Go.Proofs.Ytbidboagaoifaaa
