/- Laws and contracts that the proof of the market rows uses, part 4. -/
import Derived.Test.YtnljnjnmhbkdoaaBaseM3
import Derived.Test.YtnljnjnmhbkdoaaBaseM2
namespace Go.Proofs.Ytnljnjnmhbkdoaa
open Go.RowKit

/- From any prices to such as are in balance on every part, with no less of the product. Plain Lean. -/

/-- Prices of a sum, and for each buyer a number that no good is below, and one good reaches. -/
structure Pre (n k : Nat) (b : Nat → Nat) (u : Nat → Nat → Rat) (p be : Nat → Rat) : Prop where
  pp : ∀ g, g < k → 0 < p g
  bp : ∀ i, i < n → 0 < be i
  le : ∀ i g, i < n → g < k → u i g * be i ≤ p g
  sum : sumQ p k = sumQ (fun i => (b i : Rat)) n
structure Feas (n k : Nat) (b : Nat → Nat) (u : Nat → Nat → Rat) (p be : Nat → Rat) : Prop extends Pre n k b u p be where
  ti : ∀ i, i < n → ∃ g, g < k ∧ u i g * be i = p g
def val (n : Nat) (b : Nat → Nat) (be : Nat → Rat) : Rat := prodQ (fun i => be i ^ b i) n
/-- In balance on every set that no edge leaves. -/
structure Cand (n k : Nat) (b : Nat → Nat) (u : Nat → Nat → Rat) (F : Nat → Nat → Prop) (p be : Nat → Rat) : Prop extends Feas n k b u p be where
  ed : ∀ i g, i < n → g < k → F i g → u i g * be i = p g
  ba : ∀ S T, Clo n k F S T → sumQ (fun g => one (T g) * p g) k = sumQ (fun i => one (S i) * (b i : Rat)) n
section
variable {n k : Nat} {b : Nat → Nat} {u : Nat → Nat → Rat}
theorem Pre.upos {p be : Nat → Rat} (h : Pre n k b u p be) {i g : Nat} (hi : i < n) (hg : g < k) (he : u i g * be i = p g) : 0 < u i g := by
  have h1 := h.pp g hg
  have h2 := h.bp i hi
  rw [← he] at h1
  by_cases h3 : 0 < u i g
  · exact h3
  · exfalso
    have := Rat.mul_nonneg (a := -(u i g)) (b := be i) (by grind) (by grind)
    grind
/-- How many pairs have a property. -/
noncomputable def cnt1 (P : Nat → Prop) : Nat → Nat
  | 0 => 0
  | k + 1 => cnt1 P k + (by classical exact if P k then 1 else 0)
noncomputable def cnt2 (P : Nat → Nat → Prop) (k : Nat) : Nat → Nat
  | 0 => 0
  | n + 1 => cnt2 P k n + cnt1 (P n) k
theorem cnt1_le {P Q : Nat → Prop} : ∀ {k : Nat}, (∀ g, g < k → P g → Q g) → cnt1 P k ≤ cnt1 Q k
  | 0, _ => Nat.le_refl _
  | k + 1, h => by
    have h1 := cnt1_le (k := k) fun g hg => h g (by omega)
    have h2 := h k (by omega)
    unfold cnt1
    by_cases hp : P k
    · rw [if_pos hp, if_pos (h2 hp)]; omega
    · rw [if_neg hp]; omega
theorem cnt1_lt {P Q : Nat → Prop} : ∀ {k : Nat}, (∀ g, g < k → P g → Q g) → ∀ g, g < k → ¬ P g → Q g → cnt1 P k < cnt1 Q k
  | 0, _, g, hg, _, _ => by omega
  | k + 1, h, g, hg, hn, hq => by
    unfold cnt1
    rcases Nat.lt_or_ge g k with h3 | h3
    · have h1 := cnt1_lt (k := k) (fun g hg => h g (by omega)) g h3 hn hq
      have h2 := h k (by omega)
      by_cases hp : P k
      · rw [if_pos hp, if_pos (h2 hp)]; omega
      · rw [if_neg hp]; omega
    · have e : g = k := by omega
      subst e
      have h1 := cnt1_le (k := g) fun x hx => h x (by omega)
      rw [if_neg hn, if_pos hq]; omega
theorem cnt2_le {P Q : Nat → Nat → Prop} {k : Nat} : ∀ {n : Nat}, (∀ i g, i < n → g < k → P i g → Q i g) → cnt2 P k n ≤ cnt2 Q k n
  | 0, _ => Nat.le_refl _
  | n + 1, h => by
    unfold cnt2
    have h1 := cnt2_le (n := n) fun i g hi hg => h i g (by omega) hg
    have h2 := cnt1_le (k := k) fun g hg => h n g (by omega) hg
    omega
theorem cnt2_lt {P Q : Nat → Nat → Prop} {k : Nat} : ∀ {n : Nat}, (∀ i g, i < n → g < k → P i g → Q i g) → ∀ i g, i < n → g < k → ¬ P i g → Q i g → cnt2 P k n < cnt2 Q k n
  | 0, _, i, _, hi, _, _, _ => by omega
  | n + 1, h, i, g, hi, hg, hn, hq => by
    unfold cnt2
    rcases Nat.lt_or_ge i n with h3 | h3
    · have h1 := cnt2_lt (n := n) (fun i g hi hg => h i g (by omega) hg) i g h3 hg hn hq
      have h2 := cnt1_le (k := k) fun g hg => h n g (by omega) hg
      omega
    · have e : i = n := by omega
      subst e
      have h1 := cnt2_le (n := i) fun x g hx hg => h x g (by omega) hg
      have h2 := cnt1_lt (k := k) (fun g hg => h i g (by omega) hg) g hg hn hq
      omega
theorem val_pos {be : Nat → Rat} (h : ∀ i, i < n → 0 < be i) : 0 < val n b be := prodQ_pos fun i hi => pow_pos' (h i hi) _
theorem mul_pow' (a c : Rat) (m : Nat) : (a * c) ^ m = a ^ m * c ^ m := by
  induction m with
  | zero => rw [Rat.pow_zero, Rat.pow_zero, Rat.pow_zero]; grind
  | succ m ih => rw [Rat.pow_succ, Rat.pow_succ, Rat.pow_succ, ih]; grind
theorem one_pow' (m : Nat) : (1 : Rat) ^ m = 1 := by
  induction m with
  | zero => rw [Rat.pow_zero]
  | succ m ih => rw [Rat.pow_succ, ih]; grind
theorem prodQ_one (n : Nat) : prodQ (fun _ => (1 : Rat)) n = 1 := by
  induction n with
  | zero => rfl
  | succ n ih => simp only [prodQ, ih]; grind
/-- Scaled by numbers whose inverses have a small mean, the product is no less. -/
theorem val_scale {be y : Nat → Rat} (hbe : ∀ i, i < n → 0 < be i) (hy : ∀ i, i < n → 0 < y i) (h : sumQ (fun i => (b i : Rat) * (1 / y i)) n ≤ sumQ (fun i => (b i : Rat)) n) : val n b be ≤ val n b (fun i => be i * y i) := by
  have h1 := wamgm b (fun i => 1 / y i) n (fun i hi => div_pos' (by decide) (hy i hi)) h
  have e1 : val n b (fun i => be i * y i) = val n b be * prodQ (fun i => y i ^ b i) n := by
    unfold val
    rw [← prodQ_mul]
    exact prodQ_congr fun i _ => mul_pow' _ _ _
  have e2 : prodQ (fun i => (1 / y i) ^ b i) n * prodQ (fun i => y i ^ b i) n = 1 := by
    rw [← prodQ_mul]
    have e3 : prodQ (fun i => (1 / y i) ^ b i * y i ^ b i) n = prodQ (fun _ => (1 : Rat)) n := prodQ_congr fun i hi => by
      rw [← mul_pow', show 1 / y i * y i = 1 by have := hy i hi; grind, one_pow']
    rw [e3, prodQ_one]
  have h2 := prodQ_pos (f := fun i => y i ^ b i) (n := n) fun i hi => pow_pos' (hy i hi) _
  have h3 := val_pos (b := b) hbe
  rw [e1]
  have h4 := Rat.mul_le_mul_of_nonneg_right h1 (Rat.le_of_lt h2)
  rw [e2] at h4
  have h5 := Rat.mul_le_mul_of_nonneg_left (c := val n b be) h4 (Rat.le_of_lt h3)
  grind
/-- Between 1 and l. -/
def mixT (t l : Rat) : Rat := 1 - t + t * l
theorem mixT_pos {t l : Rat} (h0 : 0 ≤ t) (h1 : t < 1) (hl : 0 ≤ l) : 0 < mixT t l := by
  have := Rat.mul_nonneg h0 hl
  unfold mixT
  grind
theorem mixT_inv {t l : Rat} (h0 : 0 ≤ t) (h1 : t ≤ 1) (hl : 0 < l) : 1 / mixT t l ≤ 1 - t + t * (1 / l) := by
  have hm : 0 < mixT t l := by
    by_cases h : t < 1
    · exact mixT_pos h0 h (Rat.le_of_lt hl)
    · have : t = 1 := by grind
      subst this
      unfold mixT
      grind
  obtain ⟨i, hi⟩ : ∃ i, i = 1 / l := ⟨_, rfl⟩
  have hil : i * l = 1 := by rw [hi]; grind
  have hsq : 0 ≤ t * (1 - t) * ((l - 1) * (l - 1) * i) := by
    refine Rat.mul_nonneg (Rat.mul_nonneg h0 (by grind)) (Rat.mul_nonneg ?_ ?_)
    · by_cases h : l ≤ 1
      · have := Rat.mul_nonneg (a := 1 - l) (b := 1 - l) (by grind) (by grind)
        grind
      · exact Rat.mul_nonneg (by grind) (by grind)
    · rw [hi]; exact Rat.le_of_lt (div_pos' (by decide) hl)
  have key : 1 ≤ (1 - t + t * i) * mixT t l := by
    unfold mixT
    have e : (1 - t + t * i) * (1 - t + t * l) = 1 + t * (1 - t) * ((l - 1) * (l - 1) * i) := by
      have e2 : (l - 1) * (l - 1) * i = l * (i * l) - 2 * (i * l) + i := by grind
      rw [e2, hil]
      have e3 : (1 - t + t * i) * (1 - t + t * l) = (1 - t) * (1 - t) + (1 - t) * t * l + t * i * (1 - t) + t * t * (i * l) := by grind
      rw [e3, hil]
      grind
    rw [e]
    grind
  rw [← hi]
  have h2 : 1 / mixT t l ≤ (1 - t + t * i) * mixT t l / mixT t l := by
    rw [Rat.div_def, Rat.div_def]
    exact Rat.mul_le_mul_of_nonneg_right key (Rat.le_of_lt (Rat.inv_pos.2 hm))
  have e : (1 - t + t * i) * mixT t l / mixT t l = 1 - t + t * i := by
    generalize mixT t l = x at *
    grind
  rwa [e] at h2
/-- The first of a few that have a property. -/
theorem min_pairs (P : Nat → Nat → Prop) (f : Nat → Nat → Rat) (n k : Nat) (hex : ∃ i g, i < n ∧ g < k ∧ P i g) : ∃ i g, i < n ∧ g < k ∧ P i g ∧ ∀ i' g', i' < n → g' < k → P i' g' → f i g ≤ f i' g' := by
  classical
  obtain ⟨i0, g0, h1, h2, h3⟩ := hex
  have hmem : ∀ i g, i < n → g < k → P i g → (i, g) ∈ ((List.range n).flatMap fun i => (List.range k).map fun g => (i, g)).filter fun x => decide (P x.1 x.2) := fun i g a1 a2 a3 =>
    List.mem_filter.2 ⟨List.mem_flatMap.2 ⟨i, List.mem_range.2 a1, List.mem_map.2 ⟨g, List.mem_range.2 a2, rfl⟩⟩, by simpa using a3⟩
  obtain ⟨⟨i, g⟩, hm, hmin⟩ := min_at (fun x : Nat × Nat => f x.1 x.2) _ (List.ne_nil_of_mem (hmem i0 g0 h1 h2 h3))
  obtain ⟨m1, m2⟩ := List.mem_filter.1 hm
  obtain ⟨i', hi', m3⟩ := List.mem_flatMap.1 m1
  obtain ⟨g', hg', m4⟩ := List.mem_map.1 m3
  injection m4 with e1 e2
  subst e1
  subst e2
  exact ⟨i', g', List.mem_range.1 hi', List.mem_range.1 hg', by simpa using m2, fun a c h4 h5 h6 => hmin (a, c) (hmem a c h4 h5 h6)⟩
end

/- The climb: from any prices to such as are in balance on every part. Plain Lean. -/

section
variable {n k : Nat} {b : Nat → Nat} {u : Nat → Nat → Rat}
theorem div_mul' {a x : Rat} (hx : x ≠ 0) : a / x * x = a := by grind
def bq (b : Nat → Nat) (i : Nat) : Rat := (b i : Rat)
/-- The prices on the way. -/
noncomputable def pT (n k : Nat) (b : Nat → Nat) (F : Nat → Nat → Prop) (p : Nat → Rat) (t : Rat) (g : Nat) : Rat := p g * mixT t (lamG n k F (bq b) p g)
noncomputable def bT (n k : Nat) (b : Nat → Nat) (F : Nat → Nat → Prop) (p be : Nat → Rat) (t : Rat) (i : Nat) : Rat := be i * mixT t (lamB n k F (bq b) p i)
theorem mixT_lin (a t l : Rat) : a * mixT t l = (1 - t) * a + t * (a * l) := by unfold mixT; grind
/-- Where all is still as it has to be, the new prices are prices too, and no worse. -/
theorem way {F : Nat → Nat → Prop} {p be : Nat → Rat} (h : Feas n k b u p be) (hb : ∀ i, i < n → 0 < b i) (hF : ∀ i g, i < n → g < k → (F i g ↔ u i g * be i = p g)) {t : Rat} (h0 : 0 ≤ t) (h1 : t ≤ 1)
    (hpos : ∀ g, g < k → 0 < pT n k b F p t g) (hle : ∀ i g, i < n → g < k → u i g * bT n k b F p be t i ≤ pT n k b F p t g) :
    Feas n k b u (pT n k b F p t) (bT n k b F p be t) ∧ val n b be ≤ val n b (bT n k b F p be t) ∧ ∀ i g, i < n → g < k → F i g → u i g * bT n k b F p be t i = pT n k b F p t g := by
  have hbq : ∀ i, i < n → 0 < bq b i := fun i hi => by unfold bq; exact_mod_cast hb i hi
  have hF2 : ∀ i, i < n → ∃ g, g < k ∧ F i g := fun i hi => by
    obtain ⟨g, hg, he⟩ := h.ti i hi
    exact ⟨g, hg, (hF i g hi hg).2 he⟩
  have hlB : ∀ i, i < n → 0 < lamB n k F (bq b) p i := fun i hi => lamB_pos hbq h.pp hF2 hi
  have hy : ∀ i, i < n → 0 < mixT t (lamB n k F (bq b) p i) := fun i hi => by
    by_cases h2 : t < 1
    · exact mixT_pos h0 h2 (Rat.le_of_lt (hlB i hi))
    · have : t = 1 := by grind
      subst this
      have := hlB i hi
      unfold mixT
      grind
  have hed : ∀ i g, i < n → g < k → F i g → u i g * bT n k b F p be t i = pT n k b F p t g := fun i g hi hg hf => by
    unfold bT pT
    rw [lam_eq (bg_of hi hg hf), ← (hF i g hi hg).1 hf]
    grind
  have hbal := fun S T (hc : Clo n k F S T) => lam_bal (n := n) (k := k) (F := F) (b := bq b) (p := p) h.pp hF2 hc
  have hall := hbal (fun _ => True) (fun _ => True) (fun _ _ _ _ _ => Iff.rfl)
  simp only [one_t trivial, Rat.one_mul] at hall
  refine ⟨{ pp := hpos, bp := fun i hi => Rat.mul_pos (h.bp i hi) (hy i hi), le := hle, sum := ?_, ti := fun i hi => ?_ }, ?_, hed⟩
  · have e : sumQ (pT n k b F p t) k = sumQ (fun g => (1 - t) * p g + t * (p g * lamG n k F (bq b) p g)) k := sumQ_congr fun g _ => mixT_lin _ _ _
    rw [e, sumQ_add, sumQ_mul, sumQ_mul, hall, h.sum]
    show (1 - t) * sumQ (bq b) n + t * sumQ (bq b) n = sumQ (bq b) n
    grind
  · obtain ⟨g, hg, hf⟩ := hF2 i hi
    exact ⟨g, hg, hed i g hi hg hf⟩
  · refine val_scale h.bp hy ?_
    have e1 : sumQ (fun i => (b i : Rat) * (1 / mixT t (lamB n k F (bq b) p i))) n ≤ sumQ (fun i => (1 - t) * bq b i + t * (bq b i / lamB n k F (bq b) p i)) n := sq_mono fun i hi => by
      have h2 := Rat.mul_le_mul_of_nonneg_left (c := bq b i) (mixT_inv h0 h1 (hlB i hi)) (Rat.le_of_lt (hbq i hi))
      have e : bq b i * (1 - t + t * (1 / lamB n k F (bq b) p i)) = (1 - t) * bq b i + t * (bq b i / lamB n k F (bq b) p i) := by
        have := hlB i hi
        generalize lamB n k F (bq b) p i = x at *
        grind
      rw [e] at h2
      exact h2
    rw [sumQ_add, sumQ_mul, sumQ_mul] at e1
    have h3 := lam_sum (n := n) (k := k) (F := F) (b := bq b) (p := p) hbq h.pp hF2
    rw [h.sum] at h3
    have h4 := Rat.mul_le_mul_of_nonneg_left (c := t) h3 h0
    have e5 : sumQ (fun i => (b i : Rat)) n = sumQ (bq b) n := rfl
    rw [e5] at h4 ⊢
    grind
theorem climb (hb : ∀ i, i < n → 0 < b i) (_ : ∀ i g, i < n → g < k → 0 ≤ u i g) (hug : ∀ g, g < k → ∃ i, i < n ∧ 0 < u i g) : ∀ (m : Nat) (p be : Nat → Rat), Feas n k b u p be → cnt2 (fun i g => u i g * be i ≠ p g) k n ≤ m →
    ∃ F p' be', Cand n k b u F p' be' ∧ val n b be ≤ val n b be' := by
  intro m
  induction m with
  | zero => ?_
  | succ m ih => ?_
  all_goals
    intro p be h hm
    obtain ⟨F, hFe⟩ : ∃ F : Nat → Nat → Prop, F = fun i g => u i g * be i = p g := ⟨_, rfl⟩
    have hF : ∀ i g, i < n → g < k → (F i g ↔ u i g * be i = p g) := fun i g _ _ => by rw [hFe]
    have hbq : ∀ i, i < n → 0 < bq b i := fun i hi => by unfold bq; exact_mod_cast hb i hi
    have hF2 : ∀ i, i < n → ∃ g, g < k ∧ F i g := fun i hi => by
      obtain ⟨g, hg, he⟩ := h.ti i hi
      exact ⟨g, hg, (hF i g hi hg).2 he⟩
    have hlB : ∀ i, i < n → 0 < lamB n k F (bq b) p i := fun i hi => lamB_pos hbq h.pp hF2 hi
    have hlG : ∀ g, g < k → 0 ≤ lamG n k F (bq b) p g := fun g hg => lamG_nn hbq h.pp hg
    -- how much is to spare now, and in the end
    obtain ⟨a, ha⟩ : ∃ a : Nat → Nat → Rat, a = fun i g => p g - u i g * be i := ⟨_, rfl⟩
    obtain ⟨c, hc⟩ : ∃ c : Nat → Nat → Rat, c = fun i g => p g * lamG n k F (bq b) p g - u i g * (be i * lamB n k F (bq b) p i) := ⟨_, rfl⟩
    have hsl : ∀ t i g, pT n k b F p t g - u i g * bT n k b F p be t i = (1 - t) * a i g + t * c i g := fun t i g => by
      unfold pT bT
      rw [mixT_lin, mixT_lin, ha, hc]
      grind
    have ha0 : ∀ i g, i < n → g < k → 0 ≤ a i g := fun i g hi hg => by rw [ha]; have := h.le i g hi hg; grind
    by_cases hex : ∃ i g, i < n ∧ g < k ∧ c i g < 0
    · obtain ⟨i0, g0, hi0, hg0, hc0, hmin⟩ := min_pairs (fun i g => c i g < 0) (fun i g => a i g / (a i g - c i g)) n k hex
      have hden : ∀ i g, i < n → g < k → c i g < 0 → 0 < a i g - c i g := fun i g hi hg h2 => by have := ha0 i g hi hg; grind
      obtain ⟨t, ht⟩ : ∃ t, t = a i0 g0 / (a i0 g0 - c i0 g0) := ⟨_, rfl⟩
      have hd0 := hden i0 g0 hi0 hg0 hc0
      have ht0 : 0 ≤ t := by rw [ht]; exact div_nn (ha0 i0 g0 hi0 hg0) hd0
      have htm : t * (a i0 g0 - c i0 g0) = a i0 g0 := by rw [ht]; exact div_mul' (by grind)
      have ht1 : t < 1 := by
        by_cases h2 : t < 1
        · exact h2
        · exfalso
          have := Rat.mul_nonneg (a := t - 1) (b := a i0 g0 - c i0 g0) (by grind) (by grind)
          grind
      have hpos : ∀ g, g < k → 0 < pT n k b F p t g := fun g hg => Rat.mul_pos (h.pp g hg) (mixT_pos ht0 ht1 (hlG g hg))
      have hle : ∀ i g, i < n → g < k → u i g * bT n k b F p be t i ≤ pT n k b F p t g := fun i g hi hg => by
        have h2 := hsl t i g
        have h3 : 0 ≤ (1 - t) * a i g + t * c i g := by
          by_cases h4 : c i g < 0
          · have h5 := hmin i g hi hg h4
            rw [← ht] at h5
            have h6 := hden i g hi hg h4
            have h7 := Rat.mul_le_mul_of_nonneg_right h5 (Rat.le_of_lt h6)
            have h8 : a i g / (a i g - c i g) * (a i g - c i g) = a i g := div_mul' (by grind)
            rw [h8] at h7
            grind
          · have h5 := Rat.mul_nonneg (a := 1 - t) (b := a i g) (by grind) (ha0 i g hi hg)
            have h6 := Rat.mul_nonneg (a := t) (b := c i g) ht0 (by grind)
            grind
        grind
      obtain ⟨w1, w2, w3⟩ := way h hb hF ht0 (by grind) hpos hle
      have hne : u i0 g0 * be i0 ≠ p g0 := fun he => by
        have hl := lam_eq (b := bq b) (p := p) (bg_of hi0 hg0 ((hF i0 g0 hi0 hg0).2 he))
        rw [hc] at hc0
        simp only at hc0
        rw [hl, ← he] at hc0
        grind
      have heq : u i0 g0 * bT n k b F p be t i0 = pT n k b F p t g0 := by
        have := hsl t i0 g0
        grind
      have hlt : cnt2 (fun i g => u i g * bT n k b F p be t i ≠ pT n k b F p t g) k n < cnt2 (fun i g => u i g * be i ≠ p g) k n := by
        refine cnt2_lt (fun i g hi hg hn he => hn ?_) i0 g0 hi0 hg0 (fun hn => hn heq) hne
        exact w3 i g hi hg ((hF i g hi hg).2 he)
      first
        | omega
        | (obtain ⟨F', p', be', c1, c2⟩ := ih _ _ w1 (by omega)
           exact ⟨F', p', be', c1, by grind⟩)
    · have hcn : ∀ i g, i < n → g < k → 0 ≤ c i g := fun i g hi hg => by
        by_cases h2 : c i g < 0
        · exact absurd ⟨i, g, hi, hg, h2⟩ hex
        · grind
      have hle : ∀ i g, i < n → g < k → u i g * bT n k b F p be 1 i ≤ pT n k b F p 1 g := fun i g hi hg => by
        have h2 := hsl 1 i g
        have h3 := hcn i g hi hg
        grind
      have hpos : ∀ g, g < k → 0 < pT n k b F p 1 g := fun g hg => by
        obtain ⟨i, hi, h2⟩ := hug g hg
        have h3 := hle i g hi hg
        have h4 : 0 < bT n k b F p be 1 i := by
          unfold bT
          refine Rat.mul_pos (h.bp i hi) ?_
          have := hlB i hi
          unfold mixT
          grind
        have := Rat.mul_pos h2 h4
        grind
      obtain ⟨w1, w2, w3⟩ := way h hb hF (by decide) (Rat.le_refl) hpos hle
      refine ⟨F, _, _, { toFeas := w1, ed := w3, ba := fun S T hcl => ?_ }, w2⟩
      have h2 := lam_bal (n := n) (k := k) (F := F) (b := bq b) (p := p) h.pp hF2 hcl
      have e : sumQ (fun g => one (T g) * pT n k b F p 1 g) k = sumQ (fun g => one (T g) * (p g * lamG n k F (bq b) p g)) k := sumQ_congr fun g _ => by
        unfold pT mixT
        grind
      rw [e, h2]
      rfl
end

/- The best prices. Plain Lean. -/

section
variable {n k : Nat} {b : Nat → Nat} {u : Nat → Nat → Rat}
theorem cand_le {F : Nat → Nat → Prop} {p be p' be' : Nat → Rat} (hk : 0 < k) (h : Cand n k b u F p be) (h' : Cand n k b u F p' be') : ∀ g, g < k → p' g ≤ p g := by
  obtain ⟨m, hm, hmax⟩ := max_at (fun g => p' g / p g) k hk
  obtain ⟨r, hr⟩ : ∃ r, r = p' m / p m := ⟨_, rfl⟩
  have hup : ∀ g, g < k → p' g ≤ r * p g := fun g hg => by
    have h1 := hmax g hg
    rw [← hr] at h1
    have h2 := Rat.mul_le_mul_of_nonneg_right h1 (Rat.le_of_lt (h.pp g hg))
    rwa [div_mul' (by have := h.pp g hg; grind)] at h2
  have hat : p' m = r * p m := by rw [hr, div_mul' (by have := h.pp m hm; grind)]
  have hcl : Clo n k F (fun i => be' i = r * be i) (fun g => p' g = r * p g) := by
    intro i g hi hg hf
    have e1 := h.ed i g hi hg hf
    have e2 := h'.ed i g hi hg hf
    have hu := h.toPre.upos hi hg e1
    show be' i = r * be i ↔ p' g = r * p g
    constructor
    · intro h1
      rw [← e2, ← e1, h1]; grind
    · intro h1
      rw [← e2, ← e1] at h1
      have h2 : u i g * (be' i - r * be i) = 0 := by grind
      have h3 : be' i - r * be i = 0 := by
        rcases Rat.mul_eq_zero.1 h2 with h4 | h4
        · grind
        · exact h4
      grind
  have b1 := h.ba _ _ hcl
  have b2 := h'.ba _ _ hcl
  have e : sumQ (fun g => one (p' g = r * p g) * p' g) k = r * sumQ (fun g => one (p' g = r * p g) * p g) k := by
    rw [← sumQ_mul]
    refine sumQ_congr fun g _ => ?_
    rw [one_mul (P := p' g = r * p g) (b := r * p g) (fun h => h)]
    grind
  rw [b2, ← b1] at e
  have hpos : 0 < sumQ (fun g => one (p' g = r * p g) * p g) k := sq_pos (fun g hg => Rat.mul_nonneg (one_nn _) (Rat.le_of_lt (h.pp g hg))) hm (by rw [one_t hat]; have := h.pp m hm; grind)
  have hr1 : r = 1 := by
    generalize sumQ (fun g => one (p' g = r * p g) * p g) k = x at *
    have : (r - 1) * x = 0 := by grind
    rcases Rat.mul_eq_zero.1 this with h4 | h4 <;> grind
  intro g hg
  have := hup g hg
  rw [hr1] at this
  grind
theorem cand_val {F : Nat → Nat → Prop} {p be p' be' : Nat → Rat} (hk : 0 < k) (h : Cand n k b u F p be) (h' : Cand n k b u F p' be') : val n b be = val n b be' := by
  have hp : ∀ g, g < k → p g = p' g := fun g hg => by
    have h1 := cand_le hk h h' g hg
    have h2 := cand_le hk h' h g hg
    grind
  have hle : ∀ {p be p' be' : Nat → Rat}, Cand n k b u F p be → Cand n k b u F p' be' → (∀ g, g < k → p g = p' g) → ∀ i, i < n → be' i ≤ be i := fun {p be p' be'} h h' hp i hi => by
    obtain ⟨g, hg, he⟩ := h.ti i hi
    have h1 := h'.le i g hi hg
    rw [← hp g hg, ← he] at h1
    have hu := h.toPre.upos hi hg he
    by_cases h2 : be' i ≤ be i
    · exact h2
    · exfalso
      have := Rat.mul_pos hu (show 0 < be' i - be i by grind)
      grind
  unfold val
  refine prodQ_congr fun i hi => ?_
  have h1 := hle h h' hp i hi
  have h2 := hle h' h (fun g hg => (hp g hg).symm) i hi
  rw [show be i = be' i by grind]
theorem Cand.congr {F F' : Nat → Nat → Prop} {p be : Nat → Rat} (h : Cand n k b u F p be) (hF : ∀ i g, i < n → g < k → (F i g ↔ F' i g)) : Cand n k b u F' p be :=
  { h with
    ed := fun i g hi hg hf => h.ed i g hi hg ((hF i g hi hg).2 hf)
    ba := fun S T hc => h.ba S T fun i g hi hg hf => hc i g hi hg ((hF i g hi hg).1 hf) }
theorem mask_of (Q : Nat → Prop) : ∀ m, ∃ e, e < 2 ^ m ∧ ∀ j, j < m → (e.testBit j = true ↔ Q j)
  | 0 => ⟨0, by decide, fun j hj => by omega⟩
  | m + 1 => by
    obtain ⟨e, he, h⟩ := mask_of Q m
    by_cases hq : Q m
    · refine ⟨e + 2 ^ m, by rw [Nat.pow_succ]; omega, fun j hj => ?_⟩
      rcases Nat.lt_or_ge j m with h1 | h1
      · rw [Nat.add_comm, Nat.testBit_two_pow_add_gt h1]; exact h j h1
      · have e1 : j = m := by omega
        subst e1
        rw [Nat.add_comm, Nat.testBit_two_pow_add_eq, Nat.testBit_lt_two_pow he]
        simpa using hq
    · refine ⟨e, by rw [Nat.pow_succ]; omega, fun j hj => ?_⟩
      rcases Nat.lt_or_ge j m with h1 | h1
      · exact h j h1
      · have e1 : j = m := by omega
        subst e1
        rw [Nat.testBit_lt_two_pow he]
        simpa using hq
def edF (k e : Nat) (i g : Nat) : Prop := e.testBit (i * k + g) = true
theorem idx_lt {n k i g : Nat} (hi : i < n) (hg : g < k) : i * k + g < n * k := by
  have : (i + 1) * k ≤ n * k := Nat.mul_le_mul_right k (by omega)
  rw [Nat.add_mul] at this
  omega
theorem Cand.mask {F : Nat → Nat → Prop} {p be : Nat → Rat} (h : Cand n k b u F p be) : ∃ e, e < 2 ^ (n * k) ∧ Cand n k b u (edF k e) p be := by
  obtain ⟨e, he, h2⟩ := mask_of (fun j => F (j / k) (j % k)) (n * k)
  refine ⟨e, he, h.congr fun i g hi hg => ?_⟩
  have h3 := h2 (i * k + g) (idx_lt hi hg)
  have e1 : (i * k + g) / k = i := by
    rw [Nat.mul_comm, Nat.mul_add_div (by omega), Nat.div_eq_of_lt hg]; rfl
  have e2 : (i * k + g) % k = g := by rw [Nat.mul_comm, Nat.mul_add_mod, Nat.mod_eq_of_lt hg]
  rw [e1, e2] at h3
  exact h3.symm
theorem best_to (hk : 0 < k) : ∀ N : Nat, (∀ e p be, e < N → ¬ Cand n k b u (edF k e) p be) ∨ ∃ e p be, Cand n k b u (edF k e) p be ∧ ∀ e' p' be', e' < N → Cand n k b u (edF k e') p' be' → val n b be' ≤ val n b be
  | 0 => .inl fun e p be he => by omega
  | N + 1 => by
    by_cases hN : ∃ p be, Cand n k b u (edF k N) p be
    · obtain ⟨p, be, hc⟩ := hN
      right
      rcases best_to hk N with h | ⟨e, p1, be1, h1, h2⟩
      · refine ⟨N, p, be, hc, fun e' p' be' he' hc' => ?_⟩
        rcases Nat.lt_or_ge e' N with h3 | h3
        · exact absurd hc' (h e' p' be' h3)
        · have e1 : e' = N := by omega
          subst e1
          rw [cand_val hk hc' hc]; exact Rat.le_refl
      · by_cases hle : val n b be ≤ val n b be1
        · refine ⟨e, p1, be1, h1, fun e' p' be' he' hc' => ?_⟩
          rcases Nat.lt_or_ge e' N with h3 | h3
          · exact h2 e' p' be' h3 hc'
          · have e1 : e' = N := by omega
            subst e1
            rw [cand_val hk hc' hc]; exact hle
        · refine ⟨N, p, be, hc, fun e' p' be' he' hc' => ?_⟩
          rcases Nat.lt_or_ge e' N with h3 | h3
          · have := h2 e' p' be' h3 hc'
            grind
          · have e1 : e' = N := by omega
            subst e1
            rw [cand_val hk hc' hc]; exact Rat.le_refl
    · rcases best_to hk N with h | ⟨e, p1, be1, h1, h2⟩
      · left
        intro e p be he hc
        rcases Nat.lt_or_ge e N with h3 | h3
        · exact h e p be h3 hc
        · have e1 : e = N := by omega
          subst e1
          exact hN ⟨p, be, hc⟩
      · right
        refine ⟨e, p1, be1, h1, fun e' p' be' he' hc' => ?_⟩
        rcases Nat.lt_or_ge e' N with h3 | h3
        · exact h2 e' p' be' h3 hc'
        · have e1 : e' = N := by omega
          subst e1
          exact absurd ⟨p', be', hc'⟩ hN
/-- Greater numbers for the buyers, up to the first good. -/
theorem tighten (hu : ∀ i g, i < n → g < k → 0 ≤ u i g) (hus : ∀ i, i < n → ∃ g, g < k ∧ 0 < u i g) {p be : Nat → Rat} (h : Pre n k b u p be) : ∃ be', Feas n k b u p be' ∧ val n b be ≤ val n b be' := by
  have hex : ∀ i, ∃ r : Rat, i < n → 0 < r ∧ (∀ g, g < k → u i g * r ≤ p g) ∧ (∃ g, g < k ∧ u i g * r = p g) ∧ be i ≤ r := by
    intro i
    by_cases hi : i < n
    · obtain ⟨i0, g, hi0, hg, hg0, hmin⟩ := min_pairs (fun i' g => i' = i ∧ 0 < u i g) (fun _ g => p g / u i g) n k (by
        obtain ⟨g, hg, h0⟩ := hus i hi
        exact ⟨i, g, hi, hg, rfl, h0⟩)
      refine ⟨p g / u i g, fun _ => ⟨div_pos' (h.pp g hg) hg0.2, fun x hx => ?_, ⟨g, hg, ?_⟩, ?_⟩⟩
      · by_cases h0 : 0 < u i x
        · have h1 := Rat.mul_le_mul_of_nonneg_left (c := u i x) (hmin i x hi hx ⟨rfl, h0⟩) (Rat.le_of_lt h0)
          have e : u i x * (p x / u i x) = p x := by rw [Rat.mul_comm]; exact div_mul' (by grind)
          rwa [e] at h1
        · have h1 := hu i x hi hx
          have e : u i x = 0 := by grind
          rw [e, Rat.zero_mul]
          exact Rat.le_of_lt (h.pp x hx)
      · rw [Rat.mul_comm]; exact div_mul' (by have := hg0.2; grind)
      · have h1 := h.le i g hi hg
        have h2 := hg0.2
        have h3 : be i * u i g ≤ p g / u i g * u i g := by rw [div_mul' (by grind)]; grind
        by_cases h4 : be i ≤ p g / u i g
        · exact h4
        · exfalso
          have := Rat.mul_pos (show 0 < be i - p g / u i g by grind) h2
          grind
    · exact ⟨0, fun h => absurd h hi⟩
  obtain ⟨be', hbe⟩ : ∃ be' : Nat → Rat, ∀ i, i < n → 0 < be' i ∧ (∀ g, g < k → u i g * be' i ≤ p g) ∧ (∃ g, g < k ∧ u i g * be' i = p g) ∧ be i ≤ be' i := ⟨fun i => Classical.choose (hex i), fun i => Classical.choose_spec (hex i)⟩
  refine ⟨be', { pp := h.pp, bp := fun i hi => (hbe i hi).1, le := fun i g hi hg => (hbe i hi).2.1 g hg, sum := h.sum, ti := fun i hi => (hbe i hi).2.2.1 }, ?_⟩
  exact prodQ_le (fun i hi => pow_pos' (h.bp i hi) _) (fun i hi => pow_le' (h.bp i hi) (hbe i hi).2.2.2 _)
theorem start_pre (hk : 0 < k) (hn : 0 < n) (hb : ∀ i, i < n → 0 < b i) (hu : ∀ i g, i < n → g < k → 0 ≤ u i g) : ∃ p be, Pre n k b u p be := by
  obtain ⟨M, hM⟩ : ∃ M, M = sumQ (fun i => (b i : Rat)) n := ⟨_, rfl⟩
  have hM0 : 0 < M := by
    rw [hM]
    exact sq_pos (fun i hi => Rat.natCast_nonneg) hn (by exact_mod_cast hb 0 hn)
  have hk0 : (0 : Rat) < (k : Rat) := by exact_mod_cast hk
  obtain ⟨c, hc⟩ : ∃ c, c = M / (k : Rat) := ⟨_, rfl⟩
  have hc0 : 0 < c := by rw [hc]; exact div_pos' hM0 hk0
  have hs : ∀ i, i < n → 0 < 1 + sumQ (u i) k := fun i hi => by
    have := sq_nn (f := u i) (n := k) fun g hg => hu i g hi hg
    grind
  refine ⟨fun _ => c, fun i => c / (1 + sumQ (u i) k), { pp := fun _ _ => hc0, bp := fun i hi => div_pos' hc0 (hs i hi), le := fun i g hi hg => ?_, sum := ?_ }⟩
  · have h1 := sq_le (f := u i) (n := k) (fun x hx => hu i x hi hx) g hg
    have h2 := hs i hi
    have h3 : 0 < c / (1 + sumQ (u i) k) := div_pos' hc0 h2
    have h4 : c / (1 + sumQ (u i) k) * (1 + sumQ (u i) k) = c := div_mul' (by grind)
    have h5 := Rat.mul_le_mul_of_nonneg_right (show u i g ≤ 1 + sumQ (u i) k by grind) (Rat.le_of_lt h3)
    grind
  · have : ∀ m : Nat, sumQ (fun _ => c) m = (m : Rat) * c := by
      intro m
      induction m with
      | zero => simp [sumQ]
      | succ m ih => simp only [sumQ, ih, Rat.natCast_add, Rat.natCast_ofNat]; grind
    rw [this, hc, Rat.mul_comm, div_mul' (by grind), hM]
/-- Prices with the greatest product. -/
theorem best (hk : 0 < k) (hn : 0 < n) (hb : ∀ i, i < n → 0 < b i) (hu : ∀ i g, i < n → g < k → 0 ≤ u i g) (hus : ∀ i, i < n → ∃ g, g < k ∧ 0 < u i g) (hug : ∀ g, g < k → ∃ i, i < n ∧ 0 < u i g) :
    ∃ p be, Feas n k b u p be ∧ ∀ p' be', Pre n k b u p' be' → val n b be' ≤ val n b be := by
  have hup : ∀ p' be', Pre n k b u p' be' → ∃ e p1 be1, e < 2 ^ (n * k) ∧ Cand n k b u (edF k e) p1 be1 ∧ val n b be' ≤ val n b be1 := by
    intro p' be' h
    obtain ⟨be2, h2, h3⟩ := tighten hu hus h
    obtain ⟨F, p1, be1, h4, h5⟩ := climb hb hu hug _ _ _ h2 (Nat.le_refl _)
    obtain ⟨e, h6, h7⟩ := h4.mask
    exact ⟨e, p1, be1, h6, h7, by grind⟩
  rcases best_to (n := n) (b := b) (u := u) hk (2 ^ (n * k)) with h | ⟨e, p, be, h1, h2⟩
  · exfalso
    obtain ⟨p, be, h3⟩ := start_pre (b := b) hk hn hb hu
    obtain ⟨e, p1, be1, h4, h5, _⟩ := hup p be h3
    exact h e p1 be1 h4 h5
  · refine ⟨p, be, h1.toFeas, fun p' be' h3 => ?_⟩
    obtain ⟨e', p1, be1, h4, h5, h6⟩ := hup p' be' h3
    have := h2 e' p1 be1 h4 h5
    grind
end

/- The prices with the greatest product are in balance: every market has a balance. Plain Lean. -/

/-- For all small numbers above 0. -/
def Small (P : Rat → Prop) : Prop := ∃ e0, 0 < e0 ∧ ∀ e, 0 < e → e ≤ e0 → P e
theorem Small.and {P Q : Rat → Prop} (h : Small P) (h' : Small Q) : Small fun e => P e ∧ Q e := by
  obtain ⟨a, a0, ha⟩ := h
  obtain ⟨c, c0, hc⟩ := h'
  by_cases hac : a ≤ c
  · exact ⟨a, a0, fun e h0 h1 => ⟨ha e h0 h1, hc e h0 (Rat.le_trans h1 hac)⟩⟩
  · exact ⟨c, c0, fun e h0 h1 => ⟨ha e h0 (by grind), hc e h0 h1⟩⟩
theorem Small.all {P : Nat → Rat → Prop} : ∀ n, (∀ i, i < n → Small (P i)) → Small fun e => ∀ i, i < n → P i e
  | 0, _ => ⟨1, by decide, fun e _ _ i hi => by omega⟩
  | n + 1, h => by
    obtain ⟨a, a0, ha⟩ := (Small.all n fun i hi => h i (by omega)).and (h n (by omega))
    refine ⟨a, a0, fun e h0 h1 i hi => ?_⟩
    rcases Nat.lt_or_ge i n with h2 | h2
    · exact (ha e h0 h1).1 i h2
    · rw [show i = n by omega]; exact (ha e h0 h1).2
theorem Small.lin {a : Rat} (ha : 0 < a) (c : Rat) : Small fun e => 0 < a + e * c := by
  by_cases hc : 0 ≤ c
  · exact ⟨1, by decide, fun e h0 _ => by have := Rat.mul_nonneg (Rat.le_of_lt h0) hc; grind⟩
  · have hd : 0 < 2 * -c := by grind
    refine ⟨a / (2 * -c), div_pos' ha hd, fun e h0 h1 => ?_⟩
    have h2 := Rat.mul_le_mul_of_nonneg_right h1 (Rat.le_of_lt hd)
    rw [div_mul' (by grind)] at h2
    grind
theorem Small.mono {P Q : Rat → Prop} (h : Small P) (hpq : ∀ e, 0 < e → P e → Q e) : Small Q := by
  obtain ⟨a, a0, ha⟩ := h
  exact ⟨a, a0, fun e h0 h1 => hpq e h0 (ha e h0 h1)⟩
theorem Small.get {P : Rat → Prop} (h : Small P) : ∃ e, 0 < e ∧ P e := by
  obtain ⟨a, a0, ha⟩ := h
  exact ⟨a, a0, ha a a0 Rat.le_refl⟩
theorem inv_le {y : Rat} (h : 0 < 1 + 2 * y) (h2 : 0 < 1 + y) : 1 / (1 + y) ≤ 1 - y + 2 * (y * y) := by
  have hsq : 0 ≤ y * y * (1 + 2 * y) := by
    refine Rat.mul_nonneg ?_ (Rat.le_of_lt h)
    by_cases h3 : 0 ≤ y
    · exact Rat.mul_nonneg h3 h3
    · have := Rat.mul_nonneg (a := -y) (b := -y) (by grind) (by grind)
      grind
  have key : 1 ≤ (1 - y + 2 * (y * y)) * (1 + y) := by grind
  have h3 : 1 / (1 + y) ≤ (1 - y + 2 * (y * y)) * (1 + y) / (1 + y) := by
    rw [Rat.div_def, Rat.div_def]
    exact Rat.mul_le_mul_of_nonneg_right key (Rat.le_of_lt (Rat.inv_pos.2 h2))
  have e : (1 - y + 2 * (y * y)) * (1 + y) / (1 + y) = 1 - y + 2 * (y * y) := by
    generalize 1 + y = x at *
    grind
  rwa [e] at h3
section
variable {n k : Nat} {b : Nat → Nat} {u : Nat → Nat → Rat}
theorem val_scale_lt {be y : Nat → Rat} (hbe : ∀ i, i < n → 0 < be i) (hy : ∀ i, i < n → 0 < y i) (h : sumQ (fun i => (b i : Rat) * (1 / y i)) n < sumQ (fun i => (b i : Rat)) n) : val n b be < val n b (fun i => be i * y i) := by
  have h1 := wamgm_lt b (fun i => 1 / y i) n (fun i hi => div_pos' (by decide) (hy i hi)) h
  have e1 : val n b (fun i => be i * y i) = val n b be * prodQ (fun i => y i ^ b i) n := by
    unfold val
    rw [← prodQ_mul]
    exact prodQ_congr fun i _ => mul_pow' _ _ _
  have e2 : prodQ (fun i => (1 / y i) ^ b i) n * prodQ (fun i => y i ^ b i) n = 1 := by
    rw [← prodQ_mul]
    have e3 : prodQ (fun i => (1 / y i) ^ b i * y i ^ b i) n = prodQ (fun _ => (1 : Rat)) n := prodQ_congr fun i hi => by
      rw [← mul_pow', show 1 / y i * y i = 1 by have := hy i hi; grind, one_pow']
    rw [e3, prodQ_one]
  have h2 := prodQ_pos (f := fun i => y i ^ b i) (n := n) fun i hi => pow_pos' (hy i hi) _
  have h3 := val_pos (b := b) hbe
  rw [e1]
  have h4 := Rat.mul_pos (show 0 < 1 - prodQ (fun i => (1 / y i) ^ b i) n by grind) h2
  have h5 := Rat.mul_pos h3 (show 0 < prodQ (fun i => y i ^ b i) n - 1 by grind)
  grind
/-- A direction in which the product rises. -/
theorem rise {p be : Nat → Rat} (h : Feas n k b u p be) (A C : Nat → Rat) (hAC : ∀ i g, i < n → g < k → u i g * be i = p g → A i ≤ C g) (hC : sumQ (fun g => C g * p g) k = 0) (hA : 0 < sumQ (fun i => (b i : Rat) * A i) n) :
    ∃ p' be', Pre n k b u p' be' ∧ val n b be < val n b be' := by
  have s1 : Small fun e => ∀ i, i < n → 0 < 1 + e * (2 * A i) := Small.all n fun i _ => Small.lin (by decide) _
  have s2 : Small fun e => ∀ g, g < k → 0 < 1 + e * C g := Small.all k fun g _ => Small.lin (by decide) _
  have s3 : Small fun e => ∀ i, i < n → ∀ g, g < k → u i g * be i ≠ p g → 0 < (p g - u i g * be i) + e * (p g * C g - u i g * be i * A i) := Small.all n fun i hi => Small.all k fun g hg => by
    by_cases ht : u i g * be i = p g
    · exact ⟨1, by decide, fun _ _ _ hn => absurd ht hn⟩
    · refine (Small.lin (a := p g - u i g * be i) ?_ _).mono fun e _ he _ => he
      have := h.le i g hi hg
      grind
  have s4 : Small fun e => 0 < sumQ (fun i => (b i : Rat) * A i) n + e * (-2 * sumQ (fun i => (b i : Rat) * (A i * A i)) n) := Small.lin hA _
  obtain ⟨e, e0, ⟨⟨h1, h2⟩, h3⟩, h4⟩ := (((s1.and s2).and s3).and s4).get
  have hy : ∀ i, i < n → 0 < 1 + e * A i := fun i hi => by have := h1 i hi; grind
  refine ⟨fun g => p g * (1 + e * C g), fun i => be i * (1 + e * A i), { pp := fun g hg => Rat.mul_pos (h.pp g hg) (h2 g hg), bp := fun i hi => Rat.mul_pos (h.bp i hi) (hy i hi), le := fun i g hi hg => ?_, sum := ?_ }, ?_⟩
  · by_cases ht : u i g * be i = p g
    · have h5 := Rat.mul_le_mul_of_nonneg_left (hAC i g hi hg ht) (Rat.le_of_lt e0)
      have h6 := Rat.mul_le_mul_of_nonneg_left (c := p g) (show 1 + e * A i ≤ 1 + e * C g by grind) (Rat.le_of_lt (h.pp g hg))
      rw [← ht] at h6 ⊢
      grind
    · have := h3 i hi g hg ht
      grind
  · have e1 : sumQ (fun g => p g * (1 + e * C g)) k = sumQ (fun g => p g + e * (C g * p g)) k := sumQ_congr fun g _ => by grind
    rw [e1, sumQ_add, sumQ_mul, hC, h.sum]
    grind
  · refine val_scale_lt h.bp hy ?_
    have e1 : sumQ (fun i => (b i : Rat) * (1 / (1 + e * A i))) n ≤ sumQ (fun i => ((b i : Rat) + -e * ((b i : Rat) * A i)) + 2 * (e * e) * ((b i : Rat) * (A i * A i))) n := sq_mono fun i hi => by
      have h5 := inv_le (y := e * A i) (by have := h1 i hi; grind) (hy i hi)
      have h6 := Rat.mul_le_mul_of_nonneg_left (c := (b i : Rat)) h5 Rat.natCast_nonneg
      grind
    rw [sumQ_add (fun i => (b i : Rat) + -e * ((b i : Rat) * A i)), sumQ_add (fun i => (b i : Rat)), sumQ_mul, sumQ_mul] at e1
    have h7 := Rat.mul_pos e0 h4
    generalize sumQ (fun i => (b i : Rat) * A i) n = x at *
    generalize sumQ (fun i => (b i : Rat) * (A i * A i)) n = y at *
    generalize sumQ (fun i => (b i : Rat)) n = z at *
    grind
/-- Sums over pairs, in one row. -/
theorem sumQ_flat (f : Nat → Nat → Rat) (k : Nat) (hk : 0 < k) : ∀ n, sumQ (fun j => f (j / k) (j % k)) (n * k) = sumQ (fun i => sumQ (f i) k) n
  | 0 => by simp [sumQ]
  | n + 1 => by
    have key : ∀ m, m ≤ k → sumQ (fun j => f (j / k) (j % k)) (n * k + m) = sumQ (fun j => f (j / k) (j % k)) (n * k) + sumQ (f n) m := by
      intro m
      induction m with
      | zero => intro _; simp only [Nat.add_zero, sumQ]; grind
      | succ m ih =>
        intro hm
        rw [← Nat.add_assoc]
        simp only [sumQ]
        rw [ih (by omega)]
        have e1 : (n * k + m) / k = n := by rw [Nat.mul_comm, Nat.mul_add_div hk, Nat.div_eq_of_lt (by omega)]; rfl
        have e2 : (n * k + m) % k = m := by rw [Nat.mul_comm, Nat.mul_add_mod, Nat.mod_eq_of_lt (by omega)]
        rw [e1, e2]
        grind
    rw [Nat.add_mul, Nat.one_mul, key k (Nat.le_refl _), sumQ_flat f k hk n]
    rfl
def fl (k : Nat) (f : Nat → Nat → Rat) (j : Nat) : Rat := f (j / k) (j % k)
theorem fl_at {k : Nat} (f : Nat → Nat → Rat) {i g : Nat} (hg : g < k) : fl k f (i * k + g) = f i g := by
  unfold fl
  have e1 : (i * k + g) / k = i := by rw [Nat.mul_comm, Nat.mul_add_div (by omega), Nat.div_eq_of_lt hg]; rfl
  have e2 : (i * k + g) % k = g := by rw [Nat.mul_comm, Nat.mul_add_mod, Nat.mod_eq_of_lt hg]
  rw [e1, e2]
theorem lhs_fl (hk : 0 < k) (f : Nat → Nat → Rat) (x : Nat → Rat) : lhs (fl k f) x (n * k) = sumQ (fun i => sumQ (fun g => f i g * x (i * k + g)) k) n := by
  have h := sumQ_flat (fun i g => f i g * x (i * k + g)) k hk n
  rw [← h]
  unfold lhs
  refine sumQ_congr fun j _ => ?_
  unfold fl
  rw [show j / k * k + j % k = j by rw [Nat.mul_comm]; exact Nat.div_add_mod j k]
/-- 1 at one place. -/
noncomputable def dl (i j : Nat) : Rat := one (j = i)
theorem dl_sum {n i : Nat} (hi : i < n) (f : Nat → Rat) : sumQ (fun j => dl i j * f j) n = f i := by
  rw [sumQ_one hi fun j _ hne => by unfold dl; rw [one_f hne]; grind]
  unfold dl
  rw [one_t rfl]
  grind
/-- What the spendings have to be. -/
def Ineq (n k : Nat) (b : Nat → Rat) (p : Nat → Rat) (t : Nat → Nat → Prop) (r : (Nat → Rat) × Rat) : Prop :=
  (∃ i, i < n ∧ (r = (fl k (fun j _ => dl i j), b i) ∨ r = (fl k (fun j _ => -1 * dl i j), -1 * b i))) ∨ (∃ g, g < k ∧ (r = (fl k (fun _ h => dl g h), p g) ∨ r = (fl k (fun _ h => -1 * dl g h), -1 * p g))) ∨
    (∃ i g, i < n ∧ g < k ∧ r = (fl k (fun j h => -1 * (dl i j * dl g h)), 0)) ∨ ∃ i g, i < n ∧ g < k ∧ ¬ t i g ∧ r = (fl k (fun j h => dl i j * dl g h), 0)
theorem ineq_list (n k : Nat) (b p : Nat → Rat) (t : Nat → Nat → Prop) : ∃ L : List ((Nat → Rat) × Rat), ∀ r, r ∈ L ↔ Ineq n k b p t r := by
  classical
  refine ⟨((List.range n).flatMap fun i => [(fl k (fun j _ => dl i j), b i), (fl k (fun j _ => -1 * dl i j), -1 * b i)]) ++ (((List.range k).flatMap fun g => [(fl k (fun _ h => dl g h), p g), (fl k (fun _ h => -1 * dl g h), -1 * p g)]) ++
    (((List.range n).flatMap fun i => (List.range k).map fun g => (fl k (fun j h => -1 * (dl i j * dl g h)), 0)) ++ ((List.range n).flatMap fun i => ((List.range k).filter fun g => decide (¬ t i g)).map fun g => (fl k (fun j h => dl i j * dl g h), 0)))), fun r => ?_⟩
  unfold Ineq
  simp only [List.mem_append, List.mem_flatMap, List.mem_range, List.mem_cons, List.not_mem_nil, or_false, List.mem_map, List.mem_filter, decide_eq_true_eq]
  constructor
  · rintro (⟨i, h1, h2⟩ | ⟨g, h1, h2⟩ | ⟨i, h1, g, h2, h3⟩ | ⟨i, h1, g, ⟨h2, h4⟩, h3⟩)
    · exact .inl ⟨i, h1, h2⟩
    · exact .inr (.inl ⟨g, h1, h2⟩)
    · exact .inr (.inr (.inl ⟨i, g, h1, h2, h3.symm⟩))
    · exact .inr (.inr (.inr ⟨i, g, h1, h2, h4, h3.symm⟩))
  · rintro (⟨i, h1, h2⟩ | ⟨g, h1, h2⟩ | ⟨i, g, h1, h2, h3⟩ | ⟨i, g, h1, h2, h4, h3⟩)
    · exact .inl ⟨i, h1, h2⟩
    · exact .inr (.inl ⟨g, h1, h2⟩)
    · exact .inr (.inr (.inl ⟨i, h1, g, h2, h3.symm⟩))
    · exact .inr (.inr (.inr ⟨i, h1, g, ⟨h2, h4⟩, h3.symm⟩))
theorem dl_nn (i j : Nat) : 0 ≤ dl i j := one_nn _
theorem der_says {L : List ((Nat → Rat) × Rat)} {bb p : Nat → Rat} {t : Nat → Nat → Prop} (hL : ∀ r, r ∈ L ↔ Ineq n k bb p t r) {a : Nat → Rat} {c : Rat} (h : Der L a c) :
    ∃ A C : Nat → Rat, (∀ i g, i < n → g < k → t i g → a (i * k + g) ≤ A i + C g) ∧ c = sumQ (fun i => A i * bb i) n + sumQ (fun g => C g * p g) k := by
  have z1 : ∀ f : Nat → Rat, ∀ m, sumQ (fun i => (0 : Rat) * f i) m = 0 := fun f m => sumQ_zero fun i _ => by grind
  induction h with
  | mem r hr =>
    rcases (hL r).1 hr with ⟨i, hi, h | h⟩ | ⟨g, hg, h | h⟩ | ⟨i, g, hi, hg, h⟩ | ⟨i, g, hi, hg, hn, h⟩
    · subst h
      exact ⟨dl i, fun _ => 0, fun i' g' _ hg' _ => by dsimp only; rw [fl_at _ hg']; grind, by dsimp only; rw [dl_sum hi, z1]; grind⟩
    · subst h
      refine ⟨fun j => -1 * dl i j, fun _ => 0, fun i' g' _ hg' _ => by dsimp only; rw [fl_at _ hg']; grind, ?_⟩
      have e : sumQ (fun j => -1 * dl i j * bb j) n = -1 * bb i := by
        rw [← dl_sum hi bb, ← sumQ_mul]; exact sumQ_congr fun j _ => by grind
      dsimp only
      rw [e, z1]; grind
    · subst h
      exact ⟨fun _ => 0, dl g, fun i' g' _ hg' _ => by dsimp only; rw [fl_at _ hg']; grind, by dsimp only; rw [dl_sum hg, z1]; grind⟩
    · subst h
      refine ⟨fun _ => 0, fun j => -1 * dl g j, fun i' g' _ hg' _ => by dsimp only; rw [fl_at _ hg']; grind, ?_⟩
      have e : sumQ (fun j => -1 * dl g j * p j) k = -1 * p g := by
        rw [← dl_sum hg p, ← sumQ_mul]; exact sumQ_congr fun j _ => by grind
      dsimp only
      rw [e, z1]; grind
    · subst h
      refine ⟨fun _ => 0, fun _ => 0, fun i' g' _ hg' _ => ?_, by dsimp only; rw [z1, z1]; grind⟩
      dsimp only
      rw [fl_at _ hg']
      have := Rat.mul_nonneg (dl_nn i i') (dl_nn g g')
      grind
    · subst h
      refine ⟨fun _ => 0, fun _ => 0, fun i' g' _ hg' ht => ?_, by dsimp only; rw [z1, z1]; grind⟩
      dsimp only
      rw [fl_at _ hg']
      by_cases h1 : i' = i
      · by_cases h2 : g' = g
        · subst h1; subst h2; exact absurd ht hn
        · have : dl g g' = 0 := one_f h2
          rw [this]; grind
      · have : dl i i' = 0 := one_f h1
        rw [this]; grind
  | add _ _ i1 i2 =>
    obtain ⟨A, C, h1, h2⟩ := i1
    obtain ⟨A', C', h3, h4⟩ := i2
    refine ⟨fun i => A i + A' i, fun g => C g + C' g, fun i g hi hg ht => ?_, ?_⟩
    · have := h1 i g hi hg ht
      have := h3 i g hi hg ht
      grind
    · have e1 : sumQ (fun i => (A i + A' i) * bb i) n = sumQ (fun i => A i * bb i) n + sumQ (fun i => A' i * bb i) n := by rw [← sumQ_add]; exact sumQ_congr fun i _ => by grind
      have e2 : sumQ (fun i => (C i + C' i) * p i) k = sumQ (fun i => C i * p i) k + sumQ (fun i => C' i * p i) k := by rw [← sumQ_add]; exact sumQ_congr fun i _ => by grind
      rw [e1, e2, h2, h4]; grind
  | mul t ht _ i1 =>
    obtain ⟨A, C, h1, h2⟩ := i1
    refine ⟨fun i => t * A i, fun g => t * C g, fun i g hi hg hti => ?_, ?_⟩
    · have := Rat.mul_le_mul_of_nonneg_left (h1 i g hi hg hti) ht
      grind
    · have e1 : sumQ (fun i => t * A i * bb i) n = t * sumQ (fun i => A i * bb i) n := by rw [← sumQ_mul]; exact sumQ_congr fun i _ => by grind
      have e2 : sumQ (fun i => t * C i * p i) k = t * sumQ (fun i => C i * p i) k := by rw [← sumQ_mul]; exact sumQ_congr fun i _ => by grind
      rw [e1, e2, h2]; grind
/-- Every market has a balance. -/
theorem exists_equi (hk : 0 < k) (hn : 0 < n) (hb : ∀ i, i < n → 0 < b i) (hu : ∀ i g, i < n → g < k → 0 ≤ u i g) (hus : ∀ i, i < n → ∃ g, g < k ∧ 0 < u i g) (hug : ∀ g, g < k → ∃ i, i < n ∧ 0 < u i g) :
    ∃ p s, Equi n k (fun i => (b i : Rat)) u p s := by
  obtain ⟨p, be, h, hbest⟩ := best hk hn hb hu hus hug
  obtain ⟨t, ht⟩ : ∃ t : Nat → Nat → Prop, t = fun i g => u i g * be i = p g := ⟨_, rfl⟩
  obtain ⟨L, hL⟩ := ineq_list n k (fun i => (b i : Rat)) p t
  rcases farkas (n * k) L with ⟨x, hx⟩ | ⟨a, c, hd, ha, hc⟩
  · have row : ∀ i, i < n → sumQ (fun g => x (i * k + g)) k = (b i : Rat) := fun i hi => by
      have h1 := hx _ ((hL _).2 (.inl ⟨i, hi, .inl rfl⟩))
      have h2 := hx _ ((hL _).2 (.inl ⟨i, hi, .inr rfl⟩))
      rw [lhs_fl hk] at h1 h2
      have e1 : sumQ (fun j => sumQ (fun g => dl i j * x (j * k + g)) k) n = sumQ (fun g => x (i * k + g)) k := by
        rw [← dl_sum hi (fun j => sumQ (fun g => x (j * k + g)) k)]
        exact sumQ_congr fun j _ => by rw [sumQ_mul]
      have e2 : sumQ (fun j => sumQ (fun g => -1 * dl i j * x (j * k + g)) k) n = -1 * sumQ (fun g => x (i * k + g)) k := by
        rw [← e1, ← sumQ_mul]
        exact sumQ_congr fun j _ => by rw [← sumQ_mul]; exact sumQ_congr fun g _ => by grind
      rw [e1] at h1
      rw [e2] at h2
      grind
    have col : ∀ g, g < k → sumQ (fun i => x (i * k + g)) n = p g := fun g hg => by
      have h1 := hx _ ((hL _).2 (.inr (.inl ⟨g, hg, .inl rfl⟩)))
      have h2 := hx _ ((hL _).2 (.inr (.inl ⟨g, hg, .inr rfl⟩)))
      rw [lhs_fl hk] at h1 h2
      have e1 : sumQ (fun j => sumQ (fun h => dl g h * x (j * k + h)) k) n = sumQ (fun i => x (i * k + g)) n := sumQ_congr fun j _ => dl_sum hg (fun h => x (j * k + h))
      have e2 : sumQ (fun j => sumQ (fun h => -1 * dl g h * x (j * k + h)) k) n = -1 * sumQ (fun i => x (i * k + g)) n := by
        rw [← e1, ← sumQ_mul]
        exact sumQ_congr fun j _ => by rw [← sumQ_mul]; exact sumQ_congr fun g _ => by grind
      rw [e1] at h1
      rw [e2] at h2
      grind
    have cell : ∀ i g, i < n → g < k → ∀ (f : Nat → Nat → Rat), sumQ (fun j => sumQ (fun h => dl i j * dl g h * x (j * k + h)) k) n = x (i * k + g) := fun i g hi hg _ => by
      rw [← dl_sum hi (fun j => x (j * k + g))]
      refine sumQ_congr fun j _ => ?_
      rw [← dl_sum hg (fun h => x (j * k + h)), ← sumQ_mul]
      exact sumQ_congr fun h _ => by grind
    have nn : ∀ i g, i < n → g < k → 0 ≤ x (i * k + g) := fun i g hi hg => by
      have h1 := hx _ ((hL _).2 (.inr (.inr (.inl ⟨i, g, hi, hg, rfl⟩))))
      rw [lhs_fl hk] at h1
      have e : sumQ (fun j => sumQ (fun h => -1 * (dl i j * dl g h) * x (j * k + h)) k) n = -1 * x (i * k + g) := by
        rw [← cell i g hi hg u, ← sumQ_mul]
        exact sumQ_congr fun j _ => by rw [← sumQ_mul]; exact sumQ_congr fun g _ => by grind
      rw [e] at h1
      grind
    have ze : ∀ i g, i < n → g < k → ¬ t i g → x (i * k + g) = 0 := fun i g hi hg hn => by
      have h1 := hx _ ((hL _).2 (.inr (.inr (.inr ⟨i, g, hi, hg, hn, rfl⟩))))
      rw [lhs_fl hk, cell i g hi hg u] at h1
      have := nn i g hi hg
      grind
    refine ⟨p, fun i g => x (i * k + g), { pos := h.pp, nn := nn, row := row, col := col, want := fun i g hi hg hs x' hx' => ?_ }⟩
    have hti : u i g * be i = p g := by
      by_cases hn : t i g
      · rw [ht] at hn; exact hn
      · exact absurd (ze i g hi hg hn) hs
    have h1 := Rat.mul_le_mul_of_nonneg_left (h.le i x' hi hx') (hu i g hi hg)
    rw [← hti]
    grind
  · exfalso
    obtain ⟨A, C, h1, h2⟩ := der_says hL hd
    obtain ⟨M, hM⟩ : ∃ M, M = sumQ (fun i => (b i : Rat)) n := ⟨_, rfl⟩
    have hM0 : 0 < M := by
      rw [hM]
      exact sq_pos (fun i _ => Rat.natCast_nonneg) hn (by exact_mod_cast hb 0 hn)
    obtain ⟨d, hd'⟩ : ∃ d, d = sumQ (fun g => C g * p g) k / M := ⟨_, rfl⟩
    have hdM : d * M = sumQ (fun g => C g * p g) k := by rw [hd']; exact div_mul' (by grind)
    obtain ⟨p', be', h3, h4⟩ := rise h (fun i => -1 * A i - d) (fun g => C g - d) (fun i g hi hg hti => by
      have := h1 i g hi hg (by rw [ht]; exact hti)
      rw [ha _ (idx_lt hi hg)] at this
      grind) (by
      have e : sumQ (fun g => (C g - d) * p g) k = sumQ (fun g => C g * p g + -1 * d * p g) k := sumQ_congr fun g _ => by grind
      rw [e, sumQ_add, sumQ_mul, h.sum, ← hM]
      grind) (by
      have e : sumQ (fun i => (b i : Rat) * (-1 * A i - d)) n = sumQ (fun i => -1 * (A i * (b i : Rat)) + -1 * d * (b i : Rat)) n := sumQ_congr fun i _ => by grind
      rw [e, sumQ_add, sumQ_mul, sumQ_mul, ← hM]
      grind)
    have := hbest p' be' h3
    grind
end

/- Spendings whose pairs form no cycle. Plain Lean. -/

def dC (c : List (Nat × Nat) × List (Nat × Nat)) (i g : Nat) : Int := (if (i, g) ∈ c.1 then 1 else 0) - (if (i, g) ∈ c.2 then 1 else 0)
def sumZ (f : Nat → Int) : Nat → Int
  | 0 => 0
  | n + 1 => sumZ f n + f n
theorem sumZ_Q (f : Nat → Int) (n : Nat) : sumQ (fun i => ((f i : Int) : Rat)) n = ((sumZ f n : Int) : Rat) := by
  induction n with
  | zero => rfl
  | succ n ih => simp only [sumQ, sumZ, ih, Rat.intCast_add]
def inNK (n k : Nat) (x : Nat × Nat) : Bool := decide (x.1 < n) && decide (x.2 < k)
def cycOk (c : List (Nat × Nat) × List (Nat × Nat)) : Bool :=
  !c.1.isEmpty && (c.1.all (fun x => !c.2.contains x) && [1, 2, 3].all fun n => [1, 2, 3].all fun k => !((c.1 ++ c.2).all (inNK n k)) || ((List.range 3).all (fun i => decide (sumZ (dC c i) k = 0)) && (List.range 3).all fun g => decide (sumZ (fun i => dC c i g) n = 0)))
set_option maxRecDepth 100000 in
theorem cyc_ok : cycles.all cycOk = true := by decide +kernel
section
variable {n k : Nat} {b : Nat → Rat} {u : Nat → Nat → Rat} {p : Nat → Rat}
theorem less_cycle (hn : 1 ≤ n ∧ n ≤ 3) (hk : 1 ≤ k ∧ k ≤ 3) {s : Nat → Nat → Rat} (h : Equi n k b u p s) {c : List (Nat × Nat) × List (Nat × Nat)} (hc : c ∈ cycles) (hin : ∀ x ∈ c.1 ++ c.2, x.1 < n ∧ x.2 < k ∧ s x.1 x.2 ≠ 0) :
    ∃ s', Equi n k b u p s' ∧ cnt2 (fun i g => s' i g ≠ 0) k n < cnt2 (fun i g => s i g ≠ 0) k n := by
  have hok := List.all_eq_true.1 cyc_ok c hc
  unfold cycOk at hok
  simp only [Bool.and_eq_true, Bool.not_eq_true'] at hok
  obtain ⟨hne, hdis, hsum⟩ := hok
  have h1 : n = 1 ∨ n = 2 ∨ n = 3 := by omega
  have h2 : k = 1 ∨ k = 2 ∨ k = 3 := by omega
  have hs := List.all_eq_true.1 (List.all_eq_true.1 hsum n (by rcases h1 with rfl | rfl | rfl <;> simp)) k (by rcases h2 with rfl | rfl | rfl <;> simp)
  have hnk : (c.1 ++ c.2).all (inNK n k) = true := List.all_eq_true.2 fun x hx => by
    have := hin x hx
    unfold inNK
    rw [decide_eq_true this.1, decide_eq_true this.2.1]; rfl
  rw [hnk] at hs
  simp only [Bool.not_true, Bool.false_or, Bool.and_eq_true, List.all_eq_true, decide_eq_true_eq, List.mem_range] at hs
  obtain ⟨hrow, hcol⟩ := hs
  have hpos : ∀ x ∈ c.1 ++ c.2, 0 < s x.1 x.2 := fun x hx => by
    obtain ⟨a1, a2, a3⟩ := hin x hx
    have := h.nn x.1 x.2 a1 a2
    grind
  obtain ⟨m, hm, hmin⟩ := min_at (fun x : Nat × Nat => s x.1 x.2) c.1 (by intro e; rw [e] at hne; simp at hne)
  obtain ⟨de, hde⟩ : ∃ de, de = s m.1 m.2 := ⟨_, rfl⟩
  have hd0 : 0 < de := by rw [hde]; exact hpos m (List.mem_append_left _ hm)
  have hdq : ∀ i g, (i, g) ∈ c.1 → dC c i g = 1 := fun i g hg => by
    have h3 := List.all_eq_true.1 hdis (i, g) hg
    unfold dC
    rw [if_pos hg, if_neg (by simpa using h3)]; rfl
  have hdz : ∀ i g, (i, g) ∉ c.1 ++ c.2 → dC c i g = 0 := fun i g hg => by
    rw [List.mem_append, not_or] at hg
    unfold dC
    rw [if_neg hg.1, if_neg hg.2]; rfl
  have hdm : ∀ i g, (i, g) ∉ c.1 → dC c i g ≤ 0 := fun i g hg => by
    unfold dC
    rw [if_neg hg]
    split <;> decide
  refine ⟨fun i g => s i g - de * ((dC c i g : Int) : Rat), { pos := h.pos, nn := fun i g hi hg => ?_, row := fun i hi => ?_, col := fun g hg => ?_, want := fun i g hi hg hs => h.want i g hi hg fun h0 => hs ?_ }, ?_⟩
  · by_cases hx : (i, g) ∈ c.1
    · rw [hdq i g hx]
      have := hmin (i, g) hx
      show 0 ≤ s i g - de * ((1 : Int) : Rat)
      have e : ((1 : Int) : Rat) = 1 := rfl
      rw [e, hde]
      grind
    · have h3 := hdm i g hx
      have h4 : ((dC c i g : Int) : Rat) ≤ 0 := by exact_mod_cast h3
      have h5 := Rat.mul_nonneg (Rat.le_of_lt hd0) (show 0 ≤ -((dC c i g : Int) : Rat) by grind)
      have := h.nn i g hi hg
      grind
  · show sumQ (fun g => s i g - de * ((dC c i g : Int) : Rat)) k = b i
    rw [sq_sub, sumQ_mul, sumZ_Q, hrow i (by omega), h.row i hi]
    show b i - de * 0 = b i
    grind
  · show sumQ (fun i => s i g - de * ((dC c i g : Int) : Rat)) n = p g
    rw [sq_sub, sumQ_mul, sumZ_Q (fun i => dC c i g), hcol g (by omega), h.col g hg]
    show p g - de * 0 = p g
    grind
  · have : (i, g) ∉ c.1 ++ c.2 := fun hm => (hin _ hm).2.2 h0
    rw [h0, hdz i g this]
    show (0 : Rat) - de * 0 = 0
    grind
  · obtain ⟨a1, a2, a3⟩ := hin m (List.mem_append_left _ hm)
    refine cnt2_lt (fun i g hi hg hne h0 => hne ?_) m.1 m.2 a1 a2 (fun hne => hne ?_) a3
    · show s i g - de * ((dC c i g : Int) : Rat) = 0
      have : (i, g) ∉ c.1 ++ c.2 := fun hm => (hin _ hm).2.2 h0
      rw [h0, hdz i g this]
      show (0 : Rat) - de * 0 = 0
      grind
    · show s m.1 m.2 - de * ((dC c m.1 m.2 : Int) : Rat) = 0
      rw [hdq m.1 m.2 hm]
      show s m.1 m.2 - de * 1 = 0
      rw [hde]; grind
/-- The mask of what is spent on. -/
def MaskOf (n k : Nat) (s : Nat → Nat → Rat) (e : Nat) : Prop := ∀ i g, i < n → g < k → (e.testBit (i * k + g) = true ↔ s i g ≠ 0)
theorem mask_ex (n k : Nat) (s : Nat → Nat → Rat) : ∃ e, e < 2 ^ (n * k) ∧ MaskOf n k s e := by
  obtain ⟨e, he, h2⟩ := mask_of (fun j => s (j / k) (j % k) ≠ 0) (n * k)
  refine ⟨e, he, fun i g hi hg => ?_⟩
  have h3 := h2 (i * k + g) (idx_lt hi hg)
  have e1 : (i * k + g) / k = i := by
    rw [Nat.mul_comm, Nat.mul_add_div (by omega), Nat.div_eq_of_lt hg]; rfl
  have e2 : (i * k + g) % k = g := by rw [Nat.mul_comm, Nat.mul_add_mod, Nat.mod_eq_of_lt hg]
  rw [e1, e2] at h3
  exact h3
theorem least_sp (hn : 1 ≤ n ∧ n ≤ 3) (hk : 1 ≤ k ∧ k ≤ 3) : ∀ (m : Nat) (s : Nat → Nat → Rat), Equi n k b u p s → cnt2 (fun i g => s i g ≠ 0) k n ≤ m → ∃ s' e, Equi n k b u p s' ∧ e < 2 ^ (n * k) ∧ MaskOf n k s' e ∧ hasCyc n k e = false := by
  intro m
  induction m with
  | zero => ?_
  | succ m ih => ?_
  all_goals
    intro s h hm
    obtain ⟨e, he, hme⟩ := mask_ex n k s
    cases hcy : hasCyc n k e with
    | false => exact ⟨s, e, h, he, hme, hcy⟩
    | true =>
      unfold hasCyc at hcy
      rw [List.any_eq_true] at hcy
      obtain ⟨c, hc, hall⟩ := hcy
      obtain ⟨s', h', hlt⟩ := less_cycle hn hk h hc fun x hx => by
        have h3 := List.all_eq_true.1 hall x hx
        unfold inE at h3
        simp only [Bool.and_eq_true, decide_eq_true_eq] at h3
        exact ⟨h3.1, h3.2.1, (hme x.1 x.2 h3.1 h3.2.1).1 h3.2.2⟩
      first
        | omega
        | exact ih s' h' (by omega)
end

/- A component answers the spendings along its tree: plain Lean. -/

/-- What is spent between two neighbours, and how many neighbours there are. -/
def sE (s : Nat → Nat → Rat) (x : Nd) (z : Nat) : Rat := s (eB x (nextOf x z)) (eG x (nextOf x z))
def dimN (n k : Nat) (x : Nd) : Nat := if x.1 then n else k
/-- All of a buyer's budget, or of a good's price. -/
def totN (b p : Nat → Rat) (x : Nd) : Rat := if x.1 then p x.2 else b x.2
theorem sE_tot {n k : Nat} {b : Nat → Rat} {u : Nat → Nat → Rat} {p : Nat → Rat} {s : Nat → Nat → Rat} (h : Equi n k b u p s) {x : Nd} (hx : x.2 < if x.1 then k else n) : sumQ (sE s x) (dimN n k x) = totN b p x := by
  obtain ⟨c, i⟩ := x
  cases c
  · exact h.row i hx
  · exact h.col i hx
/-- What is left: all but what the children that are done have taken. -/
noncomputable def lfI (n k : Nat) (s : Nat → Nat → Rat) (st : CSt) (c : Nat) (y : Nd) : Rat := sumQ (fun z => one (¬ (nextOf y z ∈ st.ord.drop (st.ord.length - c) ∧ st.par (nextOf y z) = y)) * sE s y z) (dimN n k y)
theorem drop_cons {l : List Nd} {j : Nat} {x : Nd} (h : l[j]? = some x) : l.drop j = x :: l.drop (j + 1) := by
  obtain ⟨hj, he⟩ := List.getElem?_eq_some_iff.1 h
  rw [List.drop_eq_getElem_cons hj, he]
theorem mem_drop {l : List Nd} (hn : l.Nodup) {i j : Nat} {x : Nd} (h : l[i]? = some x) : x ∈ l.drop j ↔ j ≤ i := by
  constructor
  · intro hm
    obtain ⟨m, hm⟩ := List.getElem?_of_mem hm
    rw [List.getElem?_drop] at hm
    have hi := (List.getElem?_eq_some_iff.1 h).1
    have := (List.getElem?_inj hi hn).1 (h.trans hm.symm)
    omega
  · intro hji
    refine List.mem_of_getElem? (i := i - j) ?_
    rw [List.getElem?_drop, show j + (i - j) = i by omega]
    exact h
section
variable {B : List Int} {V : List (List Int)} {e n k first M : Nat} {don : Nd → Bool} {pq0 p : Nat → Rat} {s : Nat → Nat → Rat} {st : CSt} {u : Nat → Nat → Rat} {b : Nat → Rat}
/-- All that is known when the search has come to its end. -/
structure TEnd (V : List (List Int)) (e n k first : Nat) (don : Nd → Bool) (pq0 p : Nat → Rat) (st : CSt) : Prop where
  s : SInv V n first don pq0 st
  t : TInv V e n k first don p st
  seen : ∀ (i : Nat) (z : Nd), st.ord[i]? = some z → ∀ y, y < dimN n k z → Seen e n k first st i z y
theorem nbr (hG : goodsN V = k) (hT : TEnd V e n k first don pq0 p st) (hm : MaskOf n k s e) {j : Nat} {x : Nd} (hx : st.ord[j]? = some x) {z : Nat} (hz : z < dimN n k x) (h0 : sE s x z ≠ 0) :
    (0 < j ∧ nextOf x z = st.par x) ∨ (∃ i, j < i ∧ st.ord[i]? = some (nextOf x z) ∧ st.par (nextOf x z) = x) := by
  have hr := hT.s.inv.rng x (List.mem_of_getElem? hx)
  rw [hG] at hr
  have hb : buyerOf x z < n ∧ goodOf x z < k := by
    obtain ⟨c, i⟩ := x
    cases c
    · exact ⟨hr, hz⟩
    · exact ⟨hz, hr⟩
  have hbit : edN e k x (nextOf x z) := (hm _ _ hb.1 hb.2).2 h0
  rcases hT.seen j x hx z hz hb.1 hb.2 hbit with h | ⟨h1, h2, h3⟩
  · exact .inl h
  · right
    obtain ⟨i, hi⟩ := List.getElem?_of_mem h1
    refine ⟨i, ?_, hi, h3⟩
    have hi0 : 0 < i := by
      rcases Nat.eq_zero_or_pos i with h4 | h4
      · subst h4
        rw [hT.s.inv.hd] at hi
        injection hi with hi
        exact absurd hi.symm h2
      · exact h4
    obtain ⟨⟨i2, h5, h6⟩, _, _⟩ := hT.s.inv.par i _ hi hi0
    rw [h3] at h6
    have hil := (List.getElem?_eq_some_iff.1 h6).1
    have := (List.getElem?_inj hil hT.s.inv.nd).1 (h6.trans hx.symm)
    omega
theorem par_of (hT : TEnd V e n k first don pq0 p st) {j : Nat} {x : Nd} (hx : st.ord[j]? = some x) (hj : 0 < j) : ∃ i z, i < j ∧ st.ord[i]? = some (st.par x) ∧ st.par x = nextOf x z := by
  obtain ⟨⟨i, h1, h2⟩, h3, _⟩ := hT.s.inv.par j x hx hj
  exact ⟨i, (st.par x).2, h1, h2, Prod.ext h3 rfl⟩
/-- Not taken yet: what the parent gives. -/
theorem lfI_par (hG : goodsN V = k) (hT : TEnd V e n k first don pq0 p st) (hm : MaskOf n k s e) {c j : Nat} {x : Nd} (hx : st.ord[j]? = some x) (hj : 0 < j) (hc : c + j + 1 = st.ord.length) : lfI n k s st c x = s (eB x (st.par x)) (eG x (st.par x)) := by
  obtain ⟨i, z, hi, hi2, hz⟩ := par_of hT hx hj
  have hzr : z < dimN n k x := by
    have := hT.s.inv.rng _ (List.mem_of_getElem? hi2)
    rw [hz, hG] at this
    unfold dimN
    obtain ⟨c, i⟩ := x
    cases c
    · simpa [nextOf] using this
    · simpa [nextOf] using this
  have hdr : st.ord.length - c = j + 1 := by omega
  unfold lfI
  rw [hdr, sumQ_one hzr fun y hy hne => ?_]
  · rw [← hz]
    have h1 : ¬ (st.par x ∈ st.ord.drop (j + 1) ∧ st.par (st.par x) = x) := fun ⟨h1, _⟩ => by
      have := (mem_drop hT.s.inv.nd hi2).1 h1
      omega
    rw [one_t h1]
    unfold sE
    rw [← hz]
    grind
  · by_cases h0 : sE s x y = 0
    · rw [h0]; grind
    · rcases nbr hG hT hm hx hy h0 with ⟨_, h2⟩ | ⟨i2, h2, h3, h4⟩
      · rw [hz] at h2
        have := congrArg Prod.snd h2
        exact absurd this hne
      · rw [one_f (fun hn => hn ⟨(mem_drop hT.s.inv.nd h3).2 (by omega), h4⟩)]
        grind
theorem nextOf_nextOf (x : Nd) (z : Nat) : nextOf (nextOf x z) x.2 = x := by
  obtain ⟨c, i⟩ := x
  simp [nextOf]
theorem sE_symm (s : Nat → Nat → Rat) (x : Nd) (z : Nat) : sE s (nextOf x z) x.2 = sE s x z := by
  unfold sE
  rw [nextOf_nextOf]
  have hn : x.1 = !(nextOf x z).1 := by simp [nextOf]
  rw [eB_symm hn, eG_symm hn]
/-- One node more. -/
theorem lfI_step (hG : goodsN V = k) (hT : TEnd V e n k first don pq0 p st) {c j : Nat} {x : Nd} (hx : st.ord[j]? = some x) (hj : 0 < j) (hc : c + j + 1 = st.ord.length) {y : Nd} :
    lfI n k s st (c + 1) y = if y = st.par x then lfI n k s st c y - s (eB x (st.par x)) (eG x (st.par x)) else lfI n k s st c y := by
  have hdr : st.ord.length - c = j + 1 := by omega
  have hdr2 : st.ord.length - (c + 1) = j := by omega
  have hnx : x ∉ st.ord.drop (j + 1) := fun h => by
    have := (mem_drop hT.s.inv.nd hx).1 h
    omega
  unfold lfI
  rw [hdr, hdr2, drop_cons hx]
  by_cases hy : y = st.par x
  · rw [if_pos hy]
    obtain ⟨i, z, hi, hi2, hz⟩ := par_of hT hx hj
    have hxr : x.2 < dimN n k y := by
      have := hT.s.inv.rng x (List.mem_of_getElem? hx)
      rw [hG] at this
      rw [hy, hz]
      unfold dimN
      obtain ⟨c, i⟩ := x
      cases c
      · simpa [nextOf] using this
      · simpa [nextOf] using this
    have hyx : nextOf y x.2 = x := by rw [hy, hz, nextOf_nextOf]
    have hone := sumQ_one (f := fun z => one (¬ (nextOf y z ∈ st.ord.drop (j + 1) ∧ st.par (nextOf y z) = y)) * sE s y z - one (¬ (nextOf y z ∈ x :: st.ord.drop (j + 1) ∧ st.par (nextOf y z) = y)) * sE s y z) (n := dimN n k y) hxr (fun w hw hne => by
      have hw2 : nextOf y w ≠ x := fun h => by
        rw [← hyx] at h
        have := congrArg Prod.snd h
        exact hne this
      have : (nextOf y w ∈ x :: st.ord.drop (j + 1) ∧ st.par (nextOf y w) = y) ↔ (nextOf y w ∈ st.ord.drop (j + 1) ∧ st.par (nextOf y w) = y) := by
        rw [List.mem_cons]
        constructor
        · rintro ⟨h | h, h2⟩
          · exact absurd h hw2
          · exact ⟨h, h2⟩
        · rintro ⟨h, h2⟩; exact ⟨.inr h, h2⟩
      simp only [this]
      grind)
    rw [sq_sub] at hone
    have e1 : one (¬ (nextOf y x.2 ∈ st.ord.drop (j + 1) ∧ st.par (nextOf y x.2) = y)) = 1 := one_t (by rw [hyx]; exact fun h => hnx h.1)
    have e2 : one (¬ (nextOf y x.2 ∈ x :: st.ord.drop (j + 1) ∧ st.par (nextOf y x.2) = y)) = 0 := one_f (by rw [hyx]; exact fun h => h ⟨List.mem_cons_self .., hy.symm⟩)
    rw [e1, e2] at hone
    have e3 : sE s y x.2 = s (eB x (st.par x)) (eG x (st.par x)) := by
      rw [hy, hz, sE_symm]
      rfl
    rw [e3] at hone
    grind
  · rw [if_neg hy]
    refine sumQ_congr fun w _ => ?_
    have : (nextOf y w ∈ x :: st.ord.drop (j + 1) ∧ st.par (nextOf y w) = y) ↔ (nextOf y w ∈ st.ord.drop (j + 1) ∧ st.par (nextOf y w) = y) := by
      rw [List.mem_cons]
      constructor
      · rintro ⟨h | h, h2⟩
        · rw [h] at h2; exact absurd h2.symm hy
        · exact ⟨h, h2⟩
      · rintro ⟨h, h2⟩; exact ⟨.inr h, h2⟩
    rw [one_iff (not_congr this)]
theorem lfI_zero (h : Equi n k b u p s) {y : Nd} (hy : y.2 < if y.1 then k else n) : lfI n k s st 0 y = totN b p y := by
  rw [← sE_tot h hy]
  unfold lfI
  refine sumQ_congr fun z _ => ?_
  rw [Nat.sub_zero, List.drop_length, one_t (by simp)]
  grind
theorem lfI_root (hG : goodsN V = k) (hT : TEnd V e n k first don pq0 p st) (hm : MaskOf n k s e) : lfI n k s st (st.ord.length - 1) (true, first) = 0 := by
  have h0 := hT.s.inv.hd
  have hl : 0 < st.ord.length := (List.getElem?_eq_some_iff.1 h0).1
  unfold lfI
  refine sumQ_zero fun z hz => ?_
  by_cases hs : sE s (true, first) z = 0
  · rw [hs]; grind
  · rcases nbr hG hT hm h0 hz hs with ⟨h1, _⟩ | ⟨i, h1, h2, h3⟩
    · omega
    · rw [one_f (fun hn => hn ⟨(mem_drop hT.s.inv.nd h2).2 (by omega), h3⟩)]
      grind
/-- Backward: what is left, and what is spent. -/
theorem bk_inv (hG : goodsN V = k) (hT : TEnd V e n k first don pq0 p st) (hm : MaskOf n k s e) (hE : Equi n k b u p s) {lf : Nd → Rat} {sp : Nat → Nat → Rat} (hlf : ∀ y ∈ st.ord, lf y = totN b p y) :
    ∀ c, c + 1 ≤ st.ord.length → (∀ y ∈ st.ord, (bkTo st.ord st.par lf sp c).1 y = lfI n k s st c y) ∧
      (∀ x ∈ st.ord.drop (st.ord.length - c), (bkTo st.ord st.par lf sp c).2 (eB x (st.par x)) (eG x (st.par x)) = s (eB x (st.par x)) (eG x (st.par x))) ∧
      ∀ i h, (bkTo st.ord st.par lf sp c).2 i h = sp i h ∨ ((false, i) ∈ st.ord ∧ (bkTo st.ord st.par lf sp c).2 i h = s i h) := by
  intro c
  induction c with
  | zero =>
    intro _
    refine ⟨fun y hy => ?_, fun x hx => ?_, fun i h => .inl rfl⟩
    · have := hT.s.inv.rng y hy
      rw [hG] at this
      rw [lfI_zero hE this]
      exact hlf y hy
    · rw [Nat.sub_zero, List.drop_length] at hx
      cases hx
  | succ c ih =>
    intro hc
    obtain ⟨i1, i2, i3⟩ := ih (by omega)
    obtain ⟨j, hj⟩ : ∃ j, c + j + 1 = st.ord.length := ⟨st.ord.length - 1 - c, by omega⟩
    have hjl : j < st.ord.length := by omega
    obtain ⟨x, hx⟩ : ∃ x, st.ord[j]? = some x := ⟨_, List.getElem?_eq_getElem hjl⟩
    have hxm := List.mem_of_getElem? hx
    have hj0 : 0 < j := by omega
    have hlx := lfI_par hG hT hm hx hj0 hj
    have hbk := bkTo_next (par := st.par) (lf := lf) (sp := sp) hj hx
    obtain ⟨i, z, hi, hi2, hz⟩ := par_of hT hx hj0
    have hpm := List.mem_of_getElem? hi2
    rw [hbk]
    have hv : (bkTo st.ord st.par lf sp c).1 x = s (eB x (st.par x)) (eG x (st.par x)) := by rw [i1 x hxm, hlx]
    refine ⟨fun y hy => ?_, fun w hw => ?_, fun i' h' => ?_⟩
    · dsimp only
      rw [lfI_step hG hT hx hj0 hj]
      by_cases he : y = st.par x
      · rw [if_pos he, he, upd_same, i1 _ hpm, hv]
      · rw [if_neg he, upd_other _ _ _ he]
        exact i1 y hy
    · dsimp only
      rw [show st.ord.length - (c + 1) = j by omega, drop_cons hx] at hw
      show upd2 _ (eB x (st.par x)) (eG x (st.par x)) _ _ _ = _
      unfold upd2
      split
      · rename_i heq
        rw [hv, heq.1, heq.2]
      · rename_i hne
        rcases List.mem_cons.1 hw with h1 | h1
        · rw [h1] at hne
          exact absurd ⟨rfl, rfl⟩ hne
        · refine i2 w ?_
          rw [show st.ord.length - c = j + 1 by omega]
          exact h1
    · dsimp only
      show upd2 _ (eB x (st.par x)) (eG x (st.par x)) _ _ _ = _ ∨ _ ∧ upd2 _ (eB x (st.par x)) (eG x (st.par x)) _ _ _ = _
      unfold upd2
      split
      · rename_i heq
        right
        refine ⟨?_, by rw [hv, heq.1, heq.2]⟩
        rw [heq.1]
        obtain ⟨cx, ix⟩ := x
        cases cx
        · exact hxm
        · have : st.par (true, ix) = (false, (st.par (true, ix)).2) := by rw [hz]; rfl
          show (false, (st.par (true, ix)).2) ∈ st.ord
          rw [← this]
          exact hpm
      · exact i3 i' h'
end

/- What solve holds in memory. -/

/-- A valid market in memory. -/
structure MkIn (w : World) (A : Option Addr) (n : Nat) (U : Option Addr) (k : Nat) (B : List Int) (V : List (List Int)) : Prop where
  mkt : MktAt w A n U n B V
  hn : 1 ≤ n ∧ n ≤ 3
  hk : 1 ≤ k ∧ k ≤ 3
  hg : goodsN V = k
  rows : ∀ r ∈ V, rowOk k r = true
  buds : ∀ b ∈ B, 1 ≤ b ∧ b ≤ 20
theorem MkIn.below {w w' : World} {A U : Option Addr} {n k : Nat} {B : List Int} {V : List (List Int)} (h : MkIn w A n U k B V) (hb : Below w.heap.size w w') : MkIn w' A n U k B V := { h with mkt := h.mkt.below hb }
/-- Whole 0 in the first g places. -/
def zr (k g : Nat) : List (Int × Int) := (List.range k).map fun h => if h < g then ((0 : Int), (1 : Int)) else (0, 0)
theorem zr_zero (k : Nat) : zr k 0 = List.replicate k (0, 0) := by
  unfold zr
  rw [List.eq_replicate_iff]
  refine ⟨by simp, fun x hx => ?_⟩
  obtain ⟨h, _, rfl⟩ := List.mem_map.1 hx
  rw [if_neg (by omega)]
theorem zr_end (k : Nat) : zr k k = spOf k (fun _ => 0) := by
  unfold zr spOf
  refine List.map_congr_left fun h hh => ?_
  rw [if_pos (List.mem_range.1 hh)]
  rfl
theorem zr_get {k g h : Nat} (hh : h < k) : (zr k g)[h]? = some (if h < g then ((0 : Int), (1 : Int)) else (0, 0)) := by
  unfold zr
  rw [List.getElem?_map, List.getElem?_range hh]
  rfl
theorem zr_set {k g : Nat} : (zr k g).set g (0, 1) = zr k (g + 1) := by
  apply List.ext_getElem?
  intro h
  rw [List.getElem?_set]
  by_cases e : g = h
  · subst e
    rw [if_pos rfl]
    by_cases hg : g < k
    · rw [if_pos (by simpa [zr] using hg), zr_get hg, if_pos (by omega)]
    · rw [if_neg (by simpa [zr] using hg), List.getElem?_eq_none (by simp [zr]; omega)]
  · rw [if_neg e]
    by_cases hh : h < k
    · rw [zr_get hh, zr_get hh]
      by_cases h2 : h < g
      · rw [if_pos h2, if_pos (by omega)]
      · rw [if_neg h2, if_neg (by omega)]
    · rw [List.getElem?_eq_none (by simp [zr]; omega), List.getElem?_eq_none (by simp [zr]; omega)]
theorem psOf_none (k : Nat) (pq : Nat → Rat) : psOf k (fun _ => false) pq = List.replicate k (0, 0) := by
  unfold psOf
  rw [List.eq_replicate_iff]
  refine ⟨by simp, fun x hx => ?_⟩
  obtain ⟨h, _, rfl⟩ := List.mem_map.1 hx
  rfl
/-- The cells of the list of rows, when the first i are made. -/
def sbC (n k i : Nat) (R : Nat → Nat) : Array Value := ((List.range n).map fun j => if j < i then Value.slice (some ⟨R j, 0, none⟩) k k else .slice none 0 0).toArray
theorem sbC_zero (n k : Nat) (R : Nat → Nat) : sbC n k 0 R = Array.replicate n (Value.slice none 0 0) := by
  unfold sbC
  apply Array.ext'
  rw [Array.toList_replicate]
  show (List.range n).map _ = _
  rw [List.eq_replicate_iff]
  refine ⟨by simp, fun x hx => ?_⟩
  obtain ⟨h, _, rfl⟩ := List.mem_map.1 hx
  rw [if_neg (by omega)]
theorem sbC_get {n k i j : Nat} {R : Nat → Nat} (hj : j < n) : (sbC n k i R)[j]? = some (if j < i then Value.slice (some ⟨R j, 0, none⟩) k k else .slice none 0 0) := by
  unfold sbC
  rw [List.getElem?_toArray, List.getElem?_map, List.getElem?_range hj]
  rfl
theorem sbC_set {n k i g : Nat} {R : Nat → Nat} : (sbC n k i R).setIfInBounds i (.slice (some ⟨g, 0, none⟩) k k) = sbC n k (i + 1) (upd R i g) := by
  apply Array.ext'
  rw [Array.toList_setIfInBounds]
  show ((List.range n).map _).set i _ = (List.range n).map _
  apply List.ext_getElem?
  intro h
  rw [List.getElem?_set]
  by_cases e : i = h
  · subst e
    rw [if_pos rfl]
    by_cases hi : i < n
    · rw [if_pos (by simpa using hi), List.getElem?_map, List.getElem?_range hi]
      simp only [Option.map_some]
      rw [if_pos (by omega), upd_same]
    · rw [if_neg (by simpa using hi), List.getElem?_eq_none (by simp; omega)]
  · rw [if_neg e]
    by_cases hh : h < n
    · rw [List.getElem?_map, List.getElem?_map, List.getElem?_range hh]
      simp only [Option.map_some]
      rw [upd_other _ _ _ (fun e' => e e'.symm)]
      by_cases h2 : h < i
      · rw [if_pos h2, if_pos (by omega)]
      · rw [if_neg h2, if_neg (by omega)]
    · rw [List.getElem?_eq_none (by simp; omega), List.getElem?_eq_none (by simp; omega)]
/-- What solve holds while the first i rows are made. -/
structure SolMem (w0 wr : World) (mv rv : Array Value) (bb PB SB n k i : Nat) (R : Nat → Nat) : Prop where
  mkb : Blk wr w0.heap.size 30 mv
  res : Blk wr (w0.heap.size + 1) 66 rv
  bel : Below w0.heap.size w0 wr
  bal : Blk wr bb 66 #[.slice (some ⟨PB, 0, none⟩) k k, .slice (some ⟨SB, 0, none⟩) n n]
  pri : PrB wr PB 77 (List.replicate k (0, 0))
  sb : Blk wr SB 63 (sbC n k i R)
  row : ∀ j, j < i → PrB wr (R j) 77 (spOf k (fun _ => 0))
  inj : ∀ a b, a < i → b < i → a ≠ b → R a ≠ R b
  rne : ∀ j, j < i → R j ≠ PB ∧ R j ≠ bb ∧ R j ≠ SB ∧ w0.heap.size + 2 ≤ R j
  ne : bb ≠ PB ∧ bb ≠ SB ∧ PB ≠ SB ∧ w0.heap.size + 2 ≤ bb ∧ w0.heap.size + 2 ≤ PB ∧ w0.heap.size + 2 ≤ SB
theorem SolMem.below {w0 wr wr' : World} {mv rv : Array Value} {bb PB SB n k i : Nat} {R : Nat → Nat} (h : SolMem w0 wr mv rv bb PB SB n k i R) (hb : Below wr.heap.size wr wr') : SolMem w0 wr' mv rv bb PB SB n k i R :=
  { h with mkb := h.mkb.below hb h.mkb.lt, res := h.res.below hb h.res.lt, bel := h.bel.trans (hb.mono h.bel.size), bal := h.bal.below hb h.bal.lt, pri := h.pri.below hb h.pri.lt, sb := h.sb.below hb h.sb.lt,
           row := fun j hj => (h.row j hj).below hb (h.row j hj).lt }
/-- One row more. -/
theorem SolMem.more {w0 wr w' : World} {mv rv : Array Value} {bb PB SB n k i g : Nat} {R : Nat → Nat} (h : SolMem w0 wr mv rv bb PB SB n k i R) (hg : wr.heap.size ≤ g) (hk : Kept wr.heap.size [SB] wr w') (hS : Blk w' SB 63 (sbC n k (i + 1) (upd R i g))) (hr : PrB w' g 77 (spOf k (fun _ => 0))) :
    SolMem w0 w' mv rv bb PB SB n k (i + 1) (upd R i g) := by
  have hmk := h.mkb.lt
  have hre := h.res.lt
  have hba := h.bal.lt
  have hpr := h.pri.lt
  have hsb := h.sb.lt
  have hne := h.ne
  have hro := fun j hj => (h.row j hj).lt
  have hrn := h.rne
  exact {
    mkb := h.mkb.kept hk hmk (by simp; omega)
    res := h.res.kept hk hre (by simp; omega)
    bel := h.bel.trans (hk.mono (B' := w0.heap.size) (S' := []) h.bel.size (fun x hx => by simp at hx; right; omega)).below
    bal := h.bal.kept hk hba (by simp; omega)
    pri := Blk.kept h.pri hk hpr (by simp; omega)
    sb := hS
    row := fun j hj => by
      by_cases e : j = i
      · subst e; rw [upd_same]; exact hr
      · rw [upd_other _ _ _ e]
        exact Blk.kept (h.row j (by omega)) hk (hro j (by omega)) (by have := hrn j (by omega); simp; omega)
    inj := fun a b ha hb hab => by
      by_cases e : a = i
      · subst e
        rw [upd_same, upd_other _ _ _ (fun e => hab e.symm)]
        have := hro b (by omega)
        omega
      · by_cases e2 : b = i
        · subst e2
          rw [upd_same, upd_other _ _ _ e]
          have := hro a (by omega)
          omega
        · rw [upd_other _ _ _ e, upd_other _ _ _ e2]
          exact h.inj a b (by omega) (by omega) hab
    rne := fun j hj => by
      by_cases e : j = i
      · subst e; rw [upd_same]; omega
      · rw [upd_other _ _ _ e]; exact hrn j (by omega)
    ne := hne }
theorem blk0 (w2 : World) (x : Array Value) (t : TypeId) (b c : Obj) : Blk ((((w2.alloc (.cells x t)).alloc b).alloc c).drew) w2.heap.size t x := ((Blk.new w2 t x rfl).alloc b).alloc c
theorem blk1 (w2 : World) (x : Array Value) (t : TypeId) (a c : Obj) : Blk ((((w2.alloc a).alloc (.cells x t)).alloc c).drew) (w2.heap.size + 1) t x := (Blk.new (w2.alloc a) t x (by simp)).alloc c
theorem blk2 (w2 : World) (x : Array Value) (t : TypeId) (a b : Obj) : Blk ((((w2.alloc a).alloc b).alloc (.cells x t)).drew) (w2.heap.size + 1 + 1) t x := Blk.new ((w2.alloc a).alloc b) t x (by simp)
theorem below3 (w2 : World) (a b c : Obj) : Below w2.heap.size w2 ((((w2.alloc a).alloc b).alloc c).drew) := ((((Below.refl _ _).alloc (Nat.le_refl _) _).alloc (by simp) _).alloc (by simp; omega) _).drew
theorem SolMem.start {w0 w2 wx : World} {mv rv : Array Value} {bb PB SB n k : Nat} (bal : Blk wx bb 66 #[.slice (some ⟨PB, 0, none⟩) k k, .slice (some ⟨SB, 0, none⟩) n n])
    (pri : Blk wx PB 77 (prA (List.replicate k (0, 0)))) (sb : Blk wx SB 63 (Array.replicate n (Value.slice none 0 0))) (hb : Below w2.heap.size w2 wx) (bel : Below w0.heap.size w0 w2) (mkb : Blk w2 w0.heap.size 30 mv) (res : Blk w2 (w0.heap.size + 1) 66 rv)
    (ne : bb ≠ PB ∧ bb ≠ SB ∧ PB ≠ SB ∧ w0.heap.size + 2 ≤ bb ∧ w0.heap.size + 2 ≤ PB ∧ w0.heap.size + 2 ≤ SB) : SolMem w0 wx mv rv bb PB SB n k 0 (fun _ => 0) where
  mkb := mkb.below hb mkb.lt
  res := res.below hb res.lt
  bel := bel.trans (hb.mono bel.size)
  bal := bal
  pri := pri
  sb := by rw [sbC_zero]; exact sb
  row := fun j hj => by omega
  inj := fun a b ha => by omega
  rne := fun j hj => by omega
  ne := ne
/-- What solve holds while the goods are gone through. -/
structure SolRun (w0 wr : World) (mv rv : Array Value) (bb PB SB dm n k N : Nat) (R : Nat → Nat) (s : SolS) : Prop where
  mkb : Blk wr w0.heap.size 30 mv
  res : Blk wr (w0.heap.size + 1) 66 rv
  bel : Below w0.heap.size w0 wr
  bal : Blk wr bb 66 #[.slice (some ⟨PB, 0, none⟩) k k, .slice (some ⟨SB, 0, none⟩) n n]
  pri : PrB wr PB 77 (psOf k s.don s.pq)
  sb : Blk wr SB 63 (sbC n k n R)
  row : SpRows wr n k R s.sp
  donm : MapN wr dm N (.bool false) (fun x => .bool (s.don x))
  inj : ∀ a b, a < n → b < n → a ≠ b → R a ≠ R b
  rne : ∀ j, j < n → R j ≠ PB ∧ R j ≠ bb ∧ R j ≠ SB ∧ R j ≠ dm ∧ w0.heap.size + 2 ≤ R j
  ne : bb ≠ PB ∧ bb ≠ SB ∧ PB ≠ SB ∧ w0.heap.size + 2 ≤ bb ∧ w0.heap.size + 2 ≤ PB ∧ w0.heap.size + 2 ≤ SB
  dne : dm ≠ bb ∧ dm ≠ PB ∧ dm ≠ SB ∧ w0.heap.size + 2 ≤ dm
theorem SolMem.run {w0 wr : World} {mv rv : Array Value} {bb PB SB n k : Nat} {R : Nat → Nat} (h : SolMem w0 wr mv rv bb PB SB n k n R) : SolRun w0 (wr.alloc (.map #[] 0)) mv rv bb PB SB wr.heap.size n k 0 R sol0 := by
  have hb : Below wr.heap.size wr (wr.alloc (.map #[] 0)) := (Below.refl _ _).alloc (Nat.le_refl _) _
  have h2 := h.below hb
  have hba := h.bal.lt
  have hpr := h.pri.lt
  have hsb := h.sb.lt
  have hmk := h.res.lt
  exact {
    mkb := h2.mkb
    res := h2.res
    bel := h2.bel
    bal := h2.bal
    pri := by
      show PrB _ PB 77 (psOf k (fun _ => false) _)
      rw [psOf_none]; exact h2.pri
    sb := h2.sb
    row := fun i hi => h2.row i hi
    donm := MapN.made wr (.bool false)
    inj := h2.inj
    rne := fun j hj => by
      have h3 := h.rne j hj
      have h4 := (h.row j hj).lt
      refine ⟨h3.1, h3.2.1, h3.2.2.1, ?_, h3.2.2.2⟩
      omega
    ne := h2.ne
    dne := by omega }
theorem SolRun.below {w0 wr wr' : World} {mv rv : Array Value} {bb PB SB dm n k N : Nat} {R : Nat → Nat} {s : SolS} (h : SolRun w0 wr mv rv bb PB SB dm n k N R s) (hb : Below wr.heap.size wr wr') : SolRun w0 wr' mv rv bb PB SB dm n k N R s :=
  { h with mkb := h.mkb.below hb h.mkb.lt, res := h.res.below hb h.res.lt, bel := h.bel.trans (hb.mono h.bel.size), bal := h.bal.below hb h.bal.lt, pri := h.pri.below hb h.pri.lt, sb := h.sb.below hb h.sb.lt,
           row := h.row.far fun i hi => hb.block _ (h.row i hi).lt, donm := h.donm.kept (hb.block _ h.donm.lt) }
theorem SolRun.compIn {w0 wr : World} {rv : Array Value} {A U : Option Addr} {c d : Nat} {bb PB SB dm n k N : Nat} {R : Nat → Nat} {s : SolS} {B : List Int} {V : List (List Int)} (h : SolRun w0 wr #[.slice A n c, .slice U n d] rv bb PB SB dm n k N R s)
    (hm : MkIn w0 A n U k B V) (hN : N ≤ 100) : CompIn w0 wr A n U k B V bb PB dm N s.don s.pq := by
  have h1 := h.ne
  have h2 := h.dne
  exact {
    mkt := hm.mkt, hn := hm.hn, hk := hm.hk, hg := hm.hg, rows := hm.rows, buds := hm.buds
    bel := h.bel
    p0 := by omega
    d0 := by omega
    blt := h.bal.lt
    bd := by omega
    bp := by omega
    dp := by omega
    bal := h.bal.at2.1
    pri := h.pri
    donm := h.donm
    hN := hN }
theorem SolRun.spIn {w0 wr : World} {mv rv : Array Value} {bb PB SB dm n k N : Nat} {R : Nat → Nat} {s : SolS} (h : SolRun w0 wr mv rv bb PB SB dm n k N R s) : SpIn w0 wr bb PB dm SB n k R s.sp where
  sb := h.bal.at2.2.1
  row := fun i hi => by
    rw [Blk.cell h.sb, sbC_get hi, if_pos hi]
  blk := h.row
  inj := h.inj
  rne := fun i hi => by
    have := h.rne i hi
    exact ⟨this.1, this.2.2.2.1, this.2.1, this.2.2.1, by omega⟩
  sne := ⟨fun e => h.ne.2.2.1 e.symm, fun e => h.dne.2.2.1 e.symm, h.sb.lt⟩
/-- One component more. -/
theorem SolRun.comp {w0 wr w' : World} {mv rv : Array Value} {bb PB SB dm n k N : Nat} {R : Nat → Nat} {s s' : SolS} (h : SolRun w0 wr mv rv bb PB SB dm n k N R s) (hk : Kept wr.heap.size (dm :: PB :: (List.range n).map R) wr w')
    (hp : PrB w' PB 77 (psOf k s'.don s'.pq)) (hd : MapN w' dm (N + 6) (.bool false) (fun z => .bool (s'.don z))) (hr : SpRows w' n k R s'.sp) : SolRun w0 w' mv rv bb PB SB dm n k (N + 6) R s' := by
  have h1 := h.ne
  have h2 := h.dne
  have hl1 := h.mkb.lt
  have hl2 := h.res.lt
  have hnot : ∀ g, g ≠ dm → g ≠ PB → (∀ j, j < n → R j ≠ g) → g ∉ dm :: PB :: (List.range n).map R := fun g a b c hm => by
    rcases List.mem_cons.1 hm with e | hm
    · exact a e
    · rcases List.mem_cons.1 hm with e | hm
      · exact b e
      · obtain ⟨j, hj, e⟩ := List.mem_map.1 hm
        exact c j (List.mem_range.1 hj) e
  have hro : ∀ j, j < n → w0.heap.size + 2 ≤ R j := fun j hj => (h.rne j hj).2.2.2.2
  exact {
    mkb := h.mkb.kept hk hl1 (hnot _ (by omega) (by omega) (fun j hj => by have := hro j hj; omega))
    res := h.res.kept hk hl2 (hnot _ (by omega) (by omega) (fun j hj => by have := hro j hj; omega))
    bel := h.bel.trans (hk.mono (B' := w0.heap.size) (S' := []) h.bel.size (fun x hx => by
      right
      rcases List.mem_cons.1 hx with e | hx
      · omega
      · rcases List.mem_cons.1 hx with e | hx
        · omega
        · obtain ⟨j, hj, e⟩ := List.mem_map.1 hx
          have := hro j (List.mem_range.1 hj)
          omega)).below
    bal := h.bal.kept hk h.bal.lt (hnot _ (by omega) (by omega) (fun j hj => (h.rne j hj).2.1))
    pri := hp
    sb := h.sb.kept hk h.sb.lt (hnot _ (by omega) (by omega) (fun j hj => (h.rne j hj).2.2.1))
    row := hr
    donm := hd
    inj := h.inj
    rne := h.rne
    ne := h1
    dne := h2 }
theorem SolRun.fail {w0 wr w' : World} {mv rv : Array Value} {bb PB SB dm n k N : Nat} {R : Nat → Nat} {s : SolS} (h : SolRun w0 wr mv rv bb PB SB dm n k N R s) (hk : Kept wr.heap.size (dm :: PB :: (List.range n).map R) wr w') :
    Blk w' (w0.heap.size + 1) 66 rv ∧ Below w0.heap.size w0 w' := by
  have h1 := h.ne
  have h2 := h.dne
  have hl2 := h.res.lt
  have hro : ∀ j, j < n → w0.heap.size + 2 ≤ R j := fun j hj => (h.rne j hj).2.2.2.2
  refine ⟨h.res.kept hk hl2 (fun hm => ?_), h.bel.trans (hk.mono (B' := w0.heap.size) (S' := []) h.bel.size (fun x hx => ?_)).below⟩
  · rcases List.mem_cons.1 hm with e | hm
    · omega
    · rcases List.mem_cons.1 hm with e | hm
      · omega
      · obtain ⟨j, hj, e⟩ := List.mem_map.1 hm
        have := hro j (List.mem_range.1 hj)
        omega
  · right
    rcases List.mem_cons.1 hx with e | hx
    · omega
    · rcases List.mem_cons.1 hx with e | hx
      · omega
      · obtain ⟨j, hj, e⟩ := List.mem_map.1 hx
        have := hro j (List.mem_range.1 hj)
        omega
theorem SolRun.frc {w0 wr : World} {mv rv : Array Value} {bb PB SB dm n k N : Nat} {R : Nat → Nat} {s : SolS} (h : SolRun w0 wr mv rv bb PB SB dm n k N R s) (ho : SolOk k k s) : Fracs wr (some ⟨PB, 0, none⟩) (solP k s) := by
  have := h.pri.prs
  rw [psOf_all ho] at this
  exact this
theorem SolRun.mat {w0 wr : World} {mv rv : Array Value} {bb PB SB dm n k N : Nat} {R : Nat → Nat} {s : SolS} (h : SolRun w0 wr mv rv bb PB SB dm n k N R s) : FMat wr (some ⟨SB, 0, none⟩) (solS n k s) := by
  intro j r hj
  have hjn : j < n := by
    have := (List.getElem?_eq_some_iff.1 hj).1
    simpa [solS] using this
  have hr : r = (List.range k).map (s.sp j) := by
    unfold solS at hj
    rw [List.getElem?_map, List.getElem?_range hjn] at hj
    injection hj with hj
    exact hj.symm
  refine ⟨⟨SB, 0, none⟩, some ⟨R j, 0, none⟩, k, rfl, ?_, ?_⟩
  · have h1 := (SolRun.spIn h).row j hjn
    have e : (⟨SB, 0, none⟩ : Addr).add j = ⟨SB, j, none⟩ := by
      cases j with
      | zero => simp [Addr.add]
      | succ j => simp [Addr.add]
    rw [e, h1, hr]
    simp
  · have := (h.row j hjn).prs
    have e : spOf k (s.sp j) = r.map pr := by rw [hr, List.map_map]; rfl
    rw [e] at this
    exact this
theorem SolRun.ret {w0 wr : World} {mv rv : Array Value} {bb PB SB dm n k N : Nat} {R : Nat → Nat} {s : SolS} (h : SolRun w0 wr mv rv bb PB SB dm n k N R s) (x y : Value) :
    SolRun w0 ((wr.setCell ⟨w0.heap.size + 1, 0, none⟩ x).setCell ⟨w0.heap.size + 1, 1, none⟩ y) mv ((rv.setIfInBounds 0 x).setIfInBounds 1 y) bb PB SB dm n k N R s := by
  have h1 := h.ne
  have h2 := h.dne
  have hf : ∀ g, g ≠ w0.heap.size + 1 → ∀ {t : TypeId} {cs : Array Value}, Blk wr g t cs → Blk ((wr.setCell ⟨w0.heap.size + 1, 0, none⟩ x).setCell ⟨w0.heap.size + 1, 1, none⟩ y) g t cs := fun g hg _ _ hb => Blk.far (Blk.far hb hg _) hg _
  exact {
    mkb := hf _ (by omega) h.mkb
    res := Blk.set_ (Blk.set_ h.res 0 x) 1 y
    bel := (h.bel.setCell (by simp) _).setCell (by simp) _
    bal := hf _ (by omega) h.bal
    pri := hf _ (by omega) h.pri
    sb := hf _ (by omega) h.sb
    row := fun i hi => hf _ (by have := h.rne i hi; omega) (h.row i hi)
    donm := (h.donm.far (by simp; omega) _).far (by simp; omega) _
    inj := h.inj
    rne := h.rne
    ne := h1
    dne := h2 }
/-- Prices and spendings that lie in memory from base on. -/
def BalMem (base : Nat) (w : World) (PB SB : Nat) (r : List Rat × List (List Rat)) : Prop :=
  ∀ w' : World, (∀ g, base ≤ g → g < w.heap.size → w'.heap[g]? = w.heap[g]?) → Fracs w' (some ⟨PB, 0, none⟩) r.1 ∧ FMat w' (some ⟨SB, 0, none⟩) r.2
theorem BalMem.get {base : Nat} {w : World} {PB SB : Nat} {r : List Rat × List (List Rat)} (h : BalMem base w PB SB r) : Fracs w (some ⟨PB, 0, none⟩) r.1 ∧ FMat w (some ⟨SB, 0, none⟩) r.2 := h w fun _ _ _ => rfl
theorem BalMem.keep {base base' : Nat} {w w' : World} {PB SB : Nat} {r : List Rat × List (List Rat)} (h : BalMem base w PB SB r) (hb : base' ≤ base) (hs : w.heap.size ≤ w'.heap.size) (hk : ∀ g, base ≤ g → g < w.heap.size → w'.heap[g]? = w.heap[g]?) : BalMem base' w' PB SB r :=
  fun w'' hw => h w'' fun g h1 h2 => (hw g (by omega) (by omega)).trans (hk g h1 h2)
theorem SolRun.bmem {w0 wr : World} {mv rv : Array Value} {bb PB SB dm n k N : Nat} {R : Nat → Nat} {s : SolS} (h : SolRun w0 wr mv rv bb PB SB dm n k N R s) (ho : SolOk k k s) : BalMem w0.heap.size wr PB SB (solP k s, solS n k s) := by
  intro w' hw
  have h1 := h.ne
  have hp : PrB w' PB 77 (psOf k s.don s.pq) := (hw PB (by omega) h.pri.lt).trans h.pri
  have hs : Blk w' SB 63 (sbC n k n R) := (hw SB (by omega) h.sb.lt).trans h.sb
  have hr : SpRows w' n k R s.sp := h.row.far fun i hi => hw _ (by have := h.rne i hi; omega) (h.row i hi).lt
  refine ⟨?_, ?_⟩
  · have := hp.prs
    rw [psOf_all ho] at this
    exact this
  · intro j r hj
    have hjn : j < n := by
      have := (List.getElem?_eq_some_iff.1 hj).1
      simpa [solS] using this
    have hr' : r = (List.range k).map (s.sp j) := by
      simp only [solS] at hj
      rw [List.getElem?_map, List.getElem?_range hjn] at hj
      injection hj with hj
      exact hj.symm
    refine ⟨⟨SB, 0, none⟩, some ⟨R j, 0, none⟩, k, rfl, ?_, ?_⟩
    · have e : (⟨SB, 0, none⟩ : Addr).add j = ⟨SB, j, none⟩ := by
        cases j with
        | zero => simp [Addr.add]
        | succ j => simp [Addr.add]
      rw [e, Blk.cell hs, sbC_get hjn, if_pos hjn, hr']
      simp
    · have := (hr j hjn).prs
      have e : spOf k (s.sp j) = r.map pr := by rw [hr', List.map_map]; rfl
      rw [e] at this
      exact this
end Go.Proofs.Ytnljnjnmhbkdoaa
