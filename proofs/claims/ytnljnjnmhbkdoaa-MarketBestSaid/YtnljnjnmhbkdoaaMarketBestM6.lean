/- Laws and contracts that the proof of MarketBest uses, part 6. -/
import Derived.Test.YtnljnjnmhbkdoaaMarketBestM4
import Derived.Test.YtnljnjnmhbkdoaaMarketBestM5
import Derived.Test.YtnljnjnmhbkdoaaMarketBestM1
import Derived.Test.YtnljnjnmhbkdoaaMarketBestM2
import Derived.Test.YtnljnjnmhbkdoaaMarketBestM3
import Derived.Deep.DeepCutAuto
namespace Go.Proofs.Ytnljnjnmhbkdoaa
open Go.RowKit

/- The program finds a balance of every valid market: plain Lean. -/

section
variable {B : List Int} {V V' : List (List Int)} {e n k first M : Nat} {don : Nd → Bool} {pq0 p : Nat → Rat} {s : Nat → Nat → Rat} {st : CSt}
/-- The same search, but for the prices. -/
structure Same (st st' : CSt) : Prop where
  ord : st.ord = st'.ord
  par : st.par = st'.par
  don : st.don = st'.don
theorem same_visit (hG : goodsN V = k) (hG' : goodsN V' = k) (hu : ∀ i g, i < n → g < k → e.testBit (i * k + g) = true → useN V i g ≠ 0) {st st' a' : CSt} {j : Nat} {x : Nd} {y : Nat} (h : Same st st') (hv : visit V' e n j st' x y = some a') : ∃ a, visit V e n j st x y = some a ∧ Same a a' := by
  have hsk : skipB V e n j st x y = skipB V' e n j st' x y := by unfold skipB; rw [hG, hG', h.par]
  unfold visit at hv ⊢
  rw [hsk]
  by_cases hs : skipB V' e n j st' x y = true
  · rw [if_pos hs] at hv ⊢
    injection hv with hv
    subst hv
    exact ⟨st, rfl, h⟩
  · rw [if_neg hs] at hv ⊢
    by_cases hc : (st'.don (nextOf x y) || decide (useN V' (buyerOf x y) (goodOf x y) = 0)) = true
    · rw [if_pos hc] at hv; cases hv
    · rw [if_neg hc] at hv
      injection hv with hv
      subst hv
      simp only [skipB, Bool.or_eq_true, decide_eq_true_eq, not_or, Bool.not_eq_true', Bool.not_eq_false] at hs
      rw [hG'] at hs
      simp only [Bool.or_eq_true, decide_eq_true_eq, not_or, Bool.not_eq_true] at hc
      obtain ⟨s1, s2, s3, _⟩ := hs
      have h0 := hu _ _ (by omega) (by omega) s3
      rw [if_neg (by rw [h.don, hc.1]; simpa using h0)]
      refine ⟨_, rfl, ?_, ?_, ?_⟩
      · show st.ord ++ _ = st'.ord ++ _; rw [h.ord]
      · show upd st.par _ _ = upd st'.par _ _; rw [h.par]
      · show upd st.don _ _ = upd st'.don _ _; rw [h.don]
theorem same_visitTo (hG : goodsN V = k) (hG' : goodsN V' = k) (hu : ∀ i g, i < n → g < k → e.testBit (i * k + g) = true → useN V i g ≠ 0) {st st' : CSt} {j : Nat} {x : Nd} (h : Same st st') : ∀ (y : Nat) (a' : CSt), visitTo V' e n j st' x y = some a' → ∃ a, visitTo V e n j st x y = some a ∧ Same a a'
  | 0, a', hv => by injection hv with hv; subst hv; exact ⟨st, rfl, h⟩
  | y + 1, a', hv => by
    simp only [visitTo] at hv ⊢
    cases h1 : visitTo V' e n j st' x y with
    | none => rw [h1] at hv; cases hv
    | some s' =>
      rw [h1] at hv
      obtain ⟨s, h2, h3⟩ := same_visitTo hG hG' hu h y s' h1
      rw [h2]
      exact same_visit hG hG' hu h3 hv
theorem same_srch (hG : goodsN V = k) (hG' : goodsN V' = k) (hu : ∀ i g, i < n → g < k → e.testBit (i * k + g) = true → useN V i g ≠ 0) {st st' : CSt} (h : Same st st') : ∀ (j : Nat) (a' : CSt), srchTo V' e n M st' j = some a' → ∃ a, srchTo V e n M st j = some a ∧ Same a a'
  | 0, a', hv => by injection hv with hv; subst hv; exact ⟨st, rfl, h⟩
  | j + 1, a', hv => by
    simp only [srchTo] at hv ⊢
    cases h1 : srchTo V' e n M st' j with
    | none => rw [h1] at hv; cases hv
    | some s' =>
      rw [h1] at hv
      obtain ⟨s, h2, h3⟩ := same_srch hG hG' hu h j s' h1
      rw [h2]
      simp only [Option.bind_some] at hv ⊢
      rw [h3.ord]
      cases h4 : s'.ord[j]? with
      | none =>
        rw [h4] at hv
        injection hv with hv
        subst hv
        exact ⟨s, rfl, h3⟩
      | some x =>
        rw [h4] at hv
        exact same_visitTo hG hG' hu h3 M a' hv
theorem goodsN_ones (hn : 1 ≤ n) : goodsN (onesV n k) = k := by
  unfold goodsN rowV onesV
  rw [List.getD_eq_getElem?_getD, List.getElem?_replicate, if_pos (by omega)]
  simp
/-- The sums over a search's nodes. -/
theorem tot_sum (pq : Nat → Rat) : ∀ l : List Nd, l.Nodup → (∀ g, (true, g) ∈ l → g < k) → totOf pq l = sumQ (fun g => one ((true, g) ∈ l) * pq g) k
  | [], _, _ => by rw [sumQ_zero fun g _ => by rw [one_f (by simp)]; grind]; rfl
  | (c, i) :: l, hn, hr => by
    have hn2 := (List.nodup_cons.1 hn)
    have ih := tot_sum pq l hn2.2 fun g hg => hr g (List.mem_cons_of_mem _ hg)
    simp only [totOf]
    rw [ih]
    cases c
    · simp only [Bool.false_eq_true, if_false]
      rw [Rat.zero_add]
      refine sumQ_congr fun g _ => ?_
      rw [one_iff (P := (true, g) ∈ l) (Q := (true, g) ∈ (false, i) :: l) (by simp)]
    · simp only [if_true]
      have hi := hr i (List.mem_cons_self ..)
      have hone := sumQ_one (f := fun g => one ((true, g) ∈ (true, i) :: l) * pq g - one ((true, g) ∈ l) * pq g) hi (fun g _ hne => by
        rw [one_iff (P := (true, g) ∈ (true, i) :: l) (Q := (true, g) ∈ l) (by simp [hne])]; grind)
      rw [sq_sub, one_t (P := (true, i) ∈ (true, i) :: l) (List.mem_cons_self ..), one_f (P := (true, i) ∈ l) hn2.1] at hone
      grind
theorem bud_sum (B : List Int) : ∀ l : List Nd, l.Nodup → (∀ i, (false, i) ∈ l → i < n) → ((budOf B l : Int) : Rat) = sumQ (fun i => one ((false, i) ∈ l) * budQ B i) n
  | [], _, _ => by rw [sumQ_zero fun g _ => by rw [one_f (by simp)]; grind]; rfl
  | (c, i) :: l, hn, hr => by
    have hn2 := (List.nodup_cons.1 hn)
    have ih := bud_sum B l hn2.2 fun g hg => hr g (List.mem_cons_of_mem _ hg)
    simp only [budOf]
    rw [Rat.intCast_add, ih]
    cases c
    · simp only [Bool.false_eq_true, if_false]
      have hi := hr i (List.mem_cons_self ..)
      have hone := sumQ_one (f := fun g => one ((false, g) ∈ (false, i) :: l) * budQ B g - one ((false, g) ∈ l) * budQ B g) hi (fun g _ hne => by
        rw [one_iff (P := (false, g) ∈ (false, i) :: l) (Q := (false, g) ∈ l) (by simp [hne])]; grind)
      rw [sq_sub, one_t (P := (false, i) ∈ (false, i) :: l) (List.mem_cons_self ..), one_f (P := (false, i) ∈ l) hn2.1] at hone
      have : ((B.getD i 0 : Int) : Rat) = budQ B i := rfl
      grind
    · simp only [if_true]
      have e0 : ((0 : Int) : Rat) = 0 := rfl
      rw [e0, Rat.zero_add]
      refine sumQ_congr fun g _ => ?_
      rw [one_iff (P := (false, g) ∈ l) (Q := (false, g) ∈ (true, i) :: l) (by simp)]
/-- An edge has both its ends in the search, or none. -/
theorem ord_closed (hG : goodsN V = k) (hT : TEnd V e n k first don pq0 p st) (hm : MaskOf n k s e) {i h : Nat} (hi : i < n) (hh : h < k) (hs : s i h ≠ 0) : (false, i) ∈ st.ord ↔ (true, h) ∈ st.ord := by
  constructor
  · intro hx
    obtain ⟨j, hj⟩ := List.getElem?_of_mem hx
    rcases nbr hG hT hm hj (z := h) hh (by exact hs) with ⟨h1, h2⟩ | ⟨i2, _, h2, _⟩
    · obtain ⟨i2, z, _, h4, _⟩ := par_of hT hj h1
      rw [← h2] at h4
      exact List.mem_of_getElem? h4
    · exact List.mem_of_getElem? h2
  · intro hx
    obtain ⟨j, hj⟩ := List.getElem?_of_mem hx
    rcases nbr hG hT hm hj (z := i) hi (by exact hs) with ⟨h1, h2⟩ | ⟨i2, _, h2, _⟩
    · obtain ⟨i2, z, _, h4, _⟩ := par_of hT hj h1
      rw [← h2] at h4
      exact List.mem_of_getElem? h4
    · exact List.mem_of_getElem? h2
/-- What solve knows when it has gone through some goods. -/
structure SolI (B : List Int) (n k : Nat) (p : Nat → Rat) (s : Nat → Nat → Rat) (st : SolS) : Prop where
  cl : ∀ i h, i < n → h < k → s i h ≠ 0 → (st.don (false, i) = true ↔ st.don (true, h) = true)
  pq : ∀ h, h < k → st.don (true, h) = true → st.pq h = p h
  sp1 : ∀ i, i < n → st.don (false, i) = true → ∀ h, h < k → st.sp i h = s i h
  sp0 : ∀ i, i < n → st.don (false, i) = false → ∀ h, h < k → st.sp i h = 0
theorem SolI.zero : SolI B n k p s sol0 where
  cl := fun _ _ _ _ _ => Iff.rfl
  pq := fun _ _ h => by cases h
  sp1 := fun _ _ h => by cases h
  sp0 := fun _ _ _ _ _ => rfl
theorem comp_found (hG : goodsN V = k) (hub : ∀ i g, 0 ≤ useN V i g ∧ useN V i g ≤ 20) (hmk : MkOk n k (budQ B) (useQ V)) (hE : Equi n k (budQ B) (useQ V) p s) (hm : MaskOf n k s e) {ss : SolS} (hI : SolI B n k p s ss) (hn3 : n ≤ 3) (hk3 : k ≤ 3) (hf : first < k) (hd : ss.don (true, first) = false)
    (hF : compF V e n k first ss.don ss.pq = some st) : compB B V e n k first ss.don ss.pq ss.sp = some st ∧ SolI B n k p s ⟨st.don, compPq B st, (compBk B st ss.sp).2⟩ := by
  have hu : ∀ i g, i < n → g < k → e.testBit (i * k + g) = true → 0 < useN V i g := fun i g hi hg hb => by
    have := hE.use hmk.us hi hg ((hm i g hi hg).1 hb)
    unfold useQ at this
    exact_mod_cast this
  have hpr : ∀ i g h, i < n → g < k → h < k → e.testBit (i * k + g) = true → e.testBit (i * k + h) = true → useQ V i h * p g = useQ V i g * p h := fun i g h hi hg hh b1 b2 => by
    have w1 := hE.want i g hi hg ((hm i g hi hg).1 b1) h hh
    have w2 := hE.want i h hi hh ((hm i h hi hh).1 b2) g hg
    grind
  have hp0 : p first ≠ 0 := by have := hE.pos first hf; grind
  have hall : ∀ x, TAll V e n k first (max n k) ss.don ss.pq p st 6 x 0 := TAll.srch hub hG (fun g hg => hE.pos g hg) hu hpr { s := SInv.start ss.don ss.pq (by omega), t := TInv.start hd hp0, old := fun i z hi => by omega, cur := fun y hy => by omega } 6 st hF
  have hA := hall (true, 0)
  have hl6 : st.ord.length ≤ 6 := by
    have := len_le hA.s.inv.nd hA.s.inv.rng
    omega
  have hseen : ∀ (i : Nat) (z : Nd), st.ord[i]? = some z → ∀ y, y < dimN n k z → Seen e n k first st i z y := fun i z hz y hy => by
    have hi := (List.getElem?_eq_some_iff.1 hz).1
    refine hA.old i z (by omega) hz y ?_
    unfold dimN at hy
    split at hy <;> omega
  have hT : TEnd V e n k first ss.don ss.pq p st := ⟨hA.s, hA.t, hseen⟩
  have hnd := hT.s.inv.nd
  have hrg := hT.s.inv.rng
  rw [hG] at hrg
  have hroot := List.mem_of_getElem? hT.s.inv.hd
  have hlp : 0 < st.ord.length := (List.getElem?_eq_some_iff.1 hT.s.inv.hd).1
  obtain ⟨X, hX⟩ : ∃ X, X = sumQ (fun h => one ((true, h) ∈ st.ord) * p h) k := ⟨_, rfl⟩
  have hX0 : 0 < X := by
    rw [hX]
    exact sq_pos (fun h hh => Rat.mul_nonneg (one_nn _) (Rat.le_of_lt (hE.pos h hh))) hf (by rw [one_t hroot]; have := hE.pos first hf; grind)
  have hbud : ((budOf B st.ord : Int) : Rat) = X := by
    rw [bud_sum (n := n) B st.ord hnd (fun i hi => hrg _ hi), hX]
    have e1 : sumQ (fun i => one ((false, i) ∈ st.ord) * budQ B i) n = sumQ (fun i => sumQ (fun h => one ((true, h) ∈ st.ord) * s i h) k) n := by
      refine sumQ_congr fun i hi => ?_
      rw [← hE.row i hi, ← sumQ_mul]
      refine sumQ_congr fun h hh => ?_
      by_cases h0 : s i h = 0
      · rw [h0]; grind
      · rw [one_iff (ord_closed hG hT hm hi hh h0)]
    rw [e1, sq_swap (fun i h => one ((true, h) ∈ st.ord) * s i h)]
    exact sumQ_congr fun h hh => by rw [sumQ_mul, hE.col h hh]
  have htot : totOf st.pq st.ord = X / p first := by
    rw [tot_sum (k := k) st.pq st.ord hnd (fun g hg => hrg _ hg), hX, Rat.div_def, ← sq_mulr]
    refine sumQ_congr fun h hh => ?_
    by_cases hm2 : (true, h) ∈ st.ord
    · rw [hT.t.pq h hm2, Rat.div_def]; grind
    · rw [one_f hm2]; grind
  have hfac : facOf B st = p first := by
    unfold facOf
    rw [hbud, htot]
    have h1 : X / p first ≠ 0 := by have := div_pos' hX0 (hE.pos first hf); grind
    have h2 : p first * (X / p first) = X := by rw [Rat.mul_comm]; exact div_mul' hp0
    generalize X / p first = y at *
    rw [← h2]
    grind
  have hb0 : budOf B st.ord ≠ 0 := by
    intro h0
    rw [h0] at hbud
    have : ((0 : Int) : Rat) = 0 := rfl
    grind
  have hpq : ∀ h, (true, h) ∈ st.ord → compPq B st h = p h := fun h hm2 => by
    unfold compPq scaTo
    rw [List.take_length, if_pos hm2, hT.t.pq h hm2, hfac]
    exact div_mul' hp0
  have hlf : ∀ y ∈ st.ord, lf0 B (compPq B st) y = totN (budQ B) p y := fun y hy => by
    obtain ⟨c, i⟩ := y
    cases c
    · rfl
    · exact hpq i hy
  obtain ⟨k1, k2, k3⟩ := bk_inv hG hT hm hE (sp := ss.sp) hlf (st.ord.length - 1) (by omega)
  have hz : (compBk B st ss.sp).1 (true, first) = 0 := by
    unfold compBk
    rw [k1 _ hroot]
    exact lfI_root hG hT hm
  refine ⟨by rw [compB_fin ss.sp hF hb0, decide_eq_true hz]; rfl, ?_⟩
  have hdn := hT.s.dn
  have hdrop : st.ord.length - (st.ord.length - 1) = 1 := by omega
  rw [hdrop] at k2
  constructor
  · intro i h hi hh h0
    show st.don (false, i) = true ↔ st.don (true, h) = true
    rw [hdn, hdn, hI.cl i h hi hh h0, ord_closed hG hT hm hi hh h0]
  · intro h hh hdh
    show compPq B st h = p h
    by_cases hm2 : (true, h) ∈ st.ord
    · exact hpq h hm2
    · have h1 : ss.don (true, h) = true := by
        rcases (hdn _).1 hdh with h1 | h1
        · exact h1
        · exact absurd h1 hm2
      unfold compPq scaTo
      rw [List.take_length, if_neg hm2, hT.s.pr h hm2]
      exact hI.pq h hh h1
  · intro i hi hdi h hh
    show (compBk B st ss.sp).2 i h = s i h
    by_cases hm2 : (false, i) ∈ st.ord
    · by_cases h0 : s i h = 0
      · rcases k3 i h with h1 | ⟨_, h1⟩
        · unfold compBk
          rw [h1, h0]
          exact hI.sp0 i hi (hT.t.new _ hm2) h hh
        · exact h1
      · obtain ⟨j, hj⟩ := List.getElem?_of_mem hm2
        rcases nbr hG hT hm hj (z := h) hh (by exact h0) with ⟨h1, h2⟩ | ⟨i2, h1, h2, h3⟩
        · have h4 := k2 (false, i) ((mem_drop hnd hj).2 h1)
          rw [← h2] at h4
          exact h4
        · have h4 := k2 (true, h) ((mem_drop hnd h2).2 (by omega))
          have h5 : st.par (true, h) = (false, i) := h3
          rw [h5] at h4
          exact h4
    · rcases k3 i h with h1 | ⟨h1, _⟩
      · unfold compBk
        rw [h1]
        refine hI.sp1 i hi ?_ h hh
        rcases (hdn _).1 hdi with h1 | h1
        · exact h1
        · exact absurd h1 hm2
      · exact absurd h1 hm2
  · intro i hi hdi h hh
    show (compBk B st ss.sp).2 i h = 0
    have hm2 : (false, i) ∉ st.ord := fun hm2 => by
      have h1 := (hdn (false, i)).2 (.inr hm2)
      have hdi' : st.don (false, i) = false := hdi
      rw [hdi'] at h1
      cases h1
    have hdi2 : ss.don (false, i) = false := by
      cases h1 : ss.don (false, i) with
      | false => rfl
      | true =>
        have h2 := (hdn (false, i)).2 (.inl h1)
        have hdi' : st.don (false, i) = false := hdi
        rw [hdi'] at h2
        cases h2
    rcases k3 i h with h1 | ⟨h1, _⟩
    · unfold compBk
      rw [h1]
      exact hI.sp0 i hi hdi2 h hh
    · exact absurd h1 hm2
theorem solve_found (hn : 1 ≤ n ∧ n ≤ 3) (hk : k ≤ 3) (hG : goodsN V = k) (hub : ∀ i g, 0 ≤ useN V i g ∧ useN V i g ≤ 20) (hmk : MkOk n k (budQ B) (useQ V)) (hE : Equi n k (budQ B) (useQ V) p s) (hm : MaskOf n k s e) :
    ∀ (g : Nat) (don : Nd → Bool), g ≤ k → strTo n k e g = some don → ∃ ss, solTo B V e n k g = some ss ∧ ss.don = don ∧ SolI B n k p s ss ∧ ∀ h, h < g → ss.don (true, h) = true
  | 0, don, _, h => by
    injection h with h
    exact ⟨sol0, rfl, h, SolI.zero, fun h hh => by omega⟩
  | g + 1, don, hg, h => by
    simp only [strTo] at h
    cases h1 : strTo n k e g with
    | none => rw [h1] at h; cases h
    | some d1 =>
      rw [h1] at h
      simp only [Option.bind_some] at h
      obtain ⟨ss, s1, s2, s3, s4⟩ := solve_found hn hk hG hub hmk hE hm g d1 (by omega) h1
      have hto : solTo B V e n k (g + 1) = solStep B V e n k g ss := by simp only [solTo, s1, Option.bind_some]
      by_cases hd : d1 (true, g) = true
      · rw [if_pos hd] at h
        injection h with h
        subst h
        refine ⟨ss, ?_, s2, s3, fun x hx => ?_⟩
        · rw [hto]
          unfold solStep
          rw [if_pos (by rw [s2]; exact hd)]
        · rcases Nat.lt_or_ge x g with h3 | h3
          · exact s4 x h3
          · rw [show x = g by omega, s2]; exact hd
      · rw [if_neg hd] at h
        cases h2 : compF (onesV n k) e n k g d1 (fun _ => 0) with
        | none => rw [h2] at h; cases h
        | some st' =>
          rw [h2] at h
          injection h with h
          have hu : ∀ i g, i < n → g < k → e.testBit (i * k + g) = true → useN V i g ≠ 0 := fun i g hi hg hb => by
            have := hE.use hmk.us hi hg ((hm i g hi hg).1 hb)
            unfold useQ at this
            have h3 : 0 < useN V i g := by exact_mod_cast this
            omega
          have hsame : Same (start0 ss.don ss.pq g) (start0 d1 (fun _ => 0) g) := ⟨rfl, rfl, by show upd ss.don _ _ = upd d1 _ _; rw [s2]⟩
          obtain ⟨st, h3, h4⟩ := same_srch hG (goodsN_ones hn.1) hu hsame 6 st' h2
          have hdf : ss.don (true, g) = false := by rw [s2]; simpa using hd
          obtain ⟨h5, h6⟩ := comp_found hG hub hmk hE hm s3 hn.2 hk (by omega) hdf h3
          have hi := compF_inv hub (by omega) h3
          refine ⟨_, ?_, ?_, h6, fun x hx => ?_⟩
          · rw [hto]
            unfold solStep
            rw [if_neg (by rw [hdf]; decide), h5]
            rfl
          · show st.don = don
            rw [h4.don]; exact h
          · show st.don (true, x) = true
            rw [hi.dn]
            rcases Nat.lt_or_ge x g with h7 | h7
            · exact .inl (s4 x h7)
            · exact .inr (by rw [show x = g by omega]; exact List.mem_of_getElem? hi.inv.hd)
end
theorem natBud {B : List Int} (h : ∀ b ∈ B, 1 ≤ b ∧ b ≤ 20) {i : Nat} (hi : i < B.length) : 0 < (B.getD i 0).toNat ∧ (((B.getD i 0).toNat : Nat) : Rat) = budQ B i := by
  have hb := h (B.getD i 0) (by
    rw [List.getD_eq_getElem?_getD, List.getElem?_eq_getElem hi]
    exact List.getElem_mem _)
  refine ⟨by omega, ?_⟩
  unfold budQ
  have : ((B.getD i 0).toNat : Int) = B.getD i 0 := Int.toNat_of_nonneg (by omega)
  rw [← this]
  rfl
theorem Equi.congr {n k : Nat} {b b' : Nat → Rat} {u : Nat → Nat → Rat} {p : Nat → Rat} {s : Nat → Nat → Rat} (h : Equi n k b u p s) (hb : ∀ i, i < n → b i = b' i) : Equi n k b' u p s := { h with row := fun i hi => by rw [h.row i hi, hb i hi] }
theorem equi_any {B : List Int} {V : List (List Int)} (hv : validM B V = true) : ∃ p s, Equi B.length (goodsN V) (budQ B) (useQ V) p s := by
  obtain ⟨hm, _, _⟩ := mkOk_of hv
  obtain ⟨⟨a1, a2, a3, a4⟩, b1, b2, b3⟩ := validM_iff.1 hv
  obtain ⟨p, s, h⟩ := exists_equi (n := B.length) (k := goodsN V) (b := fun i => (B.getD i 0).toNat) (u := useQ V) (by omega) (by omega) (fun i hi => (natBud a3 hi).1) hm.un hm.us hm.ug
  exact ⟨p, s, h.congr fun i hi => (natBud a3 hi).2⟩
/-- The program finds a balance of every valid market. -/
theorem found_any (B : List Int) (V : List (List Int)) : Found B V := by
  intro hv
  obtain ⟨hmk, hrow, hub⟩ := mkOk_of hv
  obtain ⟨⟨a1, a2, a3, a4⟩, b1, b2, b3⟩ := validM_iff.1 hv
  obtain ⟨p, s0, hE0⟩ := equi_any hv
  obtain ⟨s, e, hE, he, hm, hc⟩ := least_sp ⟨a1, a2⟩ b1 _ s0 hE0 (Nat.le_refl _)
  obtain ⟨don, hs⟩ := str_all ⟨a1, a2⟩ b1 he hc
  obtain ⟨ss, s1, s2, s3, s4⟩ := solve_found ⟨a1, a2⟩ b1.2 rfl hub hmk hE hm (goodsN V) don (Nat.le_refl _) hs
  have hbd : ∀ i, i < B.length → ss.don (false, i) = true := fun i hi => by
    have hex : ∃ h, h < goodsN V ∧ s i h ≠ 0 := by
      by_cases hx : ∃ h, h < goodsN V ∧ s i h ≠ 0
      · exact hx
      · exfalso
        have h1 := hE.row i hi
        rw [sumQ_zero fun h hh => by
          by_cases h0 : s i h = 0
          · exact h0
          · exact absurd ⟨h, hh, h0⟩ hx] at h1
        have := hmk.bp i hi
        grind
    obtain ⟨h, hh, h0⟩ := hex
    exact (s3.cl i h hi hh h0).2 (s4 h hh)
  have hall : allDon B.length ss = true := List.all_eq_true.2 fun i hi => hbd i (List.mem_range.1 hi)
  have hpq : ∀ g, g < goodsN V → priQ (solP (goodsN V) ss) g = p g := fun g hg => by
    unfold priQ solP
    rw [List.getD_eq_getElem?_getD, List.getElem?_map, List.getElem?_range hg]
    exact s3.pq g hg (s4 g hg)
  have hsp : ∀ i g, i < B.length → g < goodsN V → spd (solS B.length (goodsN V) ss) i g = s i g := fun i g hi hg => by
    unfold spd rowQ solS
    rw [List.getD_eq_getElem?_getD, List.getD_eq_getElem?_getD, List.getElem?_map, List.getElem?_range hi]
    simp only [Option.map_some, Option.getD_some]
    rw [List.getElem?_map, List.getElem?_range hg]
    exact s3.sp1 i hi (hbd i hi) g hg
  have hbal : balB B V (solP (goodsN V) ss) (solS B.length (goodsN V) ss) = true := by
    refine (bal_equi rfl (by simp [solP]) (fun q hq => ?_) hrow (fun i g => (hub i g).1)).2 ?_
    · obtain ⟨g, hg, rfl⟩ := List.mem_map.1 hq
      rw [s3.pq g (List.mem_range.1 hg) (s4 g (List.mem_range.1 hg))]
      exact hE.pos g (List.mem_range.1 hg)
    · exact {
        pos := fun g hg => by rw [hpq g hg]; exact hE.pos g hg
        nn := fun i g hi hg => by rw [hsp i g hi hg]; exact hE.nn i g hi hg
        row := fun i hi => by rw [← hE.row i hi]; exact sumQ_congr fun g hg => hsp i g hi hg
        col := fun g hg => by rw [hpq g hg, ← hE.col g hg]; exact sumQ_congr fun i hi => hsp i g hi hg
        want := fun i g hi hg h0 h hh => by
          rw [hpq g hg, hpq h hh]
          rw [hsp i g hi hg] at h0
          exact hE.want i g hi hg h0 h hh }
  have hF : ∃ r, solF B V e B.length (goodsN V) = some r := by
    unfold solF
    rw [s1]
    simp only [hall, hbal, Bool.and_self, if_true]
    exact ⟨_, rfl⟩
  obtain ⟨r, hr⟩ := hF
  have hto : ∃ r', balTo B V B.length (goodsN V) (e + 1) = some r' := by
    simp only [balTo]
    cases h1 : balTo B V B.length (goodsN V) e with
    | some r' => exact ⟨r', rfl⟩
    | none => exact ⟨r, hr⟩
  obtain ⟨r', hr'⟩ := hto
  exact ⟨r', balTo_some hr' _ (by omega)⟩

/- Contract: read of package market. -/

/-- A fraction that may be given. -/
def okLow (a b : Int) : Bool := decide (lowN a b = a) && decide (lowD a b = b)
def okF (least : Int) (p : Int × Int) : Bool := decide (least ≤ p.1) && (decide (p.1 ≤ 1048576) && (decide (1 ≤ p.2) && (decide (p.2 ≤ 1048576) && okLow p.1 p.2)))
theorem okLow_iff {a b : Int} (hb : 1 ≤ b) : okLow a b = true ↔ Int.gcd a b = 1 := by
  unfold okLow lowN lowD
  rw [Bool.and_eq_true, decide_eq_true_eq, decide_eq_true_eq]
  constructor
  · rintro ⟨h1, h2⟩
    have := rat_lowest (Rat.divInt a b)
    rwa [h1, h2] at this
  · intro h; exact num_low (by omega) h
theorem okF_iff {least a b : Int} : okF least (a, b) = true ↔ least ≤ a ∧ a ≤ 1048576 ∧ 1 ≤ b ∧ b ≤ 1048576 ∧ Int.gcd a b = 1 := by
  unfold okF
  simp only [Bool.and_eq_true, decide_eq_true_eq]
  constructor
  · rintro ⟨h1, h2, h3, h4, h5⟩; exact ⟨h1, h2, h3, h4, (okLow_iff h3).1 h5⟩
  · rintro ⟨h1, h2, h3, h4, h5⟩; exact ⟨h1, h2, h3, h4, (okLow_iff h3).2 h5⟩
theorem run_ne_pair (a b c d : Int) (w : World) : (binOp .neq 77 (.agg #[.int .i64 a, .int .i64 b]) (.agg #[.int .i64 c, .int .i64 d])).run Try.prog w = .ok (.bool (!(decide (c = a) && decide (d = b)))) w := by
  by_cases h1 : a = c
  · by_cases h2 : b = d
    · simp only [h1, h2]; go_simp
    · have h3 : ¬ d = b := fun h => h2 h.symm
      simp only [h1, decide_eq_false h3]; go_simp
  · have h3 : ¬ c = a := fun h => h1 h.symm
    simp only [decide_eq_false h3]; go_simp
/-- What read returns. -/
def ReadPost (ps : List (Int × Int)) (nn least : Int) (w : World) (e : Ending) (w' : World) : Prop :=
  Below w.heap.size w w' ∧ ((ps.all (okF least) = true ∧ ∃ A' c', e = .returned (.tuple #[.slice A' ps.length c', .bool (decide ((ps.length : Int) = nn))]) ∧ w'.ownsRow w.heap.size 77 2 (.slice A' ps.length c') ps.length (pcells ps)) ∨ (ps.all (okF least) = false ∧ e = .returned (.tuple #[.slice none 0 0, .bool false])))
set_option maxRecDepth 100000 in
set_option maxHeartbeats 4000000 in
theorem mread_any (A : Option Addr) (n cap : Nat) (ps : List (Int × Int)) (nn least : Int) (w : World) (hl : ps.length = n) (hn : n ≤ 1000) (h : Prs w A ps)
    (hr : ∀ p ∈ ps, (-9223372036854775808 ≤ p.1 ∧ p.1 ≤ 9223372036854775807) ∧ -9223372036854775808 ≤ p.2 ∧ p.2 ≤ 9223372036854775807) (hle : 0 ≤ least) :
    Calls Try.prog 52 #[.slice A n cap, .int .i64 nn, .int .i64 least] w (ReadPost ps nn least w) := by
  have hI := fun (hp : 0 < ps.length) => h.some_ hp
  have H := Lib.hid (And.intro hl (And.intro hI hr))
  clear hl h hI hr
  go_enter Try.func52, Try.ntmps52
  go_wp2_with fail
  go_loopw [8, 14] (fun ov iv wr => ∃ (k : Nat) (A2 : Option Addr) (c2 : Nat), k ≤ n ∧ iv = .int .i64 k ∧ ov = .slice A2 k c2 ∧ (ps.take k).all (okF least) = true ∧ wr.ownsRow w.heap.size 77 2 (.slice A2 k c2) k ((pcells ps).take (k * 2)) ∧ Below w.heap.size w wr) (fun _ iv _ => n - (intOf iv).toNat)
  case atStart => exact ⟨0, none, 0, Nat.zero_le _, rfl, rfl, by simp, by simpa using World.ownsRow_nil _ _ _ _, Below.refl _ _⟩
  case round =>
    obtain ⟨k, A2, c2, hk, rfl, rfl, ha, hown, hbl⟩ := hrel
    have HR := Lib.hid (And.intro hown (And.intro hbl ha))
    clear hown hbl ha
    by_cases hlt : k < n
    · obtain ⟨ad, rfl, _, hc⟩ := H.out.2.1 (by rw [H.out.1]; omega)
      obtain ⟨⟨a, b⟩, hp⟩ : ∃ p, ps[k]? = some p := ⟨_, List.getElem?_eq_getElem (by rw [H.out.1]; exact hlt)⟩
      obtain ⟨g1, g2⟩ := hc k _ hp
      obtain ⟨ra, rb⟩ := H.out.2.2 _ (List.mem_of_getElem? hp)
      have c0 := (HR.out.2.1.cell (lt_of_cell g1)).trans g1
      have c1 := (HR.out.2.1.cell (lt_of_cell g2)).trans g2
      simp only at c0 c1 ra rb
      obtain ⟨w2, hw2⟩ : ∃ w2, w2 = (wr.alloc (.cells #[.int .i64 a, .int .i64 b] 37)).alloc (.cells #[.int .i64 a, .int .i64 b] 77) := ⟨_, rfl⟩
      have hbz : Below wr.heap.size wr w2 := by rw [hw2]; exact ((Below.refl _ _).alloc (Nat.le_refl _) _).alloc (by simp) _
      have hB2 : Blk w2 (wr.heap.size + 1) 77 #[.int .i64 a, .int .i64 b] := by rw [hw2]; exact Blk.new _ _ _ (by simp)
      have hown2 := own_below HR.out.1 hbz
      have HX := Lib.hid (And.intro hown2 (And.intro (HR.out.2.1.trans (hbz.mono HR.out.2.1.size)) (And.intro hB2 hp)))
      have hsz : w.heap.size ≤ wr.heap.size := HR.out.2.1.size
      have hz2 := hB2.lt
      have hbad : okF least (a, b) = false → ps.all (okF least) = false := fun h => by
        rw [List.all_eq_false]; exact ⟨_, List.mem_of_getElem? hp, by simp [h]⟩
      have HBAD := Lib.hid hbad
      have HNEW : Hid ((pcells ps).take ((k + 1) * 2) = (pcells ps).take (k * 2) ++ [.int .i64 a, .int .i64 b]) := Lib.hid (by
        rw [← pcells_take, ← pcells_take, take_snoc hp, pcells_snoc])
      clear hc hp g1 g2 hown2 hbz hB2 hbad
      by_cases q1 : a < least
      · have p1 : decide (a < least) = true := decide_eq_true q1
        have HF := Lib.hid (HBAD.out (by simp [okF]; intro; omega))
        go_wp2_with fail
        go_quiet (fail)
        rw [← hw2]
        go_wp2_with fail
        go_ret2
        exact ⟨below_drewN HX.out.2.1 nq, .inr ⟨HF.out, rfl⟩⟩
      · have p1 : decide (a < least) = false := decide_eq_false q1
        by_cases q2 : 1048576 < a
        · have p2 : decide (1048576 < a) = true := decide_eq_true q2
          have HF := Lib.hid (HBAD.out (by simp [okF]; intros; omega))
          go_wp2_with fail
          go_quiet (fail)
          rw [← hw2]
          go_wp2_with fail
          go_ret2
          exact ⟨below_drewN HX.out.2.1 nq, .inr ⟨HF.out, rfl⟩⟩
        · have p2 : decide (1048576 < a) = false := decide_eq_false q2
          by_cases q3 : b < 1
          · have p3 : decide (b < 1) = true := decide_eq_true q3
            have HF := Lib.hid (HBAD.out (by simp [okF]; intros; omega))
            go_wp2_with fail
            go_quiet (fail)
            rw [← hw2]
            go_wp2_with fail
            go_ret2
            exact ⟨below_drewN HX.out.2.1 nq, .inr ⟨HF.out, rfl⟩⟩
          · have p3 : decide (b < 1) = false := decide_eq_false q3
            by_cases q4 : 1048576 < b
            · have p4 : decide (1048576 < b) = true := decide_eq_true q4
              have HF := Lib.hid (HBAD.out (by simp [okF]; intros; omega))
              go_wp2_with fail
              go_quiet (fail)
              rw [← hw2]
              go_wp2_with fail
              go_ret2
              exact ⟨below_drewN HX.out.2.1 nq, .inr ⟨HF.out, rfl⟩⟩
            · have p4 : decide (1048576 < b) = false := decide_eq_false q4
              have hlow : LowOk a b := ⟨by omega, by omega, by omega, by omega⟩
              have hne := run_ne_pair a b (lowN a b) (lowD a b)
              have HLW : Hid (∀ sd : Desc w2, Calls Try.prog 65 #[.agg #[.int .i64 a, .int .i64 b]] sd.val fun e w'' => e = .returned (.agg #[.int .i64 (lowN a b), .int .i64 (lowD a b)]) ∧ ∃ s' : Desc w2, w'' = s'.val) := Lib.hid fun sd => Calls.desc_of (mlowest_low a b _ hlow)
              have hok : okF least (a, b) = (decide (lowN a b = a) && decide (lowD a b = b)) := by
                unfold okF okLow
                rw [decide_eq_true (show least ≤ a by omega), decide_eq_true (show a ≤ 1048576 by omega), decide_eq_true (show 1 ≤ b by omega), decide_eq_true (show b ≤ 1048576 by omega)]
                rfl
              rw [← hok] at hne
              obtain ⟨z, hz⟩ : ∃ z, z = okF least (a, b) := ⟨_, rfl⟩
              rw [← hz] at hne
              have HZ := Lib.hid hz
              clear hlow hok hz
              go_wp2_with fail
              rw [← hw2]
              obtain ⟨x0, x1, _, _⟩ := HX.out.2.2.1.at2
              have e0 : ∀ s : Desc w2, s.val.cell? ⟨wr.heap.size + 1, 0, none⟩ = some (.int .i64 a) := fun s => s.cell x0
              have e1 : ∀ s : Desc w2, s.val.cell? ⟨wr.heap.size + 1, 1, none⟩ = some (.int .i64 b) := fun s => s.cell x1
              clear x0 x1 hw2
              refine wp_region_desc (by kernel_rfl) (by kernel_rfl) ?_
              repeat (go_big_quiet_step (first | (go_at_call 65; exact HLW.out _)))
              refine wpQuiet_nil ?_
              rintro _ ⟨sd, rfl⟩
              have hb3 := sd.below
              generalize sd.val = w4 at hb3 ⊢
              have hown4 := own_below HX.out.1 hb3
              have hbl4 := HX.out.2.1.trans (hb3.mono HX.out.2.1.size)
              have hB4 := HX.out.2.2.1.below hb3 hz2
              obtain ⟨y0, y1, _, _⟩ := hB4.at2
              have H4 := Lib.hid (And.intro hown4 hbl4)
              have hsz4 : w.heap.size ≤ w4.heap.size := hbl4.size
              clear e0 e1 hb3 hown4 hbl4 hB4 hne
              cases z
              · have HF := Lib.hid (HBAD.out HZ.out.symm)
                go_wp2_with fail
                go_ret2
                exact ⟨H4.out.2, .inr ⟨HF.out, rfl⟩⟩
              · have HT : Hid ((ps.take (k + 1)).all (okF least) = true) := Lib.hid (by
                  rw [take_snoc HX.out.2.2.2, List.all_append, HR.out.2.2]; simp [← HZ.out])
                go_wp2_with (at_builtin; refine app1g sty_mfrac rfl _ _ rfl w.heap.size A2 k c2 _ #[.int .i64 a, .int .i64 b] rfl (by simp [Value.oneCell']) rfl H4.out.1 _ rfl (by simp) (by omega) hsz4 ?_)
                intro A5 k5 w5 hown5 _ hbl5 hk51 hk52
                rw [← HNEW.out] at hown5
                have HR5 := Lib.hid (And.intro hown5 (H4.out.2.trans hbl5))
                clear hown5 hbl5
                go_wp2_with fail
                go_roundw
                case rel => exact ⟨k + 1, A5, k5, by omega, by go_num, rfl, HT.out, HR5.out.1, HR5.out.2⟩
                case measure => simp [intOf]; omega
    · obtain rfl : n = k := by omega
      have hall : ps.all (okF least) = true := by have h := HR.out.2.2; rwa [List.take_of_length_le (by rw [H.out.1]; exact Nat.le_refl _)] at h
      have h := HR.out.1
      rw [List.take_of_length_le (by rw [pcells_length, H.out.1]; exact Nat.le_refl _)] at h
      have HE := Lib.hid (And.intro hall h)
      clear hall h
      go_wp2_with fail
      go_ret2
      refine ⟨HR.out.2.1, .inl ⟨HE.out.1, A2, c2, ?_, by rw [H.out.1]; exact HE.out.2⟩⟩
      rw [H.out.1]
      rfl

/- Contract: Want of package market. -/

theorem info_int9 : (Try.prog.info? 3).map (fun i => (i.zero, i.size, i.bytes)) = some (some (.int .i64 0), 1, 8) := by kernel_rfl
theorem sty_ints9 : STy 22 3 (.int .i64 0) 1 8 := ⟨Try.underlying22, info_int9, rfl, by decide, by decide⟩
/-- The fractions that are given. -/
def toQ (ps : List (Int × Int)) : List Rat := ps.map fun p => Rat.divInt p.1 p.2
theorem pr_divInt {least a b : Int} (h : okF least (a, b) = true) : (Rat.divInt a b).num = a ∧ ((Rat.divInt a b).den : Int) = b := by
  obtain ⟨_, _, h3, _, h5⟩ := okF_iff.1 h
  exact num_low (by omega) h5
theorem toQ_pr {least : Int} {ps : List (Int × Int)} (h : ps.all (okF least) = true) : (toQ ps).map pr = ps := by
  unfold toQ
  rw [List.map_map]
  conv => rhs; rw [← List.map_id ps]
  refine List.map_congr_left fun p hp => ?_
  obtain ⟨a, b⟩ := p
  have := pr_divInt (List.all_eq_true.1 h _ hp)
  exact Prod.ext this.1 this.2
theorem toQ_ok {ps : List (Int × Int)} (h : ps.all (okF 1) = true) : ∀ q ∈ toQ ps, PrOk q := by
  intro q hq
  obtain ⟨⟨a, b⟩, hp, rfl⟩ := List.mem_map.1 hq
  have h1 := List.all_eq_true.1 h _ hp
  have := pr_divInt h1
  obtain ⟨a1, a2, a3, a4, _⟩ := okF_iff.1 h1
  unfold PrOk
  rw [this.1, this.2]
  exact ⟨a1, a2, a4⟩
theorem toQ_sp {ps : List (Int × Int)} (h : ps.all (okF 0) = true) : ∀ q ∈ toQ ps, SpB q ∧ 0 ≤ q.num := by
  intro q hq
  obtain ⟨⟨a, b⟩, hp, rfl⟩ := List.mem_map.1 hq
  have h1 := List.all_eq_true.1 h _ hp
  have := pr_divInt h1
  obtain ⟨a1, a2, a3, a4, _⟩ := okF_iff.1 h1
  unfold SpB
  rw [this.1, this.2]
  omega
theorem toQ_length (ps : List (Int × Int)) : (toQ ps).length = ps.length := by simp [toQ]
/-- The sets that buyers want, if the market and the prices are valid. -/
def prsOk (V : List (List Int)) (ps : List (Int × Int)) : Bool := ps.all (okF 1) && decide (ps.length = goodsN V)
def wantF (B : List Int) (V : List (List Int)) (ps : List (Int × Int)) : Option (List Nat) :=
  if validM B V && prsOk V ps then some ((List.range B.length).map fun i => wantS (rowV V i) (toQ ps)) else none
def wantL (V : List (List Int)) (ps : List (Int × Int)) (m : Nat) : List Value := (List.range m).map fun i => Value.int .i64 ((wantS (rowV V i) (toQ ps) : Nat) : Int)
def WantPost (B : List Int) (V : List (List Int)) (ps : List (Int × Int)) (w : World) (x : Ending) (w' : World) : Prop :=
  Below w.heap.size w w' ∧ match wantF B V ps with
    | none => x = .returned (.tuple #[.slice none 0 0, .int .i64 2])
    | some l => ∃ A' c', x = .returned (.tuple #[.slice A' l.length c', .int .i64 0]) ∧ At w' A' (l.map fun (s : Nat) => Value.int .i64 (s : Int))
set_option maxRecDepth 100000 in
set_option maxHeartbeats 1600000 in
theorem mwant_any (A : Option Addr) (n c : Nat) (U : Option Addr) (m d : Nat) (P : Option Addr) (lp cp : Nat) (B : List Int) (V : List (List Int)) (ps : List (Int × Int)) (w : World) (h : MktAt w A n U m B V) (hn : n ≤ 1000) (hm : m ≤ 1000) (hr : ∀ r ∈ V, r.length ≤ 1000)
    (hP : Prs w P ps) (hlp : ps.length = lp) (hlp2 : lp ≤ 1000) (hi : I64s ps) :
    Calls Try.prog 32 #[mktV A n c U m d, .slice P lp cp] w (WantPost B V ps w) := by
  subst hlp
  have hb1 : Below w.heap.size w (w.alloc (.cells #[.slice A n c, .slice U m d] 30)) := (Below.refl _ _).alloc (Nat.le_refl _) _
  have hM1 : Blk (w.alloc (.cells #[.slice A n c, .slice U m d] 30)) w.heap.size 30 #[.slice A n c, .slice U m d] := Blk.new _ _ _ rfl
  have HV := Lib.hid (mvalid_any A n c U m d B V _ (h.below hb1) hn hm hr)
  have H := Lib.hid (And.intro h (And.intro hP (And.intro hb1 (And.intro hM1 hi))))
  clear h hP hb1 hM1 hi
  unfold mktV
  go_enter Try.func32, Try.ntmps32
  go_wp2_with fail
  refine HV.out.mono ?_
  rintro e w2 ⟨rfl, hb2⟩
  have hM2 := H.out.2.2.2.1.below hb2 (by simp)
  have hbw := H.out.2.2.1.trans (hb2.mono H.out.2.2.1.size)
  obtain ⟨m1, m2, _, _⟩ := hM2.at2
  have H2 := Lib.hid (And.intro hM2 hbw)
  clear hM2 hbw hb2 HV
  cases hv : validM B V with
  | false =>
    have HP : Hid (wantF B V ps = none) := Lib.hid (by unfold wantF; rw [hv]; rfl)
    clear hv
    go_wp2_with fail
    go_ret2
    exact ⟨H2.out.2, by rw [HP.out]; rfl⟩
  | true =>
    obtain ⟨rfl, hmk⟩ := mkIn_of H.out.1 hv
    have HG : Hid (Calls Try.prog 53 #[.agg #[.slice A m c, .slice U m d]] w2 fun e w'' => e = .returned (.int .i64 (goodsN V : Nat)) ∧ Below w2.heap.size w2 w'') := Lib.hid (mgoods_any A m c U m d B V w2 (H.out.1.below H2.out.2) hmk.hn.1)
    have hBm := H.out.1.hB
    have HMK := Lib.hid (And.intro hmk hv)
    have hm3 := hmk.hn
    have hk3 := hmk.hk
    clear hv hmk
    go_wp2_with fail
    refine HG.out.mono ?_
    rintro e w3 ⟨rfl, hb3⟩
    have hbw3 := H2.out.2.trans (hb3.mono H2.out.2.size)
    have HRD : Hid (Calls Try.prog 52 #[.slice P ps.length cp, .int .i64 (goodsN V : Nat), .int .i64 1] w3 (ReadPost ps (goodsN V : Nat) 1 w3)) := Lib.hid (mread_any P ps.length cp ps (goodsN V : Nat) 1 w3 rfl hlp2 (H.out.2.1.below hbw3) H.out.2.2.2.2 (by decide))
    have H3 := Lib.hid (And.intro (H2.out.1.below hb3 (by have := H2.out.1.lt; omega)) hbw3)
    clear hb3 hbw3 m1 m2 HG
    go_wp2_with fail
    refine HRD.out.mono ?_
    intro ev w4 hpost
    obtain ⟨hb4, hcase⟩ := hpost
    have hbw4 := H3.out.2.trans (hb4.mono H3.out.2.size)
    have hM4 := H3.out.1.below hb4 H3.out.1.lt
    have H4 := Lib.hid (And.intro hM4 hbw4)
    obtain ⟨m1, m2, _, _⟩ := hM4.at2
    have hs3 := H3.out.2.size
    have hs4 := hb4.size
    clear hb4 hbw4 hM4 HRD
    rcases hcase with ⟨hall, A', c', rfl, hown⟩ | ⟨hall, rfl⟩
    · by_cases hlen : ps.length = goodsN V
      · have HOK : Hid (wantF B V ps = some ((List.range B.length).map fun i => wantS (rowV V i) (toQ ps))) := Lib.hid (by
          unfold wantF prsOk
          rw [HMK.out.2, hall, decide_eq_true hlen]; rfl)
        have hfr : Fracs w4 A' (toQ ps) := by
          unfold Go.Proofs.Ytnljnjnmhbkdoaa.Fracs
          rw [toQ_pr hall]
          exact At.of_own hown
        have HF := Lib.hid (And.intro hfr (toQ_ok hall))
        have hdt : decide ((ps.length : Int) = (goodsN V : Nat)) = true := decide_eq_true (by omega)
        rw [hdt]
        have HLEN := Lib.hid hlen
        clear hall hown hfr hdt hlen
        go_wp2_with fail
        go_loopw [8, 25] (fun ov iv wx => ∃ (i : Nat) (A2 : Option Addr) (c2 : Nat), i ≤ m ∧ iv = .int .i64 i ∧ ov = .slice A2 i c2 ∧ wx.ownsRow w4.heap.size 3 1 (.slice A2 i c2) i ((wantL V ps m).take i) ∧ Below w4.heap.size w4 wx) (fun _ iv _ => m - (intOf iv).toNat)
        case atStart => exact ⟨0, none, 0, Nat.zero_le _, rfl, rfl, by simpa using World.ownsRow_nil _ _ _ _, Below.refl _ _⟩
        case round =>
          obtain ⟨i, A2, c2, hi, rfl, rfl, hown, hbl⟩ := hrel
          have HR := Lib.hid (And.intro hown hbl)
          clear hown hbl
          by_cases him : i < m
          · have hbw5 := H4.out.2.trans (HR.out.2.mono H4.out.2.size)
            obtain ⟨q1, q2, _, _⟩ := (H4.out.1.below HR.out.2 H4.out.1.lt).at2
            have HWT : Hid (Calls Try.prog 54 #[.agg #[.slice A m c, .slice U m d], .int .i64 i, .slice A' ps.length c'] wr fun e w' => e = .returned (.int .i64 (wantS (rowV V i) (toQ ps) : Nat)) ∧ Below wr.heap.size wr w') := Lib.hid (mwants_any A m c U m d i A' ps.length c' B V (toQ ps) wr (H.out.1.below hbw5) hm him (by rw [toQ_length]) (by rw [HLEN.out]; omega) (by rw [HLEN.out]; exact HMK.out.1.rows _ (List.mem_of_getElem? (rowV_some (by rw [H.out.1.hV]; exact him)))) HF.out.2 (HF.out.1.below HR.out.2))
            have HNX : Hid ((wantL V ps m).take (i + 1) = (wantL V ps m).take i ++ [Value.int .i64 ((wantS (rowV V i) (toQ ps) : Nat) : Int)]) := Lib.hid (by
              unfold wantL
              rw [List.take_add_one, List.getElem?_map, List.getElem?_range him]; rfl)
            obtain ⟨s, hs⟩ : ∃ s, s = wantS (rowV V i) (toQ ps) := ⟨_, rfl⟩
            rw [← hs] at HNX HWT
            clear m1 m2 hbw5 hs
            go_wp2_with fail
            refine HWT.out.mono ?_
            rintro e w6 ⟨rfl, hb6⟩
            have H6 := Lib.hid (And.intro (own_below HR.out.1 hb6) (HR.out.2.trans (hb6.mono HR.out.2.size)))
            have hsz : w4.heap.size ≤ w6.heap.size := H6.out.2.size
            clear hb6 HWT q1 q2
            go_wp2_with (at_builtin; refine app1g sty_ints9 rfl _ _ rfl w4.heap.size A2 i c2 _ #[.int .i64 (s : Int)] rfl (by simp [Value.oneCell']) rfl H6.out.1 _ rfl (by simp) (by omega) hsz ?_)
            intro A5 k5 w7 hown7 _ hbl7 hk71 hk72
            rw [← HNX.out] at hown7
            have H7 := Lib.hid (And.intro hown7 (H6.out.2.trans hbl7))
            clear hown7 hbl7
            go_wp2_with fail
            go_roundw
            case rel => exact ⟨i + 1, A5, k5, by omega, by go_num, rfl, H7.out.1, H7.out.2⟩
            case measure => simp [intOf]; omega
          · obtain rfl : m = i := by omega
            go_wp2_with fail
            go_ret2
            refine ⟨H4.out.2.trans (HR.out.2.mono H4.out.2.size), ?_⟩
            rw [HOK.out]
            refine ⟨A2, c2, by rw [List.length_map, List.length_range, hBm]; rfl, ?_⟩
            have := HR.out.1
            rw [List.take_of_length_le (by simp [wantL])] at this
            rw [hBm, List.map_map]
            exact At.of_own this
      · have HNO : Hid (wantF B V ps = none) := Lib.hid (by
          unfold wantF prsOk
          rw [decide_eq_false hlen, Bool.and_false, Bool.and_false]; rfl)
        have hdt : decide ((ps.length : Int) = (goodsN V : Nat)) = false := decide_eq_false (by omega)
        rw [hdt]
        clear hall hown hdt hlen
        go_wp2_with fail
        go_ret2
        exact ⟨H4.out.2, by rw [HNO.out]; rfl⟩
    · have HNO : Hid (wantF B V ps = none) := Lib.hid (by
        unfold wantF prsOk
        rw [hall, Bool.false_and, Bool.and_false]; rfl)
      clear hall
      go_wp2_with fail
      go_ret2
      exact ⟨H4.out.2, by rw [HNO.out]; rfl⟩

/- Contract: Check of package market. -/

/-- Rows of spendings as they may be given. -/
def rowSp (V : List (List Int)) (r : List (Int × Int)) : Bool := r.all (okF 0) && decide (r.length = goodsN V)
def chkB (B : List Int) (V : List (List Int)) (ps : List (Int × Int)) (L : List (List (Int × Int))) : Bool :=
  prsOk V ps && (decide (L.length = B.length) && (L.all (rowSp V) && balB B V (toQ ps) (L.map toQ)))
def CheckPost (B : List Int) (V : List (List Int)) (ps : List (Int × Int)) (L : List (List (Int × Int))) (w : World) (x : Ending) (w' : World) : Prop :=
  Below w.heap.size w w' ∧ x = .returned (.tuple (if validM B V then #[.bool (chkB B V ps L), .int .i64 0] else #[.bool false, .int .i64 2]))
theorem CheckPost.no {B : List Int} {V : List (List Int)} {ps : List (Int × Int)} {L : List (List (Int × Int))} {w w' : World} (hb : Below w.heap.size w w') (hv : validM B V = true) (hc : chkB B V ps L = false) : CheckPost B V ps L w (.returned (.tuple #[.bool false, .int .i64 0])) w' :=
  ⟨hb, by rw [if_pos hv, hc]⟩
theorem map_take_all {L : List (List (Int × Int))} {V : List (List Int)} {i : Nat} {x : List (Int × Int)} (hx : L[i]? = some x) (h : (L.take i).all (rowSp V) = true) (hr : rowSp V x = true) : (L.take (i + 1)).all (rowSp V) = true := all_take_s hx h hr
set_option maxRecDepth 100000 in
set_option maxHeartbeats 1600000 in
theorem mcheck_any (A : Option Addr) (n c : Nat) (U : Option Addr) (m d : Nat) (P : Option Addr) (lp cp : Nat) (Sp : Option Addr) (ls cs : Nat) (B : List Int) (V : List (List Int)) (ps : List (Int × Int)) (L : List (List (Int × Int))) (w : World) (h : MktAt w A n U m B V) (hn : n ≤ 1000) (hm : m ≤ 1000) (hr : ∀ r ∈ V, r.length ≤ 1000)
    (hP : Prs w P ps) (hlp : ps.length = lp) (hlp2 : lp ≤ 1000) (hi : I64s ps) (hS : PMat w Sp L) (hls : L.length = ls) (hls2 : ls ≤ 1000) (hsi : ∀ r ∈ L, I64s r) (hsl : ∀ r ∈ L, r.length ≤ 1000) :
    Calls Try.prog 36 #[mktV A n c U m d, .slice P lp cp, .slice Sp ls cs] w (CheckPost B V ps L w) := by
  subst hlp
  subst hls
  have hb1 : Below w.heap.size w (w.alloc (.cells #[.slice A n c, .slice U m d] 30)) := (Below.refl _ _).alloc (Nat.le_refl _) _
  have hM1 : Blk (w.alloc (.cells #[.slice A n c, .slice U m d] 30)) w.heap.size 30 #[.slice A n c, .slice U m d] := Blk.new _ _ _ rfl
  have HV := Lib.hid (mvalid_any A n c U m d B V _ (h.below hb1) hn hm hr)
  have H := Lib.hid (And.intro h (And.intro hP (And.intro hb1 (And.intro hM1 (And.intro hi (And.intro hS (And.intro hsi hsl)))))))
  clear h hP hb1 hM1 hi hS hsi hsl
  unfold mktV
  go_enter Try.func36, Try.ntmps36
  go_wp2_with fail
  refine HV.out.mono ?_
  rintro e w2 ⟨rfl, hb2⟩
  have hM2 := H.out.2.2.2.1.below hb2 (by simp)
  have hbw := H.out.2.2.1.trans (hb2.mono H.out.2.2.1.size)
  obtain ⟨m1, m2, _, _⟩ := hM2.at2
  have H2 := Lib.hid (And.intro hM2 hbw)
  clear hM2 hbw hb2 HV
  cases hv : validM B V with
  | false =>
    have HP := Lib.hid hv
    clear hv
    go_wp2_with fail
    go_ret2
    exact ⟨H2.out.2, by rw [HP.out]; rfl⟩
  | true =>
    obtain ⟨rfl, hmk⟩ := mkIn_of H.out.1 hv
    have HG : Hid (∀ w', Below w.heap.size w w' → Calls Try.prog 53 #[.agg #[.slice A m c, .slice U m d]] w' fun e w'' => e = .returned (.int .i64 (goodsN V : Nat)) ∧ Below w'.heap.size w' w'') := Lib.hid fun w' hb => mgoods_any A m c U m d B V w' (H.out.1.below hb) hmk.hn.1
    have hBm := H.out.1.hB
    have HMK := Lib.hid (And.intro hmk hv)
    have hm3 := hmk.hn
    have hk3 := hmk.hk
    clear hv hmk
    go_wp2_with fail
    refine (HG.out _ H2.out.2).mono ?_
    rintro e w3 ⟨rfl, hb3⟩
    have hbw3 := H2.out.2.trans (hb3.mono H2.out.2.size)
    have HRD : Hid (Calls Try.prog 52 #[.slice P ps.length cp, .int .i64 (goodsN V : Nat), .int .i64 1] w3 (ReadPost ps (goodsN V : Nat) 1 w3)) := Lib.hid (mread_any P ps.length cp ps (goodsN V : Nat) 1 w3 rfl hlp2 (H.out.2.1.below hbw3) H.out.2.2.2.2.1 (by decide))
    have H3 := Lib.hid (And.intro (H2.out.1.below hb3 (by have := H2.out.1.lt; omega)) hbw3)
    clear hb3 hbw3 m1 m2
    go_wp2_with fail
    refine HRD.out.mono ?_
    intro ev w4 hpost
    obtain ⟨hb4, hcase⟩ := hpost
    have hbw4 := H3.out.2.trans (hb4.mono H3.out.2.size)
    have hM4 := H3.out.1.below hb4 H3.out.1.lt
    have H4 := Lib.hid (And.intro hM4 hbw4)
    obtain ⟨m1, m2, _, _⟩ := hM4.at2
    have hs3 := H3.out.2.size
    have hs4 := hb4.size
    clear hb4 hbw4 hM4 HRD
    rcases hcase with ⟨hall, A', c', rfl, hown⟩ | ⟨hall, rfl⟩
    · by_cases hlen : ps.length = goodsN V
      · by_cases hln : L.length = m
        · have hfr : Fracs w4 A' (toQ ps) := by
            unfold Go.Proofs.Ytnljnjnmhbkdoaa.Fracs
            rw [toQ_pr hall]
            exact At.of_own hown
          have HOK : Hid (prsOk V ps = true) := Lib.hid (by
            unfold prsOk
            rw [hall, decide_eq_true hlen]; rfl)
          have HF := Lib.hid (And.intro hfr (toQ_ok hall))
          have hdt : decide ((ps.length : Int) = (goodsN V : Nat)) = true := decide_eq_true (by omega)
          rw [hdt]
          have HLEN := Lib.hid (And.intro hlen hln)
          clear hall hown hfr hdt hlen
          obtain ⟨ll, hll⟩ : ∃ ll, ll = L.length := ⟨_, rfl⟩
          rw [← hll] at hln hls2 ⊢
          have HLL := Lib.hid hll
          subst hln
          clear hll
          go_wp2_with fail
          go_loopw [39] (fun iv wx => ∃ (i : Nat) (A2 : Option Addr) (c2 : Nat) (vs : List Value), i ≤ ll ∧ iv = .int .i64 i ∧ Blk wx w4.heap.size 66 #[.slice A' ps.length c', .slice A2 i c2] ∧ wx.ownsRow (w4.heap.size + 1) 63 1 (.slice A2 i c2) i vs ∧ FRows 77 wx 0 vs (L.take i) ∧ (L.take i).all (rowSp V) = true ∧ Below w4.heap.size w4 wx) (fun iv _ => ll - (intOf iv).toNat)
          case atStart => exact ⟨0, none, 0, [], Nat.zero_le _, rfl, Blk.new _ _ _ rfl, World.ownsRow_nil _ _ _ _, by simpa using FRows.nil, by simp, (Below.refl _ _).alloc (Nat.le_refl _) _⟩
          case round =>
            obtain ⟨i, A2, c2, vs, hi, rfl, hbb, hown, hrows, hall, hbl⟩ := hrel
            obtain ⟨wo, rfl⟩ : ∃ wo : World, wo = wr := ⟨_, rfl⟩
            have HR := Lib.hid (And.intro hbb (And.intro hown (And.intro hrows (And.intro hall hbl))))
            have hbo := H4.out.2.trans (hbl.mono H4.out.2.size)
            have hwl := hbb.lt
            have hmo := H4.out.1.below hbl H4.out.1.lt
            have HMO := Lib.hid (And.intro hmo hbo)
            clear hbb hown hrows hall hbl
            by_cases him : i < ll
            · -- {{
              obtain ⟨x, hx⟩ : ∃ x, L[i]? = some x := ⟨_, List.getElem?_eq_getElem (by rw [← HLL.out]; exact him)⟩
              obtain ⟨aS, rfl, _, hcS⟩ := H.out.2.2.2.2.2.1.some_ (by rw [← HLL.out]; omega)
              obtain ⟨A3, c3, hc, hF⟩ := hcS i x hx
              have c1 := (HMO.out.2.cell (lt_of_cell hc)).trans hc
              have hxm := List.mem_of_getElem? hx
              obtain ⟨q1, q2, _, _⟩ := hmo.at2
              have HX := Lib.hid (And.intro hx (And.intro hxm hF))
              clear hx hxm hc hcS hF m1 m2 hmo hbo
              go_wp2_with fail
              refine (HG.out _ HMO.out.2).mono ?_
              rintro e w6 ⟨rfl, hb6⟩
              have hb06 := HMO.out.2.trans (hb6.mono HMO.out.2.size)
              have HRD : Hid (Calls Try.prog 52 #[.slice A3 x.length c3, .int .i64 (goodsN V : Nat), .int .i64 0] w6 (ReadPost x (goodsN V : Nat) 0 w6)) := Lib.hid (mread_any A3 x.length c3 x (goodsN V : Nat) 0 w6 rfl (H.out.2.2.2.2.2.2.2 x HX.out.2.1) (HX.out.2.2.below hb06) (H.out.2.2.2.2.2.2.1 x HX.out.2.1) (by decide))
              have H6 := Lib.hid hb6
              clear hb6 hb06 c1 q1 q2
              go_wp2_with fail
              refine HRD.out.mono ?_
              intro ev w7 hpost
              obtain ⟨hb7, hcase⟩ := hpost
              have hb07 := H6.out.trans (hb7.mono H6.out.size)
              have hB7 := HR.out.1.below hb07 hwl
              have h7s := hb07.size
              have H7 := Lib.hid (And.intro hb07 hB7)
              have hs6 := H6.out.size
              clear hb7 hb07 HRD
              rcases hcase with ⟨hall7, A4, c4, rfl, hown4⟩ | ⟨hall7, rfl⟩
              · by_cases hxl : x.length = goodsN V
                · have HRS : Hid ((L.take (i + 1)).all (rowSp V) = true) := Lib.hid (map_take_all HX.out.1 HR.out.2.2.2.1 (by unfold rowSp; rw [hall7, decide_eq_true hxl]; rfl))
                  have hdt : decide ((x.length : Int) = (goodsN V : Nat)) = true := decide_eq_true (by omega)
                  have hrow4 : FRow1 77 w7 0 (.slice A4 x.length c4) x := FRow1.of_own hown4 rfl _
                  have hrows7 := (HR.out.2.2.1.below H7.out.1).append (FRows.one_ hrow4)
                  rw [← take_snoc HX.out.1] at hrows7
                  have H8 := Lib.hid (And.intro (own_below HR.out.2.1 H7.out.1) hrows7)
                  obtain ⟨y0, y1, _, _⟩ := hB7.at2
                  rw [hdt]
                  clear hown4 hrow4 hrows7 hall7 hdt hxl hB7
                  have hsz : w4.heap.size + 1 ≤ w7.heap.size := by have := H7.out.2.lt; omega
                  go_wp2_with (at_builtin; refine app1g sty_mfracss rfl _ _ rfl (w4.heap.size + 1) A2 i c2 _ #[.slice A4 x.length c4] rfl (by simp [Value.oneCell']) rfl H8.out.1 _ rfl (by simp) (by omega) hsz ?_)
                  intro A5 k5 w9 hown9 hg9 hbl9 hk91 hk92
                  have hrows9 := H8.out.2.grown mfr_ne H8.out.1 (Nat.zero_le _) hg9
                  have hB9 := H7.out.2.below (B := w4.heap.size + 1) hbl9 (by omega)
                  obtain ⟨z0, z1, z2, z3⟩ := hB9.at2
                  have H9 := Lib.hid (And.intro hown9 (And.intro hrows9 (And.intro hB9 hbl9)))
                  clear hown9 hg9 hrows9 hB9 hbl9 y0 y1
                  go_wp2_with fail
                  go_roundw
                  case rel =>
                    obtain ⟨hown9, hrows9, hB9, hbl9⟩ := H9.out
                    refine ⟨i + 1, A5, k5, _, by omega, by go_num, hB9.set_ 1 _, own_far hown9 (fun ad he => ?_) _, hrows9.far mfr_neb hB9 rfl _, HRS.out, ?_⟩
                    · obtain ⟨g, e1, e2, _⟩ := own_someN hown9 (by omega)
                      rw [he] at e1
                      injection e1 with e1
                      rw [e1]
                      simp
                      omega
                    · have h1 := HR.out.2.2.2.2.trans (H7.out.1.mono HR.out.2.2.2.2.size)
                      exact (h1.trans (hbl9.mono (by omega))).setCell (by simp) _
                  case measure => simp [intOf]; omega
                · have HNO : Hid (chkB B V ps L = false) := Lib.hid (by
                    unfold chkB
                    rw [all_bad HX.out.1 (p := rowSp V) (by unfold rowSp; rw [decide_eq_false hxl, Bool.and_false]), Bool.false_and, Bool.and_false, Bool.and_false])
                  have hdt : decide ((x.length : Int) = (goodsN V : Nat)) = false := decide_eq_false (by omega)
                  rw [hdt]
                  clear hown4 hall7 hdt hxl hB7
                  go_wp2_with fail
                  go_ret2
                  exact CheckPost.no (HMO.out.2.trans (H7.out.1.mono HMO.out.2.size)) HMK.out.2 HNO.out
              · have HNO : Hid (chkB B V ps L = false) := Lib.hid (by
                  unfold chkB
                  rw [all_bad HX.out.1 (p := rowSp V) (by unfold rowSp; rw [hall7, Bool.false_and]), Bool.false_and, Bool.and_false, Bool.and_false])
                clear hall7 hB7
                go_wp2_with fail
                go_ret2
                exact CheckPost.no (HMO.out.2.trans (H7.out.1.mono HMO.out.2.size)) HMK.out.2 HNO.out
              -- }}
            · obtain rfl : ll = i := by omega
              have hAll := HR.out.2.2.2.1
              have hRw := HR.out.2.2.1
              rw [List.take_of_length_le (by rw [← HLL.out]; exact Nat.le_refl _)] at hAll hRw
              have hchk : chkB B V ps L = balB B V (toQ ps) (L.map toQ) := by
                unfold chkB
                rw [HOK.out, hAll, decide_eq_true (by rw [← HLL.out]; exact hBm.symm)]
                rfl
              have hrow : ∀ r ∈ L, r.all (okF 0) = true ∧ r.length = goodsN V := fun r hr => by
                have := List.all_eq_true.1 hAll r hr
                unfold rowSp at this
                rw [Bool.and_eq_true, decide_eq_true_eq] at this
                exact this
              have hLQ : (L.map toQ).map (fun r => r.map pr) = L := by
                rw [List.map_map]
                conv => rhs; rw [← List.map_id L]
                exact List.map_congr_left fun r hr => toQ_pr (hrow r hr).1
              have hbi : BalIn wo A ll U A' ps.length A2 B V (toQ ps) (L.map toQ) := {
                mkt := H.out.1.below HMO.out.2
                hn := hm3
                hk := by rw [HLEN.out.1]; omega
                hg := HLEN.out.1.symm
                rows := by rw [HLEN.out.1]; exact HMK.out.1.rows
                buds := HMK.out.1.buds
                hp := toQ_length ps
                pok := HF.out.2
                hP := HF.out.1.below HR.out.2.2.2.2
                hS := by rw [List.length_map]; exact HLL.out.symm
                srow := by
                  intro r hr
                  obtain ⟨x, hx, rfl⟩ := List.mem_map.1 hr
                  rw [toQ_length, HLEN.out.1]; exact (hrow x hx).2
                sok := by
                  intro r hr q hq
                  obtain ⟨x, hx, rfl⟩ := List.mem_map.1 hr
                  exact (toQ_sp (hrow x hx).1 q hq).1
                hSp := by
                  have := PMat.of_rows hRw HR.out.2.1
                  rw [← hLQ] at this
                  exact this.fmat }
              have HBA : Hid (Calls Try.prog 56 #[.agg #[.slice A ll c, .slice U ll d], .agg #[.slice A' ps.length c', .slice A2 ll c2]] wo fun e w'' => e = .returned (.bool (balB B V (toQ ps) (L.map toQ))) ∧ Below wo.heap.size wo w'') := Lib.hid (mbalanced_any A ll c U d A' ps.length c' A2 c2 B V (toQ ps) (L.map toQ) wo hbi)
              rw [← hchk] at HBA
              obtain ⟨q1, q2, _, _⟩ := hmo.at2
              obtain ⟨z0, z1, _, _⟩ := HR.out.1.at2
              clear hAll hRw hchk hrow hLQ hbi m1 m2 hmo hbo
              go_wp2_with fail
              refine HBA.out.mono ?_
              rintro e w9 ⟨rfl, hb9⟩
              have HB9 := Lib.hid (HMO.out.2.trans (hb9.mono HMO.out.2.size))
              clear hb9
              go_wp2_with fail
              go_ret2
              exact ⟨HB9.out, by rw [if_pos HMK.out.2]; rfl⟩
        · have HNO : Hid (chkB B V ps L = false) := Lib.hid (by
            unfold chkB
            rw [decide_eq_false (by rw [hBm]; exact hln), Bool.false_and, Bool.and_false])
          have hdt : decide ((ps.length : Int) = (goodsN V : Nat)) = true := decide_eq_true (by omega)
          rw [hdt]
          have hnl : ¬ ((L.length : Int) = (m : Int)) := by omega
          clear hall hown hdt hlen hln
          go_wp2_with fail
          go_ret2
          exact CheckPost.no H4.out.2 HMK.out.2 HNO.out
      · have HNO : Hid (chkB B V ps L = false) := Lib.hid (by
          unfold chkB prsOk
          rw [decide_eq_false hlen, Bool.and_false, Bool.false_and])
        have hdt : decide ((ps.length : Int) = (goodsN V : Nat)) = false := decide_eq_false (by omega)
        rw [hdt]
        clear hall hown hdt hlen
        go_wp2_with fail
        go_ret2
        exact CheckPost.no H4.out.2 HMK.out.2 HNO.out
    · have HNO : Hid (chkB B V ps L = false) := Lib.hid (by
        unfold chkB prsOk
        rw [hall, Bool.false_and, Bool.false_and])
      clear hall
      go_wp2_with fail
      go_ret2
      exact CheckPost.no H4.out.2 HMK.out.2 HNO.out

/- Contract: Spend of package market. -/

def SpendPost (B : List Int) (V : List (List Int)) (w : World) (x : Ending) (w' : World) : Prop :=
  Below w.heap.size w w' ∧ match prF B V with
    | none => x = .returned (.tuple #[.slice none 0 0, .int .i64 2])
    | some r => ∃ A' c', x = .returned (.tuple #[.slice A' r.2.length c', .int .i64 0]) ∧ FMat w' A' r.2
theorem map_take_next {α β : Type} {l : List α} {f : α → β} {k : Nat} {x : α} (h : l[k]? = some x) : (l.map f).take (k + 1) = (l.map f).take k ++ [f x] := by
  rw [List.take_add_one, List.getElem?_map, h]; rfl
set_option maxRecDepth 100000 in
set_option maxHeartbeats 1600000 in
theorem mspend_any (A : Option Addr) (n c : Nat) (U : Option Addr) (m d : Nat) (B : List Int) (V : List (List Int)) (w : World) (h : MktAt w A n U m B V) (hn : n ≤ 1000) (hm : m ≤ 1000) (hr : ∀ r ∈ V, r.length ≤ 1000) (hex : Found B V) :
    Calls Try.prog 23 #[mktV A n c U m d] w (SpendPost B V w) := by
  have hb1 : Below w.heap.size w (w.alloc (.cells #[.slice A n c, .slice U m d] 30)) := (Below.refl _ _).alloc (Nat.le_refl _) _
  have hM1 : Blk (w.alloc (.cells #[.slice A n c, .slice U m d] 30)) w.heap.size 30 #[.slice A n c, .slice U m d] := Blk.new _ _ _ rfl
  have HV := Lib.hid (mvalid_any A n c U m d B V _ (h.below hb1) hn hm hr)
  have H := Lib.hid (And.intro h (And.intro hex (And.intro hb1 hM1)))
  clear h hex hb1 hM1
  unfold mktV
  go_enter Try.func23, Try.ntmps23
  go_wp2_with fail
  refine HV.out.mono ?_
  rintro e w2 ⟨rfl, hb2⟩
  have hM2 := H.out.2.2.2.below hb2 (by simp)
  have hbw := H.out.2.2.1.trans (hb2.mono H.out.2.2.1.size)
  obtain ⟨m1, m2, _, _⟩ := hM2.at2
  have H2 := Lib.hid (And.intro hM2 hbw)
  clear hM2 hbw hb2 HV
  cases hv : validM B V with
  | false =>
    have HP : Hid (prF B V = none) := Lib.hid (by unfold prF; rw [if_neg (by rw [hv]; decide)])
    clear hv
    go_wp2_with fail
    go_ret2
    exact ⟨H2.out.2, by rw [HP.out]; rfl⟩
  | true =>
    obtain ⟨rfl, hmk⟩ := mkIn_of H.out.1 hv
    obtain ⟨r, hbf⟩ := H.out.2.1 hv
    have HP : Hid (prF B V = some r) := Lib.hid (by unfold prF; rw [if_pos hv]; exact hbf)
    have hok := (prF_ok HP.out).2
    have HB : Hid (Calls Try.prog 40 #[mktV A m c U m d] w2 (BalPost B V m (goodsN V) w2)) := Lib.hid (mbalance_any A m c U d (goodsN V) B V w2 (hmk.below H2.out.2))
    have hBm := H.out.1.hB
    rw [hBm] at hbf
    have hm3 := hmk.hn
    have hk3 := hmk.hk
    have hls := hok.ls
    rw [hBm] at hls
    have HBF := Lib.hid (And.intro hbf (And.intro hok hls))
    clear hv hbf hok hmk hls
    go_wp2_with fail
    refine HB.out.mono ?_
    intro ev w5 hpost
    unfold BalPost at hpost
    rw [HBF.out.1] at hpost
    obtain ⟨hb5, PB, SB, rfl, hm5⟩ := hpost
    have hfd := field_b1 (.slice (some ⟨PB, 0, none⟩) (goodsN V) (goodsN V)) (.slice (some ⟨SB, 0, none⟩) m m)
    have H5 := Lib.hid (And.intro hb5 hm5)
    have hs5 := hb5.size
    clear hb5 hm5 m1 m2 HB
    unfold balV
    go_wp2_with fail
    go_loopw [4, 14] (fun ov iv wx => ∃ (i : Nat) (A2 : Option Addr) (c2 : Nat) (vs : List Value), i ≤ m ∧ iv = .int .i64 i ∧ ov = .slice A2 i c2 ∧ wx.ownsRow w5.heap.size 26 1 (.slice A2 i c2) i vs ∧ FRows 37 wx w5.heap.size vs ((r.2.map fun x => x.map pr).take i) ∧ Below w5.heap.size w5 wx) (fun _ iv _ => m - (intOf iv).toNat)
    case atStart => exact ⟨0, none, 0, [], Nat.zero_le _, rfl, rfl, World.ownsRow_nil _ _ _ _, by simpa using FRows.nil, Below.refl _ _⟩
    case round =>
      obtain ⟨i, A2, c2, vs, hi, rfl, rfl, hown, hrows, hbl⟩ := hrel
      obtain ⟨wo, rfl⟩ : ∃ wo : World, wo = wr := ⟨_, rfl⟩
      have HR := Lib.hid (And.intro hown (And.intro hrows hbl))
      clear hown hrows hbl
      by_cases him : i < m
      · obtain ⟨x, hx⟩ : ∃ x, r.2[i]? = some x := ⟨_, List.getElem?_eq_getElem (by rw [HBF.out.2.2]; exact him)⟩
        obtain ⟨ad, A3, c3, hA, hc, hF⟩ := H5.out.2.get.2 i x hx
        injection hA with hA
        subst hA
        have hxl := HBF.out.2.1.lr x (List.mem_of_getElem? hx)
        have c1 := (HR.out.2.2.cell (lt_of_cell hc)).trans hc
        have e1 : (⟨SB, 0, none⟩ : Addr).add i = ⟨SB, i, none⟩ := by
          cases i with
          | zero => simp [Addr.add]
          | succ j => simp [Addr.add]
        rw [e1, hxl] at c1
        have HFR : Hid (Calls Try.prog 39 #[.slice A3 (goodsN V) c3] wo fun e w' => ∃ A' c', e = .returned (.slice A' (goodsN V) c') ∧ w'.ownsRow wo.heap.size 37 2 (.slice A' (goodsN V) c') (goodsN V) (pcells (x.map pr)) ∧ Below wo.heap.size wo w') := Lib.hid (mfracs_any A3 (goodsN V) c3 (x.map pr) wo (by rw [List.length_map, hxl]) (by omega) (hF.below HR.out.2.2))
        have HX := Lib.hid (And.intro hxl (map_take_next (f := fun x : List Rat => x.map pr) hx))
        clear hx hc hF hxl e1
        go_wp2_with fail
        refine HFR.out.mono ?_
        rintro e w6 ⟨A4, c4, rfl, hown4, hb6⟩
        have hown6 := own_below HR.out.1 hb6
        have hrow4 : FRow1 37 w6 w5.heap.size (.slice A4 (goodsN V) c4) (x.map pr) := FRow1.of_own hown4 (by rw [List.length_map, HX.out.1]) _
        have hrows6 := (HR.out.2.1.below hb6).append (FRows.one_ hrow4)
        rw [← HX.out.2] at hrows6
        have hb56 := HR.out.2.2.trans (hb6.mono HR.out.2.2.size)
        have H6 := Lib.hid (And.intro hown6 (And.intro hrows6 hb56))
        have hsz : w5.heap.size ≤ w6.heap.size := H6.out.2.2.size
        clear hown4 hown6 hrow4 hrows6 hb56 hb6 c1 HFR
        go_wp2_with (at_builtin; refine app1g sty_fracss rfl _ _ rfl w5.heap.size A2 i c2 _ #[.slice A4 (goodsN V) c4] rfl (by simp [Value.oneCell']) rfl H6.out.1 _ rfl (by simp) (by omega) hsz ?_)
        intro A5 k5 w7 hown7 hg7 hbl7 hk71 hk72
        have hrows7 := H6.out.2.1.grown fr_ne H6.out.1 (Nat.le_refl _) hg7
        have H7 := Lib.hid (And.intro hown7 (And.intro hrows7 (H6.out.2.2.trans hbl7)))
        clear hown7 hg7 hbl7 hrows7
        go_wp2_with fail
        go_roundw
        case rel => exact ⟨i + 1, A5, k5, _, by omega, by go_num, rfl, H7.out.1, H7.out.2.1, H7.out.2.2⟩
        case measure => simp [intOf]; omega
      · obtain rfl : m = i := by omega
        go_wp2_with fail
        go_ret2
        have hbb := H2.out.2.trans (H5.out.1.mono H2.out.2.size)
        refine ⟨hbb.trans (HR.out.2.2.mono hbb.size), ?_⟩
        rw [HP.out]
        refine ⟨A2, c2, by rw [HBF.out.2.2]; rfl, ?_⟩
        have := HR.out.2.1
        rw [List.take_of_length_le (by rw [List.length_map, HBF.out.2.2]; exact Nat.le_refl _)] at this
        exact (PMat.of_rows this HR.out.1).fmat

/- What buyers get is worth, and how great its numbers are: plain Lean. -/

def worQ (V : List (List Int)) (P : List Rat) (S : List (List Rat)) (i g : Nat) : Rat := useQ V i g * spd S i g / priQ P g
def worTo (V : List (List Int)) (P : List Rat) (S : List (List Rat)) (i g : Nat) : Rat := sumQ (worQ V P S i) g
def worL (V : List (List Int)) (n k : Nat) (r : List Rat × List (List Rat)) : List Rat := (List.range n).map fun i => worTo V r.1 r.2 i k
def Wb (q : Rat) : Prop := 0 ≤ q.num ∧ q.num ≤ 576000000 ∧ (q.den : Int) ≤ 57600000
theorem num_den_of (q : Rat) : q = (q.num : Rat) / ((q.den : Int) : Rat) := by
  rw [← Rat.divInt_eq_div]
  exact (Rat.num_divInt_den q).symm
theorem rat_num_le {x : Rat} {m : Int} (h : x ≤ (m : Rat)) : x.num ≤ m * x.den := by
  have h1 := (Rat.le_iff x (m : Rat)).1 h
  rw [Rat.num_intCast, Rat.den_intCast] at h1
  simpa using h1
theorem quot_wb {u : Int} {x p : Rat} (hu : 0 ≤ u ∧ u ≤ 20) (hx0 : 0 ≤ x.num) (hx : x.num ≤ 24000) (hxd : (x.den : Int) ≤ 1200) (hp : PrS p) : Wb ((u : Rat) * x / p) := by
  obtain ⟨p1, p2, p3⟩ := hp
  have hxd0 := den_pos x
  have hpd0 := den_pos p
  have e : (u : Rat) * x / p = ((u * (x.num * p.den) : Int) : Rat) / (((x.den : Int) * p.num : Int) : Rat) := by
    rw [Rat.intCast_mul, Rat.intCast_mul, Rat.intCast_mul]
    have hx' := num_den_of x
    have hp' := num_den_of p
    have a1 : ((x.den : Int) : Rat) ≠ 0 := rat_ne (by omega)
    have a2 : ((p.den : Int) : Rat) ≠ 0 := rat_ne (by omega)
    have a3 : (p.num : Rat) ≠ 0 := rat_ne (by omega)
    generalize ((x.den : Int) : Rat) = xd at *
    generalize ((p.den : Int) : Rat) = pd at *
    generalize (x.num : Rat) = xn at *
    generalize (p.num : Rat) = pn at *
    subst hx'
    subst hp'
    grind
  have h1 : 0 ≤ x.num * (p.den : Int) ∧ x.num * (p.den : Int) ≤ 24000 * 1200 := ⟨Int.mul_nonneg hx0 (by omega), Int.mul_le_mul hx p3 (by omega) (by omega)⟩
  have h2 : 0 ≤ u * (x.num * (p.den : Int)) ∧ u * (x.num * (p.den : Int)) ≤ 20 * (24000 * 1200) := ⟨Int.mul_nonneg hu.1 h1.1, Int.mul_le_mul hu.2 h1.2 h1.1 (by omega)⟩
  have h3 : 1 * 1 ≤ (x.den : Int) * p.num ∧ (x.den : Int) * p.num ≤ 1200 * 48000 := ⟨Int.mul_le_mul (by omega) p1 (by omega) (by omega), Int.mul_le_mul hxd p2 (by omega) (by omega)⟩
  have h4 := frac_bd (by omega) e
  have h5 := frac_nn (by omega) h2.1 e
  unfold Wb
  omega
theorem sub_den {b : Int} {x : Rat} (hx0 : 0 ≤ (b : Rat) - x) (hb : b ≤ 20) (hx : 0 ≤ x) (hxd : (x.den : Int) ≤ 1200) : 0 ≤ ((b : Rat) - x).num ∧ ((b : Rat) - x).num ≤ 24000 ∧ ((((b : Rat) - x).den : Int)) ≤ 1200 := by
  have hxd0 := den_pos x
  have e : (b : Rat) - x = ((b * x.den - x.num : Int) : Rat) / ((x.den : Int) : Rat) := by
    rw [Rat.intCast_sub, Rat.intCast_mul]
    have hx' := num_den_of x
    have a1 : ((x.den : Int) : Rat) ≠ 0 := rat_ne (by omega)
    generalize ((x.den : Int) : Rat) = xd at *
    generalize (x.num : Rat) = xn at *
    subst hx'
    grind
  have h4 := frac_bd (by omega) e
  have h6 : (b : Rat) - x ≤ ((20 : Int) : Rat) := by
    have : (b : Rat) ≤ ((20 : Int) : Rat) := by exact_mod_cast hb
    grind
  have h7 := rat_num_le h6
  have h8 := Rat.num_nonneg.2 hx0
  omega
theorem small_sp {b : Int} {x : Rat} (hx0 : 0 ≤ x) (hxb : x ≤ (b : Rat)) (hb : b ≤ 20) (hxd : (x.den : Int) ≤ 1200) : 0 ≤ x.num ∧ x.num ≤ 24000 := by
  have h6 : x ≤ ((20 : Int) : Rat) := by
    have : (b : Rat) ≤ ((20 : Int) : Rat) := by exact_mod_cast hb
    grind
  have h7 := rat_num_le h6
  have h8 := Rat.num_nonneg.2 hx0
  have hxd0 := den_pos x
  omega
theorem Wb.zero : Wb 0 := ⟨by decide, by decide, by decide⟩
section
variable {B : List Int} {V : List (List Int)} {r : List Rat × List (List Rat)}
theorem pri_sm (h : SolR B V B.length (goodsN V) r) {g : Nat} (hg : g < goodsN V) : PrS (priQ r.1 g) := by
  unfold priQ
  rw [List.getD_eq_getElem?_getD, List.getElem?_eq_getElem (by rw [h.lp]; exact hg)]
  exact h.ps _ (List.getElem_mem _)
theorem spd_den (h : SolR B V B.length (goodsN V) r) (i g : Nat) : ((spd r.2 i g).den : Int) ≤ 1200 := by
  unfold spd rowQ
  rw [List.getD_eq_getElem?_getD, List.getD_eq_getElem?_getD]
  cases e : r.2[i]? with
  | none => simp
  | some x =>
    simp only [Option.getD_some]
    cases e2 : x[g]? with
    | none => simp
    | some q => exact (h.ss x (List.mem_of_getElem? e) q (List.mem_of_getElem? e2)).2.2
theorem wor_wb (hv : validM B V = true) (h : SolR B V B.length (goodsN V) r) {i g : Nat} (hi : i < B.length) (hg : g < goodsN V) :
    (0 ≤ (spd r.2 i g).num ∧ (spd r.2 i g).num ≤ 24000 ∧ ((spd r.2 i g).den : Int) ≤ 1200) ∧ Wb (worQ V r.1 r.2 i g) ∧ Wb (worTo V r.1 r.2 i g) := by
  obtain ⟨hm, _, hu⟩ := mkOk_of hv
  have hE := h.equi hv
  obtain ⟨⟨a1, a2, a3, a4⟩, b1, b2, b3⟩ := validM_iff.1 hv
  have hbi := a3 (B.getD i 0) (by
    rw [List.getD_eq_getElem?_getD, List.getElem?_eq_getElem hi]
    exact List.getElem_mem _)
  have hsp : ∀ x, x < goodsN V → 0 ≤ spd r.2 i x ∧ spd r.2 i x ≤ ((B.getD i 0 : Int) : Rat) := fun x hx => ⟨hE.nn i x hi hx, by
    have h1 := sq_le (f := spd r.2 i) (n := goodsN V) (fun y hy => hE.nn i y hi hy) x hx
    rw [hE.row i hi] at h1
    exact h1⟩
  have hsm : ∀ x, x < goodsN V → 0 ≤ (spd r.2 i x).num ∧ (spd r.2 i x).num ≤ 24000 ∧ ((spd r.2 i x).den : Int) ≤ 1200 := fun x hx => by
    have h1 := small_sp (hsp x hx).1 (hsp x hx).2 hbi.2 (spd_den h i x)
    exact ⟨h1.1, h1.2, spd_den h i x⟩
  have hwq : ∀ x, x < goodsN V → Wb (worQ V r.1 r.2 i x) := fun x hx => by
    obtain ⟨c1, c2, c3⟩ := hsm x hx
    exact quot_wb (hu i x) c1 c2 c3 (pri_sm h hx)
  refine ⟨hsm g hg, hwq g hg, ?_⟩
  have hg3 : g = 0 ∨ g = 1 ∨ g = 2 := by omega
  rcases hg3 with rfl | rfl | rfl
  · exact Wb.zero
  · have e : worTo V r.1 r.2 i 1 = worQ V r.1 r.2 i 0 := by
      show (0 : Rat) + worQ V r.1 r.2 i 0 = _
      grind
    rw [e]
    exact hwq 0 (by omega)
  · have hk : goodsN V = 3 := by omega
    have e : worTo V r.1 r.2 i 2 = worQ V r.1 r.2 i 0 + worQ V r.1 r.2 i 1 := by
      show (0 : Rat) + worQ V r.1 r.2 i 0 + worQ V r.1 r.2 i 1 = _
      grind
    rw [e]
    by_cases h0 : spd r.2 i 0 = 0
    · have e1 : worQ V r.1 r.2 i 0 = 0 := by unfold worQ; rw [h0, Rat.mul_zero, Rat.div_def, Rat.zero_mul]
      rw [e1, Rat.zero_add]
      exact hwq 1 (by omega)
    · by_cases h1 : spd r.2 i 1 = 0
      · have e1 : worQ V r.1 r.2 i 1 = 0 := by unfold worQ; rw [h1, Rat.mul_zero, Rat.div_def, Rat.zero_mul]
        rw [e1, Rat.add_zero]
        exact hwq 0 (by omega)
      · have w0 := hE.want i 0 hi (by omega) h0 1 (by omega)
        have w1 := hE.want i 1 hi (by omega) h1 0 (by omega)
        have p0 := hE.pos 0 (by omega)
        have p1 := hE.pos 1 (by omega)
        have hrow := hE.row i hi
        rw [hk] at hrow
        have hrow' : (0 : Rat) + spd r.2 i 0 + spd r.2 i 1 + spd r.2 i 2 = budQ B i := hrow
        have hs := hsp 2 (by omega)
        have hd := sub_den (b := B.getD i 0) (x := spd r.2 i 2) (by have := hs.2; grind) hbi.2 hs.1 (spd_den h i 2)
        have hq := quot_wb (hu i 0) hd.1 hd.2.1 hd.2.2 (pri_sm h (g := 0) (by omega))
        have e2 : worQ V r.1 r.2 i 0 + worQ V r.1 r.2 i 1 = ((useN V i 0 : Int) : Rat) * (((B.getD i 0 : Int) : Rat) - spd r.2 i 2) / priQ r.1 0 := by
          have hb' : ((B.getD i 0 : Int) : Rat) - spd r.2 i 2 = spd r.2 i 0 + spd r.2 i 1 := by
            have : budQ B i = ((B.getD i 0 : Int) : Rat) := rfl
            grind
          rw [hb']
          unfold worQ
          have hu0 : useQ V i 0 = ((useN V i 0 : Int) : Rat) := rfl
          rw [← hu0]
          have heq : useQ V i 0 * priQ r.1 1 = useQ V i 1 * priQ r.1 0 := by grind
          generalize priQ r.1 0 = q0 at *
          generalize priQ r.1 1 = q1 at *
          generalize useQ V i 0 = c0 at *
          generalize useQ V i 1 = c1 at *
          generalize spd r.2 i 0 = s0 at *
          generalize spd r.2 i 1 = s1 at *
          have e3 : c1 / q1 = c0 / q0 := by
            have : c1 = c0 * q1 / q0 := by grind
            rw [this]
            grind
          have e4 : c1 * s1 / q1 = c0 / q0 * s1 := by
            rw [← e3]
            grind
          rw [e4]
          grind
        rw [e2]
        exact hq
end

/- Contract: Worth of package market. -/

def WorthPost (B : List Int) (V : List (List Int)) (w : World) (x : Ending) (w' : World) : Prop :=
  Below w.heap.size w w' ∧ match prF B V with
    | none => x = .returned (.tuple #[.slice none 0 0, .int .i64 2])
    | some r => ∃ A' c', x = .returned (.tuple #[.slice A' B.length c', .int .i64 0]) ∧ Go.Proofs.Ytnljnjnmhbkdoaa.Fracs w' A' (worL V B.length (goodsN V) r)
theorem mplus_wb (p q : Rat) (w : World) (hp : Wb p) (hq : Wb q) : Calls Try.prog 48 #[.agg #[.int .i64 p.num, .int .i64 (p.den : Int)], .agg #[.int .i64 q.num, .int .i64 (q.den : Int)]] w fun e w' => e = .returned (.agg #[.int .i64 (p + q).num, .int .i64 ((p + q).den : Int)]) ∧ Below w.heap.size w w' := by
  have p0 := den_pos p
  have q0 := den_pos q
  obtain ⟨p1, p2, p3⟩ := hp
  obtain ⟨q1, q2, q3⟩ := hq
  have a := mul_shrink (a := p.num) (b := 576000000) (c := (q.den : Int)) (m := 4000000000000000000) (by omega) (by omega) (by omega) (by omega)
  have b := mul_shrink (a := q.num) (b := 576000000) (c := (p.den : Int)) (m := 4000000000000000000) (by omega) (by omega) (by omega) (by omega)
  have c := mul_shrink (a := (p.den : Int)) (b := 57600000) (c := (q.den : Int)) (m := 4000000000000000000) (by omega) (by omega) (by omega) (by omega)
  exact mplus_raw p q w a.1 a.2 b.1 b.2 c.2 (by omega) (by omega)
theorem worQ_eq (V : List (List Int)) (P : List Rat) (S : List (List Rat)) (i g : Nat) : ((useN V i g : Int) : Rat) * spd S i g / priQ P g = worQ V P S i g := rfl
set_option maxRecDepth 100000 in
set_option maxHeartbeats 4000000 in
theorem mworth_any (A : Option Addr) (n c : Nat) (U : Option Addr) (m d : Nat) (B : List Int) (V : List (List Int)) (w : World) (h : MktAt w A n U m B V) (hn : n ≤ 1000) (hm : m ≤ 1000) (hr : ∀ r ∈ V, r.length ≤ 1000) (hex : Found B V) :
    Calls Try.prog 27 #[mktV A n c U m d] w (WorthPost B V w) := by
  have hb1 : Below w.heap.size w (w.alloc (.cells #[.slice A n c, .slice U m d] 30)) := (Below.refl _ _).alloc (Nat.le_refl _) _
  have hM1 : Blk (w.alloc (.cells #[.slice A n c, .slice U m d] 30)) w.heap.size 30 #[.slice A n c, .slice U m d] := Blk.new _ _ _ rfl
  have HV := Lib.hid (mvalid_any A n c U m d B V _ (h.below hb1) hn hm hr)
  have H := Lib.hid (And.intro h (And.intro hex (And.intro hb1 hM1)))
  clear h hex hb1 hM1
  unfold mktV
  go_enter Try.func27, Try.ntmps27
  go_wp2_with fail
  refine HV.out.mono ?_
  rintro e w2 ⟨rfl, hb2⟩
  have hM2 := H.out.2.2.2.below hb2 (by simp)
  have hbw := H.out.2.2.1.trans (hb2.mono H.out.2.2.1.size)
  obtain ⟨m1, m2, _, _⟩ := hM2.at2
  have H2 := Lib.hid (And.intro hM2 hbw)
  clear hM2 hbw hb2 HV
  cases hv : validM B V with
  | false =>
    have HP : Hid (prF B V = none) := Lib.hid (by unfold prF; rw [if_neg (by rw [hv]; decide)])
    clear hv
    go_wp2_with fail
    go_ret2
    exact ⟨H2.out.2, by rw [HP.out]; rfl⟩
  | true =>
    obtain ⟨rfl, hmk⟩ := mkIn_of H.out.1 hv
    obtain ⟨r, hbf⟩ := H.out.2.1 hv
    have HP : Hid (prF B V = some r) := Lib.hid (by unfold prF; rw [if_pos hv]; exact hbf)
    have hok := (prF_ok HP.out).2
    have HWB : Hid (∀ i g, i < m → g < goodsN V → (0 ≤ (spd r.2 i g).num ∧ (spd r.2 i g).num ≤ 24000 ∧ ((spd r.2 i g).den : Int) ≤ 1200) ∧ Wb (worQ V r.1 r.2 i g) ∧ Wb (worTo V r.1 r.2 i g) ∧ PrS (priQ r.1 g)) := Lib.hid fun i g hi hg => by
      rw [← H.out.1.hB] at hi
      have := wor_wb hv hok hi hg
      exact ⟨this.1, this.2.1, this.2.2, pri_sm hok hg⟩
    have HB : Hid (Calls Try.prog 40 #[mktV A m c U m d] w2 (BalPost B V m (goodsN V) w2)) := Lib.hid (mbalance_any A m c U d (goodsN V) B V w2 (hmk.below H2.out.2))
    have hBm := H.out.1.hB
    rw [hBm] at hbf
    have hm3 := hmk.hn
    obtain ⟨k, hkk⟩ : ∃ k, k = goodsN V := ⟨_, rfl⟩
    have hk3 := hmk.hk
    have hls := hok.ls
    have hlp := hok.lp
    have hlr := hok.lr
    have hrw := hmk.rows
    rw [hBm] at hls
    rw [← hkk] at hbf hlp hlr hk3 HWB HB hrw
    have HBF := Lib.hid (And.intro hbf (And.intro hls (And.intro hlp (And.intro hlr (And.intro hkk hrw)))))
    clear hv hbf hok hmk hls hlp hlr hkk hrw
    go_wp2_with fail
    refine HB.out.mono ?_
    intro ev w5 hpost
    unfold BalPost at hpost
    rw [HBF.out.1] at hpost
    obtain ⟨hb5, PB, SB, rfl, hm5⟩ := hpost
    have H5 := Lib.hid (And.intro hb5 hm5)
    have hs5 := hb5.size
    have hb05 := H2.out.2.trans (hb5.mono H2.out.2.size)
    obtain ⟨w6, hw6⟩ : ∃ w6, w6 = w5.alloc (.cells #[.slice (some ⟨PB, 0, none⟩) k k, .slice (some ⟨SB, 0, none⟩) m m] 66) := ⟨_, rfl⟩
    have hb56 : Below w5.heap.size w5 w6 := by rw [hw6]; exact (Below.refl _ _).alloc (Nat.le_refl _) _
    have hB6 : Blk w6 w5.heap.size 66 #[.slice (some ⟨PB, 0, none⟩) k k, .slice (some ⟨SB, 0, none⟩) m m] := by rw [hw6]; exact Blk.new _ _ _ rfl
    have hs6 : w6.heap.size = w5.heap.size + 1 := by rw [hw6]; simp
    have hM6 := (H2.out.1.below hb5 H2.out.1.lt).below hb56 (by have := H2.out.1.lt; omega)
    obtain ⟨y0, y1, _, _⟩ := hB6.at2
    have hF6 := hm5.get.1.below hb56
    have hS6 := hm5.get.2.below hb56
    have H6 := Lib.hid (And.intro (hb05.trans (hb56.mono hb05.size)) (And.intro hB6 (And.intro hM6 (And.intro hF6 hS6))))
    clear hb5 hm5 m1 m2 HB hb05 hb56 hB6 hM6 hF6 hS6
    unfold balV
    go_wp2_with fail
    rw [← hw6]
    clear hw6
    go_loopw [5, 19] (fun ov iv wx => ∃ (i : Nat) (A2 : Option Addr) (c2 : Nat), i ≤ m ∧ iv = .int .i64 i ∧ ov = .slice A2 i c2 ∧ wx.ownsRow w6.heap.size 77 2 (.slice A2 i c2) i (fcells ((worL V m k r).take i)) ∧ Below w6.heap.size w6 wx) (fun _ iv _ => m - (intOf iv).toNat)
    case atStart => exact ⟨0, none, 0, Nat.zero_le _, rfl, rfl, by simpa [fcells] using World.ownsRow_nil _ _ _ _, Below.refl _ _⟩
    case round =>
      obtain ⟨i, A2, c2, hi, rfl, rfl, hown, hbl⟩ := hrel
      obtain ⟨wo, rfl⟩ : ∃ wo : World, wo = wr := ⟨_, rfl⟩
      have HR := Lib.hid (And.intro hown hbl)
      have hos := hbl.size
      clear hown hbl
      by_cases him : i < m
      · obtain ⟨x, hx⟩ : ∃ x, r.2[i]? = some x := ⟨_, List.getElem?_eq_getElem (by rw [HBF.out.2.1]; exact him)⟩
        obtain ⟨ad, A3, c3, hA, hc, hF⟩ := H6.out.2.2.2.2 i x hx
        injection hA with hA
        subst hA
        have hxl := HBF.out.2.2.2.1 x (List.mem_of_getElem? hx)
        have hsx : ∀ g, spd r.2 i g = x.getD g 0 := fun g => by unfold spd rowQ; rw [List.getD_eq_getElem?_getD (l := r.2), hx]; rfl
        have c1 := (HR.out.2.cell (lt_of_cell hc)).trans hc
        have e1 : (⟨SB, 0, none⟩ : Addr).add i = ⟨SB, i, none⟩ := by
          cases i with
          | zero => simp [Addr.add]
          | succ j => simp [Addr.add]
        rw [e1, hxl] at c1
        have HX := Lib.hid (And.intro hx (And.intro hxl (And.intro hF hsx)))
        have hnx : (worL V m k r).take (i + 1) = (worL V m k r).take i ++ [worTo V r.1 r.2 i k] := by
          unfold worL
          exact map_take_next (List.getElem?_range him)
        have HNX := Lib.hid hnx
        clear hx hc hF hxl e1 hsx hnx
        go_wp2_with fail
        refine (mwhole_any 0 _).mono ?_
        rintro e w7 ⟨rfl, hb7⟩
        rw [fr_int]
        have hs7 := hb7.size
        have H7 := Lib.hid (HR.out.2.trans (hb7.mono hos))
        have H7o := Lib.hid (own_below HR.out.1 hb7)
        clear hb7 c1
        go_wp2_with fail
        go_loopw [27] (fun gv wx => ∃ g : Nat, g ≤ k ∧ gv = .int .i64 g ∧ Blk wx w7.heap.size 77 #[.int .i64 (worTo V r.1 r.2 i g).num, .int .i64 ((worTo V r.1 r.2 i g).den : Int)] ∧ Below w7.heap.size w7 wx) (fun gv _ => k - (intOf gv).toNat)
        case atStart => exact ⟨0, Nat.zero_le _, rfl, Blk.new _ _ _ rfl, (Below.refl _ _).alloc (Nat.le_refl _) _⟩
        case round =>
          obtain ⟨g, hg, rfl, hBl, hbl⟩ := hrel
          obtain ⟨wl, rfl⟩ : ∃ wl : World, wl = wr := ⟨_, rfl⟩
          have hls := hBl.lt
          have HL := Lib.hid (And.intro hBl hbl)
          clear hBl hbl
          by_cases hgk : g < k
          · have h6l := H7.out.trans (HL.out.2.mono H7.out.size)
            obtain ⟨q, hq⟩ : ∃ q, x[g]? = some q := ⟨_, List.getElem?_eq_getElem (by rw [HX.out.2.1]; exact hgk)⟩
            obtain ⟨a3, hA3, _, hc3⟩ := (HX.out.2.2.1.below h6l).some_ (by rw [HX.out.2.1]; omega)
            subst hA3
            obtain ⟨v1, v2⟩ := hc3 g q hq
            have hsq : spd r.2 i g = q := by rw [HX.out.2.2.2, List.getD_eq_getElem?_getD, hq]; rfl
            obtain ⟨p, hp⟩ : ∃ p, r.1[g]? = some p := ⟨_, List.getElem?_eq_getElem (by rw [HBF.out.2.2.1]; exact hgk)⟩
            have hpp : priQ r.1 g = p := by unfold priQ; rw [List.getD_eq_getElem?_getD, hp]; rfl
            obtain ⟨wb1, wb2, wb3, wb4⟩ := HWB.out i g him hgk
            rw [hpp] at wb4
            rw [hsq] at wb1
            have hwq : ((useN V i g : Int) : Rat) * q / p = worQ V r.1 r.2 i g := by rw [← worQ_eq, hsq, hpp]
            have hub := useN_bd HBF.out.2.2.2.2.2 i g
            obtain ⟨w8, hw8⟩ : ∃ w8, w8 = wl.alloc (.cells #[.int .i64 q.num, .int .i64 (q.den : Int)] 77) := ⟨_, rfl⟩
            have hb8 : Below wl.heap.size wl w8 := by rw [hw8]; exact (Below.refl _ _).alloc (Nat.le_refl _) _
            have hX8 : Blk w8 wl.heap.size 77 #[.int .i64 q.num, .int .i64 (q.den : Int)] := by rw [hw8]; exact Blk.new _ _ _ rfl
            have h68 := h6l.trans (hb8.mono h6l.size)
            have h08 := H6.out.1.trans (h68.mono H6.out.1.size)
            obtain ⟨f1, f2, _, _⟩ := (HL.out.1.below hb8 hls).at2
            obtain ⟨f3, f4, _, _⟩ := hX8.at2
            obtain ⟨f5, f6, _, _⟩ := (H6.out.2.1.below h68 (by omega)).at2
            obtain ⟨_, f7, _, _⟩ := (H6.out.2.2.1.below h68 (by have := H6.out.2.2.1.lt; omega)).at2
            obtain ⟨aP, hAP, _, hcP⟩ := (H6.out.2.2.2.1.below h68).some_ (by rw [HBF.out.2.2.1]; omega)
            injection hAP with hAP
            subst hAP
            obtain ⟨f8, f9⟩ := hcP g p hp
            obtain ⟨aU, hAU, _, hcU⟩ := H.out.1.uses.some_ (by rw [H.out.1.hV]; omega)
            have hVb := rowV_some (V := V) (i := i) (by rw [H.out.1.hV]; exact him)
            have hrl := rowOk_iff.1 (HBF.out.2.2.2.2.2 _ (List.mem_of_getElem? hVb))
            obtain ⟨R2, cr2, u1, _, _, hR⟩ := hcU i _ hVb
            rw [hrl.1] at u1
            obtain ⟨ar2, hRe2, _, hcR⟩ := hR.some_ (by rw [hrl.1]; omega)
            subst hRe2
            have u2 := hcR g (useN V i g) (by unfold useN; rw [List.getD_eq_getElem?_getD, List.getElem?_eq_getElem (by rw [hrl.1]; exact hgk)]; rfl)
            have f10 := (h08.cell (lt_of_cell u1)).trans u1
            have f11 := (h08.cell (lt_of_cell u2)).trans u2
            have eP : ∀ j : Nat, (⟨PB, 0, none⟩ : Addr).add j = ⟨PB, j, none⟩ := fun j => by
              cases j with
              | zero => simp [Addr.add]
              | succ j => simp [Addr.add]
            rw [eP] at f8 f9
            obtain ⟨u, hu⟩ : ∃ u, u = useN V i g := ⟨_, rfl⟩
            rw [← hu] at hub f11 hwq
            obtain ⟨t, ht⟩ : ∃ t, t = worQ V r.1 r.2 i g := ⟨_, rfl⟩
            rw [← ht] at hwq wb2
            obtain ⟨s, hs⟩ : ∃ s, s = worTo V r.1 r.2 i g := ⟨_, rfl⟩
            rw [← hs] at wb3
            simp only [← hs] at f1 f2
            have hst : s + t = worTo V r.1 r.2 i (g + 1) := by rw [hs, ht]; rfl
            have HWH : Hid (∀ s' : Desc w8, Calls Try.prog 47 #[.int .i64 u] s'.val fun e w'' => e = .returned (.agg #[.int .i64 u, .int .i64 1]) ∧ ∃ s'' : Desc w8, w'' = s''.val) := Lib.hid fun s' => Calls.desc_of (by
              have := mwhole_any u s'.val
              rw [fr_int] at this
              exact this)
            obtain ⟨y, hy⟩ : ∃ y, y = (u : Rat) * q := ⟨_, rfl⟩
            have hqd := den_pos q
            have HTM : Hid (∀ s' : Desc w8, Calls Try.prog 49 #[.agg #[.int .i64 u, .int .i64 1], .agg #[.int .i64 q.num, .int .i64 (q.den : Int)]] s'.val fun e w'' => e = .returned (.agg #[.int .i64 y.num, .int .i64 (y.den : Int)]) ∧ ∃ s'' : Desc w8, w'' = s''.val) := Lib.hid fun s' => Calls.desc_of (by
              have := mtimes_sm (u : Rat) q s'.val ⟨by rw [Rat.num_intCast]; omega, by rw [Rat.num_intCast]; omega, by rw [Rat.den_intCast]; decide⟩ ⟨by omega, by omega, by omega⟩ wb1.1
              rw [← hy, Rat.num_intCast, Rat.den_intCast] at this
              exact this)
            have hyb : Sm y := by
              have h0 : y = ((u * q.num : Int) : Rat) / ((q.den : Int) : Rat) := by
                rw [hy, Rat.intCast_mul]
                have hx' := num_den_of q
                have a1 : ((q.den : Int) : Rat) ≠ 0 := rat_ne (by omega)
                generalize ((q.den : Int) : Rat) = xd at *
                generalize (q.num : Rat) = xn at *
                rw [hx']
                grind
              have h1 : 0 ≤ u * q.num ∧ u * q.num ≤ 20 * 24000 := ⟨Int.mul_nonneg hub.1 wb1.1, Int.mul_le_mul hub.2 wb1.2.1 wb1.1 (by omega)⟩
              have h4 := frac_bd (by omega) h0
              have h5 := frac_nn (by omega) h1.1 h0
              unfold Sm
              omega
            have HOV : Hid (∀ s' : Desc w8, Calls Try.prog 50 #[.agg #[.int .i64 y.num, .int .i64 (y.den : Int)], .agg #[.int .i64 p.num, .int .i64 (p.den : Int)]] s'.val fun e w'' => e = .returned (.agg #[.int .i64 t.num, .int .i64 (t.den : Int)]) ∧ ∃ s'' : Desc w8, w'' = s''.val) := Lib.hid fun s' => Calls.desc_of (by
              have := mover_sm y p s'.val hyb ⟨by have := wb4.1; omega, by have := wb4.2.1; omega, by have := wb4.2.2; omega⟩ (by have := wb4.1; omega)
              rw [hy, hwq, ← hy] at this
              exact this)
            obtain ⟨z, hz⟩ : ∃ z, z = worTo V r.1 r.2 i (g + 1) := ⟨_, rfl⟩
            have HPL : Hid (∀ s' : Desc w8, Calls Try.prog 48 #[.agg #[.int .i64 s.num, .int .i64 (s.den : Int)], .agg #[.int .i64 t.num, .int .i64 (t.den : Int)]] s'.val fun e w'' => e = .returned (.agg #[.int .i64 z.num, .int .i64 (z.den : Int)]) ∧ ∃ s'' : Desc w8, w'' = s''.val) := Lib.hid fun s' => Calls.desc_of (by
              have := mplus_wb s t s'.val wb3 wb2
              rw [hst, ← hz] at this
              exact this)
            have HZ := Lib.hid hz
            have d1 : ∀ s : Desc w8, s.val.cell? ⟨w7.heap.size, 0, none⟩ = some (.int .i64 _) := fun s => s.cell f1
            have d2 : ∀ s : Desc w8, s.val.cell? ⟨w7.heap.size, 1, none⟩ = some (.int .i64 _) := fun s => s.cell f2
            have d3 : ∀ s : Desc w8, s.val.cell? ⟨wl.heap.size, 0, none⟩ = some (.int .i64 q.num) := fun s => s.cell f3
            have d4 : ∀ s : Desc w8, s.val.cell? ⟨wl.heap.size, 1, none⟩ = some (.int .i64 (q.den : Int)) := fun s => s.cell f4
            have d5 : ∀ s : Desc w8, s.val.cell? ⟨w5.heap.size, 0, none⟩ = some (.slice (some ⟨PB, 0, none⟩) k k) := fun s => s.cell f5
            have d7 : ∀ s : Desc w8, s.val.cell? ⟨w.heap.size, 1, none⟩ = some (.slice U m d) := fun s => s.cell f7
            have d8 : ∀ s : Desc w8, s.val.cell? ⟨PB, g * 2, none⟩ = some (.int .i64 p.num) := fun s => s.cell f8
            have d9 : ∀ s : Desc w8, s.val.cell? ⟨PB, g * 2 + 1, none⟩ = some (.int .i64 (p.den : Int)) := fun s => s.cell f9
            have d10 : ∀ s : Desc w8, s.val.cell? (aU.add i) = some (.slice (some ar2) k cr2) := fun s => s.cell f10
            have d11 : ∀ s : Desc w8, s.val.cell? (ar2.add g) = some (.int .i64 u) := fun s => s.cell f11
            have H8 := Lib.hid (And.intro (HL.out.1.below hb8 hls) (HL.out.2.trans (hb8.mono HL.out.2.size)))
            subst hAU
            clear f1 f2 f3 f4 f5 f6 f7 f8 f9 f10 f11 hcP hcR hcU hR u1 u2 hVb hrl eP hu ht hs hst hyb hy hz hub hwq wb1 wb2 wb3 wb4 hpp hsq hq hp hc3 hX8 hb8 h6l h68 h08
            go_wp2_with fail
            rw [← hw8]
            clear hw8
            refine wp_region_desc_tail 19 (by kernel_rfl) (by kernel_rfl) ?_
            simp only [List.take_succ_cons, List.take_zero, List.drop_succ_cons, List.drop_zero]
            repeat (go_big_quiet_step (first | (go_at_call 47; exact HWH.out _) | (go_at_call 49; exact HTM.out _) | (go_at_call 50; exact HOV.out _) | (go_at_call 48; exact HPL.out _)))
            refine wpQuiet_nil ?_
            rintro _ ⟨sd, rfl⟩
            have hb9 := sd.below
            generalize sd.val = w9 at hb9 ⊢
            clear d1 d2 d3 d4 d5 d7 d8 d9 d10 d11
            have hB9 := H8.out.1.below hb9 H8.out.1.lt
            obtain ⟨r1, r2, r3, r4⟩ := hB9.at2
            have H9 := Lib.hid (And.intro hB9 (H8.out.2.trans (hb9.mono H8.out.2.size)))
            clear hB9 hb9
            go_wp2_with fail
            go_roundw
            case rel =>
              have h9 := (Blk.set_ (Blk.set_ H9.out.1 0 (.int .i64 z.num)) 1 (.int .i64 (z.den : Int)))
              refine ⟨g + 1, by omega, by go_num, ?_, (H9.out.2.setCell (by simp) _).setCell (by simp) _⟩
              rw [← HZ.out]
              exact h9
            case measure => simp [intOf]; omega
          · obtain rfl : k = g := by omega
            obtain ⟨r1, r2, _, _⟩ := HL.out.1.at2
            obtain ⟨z, hz⟩ : ∃ z, z = worTo V r.1 r.2 i k := ⟨_, rfl⟩
            rw [← hz] at HNX
            simp only [← hz] at r1 r2
            have hown := own_below H7o.out (HL.out.2)
            have H8 := Lib.hid (And.intro hown (H7.out.trans (HL.out.2.mono H7.out.size)))
            have hsz : w6.heap.size ≤ wl.heap.size := H8.out.2.size
            clear hz hown
            go_wp2_with (at_builtin; refine app1g sty_mfrac rfl _ _ rfl w6.heap.size A2 i c2 _ #[.int .i64 z.num, .int .i64 (z.den : Int)] rfl (by simp [Value.oneCell']) rfl H8.out.1 _ rfl (by simp) (by omega) hsz ?_)
            intro A5 k5 w9 hown9 hg9 hbl9 hk91 hk92
            have hnx : fcells ((worL V m k r).take (i + 1)) = fcells ((worL V m k r).take i) ++ [.int .i64 z.num, .int .i64 (z.den : Int)] := by rw [HNX.out, fcells_snoc]
            rw [← hs6] at hown9 hbl9
            have H9 := Lib.hid (And.intro hown9 (And.intro hnx (H8.out.2.trans hbl9)))
            clear hown9 hg9 hbl9 hnx
            go_wp2_with fail
            go_roundw
            case rel => exact ⟨i + 1, A5, k5, by omega, by go_num, rfl, by rw [H9.out.2.1]; exact H9.out.1, H9.out.2.2⟩
            case measure => simp [intOf]; omega
      · obtain rfl : m = i := by omega
        have hown := HR.out.1
        rw [List.take_of_length_le (by simp [worL])] at hown
        have HFR : Hid (Calls Try.prog 39 #[.slice A2 m c2] wo fun e w' => ∃ A' c', e = .returned (.slice A' m c') ∧ w'.ownsRow wo.heap.size 37 2 (.slice A' m c') m (pcells ((worL V m k r).map pr)) ∧ Below wo.heap.size wo w') := Lib.hid (mfracs_any A2 m c2 ((worL V m k r).map pr) wo (by simp [worL]) hm (by
          have := Fracs.of_cells (At.of_own hown)
          exact this))
        clear hown
        go_wp2_with fail
        refine HFR.out.mono ?_
        rintro e w9 ⟨A', c', rfl, hown9, hb9⟩
        have H9 := Lib.hid (And.intro hown9 hb9)
        clear hown9 hb9 HFR
        go_wp2_with fail
        go_ret2
        have h6 := H6.out.1.trans (HR.out.2.mono H6.out.1.size)
        refine ⟨h6.trans (H9.out.2.mono h6.size), ?_⟩
        rw [HP.out]
        refine ⟨A', c', by rw [hBm]; rfl, ?_⟩
        have := At.of_own H9.out.1
        rw [hBm, ← HBF.out.2.2.2.2.1]
        exact this

/- Contract: awake of the laws' package. -/

theorem awake_price {r : List Rat × List (List Rat)} (h : prF [7] [[3]] = some r) : r.1 = [7] := by
  obtain ⟨hv, hs⟩ := prF_ok h
  have hE := hs.equi hv
  have h1 := hE.row 0 (by decide)
  have h2 := hE.col 0 (by decide)
  have hg : goodsN [[3]] = 1 := rfl
  have hl := hs.lp
  rw [hg] at hl h1
  have h1' : (0 : Rat) + spd r.2 0 0 = budQ [7] 0 := h1
  have h2' : (0 : Rat) + spd r.2 0 0 = priQ r.1 0 := h2
  have h3 : budQ [7] 0 = 7 := rfl
  have h4 : priQ r.1 0 = 7 := by grind
  obtain ⟨x, hx⟩ := List.length_eq_one_iff.1 hl
  rw [hx] at h4 ⊢
  have : priQ [x] 0 = x := rfl
  rw [this] at h4
  rw [h4]
theorem awake_some : ∃ r, prF [7] [[3]] = some r := by
  have hv : validM [7] [[3]] = true := by decide
  obtain ⟨r, hr⟩ := found_any [7] [[3]] hv
  exact ⟨r, by unfold prF; rw [if_pos hv]; exact hr⟩
set_option maxRecDepth 100000 in
set_option maxHeartbeats 1600000 in
theorem l4awake_any (w : World) : Calls Try.prog 17 #[] w fun e w' => e = .returned (.bool true) ∧ Below w.heap.size w w' := by
  obtain ⟨w3, hw3⟩ : ∃ w3, w3 = ((w.alloc (.cells #[.int .i64 7] 3)).alloc (.cells #[.int .i64 3] 3)).alloc (.cells #[.slice (some ⟨w.heap.size + 1, 0, none⟩) 1 1] 22) := ⟨_, rfl⟩
  have hb3 : Below w.heap.size w w3 := by rw [hw3]; exact (((Below.refl _ _).alloc (Nat.le_refl _) _).alloc (by simp) _).alloc (by simp; omega) _
  have hA : Blk w3 w.heap.size 3 #[.int .i64 7] := by rw [hw3]; exact ((Blk.new _ _ _ rfl).alloc _).alloc _
  have hB : Blk w3 (w.heap.size + 1) 3 #[.int .i64 3] := by rw [hw3]; exact (Blk.new _ _ _ (by simp)).alloc _
  have hC : Blk w3 (w.heap.size + 2) 22 #[.slice (some ⟨w.heap.size + 1, 0, none⟩) 1 1] := by rw [hw3]; exact Blk.new _ _ _ (by simp)
  have hs3 : w3.heap.size = w.heap.size + 3 := by rw [hw3]; simp
  have hmk : MktAt w3 (some ⟨w.heap.size, 0, none⟩) 1 (some ⟨w.heap.size + 2, 0, none⟩) 1 [7] [[3]] := {
    hB := rfl
    hV := rfl
    budgets := Blk.at_ (cs := #[.int .i64 7]) hA
    uses := fun j r hj => by
      have hj0 : j = 0 := by
        have := (List.getElem?_eq_some_iff.1 hj).1
        simp at this
        exact this
      subst hj0
      simp at hj
      subst hj
      refine ⟨⟨w.heap.size + 2, 0, none⟩, some ⟨w.heap.size + 1, 0, none⟩, 1, rfl, ?_, Nat.le_refl _, by decide, Blk.at_ (cs := #[.int .i64 3]) hB⟩
      have := hC.at1.1
      simpa [Addr.add] using this }
  obtain ⟨r, hr⟩ := awake_some
  have hr1 := awake_price hr
  have HP : Hid (Calls Try.prog 14 #[mktV (some ⟨w.heap.size, 0, none⟩) 1 1 (some ⟨w.heap.size + 2, 0, none⟩) 1 1] w3 (PricesPost [7] [[3]] w3)) := Lib.hid (mprices_any _ 1 1 _ 1 1 [7] [[3]] w3 hmk (by decide) (by decide) (by decide) (found_any _ _))
  have H := Lib.hid (And.intro hb3 (And.intro hr hr1))
  have HW3 := Lib.hid hw3
  clear hb3 hA hB hC hmk hr hr1
  go_enter Try.func17, Try.ntmps17
  go_wp2_with fail
  rw [← hw3]
  refine HP.out.mono ?_
  intro ev w4 hpost
  unfold PricesPost at hpost
  rw [H.out.2.1] at hpost
  obtain ⟨hb4, A', c', rfl, hown⟩ := hpost
  rw [H.out.2.2] at hown
  rw [H.out.2.2]
  have H4 := Lib.hid (And.intro (H.out.1.trans (hb4.mono H.out.1.size)) hown)
  clear hb4 hown hw3 HP
  go_wp2_with fail
  refine (l4whole_any 7 _).mono ?_
  rintro e w5 ⟨rfl, hb5⟩
  rw [fr_int]
  have hfr := Fracs.of_cells (At.of_own (own_below H4.out.2 hb5))
  have hb45 := H4.out.1.trans (hb5.mono H4.out.1.size)
  have hbz : Below w5.heap.size w5 (w5.alloc (.cells #[.int .i64 7, .int .i64 1] 37)) := (Below.refl _ _).alloc (Nat.le_refl _) _
  have hN : Fracs (w5.alloc (.cells #[.int .i64 7, .int .i64 1] 37)) (some ⟨w5.heap.size, 0, none⟩) [7] := Blk.at_ (cs := #[.int .i64 7, .int .i64 1]) (Blk.new _ _ _ rfl)
  have H5 := Lib.hid (And.intro (hfr.below hbz) (And.intro hN (hb45.trans (hbz.mono hb45.size))))
  clear hb5 hfr hb45 hbz hN
  go_wp2_with fail
  refine (equalF_any A' (some ⟨w5.heap.size, 0, none⟩) 1 1 c' 1 [7] [7] _ rfl rfl (by decide) H5.out.1 H5.out.2.1).mono ?_
  rintro e w9 ⟨rfl, m9, rfl⟩
  go_wp2_with fail
  go_ret
  exact ⟨by rfl, below_drewN H5.out.2.2 m9⟩

/- Contract: Valid of the reference. -/

/-- Which goods are of use to someone of the first i, or to the next one among the first g. -/
def ofB (V : List (List Int)) (i : Nat) (r : List Int) (g h : Nat) : Bool := (V.take i).any (fun r => decide (0 < r.getD h 0)) || (decide (h < g) && decide (0 < r.getD h 0))
def ofA (V : List (List Int)) (i : Nat) (r : List Int) (g : Nat) : Array Value := #[.bool (ofB V i r g 0), .bool (ofB V i r g 1), .bool (ofB V i r g 2)]
theorem ofB_zero (V : List (List Int)) (i : Nat) (r r' : List Int) (h : Nat) : ofB V i r 0 h = ofB V i r' 0 h := by simp [ofB]
theorem ofB_next {V : List (List Int)} {i : Nat} {r r' : List Int} (hr : V[i]? = some r) {h : Nat} : ofB V i r r.length h = ofB V (i + 1) r' 0 h := by
  unfold ofB
  rw [mem_take_succ hr, List.any_append]
  by_cases hh : h < r.length
  · simp [hh]
  · have : r.getD h 0 = 0 := by rw [List.getD_eq_getElem?_getD, List.getElem?_eq_none (by omega)]; rfl
    simp [hh]
theorem ofB_same {V : List (List Int)} {i : Nat} {r : List Int} {g h : Nat} (hh : h ≠ g) : ofB V i r (g + 1) h = ofB V i r g h := by
  unfold ofB
  have : decide (h < g + 1) = decide (h < g) := by rw [decide_eq_decide]; omega
  rw [this]
theorem ofB_at {V : List (List Int)} {i : Nat} {r : List Int} {g : Nat} : ofB V i r (g + 1) g = (ofB V i r g g || decide (0 < r.getD g 0)) := by
  unfold ofB
  simp
theorem ofA_set {V : List (List Int)} {i : Nat} {r : List Int} {g : Nat} (hg : g < 3) : (ofA V i r g).setIfInBounds g (.bool (ofB V i r g g || decide (0 < r.getD g 0))) = ofA V i r (g + 1) := by
  have h3 : g = 0 ∨ g = 1 ∨ g = 2 := by omega
  unfold ofA
  rcases h3 with rfl | rfl | rfl
  · rw [← ofB_at, ofB_same (g := 0) (h := 1) (by omega), ofB_same (g := 0) (h := 2) (by omega)]; rfl
  · rw [← ofB_at, ofB_same (g := 1) (h := 0) (by omega), ofB_same (g := 1) (h := 2) (by omega)]; rfl
  · rw [← ofB_at, ofB_same (g := 2) (h := 0) (by omega), ofB_same (g := 2) (h := 1) (by omega)]; rfl
theorem ofA_get {V : List (List Int)} {i : Nat} {r : List Int} {g h : Nat} (hh : h < 3) : (ofA V i r g)[h]? = some (.bool (ofB V i r g h)) := by
  have h3 : h = 0 ∨ h = 1 ∨ h = 2 := by omega
  rcases h3 with rfl | rfl | rfl <;> rfl
theorem ofA_next {V : List (List Int)} {i : Nat} {r r' : List Int} (hr : V[i]? = some r) : ofA V i r r.length = ofA V (i + 1) r' 0 := by
  unfold ofA
  rw [ofB_next hr (r' := r'), ofB_next hr (r' := r'), ofB_next hr (r' := r')]
theorem invalid_row {B : List Int} {V : List (List Int)} {i : Nat} {r : List Int} (hr : V[i]? = some r) (h : rowOk (goodsN V) r = false) : validM B V = false := by
  unfold validM
  rw [all_bad hr h, Bool.false_and, Bool.and_false, Bool.and_false]
theorem invalid_bud {B : List Int} {V : List (List Int)} {i : Nat} {b : Int} (hr : B[i]? = some b) (h : budOk b = false) : validM B V = false := by
  unfold validM
  rw [all_bad hr h, Bool.false_and, Bool.and_false, Bool.and_false, Bool.false_and]
set_option maxRecDepth 100000 in
set_option maxHeartbeats 1600000 in
theorem r4valid_any (A : Option Addr) (n c : Nat) (U : Option Addr) (m d : Nat) (B : List Int) (V : List (List Int)) (w : World) (h : MktAt w A n U m B V) (hn : n ≤ 9223372036854775807) (hm : m ≤ 9223372036854775807) (hr : ∀ r ∈ V, r.length ≤ 9223372036854775807) :
    Calls Try.prog 16 #[mktV A n c U m d] w fun e w' => e = .returned (.bool (validM B V)) ∧ Below w.heap.size w w' := by
  have hb1 : Below w.heap.size w (w.alloc (.cells #[.slice A n c, .slice U m d] 25)) := (Below.refl _ _).alloc (Nat.le_refl _) _
  have hM1 : Blk (w.alloc (.cells #[.slice A n c, .slice U m d] 25)) w.heap.size 25 #[.slice A n c, .slice U m d] := Blk.new _ _ _ rfl
  have hBn := h.hB
  have hVm := h.hV
  have H := Lib.hid (And.intro h (And.intro hb1 (And.intro hM1 (And.intro hBn (And.intro hVm hr)))))
  clear h hb1 hM1 hBn hVm hr
  unfold mktV
  go_enter Try.func16, Try.ntmps16
  have hlen : ¬ (1 ≤ n ∧ n ≤ 3 ∧ m = n) → validM B V = false := by
    intro hno
    cases hv : validM B V with
    | false => rfl
    | true =>
      obtain ⟨⟨a1, a2, _, a4⟩, _⟩ := validM_iff.1 hv
      rw [H.out.2.2.2.1, H.out.2.2.2.2.1] at *
      exact absurd ⟨a1, a2, a4⟩ hno
  have HLEN := Lib.hid hlen
  clear hlen
  by_cases h1 : (n : Int) < 1
  · have HNO := Lib.hid (HLEN.out (by omega))
    go_wp2_with fail
    go_ret
    exact ⟨by rw [HNO.out]; rfl, H.out.2.1⟩
  by_cases h2 : 3 < (n : Int)
  · have HNO := Lib.hid (HLEN.out (by omega))
    go_wp2_with fail
    go_ret
    exact ⟨by rw [HNO.out]; rfl, H.out.2.1⟩
  by_cases h3 : (m : Int) = (n : Int)
  · obtain rfl : m = n := by omega
    obtain ⟨aU, rfl, _, hcU⟩ := H.out.1.uses.some_ (by rw [H.out.1.hV]; omega)
    obtain ⟨R0, c0, hc0, _⟩ := hcU 0 _ (rowV_some (by rw [H.out.1.hV]; omega))
    have hk : (rowV V 0).length = goodsN V := rfl
    rw [hk] at hc0
    obtain ⟨k, hkk⟩ : ∃ k, k = goodsN V := ⟨_, rfl⟩
    rw [← hkk] at hc0
    have e0 : aU.add 0 = aU := by simp [Addr.add]
    rw [e0] at hc0
    have hc1 := (H.out.2.1.cell (lt_of_cell hc0)).trans hc0
    have hgood : ¬ (1 ≤ k ∧ k ≤ 3) → validM B V = false := by
      intro hno
      cases hv : validM B V with
      | false => rfl
      | true =>
        obtain ⟨_, b1, _⟩ := validM_iff.1 hv
        rw [hkk] at hno
        exact absurd b1 hno
    have HGOOD := Lib.hid hgood
    have HKK := Lib.hid hkk
    clear hgood hkk hk e0
    by_cases h4 : (k : Int) < 1
    · have HNO := Lib.hid (HGOOD.out (by omega))
      go_wp2_with fail
      go_ret
      exact ⟨by rw [HNO.out]; rfl, H.out.2.1⟩
    by_cases h5 : 3 < (k : Int)
    · have HNO := Lib.hid (HGOOD.out (by omega))
      go_wp2_with fail
      go_ret
      exact ⟨by rw [HNO.out]; rfl, H.out.2.1⟩
    obtain ⟨aB, rfl, _, hcB⟩ := H.out.1.budgets.some_ (by rw [H.out.1.hB]; omega)
    have HC := Lib.hid (And.intro hcU hcB)
    have hMm := H.out.2.2.1
    have HM := Lib.hid (And.intro hMm H.out.2.1)
    clear hcU hcB hMm
    obtain ⟨w1, hw1⟩ : ∃ w1, w1 = w.alloc (.cells #[.slice (some aB) m c, .slice (some aU) m d] 25) := ⟨_, rfl⟩
    rw [← hw1] at HM
    have hs1 : w1.heap.size = w.heap.size + 1 := by rw [hw1]; simp
    go_upto_region 6 with fail
    rw [← hw1]
    clear hw1 hc0 hc1
    have hb2 : Below w1.heap.size w1 (w1.alloc (.cells (ofA V 0 [] 0) 68)) := (Below.refl _ _).alloc (Nat.le_refl _) _
    have hO2 : Blk (w1.alloc (.cells (ofA V 0 [] 0) 68)) (w.heap.size + 1) 68 (ofA V 0 [] 0) := Blk.new _ _ _ hs1.symm
    have H2 := Lib.hid (And.intro (HM.out.1.below hb2 (by omega)) (And.intro (HM.out.2.trans (hb2.mono (by omega))) hO2))
    have h00 : ofA V 0 [] 0 = #[.bool false, .bool false, .bool false] := by simp [ofA, ofB]
    rw [h00] at H2
    clear hb2 hO2
    have HVM := Lib.hid (And.intro H.out.2.2.2.1 (And.intro H.out.2.2.2.2.1 h00))
    clear h00
    obtain ⟨n1, n2, _, _⟩ := HM.out.1.at2
    go_wp2_with fail
    clear n1 n2
    go_loopw [44] (fun iv wx => ∃ i : Nat, i ≤ m ∧ iv = .int .i64 i ∧ Blk wx (w.heap.size + 1) 68 (ofA V i [] 0) ∧ (∀ j, j < i → rowOk k (rowV V j) = true ∧ budOk (B.getD j 0) = true) ∧ Blk wx w.heap.size 25 #[.slice (some aB) m c, .slice (some aU) m d] ∧ Below w.heap.size w wx) (fun iv _ => m - (intOf iv).toNat)
    case atStart => exact ⟨0, Nat.zero_le _, rfl, by rw [HVM.out.2.2, hs1.symm]; rw [hs1]; exact H2.out.2.2, fun j hj => by omega, H2.out.1, H2.out.2.1⟩
    case round =>
      obtain ⟨i, hi, rfl, hO, hrows, hmk, hbl⟩ := hrel
      obtain ⟨wo, rfl⟩ : ∃ wo : World, wo = wr := ⟨_, rfl⟩
      have HR := Lib.hid (And.intro hO (And.intro hrows (And.intro hmk hbl)))
      obtain ⟨m1, m2, _, _⟩ := hmk.at2
      have hol := hO.lt
      clear hO hrows hmk hbl
      by_cases him : i < m
      · have hV := rowV_some (V := V) (i := i) (by rw [HVM.out.2.1]; exact him)
        obtain ⟨r, hre⟩ : ∃ r, r = rowV V i := ⟨_, rfl⟩
        rw [← hre] at hV
        obtain ⟨R, cr, hc1, hcr, hcr2, hI⟩ := HC.out.1 i r hV
        have c1 := (HR.out.2.2.2.cell (lt_of_cell hc1)).trans hc1
        obtain ⟨bx, hbx⟩ : ∃ b, B[i]? = some b := ⟨_, List.getElem?_eq_getElem (by rw [HVM.out.1]; exact him)⟩
        have hc2 := HC.out.2 i bx hbx
        have c2 := (HR.out.2.2.2.cell (lt_of_cell hc2)).trans hc2
        have hbg : B.getD i 0 = bx := by rw [List.getD_eq_getElem?_getD, hbx]; rfl
        obtain ⟨rl, hrl⟩ : ∃ rl, rl = r.length := ⟨_, rfl⟩
        rw [← hrl] at c1
        have HI := Lib.hid (And.intro hV (And.intro hI (And.intro hbx (And.intro hbg (And.intro hrl hre)))))
        clear hc1 hc2 hV hI hbx hbg hrl hre
        by_cases e1 : (rl : Int) = (k : Int)
        · by_cases e2 : bx < 1
          · have HNO : Hid (validM B V = false) := Lib.hid (invalid_bud HI.out.2.2.1 (by unfold budOk; rw [decide_eq_false (by omega)]; rfl))
            go_wp2_with fail
            go_ret
            exact ⟨by rw [HNO.out]; rfl, HR.out.2.2.2⟩
          by_cases e3 : 20 < bx
          · have HNO : Hid (validM B V = false) := Lib.hid (invalid_bud HI.out.2.2.1 (by unfold budOk; rw [decide_eq_false (show ¬ bx ≤ 20 by omega), Bool.and_false]))
            go_wp2_with fail
            go_ret
            exact ⟨by rw [HNO.out]; rfl, HR.out.2.2.2⟩
          obtain rfl : rl = k := by omega
          have HBD : Hid (budOk (B.getD i 0) = true) := Lib.hid (by rw [HI.out.2.2.2.1]; unfold budOk; rw [decide_eq_true (show 1 ≤ bx by omega), decide_eq_true (show bx ≤ 20 by omega)]; rfl)
          go_wp2_with fail
          go_loopw [71, 7] (fun gv sv wx => ∃ g : Nat, g ≤ rl ∧ gv = .int .i64 g ∧ sv = .bool ((r.take g).any fun x => decide (0 < x)) ∧ (r.take g).all in20 = true ∧ Blk wx (w.heap.size + 1) 68 (ofA V i r g) ∧ Blk wx w.heap.size 25 #[.slice (some aB) m c, .slice (some aU) m d] ∧ Below w.heap.size w wx) (fun gv _ _ => rl - (intOf gv).toNat)
          case atStart => exact ⟨0, Nat.zero_le _, rfl, rfl, rfl, by
            have h := HR.out.1
            unfold ofA at h ⊢
            rw [ofB_zero V i [] r, ofB_zero V i [] r, ofB_zero V i [] r] at h
            exact h, HR.out.2.2.1, HR.out.2.2.2⟩
          case round =>
            obtain ⟨g, hg, rfl, rfl, hall, hO, hmk, hbl⟩ := hrel
            obtain ⟨wl, rfl⟩ : ∃ wl : World, wl = wr := ⟨_, rfl⟩
            have HL := Lib.hid (And.intro hall (And.intro hO (And.intro hmk hbl)))
            have hol2 := hO.lt
            clear hall hO hmk hbl
            by_cases hgk : g < rl
            · obtain ⟨aR, rfl, _, hcR⟩ := HI.out.2.1.some_ (by rw [← HI.out.2.2.2.2.1]; omega)
              obtain ⟨x, hx⟩ : ∃ x, r[g]? = some x := ⟨_, List.getElem?_eq_getElem (by rw [← HI.out.2.2.2.2.1]; exact hgk)⟩
              have hc3 := hcR g x hx
              have c3 := (HL.out.2.2.2.cell (lt_of_cell hc3)).trans hc3
              have hxg : r.getD g 0 = x := by rw [List.getD_eq_getElem?_getD, hx]; rfl
              have o1 := (Blk.cell HL.out.2.1 g).trans (ofA_get (V := V) (i := i) (r := r) (g := g) (h := g) (by omega))
              have o2 := HL.out.2.1.frozen g
              have hxm := List.mem_of_getElem? hx
              have HX := Lib.hid (And.intro hx (And.intro hxg hxm))
              clear hcR hc3 hx hxg hxm
              by_cases e4 : x < 0
              · have HNO : Hid (validM B V = false) := Lib.hid (invalid_row HI.out.1 (by
                  cases hro : rowOk (goodsN V) r with
                  | false => rfl
                  | true => have := (rowOk_iff.1 hro).2.1 x HX.out.2.2; omega))
                go_wp2_with fail
                go_ret
                exact ⟨by rw [HNO.out]; rfl, HL.out.2.2.2⟩
              by_cases e5 : 20 < x
              · have HNO : Hid (validM B V = false) := Lib.hid (invalid_row HI.out.1 (by
                  cases hro : rowOk (goodsN V) r with
                  | false => rfl
                  | true => have := (rowOk_iff.1 hro).2.1 x HX.out.2.2; omega))
                go_wp2_with fail
                go_ret
                exact ⟨by rw [HNO.out]; rfl, HL.out.2.2.2⟩
              have HIN : Hid (in20 x = true) := Lib.hid (by unfold in20; rw [decide_eq_true (show 0 ≤ x by omega), decide_eq_true (show x ≤ 20 by omega)]; rfl)
              obtain ⟨sb, hsb⟩ : ∃ sb, sb = (r.take g).any fun x => decide (0 < x) := ⟨_, rfl⟩
              obtain ⟨obt, hob⟩ : ∃ ob, ob = ofB V i r g g := ⟨_, rfl⟩
              rw [← hob] at o1
              rw [← hsb]
              have HSB := Lib.hid (And.intro hsb hob)
              have HANY : Hid (((r.take (g + 1)).any fun x => decide (0 < x)) = (sb || decide (0 < x))) := Lib.hid (by
                rw [mem_take_succ HX.out.1, List.any_append, ← hsb]; simp)
              have HSET : Hid (Blk (wl.setCell ⟨w.heap.size + 1, g, none⟩ (.bool (obt || decide (0 < x)))) (w.heap.size + 1) 68 (ofA V i r (g + 1))) := Lib.hid (by
                have h := HL.out.2.1.set_ g (.bool (obt || decide (0 < x)))
                rw [hob] at h ⊢
                have h2 := ofA_set (V := V) (i := i) (r := r) (g := g) (by omega)
                rw [HX.out.2.1] at h2
                rw [h2] at h
                exact h)
              clear hsb hob HSB
              have hgi : (g : Int) < 3 := by omega
              cases sb <;> cases obt
              all_goals
                go_wp2_with fail
                go_roundw
                case rel => exact ⟨g + 1, by omega, by go_num, by rw [HANY.out]; rfl, all_take_s HX.out.1 HL.out.1 HIN.out, HSET.out, HL.out.2.2.1.far (by simp) _, HL.out.2.2.2.setCell (by simp) _⟩
                case measure => simp [intOf]; omega
            · obtain rfl : rl = g := by omega
              have ht : r.take rl = r := List.take_of_length_le (by rw [← HI.out.2.2.2.2.1]; exact Nat.le_refl _)
              have hall := HL.out.1
              rw [ht] at hall ⊢
              have hO := HL.out.2.1
              have hrl := HI.out.2.2.2.2.1
              rw [hrl, ofA_next HI.out.1 (r' := [])] at hO
              have HO := Lib.hid (And.intro hO hall)
              cases hsm : r.any fun x => decide (0 < x) with
              | false =>
                have HNO : Hid (validM B V = false) := Lib.hid (invalid_row HI.out.1 (by unfold rowOk; rw [hsm, Bool.and_false, Bool.and_false]))
                clear hO hall ht hrl hsm
                go_wp2_with fail
                go_ret
                exact ⟨by rw [HNO.out]; rfl, HL.out.2.2.2⟩
              | true =>
                have HRO : Hid (rowOk rl (rowV V i) = true) := Lib.hid (by
                  rw [← HI.out.2.2.2.2.2]
                  unfold rowOk
                  rw [decide_eq_true hrl.symm, hall, hsm]; rfl)
                clear hO hall ht hrl hsm
                go_wp2_with fail
                go_roundw
                case rel =>
                  refine ⟨i + 1, by omega, by go_num, HO.out.1, fun j hj => ?_, HL.out.2.2.1, HL.out.2.2.2⟩
                  rcases Nat.lt_or_ge j i with h8 | h8
                  · exact HR.out.2.1 j h8
                  · rw [show j = i by omega]; exact ⟨HRO.out, HBD.out⟩
                case measure => simp [intOf]; omega
        · have HNO : Hid (validM B V = false) := Lib.hid (invalid_row HI.out.1 (by
            cases hro : rowOk (goodsN V) r with
            | false => rfl
            | true =>
              have := (rowOk_iff.1 hro).1
              rw [← HI.out.2.2.2.2.1, ← HKK.out] at this
              omega))
          go_wp2_with fail
          go_ret
          exact ⟨by rw [HNO.out]; rfl, HR.out.2.2.2⟩
      · obtain rfl : m = i := by omega
        have HT : Hid (V.take m = V) := Lib.hid (List.take_of_length_le (by rw [HVM.out.2.1]; exact Nat.le_refl _))
        have hwant : ∀ g, ofB V m [] 0 g = wanted V g := fun g => by
          unfold ofB wanted
          rw [HT.out]; simp
        have HWANT := Lib.hid hwant
        clear hwant
        go_wp2_with fail
        go_loopw [101] (fun gv wx => ∃ g : Nat, g ≤ k ∧ gv = .int .i64 g ∧ (∀ h, h < g → wanted V h = true) ∧ wx = wo) (fun gv _ => k - (intOf gv).toNat)
        case atStart => exact ⟨0, Nat.zero_le _, rfl, fun h hh => by omega, rfl⟩
        case round =>
          obtain ⟨g, hg, rfl, hw, rfl⟩ := hrel
          have HW := Lib.hid hw
          clear hw
          by_cases hgk : g < k
          · have o1 := (Blk.cell HR.out.1 g).trans (ofA_get (V := V) (i := m) (r := []) (g := 0) (h := g) (by omega))
            rw [HWANT.out] at o1
            have hgi : (g : Int) < 3 := by omega
            cases hwg : wanted V g with
            | false =>
              rw [hwg] at o1
              have HNO : Hid (validM B V = false) := Lib.hid (by
                cases hv : validM B V with
                | false => rfl
                | true =>
                  have := (validM_iff.1 hv).2.2.2 g (by rw [← HKK.out]; exact hgk)
                  rw [hwg] at this
                  cases this)
              clear hwg
              go_wp2_with fail
              go_ret
              exact ⟨by rw [HNO.out]; rfl, HR.out.2.2.2⟩
            | true =>
              rw [hwg] at o1
              have HG := Lib.hid hwg
              clear hwg
              go_wp2_with fail
              go_roundw
              case rel =>
                refine ⟨g + 1, by omega, by go_num, fun h hh => ?_, trivial⟩
                rcases Nat.lt_or_ge h g with h8 | h8
                · exact HW.out h h8
                · rw [show h = g by omega]; exact HG.out
              case measure => simp [intOf]; omega
          · obtain rfl : k = g := by omega
            have HYES : Hid (validM B V = true) := Lib.hid (by
              rw [validM_iff]
              refine ⟨⟨by rw [HVM.out.1]; omega, by rw [HVM.out.1]; omega, fun b hb => ?_, by rw [HVM.out.1, HVM.out.2.1]⟩, by rw [← HKK.out]; omega, fun r hr => ?_, fun g hg => HW.out g (by rw [HKK.out]; exact hg)⟩
              · obtain ⟨j, hj⟩ := List.getElem?_of_mem hb
                have hjl := (List.getElem?_eq_some_iff.1 hj).1
                have := (HR.out.2.1 j (by rw [← HVM.out.1]; exact hjl)).2
                rw [List.getD_eq_getElem?_getD, hj] at this
                unfold budOk at this
                simp only [Option.getD_some, Bool.and_eq_true, decide_eq_true_eq] at this
                exact this
              · obtain ⟨j, hj⟩ := List.getElem?_of_mem hr
                have hjl := (List.getElem?_eq_some_iff.1 hj).1
                have := (HR.out.2.1 j (by rw [← HVM.out.2.1]; exact hjl)).1
                rw [rowV_get hj] at this
                rw [← HKK.out]
                exact this)
            go_wp2_with fail
            go_ret
            exact ⟨by rw [HYES.out]; rfl, HR.out.2.2.2⟩
  · have HNO := Lib.hid (HLEN.out (by omega))
    go_wp2_with fail
    go_ret
    exact ⟨by rw [HNO.out]; rfl, H.out.2.1⟩

/- The functions of package market, called with what Of has made. -/

theorem take_of_le {α : Type} {l : List α} (h : (l.take 6).length ≤ 3) : l.take 6 = l := by
  rw [List.length_take] at h
  exact List.take_of_length_le (by omega)
theorem of_same {B : List Int} {V : List (List Int)} (h : validM (B.take 6) (ofV V) = true ∨ validM B V = true) : B.take 6 = B ∧ ofV V = V := by
  rcases h with h | h
  · obtain ⟨⟨a1, a2, a3, a4⟩, b1, b2, b3⟩ := validM_iff.1 h
    refine ⟨take_of_le a2, ?_⟩
    have hl : (V.take 6).length ≤ 3 := by
      have : (ofV V).length = (V.take 6).length := by simp [ofV]
      omega
    have hV := take_of_le hl
    unfold ofV at b2 ⊢
    rw [hV] at b2 ⊢
    conv => rhs; rw [← List.map_id V]
    refine List.map_congr_left fun r hr => ?_
    have h1 := (rowOk_iff.1 (b2 (r.take 6) (List.mem_map.2 ⟨r, hr, rfl⟩))).1
    have h2 : goodsN (V.map (·.take 6)) ≤ 3 := by
      have := b1.2
      unfold ofV at this
      rwa [hV] at this
    exact take_of_le (by rw [h1]; exact h2)
  · obtain ⟨⟨a1, a2, a3, a4⟩, b1, b2, b3⟩ := validM_iff.1 h
    refine ⟨List.take_of_length_le (by omega), ?_⟩
    unfold ofV
    rw [List.take_of_length_le (l := V) (by omega)]
    conv => rhs; rw [← List.map_id V]
    refine List.map_congr_left fun r hr => ?_
    have h1 := (rowOk_iff.1 (b2 r hr)).1
    exact List.take_of_length_le (by omega)
theorem valid_of (B : List Int) (V : List (List Int)) : validM (B.take 6) (ofV V) = validM B V := by
  cases h : validM (B.take 6) (ofV V) with
  | true =>
    obtain ⟨e1, e2⟩ := of_same (.inl h)
    rw [e1, e2] at h
    exact h.symm
  | false =>
    cases h2 : validM B V with
    | false => rfl
    | true =>
      obtain ⟨e1, e2⟩ := of_same (.inr h2)
      rw [e1, e2, h2] at h
      cases h
theorem prF_of (B : List Int) (V : List (List Int)) : prF (B.take 6) (ofV V) = prF B V := by
  unfold prF
  rw [valid_of]
  by_cases h : validM B V = true
  · obtain ⟨e1, e2⟩ := of_same (.inr h)
    rw [e1, e2]
  · rw [if_neg h, if_neg h]
theorem wantF_of (B : List Int) (V : List (List Int)) (ps : List (Int × Int)) : wantF (B.take 6) (ofV V) ps = wantF B V ps := by
  unfold wantF
  rw [valid_of]
  by_cases h : validM B V = true
  · obtain ⟨e1, e2⟩ := of_same (.inr h)
    rw [e1, e2]
  · rw [show validM B V = false by simpa using h]
    rfl
section
variable {w w2 : World} {A U : Option Addr} {n c q d b5 : Nat} {vs : List Value} {B : List Int} {V : List (List Int)}
theorem OfMem.sizes (h : OfMem w w2 A n c U q d b5 vs B V) : n ≤ 6 ∧ q ≤ 6 := by
  have := h.ln
  have := h.lq
  rw [List.length_take] at *
  rw [ofV_length] at *
  omega
theorem of_prices (h : OfMem w w2 A n c U q d b5 vs B V) : Calls Try.prog 14 #[.agg #[.slice A n c, .slice U q d]] w2 (PricesPost B V w2) := by
  have h1 := mprices_any A n c U q d (B.take 6) (ofV V) w2 h.mkt (by have := h.sizes; omega) (by have := h.sizes; omega) (ofV_rows V) (found_any _ _)
  unfold PricesPost at h1 ⊢
  rw [prF_of] at h1
  exact h1
theorem of_spend (h : OfMem w w2 A n c U q d b5 vs B V) : Calls Try.prog 23 #[.agg #[.slice A n c, .slice U q d]] w2 (SpendPost B V w2) := by
  have h1 := mspend_any A n c U q d (B.take 6) (ofV V) w2 h.mkt (by have := h.sizes; omega) (by have := h.sizes; omega) (ofV_rows V) (found_any _ _)
  unfold SpendPost at h1 ⊢
  rw [prF_of] at h1
  exact h1
theorem of_worth (h : OfMem w w2 A n c U q d b5 vs B V) : Calls Try.prog 27 #[.agg #[.slice A n c, .slice U q d]] w2 (WorthPost B V w2) := by
  have h1 := mworth_any A n c U q d (B.take 6) (ofV V) w2 h.mkt (by have := h.sizes; omega) (by have := h.sizes; omega) (ofV_rows V) (found_any _ _)
  unfold WorthPost at h1 ⊢
  rw [prF_of] at h1
  refine h1.mono fun e w' ⟨h2, h3⟩ => ⟨h2, ?_⟩
  cases hp : prF B V with
  | none => rw [hp] at h3; exact h3
  | some r =>
    rw [hp] at h3
    obtain ⟨e1, e2⟩ := of_same (.inr (prF_ok hp).1)
    rw [e1, e2] at h3
    exact h3
theorem of_want (h : OfMem w w2 A n c U q d b5 vs B V) {w3 : World} (hb : Below w2.heap.size w2 w3) (P : Option Addr) (lp cp : Nat) (ps : List (Int × Int)) (hP : Prs w3 P ps) (hl : ps.length = lp) (hl2 : lp ≤ 1000) (hi : I64s ps) : Calls Try.prog 32 #[.agg #[.slice A n c, .slice U q d], .slice P lp cp] w3 (WantPost B V ps w3) := by
  have h1 := mwant_any A n c U q d P lp cp (B.take 6) (ofV V) ps w3 (h.mkt.below hb) (by have := h.sizes; omega) (by have := h.sizes; omega) (ofV_rows V) hP hl hl2 hi
  unfold WantPost at h1 ⊢
  rw [wantF_of] at h1
  exact h1
theorem of_check (h : OfMem w w2 A n c U q d b5 vs B V) {w3 : World} (hb : Below w2.heap.size w2 w3) (P : Option Addr) (lp cp : Nat) (ps : List (Int × Int)) (S : Option Addr) (ls cs : Nat) (L : List (List (Int × Int))) (hP : Prs w3 P ps) (hl : ps.length = lp) (hl2 : lp ≤ 1000) (hi : I64s ps)
    (hS : PMat w3 S L) (hls : L.length = ls) (hls2 : ls ≤ 1000) (hsi : ∀ r ∈ L, I64s r) (hsl : ∀ r ∈ L, r.length ≤ 1000) :
    Calls Try.prog 36 #[.agg #[.slice A n c, .slice U q d], .slice P lp cp, .slice S ls cs] w3 (CheckPost B V ps L w3) := by
  have h1 := mcheck_any A n c U q d P lp cp S ls cs (B.take 6) (ofV V) ps L w3 (h.mkt.below hb) (by have := h.sizes; omega) (by have := h.sizes; omega) (ofV_rows V) hP hl hl2 hi hS hls hls2 hsi hsl
  refine h1.mono fun e w' ⟨h2, h3⟩ => ⟨h2, ?_⟩
  rw [h3, valid_of]
  by_cases hv : validM B V = true
  · obtain ⟨e1, e2⟩ := of_same (.inr hv)
    rw [e1, e2]
  · rw [if_neg hv, if_neg hv]
end
/-- The boxed market, and all that was there before. -/
def Ch (W w : World) (mk : Array Value) : Prop := Blk w W.heap.size 25 mk ∧ Below W.heap.size W w
theorem Ch.start (W : World) (A : Option Addr) (n c : Nat) (U : Option Addr) (m d : Nat) : Ch W (W.alloc (.cells #[.slice A n c, .slice U m d] 25)) #[.slice A n c, .slice U m d] := ⟨Blk.new _ _ _ rfl, (Below.refl _ _).alloc (Nat.le_refl _) _⟩
theorem Ch.next {W w w' : World} {mk : Array Value} (h : Ch W w mk) (hb : Below w.heap.size w w') : Ch W w' mk := ⟨h.1.below hb h.1.lt, h.2.trans (hb.mono h.2.size)⟩
theorem OfMem.below' {w w2 : World} {A U : Option Addr} {n c q d b5 : Nat} {vs : List Value} {B : List Int} {V : List (List Int)} (h : OfMem w w2 A n c U q d b5 vs B V) : Below w.heap.size w w2 := h.below
/-- The boxed market: its reading. -/
theorem MktArg.below {w w' : World} {A U : Option Addr} {n c m d : Nat} {B : List Int} {V : List (List Int)} (h : MktArg w A n c U m d B V) (hb : Below w.heap.size w w') : MktArg w' A n c U m d B V := { h with mkt := h.mkt.below hb }
theorem MktArg.of {w : World} {A U : Option Addr} {n c m d : Nat} {B : List Int} {V : List (List Int)} (h : MktArg w A n c U m d B V) :
    Calls Try.prog 15 #[.agg #[.slice A n c, .slice U m d]] w fun e w' => ∃ A' n' c' U' q d' b5 vs, e = .returned (.agg #[.slice A' n' c', .slice U' q d']) ∧ OfMem w w' A' n' c' U' q d' b5 vs B V :=
  l4of_any A n c U m d B V w h.mkt h.hc.1 h.hc.2 (by have := h.hd; omega)
theorem MktArg.valid {w : World} {A U : Option Addr} {n c m d : Nat} {B : List Int} {V : List (List Int)} (h : MktArg w A n c U m d B V) :
    Calls Try.prog 16 #[.agg #[.slice A n c, .slice U m d]] w fun e w' => e = .returned (.bool (validM B V)) ∧ Below w.heap.size w w' :=
  r4valid_any A n c U m d B V w h.mkt (by have := h.hc; omega) (by have := h.hd; omega) h.hr

/- MarketBest: the walk. -/

theorem prices_okF {r : List Rat} (h : ∀ q ∈ r, PrS q) : (r.map pr).all (okF 1) = true := by
  rw [List.all_eq_true]
  intro x hx
  obtain ⟨q, hq, rfl⟩ := List.mem_map.1 hx
  obtain ⟨a1, a2, a3⟩ := h q hq
  have hd := den_pos q
  exact okF_iff.2 ⟨a1, by omega, by omega, by omega, rat_lowest q⟩
theorem toQ_of_pr (r : List Rat) : toQ (r.map pr) = r := by
  unfold toQ
  rw [List.map_map]
  conv => rhs; rw [← List.map_id r]
  refine List.map_congr_left fun q _ => ?_
  exact Rat.num_divInt_den q
theorem prices_i64 {r : List Rat} (h : ∀ q ∈ r, PrS q) : I64s (r.map pr) := by
  intro x hx
  obtain ⟨q, hq, rfl⟩ := List.mem_map.1 hx
  obtain ⟨a1, a2, a3⟩ := h q hq
  have hd := den_pos q
  simp only [pr]
  omega
theorem want_prices {B : List Int} {V : List (List Int)} {r : List Rat × List (List Rat)} (h : prF B V = some r) : wantF B V (r.1.map pr) = some ((List.range B.length).map fun i => wantS (rowV V i) r.1) := by
  obtain ⟨hv, hs⟩ := prF_ok h
  unfold wantF prsOk
  rw [hv, prices_okF hs.ps, List.length_map, decide_eq_true hs.lp, toQ_of_pr]
  rfl
/-- All that is wanted by the first i. -/
def orW (V : List (List Int)) (p : List Rat) : Nat → Nat
  | 0 => 0
  | i + 1 => orW V p i ||| wantS (rowV V i) p
theorem orW_bit (V : List (List Int)) (p : List Rat) (n g : Nat) : (orW V p n).testBit g = true ↔ ∃ i, i < n ∧ (wantS (rowV V i) p).testBit g = true := by
  induction n with
  | zero => simp [orW]
  | succ n ih =>
    simp only [orW, Nat.testBit_or, Bool.or_eq_true, ih]
    constructor
    · rintro (⟨i, h1, h2⟩ | h)
      · exact ⟨i, by omega, h2⟩
      · exact ⟨n, by omega, h⟩
    · rintro ⟨i, h1, h2⟩
      rcases Nat.lt_or_ge i n with h3 | h3
      · exact .inl ⟨i, h3, h2⟩
      · exact .inr (by rw [show n = i by omega]; exact h2)
section
variable {B : List Int} {V : List (List Int)} {r : List Rat × List (List Rat)}
theorem want_lt (h : prF B V = some r) {i : Nat} (hi : i < B.length) : wantS (rowV V i) r.1 < 2 ^ goodsN V := by
  obtain ⟨hv, hs⟩ := prF_ok h
  obtain ⟨_, h2, _⟩ := mkOk_of hv
  have := wTo_lt (rowV V i) r.1 (rowV V i).length
  rw [h2 i hi] at this
  unfold wantS
  rw [h2 i hi]
  exact this
theorem orW_lt (h : prF B V = some r) : ∀ i, i ≤ B.length → orW V r.1 i < 2 ^ goodsN V
  | 0, _ => Nat.two_pow_pos _
  | i + 1, hi => Nat.or_lt_two_pow (orW_lt h i (by omega)) (want_lt h (by omega))
theorem spent_bit (h : prF B V = some r) {i g : Nat} (hi : i < B.length) (hg : g < goodsN V) (hs : 0 < (spd r.2 i g).num) : (wantS (rowV V i) r.1).testBit g = true := by
  obtain ⟨hv, hso⟩ := prF_ok h
  obtain ⟨_, h2, h3⟩ := mkOk_of hv
  have hE := hso.equi hv
  have hpos : ∀ q ∈ r.1, 0 < q := fun q hq => (hso.ps q hq).ok.pos
  refine (want_iff hso.lp hpos (h2 i hi) (fun g => (h3 i g).1) hg).2 (hE.want i g hi hg fun h0 => ?_)
  rw [h0] at hs
  exact absurd hs (by decide)
theorem orW_all (h : prF B V = some r) : orW V r.1 B.length = 2 ^ goodsN V - 1 := by
  obtain ⟨hv, hso⟩ := prF_ok h
  have hE := hso.equi hv
  apply Nat.eq_of_testBit_eq
  intro g
  rw [Nat.testBit_two_pow_sub_one]
  by_cases hg : g < goodsN V
  · rw [decide_eq_true hg, orW_bit]
    have hex : ∃ i, i < B.length ∧ 0 < spd r.2 i g := by
      by_cases hx : ∃ i, i < B.length ∧ 0 < spd r.2 i g
      · exact hx
      · exfalso
        have h1 := hE.col g hg
        rw [sumQ_zero fun i hi => by
          have h2 := hE.nn i g hi hg
          by_cases h3 : 0 < spd r.2 i g
          · exact absurd ⟨i, hi, h3⟩ hx
          · grind] at h1
        have := hE.pos g hg
        grind
    obtain ⟨i, hi, h0⟩ := hex
    refine ⟨i, hi, spent_bit h hi hg ?_⟩
    have h1 := Rat.num_nonneg.2 (Rat.le_of_lt h0)
    have h2 : (spd r.2 i g).num ≠ 0 := fun h3 => by
      have := Rat.num_eq_zero.1 h3
      grind
    omega
  · rw [decide_eq_false hg]
    exact Nat.testBit_lt_two_pow (Nat.lt_of_lt_of_le (orW_lt h B.length (Nat.le_refl _)) (Nat.pow_le_pow_right (by omega) (by omega)))
end
set_option maxRecDepth 100000 in
set_option maxHeartbeats 4000000 in
theorem law_mbest (A : Option Addr) (n c : Nat) (U : Option Addr) (m d : Nat) (B : List Int) (V : List (List Int)) (W : World) (hK : MktArg W A n c U m d B V) :
    Calls Try.prog 12 #[mktV A n c U m d] W fun e w' => e = .returned (.bool true) ∧ Below W.heap.size W w' := by
  have hC1 := Ch.start W A n c U m d
  obtain ⟨w1, hw1⟩ : ∃ w1, w1 = W.alloc (.cells #[.slice A n c, .slice U m d] 25) := ⟨_, rfl⟩
  rw [← hw1] at hC1
  have HK := Lib.hid hK
  have HC1 := Lib.hid hC1
  obtain ⟨m1, m2, _, _⟩ := hC1.1.at2
  clear hK hC1
  unfold mktV
  go_enter Try.func12, Try.ntmps12
  go_wp2_with fail
  rw [← hw1]
  clear hw1
  refine ((HK.out.below HC1.out.2).of).mono ?_
  rintro e w2 ⟨A2, n2, c2, U2, q2, d2, b2, vs2, rfl, hO2⟩
  have HC2 := Lib.hid (HC1.out.next hO2.below)
  have HO2 := Lib.hid hO2
  clear hO2 m1 m2
  go_wp2_with fail
  refine (of_prices HO2.out).mono ?_
  intro ev w3 hpost
  unfold PricesPost at hpost
  obtain ⟨hb3, hpost⟩ := hpost
  have HC3 := Lib.hid (HC2.out.next hb3)
  clear hb3
  obtain ⟨m1, m2, _, _⟩ := HC3.out.1.at2
  cases hp : prF B V with
  | none =>
    rw [hp] at hpost
    subst hpost
    have HP := Lib.hid hp
    clear hp
    go_wp2_with fail
    refine ((HK.out.below HC3.out.2).of).mono ?_
    rintro e w4 ⟨A4, n4, c4, U4, q4, d4, b4, vs4, rfl, hO4⟩
    have HC4 := Lib.hid (HC3.out.next hO4.below)
    have HO4 := Lib.hid hO4
    clear hO4 m1 m2
    go_wp2_with fail
    refine (of_spend HO4.out).mono ?_
    intro ev w5 hpost
    unfold SpendPost at hpost
    rw [HP.out] at hpost
    obtain ⟨hb5, rfl⟩ := hpost
    have HC5 := Lib.hid (HC4.out.next hb5)
    clear hb5
    go_wp2_with fail
    refine (l4awake_any _).mono ?_
    rintro e w6 ⟨rfl, hb6⟩
    have HC6 := Lib.hid (HC5.out.next hb6)
    clear hb6
    go_wp2_with fail
    go_ret
    exact ⟨rfl, HC6.out.2⟩
  | some r =>
    rw [hp] at hpost
    obtain ⟨PA, pc, rfl, hown3⟩ := hpost
    have hpr := prF_ok hp
    have hpl := hpr.2.lp
    have hg3 := (validM_iff.1 hpr.1).2.1
    have hn3 := (validM_iff.1 hpr.1).1
    obtain ⟨k, hk⟩ : ∃ k, k = goodsN V := ⟨_, rfl⟩
    rw [← hk] at hg3 hpl
    have hfr3 := Fracs.of_cells (At.of_own hown3)
    have HP := Lib.hid (And.intro hp (And.intro hpr (And.intro hpl (And.intro hk hn3))))
    have HF3 := Lib.hid hfr3
    rw [hpl]
    clear hp hpr hpl hk hown3 hfr3 hn3
    go_wp2_with fail
    refine ((HK.out.below HC3.out.2).of).mono ?_
    rintro e w4 ⟨A4, n4, c4, U4, q4, d4, b4, vs4, rfl, hO4⟩
    have HC4 := Lib.hid (HC3.out.next hO4.below)
    have HO4 := Lib.hid hO4
    have HF4 := Lib.hid (HF3.out.below hO4.below')
    clear hO4 m1 m2
    go_wp2_with fail
    refine (of_spend HO4.out).mono ?_
    intro ev w5 hpost
    unfold SpendPost at hpost
    rw [HP.out.1] at hpost
    obtain ⟨hb5, SA, sc, rfl, hm5⟩ := hpost
    have HC5 := Lib.hid (HC4.out.next hb5)
    have HF5 := Lib.hid (And.intro (HF4.out.below hb5) hm5)
    obtain ⟨sl, hsl⟩ : ∃ sl, sl = r.2.length := ⟨_, rfl⟩
    rw [← hsl]
    have HSL := Lib.hid (And.intro hsl (hsl.trans HP.out.2.1.2.ls))
    obtain ⟨m1, m2, _, _⟩ := HC5.out.1.at2
    clear hb5 hm5 hsl
    go_wp2_with fail
    refine ((HK.out.below HC5.out.2).of).mono ?_
    rintro e w6 ⟨A6, n6, c6, U6, q6, d6, b6, vs6, rfl, hO6⟩
    have HC6 := Lib.hid (HC5.out.next hO6.below)
    have HO6 := Lib.hid hO6
    have HF6 := Lib.hid (And.intro (HF5.out.1.below hO6.below') (HF5.out.2.below hO6.below'))
    clear hO6 m1 m2
    have HWA : Hid (Calls Try.prog 32 #[.agg #[.slice A6 n6 c6, .slice U6 q6 d6], .slice PA k pc] w6 (WantPost B V (r.1.map pr) w6)) := Lib.hid (of_want HO6.out (Below.refl _ _) PA k pc (r.1.map pr) HF6.out.1 (by rw [List.length_map]; exact HP.out.2.2.1) (by omega) (prices_i64 HP.out.2.1.2.ps))
    go_wp2_with fail
    refine HWA.out.mono ?_
    intro ev w7 hpost
    unfold WantPost at hpost
    rw [want_prices HP.out.1] at hpost
    obtain ⟨hb7, WA, wc', rfl, hat7⟩ := hpost
    have HC7 := Lib.hid (HC6.out.next hb7)
    have HF7 := Lib.hid (And.intro (HF6.out.1.below hb7) (And.intro (HF6.out.2.below hb7) hat7))
    have hnB := HK.out.mkt.hB
    obtain ⟨m1, m2, _, _⟩ := HC7.out.1.at2
    have e1 : ((List.range B.length).map fun i => wantS (rowV V i) r.1).length = n := by rw [List.length_map, List.length_range]; exact hnB
    rw [e1]
    have hsn : sl = n := HSL.out.2.trans hnB
    subst hsn
    have hsl3 : sl ≤ 3 := by have := HP.out.2.2.2.2; omega
    clear hb7 hat7 e1 HWA
    go_wp2_with fail
    clear m1 m2
    go_loopw [9, 67] (fun av iv wx => ∃ i : Nat, i ≤ sl ∧ iv = .int .i64 i ∧ av = .int .i64 ((orW V r.1 i : Nat) : Int) ∧ Below w7.heap.size w7 wx) (fun _ iv _ => sl - (intOf iv).toNat)
    case atStart => exact ⟨0, Nat.zero_le _, rfl, rfl, Below.refl _ _⟩
    case round =>
      obtain ⟨i, hi, rfl, rfl, hbl⟩ := hrel
      obtain ⟨wo, rfl⟩ : ∃ wo : World, wo = wr := ⟨_, rfl⟩
      have HR := Lib.hid hbl
      clear hbl
      by_cases hin : i < sl
      · obtain ⟨x, hx⟩ : ∃ x, r.2[i]? = some x := ⟨_, List.getElem?_eq_getElem (by rw [← HSL.out.1]; exact hin)⟩
        obtain ⟨aS, A8, c8, hA, hc, hF⟩ := HF7.out.2.1 i x hx
        subst hA
        have hxl := HP.out.2.1.2.lr x (List.mem_of_getElem? hx)
        rw [← HP.out.2.2.2.1] at hxl
        have c1 := (HR.out.cell (lt_of_cell hc)).trans hc
        rw [hxl] at c1
        obtain ⟨ws, hws⟩ : ∃ ws, ws = wantS (rowV V i) r.1 := ⟨_, rfl⟩
        have hiB : i < B.length := by rw [hnB]; exact hin
        have hwg : ((List.range B.length).map fun i => wantS (rowV V i) r.1).map (fun (s : Nat) => Value.int .i64 (s : Int)) = ((List.range B.length).map fun i => Value.int .i64 ((wantS (rowV V i) r.1 : Nat) : Int)) := by rw [List.map_map]; rfl
        have hat := HF7.out.2.2
        rw [hwg] at hat
        obtain ⟨aW, hWA, hcW⟩ := hat i (.int .i64 ((wantS (rowV V i) r.1 : Nat) : Int)) (by rw [List.getElem?_map, List.getElem?_range hiB]; rfl)
        rw [← hws] at hcW
        subst hWA
        have c2' := (HR.out.cell (lt_of_cell hcW)).trans hcW
        have hwl := want_lt HP.out.1 hiB
        rw [← hws, ← HP.out.2.2.2.1] at hwl
        have hol := orW_lt HP.out.1 i (by omega)
        rw [← HP.out.2.2.2.1] at hol
        have h8 : (2 : Nat) ^ k ≤ 8 := by
          have : k = 1 ∨ k = 2 ∨ k = 3 := by omega
          rcases this with rfl | rfl | rfl <;> decide
        have hor := or_nat (orW V r.1 i) ws (by omega) (by omega)
        have hnx : orW V r.1 (i + 1) = orW V r.1 i ||| ws := by rw [hws]; rfl
        have hsx : ∀ g, spd r.2 i g = x.getD g 0 := fun g => by unfold spd rowQ; rw [List.getD_eq_getElem?_getD (l := r.2), hx]; rfl
        have HX := Lib.hid (And.intro hxl (And.intro hF (And.intro hsx (And.intro hws hnx))))
        obtain ⟨st, hst⟩ : ∃ s, s = orW V r.1 i := ⟨_, rfl⟩
        rw [← hst] at hor HX hol ⊢
        clear hx hc hF hxl hwg hat hcW hsx hws hnx hst
        go_wp2_with fail
        go_loopw [74] (fun gv wx => ∃ g : Nat, g ≤ k ∧ gv = .int .i64 g ∧ Below wo.heap.size wo wx) (fun gv _ => k - (intOf gv).toNat)
        case atStart => exact ⟨0, Nat.zero_le _, rfl, Below.refl _ _⟩
        case round =>
          obtain ⟨g, hg, rfl, hbg⟩ := hrel
          obtain ⟨wg, rfl⟩ : ∃ wg : World, wg = wr := ⟨_, rfl⟩
          have HG := Lib.hid hbg
          have hwo7 := HR.out.size
          clear hbg
          by_cases hgk : g < k
          · obtain ⟨q, hq⟩ : ∃ q, x[g]? = some q := ⟨_, List.getElem?_eq_getElem (by rw [HX.out.1]; exact hgk)⟩
            have hb7g := HR.out.trans (HG.out.mono hwo7)
            obtain ⟨a8, hA8, _, hc8⟩ := (HX.out.2.1.below hb7g).some_ (by rw [HX.out.1]; omega)
            subst hA8
            obtain ⟨v1, v2⟩ := hc8 g q hq
            have hsq : spd r.2 i g = q := by rw [HX.out.2.2.1, List.getD_eq_getElem?_getD, hq]; rfl
            have c3 := (HG.out.cell (lt_of_cell c2')).trans c2'
            have hbit : 0 < q.num → ws.testBit g = true := fun h0 => by
              rw [HX.out.2.2.2.1]
              exact spent_bit HP.out.1 hiB (by rw [← HP.out.2.2.2.1]; exact hgk) (by rw [hsq]; exact h0)
            have HBIT := Lib.hid hbit
            have hbt := and_shr ws g (by omega)
            have hbz : Below wg.heap.size wg (wg.alloc (.cells #[.int .i64 q.num, .int .i64 (q.den : Int)] 37)) := (Below.refl _ _).alloc (Nat.le_refl _) _
            have HZ := Lib.hid (HG.out.trans (hbz.mono HG.out.size))
            have c4 := (hbz.cell (lt_of_cell c3)).trans c3
            clear hq hb7g hc8 hsq hbit hbz
            by_cases h0 : 0 < q.num
            · rw [HBIT.out h0] at hbt
              have hbt0 : (bits .and .i64 ((ws : Int) / 2 ^ g) 1 == 0) = false := by rw [hbt]; rfl
              have hbt2 : bits .and .i64 ((ws : Int) / 2 ^ g) 1 = 1 := hbt
              clear hbt
              go_wp2_with fail
              go_roundw
              case rel => exact ⟨g + 1, by omega, by go_num, HZ.out⟩
              case measure => simp [intOf]; omega
            · clear hbt
              go_wp2_with fail
              go_roundw
              case rel => exact ⟨g + 1, by omega, by go_num, HZ.out⟩
              case measure => simp [intOf]; omega
          · obtain rfl : k = g := by omega
            have c3 := (HG.out.cell (lt_of_cell c2')).trans c2'
            go_wp2_with fail
            go_roundw
            case rel => exact ⟨i + 1, by omega, by go_num, by rw [HX.out.2.2.2.2], HR.out.trans (HG.out.mono HR.out.size)⟩
            case measure => simp [intOf]; omega
      · obtain rfl : sl = i := by omega
        have hall := orW_all HP.out.1
        rw [hnB, ← HP.out.2.2.2.1] at hall
        rw [hall]
        have HC8 := Lib.hid (HC7.out.next HR.out)
        have hk123 : k = 1 ∨ k = 2 ∨ k = 3 := by omega
        clear hall
        rcases hk123 with rfl | rfl | rfl
        all_goals
          go_wp2_with fail
          refine (l4awake_any _).mono ?_
          rintro e w9 ⟨rfl, hb9⟩
          have HC9 := Lib.hid (HC8.out.next hb9)
          clear hb9
          go_wp2_with fail
          go_ret
          exact ⟨rfl, HC9.out.2⟩
end Go.Proofs.Ytnljnjnmhbkdoaa
