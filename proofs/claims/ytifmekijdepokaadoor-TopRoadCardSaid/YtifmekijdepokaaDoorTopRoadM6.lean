/- Laws and contracts that the proof of TopRoad uses, part 6. -/
import Derived.Test.YtifmekijdepokaaDoorTopRoadM5
import Derived.Test.YtifmekijdepokaaDoorTopRoadM4
import Derived.Test.YtifmekijdepokaaDoorTopRoadM1
import Derived.Test.YtifmekijdepokaaDoorTopRoadM2
import Derived.Test.YtifmekijdepokaaDoorTopRoadM3
namespace Go.Proofs.YtifmekijdepokaaDoor
open Go.RowKit

/- Refute finds a collection exactly if no payments are in the core. Plain Lean. -/

theorem sumQ_swap (g : Nat → Nat → Rat) (n k : Nat) : sumQ (fun i => sumQ (g i) k) n = sumQ (fun j => sumQ (fun i => g i j) n) k := by
  induction n with
  | zero => simp only [sumQ]; rw [sumQ_zero]; intros; rfl
  | succ n ih => simp only [sumQ]; rw [ih, ← sumQ_add]
theorem sumQ_mono {f g : Nat → Rat} {n : Nat} (h : ∀ i, i < n → f i ≤ g i) : sumQ f n ≤ sumQ g n := by
  induction n with
  | zero => exact Rat.le_refl
  | succ n ih =>
    simp only [sumQ]
    have h1 := ih fun i hi => h i (by omega)
    have h2 := h n (by omega)
    grind
/-- A share, as a fraction. -/
def shr (t : Pt) : Rat := (t.2.1 : Rat) / (t.2.2 : Rat)
theorem ptN_rat {t : Pt} (h1 : 1 ≤ t.2.2) (h2 : t.2.2 ≤ 12) : (ptN t : Rat) = 27720 * shr t := by
  have e : t.2.2 * (SD / t.2.2) = SD := Int.mul_ediv_cancel' (SD_dvd h1 h2)
  have e2 : ((t.2.2 : Int) : Rat) * ((SD / t.2.2 : Int) : Rat) = 27720 := by
    rw [← Rat.intCast_mul, e]; rfl
  have hne : (t.2.2 : Rat) ≠ 0 := fun h => by
    have := (Rat.intCast_inj (a := t.2.2) (b := 0)).1 h
    omega
  unfold ptN shr
  rw [Rat.intCast_mul, ← e2]
  generalize ((SD / t.2.2 : Int) : Rat) = z
  generalize ((t.2.1 : Int) : Rat) = u
  generalize ((t.2.2 : Int) : Rat) = v at hne
  grind
theorem sI_rat {ts : List Pt} {i : Nat} : ∀ k, (∀ j, j < k → 1 ≤ (pt ts j).2.2 ∧ (pt ts j).2.2 ≤ 12) → (sI ts i k : Rat) = 27720 * sumQ (fun j => shr (pt ts j) * bq (pt ts j).1.toNat i) k := by
  intro k
  induction k with
  | zero => intro _; simp [sI, sumQ]
  | succ k ih =>
    intro h
    have e : ((if (pt ts k).1.toNat.testBit i then 1 else 0 : Int) : Rat) = bq (pt ts k).1.toNat i := by
      unfold bq bitI
      cases (pt ts k).1.toNat.testBit i <;> rfl
    rw [sI, sumQ, Rat.intCast_add, ih fun j hj => h j (by omega), Rat.intCast_mul, e, ptN_rat (h k (by omega)).1 (h k (by omega)).2]
    grind
theorem tI_rat {c : List Int} {ts : List Pt} : ∀ k, (∀ j, j < k → 1 ≤ (pt ts j).2.2 ∧ (pt ts j).2.2 ≤ 12) → (tI c ts k : Rat) = 27720 * sumQ (fun j => shr (pt ts j) * cq c (pt ts j).1.toNat) k := by
  intro k
  induction k with
  | zero => intro _; simp [tI, sumQ]
  | succ k ih =>
    intro h
    rw [tI, sumQ, Rat.intCast_add, ih fun j hj => h j (by omega), Rat.intCast_mul, ptN_rat (h k (by omega)).1 (h k (by omega)).2]
    unfold cq
    grind
/-- Whatever refutes: no payments are in the core. -/
theorem crB_no {c : List Int} {ts : List Pt} {x : Nat → Rat} (h : crB c ts = true) (hx : InC c (plr c) x) : False := by
  unfold crB at h
  split at h
  · obtain ⟨n, hn⟩ : ∃ n, plr c = n := ⟨_, rfl⟩
    rw [hn] at h hx
    unfold refI at h
    rw [Bool.and_eq_true, Bool.and_eq_true, Bool.and_eq_true, decide_eq_true_eq, decide_eq_true_eq] at h
    obtain ⟨⟨⟨_, hg⟩, ho⟩, ht⟩ := h
    have hgj : ∀ j, j < ts.length → (1 ≤ (pt ts j).2.2 ∧ (pt ts j).2.2 ≤ 12) ∧ 1 ≤ (pt ts j).2.1 ∧ (pt ts j).1.toNat < 2 ^ n := fun j hj => by
      obtain ⟨g1, g2, g3, g4, _⟩ := goodI_iff.1 (goodTo_at hg hj)
      have := scB_iff.1 g1
      exact ⟨⟨this.1, this.2.1⟩, g2, by have e : ((2 ^ n : Nat) : Int) = (2 : Int) ^ n := by simp
                                        omega⟩
    have hs : ∀ i, i < n → sumQ (fun j => shr (pt ts j) * bq (pt ts j).1.toNat i) ts.length = 1 := by
      intro i hi
      unfold onesI at ho
      rw [List.all_eq_true] at ho
      have h1 := of_decide_eq_true (ho i (List.mem_range.2 hi))
      have h2 := sI_rat (i := i) ts.length fun j hj => (hgj j hj).1
      rw [h1] at h2
      simp only [Rat.intCast_ofNat] at h2
      grind
    have hc : sumQ (fun j => shr (pt ts j) * cq c (pt ts j).1.toNat) ts.length < cq c (2 ^ n - 1) := by
      have h2 := tI_rat (c := c) ts.length fun j hj => (hgj j hj).1
      have h3 := Rat.intCast_lt_intCast.2 ht
      rw [h2, Rat.intCast_mul] at h3
      simp only [Rat.intCast_ofNat] at h3
      unfold cq at h3 ⊢
      grind
    have hle : sumQ (fun j => shr (pt ts j) * dotS n x (pt ts j).1.toNat) ts.length ≤ sumQ (fun j => shr (pt ts j) * cq c (pt ts j).1.toNat) ts.length := by
      refine sumQ_mono fun j hj => ?_
      obtain ⟨⟨h1, h2⟩, h3, h4⟩ := hgj j hj
      refine Rat.mul_le_mul_of_nonneg_left (hx.2 _ h4) ?_
      unfold shr
      have e1 : (0 : Rat) ≤ ((pt ts j).2.1 : Rat) := (Rat.intCast_le_intCast (a := 0) (b := (pt ts j).2.1)).2 (by omega)
      have e2 : (0 : Rat) ≤ ((pt ts j).2.2 : Rat)⁻¹ := Rat.le_of_lt (Rat.inv_pos.2 ((Rat.intCast_lt_intCast (a := 0) (b := (pt ts j).2.2)).2 (by omega)))
      rw [Rat.div_def]
      exact Rat.mul_nonneg e1 e2
    have e : sumQ (fun j => shr (pt ts j) * dotS n x (pt ts j).1.toNat) ts.length = cq c (2 ^ n - 1) := by
      rw [← hx.1, dot_all]
      have e1 : ∀ j, shr (pt ts j) * dotS n x (pt ts j).1.toNat = sumQ (fun i => x i * (shr (pt ts j) * bq (pt ts j).1.toNat i)) n := fun j => by
        unfold dotS
        rw [← sumQ_mul]
        exact sumQ_congr fun i _ => by grind
      simp only [e1]
      rw [← sumQ_swap (fun i j => x i * (shr (pt ts j) * bq (pt ts j).1.toNat i))]
      refine sumQ_congr fun i hi => ?_
      rw [sumQ_mul, hs i hi]; grind
    grind
  · cases h
theorem pt_app {A : List Pt} {t : Pt} {k : Nat} (h : k < A.length) : pt (A ++ [t]) k = pt A k := by
  unfold pt; rw [List.getD_eq_getElem?_getD, List.getElem?_append_left h, List.getD_eq_getElem?_getD]
theorem pt_last {A : List Pt} {t : Pt} : pt (A ++ [t]) A.length = t := by
  unfold pt; rw [List.getD_eq_getElem?_getD, List.getElem?_append_right (Nat.le_refl _)]; simp
theorem goodTo_snoc {N : Nat} {A : List Pt} {t : Pt} (h : goodTo N A A.length = true) (ht : goodI N (A.map (·.1)) t = true) : goodTo N (A ++ [t]) (A ++ [t]).length = true := by
  rw [List.length_append, List.length_singleton, goodTo_succ, pt_last, Bool.and_eq_true]
  constructor
  · unfold goodTo at h ⊢
    rw [List.all_eq_true] at h ⊢
    intro j hj
    have hj' := List.mem_range.1 hj
    have := h j hj
    rw [pt_app hj']
    have e : prev (A ++ [t]) j = prev A j := by unfold prev; rw [List.take_append_of_le_length (by omega)]
    rw [e]; exact this
  · have e : prev (A ++ [t]) A.length = A.map (·.1) := by unfold prev; rw [List.take_left']; rfl
    rw [e]; exact ht
theorem sum_snoc {A : List Pt} {t : Pt} (f : Pt → Rat) : sumQ (fun j => f (pt (A ++ [t]) j)) (A ++ [t]).length = sumQ (fun j => f (pt A j)) A.length + f t := by
  rw [List.length_append, List.length_singleton, sumQ, pt_last]
  congr 1
  exact sumQ_congr fun j hj => by rw [pt_app hj]
theorem shr_of (s : Int) (q : Rat) : shr (s, q.num, (q.den : Int)) = q := by
  unfold shr
  have e := Rat.num_divInt_den q
  rw [Rat.divInt_eq_div] at e
  exact e
/-- What the list says that the function makes. -/
theorem tsTo_says {h : Nat → Nat → Int} {l : Int} {n N : Nat} {sets : List Nat} {m : Nat → Rat} (hl : sets.length = n) (hp : sets.Pairwise (· < ·)) (hb : ∀ s ∈ sets, 1 ≤ s ∧ s < N) (h0 : l ≠ 0) (h8 : l.natAbs ≤ 8) (hm : ∀ j, j < n → solQ (h j n) l = m (sets.getD j 0)) (hm0 : ∀ s ∈ sets, 0 ≤ m s ∧ m s ≤ 1) :
    ∀ k, k ≤ n → goodTo N (tsTo h l n sets k) (tsTo h l n sets k).length = true ∧ (∀ f : Nat → Rat, sumQ (fun j => shr (pt (tsTo h l n sets k) j) * f (pt (tsTo h l n sets k) j).1.toNat) (tsTo h l n sets k).length = sumQ (fun j => m (sets.getD j 0) * f (sets.getD j 0)) k) := by
  intro k
  induction k with
  | zero => intro _; exact ⟨rfl, fun f => rfl⟩
  | succ k ih =>
    intro hk
    obtain ⟨ih1, ih2⟩ := ih (by omega)
    have hgk : sets[k]? = some (sets.getD k 0) := by rw [List.getD_eq_getElem?_getD, List.getElem?_eq_getElem (by omega)]; rfl
    have hmem := List.mem_of_getElem? hgk
    have hmk := hm k (by omega)
    have he := solQ_eq (x := h k n) h0
    rw [hmk] at he
    by_cases e : h k n = 0
    · have e1 : tsTo h l n sets (k + 1) = tsTo h l n sets k := by rw [tsTo, if_pos e, List.append_nil]
      rw [e1]
      refine ⟨ih1, fun f => ?_⟩
      have hz : m (sets.getD k 0) = 0 := by
        rw [e] at he
        rcases Rat.mul_eq_zero.1 he with h1 | h1
        · exact absurd ((Rat.intCast_inj (a := l) (b := 0)).1 h1) h0
        · exact h1
      rw [sumQ, ih2 f, hz]; grind
    · have e1 : tsTo h l n sets (k + 1) = tsTo h l n sets k ++ [(((sets.getD k 0 : Nat) : Int), (solQ (h k n) l).num, ((solQ (h k n) l).den : Int))] := by rw [tsTo, if_neg e]
      have hne : m (sets.getD k 0) ≠ 0 := fun hz => by
        rw [hz, Rat.mul_zero] at he
        exact e ((Rat.intCast_inj (a := h k n) (b := 0)).1 he.symm)
      have hbm := hm0 _ hmem
      have hpos : 0 < m (sets.getD k 0) := by grind
      have hden := solQ_den (x := h k n) h0 h8
      rw [hmk] at hden
      have hnum := num_bd (m := 1) hden (by decide) (by have : ((1 : Int) : Rat) = 1 := rfl
                                                        rw [this]; grind) (by exact hbm.2)
      have hnp : 0 < (m (sets.getD k 0)).num := by
        have h1 := Rat.num_nonneg.2 hbm.1
        have h2 : (m (sets.getD k 0)).num ≠ 0 := fun h => hne (Rat.num_eq_zero.1 h)
        omega
      rw [e1, hmk]
      refine ⟨goodTo_snoc ih1 (goodI_iff.2 ⟨scB_iff.2 ⟨by have := den_pos (m (sets.getD k 0)); dsimp only; omega, by dsimp only; omega, by dsimp only; omega, by dsimp only; omega, rat_lowest _⟩, by dsimp only; omega, by have := hb _ hmem; dsimp only; omega, by have := hb _ hmem; dsimp only; omega, ?_⟩), fun f => ?_⟩
      · intro hin
        obtain ⟨t, ht, et⟩ := List.mem_map.1 hin
        obtain ⟨i, hi, _, rfl⟩ := tsTo_mem ht
        have h1 := List.pairwise_iff_getElem.1 hp i k (by omega) (by omega) hi
        dsimp only at et
        rw [List.getD_eq_getElem?_getD, List.getElem?_eq_getElem (by omega), List.getD_eq_getElem?_getD, List.getElem?_eq_getElem (by omega)] at et
        simp only [Option.getD_some] at et
        omega
      · rw [sum_snoc (fun t => shr t * f t.1.toNat), ih2 f, sumQ, shr_of]
        dsimp only
        rw [Int.toNat_natCast]
theorem entry_col {n : Nat} {sets : List Nat} (hl : sets.length = n) {i : Nat} (hi : i < n) : (∀ j, j < n → entry (sysR n sets) i j = bitI (sets.getD j 0) i) ∧ entry (sysR n sets) i n = 1 := by
  have e : (sysR n sets).getD i [] = colL sets i := by
    unfold sysR; rw [List.getD_eq_getElem?_getD]; simp [hi]
  unfold entry
  rw [e]
  unfold colL
  refine ⟨fun j hj => ?_, ?_⟩
  · rw [List.getD_eq_getElem?_getD, List.getElem?_append_left (by simpa using by omega), List.getElem?_map, List.getD_eq_getElem?_getD, List.getElem?_eq_getElem (by omega)]
    rfl
  · rw [List.getD_eq_getElem?_getD, List.getElem?_append_right (by simp; omega)]
    simp [hl]
theorem candR_some {c : List Int} {n : Nat} {sets : List Nat} {m : Nat → Rat} (hv : valC c = true) (hn : plr c = n) (hl : sets.length = n) (hp : sets.Pairwise (· < ·)) (hb : ∀ s ∈ sets, 1 ≤ s ∧ s < 2 ^ n) (hm : Bal c n sets m) (hi : Ind n sets) : ∃ ts, candR c n sets = some ts := by
  have hpw := valC_pow hv
  rw [hn] at hpw
  have hd : sets.Nodup := hp.imp (fun h => Nat.ne_of_lt h)
  have hf : Bits (entry (sysR n sets)) n := fun i j hi hj => by
    rw [(entry_col hl hi).1 j hj]; exact bitI_cases _ _
  have hmem : ∀ j, j < n → sets.getD j 0 ∈ sets := fun j hj => by rw [List.getD_eq_getElem?_getD, List.getElem?_eq_getElem (by omega)]; exact List.getElem_mem _
  have hrow : ∀ (y : Nat → Rat) i, i < n → sumQ (fun j => (entry (sysR n sets) i j : Rat) * y j) (n + 1) = sumQ (fun j => y j * bq (sets.getD j 0) i) n + y n := by
    intro y i hi
    rw [sumQ, (entry_col hl hi).2]
    congr 1
    · exact sumQ_congr fun j hj => by
        rw [(entry_col hl hi).1 j hj]
        unfold bq
        exact Rat.mul_comm _ _
    · simp
  have hcol : ∀ (w : Nat → Rat) i, colS w sets i = sumQ (fun j => w (sets.getD j 0) * bq (sets.getD j 0) i) n := fun w i => by
    unfold colS; rw [sumL_get, hl]
  unfold candR
  cases e : slvTo (entry (sysR n sets)) n n with
  | none =>
    obtain ⟨y, h1, h2, j, hj, h3⟩ := slv_none hf hpw.2.2 e
    refine absurd (hi (fun s => y (sets.idxOf s)) (fun i hi => ?_) _ (hmem j hj)) (by rw [nodup_idx hd (by omega)]; exact h3)
    have := h1 i hi
    rw [hrow y i hi, h2] at this
    rw [hcol]
    have e2 : sumQ (fun j => y (sets.idxOf (sets.getD j 0)) * bq (sets.getD j 0) i) n = sumQ (fun j => y j * bq (sets.getD j 0) i) n := sumQ_congr fun j hj => by rw [nodup_idx hd (by omega)]
    rw [e2]; grind
  | some r =>
    obtain ⟨h, l⟩ := r
    obtain ⟨h1, h2, h3⟩ := slv_some hf hpw.2.2 e
    have hy := (h3 (fun j => if j < n then m (sets.getD j 0) else -1)).1 (fun i hi => by
      rw [hrow _ i hi]
      have e1 : sumQ (fun j => (if j < n then m (sets.getD j 0) else -1) * bq (sets.getD j 0) i) n = colS m sets i := by
        rw [hcol]
        exact sumQ_congr fun j hj => by rw [if_pos hj]
      rw [e1, hm.one i hi, if_neg (by omega)]
      grind)
    have hxi : ∀ i, i < n → solQ (h i n) l = m (sets.getD i 0) := fun i hi => by
      have := hy i hi
      rw [if_pos hi, if_neg (by omega)] at this
      exact solQ_of h1 this
    have hm1 : ∀ s ∈ sets, 0 ≤ m s ∧ m s ≤ 1 := by
      intro s hs
      refine ⟨hm.pos s hs, ?_⟩
      obtain ⟨i, hi, hb1⟩ := has_bit (hb s hs).1 (hb s hs).2
      have h4 := hm.one i hi
      unfold colS at h4
      rw [sumL_erase _ hs, hb1] at h4
      have h5 := sumL_nonneg (f := fun s => m s * bq s i) (P := sets.erase s) fun r hr => Rat.mul_nonneg (hm.pos r (List.mem_of_mem_erase hr)) (by rcases bq_cases r i with h | h <;> rw [h] <;> decide)
      grind
    obtain ⟨hg, hsum⟩ := tsTo_says hl hp hb h1 h2 hxi hm1 n (Nat.le_refl _)
    have hden : ∀ j, j < (tsTo h l n sets n).length → 1 ≤ (pt (tsTo h l n sets n) j).2.2 ∧ (pt (tsTo h l n sets n) j).2.2 ≤ 12 := fun j hj => by
      have := scB_iff.1 (goodI_iff.1 (goodTo_at hg hj)).1
      exact ⟨this.1, this.2.1⟩
    have hcr : crB c (tsTo h l n sets n) = true := by
      unfold crB
      rw [hv, if_pos rfl, hn]
      unfold refI
      rw [Bool.and_eq_true, Bool.and_eq_true, Bool.and_eq_true, decide_eq_true_eq, decide_eq_true_eq]
      refine ⟨⟨⟨?_, hg⟩, ?_⟩, ?_⟩
      · have := tsTo_len h l n sets n
        have := Nat.lt_two_pow_self (n := n)
        omega
      · unfold onesI
        rw [List.all_eq_true]
        intro i hi
        rw [decide_eq_true_eq]
        have hi := List.mem_range.1 hi
        have h4 := sI_rat (i := i) _ hden
        rw [hsum (fun s => bq s i), ← hcol, hm.one i hi] at h4
        exact (Rat.intCast_inj (b := 27720)).1 (by rw [h4]; simp)
      · have h4 := tI_rat (c := c) _ hden
        rw [hsum (fun s => cq c s)] at h4
        have h5 := hm.cost
        rw [sumL_get, hl] at h5
        rw [← Rat.intCast_lt_intCast, h4, Rat.intCast_mul]
        simp only [Rat.intCast_ofNat]
        unfold cq at h5 ⊢
        grind
    simp only [hcr, if_true]
    exact ⟨_, rfl⟩
/-- Where no payments are in the core, a collection is found. -/
theorem ref_some {c : List Int} (hv : valC c = true) (hno : coreF c = none) : ∃ ts, refF c = some ts := by
  have hpw := valC_pow hv
  have hcb := (valC_iff.1 hv).2.2
  have hno2 : ¬ ∃ x, InC c (plr c) x := fun ⟨x, hx⟩ => by
    obtain ⟨qs, h⟩ := core_some hv hx
    rw [hno] at h; cases h
  obtain ⟨Q, m, h1, h2, h3, h4, h5⟩ := bal_sorted hcb hno2
  obtain ⟨ts, ht⟩ := candR_some hv rfl h1 h2 h3 h4 h5
  unfold refF
  rw [hpw.1]
  exact findSome_some (cmb_of h1 h2 h3) ht
theorem ref_cr {c : List Int} {ts : List Pt} (h : refF c = some ts) : crB c ts = true := by
  unfold refF at h
  obtain ⟨s, _, hs⟩ := List.exists_of_findSome?_eq_some h
  unfold candR at hs
  split at hs
  · cases hs
  · split at hs
    · rename_i hcc
      injection hs with hs
      rw [← hs]; exact hcc
    · cases hs
/-- Payments in the core are found exactly if there are some. -/
theorem core_iff {c : List Int} (hv : valC c = true) : (coreF c).isSome = true ↔ ∃ x, InC c (plr c) x := by
  constructor
  · intro h
    obtain ⟨qs, hq⟩ := Option.isSome_iff_exists.1 h
    obtain ⟨h1, h2⟩ := core_cc hq
    have hs : ∀ q ∈ qs, smallQ q := by
      unfold ccB coreI sumB at h1
      rw [hv, if_pos rfl, Bool.and_eq_true, Bool.and_eq_true] at h1
      obtain ⟨rs, e1, _, e3⟩ := payB_rats h1.1.1
      have hinj : rs = qs := by
        have hf : ∀ a b : Rat, pr a = pr b → a = b := fun a b h => by
          unfold pr at h
          injection h with h1 h2
          exact Rat.ext h1 (by omega)
        have key : ∀ l1 bs : List Rat, l1.map pr = bs.map pr → l1 = bs := by
          intro l1
          induction l1 with
          | nil => intro bs h; cases bs with
            | nil => rfl
            | cons b bs => cases h
          | cons a l1 ih => intro bs h; cases bs with
            | nil => cases h
            | cons b bs =>
              simp only [List.map_cons, List.cons.injEq] at h
              rw [hf _ _ h.1, ih bs h.2]
        exact key _ _ e1.symm
      rw [← hinj]; exact e3
    exact ⟨_, (ccB_in hv rfl h2 hs).1 h1⟩
  · rintro ⟨x, hx⟩
    obtain ⟨qs, h⟩ := core_some hv hx
    rw [h]; rfl

/- Contract: Objects of package games. -/

/-- What Objects answers. -/
def obG (c : List Int) (ps : List (Int × Int)) : Int × Int := if valC c && sumB c ps (plr c) then (if (objI c ps (plr c) c.length).1 = 0 then (0, 4) else (((objI c ps (plr c) c.length).1 : Nat), 0)) else (0, 2)


/- Contract: Pays of package corrodyref07: the payment of a set. -/


/- Contracts: Objects and InCore of package corrodyref07, of valid costs and payments. -/

theorem run_eql_frac (p q : Rat) (w : World) : (binOp .eql 41 (.agg #[.int .i64 p.num, .int .i64 (p.den : Int)]) (.agg #[.int .i64 q.num, .int .i64 (q.den : Int)])).run Tryd.prog w = .ok (.bool (decide (p = q))) w := by
  have e0 : decide (p = q) = (decide (p.num = q.num) && decide ((p.den : Int) = (q.den : Int))) := by
    rw [Bool.eq_iff_iff]; simp only [rat_eq_iff, decide_eq_true_eq, Bool.and_eq_true]
  rw [e0]
  by_cases h1 : p.num = q.num
  · by_cases h2 : (p.den : Int) = (q.den : Int)
    · simp only [h1, h2]; go_simp
    · simp only [h1]; go_simp
  · go_simp
/-- A payment less a cost is not too great. -/
def ovB (x : Rat) : Prop := (x.den : Int) ≤ 331776 ∧ -5900000000 ≤ x.num ∧ x.num ≤ 5900000000
theorem ov_zero : ovB 0 := by unfold ovB; decide
theorem ov_int {z : Int} (h : 0 ≤ z ∧ z ≤ 1000) : ovB (z : Rat) := ⟨by show (1 : Int) ≤ _; omega, by show _ ≤ z; omega, by show z ≤ _; omega⟩
theorem ov_pays {qs : List Rat} {n : Nat} (hl : qs.length = n) (hn : n ≤ 4) (h : ∀ q ∈ qs, smallQ q) (s : Nat) : ((paysL qs s).den : Int) ≤ 331776 ∧ -5529600000 ≤ (paysL qs s).num ∧ (paysL qs s).num ≤ 5529600000 := by
  have h1 := cap_pays h s n (by omega)
  rw [show paysL qs s = paysTo qs s n from by rw [paysL, hl]; rfl]
  have h2 := DQ_le hn
  obtain ⟨a, b, c⟩ := h1
  exact ⟨by omega, by omega, by omega⟩
theorem sub_prods {p : Rat} (hp : (p.den : Int) ≤ 331776 ∧ -5529600000 ≤ p.num ∧ p.num ≤ 5529600000) {z : Int} (hz : 0 ≤ z ∧ z ≤ 1000) :
    -4000000000000000000 ≤ p.num * ((z : Rat).den : Int) ∧ p.num * ((z : Rat).den : Int) ≤ 4000000000000000000 ∧ -4000000000000000000 ≤ (z : Rat).num * p.den ∧ (z : Rat).num * p.den ≤ 4000000000000000000 ∧ (p.den : Int) * ((z : Rat).den : Int) ≤ 4000000000000000000 := by
  have e1 : ((z : Rat).den : Int) = 1 := rfl
  have e2 : (z : Rat).num = z := rfl
  rw [e1, e2]
  have hd := den_pos p
  have := mul_bd (a := z) (b := (p.den : Int)) (m := 1000) (by omega) (by omega) (by omega) hp.1
  omega
theorem ov_sub {p : Rat} (hp : (p.den : Int) ≤ 331776 ∧ -5529600000 ≤ p.num ∧ p.num ≤ 5529600000) {z : Int} (hz : 0 ≤ z ∧ z ≤ 1000) : ovB (p - (z : Rat)) := by
  have e1 : ((z : Rat).den : Int) = 1 := rfl
  have e2 : (z : Rat).num = z := rfl
  have hd := den_pos p
  have hm := mul_bd (a := z) (b := (p.den : Int)) (m := 1000) (by omega) (by omega) (by omega) hp.1
  have hdd : 0 < (p.den : Int) * ((z : Rat).den : Int) := by rw [e1]; omega
  rw [ovB, ← sub_divInt]
  have b1 := divInt_bd (a := p.num * ((z : Rat).den : Int) - (z : Rat).num * p.den) hdd (m := 5900000000) (by rw [e1, e2]; omega) (by rw [e1, e2]; omega)
  have b2 := divInt_den_le (a := p.num * ((z : Rat).den : Int) - (z : Rat).num * p.den) hdd
  exact ⟨by rw [e1] at b2; rw [e1]; omega, b1.1, b1.2⟩
theorem less_prods {x y : Rat} (hx : ovB x) (hy : ovB y) : -4000000000000000000 ≤ x.num * y.den ∧ x.num * y.den ≤ 4000000000000000000 ∧ -4000000000000000000 ≤ y.num * x.den ∧ y.num * x.den ≤ 4000000000000000000 := by
  have dx := den_pos x
  have dy := den_pos y
  have a1 := mul_bd hx.2.1 hx.2.2 (by omega) hy.1
  have a2 := mul_bd hy.2.1 hy.2.2 (by omega) hx.1
  omega
theorem ov_of_pays {p : Rat} (hp : (p.den : Int) ≤ 331776 ∧ -5529600000 ≤ p.num ∧ p.num ≤ 5529600000) : ovB p := ⟨hp.1, by omega, by omega⟩
theorem objR_ov {c : List Int} {qs : List Rat} {n : Nat} (hl : qs.length = n) (hn : n ≤ 4) (h : ∀ q ∈ qs, smallQ q) (hcb : ∀ x ∈ c, 0 ≤ x ∧ x ≤ 1000) (k : Nat) : ovB (objR c qs k).2 := by
  induction k with
  | zero => exact ov_zero
  | succ k ih =>
    simp only [objR]
    split
    · exact ov_sub (ov_pays hl hn h k) (costs_get hcb k)
    · exact ih

/-- What Objects of the reference answers. -/
def obR (c : List Int) (qs : List Rat) (N : Nat) : Int × Int := if (objR c qs N).1 = 0 then (0, 4) else (((objR c qs N).1 : Nat), 0)


/- GamesObjects and GamesObjecting return true for every costs and payments: the walks. -/

theorem payB_len {n : Nat} {ps : List (Int × Int)} (h : ps.length ≠ n) : payB n ps = false := by unfold payB; rw [decide_eq_false h, Bool.and_false]
theorem sumB_take {c : List Int} {ps : List (Int × Int)} {n : Nat} (h : n ≤ 4) : sumB c (ps.take 6) n = sumB c ps n := by
  by_cases hl : ps.length ≤ 6
  · rw [List.take_of_length_le hl]
  · rw [sumB_false_pay (payB_len (by rw [List.length_take]; omega)), sumB_false_pay (payB_len (by omega))]
theorem obG_take (c : List Int) (ps : List (Int × Int)) : obG (c.take 18) (ps.take 6) = obG c ps := by
  cases hv : valC c
  · simp [obG, hv, valC_take]
  · have h18 : c.take 18 = c := take18 (by have := (valC_iff.1 hv).1; omega)
    rw [h18]
    by_cases hl : ps.length ≤ 6
    · rw [List.take_of_length_le hl]
    · have h4 := (valC_pow hv).2.2
      unfold obG
      rw [hv, sumB_take h4, sumB_false_pay (payB_len (n := plr c) (by omega))]; rfl
theorem ccB_take (c : List Int) (ps : List (Int × Int)) : ccB (c.take 18) (ps.take 6) = ccB c ps := by
  cases hv : valC c
  · simp [ccB, hv, valC_take]
  · have h18 : c.take 18 = c := take18 (by have := (valC_iff.1 hv).1; omega)
    rw [h18]
    have h4 := (valC_pow hv).2.2
    by_cases hl : ps.length ≤ 6
    · rw [List.take_of_length_le hl]
    · unfold ccB coreI
      rw [hv, sumB_take h4, sumB_false_pay (payB_len (n := plr c) (by omega))]; rfl
theorem ccE_take (c : List Int) : ccE (c.take 18) = ccE c := by unfold ccE; rw [valC_take]


/- What Core and Refute answer, for every costs, in one form. -/

def coreQ (c : List Int) : List Rat := if valC c then (coreF c).getD [] else []
def coE (c : List Int) : Int := if valC c then (if (coreF c).isSome then 0 else 4) else 2
def refQ (c : List Int) : List Pt := if valC c then (if (coreF c).isSome then [] else (refF c).getD []) else []
def rfE (c : List Int) : Int := if valC c then (if (coreF c).isSome then 4 else 0) else 2
theorem core2_any (A0 : Option Addr) (N cap0 : Nat) (c : List Int) (w : World) (hl : c.length = N) (hN : N ≤ 9223372036854775807) (hc : Ints w A0 c) :
    Calls Tryd.prog 16 #[.slice A0 N cap0] w fun e w' => ∃ A' k c', e = .returned (.tuple #[.slice A' k c', .int .i64 (coE c)]) ∧ (coreQ c).length = k ∧ Fracs w' A' (coreQ c) ∧ k ≤ c' ∧ c' ≤ 9223372036854775807 ∧ Below w.heap.size w w' := by
  have hnil : ∀ w' : World, Fracs w' none [] := fun w' i v hv => by simp [fcells] at hv
  refine (core_any A0 N cap0 c w hl hN hc).mono ?_
  rintro e w' ⟨hb, ⟨hv, rfl⟩ | ⟨hv, hn, rfl⟩ | ⟨hv, qs, A', c', hq, rfl, h1, h2, h3, h4⟩⟩
  · have e1 : coreQ c = [] := by simp [coreQ, hv]
    exact ⟨none, 0, 0, by simp [coE, hv], by simp [e1], by rw [e1]; exact hnil w', by omega, by omega, hb⟩
  · have e1 : coreQ c = [] := by simp [coreQ, hv, hn]
    exact ⟨none, 0, 0, by simp [coE, hv, hn], by simp [e1], by rw [e1]; exact hnil w', by omega, by omega, hb⟩
  · have e1 : coreQ c = qs := by simp [coreQ, hv, hq]
    exact ⟨A', plr c, c', by simp [coE, hv, hq], by rw [e1, h1], by rw [e1]; exact h2, h3, h4, hb⟩
theorem coE_take (c : List Int) : coE (c.take 18) = coE c := by
  cases hv : valC c
  · simp [coE, hv, valC_take]
  · rw [take18 (by have := (valC_iff.1 hv).1; omega)]
theorem rfE_take (c : List Int) : rfE (c.take 18) = rfE c := by
  cases hv : valC c
  · simp [rfE, hv, valC_take]
  · rw [take18 (by have := (valC_iff.1 hv).1; omega)]
theorem coreQ_take (c : List Int) : coreQ (c.take 18) = coreQ c := by
  cases hv : valC c
  · simp [coreQ, hv, valC_take]
  · rw [take18 (by have := (valC_iff.1 hv).1; omega)]
theorem refQ_take (c : List Int) : refQ (c.take 18) = refQ c := by
  cases hv : valC c
  · simp [refQ, hv, valC_take]
  · rw [take18 (by have := (valC_iff.1 hv).1; omega)]
theorem crB_bad {c : List Int} {ts : List Pt} (h : valC c = false) : crB c ts = false := by simp [crB, h]
theorem crB_take18 (c : List Int) (ts : List Pt) : crB (c.take 18) ts = crB c ts := by
  cases hv : valC c
  · rw [crB_bad hv, crB_bad (by rw [valC_take]; exact hv)]
  · rw [take18 (by have := (valC_iff.1 hv).1; omega)]
theorem ccB_take18 (c : List Int) (ps : List (Int × Int)) : ccB (c.take 18) ps = ccB c ps := by
  cases hv : valC c
  · simp [ccB, hv, valC_take]
  · rw [take18 (by have := (valC_iff.1 hv).1; omega)]
theorem ccB_core {c : List Int} {ps : List (Int × Int)} (h : ccB c ps = true) : (coreF c).isSome = true := by
  unfold ccB at h
  split at h
  · rename_i hv
    have h2 : payB (plr c) ps = true := by
      unfold coreI sumB at h
      rw [Bool.and_eq_true, Bool.and_eq_true] at h
      exact h.1.1
    obtain ⟨qs, rfl, h3, h4⟩ := payB_rats h2
    exact (core_iff hv).2 ⟨_, (ccB_in hv rfl h3 h4).1 (by unfold ccB; rw [hv, if_pos rfl]; exact h)⟩
  · cases h
theorem crB_core {c : List Int} {ts : List Pt} (hv : valC c = true) (h : crB c ts = true) : (coreF c).isSome = false := by
  cases hs : (coreF c).isSome
  · rfl
  · obtain ⟨x, hx⟩ := (core_iff hv).1 hs
    exact absurd hx fun hx => crB_no h hx
/-- The facts when payments are found. -/
theorem core_facts {c : List Int} (hv : valC c = true) (hs : (coreF c).isSome = true) : coE c = 0 ∧ rfE c = 4 ∧ refQ c = [] ∧ ccB c ((coreQ c).map pr) = true ∧ (coreQ c).length = plr c ∧ ∀ p ∈ (coreQ c).map pr, (-9223372036854775808 ≤ p.1 ∧ p.1 ≤ 9223372036854775807) ∧ -9223372036854775808 ≤ p.2 ∧ p.2 ≤ 9223372036854775807 := by
  obtain ⟨qs, hq⟩ := Option.isSome_iff_exists.1 hs
  have e1 : coreQ c = qs := by simp [coreQ, hv, hq]
  obtain ⟨h1, h2⟩ := core_cc hq
  rw [e1]
  refine ⟨by simp [coE, hv, hs], by simp [rfE, hv, hs], by simp [refQ, hv, hs], h1, h2, fun p hp => ?_⟩
  have h3 : payB (plr c) (qs.map pr) = true := by
    unfold ccB coreI sumB at h1
    rw [hv, if_pos rfl, Bool.and_eq_true, Bool.and_eq_true] at h1
    exact h1.1.1
  unfold payB at h3
  rw [Bool.and_eq_true, List.all_eq_true] at h3
  have := scB_iff.1 (h3.1 p hp)
  omega
/-- .. and when not. -/
theorem ref_facts {c : List Int} (hv : valC c = true) (hs : (coreF c).isSome = false) : coE c = 4 ∧ rfE c = 0 ∧ coreQ c = [] ∧ crB c (refQ c) = true ∧ (refQ c).length ≤ 18 ∧ ∀ t ∈ refQ c, (-9223372036854775808 ≤ t.1 ∧ t.1 ≤ 9223372036854775807) ∧ (-9223372036854775808 ≤ t.2.1 ∧ t.2.1 ≤ 9223372036854775807) ∧ -9223372036854775808 ≤ t.2.2 ∧ t.2.2 ≤ 9223372036854775807 := by
  have hn : coreF c = none := by cases h : coreF c with
    | none => rfl
    | some q => rw [h] at hs; cases hs
  obtain ⟨ts, ht⟩ := ref_some hv hn
  have e1 : refQ c = ts := by simp [refQ, hv, hn, ht]
  have h1 := ref_cr ht
  have hpw := valC_pow hv
  rw [e1]
  have h2 := h1
  unfold crB refI at h2
  rw [hv, if_pos rfl, Bool.and_eq_true, Bool.and_eq_true, Bool.and_eq_true, decide_eq_true_eq] at h2
  have h16 : 2 ^ plr c ≤ 16 := Nat.pow_le_pow_right (show 0 < 2 by decide) hpw.2.2
  refine ⟨by simp [coE, hv, hn], by simp [rfE, hv, hn], by simp [coreQ, hv, hn], h1, by omega, fun t ht' => ?_⟩
  obtain ⟨j, hj, rfl⟩ := List.getElem_of_mem ht'
  obtain ⟨g1, g2, g3, g4, _⟩ := goodI_iff.1 (goodTo_at h2.1.1.2 hj)
  have e2 : pt ts j = ts[j] := pt_get (List.getElem?_eq_getElem hj)
  rw [e2] at g1 g2 g3 g4
  have := scB_iff.1 g1
  have e3 : ((2 ^ plr c : Nat) : Int) ≤ 16 := by omega
  rw [Int.natCast_pow] at e3
  have e4 : ts[j].1 < 16 := by
    have : ((2 ^ plr c : Nat) : Int) = (2 : Int) ^ plr c := by simp
    omega
  omega

/- Where costs are concave, the Shapley payments are in the core; Concave and Join in one form. -/

theorem dot_addUp {n : Nat} {s js : List Int} (hl : s.length = n) (S : Nat) : dotS n (payR (addUp s js n)) S = dotS n (payR s) S + dotS n (payR js) S := by
  unfold dotS
  rw [← sumQ_add]
  refine sumQ_congr fun i hi => ?_
  unfold payR
  rw [addUp_get s js n i (by omega), if_pos hi, Rat.intCast_add]
  grind
theorem dot_addAll {c : List Int} {n S : Nat} : ∀ (L : List (List Nat)) (s : List Int), s.length = n → (∀ os ∈ L, InC c n (payR (joinL c os))) → S < 2 ^ n →
    dotS n (payR (addAll c n s L)) S ≤ dotS n (payR s) S + ((L.length : Int) : Rat) * cq c S ∧ (S = 2 ^ n - 1 → dotS n (payR (addAll c n s L)) S = dotS n (payR s) S + ((L.length : Int) : Rat) * cq c S) := by
  intro L
  induction L with
  | nil =>
    intro s _ _ _
    have e : (((([] : List (List Nat)).length : Nat) : Int) : Rat) = 0 := rfl
    rw [e]
    unfold addAll
    simp only [List.foldl_nil]
    exact ⟨by grind, fun _ => by grind⟩
  | cons os L ih =>
    intro s hl h hS
    have h1 := ih (addUp s (joinL c os) n) (by rw [addUp_length]; exact hl) (fun o ho => h o (List.mem_cons_of_mem _ ho)) hS
    have h2 := h os (List.mem_cons_self ..)
    have h3 := h2.2 S hS
    rw [dot_addUp hl] at h1
    have e : ((((os :: L).length : Nat) : Int) : Rat) = ((L.length : Int) : Rat) + 1 := by
      rw [List.length_cons, Int.natCast_add, Rat.intCast_add]; rfl
    have e2 : addAll c n s (os :: L) = addAll c n (addUp s (joinL c os) n) L := rfl
    rw [e, e2]
    refine ⟨by grind, fun hS' => ?_⟩
    have h4 := h1.2 hS'
    have h5 := h2.1
    rw [← hS'] at h5
    grind
theorem ext_core {c : List Int} {n : Nat} (h1 : 1 ≤ n) (h4 : n ≤ 4) (hN : c.length = 2 ^ n) (hc : Conc c) (h0 : c.getD 0 0 = 0) : ∀ os ∈ ext n n [], InC c n (payR (joinL c os)) := by
  intro os ho
  obtain ⟨hd, hs, _⟩ := ext_facts h1 h4 os ho
  have hm := ext_mem (n := n) (m := n) (pre := []) (by simp) os ho
  exact joinL_core hN hc h0 hd hm.2 (by simpa using hm.1) hs
theorem shap_core {c : List Int} {n : Nat} (h1 : 1 ≤ n) (h4 : n ≤ 4) (hN : c.length = 2 ^ n) (hc : Conc c) (h0 : c.getD 0 0 = 0) : InC c n (fun i => (shapL c n).getD i 0) := by
  have hx := ext_core h1 h4 hN hc h0
  have hm := (ext_len h4).1
  have hmq : (0 : Rat) < (((ext n n []).length : Int) : Rat) := (Rat.intCast_lt_intCast (a := 0) (b := ((ext n n []).length : Int))).2 (by omega)
  have hmi : (((ext n n []).length : Int) : Rat) * (((ext n n []).length : Int) : Rat)⁻¹ = 1 := Rat.mul_inv_cancel _ (by grind)
  have hi0 := Rat.le_of_lt (Rat.inv_pos.2 hmq)
  have hsl : (sumsL c n).length = n := by unfold sumsL; rw [addAll_length]; simp
  have e : ∀ S, dotS n (fun i => (shapL c n).getD i 0) S = (((ext n n []).length : Int) : Rat)⁻¹ * dotS n (payR (sumsL c n)) S := by
    intro S
    unfold dotS
    rw [← sumQ_mul]
    refine sumQ_congr fun i hi => ?_
    have e1 : (shapL c n).getD i 0 = payR (sumsL c n) i / (((ext n n []).length : Int) : Rat) := by
      unfold shapL payR
      rw [List.getD_eq_getElem?_getD, List.getElem?_map, List.getD_eq_getElem?_getD, List.getElem?_eq_getElem (by omega)]
      simp only [Option.map_some, Option.getD_some]
      exact Rat.divInt_eq_div _ _
    show bq S i * (shapL c n).getD i 0 = _
    rw [e1, Rat.div_def]
    grind
  have hz : ∀ S, dotS n (payR (List.replicate n (0 : Int))) S = 0 := fun S => sumQ_zero fun j hj => by
    unfold payR
    rw [List.getD_eq_getElem?_getD, List.getElem?_replicate, if_pos (by omega)]
    simp
  have hp2 := Nat.two_pow_pos n
  constructor
  · have h := (dot_addAll (S := 2 ^ n - 1) (ext n n []) (List.replicate n 0) (by simp) hx (by omega)).2 rfl
    rw [e, show sumsL c n = addAll c n (List.replicate n 0) (ext n n []) from rfl, h, hz]
    grind
  · intro S hS
    have h := (dot_addAll (S := S) (ext n n []) (List.replicate n 0) (by simp) hx hS).1
    rw [hz] at h
    rw [e, show sumsL c n = addAll c n (List.replicate n 0) (ext n n []) from rfl]
    have h2 := Rat.mul_le_mul_of_nonneg_left h hi0
    have e3 : (((ext n n []).length : Int) : Rat)⁻¹ * (0 + (((ext n n []).length : Int) : Rat) * cq c S) = cq c S := by grind
    rw [e3] at h2
    exact h2
/-- Valid orders. -/
def ordOk (n : Nat) (os : List Nat) : Bool := !ordG n (os.map Int.ofNat) || (decide os.Nodup && setOfO os == 2 ^ n - 1)
theorem ord_ok1 : ∀ a, a < 1 → ordOk 1 [a] = true := by decide
theorem ord_ok2 : ∀ a, a < 2 → ∀ b, b < 2 → ordOk 2 [a, b] = true := by decide
theorem ord_ok3 : ∀ a, a < 3 → ∀ b, b < 3 → ∀ c, c < 3 → ordOk 3 [a, b, c] = true := by decide +kernel
theorem ord_ok4 : ∀ a, a < 4 → ∀ b, b < 4 → ∀ c, c < 4 → ∀ d, d < 4 → ordOk 4 [a, b, c, d] = true := by decide +kernel
theorem ord_ok {n : Nat} (h1 : 1 ≤ n) (h4 : n ≤ 4) {os : List Nat} (hl : os.length = n) (hb : ∀ x ∈ os, x < n) (h : ordG n (os.map Int.ofNat) = true) : os.Nodup ∧ setOfO os = 2 ^ n - 1 := by
  suffices hk : ordOk n os = true by
    unfold ordOk at hk
    rw [h] at hk
    simpa using hk
  have : n = 1 ∨ n = 2 ∨ n = 3 ∨ n = 4 := by omega
  rcases this with rfl | rfl | rfl | rfl
  · match os, hl with
    | [a], _ => exact ord_ok1 a (hb a (by simp))
  · match os, hl with
    | [a, b], _ => exact ord_ok2 a (hb a (by simp)) b (hb b (by simp))
  · match os, hl with
    | [a, b, d], _ => exact ord_ok3 a (hb a (by simp)) b (hb b (by simp)) d (hb d (by simp))
  · match os, hl with
    | [a, b, d, e], _ => exact ord_ok4 a (hb a (by simp)) b (hb b (by simp)) d (hb d (by simp)) e (hb e (by simp))
/-- Whole numbers as fractions. -/
def wholes (ys : List Int) : List Rat := ys.map fun y : Int => (y : Rat)
theorem wholes_in {c : List Int} {n : Nat} {os : List Nat} (hv : valC c = true) (hn : plr c = n) (hl : (joinL c os).length = n) : ccB c ((wholes (joinL c os)).map pr) = true ↔ InC c n (payR (joinL c os)) := by
  have hcb := (valC_iff.1 hv).2.2
  have hs : ∀ q ∈ wholes (joinL c os), smallQ q := by
    intro q hq
    obtain ⟨y, hy, rfl⟩ := List.mem_map.1 hq
    have := joinL_bd hcb os y hy
    unfold smallQ
    rw [Rat.den_intCast, Rat.num_intCast]
    omega
  rw [ccB_in hv hn (by simp [wholes, hl]) hs]
  have e : (fun i => (wholes (joinL c os)).getD i 0) = payR (joinL c os) := by
    funext i
    unfold wholes payR
    rw [List.getD_eq_getElem?_getD, List.getElem?_map, List.getD_eq_getElem?_getD]
    cases (joinL c os)[i]? <;> simp
  rw [e]

/-- Concave, for every costs. -/
def concA (c : List Int) : Nat × Nat × Nat := if valC c then concL c else (0, 0, 2)
theorem concA_take (c : List Int) : concA (c.take 18) = concA c := by
  cases hv : valC c
  · simp [concA, hv, valC_take]
  · rw [take18 (by have := (valC_iff.1 hv).1; omega)]
/-- Join, for every costs and order. -/
def joinA (c l : List Int) : List Int := if valC c && ordR (plr c) l then joinZ c l else []
def joinE (c l : List Int) : Int := if valC c && ordR (plr c) l then 0 else 2
/-- Where costs are concave: what Join answers is in the core. -/
theorem joinA_core {c l : List Int} (hv : valC c = true) (hc : Conc c) (ho : ordR (plr c) l = true) : (joinA c l).length = plr c ∧ ccB c ((wholes (joinA c l)).map pr) = true ∧ ∀ y ∈ joinA c l, -1000 ≤ y ∧ y ≤ 1000 := by
  have hp := valC_pow hv
  have hcb := (valC_iff.1 hv).2.2
  obtain ⟨os, e1, hb, hl⟩ := ordR_nats ho
  have e2 : joinA c l = joinL c os := by
    unfold joinA joinZ
    rw [hv, ho]
    simp only [Bool.and_self, if_true]
    rw [toNat_of os e1]
  have hg : ordG (plr c) (os.map Int.ofNat) = true := by rw [ordG_eq hp.2.1 hp.2.2, ← e1]; exact ho
  obtain ⟨hd, hs⟩ := ord_ok hp.2.1 hp.2.2 hl hb hg
  have hjl : (joinL c os).length = plr c := by
    have := (joinP_bd c (plr c) os hb).2
    unfold joinP at this
    unfold joinL
    rw [hl]; exact this
  have h0 : c.getD 0 0 = 0 := by
    have h0 := (valC_iff.1 hv).2.1
    have : c.getD 0 0 = c.getD 0 1 := by rw [List.getD_eq_getElem?_getD, List.getD_eq_getElem?_getD, List.getElem?_eq_getElem (by have := (valC_iff.1 hv).1; omega)]; rfl
    omega
  rw [e2]
  exact ⟨hjl, (wholes_in hv rfl hjl).2 (joinL_core hp.1 hc h0 hd hb hl hs), joinL_bd hcb os⟩
theorem shap_cc {c : List Int} (hv : valC c = true) (hc : Conc c) : ccB c ((shapL c (plr c)).map pr) = true ∧ (coreF c).isSome = true := by
  have hp := valC_pow hv
  have hcb := (valC_iff.1 hv).2.2
  have h0 : c.getD 0 0 = 0 := by
    have h0 := (valC_iff.1 hv).2.1
    have : c.getD 0 0 = c.getD 0 1 := by rw [List.getD_eq_getElem?_getD, List.getD_eq_getElem?_getD, List.getElem?_eq_getElem (by have := (valC_iff.1 hv).1; omega)]; rfl
    omega
  have h := shap_core hp.2.1 hp.2.2 hp.1 hc h0
  have hsl : (shapL c (plr c)).length = plr c := by simp [shapL, sumsL, addAll_length]
  exact ⟨(ccB_in hv rfl hsl (shapL_small hcb hp.2.2)).2 h, (core_iff hv).2 ⟨_, h⟩⟩

/- The Shapley payments: who changes no cost pays nothing, who raise all costs alike pay alike, sums add. Plain Lean. -/

/-- Some set's cost is changed by player i, among the first k sets. -/
def raisesTo (c : List Int) (i k : Nat) : Bool := (List.range k).any fun s => decide (c.getD (s ||| 2 ^ i) 0 ≠ c.getD s 0)
theorem raisesTo_succ (c : List Int) (i k : Nat) : raisesTo c i (k + 1) = (raisesTo c i k || decide (c.getD (k ||| 2 ^ i) 0 ≠ c.getD k 0)) := by
  simp [raisesTo, List.range_succ]
def alikeAt (c : List Int) (i j s : Nat) : Bool := s.testBit i || (s.testBit j || decide (c.getD (s ||| 2 ^ i) 0 = c.getD (s ||| 2 ^ j) 0))
def alikeTo (c : List Int) (i j k : Nat) : Bool := (List.range k).all fun s => alikeAt c i j s
theorem alikeTo_succ (c : List Int) (i j k : Nat) : alikeTo c i j (k + 1) = (alikeTo c i j k && alikeAt c i j k) := by
  simp [alikeTo, List.range_succ]

theorem null1_0 (c0 c1 : Int) (h : raisesTo [c0, c1] 0 2 = false) : (shapL [c0, c1] 1).getD 0 0 = 0 := by
  have h : c1 = c0 := by
    simpa [raisesTo, List.range_succ] using h
  unfold shapL
  rw [sums1, F1]
  simp only [List.map_cons, List.map_nil, List.getD_cons_zero]
  have e : ∀ (s F : Int), s = 0 → Rat.divInt s F = 0 := fun s F h => by rw [h, Rat.zero_divInt]
  exact e _ _ (by omega)
theorem null2_0 (c0 c1 c2 c3 : Int) (h : raisesTo [c0, c1, c2, c3] 0 4 = false) : (shapL [c0, c1, c2, c3] 2).getD 0 0 = 0 := by
  have h : c1 = c0 ∧ c3 = c2 := by
    simpa [raisesTo, List.range_succ] using h
  unfold shapL
  rw [sums2, F2]
  simp only [List.map_cons, List.map_nil, List.getD_cons_zero]
  have e : ∀ (s F : Int), s = 0 → Rat.divInt s F = 0 := fun s F h => by rw [h, Rat.zero_divInt]
  exact e _ _ (by omega)
theorem null2_1 (c0 c1 c2 c3 : Int) (h : raisesTo [c0, c1, c2, c3] 1 4 = false) : (shapL [c0, c1, c2, c3] 2).getD 1 0 = 0 := by
  have h : c2 = c0 ∧ c3 = c1 := by
    simpa [raisesTo, List.range_succ] using h
  unfold shapL
  rw [sums2, F2]
  simp only [List.map_cons, List.map_nil, List.getD_cons_zero, List.getD_cons_succ]
  have e : ∀ (s F : Int), s = 0 → Rat.divInt s F = 0 := fun s F h => by rw [h, Rat.zero_divInt]
  exact e _ _ (by omega)
theorem sym2_1_0 (c0 c1 c2 c3 : Int) (h : alikeTo [c0, c1, c2, c3] 1 0 4 = true) : (shapL [c0, c1, c2, c3] 2).getD 1 0 = (shapL [c0, c1, c2, c3] 2).getD 0 0 := by
  have h : c2 = c1 := by
    simpa [alikeTo, alikeAt, List.range_succ, Nat.testBit_eq_decide_div_mod_eq] using h
  unfold shapL
  rw [sums2, F2]
  simp only [List.map_cons, List.map_nil, List.getD_cons_zero, List.getD_cons_succ]
  have e : ∀ (s t F : Int), s = t → Rat.divInt s F = Rat.divInt t F := fun s t F h => by rw [h]
  exact e _ _ _ (by omega)
theorem null3_0 (c0 c1 c2 c3 c4 c5 c6 c7 : Int) (h : raisesTo [c0, c1, c2, c3, c4, c5, c6, c7] 0 8 = false) : (shapL [c0, c1, c2, c3, c4, c5, c6, c7] 3).getD 0 0 = 0 := by
  have h : c1 = c0 ∧ c3 = c2 ∧ c5 = c4 ∧ c7 = c6 := by
    simpa [raisesTo, List.range_succ] using h
  unfold shapL
  rw [sums3, F3]
  simp only [List.map_cons, List.map_nil, List.getD_cons_zero]
  have e : ∀ (s F : Int), s = 0 → Rat.divInt s F = 0 := fun s F h => by rw [h, Rat.zero_divInt]
  exact e _ _ (by omega)
theorem null3_1 (c0 c1 c2 c3 c4 c5 c6 c7 : Int) (h : raisesTo [c0, c1, c2, c3, c4, c5, c6, c7] 1 8 = false) : (shapL [c0, c1, c2, c3, c4, c5, c6, c7] 3).getD 1 0 = 0 := by
  have h : c2 = c0 ∧ c3 = c1 ∧ c6 = c4 ∧ c7 = c5 := by
    simpa [raisesTo, List.range_succ] using h
  unfold shapL
  rw [sums3, F3]
  simp only [List.map_cons, List.map_nil, List.getD_cons_zero, List.getD_cons_succ]
  have e : ∀ (s F : Int), s = 0 → Rat.divInt s F = 0 := fun s F h => by rw [h, Rat.zero_divInt]
  exact e _ _ (by omega)
theorem null3_2 (c0 c1 c2 c3 c4 c5 c6 c7 : Int) (h : raisesTo [c0, c1, c2, c3, c4, c5, c6, c7] 2 8 = false) : (shapL [c0, c1, c2, c3, c4, c5, c6, c7] 3).getD 2 0 = 0 := by
  have h : c4 = c0 ∧ c5 = c1 ∧ c6 = c2 ∧ c7 = c3 := by
    simpa [raisesTo, List.range_succ] using h
  unfold shapL
  rw [sums3, F3]
  simp only [List.map_cons, List.map_nil, List.getD_cons_zero, List.getD_cons_succ]
  have e : ∀ (s F : Int), s = 0 → Rat.divInt s F = 0 := fun s F h => by rw [h, Rat.zero_divInt]
  exact e _ _ (by omega)
theorem sym3_1_0 (c0 c1 c2 c3 c4 c5 c6 c7 : Int) (h : alikeTo [c0, c1, c2, c3, c4, c5, c6, c7] 1 0 8 = true) : (shapL [c0, c1, c2, c3, c4, c5, c6, c7] 3).getD 1 0 = (shapL [c0, c1, c2, c3, c4, c5, c6, c7] 3).getD 0 0 := by
  have h : c2 = c1 ∧ c6 = c5 := by
    simpa [alikeTo, alikeAt, List.range_succ, Nat.testBit_eq_decide_div_mod_eq] using h
  unfold shapL
  rw [sums3, F3]
  simp only [List.map_cons, List.map_nil, List.getD_cons_zero, List.getD_cons_succ]
  have e : ∀ (s t F : Int), s = t → Rat.divInt s F = Rat.divInt t F := fun s t F h => by rw [h]
  exact e _ _ _ (by omega)
theorem sym3_2_0 (c0 c1 c2 c3 c4 c5 c6 c7 : Int) (h : alikeTo [c0, c1, c2, c3, c4, c5, c6, c7] 2 0 8 = true) : (shapL [c0, c1, c2, c3, c4, c5, c6, c7] 3).getD 2 0 = (shapL [c0, c1, c2, c3, c4, c5, c6, c7] 3).getD 0 0 := by
  have h : c4 = c1 ∧ c6 = c3 := by
    simpa [alikeTo, alikeAt, List.range_succ, Nat.testBit_eq_decide_div_mod_eq] using h
  unfold shapL
  rw [sums3, F3]
  simp only [List.map_cons, List.map_nil, List.getD_cons_zero, List.getD_cons_succ]
  have e : ∀ (s t F : Int), s = t → Rat.divInt s F = Rat.divInt t F := fun s t F h => by rw [h]
  exact e _ _ _ (by omega)
theorem sym3_2_1 (c0 c1 c2 c3 c4 c5 c6 c7 : Int) (h : alikeTo [c0, c1, c2, c3, c4, c5, c6, c7] 2 1 8 = true) : (shapL [c0, c1, c2, c3, c4, c5, c6, c7] 3).getD 2 0 = (shapL [c0, c1, c2, c3, c4, c5, c6, c7] 3).getD 1 0 := by
  have h : c4 = c2 ∧ c5 = c3 := by
    simpa [alikeTo, alikeAt, List.range_succ, Nat.testBit_eq_decide_div_mod_eq] using h
  unfold shapL
  rw [sums3, F3]
  simp only [List.map_cons, List.map_nil, List.getD_cons_zero, List.getD_cons_succ]
  have e : ∀ (s t F : Int), s = t → Rat.divInt s F = Rat.divInt t F := fun s t F h => by rw [h]
  exact e _ _ _ (by omega)
theorem null4_0 (c0 c1 c2 c3 c4 c5 c6 c7 c8 c9 c10 c11 c12 c13 c14 c15 : Int) (h : raisesTo [c0, c1, c2, c3, c4, c5, c6, c7, c8, c9, c10, c11, c12, c13, c14, c15] 0 16 = false) : (shapL [c0, c1, c2, c3, c4, c5, c6, c7, c8, c9, c10, c11, c12, c13, c14, c15] 4).getD 0 0 = 0 := by
  have h : c1 = c0 ∧ c3 = c2 ∧ c5 = c4 ∧ c7 = c6 ∧ c9 = c8 ∧ c11 = c10 ∧ c13 = c12 ∧ c15 = c14 := by
    simpa [raisesTo, List.range_succ] using h
  unfold shapL
  rw [sums4, F4]
  simp only [List.map_cons, List.map_nil, List.getD_cons_zero]
  have e : ∀ (s F : Int), s = 0 → Rat.divInt s F = 0 := fun s F h => by rw [h, Rat.zero_divInt]
  exact e _ _ (by omega)
theorem null4_1 (c0 c1 c2 c3 c4 c5 c6 c7 c8 c9 c10 c11 c12 c13 c14 c15 : Int) (h : raisesTo [c0, c1, c2, c3, c4, c5, c6, c7, c8, c9, c10, c11, c12, c13, c14, c15] 1 16 = false) : (shapL [c0, c1, c2, c3, c4, c5, c6, c7, c8, c9, c10, c11, c12, c13, c14, c15] 4).getD 1 0 = 0 := by
  have h : c2 = c0 ∧ c3 = c1 ∧ c6 = c4 ∧ c7 = c5 ∧ c10 = c8 ∧ c11 = c9 ∧ c14 = c12 ∧ c15 = c13 := by
    simpa [raisesTo, List.range_succ] using h
  unfold shapL
  rw [sums4, F4]
  simp only [List.map_cons, List.map_nil, List.getD_cons_zero, List.getD_cons_succ]
  have e : ∀ (s F : Int), s = 0 → Rat.divInt s F = 0 := fun s F h => by rw [h, Rat.zero_divInt]
  exact e _ _ (by omega)
theorem null4_2 (c0 c1 c2 c3 c4 c5 c6 c7 c8 c9 c10 c11 c12 c13 c14 c15 : Int) (h : raisesTo [c0, c1, c2, c3, c4, c5, c6, c7, c8, c9, c10, c11, c12, c13, c14, c15] 2 16 = false) : (shapL [c0, c1, c2, c3, c4, c5, c6, c7, c8, c9, c10, c11, c12, c13, c14, c15] 4).getD 2 0 = 0 := by
  have h : c4 = c0 ∧ c5 = c1 ∧ c6 = c2 ∧ c7 = c3 ∧ c12 = c8 ∧ c13 = c9 ∧ c14 = c10 ∧ c15 = c11 := by
    simpa [raisesTo, List.range_succ] using h
  unfold shapL
  rw [sums4, F4]
  simp only [List.map_cons, List.map_nil, List.getD_cons_zero, List.getD_cons_succ]
  have e : ∀ (s F : Int), s = 0 → Rat.divInt s F = 0 := fun s F h => by rw [h, Rat.zero_divInt]
  exact e _ _ (by omega)
theorem null4_3 (c0 c1 c2 c3 c4 c5 c6 c7 c8 c9 c10 c11 c12 c13 c14 c15 : Int) (h : raisesTo [c0, c1, c2, c3, c4, c5, c6, c7, c8, c9, c10, c11, c12, c13, c14, c15] 3 16 = false) : (shapL [c0, c1, c2, c3, c4, c5, c6, c7, c8, c9, c10, c11, c12, c13, c14, c15] 4).getD 3 0 = 0 := by
  have h : c8 = c0 ∧ c9 = c1 ∧ c10 = c2 ∧ c11 = c3 ∧ c12 = c4 ∧ c13 = c5 ∧ c14 = c6 ∧ c15 = c7 := by
    simpa [raisesTo, List.range_succ] using h
  unfold shapL
  rw [sums4, F4]
  simp only [List.map_cons, List.map_nil, List.getD_cons_zero, List.getD_cons_succ]
  have e : ∀ (s F : Int), s = 0 → Rat.divInt s F = 0 := fun s F h => by rw [h, Rat.zero_divInt]
  exact e _ _ (by omega)
theorem sym4_1_0 (c0 c1 c2 c3 c4 c5 c6 c7 c8 c9 c10 c11 c12 c13 c14 c15 : Int) (h : alikeTo [c0, c1, c2, c3, c4, c5, c6, c7, c8, c9, c10, c11, c12, c13, c14, c15] 1 0 16 = true) : (shapL [c0, c1, c2, c3, c4, c5, c6, c7, c8, c9, c10, c11, c12, c13, c14, c15] 4).getD 1 0 = (shapL [c0, c1, c2, c3, c4, c5, c6, c7, c8, c9, c10, c11, c12, c13, c14, c15] 4).getD 0 0 := by
  have h : c2 = c1 ∧ c6 = c5 ∧ c10 = c9 ∧ c14 = c13 := by
    simpa [alikeTo, alikeAt, List.range_succ, Nat.testBit_eq_decide_div_mod_eq] using h
  unfold shapL
  rw [sums4, F4]
  simp only [List.map_cons, List.map_nil, List.getD_cons_zero, List.getD_cons_succ]
  have e : ∀ (s t F : Int), s = t → Rat.divInt s F = Rat.divInt t F := fun s t F h => by rw [h]
  exact e _ _ _ (by omega)
theorem sym4_2_0 (c0 c1 c2 c3 c4 c5 c6 c7 c8 c9 c10 c11 c12 c13 c14 c15 : Int) (h : alikeTo [c0, c1, c2, c3, c4, c5, c6, c7, c8, c9, c10, c11, c12, c13, c14, c15] 2 0 16 = true) : (shapL [c0, c1, c2, c3, c4, c5, c6, c7, c8, c9, c10, c11, c12, c13, c14, c15] 4).getD 2 0 = (shapL [c0, c1, c2, c3, c4, c5, c6, c7, c8, c9, c10, c11, c12, c13, c14, c15] 4).getD 0 0 := by
  have h : c4 = c1 ∧ c6 = c3 ∧ c12 = c9 ∧ c14 = c11 := by
    simpa [alikeTo, alikeAt, List.range_succ, Nat.testBit_eq_decide_div_mod_eq] using h
  unfold shapL
  rw [sums4, F4]
  simp only [List.map_cons, List.map_nil, List.getD_cons_zero, List.getD_cons_succ]
  have e : ∀ (s t F : Int), s = t → Rat.divInt s F = Rat.divInt t F := fun s t F h => by rw [h]
  exact e _ _ _ (by omega)
theorem sym4_2_1 (c0 c1 c2 c3 c4 c5 c6 c7 c8 c9 c10 c11 c12 c13 c14 c15 : Int) (h : alikeTo [c0, c1, c2, c3, c4, c5, c6, c7, c8, c9, c10, c11, c12, c13, c14, c15] 2 1 16 = true) : (shapL [c0, c1, c2, c3, c4, c5, c6, c7, c8, c9, c10, c11, c12, c13, c14, c15] 4).getD 2 0 = (shapL [c0, c1, c2, c3, c4, c5, c6, c7, c8, c9, c10, c11, c12, c13, c14, c15] 4).getD 1 0 := by
  have h : c4 = c2 ∧ c5 = c3 ∧ c12 = c10 ∧ c13 = c11 := by
    simpa [alikeTo, alikeAt, List.range_succ, Nat.testBit_eq_decide_div_mod_eq] using h
  unfold shapL
  rw [sums4, F4]
  simp only [List.map_cons, List.map_nil, List.getD_cons_zero, List.getD_cons_succ]
  have e : ∀ (s t F : Int), s = t → Rat.divInt s F = Rat.divInt t F := fun s t F h => by rw [h]
  exact e _ _ _ (by omega)
theorem sym4_3_0 (c0 c1 c2 c3 c4 c5 c6 c7 c8 c9 c10 c11 c12 c13 c14 c15 : Int) (h : alikeTo [c0, c1, c2, c3, c4, c5, c6, c7, c8, c9, c10, c11, c12, c13, c14, c15] 3 0 16 = true) : (shapL [c0, c1, c2, c3, c4, c5, c6, c7, c8, c9, c10, c11, c12, c13, c14, c15] 4).getD 3 0 = (shapL [c0, c1, c2, c3, c4, c5, c6, c7, c8, c9, c10, c11, c12, c13, c14, c15] 4).getD 0 0 := by
  have h : c8 = c1 ∧ c10 = c3 ∧ c12 = c5 ∧ c14 = c7 := by
    simpa [alikeTo, alikeAt, List.range_succ, Nat.testBit_eq_decide_div_mod_eq] using h
  unfold shapL
  rw [sums4, F4]
  simp only [List.map_cons, List.map_nil, List.getD_cons_zero, List.getD_cons_succ]
  have e : ∀ (s t F : Int), s = t → Rat.divInt s F = Rat.divInt t F := fun s t F h => by rw [h]
  exact e _ _ _ (by omega)
theorem sym4_3_1 (c0 c1 c2 c3 c4 c5 c6 c7 c8 c9 c10 c11 c12 c13 c14 c15 : Int) (h : alikeTo [c0, c1, c2, c3, c4, c5, c6, c7, c8, c9, c10, c11, c12, c13, c14, c15] 3 1 16 = true) : (shapL [c0, c1, c2, c3, c4, c5, c6, c7, c8, c9, c10, c11, c12, c13, c14, c15] 4).getD 3 0 = (shapL [c0, c1, c2, c3, c4, c5, c6, c7, c8, c9, c10, c11, c12, c13, c14, c15] 4).getD 1 0 := by
  have h : c8 = c2 ∧ c9 = c3 ∧ c12 = c6 ∧ c13 = c7 := by
    simpa [alikeTo, alikeAt, List.range_succ, Nat.testBit_eq_decide_div_mod_eq] using h
  unfold shapL
  rw [sums4, F4]
  simp only [List.map_cons, List.map_nil, List.getD_cons_zero, List.getD_cons_succ]
  have e : ∀ (s t F : Int), s = t → Rat.divInt s F = Rat.divInt t F := fun s t F h => by rw [h]
  exact e _ _ _ (by omega)
theorem sym4_3_2 (c0 c1 c2 c3 c4 c5 c6 c7 c8 c9 c10 c11 c12 c13 c14 c15 : Int) (h : alikeTo [c0, c1, c2, c3, c4, c5, c6, c7, c8, c9, c10, c11, c12, c13, c14, c15] 3 2 16 = true) : (shapL [c0, c1, c2, c3, c4, c5, c6, c7, c8, c9, c10, c11, c12, c13, c14, c15] 4).getD 3 0 = (shapL [c0, c1, c2, c3, c4, c5, c6, c7, c8, c9, c10, c11, c12, c13, c14, c15] 4).getD 2 0 := by
  have h : c8 = c4 ∧ c9 = c5 ∧ c10 = c6 ∧ c11 = c7 := by
    simpa [alikeTo, alikeAt, List.range_succ, Nat.testBit_eq_decide_div_mod_eq] using h
  unfold shapL
  rw [sums4, F4]
  simp only [List.map_cons, List.map_nil, List.getD_cons_zero, List.getD_cons_succ]
  have e : ∀ (s t F : Int), s = t → Rat.divInt s F = Rat.divInt t F := fun s t F h => by rw [h]
  exact e _ _ _ (by omega)

theorem shap_null {c : List Int} {n i : Nat} (hn : 1 ≤ n ∧ n ≤ 4) (hi : i < n) (hl : c.length = 2 ^ n) (h : raisesTo c i (2 ^ n) = false) : (shapL c n).getD i 0 = 0 := by
  match n, hn with
  | 1, _ =>
    obtain ⟨c0, c1, rfl⟩ := list2 c hl
    match i, hi with
    | 0, _ => exact null1_0 _ _ h
  | 2, _ =>
    obtain ⟨c0, c1, c2, c3, rfl⟩ := list4 c hl
    match i, hi with
    | 0, _ => exact null2_0 _ _ _ _ h
    | 1, _ => exact null2_1 _ _ _ _ h
  | 3, _ =>
    obtain ⟨c0, c1, c2, c3, c4, c5, c6, c7, rfl⟩ := list8 c hl
    match i, hi with
    | 0, _ => exact null3_0 _ _ _ _ _ _ _ _ h
    | 1, _ => exact null3_1 _ _ _ _ _ _ _ _ h
    | 2, _ => exact null3_2 _ _ _ _ _ _ _ _ h
  | 4, _ =>
    obtain ⟨c0, c1, c2, c3, c4, c5, c6, c7, c8, c9, c10, c11, c12, c13, c14, c15, rfl⟩ := list16 c hl
    match i, hi with
    | 0, _ => exact null4_0 _ _ _ _ _ _ _ _ _ _ _ _ _ _ _ _ h
    | 1, _ => exact null4_1 _ _ _ _ _ _ _ _ _ _ _ _ _ _ _ _ h
    | 2, _ => exact null4_2 _ _ _ _ _ _ _ _ _ _ _ _ _ _ _ _ h
    | 3, _ => exact null4_3 _ _ _ _ _ _ _ _ _ _ _ _ _ _ _ _ h
theorem shap_sym {c : List Int} {n i j : Nat} (hn : 1 ≤ n ∧ n ≤ 4) (hi : i < n) (hj : j < i) (hl : c.length = 2 ^ n) (h : alikeTo c i j (2 ^ n) = true) : (shapL c n).getD i 0 = (shapL c n).getD j 0 := by
  match n, hn with
  | 1, _ =>
    obtain ⟨c0, c1, rfl⟩ := list2 c hl
    match i, j, hi, hj with
    | 0, j, _, hj => omega
  | 2, _ =>
    obtain ⟨c0, c1, c2, c3, rfl⟩ := list4 c hl
    match i, j, hi, hj with
    | 1, 0, _, _ => exact sym2_1_0 _ _ _ _ h
  | 3, _ =>
    obtain ⟨c0, c1, c2, c3, c4, c5, c6, c7, rfl⟩ := list8 c hl
    match i, j, hi, hj with
    | 1, 0, _, _ => exact sym3_1_0 _ _ _ _ _ _ _ _ h
    | 2, 0, _, _ => exact sym3_2_0 _ _ _ _ _ _ _ _ h
    | 2, 1, _, _ => exact sym3_2_1 _ _ _ _ _ _ _ _ h
  | 4, _ =>
    obtain ⟨c0, c1, c2, c3, c4, c5, c6, c7, c8, c9, c10, c11, c12, c13, c14, c15, rfl⟩ := list16 c hl
    match i, j, hi, hj with
    | 1, 0, _, _ => exact sym4_1_0 _ _ _ _ _ _ _ _ _ _ _ _ _ _ _ _ h
    | 2, 0, _, _ => exact sym4_2_0 _ _ _ _ _ _ _ _ _ _ _ _ _ _ _ _ h
    | 2, 1, _, _ => exact sym4_2_1 _ _ _ _ _ _ _ _ _ _ _ _ _ _ _ _ h
    | 3, 0, _, _ => exact sym4_3_0 _ _ _ _ _ _ _ _ _ _ _ _ _ _ _ _ h
    | 3, 1, _, _ => exact sym4_3_1 _ _ _ _ _ _ _ _ _ _ _ _ _ _ _ _ h
    | 3, 2, _, _ => exact sym4_3_2 _ _ _ _ _ _ _ _ _ _ _ _ _ _ _ _ h

set_option maxHeartbeats 4000000 in
/-- The sums add. -/
theorem sums_add {c d e : List Int} {n : Nat} (hn : 1 ≤ n ∧ n ≤ 4) (hc : c.length = 2 ^ n) (hd : d.length = 2 ^ n) (he : e.length = 2 ^ n) (h : ∀ i, i < 2 ^ n → e.getD i 0 = c.getD i 0 + d.getD i 0) :
    ∀ i, i < n → (shapL e n).getD i 0 = (shapL c n).getD i 0 + (shapL d n).getD i 0 := by
  have key : ∀ (s t u F : Int), u = s + t → Rat.divInt u F = Rat.divInt s F + Rat.divInt t F := fun s t u F h => by rw [add_same, h]
  match n, hn with
  | 1, _ =>
    obtain ⟨c0, c1, rfl⟩ := list2 c hc
    obtain ⟨d0, d1, rfl⟩ := list2 d hd
    obtain ⟨e0, e1, rfl⟩ := list2 e he
    have hh : e0 = c0 + d0 ∧ e1 = c1 + d1 := ⟨h 0 (by decide), h 1 (by decide)⟩
    clear h hc hd he
    unfold shapL
    rw [sums1, sums1, sums1, F1]
    intro i hi
    match i, hi with
    | 0, _ =>
      simp only [List.map_cons, List.map_nil, List.getD_cons_zero]
      exact key _ _ _ _ (by omega)
  | 2, _ =>
    obtain ⟨c0, c1, c2, c3, rfl⟩ := list4 c hc
    obtain ⟨d0, d1, d2, d3, rfl⟩ := list4 d hd
    obtain ⟨e0, e1, e2, e3, rfl⟩ := list4 e he
    have hh : e0 = c0 + d0 ∧ e1 = c1 + d1 ∧ e2 = c2 + d2 ∧ e3 = c3 + d3 := ⟨h 0 (by decide), h 1 (by decide), h 2 (by decide), h 3 (by decide)⟩
    clear h hc hd he
    unfold shapL
    rw [sums2, sums2, sums2, F2]
    intro i hi
    match i, hi with
    | 0, _ =>
      simp only [List.map_cons, List.map_nil, List.getD_cons_zero]
      exact key _ _ _ _ (by omega)
    | 1, _ =>
      simp only [List.map_cons, List.map_nil, List.getD_cons_zero, List.getD_cons_succ]
      exact key _ _ _ _ (by omega)
  | 3, _ =>
    obtain ⟨c0, c1, c2, c3, c4, c5, c6, c7, rfl⟩ := list8 c hc
    obtain ⟨d0, d1, d2, d3, d4, d5, d6, d7, rfl⟩ := list8 d hd
    obtain ⟨e0, e1, e2, e3, e4, e5, e6, e7, rfl⟩ := list8 e he
    have hh : e0 = c0 + d0 ∧ e1 = c1 + d1 ∧ e2 = c2 + d2 ∧ e3 = c3 + d3 ∧ e4 = c4 + d4 ∧ e5 = c5 + d5 ∧ e6 = c6 + d6 ∧ e7 = c7 + d7 := ⟨h 0 (by decide), h 1 (by decide), h 2 (by decide), h 3 (by decide), h 4 (by decide), h 5 (by decide), h 6 (by decide), h 7 (by decide)⟩
    clear h hc hd he
    unfold shapL
    rw [sums3, sums3, sums3, F3]
    intro i hi
    match i, hi with
    | 0, _ =>
      simp only [List.map_cons, List.map_nil, List.getD_cons_zero]
      exact key _ _ _ _ (by omega)
    | 1, _ =>
      simp only [List.map_cons, List.map_nil, List.getD_cons_zero, List.getD_cons_succ]
      exact key _ _ _ _ (by omega)
    | 2, _ =>
      simp only [List.map_cons, List.map_nil, List.getD_cons_zero, List.getD_cons_succ]
      exact key _ _ _ _ (by omega)
  | 4, _ =>
    obtain ⟨c0, c1, c2, c3, c4, c5, c6, c7, c8, c9, c10, c11, c12, c13, c14, c15, rfl⟩ := list16 c hc
    obtain ⟨d0, d1, d2, d3, d4, d5, d6, d7, d8, d9, d10, d11, d12, d13, d14, d15, rfl⟩ := list16 d hd
    obtain ⟨e0, e1, e2, e3, e4, e5, e6, e7, e8, e9, e10, e11, e12, e13, e14, e15, rfl⟩ := list16 e he
    have hh : e0 = c0 + d0 ∧ e1 = c1 + d1 ∧ e2 = c2 + d2 ∧ e3 = c3 + d3 ∧ e4 = c4 + d4 ∧ e5 = c5 + d5 ∧ e6 = c6 + d6 ∧ e7 = c7 + d7 ∧ e8 = c8 + d8 ∧ e9 = c9 + d9 ∧ e10 = c10 + d10 ∧ e11 = c11 + d11 ∧ e12 = c12 + d12 ∧ e13 = c13 + d13 ∧ e14 = c14 + d14 ∧ e15 = c15 + d15 := ⟨h 0 (by decide), h 1 (by decide), h 2 (by decide), h 3 (by decide), h 4 (by decide), h 5 (by decide), h 6 (by decide), h 7 (by decide), h 8 (by decide), h 9 (by decide), h 10 (by decide), h 11 (by decide), h 12 (by decide), h 13 (by decide), h 14 (by decide), h 15 (by decide)⟩
    clear h hc hd he
    unfold shapL
    rw [sums4, sums4, sums4, F4]
    intro i hi
    match i, hi with
    | 0, _ =>
      simp only [List.map_cons, List.map_nil, List.getD_cons_zero]
      exact key _ _ _ _ (by omega)
    | 1, _ =>
      simp only [List.map_cons, List.map_nil, List.getD_cons_zero, List.getD_cons_succ]
      exact key _ _ _ _ (by omega)
    | 2, _ =>
      simp only [List.map_cons, List.map_nil, List.getD_cons_zero, List.getD_cons_succ]
      exact key _ _ _ _ (by omega)
    | 3, _ =>
      simp only [List.map_cons, List.map_nil, List.getD_cons_zero, List.getD_cons_succ]
      exact key _ _ _ _ (by omega)

/-- The sums of two games, wrapped, of the first k sets. -/
def sumTo (c d : List Int) (k : Nat) : List Int := (List.range k).map fun i => IntKind.i64.wrap (c.getD i 0 + d.getD i 0)
theorem sumTo_length (c d : List Int) (k : Nat) : (sumTo c d k).length = k := by simp [sumTo]
theorem sumTo_succ {c d : List Int} {k : Nat} {x y : Int} (hx : c[k]? = some x) (hy : d[k]? = some y) : sumTo c d (k + 1) = sumTo c d k ++ [IntKind.i64.wrap (x + y)] := by
  simp [sumTo, List.range_succ, List.getD_eq_getElem?_getD, hx, hy]
theorem sumTo_get {c d : List Int} {k i : Nat} (h : i < k) : (sumTo c d k).getD i 0 = IntKind.i64.wrap (c.getD i 0 + d.getD i 0) := by
  rw [List.getD_eq_getElem?_getD]
  simp [sumTo, h]
theorem plr_len {a b : List Int} (ha : valC a = true) (hb : valC b = true) (h : a.length = b.length) : plr a = plr b := by
  unfold plr
  rw [if_pos ha, if_pos hb, h]
theorem shap_add {c d : List Int} {n N : Nat} (hn : 1 ≤ n ∧ n ≤ 4) (hN : N = 2 ^ n) (hc : c.length = N) (hd : d.length = N) (hvc : valC c = true) (hvd : valC d = true) :
    ∀ i, i < n → (shapL (sumTo c d N) n).getD i 0 = (shapL c n).getD i 0 + (shapL d n).getD i 0 := by
  refine sums_add hn (by rw [hc, hN]) (by rw [hd, hN]) (by rw [sumTo_length, hN]) fun i hi => ?_
  rw [sumTo_get (by rw [hN]; exact hi)]
  have h1 := costs_get (valC_iff.1 hvc).2.2 i
  have h2 := costs_get (valC_iff.1 hvd).2.2 i
  exact IntWalk.i64_in _ (by omega)

/- All costs multiplied by a number: plain Lean. -/

def timesL (c : List Int) (k : Nat) : List Int := c.map (· * (k : Int))
theorem timesL_length (c : List Int) (k : Nat) : (timesL c k).length = c.length := by simp [timesL]
theorem timesL_get (c : List Int) (k i : Nat) : (timesL c k).getD i 0 = c.getD i 0 * (k : Int) := by
  unfold timesL
  rw [List.getD_eq_getElem?_getD, List.getElem?_map, List.getD_eq_getElem?_getD]
  cases c[i]? <;> simp
theorem shap_times {c : List Int} {n : Nat} (hn : 1 ≤ n ∧ n ≤ 4) (hc : c.length = 2 ^ n) : ∀ k, ∀ i, i < n → (shapL (timesL c (k + 1)) n).getD i 0 = (shapL c n).getD i 0 * (((k + 1 : Nat) : Int) : Rat) := by
  intro k
  induction k with
  | zero =>
    intro i _
    have e : timesL c 1 = c := by unfold timesL; simp
    rw [e]
    have : (((0 + 1 : Nat) : Int) : Rat) = 1 := rfl
    rw [this]; grind
  | succ k ih =>
    intro i hi
    rw [sums_add (c := timesL c (k + 1)) (d := c) hn (by rw [timesL_length]; exact hc) hc (by rw [timesL_length]; exact hc) (fun s _ => by
      rw [timesL_get, timesL_get, show ((k + 1 + 1 : Nat) : Int) = ((k + 1 : Nat) : Int) + 1 from by omega, Int.mul_add, Int.mul_one]) i hi, ih i hi]
    rw [show ((k + 1 + 1 : Nat) : Int) = ((k + 1 : Nat) : Int) + 1 from by omega, Rat.intCast_add]
    have : ((1 : Int) : Rat) = 1 := rfl
    rw [this]; grind
theorem dot_scale (n : Nat) (t : Rat) (d : Nat → Rat) (s : Nat) : dotS n (fun i => t * d i) s = t * dotS n d s := by
  unfold dotS
  rw [← sumQ_mul]
  exact sumQ_congr fun i _ => by grind
theorem cq_times (c : List Int) (k s : Nat) : cq (timesL c k) s = ((k : Int) : Rat) * cq c s := by
  unfold cq
  rw [timesL_get, Rat.intCast_mul, Rat.mul_comm]
theorem times_in {c : List Int} {n k : Nat} (hk : 1 ≤ k) : (∃ x, InC (timesL c k) n x) ↔ ∃ x, InC c n x := by
  have hk0 : (0 : Rat) < ((k : Int) : Rat) := (Rat.intCast_lt_intCast (a := 0) (b := (k : Int))).2 (by omega)
  have hki : ((k : Int) : Rat)⁻¹ * ((k : Int) : Rat) = 1 := by
    rw [Rat.mul_comm]; exact Rat.mul_inv_cancel _ (by grind)
  have hi0 := Rat.le_of_lt (Rat.inv_pos.2 hk0)
  constructor
  · rintro ⟨x, h1, h2⟩
    refine ⟨fun i => ((k : Int) : Rat)⁻¹ * x i, ?_, fun s hs => ?_⟩
    · rw [dot_scale, h1, cq_times, ← Rat.mul_assoc, hki, Rat.one_mul]
    · have h3 := Rat.mul_le_mul_of_nonneg_left (h2 s hs) hi0
      rw [cq_times, ← Rat.mul_assoc, hki, Rat.one_mul] at h3
      rw [dot_scale]; exact h3
  · rintro ⟨x, h1, h2⟩
    refine ⟨fun i => ((k : Int) : Rat) * x i, ?_, fun s hs => ?_⟩
    · rw [dot_scale, h1, cq_times]
    · rw [dot_scale, cq_times]
      exact Rat.mul_le_mul_of_nonneg_left (h2 s hs) (Rat.le_of_lt hk0)
theorem bool_of_iff {a b : Bool} (h : a = true ↔ b = true) : a = b := by cases a <;> cases b <;> simp_all
theorem times_core {c : List Int} {k : Nat} (hk : 1 ≤ k) (hv : valC c = true) (hv2 : valC (timesL c k) = true) : coE (timesL c k) = coE c := by
  have hpl : plr (timesL c k) = plr c := plr_len hv2 hv (timesL_length c k)
  have e : (coreF (timesL c k)).isSome = (coreF c).isSome := bool_of_iff (by
    rw [core_iff hv2, core_iff hv, hpl]; exact times_in hk)
  unfold coE
  rw [hv, hv2, e]
theorem times_conc {c : List Int} {k : Nat} (hk : 1 ≤ k) (hv : valC c = true) (hv2 : valC (timesL c k) = true) : concA (timesL c k) = concA c := by
  have e : ∀ a b, badB (timesL c k) a b = badB c a b := by
    intro a b
    unfold badB
    rw [timesL_get, timesL_get, timesL_get, timesL_get, ← Int.add_mul, ← Int.add_mul, decide_eq_decide]
    exact Int.mul_lt_mul_right (by omega)
  unfold concA concL
  rw [hv, hv2, timesL_length]
  simp only [e]
/-- The costs while they are multiplied. -/
def timesTo (c : List Int) (k j : Nat) : List Int := (c.take j).map (· * (k : Int)) ++ c.drop j
theorem timesTo_length (c : List Int) (k j : Nat) : (timesTo c k j).length = c.length := by simp [timesTo]; omega
theorem timesTo_get {c : List Int} {k j : Nat} {x : Int} (h : c[j]? = some x) : (timesTo c k j)[j]? = some x := by
  have hj : j < c.length := List.getElem?_eq_some_iff.1 h |>.1
  unfold timesTo
  rw [List.getElem?_append_right (by simp; omega)]
  simp only [List.length_map, List.length_take]
  rw [show min j c.length = j from by omega, Nat.sub_self, List.getElem?_drop, Nat.add_zero, h]
theorem timesTo_succ {c : List Int} {k j : Nat} {x : Int} (h : c[j]? = some x) : (timesTo c k j).set j (x * (k : Int)) = timesTo c k (j + 1) := by
  have hj : j < c.length := List.getElem?_eq_some_iff.1 h |>.1
  apply List.ext_getElem?
  intro i
  rw [List.getElem?_set]
  unfold timesTo
  by_cases e : j = i
  · subst e
    rw [if_pos rfl, if_pos (by simp; omega), List.getElem?_append_left (by simp; omega), List.getElem?_map, List.getElem?_take, if_pos (by omega), h]
    rfl
  · rw [if_neg e]
    by_cases e2 : i < j
    · rw [List.getElem?_append_left (by simp; omega), List.getElem?_append_left (by simp; omega), List.getElem?_map, List.getElem?_map, List.getElem?_take, List.getElem?_take, if_pos e2, if_pos (by omega)]
    · rw [List.getElem?_append_right (by simp; omega), List.getElem?_append_right (by simp; omega)]
      simp only [List.length_map, List.length_take, List.getElem?_drop]
      congr 1
      omega
theorem timesTo_zero (c : List Int) (k : Nat) : timesTo c k 0 = c := by simp [timesTo]
theorem timesTo_all (c : List Int) (k : Nat) : timesTo c k c.length = timesL c k := by simp [timesTo, timesL]

/- Contract: cmp.isNaN of an int. -/

theorem isnan_any (x : Int) (w : World) : Calls Tryd.prog 93 #[.int .i64 x] w fun e w' => e = .returned (.bool false) ∧ w = w' := by
  have hb : (x != x) = false := by simp
  go_enter Tryd.func93, Tryd.ntmps93
  go_wp2_with fail
  go_ret
  exact ⟨rfl, rfl⟩

/- Contracts: cmp.Less and insertionSortOrdered on ints. -/

/-- The entry at j sinks below the greater ones. -/
def sink : Nat → List Int → List Int
  | 0, l => l
  | j + 1, l => if l.getD (j + 1) 0 < l.getD j 0 then sink j ((l.set (j + 1) (l.getD j 0)).set j (l.getD (j + 1) 0)) else l
/-- The first i are sorted. -/
def sortTo (l : List Int) : Nat → List Int
  | 0 => l
  | i + 1 => sink i (sortTo l i)
theorem sink_length (j : Nat) : ∀ l : List Int, (sink j l).length = l.length := by
  induction j with
  | zero => intro l; rfl
  | succ j ih => intro l; simp only [sink]; split; rw [ih]; simp; rfl
theorem sortTo_length (l : List Int) (i : Nat) : (sortTo l i).length = l.length := by
  induction i with
  | zero => rfl
  | succ i ih => simp only [sortTo]; rw [sink_length, ih]

theorem cmpless_any (x y : Int) (w : World) : Calls Tryd.prog 79 #[.int .i64 x, .int .i64 y] w fun e w' => e = .returned (.bool (decide (x < y))) ∧ w = w' := by
  go_enter Tryd.func79, Tryd.ntmps79
  go_wp2_with fail
  refine (isnan_any x _).mono ?_
  rintro e w' ⟨rfl, rfl⟩
  go_wp2_with fail
  go_ret
  exact ⟨rfl, rfl⟩
/-- The block of a slice: its first cells. -/
def PreB (w : World) (g m cp : Nat) (xs : List Int) : Prop := ∃ cur, Blk w g 3 cur ∧ cur.size = cp ∧ cur.toList.take m = xs.map (Value.int .i64)
theorem PreB.lt {w : World} {g m cp : Nat} {xs : List Int} (h : PreB w g m cp xs) : g < w.heap.size := by obtain ⟨cur, h, _⟩ := h; exact h.lt
theorem PreB.ints {w : World} {g m cp : Nat} {xs : List Int} (h : PreB w g m cp xs) : Ints w (some ⟨g, 0, none⟩) xs := by
  obtain ⟨cur, hB, _, ht⟩ := h
  intro i v hv
  rw [← ht] at hv
  have hv' : cur.toList[i]? = some v := by
    rw [List.getElem?_take] at hv
    split at hv
    · exact hv
    · cases hv
  exact hB.at_ i v hv'
theorem PreB.read {w : World} {g m cp : Nat} {xs : List Int} (h : PreB w g m cp xs) {k : Nat} {x : Int} (hx : xs[k]? = some x) : w.cell? ⟨g, k, none⟩ = some (.int .i64 x) := by
  obtain ⟨cur, hB, _, ht⟩ := h
  have hv : (cur.toList.take m)[k]? = some (.int .i64 x) := by rw [ht]; simp [hx]
  rw [List.getElem?_take] at hv
  split at hv
  · rw [hB.cell, ← Array.getElem?_toList]; exact hv
  · cases hv
theorem PreB.frozen {w : World} {g m cp : Nat} {xs : List Int} (h : PreB w g m cp xs) (k : Nat) : w.frozen? ⟨g, k, none⟩ = false := by obtain ⟨cur, hB, _⟩ := h; exact hB.frozen k
theorem PreB.set_ {w : World} {g m cp : Nat} {xs : List Int} (h : PreB w g m cp xs) (k : Nat) (y : Int) : PreB (w.setCell ⟨g, k, none⟩ (.int .i64 y)) g m cp (xs.set k y) := by
  obtain ⟨cur, hB, hs, ht⟩ := h
  refine ⟨_, hB.set_ k _, by simp [hs], ?_⟩
  rw [Array.toList_setIfInBounds, List.take_set, ht, List.map_set]

theorem PreB.drewN {w : World} {g m cp : Nat} {xs : List Int} (h : PreB w g m cp xs) (k : Nat) : PreB (w.drewN k) g m cp xs := h

set_option maxRecDepth 100000 in
set_option maxHeartbeats 1600000 in
theorem isort_any (g cap n : Nat) (l : List Int) (w : World) (hl : l.length = n) (hn : 1 ≤ n ∧ n ≤ 1000) (h : PreB w g n cap l) :
    Calls Tryd.prog 73 #[.slice (some ⟨g, 0, none⟩) n cap, .int .i64 0, .int .i64 n] w fun e w' => e = .returned (.tuple #[]) ∧ PreB w' g n cap (sortTo l n) ∧ Kept w.heap.size [g] w w' := by
  have H := Lib.hid (And.intro hl h)
  clear hl h
  go_enter Tryd.func73, Tryd.ntmps73
  go_wp2_with fail
  go_loopw [6] (fun iv wr => ∃ i : Nat, 1 ≤ i ∧ i ≤ n ∧ iv = .int .i64 i ∧ PreB wr g n cap (sortTo l i) ∧ Kept w.heap.size [g] w wr) (fun iv _ => n - (intOf iv).toNat)
  case atStart => exact ⟨1, by omega, by omega, rfl, H.out.2, Kept.refl _ _ _⟩
  case round =>
    obtain ⟨i, hi1, hi, rfl, hp, hk⟩ := hrel
    have HR := Lib.hid (And.intro hp hk)
    clear hp hk
    by_cases hlt : i < n
    · have l1 : (i : Int) < (n : Int) := by omega
      go_wp2_with fail
      go_loopw [7] (fun jv wr => ∃ (j : Nat) (L : List Int), j ≤ i ∧ jv = .int .i64 j ∧ L.length = n ∧ sink j L = sortTo l (i + 1) ∧ PreB wr g n cap L ∧ Kept w.heap.size [g] w wr) (fun jv _ => (intOf jv).toNat)
      case atStart => exact ⟨i, _, Nat.le_refl _, rfl, by rw [sortTo_length]; exact H.out.1, rfl, HR.out⟩
      case round =>
        obtain ⟨j, L, hj, rfl, hL, hs, hp, hk⟩ := hrel
        have HR2 := Lib.hid (And.intro hs (And.intro hp (And.intro hk hL)))
        clear hs hp hk
        by_cases hj0 : 0 < j
        · obtain ⟨j', rfl⟩ : ∃ j', j = j' + 1 := ⟨j - 1, by omega⟩
          obtain ⟨x, hx⟩ : ∃ x, L[j' + 1]? = some x := ⟨_, List.getElem?_eq_getElem (by omega)⟩
          obtain ⟨y, hy⟩ : ∃ y, L[j']? = some y := ⟨_, List.getElem?_eq_getElem (by omega)⟩
          have e1 := HR2.out.2.1.read hx
          have e2 := HR2.out.2.1.read hy
          have f1 := HR2.out.2.1.frozen (j' + 1)
          have f2 := HR2.out.2.1.frozen j'
          have gx : L.getD (j' + 1) 0 = x := by rw [List.getD_eq_getElem?_getD, hx]; rfl
          have gy : L.getD j' 0 = y := by rw [List.getD_eq_getElem?_getD, hy]; rfl
          have hs2 := HR2.out.1
          simp only [sink] at hs2
          rw [gx, gy] at hs2
          have hset := (HR2.out.2.1.set_ (j' + 1) y).set_ j' x
          have HS := Lib.hid (And.intro hs2 hset)
          have l2 : (0 : Int) < ((j' + 1 : Nat) : Int) := by omega
          have l3 : ((j' + 1 : Nat) : Int) < (n : Int) := by omega
          have l4 : ((j' + 1 : Nat) : Int) - 1 = (j' : Int) := by omega
          have l5 : (j' : Int) < (n : Int) := by omega
          have d0 : decide ((0 : Int) < ((j' + 1 : Nat) : Int)) = true := decide_eq_true l2
          have hq : ∀ w8, Calls Tryd.prog 79 #[.int .i64 x, .int .i64 y] w8 fun e w' => e = .returned (.bool (decide (x < y))) ∧ w' = w8 := fun w8 => (cmpless_any x y w8).mono fun _ _ ⟨a, b⟩ => ⟨a, b.symm⟩
          have HQ := Lib.hid hq
          clear hx hy gx gy hs2 hset hq hL
          by_cases hxy : x < y
          · have d1 : decide (x < y) = true := decide_eq_true hxy
            rw [d1] at HQ
            have hS2 := HS.out.1
            rw [if_pos hxy] at hS2
            have HS2 := Lib.hid hS2
            clear hS2
            go_wp2_with fail
            go_quiet ((go_at_call 79; exact Calls.quiet_of_same (HQ.out _)))
            go_wp2_with fail
            go_region
            all_goals go_wp2_with fail
            all_goals go_roundw
            case rel => exact ⟨j', _, by omega, by go_num, by simp [HR2.out.2.2.2], HS2.out, HS.out.2.drewN (nq + 1), ((HR2.out.2.2.1.setCell (.inl (by simp)) _).setCell (.inl (by simp)) _).drewN (nq + 1)⟩
            case measure => simp [intOf]
          · have d1 : decide (x < y) = false := decide_eq_false hxy
            rw [d1] at HQ
            have hS2 := HS.out.1
            rw [if_neg hxy] at hS2
            have HS2 := Lib.hid hS2
            clear hS2
            go_wp2_with fail
            go_quiet ((go_at_call 79; exact Calls.quiet_of_same (HQ.out _)))
            go_wp2_with fail
            go_roundw
            case rel => exact ⟨i + 1, by omega, by omega, by go_num, by rw [← HS2.out]; exact HR2.out.2.1.drewN nq, HR2.out.2.2.1.drewN nq⟩
            case measure => simp [intOf]; omega
        · obtain rfl : j = 0 := by omega
          have hS2 := HR2.out.1
          simp only [sink] at hS2
          have HS2 := Lib.hid hS2
          have d0 : decide ((0 : Int) < 0) = false := by decide
          clear hS2
          go_wp2_with fail
          go_quiet (fail)
          go_wp2_with fail
          go_roundw
          case rel => exact ⟨i + 1, by omega, by omega, by go_num, by rw [← HS2.out]; exact HR2.out.2.1.drewN nq, HR2.out.2.2.1.drewN nq⟩
          case measure => simp [intOf]; omega
    · obtain rfl : n = i := by omega
      go_wp2_with fail
      go_end0
      exact ⟨rfl, HR.out⟩

/- Insertion sort: sorted, and a permutation. Plain Lean. -/

theorem swap_perm : ∀ (j : Nat) (l : List Int), j + 1 < l.length → ((l.set (j + 1) (l.getD j 0)).set j (l.getD (j + 1) 0)).Perm l
  | 0, a :: b :: t, _ => by
    show (b :: a :: t).Perm (a :: b :: t)
    exact List.Perm.swap a b t
  | 0, [_], h => by simp at h
  | 0, [], h => by simp at h
  | j + 1, [], h => by simp at h
  | j + 1, a :: l, h => by
    have := swap_perm j l (by simpa using h)
    show (a :: ((l.set (j + 1) (l.getD j 0)).set j (l.getD (j + 1) 0))).Perm (a :: l)
    exact this.cons a
theorem sink_perm (j : Nat) : ∀ l : List Int, j < l.length → (sink j l).Perm l := by
  induction j with
  | zero => intro l _; exact List.Perm.refl _
  | succ j ih =>
    intro l h
    simp only [sink]
    split
    · exact (ih _ (by simp; omega)).trans (swap_perm j l h)
    · exact List.Perm.refl _
theorem sortTo_perm (l : List Int) (i : Nat) (hi : i ≤ l.length) : (sortTo l i).Perm l := by
  induction i with
  | zero => exact List.Perm.refl _
  | succ i ih =>
    simp only [sortTo]
    exact (sink_perm i _ (by rw [sortTo_length]; omega)).trans (ih (by omega))
theorem sink_sorted (i j : Nat) : ∀ l : List Int, j ≤ i → i < l.length → (∀ a b, a < b → b ≤ i → b ≠ j → l.getD a 0 ≤ l.getD b 0) → ∀ a b, a < b → b ≤ i → (sink j l).getD a 0 ≤ (sink j l).getD b 0 := by
  induction j with
  | zero => intro l _ _ h a b hab hb; exact h a b hab hb (by omega)
  | succ j ih =>
    intro l hj hi h
    simp only [sink]
    by_cases hlt : l.getD (j + 1) 0 < l.getD j 0
    · rw [if_pos hlt]
      have hg : ∀ k, ((l.set (j + 1) (l.getD j 0)).set j (l.getD (j + 1) 0)).getD k 0 = if k = j then l.getD (j + 1) 0 else if k = j + 1 then l.getD j 0 else l.getD k 0 := by
        intro k
        rw [List.getD_eq_getElem?_getD, List.getElem?_set]
        by_cases e : j = k
        · rw [if_pos e, if_pos e.symm, if_pos (by simp; omega)]; rfl
        · rw [if_neg e, if_neg (fun h => e h.symm), List.getElem?_set]
          by_cases e2 : j + 1 = k
          · rw [if_pos e2, if_pos e2.symm, if_pos (by omega)]; rfl
          · rw [if_neg e2, if_neg (fun h => e2 h.symm), ← List.getD_eq_getElem?_getD]
      refine ih _ (by omega) (by simp; omega) fun a b hab hb hbj => ?_
      rw [hg, hg, if_neg hbj]
      by_cases e1 : b = j + 1
      · rw [if_pos e1]
        by_cases e2 : a = j
        · rw [if_pos e2]; omega
        · rw [if_neg e2, if_neg (by omega)]
          exact h a j (by omega) (by omega) (by omega)
      · rw [if_neg e1]
        by_cases e2 : a = j
        · rw [if_pos e2]; exact h (j + 1) b (by omega) hb e1
        · rw [if_neg e2]
          by_cases e3 : a = j + 1
          · rw [if_pos e3]; exact h j b (by omega) hb e1
          · rw [if_neg e3]; exact h a b hab hb e1
    · rw [if_neg hlt]
      intro a b hab hb
      by_cases e : b = j + 1
      · subst e
        by_cases e2 : a = j
        · subst e2; omega
        · have := h a j (by omega) (by omega) (by omega)
          omega
      · exact h a b hab hb e
theorem sortTo_sorted (l : List Int) (i : Nat) (hi : i ≤ l.length) : ∀ a b, a < b → b < i → (sortTo l i).getD a 0 ≤ (sortTo l i).getD b 0 := by
  induction i with
  | zero => intro a b _ hb; omega
  | succ i ih =>
    intro a b hab hb
    simp only [sortTo]
    exact sink_sorted i i (sortTo l i) (Nat.le_refl _) (by rw [sortTo_length]; omega) (fun a b hab hb hne => ih (by omega) a b hab (by omega)) a b hab (by omega)

/- The costs of a road, and equal parts of each stretch: plain Lean. -/

def lenB (l : List Int) : Bool := (decide (1 ≤ l.length) && decide (l.length ≤ 4)) && l.all inR
theorem lenB_iff {l : List Int} : lenB l = true ↔ (1 ≤ l.length ∧ l.length ≤ 4) ∧ ∀ x ∈ l, 0 ≤ x ∧ x ≤ 1000 := by simp [lenB, inR]
theorem getD_len {l : List Int} (h : lenB l = true) (i : Nat) : 0 ≤ l.getD i 0 ∧ l.getD i 0 ≤ 1000 := by
  have h2 := (lenB_iff.1 h).2
  rw [List.getD_eq_getElem?_getD]
  cases e : l[i]? with
  | none => simp
  | some x => exact h2 x (List.mem_of_getElem? e)

/-- The costs of a set, of the first k players. -/
def maxTo (l : List Int) (s : Nat) : Nat → Int
  | 0 => 0
  | i + 1 => max (maxTo l s i) (if s.testBit i then l.getD i 0 else 0)
def roadL (l : List Int) : List Int := (List.range (2 ^ l.length)).map fun s => maxTo l s l.length
theorem roadL_length (l : List Int) : (roadL l).length = 2 ^ l.length := by simp [roadL]
theorem roadL_get {l : List Int} {s : Nat} (h : s < 2 ^ l.length) : (roadL l).getD s 0 = maxTo l s l.length := by
  unfold roadL
  rw [List.getD_eq_getElem?_getD, List.getElem?_map, List.getElem?_range h]
  rfl
theorem maxTo_bd {l : List Int} (h : lenB l = true) (s k : Nat) : 0 ≤ maxTo l s k ∧ maxTo l s k ≤ 1000 := by
  induction k with
  | zero => simp [maxTo]
  | succ k ih => have := getD_len h k; simp only [maxTo]; split <;> omega
theorem maxTo_zero (l : List Int) (k : Nat) : maxTo l 0 k = 0 := by
  induction k with
  | zero => rfl
  | succ k ih => simp [maxTo, ih]
theorem road_valid {l : List Int} (h : lenB l = true) : valC (roadL l) = true := by
  have h1 := (lenB_iff.1 h).1
  refine valC_iff.2 ⟨?_, ?_, fun x hx => ?_⟩
  · rw [roadL_length]
    have : l.length = 1 ∨ l.length = 2 ∨ l.length = 3 ∨ l.length = 4 := by omega
    rcases this with e | e | e | e <;> simp [e]
  · have h0 : 0 < 2 ^ l.length := Nat.two_pow_pos _
    rw [List.getD_eq_getElem?_getD, List.getElem?_eq_getElem (by rw [roadL_length]; exact h0)]
    have := roadL_get h0
    rw [List.getD_eq_getElem?_getD, List.getElem?_eq_getElem (by rw [roadL_length]; exact h0), maxTo_zero] at this
    exact this
  · obtain ⟨s, _, rfl⟩ := List.mem_map.1 hx
    exact maxTo_bd h _ _
theorem road_plr {l : List Int} (h : lenB l = true) : plr (roadL l) = l.length := by
  have h1 := (valC_pow (road_valid h)).1
  rw [roadL_length] at h1
  exact ((Nat.pow_right_inj (by omega)).1 h1).symm
/-- Concave. -/
theorem max_or {l : List Int} (a b k : Nat) (h : ∀ i, 0 ≤ l.getD i 0) : maxTo l (a ||| b) k = max (maxTo l a k) (maxTo l b k) := by
  induction k with
  | zero => rfl
  | succ k ih =>
    have hk := h k
    have h0 : ∀ c, 0 ≤ maxTo l c k := by
      intro c
      clear ih
      induction k with
      | zero => exact Int.le_refl 0
      | succ j ih2 => simp only [maxTo]; have := ih2 (h j); omega
    have ha := h0 a
    have hb := h0 b
    simp only [maxTo, ih, Nat.testBit_or]
    cases a.testBit k <;> cases b.testBit k <;> simp <;> omega
theorem max_and {l : List Int} (a b k : Nat) (h : ∀ i, 0 ≤ l.getD i 0) : maxTo l (a &&& b) k ≤ maxTo l a k ∧ maxTo l (a &&& b) k ≤ maxTo l b k := by
  induction k with
  | zero => exact ⟨Int.le_refl _, Int.le_refl _⟩
  | succ k ih =>
    have hk := h k
    simp only [maxTo, Nat.testBit_and]
    generalize l.getD k 0 = z at *
    cases a.testBit k <;> cases b.testBit k <;> simp <;> omega
theorem road_conc {l : List Int} (h : lenB l = true) : concA (roadL l) = (0, 0, 4) := by
  have hg := fun i => (getD_len h i).1
  unfold concA
  rw [if_pos (road_valid h)]
  rcases concL_cases (roadL l) with ⟨a, b, _, ha, hb, hx⟩ | ⟨e, _⟩
  · exfalso
    rw [roadL_length] at ha hb
    unfold badB at hx
    rw [roadL_get ha, roadL_get hb, roadL_get (Nat.or_lt_two_pow ha hb), roadL_get (Nat.and_lt_two_pow _ hb)] at hx
    have h1 := max_or a b l.length hg
    have h2 := max_and a b l.length hg
    have := of_decide_eq_true hx
    omega
  · exact e

/-- How many drive beyond u. -/
def cnt (l : List Int) (u : Nat) : Nat := l.countP fun x => decide ((u : Int) < x)
/-- Twelve times what those pay who drive to t. -/
def serI (l : List Int) : Nat → Int
  | 0 => 0
  | t + 1 => serI l t + 12 / (cnt l t : Int)
theorem serI_bd (l : List Int) (t : Nat) : 0 ≤ serI l t ∧ serI l t ≤ 12 * t := by
  induction t with
  | zero => simp [serI]
  | succ t ih =>
    simp only [serI]
    have h1 : (0 : Int) ≤ 12 / (cnt l t : Int) := Int.ediv_nonneg (by omega) (by omega)
    have h2 : (12 : Int) / (cnt l t : Int) ≤ 12 := Int.ediv_le_self _ (by omega)
    omega
theorem serI_step {l : List Int} {a b m : Nat} (hab : a ≤ b) (h : ∀ u, a ≤ u → u < b → cnt l u = m) : serI l b = serI l a + ((b : Int) - (a : Int)) * (12 / (m : Int)) := by
  obtain ⟨d, rfl⟩ := Nat.exists_eq_add_of_le hab
  clear hab
  induction d with
  | zero => simp
  | succ d ih =>
    rw [show a + (d + 1) = (a + d) + 1 from rfl, serI, ih fun u h1 h2 => h u h1 (by omega), h (a + d) (by omega) (by omega)]
    have e : ((a + d + 1 : Nat) : Int) - (a : Int) = (((a + d : Nat) : Int) - (a : Int)) + 1 := by omega
    rw [e, Int.add_mul, Int.one_mul]
    omega
def serQ (l : List Int) (t : Nat) : Rat := Rat.divInt (serI l t) 12
theorem serQ_add (a d : Int) {m : Nat} (h : 1 ≤ m ∧ m ≤ 4) : Rat.divInt a 12 + Rat.divInt d m = Rat.divInt (a + d * (12 / (m : Int))) 12 := by
  have : m = 1 ∨ m = 2 ∨ m = 3 ∨ m = 4 := by omega
  rcases this with rfl | rfl | rfl | rfl
  · rw [Rat.divInt_eq_div, Rat.divInt_eq_div, Rat.divInt_eq_div, show (12 : Int) / ((1 : Nat) : Int) = 12 from rfl, Rat.intCast_add, Rat.intCast_mul]
    rw [show ((12 : Int) : Rat) = 12 from rfl, show (((1 : Nat) : Int) : Rat) = 1 from rfl]; grind
  · rw [Rat.divInt_eq_div, Rat.divInt_eq_div, Rat.divInt_eq_div, show (12 : Int) / ((2 : Nat) : Int) = 6 from rfl, Rat.intCast_add, Rat.intCast_mul]
    rw [show ((12 : Int) : Rat) = 12 from rfl, show (((2 : Nat) : Int) : Rat) = 2 from rfl, show ((6 : Int) : Rat) = 6 from rfl]; grind
  · rw [Rat.divInt_eq_div, Rat.divInt_eq_div, Rat.divInt_eq_div, show (12 : Int) / ((3 : Nat) : Int) = 4 from rfl, Rat.intCast_add, Rat.intCast_mul]
    rw [show ((12 : Int) : Rat) = 12 from rfl, show (((3 : Nat) : Int) : Rat) = 3 from rfl, show ((4 : Int) : Rat) = 4 from rfl]; grind
  · rw [Rat.divInt_eq_div, Rat.divInt_eq_div, Rat.divInt_eq_div, show (12 : Int) / ((4 : Nat) : Int) = 3 from rfl, Rat.intCast_add, Rat.intCast_mul]
    rw [show ((12 : Int) : Rat) = 12 from rfl, show (((4 : Nat) : Int) : Rat) = 4 from rfl, show ((3 : Int) : Rat) = 3 from rfl]; grind
theorem serQ_small {l : List Int} {t : Nat} (h : t ≤ 1000) : smallQ (serQ l t) := by
  have hb := serI_bd l t
  have h1 := divInt_bd (a := serI l t) (b := 12) (m := 12000) (by omega) (by omega) (by omega)
  have h2 := divInt_den_le (a := serI l t) (b := 12) (by omega)
  unfold serQ smallQ
  omega
/-- What everyone pays. -/
def serL (l : List Int) : List Rat := l.map fun x => serQ l x.toNat
theorem serL_length (l : List Int) : (serL l).length = l.length := by simp [serL]
theorem cnt_le (l : List Int) (u : Nat) : cnt l u ≤ l.length := List.countP_le_length

/- What the loops of Serial find, and Shapley of the costs of a road: plain Lean. -/

theorem serQ_zero (l : List Int) : serQ l 0 = 0 := by unfold serQ serI; exact Rat.zero_divInt _
theorem cnt_perm {l S : List Int} (h : S.Perm l) (u : Nat) : cnt S u = cnt l u := h.countP_eq _
theorem cnt_range (l : List Int) (u : Nat) : cnt l u = ((List.range l.length).filter fun i => decide ((u : Int) < l.getD i 0)).length := by
  unfold cnt
  rw [← List.countP_eq_length_filter]
  conv => lhs; rw [show l = (List.range l.length).map (fun i => l.getD i 0) from by
    apply List.ext_getElem?
    intro i
    by_cases h : i < l.length
    · rw [List.getElem?_map, List.getElem?_range h, Option.map_some, List.getD_eq_getElem?_getD, List.getElem?_eq_getElem h]; rfl
    · rw [List.getElem?_eq_none (by omega), List.getElem?_eq_none (by simp; omega)]]
  rw [List.countP_map]
  rfl
/-- The stop before the k-th one. -/
def atS (S : List Int) : Nat → Int
  | 0 => 0
  | k + 1 => S.getD k 0
theorem filter_ge (n k : Nat) (hk : k ≤ n) (p : Nat → Bool) (h : ∀ i, i < n → (p i = true ↔ k ≤ i)) : ((List.range n).filter p).length = n - k := by
  induction n with
  | zero => simp
  | succ n ih =>
    rw [List.range_succ, List.filter_append, List.length_append]
    by_cases e : k ≤ n
    · rw [ih e fun i hi => h i (by omega)]
      have : p n = true := (h n (by omega)).2 e
      simp [this]; omega
    · have hkn : k = n + 1 := by omega
      have hall : (List.range n).filter p = [] := by
        rw [List.filter_eq_nil_iff]
        intro i hi
        have hi := List.mem_range.1 hi
        have := h i (by omega)
        intro hp
        have := this.1 hp
        omega
      have : p n = false := by
        cases hp : p n with
        | false => rfl
        | true => have := (h n (by omega)).1 hp; omega
      rw [hall]; simp [this]; omega
/-- A stretch between two stops next to each other. -/
theorem stretch {l S : List Int} {k : Nat} (hv : lenB l = true) (hp : S.Perm l) (hs : ∀ a b, a < b → b < S.length → S.getD a 0 ≤ S.getD b 0) (hk : k < S.length) :
    0 ≤ atS S k ∧ atS S k ≤ S.getD k 0 ∧ serI l (S.getD k 0).toNat = serI l (atS S k).toNat + (S.getD k 0 - atS S k) * (12 / ((S.length - k : Nat) : Int)) := by
  have hin : ∀ j, j < S.length → 0 ≤ S.getD j 0 := fun j hj => by
    have hm : S.getD j 0 ∈ l := by rw [List.getD_eq_getElem?_getD, List.getElem?_eq_getElem hj]; exact hp.mem_iff.1 (List.getElem_mem hj)
    exact ((lenB_iff.1 hv).2 _ hm).1
  have h0 : 0 ≤ atS S k := by
    cases k with
    | zero => exact Int.le_refl 0
    | succ k => exact hin k (by omega)
  have h1 : atS S k ≤ S.getD k 0 := by
    cases k with
    | zero => exact hin 0 hk
    | succ k => exact hs k (k + 1) (by omega) hk
  have h2 : ∀ u : Nat, (atS S k).toNat ≤ u → u < (S.getD k 0).toNat → cnt l u = S.length - k := by
    intro u hu1 hu2
    rw [← cnt_perm hp, cnt_range]
    refine filter_ge _ _ (by omega) _ fun i hi => ?_
    rw [decide_eq_true_eq]
    constructor
    · intro hlt
      rcases Nat.lt_or_ge i k with hik | hik
      · exfalso
        obtain ⟨j, rfl⟩ : ∃ j, k = j + 1 := ⟨k - 1, by omega⟩
        have h3 : S.getD i 0 ≤ S.getD j 0 := by
          rcases Nat.lt_or_ge i j with h | h
          · exact hs i j h (by omega)
          · rw [show i = j by omega]; exact Int.le_refl _
        simp only [atS] at hu1
        omega
      · exact hik
    · intro hik
      have h3 : S.getD k 0 ≤ S.getD i 0 := by
        rcases Nat.lt_or_ge k i with h | h
        · exact hs k i h hi
        · rw [show i = k by omega]; exact Int.le_refl _
      omega
  refine ⟨h0, h1, ?_⟩
  rw [serI_step (by omega) h2, Int.toNat_of_nonneg h0, Int.toNat_of_nonneg (by omega)]
/-- The last stop that x drives to is x. -/
theorem at_end {l S : List Int} {k : Nat} {x : Int} (hp : S.Perm l) (hs : ∀ a b, a < b → b < S.length → S.getD a 0 ≤ S.getD b 0) (hx : x ∈ l) (hk : k ≤ S.length) (h1 : ∀ j, j < k → S.getD j 0 ≤ x) (h2 : k = S.length ∨ x < S.getD k 0) : atS S k = x := by
  obtain ⟨j, hj, e⟩ := List.getElem_of_mem (hp.mem_iff.2 hx)
  have e2 : S.getD j 0 = x := by rw [List.getD_eq_getElem?_getD, List.getElem?_eq_getElem hj]; exact e
  have hjk : j < k := by
    rcases Nat.lt_or_ge j k with h | h
    · exact h
    · exfalso
      rcases h2 with h2 | h2
      · omega
      · have : S.getD k 0 ≤ S.getD j 0 := by
          rcases Nat.lt_or_ge k j with h3 | h3
          · exact hs k j h3 hj
          · rw [show j = k by omega]; exact Int.le_refl _
        omega
  obtain ⟨i, rfl⟩ : ∃ i, k = i + 1 := ⟨k - 1, by omega⟩
  simp only [atS]
  have h3 := h1 i (by omega)
  have h4 : S.getD j 0 ≤ S.getD i 0 := by
    rcases Nat.lt_or_ge j i with h3 | h3
    · exact hs j i h3 (by omega)
    · rw [show j = i by omega]; exact Int.le_refl _
  omega

/-- The next stop after f, and who drives there, among the first k. -/
def NextOk (l : List Int) (f : Nat) (k : Nat) (nx : Int) (us : Nat) : Prop :=
  us = (l.take k).countP (fun x => decide ((f : Int) < x)) ∧ ((nx = -1 ∧ ∀ x ∈ l.take k, x ≤ f) ∨ ((f : Int) < nx ∧ nx ∈ l.take k ∧ ∀ x ∈ l.take k, (f : Int) < x → nx ≤ x))
theorem next_zero (l : List Int) (f : Nat) : NextOk l f 0 (-1) 0 := ⟨by simp, .inl ⟨rfl, by simp⟩⟩
theorem next_skip {l : List Int} {f k us : Nat} {nx x : Int} (h : NextOk l f k nx us) (hx : l[k]? = some x) (hf : x ≤ f) : NextOk l f (k + 1) nx us := by
  unfold NextOk at *
  rw [take_succ' hx]
  refine ⟨by rw [List.countP_append, ← h.1]; simp; omega, ?_⟩
  rcases h.2 with ⟨h1, h2⟩ | ⟨h1, h2, h3⟩
  · exact .inl ⟨h1, fun y hy => by rcases List.mem_append.1 hy with hy | hy; exact h2 y hy; rw [List.mem_singleton.1 hy]; exact hf⟩
  · exact .inr ⟨h1, List.mem_append_left _ h2, fun y hy hfy => by
      rcases List.mem_append.1 hy with hy | hy
      · exact h3 y hy hfy
      · rw [List.mem_singleton.1 hy] at hfy; omega⟩
theorem next_take {l : List Int} {f k us : Nat} {nx x : Int} (h : NextOk l f k nx us) (hx : l[k]? = some x) (hf : (f : Int) < x) (hn : nx < 0 ∨ x < nx) : NextOk l f (k + 1) x (us + 1) := by
  unfold NextOk at *
  rw [take_succ' hx]
  refine ⟨by rw [List.countP_append, ← h.1]; simp [hf], .inr ⟨hf, List.mem_append_right _ (List.mem_singleton.2 rfl), fun y hy hfy => ?_⟩⟩
  rcases List.mem_append.1 hy with hy | hy
  · rcases h.2 with ⟨h1, h2⟩ | ⟨h1, h2, h3⟩
    · have := h2 y hy; omega
    · have := h3 y hy hfy; omega
  · rw [List.mem_singleton.1 hy]; exact Int.le_refl _
theorem next_count {l : List Int} {f k us : Nat} {nx x : Int} (h : NextOk l f k nx us) (hx : l[k]? = some x) (hf : (f : Int) < x) (hn : ¬ (nx < 0 ∨ x < nx)) : NextOk l f (k + 1) nx (us + 1) := by
  unfold NextOk at *
  rw [take_succ' hx]
  refine ⟨by rw [List.countP_append, ← h.1]; simp [hf], ?_⟩
  rcases h.2 with ⟨h1, h2⟩ | ⟨h1, h2, h3⟩
  · omega
  · refine .inr ⟨h1, List.mem_append_left _ h2, fun y hy hfy => ?_⟩
    rcases List.mem_append.1 hy with hy | hy
    · exact h3 y hy hfy
    · rw [List.mem_singleton.1 hy]; omega
/-- What the reference has paid when the road is built to f. -/
def serTo (l : List Int) (f : Nat) : List Rat := l.map fun x => serQ l (min x.toNat f)
/-- In the middle of a round: the first k are brought from f to g. -/
def serMid (l : List Int) (f g k : Nat) : List Rat := (List.range l.length).map fun i => serQ l (min (l.getD i 0).toNat (if i < k then g else f))
theorem serTo_length (l : List Int) (f : Nat) : (serTo l f).length = l.length := by simp [serTo]
theorem serMid_length (l : List Int) (f g k : Nat) : (serMid l f g k).length = l.length := by simp [serMid]
theorem serTo_eq (l : List Int) (f : Nat) : serTo l f = (List.range l.length).map fun i => serQ l (min (l.getD i 0).toNat f) := by
  unfold serTo
  apply List.ext_getElem?
  intro i
  by_cases h : i < l.length
  · rw [List.getElem?_map, List.getElem?_map, List.getElem?_range h, List.getElem?_eq_getElem h, Option.map_some, Option.map_some, List.getD_eq_getElem?_getD, List.getElem?_eq_getElem h]
    rfl
  · rw [List.getElem?_eq_none (by simp; omega), List.getElem?_eq_none (by simp; omega)]
theorem serMid_zero (l : List Int) (f g : Nat) : serMid l f g 0 = serTo l f := by
  rw [serTo_eq]; unfold serMid; simp
theorem serMid_all (l : List Int) (f g : Nat) : serMid l f g l.length = serTo l g := by
  rw [serTo_eq]; unfold serMid
  refine List.map_congr_left fun i hi => ?_
  rw [if_pos (List.mem_range.1 hi)]
theorem serMid_get {l : List Int} {f g k : Nat} {x : Int} (hx : l[k]? = some x) : (serMid l f g k)[k]? = some (serQ l (min x.toNat f)) := by
  have hk : k < l.length := (List.getElem?_eq_some_iff.1 hx).1
  unfold serMid
  rw [List.getElem?_map, List.getElem?_range hk, Option.map_some, List.getD_eq_getElem?_getD, hx, if_neg (by omega)]
  rfl
theorem serMid_set {l : List Int} {f g k : Nat} {x : Int} (hx : l[k]? = some x) : (serMid l f g k).set k (serQ l (min x.toNat g)) = serMid l f g (k + 1) := by
  have hk : k < l.length := (List.getElem?_eq_some_iff.1 hx).1
  apply List.ext_getElem?
  intro i
  rw [List.getElem?_set]
  by_cases e : k = i
  · subst e
    rw [if_pos rfl, if_pos (by rw [serMid_length]; exact hk)]
    unfold serMid
    rw [List.getElem?_map, List.getElem?_range hk, Option.map_some, List.getD_eq_getElem?_getD, hx, if_pos (by omega)]
    rfl
  · rw [if_neg e]
    unfold serMid
    by_cases h : i < l.length
    · rw [List.getElem?_map, List.getElem?_map, List.getElem?_range h, Option.map_some, Option.map_some]
      by_cases h2 : i < k
      · rw [if_pos h2, if_pos (by omega)]
      · rw [if_neg h2, if_neg (by omega)]
    · rw [List.getElem?_eq_none (by simp; omega), List.getElem?_eq_none (by simp; omega)]
theorem serMid_stay {l : List Int} {f g k : Nat} {x : Int} (hx : l[k]? = some x) (h : x ≤ f) (hg : x ≤ g) : serMid l f g k = serMid l f g (k + 1) := by
  rw [← serMid_set hx, show min x.toNat g = min x.toNat f from by omega]
  apply List.ext_getElem?
  intro i
  rw [List.getElem?_set]
  split
  · rename_i e
    subst e
    rw [if_pos (by rw [serMid_length]; exact (List.getElem?_eq_some_iff.1 hx).1), serMid_get hx]
  · rfl
theorem serMid_stay' {l : List Int} {f g k : Nat} (hk : k < l.length) (h : ∀ x ∈ l, x ≤ f) (hg : ∀ x ∈ l, x ≤ g) : serMid l f g k = serMid l f g (k + 1) :=
  serMid_stay (List.getElem?_eq_getElem hk) (h _ (List.getElem_mem hk)) (hg _ (List.getElem_mem hk))
theorem serTo_end {l : List Int} (hv : lenB l = true) {f : Nat} (h : ∀ x ∈ l, x ≤ f) : serTo l f = serL l := by
  unfold serTo serL
  refine List.map_congr_left fun x hx => ?_
  have h0 := ((lenB_iff.1 hv).2 x hx).1
  have h1 := h x hx
  rw [show min x.toNat f = x.toNat from by omega]
theorem serTo_zero {l : List Int} : serTo l 0 = List.replicate l.length 0 := by
  unfold serTo
  rw [List.eq_replicate_iff]
  refine ⟨by simp, fun q hq => ?_⟩
  obtain ⟨x, _, rfl⟩ := List.mem_map.1 hq
  rw [Nat.min_zero]
  exact serQ_zero l
/-- One stretch more. -/
theorem serQ_next {l : List Int} {f g us : Nat} (hv : lenB l = true) (h : NextOk l f l.length (g : Int) us) (hus : 1 ≤ us) : f < g ∧ us ≤ 4 ∧ serQ l f + Rat.divInt ((g : Int) - (f : Int)) us = serQ l g := by
  unfold NextOk at h
  rw [List.take_length] at h
  rcases h.2 with ⟨h1, _⟩ | ⟨h1, h2, h3⟩
  · omega
  · have hu4 : us ≤ 4 := by
      have := cnt_le l f
      have h4 := (lenB_iff.1 hv).1
      rw [h.1]
      unfold cnt at this
      omega
    refine ⟨by omega, hu4, ?_⟩
    unfold serQ
    rw [serQ_add _ _ ⟨hus, hu4⟩, ← serI_step (by omega) fun u hu1 hu2 => ?_]
    rw [h.1]
    unfold cnt
    refine List.countP_congr fun x hx => ?_
    rw [decide_eq_true_eq, decide_eq_true_eq]
    constructor
    · intro hux; omega
    · intro hfx; have := h3 x hx hfx; omega
theorem next_pos {l : List Int} {f us : Nat} {g : Int} (h : NextOk l f l.length g us) (hg : 0 ≤ g) : 1 ≤ us ∧ (∃ x ∈ l, (f : Int) < x) ∧ g ∈ l := by
  unfold NextOk at h
  rw [List.take_length] at h
  rcases h.2 with ⟨h1, _⟩ | ⟨h1, h2, _⟩
  · omega
  · refine ⟨?_, ⟨g, h2, h1⟩, h2⟩
    rw [h.1]
    exact List.countP_pos_iff.2 ⟨g, h2, by simpa using h1⟩
theorem next_none {l : List Int} {f us : Nat} {g : Int} (h : NextOk l f l.length g us) (hg : ¬ 0 ≤ g) : g = -1 ∧ ∀ x ∈ l, x ≤ f := by
  unfold NextOk at h
  rw [List.take_length] at h
  rcases h.2 with ⟨h1, h2⟩ | ⟨h1, _, _⟩
  · exact ⟨h1, h2⟩
  · omega
theorem next_mem {l : List Int} {f k us : Nat} {g x : Int} (h : NextOk l f l.length g us) (hx : l[k]? = some x) (hf : (f : Int) < x) : g ≤ x ∧ (f : Int) < g := by
  unfold NextOk at h
  rw [List.take_length] at h
  have hm := List.mem_of_getElem? hx
  rcases h.2 with ⟨h1, h2⟩ | ⟨h1, _, h3⟩
  · have := h2 x hm; omega
  · exact ⟨h3 x hm hf, h1⟩

/- Shapley of the costs of a road: plain Lean. -/

/-- One unit of the road: who drives there is in M. -/
def uL (n M : Nat) : List Int := (List.range (2 ^ n)).map fun s => if s &&& M = 0 then 0 else 1
theorem uL_get {n M s : Nat} (h : s < 2 ^ n) : (uL n M).getD s 0 = if s &&& M = 0 then 0 else 1 := by
  unfold uL
  rw [List.getD_eq_getElem?_getD, List.getElem?_map, List.getElem?_range h]
  rfl
def popc (n M : Nat) : Nat := ((List.range n).filter fun i => M.testBit i).length
def unitOk (n M : Nat) : Bool := (List.range n).all fun i => 12 * (sumsL (uL n M) n).getD i 0 == (((ext n n []).length : Nat) : Int) * (if M.testBit i then 12 / (popc n M : Int) else 0)
theorem unit_ok1 : ∀ M, M < 2 → unitOk 1 M = true := by decide +kernel
theorem unit_ok2 : ∀ M, M < 4 → unitOk 2 M = true := by decide +kernel
theorem unit_ok3 : ∀ M, M < 8 → unitOk 3 M = true := by decide +kernel
theorem unit_ok4 : ∀ M, M < 16 → unitOk 4 M = true := by decide +kernel
theorem unit_ok {n M : Nat} (hn : 1 ≤ n ∧ n ≤ 4) (h : M < 2 ^ n) : unitOk n M = true := by
  match n, hn, h with
  | 1, _, h => exact unit_ok1 M h
  | 2, _, h => exact unit_ok2 M h
  | 3, _, h => exact unit_ok3 M h
  | 4, _, h => exact unit_ok4 M h
theorem unit_shap {n M i : Nat} (hn : 1 ≤ n ∧ n ≤ 4) (h : M < 2 ^ n) (hi : i < n) : (shapL (uL n M) n).getD i 0 = Rat.divInt (if M.testBit i then 12 / (popc n M : Int) else 0) 12 := by
  have hu := unit_ok hn h
  unfold unitOk at hu
  have hu := List.all_eq_true.1 hu i (List.mem_range.2 hi)
  rw [beq_iff_eq] at hu
  have hF := (ext_len hn.2).1
  have hlen : (sumsL (uL n M) n).length = n := by have := shapL_length (uL n M) n; unfold shapL at this; simpa using this
  unfold shapL
  rw [List.getD_eq_getElem?_getD, List.getElem?_map, List.getElem?_eq_getElem (by rw [hlen]; exact hi)]
  rw [List.getD_eq_getElem?_getD, List.getElem?_eq_getElem (by rw [hlen]; exact hi)] at hu
  simp only [Option.map_some, Option.getD_some] at hu ⊢
  rw [Rat.divInt_eq_divInt_iff (by omega) (by omega)]
  rw [Int.mul_comm, hu, Int.mul_comm]
/-- Every yes or no of the first n is a set. -/
theorem mask_of (f : Nat → Bool) : ∀ n, ∃ M, M < 2 ^ n ∧ ∀ i, i < n → M.testBit i = f i := by
  intro n
  induction n with
  | zero => exact ⟨0, by simp, fun i h => by omega⟩
  | succ n ih =>
    obtain ⟨M, hM, hi⟩ := ih
    have hp : (2 : Nat) ^ (n + 1) = 2 ^ n + 2 ^ n := by rw [Nat.pow_succ]; omega
    cases hf : f n with
    | false =>
      refine ⟨M, by omega, fun i h => ?_⟩
      by_cases e : i = n
      · subst e; rw [hf]; exact Nat.testBit_lt_two_pow hM
      · exact hi i (by omega)
    | true =>
      refine ⟨2 ^ n + M, by omega, fun i h => ?_⟩
      by_cases e : i = n
      · subst e
        rw [Nat.testBit_two_pow_add_eq, hf, Nat.testBit_lt_two_pow hM]; rfl
      · rw [Nat.testBit_two_pow_add_gt (by omega)]
        exact hi i (by omega)
/-- Lengths, cut at T. -/
def capL (l : List Int) (T : Nat) : List Int := l.map fun x => min x T
theorem capL_length (l : List Int) (T : Nat) : (capL l T).length = l.length := by simp [capL]
theorem capL_get {l : List Int} (T i : Nat) : (capL l T).getD i 0 = min (l.getD i 0) T := by
  unfold capL
  rw [List.getD_eq_getElem?_getD, List.getElem?_map, List.getD_eq_getElem?_getD]
  cases l[i]? <;> simp
  omega
theorem maxTo_cap {l : List Int} (s T k : Nat) : maxTo (capL l T) s k = min (maxTo l s k) T := by
  induction k with
  | zero => simp [maxTo]; omega
  | succ k ih =>
    simp only [maxTo, ih, capL_get]
    split <;> omega
theorem maxTo_lt {l : List Int} (s k T : Nat) : (T : Int) < maxTo l s k ↔ ∃ i, i < k ∧ s.testBit i = true ∧ (T : Int) < l.getD i 0 := by
  induction k with
  | zero => simp [maxTo]
  | succ k ih =>
    simp only [maxTo]
    have hm : ∀ a b : Int, (T : Int) < max a b ↔ (T : Int) < a ∨ (T : Int) < b := fun a b => by omega
    rw [hm, ih]
    constructor
    · rintro (⟨i, h1, h2, h3⟩ | h)
      · exact ⟨i, by omega, h2, h3⟩
      · split at h
        · exact ⟨k, by omega, by assumption, h⟩
        · omega
    · rintro ⟨i, h1, h2, h3⟩
      by_cases e : i = k
      · subst e; right; rw [if_pos h2]; exact h3
      · exact .inl ⟨i, by omega, h2, h3⟩
theorem and_zero {s M n : Nat} (hs : s < 2 ^ n) : s &&& M = 0 ↔ ∀ i, i < n → ¬ (s.testBit i = true ∧ M.testBit i = true) := by
  constructor
  · rintro h i _ ⟨h1, h2⟩
    have : (s &&& M).testBit i = true := by rw [Nat.testBit_and, h1, h2]; rfl
    rw [h] at this
    simp at this
  · intro h
    apply Nat.eq_of_testBit_eq
    intro i
    rw [Nat.testBit_and, Nat.zero_testBit]
    by_cases hi : i < n
    · have := h i hi
      cases h1 : s.testBit i <;> cases h2 : M.testBit i <;> simp_all
    · rw [Nat.testBit_lt_two_pow (Nat.lt_of_lt_of_le hs (Nat.pow_le_pow_right (by omega) (by omega)))]; rfl
theorem cap_step {l : List Int} {T M s : Nat} (hM : ∀ i, i < l.length → M.testBit i = decide ((T : Int) < l.getD i 0)) (hs : s < 2 ^ l.length) : (roadL (capL l (T + 1))).getD s 0 = (roadL (capL l T)).getD s 0 + (uL l.length M).getD s 0 := by
  rw [roadL_get (by rw [capL_length]; exact hs), roadL_get (by rw [capL_length]; exact hs), capL_length, capL_length, maxTo_cap, maxTo_cap, uL_get hs]
  have h1 := maxTo_lt (l := l) s l.length T
  by_cases h : s &&& M = 0
  · rw [if_pos h]
    have h2 := (and_zero hs).1 h
    have : ¬ (T : Int) < maxTo l s l.length := by
      rw [h1]
      rintro ⟨i, hi, hb, hlt⟩
      exact h2 i hi ⟨hb, by rw [hM i hi]; exact decide_eq_true hlt⟩
    omega
  · rw [if_neg h]
    have : (T : Int) < maxTo l s l.length := by
      rw [h1]
      by_cases hex : ∃ i, i < l.length ∧ s.testBit i = true ∧ (T : Int) < l.getD i 0
      · exact hex
      · exfalso
        refine h ((and_zero hs).2 fun i hi hb => hex ⟨i, hi, hb.1, ?_⟩)
        have := hb.2
        rw [hM i hi] at this
        exact of_decide_eq_true this
    omega
theorem cap_shap {l : List Int} (hv : lenB l = true) : ∀ T i, i < l.length → (shapL (roadL (capL l T)) l.length).getD i 0 = serQ l (min (l.getD i 0).toNat T) := by
  have hn := (lenB_iff.1 hv).1
  intro T
  induction T with
  | zero =>
    intro i hi
    have hz : ∀ s, s < 2 ^ l.length → (roadL (capL l 0)).getD s 0 = 0 := fun s hs => by
      rw [roadL_get (by rw [capL_length]; exact hs), maxTo_cap]
      have : 0 ≤ maxTo l s (capL l 0).length := (maxTo_bd hv _ _).1
      omega
    have hl : (roadL (capL l 0)).length = 2 ^ l.length := by rw [roadL_length, capL_length]
    have := sums_add hn hl hl hl (fun s hs => by rw [hz s hs]; rfl) i hi
    rw [Nat.min_zero]
    have h0 : serQ l 0 = 0 := serQ_zero l
    rw [h0]
    grind
  | succ T ih =>
    intro i hi
    obtain ⟨M, hM, hbit⟩ := mask_of (fun i => decide ((T : Int) < l.getD i 0)) l.length
    have hp : popc l.length M = cnt l T := by
      rw [cnt_range]
      unfold popc
      congr 1
      exact List.filter_congr fun i hi => hbit i (List.mem_range.1 hi)
    have hg := (getD_len hv i).1
    rw [sums_add hn (by rw [roadL_length, capL_length]) (by simp [uL]) (by rw [roadL_length, capL_length]) (fun s hs => cap_step hbit hs) i hi, ih i hi, unit_shap hn hM hi, hp, hbit i hi]
    by_cases hlt : (T : Int) < l.getD i 0
    · rw [if_pos (decide_eq_true hlt), show min (l.getD i 0).toNat T = T by omega, show min (l.getD i 0).toNat (T + 1) = T + 1 by omega]
      unfold serQ
      rw [add_same]
      rfl
    · rw [if_neg (by simpa using hlt), show min (l.getD i 0).toNat (T + 1) = min (l.getD i 0).toNat T by omega]
      have : Rat.divInt 0 12 = 0 := Rat.zero_divInt _
      rw [this, Rat.add_zero]
theorem road_shap {l : List Int} (hv : lenB l = true) : shapL (roadL l) l.length = serL l := by
  have e : capL l 1000 = l := by
    unfold capL
    conv => rhs; rw [← List.map_id l]
    refine List.map_congr_left fun x hx => ?_
    have := (lenB_iff.1 hv).2 x hx
    simp only [id]
    omega
  apply List.ext_getElem?
  intro i
  by_cases hi : i < l.length
  · have := cap_shap hv 1000 i hi
    rw [e] at this
    have h0 := (getD_len hv i)
    rw [show min (l.getD i 0).toNat 1000 = (l.getD i 0).toNat by omega] at this
    rw [List.getElem?_eq_getElem (by rw [shapL_length]; exact hi), List.getElem?_eq_getElem (by rw [serL_length]; exact hi)]
    rw [List.getD_eq_getElem?_getD, List.getElem?_eq_getElem (by rw [shapL_length]; exact hi)] at this
    congr 1
    refine Eq.trans this ?_
    unfold serL
    rw [List.getElem_map, List.getD_eq_getElem?_getD, List.getElem?_eq_getElem hi]
    rfl
  · rw [List.getElem?_eq_none (by rw [shapL_length]; omega), List.getElem?_eq_none (by rw [serL_length]; omega)]

/- TopRoad: trees from the beginning of a road cost what lengths cost. Plain Lean. -/

/-- The stops of a group: the first one, and those of its members. -/
def stopsTo (at_ : Nat → Nat) (set : Nat) : Nat → Nat
  | 0 => 1
  | i + 1 => if set.testBit i then stopsTo at_ set i ||| 2 ^ at_ i else stopsTo at_ set i
theorem stops_max {cs : List Int} (hc : CsOk cs) {at_ : Nat → Nat} {l : List Int} {n : Nat} (ha : ∀ i, i < n → at_ i ≤ cs.length ∧ l.getD i 0 = sumS cs (at_ i)) (set : Nat) :
    ∀ k, k ≤ n → ∃ M, M ≤ cs.length ∧ (stopsTo at_ set k).testBit M = true ∧ (∀ j, (stopsTo at_ set k).testBit j = true → j ≤ M) ∧ (stopsTo at_ set k).testBit 0 = true ∧ sumS cs M = maxTo l set k ∧ stopsTo at_ set k < 2 ^ (cs.length + 1)
  | 0, _ => ⟨0, Nat.zero_le _, by simp [stopsTo], fun j hj => by
      have e : stopsTo at_ set 0 = 2 ^ 0 := rfl
      rw [e, Nat.testBit_two_pow] at hj
      have := of_decide_eq_true hj
      omega, by simp [stopsTo], rfl, Nat.one_lt_two_pow (by omega)⟩
  | k + 1, hk => by
    obtain ⟨M, h1, h2, h3, h4, h5, h6⟩ := stops_max hc ha set k (by omega)
    obtain ⟨a1, a2⟩ := ha k (by omega)
    show ∃ M, _
    simp only [stopsTo, maxTo]
    by_cases hb : set.testBit k = true
    · rw [if_pos hb, if_pos hb, a2, ← h5]
      have hbit : ∀ j, (stopsTo at_ set k ||| 2 ^ at_ k).testBit j = ((stopsTo at_ set k).testBit j || decide (at_ k = j)) := fun j => by rw [Nat.testBit_or, Nat.testBit_two_pow]
      refine ⟨max M (at_ k), by omega, ?_, fun j hj => ?_, by rw [hbit, h4]; rfl, ?_, Nat.or_lt_two_pow h6 (Nat.pow_lt_pow_right (by omega) (by omega))⟩
      · rw [hbit]
        rcases Nat.le_total M (at_ k) with h | h
        · rw [Nat.max_eq_right h]; simp
        · rw [Nat.max_eq_left h, h2]; rfl
      · rw [hbit] at hj
        rcases (Bool.or_eq_true _ _).mp hj with h | h
        · have := h3 j h; omega
        · have := of_decide_eq_true h; omega
      · rcases Nat.le_total M (at_ k) with h | h
        · have := sumS_mono hc (at_ k) M h a1
          rw [Nat.max_eq_right h]; omega
        · have := sumS_mono hc M (at_ k) h h1
          rw [Nat.max_eq_left h]; omega
    · rw [if_neg hb, if_neg hb]
      have hz : 0 ≤ maxTo l set k := by rw [← h5]; exact (sumS_bd hc M h1).1
      exact ⟨M, h1, h2, h3, h4, by omega, h6⟩
section
variable {cs : List Int} {l : List Int} {n : Nat} {at_ : Nat → Nat}
/-- What least needs, and what it finds. -/
theorem least_road (hc : CsOk cs) (ha : ∀ i, i < n → at_ i ≤ cs.length ∧ l.getD i 0 = sumS cs (at_ i)) (set : Nat) :
    (1 ≤ stopsTo at_ set n ∧ stopsTo at_ set n < 2 ^ (cs.length + 1)) ∧ connB (reP (pathR cs)) (stopsTo at_ set n) = true ∧ steF (pathR cs) (cs.length + 1) (stopsTo at_ set n) = maxTo l set n ∧
      ∃ M, M ≤ 1000000 ∧ (firF (pathR cs) (stopsTo at_ set n) (steF (pathR cs) (cs.length + 1) (stopsTo at_ set n)) M).isSome = true ∧ (0 ≤ steF (pathR cs) (cs.length + 1) (stopsTo at_ set n) ∧ steF (pathR cs) (cs.length + 1) (stopsTo at_ set n) ≤ 350) := by
  obtain ⟨M, h1, h2, h3, h4, h5, h6⟩ := stops_max hc ha set n (Nat.le_refl _)
  have hs1 : 1 ≤ stopsTo at_ set n := by have := pow_le_of_bit h4; omega
  have hst := steF_path hc h6 h4 h2 h3
  have hl := hc.1
  have hb := sumS_bd hc M h1
  refine ⟨⟨hs1, h6⟩, reach_path hc ⟨hs1, h6⟩, by rw [hst, h5], M, by omega, ?_, by rw [hst]; omega⟩
  rw [hst]
  exact fir_path hc h1 hs1 h3
end
theorem lens_ok {cs : List Int} (hc : CsOk cs) {l : List Int} {n : Nat} {at_ : Nat → Nat} (hn : 1 ≤ n ∧ n ≤ 4) (hl : l.length = n) (ha : ∀ i, i < n → at_ i ≤ cs.length ∧ l.getD i 0 = sumS cs (at_ i)) : lenB l = true := by
  refine lenB_iff.2 ⟨by omega, fun x hx => ?_⟩
  obtain ⟨i, hi⟩ := List.getElem?_of_mem hx
  have hil := (List.getElem?_eq_some_iff.1 hi).1
  obtain ⟨a1, a2⟩ := ha i (by omega)
  rw [List.getD_eq_getElem?_getD, hi] at a2
  have hb := sumS_bd hc (at_ i) a1
  have := hc.1
  simp only [Option.getD_some] at a2
  omega

/- A block of numbers that are written one by one. -/

/-- The block of a row with some goods scaled. -/
def ScB (w : World) (g m cp : Nat) (xs : List Int) : Prop := ∃ cur, Blk w g 3 cur ∧ cur.size = cp ∧ cur.toList.take m = xs.map (Value.int .i64)
theorem ScB.lt {w : World} {g m cp : Nat} {xs : List Int} (h : ScB w g m cp xs) : g < w.heap.size := by obtain ⟨cur, h, _⟩ := h; exact h.lt
theorem ScB.ints {w : World} {g m cp : Nat} {xs : List Int} (h : ScB w g m cp xs) : Ints w (some ⟨g, 0, none⟩) xs := by
  obtain ⟨cur, hB, _, ht⟩ := h
  intro i v hv
  rw [← ht] at hv
  have hv' : cur.toList[i]? = some v := by
    rw [List.getElem?_take] at hv
    split at hv
    · exact hv
    · cases hv
  exact hB.at_ i v hv'
theorem ScB.read {w : World} {g m cp : Nat} {xs : List Int} (h : ScB w g m cp xs) {k : Nat} {x : Int} (hx : xs[k]? = some x) : w.cell? ⟨g, k, none⟩ = some (.int .i64 x) := by
  obtain ⟨cur, hB, _, ht⟩ := h
  have hv : (cur.toList.take m)[k]? = some (.int .i64 x) := by rw [ht]; simp [hx]
  rw [List.getElem?_take] at hv
  split at hv
  · rw [hB.cell, ← Array.getElem?_toList]; exact hv
  · cases hv
theorem ScB.frozen {w : World} {g m cp : Nat} {xs : List Int} (h : ScB w g m cp xs) (k : Nat) : w.frozen? ⟨g, k, none⟩ = false := by obtain ⟨cur, hB, _⟩ := h; exact hB.frozen k
theorem ScB.set_ {w : World} {g m cp : Nat} {xs : List Int} (h : ScB w g m cp xs) (k : Nat) (y : Int) : ScB (w.setCell ⟨g, k, none⟩ (.int .i64 y)) g m cp (xs.set k y) := by
  obtain ⟨cur, hB, hs, ht⟩ := h
  refine ⟨_, hB.set_ k _, by simp [hs], ?_⟩
  rw [Array.toList_setIfInBounds, List.take_set, ht, List.map_set]
theorem idx_of (x : Int) {k : Int} (hk : 1 ≤ k) (hk2 : k ≤ 1000) : ∃ p : Nat, (p : Int) < k ∧ wrap64 ((IntKind.u64.wrap x).tmod k) = (p : Int) := by
  have h0 : 0 ≤ IntKind.u64.wrap x := by
    show 0 ≤ x % 2 ^ 64
    exact Int.emod_nonneg _ (by decide)
  have h1 := Int.tmod_nonneg k h0
  have h2 := Int.tmod_lt_of_pos (IntKind.u64.wrap x) (show (0 : Int) < k by omega)
  generalize (IntKind.u64.wrap x).tmod k = r at *
  refine ⟨r.toNat, by omega, ?_⟩
  unfold wrap64
  go_num
theorem ScB.of_own {w : World} {base g n c : Nat} {xs : List Int} (h : w.ownsRow base 3 1 (.slice (some ⟨g, 0, none⟩) n c) n (xs.map (Value.int .i64))) : ScB w g n c xs := by
  rcases h.2 with ⟨h0, _⟩ | ⟨g, cap', cur, hv, _, hg, _, _, hsz, ht⟩
  · cases h0
  · injection hv with e1 _ e3
    injection e1 with e1
    injection e1 with e1
    subst e1; subst e3
    exact ⟨cur, hg, by simpa using hsz, by simpa using ht⟩
theorem ScB.below {w w' : World} {g m cp : Nat} {xs : List Int} (h : ScB w g m cp xs) (hb : Below w.heap.size w w') : ScB w' g m cp xs := by
  obtain ⟨cur, hB, hs, ht⟩ := h
  exact ⟨cur, (hb.block g hB.lt).trans hB, hs, ht⟩

/- The memory of TopRoad: the map and the sums while they are made. -/

theorem info_road : (Tryd.prog.info? 28).map (fun i => (i.zero, i.size, i.bytes)) = some (some (.agg #[.int .i64 0, .int .i64 0, .int .i64 0]), 3, 24) := by kernel_rfl
theorem sty_road : STy 24 28 (.agg #[.int .i64 0, .int .i64 0, .int .i64 0]) 3 24 := ⟨Tryd.underlying24, info_road, rfl, by decide, by decide⟩
/-- A row of one's own is not changed by what is laid to a row of another type. -/
theorem own_grown_ty {w w' : World} {base base' e e' size size' n n' : Nat} {v v' : Value} {xs ys : List Value} (h : w.ownsRow base e size v n xs) (h' : w.ownsRow base' e' size' v' n' ys) (hne : e ≠ e') (hg : w.grownBy w' v'.ownBlock) : w'.ownsRow base e size v n xs := by
  refine ⟨h.1, ?_⟩
  rcases h.2 with h0 | ⟨g, cap, cur, hv, a1, a2, a3⟩
  · exact .inl h0
  · refine .inr ⟨g, cap, cur, hv, a1, ?_, a3⟩
    refine (hg.block g (lt_of_block a2) fun he => ?_).trans a2
    rcases h'.2 with ⟨h0, _⟩ | ⟨g', cap', cur', hv', _, hg', _⟩
    · rw [h0] at he; cases he
    · rw [hv'] at he
      injection he with he
      have he' : g = g' := he
      subst he'
      rw [a2] at hg'
      injection hg' with h1
      injection h1 with _ h1 _
      exact hne h1
theorem own_lowT {w : World} {base e size n : Nat} {v : Value} {xs : List Value} (h : w.ownsRow base e size v n xs) {p : Addr} (hp : p.block < base) (u : Value) : (w.setCell p u).ownsRow base e size v n xs := by
  obtain ⟨h1, h2⟩ := h
  refine ⟨h1, ?_⟩
  rcases h2 with h2 | ⟨g, cap, cur, hv, a1, a2, a3⟩
  · exact .inl h2
  · exact .inr ⟨g, cap, cur, hv, a1, (Below.heap_setCell w p u g (by omega)).trans a2, a3⟩
def sumsP (cs : List Int) : List Int := (List.range (cs.length + 1)).map (sumS cs)
theorem sumsP_length (cs : List Int) : (sumsP cs).length = cs.length + 1 := by simp [sumsP]
theorem sumsP_get {cs : List Int} {v : Nat} (h : v ≤ cs.length) : (sumsP cs)[v]? = some (sumS cs v) := by
  unfold sumsP
  rw [List.getElem?_map, List.getElem?_range (by omega)]; rfl
theorem sumS_app (cs : List Int) (c : Int) : ∀ v, v ≤ cs.length → sumS (cs ++ [c]) v = sumS cs v
  | 0, _ => rfl
  | v + 1, hv => by
    show sumS (cs ++ [c]) v + (cs ++ [c]).getD v 0 = sumS cs v + cs.getD v 0
    rw [sumS_app cs c v (by omega), List.getD_eq_getElem?_getD, List.getD_eq_getElem?_getD, List.getElem?_append_left (by omega)]
theorem sumsP_snoc (cs : List Int) (c : Int) : sumsP (cs ++ [c]) = sumsP cs ++ [sumS cs cs.length + c] := by
  unfold sumsP
  rw [List.length_append, show cs.length + [c].length + 1 = cs.length + 1 + 1 from rfl, List.range_succ, List.map_append]
  congr 1
  · refine List.map_congr_left fun v hv => ?_
    have := List.mem_range.1 hv
    exact sumS_app cs c v (by omega)
  · show [sumS (cs ++ [c]) cs.length + (cs ++ [c]).getD cs.length 0] = _
    rw [sumS_app cs c _ (Nat.le_refl _), List.getD_eq_getElem?_getD, List.getElem?_append_right (Nat.le_refl _), Nat.sub_self]
    rfl
theorem CsOk.snoc {cs : List Int} (h : CsOk cs) (hl : cs.length < 7) {c : Int} (hc : 1 ≤ c ∧ c ≤ 50) : CsOk (cs ++ [c]) := by
  refine ⟨by simp; omega, fun x hx => ?_⟩
  rcases List.mem_append.1 hx with h1 | h1
  · exact h.2 x h1
  · rw [List.mem_singleton.1 h1]; exact hc
/-- The map and the sums of the roads that are laid. -/
structure TrR (w0 w : World) (al : List Int) (cs : List Int) (RA : Option Addr) (rc : Nat) (SA : Option Addr) (sc : Nat) : Prop where
  ar : Blk w w0.heap.size 23 (arr al)
  mp : Blk w (w0.heap.size + 1) 26 #[.int .i64 ((cs.length : Int) + 1), .slice RA cs.length rc]
  rds : w.ownsRow (w0.heap.size + 2) 28 3 (.slice RA cs.length rc) cs.length (rcells (pathR cs))
  sms : w.ownsRow (w0.heap.size + 2) 3 1 (.slice SA (cs.length + 1) sc) (cs.length + 1) ((sumsP cs).map (Value.int .i64))
  bel : Below w0.heap.size w0 w
  sz : w0.heap.size + 2 ≤ w.heap.size
section
variable {w0 w w' w9 : World} {al cs : List Int} {RA SA : Option Addr} {rc sc : Nat}
/-- One road more, and its end. -/
theorem TrR.road (h : TrR w0 w al cs RA rc SA sc) {c : Int} {RA' : Option Addr} {rc' : Nat} (hown : w'.ownsRow (w0.heap.size + 2) 28 3 (.slice RA' (cs.length + 1) rc') (cs.length + 1) (rcells (pathR cs) ++ [.int .i64 (cs.length : Int), .int .i64 ((cs.length : Int) + 1), .int .i64 c]))
    (hg : w.grownBy w' (Value.slice RA cs.length rc).ownBlock) (hb : Below (w0.heap.size + 2) w w') :
    (w'.setCell ⟨w0.heap.size + 1, 1, none⟩ (.slice RA' (cs.length + 1) rc')).ownsRow (w0.heap.size + 2) 28 3 (.slice RA' (cs ++ [c]).length rc') (cs ++ [c]).length (rcells (pathR (cs ++ [c]))) ∧
    (w'.setCell ⟨w0.heap.size + 1, 1, none⟩ (.slice RA' (cs.length + 1) rc')).ownsRow (w0.heap.size + 2) 3 1 (.slice SA (cs.length + 1) sc) (cs.length + 1) ((sumsP cs).map (Value.int .i64)) ∧
    Blk (w'.setCell ⟨w0.heap.size + 1, 1, none⟩ (.slice RA' (cs.length + 1) rc')) (w0.heap.size + 1) 26 #[.int .i64 ((cs.length : Int) + 1), .slice RA' (cs.length + 1) rc'] ∧
    Blk (w'.setCell ⟨w0.heap.size + 1, 1, none⟩ (.slice RA' (cs.length + 1) rc')) w0.heap.size 23 (arr al) ∧
    Below w0.heap.size w0 (w'.setCell ⟨w0.heap.size + 1, 1, none⟩ (.slice RA' (cs.length + 1) rc')) ∧ w0.heap.size + 2 ≤ (w'.setCell ⟨w0.heap.size + 1, 1, none⟩ (.slice RA' (cs.length + 1) rc')).heap.size := by
  refine ⟨?_, own_lowT (own_grown_ty h.sms h.rds (by decide) hg) (by show w0.heap.size + 1 < _; omega) _, (h.mp.below hb (by omega)).set_ 1 _, (h.ar.below hb (by omega)).far (by show w0.heap.size ≠ w0.heap.size + 1; omega) _, (h.bel.trans (hb.mono (by omega))).setCell (by show w0.heap.size ≤ w0.heap.size + 1; omega) _, by have := hb.size; have := h.sz; simp [World.setCell]; omega⟩
  rw [List.length_append, pathR_snoc, rcells_snoc]
  exact own_lowT hown (by show w0.heap.size + 1 < _; omega) _
end

/- The memory of TopRoad: the stops and the lengths while they are made. -/

theorem own_keptR {w w' : World} {base e size n : Nat} {v : Value} {xs : List Value} {S : List Nat} (h : w.ownsRow base e size v n xs) (hk : Kept w.heap.size S w w') (hS : ∀ x ∈ S, x < base) : w'.ownsRow base e size v n xs := by
  obtain ⟨h1, h2⟩ := h
  refine ⟨h1, ?_⟩
  rcases h2 with h2 | ⟨g, cap, cur, hv, a1, a2, a3⟩
  · exact .inl h2
  · exact .inr ⟨g, cap, cur, hv, a1, (hk.block g (lt_of_block a2) fun hg => by have := hS g hg; omega).trans a2, a3⟩
theorem roadL_takeT {l : List Int} {s : Nat} (hs : s < 2 ^ l.length) : (roadL l).take (s + 1) = (roadL l).take s ++ [maxTo l s l.length] := by
  refine take_succ' ?_
  unfold roadL
  rw [List.getElem?_map, List.getElem?_range hs]
  rfl
/-- Where a stop lies. -/
def atF (ys : List Int) (L i : Nat) : Nat := (wrap64 ((IntKind.u64.wrap (ys.getD i 0)).tmod ((L : Int) + 1))).toNat
theorem atF_spec (ys : List Int) {L : Nat} (hL : L ≤ 7) (i : Nat) : atF ys L i ≤ L ∧ wrap64 ((IntKind.u64.wrap (ys.getD i 0)).tmod ((L : Int) + 1)) = (atF ys L i : Int) := by
  obtain ⟨p, hp, hpe⟩ := idx_of (ys.getD i 0) (k := (L : Int) + 1) (by omega) (by omega)
  unfold atF
  rw [hpe]
  refine ⟨by omega, by simp⟩
def alTo (ys : List Int) (L j : Nat) : List Int := (List.range 4).map fun i => if i < j then (atF ys L i : Int) else ys.getD i 0
theorem alTo_set (ys : List Int) (L : Nat) {j : Nat} (hj : j < 4) : (alTo ys L j).set j (atF ys L j : Int) = alTo ys L (j + 1) := by
  have h : j = 0 ∨ j = 1 ∨ j = 2 ∨ j = 3 := by omega
  rcases h with rfl | rfl | rfl | rfl <;> rfl
theorem alTo_get (ys : List Int) (L j : Nat) {i : Nat} (hi : i < 4) : (alTo ys L j)[i]? = some (if i < j then (atF ys L i : Int) else ys.getD i 0) := by
  unfold alTo
  rw [List.getElem?_map, List.getElem?_range hi]; rfl
def lensTo (cs : List Int) (ys : List Int) (j : Nat) : List Int := (List.range j).map fun i => sumS cs (atF ys cs.length i)
theorem lensTo_length (cs ys : List Int) (j : Nat) : (lensTo cs ys j).length = j := by simp [lensTo]
theorem lensTo_succ (cs ys : List Int) (j : Nat) : lensTo cs ys (j + 1) = lensTo cs ys j ++ [sumS cs (atF ys cs.length j)] := by
  unfold lensTo
  rw [List.range_succ, List.map_append]; rfl
theorem lensTo_get (cs ys : List Int) {i j : Nat} (hi : i < j) : (lensTo cs ys j).getD i 0 = sumS cs (atF ys cs.length i) := by
  unfold lensTo
  rw [List.getD_eq_getElem?_getD, List.getElem?_map, List.getElem?_range hi]; rfl
/-- The stops and the lengths that are laid. -/
structure LenR (W wo wx : World) (cs ys : List Int) (j : Nat) (LA : Option Addr) (lc : Nat) : Prop where
  ar : Blk wx W.heap.size 23 (arr (alTo ys cs.length j))
  kp : Kept wo.heap.size [W.heap.size] wo wx
  own : wx.ownsRow wo.heap.size 3 1 (.slice LA j lc) j ((lensTo cs ys j).map (Value.int .i64))
section
variable {W wo wx w' : World} {cs ys al : List Int} {RA SA LA : Option Addr} {rc sc lc j : Nat}
theorem LenR.mp (h : LenR W wo wx cs ys j LA lc) (hT : TrR W wo al cs RA rc SA sc) : Blk wx (W.heap.size + 1) 26 #[.int .i64 ((cs.length : Int) + 1), .slice RA cs.length rc] := hT.mp.kept h.kp hT.mp.lt (by simp)
theorem LenR.rds (h : LenR W wo wx cs ys j LA lc) (hT : TrR W wo al cs RA rc SA sc) : Rds wx RA (pathR cs) := At.of_own (own_keptR hT.rds h.kp (by simp))
theorem LenR.sms (h : LenR W wo wx cs ys j LA lc) (hT : TrR W wo al cs RA rc SA sc) : Ints wx SA (sumsP cs) := At.of_own (own_keptR hT.sms h.kp (by simp))
theorem LenR.bel (h : LenR W wo wx cs ys j LA lc) (hT : TrR W wo al cs RA rc SA sc) : Below W.heap.size W wx := by
  have h1 : Kept W.heap.size [] wo wx := h.kp.mono hT.bel.size (fun x hx => .inr (by simp at hx; omega))
  exact hT.bel.trans h1.below
theorem LenR.size (h : LenR W wo wx cs ys j LA lc) (hT : TrR W wo al cs RA rc SA sc) : wo.heap.size ≤ wx.heap.size ∧ W.heap.size + 2 ≤ wx.heap.size := by
  have := h.kp.size
  have := hT.sz
  omega
/-- One stop is turned. -/
theorem LenR.turn (h : LenR W wo wx cs ys j LA lc) (hT : TrR W wo al cs RA rc SA sc) (hj : j < 4) (m : Nat) :
    Blk ((wx.drewN m).setCell ⟨W.heap.size, j, none⟩ (.int .i64 (atF ys cs.length j))) W.heap.size 23 (arr (alTo ys cs.length (j + 1))) ∧ Kept wo.heap.size [W.heap.size] wo ((wx.drewN m).setCell ⟨W.heap.size, j, none⟩ (.int .i64 (atF ys cs.length j))) ∧
      ((wx.drewN m).setCell ⟨W.heap.size, j, none⟩ (.int .i64 (atF ys cs.length j))).ownsRow wo.heap.size 3 1 (.slice LA j lc) j ((lensTo cs ys j).map (Value.int .i64)) ∧ wo.heap.size ≤ ((wx.drewN m).setCell ⟨W.heap.size, j, none⟩ (.int .i64 (atF ys cs.length j))).heap.size := by
  have h1 := (h.ar.drewN m).set_ j (.int .i64 (atF ys cs.length j))
  rw [arr_set, alTo_set ys cs.length hj] at h1
  have h0 := hT.sz
  refine ⟨h1, (h.kp.drewN m).setCell (.inl (by simp)) _, own_lowT (show (wx.drewN m).ownsRow _ _ _ _ _ _ from h.own) (by show W.heap.size < _; omega) _, ?_⟩
  have := h.kp.size
  simpa [World.setCell] using this
end

/- Contracts: lengths of package games, Lengths of the reference. -/

theorem lenB_bad {l : List Int} (h : ¬ (1 ≤ l.length ∧ l.length ≤ 4)) : lenB l = false := by
  rw [← Bool.not_eq_true, lenB_iff]
  rintro ⟨h2, _⟩
  exact h h2
set_option maxHeartbeats 800000 in
theorem glengths_any (A : Option Addr) (n cap : Nat) (l : List Int) (w : World) (hl : l.length = n) (hm : n ≤ 9223372036854775807) (h : Ints w A l) :
    Calls Tryd.prog 19 #[.slice A n cap] w fun e w' => e = .returned (.bool (lenB l)) ∧ w = w' := by
  by_cases h1 : 1 ≤ n
  · by_cases h2 : n ≤ 4
    · have hne : l ≠ [] := by rintro rfl; simp at hl; omega
      have hmn := lmin_ge hne 0
      have hmx := lmax_le hne 1000
      have l1 : (1 : Int) ≤ (n : Int) := by omega
      have l2 : (n : Int) ≤ 4 := by omega
      by_cases h3 : 0 ≤ lmin l
      · have hv : lenB l = decide (lmax l ≤ 1000) := by
          rw [Bool.eq_iff_iff, lenB_iff, decide_eq_true_eq, hmx]
          constructor
          · rintro ⟨_, h⟩; exact fun x hx => (h x hx).2
          · intro h; exact ⟨by omega, fun x hx => ⟨hmn.1 h3 x hx, h x hx⟩⟩
        have HV := Lib.hid hv
        clear hv hmn hmx
        have H := Lib.hid h
        clear h
        go_enter Tryd.func19, Tryd.ntmps19
        go_wp2_with fail
        refine (min_any _ n cap l _ hl (by omega) hm H.out).mono ?_
        rintro e w' ⟨rfl, rfl⟩
        go_wp2_with fail
        refine (max_any _ n cap l _ hl (by omega) hm H.out).mono ?_
        rintro e w' ⟨rfl, rfl⟩
        go_wp2_with fail
        go_ret
        exact ⟨ret_bool (by rw [HV.out]), rfl⟩
      · have hv : lenB l = false := by
          rw [← Bool.not_eq_true, lenB_iff]
          rintro ⟨_, h⟩
          exact h3 (hmn.2 fun x hx => (h x hx).1)
        have HV := Lib.hid hv
        clear hv hmn hmx
        have H := Lib.hid h
        clear h
        go_enter Tryd.func19, Tryd.ntmps19
        go_wp2_with fail
        refine (min_any _ n cap l _ hl (by omega) hm H.out).mono ?_
        rintro e w' ⟨rfl, rfl⟩
        go_wp2_with fail
        go_ret
        exact ⟨ret_bool (by rw [HV.out]), rfl⟩
    · have HV := Lib.hid (lenB_bad (l := l) (by omega))
      clear h
      go_enter Tryd.func19, Tryd.ntmps19
      go_wp2_with fail
      go_ret
      exact ⟨ret_bool (by rw [HV.out]), rfl⟩
  · have HV := Lib.hid (lenB_bad (l := l) (by omega))
    clear h
    go_enter Tryd.func19, Tryd.ntmps19
    go_wp2_with fail
    go_ret
    exact ⟨ret_bool (by rw [HV.out]), rfl⟩

/-- Lengths have at most 18 elements read. -/
theorem lenB_take (l : List Int) : lenB (l.take 18) = lenB l := by
  by_cases h : l.length ≤ 18
  · rw [List.take_of_length_le h]
  · rw [lenB_bad (l := l) (by omega), lenB_bad (l := l.take 18) (by rw [List.length_take]; omega)]

/- Contract: Road of package games. -/

/-- The costs while they are made: sets below s done, set s up to player k. -/
def roadTo (l : List Int) (N s k : Nat) : List Int := (List.range N).map fun t => if t < s then maxTo l t l.length else if t = s then maxTo l t k else 0
theorem roadTo_length (l : List Int) (N s k : Nat) : (roadTo l N s k).length = N := by simp [roadTo]
theorem roadTo_start (l : List Int) (N : Nat) : roadTo l N 0 0 = List.replicate N 0 := by
  unfold roadTo
  rw [List.eq_replicate_iff]
  refine ⟨by simp, fun x hx => ?_⟩
  obtain ⟨t, _, rfl⟩ := List.mem_map.1 hx
  rw [if_neg (by omega)]
  split <;> rfl
theorem roadTo_next (l : List Int) (N s : Nat) : roadTo l N s l.length = roadTo l N (s + 1) 0 := by
  unfold roadTo
  refine List.map_congr_left fun t _ => ?_
  by_cases h : t < s
  · rw [if_pos h, if_pos (by omega)]
  · rw [if_neg h]
    by_cases e : t = s
    · rw [if_pos e, if_pos (by omega)]
    · rw [if_neg e, if_neg (by omega)]
      split <;> rfl
theorem roadTo_all (l : List Int) (k : Nat) : roadTo l (2 ^ l.length) (2 ^ l.length) k = roadL l := by
  unfold roadTo roadL
  exact List.map_congr_left fun t ht => if_pos (List.mem_range.1 ht)
theorem roadTo_get {l : List Int} {N s k : Nat} (hs : s < N) : (roadTo l N s k)[s]? = some (maxTo l s k) := by
  unfold roadTo
  rw [List.getElem?_map, List.getElem?_range hs, Option.map_some, if_neg (by omega), if_pos rfl]
theorem roadTo_set {l : List Int} {N s k : Nat} (hs : s < N) : (roadTo l N s k).set s (maxTo l s (k + 1)) = roadTo l N s (k + 1) := by
  apply List.ext_getElem?
  intro t
  rw [List.getElem?_set]
  by_cases e : s = t
  · subst e
    rw [if_pos rfl, if_pos (by rw [roadTo_length]; exact hs), roadTo_get hs]
  · rw [if_neg e]
    unfold roadTo
    by_cases h : t < N
    · rw [List.getElem?_map, List.getElem?_map, List.getElem?_range h, Option.map_some, Option.map_some]
      by_cases h2 : t < s
      · rw [if_pos h2, if_pos h2]
      · rw [if_neg h2, if_neg h2, if_neg (by omega), if_neg (by omega)]
    · rw [List.getElem?_eq_none (by simp; omega), List.getElem?_eq_none (by simp; omega)]
/-- Road, for every lengths. -/
def roadA (l : List Int) : List Int := if lenB l then roadL l else []
def roadE (l : List Int) : Int := if lenB l then 0 else 2
theorem pow_of {n : Nat} (h : 1 ≤ n ∧ n ≤ 4) : IntKind.i64.wrap ((2 : Int) ^ n) = ((2 ^ n : Nat) : Int) ∧ 2 ≤ 2 ^ n ∧ 2 ^ n ≤ 16 := by
  have : n = 1 ∨ n = 2 ∨ n = 3 ∨ n = 4 := by omega
  rcases this with rfl | rfl | rfl | rfl <;> decide
set_option maxRecDepth 100000 in
set_option maxHeartbeats 1600000 in
theorem groad_any (A : Option Addr) (n cap : Nat) (l : List Int) (w : World) (hl : l.length = n) (hm : n ≤ 9223372036854775807) (h : Ints w A l) :
    Calls Tryd.prog 6 #[.slice A n cap] w fun e w' => ∃ A' k c', e = .returned (.tuple #[.slice A' k c', .int .i64 (roadE l)]) ∧ (roadA l).length = k ∧ Ints w' A' (roadA l) ∧ Below w.heap.size w w' := by
  cases hv : lenB l
  · have HV := Lib.hid hv
    clear hv
    go_enter Tryd.func6, Tryd.ntmps6
    go_wp2_with fail
    refine (glengths_any A n cap l _ hl hm h).mono ?_
    rintro e w' ⟨rfl, rfl⟩
    rw [HV.out]
    go_wp2_with fail
    go_ret2
    exact ⟨none, 0, 0, by unfold roadE; rw [HV.out]; rfl, by unfold roadA; rw [HV.out]; rfl, by unfold roadA; rw [HV.out]; exact At.nil, Below.refl _ _⟩
  · have hn4 := (lenB_iff.1 hv).1
    have hn : 1 ≤ n ∧ n ≤ 4 := by omega
    obtain ⟨hpw, hp2, hp16⟩ := pow_of hn
    obtain ⟨N, hN⟩ : ∃ N, N = 2 ^ n := ⟨_, rfl⟩
    rw [← hN] at hpw hp2 hp16
    have hmk := make_ints N (by omega)
    obtain ⟨ad, rfl, _, hc⟩ := h.some_ (by omega)
    have H := Lib.hid (And.intro hl (And.intro h (And.intro hv (And.intro hN hc))))
    clear hl h hv hN hn4 hc
    go_enter Tryd.func6, Tryd.ntmps6
    go_wp2_with fail
    refine (glengths_any _ n cap l _ H.out.1 hm H.out.2.1).mono ?_
    rintro e w' ⟨rfl, rfl⟩
    rw [H.out.2.2.1]
    go_wp2_with fail
    go_loopw [17] (fun iv wr => ∃ s : Nat, s ≤ N ∧ iv = .int .i64 s ∧ Blk wr w.heap.size 3 (arr (roadTo l N s 0)) ∧ Below w.heap.size w wr) (fun iv _ => N - (intOf iv).toNat)
    case atStart => exact ⟨0, Nat.zero_le _, rfl, by rw [roadTo_start]; exact Blk.new _ _ _ rfl, (Below.refl _ _).alloc (Nat.le_refl _) _⟩
    case round =>
      obtain ⟨s, hs, rfl, hB, hbl⟩ := hrel
      have HR := Lib.hid (And.intro hB hbl)
      clear hB hbl
      by_cases hlt : s < N
      · go_wp2_with fail
        go_loopw [22] (fun iv wr => ∃ k : Nat, k ≤ n ∧ iv = .int .i64 k ∧ Blk wr w.heap.size 3 (arr (roadTo l N s k)) ∧ Below w.heap.size w wr) (fun iv _ => n - (intOf iv).toNat)
        case atStart => exact ⟨0, Nat.zero_le _, rfl, HR.out⟩
        case round =>
          obtain ⟨k, hk, rfl, hB, hbl⟩ := hrel
          have HR2 := Lib.hid (And.intro hB hbl)
          clear hB hbl
          by_cases hlk : k < n
          · obtain ⟨x, hx⟩ : ∃ x, l[k]? = some x := ⟨_, List.getElem?_eq_getElem (by rw [H.out.1]; exact hlk)⟩
            have hxb := (lenB_iff.1 H.out.2.2.1).2 x (List.mem_of_getElem? hx)
            have c0 : wr.cell? (ad.add k) = some (.int .i64 x) := (HR2.out.2.cell (lt_of_cell (H.out.2.2.2.2 k x hx))).trans (H.out.2.2.2.2 k x hx)
            have hmb := maxTo_bd H.out.2.2.1 s k
            obtain ⟨m, hme⟩ : ∃ m, m = maxTo l s k := ⟨_, rfl⟩
            have c1 : wr.cell? ⟨w.heap.size, s, none⟩ = some (.int .i64 m) := by rw [HR2.out.1.cell, arr_get, roadTo_get hlt, ← hme]; rfl
            have f1 : wr.frozen? ⟨w.heap.size, s, none⟩ = false := HR2.out.1.frozen s
            have hbit := and_shr s k (by omega)
            have hstep : maxTo l s (k + 1) = max m (x * ((if s.testBit k then 1 else 0 : Nat) : Int)) := by
              rw [maxTo, hme, List.getD_eq_getElem?_getD, hx]
              split <;> simp
            have hset := roadTo_set (l := l) (k := k) hlt
            rw [hstep] at hset
            rw [← hme] at hmb
            obtain ⟨bt, hbt⟩ : ∃ bt : Nat, bt = (if s.testBit k then 1 else 0) := ⟨_, rfl⟩
            have hb1 : bt ≤ 1 := by rw [hbt]; split <;> omega
            rw [← hbt] at hbit hset
            obtain ⟨v, hve⟩ : ∃ v, v = x * (bt : Int) := ⟨_, rfl⟩
            have hvb : 0 ≤ v ∧ v ≤ 1000 := by
              have : bt = 0 ∨ bt = 1 := by omega
              rw [hve]
              rcases this with h | h <;> rw [h] <;> simp <;> omega
            rw [← hve] at hset
            have e1 : IntKind.i64.wrap v = v := IntWalk.i64_in _ (by omega)
            have e3 : x * (bt : Int) = v := hve.symm
            have hbit2 : IntKind.i64.wrap ((bt : Int)) = (bt : Int) := IntWalk.i64_in _ (by omega)
            have HN := Lib.hid hset
            clear hset hstep hme hbt hve hx
            go_wp2_with fail
            go_region
            go_wp2_with fail
            go_roundw
            case rel =>
              refine ⟨k + 1, by omega, by go_num, ?_, (HR2.out.2.setCell (Nat.le_refl _) _).drew⟩
              rw [← HN.out, ← arr_set, show max m v = (if m < v then v else m) from by split <;> omega]
              exact Blk.set_ HR2.out.1 s _
            case measure => simp [intOf]; omega
          · obtain rfl : n = k := by omega
            have HN : Hid (roadTo l N s n = roadTo l N (s + 1) 0) := Lib.hid (by rw [← roadTo_next, H.out.1])
            go_wp2_with fail
            go_roundw
            case rel => exact ⟨s + 1, by omega, by go_num, by rw [← HN.out]; exact HR2.out.1, HR2.out.2⟩
            case measure => simp [intOf]; omega
      · obtain rfl : N = s := by omega
        go_wp2_with fail
        go_ret2
        have hR : roadTo l N N 0 = roadL l := by rw [H.out.2.2.2.1, ← H.out.1]; exact roadTo_all l 0
        refine ⟨some ⟨w.heap.size, 0, none⟩, N, N, by unfold roadE; rw [H.out.2.2.1]; rfl, ?_, ?_, HR.out.2⟩
        · unfold roadA; rw [H.out.2.2.1, if_pos rfl, roadL_length, H.out.1, H.out.2.2.2.1]
        · unfold roadA; rw [H.out.2.2.1, if_pos rfl, ← hR]; exact blk_ints HR.out.1

/- Contract: pdqsortOrdered on 12 ints or fewer. -/

set_option maxRecDepth 100000 in
set_option maxHeartbeats 1600000 in
theorem pdq_any (g cap n : Nat) (lim : Int) (l : List Int) (w : World) (hl : l.length = n) (hn : 1 ≤ n ∧ n ≤ 12) (h : PreB w g n cap l) :
    Calls Tryd.prog 60 #[.slice (some ⟨g, 0, none⟩) n cap, .int .i64 0, .int .i64 n, .int .i64 lim] w fun e w' => e = .returned (.tuple #[]) ∧ PreB w' g n cap (sortTo l n) ∧ Kept w.heap.size [g] w w' := by
  have H := Lib.hid (And.intro hl h)
  clear hl h
  go_enter Tryd.func60, Tryd.ntmps60
  go_wp2_with fail
  refine wp_loop_rounds 1 ?_
  rw [rounds_succ]
  go_wp2_with fail
  refine (isort_any g cap n l w H.out.1 (by omega) H.out.2).mono ?_
  rintro e w1 ⟨rfl, h1, h2⟩
  have H1 := Lib.hid (And.intro h1 h2)
  clear h1 h2
  go_wp2_with fail
  (try simp only [Exit.inBlock, Exit.then])
  refine bodyPost_ret (results_none rfl _ _ _) rfl ?_
  exact ⟨rfl, H1.out⟩

/- Contract: bits.Len of a small number. -/

set_option maxRecDepth 100000 in
set_option maxHeartbeats 1600000 in
theorem blen64_any (n : Nat) (hn : n ≤ 4) (w : World) : Calls Tryd.prog 83 #[.int .u64 n] w fun e w' => (∃ k : Int, e = .returned (.int .i64 k)) ∧ w = w' := by
  have h1 : ¬ (4294967296 : Int) ≤ (n : Int) := by omega
  have h2 : ¬ (65536 : Int) ≤ (n : Int) := by omega
  have h3 : ¬ (256 : Int) ≤ (n : Int) := by omega
  match n, hn with
  | 0, _ => go_enter Tryd.func83, Tryd.ntmps83; go_wp2_with fail; go_ret; exact ⟨⟨_, rfl⟩, rfl⟩
  | 1, _ => go_enter Tryd.func83, Tryd.ntmps83; go_wp2_with fail; go_ret; exact ⟨⟨_, rfl⟩, rfl⟩
  | 2, _ => go_enter Tryd.func83, Tryd.ntmps83; go_wp2_with fail; go_ret; exact ⟨⟨_, rfl⟩, rfl⟩
  | 3, _ => go_enter Tryd.func83, Tryd.ntmps83; go_wp2_with fail; go_ret; exact ⟨⟨_, rfl⟩, rfl⟩
  | 4, _ => go_enter Tryd.func83, Tryd.ntmps83; go_wp2_with fail; go_ret; exact ⟨⟨_, rfl⟩, rfl⟩
theorem blen_any (n : Nat) (hn : n ≤ 4) (w : World) : Calls Tryd.prog 61 #[.int .u64 n] w fun e w' => (∃ k : Int, e = .returned (.int .i64 k)) ∧ w = w' := by
  go_enter Tryd.func61, Tryd.ntmps61
  go_wp2_with fail
  refine (blen64_any n hn w).mono ?_
  rintro e w' ⟨⟨k, rfl⟩, rfl⟩
  go_wp2_with fail
  go_ret
  exact ⟨⟨_, rfl⟩, rfl⟩

set_option maxRecDepth 100000 in
set_option maxHeartbeats 1600000 in
theorem ssort_any (g cap n : Nat) (l : List Int) (w : World) (hl : l.length = n) (hn : 1 ≤ n ∧ n ≤ 4) (h : PreB w g n cap l) :
    Calls Tryd.prog 35 #[.slice (some ⟨g, 0, none⟩) n cap] w fun e w' => e = .returned (.tuple #[]) ∧ PreB w' g n cap (sortTo l n) ∧ Kept w.heap.size [g] w w' := by
  have H := Lib.hid (And.intro hl h)
  clear hl h
  go_enter Tryd.func35, Tryd.ntmps35
  go_wp2_with fail
  refine (blen_any n hn.2 w).mono ?_
  rintro e w' ⟨⟨k, rfl⟩, rfl⟩
  go_wp2_with fail
  refine (pdq_any g cap n k l w H.out.1 (by omega) H.out.2).mono ?_
  rintro e w1 ⟨rfl, h1, h2⟩
  have H1 := Lib.hid (And.intro h1 h2)
  clear h1 h2
  go_wp2_with fail
  go_end0
  exact ⟨rfl, H1.out⟩
end Go.Proofs.YtifmekijdepokaaDoor
