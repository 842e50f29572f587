/- Laws and contracts that the proof of GamesNames uses, part 6. -/
import Derived.Test.YtbidboagaoifaaaGamesNamesM5
import Derived.Test.YtbidboagaoifaaaGamesNamesM1
import Derived.Test.YtbidboagaoifaaaGamesNamesM2
import Derived.Test.YtbidboagaoifaaaGamesNamesM4
import Derived.StillTailTactics
import Derived.Deep.RegionHeld3
import Derived.Deep.AppendLies
import Derived.Deep.DeepCutAuto
namespace Go.Proofs.Ytbidboagaoifaaa
open Go.RowKit

/- The costs of players by other names: plain Lean. -/

/-- A set whose bits are turned by b. -/
def rotS (n b s : Nat) : Nat := (s >>> (n - b)) ||| ((s <<< b) &&& (2 ^ n - 1))
def rotOk (n b s : Nat) : Bool := decide (rotS n b s < 2 ^ n) && (rotS n (n - b) (rotS n b s) == s && (rotS n b (rotS n (n - b) s) == s && (decide (rotS n (n - b) s < 2 ^ n) && (rotS n b (2 ^ n - 1) == 2 ^ n - 1 && (rotS n b 0 == 0 && (List.range n).all fun j => (rotS n b s).testBit ((j + b) % n) == s.testBit j)))))
def rotOk2 (n b s t : Nat) : Bool := rotS n b (s ||| t) == (rotS n b s ||| rotS n b t) && rotS n b (s &&& t) == (rotS n b s &&& rotS n b t)
theorem rot_all : ∀ n, n < 5 → ∀ b, b < n → ∀ s, s < 2 ^ n → rotOk n b s = true := by decide +kernel
theorem rot_all2 : ∀ n, n < 5 → ∀ b, b < n → ∀ s, s < 2 ^ n → ∀ t, t < 2 ^ n → rotOk2 n b s t = true := by decide +kernel
section
variable {n b s t : Nat} (hn : 1 ≤ n ∧ n ≤ 4) (hb : b < n) (hs : s < 2 ^ n)
include hn hb hs
theorem rot_says : rotS n b s < 2 ^ n ∧ rotS n (n - b) (rotS n b s) = s ∧ rotS n b (rotS n (n - b) s) = s ∧ rotS n (n - b) s < 2 ^ n ∧ rotS n b (2 ^ n - 1) = 2 ^ n - 1 ∧ rotS n b 0 = 0 ∧ ∀ j, j < n → (rotS n b s).testBit ((j + b) % n) = s.testBit j := by
  have h := rot_all n (by omega) b hb s hs
  unfold rotOk at h
  simp only [Bool.and_eq_true, decide_eq_true_eq, beq_iff_eq, List.all_eq_true, List.mem_range] at h
  exact h
theorem rot_two (ht : t < 2 ^ n) : rotS n b (s ||| t) = (rotS n b s ||| rotS n b t) ∧ rotS n b (s &&& t) = (rotS n b s &&& rotS n b t) := by
  have h := rot_all2 n (by omega) b hb s hs t ht
  unfold rotOk2 at h
  simp only [Bool.and_eq_true, beq_iff_eq] at h
  exact h
end
/-- The costs by other names, the first k sets done. -/
def namesTo (c : List Int) (n b : Nat) : Nat → List Int
  | 0 => List.replicate (2 ^ n) 0
  | k + 1 => (namesTo c n b k).set (rotS n b k) (c.getD k 0)
def namesL (c : List Int) (n b : Nat) : List Int := namesTo c n b (2 ^ n)
theorem namesTo_length (c : List Int) (n b k : Nat) : (namesTo c n b k).length = 2 ^ n := by
  induction k with
  | zero => simp [namesTo]
  | succ k ih => simp [namesTo, ih]
theorem namesTo_get {c : List Int} {n b : Nat} (hn : 1 ≤ n ∧ n ≤ 4) (hb : b < n) : ∀ k, k ≤ 2 ^ n → ∀ s, s < k → (namesTo c n b k).getD (rotS n b s) 0 = c.getD s 0 := by
  intro k
  induction k with
  | zero => intro _ s h; omega
  | succ k ih =>
    intro hk s hs
    have r1 := rot_says hn hb (s := s) (by omega)
    have r2 := rot_says hn hb (s := k) (by omega)
    rw [namesTo, List.getD_eq_getElem?_getD, List.getElem?_set]
    by_cases e : rotS n b k = rotS n b s
    · have e2 : k = s := by rw [← r2.2.1, e, r1.2.1]
      subst e2
      rw [if_pos rfl, if_pos (by rw [namesTo_length]; exact r2.1)]
      rfl
    · rw [if_neg e, ← List.getD_eq_getElem?_getD]
      exact ih (by omega) s (by rcases Nat.lt_or_ge s k with h | h; exact h; exact absurd (by rw [show s = k by omega]) e)
theorem names_get {c : List Int} {n b s : Nat} (hn : 1 ≤ n ∧ n ≤ 4) (hb : b < n) (hs : s < 2 ^ n) : (namesL c n b).getD (rotS n b s) 0 = c.getD s 0 := namesTo_get hn hb _ (Nat.le_refl _) s hs
theorem namesL_length (c : List Int) (n b : Nat) : (namesL c n b).length = 2 ^ n := namesTo_length _ _ _ _
theorem names_valid {c : List Int} {b : Nat} (hv : valC c = true) (hb : b < plr c) : valC (namesL c (plr c) b) = true := by
  have hp := valC_pow hv
  have h1 := valC_iff.1 hv
  refine valC_iff.2 ⟨by rw [namesL_length, ← hp.1]; exact h1.1, ?_, fun x hx => ?_⟩
  · have hN : 0 < 2 ^ plr c := Nat.two_pow_pos _
    have r := rot_says hp.2 hb hN
    have := names_get (c := c) hp.2 hb hN
    rw [r.2.2.2.2.2.1] at this
    have e0 : c.getD 0 0 = 0 := by
      have := h1.2.1
      rw [List.getD_eq_getElem?_getD, List.getElem?_eq_getElem (by omega)] at this ⊢
      exact this
    rw [e0, List.getD_eq_getElem?_getD, List.getElem?_eq_getElem (by rw [namesL_length]; exact hN)] at this
    rw [List.getD_eq_getElem?_getD, List.getElem?_eq_getElem (by rw [namesL_length]; exact hN)]
    exact this
  · obtain ⟨t, ht, rfl⟩ := List.getElem_of_mem hx
    rw [namesL_length] at ht
    have r := rot_says hp.2 hb ht
    have := names_get (c := c) hp.2 hb r.2.2.2.1
    rw [r.2.2.1, List.getD_eq_getElem?_getD, List.getElem?_eq_getElem (by rw [namesL_length]; exact ht), List.getD_eq_getElem?_getD, List.getElem?_eq_getElem (by rw [hp.1]; exact r.2.2.2.1)] at this
    have e : (namesL c (plr c) b)[t] = c[rotS (plr c) (plr c - b) t]'(by rw [hp.1]; exact r.2.2.2.1) := this
    rw [e]
    exact h1.2.2 _ (List.getElem_mem _)
/-- Concave. -/
theorem names_bad {c : List Int} {n b s t : Nat} (hn : 1 ≤ n ∧ n ≤ 4) (hb : b < n) (hs : s < 2 ^ n) (ht : t < 2 ^ n) : badB (namesL c n b) (rotS n b s) (rotS n b t) = badB c s t := by
  have r := rot_two hn hb hs ht
  unfold badB
  rw [← r.1, ← r.2, names_get hn hb hs, names_get hn hb ht, names_get hn hb (Nat.or_lt_two_pow hs ht), names_get hn hb (Nat.and_lt_two_pow _ ht)]
theorem names_concL {c : List Int} {n b : Nat} (hn : 1 ≤ n ∧ n ≤ 4) (hb : b < n) (hc : c.length = 2 ^ n) : (concL (namesL c n b)).2.2 = (concL c).2.2 := by
  rcases concL_cases c with ⟨x, y, h1, hx, hy, hxy⟩ | ⟨h1, hno⟩ <;> rcases concL_cases (namesL c n b) with ⟨x', y', h2, hx', hy', hxy'⟩ | ⟨h2, hno'⟩
  · rw [h1, h2]
  · exfalso
    rw [hc] at hx hy
    have := hno' (rotS n b x) (rotS n b y) (by rw [namesL_length]; exact (rot_says hn hb hx).1) (by rw [namesL_length]; exact (rot_says hn hb hy).1)
    rw [names_bad hn hb hx hy, hxy] at this
    exact absurd this (by simp)
  · exfalso
    rw [namesL_length] at hx' hy'
    have rx := rot_says hn hb hx'
    have ry := rot_says hn hb hy'
    have := hno (rotS n (n - b) x') (rotS n (n - b) y') (by rw [hc]; exact rx.2.2.2.1) (by rw [hc]; exact ry.2.2.2.1)
    rw [← names_bad (c := c) hn hb rx.2.2.2.1 ry.2.2.2.1, rx.2.2.1, ry.2.2.1, hxy'] at this
    exact absurd this (by simp)
  · rw [h1, h2]
theorem names_conc {c : List Int} {b : Nat} (hv : valC c = true) (hb : b < plr c) : (concA (namesL c (plr c) b)).2.2 = (concA c).2.2 := by
  have hp := valC_pow hv
  unfold concA
  rw [hv, names_valid hv hb]
  exact names_concL hp.2 hb hp.1
/-- The core. -/
theorem bq_rot {n b s j : Nat} (hn : 1 ≤ n ∧ n ≤ 4) (hb : b < n) (hs : s < 2 ^ n) (hj : j < n) : bq (rotS n b s) ((j + b) % n) = bq s j := by
  unfold bq bitI
  rw [(rot_says hn hb hs).2.2.2.2.2.2 j hj]
theorem dot_rot {n b s : Nat} (hn : 1 ≤ n ∧ n ≤ 4) (hb : b < n) (hs : s < 2 ^ n) (x : Nat → Rat) : dotS n (fun j => x ((j + b) % n)) s = dotS n x (rotS n b s) := by
  match n, b, hn, hb, hs with
  | 1, 0, hn, hb, hs =>
    have e0 : bq (rotS 1 0 s) 0 = bq s 0 := bq_rot hn hb hs (j := 0) (by decide)
    simp only [dotS, sumQ, e0]
  | 2, 0, hn, hb, hs =>
    have e0 : bq (rotS 2 0 s) 0 = bq s 0 := bq_rot hn hb hs (j := 0) (by decide)
    have e1 : bq (rotS 2 0 s) 1 = bq s 1 := bq_rot hn hb hs (j := 1) (by decide)
    simp only [dotS, sumQ, e0, e1]
  | 2, 1, hn, hb, hs =>
    have e0 : bq (rotS 2 1 s) 1 = bq s 0 := bq_rot hn hb hs (j := 0) (by decide)
    have e1 : bq (rotS 2 1 s) 0 = bq s 1 := bq_rot hn hb hs (j := 1) (by decide)
    simp only [dotS, sumQ, e0, e1]
    simp only [show (0 + 1) % 2 = 1 from rfl, show (1 + 1) % 2 = 0 from rfl]
    grind
  | 3, 0, hn, hb, hs =>
    have e0 : bq (rotS 3 0 s) 0 = bq s 0 := bq_rot hn hb hs (j := 0) (by decide)
    have e1 : bq (rotS 3 0 s) 1 = bq s 1 := bq_rot hn hb hs (j := 1) (by decide)
    have e2 : bq (rotS 3 0 s) 2 = bq s 2 := bq_rot hn hb hs (j := 2) (by decide)
    simp only [dotS, sumQ, e0, e1, e2]
  | 3, 1, hn, hb, hs =>
    have e0 : bq (rotS 3 1 s) 1 = bq s 0 := bq_rot hn hb hs (j := 0) (by decide)
    have e1 : bq (rotS 3 1 s) 2 = bq s 1 := bq_rot hn hb hs (j := 1) (by decide)
    have e2 : bq (rotS 3 1 s) 0 = bq s 2 := bq_rot hn hb hs (j := 2) (by decide)
    simp only [dotS, sumQ, e0, e1, e2]
    simp only [show (0 + 1) % 3 = 1 from rfl, show (1 + 1) % 3 = 2 from rfl, show (2 + 1) % 3 = 0 from rfl]
    grind
  | 3, 2, hn, hb, hs =>
    have e0 : bq (rotS 3 2 s) 2 = bq s 0 := bq_rot hn hb hs (j := 0) (by decide)
    have e1 : bq (rotS 3 2 s) 0 = bq s 1 := bq_rot hn hb hs (j := 1) (by decide)
    have e2 : bq (rotS 3 2 s) 1 = bq s 2 := bq_rot hn hb hs (j := 2) (by decide)
    simp only [dotS, sumQ, e0, e1, e2]
    simp only [show (0 + 2) % 3 = 2 from rfl, show (1 + 2) % 3 = 0 from rfl, show (2 + 2) % 3 = 1 from rfl]
    grind
  | 4, 0, hn, hb, hs =>
    have e0 : bq (rotS 4 0 s) 0 = bq s 0 := bq_rot hn hb hs (j := 0) (by decide)
    have e1 : bq (rotS 4 0 s) 1 = bq s 1 := bq_rot hn hb hs (j := 1) (by decide)
    have e2 : bq (rotS 4 0 s) 2 = bq s 2 := bq_rot hn hb hs (j := 2) (by decide)
    have e3 : bq (rotS 4 0 s) 3 = bq s 3 := bq_rot hn hb hs (j := 3) (by decide)
    simp only [dotS, sumQ, e0, e1, e2, e3]
  | 4, 1, hn, hb, hs =>
    have e0 : bq (rotS 4 1 s) 1 = bq s 0 := bq_rot hn hb hs (j := 0) (by decide)
    have e1 : bq (rotS 4 1 s) 2 = bq s 1 := bq_rot hn hb hs (j := 1) (by decide)
    have e2 : bq (rotS 4 1 s) 3 = bq s 2 := bq_rot hn hb hs (j := 2) (by decide)
    have e3 : bq (rotS 4 1 s) 0 = bq s 3 := bq_rot hn hb hs (j := 3) (by decide)
    simp only [dotS, sumQ, e0, e1, e2, e3]
    simp only [show (0 + 1) % 4 = 1 from rfl, show (1 + 1) % 4 = 2 from rfl, show (2 + 1) % 4 = 3 from rfl, show (3 + 1) % 4 = 0 from rfl]
    grind
  | 4, 2, hn, hb, hs =>
    have e0 : bq (rotS 4 2 s) 2 = bq s 0 := bq_rot hn hb hs (j := 0) (by decide)
    have e1 : bq (rotS 4 2 s) 3 = bq s 1 := bq_rot hn hb hs (j := 1) (by decide)
    have e2 : bq (rotS 4 2 s) 0 = bq s 2 := bq_rot hn hb hs (j := 2) (by decide)
    have e3 : bq (rotS 4 2 s) 1 = bq s 3 := bq_rot hn hb hs (j := 3) (by decide)
    simp only [dotS, sumQ, e0, e1, e2, e3]
    simp only [show (0 + 2) % 4 = 2 from rfl, show (1 + 2) % 4 = 3 from rfl, show (2 + 2) % 4 = 0 from rfl, show (3 + 2) % 4 = 1 from rfl]
    grind
  | 4, 3, hn, hb, hs =>
    have e0 : bq (rotS 4 3 s) 3 = bq s 0 := bq_rot hn hb hs (j := 0) (by decide)
    have e1 : bq (rotS 4 3 s) 0 = bq s 1 := bq_rot hn hb hs (j := 1) (by decide)
    have e2 : bq (rotS 4 3 s) 1 = bq s 2 := bq_rot hn hb hs (j := 2) (by decide)
    have e3 : bq (rotS 4 3 s) 2 = bq s 3 := bq_rot hn hb hs (j := 3) (by decide)
    simp only [dotS, sumQ, e0, e1, e2, e3]
    simp only [show (0 + 3) % 4 = 3 from rfl, show (1 + 3) % 4 = 0 from rfl, show (2 + 3) % 4 = 1 from rfl, show (3 + 3) % 4 = 2 from rfl]
    grind
theorem names_in {c : List Int} {n b : Nat} (hn : 1 ≤ n ∧ n ≤ 4) (hb : b < n) : (∃ x, InC (namesL c n b) n x) ↔ ∃ x, InC c n x := by
  have hp := Nat.two_pow_pos n
  have hcq : ∀ s, s < 2 ^ n → cq (namesL c n b) (rotS n b s) = cq c s := fun s hs => by unfold cq; rw [names_get hn hb hs]
  have hlast : rotS n b (2 ^ n - 1) = 2 ^ n - 1 := (rot_says hn hb hp).2.2.2.2.1
  constructor
  · rintro ⟨x, h1, h2⟩
    refine ⟨fun j => x ((j + b) % n), ?_, fun s hs => ?_⟩
    · rw [dot_rot hn hb (by omega), hlast, h1, ← hcq _ (by omega), hlast]
    · rw [dot_rot hn hb hs, ← hcq s hs]
      exact h2 _ (rot_says hn hb hs).1
  · rintro ⟨x, h1, h2⟩
    have key : ∀ s, s < 2 ^ n → dotS n (fun i => x ((i + (n - b)) % n)) (rotS n b s) = dotS n x s := by
      intro s hs
      rw [← dot_rot hn hb hs]
      refine sumQ_congr fun j hj => ?_
      dsimp only
      rw [show ((j + b) % n + (n - b)) % n = j from by
        rw [Nat.mod_add_mod, show j + b + (n - b) = j + n by omega, Nat.add_mod_right, Nat.mod_eq_of_lt hj]]
    refine ⟨fun i => x ((i + (n - b)) % n), ?_, fun t ht => ?_⟩
    · have := key (2 ^ n - 1) (by omega)
      have h3 := hcq (2 ^ n - 1) (by omega)
      rw [hlast] at this h3
      rw [this, h1, h3]
    · have r := rot_says hn hb ht
      have := key _ r.2.2.2.1
      have h3 := hcq _ r.2.2.2.1
      rw [r.2.2.1] at this h3
      rw [this, h3]
      exact h2 _ r.2.2.2.1
theorem names_core {c : List Int} {b : Nat} (hv : valC c = true) (hb : b < plr c) : coE (namesL c (plr c) b) = coE c := by
  have hp := valC_pow hv
  have hv2 := names_valid hv hb
  have hpl : plr (namesL c (plr c) b) = plr c := plr_len hv2 hv (by rw [namesL_length, hp.1])
  have e : (coreF (namesL c (plr c) b)).isSome = (coreF c).isSome := bool_of_iff (by
    rw [core_iff hv2, core_iff hv, hpl]; exact names_in hp.2 hb)
  unfold coE
  rw [hv, hv2, e]
/-- The Shapley payments. -/
theorem shapn1_0 (c0 c1 : Int) : ∀ i, i < 1 → (shapL (namesL [c0, c1] 1 0) 1).getD ((i + 0) % 1) 0 = (shapL [c0, c1] 1).getD i 0 := by
  have e : namesL [c0, c1] 1 0 = [c0, c1] := by kernel_rfl
  rw [e]
  unfold shapL
  rw [sums1, F1]
  intro i hi
  match i, hi with
  | 0, _ =>
    simp only [show (0 + 0) % 1 = 0 from rfl, List.map_cons, List.map_nil, List.getD_cons_zero]
theorem shapn2_0 (c0 c1 c2 c3 : Int) : ∀ i, i < 2 → (shapL (namesL [c0, c1, c2, c3] 2 0) 2).getD ((i + 0) % 2) 0 = (shapL [c0, c1, c2, c3] 2).getD i 0 := by
  have e : namesL [c0, c1, c2, c3] 2 0 = [c0, c1, c2, c3] := by kernel_rfl
  rw [e]
  unfold shapL
  rw [sums2, F2]
  intro i hi
  match i, hi with
  | 0, _ =>
    simp only [show (0 + 0) % 2 = 0 from rfl, List.map_cons, List.map_nil, List.getD_cons_zero]
  | 1, _ =>
    simp only [show (1 + 0) % 2 = 1 from rfl, List.map_cons, List.map_nil, List.getD_cons_zero, List.getD_cons_succ]
theorem shapn2_1 (c0 c1 c2 c3 : Int) : ∀ i, i < 2 → (shapL (namesL [c0, c1, c2, c3] 2 1) 2).getD ((i + 1) % 2) 0 = (shapL [c0, c1, c2, c3] 2).getD i 0 := by
  have e : namesL [c0, c1, c2, c3] 2 1 = [c0, c2, c1, c3] := by kernel_rfl
  rw [e]
  unfold shapL
  rw [sums2, sums2, F2]
  intro i hi
  match i, hi with
  | 0, _ =>
    simp only [show (0 + 1) % 2 = 1 from rfl, List.map_cons, List.map_nil, List.getD_cons_zero, List.getD_cons_succ]
    exact congrArg (fun z => Rat.divInt z _) (by omega)
  | 1, _ =>
    simp only [show (1 + 1) % 2 = 0 from rfl, List.map_cons, List.map_nil, List.getD_cons_zero, List.getD_cons_succ]
    exact congrArg (fun z => Rat.divInt z _) (by omega)
theorem shapn3_0 (c0 c1 c2 c3 c4 c5 c6 c7 : Int) : ∀ i, i < 3 → (shapL (namesL [c0, c1, c2, c3, c4, c5, c6, c7] 3 0) 3).getD ((i + 0) % 3) 0 = (shapL [c0, c1, c2, c3, c4, c5, c6, c7] 3).getD i 0 := by
  have e : namesL [c0, c1, c2, c3, c4, c5, c6, c7] 3 0 = [c0, c1, c2, c3, c4, c5, c6, c7] := by kernel_rfl
  rw [e]
  unfold shapL
  rw [sums3, F3]
  intro i hi
  match i, hi with
  | 0, _ =>
    simp only [show (0 + 0) % 3 = 0 from rfl, List.map_cons, List.map_nil, List.getD_cons_zero]
  | 1, _ =>
    simp only [show (1 + 0) % 3 = 1 from rfl, List.map_cons, List.map_nil, List.getD_cons_zero, List.getD_cons_succ]
  | 2, _ =>
    simp only [show (2 + 0) % 3 = 2 from rfl, List.map_cons, List.map_nil, List.getD_cons_zero, List.getD_cons_succ]
theorem shapn3_1 (c0 c1 c2 c3 c4 c5 c6 c7 : Int) : ∀ i, i < 3 → (shapL (namesL [c0, c1, c2, c3, c4, c5, c6, c7] 3 1) 3).getD ((i + 1) % 3) 0 = (shapL [c0, c1, c2, c3, c4, c5, c6, c7] 3).getD i 0 := by
  have e : namesL [c0, c1, c2, c3, c4, c5, c6, c7] 3 1 = [c0, c4, c1, c5, c2, c6, c3, c7] := by kernel_rfl
  rw [e]
  unfold shapL
  rw [sums3, sums3, F3]
  intro i hi
  match i, hi with
  | 0, _ =>
    simp only [show (0 + 1) % 3 = 1 from rfl, List.map_cons, List.map_nil, List.getD_cons_zero, List.getD_cons_succ]
    exact congrArg (fun z => Rat.divInt z _) (by omega)
  | 1, _ =>
    simp only [show (1 + 1) % 3 = 2 from rfl, List.map_cons, List.map_nil, List.getD_cons_zero, List.getD_cons_succ]
    exact congrArg (fun z => Rat.divInt z _) (by omega)
  | 2, _ =>
    simp only [show (2 + 1) % 3 = 0 from rfl, List.map_cons, List.map_nil, List.getD_cons_zero, List.getD_cons_succ]
    exact congrArg (fun z => Rat.divInt z _) (by omega)
theorem shapn3_2 (c0 c1 c2 c3 c4 c5 c6 c7 : Int) : ∀ i, i < 3 → (shapL (namesL [c0, c1, c2, c3, c4, c5, c6, c7] 3 2) 3).getD ((i + 2) % 3) 0 = (shapL [c0, c1, c2, c3, c4, c5, c6, c7] 3).getD i 0 := by
  have e : namesL [c0, c1, c2, c3, c4, c5, c6, c7] 3 2 = [c0, c2, c4, c6, c1, c3, c5, c7] := by kernel_rfl
  rw [e]
  unfold shapL
  rw [sums3, sums3, F3]
  intro i hi
  match i, hi with
  | 0, _ =>
    simp only [show (0 + 2) % 3 = 2 from rfl, List.map_cons, List.map_nil, List.getD_cons_zero, List.getD_cons_succ]
    exact congrArg (fun z => Rat.divInt z _) (by omega)
  | 1, _ =>
    simp only [show (1 + 2) % 3 = 0 from rfl, List.map_cons, List.map_nil, List.getD_cons_zero, List.getD_cons_succ]
    exact congrArg (fun z => Rat.divInt z _) (by omega)
  | 2, _ =>
    simp only [show (2 + 2) % 3 = 1 from rfl, List.map_cons, List.map_nil, List.getD_cons_zero, List.getD_cons_succ]
    exact congrArg (fun z => Rat.divInt z _) (by omega)
theorem shapn4_0 (c0 c1 c2 c3 c4 c5 c6 c7 c8 c9 c10 c11 c12 c13 c14 c15 : Int) : ∀ i, i < 4 → (shapL (namesL [c0, c1, c2, c3, c4, c5, c6, c7, c8, c9, c10, c11, c12, c13, c14, c15] 4 0) 4).getD ((i + 0) % 4) 0 = (shapL [c0, c1, c2, c3, c4, c5, c6, c7, c8, c9, c10, c11, c12, c13, c14, c15] 4).getD i 0 := by
  have e : namesL [c0, c1, c2, c3, c4, c5, c6, c7, c8, c9, c10, c11, c12, c13, c14, c15] 4 0 = [c0, c1, c2, c3, c4, c5, c6, c7, c8, c9, c10, c11, c12, c13, c14, c15] := by kernel_rfl
  rw [e]
  unfold shapL
  rw [sums4, F4]
  intro i hi
  match i, hi with
  | 0, _ =>
    simp only [show (0 + 0) % 4 = 0 from rfl, List.map_cons, List.map_nil, List.getD_cons_zero]
  | 1, _ =>
    simp only [show (1 + 0) % 4 = 1 from rfl, List.map_cons, List.map_nil, List.getD_cons_zero, List.getD_cons_succ]
  | 2, _ =>
    simp only [show (2 + 0) % 4 = 2 from rfl, List.map_cons, List.map_nil, List.getD_cons_zero, List.getD_cons_succ]
  | 3, _ =>
    simp only [show (3 + 0) % 4 = 3 from rfl, List.map_cons, List.map_nil, List.getD_cons_zero, List.getD_cons_succ]
theorem shapn4_1 (c0 c1 c2 c3 c4 c5 c6 c7 c8 c9 c10 c11 c12 c13 c14 c15 : Int) : ∀ i, i < 4 → (shapL (namesL [c0, c1, c2, c3, c4, c5, c6, c7, c8, c9, c10, c11, c12, c13, c14, c15] 4 1) 4).getD ((i + 1) % 4) 0 = (shapL [c0, c1, c2, c3, c4, c5, c6, c7, c8, c9, c10, c11, c12, c13, c14, c15] 4).getD i 0 := by
  have e : namesL [c0, c1, c2, c3, c4, c5, c6, c7, c8, c9, c10, c11, c12, c13, c14, c15] 4 1 = [c0, c8, c1, c9, c2, c10, c3, c11, c4, c12, c5, c13, c6, c14, c7, c15] := by kernel_rfl
  rw [e]
  unfold shapL
  rw [sums4, sums4, F4]
  intro i hi
  match i, hi with
  | 0, _ =>
    simp only [show (0 + 1) % 4 = 1 from rfl, List.map_cons, List.map_nil, List.getD_cons_zero, List.getD_cons_succ]
    exact congrArg (fun z => Rat.divInt z _) (by omega)
  | 1, _ =>
    simp only [show (1 + 1) % 4 = 2 from rfl, List.map_cons, List.map_nil, List.getD_cons_zero, List.getD_cons_succ]
    exact congrArg (fun z => Rat.divInt z _) (by omega)
  | 2, _ =>
    simp only [show (2 + 1) % 4 = 3 from rfl, List.map_cons, List.map_nil, List.getD_cons_zero, List.getD_cons_succ]
    exact congrArg (fun z => Rat.divInt z _) (by omega)
  | 3, _ =>
    simp only [show (3 + 1) % 4 = 0 from rfl, List.map_cons, List.map_nil, List.getD_cons_zero, List.getD_cons_succ]
    exact congrArg (fun z => Rat.divInt z _) (by omega)
theorem shapn4_2 (c0 c1 c2 c3 c4 c5 c6 c7 c8 c9 c10 c11 c12 c13 c14 c15 : Int) : ∀ i, i < 4 → (shapL (namesL [c0, c1, c2, c3, c4, c5, c6, c7, c8, c9, c10, c11, c12, c13, c14, c15] 4 2) 4).getD ((i + 2) % 4) 0 = (shapL [c0, c1, c2, c3, c4, c5, c6, c7, c8, c9, c10, c11, c12, c13, c14, c15] 4).getD i 0 := by
  have e : namesL [c0, c1, c2, c3, c4, c5, c6, c7, c8, c9, c10, c11, c12, c13, c14, c15] 4 2 = [c0, c4, c8, c12, c1, c5, c9, c13, c2, c6, c10, c14, c3, c7, c11, c15] := by kernel_rfl
  rw [e]
  unfold shapL
  rw [sums4, sums4, F4]
  intro i hi
  match i, hi with
  | 0, _ =>
    simp only [show (0 + 2) % 4 = 2 from rfl, List.map_cons, List.map_nil, List.getD_cons_zero, List.getD_cons_succ]
    exact congrArg (fun z => Rat.divInt z _) (by omega)
  | 1, _ =>
    simp only [show (1 + 2) % 4 = 3 from rfl, List.map_cons, List.map_nil, List.getD_cons_zero, List.getD_cons_succ]
    exact congrArg (fun z => Rat.divInt z _) (by omega)
  | 2, _ =>
    simp only [show (2 + 2) % 4 = 0 from rfl, List.map_cons, List.map_nil, List.getD_cons_zero, List.getD_cons_succ]
    exact congrArg (fun z => Rat.divInt z _) (by omega)
  | 3, _ =>
    simp only [show (3 + 2) % 4 = 1 from rfl, List.map_cons, List.map_nil, List.getD_cons_zero, List.getD_cons_succ]
    exact congrArg (fun z => Rat.divInt z _) (by omega)
theorem shapn4_3 (c0 c1 c2 c3 c4 c5 c6 c7 c8 c9 c10 c11 c12 c13 c14 c15 : Int) : ∀ i, i < 4 → (shapL (namesL [c0, c1, c2, c3, c4, c5, c6, c7, c8, c9, c10, c11, c12, c13, c14, c15] 4 3) 4).getD ((i + 3) % 4) 0 = (shapL [c0, c1, c2, c3, c4, c5, c6, c7, c8, c9, c10, c11, c12, c13, c14, c15] 4).getD i 0 := by
  have e : namesL [c0, c1, c2, c3, c4, c5, c6, c7, c8, c9, c10, c11, c12, c13, c14, c15] 4 3 = [c0, c2, c4, c6, c8, c10, c12, c14, c1, c3, c5, c7, c9, c11, c13, c15] := by kernel_rfl
  rw [e]
  unfold shapL
  rw [sums4, sums4, F4]
  intro i hi
  match i, hi with
  | 0, _ =>
    simp only [show (0 + 3) % 4 = 3 from rfl, List.map_cons, List.map_nil, List.getD_cons_zero, List.getD_cons_succ]
    exact congrArg (fun z => Rat.divInt z _) (by omega)
  | 1, _ =>
    simp only [show (1 + 3) % 4 = 0 from rfl, List.map_cons, List.map_nil, List.getD_cons_zero, List.getD_cons_succ]
    exact congrArg (fun z => Rat.divInt z _) (by omega)
  | 2, _ =>
    simp only [show (2 + 3) % 4 = 1 from rfl, List.map_cons, List.map_nil, List.getD_cons_zero, List.getD_cons_succ]
    exact congrArg (fun z => Rat.divInt z _) (by omega)
  | 3, _ =>
    simp only [show (3 + 3) % 4 = 2 from rfl, List.map_cons, List.map_nil, List.getD_cons_zero, List.getD_cons_succ]
    exact congrArg (fun z => Rat.divInt z _) (by omega)
theorem shap_names {c : List Int} {n b : Nat} (hn : 1 ≤ n ∧ n ≤ 4) (hb : b < n) (hc : c.length = 2 ^ n) : ∀ i, i < n → (shapL (namesL c n b) n).getD ((i + b) % n) 0 = (shapL c n).getD i 0 := by
  match n, b, hn, hb with
  | 1, 0, _, _ =>
    obtain ⟨c0, c1, rfl⟩ := list2 c hc
    exact shapn1_0 _ _
  | 2, 0, _, _ =>
    obtain ⟨c0, c1, c2, c3, rfl⟩ := list4 c hc
    exact shapn2_0 _ _ _ _
  | 2, 1, _, _ =>
    obtain ⟨c0, c1, c2, c3, rfl⟩ := list4 c hc
    exact shapn2_1 _ _ _ _
  | 3, 0, _, _ =>
    obtain ⟨c0, c1, c2, c3, c4, c5, c6, c7, rfl⟩ := list8 c hc
    exact shapn3_0 _ _ _ _ _ _ _ _
  | 3, 1, _, _ =>
    obtain ⟨c0, c1, c2, c3, c4, c5, c6, c7, rfl⟩ := list8 c hc
    exact shapn3_1 _ _ _ _ _ _ _ _
  | 3, 2, _, _ =>
    obtain ⟨c0, c1, c2, c3, c4, c5, c6, c7, rfl⟩ := list8 c hc
    exact shapn3_2 _ _ _ _ _ _ _ _
  | 4, 0, _, _ =>
    obtain ⟨c0, c1, c2, c3, c4, c5, c6, c7, c8, c9, c10, c11, c12, c13, c14, c15, rfl⟩ := list16 c hc
    exact shapn4_0 _ _ _ _ _ _ _ _ _ _ _ _ _ _ _ _
  | 4, 1, _, _ =>
    obtain ⟨c0, c1, c2, c3, c4, c5, c6, c7, c8, c9, c10, c11, c12, c13, c14, c15, rfl⟩ := list16 c hc
    exact shapn4_1 _ _ _ _ _ _ _ _ _ _ _ _ _ _ _ _
  | 4, 2, _, _ =>
    obtain ⟨c0, c1, c2, c3, c4, c5, c6, c7, c8, c9, c10, c11, c12, c13, c14, c15, rfl⟩ := list16 c hc
    exact shapn4_2 _ _ _ _ _ _ _ _ _ _ _ _ _ _ _ _
  | 4, 3, _, _ =>
    obtain ⟨c0, c1, c2, c3, c4, c5, c6, c7, c8, c9, c10, c11, c12, c13, c14, c15, rfl⟩ := list16 c hc
    exact shapn4_3 _ _ _ _ _ _ _ _ _ _ _ _ _ _ _ _

/- A block of numbers that are written one by one. -/

/-- The block of a row with some goods scaled. -/
def ScB (w : World) (g m cp : Nat) (xs : List Int) : Prop := ∃ cur, Blk w g 3 cur ∧ cur.size = cp ∧ cur.toList.take m = xs.map (Value.int .i64)
theorem ScB.lt {w : World} {g m cp : Nat} {xs : List Int} (h : ScB w g m cp xs) : g < w.heap.size := by obtain ⟨cur, h, _⟩ := h; exact h.lt
theorem ScB.ints {w : World} {g m cp : Nat} {xs : List Int} (h : ScB w g m cp xs) : Ints w (some ⟨g, 0, none⟩) xs := by
  obtain ⟨cur, hB, _, ht⟩ := h
  intro i v hv
  rw [← ht] at hv
  have hv' : cur.toList[i]? = some v := by
    rw [List.getElem?_take] at hv
    split at hv
    · exact hv
    · cases hv
  exact hB.at_ i v hv'
theorem ScB.read {w : World} {g m cp : Nat} {xs : List Int} (h : ScB w g m cp xs) {k : Nat} {x : Int} (hx : xs[k]? = some x) : w.cell? ⟨g, k, none⟩ = some (.int .i64 x) := by
  obtain ⟨cur, hB, _, ht⟩ := h
  have hv : (cur.toList.take m)[k]? = some (.int .i64 x) := by rw [ht]; simp [hx]
  rw [List.getElem?_take] at hv
  split at hv
  · rw [hB.cell, ← Array.getElem?_toList]; exact hv
  · cases hv
theorem ScB.frozen {w : World} {g m cp : Nat} {xs : List Int} (h : ScB w g m cp xs) (k : Nat) : w.frozen? ⟨g, k, none⟩ = false := by obtain ⟨cur, hB, _⟩ := h; exact hB.frozen k
theorem ScB.set_ {w : World} {g m cp : Nat} {xs : List Int} (h : ScB w g m cp xs) (k : Nat) (y : Int) : ScB (w.setCell ⟨g, k, none⟩ (.int .i64 y)) g m cp (xs.set k y) := by
  obtain ⟨cur, hB, hs, ht⟩ := h
  refine ⟨_, hB.set_ k _, by simp [hs], ?_⟩
  rw [Array.toList_setIfInBounds, List.take_set, ht, List.map_set]
theorem idx_of (x : Int) {k : Int} (hk : 1 ≤ k) (hk2 : k ≤ 1000) : ∃ p : Nat, (p : Int) < k ∧ wrap64 ((IntKind.u64.wrap x).tmod k) = (p : Int) := by
  have h0 : 0 ≤ IntKind.u64.wrap x := by
    show 0 ≤ x % 2 ^ 64
    exact Int.emod_nonneg _ (by decide)
  have h1 := Int.tmod_nonneg k h0
  have h2 := Int.tmod_lt_of_pos (IntKind.u64.wrap x) (show (0 : Int) < k by omega)
  generalize (IntKind.u64.wrap x).tmod k = r at *
  refine ⟨r.toNat, by omega, ?_⟩
  unfold wrap64
  go_num
theorem ScB.of_own {w : World} {base g n c : Nat} {xs : List Int} (h : w.ownsRow base 3 1 (.slice (some ⟨g, 0, none⟩) n c) n (xs.map (Value.int .i64))) : ScB w g n c xs := by
  rcases h.2 with ⟨h0, _⟩ | ⟨g, cap', cur, hv, _, hg, _, _, hsz, ht⟩
  · cases h0
  · injection hv with e1 _ e3
    injection e1 with e1
    injection e1 with e1
    subst e1; subst e3
    exact ⟨cur, hg, by simpa using hsz, by simpa using ht⟩
theorem ScB.below {w w' : World} {g m cp : Nat} {xs : List Int} (h : ScB w g m cp xs) (hb : Below w.heap.size w w') : ScB w' g m cp xs := by
  obtain ⟨cur, hB, hs, ht⟩ := h
  exact ⟨cur, (hb.block g hB.lt).trans hB, hs, ht⟩

/- GamesConvex returns true for every costs and order: the walk. -/

def shapQ (c : List Int) : List Rat := if valC c then shapL c (plr c) else []
def shapE (c : List Int) : Int := if valC c then 0 else 2
theorem shapley2_any (A : Option Addr) (n cap : Nat) (c : List Int) (w : World) (hl : c.length = n) (hm : n ≤ 9223372036854775807) (h : Ints w A c) :
    Calls Try.prog 18 #[.slice A n cap] w fun e w' => ∃ A' k c', e = .returned (.tuple #[.slice A' k c', .int .i64 (shapE c)]) ∧ (shapQ c).length = k ∧ Fracs w' A' (shapQ c) ∧ Below w.heap.size w w' := by
  refine (shapley_any A n cap c w hl hm h).mono ?_
  rintro e w' ⟨A', k, c', ec, rfl, ⟨hv, rfl, rfl, hown⟩ | ⟨hv, rfl, rfl, rfl, rfl⟩, hb⟩
  · have e1 : shapQ c = shapL c (plr c) := by simp [shapQ, hv]
    refine ⟨A', plr c, c', by simp [shapE, hv], by rw [e1]; simp [shapL, sumsL, addAll_length], ?_, hb⟩
    rw [e1]
    exact At.of_own hown
  · refine ⟨none, 0, 0, by simp [shapE, hv], by simp [shapQ, hv], ?_, hb⟩
    have e1 : shapQ c = [] := by simp [shapQ, hv]
    rw [e1]
    intro i v hv
    simp [fcells] at hv
theorem shapQ_take (c : List Int) : shapQ (c.take 18) = shapQ c := by
  cases hv : valC c
  · simp [shapQ, hv, valC_take]
  · rw [take18 (by have := (valC_iff.1 hv).1; omega)]
theorem shapE_take (c : List Int) : shapE (c.take 18) = shapE c := by unfold shapE; rw [valC_take]
theorem small_bd {qs : List Rat} (h : ∀ q ∈ qs, smallQ q) : ∀ p ∈ qs.map pr, (-9223372036854775808 ≤ p.1 ∧ p.1 ≤ 9223372036854775807) ∧ -9223372036854775808 ≤ p.2 ∧ p.2 ≤ 9223372036854775807 := by
  intro p hp
  obtain ⟨q, hq, rfl⟩ := List.mem_map.1 hp
  have := h q hq
  unfold smallQ at this
  have := den_pos q
  unfold pr
  dsimp only
  omega

set_option maxRecDepth 100000 in
set_option maxHeartbeats 4000000 in
theorem law_convex (A : Option Addr) (n cap : Nat) (c : List Int) (O : Option Addr) (m capo : Nat) (l : List Int) (w : World)
    (hl : c.length = n) (hcp : n ≤ cap) (hm : cap ≤ 9223372036854775807) (hc : Ints w A c) (_ : ∀ x ∈ c, -9223372036854775808 ≤ x ∧ x ≤ 9223372036854775807)
    (hlo : l.length = m) (hmo : m ≤ capo) (hco : capo ≤ 9223372036854775807) (ho : Ints w O l) (_ : ∀ x ∈ l, -9223372036854775808 ≤ x ∧ x ≤ 9223372036854775807) :
    Calls Try.prog 15 #[.slice A n cap, .slice O m capo] w fun e w' => e = .returned (.bool true) ∧ Below w.heap.size w w' := by
  have H := Lib.hid (And.intro hl (And.intro hc (And.intro hlo ho)))
  clear hl hc hlo ho
  go_enter Try.func15, Try.ntmps15
  go_wp2_with fail
  refine (list_any A n cap c _ H.out.1 hcp hm H.out.2.1).mono ?_
  rintro e w1 ⟨A1, c1, rfl, hown, hb⟩
  have hI : Ints w1 A1 (c.take 18) := At.of_own hown
  have hlt : (c.take 18).length = min n 18 := by rw [List.length_take, H.out.1]; omega
  have H1 := Lib.hid (And.intro hI (And.intro hb hlt))
  clear hown hb hI hlt
  go_wp2_with fail
  refine (concave2_any A1 (min n 18) c1 (c.take 18) _ H1.out.2.2 (by omega) H1.out.1).mono ?_
  rintro e w2 ⟨rfl, hb2⟩
  rw [concA_take]
  have HB2 := Lib.hid (H1.out.2.1.trans (hb2.mono H1.out.2.1.size))
  clear hb2
  cases hv : valC c
  · have HG : Hid (concA c = (0, 0, 2)) := Lib.hid (by simp [concA, hv])
    rw [HG.out]
    clear hv
    dsimp only
    go_wp2_with fail
    refine (awake_any _).mono ?_
    rintro e w3 ⟨rfl, hb3⟩
    have HB3 := Lib.hid (HB2.out.trans (hb3.mono HB2.out.size))
    clear hb3
    go_wp2_with fail
    go_ret
    exact ⟨rfl, HB3.out⟩
  · have hp := valC_pow hv
    have hcb := (valC_iff.1 hv).2.2
    have hlen := (valC_iff.1 hv).1
    have hn16 : 2 ≤ n ∧ n ≤ 16 := by have := H.out.1; omega
    obtain ⟨ad, rfl, _, hc0⟩ := H.out.2.1.some_ (by omega)
    have HV := Lib.hid (And.intro hv (And.intro hp hcb))
    rcases concL_cases c with ⟨a, b, hab, ha, hb, hbad⟩ | ⟨hab, hno⟩
    · have HG : Hid (concA c = (a, b, 0)) := Lib.hid (by simp [concA, hv, hab])
      rw [HG.out]
      rw [H.out.1] at ha hb
      have hor : a ||| b < n := by
        rw [← H.out.1, hp.1]; exact Nat.or_lt_two_pow (by rw [← hp.1, H.out.1]; exact ha) (by rw [← hp.1, H.out.1]; exact hb)
      have hand : a &&& b < n := and_lt ha
      obtain ⟨s1, hs1⟩ : ∃ s, s = a ||| b := ⟨_, rfl⟩
      obtain ⟨s2, hs2⟩ : ∃ s, s = a &&& b := ⟨_, rfl⟩
      have e1 := or_nat a b (by omega) (by omega)
      have e2 := and_nat a b (by omega) (by omega)
      rw [← hs1] at e1 hor
      rw [← hs2] at e2 hand
      have hlc := H.out.1
      obtain ⟨y1, hy1⟩ : ∃ y, c[s1]? = some y := ⟨_, List.getElem?_eq_getElem (by omega)⟩
      obtain ⟨y2, hy2⟩ : ∃ y, c[s2]? = some y := ⟨_, List.getElem?_eq_getElem (by omega)⟩
      obtain ⟨y3, hy3⟩ : ∃ y, c[a]? = some y := ⟨_, List.getElem?_eq_getElem (by omega)⟩
      obtain ⟨y4, hy4⟩ : ∃ y, c[b]? = some y := ⟨_, List.getElem?_eq_getElem (by omega)⟩
      have b1 := hcb y1 (List.mem_of_getElem? hy1)
      have b2 := hcb y2 (List.mem_of_getElem? hy2)
      have b3 := hcb y3 (List.mem_of_getElem? hy3)
      have b4 := hcb y4 (List.mem_of_getElem? hy4)
      have c1' : ∀ s : Desc w2, s.val.cell? (ad.add s1) = some (.int .i64 y1) := fun s => s.cell ((HB2.out.cell (lt_of_cell (hc0 _ _ hy1))).trans (hc0 _ _ hy1))
      have c2' : ∀ s : Desc w2, s.val.cell? (ad.add s2) = some (.int .i64 y2) := fun s => s.cell ((HB2.out.cell (lt_of_cell (hc0 _ _ hy2))).trans (hc0 _ _ hy2))
      have c3' : ∀ s : Desc w2, s.val.cell? (ad.add a) = some (.int .i64 y3) := fun s => s.cell ((HB2.out.cell (lt_of_cell (hc0 _ _ hy3))).trans (hc0 _ _ hy3))
      have c4' : ∀ s : Desc w2, s.val.cell? (ad.add b) = some (.int .i64 y4) := fun s => s.cell ((HB2.out.cell (lt_of_cell (hc0 _ _ hy4))).trans (hc0 _ _ hy4))
      have hlt : y3 + y4 < y1 + y2 := by
        unfold badB at hbad
        rw [← hs1, ← hs2, List.getD_eq_getElem?_getD, List.getD_eq_getElem?_getD, List.getD_eq_getElem?_getD, List.getD_eq_getElem?_getD, hy1, hy2, hy3, hy4] at hbad
        exact of_decide_eq_true hbad
      have v1 : IntKind.i64.wrap (y1 + y2) = y1 + y2 := IntWalk.i64_in _ (by omega)
      have v2 : IntKind.i64.wrap (y3 + y4) = y3 + y4 := IntWalk.i64_in _ (by omega)
      have hd : decide (y3 + y4 < y1 + y2) = true := by simpa using hlt
      have la : ¬ (a : Int) < 0 := by omega
      have lb : ¬ (b : Int) < 0 := by omega
      have lga : decide ((a : Int) ≥ (n : Int)) = false := by simp; omega
      have lgb : decide ((b : Int) ≥ (n : Int)) = false := by simp; omega
      have HAW : Hid (∀ s : Desc w2, Calls Try.prog 21 #[] s.val fun e w'' => e = .returned (.bool true) ∧ ∃ s' : Desc w2, w'' = s'.val) := Lib.hid fun s => Calls.desc_of (awake_any _)
      clear hbad hy1 hy2 hy3 hy4 hs1 hs2 hv hc0 hp hcb hlen hab hlc
      dsimp only
      go_wp2_with fail
      refine wp_region_desc (by kernel_rfl) (by kernel_rfl) ?_
      repeat (go_big_quiet_step (first | (go_at_call 21; exact HAW.out _)))
      refine wpQuiet_nil ?_
      rintro _ ⟨sd, rfl⟩
      have HBE := Lib.hid (HB2.out.trans (sd.below.mono HB2.out.size))
      clear c1' c2' c3' c4'
      go_wp2_with fail
      go_ret
      exact ⟨rfl, HBE.out⟩
    · have HC := Lib.hid (conc_of hno)
      have HG : Hid (concA c = (0, 0, 4)) := Lib.hid (by simp [concA, hv, hab])
      rw [HG.out]
      clear hab hno hc0 hcb hlen
      dsimp only
      go_wp2_with fail
      refine (list_any (some ad) n cap c _ H.out.1 hcp hm (H.out.2.1.below HB2.out)).mono ?_
      rintro e w3 ⟨A3, c3, rfl, hown, hb⟩
      have hI : Ints w3 A3 (c.take 18) := At.of_own hown
      have H3 := Lib.hid (And.intro hI (HB2.out.trans (hb.mono HB2.out.size)))
      clear hown hb hI
      go_wp2_with fail
      refine (shapley2_any A3 (min n 18) c3 (c.take 18) _ H1.out.2.2 (by omega) H3.out.1).mono ?_
      rintro e w4 ⟨A4, k4, c4, rfl, hk, hF, hb⟩
      rw [shapQ_take] at hk hF
      have hsq : shapQ c = shapL c (plr c) := by simp [shapQ, hv]
      have hse : shapE (c.take 18) = 0 := by rw [shapE_take]; simp [shapE, hv]
      have hcs := shap_cc hv HC.out
      rw [hse]
      rw [hsq] at hk hF
      have hk4 : k4 ≤ 4 := by
        rw [← hk]; simp [shapL, sumsL, addAll_length]; exact hp.2.2
      have H4 := Lib.hid (And.intro hk (And.intro hF (And.intro (H3.out.2.trans (hb.mono H3.out.2.size)) (And.intro hcs (small_bd (shapL_small HV.out.2.2 hp.2.2))))))
      clear hk hF hb hsq hse hcs
      go_wp2_with fail
      refine (list_any (some ad) n cap c _ H.out.1 hcp hm (H.out.2.1.below H4.out.2.2.1)).mono ?_
      rintro e w5 ⟨A5, c5, rfl, hown, hb⟩
      have hI : Ints w5 A5 (c.take 18) := At.of_own hown
      have H5 := Lib.hid (And.intro hI (And.intro (H4.out.2.2.1.trans (hb.mono H4.out.2.2.1.size)) (H4.out.2.1.below hb)))
      clear hown hb hI
      go_wp2_with fail
      refine (checkcore_any A5 (min n 18) c5 A4 k4 c4 (c.take 18) ((shapL c (plr c)).map pr) _ H1.out.2.2 (by omega) (by rw [List.length_map]; exact H4.out.1) (by omega) H5.out.1 H5.out.2.2.prs H4.out.2.2.2.2).mono ?_
      rintro e w6 ⟨rfl, hb6⟩
      have hce : ccE c = 0 := by simp [ccE, hv]
      rw [ccB_take18, ccE_take, H4.out.2.2.2.1.1, hce]
      have HCE := Lib.hid hce
      have HB6 := Lib.hid (H5.out.2.1.trans (hb6.mono H5.out.2.1.size))
      clear hb6 hce
      go_wp2_with fail
      refine (list_any (some ad) n cap c _ H.out.1 hcp hm (H.out.2.1.below HB6.out)).mono ?_
      rintro e w7 ⟨A7, c7, rfl, hown, hb⟩
      have hI : Ints w7 A7 (c.take 18) := At.of_own hown
      have H7 := Lib.hid (And.intro hI (HB6.out.trans (hb.mono HB6.out.size)))
      clear hown hb hI
      go_wp2_with fail
      refine (refute2_any A7 (min n 18) c7 (c.take 18) _ H1.out.2.2 (by omega) H7.out.1).mono ?_
      rintro e w8 ⟨A8, k8, c8, rfl, _, _, _, _, hb8⟩
      have hrf : rfE (c.take 18) = 4 := by rw [rfE_take]; simp [rfE, hv, H4.out.2.2.2.1.2]
      rw [hrf]
      have HB8 := Lib.hid (H7.out.2.trans (hb8.mono H7.out.2.size))
      clear hb8 hrf
      go_wp2_with fail
      refine (list_any (some ad) n cap c _ H.out.1 hcp hm (H.out.2.1.below HB8.out)).mono ?_
      rintro e w9 ⟨A9, c9, rfl, hown, hb⟩
      have hI : Ints w9 A9 (c.take 18) := At.of_own hown
      have H9 := Lib.hid (And.intro hI (HB8.out.trans (hb.mono HB8.out.size)))
      clear hown hb hI
      go_wp2_with fail
      refine (list_any O m capo l _ H.out.2.2.1 hmo hco (H.out.2.2.2.below H9.out.2)).mono ?_
      rintro e w10 ⟨A10, c10, rfl, hown, hb⟩
      have hI : Ints w10 A10 (l.take 18) := At.of_own hown
      have hlt : (l.take 18).length = min m 18 := by rw [List.length_take, H.out.2.2.1]; omega
      have H10 := Lib.hid (And.intro hI (And.intro (H9.out.2.trans (hb.mono H9.out.2.size)) (And.intro hlt (H9.out.1.below hb))))
      clear hown hb hI hlt
      go_wp2_with fail
      refine (join2_any A9 (min n 18) c9 A10 (min m 18) c10 c l _ H1.out.2.2 H10.out.2.2.1 H10.out.2.2.2 H10.out.1).mono ?_
      rintro e w11 ⟨A11, k11, c11, rfl, hk, hJ, hb⟩
      cases hor : ordR (plr c) l
      · have hje : joinE c l = 2 := by simp [joinE, hv, hor]
        have H11 := Lib.hid (H10.out.2.1.trans (hb.mono H10.out.2.1.size))
        rw [hje]
        clear hk hJ hb hje hor hv
        go_wp2_with fail
        refine (awake_any _).mono ?_
        rintro e w12 ⟨rfl, hb12⟩
        have HB12 := Lib.hid (H11.out.trans (hb12.mono H11.out.size))
        clear hb12
        go_wp2_with fail
        go_ret
        exact ⟨rfl, HB12.out⟩
      · have hje : joinE c l = 0 := by simp [joinE, hv, hor]
        rw [hv, hor] at hk
        have hk' : k11 = plr c := hk
        have hjc := joinA_core hv HC.out hor
        have hk4' : k11 ≤ 4 := by rw [hk']; exact hp.2.2
        have H11 := Lib.hid (And.intro (H10.out.2.1.trans (hb.mono H10.out.2.1.size)) (And.intro hJ (And.intro hjc hk')))
        rw [hje]
        clear hk hJ hb hje hor hv hk' hjc hp
        go_wp2_with fail
        have hst := H11.out.1
        go_loopw [15, 128] (fun ov iv wr => ∃ (j : Nat) (B : Option Addr) (bc : Nat), j ≤ k11 ∧ iv = .int .i64 j ∧ ov = .slice B j bc ∧ wr.ownsRow w11.heap.size 31 2 (.slice B j bc) j (fcells (wholes ((joinA c l).take j))) ∧ Below w11.heap.size w11 wr) (fun _ iv _ => k11 - (intOf iv).toNat)
        case atStart => exact ⟨0, none, 0, Nat.zero_le _, rfl, rfl, World.ownsRow_nil _ _ _ _, Below.refl _ _⟩
        case round =>
          obtain ⟨j, B, bc, hj, rfl, rfl, hown, hbl⟩ := hrel
          have HR := Lib.hid (And.intro hown hbl)
          clear hown
          by_cases hlt : j < k11
          · have hjl : (joinA c l).length = k11 := by rw [H11.out.2.2.1.1, H11.out.2.2.2]
            obtain ⟨aj, rfl, _, hcj⟩ := H11.out.2.1.some_ (by omega)
            obtain ⟨y, hy⟩ : ∃ y, (joinA c l)[j]? = some y := ⟨_, List.getElem?_eq_getElem (by omega)⟩
            have g1 := (hbl.cell (lt_of_cell (hcj _ _ hy))).trans (hcj _ _ hy)
            have HNEW : Hid (fcells (wholes ((joinA c l).take (j + 1))) = fcells (wholes ((joinA c l).take j)) ++ [.int .i64 y, .int .i64 1]) := Lib.hid (by
              rw [List.take_add_one, hy]
              unfold wholes
              rw [List.map_append]
              exact fcells_snoc _ _)
            clear hbl hst hcj hy hjl
            go_wp2_with fail
            refine (lwhole_any y _).mono ?_
            rintro e w12 ⟨rfl, hb12⟩
            rw [fr_int]
            have HR2 := Lib.hid (And.intro (own_below HR.out.1 hb12) (HR.out.2.trans (hb12.mono HR.out.2.size)))
            clear hb12
            have hw12 := HR2.out.2.size
            go_wp2_with (at_builtin; refine app1 sty_frac rfl _ _ rfl w11.heap.size B j bc _ #[.int .i64 y, .int .i64 1] rfl (by simp [Value.oneCell']) rfl HR2.out.1 rfl (by omega) hw12 ?_)
            intro A13 k13 w13 hown13 _ hbl13 hk131 hk132
            rw [← HNEW.out] at hown13
            have HR4 := Lib.hid (And.intro hown13 (HR2.out.2.trans hbl13))
            clear hown13 hbl13
            go_wp2_with fail
            go_roundw
            case rel => exact ⟨j + 1, A13, k13, by omega, by go_num, rfl, HR4.out.1, HR4.out.2⟩
            case measure => simp [intOf]; omega
          · obtain rfl : j = k11 := by omega
            have hjl : (joinA c l).length = j := by rw [H11.out.2.2.1.1, H11.out.2.2.2]
            have hF : Fracs wr B (wholes (joinA c l)) := by
              have := At.of_own HR.out.1
              rw [List.take_of_length_le (by omega)] at this
              exact this
            have hsm : ∀ q ∈ wholes (joinA c l), smallQ q := by
              intro q hq
              obtain ⟨y, hy, rfl⟩ := List.mem_map.1 hq
              have := H11.out.2.2.1.2.2 y hy
              unfold smallQ
              rw [Rat.den_intCast, Rat.num_intCast]
              omega
            have HF := Lib.hid (And.intro hF (And.intro (small_bd hsm) (And.intro (H11.out.1.trans (hbl.mono H11.out.1.size)) hjl)))
            clear hF hsm hbl hst hjl
            go_wp2_with fail
            refine (list_any (some ad) n cap c _ H.out.1 hcp hm (H.out.2.1.below HF.out.2.2.1)).mono ?_
            rintro e w14 ⟨A14, c14, rfl, hown, hb⟩
            have hI : Ints w14 A14 (c.take 18) := At.of_own hown
            have H14 := Lib.hid (And.intro hI (And.intro (HF.out.2.2.1.trans (hb.mono HF.out.2.2.1.size)) (HF.out.1.below hb)))
            clear hown hb hI
            go_wp2_with fail
            refine (checkcore_any A14 (min n 18) c14 B j bc (c.take 18) ((wholes (joinA c l)).map pr) _ H1.out.2.2 (by omega) (by rw [List.length_map]; unfold wholes; rw [List.length_map]; exact HF.out.2.2.2) (by omega) H14.out.1 H14.out.2.2.prs HF.out.2.1).mono ?_
            rintro e w15 ⟨rfl, hb15⟩
            rw [ccB_take18, ccE_take, H11.out.2.2.1.2.1, HCE.out]
            have HB15 := Lib.hid (H14.out.2.1.trans (hb15.mono H14.out.2.1.size))
            clear hb15
            go_wp2_with fail
            refine (awake_any _).mono ?_
            rintro e w16 ⟨rfl, hb16⟩
            have HB16 := Lib.hid (HB15.out.trans (hb16.mono HB15.out.size))
            clear hb16
            go_wp2_with fail
            go_ret
            exact ⟨rfl, HB16.out⟩

/- A small fraction is in lowest terms, as Lowest sees it. -/

theorem low_small {q : Rat} (h : smallQ q) : lowB q.num (q.den : Int) = true := by
  obtain ⟨h1, h2, h3⟩ := h
  have := den_pos q
  simp only [lowB, rat_lowest, Bool.and_eq_true, decide_eq_true_eq]
  exact ⟨⟨by omega, by omega⟩, rfl⟩


/- GamesTimes returns true for every costs and number: the walk. -/

theorem by6_of (x : Int) : ∃ c : Nat, (1 ≤ c ∧ c ≤ 6) ∧ wrap64 (1 + wrap64 ((IntKind.u64.wrap x).tmod 6)) = (c : Int) := by
  obtain ⟨p, hp, e⟩ := idx_of x (k := 6) (by omega) (by omega)
  rw [e]
  clear e
  have hr : 1 ≤ 1 + (p : Int) ∧ 1 + (p : Int) ≤ 6 := by omega
  refine ⟨1 + p, by omega, ?_⟩
  rw [show ((1 + p : Nat) : Int) = 1 + (p : Int) from by omega]
  generalize 1 + (p : Int) = r at *
  unfold wrap64
  go_num
theorem shapQ_ok {c : List Int} (hv : valC c = true) : shapQ c = shapL c (plr c) := by simp [shapQ, hv]
theorem mul_bds {q : Rat} {k : Nat} (h : smallQ q) (hk : k ≤ 6) : -4000000000000000000 ≤ q.num * ((k : Int) : Rat).num ∧ q.num * ((k : Int) : Rat).num ≤ 4000000000000000000 ∧ (q.den : Int) * (((k : Int) : Rat).den : Int) ≤ 4000000000000000000 := by
  unfold smallQ at h
  rw [Rat.num_intCast, Rat.den_intCast]
  have h1 := mul_bd (m := 100000) (a := q.num) (b := (k : Int)) (n := 6) (by omega) (by omega) (by omega) (by omega)
  omega

set_option maxRecDepth 100000 in
set_option maxHeartbeats 4000000 in
theorem law_times (A : Option Addr) (n cap : Nat) (c : List Int) (by_ : Int) (w : World)
    (hl : c.length = n) (hcp : n ≤ cap) (hm : cap ≤ 9223372036854775807) (hc : Ints w A c) (_ : ∀ x ∈ c, -9223372036854775808 ≤ x ∧ x ≤ 9223372036854775807) (_hby : -9223372036854775808 ≤ by_ ∧ by_ ≤ 9223372036854775807) :
    Calls Try.prog 12 #[.slice A n cap, .int .i64 by_] w fun e w' => e = .returned (.bool true) ∧ Below w.heap.size w w' := by
  have H := Lib.hid (And.intro hl hc)
  clear hl hc
  go_enter Try.func12, Try.ntmps12
  go_wp2_with fail
  refine (list_any A n cap c _ H.out.1 hcp hm H.out.2).mono ?_
  rintro e w1 ⟨A1, c1, rfl, hown, hb⟩
  have hI : Ints w1 A1 (c.take 18) := At.of_own hown
  have hlt : (c.take 18).length = min n 18 := by rw [List.length_take, H.out.1]; omega
  have H1 := Lib.hid (And.intro hI (And.intro hb hlt))
  clear hown hb hI hlt
  go_wp2_with fail
  refine (shapley2_any A1 (min n 18) c1 (c.take 18) _ H1.out.2.2 (by omega) H1.out.1).mono ?_
  rintro e w2 ⟨A2, k2, c2, rfl, hk, hF, hb⟩
  rw [shapQ_take] at hk hF
  rw [shapE_take]
  have H2 := Lib.hid (And.intro hk (And.intro hF (H1.out.2.1.trans (hb.mono H1.out.2.1.size))))
  clear hk hF hb
  go_wp2_with fail
  refine (rplayers_any A n cap c _ H.out.1 (by omega) (H.out.2.below H2.out.2.2)).mono ?_
  rintro e w' ⟨rfl, rfl⟩
  cases hv : valC c
  · have HG : Hid (shapE c = 2) := Lib.hid (by simp [shapE, hv])
    rw [HG.out, plr_bad hv]
    clear hv
    go_wp2_with fail
    refine (awake_any _).mono ?_
    rintro e w3 ⟨rfl, hb3⟩
    have HB3 := Lib.hid (H2.out.2.2.trans (hb3.mono H2.out.2.2.size))
    clear hb3
    go_wp2_with fail
    go_ret
    exact ⟨rfl, HB3.out⟩
  · have hp := valC_pow hv
    have hcb := (valC_iff.1 hv).2.2
    have hlen := (valC_iff.1 hv).1
    have hn16 : 2 ≤ n ∧ n ≤ 16 := by have := H.out.1; omega
    have hx18 : c.take 18 = c := take18 (by omega)
    have hmn : min n 18 = n := by omega
    obtain ⟨q, hq⟩ : ∃ q, q = plr c := ⟨_, rfl⟩
    rw [← hq] at hp
    have hq4 : 1 ≤ q ∧ q ≤ 4 := hp.2
    have hkq : k2 = q := by rw [← H2.out.1, shapQ_ok hv, shapL_length, hq]
    subst hkq
    have hsm := shapL_small hcb hp.2.2
    have HG : Hid (shapE c = 0) := Lib.hid (by simp [shapE, hv])
    have HV := Lib.hid (And.intro hv (And.intro hp (And.intro hcb (And.intro hx18 (And.intro hsm hq)))))
    have hne : ((k2 : Int) == 0) = false := by simp; omega
    obtain ⟨a2, hA2, _, hcell⟩ := H2.out.2.1.some_ (by rw [H2.out.1]; omega)
    rw [shapQ_ok hv, ← hq] at hcell
    have HCX := Lib.hid hcell
    subst hA2
    rw [HG.out, ← hq]
    clear hv hp hcb hlen hx18 hsm hq hcell
    go_wp2_with fail
    obtain ⟨b, hbb, hbe⟩ := by6_of by_
    rw [hbe]
    clear hbe _hby
    refine (list_any A n cap c _ H.out.1 hcp hm (H.out.2.below H2.out.2.2)).mono ?_
    rintro e w3 ⟨A3, c3, rfl, hown, hb⟩
    rw [hmn, HV.out.2.2.2.1] at hown
    rw [hmn]
    clear hmn
    obtain ⟨g, rfl, hg, hg2⟩ := own_some hown (by omega)
    obtain ⟨_, _, he, hcp1, hcp2, _⟩ := own_form hown
    injection he with e1 _ e3
    subst e1; subst e3
    have hS0 := ScB.of_own hown
    have hw2 := H2.out.2.2.size
    have H3 := Lib.hid (And.intro hS0 (And.intro hb (H2.out.2.2.trans (hb.mono hw2))))
    clear hown hb hS0
    go_wp2_with fail
    go_loopw [56] (fun iv wr => ∃ k : Nat, k ≤ n ∧ iv = .int .i64 k ∧ ScB wr g n c3 (timesTo c b k) ∧ Below w2.heap.size w2 wr) (fun iv _ => n - (intOf iv).toNat)
    case atStart => exact ⟨0, Nat.zero_le _, rfl, by rw [timesTo_zero]; exact H3.out.1, H3.out.2.1⟩
    case round =>
      obtain ⟨k, hk, rfl, hsb, hbw⟩ := hrel
      have HR := Lib.hid (And.intro hsb hbw)
      clear hsb hbw
      by_cases hlt : k < n
      · obtain ⟨x, hx⟩ : ∃ x, c[k]? = some x := ⟨_, List.getElem?_eq_getElem (by rw [H.out.1]; exact hlt)⟩
        have hxb := HV.out.2.2.1 x (List.mem_of_getElem? hx)
        have hr1 : wr.cell? ⟨g, k, none⟩ = some (.int .i64 x) := HR.out.1.read (timesTo_get hx)
        have hf1 := HR.out.1.frozen k
        have hxc1 : 0 ≤ x * (b : Int) := Int.mul_nonneg hxb.1 (by omega)
        have hxc2 : x * (b : Int) ≤ 1000 * (b : Int) := Int.mul_le_mul_of_nonneg_right hxb.2 (by omega)
        have hxc : 0 ≤ x * (b : Int) ∧ x * (b : Int) ≤ 6000 := by omega
        clear hxc1 hxc2
        have hS1 := HR.out.1.set_ k (x * (b : Int))
        rw [timesTo_succ hx] at hS1
        have HS := Lib.hid hS1
        clear hx hS1
        go_wp2_with fail
        go_roundw
        case rel => exact ⟨k + 1, by omega, by go_num, HS.out, HR.out.2.setCell hg _⟩
        case measure => simp [intOf]; omega
      · obtain rfl : k = n := by omega
        have hS := HR.out.1
        rw [show k = c.length from H.out.1.symm, timesTo_all] at hS
        have hI' := hS.ints
        have hld : (timesL c b).length = k := by rw [timesL_length, H.out.1]
        have H4 := Lib.hid (And.intro hI' (And.intro hld (H2.out.2.2.trans (HR.out.2.mono hw2))))
        clear hS hI' hld
        go_wp2_with fail
        refine (shapley2_any (some ⟨g, 0, none⟩) k c3 (timesL c b) _ H4.out.2.1 (by omega) H4.out.1).mono ?_
        rintro e w5 ⟨A5, k5, c5, rfl, hk5, hF5, hb5⟩
        have hw4 := H4.out.2.2.size
        have H5 := Lib.hid (And.intro hk5 (And.intro hF5 (And.intro (H4.out.2.2.trans (hb5.mono hw4)) (And.intro (H4.out.1.below hb5) (HR.out.2.trans (hb5.mono (HR.out.2.size)))))))
        clear hk5 hF5 hb5
        cases hv2 : valC (timesL c b)
        · have HG2 : Hid (shapE (timesL c b) = 2) := Lib.hid (by simp [shapE, hv2])
          rw [HG2.out]
          clear hv2
          go_wp2_with fail
          refine (awake_any _).mono ?_
          rintro e w6 ⟨rfl, hb6⟩
          have HB6 := Lib.hid (H5.out.2.2.1.trans (hb6.mono H5.out.2.2.1.size))
          clear hb6
          go_wp2_with fail
          go_ret
          exact ⟨rfl, HB6.out⟩
        · have HG2 : Hid (shapE (timesL c b) = 0) := Lib.hid (by simp [shapE, hv2])
          have hpd : plr (timesL c b) = k2 := by rw [HV.out.2.2.2.2.2]; exact plr_len hv2 HV.out.1 (timesL_length c b)
          obtain rfl : k5 = k2 := by rw [← H5.out.1, shapQ_ok hv2, shapL_length, hpd]
          obtain ⟨a5, hA5, _, hcell5⟩ := H5.out.2.1.some_ (by rw [H5.out.1]; omega)
          rw [shapQ_ok hv2, hpd] at hcell5
          subst hA5
          have hmul : ∀ i, i < k5 → (shapL (timesL c b) k5).getD i 0 = (shapL c k5).getD i 0 * ((b : Int) : Rat) := by
            intro i hi
            have := shap_times (c := c) hq4 HV.out.2.1.1 (b - 1) i hi
            rwa [show b - 1 + 1 = b from by omega] at this
          have hce := times_core (k := b) hbb.1 HV.out.1 hv2
          have hcc := times_conc (k := b) hbb.1 HV.out.1 hv2
          have H6 := Lib.hid (And.intro hcell5 (And.intro hmul (And.intro hce hcc)))
          rw [HG2.out]
          clear hcell5 hmul hce hcc hpd hv2
          go_wp2_with fail
          go_loopw [80] (fun iv wr => ∃ j : Nat, j ≤ k5 ∧ iv = .int .i64 j ∧ Below w5.heap.size w5 wr) (fun iv _ => k5 - (intOf iv).toNat)
          case atStart => exact ⟨0, Nat.zero_le _, rfl, Below.refl _ _⟩
          case round =>
            obtain ⟨j, hj, rfl, hbl⟩ := hrel
            by_cases hlj : j < k5
            · obtain ⟨qx, hqx⟩ : ∃ q, (shapL c k5)[j]? = some q := ⟨_, List.getElem?_eq_getElem (by rw [shapL_length]; exact hlj)⟩
              obtain ⟨qy, hqy⟩ : ∃ q, (shapL (timesL c b) k5)[j]? = some q := ⟨_, List.getElem?_eq_getElem (by rw [shapL_length]; exact hlj)⟩
              have hz : qy = qx * ((b : Int) : Rat) := by
                have h := H6.out.2.1 j hlj
                rw [List.getD_eq_getElem?_getD, List.getD_eq_getElem?_getD, hqx, hqy] at h
                exact h
              have sx := HV.out.2.2.2.2.1 qx (List.mem_of_getElem? hqx)
              have hb25 : Below w2.heap.size w2 w5 := H5.out.2.2.2.2
              have hbz : Below w2.heap.size w2 wr := hb25.trans (hbl.mono hb25.size)
              have d1 : ∀ s : Desc wr, s.val.cell? (a2.add (j * 2)) = some (.int .i64 qx.num) := fun s => s.cell ((hbz.cell (lt_of_cell (HCX.out j qx hqx).1)).trans (HCX.out j qx hqx).1)
              have d2 : ∀ s : Desc wr, s.val.cell? ⟨(a2.add (j * 2)).block, (a2.add (j * 2)).off + 1, none⟩ = some (.int .i64 (qx.den : Int)) := fun s => s.cell ((hbz.cell (lt_of_cell (HCX.out j qx hqx).2)).trans (HCX.out j qx hqx).2)
              have d3 : ∀ s : Desc wr, s.val.cell? (a5.add (j * 2)) = some (.int .i64 qy.num) := fun s => s.cell ((hbl.cell (lt_of_cell (H6.out.1 j qy hqy).1)).trans (H6.out.1 j qy hqy).1)
              have d4 : ∀ s : Desc wr, s.val.cell? ⟨(a5.add (j * 2)).block, (a5.add (j * 2)).off + 1, none⟩ = some (.int .i64 (qy.den : Int)) := fun s => s.cell ((hbl.cell (lt_of_cell (H6.out.1 j qy hqy).2)).trans (H6.out.1 j qy hqy).2)
              have HQ := Lib.hid (And.intro hz (And.intro (low_small sx) (mul_bds sx hbb.2)))
              have hx3 : 1 ≤ (qx.den : Int) ∧ (qx.den : Int) ≤ 24 ∧ -100000 ≤ qx.num ∧ qx.num ≤ 100000 := ⟨den_pos qx, sx.1, sx.2.1, sx.2.2⟩
              have l3 : (j : Int) < (k5 : Int) := by omega
              have l4 : (0 : Int) ≤ (j : Int) := by omega
              have hd24 : decide ((24 : Int) < (qx.den : Int)) = false := decide_eq_false (by omega)
              have HBj := Lib.hid hbl
              have hws := hbl.size
              have HLOW : Hid (∀ s : Desc wr, Calls Try.prog 22 #[.agg #[.int .i64 qx.num, .int .i64 (qx.den : Int)]] s.val fun e w'' => e = .returned (.bool true) ∧ ∃ s' : Desc wr, w'' = s'.val) := Lib.hid fun s =>
                Calls.desc_of ((rlowest_any qx.num qx.den _ (by omega) (by omega) (by omega)).mono fun e w' h => ⟨by rw [h.1, HQ.out.2.1], h.2⟩)
              have HWH : Hid (∀ s : Desc wr, Calls Try.prog 24 #[.int .i64 (b : Int)] s.val fun e w'' => e = .returned (.agg #[.int .i64 (b : Int), .int .i64 1]) ∧ ∃ s' : Desc wr, w'' = s'.val) := Lib.hid fun s =>
                Calls.desc_of ((lwhole_any (b : Int) _).mono fun e w' h => ⟨by rw [h.1, fr_int], h.2⟩)
              have HMUL : Hid (∀ s : Desc wr, Calls Try.prog 48 #[.agg #[.int .i64 qx.num, .int .i64 (qx.den : Int)], .agg #[.int .i64 (b : Int), .int .i64 1]] s.val fun e w'' => e = .returned (.agg #[.int .i64 qy.num, .int .i64 (qy.den : Int)]) ∧ ∃ s' : Desc wr, w'' = s'.val) := Lib.hid fun s =>
                Calls.desc_of ((rmul_raw qx ((b : Int) : Rat) _ HQ.out.2.2.1 HQ.out.2.2.2.1 HQ.out.2.2.2.2).mono fun e w' h => ⟨by rw [h.1, ← HQ.out.1]; rfl, h.2⟩)
              clear sx hqx hqy hz hbl hb25 hbz
              go_wp2_with fail
              refine wp_region_desc (by kernel_rfl) (by kernel_rfl) ?_
              repeat (go_big_quiet_step (first | (go_at_call 22; exact HLOW.out _) | (go_at_call 24; exact HWH.out _) | (go_at_call 48; exact HMUL.out _)))
              refine wpQuiet_nil ?_
              rintro _ ⟨sd, rfl⟩
              have HBE := Lib.hid (HBj.out.trans (sd.below.mono hws))
              clear d1 d2 d3 d4
              go_wp2_with fail
              go_roundw
              case rel => exact ⟨j + 1, by omega, by go_num, HBE.out⟩
              case measure => simp [intOf]; omega
            · obtain rfl : j = k5 := by omega
              have HB9 := Lib.hid (And.intro (H5.out.2.2.1.trans (hbl.mono H5.out.2.2.1.size)) (H5.out.2.2.2.1.below hbl))
              clear hbl
              go_wp2_with fail
              refine (list_any A k cap c _ H.out.1 hcp hm (H.out.2.below HB9.out.1)).mono ?_
              rintro e w10 ⟨A10, c10, rfl, hown, hb⟩
              have hI : Ints w10 A10 (c.take 18) := At.of_own hown
              have H10 := Lib.hid (And.intro hI (And.intro (HB9.out.1.trans (hb.mono HB9.out.1.size)) (HB9.out.2.below hb)))
              clear hown hb hI
              go_wp2_with fail
              refine (core2_any A10 (min k 18) c10 (c.take 18) _ H1.out.2.2 (by omega) H10.out.1).mono ?_
              rintro e w11 ⟨A11, k11, c11, rfl, _, _, _, _, hb⟩
              rw [coE_take]
              have H11 := Lib.hid (And.intro (H10.out.2.1.trans (hb.mono H10.out.2.1.size)) (H10.out.2.2.below hb))
              clear hb
              go_wp2_with fail
              refine (core2_any (some ⟨g, 0, none⟩) k c3 (timesL c b) _ H4.out.2.1 (by omega) H11.out.2).mono ?_
              rintro e w12 ⟨A12, k12, c12, rfl, _, _, _, _, hb⟩
              rw [H6.out.2.2.1]
              have H12 := Lib.hid (And.intro (H11.out.1.trans (hb.mono H11.out.1.size)) (H11.out.2.below hb))
              clear hb
              go_wp2_with fail
              refine (list_any A k cap c _ H.out.1 hcp hm (H.out.2.below H12.out.1)).mono ?_
              rintro e w13 ⟨A13, c13, rfl, hown, hb⟩
              have hI : Ints w13 A13 (c.take 18) := At.of_own hown
              have H13 := Lib.hid (And.intro hI (And.intro (H12.out.1.trans (hb.mono H12.out.1.size)) (H12.out.2.below hb)))
              clear hown hb hI
              go_wp2_with fail
              refine (concave2_any A13 (min k 18) c13 (c.take 18) _ H1.out.2.2 (by omega) H13.out.1).mono ?_
              rintro e w14 ⟨rfl, hb⟩
              rw [concA_take]
              have H14 := Lib.hid (And.intro (H13.out.2.1.trans (hb.mono H13.out.2.1.size)) (H13.out.2.2.below hb))
              clear hb
              go_wp2_with fail
              refine (concave2_any (some ⟨g, 0, none⟩) k c3 (timesL c b) _ H4.out.2.1 (by omega) H14.out.2).mono ?_
              rintro e w15 ⟨rfl, hb⟩
              rw [H6.out.2.2.2]
              have H15 := Lib.hid (H14.out.1.trans (hb.mono H14.out.1.size))
              clear hb
              generalize coE c = z1
              generalize (concA c).2.2 = z2
              have y1 : (z1 == z1) = true := by simp
              have y2 : (((z2 : Nat) : Int) == ((z2 : Nat) : Int)) = true := by simp
              go_wp2_with fail
              refine (awake_any _).mono ?_
              rintro e w16 ⟨rfl, hb16⟩
              have HB16 := Lib.hid (H15.out.trans (hb16.mono H15.out.size))
              clear hb16
              go_wp2_with fail
              go_ret
              exact ⟨rfl, HB16.out⟩

/- GamesNames returns true for every costs and number: the walk. -/

theorem rot_bits {k b s n : Nat} (hk : 1 ≤ k ∧ k ≤ 4) (hb : b < k) (hs : s < n) (hn : 2 ^ k = n) : bits .or .i64 ((s : Int) / 2 ^ (k - b)) (bits .and .i64 (wrap64 ((s : Int) * 2 ^ b)) ((n : Int) - 1)) = ((rotS k b s : Nat) : Int) := by
  have h16 : n ≤ 16 := by rw [← hn]; exact Nat.pow_le_pow_right (by omega) hk.2
  have hb8 : 2 ^ b ≤ 8 := Nat.pow_le_pow_right (n := 2) (by omega) (show b ≤ 3 by omega)
  have e1 : (s : Int) / 2 ^ (k - b) = ((s >>> (k - b) : Nat) : Int) := by rw [Nat.shiftRight_eq_div_pow]; simp
  have h1 : s >>> (k - b) ≤ s := by rw [Nat.shiftRight_eq_div_pow]; exact Nat.div_le_self _ _
  have h2 : s * 2 ^ b ≤ 16 * 8 := Nat.mul_le_mul (by omega) hb8
  have e2 : wrap64 ((s : Int) * 2 ^ b) = ((s <<< b : Nat) : Int) := by
    have e3 : (s : Int) * 2 ^ b = ((s <<< b : Nat) : Int) := by rw [Nat.shiftLeft_eq]; simp
    have h3 : s <<< b ≤ 128 := by rw [Nat.shiftLeft_eq]; exact h2
    rw [e3]
    rw [← wrapEq]
    exact IntWalk.i64_in _ (by omega)
  have h3 : s <<< b ≤ 128 := by rw [Nat.shiftLeft_eq]; exact h2
  have e3 : (n : Int) - 1 = ((2 ^ k - 1 : Nat) : Int) := by omega
  have h4 : (s <<< b) &&& (2 ^ k - 1) ≤ s <<< b := Nat.and_le_left
  rw [e1, e2, e3, and_nat _ _ (by omega) (by omega), or_nat _ _ (by omega) (by omega)]
  rfl
set_option maxRecDepth 100000 in
set_option maxHeartbeats 4000000 in
theorem law_names (A : Option Addr) (n cap : Nat) (c : List Int) (by_ : Int) (w : World)
    (hl : c.length = n) (hcp : n ≤ cap) (hm : cap ≤ 9223372036854775807) (hc : Ints w A c) (_ : ∀ x ∈ c, -9223372036854775808 ≤ x ∧ x ≤ 9223372036854775807) (_hby : -9223372036854775808 ≤ by_ ∧ by_ ≤ 9223372036854775807) :
    Calls Try.prog 11 #[.slice A n cap, .int .i64 by_] w fun e w' => e = .returned (.bool true) ∧ Below w.heap.size w w' := by
  have H := Lib.hid (And.intro hl hc)
  clear hl hc
  go_enter Try.func11, Try.ntmps11
  go_wp2_with fail
  refine (list_any A n cap c _ H.out.1 hcp hm H.out.2).mono ?_
  rintro e w1 ⟨A1, c1, rfl, hown, hb⟩
  have hI : Ints w1 A1 (c.take 18) := At.of_own hown
  have hlt : (c.take 18).length = min n 18 := by rw [List.length_take, H.out.1]; omega
  have H1 := Lib.hid (And.intro hI (And.intro hb hlt))
  clear hown hb hI hlt
  go_wp2_with fail
  refine (shapley2_any A1 (min n 18) c1 (c.take 18) _ H1.out.2.2 (by omega) H1.out.1).mono ?_
  rintro e w2 ⟨A2, k2, c2, rfl, hk, hF, hb⟩
  rw [shapQ_take] at hk hF
  rw [shapE_take]
  have H2 := Lib.hid (And.intro hk (And.intro hF (H1.out.2.1.trans (hb.mono H1.out.2.1.size))))
  clear hk hF hb
  go_wp2_with fail
  refine (rplayers_any A n cap c _ H.out.1 (by omega) (H.out.2.below H2.out.2.2)).mono ?_
  rintro e w' ⟨rfl, rfl⟩
  cases hv : valC c
  · have HG : Hid (shapE c = 2) := Lib.hid (by simp [shapE, hv])
    rw [HG.out, plr_bad hv]
    clear hv
    go_wp2_with fail
    refine (awake_any _).mono ?_
    rintro e w3 ⟨rfl, hb3⟩
    have HB3 := Lib.hid (H2.out.2.2.trans (hb3.mono H2.out.2.2.size))
    clear hb3
    go_wp2_with fail
    go_ret
    exact ⟨rfl, HB3.out⟩
  · have hp := valC_pow hv
    have hcb := (valC_iff.1 hv).2.2
    have hlen := (valC_iff.1 hv).1
    have hn16 : 2 ≤ n ∧ n ≤ 16 := by have := H.out.1; omega
    have hx18 : c.take 18 = c := take18 (by omega)
    obtain ⟨q, hq⟩ : ∃ q, q = plr c := ⟨_, rfl⟩
    rw [← hq] at hp
    have hq4 : 1 ≤ q ∧ q ≤ 4 := hp.2
    have hkq : k2 = q := by rw [← H2.out.1, shapQ_ok hv, shapL_length, hq]
    subst hkq
    have HG : Hid (shapE c = 0) := Lib.hid (by simp [shapE, hv])
    have HV := Lib.hid (And.intro hv (And.intro hp (And.intro hcb (And.intro hx18 hq))))
    have hne : ((k2 : Int) == 0) = false := by simp; omega
    obtain ⟨a2, hA2, _, hcell⟩ := H2.out.2.1.some_ (by rw [H2.out.1]; omega)
    rw [shapQ_ok hv, ← hq] at hcell
    have HCX := Lib.hid hcell
    obtain ⟨ad, hAe, _, hcc⟩ := H.out.2.some_ (by rw [H.out.1]; omega)
    have HCC := Lib.hid hcc
    have HLA := Lib.hid H.out.2
    subst hA2
    subst hAe
    rw [HG.out, ← hq]
    have hmk := make_ints n (by omega)
    have hkw : IntKind.u64.wrap (k2 : Int) = (k2 : Int) := by
      show (k2 : Int) % 2 ^ 64 = k2
      omega
    obtain ⟨b, hb4, hbe⟩ := idx_of by_ (k := (k2 : Int)) (by omega) (by omega)
    have hbk : b < k2 := by omega
    clear hv hp hcb hlen hx18 hq hcell hcc
    go_wp2_with fail
    rw [hbe]
    clear hbe _hby hb4 hkw
    have hN16 : 2 ^ k2 = n := by rw [← HV.out.2.1.1, H.out.1]
    have hw2 := H2.out.2.2.size
    have HNN := Lib.hid hN16
    clear hN16
    go_wp2_with fail
    go_loopw [58] (fun iv wr => ∃ s : Nat, s ≤ n ∧ iv = .int .i64 s ∧ Blk wr w2.heap.size 3 (arr (namesTo c k2 b s)) ∧ Below w2.heap.size w2 wr) (fun iv _ => n - (intOf iv).toNat)
    case atStart => exact ⟨0, Nat.zero_le _, rfl, by rw [namesTo, HNN.out]; exact Blk.new _ _ _ rfl, (Below.refl _ _).alloc (Nat.le_refl _) _⟩
    case round =>
      obtain ⟨s, hs, rfl, hB, hbl⟩ := hrel
      have HR := Lib.hid (And.intro hB hbl)
      clear hB hbl
      by_cases hlt : s < n
      · obtain ⟨x, hx⟩ : ∃ x, c[s]? = some x := ⟨_, List.getElem?_eq_getElem (by rw [H.out.1]; exact hlt)⟩
        have hxw := (H2.out.2.2.cell (lt_of_cell (HCC.out s x hx))).trans (HCC.out s x hx)
        have c0 : wr.cell? (ad.add s) = some (.int .i64 x) := (HR.out.2.cell (lt_of_cell hxw)).trans hxw
        obtain ⟨r0, _⟩ := rot_says hq4 hbk (s := s) (by rw [HNN.out]; exact hlt)
        have hidx := rot_bits hq4 hbk hlt HNN.out
        have hstep : namesTo c k2 b (s + 1) = (namesTo c k2 b s).set (rotS k2 b s) x := by rw [namesTo, List.getD_eq_getElem?_getD, hx]; rfl
        rw [HNN.out] at r0
        obtain ⟨t, ht⟩ : ∃ t, t = rotS k2 b s := ⟨_, rfl⟩
        rw [← ht] at hidx r0 hstep
        obtain ⟨y, hy⟩ : ∃ y, (namesTo c k2 b s)[t]? = some y := ⟨_, List.getElem?_eq_getElem (by rw [namesTo_length, HNN.out]; exact r0)⟩
        have c1 : wr.cell? ⟨w2.heap.size, t, none⟩ = some (.int .i64 y) := by rw [HR.out.1.cell, arr_get, hy]; rfl
        have f1 : wr.frozen? ⟨w2.heap.size, t, none⟩ = false := HR.out.1.frozen t
        have hset := HR.out.1.set_ t (.int .i64 x)
        rw [arr_set, ← hstep] at hset
        have HS := Lib.hid (And.intro hset (HR.out.2.setCell (p := ⟨w2.heap.size, t, none⟩) (Nat.le_refl _) (.int .i64 x)))
        have l1 : (t : Int) < (n : Int) := by omega
        have l2 : (0 : Int) ≤ (t : Int) := by omega
        clear hxw hx hstep hset hy ht
        go_wp2_with fail
        go_region
        go_wp2_with fail
        go_roundw
        case rel => exact ⟨s + 1, by omega, by go_num, HS.out.1, HS.out.2.drew⟩
        case measure => simp [intOf]; omega
      · obtain rfl : n = s := by omega
        have hld : (namesL c k2 b).length = n := by rw [namesL_length, HNN.out]
        have hpl := HV.out.2.2.2.2
        have hv2 : valC (namesL c k2 b) = true := by rw [hpl]; exact names_valid HV.out.1 (by rw [← hpl]; exact hbk)
        have hpd : plr (namesL c k2 b) = k2 := by rw [hpl, plr_len (by rw [← hpl]; exact hv2) HV.out.1 (by rw [← hpl, hld, H.out.1])]
        have hI' : Ints wr (some ⟨w2.heap.size, 0, none⟩) (namesL c k2 b) := by
          have := HR.out.1
          rw [show namesTo c k2 b n = namesL c k2 b from by unfold namesL; rw [HNN.out]] at this
          exact blk_ints this
        have hsh := shap_names hq4 hbk HV.out.2.1.1
        have hce : coE (namesL c k2 b) = coE c := by
          have := names_core HV.out.1 (b := b) (by rw [← hpl]; exact hbk)
          rwa [← hpl] at this
        have hcc : (concA (namesL c k2 b)).2.2 = (concA c).2.2 := by
          have := names_conc HV.out.1 (b := b) (by rw [← hpl]; exact hbk)
          rwa [← hpl] at this
        have HG2 : Hid (shapE (namesL c k2 b) = 0) := Lib.hid (by simp [shapE, hv2])
        have HSQ : Hid (shapQ (namesL c k2 b) = shapL (namesL c k2 b) k2) := Lib.hid (by rw [shapQ_ok hv2, hpd])
        have H4 := Lib.hid (And.intro hI' (And.intro hld (And.intro (H2.out.2.2.trans (HR.out.2.mono hw2)) (And.intro HR.out.2 (And.intro hsh (And.intro hce hcc))))))
        clear hld hpl hv2 hpd hI' hsh hce hcc
        go_wp2_with fail
        refine (shapley2_any (some ⟨w2.heap.size, 0, none⟩) n n (namesL c k2 b) _ H4.out.2.1 (by omega) H4.out.1).mono ?_
        rintro e w5 ⟨A5, k5, c5, rfl, hk5, hF5, hb5⟩
        have hw4 := H4.out.2.2.1.size
        rw [HSQ.out] at hk5 hF5
        rw [shapL_length] at hk5
        subst hk5
        have H5 := Lib.hid (And.intro hF5 (And.intro (H4.out.2.2.1.trans (hb5.mono hw4)) (And.intro (H4.out.1.below hb5) (H4.out.2.2.2.1.trans (hb5.mono H4.out.2.2.2.1.size)))))
        obtain ⟨a5, hA5, _, hcell5⟩ := hF5.some_ (by rw [shapL_length]; omega)
        subst hA5
        have HC5 := Lib.hid hcell5
        rw [HG2.out]
        clear hcell5 hb5 hF5
        go_wp2_with fail
        go_loopw [95] (fun iv wr => ∃ j : Nat, j ≤ k2 ∧ iv = .int .i64 j ∧ Below w5.heap.size w5 wr) (fun iv _ => k2 - (intOf iv).toNat)
        case atStart => exact ⟨0, Nat.zero_le _, rfl, Below.refl _ _⟩
        case round =>
          obtain ⟨j, hj, rfl, hbl⟩ := hrel
          by_cases hlj : j < k2
          · obtain ⟨qx, hqx⟩ : ∃ q, (shapL c k2)[j]? = some q := ⟨_, List.getElem?_eq_getElem (by rw [shapL_length]; exact hlj)⟩
            obtain ⟨t, ht⟩ : ∃ t, t = (j + b) % k2 := ⟨_, rfl⟩
            have htk : t < k2 := by rw [ht]; exact Nat.mod_lt _ (by omega)
            have hqy : (shapL (namesL c k2 b) k2)[t]? = some qx := by
              have h := H4.out.2.2.2.2.1 j hlj
              rw [← ht, List.getD_eq_getElem?_getD, List.getD_eq_getElem?_getD, hqx, List.getElem?_eq_getElem (by rw [shapL_length]; exact htk)] at h
              rw [List.getElem?_eq_getElem (by rw [shapL_length]; exact htk)]
              exact congrArg some h
            have hb25 : Below w2.heap.size w2 w5 := H5.out.2.2.2
            have hbz : Below w2.heap.size w2 wr := hb25.trans (hbl.mono hb25.size)
            have d1 : wr.cell? (a2.add (j * 2)) = some (.int .i64 qx.num) := (hbz.cell (lt_of_cell (HCX.out j qx hqx).1)).trans (HCX.out j qx hqx).1
            have d2 : wr.cell? ⟨(a2.add (j * 2)).block, (a2.add (j * 2)).off + 1, none⟩ = some (.int .i64 (qx.den : Int)) := (hbz.cell (lt_of_cell (HCX.out j qx hqx).2)).trans (HCX.out j qx hqx).2
            have d3 : wr.cell? (a5.add (t * 2)) = some (.int .i64 qx.num) := (hbl.cell (lt_of_cell (HC5.out t qx hqy).1)).trans (HC5.out t qx hqy).1
            have d4 : wr.cell? ⟨(a5.add (t * 2)).block, (a5.add (t * 2)).off + 1, none⟩ = some (.int .i64 (qx.den : Int)) := (hbl.cell (lt_of_cell (HC5.out t qx hqy).2)).trans (HC5.out t qx hqy).2
            have hmod : ((j : Int) + (b : Int)).tmod (k2 : Int) = (t : Int) := by
              rw [ht, Int.tmod_eq_emod_of_nonneg (by omega)]; simp
            have e1 : IntKind.i64.wrap ((j : Int) + (b : Int)) = (j : Int) + (b : Int) := IntWalk.i64_in _ (by omega)
            have l3 : (j : Int) < (k2 : Int) := by omega
            have l4 : (0 : Int) ≤ (j : Int) := by omega
            have l5 : (t : Int) < (k2 : Int) := by omega
            have l6 : (0 : Int) ≤ (t : Int) := by omega
            have HBj := Lib.hid hbl
            clear hqx hqy ht hbl hb25 hbz
            go_wp2_with fail
            go_quiet (fail)
            have HBE := Lib.hid (below_drewN HBj.out nq)
            clear d1 d2 d3 d4 hmod e1
            go_wp2_with fail
            go_roundw
            case rel => exact ⟨j + 1, by omega, by go_num, HBE.out⟩
            case measure => simp [intOf]; omega
          · obtain rfl : j = k2 := by omega
            have HB9 := Lib.hid (And.intro (H5.out.2.1.trans (hbl.mono H5.out.2.1.size)) (H5.out.2.2.1.below hbl))
            clear hbl
            go_wp2_with fail
            refine (list_any (some ad) n cap c _ H.out.1 hcp hm (H.out.2.below HB9.out.1)).mono ?_
            rintro e w10 ⟨A10, c10, rfl, hown, hb⟩
            have hI : Ints w10 A10 (c.take 18) := At.of_own hown
            have H10 := Lib.hid (And.intro hI (And.intro (HB9.out.1.trans (hb.mono HB9.out.1.size)) (HB9.out.2.below hb)))
            clear hown hb hI
            go_wp2_with fail
            refine (core2_any A10 (min n 18) c10 (c.take 18) _ H1.out.2.2 (by omega) H10.out.1).mono ?_
            rintro e w11 ⟨A11, k11, c11, rfl, _, _, _, _, hb⟩
            rw [coE_take]
            have H11 := Lib.hid (And.intro (H10.out.2.1.trans (hb.mono H10.out.2.1.size)) (H10.out.2.2.below hb))
            clear hb
            go_wp2_with fail
            refine (core2_any (some ⟨w2.heap.size, 0, none⟩) n n (namesL c j b) _ H4.out.2.1 (by omega) H11.out.2).mono ?_
            rintro e w12 ⟨A12, k12, c12, rfl, _, _, _, _, hb⟩
            rw [H4.out.2.2.2.2.2.1]
            have H12 := Lib.hid (And.intro (H11.out.1.trans (hb.mono H11.out.1.size)) (H11.out.2.below hb))
            clear hb
            go_wp2_with fail
            refine (list_any (some ad) n cap c _ H.out.1 hcp hm (H.out.2.below H12.out.1)).mono ?_
            rintro e w13 ⟨A13, c13, rfl, hown, hb⟩
            have hI : Ints w13 A13 (c.take 18) := At.of_own hown
            have H13 := Lib.hid (And.intro hI (And.intro (H12.out.1.trans (hb.mono H12.out.1.size)) (H12.out.2.below hb)))
            clear hown hb hI
            go_wp2_with fail
            refine (concave2_any A13 (min n 18) c13 (c.take 18) _ H1.out.2.2 (by omega) H13.out.1).mono ?_
            rintro e w14 ⟨rfl, hb⟩
            rw [concA_take]
            have H14 := Lib.hid (And.intro (H13.out.2.1.trans (hb.mono H13.out.2.1.size)) (H13.out.2.2.below hb))
            clear hb
            go_wp2_with fail
            refine (concave2_any (some ⟨w2.heap.size, 0, none⟩) n n (namesL c j b) _ H4.out.2.1 (by omega) H14.out.2).mono ?_
            rintro e w15 ⟨rfl, hb⟩
            rw [H4.out.2.2.2.2.2.2]
            have H15 := Lib.hid (H14.out.1.trans (hb.mono H14.out.1.size))
            clear hb
            generalize coE c = z1
            generalize (concA c).2.2 = z2
            have y1 : (z1 == z1) = true := by simp
            have y2 : (((z2 : Nat) : Int) == ((z2 : Nat) : Int)) = true := by simp
            go_wp2_with fail
            refine (awake_any _).mono ?_
            rintro e w16 ⟨rfl, hb16⟩
            have HB16 := Lib.hid (H15.out.trans (hb16.mono H15.out.size))
            clear hb16
            go_wp2_with fail
            go_ret
            exact ⟨rfl, HB16.out⟩
end Go.Proofs.Ytbidboagaoifaaa
