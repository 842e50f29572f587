/- Pairs of numbers that may be fractions, and sums of payments times a number: plain Lean. -/
import Derived.Test.YtbidboagaoifaaaEqual
import Derived.Test.YtbidboagaoifaaaPaysLaw
namespace Go.Proofs.Ytbidboagaoifaaa
open Go.RowKit

/-- The cells of a row of pairs. -/
def pcells (ps : List (Int × Int)) : List Value := ps.flatMap fun p => [.int .i64 p.1, .int .i64 p.2]
def pr (q : Rat) : Int × Int := (q.num, (q.den : Int))
theorem pcells_fr (qs : List Rat) : pcells (qs.map pr) = fcells qs := by
  induction qs with
  | nil => rfl
  | cons q qs ih => simp only [pcells, fcells, List.map_cons, List.flatMap_cons] at ih ⊢; rw [ih]; rfl
theorem pcells_length (ps : List (Int × Int)) : (pcells ps).length = ps.length * 2 := by
  induction ps with
  | nil => rfl
  | cons p ps ih => simp only [pcells, List.flatMap_cons, List.length_append, List.length_cons, List.length_nil] at ih ⊢; omega
theorem pcells_at (ps : List (Int × Int)) (k : Nat) (p : Int × Int) (h : ps[k]? = some p) : (pcells ps)[k * 2]? = some (.int .i64 p.1) ∧ (pcells ps)[k * 2 + 1]? = some (.int .i64 p.2) := by
  induction ps generalizing k with
  | nil => simp at h
  | cons p' ps ih =>
    cases k with
    | zero => simp at h; subst h; simp [pcells]
    | succ k =>
      have := ih k (by simpa using h)
      have e1 : (k + 1) * 2 = k * 2 + 1 + 1 := by omega
      rw [e1]
      simpa [pcells] using this
theorem pcells_take (ps : List (Int × Int)) (k : Nat) : pcells (ps.take k) = (pcells ps).take (k * 2) := by
  induction ps generalizing k with
  | nil => simp [pcells]
  | cons p ps ih =>
    cases k with
    | zero => simp [pcells]
    | succ k =>
      have e1 : (k + 1) * 2 = k * 2 + 1 + 1 := by omega
      rw [List.take_succ_cons, e1]
      have := ih k
      simp only [pcells, List.flatMap_cons] at this ⊢
      rw [this]
      simp
theorem pcells_one (ps : List (Int × Int)) : ∀ u ∈ pcells ps, u.oneCell' = true := by
  intro u hu
  simp only [pcells, List.mem_flatMap] at hu
  obtain ⟨p, _, hu⟩ := hu
  simp only [List.mem_cons, List.not_mem_nil, or_false] at hu
  rcases hu with rfl | rfl <;> rfl
/-- The slice at A reads as these pairs. -/
def Prs (w : World) (A : Option Addr) (ps : List (Int × Int)) : Prop := At w A (pcells ps)
theorem Prs.some_ {w : World} {A : Option Addr} {ps : List (Int × Int)} (h : Prs w A ps) (hn : 0 < ps.length) : ∃ ad, A = some ad ∧ ad.block < w.heap.size ∧ ∀ i p, ps[i]? = some p → w.cell? (ad.add (i * 2)) = some (.int .i64 p.1) ∧ w.cell? ⟨(ad.add (i * 2)).block, (ad.add (i * 2)).off + 1, none⟩ = some (.int .i64 p.2) := by
  obtain ⟨ad, e, hb, hc⟩ := At.some_ h (by rw [pcells_length]; omega)
  refine ⟨ad, e, hb, fun i p hp => ?_⟩
  obtain ⟨h1, h2⟩ := pcells_at ps i p hp
  refine ⟨hc _ _ h1, ?_⟩
  have h3 := hc _ _ h2
  rw [← add_add] at h3
  exact h3
theorem Prs.below {w w' : World} {A : Option Addr} {ps : List (Int × Int)} (h : Prs w A ps) (hb : Below w.heap.size w w') : Prs w' A ps := At.below h hb
theorem Prs.take {w : World} {A : Option Addr} {ps : List (Int × Int)} (h : Prs w A ps) (k : Nat) : Prs w A (ps.take k) := by
  intro i v hv
  refine h i v ?_
  rw [pcells_take, List.getElem?_take] at hv
  split at hv
  · exact hv
  · cases hv
theorem Prs.fracs {w : World} {A : Option Addr} {qs : List Rat} (h : Prs w A (qs.map pr)) : Fracs w A qs := by unfold Prs at h; rwa [pcells_fr] at h
theorem Fracs.prs {w : World} {A : Option Addr} {qs : List Rat} (h : Fracs w A qs) : Prs w A (qs.map pr) := by unfold Prs; rwa [pcells_fr]

/-- In lowest terms, with a Den up to M, and not too great. -/
def scB (M a b : Int) : Bool := decide (1 ≤ b) && decide (b ≤ M) && decide (a ≤ 100000) && decide (-100000 ≤ a) && ((Int.gcd a b : Int) == 1)
theorem scB_iff {M a b : Int} : scB M a b = true ↔ 1 ≤ b ∧ b ≤ M ∧ a ≤ 100000 ∧ -100000 ≤ a ∧ Int.gcd a b = 1 := by
  simp only [scB, Bool.and_eq_true, decide_eq_true_eq, beq_iff_eq, and_assoc]
  constructor
  · rintro ⟨h1, h2, h3, h4, h5⟩; exact ⟨h1, h2, h3, h4, by omega⟩
  · rintro ⟨h1, h2, h3, h4, h5⟩; exact ⟨h1, h2, h3, h4, by omega⟩
theorem scB_rat {M a b : Int} (h : scB M a b = true) : ∃ q : Rat, q.num = a ∧ (q.den : Int) = b := by
  obtain ⟨h1, _, _, _, h5⟩ := scB_iff.1 h
  exact lowest_rat (by omega) h5
theorem scB_small {a b : Int} (h : scB 24 a b = true) : ∃ q : Rat, (a, b) = pr q ∧ smallQ q := by
  obtain ⟨q, rfl, rfl⟩ := scB_rat h
  obtain ⟨_, h2, h3, h4, _⟩ := scB_iff.1 h
  exact ⟨q, rfl, h2, h4, h3⟩
theorem small_scB {q : Rat} (h : smallQ q) : scB 24 q.num q.den = true := scB_iff.2 ⟨by have := den_pos q; omega, h.1, h.2.2, h.2.1, rat_lowest q⟩
/-- Payments of n players. -/
def payB (n : Nat) (ps : List (Int × Int)) : Bool := ps.all (fun p => scB 24 p.1 p.2) && decide (ps.length = n)
theorem payB_rats {n : Nat} {ps : List (Int × Int)} (h : payB n ps = true) : ∃ qs : List Rat, ps = qs.map pr ∧ qs.length = n ∧ ∀ q ∈ qs, smallQ q := by
  unfold payB at h
  rw [Bool.and_eq_true, decide_eq_true_eq, List.all_eq_true] at h
  obtain ⟨h, hl⟩ := h
  suffices ∃ qs : List Rat, ps = qs.map pr ∧ ∀ q ∈ qs, smallQ q by
    obtain ⟨qs, h1, h2⟩ := this
    exact ⟨qs, h1, by rw [← hl, h1, List.length_map], h2⟩
  clear hl
  induction ps with
  | nil => exact ⟨[], rfl, by simp⟩
  | cons p ps ih =>
    obtain ⟨qs, h1, h2⟩ := ih fun x hx => h x (by simp [hx])
    obtain ⟨q, h3, h4⟩ := scB_small (h p (by simp))
    refine ⟨q :: qs, ?_, ?_⟩
    · rw [List.map_cons, ← h1, ← h3]
    · intro x hx
      rcases List.mem_cons.1 hx with rfl | hx
      · exact h4
      · exact h2 x hx
theorem payB_of {n : Nat} {qs : List Rat} (hl : qs.length = n) (h : ∀ q ∈ qs, smallQ q) : payB n (qs.map pr) = true := by
  unfold payB
  rw [Bool.and_eq_true, decide_eq_true_eq, List.all_eq_true]
  refine ⟨fun p hp => ?_, by rw [List.length_map, hl]⟩
  obtain ⟨q, hq, rfl⟩ := List.mem_map.1 hp
  exact small_scB (h q hq)

/-- A pair times D. -/
def scN (D : Int) (p : Int × Int) : Int := p.1 * (D / p.2)
/-- What the set s pays of the first k, times D. -/
def payT (ns : List Int) : Nat → Nat → Int
  | 0, _ => 0
  | k + 1, s => payT ns k s + ns.getD k 0 * (if s.testBit k then 1 else 0)
def payRow (ns : List Int) (k N : Nat) : List Int := (List.range N).map (payT ns k)
def payMix (ns : List Int) (k j N : Nat) : List Int := (List.range N).map fun s => if s < j then payT ns (k + 1) s else payT ns k s
theorem payRow_length (ns : List Int) (k N : Nat) : (payRow ns k N).length = N := by simp [payRow]
theorem payMix_length (ns : List Int) (k j N : Nat) : (payMix ns k j N).length = N := by simp [payMix]
theorem payRow_get {ns : List Int} {k N s : Nat} (h : s < N) : (payRow ns k N)[s]? = some (payT ns k s) := by simp [payRow, h]
theorem payRow_zero (ns : List Int) (N : Nat) : payRow ns 0 N = List.replicate N 0 := by
  apply List.ext_getElem?
  intro i
  simp only [payRow, List.getElem?_map, List.getElem?_replicate]
  by_cases h : i < N <;> simp [h, payT]
theorem payMix_zero (ns : List Int) (k N : Nat) : payMix ns k 0 N = payRow ns k N := by simp [payMix, payRow]
theorem payMix_full (ns : List Int) (k N : Nat) : payMix ns k N N = payRow ns (k + 1) N := by
  unfold payMix payRow
  apply List.map_congr_left
  intro s hs
  rw [List.mem_range] at hs
  rw [if_pos hs]
theorem payMix_get {ns : List Int} {k j N : Nat} (h : j < N) : (payMix ns k j N)[j]? = some (payT ns k j) := by simp [payMix, h]
theorem payMix_succ {ns : List Int} {k j N : Nat} (h : j < N) : payMix ns k (j + 1) N = (payMix ns k j N).set j (payT ns (k + 1) j) := by
  apply List.ext_getElem?
  intro i
  rw [List.getElem?_set]
  by_cases hij : j = i
  · subst hij
    rw [if_pos rfl, if_pos (by rw [payMix_length]; exact h)]
    simp [payMix, h]
  · rw [if_neg hij]
    simp only [payMix, List.getElem?_map]
    by_cases hi : i < N
    · simp only [List.getElem?_range hi, Option.map_some]
      congr 1
      by_cases h1 : i < j
      · rw [if_pos h1, if_pos (by omega)]
      · rw [if_neg h1, if_neg (by omega)]
    · simp [hi]
theorem payT_bd {ns : List Int} {m : Int} (h : ∀ x ∈ ns, -m ≤ x ∧ x ≤ m) (hm : 0 ≤ m) (k s : Nat) : -(m * k) ≤ payT ns k s ∧ payT ns k s ≤ m * k := by
  induction k with
  | zero => simp [payT]
  | succ k ih =>
    have h1 := getD_bd h hm k
    have e : m * ((k + 1 : Nat) : Int) = m * k + m := by rw [Int.natCast_add, Int.mul_add]; omega
    rw [e]
    simp only [payT]
    split <;> omega
/-- payDen. -/
def PD : Int := 5354228880
theorem PD_eq : (5354228880 : Int) = PD := rfl
theorem PD_dvd {b : Int} (h1 : 1 ≤ b) (h2 : b ≤ 24) : b ∣ PD := by
  obtain ⟨n, rfl⟩ := Int.eq_ofNat_of_zero_le (show 0 ≤ b by omega)
  have h : ∀ n : Nat, n < 25 → 1 ≤ n → (n : Int) ∣ PD := by decide +kernel
  exact h n (by omega) (by omega)
theorem scN_rat {q : Rat} {D : Int} (h : (q.den : Int) ∣ D) : ((scN D (pr q) : Int) : Rat) = (D : Rat) * q := by
  obtain ⟨k, hk⟩ := h
  have hd := den_pos q
  have e : D / (q.den : Int) = k := by rw [hk, Int.mul_ediv_cancel_left _ (by omega)]
  have h0 : ((q.den : Int) : Rat) ≠ 0 := by
    intro h
    have : (q.den : Int) = 0 := by exact_mod_cast h
    omega
  show ((q.num * (D / (q.den : Int)) : Int) : Rat) = _
  rw [e, hk, Rat.intCast_mul, Rat.intCast_mul]
  have hq : q = (q.num : Rat) / ((q.den : Int) : Rat) := by
    conv => lhs; rw [← Rat.num_divInt_den q]
    rw [Rat.divInt_eq_div]
  have aux : ∀ (x n d : Rat), d ≠ 0 → x = n / d → d * x = n := by
    intro x n d h0 h
    rw [h, Rat.mul_comm, Rat.div_mul_cancel h0]
  have := aux q _ _ h0 hq
  rw [Rat.mul_comm ((q.den : Int) : Rat), Rat.mul_assoc, this, Rat.mul_comm]
theorem payT_rat {qs : List Rat} {D : Int} (h : ∀ q ∈ qs, (q.den : Int) ∣ D) (s k : Nat) (hk : k ≤ qs.length) : ((payT ((qs.map pr).map (scN D)) k s : Int) : Rat) = (D : Rat) * paysTo qs s k := by
  induction k with
  | zero => simp [payT, paysTo]
  | succ k ih =>
    have hq : qs[k]? = some qs[k] := List.getElem?_eq_getElem (by omega)
    have e1 : ((qs.map pr).map (scN D)).getD k 0 = scN D (pr qs[k]) := by rw [List.getD_eq_getElem?_getD]; simp [hq]
    have e2 : qs.getD k 0 = qs[k] := by rw [List.getD_eq_getElem?_getD, hq]; rfl
    rw [payT, paysTo_succ, e1, e2, Rat.intCast_add, ih (by omega)]
    split
    · rw [Int.mul_one, scN_rat (h _ (List.getElem_mem _)), Rat.mul_add]
    · rw [Int.mul_zero]; show _ + ((0 : Int) : Rat) = _; rw [Rat.intCast_zero, Rat.add_zero]
theorem PD_pos : (0 : Rat) < (PD : Rat) := by decide +kernel
theorem scN_bd {D a b : Int} (h : scB 24 a b = true) (hD : 0 ≤ D) : -(100000 * D) ≤ scN D (a, b) ∧ scN D (a, b) ≤ 100000 * D ∧ 0 ≤ D / b ∧ D / b ≤ D := by
  obtain ⟨h1, h2, h3, h4, _⟩ := scB_iff.1 h
  have e1 : D / b ≤ D := Int.ediv_le_self _ hD
  have e2 : 0 ≤ D / b := Int.ediv_nonneg hD (by omega)
  have := mul_bd (m := 100000) (by omega) h3 e2 e1
  exact ⟨this.1, this.2, e2, e1⟩
end Go.Proofs.Ytbidboagaoifaaa
