/- What the Shapley payments keep: plain Lean. -/
import Derived.Test.YtbidboagaoifaaaSums
import Derived.Test.YtbidboagaoifaaaRatLaw
namespace Go.Proofs.Ytbidboagaoifaaa
open Go.RowKit

theorem add_same (a b F : Int) : Rat.divInt a F + Rat.divInt b F = Rat.divInt (a + b) F := by
  rw [Rat.divInt_eq_div, Rat.divInt_eq_div, Rat.divInt_eq_div, Rat.intCast_add, Rat.div_def, Rat.div_def, Rat.div_def, Rat.add_mul]
theorem divInt_cancel (x : Int) {F : Int} (h : F ≠ 0) : Rat.divInt (F * x) F = (x : Rat) := by
  rw [Rat.divInt_eq_div, Rat.intCast_mul, Rat.mul_comm, Rat.mul_div_cancel (by exact_mod_cast h)]

/-- The payments. -/
def shapL (c : List Int) (n : Nat) : List Rat := (sumsL c n).map fun s => Rat.divInt s ((ext n n []).length : Nat)
theorem ext_len {n : Nat} (h : n ≤ 4) : 1 ≤ (ext n n []).length ∧ (ext n n []).length ≤ 24 := by
  match n, h with
  | 0, _ => decide
  | 1, _ => decide
  | 2, _ => decide
  | 3, _ => decide +kernel
  | 4, _ => decide +kernel
theorem shapL_length (c : List Int) (n : Nat) : (shapL c n).length = n := by
  unfold shapL sumsL; rw [List.length_map, addAll_length]; simp

theorem addAll_bd {c : List Int} (hcb : ∀ x ∈ c, 0 ≤ x ∧ x ≤ 1000) (n : Nat) (L : List (List Nat)) : ∀ (sums : List Int) (m : Int), 0 ≤ m → (∀ y ∈ sums, -m ≤ y ∧ y ≤ m) → ∀ y ∈ addAll c n sums L, -(m + 1000 * L.length) ≤ y ∧ y ≤ m + 1000 * L.length := by
  induction L with
  | nil => intro sums m hm h y hy; have := h y hy; simp; omega
  | cons os L ih =>
    intro sums m hm h y hy
    have := ih (addUp sums (joinL c os) n) (m + 1000) (by omega) (addUp_bd h (joinL_bd hcb os) hm n) y hy
    simp only [List.length_cons]
    omega
theorem sums_bd {c : List Int} (hcb : ∀ x ∈ c, 0 ≤ x ∧ x ≤ 1000) {n : Nat} (h : n ≤ 4) : ∀ y ∈ sumsL c n, -24000 ≤ y ∧ y ≤ 24000 := by
  intro y hy
  have h1 := addAll_bd hcb n (ext n n []) (List.replicate n 0) 0 (by omega) (by intro z hz; rw [List.mem_replicate] at hz; omega) y hy
  have h2 := ext_len h
  omega
/-- Small fractions. -/
def smallQ (q : Rat) : Prop := (q.den : Int) ≤ 24 ∧ -100000 ≤ q.num ∧ q.num ≤ 100000
theorem shapL_small {c : List Int} (hcb : ∀ x ∈ c, 0 ≤ x ∧ x ≤ 1000) {n : Nat} (h : n ≤ 4) : ∀ q ∈ shapL c n, smallQ q := by
  intro q hq
  simp only [shapL, List.mem_map] at hq
  obtain ⟨s, hs, rfl⟩ := hq
  have h1 := sums_bd hcb h s hs
  have h2 := ext_len h
  have hF : (0 : Int) < ((ext n n []).length : Nat) := by omega
  have h3 := divInt_den_le (a := s) hF
  have h4 := divInt_bd (a := s) hF (m := 24000) h1.1 h1.2
  exact ⟨by omega, by omega, by omega⟩

/-- The payment of a set. -/
def paysL (qs : List Rat) (set : Nat) : Rat := (List.range qs.length).foldl (fun s i => if set.testBit i then s + qs.getD i 0 else s) 0
def paysTo (qs : List Rat) (set k : Nat) : Rat := (List.range k).foldl (fun s i => if set.testBit i then s + qs.getD i 0 else s) 0
theorem paysTo_succ (qs : List Rat) (set k : Nat) : paysTo qs set (k + 1) = if set.testBit k then paysTo qs set k + qs.getD k 0 else paysTo qs set k := by
  simp [paysTo, List.range_succ]

theorem F1 : (ext 1 1 []).length = 1 := by decide
theorem F2 : (ext 2 2 []).length = 2 := by decide
theorem F3 : (ext 3 3 []).length = 6 := by decide +kernel
theorem F4 : (ext 4 4 []).length = 24 := by decide +kernel

set_option maxHeartbeats 4000000 in
/-- The payments of all sum to the cost of all. -/
theorem shap_sum {c : List Int} {n : Nat} (hn : 1 ≤ n ∧ n ≤ 4) (hl : c.length = 2 ^ n) (h0 : c.getD 0 0 = 0) : paysL (shapL c n) (2 ^ n - 1) = ((c.getD (2 ^ n - 1) 0 : Int) : Rat) := by
  have key : ∀ (s x F : Int), F ≠ 0 → s = F * x → Rat.divInt s F = (x : Rat) := fun s x F hF h => by rw [h, divInt_cancel x hF]
  match n, hn with
  | 1, _ =>
    obtain ⟨c0, c1, rfl⟩ := list2 c hl
    simp only [List.getD_cons_zero] at h0
    unfold shapL
    rw [sums1, F1]
    simp only [paysL, List.map_cons, List.map_nil, List.length_cons, List.length_nil, List.range_succ, List.range_zero, List.nil_append, List.foldl_cons, List.foldl_nil, List.getD_cons_zero, Rat.zero_add]
    rw [if_pos (by decide)]
    exact key _ _ _ (by decide) (by show _ = 1 * c1; omega)
  | 2, _ =>
    obtain ⟨c0, c1, c2, c3, rfl⟩ := list4 c hl
    simp only [List.getD_cons_zero] at h0
    unfold shapL
    rw [sums2, F2]
    simp only [paysL, List.map_cons, List.map_nil, List.length_cons, List.length_nil, List.range_succ, List.range_zero, List.nil_append, List.cons_append, List.foldl_cons, List.foldl_nil, List.getD_cons_zero, List.getD_cons_succ, Rat.zero_add]
    rw [if_pos (by decide), if_pos (by decide), add_same]
    exact key _ _ _ (by decide) (by show _ = 2 * c3; omega)
  | 3, _ =>
    obtain ⟨c0, c1, c2, c3, c4, c5, c6, c7, rfl⟩ := list8 c hl
    simp only [List.getD_cons_zero] at h0
    unfold shapL
    rw [sums3, F3]
    simp only [paysL, List.map_cons, List.map_nil, List.length_cons, List.length_nil, List.range_succ, List.range_zero, List.nil_append, List.cons_append, List.foldl_cons, List.foldl_nil, List.getD_cons_zero, List.getD_cons_succ, Rat.zero_add]
    rw [if_pos (by decide), if_pos (by decide), if_pos (by decide), add_same, add_same]
    exact key _ _ _ (by decide) (by show _ = 6 * c7; omega)
  | 4, _ =>
    obtain ⟨c0, c1, c2, c3, c4, c5, c6, c7, c8, c9, c10, c11, c12, c13, c14, c15, rfl⟩ := list16 c hl
    simp only [List.getD_cons_zero] at h0
    unfold shapL
    rw [sums4, F4]
    simp only [paysL, List.map_cons, List.map_nil, List.length_cons, List.length_nil, List.range_succ, List.range_zero, List.nil_append, List.cons_append, List.foldl_cons, List.foldl_nil, List.getD_cons_zero, List.getD_cons_succ, Rat.zero_add]
    rw [if_pos (by decide), if_pos (by decide), if_pos (by decide), if_pos (by decide), add_same, add_same, add_same]
    refine key _ c15 ((24 : Nat) : Int) (by decide) ?_
    omega
end Go.Proofs.Ytbidboagaoifaaa
