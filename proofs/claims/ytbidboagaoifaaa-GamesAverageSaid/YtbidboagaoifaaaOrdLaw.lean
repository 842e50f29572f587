/- When a list is an order of the players, by two ways: plain Lean. -/
import Derived.Test.YtbidboagaoifaaaJoinLaw
namespace Go.Proofs.Ytbidboagaoifaaa
open Go.RowKit

/-- The reference's way: nobody twice. -/
def ordRgo (n : Nat) : Nat → List Int → Bool
  | _, [] => true
  | met, x :: l => if x < 0 ∨ (n : Int) ≤ x ∨ met / 2 ^ x.toNat % 2 = 1 then false else ordRgo n (met ||| 2 ^ x.toNat) l
def ordR (n : Nat) (l : List Int) : Bool := ordRgo n 0 l && decide (l.length = n)
/-- The program's way: all are met. -/
def ordGgo (n : Nat) : Nat → List Int → Bool
  | set, [] => decide (set = 2 ^ n - 1)
  | set, x :: l => if x < 0 ∨ (n : Int) ≤ x then false else ordGgo n (set ||| 2 ^ x.toNat) l
def ordG (n : Nat) (l : List Int) : Bool := ordGgo n 0 l && decide (l.length = n)

theorem ordRgo_mem {n : Nat} {l : List Int} : ∀ {met}, ordRgo n met l = true → ∀ x ∈ l, 0 ≤ x ∧ x < n := by
  induction l with
  | nil => intro _ _ x hx; cases hx
  | cons y l ih =>
    intro met h x hx
    rw [ordRgo] at h
    split at h
    · cases h
    · rcases List.mem_cons.1 hx with rfl | hx
      · omega
      · exact ih h x hx
theorem ordGgo_mem {n : Nat} {l : List Int} : ∀ {met}, ordGgo n met l = true → ∀ x ∈ l, 0 ≤ x ∧ x < n := by
  induction l with
  | nil => intro _ _ x hx; cases hx
  | cons y l ih =>
    intro met h x hx
    rw [ordGgo] at h
    split at h
    · cases h
    · rcases List.mem_cons.1 hx with rfl | hx
      · omega
      · exact ih h x hx

theorem nats_of {n : Nat} {l : List Int} (h : ∀ x ∈ l, 0 ≤ x ∧ x < n) : ∃ os : List Nat, l = os.map Int.ofNat ∧ ∀ x ∈ os, x < n := by
  refine ⟨l.map Int.toNat, ?_, ?_⟩
  · rw [List.map_map]
    conv => lhs; rw [← List.map_id l]
    apply List.map_congr_left
    intro x hx
    have := (h x hx).1
    show x = ((x.toNat : Nat) : Int)
    omega
  · intro x hx
    obtain ⟨y, hy, rfl⟩ := List.mem_map.1 hx
    have := h y hy
    omega

set_option maxRecDepth 100000 in
theorem ord1 : ∀ a, a < 1 → ordG 1 [(a : Nat)] = ordR 1 [(a : Nat)] := by decide
set_option maxRecDepth 100000 in
theorem ord2 : ∀ a, a < 2 → ∀ b, b < 2 → ordG 2 [((a : Nat) : Int), ((b : Nat) : Int)] = ordR 2 [((a : Nat) : Int), ((b : Nat) : Int)] := by decide
set_option maxRecDepth 100000 in
theorem ord3 : ∀ a, a < 3 → ∀ b, b < 3 → ∀ c, c < 3 → ordG 3 [((a : Nat) : Int), ((b : Nat) : Int), ((c : Nat) : Int)] = ordR 3 [((a : Nat) : Int), ((b : Nat) : Int), ((c : Nat) : Int)] := by decide
set_option maxRecDepth 100000 in
theorem ord4 : ∀ a, a < 4 → ∀ b, b < 4 → ∀ c, c < 4 → ∀ d, d < 4 → ordG 4 [((a : Nat) : Int), ((b : Nat) : Int), ((c : Nat) : Int), ((d : Nat) : Int)] = ordR 4 [((a : Nat) : Int), ((b : Nat) : Int), ((c : Nat) : Int), ((d : Nat) : Int)] := by decide

theorem ordG_eq {n : Nat} (h1 : 1 ≤ n) (h4 : n ≤ 4) (l : List Int) : ordG n l = ordR n l := by
  by_cases hl : l.length = n
  · by_cases hm : ∀ x ∈ l, 0 ≤ x ∧ x < n
    · obtain ⟨os, rfl, hos⟩ := nats_of hm
      rw [List.length_map] at hl
      subst hl
      match os, h1, h4 with
      | [a], _, _ => exact ord1 a (hos a (by simp))
      | [a, b], _, _ => exact ord2 a (hos a (by simp)) b (hos b (by simp))
      | [a, b, c], _, _ => exact ord3 a (hos a (by simp)) b (hos b (by simp)) c (hos c (by simp))
      | [a, b, c, d], _, _ => exact ord4 a (hos a (by simp)) b (hos b (by simp)) c (hos c (by simp)) d (hos d (by simp))
      | _ :: _ :: _ :: _ :: _ :: _, _, h => exact absurd h (by simp)
    · have e1 : ordGgo n 0 l = false := by
        cases h : ordGgo n 0 l
        · rfl
        · exact absurd (ordGgo_mem h) hm
      have e2 : ordRgo n 0 l = false := by
        cases h : ordRgo n 0 l
        · rfl
        · exact absurd (ordRgo_mem h) hm
      simp [ordG, ordR, e1, e2]
  · simp [ordG, ordR, hl]
theorem ordR_nats {n : Nat} {l : List Int} (h : ordR n l = true) : ∃ os : List Nat, l = os.map Int.ofNat ∧ (∀ x ∈ os, x < n) ∧ os.length = n := by
  unfold ordR at h
  rw [Bool.and_eq_true, decide_eq_true_eq] at h
  obtain ⟨os, rfl, hos⟩ := nats_of (ordRgo_mem h.1)
  exact ⟨os, rfl, hos, by simpa using h.2⟩
end Go.Proofs.Ytbidboagaoifaaa
