/- All orders level by level, and what an order's payments sum to: plain Lean. -/
import Derived.Test.YtbidboagaoifaaaROrdLaw
import Derived.Test.YtbidboagaoifaaaOrdLaw
import Derived.Test.YtbidboagaoifaaaFairLaw
namespace Go.Proofs.Ytbidboagaoifaaa
open Go.RowKit

/-- The orders one player longer than o. -/
def stepTo (o : List Nat) (i : Nat) : List (List Nat) := (List.range i).flatMap fun i => if i ∈ o then [] else [o ++ [i]]
def stepL (n : Nat) (M : List (List Nat)) : List (List Nat) := M.flatMap fun o => stepTo o n
def stepI (n : Nat) : Nat → List (List Nat) → List (List Nat)
  | 0, M => M
  | k + 1, M => stepL n (stepI n k M)
/-- All beginnings of orders with k players. -/
def lv (n k : Nat) : List (List Nat) := stepI n k [[]]
theorem lv_succ (n k : Nat) : lv n (k + 1) = stepL n (lv n k) := rfl
theorem stepTo_succ (o : List Nat) (i : Nat) : stepTo o (i + 1) = stepTo o i ++ (if i ∈ o then [] else [o ++ [i]]) := by simp [stepTo, List.range_succ]
theorem stepL_take {n : Nat} {M : List (List Nat)} {j : Nat} {o : List Nat} (h : M[j]? = some o) : stepL n (M.take (j + 1)) = stepL n (M.take j) ++ stepTo o n := by
  rw [List.take_add_one, h]; simp [stepL]
theorem stepI_comm (n k : Nat) (M : List (List Nat)) : stepI n (k + 1) M = stepI n k (stepL n M) := by
  induction k with
  | zero => rfl
  | succ k ih => show stepL n (stepI n (k + 1) M) = stepL n (stepI n k (stepL n M)); rw [ih]
theorem stepI_ext (n m : Nat) : ∀ M, stepI n m M = M.flatMap (ext n m) := by
  induction m with
  | zero =>
    intro M
    show M = M.flatMap fun pre => [pre]
    simp
  | succ m ih =>
    intro M
    rw [stepI_comm, ih]
    unfold stepL stepTo
    rw [List.flatMap_assoc]
    congr 1
    funext o
    rw [List.flatMap_assoc]
    show _ = (List.range n).flatMap _
    congr 1
    funext i
    split <;> simp
theorem lv_ext (n : Nat) : lv n n = ext n n [] := by
  unfold lv; rw [stepI_ext]; simp
theorem stepTo_len (o : List Nat) (i : Nat) : (stepTo o i).length ≤ i := by
  have := flatMap_len (fun i => if i ∈ o then [] else [o ++ [i]]) 1 (List.range i) (fun i _ => by split <;> simp)
  rwa [List.length_range, Nat.mul_one] at this
theorem stepL_len (n : Nat) (M : List (List Nat)) : (stepL n M).length ≤ M.length * n := flatMap_len _ _ _ fun o _ => stepTo_len o n
theorem lv_len (n k : Nat) : (lv n k).length ≤ n ^ k := by
  induction k with
  | zero => simp [lv, stepI]
  | succ k ih =>
    rw [lv_succ, Nat.pow_succ]
    exact Nat.le_trans (stepL_len _ _) (Nat.mul_le_mul_right _ ih)
theorem lv_mem {n k : Nat} : ∀ os ∈ lv n k, os.length = k ∧ ∀ x ∈ os, x < n := by
  induction k with
  | zero => intro os h; simp [lv, stepI] at h; subst h; simp
  | succ k ih =>
    intro os h
    rw [lv_succ] at h
    simp only [stepL, stepTo, List.mem_flatMap, List.mem_range] at h
    obtain ⟨o, ho, i, hi, h⟩ := h
    split at h
    · cases h
    · simp at h
      subst h
      have := ih o ho
      refine ⟨by simp [this.1], fun x hx => ?_⟩
      rcases List.mem_append.1 hx with hx | hx
      · exact this.2 x hx
      · simp at hx; omega

theorem sum_set {l : List Int} {i : Nat} {y x : Int} (h : l[i]? = some y) : (l.set i x).sum = l.sum - y + x := by
  induction l generalizing i with
  | nil => simp at h
  | cons a l ih =>
    cases i with
    | zero => simp at h; subst h; simp; omega
    | succ i => simp at h; have := ih h; simp [this]; omega
theorem join_sum (c : List Int) : ∀ (os : List Nat) (p : Nat × List Int), os.Nodup → (∀ x ∈ os, p.2[x]? = some 0) → (os.foldl (joinStep c) p).2.sum = p.2.sum + c.getD (os.foldl (joinStep c) p).1 0 - c.getD p.1 0 := by
  intro os
  induction os with
  | nil => intro p _ _; simp only [List.foldl_nil]; omega
  | cons x os ih =>
    intro p hn h
    rw [List.foldl_cons]
    have hn' := List.nodup_cons.1 hn
    have hx := h x (by simp)
    rw [ih (joinStep c p x) hn'.2 (fun y hy => by
      have hne : x ≠ y := fun e => hn'.1 (e ▸ hy)
      simp only [joinStep]
      rw [List.getElem?_set_ne hne]
      exact h y (by simp [hy]))]
    have : (joinStep c p x).2.sum = p.2.sum - 0 + (c.getD (joinStep c p x).1 0 - c.getD p.1 0) := sum_set hx
    rw [this]
    omega
/-- The set of an order's players. -/
def setOfO (os : List Nat) : Nat := os.foldl (fun s i => s ||| 2 ^ i) 0
theorem join_set (c : List Int) (os : List Nat) : ∀ p : Nat × List Int, (os.foldl (joinStep c) p).1 = os.foldl (fun s i => s ||| 2 ^ i) p.1 := by
  induction os with
  | nil => intro p; rfl
  | cons x os ih => intro p; rw [List.foldl_cons, List.foldl_cons, ih]; rfl
set_option maxRecDepth 100000 in
theorem ext_facts {n : Nat} (h1 : 1 ≤ n) (h4 : n ≤ 4) : ∀ os ∈ ext n n [], os.Nodup ∧ setOfO os = 2 ^ n - 1 ∧ ordG n (os.map Int.ofNat) = true := by
  match n, h1, h4 with
  | 1, _, _ => decide +kernel
  | 2, _, _ => decide +kernel
  | 3, _, _ => decide +kernel
  | 4, _, _ => decide +kernel
theorem joinL_sum {c : List Int} {n : Nat} (h1 : 1 ≤ n) (h4 : n ≤ 4) (h0 : c.getD 0 0 = 0) {os : List Nat} (ho : os ∈ ext n n []) : (joinL c os).sum = c.getD (2 ^ n - 1) 0 := by
  obtain ⟨hn, hs, _⟩ := ext_facts h1 h4 os ho
  have hm := ext_mem (n := n) (m := n) (pre := []) (by simp) os ho
  have hl : os.length = n := by simpa using hm.1
  have := join_sum c os (0, List.replicate os.length 0) hn (fun x hx => by
    have := hm.2 x hx
    rw [List.getElem?_replicate, if_pos (by omega)])
  rw [join_set] at this
  unfold joinL
  rw [this]
  show _ + c.getD (setOfO os) 0 - _ = _
  rw [hs, h0]
  simp
theorem take_sum_succ {l : List Int} {k : Nat} {x : Int} (h : l[k]? = some x) : (l.take (k + 1)).sum = (l.take k).sum + x := by
  rw [take_succ' h]; simp
theorem take_sum_bd {l : List Int} (h : ∀ y ∈ l, -1000 ≤ y ∧ y ≤ 1000) (k : Nat) : -(1000 * k) ≤ (l.take k).sum ∧ (l.take k).sum ≤ 1000 * k := by
  induction k with
  | zero => simp
  | succ k ih =>
    cases hx : l[k]? with
    | none =>
      have : l.take (k + 1) = l.take k := by rw [List.take_add_one, hx]; simp
      rw [this]; omega
    | some x => rw [take_sum_succ hx]; have := h x (List.mem_of_getElem? hx); omega
end Go.Proofs.Ytbidboagaoifaaa
