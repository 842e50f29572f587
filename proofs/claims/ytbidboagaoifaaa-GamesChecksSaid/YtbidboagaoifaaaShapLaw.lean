/- The orders of players and the sums over them: plain Lean. -/
import Derived.Test.YtbidboagaoifaaaJoinLaw
import Derived.Test.YtbidboagaoifaaaCosts
namespace Go.Proofs.Ytbidboagaoifaaa
open Go.RowKit

/-- sums with the first k numbers of js added. -/
def addUp (sums js : List Int) : Nat → List Int
  | 0 => sums
  | k + 1 => (addUp sums js k).set k ((addUp sums js k).getD k 0 + js.getD k 0)
theorem addUp_length (sums js : List Int) (k : Nat) : (addUp sums js k).length = sums.length := by
  induction k with
  | zero => rfl
  | succ k ih => simp [addUp, ih]
theorem addUp_get (sums js : List Int) (k i : Nat) (hi : i < sums.length) : (addUp sums js k).getD i 0 = if i < k then sums.getD i 0 + js.getD i 0 else sums.getD i 0 := by
  induction k with
  | zero => simp [addUp]
  | succ k ih =>
    have hl := addUp_length sums js k
    simp only [addUp, List.getD_eq_getElem?_getD, List.getElem?_set] at ih ⊢
    by_cases h : k = i
    · subst h
      rw [if_pos rfl, if_pos (by omega), if_pos (by omega)]
      simp only [Option.getD_some]
      rw [ih, if_neg (by omega)]
    · rw [if_neg h, ih]
      split <;> split <;> first | rfl | omega

/-- All orders of n players that begin with pre, m being left to come. -/
def ext (n : Nat) : Nat → List Nat → List (List Nat)
  | 0, pre => [pre]
  | m + 1, pre => (List.range n).flatMap fun i => if i ∈ pre then [] else ext n m (pre ++ [i])
/-- The part of them whose next player is below i. -/
def extTo (n m : Nat) (pre : List Nat) (i : Nat) : List (List Nat) := (List.range i).flatMap fun i => if i ∈ pre then [] else ext n m (pre ++ [i])
theorem ext_eq (n m : Nat) (pre : List Nat) : ext n (m + 1) pre = extTo n m pre n := rfl
theorem extTo_succ (n m : Nat) (pre : List Nat) (i : Nat) : extTo n m pre (i + 1) = extTo n m pre i ++ (if i ∈ pre then [] else ext n m (pre ++ [i])) := by
  simp [extTo, List.range_succ]
theorem extTo_le (n m : Nat) (pre : List Nat) (i j : Nat) (h : i ≤ j) : (extTo n m pre i).length ≤ (extTo n m pre j).length := by
  induction j with
  | zero => obtain rfl : i = 0 := by omega
            exact Nat.le_refl _
  | succ j ih =>
    rcases Nat.lt_or_ge j i with h1 | h1
    · obtain rfl : i = j + 1 := by omega
      exact Nat.le_refl _
    · rw [extTo_succ, List.length_append]; have := ih h1; omega

/-- The sums after all orders of a list have been added. -/
def addAll (c : List Int) (n : Nat) (sums : List Int) (L : List (List Nat)) : List Int := L.foldl (fun s os => addUp s (joinL c os) n) sums
theorem addAll_append (c : List Int) (n : Nat) (sums : List Int) (L M : List (List Nat)) : addAll c n sums (L ++ M) = addAll c n (addAll c n sums L) M := by
  simp [addAll, List.foldl_append]
theorem addAll_length (c : List Int) (n : Nat) (sums : List Int) (L : List (List Nat)) : (addAll c n sums L).length = sums.length := by
  induction L generalizing sums with
  | nil => rfl
  | cons os L ih => simp only [addAll, List.foldl_cons] at ih ⊢; rw [ih, addUp_length]

theorem costs_get {c : List Int} (hcb : ∀ x ∈ c, 0 ≤ x ∧ x ≤ 1000) (i : Nat) : 0 ≤ c.getD i 0 ∧ c.getD i 0 ≤ 1000 := by
  rw [List.getD_eq_getElem?_getD]
  cases h : c[i]? with
  | none => simp
  | some x => exact hcb x (List.mem_of_getElem? h)
theorem joinL_bd {c : List Int} (hcb : ∀ x ∈ c, 0 ≤ x ∧ x ≤ 1000) (os : List Nat) : ∀ y ∈ joinL c os, -1000 ≤ y ∧ y ≤ 1000 := by
  unfold joinL
  suffices ∀ p : Nat × List Int, (∀ y ∈ p.2, -1000 ≤ y ∧ y ≤ 1000) → ∀ y ∈ (os.foldl (joinStep c) p).2, -1000 ≤ y ∧ y ≤ 1000 from
    this _ (by intro y hy; rw [List.mem_replicate] at hy; omega)
  induction os with
  | nil => intro p h; exact h
  | cons x os ih =>
    intro p h
    refine ih _ fun y hy => ?_
    rcases List.mem_or_eq_of_mem_set hy with hy | rfl
    · exact h y hy
    · have h1 := costs_get hcb (p.1 ||| 2 ^ x); have h2 := costs_get hcb p.1; omega
theorem getD_bd {l : List Int} {m : Int} (h : ∀ y ∈ l, -m ≤ y ∧ y ≤ m) (hm : 0 ≤ m) (i : Nat) : -m ≤ l.getD i 0 ∧ l.getD i 0 ≤ m := by
  rw [List.getD_eq_getElem?_getD]
  cases hh : l[i]? with
  | none => simp; omega
  | some x => exact h x (List.mem_of_getElem? hh)
theorem addUp_bd {sums js : List Int} {m : Int} (hs : ∀ y ∈ sums, -m ≤ y ∧ y ≤ m) (hj : ∀ y ∈ js, -1000 ≤ y ∧ y ≤ 1000) (hm : 0 ≤ m) (k : Nat) : ∀ y ∈ addUp sums js k, -(m + 1000) ≤ y ∧ y ≤ m + 1000 := by
  intro y hy
  obtain ⟨i, hi, rfl⟩ := List.getElem_of_mem hy
  rw [addUp_length] at hi
  have h := addUp_get sums js k i hi
  rw [List.getD_eq_getElem?_getD, List.getElem?_eq_getElem (by rw [addUp_length]; exact hi)] at h
  simp only [Option.getD_some] at h
  rw [h]
  have h1 := getD_bd hs hm i
  have h2 := getD_bd hj (by omega) i
  split <;> omega
end Go.Proofs.Ytbidboagaoifaaa
