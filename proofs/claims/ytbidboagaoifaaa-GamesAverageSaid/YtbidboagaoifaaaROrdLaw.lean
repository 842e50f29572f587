/- How many orders there are: plain Lean. -/
import Derived.Test.YtbidboagaoifaaaShapLaw
namespace Go.Proofs.Ytbidboagaoifaaa
theorem flatMap_len {α β : Type} (f : α → List β) (b : Nat) (l : List α) (h : ∀ x ∈ l, (f x).length ≤ b) : (l.flatMap f).length ≤ l.length * b := by
  induction l with
  | nil => simp
  | cons x l ih =>
    have h1 := h x (by simp)
    have h2 := ih fun y hy => h y (by simp [hy])
    simp only [List.flatMap_cons, List.length_append, List.length_cons, Nat.add_mul, Nat.one_mul]
    omega
theorem ext_lenP (n m : Nat) : ∀ pre, (ext n m pre).length ≤ n ^ m := by
  induction m with
  | zero => intro pre; simp [ext]
  | succ m ih =>
    intro pre
    have := flatMap_len (fun i => if i ∈ pre then [] else ext n m (pre ++ [i])) (n ^ m) (List.range n) (fun i _ => by
      split
      · simp
      · exact ih _)
    rw [List.length_range] at this
    rw [Nat.pow_succ, Nat.mul_comm]
    exact this
theorem extTo_lenP (n m : Nat) (pre : List Nat) (i : Nat) : (extTo n m pre i).length ≤ i * n ^ m := by
  have := flatMap_len (fun i => if i ∈ pre then [] else ext n m (pre ++ [i])) (n ^ m) (List.range i) (fun i _ => by
    split
    · simp
    · exact ext_lenP n m _)
  rwa [List.length_range] at this
theorem pow_small {n m : Nat} (hn : n ≤ 4) (hm : m ≤ 4) : n ^ m ≤ 256 := by
  calc n ^ m ≤ 4 ^ m := Nat.pow_le_pow_left hn m
    _ ≤ 4 ^ 4 := Nat.pow_le_pow_right (by omega) hm
    _ = 256 := rfl
theorem ext_mem {n m : Nat} : ∀ {pre}, (∀ x ∈ pre, x < n) → ∀ os ∈ ext n m pre, os.length = pre.length + m ∧ ∀ x ∈ os, x < n := by
  induction m with
  | zero => intro pre hp os ho; simp [ext] at ho; subst ho; exact ⟨rfl, hp⟩
  | succ m ih =>
    intro pre hp os ho
    simp only [ext, List.mem_flatMap, List.mem_range] at ho
    obtain ⟨i, hi, ho⟩ := ho
    split at ho
    · cases ho
    · have := ih (pre := pre ++ [i]) (by intro x hx; simp at hx; rcases hx with hx | rfl; exact hp x hx; exact hi) os ho
      simp at this
      exact ⟨by omega, this.2⟩
end Go.Proofs.Ytbidboagaoifaaa
