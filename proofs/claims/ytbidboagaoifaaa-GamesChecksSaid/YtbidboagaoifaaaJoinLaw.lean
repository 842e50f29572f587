/- What players pay in an order: plain Lean. -/
import Derived.Test.YtbidboagaoifaaaBits
namespace Go.Proofs.Ytbidboagaoifaaa
open Go.RowKit

/-- What one more player pays, and the set with that player. -/
def joinStep (c : List Int) (p : Nat × List Int) (i : Nat) : Nat × List Int := (p.1 ||| 2 ^ i, p.2.set i (c.getD (p.1 ||| 2 ^ i) 0 - c.getD p.1 0))
/-- What the players pay in an order. -/
def joinL (c : List Int) (os : List Nat) : List Int := (os.foldl (joinStep c) (0, List.replicate os.length 0)).2
def joinP (c : List Int) (n : Nat) (os : List Nat) : Nat × List Int := os.foldl (joinStep c) (0, List.replicate n 0)
theorem joinP_succ (c : List Int) (n : Nat) (os : List Nat) (k x : Nat) (h : os[k]? = some x) : joinP c n (os.take (k + 1)) = joinStep c (joinP c n (os.take k)) x := by
  unfold joinP
  rw [List.take_add_one, h]
  simp [List.foldl_append]
theorem joinP_bd (c : List Int) (n : Nat) (os : List Nat) (h : ∀ x ∈ os, x < n) : (joinP c n os).1 < 2 ^ n ∧ (joinP c n os).2.length = n := by
  unfold joinP
  suffices ∀ p : Nat × List Int, p.1 < 2 ^ n → p.2.length = n → (os.foldl (joinStep c) p).1 < 2 ^ n ∧ (os.foldl (joinStep c) p).2.length = n from this _ (by simp; exact Nat.pos_of_neZero _) (by simp)
  induction os with
  | nil => intro p h1 h2; exact ⟨h1, h2⟩
  | cons x os ih =>
    intro p h1 h2
    exact ih (fun y hy => h y (List.mem_cons_of_mem _ hy)) _ (or_pow_lt h1 (h x (List.mem_cons_self ..))) (by simp [joinStep, h2])

end Go.Proofs.Ytbidboagaoifaaa
