/- The copies of arguments, read plainly. -/
import Derived.Test.YtkljambjdiblkaaSList
namespace Go.Proofs.Ytkljambjdiblkaa
open Go.RowKit

theorem lst_any (A : Option Addr) (n cap : Nat) (xs : List Int) (w : World) (hl : xs.length = n) (hc : n ≤ cap) (hm : cap ≤ 9223372036854775807) (h : Ints w A xs) :
    Calls Try.prog 20 #[.slice A n cap] w fun e w' => ∃ A' k c, e = .returned (.slice A' k c) ∧ (xs.take 9).length = k ∧ k ≤ 9 ∧ k ≤ c ∧ c ≤ 9223372036854775807 ∧ Ints w' A' (xs.take 9) ∧ Below w.heap.size w w' := by
  refine (list_any A n cap xs w hl hc hm h).mono ?_
  rintro e w' ⟨A', c, rfl, hown, hb⟩
  obtain ⟨_, _, he, h1, h2, _⟩ := own_form hown
  injection he with _ _ he
  subst he
  exact ⟨A', min n 9, c, rfl, by rw [List.length_take, hl, Nat.min_comm], by omega, h1, h2, At.of_own hown, hb⟩

end Go.Proofs.Ytkljambjdiblkaa
