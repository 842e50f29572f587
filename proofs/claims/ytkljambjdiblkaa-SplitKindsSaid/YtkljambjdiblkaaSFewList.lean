/- Copies of values and of a division, at once. -/
import Derived.Test.YtkljambjdiblkaaSLst
import Derived.Test.YtkljambjdiblkaaLawSBetter
namespace Go.Proofs.Ytkljambjdiblkaa
open Go.RowKit

/-- Values and a division that are valid. -/
theorem good_few {V : List (List Int)} {d : List Int} (h : (valV V && divV V d) = true) : valV V = true ∧ divV V d = true ∧ fewV V = V ∧ d.take 9 = d := by
  simp only [Bool.and_eq_true] at h
  obtain ⟨v1, v2, v3⟩ := valV_iff.1 h.1
  refine ⟨h.1, h.2, fewV_ok h.1, List.take_of_length_le ?_⟩
  have hd := h.2
  unfold divV at hd
  simp only [Bool.and_eq_true, decide_eq_true_eq] at hd
  omega
/-- Few, read plainly. -/
theorem few2_any (A : Option Addr) (n cap : Nat) (V : List (List Int)) (w : World) (hl : V.length = n) (hn : n ≤ 9223372036854775807) (hV : Mat w A V) :
    Calls Try.prog 19 #[.slice A n cap] w fun e w' => ∃ A' q c, e = .returned (.slice A' q c) ∧ (fewV V).length = q ∧ q ≤ 6 ∧ q ≤ c ∧ c ≤ 9223372036854775807 ∧ Mat w' A' (fewV V) ∧ Below w.heap.size w w' :=
  (few_any A n cap V w hl hn hV).mono fun _ _ ⟨A', q, c, h1, h2, h3⟩ => ⟨A', q, c, h1, h2.symm, h3⟩
theorem awake2_any (w0 w : World) (h : Below w0.heap.size w0 w) : Calls Try.prog 22 #[] w fun e w' => e = .returned (.bool true) ∧ Below w0.heap.size w0 w' := by
  refine (awake_any w).mono ?_
  rintro e w' ⟨rfl, hb⟩
  exact ⟨rfl, h.trans (hb.mono h.size)⟩
end Go.Proofs.Ytkljambjdiblkaa
