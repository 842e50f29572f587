/- A slice of slices of ints among a statement's arguments, opened. -/
import Derived.Test.YtkljambjdiblkaaRow
import Derived.Test.YtkljambjdiblkaaSMat
import Derived.Deep.SlicePairs
namespace Go.Proofs.Ytkljambjdiblkaa
open Go.ChangeShapes Go.WideShapes Go.ChangeAt Go.RowKit Go.Deep

section
variable {H : Type} {enc : TypeId × Value → H}
theorem open_intssI {W : World} {v : Value} {d : DataW H} {p : List MemPlace} {spare : Nat → Bool} {b : Nat} (h : DataW.Trod enc Try.prog W b spare true 22 v d p)
    (hv : ∃ a len cap, v = .slice a len cap) :
    ∃ A n cap V, v = .slice A n cap ∧ V.length = n ∧ n ≤ cap ∧ cap ≤ 9223372036854775807 ∧ Mat W A V ∧ ∀ r ∈ V, ∀ x ∈ r, -9223372036854775808 ≤ x ∧ x ≤ 9223372036854775807 := by
  obtain ⟨a0, len, cap, rfl⟩ := hv
  obtain ⟨fuel, hf⟩ := h
  rcases open_slice1 Try.underlying22 (by kernel_rfl) hf with ⟨hcs, _⟩ | ⟨a, len', cap', m, n, Vv, D, Pl, hcs, _, hl, hm, hmm, _, hall⟩
  · have e : Value.slice a0 len cap = .slice none 0 0 := by simpa [Value.cells] using hcs
    rw [e]
    exact ⟨none, 0, 0, [], rfl, rfl, by omega, by omega, Mat.nil, by simp⟩
  · have e : Value.slice a0 len cap = .slice (some a) len' cap' := by simpa [Value.cells] using hcs
    rw [e]
    have hlm : len' ≤ m := by rw [hmm]; split <;> omega
    have hint : ∀ i, i < len' → ∃ r : List Int, (∃ A' c, W.cell? (a.add i) = some (.slice A' r.length c) ∧ r.length ≤ c ∧ c ≤ 9223372036854775807 ∧ Ints W A' r) ∧ ∀ x ∈ r, -9223372036854775808 ≤ x ∧ x ≤ 9223372036854775807 := by
      intro i hi
      obtain ⟨hc, ht⟩ := hall i (by omega)
      rcases open_ints Try.underlying23 Try.underlying3 (by kernel_rfl) ht with ⟨hcs, _⟩ | ⟨a2, len2, cap2, zs, hcs, _, hl2, hm2, hz, _, hcell, hwz⟩
      · have e2 : Vv i = .slice none 0 0 := by simpa using hcs
        rw [e2] at hc
        exact ⟨[], ⟨none, 0, hc, Nat.le_refl _, by omega, Ints.nil⟩, by simp⟩
      · have e2 : Vv i = .slice (some a2) len2 cap2 := by simpa using hcs
        rw [e2] at hc
        have hzl : len2 ≤ zs.length := by rw [hz]; split <;> omega
        have hlen : (zs.take len2).length = len2 := by rw [List.length_take]; omega
        refine ⟨zs.take len2, ⟨some a2, cap2, by rw [hlen]; exact hc, by rw [hlen]; exact hl2, by unfold maxLen at hm2; omega, ?_⟩, ?_⟩
        · refine Ints.mk_ fun k x hx => ?_
          have hk : k < len2 := by
            have := (List.getElem?_eq_some_iff.1 hx).1; rw [List.length_take] at this; omega
          rw [List.getElem?_take_of_lt hk] at hx
          have := hcell k (by omega)
          rwa [List.getD_eq_getElem?_getD, hx] at this
        · intro x hx
          have := hwz x (List.mem_of_mem_take hx)
          simp [Lit.wf, IntKind.min, IntKind.max, IntKind.signed, IntKind.bits] at this
          omega
    obtain ⟨f, hf⟩ := choose_lt hint
    refine ⟨some a, len', cap', (List.range len').map f, rfl, by simp, hl, by unfold maxLen at hm; omega, ?_, ?_⟩
    · intro i r hr
      have hi : i < len' := by have := (List.getElem?_eq_some_iff.1 hr).1; simpa using this
      have hg : ((List.range len').map f)[i]? = some (f i) := by simp [hi]
      rw [hg] at hr
      injection hr with hr
      subst hr
      obtain ⟨⟨A', c, h1, h2, h3, h4⟩, _⟩ := hf i hi
      exact ⟨a, A', c, rfl, h1, h2, h3, h4⟩
    · intro r hr
      obtain ⟨i, hi, rfl⟩ := List.mem_map.1 hr
      exact (hf i (List.mem_range.1 hi)).2
end
end Go.Proofs.Ytkljambjdiblkaa
