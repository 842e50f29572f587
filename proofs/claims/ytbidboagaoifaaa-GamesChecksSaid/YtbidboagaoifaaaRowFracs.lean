/- A slice of fractions among a statement's arguments, opened. -/
import Derived.Test.YtbidboagaoifaaaRow
import Derived.Test.YtbidboagaoifaaaPairLaw
import Derived.Deep.SlicePairs
namespace Go.Proofs.Ytbidboagaoifaaa
open Go.ChangeShapes Go.WideShapes Go.ChangeAt Go.RowKit Go.Deep

section
variable {H : Type} {enc : TypeId × Value → H}
theorem open_fracsI {W : World} {v : Value} {d : DataW H} {p : List MemPlace} {spare : Nat → Bool} {b : Nat} (h : DataW.Trod enc Try.prog W b spare true 23 v d p)
    (hv : ∃ a len cap, v = .slice a len cap) :
    ∃ A n cap ps, v = .slice A n cap ∧ ps.length = n ∧ n ≤ cap ∧ cap ≤ 9223372036854775807 ∧ Prs W A ps ∧ ∀ p ∈ ps, (-9223372036854775808 ≤ p.1 ∧ p.1 ≤ 9223372036854775807) ∧ -9223372036854775808 ≤ p.2 ∧ p.2 ≤ 9223372036854775807 := by
  obtain ⟨a0, len, cap, rfl⟩ := hv
  obtain ⟨fuel, hf⟩ := h
  rcases open_slice_pairs Try.underlying23 Try.underlying31 (by kernel_rfl) rfl rfl (by kernel_rfl) (by kernel_rfl) hf with ⟨hcs, _⟩ | ⟨a, len', cap', m, n, V0, V1, D0, D1, P0, P1, hcs, _, hl, hm, hmm, _, hall⟩
  · have e : Value.slice a0 len cap = .slice none 0 0 := by simpa [Value.cells] using hcs
    rw [e]
    exact ⟨none, 0, 0, [], rfl, rfl, by omega, by omega, At.nil, by simp⟩
  · have e : Value.slice a0 len cap = .slice (some a) len' cap' := by simpa [Value.cells] using hcs
    rw [e]
    have hlm : len' ≤ m := by rw [hmm]; split <;> omega
    have hint : ∀ i, i < len' → ∃ q : Int × Int, W.cell? (a.add (i * 2)) = some (.int .i64 q.1) ∧ W.cell? (a.add (i * 2 + 1)) = some (.int .i64 q.2) ∧ (-9223372036854775808 ≤ q.1 ∧ q.1 ≤ 9223372036854775807) ∧ -9223372036854775808 ≤ q.2 ∧ q.2 ≤ 9223372036854775807 := by
      intro i hi
      obtain ⟨h1, h2, h3, h4⟩ := hall i (by omega)
      obtain ⟨x, hx, _, hwx⟩ := DataW.trod_int Try.underlying3 h3
      obtain ⟨y, hy, _, hwy⟩ := DataW.trod_int Try.underlying3 h4
      simp only [List.cons.injEq, and_true] at hx hy
      rw [hx] at h1
      rw [hy] at h2
      refine ⟨(x, y), h1, h2, ?_, ?_⟩
      · simp [Lit.wf, IntKind.min, IntKind.max, IntKind.signed, IntKind.bits] at hwx
        simp only; omega
      · simp [Lit.wf, IntKind.min, IntKind.max, IntKind.signed, IntKind.bits] at hwy
        simp only; omega
    obtain ⟨f, hf⟩ := choose_lt hint
    refine ⟨some a, len', cap', (List.range len').map f, rfl, by simp, hl, by unfold maxLen at hm; omega, ?_, ?_⟩
    · intro i u hu
      refine ⟨a, rfl, ?_⟩
      have hlt : i < ((List.range len').map f).length * 2 := by
        have := (List.getElem?_eq_some_iff.1 hu).1
        rwa [pcells_length] at this
      simp only [List.length_map, List.length_range] at hlt
      have hk : i / 2 < len' := by omega
      have hg : ((List.range len').map f)[i / 2]? = some (f (i / 2)) := by simp [hk]
      obtain ⟨h1, h2⟩ := pcells_at _ _ _ hg
      obtain ⟨g1, g2, _⟩ := hf (i / 2) hk
      by_cases hpar : i % 2 = 0
      · have : i / 2 * 2 = i := by omega
        rw [this] at h1 g1
        rw [h1] at hu
        injection hu with hu
        rw [g1, hu]
      · have : i / 2 * 2 + 1 = i := by omega
        rw [this] at h2 g2
        rw [h2] at hu
        injection hu with hu
        rw [g2, hu]
    · intro q hq
      obtain ⟨i, hi, rfl⟩ := List.mem_map.1 hq
      rw [List.mem_range] at hi
      exact (hf i hi).2.2
end
end Go.Proofs.Ytbidboagaoifaaa
