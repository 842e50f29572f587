/- A slice of sets with shares among a statement's arguments, opened. -/
import Derived.Test.YtbidboagaoifaaaRowFracs
import Derived.Test.YtbidboagaoifaaaTps
namespace Go.Proofs.Ytbidboagaoifaaa
open Go.ChangeShapes Go.WideShapes Go.ChangeAt Go.RowKit Go.Deep

section
variable {H : Type} {enc : TypeId × Value → H}
theorem cellsOf_rpart : Try.prog.cellsOf 85 = 3 := by kernel_rfl
theorem cellsOf_frac : Try.prog.cellsOf 31 = 2 := by kernel_rfl
theorem cellsOf_int : Try.prog.cellsOf 3 = 1 := by kernel_rfl
set_option maxRecDepth 100000 in
theorem open_partsI {W : World} {v : Value} {d : DataW H} {p : List MemPlace} {spare : Nat → Bool} {b : Nat} (h : DataW.Trod enc Try.prog W b spare true 56 v d p)
    (hv : ∃ a len cap, v = .slice a len cap) :
    ∃ A n cap ts, v = .slice A n cap ∧ ts.length = n ∧ n ≤ cap ∧ cap ≤ 9223372036854775807 ∧ Tps W A ts ∧ ∀ t ∈ ts, (-9223372036854775808 ≤ t.1 ∧ t.1 ≤ 9223372036854775807) ∧ (-9223372036854775808 ≤ t.2.1 ∧ t.2.1 ≤ 9223372036854775807) ∧ -9223372036854775808 ≤ t.2.2 ∧ t.2.2 ≤ 9223372036854775807 := by
  obtain ⟨a0, len, cap, rfl⟩ := hv
  obtain ⟨fuel, hf⟩ := h
  rcases open_slice Try.underlying56 hf with ⟨hcs, _⟩ | ⟨a, len', cap', m, n, D, Pl, hcs, _, hl, hm, hmm, _, hall⟩
  · have e : Value.slice a0 len cap = .slice none 0 0 := by simpa [Value.cells] using hcs
    rw [e]
    exact ⟨none, 0, 0, [], rfl, rfl, by omega, by omega, At.nil, by simp⟩
  · have e : Value.slice a0 len cap = .slice (some a) len' cap' := by simpa [Value.cells] using hcs
    rw [e]
    have hlm : len' ≤ m := by rw [hmm]; split <;> omega
    have hint : ∀ i, i < len' → ∃ q : Pt, W.cell? (a.add (i * 3)) = some (.int .i64 q.1) ∧ W.cell? (a.add (i * 3 + 1)) = some (.int .i64 q.2.1) ∧ W.cell? (a.add (i * 3 + 2)) = some (.int .i64 q.2.2) ∧
        (-9223372036854775808 ≤ q.1 ∧ q.1 ≤ 9223372036854775807) ∧ (-9223372036854775808 ≤ q.2.1 ∧ q.2.1 ≤ 9223372036854775807) ∧ -9223372036854775808 ≤ q.2.2 ∧ q.2.2 ≤ 9223372036854775807 := by
      intro i hi
      obtain ⟨cs', hc, ht⟩ := hall i (by omega)
      rw [cellsOf_rpart] at hc
      obtain ⟨_, hlen, hcell⟩ := World.cells?_some hc
      obtain ⟨xs, k, _, _, _, hxl, hfs⟩ := DataW.trod_struct Try.underlying85 ht
      match cs', hlen with
      | [v0, v1, v2], _ =>
        have f0 : DataW.trod enc Try.prog W b spare true k 3 ((List.drop 0 [v0, v1, v2]).take (Try.prog.cellsOf 3)) = xs[0]? := hfs 0 _ rfl
        have f1 : DataW.trod enc Try.prog W b spare true k 31 ((List.drop 1 [v0, v1, v2]).take (Try.prog.cellsOf 31)) = xs[1]? := hfs 1 _ rfl
        rw [cellsOf_int] at f0
        rw [cellsOf_frac] at f1
        rw [List.getElem?_eq_getElem (by rw [hxl]; decide)] at f0 f1
        obtain ⟨x, hx, _, hwx⟩ := DataW.trod_int Try.underlying3 f0
        obtain ⟨ys, k2, _, _, _, hyl, hgs⟩ := DataW.trod_struct Try.underlying31 f1
        have g0 : DataW.trod enc Try.prog W b spare true k2 3 ((List.drop 0 ((List.drop 1 [v0, v1, v2]).take 2)).take (Try.prog.cellsOf 3)) = ys[0]? := hgs 0 _ rfl
        have g1 : DataW.trod enc Try.prog W b spare true k2 3 ((List.drop 1 ((List.drop 1 [v0, v1, v2]).take 2)).take (Try.prog.cellsOf 3)) = ys[1]? := hgs 1 _ rfl
        rw [cellsOf_int] at g0 g1
        rw [List.getElem?_eq_getElem (by rw [hyl]; decide)] at g0 g1
        obtain ⟨y, hy, _, hwy⟩ := DataW.trod_int Try.underlying3 g0
        obtain ⟨z, hz, _, hwz⟩ := DataW.trod_int Try.underlying3 g1
        simp at hx hy hz
        subst hx; subst hy; subst hz
        have k0 := hcell 0 (by omega)
        have k1 := hcell 1 (by omega)
        have k2 := hcell 2 (by omega)
        rw [Go.Deep.add_add] at k0 k1 k2
        refine ⟨(x, y, z), k0, k1, k2, ?_, ?_, ?_⟩
        · simp [Lit.wf, IntKind.min, IntKind.max, IntKind.signed, IntKind.bits] at hwx
          simp only; omega
        · simp [Lit.wf, IntKind.min, IntKind.max, IntKind.signed, IntKind.bits] at hwy
          simp only; omega
        · simp [Lit.wf, IntKind.min, IntKind.max, IntKind.signed, IntKind.bits] at hwz
          simp only; omega
    obtain ⟨f, hf⟩ := choose_lt hint
    refine ⟨some a, len', cap', (List.range len').map f, rfl, by simp, hl, by unfold maxLen at hm; omega, ?_, ?_⟩
    · intro i u hu
      refine ⟨a, rfl, ?_⟩
      have hlt : i < ((List.range len').map f).length * 3 := by
        have := (List.getElem?_eq_some_iff.1 hu).1
        rwa [tcells_length] at this
      simp only [List.length_map, List.length_range] at hlt
      have hk : i / 3 < len' := by omega
      have hg : ((List.range len').map f)[i / 3]? = some (f (i / 3)) := by simp [hk]
      obtain ⟨h1, h2, h3⟩ := tcells_at _ _ _ hg
      obtain ⟨g1, g2, g3, _⟩ := hf (i / 3) hk
      have hcase : i / 3 * 3 = i ∨ i / 3 * 3 + 1 = i ∨ i / 3 * 3 + 2 = i := by omega
      rcases hcase with h | h | h
      · rw [h] at h1 g1
        rw [h1] at hu
        injection hu with hu
        rw [g1, hu]
      · rw [h] at h2 g2
        rw [h2] at hu
        injection hu with hu
        rw [g2, hu]
      · rw [h] at h3 g3
        rw [h3] at hu
        injection hu with hu
        rw [g3, hu]
    · intro q hq
      obtain ⟨i, hi, rfl⟩ := List.mem_map.1 hq
      rw [List.mem_range] at hi
      exact (hf i hi).2.2.2
end
end Go.Proofs.Ytbidboagaoifaaa
