/- What a slice of slices of ints holds. -/
import Derived.Test.YtkljambjdiblkaaApp2
namespace Go.Proofs.Ytkljambjdiblkaa
open Go.RowKit

/-- One of the inner slices: it holds ints, and lies where the row that holds the slices cannot. -/
def Row1 (w : World) (b : Nat) (v : Value) (os : List Int) : Prop :=
  ∃ A c, v = .slice A os.length c ∧ os.length ≤ c ∧ c ≤ 9223372036854775807 ∧ Ints w A os ∧ ∀ ad, A = some ad → ad.block < b ∨ ∃ cs f, w.heap[ad.block]? = some (.cells cs 3 f)
def Rows (w : World) (b : Nat) (vs : List Value) (L : List (List Int)) : Prop :=
  vs.length = L.length ∧ ∀ (j : Nat) (os : List Int), L[j]? = some os → ∃ v, vs[j]? = some v ∧ Row1 w b v os

theorem Row1.below {w w' : World} {b : Nat} {v : Value} {os : List Int} (h : Row1 w b v os) (hb : Below w.heap.size w w') : Row1 w' b v os := by
  obtain ⟨A, c, hv, h1, h2, h3, h4⟩ := h
  refine ⟨A, c, hv, h1, h2, h3.below hb, fun ad hA => ?_⟩
  rcases h4 ad hA with h | ⟨cs, f, h⟩
  · exact .inl h
  · exact .inr ⟨cs, f, (hb.block _ (lt_of_block h)).trans h⟩
theorem Row1.mono {w : World} {b b' : Nat} {v : Value} {os : List Int} (h : Row1 w b v os) (hb : b ≤ b') : Row1 w b' v os := by
  obtain ⟨A, c, hv, h1, h2, h3, h4⟩ := h
  refine ⟨A, c, hv, h1, h2, h3, fun ad hA => ?_⟩
  rcases h4 ad hA with h | h
  · exact .inl (by omega)
  · exact .inr h
theorem Row1.of_own {w : World} {base n c : Nat} {A : Option Addr} {os : List Int} (h : w.ownsRow base 3 1 (.slice A n c) n (os.map (Value.int .i64))) (b : Nat) : Row1 w b (.slice A n c) os := by
  obtain ⟨A', c', he, h1, h2, _⟩ := own_form h
  injection he with e1 e2 e3
  subst e1; subst e3
  have hl : os.length = n := by have := h.1; simpa using this
  subst hl
  refine ⟨A, c, rfl, h1, h2, At.of_own h, fun ad hA => .inr ?_⟩
  rcases h.2 with ⟨h0, _⟩ | ⟨g, cap, cur, hv, _, hg, _⟩
  · rw [hA] at h0; cases h0
  · rw [hA] at hv
    injection hv with e1 _ _
    injection e1 with e1
    subst e1
    exact ⟨cur, _, hg⟩
theorem Row1.grown {w w' : World} {b base n : Nat} {v v' : Value} {os : List Int} {xs : List Value} (h : Row1 w b v os) (hown : w.ownsRow base 23 1 v' n xs) (hb : b ≤ base) (hg : w.grownBy w' v'.ownBlock) : Row1 w' b v os := by
  obtain ⟨A, c, hv, h1, h2, h3, h4⟩ := h
  have key : ∀ ad, A = some ad → (ad.block < b ∨ ∃ cs f, w.heap[ad.block]? = some (.cells cs 3 f)) → some ad.block ≠ v'.ownBlock := by
    intro ad hA hc he
    rcases hown.2 with ⟨h0, _⟩ | ⟨g, cap, cur, hv', hbg, hgg, _⟩
    · subst h0; cases he
    · subst hv'
      injection he with he
      rcases hc with hc | ⟨cs, f, hc⟩
      · have : ad.block = g := he
        omega
      · have : ad.block = g := he
        rw [this, hgg] at hc
        injection hc with hc
        injection hc with _ hc _
        exact absurd hc (by decide)
  refine ⟨A, c, hv, h1, h2, ?_, fun ad hA => ?_⟩
  · intro i u hu
    obtain ⟨ad, hA, hcell⟩ := h3 i u hu
    refine ⟨ad, hA, hg.cell hcell ?_⟩
    rw [add_block]
    exact key ad hA (h4 ad hA)
  · rcases h4 ad hA with h | ⟨cs, f, h⟩
    · exact .inl h
    · exact .inr ⟨cs, f, (hg.block _ (lt_of_block h) (key ad hA (h4 ad hA))).trans h⟩
theorem Row1.one {w : World} {b : Nat} {v : Value} {os : List Int} (h : Row1 w b v os) : v.oneCell' = true := by
  obtain ⟨A, c, rfl, _⟩ := h; rfl

section
variable {w w' : World} {b b' : Nat} {vs vs' : List Value} {L L' : List (List Int)}
theorem Rows.nil : Rows w b [] [] := ⟨rfl, fun j os h => by simp at h⟩
theorem Rows.below (h : Rows w b vs L) (hb : Below w.heap.size w w') : Rows w' b vs L :=
  ⟨h.1, fun j os hj => by obtain ⟨v, hv, hr⟩ := h.2 j os hj; exact ⟨v, hv, hr.below hb⟩⟩
theorem Rows.mono (h : Rows w b vs L) (hb : b ≤ b') : Rows w b' vs L :=
  ⟨h.1, fun j os hj => by obtain ⟨v, hv, hr⟩ := h.2 j os hj; exact ⟨v, hv, hr.mono hb⟩⟩
theorem Rows.grown {base n : Nat} {v' : Value} {xs : List Value} (h : Rows w b vs L) (hown : w.ownsRow base 23 1 v' n xs) (hb : b ≤ base) (hg : w.grownBy w' v'.ownBlock) : Rows w' b vs L :=
  ⟨h.1, fun j os hj => by obtain ⟨v, hv, hr⟩ := h.2 j os hj; exact ⟨v, hv, hr.grown hown hb hg⟩⟩
theorem Rows.append (h : Rows w b vs L) (h' : Rows w b vs' L') : Rows w b (vs ++ vs') (L ++ L') := by
  refine ⟨by rw [List.length_append, List.length_append, h.1, h'.1], fun j os hj => ?_⟩
  by_cases hlt : j < L.length
  · rw [List.getElem?_append_left hlt] at hj
    rw [List.getElem?_append_left (by rw [h.1]; exact hlt)]
    exact h.2 j os hj
  · rw [List.getElem?_append_right (by omega)] at hj
    rw [List.getElem?_append_right (by rw [h.1]; omega), h.1]
    exact h'.2 _ os hj
theorem Rows.one_ {v : Value} {os : List Int} (h : Row1 w b v os) : Rows w b [v] [os] :=
  ⟨rfl, fun j x hj => by cases j with
    | zero => simp at hj; subst hj; exact ⟨v, rfl, h⟩
    | succ j => simp at hj⟩
theorem Rows.one (h : Rows w b vs L) : ∀ u ∈ vs, u.oneCell' = true := by
  intro u hu
  obtain ⟨j, hj⟩ := List.getElem?_of_mem hu
  have hlt : j < L.length := by have := (List.getElem?_eq_some_iff.1 hj).1; have := h.1; omega
  obtain ⟨v, hv, hr⟩ := h.2 j _ (List.getElem?_eq_getElem hlt)
  rw [hj] at hv
  injection hv with hv
  subst hv
  exact hr.one
end

theorem info_ints : (Try.prog.info? 23).map (fun i => (i.zero, i.size, i.bytes)) = some (some (.slice none 0 0), 1, 24) := by kernel_rfl
theorem sty_intss : STy 22 23 (.slice none 0 0) 1 24 := ⟨Try.underlying22, info_ints, rfl, by decide, by decide⟩
end Go.Proofs.Ytkljambjdiblkaa
