/- Contract: Better of the reference (package corrodyref01). -/
import Derived.Test.YtkljambjdiblkaaSIsBetter
import Derived.Test.YtkljambjdiblkaaSDivs
namespace Go.Proofs.Ytkljambjdiblkaa
open Go.RowKit

/-- What Better of the reference leaves, and that of the program: the first better division of the list. -/
def BetPost (o : Option (List Int)) (w : World) (e : Ending) (w' : World) : Prop :=
  (o = none ∧ e = .returned (.tuple #[.slice none 0 0, .int .i64 4]) ∧ Below w.heap.size w w') ∨
  ∃ a A c, o = some a ∧ e = .returned (.tuple #[.slice A a.length c, .int .i64 0]) ∧ a.length ≤ 7 ∧ Ints w' A a ∧ Below w.heap.size w w'

def better (V : List (List Int)) (d : List Int) (a : List Int) : Bool := bet (ownV V a V.length) (ownV V d V.length)

theorem find_take {α : Type} {p : α → Bool} {L : List α} {k : Nat} {x : α} (h : L[k]? = some x) (hn : (L.take k).find? p = none) (hx : p x = true) : L.find? p = some x := by
  have hk : k < L.length := (List.getElem?_eq_some_iff.1 h).1
  rw [← List.take_append_drop k L, List.find?_append, hn, List.drop_eq_getElem_cons hk]
  have : L[k] = x := by have := List.getElem?_eq_getElem hk; rw [h] at this; injection this with this; exact this.symm
  rw [this]
  simp [hx]
theorem find_on {α : Type} {p : α → Bool} {L : List α} {k : Nat} {x : α} (h : L[k]? = some x) (hn : (L.take k).find? p = none) (hx : p x = false) : (L.take (k + 1)).find? p = none := by
  rw [List.take_add_one, h, List.find?_append, hn]; simp [hx]

set_option maxRecDepth 100000 in
set_option maxHeartbeats 1600000 in
theorem r1better_any (A D : Option Addr) (n cap capd m : Nat) (V : List (List Int)) (d : List Int) (w : World) (hl : V.length = n) (hn : 1 ≤ n ∧ n ≤ 4) (hm : m = (rowV V 0).length) (hm7 : 1 ≤ m ∧ m ≤ 7) (hld : d.length = m)
    (hr : ∀ i, i < n → (rowV V i).length = m ∧ ∀ x ∈ rowV V i, 0 ≤ x ∧ x ≤ 100) (hV : Mat w A V) (hD : Ints w D d) :
    Calls Try.prog 23 #[.slice A n cap, .slice D m capd] w (BetPost ((divs n m).find? (better V d)) w) := by
  obtain ⟨ad, rfl, had, hc⟩ := hV.some_ (by omega)
  obtain ⟨A0, c0, g1, g2, g3, g4⟩ := hc 0 _ (List.getElem?_eq_getElem (by omega))
  have e : (V[0]'(by omega)).length = m := by rw [hm, rowV_get (List.getElem?_eq_getElem (by omega))]
  rw [e] at g1 g2
  have g1' : w.cell? ad = some (.slice A0 m c0) := g1
  have l0 : (0 : Int) < (n : Int) := by omega
  have hps := divs_small hn.2 hm7.2
  rw [← divs_length] at hps
  obtain ⟨L, hL⟩ : ∃ L, L = divs n m := ⟨_, rfl⟩
  have hmem : ∀ l ∈ L, l.length = m := fun l h => divs_mem (by rw [← hL]; exact h)
  rw [← hL] at hps ⊢
  have H := Lib.hid (And.intro hl (And.intro hld (And.intro hr (And.intro hV (And.intro hD (And.intro hL hmem))))))
  clear hl hm hld hr hV hD hc g1 g4 e hL hmem
  go_enter Try.func23, Try.ntmps23
  go_wp2_with fail
  refine (divisions_any n hn m _ hm7.2).mono ?_
  rw [← H.out.2.2.2.2.2.1]
  rintro e w4 ⟨A4, c4, vs4, rfl, hown4, hrows4, _, hbl4⟩
  obtain ⟨ql, hql⟩ : ∃ ql, ql = L.length := ⟨_, rfl⟩
  have hat4 : At w4 A4 vs4 := At.of_own hown4
  rw [← hql] at hps ⊢
  have H4 := Lib.hid (And.intro hat4 (And.intro hrows4 (And.intro hbl4 hql)))
  have hw4 := hbl4.size
  clear hown4 hrows4 hbl4 hat4 hql
  go_wp2_with fail
  go_loopw [16] (fun jv wr => ∃ j : Nat, j ≤ ql ∧ jv = .int .i64 j ∧ (L.take j).find? (better V d) = none ∧ Below w4.heap.size w4 wr) (fun jv _ => ql - (intOf jv).toNat)
  case atStart => exact ⟨0, Nat.zero_le _, rfl, by simp, Below.refl _ _⟩
  case round =>
    obtain ⟨j, hj, rfl, hf, hbl⟩ := hrel
    obtain ⟨wp, rfl⟩ : ∃ wp : World, wp = wr := ⟨_, rfl⟩
    have HR := Lib.hid (And.intro hf hbl)
    have hwp := hbl.size
    clear hf hbl
    by_cases hlj : j < ql
    · obtain ⟨os, hos⟩ : ∃ os, L[j]? = some os := ⟨_, List.getElem?_eq_getElem (by rw [← H4.out.2.2.2]; exact hlj)⟩
      have hosl := H.out.2.2.2.2.2.2 os (List.mem_of_getElem? hos)
      obtain ⟨v, hv, A', c', rfl, hc1, hc2, hI, _⟩ := H4.out.2.1.2 j os hos
      rw [hosl] at hv hc1
      obtain ⟨ad4, rfl, hcell⟩ := H4.out.1 j _ hv
      have hcell2 := (HR.out.2.cell (lt_of_cell hcell)).trans hcell
      have l1 : (j : Int) < (ql : Int) := by omega
      have HS := Lib.hid (And.intro (hI.below HR.out.2) (And.intro hos (And.intro hosl (H4.out.2.2.1.trans (HR.out.2.mono hw4)))))
      have hbet : better V d os = bet (ownV V os n) (ownV V d n) := by unfold better; rw [H.out.1]
      have HBE := Lib.hid hbet
      clear hI hos hosl hv hcell hbet
      go_wp2_with fail
      refine (isbetter_any (some ad) n cap A' D m c' capd V os d _ H.out.1 (by omega) HS.out.2.2.1 H.out.2.1 (by omega) H.out.2.2.1 (H.out.2.2.2.1.below HS.out.2.2.2) HS.out.1 (H.out.2.2.2.2.1.below HS.out.2.2.2)).mono ?_
      rw [← HBE.out]
      rintro e w6 ⟨rfl, hb6⟩
      have hw6 := hb6.size
      cases hb : better V d os
      · have H6 := Lib.hid (And.intro (find_on HS.out.2.1 HR.out.1 hb) (HR.out.2.trans (hb6.mono hwp)))
        clear hb6 hb
        go_wp2_with fail
        go_roundw
        case rel => exact ⟨j + 1, by omega, by go_num, H6.out.1, H6.out.2⟩
        case measure => simp [intOf]; omega
      · have H6 := Lib.hid (And.intro (find_take HS.out.2.1 HR.out.1 hb) (And.intro (HS.out.1.below hb6) (HS.out.2.2.2.trans (hb6.mono (by omega)))))
        clear hb6 hb
        go_wp2_with fail
        go_ret2
        exact .inr ⟨os, A', c', H6.out.1, by rw [HS.out.2.2.1]; rfl, by rw [HS.out.2.2.1]; exact hm7.2, H6.out.2.1, H6.out.2.2⟩
    · have HN : Hid (L.find? (better V d) = none) := Lib.hid (by have h := HR.out.1; rwa [List.take_of_length_le (by rw [← H4.out.2.2.2]; omega)] at h)
      have HB := Lib.hid (H4.out.2.2.1.trans (HR.out.2.mono hw4))
      go_wp2_with fail
      go_ret2
      exact .inl ⟨HN.out, rfl, HB.out⟩
end Go.Proofs.Ytkljambjdiblkaa
