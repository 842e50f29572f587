/- The walk of SplitShares: Share and Split against the reference. -/
import Derived.Test.YtkljambjdiblkaaSLists
import Derived.Test.YtkljambjdiblkaaSRShare
import Derived.Test.YtkljambjdiblkaaSNash
namespace Go.Proofs.Ytkljambjdiblkaa
open Go.RowKit

set_option maxRecDepth 100000 in
set_option maxHeartbeats 3200000 in
theorem law_shares (A : Option Addr) (m cap : Nat) (l : List Int) (n : Int) (w : World)
    (hl : l.length = m) (hc : m ≤ cap) (hm : cap ≤ 9223372036854775807) (hI : Ints w A l) (_hx : ∀ x ∈ l, -9223372036854775808 ≤ x ∧ x ≤ 9223372036854775807) (hn : -9223372036854775808 ≤ n ∧ n ≤ 9223372036854775807) :
    Calls Try.prog 5 #[.slice A m cap, .int .i64 n] w fun e w' => e = .returned (.bool true) ∧ Below w.heap.size w w' := by
  have H := Lib.hid (And.intro hl hI)
  clear hl hI _hx
  go_enter Try.func5, Try.ntmps5
  go_wp2_with fail
  refine (lst_any A m cap l _ H.out.1 hc hm H.out.2).mono ?_
  rintro e w1 ⟨A1, k1, c1, rfl, hk1, hk9, hkc, hc1, hI1, hb1⟩
  have H1 := Lib.hid (And.intro hk1 (And.intro hI1 hb1))
  clear hk1 hI1 hb1
  go_wp2_with fail
  refine (share_any A1 k1 c1 n (l.take 9) _ H1.out.1 (by omega) H1.out.2.1).mono ?_
  rintro e w2 h2
  obtain ⟨gd, hgd⟩ : ∃ gd, gd = goodL l n := ⟨_, rfl⟩
  have hb2 : Below w1.heap.size w1 w2 := by rcases h2 with ⟨_, _, h⟩ | ⟨_, _, h⟩ <;> exact h
  have hw2 : Below w.heap.size w w2 := H1.out.2.2.trans (hb2.mono H1.out.2.2.size)
  obtain ⟨sv, ev, he, hsv⟩ : ∃ sv ev, e = .returned (.tuple #[.int .i64 sv, .int .i64 ev]) ∧ ((gd = false ∧ sv = 0 ∧ ev = 2) ∨ (gd = true ∧ sv = shV l n.toNat ∧ ev = 0)) := by
    rcases h2 with ⟨hg, rfl, _⟩ | ⟨hg, rfl, _⟩
    · rw [goodL_take] at hg
      exact ⟨0, 2, rfl, .inl ⟨by rw [hgd, hg], rfl, rfl⟩⟩
    · rw [goodL_take] at hg
      rw [good_take hg]
      exact ⟨_, 0, rfl, .inr ⟨by rw [hgd, hg], rfl, rfl⟩⟩
  subst he
  have H2 := Lib.hid (And.intro hgd (And.intro hw2 hsv))
  clear h2 hgd hb2 hw2 hsv
  go_wp2_with fail
  refine (lst_any A m cap l _ H.out.1 hc hm (H.out.2.below H2.out.2.1)).mono ?_
  rintro e w3 ⟨A3, k3, c3, rfl, hk3, hk39, hk3c, hc3, hI3, hb3⟩
  have H3 := Lib.hid (And.intro hk3 (And.intro hI3 (H2.out.2.1.trans (hb3.mono H2.out.2.1.size))))
  clear hk3 hI3 hb3
  go_wp2_with fail
  refine (split_any A3 k3 c3 n (l.take 9) _ H3.out.1 (by omega) H3.out.2.1).mono ?_
  rintro e w4 (⟨hg, rfl, hb4⟩ | ⟨hg, g, c, p, rfl, q1, q2, q3, q4, q5, q6, hb4⟩)
  · rw [goodL_take] at hg
    have h2 : sv = 0 ∧ ev = 2 := by
      rcases H2.out.2.2 with h | h
      · exact h.2
      · have := H2.out.1; rw [h.1, hg] at this; cases this
    obtain ⟨rfl, rfl⟩ := h2
    have H4 := Lib.hid (And.intro hg (H3.out.2.2.trans (hb4.mono H3.out.2.2.size)))
    clear hg hb4
    go_wp2_with fail
    refine (r1goods_any A m cap n l _ H.out.1 (by omega) (H.out.2.below H4.out.2)).mono ?_
    rintro e w5 ⟨rfl, rfl⟩
    rw [H4.out.1]
    go_wp2_with fail
    refine (awake_any w4).mono ?_
    rintro e w6 ⟨rfl, hb6⟩
    have H6 := Lib.hid (H4.out.2.trans (hb6.mono H4.out.2.size))
    clear hb6
    go_wp2_with fail
    go_ret
    exact ⟨rfl, H6.out⟩
  · rw [goodL_take] at hg
    rw [good_take hg] at q1 q3 q6 ⊢
    have h2 : sv = shV l n.toNat ∧ ev = 0 := by
      rcases H2.out.2.2 with h | h
      · have := H2.out.1; rw [h.1, hg] at this; cases this
      · exact h.2
    obtain ⟨hsv, rfl⟩ := h2
    obtain ⟨⟨h1, h2⟩, h3, h4, h5⟩ := goodL_iff.1 hg
    obtain ⟨nn, rfl⟩ : ∃ nn : Nat, n = (nn : Int) := ⟨n.toNat, by omega⟩
    rw [Int.toNat_natCast] at hsv q6
    rw [H.out.1] at q1 q3 q6 h1 h2 ⊢
    have hnn : 1 ≤ nn ∧ nn ≤ 7 := by omega
    have H4 := Lib.hid (And.intro hg (And.intro (H3.out.2.2.trans (hb4.mono H3.out.2.2.size)) (And.intro q3 (And.intro q4 (And.intro q5 (And.intro q6 (And.intro h3 hsv)))))))
    clear hg hb4 q3 q4 q5 q6 h3 hsv
    go_wp2_with fail
    refine (r1goods_any A m cap nn l _ H.out.1 (by omega) (H.out.2.below H4.out.2.1)).mono ?_
    rintro e w5 ⟨rfl, rfl⟩
    rw [H4.out.1]
    go_wp2_with fail
    refine (r1share_any A m cap nn l w4 H.out.1 h2 hc hm hnn H4.out.2.2.2.2.2.2.1 (H.out.2.below H4.out.2.1)).mono ?_
    rintro e w5 ⟨rfl, hb5⟩
    rw [← H4.out.2.2.2.2.2.2.2]
    have hss : (sv == sv) = true := by simp
    have H5 := Lib.hid (And.intro hb5 (H4.out.2.1.trans (hb5.mono H4.out.2.1.size)))
    clear hb5
    go_wp2_with fail
    refine (r1issplit_any A (some ⟨g, 0, none⟩) m cap nn c l p w5 H.out.1 ⟨h1, h2⟩ hc hm hnn H4.out.2.2.2.2.2.2.1 (H.out.2.below H5.out.2) H4.out.2.2.1 H4.out.2.2.2.1 (H4.out.2.2.2.2.1.below H5.out.1) H4.out.2.2.2.2.2.1).mono ?_
    rintro e w6 ⟨rfl, hb6⟩
    have H6 := Lib.hid (H5.out.2.trans (hb6.mono H5.out.2.size))
    clear hb6
    go_wp2_with fail
    refine (awake_any w6).mono ?_
    rintro e w7 ⟨rfl, hb7⟩
    have H7 := Lib.hid (H6.out.trans (hb7.mono H6.out.size))
    clear hb7
    go_wp2_with fail
    go_ret
    exact ⟨rfl, H7.out⟩
end Go.Proofs.Ytkljambjdiblkaa
