/- The walk of SplitBound: the share's bounds. -/
import Derived.Test.YtkljambjdiblkaaSLists
import Derived.Test.YtkljambjdiblkaaSNash
namespace Go.Proofs.Ytkljambjdiblkaa
open Go.RowKit

theorem sum_take {l : List Int} {k : Nat} {x : Int} (h : l[k]? = some x) : (l.take (k + 1)).sum = (l.take k).sum + x := by
  rw [List.take_add_one, h, List.sum_append]; simp
theorem sum_bd {l : List Int} (h : ∀ x ∈ l, 0 ≤ x ∧ x ≤ 100) : 0 ≤ l.sum ∧ l.sum ≤ 100 * l.length := by
  induction l with
  | nil => simp
  | cons y l ih =>
    have h1 := h y (List.mem_cons_self ..)
    have h2 := ih fun x hx => h x (List.mem_cons_of_mem _ hx)
    simp only [List.length_cons, List.sum_cons]
    omega

set_option maxRecDepth 100000 in
set_option maxHeartbeats 3200000 in
theorem law_bound (A : Option Addr) (m cap : Nat) (l : List Int) (n : Int) (w : World)
    (hl : l.length = m) (hc : m ≤ cap) (hm : cap ≤ 9223372036854775807) (hI : Ints w A l) (_hx : ∀ x ∈ l, -9223372036854775808 ≤ x ∧ x ≤ 9223372036854775807) (hn : -9223372036854775808 ≤ n ∧ n ≤ 9223372036854775807) :
    Calls Try.prog 4 #[.slice A m cap, .int .i64 n] w fun e w' => e = .returned (.bool true) ∧ Below w.heap.size w w' := by
  have H := Lib.hid (And.intro hl hI)
  clear hl hI _hx
  go_enter Try.func4, Try.ntmps4
  go_wp2_with fail
  refine (lst_any A m cap l _ H.out.1 hc hm H.out.2).mono ?_
  rintro e w1 ⟨A1, k1, c1, rfl, hk1, hk9, hkc, hc1, hI1, hb1⟩
  have H1 := Lib.hid (And.intro hk1 (And.intro hI1 hb1))
  clear hk1 hI1 hb1
  go_wp2_with fail
  refine (share_any A1 k1 c1 n (l.take 9) _ H1.out.1 (by omega) H1.out.2.1).mono ?_
  rintro e w2 (⟨hg, rfl, hb2⟩ | ⟨hg, rfl, hb2⟩)
  · have H2 := Lib.hid (H1.out.2.2.trans (hb2.mono H1.out.2.2.size))
    clear hg hb2
    go_wp2_with fail
    refine (awake_any w2).mono ?_
    rintro e w3 ⟨rfl, hb3⟩
    have H3 := Lib.hid (H2.out.trans (hb3.mono H2.out.size))
    clear hb3
    go_wp2_with fail
    go_ret
    exact ⟨rfl, H3.out⟩
  · rw [goodL_take] at hg
    rw [good_take hg]
    obtain ⟨⟨h1, h2⟩, h3, h4, h5⟩ := goodL_iff.1 hg
    obtain ⟨nn, rfl⟩ : ∃ nn : Nat, n = (nn : Int) := ⟨n.toNat, by omega⟩
    rw [Int.toNat_natCast]
    have hl0 : ∀ x ∈ l, 0 ≤ x := fun x hx => (h3 x hx).1
    have hm7 : 1 ≤ m ∧ m ≤ 7 := by rw [← H.out.1]; exact ⟨h1, h2⟩
    have b0 := shV_nonneg (l := l) (n := nn) (by omega) hl0
    have b1 := shV_sum (l := l) (n := nn) (by omega) hl0
    have b2 := shV_more (l := l) (n := nn) (by omega) hl0
    have hsum := sum_bd h3
    obtain ⟨s, hs⟩ : ∃ s, s = shV l nn := ⟨_, rfl⟩
    rw [← hs] at b0 b1 b2 ⊢
    have hs7 : s ≤ 700 := by
      have : s * 1 ≤ s * nn := Int.mul_le_mul_of_nonneg_left (by omega) b0
      omega
    have hsn : 0 ≤ s * nn ∧ s * nn ≤ 700 := ⟨Int.mul_nonneg b0 (by omega), by omega⟩
    have H2 := Lib.hid (And.intro (H1.out.2.2.trans (hb2.mono H1.out.2.2.size)) (And.intro hg (And.intro hs (And.intro h3 (And.intro b2 b1)))))
    have tail : ∀ (w9 : World), Below w.heap.size w w9 → Calls Try.prog 22 #[] w9 fun e w' => e = .returned (.bool true) ∧ Below w.heap.size w w' := by
      intro w9 h9
      refine (awake_any w9).mono ?_
      rintro e w10 ⟨rfl, hb⟩
      exact ⟨rfl, h9.trans (hb.mono h9.size)⟩
    have HT := Lib.hid tail
    clear hg hb2 b1 b2 hs h3 hl0 hsum h1 h2 tail
    go_wp2_with fail
    go_loop [7, 30] (fun sv iv => ∃ k : Nat, k ≤ m ∧ iv = .int .i64 k ∧ sv = .int .i64 (l.take k).sum) (fun _ iv => m - (intOf iv).toNat)
    case atStart => exact ⟨0, Nat.zero_le _, rfl, rfl⟩
    case round =>
      obtain ⟨k, hk, rfl, rfl⟩ := hrel
      by_cases hlt : k < m
      · obtain ⟨x, hx⟩ : ∃ x, l[k]? = some x := ⟨_, List.getElem?_eq_getElem (by have := H.out.1; omega)⟩
        obtain ⟨ad, rfl, hcx⟩ := (H.out.2.below H2.out.1) k (.int .i64 x) (by rw [List.getElem?_map, hx]; rfl)
        have hxb := H2.out.2.2.2.1 x (List.mem_of_getElem? hx)
        have HS := Lib.hid (sum_take hx)
        have hsb := sum_bd (l := l.take k) fun x hx => H2.out.2.2.2.1 x (List.mem_of_mem_take hx)
        have htl : (l.take k).length ≤ 7 := by rw [List.length_take]; omega
        have l1 : (k : Int) < (m : Int) := by omega
        generalize (l.take k).sum = sv at HS hsb ⊢
        have hsv : 0 ≤ sv ∧ sv ≤ 700 := by omega
        clear hx hsb htl
        go_wp2_with fail
        go_round
        case rel => exact ⟨k + 1, by omega, by go_num, by rw [HS.out]⟩
        case measure => simp [intOf]; omega
      · obtain rfl : k = m := by omega
        have hT : l.take k = l := List.take_of_length_le (by rw [H.out.1]; omega)
        rw [hT]
        have hle : s * (nn : Int) ≤ l.sum := H2.out.2.2.2.2.2
        have hls := sum_bd H2.out.2.2.2.1
        obtain ⟨sm, hsm⟩ : ∃ sm, sm = l.sum := ⟨_, rfl⟩
        rw [← hsm] at hle hls ⊢
        clear hT hsm
        -- behind the second question
        have last : ∀ (w8 : World), Below w.heap.size w w8 → ∀ (A' : Option Addr) (c' : Nat), 1 < k → k - 1 ≤ c' → c' ≤ 9223372036854775807 → Ints w8 A' (l.drop 1) →
            Calls Try.prog 20 #[.slice A' (k - 1) c'] w8 fun e w' => ∃ A2 k2 c2, e = .returned (.slice A2 k2 c2) ∧ k2 ≤ 9 ∧ Below w.heap.size w w' ∧ Calls Try.prog 25 #[.slice A2 k2 c2, .int .i64 nn] w' fun e w9 => ∃ t, e = .returned (.tuple #[.int .i64 t, .int .i64 0]) ∧ t ≤ s ∧ Below w.heap.size w w9 := by
          intro w8 h8 A' c' hk1 hkc hc9 hI8
          have hll := H.out.1
          refine (lst_any A' (k - 1) c' (l.drop 1) w8 (by rw [List.length_drop]; omega) hkc hc9 hI8).mono ?_
          rintro e w9 ⟨A2, k2, c2, rfl, e1, e2, e3, e4, e5, e6⟩
          have h9 := h8.trans (e6.mono h8.size)
          refine ⟨A2, k2, c2, rfl, e2, h9, ?_⟩
          refine (share_any A2 k2 c2 nn _ w9 e1 (by omega) e5).mono ?_
          have hgd : goodL ((l.drop 1).take 9) nn = true := by
            rw [goodL_take]
            refine goodL_iff.2 ⟨by rw [List.length_drop]; omega, fun x hx => H2.out.2.2.2.1 x (List.mem_of_mem_drop hx), by omega, by omega⟩
          rintro e w10 (⟨hg, _⟩ | ⟨_, rfl, hb⟩)
          · rw [hgd] at hg; cases hg
          · refine ⟨_, rfl, ?_, h9.trans (hb.mono h9.size)⟩
            rw [Int.toNat_natCast, List.take_of_length_le (by rw [List.length_drop]; omega)]
            rw [H2.out.2.2.1]
            cases hl' : l with
            | nil => rw [hl'] at hll; simp at hll; omega
            | cons x t =>
              have := shV_tail (x := x) (l := t) (n := nn) (by omega) (by rw [← hl']; exact fun y hy => (H2.out.2.2.2.1 y hy).1)
              simpa using this
        have HLAST := Lib.hid last
        have more : nn < 7 → ∀ (A2 : Option Addr) (k2 c2 : Nat) (w8 : World) (nv : Int), nv = (nn : Int) + 1 → (l.take 9).length = k2 → k2 ≤ 9 → Ints w8 A2 (l.take 9) → Below w.heap.size w w8 → Calls Try.prog 25 #[.slice A2 k2 c2, .int .i64 nv] w8 fun e w9 => ∃ t, e = .returned (.tuple #[.int .i64 t, .int .i64 0]) ∧ t ≤ s ∧ Below w.heap.size w w9 := by
          intro h7 A2 k2 c2 w8 nv hnv e1 e2 e3 h8
          subst hnv
          refine (share_any A2 k2 c2 _ _ w8 e1 (by omega) e3).mono ?_
          have hll := H.out.1
          have hgd : goodL (l.take 9) ((nn : Int) + 1) = true := by
            rw [goodL_take]
            exact goodL_iff.2 ⟨by omega, H2.out.2.2.2.1, by omega, by omega⟩
          rintro e w10 (⟨hg, _⟩ | ⟨_, rfl, hb⟩)
          · rw [hgd] at hg; cases hg
          · refine ⟨_, rfl, ?_, h8.trans (hb.mono h8.size)⟩
            rw [good_take H2.out.2.1, show ((nn : Int) + 1).toNat = nn + 1 by omega]
            exact H2.out.2.2.2.2.1
        have HMORE := Lib.hid more
        have hdr : Hid (∀ (ad : Addr) (w8 : World), A = some ad → Below w.heap.size w w8 → Ints w8 (some ⟨ad.block, ad.off + 1, none⟩) (l.drop 1)) := Lib.hid (by
          intro ad w8 hA hb i u hu
          rw [List.getElem?_map, List.getElem?_drop] at hu
          obtain ⟨ad', h1, h2⟩ := (H.out.2.below hb) (1 + i) u (by rw [List.getElem?_map]; exact hu)
          rw [hA] at h1
          injection h1 with h1
          subst h1
          refine ⟨_, rfl, ?_⟩
          have e : (⟨ad.block, ad.off + 1, none⟩ : Addr).add i = ad.add (1 + i) := by cases i <;> simp [Addr.add] <;> omega
          rw [e]; exact h2)
        clear last more
        by_cases h7 : nn < 7
        · have l7 : (nn : Int) < 7 := by omega
          have MORE := Lib.hid (HMORE.out h7)
          clear HMORE
          go_wp2_with fail
          refine (lst_any A k cap l _ H.out.1 hc hm (H.out.2.below H2.out.1)).mono ?_
          rintro e w3 ⟨A3, k3, c3, rfl, e1, e2, e3, e4, e5, e6⟩
          have H3 := Lib.hid (And.intro e1 (And.intro e5 (H2.out.1.trans (e6.mono H2.out.1.size))))
          clear e1 e5 e6
          go_wp2_with fail
          refine (MORE.out A3 k3 c3 w3 _ rfl H3.out.1 e2 H3.out.2.1 H3.out.2.2).mono ?_
          rintro e w4 ⟨t, rfl, ht, hb4⟩
          have H4 := Lib.hid hb4
          clear hb4
          by_cases h1k : 1 < k
          · have l8 : (1 : Int) < (k : Int) := by omega
            obtain ⟨ad, rfl, _⟩ := H.out.2.some_ (by rw [H.out.1]; omega)
            have l9 : (1 : Int) < (cap : Int) := by omega
            go_wp2_with fail
            refine (HLAST.out _ H4.out _ _ h1k ?_ ?_ (hdr.out ad _ rfl H4.out)).mono ?_
            · omega
            · omega
            rintro e w5 ⟨A5, k5, c5, rfl, hk5, hb5, hcall⟩
            have H5 := Lib.hid (And.intro hb5 hcall)
            clear hb5 hcall
            go_wp2_with fail
            refine H5.out.2.mono ?_
            rintro e w6 ⟨t6, rfl, ht6, hb6⟩
            have H6 := Lib.hid hb6
            clear hb6
            go_wp2_with fail
            refine (HT.out _ H6.out).mono ?_
            rintro e w7 ⟨rfl, hb7⟩
            have H7 := Lib.hid hb7
            clear hb7
            go_wp2_with fail
            go_ret
            exact ⟨rfl, H7.out⟩
          · have l8 : ¬ (1 : Int) < (k : Int) := by omega
            go_wp2_with fail
            refine (HT.out _ H4.out).mono ?_
            rintro e w7 ⟨rfl, hb7⟩
            have H7 := Lib.hid hb7
            clear hb7
            go_wp2_with fail
            go_ret
            exact ⟨rfl, H7.out⟩
        · have l7 : ¬ (nn : Int) < 7 := by omega
          clear HMORE
          by_cases h1k : 1 < k
          · have l8 : (1 : Int) < (k : Int) := by omega
            obtain ⟨ad, rfl, _⟩ := H.out.2.some_ (by rw [H.out.1]; omega)
            have l9 : (1 : Int) < (cap : Int) := by omega
            go_wp2_with fail
            refine (HLAST.out _ H2.out.1 _ _ h1k ?_ ?_ (hdr.out ad _ rfl H2.out.1)).mono ?_
            · omega
            · omega
            rintro e w5 ⟨A5, k5, c5, rfl, hk5, hb5, hcall⟩
            have H5 := Lib.hid (And.intro hb5 hcall)
            clear hb5 hcall
            go_wp2_with fail
            refine H5.out.2.mono ?_
            rintro e w6 ⟨t6, rfl, ht6, hb6⟩
            have H6 := Lib.hid hb6
            clear hb6
            go_wp2_with fail
            refine (HT.out _ H6.out).mono ?_
            rintro e w7 ⟨rfl, hb7⟩
            have H7 := Lib.hid hb7
            clear hb7
            go_wp2_with fail
            go_ret
            exact ⟨rfl, H7.out⟩
          · have l8 : ¬ (1 : Int) < (k : Int) := by omega
            go_wp2_with fail
            refine (HT.out _ H2.out.1).mono ?_
            rintro e w7 ⟨rfl, hb7⟩
            have H7 := Lib.hid hb7
            clear hb7
            go_wp2_with fail
            go_ret
            exact ⟨rfl, H7.out⟩
end Go.Proofs.Ytkljambjdiblkaa
