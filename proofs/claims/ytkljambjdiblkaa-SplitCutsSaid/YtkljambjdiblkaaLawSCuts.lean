/- The walk of SplitCuts: one cuts, the other one chooses. -/
import Derived.Test.YtkljambjdiblkaaSLists
import Derived.Test.YtkljambjdiblkaaLawSBound
namespace Go.Proofs.Ytkljambjdiblkaa
open Go.RowKit

theorem sumsTo_sum {l d : List Int} {n : Nat} (hd : ∀ x ∈ d, 0 ≤ x ∧ x < n) (hld : d.length = l.length) (k : Nat) (hk : k ≤ l.length) : (sumsTo l d n k).sum = (l.take k).sum := by
  induction k with
  | zero => simp [sumsTo, sum_zeros]
  | succ k ih =>
    have hx : l[k]? = some (l.getD k 0) := getD_get (by omega)
    have hy : d[k]? = some (d.getD k 0) := getD_get (by omega)
    have hb := hd _ (List.mem_of_getElem? hy)
    rw [sumsTo, addA_sum _ _ _ (by rw [sumsTo_length]; omega), ih (by omega), sum_take hx]

theorem two_sum {s : List Int} (h : s.length = 2) : s.sum = s.getD 0 0 + s.getD 1 0 := by
  match s, h with
  | [a, b], _ => simp

set_option maxRecDepth 100000 in
set_option maxHeartbeats 3200000 in
theorem law_cuts (A : Option Addr) (m cap : Nat) (a : List Int) (B : Option Addr) (m2 cap2 : Nat) (b : List Int) (w : World)
    (hl : a.length = m) (hc : m ≤ cap) (hm : cap ≤ 9223372036854775807) (hI : Ints w A a) (_hx : ∀ x ∈ a, -9223372036854775808 ≤ x ∧ x ≤ 9223372036854775807)
    (hl2 : b.length = m2) (hc2 : m2 ≤ cap2) (hm2 : cap2 ≤ 9223372036854775807) (hI2 : Ints w B b) (_hx2 : ∀ x ∈ b, -9223372036854775808 ≤ x ∧ x ≤ 9223372036854775807) :
    Calls Try.prog 6 #[.slice A m cap, .slice B m2 cap2] w fun e w' => e = .returned (.bool true) ∧ Below w.heap.size w w' := by
  have H := Lib.hid (And.intro hl (And.intro hI (And.intro hl2 hI2)))
  clear hl hI _hx hl2 hI2 _hx2
  go_enter Try.func6, Try.ntmps6
  go_wp2_with fail
  refine (lst_any A m cap a _ H.out.1 hc hm H.out.2.1).mono ?_
  rintro e w1 ⟨A1, k1, c1, rfl, hk1, hk9, hkc, hc1, hI1, hb1⟩
  have H1 := Lib.hid (And.intro hk1 (And.intro hI1 hb1))
  clear hk1 hI1 hb1
  go_wp2_with fail
  refine (split_any A1 k1 c1 2 (a.take 9) _ H1.out.1 (by omega) H1.out.2.1).mono ?_
  rintro e w2 h2
  obtain ⟨DA, dk, dc, d, ev, he, hsv⟩ : ∃ DA dk dc d ev, e = .returned (.tuple #[.slice DA dk dc, .int .i64 ev]) ∧
      ((goodL a 2 = false ∧ ev = 2) ∨ (goodL a 2 = true ∧ ev = 0 ∧ dk = m ∧ d.length = m ∧ (∀ x ∈ d, 0 ≤ x ∧ x < 2) ∧ Ints w2 DA d ∧ lmin (sumsTo a d 2 m) = shV a 2)) := by
    rcases h2 with ⟨hg, rfl, _⟩ | ⟨hg, g, c, p, rfl, q1, q2, q3, q4, q5, q6, _⟩
    · rw [goodL_take] at hg
      exact ⟨none, 0, 0, [], 2, rfl, .inl ⟨hg, rfl⟩⟩
    · rw [goodL_take] at hg
      rw [good_take hg, H.out.1] at q3 q6
      exact ⟨_, _, c, p, 0, rfl, .inr ⟨hg, rfl, by rw [good_take hg, H.out.1], q3, q4, q5, q6⟩⟩
  have hb2 : Below w1.heap.size w1 w2 := by rcases h2 with ⟨_, _, h⟩ | ⟨_, g, c, p, _, _, _, _, _, _, _, h⟩ <;> exact h
  subst he
  have H2 := Lib.hid (And.intro (H1.out.2.2.trans (hb2.mono H1.out.2.2.size)) hsv)
  clear h2 hb2 hsv
  go_wp2_with fail
  refine (lst_any A m cap a _ H.out.1 hc hm (H.out.2.1.below H2.out.1)).mono ?_
  rintro e w3 ⟨A3, k3, c3, rfl, hk3, hk39, hk3c, hc3, hI3, hb3⟩
  have H3 := Lib.hid (And.intro hk3 (And.intro hI3 (And.intro hb3 (H2.out.1.trans (hb3.mono H2.out.1.size)))))
  clear hk3 hI3 hb3
  go_wp2_with fail
  refine (share_any A3 k3 c3 2 (a.take 9) _ H3.out.1 (by omega) H3.out.2.1).mono ?_
  rintro e w4 h4
  obtain ⟨sv, fv, he, hsf⟩ : ∃ sv fv, e = .returned (.tuple #[.int .i64 sv, .int .i64 fv]) ∧ (goodL a 2 = true → sv = shV a 2 ∧ fv = 0) := by
    rcases h4 with ⟨hg, rfl, _⟩ | ⟨hg, rfl, _⟩
    · rw [goodL_take] at hg
      exact ⟨_, _, rfl, fun h => by rw [hg] at h; cases h⟩
    · rw [goodL_take] at hg
      exact ⟨_, _, rfl, fun h => ⟨by rw [good_take hg]; rfl, rfl⟩⟩
  have hb4 : Below w3.heap.size w3 w4 := by rcases h4 with ⟨_, _, h⟩ | ⟨_, _, h⟩ <;> exact h
  subst he
  have H4 := Lib.hid (And.intro hsf (And.intro (H3.out.2.2.1.trans (hb4.mono H3.out.2.2.1.size)) (H3.out.2.2.2.trans (hb4.mono H3.out.2.2.2.size))))
  clear h4 hb4 hsf
  go_wp2_with fail
  refine (lst_any B m2 cap2 b _ H.out.2.2.1 hc2 hm2 (H.out.2.2.2.below H4.out.2.2)).mono ?_
  rintro e w5 ⟨A5, k5, c5, rfl, hk5, hk59, hk5c, hc5, hI5, hb5⟩
  have H5 := Lib.hid (And.intro hk5 (And.intro hI5 (And.intro (H4.out.2.1.trans (hb5.mono H4.out.2.1.size)) (H4.out.2.2.trans (hb5.mono H4.out.2.2.size)))))
  clear hk5 hI5 hb5
  go_wp2_with fail
  refine (share_any A5 k5 c5 2 (b.take 9) _ H5.out.1 (by omega) H5.out.2.1).mono ?_
  rintro e w6 h6
  obtain ⟨tv, gv, he, hsg⟩ : ∃ tv gv, e = .returned (.tuple #[.int .i64 tv, .int .i64 gv]) ∧ ((goodL b 2 = false ∧ gv = 2) ∨ (goodL b 2 = true ∧ tv = shV b 2 ∧ gv = 0)) := by
    rcases h6 with ⟨hg, rfl, _⟩ | ⟨hg, rfl, _⟩
    · rw [goodL_take] at hg
      exact ⟨_, _, rfl, .inl ⟨hg, rfl⟩⟩
    · rw [goodL_take] at hg
      exact ⟨_, _, rfl, .inr ⟨hg, by rw [good_take hg]; rfl, rfl⟩⟩
  have hb6 : Below w5.heap.size w5 w6 := by rcases h6 with ⟨_, _, h⟩ | ⟨_, _, h⟩ <;> exact h
  subst he
  have H6 := Lib.hid (And.intro hsg (And.intro (H5.out.2.2.1.trans (hb6.mono H5.out.2.2.1.size)) (H5.out.2.2.2.trans (hb6.mono H5.out.2.2.2.size))))
  clear h6 hb6 hsg
  have tail : ∀ (w9 : World), Below w.heap.size w w9 → Calls Try.prog 22 #[] w9 fun e w' => e = .returned (.bool true) ∧ Below w.heap.size w w' := by
    intro w9 h9
    refine (awake_any w9).mono ?_
    rintro e w10 ⟨rfl, hb⟩
    exact ⟨rfl, h9.trans (hb.mono h9.size)⟩
  have HT := Lib.hid tail
  clear tail
  rcases H2.out.2 with ⟨_, rfl⟩ | ⟨ga, rfl, rfl, hd1, hd2, hd3, hd4⟩
  · go_wp2_with fail
    refine (HT.out _ H6.out.2.2).mono ?_
    rintro e w7 ⟨rfl, hb7⟩
    have H7 := Lib.hid hb7
    clear hb7
    go_wp2_with fail
    go_ret
    exact ⟨rfl, H7.out⟩
  · obtain ⟨rfl, rfl⟩ := H4.out.1 ga
    rcases H6.out.1 with ⟨_, rfl⟩ | ⟨gb, htv, rfl⟩
    · clear ga hd1 hd2 hd3 hd4
      generalize shV a 2 = sv
      go_wp2_with fail
      refine (HT.out _ H6.out.2.2).mono ?_
      rintro e w7 ⟨rfl, hb7⟩
      have H7 := Lib.hid hb7
      clear hb7
      go_wp2_with fail
      go_ret
      exact ⟨rfl, H7.out⟩
    · by_cases hmm : dk = m2
      · subst hmm
        have hdd : ((dk : Int) == (dk : Int)) = true := by simp
        obtain ⟨sv, hsv⟩ : ∃ sv, sv = shV a 2 := ⟨_, rfl⟩
        rw [← hsv] at hd4 ⊢
        obtain ⟨⟨h1, h2⟩, h3, _⟩ := goodL_iff.1 ga
        obtain ⟨_, h4, _⟩ := goodL_iff.1 gb
        have hdk : 1 ≤ dk ∧ dk ≤ 7 := by rw [← H.out.1]; exact ⟨h1, h2⟩
        have HV := Lib.hid (And.intro h3 (And.intro h4 (And.intro hd1 (And.intro hd2 (And.intro (hd3.below H6.out.2.1) (And.intro hd4 htv))))))
        have HSV := Lib.hid hsv
        clear ga gb h1 h2 h3 h4 hd1 hd2 hd3 hd4 htv hsv
        go_wp2_with fail
        go_loopw [72] (fun iv wr => ∃ k : Nat, k ≤ dk ∧ iv = .int .i64 k ∧ Blk wr w6.heap.size 38 (arr (sumsTo a d 2 k)) ∧ Blk wr (w6.heap.size + 1) 38 (arr (sumsTo b d 2 k)) ∧ Below w6.heap.size w6 wr) (fun iv _ => dk - (intOf iv).toNat)
        case atStart => exact ⟨0, Nat.zero_le _, rfl, (Blk.new _ _ _ rfl).alloc _, Blk.new _ _ _ (by simp), ((Below.refl _ _).alloc (Nat.le_refl _) _).alloc (by go_size) _⟩
        case round =>
          obtain ⟨k, hk, rfl, hX, hY, hbl⟩ := hrel
          have HR := Lib.hid (And.intro hX (And.intro hY (And.intro hbl (H6.out.2.2.trans (hbl.mono H6.out.2.2.size)))))
          clear hX hY hbl
          by_cases hlt : k < dk
          · obtain ⟨h3, h4, hd1, hd2, hd3, hd4, htv⟩ := HV.out
            obtain ⟨y, hy⟩ : ∃ y, d[k]? = some y := ⟨_, List.getElem?_eq_getElem (by omega)⟩
            obtain ⟨xa, hxa⟩ : ∃ x, a[k]? = some x := ⟨_, List.getElem?_eq_getElem (by have := H.out.1; omega)⟩
            obtain ⟨xb, hxb⟩ : ∃ x, b[k]? = some x := ⟨_, List.getElem?_eq_getElem (by have := H.out.2.2.1; omega)⟩
            obtain ⟨dd, rfl, hcd⟩ := (hd3.below HR.out.2.2.1) k (.int .i64 y) (by rw [List.getElem?_map, hy]; rfl)
            obtain ⟨ad, rfl, hca⟩ := (H.out.2.1.below HR.out.2.2.2) k (.int .i64 xa) (by rw [List.getElem?_map, hxa]; rfl)
            obtain ⟨bd, rfl, hcb0⟩ := H.out.2.2.2 k (.int .i64 xb) (by rw [List.getElem?_map, hxb]; rfl)
            have hyb := hd2 y (List.mem_of_getElem? hy)
            have hab := h3 xa (List.mem_of_getElem? hxa)
            have hbb := h4 xb (List.mem_of_getElem? hxb)
            obtain ⟨p, rfl⟩ : ∃ p : Nat, y = (p : Int) := ⟨y.toNat, by omega⟩
            have hp : p < 2 := by omega
            have hza := sumsTo_bd (d := d) (n := 2) h3 k p hp
            have hzb := sumsTo_bd (d := d) (n := 2) h4 k p hp
            have ga : (sumsTo a d 2 k)[p]? = some ((sumsTo a d 2 k).getD p 0) := getD_get (by rw [sumsTo_length]; exact hp)
            have gb : (sumsTo b d 2 k)[p]? = some ((sumsTo b d 2 k).getD p 0) := getD_get (by rw [sumsTo_length]; exact hp)
            have ea : sumsTo a d 2 (k + 1) = (sumsTo a d 2 k).set p ((sumsTo a d 2 k).getD p 0 + xa) := by
              have ex : a.getD k 0 = xa := by rw [List.getD_eq_getElem?_getD, hxa]; rfl
              have ey : d.getD k 0 = (p : Int) := by rw [List.getD_eq_getElem?_getD, hy]; rfl
              rw [sumsTo, addA, ex, ey, Int.toNat_natCast]
            have eb : sumsTo b d 2 (k + 1) = (sumsTo b d 2 k).set p ((sumsTo b d 2 k).getD p 0 + xb) := by
              have ex : b.getD k 0 = xb := by rw [List.getD_eq_getElem?_getD, hxb]; rfl
              have ey : d.getD k 0 = (p : Int) := by rw [List.getD_eq_getElem?_getD, hy]; rfl
              rw [sumsTo, addA, ex, ey, Int.toNat_natCast]
            have c1 : wr.cell? ⟨w6.heap.size, p, none⟩ = some (.int .i64 ((sumsTo a d 2 k).getD p 0)) := by rw [HR.out.1.cell, arr_get, ga]; rfl
            have f1 : wr.frozen? ⟨w6.heap.size, p, none⟩ = false := HR.out.1.frozen p
            have NX : Blk (wr.setCell ⟨w6.heap.size, p, none⟩ (.int .i64 ((sumsTo a d 2 k).getD p 0 + xa))).drew w6.heap.size 38 (arr (sumsTo a d 2 (k + 1))) := by
              rw [ea, ← arr_set]; exact HR.out.1.set_ p _
            have NY : Blk (wr.setCell ⟨w6.heap.size, p, none⟩ (.int .i64 ((sumsTo a d 2 k).getD p 0 + xa))).drew (w6.heap.size + 1) 38 (arr (sumsTo b d 2 k)) := HR.out.2.1.far (by show w6.heap.size + 1 ≠ w6.heap.size; omega) _
            have NB : Below w6.heap.size w6 (wr.setCell ⟨w6.heap.size, p, none⟩ (.int .i64 ((sumsTo a d 2 k).getD p 0 + xa))).drew := (HR.out.2.2.1.setCell (Nat.le_refl _) _).drew
            have eb2 : arr (sumsTo b d 2 (k + 1)) = (arr (sumsTo b d 2 k)).setIfInBounds p (.int .i64 ((sumsTo b d 2 k).getD p 0 + xb)) := by rw [eb, ← arr_set]
            have gb2 : (arr (sumsTo b d 2 k))[p]? = some (.int .i64 ((sumsTo b d 2 k).getD p 0)) := by rw [arr_get, gb]; rfl
            generalize (sumsTo a d 2 k).getD p 0 = za at hza c1 NX NY NB
            generalize (sumsTo b d 2 k).getD p 0 = zb at hzb eb2 gb2
            have HN := Lib.hid (And.intro NX (And.intro NY (And.intro NB (And.intro eb2 (And.intro gb2 hcb0)))))
            have l1 : (k : Int) < (dk : Int) := by omega
            have l2 : (p : Int) < 2 := by omega
            clear h3 h4 hd1 hd2 hd3 hd4 htv hy hxa hxb ga gb ea eb NX NY NB eb2 gb2 hcb0
            go_wp2_with fail
            go_region
            generalize (wr.setCell ⟨w6.heap.size, p, none⟩ (.int .i64 (za + xa))).drew = w7 at HN ⊢
            clear c1 f1 hcd hca
            obtain ⟨NX, NY, NB, eb2, gb2, hcb0⟩ := HN.out
            have hcb : w7.cell? (bd.add k) = some (.int .i64 xb) := ((H6.out.2.2.trans (NB.mono H6.out.2.2.size)).cell (lt_of_cell hcb0)).trans hcb0
            have c2 : w7.cell? ⟨w6.heap.size + 1, p, none⟩ = some (.int .i64 zb) := by rw [NY.cell, gb2]
            have f2 : w7.frozen? ⟨w6.heap.size + 1, p, none⟩ = false := NY.frozen p
            clear NX NY NB eb2 gb2 hcb0
            go_wp2_with fail
            go_region
            go_wp2_with fail
            go_roundw
            case rel =>
              obtain ⟨NX, NY, NB, eb2, gb2, hcb0⟩ := HN.out
              refine ⟨k + 1, by omega, by go_num, ?_, ?_, ?_⟩
              · exact NX.far (by show w6.heap.size ≠ w6.heap.size + 1; omega) _
              · rw [eb2]; exact NY.set_ p _
              · exact (NB.setCell (by show w6.heap.size ≤ w6.heap.size + 1; omega) _).drew
            case measure => simp [intOf]; omega
          · obtain rfl : k = dk := by omega
            obtain ⟨h3, h4, hd1, hd2, hd3, hd4, htv⟩ := HV.out
            have hl2 := H.out.2.2.1
            have hla := H.out.1
            have hsa : sv ≤ (sumsTo a d 2 k).getD 0 0 ∧ sv ≤ (sumsTo a d 2 k).getD 1 0 := by
              have h := (lmin_mem_ge (s := sumsTo a d 2 k) (by intro h; have := congrArg List.length h; rw [sumsTo_length] at this; cases this) sv).1 (by rw [hd4]; exact Int.le_refl _)
              rw [sumsTo_length] at h
              exact ⟨h 0 (by omega), h 1 (by omega)⟩
            have hsb : 2 * tv ≤ (sumsTo b d 2 k).getD 0 0 + (sumsTo b d 2 k).getD 1 0 := by
              have e1 := sumsTo_sum (l := b) (d := d) (n := 2) (by intro x hx; exact hd2 x hx) (by omega) k (by omega)
              rw [two_sum (sumsTo_length _ _ _ _), List.take_of_length_le (by omega)] at e1
              have e2 := shV_sum (l := b) (n := 2) (by omega) (fun x hx => (h4 x hx).1)
              rw [← htv] at e2
              omega
            have g0 : ∀ l : List Int, (sumsTo l d 2 k)[0]? = some ((sumsTo l d 2 k).getD 0 0) := fun l => getD_get (by rw [sumsTo_length]; omega)
            have g1 : ∀ l : List Int, (sumsTo l d 2 k)[1]? = some ((sumsTo l d 2 k).getD 1 0) := fun l => getD_get (by rw [sumsTo_length]; omega)
            have c1 : wr.cell? ⟨w6.heap.size, 0, none⟩ = some (.int .i64 ((sumsTo a d 2 k).getD 0 0)) := by rw [HR.out.1.cell, arr_get, g0]; rfl
            have c2 : wr.cell? ⟨w6.heap.size, 1, none⟩ = some (.int .i64 ((sumsTo a d 2 k).getD 1 0)) := by rw [HR.out.1.cell, arr_get, g1]; rfl
            have c3 : wr.cell? ⟨w6.heap.size + 1, 0, none⟩ = some (.int .i64 ((sumsTo b d 2 k).getD 0 0)) := by rw [HR.out.2.1.cell, arr_get, g0]; rfl
            have c4 : wr.cell? ⟨w6.heap.size + 1, 1, none⟩ = some (.int .i64 ((sumsTo b d 2 k).getD 1 0)) := by rw [HR.out.2.1.cell, arr_get, g1]; rfl
            clear h3 h4 hd1 hd2 hd3 hd4 htv g0 g1
            generalize (sumsTo a d 2 k).getD 0 0 = a0 at *
            generalize (sumsTo a d 2 k).getD 1 0 = a1 at *
            generalize (sumsTo b d 2 k).getD 0 0 = b0 at *
            generalize (sumsTo b d 2 k).getD 1 0 = b1 at *
            clear hl2 hla
            by_cases hch : b0 < b1
            · have q1 : tv ≤ b1 := by omega
              clear hsb
              go_wp2_with fail
              refine (HT.out _ HR.out.2.2.2).mono ?_
              rintro e w7 ⟨rfl, hb7⟩
              have H7 := Lib.hid hb7
              clear hb7
              go_wp2_with fail
              go_ret
              exact ⟨rfl, H7.out⟩
            · have q1 : tv ≤ b0 := by omega
              clear hsb
              go_wp2_with fail
              refine (HT.out _ HR.out.2.2.2).mono ?_
              rintro e w7 ⟨rfl, hb7⟩
              have H7 := Lib.hid hb7
              clear hb7
              go_wp2_with fail
              go_ret
              exact ⟨rfl, H7.out⟩
      · have hne : ((dk : Int) == (m2 : Int)) = false := by rw [beq_eq_false_iff_ne]; omega
        have hne2 : ((dk : Int) != (m2 : Int)) = true := by rw [bne_iff_ne]; omega
        clear ga gb hd1 hd2 hd3 hd4 htv
        generalize shV a 2 = sv
        go_wp2_with fail
        refine (HT.out _ H6.out.2.2).mono ?_
        rintro e w7 ⟨rfl, hb7⟩
        have H7 := Lib.hid hb7
        clear hb7
        go_wp2_with fail
        go_ret
        exact ⟨rfl, H7.out⟩
end Go.Proofs.Ytkljambjdiblkaa
