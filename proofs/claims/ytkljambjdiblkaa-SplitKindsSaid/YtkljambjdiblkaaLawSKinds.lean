/- The walk of SplitKinds: which kind of fairness follows from which. -/
import Derived.Test.YtkljambjdiblkaaSFewList
import Derived.Test.YtkljambjdiblkaaSFair3
import Derived.Test.YtkljambjdiblkaaSKindsLaw
namespace Go.Proofs.Ytkljambjdiblkaa
open Go.RowKit

/-- The cells of bools. -/
def arrB (bs : List Bool) : Array Value := (bs.map Value.bool).toArray
theorem arrB_get (bs : List Bool) (i : Nat) : (arrB bs)[i]? = (bs[i]?).map Value.bool := by simp [arrB]
theorem arrB_set (bs : List Bool) (i : Nat) (b : Bool) : (arrB bs).setIfInBounds i (.bool b) = arrB (bs.set i b) := by
  apply Array.ext'
  simp [arrB, List.map_set]
/-- The first answers, the rest not known yet. -/
def five (f : Nat → Bool) (i : Nat) : List Bool := (List.range 5).map fun k => if k < i then f k else false
theorem five_set (f : Nat → Bool) (i : Nat) (h : i < 5) : (five f i).set i (f i) = five f (i + 1) := by
  apply List.ext_getElem?
  intro k
  rw [List.getElem?_set]
  unfold five
  by_cases hk : k < 5
  · by_cases e : i = k
    · subst e; simp [hk]
    · rw [if_neg e]
      simp only [List.getElem?_map, List.getElem?_range hk, Option.map_some]
      congr 1
      by_cases h1 : k < i
      · rw [if_pos h1, if_pos (by omega)]
      · rw [if_neg h1, if_neg (by omega)]
  · by_cases e : i = k
    · omega
    · rw [if_neg e]
      simp only [List.getElem?_map]
      rw [List.getElem?_eq_none (by simp; omega)]
      rfl

theorem divV_bd {V : List (List Int)} {d : List Int} (h : divV V d = true) : ∀ x ∈ d, 0 ≤ x ∧ x < (V.length : Int) := by
  unfold divV at h
  simp only [Bool.and_eq_true, Bool.not_eq_true', List.any_eq_false] at h
  intro x hx
  have := h.2 x hx
  simp [badD] at this
  omega

set_option maxRecDepth 100000 in
set_option maxHeartbeats 3200000 in
theorem law_kinds (A : Option Addr) (n cap : Nat) (V : List (List Int)) (D : Option Addr) (nd capd : Nat) (d : List Int) (w : World)
    (hl : V.length = n) (hc : n ≤ cap) (hm : cap ≤ 9223372036854775807) (hV : Mat w A V) (_hx : ∀ r ∈ V, ∀ x ∈ r, -9223372036854775808 ≤ x ∧ x ≤ 9223372036854775807)
    (hld : d.length = nd) (hcd : nd ≤ capd) (hmd : capd ≤ 9223372036854775807) (hD : Ints w D d) (_hxd : ∀ x ∈ d, -9223372036854775808 ≤ x ∧ x ≤ 9223372036854775807) :
    Calls Try.prog 9 #[.slice A n cap, .slice D nd capd] w fun e w' => e = .returned (.bool true) ∧ Below w.heap.size w w' := by
  have H := Lib.hid (And.intro hl (And.intro hV (And.intro hld hD)))
  clear hl hV hld hD _hx _hxd
  obtain ⟨gd, hgd⟩ : ∃ gd, gd = (valV V && divV V d) := ⟨_, rfl⟩
  have HG := Lib.hid hgd
  clear hgd
  go_enter Try.func9, Try.ntmps9
  go_wp2_with fail
  go_loopw [11] (fun iv wr => ∃ i : Nat, i ≤ 5 ∧ iv = .int .i64 i ∧ Blk wr w.heap.size 48 (arrB (five (fun k => fairB V d n (k : Int)) i)) ∧ (0 < i → gd = true) ∧ Below w.heap.size w wr) (fun iv _ => 5 - (intOf iv).toNat)
  case atStart => exact ⟨0, by omega, rfl, Blk.new _ _ _ rfl, fun h => by omega, (Below.refl _ _).alloc (Nat.le_refl _) _⟩
  case round =>
    obtain ⟨i, hi, rfl, hB, hpos, hbl⟩ := hrel
    have HR := Lib.hid (And.intro hB (And.intro hpos hbl))
    have hwsz := hB.lt
    clear hB hpos hbl
    by_cases hlt : i < 5
    · have l1 : (i : Int) < 5 := by omega
      go_wp2_with fail
      refine (few2_any A n cap V _ H.out.1 (by omega) (H.out.2.1.below HR.out.2.2)).mono ?_
      rintro e w1 ⟨A1, q1, c1, rfl, hq, hq6, hqc, hc1, hM, hb⟩
      have H1 := Lib.hid (And.intro hq (And.intro hM (And.intro hb (HR.out.2.2.trans (hb.mono HR.out.2.2.size)))))
      clear hq hM hb
      go_wp2_with fail
      refine (lst_any D nd capd d _ H.out.2.2.1 hcd hmd (H.out.2.2.2.below H1.out.2.2.2)).mono ?_
      rintro e w2 ⟨A2, k2, c2, rfl, hk2, hk29, _, _, hI2, hb2⟩
      have H2 := Lib.hid (And.intro hk2 (And.intro hI2 (And.intro (H1.out.2.1.below hb2) (And.intro (H1.out.2.2.1.trans (hb2.mono H1.out.2.2.1.size)) (H1.out.2.2.2.trans (hb2.mono H1.out.2.2.2.size))))))
      clear hk2 hI2 hb2
      go_wp2_with fail
      refine (sfair0_any A1 A2 q1 c1 k2 c2 (i : Int) (fewV V) (d.take 9) w2 H1.out.1 (by omega) H2.out.2.2.1 H2.out.1 (by omega) H2.out.2.1).mono ?_
      rintro e w3 h3
      unfold FairPost0 at h3
      rw [divided_few, ← HG.out, decide_eq_true (show (0 : Int) ≤ (i : Int) by omega), decide_eq_true (show (i : Int) ≤ 4 by omega), Bool.and_true, Bool.and_true] at h3
      rcases h3 with ⟨hg, rfl, hb3⟩ | ⟨hg, rfl, hb3⟩
      · have H3 := Lib.hid (H2.out.2.2.2.2.trans (hb3.mono H2.out.2.2.2.2.size))
        clear hb3
        go_wp2_with fail
        refine (awake2_any w _ H3.out).mono ?_
        rintro e w4 ⟨rfl, hb4⟩
        have H4 := Lib.hid hb4
        clear hb4
        go_wp2_with fail
        go_ret
        exact ⟨rfl, H4.out⟩
      · subst hg
        obtain ⟨_, _, e3, e4⟩ := good_few HG.out.symm
        rw [e3, e4, H.out.1]
        have hw3 : Below wr.heap.size wr w3 := H2.out.2.2.2.1.trans (hb3.mono H2.out.2.2.2.1.size)
        have hB3 := HR.out.1.below hw3 hwsz
        have hf3 := hB3.frozen i
        have hg : i < (five (fun k => fairB V d n (k : Int)) i).length := by simp [five]; omega
        have hc3 : w3.cell? ⟨w.heap.size, i, none⟩ = some (.bool ((five (fun k => fairB V d n (k : Int)) i)[i])) := by rw [hB3.cell, arrB_get, List.getElem?_eq_getElem hg]; rfl
        have hB4 := hB3.set_ i (.bool (fairB V d n (i : Int)))
        rw [arrB_set, five_set (fun k => fairB V d n (k : Int)) i hlt] at hB4
        generalize (five (fun k => fairB V d n (k : Int)) i)[i] = ob at hc3
        generalize fairB V d n (i : Int) = nb at hB4 ⊢
        have H3 := Lib.hid (And.intro hB4 (H2.out.2.2.2.2.trans (hb3.mono H2.out.2.2.2.2.size)))
        clear hb3 e3 e4 hw3 hB3 hB4 hg
        go_wp2_with fail
        go_roundw
        case rel => exact ⟨i + 1, by omega, by go_num, H3.out.1, by simp, H3.out.2.setCell (Nat.le_refl _) _⟩
        case measure => simp [intOf]; omega
    · obtain rfl : i = 5 := by omega
      obtain rfl : gd = true := HR.out.2.1 (by omega)
      have hb := HR.out.1
      have f5 : five (fun k => fairB V d n (k : Int)) 5 = [fairB V d n 0, fairB V d n 1, fairB V d n 2, fairB V d n 3, fairB V d n 4] := rfl
      rw [f5] at hb
      obtain ⟨hv, hd, e3, e4⟩ := good_few HG.out.symm
      have hdb : ∀ x ∈ d, 0 ≤ x ∧ x < (n : Int) := by rw [← H.out.1]; exact divV_bd hd
      have hdl := divV_len hd rfl
      have hrows : ∀ i, i < n → (rowV V i).length = (rowV V 0).length ∧ ∀ x ∈ rowV V i, 0 ≤ x ∧ x ≤ 100 := by rw [← H.out.1]; exact valV_rows hv rfl
      have a0 := fair0_iff (V := V) (d := d) (n := n)
      have a1 := fair02 (V := V) (d := d) (n := n)
      have a2 := fair03 hdb hrows hdl
      have a3 := fair21 (d := d) hrows
      have a4 := fair14 hdb hrows hdl
      have a5 := fair34 (d := d) hrows
      generalize fairB V d n 0 = b0 at *
      generalize fairB V d n 1 = b1 at *
      generalize fairB V d n 2 = b2 at *
      generalize fairB V d n 3 = b3 at *
      generalize fairB V d n 4 = b4 at *
      have HF := Lib.hid (And.intro hb (And.intro a0 (And.intro e3 e4)))
      have HA := Lib.hid (And.intro a1 (And.intro a2 (And.intro a3 (And.intro a4 a5))))
      clear hb f5 hv hd e3 e4 hdb hdl hrows a0 a1 a2 a3 a4 a5
      go_wp2_with fail
      refine (few2_any A n cap V _ H.out.1 (by omega) (H.out.2.1.below HR.out.2.2)).mono ?_
      rintro e w1 ⟨A1, q1, c1, rfl, hq, hq6, hqc, hc1, hM, hb⟩
      have H1 := Lib.hid (And.intro hq (And.intro hM (And.intro hb (HR.out.2.2.trans (hb.mono HR.out.2.2.size)))))
      clear hq hM hb
      go_wp2_with fail
      refine (lst_any D nd capd d _ H.out.2.2.1 hcd hmd (H.out.2.2.2.below H1.out.2.2.2)).mono ?_
      rintro e w2 ⟨A2, k2, c2, rfl, hk2, hk29, _, _, hI2, hb2⟩
      have H2 := Lib.hid (And.intro hk2 (And.intro hI2 (And.intro (H1.out.2.1.below hb2) (And.intro (H1.out.2.2.1.trans (hb2.mono H1.out.2.2.1.size)) (H1.out.2.2.2.trans (hb2.mono H1.out.2.2.2.size))))))
      clear hk2 hI2 hb2
      go_wp2_with fail
      refine (senvy0_any A1 A2 q1 c1 k2 c2 (fewV V) (d.take 9) w2 H1.out.1 (by omega) H2.out.2.2.1 H2.out.1 (by omega) H2.out.2.1).mono ?_
      rintro e w3 h3
      unfold EnvyPost0 at h3
      rw [divided_few, ← HG.out] at h3
      rcases h3 with ⟨hg, _⟩ | ⟨_, EA, ec, rfl, hlen, _, hb3⟩
      · cases hg
      · rw [HF.out.2.2.1, HF.out.2.2.2, H.out.1] at hlen ⊢
        have hw3 : Below wr.heap.size wr w3 := H2.out.2.2.2.1.trans (hb3.mono H2.out.2.2.2.1.size)
        have hB3 := HF.out.1.below hw3 hwsz
        have p0 : w3.cell? ⟨w.heap.size, 0, none⟩ = some (.bool b0) := by rw [hB3.cell]; rfl
        have p1 : w3.cell? ⟨w.heap.size, 1, none⟩ = some (.bool b1) := by rw [hB3.cell]; rfl
        have p2 : w3.cell? ⟨w.heap.size, 2, none⟩ = some (.bool b2) := by rw [hB3.cell]; rfl
        have p3 : w3.cell? ⟨w.heap.size, 3, none⟩ = some (.bool b3) := by rw [hB3.cell]; rfl
        have p4 : w3.cell? ⟨w.heap.size, 4, none⟩ = some (.bool b4) := by rw [hB3.cell]; rfl
        have H3 := Lib.hid (H2.out.2.2.2.2.trans (hb3.mono H2.out.2.2.2.2.size))
        have hlz : b0 = ((((envL V d n).length : Nat) : Int) == 0) := by
          rw [HF.out.2.1, Bool.eq_iff_iff, decide_eq_true_eq, beq_iff_eq]; omega
        generalize (envL V d n).length = ln at hlen hlz ⊢
        have fin : ∀ w4, Below w.heap.size w w4 → True := fun _ _ => trivial
        obtain ⟨a1, a2, a3, a4, a5⟩ := HA.out
        clear hw3 hB3 hb3 fin
        cases b0
        · have z1 := hlz.symm
          clear hlz a1 a2
          cases b2
          · clear a3
            cases b1
            · clear a4
              cases b3
              · clear a5
                go_wp2_with fail
                refine (awake2_any w _ H3.out).mono ?_
                rintro e w4 ⟨rfl, hb4⟩
                have H4 := Lib.hid hb4
                clear hb4
                go_wp2_with fail
                go_ret
                exact ⟨rfl, H4.out⟩
              · obtain rfl := a5 rfl
                clear a5
                go_wp2_with fail
                refine (awake2_any w _ H3.out).mono ?_
                rintro e w4 ⟨rfl, hb4⟩
                have H4 := Lib.hid hb4
                clear hb4
                go_wp2_with fail
                go_ret
                exact ⟨rfl, H4.out⟩
            · obtain rfl := a4 rfl
              clear a4 a5
              cases b3
              all_goals
                go_wp2_with fail
                refine (awake2_any w _ H3.out).mono ?_
                rintro e w4 ⟨rfl, hb4⟩
                have H4 := Lib.hid hb4
                clear hb4
                go_wp2_with fail
                go_ret
                exact ⟨rfl, H4.out⟩
          · obtain rfl := a3 rfl
            obtain rfl := a4 rfl
            clear a3 a4 a5
            cases b3
            all_goals
              go_wp2_with fail
              refine (awake2_any w _ H3.out).mono ?_
              rintro e w4 ⟨rfl, hb4⟩
              have H4 := Lib.hid hb4
              clear hb4
              go_wp2_with fail
              go_ret
              exact ⟨rfl, H4.out⟩
        · have z1 := hlz.symm
          obtain rfl := a1 rfl
          obtain rfl := a2 rfl
          obtain rfl := a3 rfl
          obtain rfl := a4 rfl
          clear hlz a1 a2 a3 a4 a5
          go_wp2_with fail
          refine (awake2_any w _ H3.out).mono ?_
          rintro e w4 ⟨rfl, hb4⟩
          have H4 := Lib.hid hb4
          clear hb4
          go_wp2_with fail
          go_ret
          exact ⟨rfl, H4.out⟩
end Go.Proofs.Ytkljambjdiblkaa
