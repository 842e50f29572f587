/- Laws and contracts that the proof of SplitDeals uses, part 4. -/
import Derived.Test.YtkljambjdiblkaaSplitDealsM3
import Derived.Test.YtkljambjdiblkaaSplitDealsM2
namespace Go.Proofs.Ytkljambjdiblkaa
open Go.RowKit

/- Contract: Cycles of the reference. -/

theorem calmI_none {V : List (List Int)} {d : List Int} {n : Nat} (h : calmO V d n = none) : calmI V d n = -1 := by unfold calmI; rw [h]
theorem calmI_some {V : List (List Int)} {d : List Int} {n j : Nat} (h : calmO V d n = some j) : calmI V d n = (j : Int) := by unfold calmI; rw [h]
theorem cycTo_succ (V : List (List Int)) (n m g : Nat) {d : List Int} {j : Nat} (h : settle V n 3000 (cycTo V n m g) = d) (hj : calmO V d n = some j) : cycTo V n m (g + 1) = d.set g (j : Int) := by
  simp only [cycTo, h, hj, Option.getD_some]
theorem potN_lt {V : List (List Int)} {d : List Int} {n : Nat} (hr : ∀ i, i < n → ∀ x ∈ rowV V i, 0 ≤ x ∧ x ≤ 100) : potN V d n < 3000 := by
  have : 0 ≤ ownSum V d n := by
    unfold ownSum
    have := sumN_mono (f := fun _ => 0) (g := fun i => wor V d i (i : Int)) n (fun i hi => (worTo_bd (hr i hi) _ _ _).1)
    rwa [sumN_zero] at this
  unfold potN; omega
theorem cyc_facts {V : List (List Int)} {d : List Int} {n : Nat} (hn : 1 ≤ n ∧ n ≤ 4) (h : calmO V d n = none) : ∃ l, cycO V d n = some l ∧ 2 ≤ l.length ∧ l.length ≤ n ∧ l.Nodup ∧ (∀ x ∈ l, x < n) ∧ isC V d l = true := by
  obtain ⟨k, l, h2, hk, hc, hl, hi⟩ := cyc_exists hn h
  obtain ⟨e, h3, h4⟩ := mem_perms hl
  exact ⟨l, hc, by omega, by omega, h3, h4, hi⟩

set_option maxRecDepth 100000 in
set_option maxHeartbeats 6400000 in
theorem r1cycles_any (A : Option Addr) (n cap m : Nat) (V : List (List Int)) (w : World) (hl : V.length = n) (hn4 : 1 ≤ n ∧ n ≤ 4) (hm : m = (rowV V 0).length) (hm7 : 1 ≤ m ∧ m ≤ 7) (hr : ∀ i, i < n → (rowV V i).length = m ∧ ∀ x ∈ rowV V i, 0 ≤ x ∧ x ≤ 100) (hV : Mat w A V) :
    Calls Try.prog 40 #[.slice A n cap] w fun e w' => ∃ g c, e = .returned (.slice (some ⟨g, 0, none⟩) m c) ∧ m ≤ c ∧ c ≤ 9223372036854775807 ∧ Ints w' (some ⟨g, 0, none⟩) (cycTo V n m m) ∧ Below w.heap.size w w' := by
  have hmk := make_ints m (by omega)
  obtain ⟨ad0, rfl, _, hcc0⟩ := hV.some_ (by omega)
  obtain ⟨A0, c0, h01, hrest0⟩ := hcc0 0 _ (List.getElem?_eq_getElem (by omega))
  have er0 : (V[0]'(by omega)).length = m := by rw [hm, rowV_get (List.getElem?_eq_getElem (by omega))]
  rw [er0] at h01
  have c00 : w.cell? ad0 = some (.slice A0 m c0) := h01
  have H := Lib.hid (And.intro hl (And.intro hV (And.intro hm hr)))
  have l0 : (0 : Int) < (n : Int) := by omega
  clear hrest0 hl hV hm hr hcc0 h01 er0
  go_enter Try.func40, Try.ntmps40
  go_wp2_with fail
  obtain ⟨g, hg⟩ : ∃ g, g = w.heap.size := ⟨_, rfl⟩
  have hgw : w.heap.size ≤ g := by omega
  have hB2 : Blk (w.alloc (.cells (arr (List.replicate m 0)) 3)) g 3 (arr (negs m 0)) := by
    have e : negs m 0 = List.replicate m 0 := by simp [negs]
    rw [e]; exact Blk.new _ _ _ hg
  have hw2 : Below w.heap.size w (w.alloc (.cells (arr (List.replicate m 0)) 3)) := (Below.refl _ _).alloc (Nat.le_refl _) _
  have H2 := Lib.hid (And.intro hB2 hw2)
  clear hB2 hw2
  rw [← hg]
  clear hmk hg
  go_loopw [20] (fun iv wr => ∃ k : Nat, k ≤ m ∧ iv = .int .i64 k ∧ Blk wr g 3 (arr (negs m k)) ∧ Below w.heap.size w wr) (fun iv _ => m - (intOf iv).toNat)
  case atStart => exact ⟨0, Nat.zero_le _, rfl, H2.out.1, H2.out.2⟩
  case round =>
    obtain ⟨k, hk, rfl, hB, hbl⟩ := hrel
    have HR0 := Lib.hid (And.intro hB hbl)
    clear hB hbl
    by_cases hltk : k < m
    · obtain ⟨ob, hob⟩ : ∃ ob, (arr (negs m k))[k]? = some ob := ⟨_, Array.getElem?_eq_getElem (by rw [arr_size, negs_length hk]; exact hltk)⟩
      have c1 : wr.cell? ⟨g, k, none⟩ = some ob := by rw [HR0.out.1.cell, hob]
      have f1 := HR0.out.1.frozen k
      have hB2 := HR0.out.1.set_ k (.int .i64 (-1))
      have e2 : (arr (negs m k)).setIfInBounds k (.int .i64 (-1)) = arr (negs m (k + 1)) := by
        rw [arr_set]
        congr 1
        unfold negs
        rw [List.set_append_right _ _ (by simp), List.length_replicate, Nat.sub_self, show m - k = (m - (k + 1)) + 1 by omega, List.replicate_succ, List.set_cons_zero, List.replicate_succ']
        simp
      rw [e2] at hB2
      have HB2 := Lib.hid hB2
      have l1 : (k : Int) < (m : Int) := by omega
      clear hob hB2 e2
      go_wp2_with fail
      go_roundw
      case rel => exact ⟨k + 1, by omega, by go_num, HB2.out, HR0.out.2.setCell hgw _⟩
      case measure => simp [intOf]; omega
    · obtain rfl : m = k := by omega
      have hB3 := HR0.out.1
      rw [negs_all] at hB3
      have H3 := Lib.hid (And.intro (blk_own (m := m) hB3 hgw (by simp) (by omega)) HR0.out.2)
      clear hB3
      go_wp2_with fail
      go_loopg [3, 29] m (fun gh dv iv wr => ∃ (t gd c : Nat), gh = m - t ∧ t ≤ m ∧ iv = .int .i64 t ∧ dv = .slice (some ⟨gd, 0, none⟩) m c ∧ wr.ownsRow w.heap.size 3 1 (.slice (some ⟨gd, 0, none⟩) m c) m ((cycTo V n m t).map (Value.int .i64)) ∧ partD n m (cycTo V n m t) ∧ Below w.heap.size w wr)
      case atStart => exact ⟨0, g, m, rfl, Nat.zero_le _, rfl, rfl, H3.out.1, partD_zero n m, H3.out.2⟩
      case round =>
        obtain ⟨t, gd, c, rfl, ht, rfl, rfl, hown, hpd, hbl⟩ := hrel
        obtain ⟨wo, rfl⟩ : ∃ wo : World, wo = wr := ⟨_, rfl⟩
        have HR := Lib.hid (And.intro hown (And.intro hpd hbl))
        clear hown hpd hbl
        by_cases hlt : t < m
        · have l1 : (t : Int) < (m : Int) := by omega
          go_wp2_with fail
          refine (r1calm_any (some ad0) n cap (some ⟨gd, 0, none⟩) m c V (cycTo V n m t) _ H.out.1 (by omega) HR.out.2.1.1 (by omega) H.out.2.2.2 (H.out.2.1.below HR.out.2.2) (At.of_own HR.out.1)).mono ?_
          rintro e w' ⟨rfl, rfl⟩
          go_wp2_with fail
          go_loopg [3, 6] (potN V (cycTo V n m t) n) (fun gh dv av wr => ∃ (gd c F : Nat) (d : List Int), gh = potN V d n ∧ dv = .slice (some ⟨gd, 0, none⟩) m c ∧ av = .int .i64 (calmI V d n) ∧ settle V n 3000 (cycTo V n m t) = settle V n F d ∧ potN V d n < F ∧ partD n m d ∧ wr.ownsRow w.heap.size 3 1 (.slice (some ⟨gd, 0, none⟩) m c) m (d.map (Value.int .i64)) ∧ Below w.heap.size w wr)
          case atStart => exact ⟨gd, c, 3000, cycTo V n m t, rfl, rfl, rfl, rfl, potN_lt (fun i hi => (H.out.2.2.2 i hi).2), HR.out.2.1, HR.out.1, HR.out.2.2⟩
          case round =>
            obtain ⟨gd, c, F, d, rfl, rfl, rfl, hset, hF, hpd, hown, hbl⟩ := hrel
            obtain ⟨wp, rfl⟩ : ∃ wp : World, wp = wr := ⟨_, rfl⟩
            have HX := Lib.hid (And.intro hset (And.intro hF (And.intro hpd (And.intro hown hbl))))
            clear hset hF hpd hown hbl
            cases hc : calmO V d n with
            | some j =>
              have hj := (calm_lt hc).1
              have HC := Lib.hid hc
              rw [calmI_some hc]
              have hset2 : settle V n 3000 (cycTo V n m t) = d := by rw [HX.out.1, settle_calm hc]
              obtain ⟨p1, p2, p3⟩ := own_put HX.out.2.2.2.1 hlt (j : Int)
              have HN := Lib.hid (And.intro (cycTo_succ V n m t hset2 hc) p3)
              have l3 : ¬ (j : Int) < 0 := by omega
              have hgb := (own_some HX.out.2.2.2.1 (by omega))
              obtain ⟨g', hge, hgb, _⟩ := hgb
              injection hge with hge
              injection hge with hge
              subst hge
              generalize d.getD t 0 = od at p2
              clear hc hset2 p3
              go_wp2_with fail
              go_roundg (m - (t + 1))
              case measure => omega
              case rel => exact ⟨t + 1, gd, c, rfl, by omega, by go_num, rfl, by rw [HN.out.1]; exact HN.out.2, by rw [HN.out.1]; exact partD_set HX.out.2.2.1 hj, HX.out.2.2.2.2.setCell hgb _⟩
            | none =>
              obtain ⟨l, hcyc, hl2, hln, hnd, hlb, hic⟩ := cyc_facts hn4 hc
              rw [calmI_none hc]
              have hpot := potN_rot hn4.2 hm7.2 HX.out.2.2.1.1 (fun i hi => (H.out.2.2.2 i hi).2) hnd hlb (by rintro rfl; simp at hl2) hic
              have HC := Lib.hid (And.intro hc (And.intro hcyc (And.intro hnd (And.intro hlb hpot))))
              obtain ⟨lk, hlk⟩ : ∃ lk, lk = l.length := ⟨_, rfl⟩
              rw [← hlk] at hl2 hln
              have HLK := Lib.hid hlk
              clear hc hcyc hnd hlb hic hpot hlk
              go_wp2_with fail
              refine (r1cycle_any (some ad0) n cap (some ⟨gd, 0, none⟩) m c V d l _ H.out.1 hn4 HX.out.2.2.1.1 (by omega) H.out.2.2.2 (H.out.2.1.below HX.out.2.2.2.2) (At.of_own HX.out.2.2.2.1) HC.out.2.1).mono ?_
              rintro e w2 ⟨lA, lc, rfl, hlc1, hlc2, hIl, hb2⟩
              rw [← HLK.out] at hlc1 ⊢
              have hb2s : w.heap.size ≤ w2.heap.size := (HX.out.2.2.2.2.trans (hb2.mono HX.out.2.2.2.2.size)).size
              have H2 := Lib.hid (And.intro hIl (And.intro (own_below HX.out.2.2.2.1 hb2) (HX.out.2.2.2.2.trans (hb2.mono HX.out.2.2.2.2.size))))
              clear hIl hb2
              have hsz2 := hb2s
              go_wp2_with (at_builtin; refine appN sty_int rfl _ _ rfl w2.heap.size (some ⟨w2.heap.size, 0, none⟩) 0 0 [] rfl ?d1 (some ⟨gd, 0, none⟩) m c (d.map (Value.int .i64)) (fun h => by cases h) ?d2 ?d3 ?d4 rfl (by omega) (by go_size) ?_)
              case d1 => exact own_new (w := w2) 3 #[] (show 0 ≤ maxLen by decide)
              case d2 => rw [List.length_map, Nat.mul_one]; exact HX.out.2.2.1.1
              case d3 => exact At.below (At.of_own H2.out.2.1) ((Below.refl _ _).alloc (Nat.le_refl _) _)
              case d4 => exact ints_one _
              intro A6 k6 w6 hown6 _ hbl6 hk61 hk62
              have hb6 : Below w2.heap.size w2 w6 := ((Below.refl w2.heap.size w2).alloc (Nat.le_refl _) _).trans hbl6
              obtain ⟨gn, rfl, hgn, _⟩ := own_some hown6 (by omega)
              have hown6' : w6.ownsRow w2.heap.size 3 1 (.slice (some ⟨gn, 0, none⟩) m k6) m ((nextL l d 0).map (Value.int .i64)) := by rw [nextL_zero]; exact hown6
              have H6 := Lib.hid (And.intro hown6' hb6)
              clear hown6 hown6' hbl6 hb6
              go_wp2_with fail
              go_loopw [45] (fun xv wr => ∃ x : Nat, x ≤ lk ∧ xv = .int .i64 x ∧ wr.ownsRow w2.heap.size 3 1 (.slice (some ⟨gn, 0, none⟩) m k6) m ((nextL l d x).map (Value.int .i64)) ∧ Below w2.heap.size w2 wr) (fun xv _ => lk - (intOf xv).toNat)
              case atStart => exact ⟨0, Nat.zero_le _, rfl, H6.out.1, H6.out.2⟩
              case round =>
                obtain ⟨x, hx, rfl, hown, hbl⟩ := hrel
                obtain ⟨wq, rfl⟩ : ∃ wq : World, wq = wr := ⟨_, rfl⟩
                have HQ := Lib.hid (And.intro hown hbl)
                clear hown hbl
                by_cases hlx : x < lk
                · have l2 : (x : Int) < (lk : Int) := by omega
                  obtain ⟨la, hla, _, hlc⟩ := (H2.out.1.below HQ.out.2).some_ (by rw [natI_length, ← HLK.out]; omega)
                  injection hla with hla
                  subst hla
                  have hcx := hlc x _ (natI_get (l := l) (by rw [← HLK.out]; exact hlx))
                  obtain ⟨y, hy⟩ : ∃ y, y = (x + 1) % lk := ⟨_, rfl⟩
                  have hyk : y < lk := by rw [hy]; exact Nat.mod_lt _ (by omega)
                  have hmod : ((x : Int) + 1) % (lk : Int) = (y : Int) := by rw [hy]; simp
                  have HY := Lib.hid hy
                  have l3 : (y : Int) < (lk : Int) := by omega
                  have l4 : (0 : Int) ≤ (y : Int) := by omega
                  clear hlc hy
                  generalize hix : l.getD x 0 = ix at hcx
                  have HIX := Lib.hid hix
                  clear hix
                  go_wp2_with fail
                  go_loopw [52] (fun hv wr => ∃ h : Nat, h ≤ m ∧ hv = .int .i64 h ∧ wr.ownsRow w2.heap.size 3 1 (.slice (some ⟨gn, 0, none⟩) m k6) m ((mixL (nextL l d (x + 1)) (nextL l d x) h).map (Value.int .i64)) ∧ Below w2.heap.size w2 wr) (fun hv _ => m - (intOf hv).toNat)
                  case atStart => exact ⟨0, Nat.zero_le _, rfl, by rw [mixL_zero]; exact HQ.out.1, HQ.out.2⟩
                  case round =>
                    obtain ⟨h, hh, rfl, hown, hbl⟩ := hrel
                    have HH := Lib.hid (And.intro hown hbl)
                    clear hown hbl
                    have hlen := nextL_length l d
                    have hdl := HX.out.2.2.1.1
                    by_cases hlh : h < m
                    · obtain ⟨p, hp⟩ : ∃ p, d[h]? = some p := ⟨_, List.getElem?_eq_getElem (by omega)⟩
                      have hpd : d.getD h 0 = p := by rw [List.getD_eq_getElem?_getD, hp]; rfl
                      obtain ⟨da, hda, hcp⟩ := (At.below (At.of_own H2.out.2.1) HH.out.2) h (.int .i64 p) (by rw [List.getElem?_map, hp]; rfl)
                      injection hda with hda
                      subst hda
                      have hcp2 : wr.cell? ⟨gd, h, none⟩ = some (.int .i64 p) := by
                        have e : (⟨gd, 0, none⟩ : Addr).add h = ⟨gd, h, none⟩ := by cases h <;> simp [Addr.add]
                        rwa [e] at hcp
                      obtain ⟨la2, hla2, _, hlc2'⟩ := (H2.out.1.below HH.out.2).some_ (by rw [natI_length, ← HLK.out]; omega)
                      injection hla2 with hla2
                      subst hla2
                      have hcy := hlc2' y _ (natI_get (l := l) (by rw [← HLK.out]; exact hyk))
                      have ea : (nextL l d (x + 1)).getD h 0 = if p = (l.getD y 0 : Int) then (ix : Int) else nextTo l x p := by
                        rw [nextL_getD (by omega), hpd, nextTo, ← HLK.out, ← HY.out, HIX.out]
                      have eb : (nextL l d x).getD h 0 = nextTo l x p := by rw [nextL_getD (by omega), hpd]
                      have hset := mixL_set (a := nextL l d (x + 1)) (b := nextL l d x) (k := h) (by rw [hlen, hlen]) (by rw [hlen]; omega)
                      have hget := mixL_getD (a := nextL l d (x + 1)) (b := nextL l d x) (k := h) (by rw [hlen, hlen]) (by rw [hlen]; omega)
                      have hml := mixL_length (a := nextL l d (x + 1)) (b := nextL l d x) (by rw [hlen, hlen]) h
                      rw [hlen] at hml
                      have l5 : (h : Int) < (m : Int) := by omega
                      have HE := Lib.hid (And.intro ea (And.intro eb (And.intro hset (And.intro hget (And.intro hml hdl)))))
                      clear hp hpd hcp hlc2' ea eb hset hget hml hlen hdl
                      generalize l.getD y 0 = iy at HE hcy
                      by_cases he : p = (iy : Int)
                      · have hbe : (p == (iy : Int)) = true := by simp [he]
                        obtain ⟨q1, q2, q3⟩ := own_put HH.out.1 hlh (ix : Int)
                        have HN : Hid ((wr.setCell ⟨gn, h, none⟩ (.int .i64 (ix : Int))).ownsRow w2.heap.size 3 1 (.slice (some ⟨gn, 0, none⟩) m k6) m ((mixL (nextL l d (x + 1)) (nextL l d x) (h + 1)).map (Value.int .i64))) := Lib.hid (by
                          rw [← HE.out.2.2.1, HE.out.1, if_pos he]; exact q3)
                        generalize (mixL (nextL l d (x + 1)) (nextL l d x) h).getD h 0 = ov at q2
                        clear he q3
                        go_wp2_with fail
                        go_roundw
                        case rel => exact ⟨h + 1, by omega, by go_num, HN.out, HH.out.2.setCell hgn _⟩
                        case measure => simp [intOf]; omega
                      · have hbe : (p == (iy : Int)) = false := by simp [he]
                        have HN : Hid (mixL (nextL l d (x + 1)) (nextL l d x) (h + 1) = mixL (nextL l d (x + 1)) (nextL l d x) h) := Lib.hid (by
                          rw [← HE.out.2.2.1, HE.out.1, if_neg he, ← HE.out.2.1, ← HE.out.2.2.2.1]
                          have hlt2 : h < (mixL (nextL l d (x + 1)) (nextL l d x) h).length := by rw [HE.out.2.2.2.2.1]; rw [HE.out.2.2.2.2.2]; exact hlh
                          rw [List.getD_eq_getElem?_getD, List.getElem?_eq_getElem hlt2]
                          simp)
                        clear he
                        go_wp2_with fail
                        go_roundw
                        case rel => exact ⟨h + 1, by omega, by go_num, by rw [HN.out]; exact HH.out.1, HH.out.2⟩
                        case measure => simp [intOf]; omega
                    · obtain rfl : h = m := by omega
                      have HN : Hid (mixL (nextL l d (x + 1)) (nextL l d x) h = nextL l d (x + 1)) := Lib.hid (mixL_all (by rw [hlen, hdl]) (by rw [hlen, hdl]))
                      clear hlen hdl
                      go_wp2_with fail
                      go_roundw
                      case rel => exact ⟨x + 1, by omega, by go_num, by rw [← HN.out]; exact HH.out.1, HH.out.2⟩
                      case measure => simp [intOf]; omega
                · obtain rfl : x = lk := by omega
                  have hrot : nextL l d x = rotD l d := by rw [HLK.out]; exact nextL_rot HC.out.2.2.1 d
                  have hownr := HQ.out.1
                  rw [hrot] at hownr
                  have hpr := partD_rot HX.out.2.2.1 HC.out.2.2.2.1
                  have hsetr : settle V n 3000 (cycTo V n m t) = settle V n (F - 1) (rotD l d) := by
                    rw [HX.out.1]
                    obtain ⟨F', hF'⟩ : ∃ F', F = F' + 1 := ⟨F - 1, by have := HX.out.2.1; omega⟩
                    rw [hF', settle_rot HC.out.1 HC.out.2.1]; rfl
                  have HRR := Lib.hid (And.intro (own_mono hownr hsz2) (And.intro hpr (And.intro hsetr (H2.out.2.2.trans (HQ.out.2.mono hsz2)))))
                  clear hrot hownr hpr hsetr
                  go_wp2_with fail
                  refine (r1calm_any (some ad0) n cap (some ⟨gn, 0, none⟩) m k6 V (rotD l d) _ H.out.1 (by omega) HRR.out.2.1.1 (by omega) H.out.2.2.2 (H.out.2.1.below HRR.out.2.2.2) (At.of_own HRR.out.1)).mono ?_
                  rintro e w' ⟨rfl, rfl⟩
                  go_wp2_with fail
                  go_roundg (potN V (rotD l d) n)
                  case measure => exact HC.out.2.2.2.2
                  case rel => exact ⟨gn, k6, F - 1, rotD l d, rfl, rfl, rfl, HRR.out.2.2.1, by have := HC.out.2.2.2.2; have := HX.out.2.1; omega, HRR.out.2.1, HRR.out.1, HRR.out.2.2.2⟩
        · obtain rfl : t = m := by omega
          obtain ⟨A9, c9, he, h1, h2, _⟩ := own_form HR.out.1
          injection he with e1 e2 e3
          subst e3
          clear e1 e2
          go_wp2_with fail
          go_ret
          exact ⟨gd, c, rfl, h1, h2, At.of_own HR.out.1, HR.out.2.2⟩

/- Contract: Cycles of package split. -/

theorem idx_natI (l : List Nat) (p : Int) : idx (natI l) p = if 0 ≤ p ∧ p.toNat ∈ l then ((l.idxOf p.toNat : Nat) : Int) else -1 := by
  unfold idx
  have hmem : p ∈ natI l ↔ 0 ≤ p ∧ p.toNat ∈ l := by
    unfold natI
    rw [List.mem_map]
    constructor
    · rintro ⟨x, hx, rfl⟩; exact ⟨by omega, by simpa using hx⟩
    · rintro ⟨h1, h2⟩; exact ⟨p.toNat, h2, by omega⟩
  by_cases h : 0 ≤ p ∧ p.toNat ∈ l
  · rw [if_pos h, if_pos (hmem.2 h)]
    congr 1
    have key : ∀ l : List Nat, (natI l).idxOf p = l.idxOf p.toNat := by
      intro l
      induction l with
      | nil => rfl
      | cons a l ih =>
        show ((a : Int) :: natI l).idxOf p = (a :: l).idxOf p.toNat
        rw [List.idxOf_cons, List.idxOf_cons, ih]
        have e : ((a : Int) == p) = (a == p.toNat) := by rw [Bool.eq_iff_iff, beq_iff_eq, beq_iff_eq]; omega
        rw [e]
    exact key l
  · rw [if_neg h, if_neg (fun h2 => h (hmem.1 h2))]
theorem calm_at {V : List (List Int)} {d : List Int} {n j : Nat} (hj : j < n) (hno : ∀ k, k < j → ((List.range n).all fun i => !envB V d i k) = false) (h : ((List.range n).all fun i => !envB V d i j) = true) : calmO V d n = some j := by
  unfold calmO; exact range_find_some hj hno h

/-- What Cycles leaves. -/
def CyclesPost (V : List (List Int)) (w : World) (e : Ending) (w' : World) : Prop :=
  (valV V = false ∧ e = .returned (.tuple #[.slice none 0 0, .int .i64 2]) ∧ Below w.heap.size w w') ∨
  (valV V = true ∧ ∃ g, e = .returned (.tuple #[.slice (some ⟨g, 0, none⟩) (rowV V 0).length (rowV V 0).length, .int .i64 0]) ∧ Blk w' g 3 (arr (cycTo V V.length (rowV V 0).length (rowV V 0).length)) ∧ w.heap.size ≤ g ∧ Below w.heap.size w w')

set_option maxRecDepth 100000 in
set_option maxHeartbeats 6400000 in
theorem scycles_any (A : Option Addr) (n cap : Nat) (V : List (List Int)) (w : World) (hl : V.length = n) (hn : n ≤ 9223372036854775807) (hV : Mat w A V) :
    Calls Try.prog 38 #[.slice A n cap] w (CyclesPost V w) := by
  have H := Lib.hid (And.intro hl hV)
  clear hl hV
  go_enter Try.func38, Try.ntmps38
  go_wp2_with fail
  refine (svalid_any A n cap V _ H.out.1 hn H.out.2).mono ?_
  rintro e w1 ⟨rfl, hb1⟩
  have H1 := Lib.hid hb1
  clear hb1
  cases hv : valV V
  · have HV := Lib.hid hv
    clear hv
    go_wp2_with fail
    go_ret2
    exact .inl ⟨HV.out, rfl, H1.out⟩
  · have hv1 := valV_iff.1 hv
    have hn4 : 1 ≤ n ∧ n ≤ 4 := by rw [← H.out.1]; exact hv1.1
    obtain ⟨m, hm⟩ : ∃ m, m = (rowV V 0).length := ⟨_, rfl⟩
    have hm7 : 1 ≤ m ∧ m ≤ 7 := by rw [hm]; exact hv1.2.1
    have hrows : ∀ i, i < n → (rowV V i).length = m ∧ ∀ x ∈ rowV V i, 0 ≤ x ∧ x ≤ 100 := by rw [← H.out.1]; exact valV_rows hv hm
    have HV := Lib.hid (And.intro hv (And.intro hm hrows))
    clear hv hv1 hm hrows
    go_wp2_with fail
    refine (snobody_any A n cap m V w1 H.out.1 hn4.1 (by omega) HV.out.2.1 hm7 (H.out.2.below H1.out)).mono ?_
    rintro e w2 ⟨g, rfl, hB2, hg, hb2⟩
    have hw2 : Below w.heap.size w w2 := H1.out.trans (hb2.mono H1.out.size)
    have hgw : w.heap.size ≤ g := Nat.le_trans H1.out.size hg
    have H2 := Lib.hid (And.intro hB2 hw2)
    clear hB2 hg hb2 hw2
    go_wp2_with fail
    go_loopg [21] m (fun gh iv wr => ∃ t : Nat, gh = m - t ∧ t ≤ m ∧ iv = .int .i64 t ∧ Blk wr g 3 (arr (cycTo V n m t)) ∧ partD n m (cycTo V n m t) ∧ Below w.heap.size w wr)
    case atStart => exact ⟨0, rfl, Nat.zero_le _, rfl, H2.out.1, partD_zero n m, H2.out.2⟩
    case round =>
      obtain ⟨t, rfl, ht, rfl, hB, hpd, hbl⟩ := hrel
      obtain ⟨wo, rfl⟩ : ∃ wo : World, wo = wr := ⟨_, rfl⟩
      have HR := Lib.hid (And.intro hB (And.intro hpd hbl))
      clear hB hpd hbl
      by_cases hlt : t < m
      · have l1 : (t : Int) < (m : Int) := by omega
        go_wp2_with fail
        go_loopg [] (potN V (cycTo V n m t) n) (fun gh wr => ∃ (F : Nat) (d : List Int), gh = potN V d n ∧ settle V n 3000 (cycTo V n m t) = settle V n F d ∧ potN V d n < F ∧ partD n m d ∧ Blk wr g 3 (arr d) ∧ Below w.heap.size w wr)
        case atStart => exact ⟨3000, cycTo V n m t, rfl, rfl, potN_lt (fun i hi => (HV.out.2.2 i hi).2), HR.out.2.1, HR.out.1, HR.out.2.2⟩
        case round =>
          obtain ⟨F, d, rfl, hset, hF, hpd, hB, hbl⟩ := hrel
          obtain ⟨wp, rfl⟩ : ∃ wp : World, wp = wr := ⟨_, rfl⟩
          have hwsz := hbl.size
          have HX := Lib.hid (And.intro hset (And.intro hF (And.intro hpd (And.intro hB hbl))))
          clear hset hF hpd hB hbl
          go_wp2_with fail
          refine (senvy_any A n cap (some ⟨g, 0, none⟩) m m V d _ H.out.1 (by omega) HX.out.2.2.1.1 (by omega) HV.out.2.2 (H.out.2.below HX.out.2.2.2.2) (blk_ints HX.out.2.2.2.1)).mono ?_
          rintro e w3 ⟨Ap, cp, rfl, hq, hP, hb3⟩
          obtain ⟨q, hqe⟩ : ∃ q, q = (envL V d n).length := ⟨_, rfl⟩
          rw [← hqe] at hq ⊢
          have hw3 := hb3.size
          have hbl3 : ∀ o, Blk (w3.alloc (.cells #[o] 3)) w3.heap.size 3 #[o] := fun o => Blk.new _ _ _ rfl
          have hal3 : ∀ o, Below w3.heap.size w3 (w3.alloc o) := fun o => (Below.refl _ _).alloc (Nat.le_refl _) _
          have H3 := Lib.hid (And.intro hP (And.intro (HX.out.2.2.2.1.below hb3 HX.out.2.2.2.1.lt) (And.intro (HX.out.2.2.2.2.trans (hb3.mono hwsz)) (And.intro hqe (And.intro hbl3 hal3)))))
          clear hqe hP hb3 hbl3 hal3
          go_wp2_with fail
          go_loopg [] n (fun gh wr => ∃ j : Nat, gh = n - j ∧ j ≤ n ∧ Blk wr w3.heap.size 3 #[.int .i64 (j : Int)] ∧ (∀ k, k < j → ((List.range n).all fun i => !envB V d i k) = false) ∧ Below w3.heap.size w3 wr)
          case atStart => exact ⟨0, rfl, Nat.zero_le _, H3.out.2.2.2.2.1 _, fun k hk => by omega, H3.out.2.2.2.2.2 _⟩
          case round =>
            obtain ⟨j, rfl, hj, hBj, hnoj, hbl⟩ := hrel
            have HJ := Lib.hid (And.intro hBj (And.intro hnoj hbl))
            obtain ⟨c1, f1⟩ := hBj.at1
            have hwr := hbl.size
            clear hBj hnoj hbl
            have hgn : g ≠ w3.heap.size := by have := H3.out.2.1.lt; omega
            by_cases hlj : j < n
            · have l2 : (j : Int) < (n : Int) := by omega
              go_wp2_with fail
              refine (containsfP_any Ap q cp w3.heap.size j (envL V d n) _ H3.out.2.2.2.1.symm hq (H3.out.1.below HJ.out.2.2) c1).mono ?_
              rintro e w4 ⟨rfl, hb4⟩
              rw [envied_iff hlj]
              have hBj4 := HJ.out.1.below hb4 HJ.out.1.lt
              have hbl4 : Below w3.heap.size w3 w4 := HJ.out.2.2.trans (hb4.mono hwr)
              clear c1 f1
              obtain ⟨c1, f1⟩ := hBj4.at1
              have H4 := Lib.hid (And.intro hBj4 hbl4)
              clear hb4 hBj4 hbl4
              cases hca : (List.range n).all fun i => !envB V d i j
              · have HN : Hid (∀ k, k < j + 1 → ((List.range n).all fun i => !envB V d i k) = false) := Lib.hid (fun k hk => by
                  rcases Nat.lt_succ_iff_lt_or_eq.1 hk with h | h
                  · exact HJ.out.2.1 k h
                  · rw [h]; exact hca)
                have e1 : IntKind.i64.wrap ((j : Int) + 1) = (j : Int) + 1 := IntWalk.i64_in _ (by omega)
                clear hca
                go_wp2_with fail
                go_roundg (n - (j + 1))
                case measure => omega
                case rel => exact ⟨j + 1, rfl, by omega, by have h := H4.out.1.set_ 0 (.int .i64 ((j : Int) + 1)); exact h, HN.out, H4.out.2.setCell (Nat.le_refl _) _⟩
              · have hcalm := calm_at hlj HJ.out.2.1 hca
                have hset2 : settle V n 3000 (cycTo V n m t) = d := by rw [HX.out.1, settle_calm hcalm]
                have hnext := cycTo_succ V n m t hset2 hcalm
                have hB4 : Blk w4 g 3 (arr d) := H3.out.2.1.below H4.out.2 H3.out.2.1.lt
                have c2 : w4.cell? ⟨g, t, none⟩ = some (.int .i64 (d.getD t 0)) := by
                  rw [hB4.cell, arr_get, List.getD_eq_getElem?_getD, List.getElem?_eq_getElem (by rw [HX.out.2.2.1.1]; exact hlt)]; rfl
                have f2 := hB4.frozen t
                have hB5 := hB4.set_ t (.int .i64 (j : Int))
                rw [arr_set, ← hnext] at hB5
                have hpd5 : partD n m (cycTo V n m (t + 1)) := by rw [hnext]; exact partD_set HX.out.2.2.1 hlj
                have HN := Lib.hid (And.intro hB5 (And.intro hpd5 ((H3.out.2.2.1.trans (H4.out.2.mono (by omega))).setCell (p := ⟨g, t, none⟩) hgw (.int .i64 (j : Int)))))
                generalize d.getD t 0 = od at c2
                clear hca hcalm hset2 hnext hB4 hB5 hpd5
                go_wp2_with fail
                go_roundg (m - (t + 1))
                case measure => omega
                case rel => exact ⟨t + 1, rfl, by omega, by go_num, HN.out.1, HN.out.2.1, HN.out.2.2⟩
            · obtain rfl : j = n := by omega
              have hcn : calmO V d j = none := by unfold calmO; exact range_find_none HJ.out.2.1
              obtain ⟨l, hcyc, hl2, hln, hnd, hlb, hic⟩ := cyc_facts hn4 hcn
              have hpot := potN_rot hn4.2 hm7.2 HX.out.2.2.1.1 (fun i hi => (HV.out.2.2 i hi).2) hnd hlb (by rintro rfl; simp at hl2) hic
              obtain ⟨lk, hlk⟩ : ∃ lk, lk = l.length := ⟨_, rfl⟩
              rw [← hlk] at hl2 hln
              have hwrB : Blk wr g 3 (arr d) := H3.out.2.1.below HJ.out.2.2 H3.out.2.1.lt
              have hwrW : Below w.heap.size w wr := H3.out.2.2.1.trans (HJ.out.2.2.mono (by omega))
              have HC := Lib.hid (And.intro hcn (And.intro hcyc (And.intro hnd (And.intro hlb (And.intro hpot (And.intro hlk (And.intro hwrB hwrW)))))))
              clear hcn hcyc hnd hlb hic hpot hlk hwrB hwrW
              go_wp2_with fail
              refine (circle_any A j cap (some ⟨g, 0, none⟩) m m V d l _ H.out.1 hn4 HX.out.2.2.1.1 (by omega) HV.out.2.2 (H.out.2.below HC.out.2.2.2.2.2.2.2) (blk_ints HC.out.2.2.2.2.2.2.1) HC.out.2.1).mono ?_
              rintro e w5 ⟨lA, lc, rfl, hlc1, hlc2, hIl, hb5, hlAB⟩
              rw [← HC.out.2.2.2.2.2.1] at hlc1 ⊢
              have hwr5 := HC.out.2.2.2.2.2.2.2.size
              have H5 := Lib.hid (And.intro hIl (And.intro (HC.out.2.2.2.2.2.2.1.below hb5 HC.out.2.2.2.2.2.2.1.lt) (HC.out.2.2.2.2.2.2.2.trans (hb5.mono hwr5))))
              have hg5 : lA.block ≠ g := by have := HC.out.2.2.2.2.2.2.1.lt; omega
              clear hIl hb5 c1 f1
              go_wp2_with fail
              go_loopw [50] (fun kv wr => ∃ k : Nat, k ≤ m ∧ kv = .int .i64 k ∧ Blk wr g 3 (arr (mixL (rotD l d) d k)) ∧ Ints wr (some lA) (natI l) ∧ Below w.heap.size w wr) (fun kv _ => m - (intOf kv).toNat)
              case atStart => exact ⟨0, Nat.zero_le _, rfl, by rw [mixL_zero]; exact H5.out.2.1, H5.out.1, H5.out.2.2⟩
              case round =>
                obtain ⟨k, hk, rfl, hBk, hIk, hblk⟩ := hrel
                have HK := Lib.hid (And.intro hBk (And.intro hIk hblk))
                clear hBk hIk hblk
                have hdl := HX.out.2.2.1.1
                have hrl := rotD_length l d
                by_cases hltk : k < m
                · have l3 : (k : Int) < (m : Int) := by omega
                  obtain ⟨p, hp⟩ : ∃ p, p = d.getD k 0 := ⟨_, rfl⟩
                  have hget := mixL_getD (a := rotD l d) (b := d) (k := k) (by rw [hrl]) (by omega)
                  have hset := mixL_set (a := rotD l d) (b := d) (k := k) (by rw [hrl]) (by omega)
                  have hmlen := mixL_length (a := rotD l d) (b := d) (by rw [hrl]) k
                  rw [rotD_getD (by omega), ← hp] at hset
                  rw [← hp] at hget
                  have hg2 : (mixL (rotD l d) d k)[k]? = some p := by rw [← hget, List.getD_eq_getElem?_getD, List.getElem?_eq_getElem (by omega)]; rfl
                  have c3 : wr.cell? ⟨g, k, none⟩ = some (.int .i64 p) := by rw [HK.out.1.cell, arr_get, hg2]; rfl
                  have f3 := HK.out.1.frozen k
                  have hidx := idx_natI l p
                  have HS := Lib.hid (And.intro hset (And.intro hget hmlen))
                  have HP := Lib.hid hp
                  clear hp hget hset hmlen hg2 hdl hrl
                  by_cases hin : 0 ≤ p ∧ p.toNat ∈ l
                  · obtain ⟨a, ha⟩ : ∃ a, a = l.idxOf p.toNat := ⟨_, rfl⟩
                    have hal : a < lk := by rw [ha, HC.out.2.2.2.2.2.1]; exact List.idxOf_lt_length_of_mem hin.2
                    rw [if_pos hin, ← ha] at hidx
                    obtain ⟨y, hy⟩ : ∃ y, y = (a + lk - 1) % lk := ⟨_, rfl⟩
                    have hyk : y < lk := by rw [hy]; exact Nat.mod_lt _ (by omega)
                    have hmod : ((a : Int) + (lk : Int) - 1) % (lk : Int) = (y : Int) := by
                      rw [hy, Int.natCast_emod]
                      congr 1
                      omega
                    have hrp : rotP l p = ((l.getD y 0 : Nat) : Int) := by unfold rotP; rw [if_pos hin, ← ha, ← HC.out.2.2.2.2.2.1, ← hy]
                    obtain ⟨la, hla, _, hlcc⟩ := HK.out.2.1.some_ (by rw [natI_length, ← HC.out.2.2.2.2.2.1]; omega)
                    injection hla with hla
                    subst hla
                    have c4 := hlcc y _ (natI_get (l := l) (by rw [← HC.out.2.2.2.2.2.1]; exact hyk))
                    have hB6 := HK.out.1.set_ k (.int .i64 ((l.getD y 0 : Nat) : Int))
                    rw [arr_set, ← hrp, HS.out.1, hrp] at hB6
                    have l4 : (y : Int) < (lk : Int) := by omega
                    have l5 : (0 : Int) ≤ (y : Int) := by omega
                    have HN := Lib.hid (And.intro hB6 (And.intro (ints_far HK.out.2.1 (p := ⟨g, k, none⟩) (fun ad ha => by injection ha with ha; subst ha; exact hg5) (.int .i64 ((l.getD y 0 : Nat) : Int))) (HK.out.2.2.setCell (p := ⟨g, k, none⟩) hgw (.int .i64 ((l.getD y 0 : Nat) : Int)))))
                    generalize l.getD y 0 = ly at HN c4
                    clear hin ha hy hrp hlcc hB6
                    go_wp2_with fail
                    refine (index_any (some lA) lk lc (natI l) p _ (by rw [natI_length]; exact HC.out.2.2.2.2.2.1.symm) (by omega) HK.out.2.1).mono ?_
                    rintro e w' ⟨rfl, rfl⟩
                    rw [hidx]
                    clear hidx
                    go_wp2_with fail
                    go_roundw
                    case rel => exact ⟨k + 1, by omega, by go_num, HN.out.1, HN.out.2.1, HN.out.2.2⟩
                    case measure => simp [intOf]; omega
                  · rw [if_neg hin] at hidx
                    have hrp : rotP l p = p := by unfold rotP; rw [if_neg hin]
                    have HN : Hid (mixL (rotD l d) d (k + 1) = mixL (rotD l d) d k) := Lib.hid (by
                      rw [← HS.out.1, hrp, ← HS.out.2.1]
                      have hlt2 : k < (mixL (rotD l d) d k).length := by rw [HS.out.2.2, HX.out.2.2.1.1]; exact hltk
                      rw [List.getD_eq_getElem?_getD, List.getElem?_eq_getElem hlt2]
                      simp)
                    clear hin hrp
                    go_wp2_with fail
                    refine (index_any (some lA) lk lc (natI l) p _ (by rw [natI_length]; exact HC.out.2.2.2.2.2.1.symm) (by omega) HK.out.2.1).mono ?_
                    rintro e w' ⟨rfl, rfl⟩
                    rw [hidx]
                    clear hidx
                    go_wp2_with fail
                    go_roundw
                    case rel => exact ⟨k + 1, by omega, by go_num, by rw [HN.out]; exact HK.out.1, HK.out.2.1, HK.out.2.2⟩
                    case measure => simp [intOf]; omega
                · obtain rfl : k = m := by omega
                  have hall : mixL (rotD l d) d k = rotD l d := mixL_all (by rw [hrl, hdl]) hdl
                  have hBf := HK.out.1
                  rw [hall] at hBf
                  have hsetr : settle V j 3000 (cycTo V j k t) = settle V j (F - 1) (rotD l d) := by
                    rw [HX.out.1]
                    obtain ⟨F', hF'⟩ : ∃ F', F = F' + 1 := ⟨F - 1, by have := HX.out.2.1; omega⟩
                    rw [hF', settle_rot HC.out.1 HC.out.2.1]; rfl
                  have HN := Lib.hid (And.intro hBf (And.intro hsetr (partD_rot HX.out.2.2.1 HC.out.2.2.2.1)))
                  clear hall hBf hsetr hdl hrl
                  go_wp2_with fail
                  go_roundg (potN V (rotD l d) j)
                  case measure => exact HC.out.2.2.2.2.1
                  case rel => exact ⟨F - 1, rotD l d, rfl, HN.out.2.1, by have := HC.out.2.2.2.2.1; have := HX.out.2.1; omega, HN.out.2.2, HN.out.1, HK.out.2.2⟩
      · obtain rfl : t = m := by omega
        go_wp2_with fail
        go_ret2
        refine .inr ⟨HV.out.1, g, ?_, ?_, hgw, HR.out.2.2⟩
        · rw [← HV.out.2.1]; rfl
        · rw [H.out.1, ← HV.out.2.1]; exact HR.out.1

/- Contract: Rounds of the reference. -/

set_option maxRecDepth 100000 in
set_option maxHeartbeats 3200000 in
theorem r1rounds_any (A : Option Addr) (n cap m : Nat) (V : List (List Int)) (w : World) (hl : V.length = n) (hn4 : 1 ≤ n ∧ n ≤ 4) (hm : m = (rowV V 0).length) (hm7 : 1 ≤ m ∧ m ≤ 7) (hr : ∀ i, i < V.length → (rowV V i).length = m ∧ ∀ x ∈ rowV V i, 0 ≤ x ∧ x ≤ 100) (hV : Mat w A V) :
    Calls Try.prog 39 #[.slice A n cap] w fun e w' => ∃ g, e = .returned (.slice (some ⟨g, 0, none⟩) m m) ∧ Blk w' g 3 (arr (rndTo V n m m)) ∧ w.heap.size ≤ g ∧ Below w.heap.size w w' := by
  have hmk := make_ints m (by omega)
  obtain ⟨ad0, rfl, _, hcc0⟩ := hV.some_ (by omega)
  obtain ⟨A0, c0, h01, hrest0⟩ := hcc0 0 _ (List.getElem?_eq_getElem (by omega))
  have er0 : (V[0]'(by omega)).length = m := by rw [hm, rowV_get (List.getElem?_eq_getElem (by omega))]
  rw [er0] at h01
  have c00 : w.cell? ad0 = some (.slice A0 m c0) := h01
  have H := Lib.hid (And.intro hl hV)
  have HV := Lib.hid (And.intro (True.intro) (And.intro hm hr))
  have l0 : (0 : Int) < (n : Int) := by omega
  clear hrest0 hl hV hm hr hcc0 h01 er0
  go_enter Try.func39, Try.ntmps39
  go_wp2_with fail
  obtain ⟨g, hg⟩ : ∃ g, g = w.heap.size := ⟨_, rfl⟩
  have hgw : w.heap.size ≤ g := by omega
  have hB2 : Blk (w.alloc (.cells (arr (List.replicate m 0)) 3)) g 3 (arr (negs m 0)) := by
    have e : negs m 0 = List.replicate m 0 := by simp [negs]
    rw [e]; exact Blk.new _ _ _ hg
  have hw2 : Below w.heap.size w (w.alloc (.cells (arr (List.replicate m 0)) 3)) := (Below.refl _ _).alloc (Nat.le_refl _) _
  have H2 := Lib.hid (And.intro hB2 hw2)
  clear hB2 hw2
  rw [← hg]
  clear hmk hg
  go_loopw [16] (fun iv wr => ∃ k : Nat, k ≤ m ∧ iv = .int .i64 k ∧ Blk wr g 3 (arr (negs m k)) ∧ Below w.heap.size w wr) (fun iv _ => m - (intOf iv).toNat)
  case atStart => exact ⟨0, Nat.zero_le _, rfl, H2.out.1, H2.out.2⟩
  case round =>
    obtain ⟨k, hk, rfl, hB, hbl⟩ := hrel
    have HR0 := Lib.hid (And.intro hB hbl)
    clear hB hbl
    by_cases hltk : k < m
    · obtain ⟨ob, hob⟩ : ∃ ob, (arr (negs m k))[k]? = some ob := ⟨_, Array.getElem?_eq_getElem (by rw [arr_size, negs_length hk]; exact hltk)⟩
      have c1 : wr.cell? ⟨g, k, none⟩ = some ob := by rw [HR0.out.1.cell, hob]
      have f1 := HR0.out.1.frozen k
      have hB2 := HR0.out.1.set_ k (.int .i64 (-1))
      have e2 : (arr (negs m k)).setIfInBounds k (.int .i64 (-1)) = arr (negs m (k + 1)) := by
        rw [arr_set]
        congr 1
        unfold negs
        rw [List.set_append_right _ _ (by simp), List.length_replicate, Nat.sub_self, show m - k = (m - (k + 1)) + 1 by omega, List.replicate_succ, List.set_cons_zero, List.replicate_succ']
        simp
      rw [e2] at hB2
      have HB2 := Lib.hid hB2
      have l1 : (k : Int) < (m : Int) := by omega
      clear hob hB2 e2
      go_wp2_with fail
      go_roundw
      case rel => exact ⟨k + 1, by omega, by go_num, HB2.out, HR0.out.2.setCell hgw _⟩
      case measure => simp [intOf]; omega
    · obtain rfl : m = k := by omega
      have hB3 := HR0.out.1
      rw [negs_all] at hB3
      have H3 := Lib.hid (And.intro hB3 HR0.out.2)
      clear hB3
      go_wp2_with fail
      go_loopw [25] (fun iv wr => ∃ t : Nat, t ≤ m ∧ iv = .int .i64 t ∧ Blk wr g 3 (arr (rndTo V n m t)) ∧ Below w.heap.size w wr) (fun iv _ => m - (intOf iv).toNat)
      case atStart => exact ⟨0, Nat.zero_le _, rfl, H3.out.1, H3.out.2⟩
      case round =>
        obtain ⟨t, ht, rfl, hB, hbl⟩ := hrel
        obtain ⟨wo, rfl⟩ : ∃ wo : World, wo = wr := ⟨_, rfl⟩
        have HR := Lib.hid (And.intro hB hbl)
        clear hB hbl
        by_cases hlt : t < m
        · obtain ⟨i, hi⟩ : ∃ i, i = t % n := ⟨_, rfl⟩
          have hin : i < n := by rw [hi]; exact Nat.mod_lt _ (by omega)
          have hmod : (t : Int) % (n : Int) = (i : Int) := by omega
          have hr1 : (rowV V i).length = m := (HV.out.2.2 i (by rw [H.out.1]; exact hin)).1
          obtain ⟨ad, had, _, hcc⟩ := (H.out.2.below HR.out.2).some_ (by rw [H.out.1]; omega)
          injection had with had
          subst had
          obtain ⟨A', c, h1, h2, h3, h4⟩ := hcc i _ (List.getElem?_eq_getElem (by rw [H.out.1]; exact hin))
          have er : rowV V i = V[i]'(by rw [H.out.1]; exact hin) := rowV_get (List.getElem?_eq_getElem (by rw [H.out.1]; exact hin))
          rw [← er] at h1 h2 h4
          rw [hr1] at h1 h2
          obtain ⟨rd, rfl, _, hcr⟩ := h4.some_ (by rw [hr1]; omega)
          have hrb := (HV.out.2.2 i (by rw [H.out.1]; exact hin)).2
          have hdl := rndTo_length V n m t
          have hbest := rnd_best V (n := n) (m := m) (t := t) hlt
          have hnext : rndTo V n m (t + 1) = (rndTo V n m t).set (bestTo (rowV V i) (rndTo V n m t) m).toNat (i : Int) := by rw [rndTo, hi]
          rw [← hi] at hbest
          have hbd := fun k => bestTo_bd (rowV V i) (rndTo V n m t) k
          have HI := Lib.hid (And.intro hr1 (And.intro hrb (And.intro hdl (And.intro hbest (And.intro hnext (And.intro hcr (And.intro hbd h1)))))))
          have l1 : (t : Int) < (m : Int) := by omega
          have l2 : (i : Int) < (n : Int) := by omega
          have l3 : (0 : Int) ≤ (i : Int) := by omega
          clear hr1 hrb hdl hbest hnext hcc h4 er hcr h1 hbd hi
          generalize rndTo V n m t = d at HR HI
          generalize rowV V i = row at HI
          go_wp2_with fail
          simp only [hmod]
          clear hmod
          go_loopw [7, 34] (fun bv jv wr => ∃ k : Nat, k ≤ m ∧ jv = .int .i64 k ∧ bv = .int .i64 (bestTo row d k) ∧ Below wo.heap.size wo wr) (fun _ jv _ => m - (intOf jv).toNat)
          case atStart => exact ⟨0, Nat.zero_le _, rfl, rfl, Below.refl _ _⟩
          case round =>
            obtain ⟨k, hk, rfl, rfl, hbl⟩ := hrel
            have HB := Lib.hid hbl
            clear hbl
            obtain ⟨hr1, hrb, hdl, hbest, hnext, hcr, hbd, h1⟩ := HI.out
            have hD : Blk wr g 3 (arr d) := HR.out.1.below HB.out HR.out.1.lt
            by_cases hltk : k < m
            · obtain ⟨y, hy⟩ : ∃ y, d[k]? = some y := ⟨_, List.getElem?_eq_getElem (by omega)⟩
              obtain ⟨x, hx⟩ : ∃ x, row[k]? = some x := ⟨_, List.getElem?_eq_getElem (by omega)⟩
              have c1 : wr.cell? ⟨g, k, none⟩ = some (.int .i64 y) := by rw [hD.cell, arr_get, hy]; rfl
              have c2 := (HB.out.cell (lt_of_cell h1)).trans h1
              have c3 := (HB.out.cell (lt_of_cell (hcr k x hx))).trans (hcr k x hx)
              have hyd : d.getD k 0 = y := by rw [List.getD_eq_getElem?_getD, hy]; rfl
              have hxd : row.getD k 0 = x := by rw [List.getD_eq_getElem?_getD, hx]; rfl
              have hN : bestTo row d (k + 1) = if y < 0 ∧ (bestTo row d k < 0 ∨ row.getD (bestTo row d k).toNat 0 < x) then (k : Int) else bestTo row d k := by rw [bestTo, hyd, hxd]
              have hbk := hbd k
              have hcb : 0 ≤ bestTo row d k → wr.cell? (rd.add (bestTo row d k).toNat) = some (.int .i64 (row.getD (bestTo row d k).toNat 0)) := by
                intro h0
                have hg : row[(bestTo row d k).toNat]? = some (row.getD (bestTo row d k).toNat 0) := by
                  rw [List.getD_eq_getElem?_getD, List.getElem?_eq_getElem (by omega)]; rfl
                exact (HB.out.cell (lt_of_cell (hcr _ _ hg))).trans (hcr _ _ hg)
              have l4 : (k : Int) < (m : Int) := by omega
              have l5 : (0 : Int) ≤ (k : Int) := by omega
              have HN := Lib.hid hN
              clear hr1 hrb hdl hbest hnext hcr hbd h1 hD hy hx hyd hxd hN
              generalize bestTo row d k = b at *
              by_cases hy0 : y < 0
              · have t1 : decide (y < 0) = true := decide_eq_true hy0
                by_cases hb0 : b < 0
                · have t2 : decide (b < 0) = true := decide_eq_true hb0
                  have HE : Hid (bestTo row d (k + 1) = (k : Int)) := Lib.hid (by rw [HN.out, if_pos ⟨hy0, .inl hb0⟩])
                  clear hcb hy0 hb0
                  go_wp2_with fail
                  go_quiet (fail)
                  go_wp2_with fail
                  go_roundw
                  case rel => exact ⟨k + 1, by omega, by go_num, by rw [HE.out], below_drewN HB.out _⟩
                  case measure => simp [intOf]; omega
                · have t2 : decide (b < 0) = false := decide_eq_false hb0
                  obtain ⟨bn, rfl⟩ : ∃ bn : Nat, b = (bn : Int) := ⟨b.toNat, by omega⟩
                  rw [Int.toNat_natCast] at HN
                  have c4 := hcb (by omega)
                  rw [Int.toNat_natCast] at c4
                  have l6 : (bn : Int) < (m : Int) := by omega
                  have l7 : (0 : Int) ≤ (bn : Int) := by omega
                  generalize row.getD bn 0 = z at HN c4
                  by_cases hz : z < x
                  · have HE : Hid (bestTo row d (k + 1) = (k : Int)) := Lib.hid (by rw [HN.out, if_pos ⟨hy0, .inr hz⟩])
                    have t3 : decide (z < x) = true := decide_eq_true hz
                    clear hcb hy0 hb0
                    go_wp2_with fail
                    go_quiet (fail)
                    go_wp2_with fail
                    go_roundw
                    case rel => exact ⟨k + 1, by omega, by go_num, by rw [HE.out], below_drewN HB.out _⟩
                    case measure => simp [intOf]; omega
                  · have HE : Hid (bestTo row d (k + 1) = (bn : Int)) := Lib.hid (by rw [HN.out, if_neg (by intro h; rcases h.2 with h | h <;> omega)])
                    have t3 : decide (z < x) = false := decide_eq_false hz
                    clear hcb hy0 hb0
                    go_wp2_with fail
                    go_quiet (fail)
                    go_wp2_with fail
                    go_roundw
                    case rel => exact ⟨k + 1, by omega, by go_num, by rw [HE.out], below_drewN HB.out _⟩
                    case measure => simp [intOf]; omega
              · have t1 : decide (y < 0) = false := decide_eq_false hy0
                have HE : Hid (bestTo row d (k + 1) = b) := Lib.hid (by rw [HN.out, if_neg (fun h => hy0 h.1)])
                clear hcb hy0
                go_wp2_with fail
                go_quiet (fail)
                go_wp2_with fail
                go_roundw
                case rel => exact ⟨k + 1, by omega, by go_num, by rw [HE.out], below_drewN HB.out _⟩
                case measure => simp [intOf]; omega
            · obtain rfl : k = m := by omega
              have hbk := (hbd k).2
              obtain ⟨bn, hbn⟩ : ∃ bn : Nat, bestTo row d k = (bn : Int) := ⟨(bestTo row d k).toNat, by omega⟩
              rw [hbn] at hbk hnext ⊢
              rw [Int.toNat_natCast] at hnext
              have c1 : wr.cell? ⟨g, bn, none⟩ = some (.int .i64 (d.getD bn 0)) := by
                rw [hD.cell, arr_get, List.getD_eq_getElem?_getD, List.getElem?_eq_getElem (by omega)]; rfl
              have f1 := hD.frozen bn
              have hD2 := hD.set_ bn (.int .i64 (i : Int))
              rw [arr_set, ← hnext] at hD2
              have l6 : (bn : Int) < (k : Int) := by omega
              have l7 : (0 : Int) ≤ (bn : Int) := by omega
              have HD := Lib.hid hD2
              generalize d.getD bn 0 = old at c1
              clear hr1 hrb hdl hbest hnext hcr hbd h1 hD hD2 hbn
              go_wp2_with fail
              go_roundw
              case rel => exact ⟨t + 1, by omega, by go_num, HD.out, (HR.out.2.trans (HB.out.mono HR.out.2.size)).setCell hgw _⟩
              case measure => simp [intOf]; omega
        · obtain rfl : t = m := by omega
          go_wp2_with fail
          go_ret
          exact ⟨g, rfl, HR.out.1, hgw, HR.out.2⟩

/- The walk of SplitDeals: Rounds and Cycles against the reference. -/

set_option maxRecDepth 100000 in
set_option maxHeartbeats 3200000 in
theorem law_deals (A : Option Addr) (n cap : Nat) (V : List (List Int)) (w : World)
    (hl : V.length = n) (_hc : n ≤ cap) (hm : cap ≤ 9223372036854775807) (hV : Mat w A V) (_hx : ∀ r ∈ V, ∀ x ∈ r, -9223372036854775808 ≤ x ∧ x ≤ 9223372036854775807) :
    Calls Try.prog 11 #[.slice A n cap] w fun e w' => e = .returned (.bool true) ∧ Below w.heap.size w w' := by
  have hn9 : n ≤ 9223372036854775807 := by omega
  have H := Lib.hid (And.intro hl hV)
  clear hl hV _hx
  go_enter Try.func11, Try.ntmps11
  go_wp2_with fail
  refine (few2_any A n cap V _ H.out.1 hn9 H.out.2).mono ?_
  rintro e w1 ⟨A1, q1, c1, rfl, hq, hq6, hqc, hc1, hM, hb⟩
  have H1 := Lib.hid (And.intro hq (And.intro hM hb))
  clear hq hM hb
  go_wp2_with fail
  refine (srounds_any A1 q1 c1 (fewV V) _ H1.out.1 (by omega) H1.out.2.1).mono ?_
  rintro e w2 h2
  unfold RndPost at h2
  rw [valV_few] at h2
  obtain ⟨gd, hgd⟩ : ∃ gd, gd = valV V := ⟨_, rfl⟩
  rw [← hgd] at h2
  obtain ⟨RA, rk, rc, ev, he, hres, hb2⟩ : ∃ RA rk rc ev, e = .returned (.tuple #[.slice RA rk rc, .int .i64 ev]) ∧ ((gd = false ∧ rk = 0 ∧ ev = 2) ∨ (gd = true ∧ ev = 0 ∧ rk = (rowV V 0).length ∧ Ints w2 RA (rndTo V n rk rk))) ∧ Below w1.heap.size w1 w2 := by
    rcases h2 with ⟨hg, rfl, hb⟩ | ⟨hg, g, rfl, hB, _, hb⟩
    · exact ⟨none, 0, 0, 2, rfl, .inl ⟨hg, rfl, rfl⟩, hb⟩
    · rw [hg] at hgd
      rw [fewV_ok hgd.symm, H.out.1] at hB
      exact ⟨_, _, _, 0, by rw [fewV_ok hgd.symm], .inr ⟨hg, rfl, rfl, blk_ints hB⟩, hb⟩
  subst he
  have H2 := Lib.hid (And.intro hgd (And.intro hres (H1.out.2.2.trans (hb2.mono H1.out.2.2.size))))
  clear h2 hgd hres hb2
  go_wp2_with fail
  refine (few2_any A n cap V _ H.out.1 hn9 (H.out.2.below H2.out.2.2)).mono ?_
  rintro e w3 ⟨A3, q3, c3, rfl, hq, hq63, hqc3, hc3, hM, hb⟩
  have H3 := Lib.hid (And.intro hq (And.intro hM (And.intro hb (H2.out.2.2.trans (hb.mono H2.out.2.2.size)))))
  clear hq hM hb
  go_wp2_with fail
  refine (scycles_any A3 q3 c3 (fewV V) _ H3.out.1 (by omega) H3.out.2.1).mono ?_
  rintro e w4 h4
  unfold CyclesPost at h4
  rw [valV_few, ← H2.out.1] at h4
  obtain ⟨CA, ck, cc, fv, he, hres, hb4⟩ : ∃ CA ck cc fv, e = .returned (.tuple #[.slice CA ck cc, .int .i64 fv]) ∧ ((gd = false ∧ ck = 0 ∧ fv = 2) ∨ (gd = true ∧ fv = 0 ∧ ck = (rowV V 0).length ∧ Ints w4 CA (cycTo V n ck ck))) ∧ Below w3.heap.size w3 w4 := by
    rcases h4 with ⟨hg, rfl, hb⟩ | ⟨hg, g, rfl, hB, _, hb⟩
    · exact ⟨none, 0, 0, 2, rfl, .inl ⟨hg, rfl, rfl⟩, hb⟩
    · have hgt := H2.out.1.symm.trans hg
      rw [fewV_ok hgt, H.out.1] at hB
      exact ⟨_, _, _, 0, by rw [fewV_ok hgt], .inr ⟨hg, rfl, rfl, blk_ints hB⟩, hb⟩
  subst he
  have H4 := Lib.hid (And.intro hres (And.intro (H3.out.2.2.1.trans (hb4.mono H3.out.2.2.1.size)) (H3.out.2.2.2.trans (hb4.mono H3.out.2.2.2.size))))
  clear h4 hres hb4
  go_wp2_with fail
  refine (r1valid_any A n cap V _ H.out.1 hn9 (H.out.2.below H4.out.2.2)).mono ?_
  rintro e w5 ⟨rfl, rfl⟩
  rw [← H2.out.1]
  rcases H2.out.2.1 with ⟨rfl, rfl, rfl⟩ | ⟨rfl, rfl, hrk, hRI⟩
  · obtain ⟨rfl, rfl⟩ : ck = 0 ∧ fv = 2 := by
      rcases H4.out.1 with ⟨_, h⟩ | ⟨h, _⟩
      · exact h
      · cases h
    go_wp2_with fail
    refine (awake2_any w w4 H4.out.2.2).mono ?_
    rintro e w6 ⟨rfl, hb6⟩
    have H6 := Lib.hid hb6
    clear hb6
    go_wp2_with fail
    go_ret
    exact ⟨rfl, H6.out⟩
  · obtain ⟨rfl, hck, hCI⟩ : fv = 0 ∧ ck = (rowV V 0).length ∧ Ints w4 CA (cycTo V n ck ck) := by
      rcases H4.out.1 with ⟨h, _⟩ | ⟨_, h⟩
      · cases h
      · exact h
    have hv : valV V = true := H2.out.1.symm
    have hv1 := valV_iff.1 hv
    have hn4 : 1 ≤ n ∧ n ≤ 4 := by rw [← H.out.1]; exact hv1.1
    have hm7 : 1 ≤ rk ∧ rk ≤ 7 := by rw [hrk]; exact hv1.2.1
    obtain rfl : ck = rk := by omega
    have HV := Lib.hid (And.intro hrk (And.intro (valV_rows hv hrk) (And.intro (hRI.below H4.out.2.1) hCI)))
    clear hv hv1 hrk hck hRI hCI
    go_wp2_with fail
    refine (r1rounds_any A n cap ck V w4 H.out.1 hn4 HV.out.1 hm7 HV.out.2.1 (H.out.2.below H4.out.2.2)).mono ?_
    rintro e w6 ⟨g6, rfl, hB6, _, hb6⟩
    have H6 := Lib.hid (And.intro (blk_ints hB6) (And.intro (HV.out.2.2.1.below hb6) (And.intro (HV.out.2.2.2.below hb6) (H4.out.2.2.trans (hb6.mono H4.out.2.2.size)))))
    clear hB6 hb6
    go_wp2_with fail
    refine (equal_any RA (some ⟨g6, 0, none⟩) ck ck rc ck (rndTo V n ck ck) (rndTo V n ck ck) w6 (rndTo_length _ _ _ _) (rndTo_length _ _ _ _) (by omega) H6.out.2.1 H6.out.1).mono ?_
    rintro e w7 ⟨rfl, k7, rfl⟩
    have e1 : eqB (rndTo V n ck ck) (rndTo V n ck ck) = true := by unfold eqB; exact decide_eq_true rfl
    rw [e1]
    clear e1
    go_wp2_with fail
    refine (r1cycles_any A n cap ck V (w6.drewN k7) H.out.1 hn4 HV.out.1 hm7 (by rw [← H.out.1]; exact HV.out.2.1) (H.out.2.below (below_drewN H6.out.2.2.2 k7))).mono ?_
    rintro e w8 ⟨g8, c8, rfl, _, _, hI8, hb8⟩
    have hIc : Ints (w6.drewN k7) CA (cycTo V n ck ck) := H6.out.2.2.1
    have H8 := Lib.hid (And.intro hI8 (And.intro (hIc.below hb8) ((below_drewN H6.out.2.2.2 k7).trans (hb8.mono H6.out.2.2.2.size))))
    clear hI8 hb8 hIc
    have hcl : (cycTo V n ck ck).length = ck := cycTo_length V n ck ck
    have HCL := Lib.hid hcl
    clear hcl
    go_wp2_with fail
    refine (equal_any CA (some ⟨g8, 0, none⟩) ck ck cc c8 (cycTo V n ck ck) (cycTo V n ck ck) w8 HCL.out HCL.out (by omega) H8.out.2.1 H8.out.1).mono ?_
    rintro e w9 ⟨rfl, k9, rfl⟩
    have e1 : eqB (cycTo V n ck ck) (cycTo V n ck ck) = true := by unfold eqB; exact decide_eq_true rfl
    rw [e1]
    clear e1
    go_wp2_with fail
    refine (awake2_any w _ (below_drewN H8.out.2.2 k9)).mono ?_
    rintro e w10 ⟨rfl, hb10⟩
    have H10 := Lib.hid hb10
    clear hb10
    go_wp2_with fail
    go_ret
    exact ⟨rfl, H10.out⟩
end Go.Proofs.Ytkljambjdiblkaa
