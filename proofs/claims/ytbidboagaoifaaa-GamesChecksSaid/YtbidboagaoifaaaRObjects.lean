/- Contracts: Objects and InCore of package corrodyref07, of valid costs and payments. -/
import Derived.Test.YtbidboagaoifaaaGObjects
import Derived.Test.YtbidboagaoifaaaPays
import Derived.Test.YtbidboagaoifaaaPlayers
import Derived.Test.YtbidboagaoifaaaDesc
namespace Go.Proofs.Ytbidboagaoifaaa
open Go.RowKit

theorem run_eql_frac (p q : Rat) (w : World) : (binOp .eql 31 (.agg #[.int .i64 p.num, .int .i64 (p.den : Int)]) (.agg #[.int .i64 q.num, .int .i64 (q.den : Int)])).run Try.prog w = .ok (.bool (decide (p = q))) w := by
  have e0 : decide (p = q) = (decide (p.num = q.num) && decide ((p.den : Int) = (q.den : Int))) := by
    rw [Bool.eq_iff_iff]; simp only [rat_eq_iff, decide_eq_true_eq, Bool.and_eq_true]
  rw [e0]
  by_cases h1 : p.num = q.num
  · by_cases h2 : (p.den : Int) = (q.den : Int)
    · simp only [h1, h2]; go_simp
    · simp only [h1]; go_simp
  · go_simp
/-- A payment less a cost is not too great. -/
def ovB (x : Rat) : Prop := (x.den : Int) ≤ 331776 ∧ -5900000000 ≤ x.num ∧ x.num ≤ 5900000000
theorem ov_zero : ovB 0 := by unfold ovB; decide
theorem ov_int {z : Int} (h : 0 ≤ z ∧ z ≤ 1000) : ovB (z : Rat) := ⟨by show (1 : Int) ≤ _; omega, by show _ ≤ z; omega, by show z ≤ _; omega⟩
theorem ov_pays {qs : List Rat} {n : Nat} (hl : qs.length = n) (hn : n ≤ 4) (h : ∀ q ∈ qs, smallQ q) (s : Nat) : ((paysL qs s).den : Int) ≤ 331776 ∧ -5529600000 ≤ (paysL qs s).num ∧ (paysL qs s).num ≤ 5529600000 := by
  have h1 := cap_pays h s n (by omega)
  rw [show paysL qs s = paysTo qs s n from by rw [paysL, hl]; rfl]
  have h2 := DQ_le hn
  obtain ⟨a, b, c⟩ := h1
  exact ⟨by omega, by omega, by omega⟩
theorem sub_prods {p : Rat} (hp : (p.den : Int) ≤ 331776 ∧ -5529600000 ≤ p.num ∧ p.num ≤ 5529600000) {z : Int} (hz : 0 ≤ z ∧ z ≤ 1000) :
    -4000000000000000000 ≤ p.num * ((z : Rat).den : Int) ∧ p.num * ((z : Rat).den : Int) ≤ 4000000000000000000 ∧ -4000000000000000000 ≤ (z : Rat).num * p.den ∧ (z : Rat).num * p.den ≤ 4000000000000000000 ∧ (p.den : Int) * ((z : Rat).den : Int) ≤ 4000000000000000000 := by
  have e1 : ((z : Rat).den : Int) = 1 := rfl
  have e2 : (z : Rat).num = z := rfl
  rw [e1, e2]
  have hd := den_pos p
  have := mul_bd (a := z) (b := (p.den : Int)) (m := 1000) (by omega) (by omega) (by omega) hp.1
  omega
theorem ov_sub {p : Rat} (hp : (p.den : Int) ≤ 331776 ∧ -5529600000 ≤ p.num ∧ p.num ≤ 5529600000) {z : Int} (hz : 0 ≤ z ∧ z ≤ 1000) : ovB (p - (z : Rat)) := by
  have e1 : ((z : Rat).den : Int) = 1 := rfl
  have e2 : (z : Rat).num = z := rfl
  have hd := den_pos p
  have hm := mul_bd (a := z) (b := (p.den : Int)) (m := 1000) (by omega) (by omega) (by omega) hp.1
  have hdd : 0 < (p.den : Int) * ((z : Rat).den : Int) := by rw [e1]; omega
  rw [ovB, ← sub_divInt]
  have b1 := divInt_bd (a := p.num * ((z : Rat).den : Int) - (z : Rat).num * p.den) hdd (m := 5900000000) (by rw [e1, e2]; omega) (by rw [e1, e2]; omega)
  have b2 := divInt_den_le (a := p.num * ((z : Rat).den : Int) - (z : Rat).num * p.den) hdd
  exact ⟨by rw [e1] at b2; rw [e1]; omega, b1.1, b1.2⟩
theorem less_prods {x y : Rat} (hx : ovB x) (hy : ovB y) : -4000000000000000000 ≤ x.num * y.den ∧ x.num * y.den ≤ 4000000000000000000 ∧ -4000000000000000000 ≤ y.num * x.den ∧ y.num * x.den ≤ 4000000000000000000 := by
  have dx := den_pos x
  have dy := den_pos y
  have a1 := mul_bd hx.2.1 hx.2.2 (by omega) hy.1
  have a2 := mul_bd hy.2.1 hy.2.2 (by omega) hx.1
  omega
theorem ov_of_pays {p : Rat} (hp : (p.den : Int) ≤ 331776 ∧ -5529600000 ≤ p.num ∧ p.num ≤ 5529600000) : ovB p := ⟨hp.1, by omega, by omega⟩
theorem objR_ov {c : List Int} {qs : List Rat} {n : Nat} (hl : qs.length = n) (hn : n ≤ 4) (h : ∀ q ∈ qs, smallQ q) (hcb : ∀ x ∈ c, 0 ≤ x ∧ x ≤ 1000) (k : Nat) : ovB (objR c qs k).2 := by
  induction k with
  | zero => exact ov_zero
  | succ k ih =>
    simp only [objR]
    split
    · exact ov_sub (ov_pays hl hn h k) (costs_get hcb k)
    · exact ih

/-- What Objects of the reference answers. -/
def obR (c : List Int) (qs : List Rat) (N : Nat) : Int × Int := if (objR c qs N).1 = 0 then (0, 4) else (((objR c qs N).1 : Nat), 0)

set_option maxRecDepth 100000 in
set_option maxHeartbeats 1600000 in
theorem robjects_any (ac : Addr) (N capc : Nat) (A : Option Addr) (n cap : Nat) (c : List Int) (qs : List Rat) (w : World) (hlc : c.length = N) (hN : N ≤ 16) (hl : qs.length = n) (hn : n ≤ 4)
    (hc : Ints w (some ac) c) (hcb : ∀ x ∈ c, 0 ≤ x ∧ x ≤ 1000) (h : Fracs w A qs) (hsm : ∀ q ∈ qs, smallQ q) :
    Calls Try.prog 40 #[.slice (some ac) N capc, .slice A n cap] w fun e w' => e = .returned (.tuple #[.int .i64 (obR c qs N).1, .int .i64 (obR c qs N).2]) ∧ Below w.heap.size w w' := by
  have hov := objR_ov hl hn hsm hcb
  have hpays := ov_pays hl hn hsm
  have H := Lib.hid (And.intro hlc (And.intro hl (And.intro hc (And.intro h (And.intro hsm (And.intro hcb (And.intro hov hpays)))))))
  clear hlc hl hc h hsm hcb hov hpays
  go_enter Try.func40, Try.ntmps40
  go_wp2_with fail
  refine (rwhole_any _ _).mono ?_
  rintro e w1 ⟨rfl, hb⟩
  have HB := Lib.hid hb
  have hw1 := hb.size
  clear hb
  have e0 : fr ((0 : Int) : Rat) = .agg #[.int .i64 0, .int .i64 1] := rfl
  rw [e0]
  clear e0
  go_wp2_with fail
  go_loopw [6, 14] (fun bv iv wr => ∃ k : Nat, k ≤ N ∧ iv = .int .i64 k ∧ bv = .int .i64 ((objR c qs k).1 : Nat) ∧ Blk wr w1.heap.size 31 #[.int .i64 (objR c qs k).2.num, .int .i64 ((objR c qs k).2.den : Int)] ∧ Below w.heap.size w wr) (fun _ iv _ => N - (intOf iv).toNat)
  case atStart => exact ⟨0, Nat.zero_le _, rfl, rfl, Blk.new _ _ _ rfl, HB.out.alloc hw1 _⟩
  case round =>
    obtain ⟨k, hk, rfl, rfl, hM, hbl⟩ := hrel
    obtain ⟨hlc, hl, hc, hF, hsm, hcb, hov, hpays⟩ := H.out
    by_cases hlt : k < N
    · obtain ⟨z, hz⟩ : ∃ z, c[k]? = some z := ⟨_, List.getElem?_eq_getElem (by omega)⟩
      have c1 : wr.cell? (ac.add k) = some (.int .i64 z) := (hc.below hbl).some2 k _ (by simp [hz])
      have hzb := hcb z (List.mem_of_getElem? hz)
      have hgz : c.getD k 0 = z := by rw [List.getD_eq_getElem?_getD, hz]; rfl
      have hstep : objR c qs (k + 1) = if (objR c qs k).2 < paysL qs k - (z : Rat) then (k, paysL qs k - (z : Rat)) else objR c qs k := by rw [objR, hgz]
      have ho := hov k
      have hp := hpays k
      have hF' := hF.below hbl
      have hws := hbl.size
      have hMlt := hM.lt
      obtain ⟨P, hP⟩ : ∃ P, P = paysL qs k := ⟨_, rfl⟩
      obtain ⟨b, m, hbm⟩ : ∃ b m, objR c qs k = (b, m) := ⟨_, _, rfl⟩
      rw [← hP] at hstep hp
      rw [hbm] at hstep ho hM ⊢
      simp only at hstep ho hM ⊢
      have hsp := sub_prods hp hzb
      have hos := ov_sub hp hzb
      obtain ⟨o, hoe⟩ : ∃ o, o = P - (z : Rat) := ⟨_, rfl⟩
      rw [← hoe] at hos hstep
      have hlp := less_prods ho hos
      have HX := Lib.hid (And.intro hM (And.intro hbl (And.intro hF' (And.intro hP (And.intro hbm (And.intro hstep (And.intro hsp (And.intro hlp (And.intro hoe (And.intro hsm hl))))))))))
      clear hlc hl hc hF hsm hcb hov hpays hM hbl hz hgz hstep ho hp hF' hP hbm hsp hos hlp hoe
      go_wp2_with fail
      refine (rpays_any A n cap k qs _ HX.out.2.2.2.2.2.2.2.2.2.2 hn (by omega) HX.out.2.2.2.2.2.2.2.2.2.1 HX.out.2.2.1).mono ?_
      rintro e w2 ⟨rfl, hb2⟩
      rw [← HX.out.2.2.2.1]
      have HB2 := Lib.hid hb2
      have hw2 := hb2.size
      clear hb2
      go_wp2_with fail
      refine (rwhole_any z _).mono ?_
      rintro e w3 ⟨rfl, hb3⟩
      have HB3 := Lib.hid hb3
      have hw3 := hb3.size
      clear hb3
      go_wp2_with fail
      refine (rsub_raw P (z : Rat) _ HX.out.2.2.2.2.2.2.1.1 HX.out.2.2.2.2.2.2.1.2.1 HX.out.2.2.2.2.2.2.1.2.2.1 HX.out.2.2.2.2.2.2.1.2.2.2.1 HX.out.2.2.2.2.2.2.1.2.2.2.2).mono ?_
      rintro e w4 ⟨rfl, hb4⟩
      rw [← HX.out.2.2.2.2.2.2.2.2.1]
      have hw4 := hb4.size
      have hbw4 : Below wr.heap.size wr w4 := (HB2.out.trans (HB3.out.mono hw2)).trans (hb4.mono (by omega))
      have hM4 := HX.out.1.below hbw4 hMlt
      have HB4 := Lib.hid (And.intro hbw4 hM4)
      obtain ⟨p1, p2, p3, p4⟩ := (hM4.alloc (.cells #[.int .i64 o.num, .int .i64 (o.den : Int)] 31)).at2
      clear hb4 hbw4 hM4
      unfold fr
      go_wp2_with fail
      refine (rless_any m o _ HX.out.2.2.2.2.2.2.2.1.1 HX.out.2.2.2.2.2.2.2.1.2.1 HX.out.2.2.2.2.2.2.2.1.2.2.1 HX.out.2.2.2.2.2.2.2.1.2.2.2).mono ?_
      rintro e w5 ⟨rfl, hb5⟩
      have hM5 := (HB4.out.2.alloc (.cells #[.int .i64 o.num, .int .i64 (o.den : Int)] 31)).below hb5 (by simp; omega)
      have hO5 : Blk w5 w4.heap.size 31 #[.int .i64 o.num, .int .i64 (o.den : Int)] := (Blk.new _ _ _ rfl).below hb5 (by simp)
      have hbw5 : Below w.heap.size w w5 := ((HX.out.2.1.trans (HB4.out.1.mono hws)).alloc (by omega) _).trans (hb5.mono (by simp; omega))
      clear p1 p2 p3 p4
      obtain ⟨q1, q2, q3, q4⟩ := hO5.at2
      obtain ⟨r1, r2, r3, r4⟩ := hM5.at2
      have H5 := Lib.hid (And.intro hM5 hbw5)
      have hne : w1.heap.size ≠ w4.heap.size := by omega
      clear hM5 hbw5 hb5 hO5
      by_cases hlt2 : m < o
      · have HN : Hid (objR c qs (k + 1) = (k, o)) := Lib.hid (by rw [HX.out.2.2.2.2.2.1, if_pos hlt2])
        rw [decide_eq_true hlt2]
        clear hlt2
        go_wp2_with fail
        go_region
        go_wp2_with fail
        go_roundw
        case rel =>
          refine ⟨k + 1, by omega, by go_num, by rw [HN.out], ?_, (H5.out.2.drew.setCell (by omega) _).setCell (by omega) _⟩
          rw [HN.out]
          exact (Blk.set_ (w := w5.drew) H5.out.1 0 _).set_ 1 _
        case measure => simp [intOf]; omega
      · have HN : Hid (objR c qs (k + 1) = (b, m)) := Lib.hid (by rw [HX.out.2.2.2.2.2.1, if_neg hlt2])
        rw [decide_eq_false hlt2]
        clear hlt2
        go_wp2_with fail
        go_roundw
        case rel => exact ⟨k + 1, by omega, by go_num, by rw [HN.out], by rw [HN.out]; exact H5.out.1, H5.out.2⟩
        case measure => simp [intOf]; omega
    · obtain rfl : N = k := by omega
      have HB9 := Lib.hid hbl
      clear hM hbl hlc hl hc hF hsm hcb hov hpays
      obtain ⟨b, hb⟩ : ∃ b, b = (objR c qs N).1 := ⟨_, rfl⟩
      rw [← hb]
      by_cases hb0 : b = 0
      · have hq0 : ((b : Int) == 0) = true := by simp [hb0]
        have HH : Hid (obR c qs N = (0, 4)) := Lib.hid (by unfold obR; rw [if_pos (by rw [← hb]; exact hb0)])
        clear hb hb0
        go_wp2_with fail
        go_ret2
        exact ⟨by rw [HH.out]; rfl, HB9.out⟩
      · have hq0 : ((b : Int) == 0) = false := by simp [hb0]
        have HH : Hid (obR c qs N = (((b : Nat) : Int), 0)) := Lib.hid (by unfold obR; rw [if_neg (by rw [← hb]; exact hb0), hb])
        clear hb hb0
        go_wp2_with fail
        go_ret2
        exact ⟨by rw [HH.out]; rfl, HB9.out⟩

set_option maxRecDepth 100000 in
set_option maxHeartbeats 1600000 in
theorem incore_any (ac : Addr) (N capc : Nat) (A : Option Addr) (m cap n : Nat) (c : List Int) (ps : List (Int × Int)) (w : World) (hlc : c.length = N) (hv : valC c = true) (hnp : n = plr c) (hl : ps.length = m) (hm : m ≤ 9223372036854775807)
    (hc : Ints w (some ac) c) (h : Prs w A ps) (hr : ∀ p ∈ ps, (-9223372036854775808 ≤ p.1 ∧ p.1 ≤ 9223372036854775807) ∧ -9223372036854775808 ≤ p.2 ∧ p.2 ≤ 9223372036854775807) :
    Calls Try.prog 45 #[.slice (some ac) N capc, .slice A m cap] w fun e w' => e = .returned (.bool (coreI c ps n)) ∧ Below w.heap.size w w' := by
  have hpw := valC_pow hv
  rw [← hnp] at hpw
  have hn4 : 1 ≤ n ∧ n ≤ 4 := hpw.2
  have hN16 : 2 ≤ N ∧ N ≤ 16 := by have := (valC_iff.1 hv).1; omega
  have H := Lib.hid (And.intro hlc (And.intro hl (And.intro hc (And.intro h (And.intro hr (And.intro hpw (And.intro hv hnp)))))))
  clear hlc hl hc h hr hpw hv hnp
  cases hp : payB n ps
  · have HR : Hid (coreI c ps n = false) := Lib.hid (coreI_of_sum (sumB_false_pay hp))
    have HP := Lib.hid hp
    clear hp
    go_enter Try.func45, Try.ntmps45
    go_wp2_with fail
    refine (rplayers_any (some ac) N capc c _ H.out.1 (by omega) H.out.2.2.1).mono ?_
    rintro e w' ⟨rfl, rfl⟩
    rw [← H.out.2.2.2.2.2.2.2]
    go_wp2_with fail
    refine (rpayments_any A m cap n ps _ H.out.2.1 hm hn4.2 H.out.2.2.2.1 H.out.2.2.2.2.1).mono ?_
    rintro e w1 ⟨rfl, hb⟩
    rw [HP.out]
    have HB := Lib.hid hb
    clear hb
    go_wp2_with fail
    go_ret
    exact ⟨ret_bool HR.out.symm, HB.out⟩
  · obtain ⟨qs, hqs, hql, hsm⟩ := payB_rats hp
    have HP := Lib.hid hp
    have hmn : m = n := by rw [← H.out.2.1, hqs, List.length_map, hql]
    subst hmn
    have hF : Fracs w A qs := by have := H.out.2.2.2.1; rw [hqs] at this; exact this.fracs
    have hpays := ov_pays hql hn4.2 hsm
    have HQ := Lib.hid (And.intro hqs (And.intro hql (And.intro hsm (And.intro hF hpays))))
    clear hp hqs hql hsm hF hpays
    go_enter Try.func45, Try.ntmps45
    go_wp2_with fail
    refine (rplayers_any (some ac) N capc c _ H.out.1 (by omega) H.out.2.2.1).mono ?_
    rintro e w' ⟨rfl, rfl⟩
    rw [← H.out.2.2.2.2.2.2.2]
    go_wp2_with fail
    refine (rpayments_any A m cap m ps _ H.out.2.1 hm hn4.2 H.out.2.2.2.1 H.out.2.2.2.2.1).mono ?_
    rintro e w1 ⟨rfl, hb⟩
    rw [HP.out]
    have HB := Lib.hid hb
    clear hb
    go_wp2_with fail
    go_loopw [14] (fun iv wr => ∃ k : Nat, k ≤ N ∧ iv = .int .i64 k ∧ coreTo c ps m k = true ∧ Below w.heap.size w wr) (fun iv _ => N - (intOf iv).toNat)
    case atStart => exact ⟨0, Nat.zero_le _, rfl, rfl, HB.out⟩
    case round =>
      obtain ⟨k, hk, rfl, ht, hbl⟩ := hrel
      have hws := hbl.size
      by_cases hlt : k < N
      · obtain ⟨z, hz⟩ : ∃ z, c[k]? = some z := ⟨_, List.getElem?_eq_getElem (by have := H.out.1; omega)⟩
        have c1 : wr.cell? (ac.add k) = some (.int .i64 z) := (H.out.2.2.1.below hbl).some2 k _ (by simp [hz])
        have hzb := (valC_iff.1 H.out.2.2.2.2.2.2.1).2.2 z (List.mem_of_getElem? hz)
        have hgz : c.getD k 0 = z := by rw [List.getD_eq_getElem?_getD, hz]; rfl
        have hle := pI_le HQ.out.2.1 HQ.out.2.2.1 k z
        rw [← HQ.out.1] at hle
        have hlp := less_prods (ov_int hzb) (ov_of_pays (HQ.out.2.2.2.2 k))
        have HX := Lib.hid (And.intro hbl (And.intro hgz (And.intro hle (And.intro hlp ht))))
        clear hz hgz hbl hle hlp ht
        go_wp2_with fail
        refine (rwhole_any z _).mono ?_
        rintro e w3 ⟨rfl, hb3⟩
        have HB3 := Lib.hid (HX.out.1.trans (hb3.mono hws))
        clear hb3
        go_wp2_with fail
        refine (rpays_any A m cap k qs _ HQ.out.2.1 hn4.2 (by omega) HQ.out.2.2.1 (HQ.out.2.2.2.1.below HB3.out)).mono ?_
        rintro e w4 ⟨rfl, hb4⟩
        have HB4 := Lib.hid (HB3.out.trans (hb4.mono HB3.out.size))
        clear hb4
        go_wp2_with fail
        refine (rless_any (z : Rat) (paysL qs k) _ HX.out.2.2.2.1.1 HX.out.2.2.2.1.2.1 HX.out.2.2.2.1.2.2.1 HX.out.2.2.2.1.2.2.2).mono ?_
        rintro e w5 ⟨rfl, hb5⟩
        have HB5 := Lib.hid (HB4.out.trans (hb5.mono HB4.out.size))
        clear hb5
        by_cases hlt2 : (z : Rat) < paysL qs k
        · have HR : Hid (coreI c ps m = false) := Lib.hid (by
            unfold coreI
            rw [coreTo_stop (k := k) (by rw [← H.out.2.2.2.2.2.1.1, H.out.1]; exact hlt) (by rw [HX.out.2.1, HX.out.2.2.1]; exact fun h => h hlt2), Bool.and_false])
          rw [decide_eq_true hlt2]
          clear hlt2
          go_wp2_with fail
          go_ret
          exact ⟨ret_bool HR.out.symm, HB5.out⟩
        · have HN : Hid (coreTo c ps m (k + 1) = true) := Lib.hid (by rw [coreTo_succ, HX.out.2.2.2.2, HX.out.2.1, decide_eq_true (HX.out.2.2.1.2 hlt2)]; rfl)
          rw [decide_eq_false hlt2]
          clear hlt2
          go_wp2_with fail
          go_roundw
          case rel => exact ⟨k + 1, by omega, by go_num, HN.out, HB5.out⟩
          case measure => simp [intOf]; omega
      · obtain rfl : N = k := by omega
        obtain ⟨n1, hn1⟩ : ∃ n1, n1 + 1 = N := ⟨N - 1, by omega⟩
        obtain ⟨x, hx⟩ : ∃ x, c[n1]? = some x := ⟨_, List.getElem?_eq_getElem (by have := H.out.1; omega)⟩
        have c1 : ∀ s : Desc wr, s.val.cell? (ac.add n1) = some (.int .i64 x) := fun s => s.cell ((H.out.2.2.1.below hbl).some2 n1 _ (by simp [hx]))
        have e1 : IntKind.i64.wrap ((N : Int) - 1) = (n1 : Int) := by rw [IntWalk.i64_in _ (by omega)]; omega
        have l1 : (n1 : Int) < (N : Int) := by omega
        have l2 : (0 : Int) ≤ (n1 : Int) := by omega
        have e2 : 2 ^ m - 1 = n1 := by have := H.out.2.2.2.2.2.1.1; have := H.out.1; omega
        have hcore : coreI c ps m = decide (paysL qs n1 = ((x : Int) : Rat)) := by
          unfold coreI
          rw [← H.out.2.2.2.2.2.1.1, H.out.1, ht, Bool.and_true, HQ.out.1, sumB_R HQ.out.2.1 HQ.out.2.2.1, e2, List.getD_eq_getElem?_getD, hx]
          rfl
        have HPAYS : Hid (∀ s : Desc wr, Calls Try.prog 23 #[.slice A m cap, .int .i64 n1] s.val fun e w'' => e = .returned (.agg #[.int .i64 (paysL qs n1).num, .int .i64 ((paysL qs n1).den : Int)]) ∧ ∃ s' : Desc wr, w'' = s'.val) := Lib.hid fun s =>
          Calls.desc_of ((rpays_any A m cap n1 qs _ HQ.out.2.1 hn4.2 (by omega) HQ.out.2.2.1 ((HQ.out.2.2.2.1.below hbl).keep fun p v hp => s.cell hp)).mono fun e w' h => ⟨by rw [h.1]; rfl, h.2⟩)
        have HWH : Hid (∀ s : Desc wr, Calls Try.prog 63 #[.int .i64 x] s.val fun e w'' => e = .returned (.agg #[.int .i64 ((x : Int) : Rat).num, .int .i64 (((x : Int) : Rat).den : Int)]) ∧ ∃ s' : Desc wr, w'' = s'.val) := Lib.hid fun s =>
          Calls.desc_of ((rwhole_any x _).mono fun e w' h => ⟨by rw [h.1]; rfl, h.2⟩)
        have hE : ∀ w : World, (binOp .eql 31 (.agg #[.int .i64 (paysL qs n1).num, .int .i64 ((paysL qs n1).den : Int)]) (.agg #[.int .i64 ((x : Int) : Rat).num, .int .i64 (((x : Int) : Rat).den : Int)])).run Try.prog w = .ok (.bool (coreI c ps m)) w := fun w => by
          rw [hcore]
          exact run_eql_frac (paysL qs n1) ((x : Int) : Rat) w
        have HB := Lib.hid hbl
        clear hbl hx hn1 e2 hcore ht
        obtain ⟨R, hR⟩ : ∃ R, R = coreI c ps m := ⟨_, rfl⟩
        have HR := Lib.hid hR
        rw [← hR] at hE
        clear hR
        generalize paysL qs n1 = P at *
        generalize ((x : Int) : Rat) = X at *
        go_wp2_with fail
        refine wp_region_desc (by kernel_rfl) (by kernel_rfl) ?_
        repeat (go_big_quiet_step (first | (go_at_call 23; exact HPAYS.out _) | (go_at_call 63; exact HWH.out _)))
        refine wpQuiet_nil ?_
        rintro _ ⟨sd, rfl⟩
        have HBE := Lib.hid (HB.out.trans (sd.below.mono hws))
        clear c1 hE
        go_wp2_with fail
        go_ret
        exact ⟨ret_bool HR.out, HBE.out⟩
end Go.Proofs.Ytbidboagaoifaaa
