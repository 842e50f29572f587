/- GamesObjects and GamesObjecting return true for every costs and payments: the walks. -/
import Derived.Test.YtbidboagaoifaaaRObjects
import Derived.Test.YtbidboagaoifaaaAwake
namespace Go.Proofs.Ytbidboagaoifaaa
open Go.RowKit

theorem payB_len {n : Nat} {ps : List (Int × Int)} (h : ps.length ≠ n) : payB n ps = false := by unfold payB; rw [decide_eq_false h, Bool.and_false]
theorem sumB_take {c : List Int} {ps : List (Int × Int)} {n : Nat} (h : n ≤ 4) : sumB c (ps.take 6) n = sumB c ps n := by
  by_cases hl : ps.length ≤ 6
  · rw [List.take_of_length_le hl]
  · rw [sumB_false_pay (payB_len (by rw [List.length_take]; omega)), sumB_false_pay (payB_len (by omega))]
theorem obG_take (c : List Int) (ps : List (Int × Int)) : obG (c.take 18) (ps.take 6) = obG c ps := by
  cases hv : valC c
  · simp [obG, hv, valC_take]
  · have h18 : c.take 18 = c := take18 (by have := (valC_iff.1 hv).1; omega)
    rw [h18]
    by_cases hl : ps.length ≤ 6
    · rw [List.take_of_length_le hl]
    · have h4 := (valC_pow hv).2.2
      unfold obG
      rw [hv, sumB_take h4, sumB_false_pay (payB_len (n := plr c) (by omega))]; rfl
theorem ccB_take (c : List Int) (ps : List (Int × Int)) : ccB (c.take 18) (ps.take 6) = ccB c ps := by
  cases hv : valC c
  · simp [ccB, hv, valC_take]
  · have h18 : c.take 18 = c := take18 (by have := (valC_iff.1 hv).1; omega)
    rw [h18]
    have h4 := (valC_pow hv).2.2
    by_cases hl : ps.length ≤ 6
    · rw [List.take_of_length_le hl]
    · unfold ccB coreI
      rw [hv, sumB_take h4, sumB_false_pay (payB_len (n := plr c) (by omega))]; rfl
theorem ccE_take (c : List Int) : ccE (c.take 18) = ccE c := by unfold ccE; rw [valC_take]

set_option maxRecDepth 100000 in
set_option maxHeartbeats 4000000 in
theorem law_objects (A : Option Addr) (n cap : Nat) (c : List Int) (X : Option Addr) (m capx : Nat) (ps : List (Int × Int)) (w : World) (hl : c.length = n) (hcp : n ≤ cap) (hm : cap ≤ 9223372036854775807) (hc : Ints w A c) (_ : ∀ x ∈ c, -9223372036854775808 ≤ x ∧ x ≤ 9223372036854775807)
    (hlp : ps.length = m) (hmp : m ≤ capx) (hcx : capx ≤ 9223372036854775807) (hp : Prs w X ps) (hr : ∀ p ∈ ps, (-9223372036854775808 ≤ p.1 ∧ p.1 ≤ 9223372036854775807) ∧ -9223372036854775808 ≤ p.2 ∧ p.2 ≤ 9223372036854775807) :
    Calls Try.prog 7 #[.slice A n cap, .slice X m capx] w fun e w' => e = .returned (.bool true) ∧ Below w.heap.size w w' := by
  have H := Lib.hid (And.intro hl (And.intro hc (And.intro hlp (And.intro hp hr))))
  clear hl hc hlp hp hr
  go_enter Try.func7, Try.ntmps7
  go_wp2_with fail
  refine (list_any A n cap c _ H.out.1 hcp hm H.out.2.1).mono ?_
  rintro e w1 ⟨A1, c1, rfl, hown, hb⟩
  have hI : Ints w1 A1 (c.take 18) := At.of_own hown
  have hlt : (c.take 18).length = min n 18 := by rw [List.length_take, H.out.1]; omega
  have H1 := Lib.hid (And.intro hI (And.intro hb hlt))
  clear hown hb hI hlt
  go_wp2_with fail
  refine (lfracs_any X m capx ps _ H.out.2.2.1 hmp hcx (H.out.2.2.2.1.below H1.out.2.1)).mono ?_
  rintro e w2 ⟨A2, c2, rfl, hown, hb⟩
  have hI : Prs w2 A2 (ps.take 6) := At.of_own hown
  have hlt : (ps.take 6).length = min m 6 := by rw [List.length_take, H.out.2.2.1]; omega
  have H2 := Lib.hid (And.intro hI (And.intro (H1.out.2.1.trans (hb.mono H1.out.2.1.size)) (And.intro hlt (H1.out.1.below hb))))
  clear hown hb hI hlt
  go_wp2_with fail
  refine (gobjects_any A1 (min n 18) c1 A2 (min m 6) c2 (c.take 18) (ps.take 6) _ H1.out.2.2 (by omega) H2.out.2.2.1 (by omega) H2.out.2.2.2 H2.out.1 (fun p hp => H.out.2.2.2.2 p (List.mem_of_mem_take hp))).mono ?_
  rintro e w3 ⟨rfl, hb3⟩
  rw [obG_take]
  have HB3 := Lib.hid (H2.out.2.1.trans (hb3.mono H2.out.2.1.size))
  clear hb3
  cases hv : valC c
  · have HG : Hid (obG c ps = (0, 2)) := Lib.hid (by simp [obG, hv])
    have HV := Lib.hid hv
    rw [HG.out]
    clear hv
    go_wp2_with fail
    refine (rplayers_any A n cap c _ H.out.1 (by omega) (H.out.2.1.below HB3.out)).mono ?_
    rintro e w' ⟨rfl, rfl⟩
    rw [plr_bad HV.out]
    go_wp2_with fail
    go_quiet (fail)
    go_wp2_with fail
    refine (awake_any _).mono ?_
    rintro e w4 ⟨rfl, hb4⟩
    have HB4 := Lib.hid ((below_drewN HB3.out _).trans (hb4.mono HB3.out.size))
    clear hb4
    go_wp2_with fail
    go_ret
    exact ⟨rfl, HB4.out⟩
  · have hpw := valC_pow hv
    obtain ⟨k, hk⟩ : ∃ k, k = plr c := ⟨_, rfl⟩
    rw [← hk] at hpw
    have hlen := (valC_iff.1 hv).1
    have hk4 : 1 ≤ k ∧ k ≤ 4 := hpw.2
    have hn16 : 2 ≤ n ∧ n ≤ 16 := by have := H.out.1; omega
    have hA : ∃ ad, A = some ad := by obtain ⟨ad, h, _⟩ := H.out.2.1.some_ (by omega); exact ⟨ad, h⟩
    obtain ⟨ad, rfl⟩ := hA
    have HV := Lib.hid (And.intro hv (And.intro hpw hk))
    have hne : ((k : Int) == 0) = false := by simp; omega
    clear hv hpw hk hlen
    cases hpb : payB k ps
    · have HG : Hid (obG c ps = (0, 2)) := Lib.hid (by unfold obG; rw [HV.out.1, ← HV.out.2.2, sumB_false_pay hpb]; rfl)
      have HP := Lib.hid hpb
      rw [HG.out]
      clear hpb
      go_wp2_with fail
      refine (rplayers_any (some ad) n cap c _ H.out.1 (by omega) (H.out.2.1.below HB3.out)).mono ?_
      rintro e w' ⟨rfl, rfl⟩
      rw [← HV.out.2.2]
      have HPAY : Hid (∀ s : Desc w3, Calls Try.prog 39 #[.int .i64 k, .slice X m capx] s.val fun e w'' => e = .returned (.bool false) ∧ ∃ s' : Desc w3, w'' = s'.val) := Lib.hid fun s =>
        Calls.desc_of ((rpayments_any X m capx k ps _ H.out.2.2.1 (by omega) hk4.2 ((H.out.2.2.2.1.below HB3.out).keep fun p v hp => s.cell hp) H.out.2.2.2.2).mono fun e w' h => ⟨by rw [h.1, HP.out], h.2⟩)
      go_wp2_with fail
      refine wp_region_desc (by kernel_rfl) (by kernel_rfl) ?_
      repeat (go_big_quiet_step ((go_at_call 39; exact HPAY.out _)))
      refine wpQuiet_nil ?_
      rintro _ ⟨sd, rfl⟩
      have HB4 := Lib.hid (HB3.out.trans (sd.below.mono HB3.out.size))
      go_wp2_with fail
      refine (awake_any _).mono ?_
      rintro e w5 ⟨rfl, hb5⟩
      have HB5 := Lib.hid (HB4.out.trans (hb5.mono HB4.out.size))
      clear hb5
      go_wp2_with fail
      go_ret
      exact ⟨rfl, HB5.out⟩
    · obtain ⟨qs, hqs, hql, hsm⟩ := payB_rats hpb
      have hmk : m = k := by rw [← H.out.2.2.1, hqs, List.length_map, hql]
      subst hmk
      have hF : Fracs w X qs := by have := H.out.2.2.2.1; rw [hqs] at this; exact this.fracs
      have HP := Lib.hid hpb
      have HQ := Lib.hid (And.intro hqs (And.intro hql (And.intro hsm hF)))
      obtain ⟨n1, hn1⟩ : ∃ n1, n1 + 1 = n := ⟨n - 1, by omega⟩
      obtain ⟨x, hx⟩ : ∃ x, c[n1]? = some x := ⟨_, List.getElem?_eq_getElem (by have := H.out.1; omega)⟩
      have e2 : 2 ^ m - 1 = n1 := by have := HV.out.2.1.1; have := H.out.1; omega
      have hsum : sumB c ps m = decide (paysL qs n1 = ((x : Int) : Rat)) := by
        rw [hqs, sumB_R hql hsm, e2, List.getD_eq_getElem?_getD, hx]; rfl
      have HSUM := Lib.hid (And.intro hsum (And.intro hx hn1))
      have e1 : IntKind.i64.wrap ((n : Int) - 1) = (n1 : Int) := by rw [IntWalk.i64_in _ (by omega)]; omega
      have l1 : (n1 : Int) < (n : Int) := by omega
      have l2 : (0 : Int) ≤ (n1 : Int) := by omega
      have hn1b : n1 < 65536 := by omega
      have HPAY : Hid (∀ s : Desc w3, Calls Try.prog 39 #[.int .i64 m, .slice X m capx] s.val fun e w'' => e = .returned (.bool true) ∧ ∃ s' : Desc w3, w'' = s'.val) := Lib.hid fun s =>
        Calls.desc_of ((rpayments_any X m capx m ps _ H.out.2.2.1 (by omega) hk4.2 ((H.out.2.2.2.1.below HB3.out).keep fun p v hp => s.cell hp) H.out.2.2.2.2).mono fun e w' h => ⟨by rw [h.1, HP.out], h.2⟩)
      have HPS : Hid (∀ s : Desc w3, Calls Try.prog 23 #[.slice X m capx, .int .i64 n1] s.val fun e w'' => e = .returned (.agg #[.int .i64 (paysL qs n1).num, .int .i64 ((paysL qs n1).den : Int)]) ∧ ∃ s' : Desc w3, w'' = s'.val) := Lib.hid fun s =>
        Calls.desc_of ((rpays_any X m capx n1 qs _ HQ.out.2.1 hk4.2 hn1b HQ.out.2.2.1 ((HQ.out.2.2.2.below HB3.out).keep fun p v hp => s.cell hp)).mono fun e w' h => ⟨by rw [h.1]; rfl, h.2⟩)
      have c3 : ∀ s : Desc w3, s.val.cell? (ad.add n1) = some (.int .i64 x) := fun s => s.cell ((H.out.2.1.below HB3.out).some2 n1 _ (by simp [hx]))
      have hN : ∀ w : World, (binOp .neq 31 (.agg #[.int .i64 (paysL qs n1).num, .int .i64 ((paysL qs n1).den : Int)]) (.agg #[.int .i64 x, .int .i64 1])).run Try.prog w = .ok (.bool (!sumB c ps m)) w := fun w => by
        have := run_neq_frac (paysL qs n1) ((x : Int) : Rat) w
        rw [hsum]
        unfold neB at this
        rw [show (!decide (paysL qs n1 = ((x : Int) : Rat))) = decide (paysL qs n1 ≠ ((x : Int) : Rat)) from by simp]
        exact this
      clear hpb hqs hql hsm hF hx hn1 e2 hsum
      cases hs : sumB c ps m
      · have HG : Hid (obG c ps = (0, 2)) := Lib.hid (by unfold obG; rw [HV.out.1, ← HV.out.2.2, hs]; rfl)
        rw [HG.out]
        rw [hs] at hN
        clear hs
        generalize paysL qs n1 = P at *
        go_wp2_with fail
        refine (rplayers_any (some ad) n cap c _ H.out.1 (by omega) (H.out.2.1.below HB3.out)).mono ?_
        rintro e w' ⟨rfl, rfl⟩
        rw [← HV.out.2.2]
        go_wp2_with fail
        refine wp_region_desc (by kernel_rfl) (by kernel_rfl) ?_
        repeat (go_big_quiet_step (first | (go_at_call 39; exact HPAY.out _) | (go_at_call 23; exact HPS.out _)))
        refine wpQuiet_nil ?_
        rintro _ ⟨sd, rfl⟩
        have HB4 := Lib.hid (HB3.out.trans (sd.below.mono HB3.out.size))
        clear c3 hN
        go_wp2_with fail
        refine (awake_any _).mono ?_
        rintro e w5 ⟨rfl, hb5⟩
        have HB5 := Lib.hid (HB4.out.trans (hb5.mono HB4.out.size))
        clear hb5
        go_wp2_with fail
        go_ret
        exact ⟨rfl, HB5.out⟩
      · have HG : Hid (obG c ps = obR c qs n) := Lib.hid (by
          unfold obG obR
          rw [HV.out.1, ← HV.out.2.2, hs, H.out.1, HQ.out.1, (obj_R HQ.out.2.1 HQ.out.2.2.1 n).1]; rfl)
        rw [HG.out]
        obtain ⟨r1, r2, hr12⟩ : ∃ r1 r2, obR c qs n = (r1, r2) := ⟨_, _, rfl⟩
        have HR := Lib.hid hr12
        rw [hr12]
        rw [hs] at hN
        clear hs hr12
        generalize paysL qs n1 = P at *
        have eq1 : (r1 == r1) = true := by simp
        have eq2 : (r2 == r2) = true := by simp
        go_wp2_with fail
        refine (rplayers_any (some ad) n cap c _ H.out.1 (by omega) (H.out.2.1.below HB3.out)).mono ?_
        rintro e w' ⟨rfl, rfl⟩
        rw [← HV.out.2.2]
        go_wp2_with fail
        refine wp_region_desc (by kernel_rfl) (by kernel_rfl) ?_
        repeat (go_big_quiet_step (first | (go_at_call 39; exact HPAY.out _) | (go_at_call 23; exact HPS.out _)))
        refine wpQuiet_nil ?_
        rintro _ ⟨sd, rfl⟩
        have HB4 := Lib.hid (HB3.out.trans (sd.below.mono HB3.out.size))
        clear c3 hN
        go_wp2_with fail
        refine (robjects_any ad n cap X m capx c qs _ H.out.1 hn16.2 HQ.out.2.1 hk4.2 (H.out.2.1.below HB4.out) (valC_iff.1 HV.out.1).2.2 (HQ.out.2.2.2.below HB4.out) HQ.out.2.2.1).mono ?_
        rintro e w5 ⟨rfl, hb5⟩
        rw [HR.out]
        have HB5 := Lib.hid (HB4.out.trans (hb5.mono HB4.out.size))
        clear hb5
        go_wp2_with fail
        refine (awake_any _).mono ?_
        rintro e w6 ⟨rfl, hb6⟩
        have HB6 := Lib.hid (HB5.out.trans (hb6.mono HB5.out.size))
        clear hb6
        go_wp2_with fail
        go_ret
        exact ⟨rfl, HB6.out⟩
end Go.Proofs.Ytbidboagaoifaaa
