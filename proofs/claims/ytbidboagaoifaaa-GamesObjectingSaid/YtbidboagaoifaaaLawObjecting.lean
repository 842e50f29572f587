/- GamesObjecting returns true for every costs and payments: the walk. -/
import Derived.Test.YtbidboagaoifaaaLawObjects
namespace Go.Proofs.Ytbidboagaoifaaa
open Go.RowKit

set_option maxRecDepth 100000 in
set_option maxHeartbeats 4000000 in
theorem law_objecting (A : Option Addr) (n cap : Nat) (c : List Int) (X : Option Addr) (m capx : Nat) (ps : List (Int × Int)) (w : World) (hl : c.length = n) (hcp : n ≤ cap) (hm : cap ≤ 9223372036854775807) (hc : Ints w A c) (_ : ∀ x ∈ c, -9223372036854775808 ≤ x ∧ x ≤ 9223372036854775807)
    (hlp : ps.length = m) (hmp : m ≤ capx) (hcx : capx ≤ 9223372036854775807) (hp : Prs w X ps) (hr : ∀ p ∈ ps, (-9223372036854775808 ≤ p.1 ∧ p.1 ≤ 9223372036854775807) ∧ -9223372036854775808 ≤ p.2 ∧ p.2 ≤ 9223372036854775807) :
    Calls Try.prog 8 #[.slice A n cap, .slice X m capx] w fun e w' => e = .returned (.bool true) ∧ Below w.heap.size w w' := by
  have H := Lib.hid (And.intro hl (And.intro hc (And.intro hlp (And.intro hp hr))))
  clear hl hc hlp hp hr
  go_enter Try.func8, Try.ntmps8
  go_wp2_with fail
  refine (list_any A n cap c _ H.out.1 hcp hm H.out.2.1).mono ?_
  rintro e w1 ⟨A1, c1, rfl, hown, hb⟩
  have hI : Ints w1 A1 (c.take 18) := At.of_own hown
  have hlt : (c.take 18).length = min n 18 := by rw [List.length_take, H.out.1]; omega
  have H1 := Lib.hid (And.intro hI (And.intro hb hlt))
  clear hown hb hI hlt
  go_wp2_with fail
  refine (lfracs_any X m capx ps _ H.out.2.2.1 hmp hcx (H.out.2.2.2.1.below H1.out.2.1)).mono ?_
  rintro e w2 ⟨A2, c2, rfl, hown, hb⟩
  have hI : Prs w2 A2 (ps.take 6) := At.of_own hown
  have hlt : (ps.take 6).length = min m 6 := by rw [List.length_take, H.out.2.2.1]; omega
  have H2 := Lib.hid (And.intro hI (And.intro (H1.out.2.1.trans (hb.mono H1.out.2.1.size)) (And.intro hlt (H1.out.1.below hb))))
  clear hown hb hI hlt
  go_wp2_with fail
  refine (gobjects_any A1 (min n 18) c1 A2 (min m 6) c2 (c.take 18) (ps.take 6) _ H1.out.2.2 (by omega) H2.out.2.2.1 (by omega) H2.out.2.2.2 H2.out.1 (fun p hp => H.out.2.2.2.2 p (List.mem_of_mem_take hp))).mono ?_
  rintro e w3 ⟨rfl, hb3⟩
  rw [obG_take]
  have HB3 := Lib.hid (H2.out.2.1.trans (hb3.mono H2.out.2.1.size))
  clear hb3
  go_wp2_with fail
  refine (list_any A n cap c _ H.out.1 hcp hm (H.out.2.1.below HB3.out)).mono ?_
  rintro e w4 ⟨A4, c4, rfl, hown, hb⟩
  have hI : Ints w4 A4 (c.take 18) := At.of_own hown
  have H4 := Lib.hid (And.intro hI (HB3.out.trans (hb.mono HB3.out.size)))
  clear hown hb hI
  go_wp2_with fail
  refine (lfracs_any X m capx ps _ H.out.2.2.1 hmp hcx (H.out.2.2.2.1.below H4.out.2)).mono ?_
  rintro e w5 ⟨A5, c5, rfl, hown, hb⟩
  have hI : Prs w5 A5 (ps.take 6) := At.of_own hown
  have H5 := Lib.hid (And.intro hI (And.intro (H4.out.2.trans (hb.mono H4.out.2.size)) (H4.out.1.below hb)))
  clear hown hb hI
  go_wp2_with fail
  refine (checkcore_any A4 (min n 18) c4 A5 (min m 6) c5 (c.take 18) (ps.take 6) _ H1.out.2.2 (by omega) H2.out.2.2.1 (by omega) H5.out.2.2 H5.out.1 (fun p hp => H.out.2.2.2.2 p (List.mem_of_mem_take hp))).mono ?_
  rintro e w6 ⟨rfl, hb6⟩
  rw [ccB_take, ccE_take]
  have HB6 := Lib.hid (H5.out.2.1.trans (hb6.mono H5.out.2.1.size))
  clear hb6
  cases hv : valC c
  · have HG : Hid (obG c ps = (0, 2) ∧ ccB c ps = false ∧ ccE c = 2) := Lib.hid ⟨by simp [obG, hv], by simp [ccB, hv], by simp [ccE, hv]⟩
    have HV := Lib.hid hv
    rw [HG.out.1, HG.out.2.1, HG.out.2.2]
    clear hv
    go_wp2_with fail
    refine (rplayers_any A n cap c _ H.out.1 (by omega) (H.out.2.1.below HB6.out)).mono ?_
    rintro e w' ⟨rfl, rfl⟩
    rw [plr_bad HV.out]
    go_wp2_with fail
    refine (awake_any _).mono ?_
    rintro e w7 ⟨rfl, hb7⟩
    have HB7 := Lib.hid (HB6.out.trans (hb7.mono HB6.out.size))
    clear hb7
    go_wp2_with fail
    go_ret
    exact ⟨rfl, HB7.out⟩
  · have hpw := valC_pow hv
    obtain ⟨k, hk⟩ : ∃ k, k = plr c := ⟨_, rfl⟩
    rw [← hk] at hpw
    have hlen := (valC_iff.1 hv).1
    have hk4 : 1 ≤ k ∧ k ≤ 4 := hpw.2
    have hn16 : 2 ≤ n ∧ n ≤ 16 := by have := H.out.1; omega
    have hA : ∃ ad, A = some ad := by obtain ⟨ad, h, _⟩ := H.out.2.1.some_ (by omega); exact ⟨ad, h⟩
    obtain ⟨ad, rfl⟩ := hA
    have HV := Lib.hid (And.intro hv (And.intro hpw hk))
    have hne : ((k : Int) == 0) = false := by simp; omega
    have hcE : ccE c = 0 := by simp [ccE, hv]
    have hcB : ccB c ps = coreI c ps k := by simp [ccB, hv, hk]
    have hg0 : obG c ps = if sumB c ps k then (if (objI c ps k n).1 = 0 then (0, 4) else ((((objI c ps k n).1 : Nat) : Int), (0 : Int))) else (0, 2) := by unfold obG; rw [hv, Bool.true_and, ← hk, H.out.1]
    rw [hcE, hcB]
    clear hv hpw hk hlen hcE hcB
    cases hs : sumB c ps k
    · have HG : Hid (obG c ps = (0, 2) ∧ coreI c ps k = false) := Lib.hid ⟨by rw [hg0, hs]; rfl, coreI_of_sum hs⟩
      rw [HG.out.1, HG.out.2]
      clear hs hg0
      go_wp2_with fail
      refine (rplayers_any (some ad) n cap c _ H.out.1 (by omega) (H.out.2.1.below HB6.out)).mono ?_
      rintro e w' ⟨rfl, rfl⟩
      rw [← HV.out.2.2]
      go_wp2_with fail
      refine (awake_any _).mono ?_
      rintro e w7 ⟨rfl, hb7⟩
      have HB7 := Lib.hid (HB6.out.trans (hb7.mono HB6.out.size))
      clear hb7
      go_wp2_with fail
      go_ret
      exact ⟨rfl, HB7.out⟩
    · have hpb : payB k ps = true := by unfold sumB at hs; rw [Bool.and_eq_true] at hs; exact hs.1
      have hc0 : c.getD 0 0 = 0 := by
        have h0 := (valC_iff.1 HV.out.1).2.1
        have : c.getD 0 0 = c.getD 0 1 := by rw [List.getD_eq_getElem?_getD, List.getD_eq_getElem?_getD, List.getElem?_eq_getElem (by have := H.out.1; omega)]; rfl
        omega
      have hcore := (objI_core c ps k n (by rw [pI_zero, hc0]; omega)).1
      have hcI : coreI c ps k = decide ((objI c ps k n).1 = 0) := by
        unfold coreI
        rw [hs, Bool.true_and, hcore, ← HV.out.2.1.1, H.out.1]
      have hlt := (objI_lt c ps k n).2 (by omega)
      have hmore := objI_more c ps k n
      obtain ⟨b, hb⟩ : ∃ b, b = (objI c ps k n).1 := ⟨_, rfl⟩
      rw [← hb] at hcI hlt hg0 hmore
      have HP := Lib.hid hpb
      rw [hcI]
      by_cases hb0 : b = 0
      · have HG : Hid (obG c ps = (0, 4)) := Lib.hid (by rw [hg0, hs, if_pos rfl, if_pos hb0])
        rw [HG.out, decide_eq_true hb0]
        clear hpb hcore hcI hlt hmore hb hb0 hs hg0 hc0
        go_wp2_with fail
        refine (rplayers_any (some ad) n cap c _ H.out.1 (by omega) (H.out.2.1.below HB6.out)).mono ?_
        rintro e w' ⟨rfl, rfl⟩
        rw [← HV.out.2.2]
        go_wp2_with fail
        refine (rpayments_any X m capx k ps _ H.out.2.2.1 (by omega) hk4.2 (H.out.2.2.2.1.below HB6.out) H.out.2.2.2.2).mono ?_
        rintro e w7 ⟨rfl, hb7⟩
        rw [HP.out]
        have HB7 := Lib.hid (HB6.out.trans (hb7.mono HB6.out.size))
        clear hb7
        go_wp2_with fail
        refine (awake_any _).mono ?_
        rintro e w8 ⟨rfl, hb8⟩
        have HB8 := Lib.hid (HB7.out.trans (hb8.mono HB7.out.size))
        clear hb8
        go_wp2_with fail
        go_ret
        exact ⟨rfl, HB8.out⟩
      · have HG : Hid (obG c ps = (((b : Nat) : Int), 0)) := Lib.hid (by rw [hg0, hs, if_pos rfl, if_neg hb0])
        rw [HG.out, decide_eq_false hb0]
        obtain ⟨qs, hqs, hql, hsm⟩ := payB_rats hpb
        have hmk : m = k := by rw [← H.out.2.2.1, hqs, List.length_map, hql]
        subst hmk
        have hF : Fracs w X qs := by have := H.out.2.2.2.1; rw [hqs] at this; exact this.fracs
        obtain ⟨x, hx⟩ : ∃ x, c[b]? = some x := ⟨_, List.getElem?_eq_getElem (by have := H.out.1; omega)⟩
        have hxb := (valC_iff.1 HV.out.1).2.2 x (List.mem_of_getElem? hx)
        have hless : (x : Rat) < paysL qs b := by
          have h1 := hmore hb0
          rw [List.getD_eq_getElem?_getD, hx] at h1
          have h2 := pI_le hql hsm b x
          rw [← hqs] at h2
          rw [Option.getD_some] at h1
          exact Decidable.byContradiction fun hn => by have := h2.2 hn; omega
        have hlp := less_prods (ov_int hxb) (ov_of_pays (ov_pays hql hk4.2 hsm b))
        have hb1 : (0 : Int) < (b : Int) := by omega
        have hb2 : (b : Int) < (n : Int) := by omega
        have HQ := Lib.hid (And.intro hqs (And.intro hql (And.intro hsm (And.intro hF (And.intro hx (And.intro hless hlp))))))
        clear hpb hcore hcI hlt hmore hb hb0 hs hg0 hc0 hqs hql hsm hF hx hless hlp hxb
        go_wp2_with fail
        refine (rplayers_any (some ad) n cap c _ H.out.1 (by omega) (H.out.2.1.below HB6.out)).mono ?_
        rintro e w' ⟨rfl, rfl⟩
        rw [← HV.out.2.2]
        go_wp2_with fail
        refine (rpayments_any X m capx m ps _ H.out.2.2.1 (by omega) hk4.2 (H.out.2.2.2.1.below HB6.out) H.out.2.2.2.2).mono ?_
        rintro e w7 ⟨rfl, hb7⟩
        rw [HP.out]
        have HB7 := Lib.hid (HB6.out.trans (hb7.mono HB6.out.size))
        clear hb7
        have c3 := (H.out.2.1.below HB7.out).some2 b (.int .i64 x) (by simp [HQ.out.2.2.2.2.1])
        have hb65 : b < 65536 := by omega
        go_wp2_with fail
        refine (lwhole_any x _).mono ?_
        rintro e w8 ⟨rfl, hb8⟩
        have HB8 := Lib.hid (HB7.out.trans (hb8.mono HB7.out.size))
        clear hb8 c3
        go_wp2_with fail
        refine (rpays_any X m capx b qs _ HQ.out.2.1 hk4.2 hb65 HQ.out.2.2.1 (HQ.out.2.2.2.1.below HB8.out)).mono ?_
        rintro e w9 ⟨rfl, hb9⟩
        have HB9 := Lib.hid (HB8.out.trans (hb9.mono HB8.out.size))
        clear hb9
        go_wp2_with fail
        refine (rless_any (x : Rat) (paysL qs b) _ HQ.out.2.2.2.2.2.2.1 HQ.out.2.2.2.2.2.2.2.1 HQ.out.2.2.2.2.2.2.2.2.1 HQ.out.2.2.2.2.2.2.2.2.2).mono ?_
        rintro e w10 ⟨rfl, hb10⟩
        have HB10 := Lib.hid (HB9.out.trans (hb10.mono HB9.out.size))
        rw [decide_eq_true HQ.out.2.2.2.2.2.1]
        clear hb10
        go_wp2_with fail
        refine (awake_any _).mono ?_
        rintro e w11 ⟨rfl, hb11⟩
        have HB11 := Lib.hid (HB10.out.trans (hb11.mono HB10.out.size))
        clear hb11
        go_wp2_with fail
        go_ret
        exact ⟨rfl, HB11.out⟩
end Go.Proofs.Ytbidboagaoifaaa
