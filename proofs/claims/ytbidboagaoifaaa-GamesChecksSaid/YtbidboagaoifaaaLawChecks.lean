/- GamesChecks returns true for every costs, payments and collection: the walk. -/
import Derived.Test.YtbidboagaoifaaaRefutes
import Derived.Test.YtbidboagaoifaaaLawObjects
namespace Go.Proofs.Ytbidboagaoifaaa
open Go.RowKit

theorem crB_take (c : List Int) (ts : List Pt) (h : valC c = true) : crB (c.take 18) (ts.take 18) = refR c ts (plr c) := by
  have h18 : c.take 18 = c := take18 (by have := (valC_iff.1 h).1; omega)
  rw [h18]
  unfold crB
  rw [h, if_pos rfl, refI_take (valC_pow h).2.2]

set_option maxRecDepth 100000 in
set_option maxHeartbeats 4000000 in
theorem law_checks (A : Option Addr) (n cap : Nat) (c : List Int) (X : Option Addr) (m capx : Nat) (ps : List (Int × Int)) (L : Option Addr) (k capl : Nat) (ts : List Pt) (w : World)
    (hl : c.length = n) (hcp : n ≤ cap) (hm : cap ≤ 9223372036854775807) (hc : Ints w A c) (_ : ∀ x ∈ c, -9223372036854775808 ≤ x ∧ x ≤ 9223372036854775807)
    (hlp : ps.length = m) (hmp : m ≤ capx) (hcx : capx ≤ 9223372036854775807) (hp : Prs w X ps) (hr : ∀ p ∈ ps, (-9223372036854775808 ≤ p.1 ∧ p.1 ≤ 9223372036854775807) ∧ -9223372036854775808 ≤ p.2 ∧ p.2 ≤ 9223372036854775807)
    (hlt : ts.length = k) (hkl : k ≤ capl) (hcl : capl ≤ 9223372036854775807) (ht : Tps w L ts) (hrt : ∀ t ∈ ts, (-9223372036854775808 ≤ t.1 ∧ t.1 ≤ 9223372036854775807) ∧ (-9223372036854775808 ≤ t.2.1 ∧ t.2.1 ≤ 9223372036854775807) ∧ -9223372036854775808 ≤ t.2.2 ∧ t.2.2 ≤ 9223372036854775807) :
    Calls Try.prog 9 #[.slice A n cap, .slice X m capx, .slice L k capl] w fun e w' => e = .returned (.bool true) ∧ Below w.heap.size w w' := by
  have H := Lib.hid (And.intro hl (And.intro hc (And.intro hlp (And.intro hp hr))))
  have HL := Lib.hid (And.intro hlt (And.intro ht hrt))
  clear hl hc hlp hp hr hlt ht hrt
  go_enter Try.func9, Try.ntmps9
  go_wp2_with fail
  refine (list_any A n cap c _ H.out.1 hcp hm H.out.2.1).mono ?_
  rintro e w1 ⟨A1, c1, rfl, hown, hb⟩
  have hI : Ints w1 A1 (c.take 18) := At.of_own hown
  have hlt : (c.take 18).length = min n 18 := by rw [List.length_take, H.out.1]; omega
  have H1 := Lib.hid (And.intro hI (And.intro hb hlt))
  clear hown hb hI hlt
  go_wp2_with fail
  refine (lfracs_any X m capx ps _ H.out.2.2.1 hmp hcx (H.out.2.2.2.1.below H1.out.2.1)).mono ?_
  rintro e w2 ⟨A2, c2, rfl, hown, hb⟩
  have hI : Prs w2 A2 (ps.take 6) := At.of_own hown
  have hlt : (ps.take 6).length = min m 6 := by rw [List.length_take, H.out.2.2.1]; omega
  have H2 := Lib.hid (And.intro hI (And.intro (H1.out.2.1.trans (hb.mono H1.out.2.1.size)) (And.intro hlt (H1.out.1.below hb))))
  clear hown hb hI hlt
  go_wp2_with fail
  refine (checkcore_any A1 (min n 18) c1 A2 (min m 6) c2 (c.take 18) (ps.take 6) _ H1.out.2.2 (by omega) H2.out.2.2.1 (by omega) H2.out.2.2.2 H2.out.1 (fun p hp => H.out.2.2.2.2 p (List.mem_of_mem_take hp))).mono ?_
  rintro e w3 ⟨rfl, hb3⟩
  rw [ccB_take, ccE_take]
  have HB3 := Lib.hid (H2.out.2.1.trans (hb3.mono H2.out.2.1.size))
  clear hb3
  go_wp2_with fail
  refine (list_any A n cap c _ H.out.1 hcp hm (H.out.2.1.below HB3.out)).mono ?_
  rintro e w4 ⟨A4, c4, rfl, hown, hb⟩
  have hI : Ints w4 A4 (c.take 18) := At.of_own hown
  have H4 := Lib.hid (And.intro hI (HB3.out.trans (hb.mono HB3.out.size)))
  clear hown hb hI
  go_wp2_with fail
  refine (lparts_any L k capl ts _ HL.out.1 (by omega) (HL.out.2.1.below H4.out.2)).mono ?_
  rintro e w5 ⟨A5, c5, rfl, hown, hb⟩
  have hI : Tps w5 A5 (ts.take 18) := At.of_own hown
  have hlt : (ts.take 18).length = min k 18 := by rw [List.length_take, HL.out.1]; omega
  have H5 := Lib.hid (And.intro hI (And.intro (H4.out.2.trans (hb.mono H4.out.2.size)) (And.intro (H4.out.1.below hb) hlt)))
  clear hown hb hI hlt
  go_wp2_with fail
  refine (checkrefute_any A4 (min n 18) c4 A5 (min k 18) c5 (c.take 18) (ts.take 18) _ H1.out.2.2 (by omega) H5.out.2.2.2 (by omega) H5.out.2.2.1 H5.out.1 (fun t ht => HL.out.2.2 t (List.mem_of_mem_take ht))).mono ?_
  rintro e w6 ⟨rfl, hb6⟩
  rw [ccE_take]
  have HB6 := Lib.hid (H5.out.2.1.trans (hb6.mono H5.out.2.1.size))
  clear hb6
  cases hv : valC c
  · have HG : Hid (crB (c.take 18) (ts.take 18) = false ∧ ccB c ps = false ∧ ccE c = 2) := Lib.hid ⟨by simp [crB, hv, valC_take], by simp [ccB, hv], by simp [ccE, hv]⟩
    have HV := Lib.hid hv
    rw [HG.out.1, HG.out.2.1, HG.out.2.2]
    clear hv
    go_wp2_with fail
    refine (rplayers_any A n cap c _ H.out.1 (by omega) (H.out.2.1.below HB6.out)).mono ?_
    rintro e w' ⟨rfl, rfl⟩
    rw [plr_bad HV.out]
    go_wp2_with fail
    refine (awake_any _).mono ?_
    rintro e w7 ⟨rfl, hb7⟩
    have HB7 := Lib.hid (HB6.out.trans (hb7.mono HB6.out.size))
    clear hb7
    go_wp2_with fail
    go_ret
    exact ⟨rfl, HB7.out⟩
  · have hpw := valC_pow hv
    obtain ⟨q, hq⟩ : ∃ q, q = plr c := ⟨_, rfl⟩
    rw [← hq] at hpw
    have hlen := (valC_iff.1 hv).1
    have hk4 : 1 ≤ q ∧ q ≤ 4 := hpw.2
    have hn16 : 2 ≤ n ∧ n ≤ 16 := by have := H.out.1; omega
    have hA : ∃ ad, A = some ad := by obtain ⟨ad, h, _⟩ := H.out.2.1.some_ (by omega); exact ⟨ad, h⟩
    obtain ⟨ad, rfl⟩ := hA
    have HV := Lib.hid (And.intro hv hq)
    have hne : ((q : Int) == 0) = false := by simp; omega
    have HG : Hid (crB (c.take 18) (ts.take 18) = refR c ts q ∧ ccB c ps = coreI c ps q ∧ ccE c = 0) := Lib.hid ⟨by rw [crB_take c ts hv, hq], by simp [ccB, hv, hq], by simp [ccE, hv]⟩
    rw [HG.out.1, HG.out.2.1, HG.out.2.2]
    obtain ⟨b1, hb1⟩ : ∃ b, b = coreI c ps q := ⟨_, rfl⟩
    obtain ⟨b2, hb2⟩ : ∃ b, b = refR c ts q := ⟨_, rfl⟩
    rw [← hb1, ← hb2]
    have HBB := Lib.hid (And.intro hb1 hb2)
    have e1 : (b1 == b1) = true := by simp
    have e2 : (b2 == b2) = true := by simp
    clear hv hpw hq hlen hb1 hb2
    go_wp2_with fail
    refine (rplayers_any (some ad) n cap c _ H.out.1 (by omega) (H.out.2.1.below HB6.out)).mono ?_
    rintro e w' ⟨rfl, rfl⟩
    rw [← HV.out.2]
    go_wp2_with fail
    refine (incore_any ad n cap X m capx q c ps _ H.out.1 HV.out.1 HV.out.2 H.out.2.2.1 (by omega) (H.out.2.1.below HB6.out) (H.out.2.2.2.1.below HB6.out) H.out.2.2.2.2).mono ?_
    rintro e w7 ⟨rfl, hb7⟩
    rw [← HBB.out.1]
    have HB7 := Lib.hid (HB6.out.trans (hb7.mono HB6.out.size))
    clear hb7
    go_wp2_with fail
    refine (rrefutes_any ad n cap L k capl q c ts _ H.out.1 HV.out.1 HV.out.2 HL.out.1 (by omega) (H.out.2.1.below HB7.out) (HL.out.2.1.below HB7.out) HL.out.2.2).mono ?_
    rintro e w8 ⟨rfl, hb8⟩
    rw [← HBB.out.2]
    have HB8 := Lib.hid (HB7.out.trans (hb8.mono HB7.out.size))
    clear hb8
    go_wp2_with fail
    refine (awake_any _).mono ?_
    rintro e w9 ⟨rfl, hb9⟩
    have HB9 := Lib.hid (HB8.out.trans (hb9.mono HB8.out.size))
    clear hb9
    go_wp2_with fail
    go_ret
    exact ⟨rfl, HB9.out⟩
end Go.Proofs.Ytbidboagaoifaaa
