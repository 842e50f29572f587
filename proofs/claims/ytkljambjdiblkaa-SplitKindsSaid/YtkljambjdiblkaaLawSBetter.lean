/- The walk of SplitBetter: Better of package split against the reference. -/
import Derived.Test.YtkljambjdiblkaaSBetter
import Derived.Test.YtkljambjdiblkaaSRef
import Derived.Test.YtkljambjdiblkaaSFew
namespace Go.Proofs.Ytkljambjdiblkaa
open Go.RowKit

theorem fewV_id {V : List (List Int)} (h : V.length ≤ 6) (h2 : ∀ r ∈ V, r.length ≤ 9) : fewV V = V := by
  unfold fewV
  rw [List.take_of_length_le h]
  conv => rhs; rw [← List.map_id V]
  apply List.map_congr_left
  intro r hr
  exact List.take_of_length_le (h2 r hr)
theorem rowV_mem {V : List (List Int)} (h : 0 < V.length) : rowV V 0 ∈ V := by
  rw [rowV_get (List.getElem?_eq_getElem h)]; exact List.getElem_mem _
theorem fewV_ok {V : List (List Int)} (h : valV V = true) : fewV V = V := by
  obtain ⟨h1, h2, h3⟩ := valV_iff.1 h
  exact fewV_id (by omega) fun r hr => by have := (h3 r hr).1; omega
/-- Few keeps what is valid, and what is not. -/
theorem valV_few (V : List (List Int)) : valV (fewV V) = valV V := by
  cases h : valV V
  · cases h' : valV (fewV V)
    · rfl
    · exfalso
      obtain ⟨h1, h2, h3⟩ := valV_iff.1 h'
      rw [fewV_length] at h1
      have hl : V.length ≤ 4 := by omega
      have e : fewV V = V.map (·.take 9) := by unfold fewV; rw [List.take_of_length_le (by omega)]
      have e0 : rowV (fewV V) 0 = (rowV V 0).take 9 := by
        rw [e]
        have hg : V[0]? = some (V[0]'(by omega)) := List.getElem?_eq_getElem (by omega)
        rw [rowV_get hg, rowV_get (r := (V[0]'(by omega)).take 9) (by rw [List.getElem?_map, hg]; rfl)]
      have hr : ∀ r ∈ V, r.length ≤ 9 := by
        intro r hr
        have := (h3 (r.take 9) (by rw [e]; exact List.mem_map.2 ⟨r, hr, rfl⟩)).1
        rw [List.length_take] at this
        omega
      rw [fewV_id (by omega) hr, h] at h'
      cases h'
  · rw [fewV_ok h]; exact h
theorem divV_few {V : List (List Int)} (d : List Int) (h : valV V = true) : divV V (d.take 9) = divV V d := by
  obtain ⟨h1, h2, h3⟩ := valV_iff.1 h
  by_cases hd : d.length ≤ 9
  · rw [List.take_of_length_le hd]
  · unfold divV
    rw [decide_eq_false (p := d.length = (rowV V 0).length) (by omega), decide_eq_false (p := (d.take 9).length = (rowV V 0).length) (by rw [List.length_take]; omega)]
    rfl
theorem divided_few (V : List (List Int)) (d : List Int) : (valV (fewV V) && divV (fewV V) (d.take 9)) = (valV V && divV V d) := by
  rw [valV_few]
  cases h : valV V
  · rfl
  · rw [fewV_ok h, divV_few d h]

set_option maxRecDepth 100000 in
set_option maxHeartbeats 1600000 in
theorem law_better (A : Option Addr) (n cap : Nat) (V : List (List Int)) (D : Option Addr) (nd capd : Nat) (d : List Int) (w : World)
    (hl : V.length = n) (hc : n ≤ cap) (hm : cap ≤ 9223372036854775807) (hV : Mat w A V) (_hx : ∀ r ∈ V, ∀ x ∈ r, -9223372036854775808 ≤ x ∧ x ≤ 9223372036854775807)
    (hld : d.length = nd) (hcd : nd ≤ capd) (hmd : capd ≤ 9223372036854775807) (hD : Ints w D d) (_hxd : ∀ x ∈ d, -9223372036854775808 ≤ x ∧ x ≤ 9223372036854775807) :
    Calls Try.prog 3 #[.slice A n cap, .slice D nd capd] w fun e w' => e = .returned (.bool true) ∧ Below w.heap.size w w' := by
  have H := Lib.hid (And.intro hl (And.intro hV (And.intro hld hD)))
  clear hl hV hld hD _hx _hxd
  go_enter Try.func3, Try.ntmps3
  go_wp2_with fail
  refine (few_any A n cap V _ H.out.1 (by omega) H.out.2.1).mono ?_
  rintro e w1 ⟨A1, q, c1, rfl, hq, hq6, hqc, hc1, hM, hb⟩
  have H1 := Lib.hid (And.intro hq (And.intro hM hb))
  clear hq hM hb
  go_wp2_with fail
  refine (list_any D nd capd d _ H.out.2.2.1 hcd hmd (H.out.2.2.2.below H1.out.2.2)).mono ?_
  rintro e w2 ⟨A2, c2, rfl, hown2, hb2⟩
  have hI2 : Ints w2 A2 (d.take 9) := At.of_own hown2
  obtain ⟨k2, hk2⟩ : ∃ k2, k2 = min nd 9 := ⟨_, rfl⟩
  have hk29 : k2 ≤ 9 := by omega
  have hlk : (d.take 9).length = k2 := by rw [List.length_take, H.out.2.2.1, hk2]; omega
  rw [← hk2]
  have H2 := Lib.hid (And.intro hI2 (And.intro (H1.out.2.1.below hb2) (And.intro (H1.out.2.2.trans (hb2.mono H1.out.2.2.size)) hlk)))
  clear hown2 hI2 hb2 hk2 hlk
  go_wp2_with fail
  refine (sbetter_any A1 A2 q c1 k2 c2 (fewV V) (d.take 9) w2 H1.out.1.symm (by omega) H2.out.2.1 H2.out.2.2.2 (by omega) H2.out.1).mono ?_
  rintro e w3 (⟨hbad, rfl, hb3⟩ | ⟨hok, hres⟩)
  · rw [divided_few] at hbad
    have H3 := Lib.hid (And.intro hbad (H2.out.2.2.1.trans (hb3.mono H2.out.2.2.1.size)))
    clear hbad hb3
    go_wp2_with fail
    refine (divided_any A D n cap nd capd V d w3 H.out.1 (by omega) (H.out.2.1.below H3.out.2) H.out.2.2.1 (by omega) (H.out.2.2.2.below H3.out.2)).mono ?_
    rintro e w4 ⟨rfl, rfl⟩
    rw [H3.out.1]
    go_wp2_with fail
    refine (awake_any w3).mono ?_
    rintro e w5 ⟨rfl, hb5⟩
    have H5 := Lib.hid (H3.out.2.trans (hb5.mono H3.out.2.size))
    clear hb5
    go_wp2_with fail
    go_ret
    exact ⟨rfl, H5.out⟩
  · rw [divided_few] at hok
    have hv : valV V = true := by simp only [Bool.and_eq_true] at hok; exact hok.1
    have hdv : divV V d = true := by simp only [Bool.and_eq_true] at hok; exact hok.2
    obtain ⟨v1, v2, v3⟩ := valV_iff.1 hv
    obtain ⟨m, hm⟩ : ∃ m, m = (rowV V 0).length := ⟨_, rfl⟩
    have hdl : d.length = m := by
      unfold divV at hdv
      simp only [Bool.and_eq_true, decide_eq_true_eq] at hdv
      rw [hm]; exact hdv.1
    have hdt : d.take 9 = d := List.take_of_length_le (by omega)
    rw [fewV_ok hv, hdt, ← hm] at hres
    have hndm : nd = m := by rw [← H.out.2.2.1, hdl]
    subst hndm
    obtain ⟨o, ho⟩ : ∃ o, o = (divs V.length nd).find? (better V d) := ⟨_, rfl⟩
    rw [← ho] at hres
    have hn4 : 1 ≤ n ∧ n ≤ 4 := by rw [← H.out.1]; exact v1
    have hm7 : 1 ≤ nd ∧ nd ≤ 7 := by rw [hm]; exact v2
    have ho2 : o = (divs n nd).find? (better V d) := by rw [ho, H.out.1]
    have HV := Lib.hid (And.intro hok (And.intro hm (And.intro (valV_rows hv hm) ho2)))
    clear hok hv hdv v1 v2 v3 hm hdl hdt ho ho2
    rcases hres with ⟨rfl, rfl, hb3⟩ | ⟨a, A3, c3, rfl, rfl, ha7, hI3, hb3⟩
    · have H3 := Lib.hid (H2.out.2.2.1.trans (hb3.mono H2.out.2.2.1.size))
      clear hb3
      go_wp2_with fail
      refine (divided_any A D n cap nd capd V d w3 H.out.1 (by omega) (H.out.2.1.below H3.out) H.out.2.2.1 (by omega) (H.out.2.2.2.below H3.out)).mono ?_
      rintro e w4 ⟨rfl, rfl⟩
      rw [HV.out.1]
      go_wp2_with fail
      refine (r1better_any A D n cap capd nd V d w3 H.out.1 hn4 HV.out.2.1 hm7 H.out.2.2.1 (by rw [← H.out.1]; exact HV.out.2.2.1) (H.out.2.1.below H3.out) (H.out.2.2.2.below H3.out)).mono ?_
      rw [← HV.out.2.2.2]
      rintro e w5 (⟨_, rfl, hb5⟩ | ⟨a', _, _, h, _⟩)
      · have H5 := Lib.hid (H3.out.trans (hb5.mono H3.out.size))
        clear hb5
        go_wp2_with fail
        refine (equal_any none none 0 0 0 0 [] [] w5 rfl rfl (by omega) Ints.nil Ints.nil).mono ?_
        rintro e w6 ⟨rfl, k6, rfl⟩
        have e1 : eqB ([] : List Int) [] = true := by decide
        rw [e1]
        go_wp2_with fail
        refine (awake_any _).mono ?_
        rintro e w7 ⟨rfl, hb7⟩
        have H7 := Lib.hid ((below_drewN H5.out k6).trans (hb7.mono (H5.out.size)))
        clear hb7
        go_wp2_with fail
        go_ret
        exact ⟨rfl, H7.out⟩
      · cases h
    · have H3 := Lib.hid (And.intro hI3 (H2.out.2.2.1.trans (hb3.mono H2.out.2.2.1.size)))
      clear hb3 hI3
      obtain ⟨ka, hka⟩ : ∃ ka, ka = a.length := ⟨_, rfl⟩
      rw [← hka] at ha7 ⊢
      have HKA := Lib.hid hka
      clear hka
      go_wp2_with fail
      refine (divided_any A D n cap nd capd V d w3 H.out.1 (by omega) (H.out.2.1.below H3.out.2) H.out.2.2.1 (by omega) (H.out.2.2.2.below H3.out.2)).mono ?_
      rintro e w4 ⟨rfl, rfl⟩
      rw [HV.out.1]
      go_wp2_with fail
      refine (r1better_any A D n cap capd nd V d w3 H.out.1 hn4 HV.out.2.1 hm7 H.out.2.2.1 (by rw [← H.out.1]; exact HV.out.2.2.1) (H.out.2.1.below H3.out.2) (H.out.2.2.2.below H3.out.2)).mono ?_
      rw [← HV.out.2.2.2]
      rintro e w5 (⟨h, _⟩ | ⟨a', A5, c5, h, rfl, ha5, hI5, hb5⟩)
      · cases h
      · injection h with h
        subst h
        rw [← HKA.out]
        have H5 := Lib.hid (And.intro (H3.out.1.below hb5) (And.intro hI5 (H3.out.2.trans (hb5.mono H3.out.2.size))))
        clear hb5 hI5 ha5
        go_wp2_with fail
        refine (equal_any A3 A5 ka ka c3 c5 a a w5 HKA.out.symm HKA.out.symm (by omega) H5.out.1 H5.out.2.1).mono ?_
        rintro e w6 ⟨rfl, k6, rfl⟩
        have e1 : eqB a a = true := by unfold eqB; exact decide_eq_true rfl
        rw [e1]
        go_wp2_with fail
        refine (awake_any _).mono ?_
        rintro e w7 ⟨rfl, hb7⟩
        have H7 := Lib.hid ((below_drewN H5.out.2.2 k6).trans (hb7.mono (H5.out.2.2.size)))
        clear hb7
        go_wp2_with fail
        go_ret
        exact ⟨rfl, H7.out⟩
end Go.Proofs.Ytkljambjdiblkaa
