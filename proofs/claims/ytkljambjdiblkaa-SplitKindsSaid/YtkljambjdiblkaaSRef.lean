/- Contracts: Valid and Division of the reference, divided of package corrodylaw01. -/
import Derived.Test.YtkljambjdiblkaaSDivision
namespace Go.Proofs.Ytkljambjdiblkaa
open Go.RowKit

set_option maxHeartbeats 800000 in
theorem worths_any (A : Option Addr) (n cap : Nat) (r : List Int) (w : World) (hl : r.length = n) (hn : n ≤ 9223372036854775807) (hI : Ints w A r) :
    Calls Try.prog 59 #[.slice A n cap] w fun e w' => e = .returned (.bool (r.all in100)) ∧ w = w' := by
  have H := Lib.hid (And.intro hl hI)
  clear hl hI
  go_enter Try.func59, Try.ntmps59
  go_wp2_with fail
  go_loop [7] (fun i => ∃ k : Nat, k ≤ n ∧ i = .int .i64 k ∧ (r.take k).all in100 = true) (fun i => n - (intOf i).toNat)
  case atStart => exact ⟨0, Nat.zero_le _, rfl, by simp⟩
  case round =>
    obtain ⟨k, hk, rfl, ha⟩ := hrel
    have HA := Lib.hid ha
    clear ha
    by_cases hlt : k < n
    · obtain ⟨x, hx⟩ : ∃ x, r[k]? = some x := ⟨_, List.getElem?_eq_getElem (by have := H.out.1; omega)⟩
      obtain ⟨ad, rfl, hc⟩ := H.out.2 k (.int .i64 x) (by rw [List.getElem?_map, hx]; rfl)
      have HX := Lib.hid hx
      have l1 : (k : Int) < (n : Int) := by omega
      clear hx
      have hbad : in100 x = false → Hid (false = r.all in100) := fun h => Lib.hid (by
        symm
        rw [List.all_eq_false]
        exact ⟨x, List.mem_of_getElem? HX.out, by simp [h]⟩)
      by_cases h0 : x < 0
      · have HB := hbad (by simp [in100]; omega)
        clear hbad
        go_wp2_with fail
        go_ret
        exact ⟨ret_bool HB.out, rfl⟩
      · by_cases h1 : 100 < x
        · have HB := hbad (by simp [in100]; omega)
          clear hbad
          go_wp2_with fail
          go_ret
          exact ⟨ret_bool HB.out, rfl⟩
        · have HN : Hid ((r.take (k + 1)).all in100 = true) := Lib.hid (by rw [List.take_add_one, HX.out, List.all_append, HA.out]; simp [in100]; omega)
          clear hbad
          go_wp2_with fail
          go_round
          case rel => exact ⟨k + 1, by omega, by go_num, HN.out⟩
          case measure => simp [intOf]; omega
    · have HN : Hid (true = r.all in100) := Lib.hid (by have h := HA.out; rw [List.take_of_length_le (by rw [H.out.1]; omega)] at h; exact h.symm)
      go_wp2_with fail
      go_ret
      exact ⟨ret_bool HN.out, rfl⟩

/-- A row of m values. -/
def okR (m : Nat) (r : List Int) : Bool := decide (r.length = m) && decide (1 ≤ r.length) && decide (r.length ≤ 7) && r.all in100
theorem valV_okR {V : List (List Int)} {m : Nat} (h1 : 1 ≤ V.length) (h4 : V.length ≤ 4) (hm : m = (rowV V 0).length) : valV V = V.all (okR m) := by
  have h0 : rowV V 0 ∈ V := by
    rw [rowV_get (List.getElem?_eq_getElem (by omega : 0 < V.length))]; exact List.getElem_mem _
  rw [Bool.eq_iff_iff, valV_iff, List.all_eq_true, ← hm]
  simp only [okR, Bool.and_eq_true, decide_eq_true_eq, List.all_eq_true, in100]
  constructor
  · intro ⟨_, h2, h3⟩ r hr
    have := h3 r hr
    exact ⟨⟨⟨this.1, by omega⟩, by omega⟩, this.2⟩
  · intro h
    have hh := h _ h0
    refine ⟨⟨h1, h4⟩, by omega, fun r hr => ⟨(h r hr).1.1.1, (h r hr).2⟩⟩

set_option maxRecDepth 100000 in
set_option maxHeartbeats 1600000 in
theorem r1valid_any (A : Option Addr) (n cap : Nat) (V : List (List Int)) (w : World) (hl : V.length = n) (hn : n ≤ 9223372036854775807) (hV : Mat w A V) :
    Calls Try.prog 30 #[.slice A n cap] w fun e w' => e = .returned (.bool (valV V)) ∧ w = w' := by
  obtain ⟨b, hb⟩ : ∃ b, b = valV V := ⟨_, rfl⟩
  rw [← hb]
  by_cases h1 : n < 1
  · have HF : Hid (false = b) := Lib.hid (by rw [hb]; unfold valV; rw [decide_eq_false (p := 1 ≤ V.length) (by omega)]; rfl)
    clear hb hl hV
    go_enter Try.func30, Try.ntmps30
    go_wp2_with fail
    go_ret
    exact ⟨ret_bool HF.out, rfl⟩
  · by_cases h2 : 4 < n
    · have HF : Hid (false = b) := Lib.hid (by rw [hb]; unfold valV; rw [decide_eq_false (p := V.length ≤ 4) (by omega)]; simp)
      clear hb hl hV
      go_enter Try.func30, Try.ntmps30
      go_wp2_with fail
      go_ret
      exact ⟨ret_bool HF.out, rfl⟩
    · obtain ⟨m, hm⟩ : ∃ m, m = (rowV V 0).length := ⟨_, rfl⟩
      obtain ⟨ad, rfl, had, hc⟩ := hV.some_ (by omega)
      obtain ⟨A0, c0, g1, g2, g3, g4⟩ := hc 0 _ (List.getElem?_eq_getElem (by omega))
      have e : (V[0]'(by omega)).length = m := by rw [hm, rowV_get (List.getElem?_eq_getElem (by omega))]
      rw [e] at g1 g2
      have g1' : w.cell? ad = some (.slice A0 m c0) := g1
      have H := Lib.hid (And.intro (hb.trans (valV_okR (by omega) (by omega) hm)) (And.intro hl (And.intro hm hc)))
      clear hb hl hm hc g1 g4 e hV
      go_enter Try.func30, Try.ntmps30
      go_wp2_with fail
      go_loop [15] (fun i => ∃ k : Nat, k ≤ n ∧ i = .int .i64 k ∧ (V.take k).all (okR m) = true) (fun i => n - (intOf i).toNat)
      case atStart => exact ⟨0, Nat.zero_le _, rfl, by simp⟩
      case round =>
        obtain ⟨k, hk, rfl, ha⟩ := hrel
        have HA := Lib.hid ha
        clear ha
        by_cases hlt : k < n
        · obtain ⟨r, hr⟩ : ∃ r, V[k]? = some r := ⟨_, List.getElem?_eq_getElem (by have := H.out.2.1; omega)⟩
          obtain ⟨A', c, q1, q2, q3, q4⟩ := H.out.2.2.2 k r hr
          obtain ⟨rl, hrl⟩ : ∃ rl, rl = r.length := ⟨_, rfl⟩
          rw [← hrl] at q1 q2
          have HX := Lib.hid (And.intro hr (And.intro hrl q4))
          have l1 : (k : Int) < (n : Int) := by omega
          have l0 : (0 : Int) < (n : Int) := by omega
          clear hr hrl q4
          have hbad : okR m r = false → Hid (false = b) := fun h => Lib.hid (by
            rw [H.out.1]
            symm
            rw [List.all_eq_false]
            exact ⟨r, List.mem_of_getElem? HX.out.1, by simp [h]⟩)
          by_cases e1 : rl = m
          · subst e1
            by_cases e2 : rl < 1
            · have HB := hbad (by unfold okR; rw [← HX.out.2.1, decide_eq_false (p := 1 ≤ rl) (by omega)]; simp)
              clear hbad
              go_wp2_with fail
              go_ret
              exact ⟨ret_bool HB.out, rfl⟩
            · by_cases e3 : 7 < rl
              · have HB := hbad (by unfold okR; rw [← HX.out.2.1, decide_eq_false (p := rl ≤ 7) (by omega)]; simp)
                clear hbad
                go_wp2_with fail
                go_ret
                exact ⟨ret_bool HB.out, rfl⟩
              · go_wp2_with fail
                refine (worths_any A' rl c r _ HX.out.2.1.symm (by omega) HX.out.2.2).mono ?_
                rintro e w' ⟨rfl, rfl⟩
                cases hv : r.all in100
                · have HB := hbad (by unfold okR; rw [hv]; simp)
                  clear hbad hv
                  go_wp2_with fail
                  go_ret
                  exact ⟨ret_bool HB.out, rfl⟩
                · have HN : Hid ((V.take (k + 1)).all (okR rl) = true) := Lib.hid (by
                    rw [List.take_add_one, HX.out.1, List.all_append, HA.out]
                    simp only [Option.toList, List.all_cons, List.all_nil, okR, ← HX.out.2.1, hv]
                    rw [decide_eq_true trivial, decide_eq_true (p := 1 ≤ rl) (by omega), decide_eq_true (p := rl ≤ 7) (by omega)]; rfl)
                  clear hbad hv
                  go_wp2_with fail
                  go_round
                  case rel => exact ⟨k + 1, by omega, by go_num, HN.out⟩
                  case measure => simp [intOf]; omega
          · have HB := hbad (by unfold okR; rw [← HX.out.2.1, decide_eq_false e1]; rfl)
            have hne : ((rl : Int) != (m : Int)) = true := by rw [bne_iff_ne]; omega
            clear hbad e1
            go_wp2_with fail
            go_ret
            exact ⟨ret_bool HB.out, rfl⟩
        · have HN : Hid (true = b) := Lib.hid (by have h := HA.out; rw [List.take_of_length_le (by rw [H.out.2.1]; omega)] at h; rw [H.out.1]; exact h.symm)
          go_wp2_with fail
          go_ret
          exact ⟨ret_bool HN.out, rfl⟩

set_option maxHeartbeats 800000 in
theorem r1division_any (A D : Option Addr) (n cap nd capd m : Nat) (V : List (List Int)) (d : List Int) (w : World) (hlV : V.length = n) (hn : 1 ≤ n ∧ n ≤ 1000) (hm : m = (rowV V 0).length) (hm7 : m ≤ 1000) (hV : Mat w A V)
    (hl : d.length = nd) (hnd : nd ≤ 9223372036854775807) (hD : Ints w D d) :
    Calls Try.prog 41 #[.slice A n cap, .slice D nd capd] w fun e w' => e = .returned (.bool (divV V d)) ∧ w = w' := by
  obtain ⟨b, hb⟩ : ∃ b, b = divV V d := ⟨_, rfl⟩
  rw [← hb]
  obtain ⟨ad, rfl, had, hc⟩ := hV.some_ (by omega)
  obtain ⟨A0, c0, g1, g2, g3, g4⟩ := hc 0 _ (List.getElem?_eq_getElem (by omega))
  have e : (V[0]'(by omega)).length = m := by rw [hm, rowV_get (List.getElem?_eq_getElem (by omega))]
  rw [e] at g1 g2
  have g1' : w.cell? ad = some (.slice A0 m c0) := g1
  have l0 : (0 : Int) < (n : Int) := by omega
  have H := Lib.hid (And.intro hb (And.intro hlV (And.intro hm (And.intro hl hD))))
  clear hb hlV hm hc g1 g4 e hV hl hD
  go_enter Try.func41, Try.ntmps41
  go_wp2_with fail
  go_loop [9] (fun i => ∃ k : Nat, k ≤ nd ∧ i = .int .i64 k ∧ (d.take k).any (badD n) = false) (fun i => nd - (intOf i).toNat)
  case atStart => exact ⟨0, Nat.zero_le _, rfl, by simp⟩
  case round =>
    obtain ⟨k, hk, rfl, ha⟩ := hrel
    have HA := Lib.hid ha
    clear ha
    by_cases hlt : k < nd
    · obtain ⟨x, hx⟩ : ∃ x, d[k]? = some x := ⟨_, List.getElem?_eq_getElem (by have := H.out.2.2.2.1; omega)⟩
      obtain ⟨ax, rfl, hcx⟩ := H.out.2.2.2.2 k (.int .i64 x) (by rw [List.getElem?_map, hx]; rfl)
      have HX := Lib.hid hx
      have l1 : (k : Int) < (nd : Int) := by omega
      clear hx
      have hbad : badD n x = true → Hid (false = b) := fun h => Lib.hid (by
        have h2 : d.any (badD n) = true := List.any_eq_true.2 ⟨x, List.mem_of_getElem? HX.out, h⟩
        rw [H.out.1]; unfold divV; rw [H.out.2.1, h2]; simp)
      by_cases h0 : x < 0
      · have HB := hbad (by simp [badD]; omega)
        clear hbad
        go_wp2_with fail
        go_ret
        exact ⟨ret_bool HB.out, rfl⟩
      · by_cases h1 : (n : Int) ≤ x
        · have HB := hbad (by simp [badD]; omega)
          clear hbad
          go_wp2_with fail
          go_ret
          exact ⟨ret_bool HB.out, rfl⟩
        · have HN : Hid ((d.take (k + 1)).any (badD n) = false) := Lib.hid (by rw [List.take_add_one, HX.out, List.any_append, HA.out]; simp [badD]; omega)
          clear hbad
          go_wp2_with fail
          go_round
          case rel => exact ⟨k + 1, by omega, by go_num, HN.out⟩
          case measure => simp [intOf]; omega
    · have HN : Hid (b = decide (nd = m)) := Lib.hid (by
        have h := HA.out
        rw [List.take_of_length_le (by rw [H.out.2.2.2.1]; omega)] at h
        rw [H.out.1]; unfold divV; rw [H.out.2.1, h, H.out.2.2.2.1, ← H.out.2.2.1]; simp)
      by_cases he : nd = m
      · subst he
        go_wp2_with fail
        go_ret
        exact ⟨ret_bool (by rw [HN.out]; simp), rfl⟩
      · have h1 : ((nd : Int) == (m : Int)) = false := by rw [beq_eq_false_iff_ne]; omega
        have HN2 : Hid (false = b) := Lib.hid (by rw [HN.out, decide_eq_false he])
        clear he
        go_wp2_with fail
        go_ret
        exact ⟨ret_bool HN2.out, rfl⟩

set_option maxHeartbeats 800000 in
theorem divided_any (A D : Option Addr) (n cap nd capd : Nat) (V : List (List Int)) (d : List Int) (w : World) (hlV : V.length = n) (hn : n ≤ 9223372036854775807) (hV : Mat w A V)
    (hl : d.length = nd) (hnd : nd ≤ 9223372036854775807) (hD : Ints w D d) :
    Calls Try.prog 21 #[.slice A n cap, .slice D nd capd] w fun e w' => e = .returned (.bool (valV V && divV V d)) ∧ w = w' := by
  have H := Lib.hid (And.intro hlV (And.intro hV (And.intro hl hD)))
  clear hlV hV hl hD
  go_enter Try.func21, Try.ntmps21
  go_wp2_with fail
  refine (r1valid_any A n cap V _ H.out.1 hn H.out.2.1).mono ?_
  rintro e w' ⟨rfl, rfl⟩
  cases hv : valV V
  · have HV := Lib.hid hv
    clear hv
    go_wp2_with fail
    go_ret
    exact ⟨ret_bool (by rw [HV.out]; rfl), rfl⟩
  · have HV1 := Lib.hid hv
    have hh := valV_iff.1 hv
    have h1 : 1 ≤ n ∧ n ≤ 1000 := by have := H.out.1; omega
    have h2 : (rowV V 0).length ≤ 1000 := by omega
    have HV := Lib.hid h2
    clear hv hh h2
    go_wp2_with fail
    refine (r1division_any A D n cap nd capd _ V d _ H.out.1 h1 rfl HV.out H.out.2.1 H.out.2.2.1 hnd H.out.2.2.2).mono ?_
    rintro e w' ⟨rfl, rfl⟩
    go_wp2_with fail
    go_ret
    exact ⟨ret_bool (by rw [HV1.out]; rfl), rfl⟩
end Go.Proofs.Ytkljambjdiblkaa
