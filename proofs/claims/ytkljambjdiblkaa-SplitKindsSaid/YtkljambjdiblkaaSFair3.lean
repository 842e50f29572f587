/- Contracts: Envy and Fair of package split. -/
import Derived.Test.YtkljambjdiblkaaSFair2
import Derived.Test.YtkljambjdiblkaaSNash
namespace Go.Proofs.Ytkljambjdiblkaa
open Go.RowKit

theorem divV_len {V : List (List Int)} {d : List Int} {m : Nat} (h : divV V d = true) (hm : m = (rowV V 0).length) : d.length = m := by
  unfold divV at h
  simp only [Bool.and_eq_true, decide_eq_true_eq] at h
  rw [hm]; exact h.1

/-- What Envy leaves. -/
def EnvyPost0 (V : List (List Int)) (d : List Int) (w : World) (e : Ending) (w' : World) : Prop :=
  ((valV V && divV V d) = false ∧ e = .returned (.tuple #[.slice none 0 0, .int .i64 2]) ∧ Below w.heap.size w w') ∨
  ((valV V && divV V d) = true ∧ ∃ A c, e = .returned (.tuple #[.slice A (envL V d V.length).length c, .int .i64 0]) ∧ (envL V d V.length).length ≤ 1000 ∧ Pairs w' A (envL V d V.length) ∧ Below w.heap.size w w')

set_option maxHeartbeats 1600000 in
theorem senvy0_any (A D : Option Addr) (n cap nd capd : Nat) (V : List (List Int)) (d : List Int) (w : World) (hl : V.length = n) (hn : n ≤ 9223372036854775807) (hV : Mat w A V) (hld : d.length = nd) (hnd : nd ≤ 9223372036854775807) (hD : Ints w D d) :
    Calls Try.prog 32 #[.slice A n cap, .slice D nd capd] w (EnvyPost0 V d w) := by
  have H := Lib.hid (And.intro hl (And.intro hV (And.intro hld hD)))
  clear hl hV hld hD
  go_enter Try.func32, Try.ntmps32
  go_wp2_with fail
  refine (svalid_any A n cap V _ H.out.1 hn H.out.2.1).mono ?_
  rintro e w1 ⟨rfl, hb1⟩
  have H1 := Lib.hid hb1
  clear hb1
  cases hv : valV V
  · have HV := Lib.hid hv
    clear hv
    go_wp2_with fail
    go_ret2
    exact .inl ⟨by rw [HV.out]; rfl, rfl, H1.out⟩
  · have hv1 := valV_iff.1 hv
    have hn4 : 1 ≤ n ∧ n ≤ 4 := by rw [← H.out.1]; exact hv1.1
    obtain ⟨m, hm⟩ : ∃ m, m = (rowV V 0).length := ⟨_, rfl⟩
    have hm7 : 1 ≤ m ∧ m ≤ 7 := by rw [hm]; exact hv1.2.1
    have HV := Lib.hid (And.intro hv (And.intro hm (valV_rows hv hm)))
    clear hv hv1 hm
    go_wp2_with fail
    refine (sdivision_any A D n cap nd capd m V d w1 H.out.1 (by omega) HV.out.2.1 (by omega) (H.out.2.1.below H1.out) H.out.2.2.1 hnd (H.out.2.2.2.below H1.out)).mono ?_
    rintro e w2 ⟨rfl, hb2⟩
    have H2 := Lib.hid (H1.out.trans (hb2.mono H1.out.size))
    clear hb2
    cases hd : divV V d
    · have HD := Lib.hid hd
      clear hd
      go_wp2_with fail
      go_ret2
      exact .inl ⟨by rw [HD.out, Bool.and_false], rfl, H2.out⟩
    · have hdm : nd = m := by rw [← H.out.2.2.1]; exact divV_len hd HV.out.2.1
      subst hdm
      have HD := Lib.hid hd
      clear hd
      go_wp2_with fail
      refine (senvy_any A n cap D nd capd V d w2 H.out.1 (by omega) H.out.2.2.1 (by omega) (by rw [← H.out.1]; exact HV.out.2.2) (H.out.2.1.below H2.out) (H.out.2.2.2.below H2.out)).mono ?_
      rintro e w3 ⟨A3, c3, rfl, hq, hP, hb3⟩
      obtain ⟨q, hqe⟩ : ∃ q, q = (envL V d n).length := ⟨_, rfl⟩
      rw [← hqe] at hq ⊢
      have H3 := Lib.hid (And.intro hqe (And.intro hP (H2.out.trans (hb3.mono H2.out.size))))
      clear hqe hP hb3
      go_wp2_with fail
      go_ret2
      refine .inr ⟨by rw [HV.out.1, HD.out]; rfl, A3, c3, ?_, ?_, ?_, H3.out.2.2⟩
      · rw [H.out.1, ← H3.out.1]; rfl
      · rw [H.out.1, ← H3.out.1]; exact hq
      · rw [H.out.1]; exact H3.out.2.1

/-- What Fair leaves. -/
def FairPost0 (V : List (List Int)) (d : List Int) (kind : Int) (w : World) (e : Ending) (w' : World) : Prop :=
  ((valV V && divV V d && decide (0 ≤ kind) && decide (kind ≤ 4)) = false ∧ e = .returned (.tuple #[.bool false, .int .i64 2]) ∧ Below w.heap.size w w') ∨
  ((valV V && divV V d && decide (0 ≤ kind) && decide (kind ≤ 4)) = true ∧ e = .returned (.tuple #[.bool (fairB V d V.length kind), .int .i64 0]) ∧ Below w.heap.size w w')

set_option maxHeartbeats 1600000 in
theorem sfair0_any (A D : Option Addr) (n cap nd capd : Nat) (kind : Int) (V : List (List Int)) (d : List Int) (w : World) (hl : V.length = n) (hn : n ≤ 9223372036854775807) (hV : Mat w A V) (hld : d.length = nd) (hnd : nd ≤ 9223372036854775807) (hD : Ints w D d) :
    Calls Try.prog 31 #[.slice A n cap, .slice D nd capd, .int .i64 kind] w (FairPost0 V d kind w) := by
  have H := Lib.hid (And.intro hl (And.intro hV (And.intro hld hD)))
  clear hl hV hld hD
  go_enter Try.func31, Try.ntmps31
  go_wp2_with fail
  refine (svalid_any A n cap V _ H.out.1 hn H.out.2.1).mono ?_
  rintro e w1 ⟨rfl, hb1⟩
  have H1 := Lib.hid hb1
  clear hb1
  cases hv : valV V
  · have HV := Lib.hid hv
    clear hv
    go_wp2_with fail
    go_ret2
    exact .inl ⟨by rw [HV.out]; rfl, rfl, H1.out⟩
  · have hv1 := valV_iff.1 hv
    have hn4 : 1 ≤ n ∧ n ≤ 4 := by rw [← H.out.1]; exact hv1.1
    obtain ⟨m, hm⟩ : ∃ m, m = (rowV V 0).length := ⟨_, rfl⟩
    have hm7 : 1 ≤ m ∧ m ≤ 7 := by rw [hm]; exact hv1.2.1
    have HV := Lib.hid (And.intro hv (And.intro hm (valV_rows hv hm)))
    clear hv hv1 hm
    go_wp2_with fail
    refine (sdivision_any A D n cap nd capd m V d w1 H.out.1 (by omega) HV.out.2.1 (by omega) (H.out.2.1.below H1.out) H.out.2.2.1 hnd (H.out.2.2.2.below H1.out)).mono ?_
    rintro e w2 ⟨rfl, hb2⟩
    have H2 := Lib.hid (H1.out.trans (hb2.mono H1.out.size))
    clear hb2
    cases hd : divV V d
    · have HD := Lib.hid hd
      clear hd
      go_wp2_with fail
      go_ret2
      exact .inl ⟨by rw [HD.out]; simp, rfl, H2.out⟩
    · have hdm : nd = m := by rw [← H.out.2.2.1]; exact divV_len hd HV.out.2.1
      subst hdm
      have HD := Lib.hid hd
      clear hd
      by_cases h0 : kind < 0
      · go_wp2_with fail
        go_ret2
        exact .inl ⟨by rw [decide_eq_false (p := 0 ≤ kind) (by omega)]; simp, rfl, H2.out⟩
      · by_cases h4 : 4 < kind
        · go_wp2_with fail
          go_ret2
          exact .inl ⟨by rw [decide_eq_false (p := kind ≤ 4) (by omega)]; simp, rfl, H2.out⟩
        · go_wp2_with fail
          have hcall : Calls Try.prog 63 #[.slice A n cap, .slice D nd capd, .int .i64 kind] w2 fun e w' => e = .returned (.bool (fairB V d n kind)) ∧ Below w2.heap.size w2 w' := by
            by_cases h3 : kind ≤ 2
            · exact sfair_low A n cap D nd capd kind V d w2 H.out.1 (by omega) H.out.2.2.1 (by omega) (by omega) (by rw [← H.out.1]; exact HV.out.2.2) (H.out.2.1.below H2.out) (H.out.2.2.2.below H2.out)
            · exact sfair_high A n cap D nd capd kind V d w2 H.out.1 (by omega) H.out.2.2.1 (by omega) (by omega) (by rw [← H.out.1]; exact HV.out.2.2) (H.out.2.1.below H2.out) (H.out.2.2.2.below H2.out)
          refine hcall.mono ?_
          rintro e w3 ⟨rfl, hb3⟩
          have H3 := Lib.hid (H2.out.trans (hb3.mono H2.out.size))
          clear hb3 hcall
          obtain ⟨b, hb⟩ : ∃ b, b = fairB V d n kind := ⟨_, rfl⟩
          rw [← hb]
          have HB := Lib.hid hb
          clear hb
          go_wp2_with fail
          go_ret2
          refine .inr ⟨by rw [HV.out.1, HD.out, decide_eq_true (show 0 ≤ kind by omega), decide_eq_true (show kind ≤ 4 by omega)]; rfl, ?_, H3.out⟩
          rw [H.out.1, ← HB.out]; rfl
end Go.Proofs.Ytkljambjdiblkaa
