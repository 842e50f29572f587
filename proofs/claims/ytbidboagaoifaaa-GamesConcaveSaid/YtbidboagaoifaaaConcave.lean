/- Contracts: Concave of package games and of its reference. -/
import Derived.Test.YtbidboagaoifaaaValid
import Derived.Test.YtbidboagaoifaaaConcLaw
namespace Go.Proofs.Ytbidboagaoifaaa
open Go.RowKit

def conc3 (c : List Int) : Value := .tuple #[.int .i64 ((concL c).1 : Nat), .int .i64 ((concL c).2.1 : Nat), .int .i64 ((concL c).2.2 : Nat)]

set_option maxHeartbeats 1600000 in
theorem rconcave_ok (ad : Addr) (N cap : Nat) (c : List Int) (w : World) (hl : c.length = N) (hv : valC c = true) (hc : ∀ i x, c[i]? = some x → w.cell? (ad.add i) = some (.int .i64 x)) :
    Calls Try.prog 27 #[.slice (some ad) N cap] w fun e w' => e = .returned (conc3 c) ∧ Below w.heap.size w w' := by
  have hN : 2 ≤ N ∧ N ≤ 16 := by have := (valC_iff.1 hv).1; omega
  have H := Lib.hid (And.intro hl (And.intro hv hc))
  have hbw : Below w.heap.size w w := Below.refl _ _
  clear hl hv hc
  go_enter Try.func27, Try.ntmps27
  go_wp2
  go_loopw [9] (fun iv wr => ∃ a : Nat, a ≤ N ∧ iv = .int .i64 a ∧ noneTo c (a * c.length) ∧ ∃ m, wr = w.drewN m) (fun iv _ => N - (intOf iv).toNat)
  case atStart => exact ⟨0, Nat.zero_le _, rfl, by rw [Nat.zero_mul]; exact noneTo_zero c, 0, rfl⟩
  case round =>
    obtain ⟨a, ha, rfl, hno, m, rfl⟩ := hrel
    have HNO := Lib.hid hno
    clear hno
    by_cases hlta : a < N
    · go_wp2
      go_loopw [14] (fun iv wr => ∃ b : Nat, b ≤ N ∧ iv = .int .i64 b ∧ noneTo c (a * c.length + b) ∧ ∃ m, wr = w.drewN m) (fun iv _ => N - (intOf iv).toNat)
      case atStart => exact ⟨0, Nat.zero_le _, rfl, HNO.out, m, rfl⟩
      case round =>
        obtain ⟨b, hb, rfl, hno, m', rfl⟩ := hrel
        obtain ⟨hl, hv, hc⟩ := H.out
        by_cases hltb : b < N
        · obtain ⟨hp, hp1, hp4⟩ := valC_pow hv
          have hcb := (valC_iff.1 hv).2.2
          have hor : a ||| b < N := by rw [← hl, hp]; exact Nat.or_lt_two_pow (by rw [← hp, hl]; exact hlta) (by rw [← hp, hl]; exact hltb)
          have hand : a &&& b < N := and_lt hlta
          have hN16 : N ≤ 16 := by
            have := (valC_iff.1 hv).1; omega
          obtain ⟨s1, hs1⟩ : ∃ s, s = a ||| b := ⟨_, rfl⟩
          obtain ⟨s2, hs2⟩ : ∃ s, s = a &&& b := ⟨_, rfl⟩
          have e1 := or_nat a b (by omega) (by omega)
          have e2 := and_nat a b (by omega) (by omega)
          rw [← hs1] at e1 hor
          rw [← hs2] at e2 hand
          obtain ⟨y1, hy1⟩ : ∃ y, c[s1]? = some y := ⟨_, List.getElem?_eq_getElem (by omega)⟩
          obtain ⟨y2, hy2⟩ : ∃ y, c[s2]? = some y := ⟨_, List.getElem?_eq_getElem (by omega)⟩
          obtain ⟨y3, hy3⟩ : ∃ y, c[a]? = some y := ⟨_, List.getElem?_eq_getElem (by omega)⟩
          obtain ⟨y4, hy4⟩ : ∃ y, c[b]? = some y := ⟨_, List.getElem?_eq_getElem (by omega)⟩
          have b1 := hcb y1 (List.mem_of_getElem? hy1)
          have b2 := hcb y2 (List.mem_of_getElem? hy2)
          have b3 := hcb y3 (List.mem_of_getElem? hy3)
          have b4 := hcb y4 (List.mem_of_getElem? hy4)
          have c1 := hc _ _ hy1
          have c2 := hc _ _ hy2
          have c3 := hc _ _ hy3
          have c4 := hc _ _ hy4
          have hbad : badB c a b = decide (y3 + y4 < y1 + y2) := by
            unfold badB
            rw [← hs1, ← hs2, List.getD_eq_getElem?_getD, List.getD_eq_getElem?_getD, List.getD_eq_getElem?_getD, List.getD_eq_getElem?_getD, hy1, hy2, hy3, hy4]; rfl
          have HB := Lib.hid (And.intro hno (And.intro hbad hl))
          have b12 : 0 ≤ y1 ∧ y1 ≤ 1000 ∧ 0 ≤ y2 ∧ y2 ≤ 1000 ∧ 0 ≤ y3 ∧ y3 ≤ 1000 ∧ 0 ≤ y4 ∧ y4 ≤ 1000 := by omega
          have w1 : IntKind.i64.wrap (y1 + y2) = y1 + y2 := IntWalk.i64_in _ (by omega)
          have w2 : IntKind.i64.wrap (y3 + y4) = y3 + y4 := IntWalk.i64_in _ (by omega)
          clear hno hbad hy1 hy2 hy3 hy4 hs1 hs2 hl hv hc hp hp1 hp4 hcb
          by_cases hlt : y3 + y4 < y1 + y2
          · have hd : decide (y3 + y4 < y1 + y2) = true := by simpa using hlt
            go_wp2
            go_quiet (fail)
            go_wp2
            go_ret3
            refine ⟨?_, by first | exact hbw | exact below_drewN (below_drewN hbw _) _ | exact below_drewN hbw _⟩
            unfold conc3
            rw [concL_hit HB.out.1 (by rw [HB.out.2.2]; exact hlta) (by rw [HB.out.2.2]; exact hltb) (by rw [HB.out.2.1]; exact hd)]
            rfl
          · have hd : decide (y3 + y4 < y1 + y2) = false := by simpa using hlt
            go_wp2
            go_quiet (fail)
            go_wp2
            go_roundw
            case rel => exact ⟨b + 1, by omega, by go_num, noneTo_succ HB.out.1 (by rw [HB.out.2.2]; exact hltb) (by rw [HB.out.2.1]; exact hd), _, rfl⟩
            case measure => simp [intOf]; omega
        · obtain rfl : b = N := by omega
          have HB := Lib.hid (And.intro hno hl)
          clear hno hl hv hc
          go_wp2
          go_roundw
          case rel => exact ⟨a + 1, by omega, by go_num, noneTo_row (by rw [HB.out.2]; rw [← HB.out.2]; have := HB.out.1; rwa [← HB.out.2] at this), m', rfl⟩
          case measure => simp [intOf]; omega
    · obtain rfl : a = N := by omega
      obtain ⟨hl, hv, hc⟩ := H.out
      have HE : Hid (concL c = (0, 0, 4)) := Lib.hid (concL_miss (by have := HNO.out; rwa [← hl] at this))
      clear hl hv hc
      go_wp2
      go_ret3
      refine ⟨?_, by first | exact hbw | exact below_drewN (below_drewN hbw _) _ | exact below_drewN hbw _⟩
      unfold conc3
      rw [HE.out]; rfl

set_option maxHeartbeats 1600000 in
theorem gconcave_ok (ad : Addr) (N cap : Nat) (c : List Int) (w : World) (hl : c.length = N) (hv : valC c = true) (hc : ∀ i x, c[i]? = some x → w.cell? (ad.add i) = some (.int .i64 x)) :
    Calls Try.prog 26 #[.slice (some ad) N cap] w fun e w' => e = .returned (conc3 c) ∧ Below w.heap.size w w' := by
  have hN : 2 ≤ N ∧ N ≤ 16 := by have := (valC_iff.1 hv).1; omega
  have H0 := Lib.hid (And.intro hl (And.intro hv hc))
  clear hl hv hc
  go_enter Try.func26, Try.ntmps26
  go_wp2_with fail
  refine (valid_any (some ad) N cap c _ H0.out.1 (by omega) (Ints.mk_ H0.out.2.2)).mono ?_
  rintro e W ⟨rfl, hbw⟩
  rw [H0.out.2.1]
  have H := Lib.hid (And.intro H0.out.1 (And.intro H0.out.2.1 (fun i x hx => ((hbw.cell (lt_of_cell (H0.out.2.2 i x hx))).trans (H0.out.2.2 i x hx)))))
  have HBW := Lib.hid hbw
  clear hbw
  go_wp2
  go_loopw [12] (fun iv wr => ∃ a : Nat, a ≤ N ∧ iv = .int .i64 a ∧ noneTo c (a * c.length) ∧ ∃ m, wr = W.drewN m) (fun iv _ => N - (intOf iv).toNat)
  case atStart => exact ⟨0, Nat.zero_le _, rfl, by rw [Nat.zero_mul]; exact noneTo_zero c, 0, rfl⟩
  case round =>
    obtain ⟨a, ha, rfl, hno, m, rfl⟩ := hrel
    have HNO := Lib.hid hno
    clear hno
    by_cases hlta : a < N
    · go_wp2
      go_loopw [17] (fun iv wr => ∃ b : Nat, b ≤ N ∧ iv = .int .i64 b ∧ noneTo c (a * c.length + b) ∧ ∃ m, wr = W.drewN m) (fun iv _ => N - (intOf iv).toNat)
      case atStart => exact ⟨0, Nat.zero_le _, rfl, HNO.out, m, rfl⟩
      case round =>
        obtain ⟨b, hb, rfl, hno, m', rfl⟩ := hrel
        obtain ⟨hl, hv, hc⟩ := H.out
        by_cases hltb : b < N
        · obtain ⟨hp, hp1, hp4⟩ := valC_pow hv
          have hcb := (valC_iff.1 hv).2.2
          have hor : a ||| b < N := by rw [← hl, hp]; exact Nat.or_lt_two_pow (by rw [← hp, hl]; exact hlta) (by rw [← hp, hl]; exact hltb)
          have hand : a &&& b < N := and_lt hlta
          have hN16 : N ≤ 16 := by
            have := (valC_iff.1 hv).1; omega
          obtain ⟨s1, hs1⟩ : ∃ s, s = a ||| b := ⟨_, rfl⟩
          obtain ⟨s2, hs2⟩ : ∃ s, s = a &&& b := ⟨_, rfl⟩
          have e1 := or_nat a b (by omega) (by omega)
          have e2 := and_nat a b (by omega) (by omega)
          rw [← hs1] at e1 hor
          rw [← hs2] at e2 hand
          obtain ⟨y1, hy1⟩ : ∃ y, c[s1]? = some y := ⟨_, List.getElem?_eq_getElem (by omega)⟩
          obtain ⟨y2, hy2⟩ : ∃ y, c[s2]? = some y := ⟨_, List.getElem?_eq_getElem (by omega)⟩
          obtain ⟨y3, hy3⟩ : ∃ y, c[a]? = some y := ⟨_, List.getElem?_eq_getElem (by omega)⟩
          obtain ⟨y4, hy4⟩ : ∃ y, c[b]? = some y := ⟨_, List.getElem?_eq_getElem (by omega)⟩
          have b1 := hcb y1 (List.mem_of_getElem? hy1)
          have b2 := hcb y2 (List.mem_of_getElem? hy2)
          have b3 := hcb y3 (List.mem_of_getElem? hy3)
          have b4 := hcb y4 (List.mem_of_getElem? hy4)
          have c1 := hc _ _ hy1
          have c2 := hc _ _ hy2
          have c3 := hc _ _ hy3
          have c4 := hc _ _ hy4
          have hbad : badB c a b = decide (y3 + y4 < y1 + y2) := by
            unfold badB
            rw [← hs1, ← hs2, List.getD_eq_getElem?_getD, List.getD_eq_getElem?_getD, List.getD_eq_getElem?_getD, List.getD_eq_getElem?_getD, hy1, hy2, hy3, hy4]; rfl
          have HB := Lib.hid (And.intro hno (And.intro hbad hl))
          have b12 : 0 ≤ y1 ∧ y1 ≤ 1000 ∧ 0 ≤ y2 ∧ y2 ≤ 1000 ∧ 0 ≤ y3 ∧ y3 ≤ 1000 ∧ 0 ≤ y4 ∧ y4 ≤ 1000 := by omega
          have w1 : IntKind.i64.wrap (y1 + y2) = y1 + y2 := IntWalk.i64_in _ (by omega)
          have w2 : IntKind.i64.wrap (y3 + y4) = y3 + y4 := IntWalk.i64_in _ (by omega)
          clear hno hbad hy1 hy2 hy3 hy4 hs1 hs2 hl hv hc hp hp1 hp4 hcb
          by_cases hlt : y3 + y4 < y1 + y2
          · have hd : decide (y3 + y4 < y1 + y2) = true := by simpa using hlt
            go_wp2
            go_quiet (fail)
            go_wp2
            go_ret3
            refine ⟨?_, by first | exact HBW.out | exact below_drewN (below_drewN HBW.out _) _ | exact below_drewN HBW.out _⟩
            unfold conc3
            rw [concL_hit HB.out.1 (by rw [HB.out.2.2]; exact hlta) (by rw [HB.out.2.2]; exact hltb) (by rw [HB.out.2.1]; exact hd)]
            rfl
          · have hd : decide (y3 + y4 < y1 + y2) = false := by simpa using hlt
            go_wp2
            go_quiet (fail)
            go_wp2
            go_roundw
            case rel => exact ⟨b + 1, by omega, by go_num, noneTo_succ HB.out.1 (by rw [HB.out.2.2]; exact hltb) (by rw [HB.out.2.1]; exact hd), _, rfl⟩
            case measure => simp [intOf]; omega
        · obtain rfl : b = N := by omega
          have HB := Lib.hid (And.intro hno hl)
          clear hno hl hv hc
          go_wp2
          go_roundw
          case rel => exact ⟨a + 1, by omega, by go_num, noneTo_row (by rw [HB.out.2]; rw [← HB.out.2]; have := HB.out.1; rwa [← HB.out.2] at this), m', rfl⟩
          case measure => simp [intOf]; omega
    · obtain rfl : a = N := by omega
      obtain ⟨hl, hv, hc⟩ := H.out
      have HE : Hid (concL c = (0, 0, 4)) := Lib.hid (concL_miss (by have := HNO.out; rwa [← hl] at this))
      clear hl hv hc
      go_wp2
      go_ret3
      refine ⟨?_, by first | exact HBW.out | exact below_drewN (below_drewN HBW.out _) _ | exact below_drewN HBW.out _⟩
      unfold conc3
      rw [HE.out]; rfl

theorem gconcave_bad (A : Option Addr) (n cap : Nat) (xs : List Int) (w : World) (hl : xs.length = n) (hm : n ≤ 9223372036854775807) (h : Ints w A xs) (hv : valC xs = false) :
    Calls Try.prog 26 #[.slice A n cap] w fun e w' => e = .returned (.tuple #[.int .i64 0, .int .i64 0, .int .i64 2]) ∧ Below w.heap.size w w' := by
  have HI := Lib.hid h
  have HL := Lib.hid hl
  have HV := Lib.hid hv
  clear hl hv h
  go_enter Try.func26, Try.ntmps26
  go_wp2_with fail
  refine (valid_any A n cap xs _ HL.out hm HI.out).mono ?_
  rintro e w1 ⟨rfl, hb⟩
  rw [HV.out]
  have HB := Lib.hid hb
  clear hb
  go_wp2
  go_ret3
  exact ⟨rfl, HB.out⟩
end Go.Proofs.Ytbidboagaoifaaa
