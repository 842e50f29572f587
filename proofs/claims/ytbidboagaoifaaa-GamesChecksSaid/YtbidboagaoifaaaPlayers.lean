/- Contract: Players of package corrodyref07: how many players costs have, 0 where they are not valid. -/
import Derived.Test.YtbidboagaoifaaaProg
import Derived.Test.YtbidboagaoifaaaCosts
namespace Go.Proofs.Ytbidboagaoifaaa
open Go.RowKit

set_option maxHeartbeats 800000 in
theorem rplayers_2 (ad : Addr) (cap : Nat) (xs : List Int) (x0 : Int) (w : World) (hl : xs.length = 2) (hx0 : xs[0]? = some x0) (c0 : w.cell? ad = some (.int .i64 x0)) (hc : ∀ i x, xs[i]? = some x → w.cell? (ad.add i) = some (.int .i64 x)) :
    Calls Try.prog 20 #[.slice (some ad) 2 cap] w fun e w' => e = .returned (.int .i64 (plr xs)) ∧ w = w' := by
  have HC := Lib.hid hc
  have HL := Lib.hid hl
  have HX0 := Lib.hid hx0
  clear hc hl hx0
  go_enter Try.func20, Try.ntmps20
  go_wp2
  refine wp_loop_rounds 5 ?_
  iterate 1 (rw [rounds_succ]; go_wp2)
  go_loop [17] (fun i => ∃ k : Nat, k ≤ 2 ∧ i = .int .i64 k ∧ (xs.take k).all inR = true) (fun i => 2 - (intOf i).toNat)
  case atStart => exact ⟨0, Nat.zero_le _, rfl, by simp⟩
  case round =>
    obtain ⟨k, hk, rfl, ha⟩ := hrel
    have HA := Lib.hid ha
    clear ha
    by_cases hlt : k < 2
    · obtain ⟨x, hx⟩ : ∃ x, xs[k]? = some x := ⟨_, List.getElem?_eq_getElem (by rw [HL.out]; exact hlt)⟩
      have hcell := HC.out k x hx
      have HX := Lib.hid hx
      clear hx
      by_cases h1 : x < 0
      · go_wp2
        go_ret
        exact ⟨ret_int (by rw [plr_bad (valC_elem HX.out (by simp [inR]; omega))]; rfl), rfl⟩
      · by_cases h2 : 1000 < x
        · go_wp2
          go_ret
          exact ⟨ret_int (by rw [plr_bad (valC_elem HX.out (by simp [inR]; omega))]; rfl), rfl⟩
        · go_wp2
          go_round
          case rel => exact ⟨k + 1, by omega, by go_num, all_take_succ HX.out HA.out (by simp [inR]; omega)⟩
          case measure => simp [intOf]; omega
    · have HF : Hid (xs.all inR = true) := Lib.hid (by have h := HA.out; rwa [List.take_of_length_le (by rw [HL.out]; omega)] at h)
      cases h0 : (x0 == 0)
      · have HV := Lib.hid (plr_bad (valC_head HX0.out h0))
        go_wp2
        repeat (rw [rounds_succ]; go_wp2)
        go_ret
        exact ⟨ret_int (by rw [HV.out]; rfl), rfl⟩
      · have HV := Lib.hid (valC_ok (by rw [HL.out]; decide) HX0.out h0 HF.out)
        go_wp2
        go_ret
        exact ⟨ret_int (by simp [plr, HV.out, HL.out]), rfl⟩

set_option maxHeartbeats 800000 in
theorem rplayers_4 (ad : Addr) (cap : Nat) (xs : List Int) (x0 : Int) (w : World) (hl : xs.length = 4) (hx0 : xs[0]? = some x0) (c0 : w.cell? ad = some (.int .i64 x0)) (hc : ∀ i x, xs[i]? = some x → w.cell? (ad.add i) = some (.int .i64 x)) :
    Calls Try.prog 20 #[.slice (some ad) 4 cap] w fun e w' => e = .returned (.int .i64 (plr xs)) ∧ w = w' := by
  have HC := Lib.hid hc
  have HL := Lib.hid hl
  have HX0 := Lib.hid hx0
  clear hc hl hx0
  go_enter Try.func20, Try.ntmps20
  go_wp2
  refine wp_loop_rounds 5 ?_
  iterate 2 (rw [rounds_succ]; go_wp2)
  go_loop [17] (fun i => ∃ k : Nat, k ≤ 4 ∧ i = .int .i64 k ∧ (xs.take k).all inR = true) (fun i => 4 - (intOf i).toNat)
  case atStart => exact ⟨0, Nat.zero_le _, rfl, by simp⟩
  case round =>
    obtain ⟨k, hk, rfl, ha⟩ := hrel
    have HA := Lib.hid ha
    clear ha
    by_cases hlt : k < 4
    · obtain ⟨x, hx⟩ : ∃ x, xs[k]? = some x := ⟨_, List.getElem?_eq_getElem (by rw [HL.out]; exact hlt)⟩
      have hcell := HC.out k x hx
      have HX := Lib.hid hx
      clear hx
      by_cases h1 : x < 0
      · go_wp2
        go_ret
        exact ⟨ret_int (by rw [plr_bad (valC_elem HX.out (by simp [inR]; omega))]; rfl), rfl⟩
      · by_cases h2 : 1000 < x
        · go_wp2
          go_ret
          exact ⟨ret_int (by rw [plr_bad (valC_elem HX.out (by simp [inR]; omega))]; rfl), rfl⟩
        · go_wp2
          go_round
          case rel => exact ⟨k + 1, by omega, by go_num, all_take_succ HX.out HA.out (by simp [inR]; omega)⟩
          case measure => simp [intOf]; omega
    · have HF : Hid (xs.all inR = true) := Lib.hid (by have h := HA.out; rwa [List.take_of_length_le (by rw [HL.out]; omega)] at h)
      cases h0 : (x0 == 0)
      · have HV := Lib.hid (plr_bad (valC_head HX0.out h0))
        go_wp2
        repeat (rw [rounds_succ]; go_wp2)
        go_ret
        exact ⟨ret_int (by rw [HV.out]; rfl), rfl⟩
      · have HV := Lib.hid (valC_ok (by rw [HL.out]; decide) HX0.out h0 HF.out)
        go_wp2
        go_ret
        exact ⟨ret_int (by simp [plr, HV.out, HL.out]), rfl⟩

set_option maxHeartbeats 800000 in
theorem rplayers_8 (ad : Addr) (cap : Nat) (xs : List Int) (x0 : Int) (w : World) (hl : xs.length = 8) (hx0 : xs[0]? = some x0) (c0 : w.cell? ad = some (.int .i64 x0)) (hc : ∀ i x, xs[i]? = some x → w.cell? (ad.add i) = some (.int .i64 x)) :
    Calls Try.prog 20 #[.slice (some ad) 8 cap] w fun e w' => e = .returned (.int .i64 (plr xs)) ∧ w = w' := by
  have HC := Lib.hid hc
  have HL := Lib.hid hl
  have HX0 := Lib.hid hx0
  clear hc hl hx0
  go_enter Try.func20, Try.ntmps20
  go_wp2
  refine wp_loop_rounds 5 ?_
  iterate 3 (rw [rounds_succ]; go_wp2)
  go_loop [17] (fun i => ∃ k : Nat, k ≤ 8 ∧ i = .int .i64 k ∧ (xs.take k).all inR = true) (fun i => 8 - (intOf i).toNat)
  case atStart => exact ⟨0, Nat.zero_le _, rfl, by simp⟩
  case round =>
    obtain ⟨k, hk, rfl, ha⟩ := hrel
    have HA := Lib.hid ha
    clear ha
    by_cases hlt : k < 8
    · obtain ⟨x, hx⟩ : ∃ x, xs[k]? = some x := ⟨_, List.getElem?_eq_getElem (by rw [HL.out]; exact hlt)⟩
      have hcell := HC.out k x hx
      have HX := Lib.hid hx
      clear hx
      by_cases h1 : x < 0
      · go_wp2
        go_ret
        exact ⟨ret_int (by rw [plr_bad (valC_elem HX.out (by simp [inR]; omega))]; rfl), rfl⟩
      · by_cases h2 : 1000 < x
        · go_wp2
          go_ret
          exact ⟨ret_int (by rw [plr_bad (valC_elem HX.out (by simp [inR]; omega))]; rfl), rfl⟩
        · go_wp2
          go_round
          case rel => exact ⟨k + 1, by omega, by go_num, all_take_succ HX.out HA.out (by simp [inR]; omega)⟩
          case measure => simp [intOf]; omega
    · have HF : Hid (xs.all inR = true) := Lib.hid (by have h := HA.out; rwa [List.take_of_length_le (by rw [HL.out]; omega)] at h)
      cases h0 : (x0 == 0)
      · have HV := Lib.hid (plr_bad (valC_head HX0.out h0))
        go_wp2
        repeat (rw [rounds_succ]; go_wp2)
        go_ret
        exact ⟨ret_int (by rw [HV.out]; rfl), rfl⟩
      · have HV := Lib.hid (valC_ok (by rw [HL.out]; decide) HX0.out h0 HF.out)
        go_wp2
        go_ret
        exact ⟨ret_int (by simp [plr, HV.out, HL.out]), rfl⟩

set_option maxHeartbeats 800000 in
theorem rplayers_16 (ad : Addr) (cap : Nat) (xs : List Int) (x0 : Int) (w : World) (hl : xs.length = 16) (hx0 : xs[0]? = some x0) (c0 : w.cell? ad = some (.int .i64 x0)) (hc : ∀ i x, xs[i]? = some x → w.cell? (ad.add i) = some (.int .i64 x)) :
    Calls Try.prog 20 #[.slice (some ad) 16 cap] w fun e w' => e = .returned (.int .i64 (plr xs)) ∧ w = w' := by
  have HC := Lib.hid hc
  have HL := Lib.hid hl
  have HX0 := Lib.hid hx0
  clear hc hl hx0
  go_enter Try.func20, Try.ntmps20
  go_wp2
  refine wp_loop_rounds 5 ?_
  iterate 4 (rw [rounds_succ]; go_wp2)
  go_loop [17] (fun i => ∃ k : Nat, k ≤ 16 ∧ i = .int .i64 k ∧ (xs.take k).all inR = true) (fun i => 16 - (intOf i).toNat)
  case atStart => exact ⟨0, Nat.zero_le _, rfl, by simp⟩
  case round =>
    obtain ⟨k, hk, rfl, ha⟩ := hrel
    have HA := Lib.hid ha
    clear ha
    by_cases hlt : k < 16
    · obtain ⟨x, hx⟩ : ∃ x, xs[k]? = some x := ⟨_, List.getElem?_eq_getElem (by rw [HL.out]; exact hlt)⟩
      have hcell := HC.out k x hx
      have HX := Lib.hid hx
      clear hx
      by_cases h1 : x < 0
      · go_wp2
        go_ret
        exact ⟨ret_int (by rw [plr_bad (valC_elem HX.out (by simp [inR]; omega))]; rfl), rfl⟩
      · by_cases h2 : 1000 < x
        · go_wp2
          go_ret
          exact ⟨ret_int (by rw [plr_bad (valC_elem HX.out (by simp [inR]; omega))]; rfl), rfl⟩
        · go_wp2
          go_round
          case rel => exact ⟨k + 1, by omega, by go_num, all_take_succ HX.out HA.out (by simp [inR]; omega)⟩
          case measure => simp [intOf]; omega
    · have HF : Hid (xs.all inR = true) := Lib.hid (by have h := HA.out; rwa [List.take_of_length_le (by rw [HL.out]; omega)] at h)
      cases h0 : (x0 == 0)
      · have HV := Lib.hid (plr_bad (valC_head HX0.out h0))
        go_wp2
        repeat (rw [rounds_succ]; go_wp2)
        go_ret
        exact ⟨ret_int (by rw [HV.out]; rfl), rfl⟩
      · have HV := Lib.hid (valC_ok (by rw [HL.out]; decide) HX0.out h0 HF.out)
        go_wp2
        go_ret
        exact ⟨ret_int (by simp [plr, HV.out, HL.out]), rfl⟩

set_option maxHeartbeats 400000 in
theorem rplayers_else (A : Option Addr) (n cap : Nat) (w : World) (h2 : n ≠ 2) (h4 : n ≠ 4) (h8 : n ≠ 8) (h16 : n ≠ 16) :
    Calls Try.prog 20 #[.slice A n cap] w fun e w' => e = .returned (.int .i64 0) ∧ w = w' := by
  have e2 : ((n : Int) != 2) = true := by rw [bne_iff_ne]; omega
  have e4 : ((n : Int) != 4) = true := by rw [bne_iff_ne]; omega
  have e8 : ((n : Int) != 8) = true := by rw [bne_iff_ne]; omega
  have e16 : ((n : Int) != 16) = true := by rw [bne_iff_ne]; omega
  clear h2 h4 h8 h16
  go_enter Try.func20, Try.ntmps20
  go_wp2
  refine wp_loop_rounds 5 ?_
  repeat (rw [rounds_succ]; go_wp2)
  go_ret
  exact ⟨rfl, rfl⟩

theorem rplayers_any (A : Option Addr) (n cap : Nat) (xs : List Int) (w : World) (hl : xs.length = n) (hm : n ≤ 9223372036854775807) (h : Ints w A xs) :
    Calls Try.prog 20 #[.slice A n cap] w fun e w' => e = .returned (.int .i64 (plr xs)) ∧ w = w' := by
  by_cases hn : n = 2 ∨ n = 4 ∨ n = 8 ∨ n = 16
  · obtain ⟨ad, rfl, _, hc⟩ := h.some_ (by omega)
    obtain ⟨x0, hx0⟩ : ∃ x, xs[0]? = some x := ⟨_, List.getElem?_eq_getElem (by omega)⟩
    rcases hn with rfl | rfl | rfl | rfl
    · exact rplayers_2 ad cap xs x0 w hl hx0 (hc 0 x0 hx0) hc
    · exact rplayers_4 ad cap xs x0 w hl hx0 (hc 0 x0 hx0) hc
    · exact rplayers_8 ad cap xs x0 w hl hx0 (hc 0 x0 hx0) hc
    · exact rplayers_16 ad cap xs x0 w hl hx0 (hc 0 x0 hx0) hc
  · have e : plr xs = 0 := plr_bad (valC_len (by omega))
    rw [e]
    exact rplayers_else A n cap w (by omega) (by omega) (by omega) (by omega)
end Go.Proofs.Ytbidboagaoifaaa
