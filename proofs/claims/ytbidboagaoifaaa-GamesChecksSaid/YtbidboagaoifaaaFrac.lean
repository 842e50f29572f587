/- Contracts of the fractions of the references (package corrodyref04): gcd, Of, Add, Sub, Mul, Less, Lowest. -/
import Derived.Test.YtbidboagaoifaaaProg
import Derived.Test.YtbidboagaoifaaaRatLaw
namespace Go.Proofs.Ytbidboagaoifaaa
open Go.RowKit

set_option maxHeartbeats 400000 in
theorem rgcd_any (a b : Int) (w : World) (ha : 0 ≤ a) (hb : 0 ≤ b) (ha' : a ≤ 9223372036854775807) (hb' : b ≤ 9223372036854775807) :
    Calls Try.prog 62 #[.int .i64 a, .int .i64 b] w fun e w' => e = .returned (.int .i64 (Int.gcd a b)) ∧ ∃ n, w' = w.drewN n := by
  go_enter Try.func62, Try.ntmps62
  go_wp2
  go_loopw [0, 1] (fun x y wr => ∃ a' b' : Int, x = .int .i64 a' ∧ y = .int .i64 b' ∧ 0 ≤ a' ∧ a' ≤ 9223372036854775807 ∧ 0 ≤ b' ∧ b' ≤ 9223372036854775807 ∧ Int.gcd a' b' = Int.gcd a b ∧ ∃ n, wr = w.drewN n) (fun _ y _ => (intOf y).toNat)
  case atStart => exact ⟨a, b, rfl, rfl, ha, ha', hb, hb', rfl, 0, rfl⟩
  case round =>
    obtain ⟨a', b', rfl, rfl, h1, h2, h3, h4, hg, n, rfl⟩ := hrel
    have HG := Lib.hid hg
    clear hg
    by_cases h0 : b' = 0
    · subst h0
      go_wp2
      go_ret
      exact ⟨ret_int (by rw [← HG.out]; simp; omega), n, rfl⟩
    · have hr := Int.emod_nonneg a' h0
      have hr2 := Int.emod_lt_of_pos a' (show 0 < b' by omega)
      go_wp2
      go_quiet (fail)
      go_wp2
      go_roundw
      case rel => exact ⟨b', a' % b', rfl, by first | rfl | (rw [Int.tmod_eq_emod_of_nonneg h1]), h3, h4, hr, by omega, by rw [← HG.out, ← gcd_step a' b', Int.tmod_eq_emod_of_nonneg h1], n + _, World.drewN_drewN _ _ _⟩
      case measure => simp [intOf]; omega

set_option maxHeartbeats 400000 in
theorem rof_any (a b : Int) (w : World) (ha : -9223372036854775807 ≤ a) (ha' : a ≤ 9223372036854775807) (hb : 0 < b) (hb' : b ≤ 9223372036854775807) :
    Calls Try.prog 36 #[.int .i64 a, .int .i64 b] w fun e w' => e = .returned (fr (Rat.divInt a b)) ∧ Below w.heap.size w w' := by
  have hn := div_num (a := a) hb
  have hd := div_den (a := a) hb
  have hg := gcd_pos (a := a) hb
  have hgl := gcd_le (a := a) hb
  generalize hG : (Int.gcd a b : Int) = g at *
  generalize hQ : Rat.divInt a b = q at *
  rw [Int.tdiv_eq_ediv_of_nonneg (by omega)] at hd
  have HN := Lib.hid hn
  have HD := Lib.hid hd
  have HG := Lib.hid hG
  clear hn hd hG hQ
  go_enter Try.func36, Try.ntmps36
  by_cases h0 : a < 0
  · go_wp2_with fail
    refine (rgcd_any _ b _ (by omega) (by omega) (by omega) (by omega)).mono ?_
    rintro e w' ⟨rfl, n, rfl⟩
    rw [show ((-a).gcd b : Int) = g from by rw [Int.neg_gcd]; exact HG.out]
    go_wp2
    go_region
    go_wp2
    exact bodyPost_ret (v := fr q) (by simp [results, Try.results36, go_sem, fr, HN.out, HD.out]) rfl ⟨rfl, ((below_drewN ((Below.refl _ _).alloc (Nat.le_refl _) _) _).setCell (Nat.le_refl _) _).setCell (Nat.le_refl _) _⟩
  · have HN' : Hid (a / g = q.num) := Lib.hid (by rw [← HN.out, Int.tdiv_eq_ediv_of_nonneg (by omega)])
    go_wp2_with fail
    refine (rgcd_any _ b _ (by omega) (by omega) (by omega) (by omega)).mono ?_
    rintro e w' ⟨rfl, n, rfl⟩
    rw [show (a.gcd b : Int) = g from HG.out]
    go_wp2
    go_region
    go_wp2
    exact bodyPost_ret (v := fr q) (by simp [results, Try.results36, go_sem, fr, HN'.out, HD.out]) rfl ⟨rfl, ((below_drewN ((Below.refl _ _).alloc (Nat.le_refl _) _) _).setCell (Nat.le_refl _) _).setCell (Nat.le_refl _) _⟩

/-! arith -/
set_option maxHeartbeats 400000 in
theorem radd_raw (p q : Rat) (w : World) (h1 : -4000000000000000000 ≤ p.num * q.den) (h2 : p.num * q.den ≤ 4000000000000000000) (h3 : -4000000000000000000 ≤ q.num * p.den) (h4 : q.num * p.den ≤ 4000000000000000000) (h5 : (p.den : Int) * q.den ≤ 4000000000000000000) :
    Calls Try.prog 25 #[fr p, fr q] w fun e w' => e = .returned (fr (p + q)) ∧ Below w.heap.size w w' := by
  have hd : 0 < (p.den : Int) * q.den := Int.mul_pos (den_pos p) (den_pos q)
  have HL := Lib.hid (add_divInt p q)
  generalize hR : fr (p + q) = R
  have HR := Lib.hid hR
  clear hR
  unfold fr
  go_enter Try.func25, Try.ntmps25
  go_wp2_with fail
  refine (rof_any _ _ _ (by omega) (by omega) (by omega) (by omega)).mono ?_
  rintro e w' ⟨rfl, hb⟩
  rw [HL.out]
  have hB : Blk w' (w.heap.size + 1 + 1) 31 #[.int .i64 0, .int .i64 0] := (Blk.new _ _ _ (by simp)).below hb (by simp)
  obtain ⟨c0, c1, f0, f1⟩ := hB.at2
  have HB := Lib.hid hb
  clear hb hB
  unfold fr
  go_wp2
  refine bodyPost_ret (v := R) (by simp [results, Try.results25, go_sem, ← HR.out, fr, c0, c1]) rfl ⟨rfl, ?_⟩
  exact ((((((Below.refl _ _).alloc (by go_size) _).alloc (by go_size) _).alloc (by go_size) _).trans (HB.out.mono (by go_size))).setCell (by go_size) _).setCell (by go_size) _

set_option maxHeartbeats 400000 in
theorem rsub_raw (p q : Rat) (w : World) (h1 : -4000000000000000000 ≤ p.num * q.den) (h2 : p.num * q.den ≤ 4000000000000000000) (h3 : -4000000000000000000 ≤ q.num * p.den) (h4 : q.num * p.den ≤ 4000000000000000000) (h5 : (p.den : Int) * q.den ≤ 4000000000000000000) :
    Calls Try.prog 70 #[fr p, fr q] w fun e w' => e = .returned (fr (p - q)) ∧ Below w.heap.size w w' := by
  have hd : 0 < (p.den : Int) * q.den := Int.mul_pos (den_pos p) (den_pos q)
  have HL := Lib.hid (sub_divInt p q)
  generalize hR : fr (p - q) = R
  have HR := Lib.hid hR
  clear hR
  unfold fr
  go_enter Try.func70, Try.ntmps70
  go_wp2_with fail
  refine (rof_any _ _ _ (by omega) (by omega) (by omega) (by omega)).mono ?_
  rintro e w' ⟨rfl, hb⟩
  rw [HL.out]
  have hB : Blk w' (w.heap.size + 1 + 1) 31 #[.int .i64 0, .int .i64 0] := (Blk.new _ _ _ (by simp)).below hb (by simp)
  obtain ⟨c0, c1, f0, f1⟩ := hB.at2
  have HB := Lib.hid hb
  clear hb hB
  unfold fr
  go_wp2
  refine bodyPost_ret (v := R) (by simp [results, Try.results70, go_sem, ← HR.out, fr, c0, c1]) rfl ⟨rfl, ?_⟩
  exact ((((((Below.refl _ _).alloc (by go_size) _).alloc (by go_size) _).alloc (by go_size) _).trans (HB.out.mono (by go_size))).setCell (by go_size) _).setCell (by go_size) _

set_option maxHeartbeats 400000 in
theorem rmul_raw (p q : Rat) (w : World) (h1 : -4000000000000000000 ≤ p.num * q.num) (h2 : p.num * q.num ≤ 4000000000000000000) (h5 : (p.den : Int) * q.den ≤ 4000000000000000000) :
    Calls Try.prog 48 #[fr p, fr q] w fun e w' => e = .returned (fr (p * q)) ∧ Below w.heap.size w w' := by
  have hd : 0 < (p.den : Int) * q.den := Int.mul_pos (den_pos p) (den_pos q)
  have HL := Lib.hid (mul_divInt p q)
  generalize hR : fr (p * q) = R
  have HR := Lib.hid hR
  clear hR
  unfold fr
  go_enter Try.func48, Try.ntmps48
  go_wp2_with fail
  refine (rof_any _ _ _ (by omega) (by omega) (by omega) (by omega)).mono ?_
  rintro e w' ⟨rfl, hb⟩
  rw [HL.out]
  have hB : Blk w' (w.heap.size + 1 + 1) 31 #[.int .i64 0, .int .i64 0] := (Blk.new _ _ _ (by simp)).below hb (by simp)
  obtain ⟨c0, c1, f0, f1⟩ := hB.at2
  have HB := Lib.hid hb
  clear hb hB
  unfold fr
  go_wp2
  refine bodyPost_ret (v := R) (by simp [results, Try.results48, go_sem, ← HR.out, fr, c0, c1]) rfl ⟨rfl, ?_⟩
  exact ((((((Below.refl _ _).alloc (by go_size) _).alloc (by go_size) _).alloc (by go_size) _).trans (HB.out.mono (by go_size))).setCell (by go_size) _).setCell (by go_size) _
end Go.Proofs.Ytbidboagaoifaaa
