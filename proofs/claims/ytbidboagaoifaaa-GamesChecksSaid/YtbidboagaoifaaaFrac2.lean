/- Contracts: Less, Lowest, whole, and the gcd and frac of package games. -/
import Derived.Test.YtbidboagaoifaaaFrac
namespace Go.Proofs.Ytbidboagaoifaaa
open Go.RowKit

set_option maxHeartbeats 400000 in
theorem rless_any (p q : Rat) (w : World) (h1 : -4000000000000000000 ≤ p.num * q.den) (h2 : p.num * q.den ≤ 4000000000000000000) (h3 : -4000000000000000000 ≤ q.num * p.den) (h4 : q.num * p.den ≤ 4000000000000000000) :
    Calls Try.prog 42 #[fr p, fr q] w fun e w' => e = .returned (.bool (decide (p < q))) ∧ Below w.heap.size w w' := by
  rw [← less_iff]
  unfold fr
  go_enter Try.func42, Try.ntmps42
  go_wp2
  go_ret
  exact ⟨rfl, ((Below.refl _ _).alloc (by go_size) _).alloc (by go_size) _⟩

/-- What Lowest answers of any pair. -/
def lowB (a b : Int) : Bool := decide (1 ≤ b) && decide (-4611686018427387904 < a) && ((Int.gcd a b : Int) == 1)

set_option maxHeartbeats 400000 in
theorem rlowest_any (a b : Int) (w : World) (ha : -9223372036854775808 ≤ a) (ha' : a ≤ 9223372036854775807) (hb' : b ≤ 9223372036854775807) :
    Calls Try.prog 22 #[.agg #[.int .i64 a, .int .i64 b]] w fun e w' => e = .returned (.bool (lowB a b)) ∧ Below w.heap.size w w' := by
  by_cases h1 : 1 ≤ b
  · by_cases h2 : -4611686018427387904 < a
    · have e : lowB a b = ((Int.gcd a b : Int) == 1) := by simp [lowB, h1, h2]
      rw [e]
      go_enter Try.func22, Try.ntmps22
      by_cases h0 : a < 0
      · go_wp2_with fail
        refine (rgcd_any _ b _ (by omega) (by omega) (by omega) (by omega)).mono ?_
        rintro e w' ⟨rfl, n, rfl⟩
        rw [show ((-a).gcd b : Int) = a.gcd b from by rw [Int.neg_gcd]]
        go_wp2
        go_ret
        exact ⟨rfl, below_drewN ((Below.refl _ _).alloc (by go_size) _) _⟩
      · go_wp2_with fail
        refine (rgcd_any _ b _ (by omega) (by omega) (by omega) (by omega)).mono ?_
        rintro e w' ⟨rfl, n, rfl⟩
        go_wp2
        go_ret
        exact ⟨rfl, below_drewN ((Below.refl _ _).alloc (by go_size) _) _⟩
    · have e : lowB a b = false := by simp [lowB, h2]
      rw [e]
      go_enter Try.func22, Try.ntmps22
      go_wp2
      go_ret
      exact ⟨rfl, (Below.refl _ _).alloc (by go_size) _⟩
  · have e : lowB a b = false := by simp [lowB, h1]
    rw [e]
    go_enter Try.func22, Try.ntmps22
    go_wp2
    go_ret
    exact ⟨rfl, (Below.refl _ _).alloc (by go_size) _⟩

theorem fr_int (n : Int) : fr (n : Rat) = .agg #[.int .i64 n, .int .i64 1] := rfl

theorem rwhole_any (n : Int) (w : World) : Calls Try.prog 63 #[.int .i64 n] w fun e w' => e = .returned (fr (n : Rat)) ∧ Below w.heap.size w w' := by
  rw [fr_int]
  go_enter Try.func63, Try.ntmps63
  go_wp2
  exact bodyPost_ret (v := .agg #[.int .i64 n, .int .i64 1]) (by simp [results, Try.results63, go_sem]) rfl ⟨rfl, (Below.refl _ _).alloc (Nat.le_refl _) _⟩
theorem lwhole_any (n : Int) (w : World) : Calls Try.prog 24 #[.int .i64 n] w fun e w' => e = .returned (fr (n : Rat)) ∧ Below w.heap.size w w' := by
  rw [fr_int]
  go_enter Try.func24, Try.ntmps24
  go_wp2
  exact bodyPost_ret (v := .agg #[.int .i64 n, .int .i64 1]) (by simp [results, Try.results24, go_sem]) rfl ⟨rfl, (Below.refl _ _).alloc (Nat.le_refl _) _⟩

set_option maxHeartbeats 400000 in
theorem ggcd_any (a b : Int) (w : World) (ha : -9223372036854775807 ≤ a) (ha' : a ≤ 9223372036854775807) (hb : -9223372036854775807 ≤ b) (hb' : b ≤ 9223372036854775807) :
    Calls Try.prog 86 #[.int .i64 a, .int .i64 b] w fun e w' => e = .returned (.int .i64 (Int.gcd a b)) ∧ ∃ n, w' = w.drewN n := by
  go_enter Try.func86, Try.ntmps86
  go_wp2
  go_loopw [0, 1] (fun x y wr => ∃ a' b' : Int, x = .int .i64 a' ∧ y = .int .i64 b' ∧ -9223372036854775807 ≤ a' ∧ a' ≤ 9223372036854775807 ∧ -9223372036854775807 ≤ b' ∧ b' ≤ 9223372036854775807 ∧ Int.gcd a' b' = Int.gcd a b ∧ ∃ n, wr = w.drewN n) (fun _ y _ => (intOf y).natAbs)
  case atStart => exact ⟨a, b, rfl, rfl, ha, ha', hb, hb', rfl, 0, rfl⟩
  case round =>
    obtain ⟨a', b', rfl, rfl, h1, h2, h3, h4, hg, n, rfl⟩ := hrel
    have HG := Lib.hid hg
    clear hg
    by_cases h0 : b' = 0
    · subst h0
      have HA : Hid ((Int.gcd a b : Int) = a'.natAbs) := Lib.hid (by rw [← HG.out]; simp)
      by_cases hs : a' < 0
      · go_wp2
        go_ret
        exact ⟨ret_int (by rw [HA.out]; omega), n, rfl⟩
      · go_wp2
        go_ret
        exact ⟨ret_int (by rw [HA.out]; omega), n, rfl⟩
    · have hr : (a'.tmod b').natAbs < b'.natAbs := by rw [Int.natAbs_tmod]; exact Nat.mod_lt _ (by omega)
      have HR := Lib.hid hr
      clear hr
      go_wp2
      go_quiet (fail)
      go_wp2
      go_roundw
      case rel => exact ⟨b', a'.tmod b', rfl, rfl, h3, h4, by have := HR.out; omega, by have := HR.out; omega, by rw [← HG.out, ← gcd_step a' b'], n + _, World.drewN_drewN _ _ _⟩
      case measure => have h := HR.out; rw [Int.natAbs_tmod] at h; simpa [intOf] using h

set_option maxHeartbeats 400000 in
theorem gfrac_any (a b : Int) (w : World) (ha : -9223372036854775807 ≤ a) (ha' : a ≤ 9223372036854775807) (hb : 0 < b) (hb' : b ≤ 9223372036854775807) :
    Calls Try.prog 61 #[.int .i64 a, .int .i64 b] w fun e w' => e = .returned (fr (Rat.divInt a b)) ∧ Below w.heap.size w w' := by
  have hn := div_num (a := a) hb
  have hd := div_den (a := a) hb
  have hg := gcd_pos (a := a) hb
  have hgl := gcd_le (a := a) hb
  generalize hG : (Int.gcd a b : Int) = g at *
  generalize hQ : Rat.divInt a b = q at *
  rw [Int.tdiv_eq_ediv_of_nonneg (by omega)] at hd
  have HN := Lib.hid hn
  have HD := Lib.hid hd
  have HG := Lib.hid hG
  clear hn hd hG hQ
  go_enter Try.func61, Try.ntmps61
  go_wp2_with fail
  refine (ggcd_any a b _ (by omega) (by omega) (by omega) (by omega)).mono ?_
  rintro e w' ⟨rfl, n, rfl⟩
  rw [show (a.gcd b : Int) = g from HG.out]
  by_cases h0 : a < 0
  · go_wp2
    go_region
    go_wp2
    exact bodyPost_ret (v := fr q) (by simp [results, Try.results61, go_sem, fr, HN.out, HD.out]) rfl ⟨rfl, ((below_drewN ((Below.refl _ _).alloc (Nat.le_refl _) _) _).setCell (Nat.le_refl _) _).setCell (Nat.le_refl _) _⟩
  · have HN' : Hid (a / g = q.num) := Lib.hid (by rw [← HN.out, Int.tdiv_eq_ediv_of_nonneg (by omega)])
    go_wp2
    go_region
    go_wp2
    exact bodyPost_ret (v := fr q) (by simp [results, Try.results61, go_sem, fr, HN'.out, HD.out]) rfl ⟨rfl, ((below_drewN ((Below.refl _ _).alloc (Nat.le_refl _) _) _).setCell (Nat.le_refl _) _).setCell (Nat.le_refl _) _⟩
end Go.Proofs.Ytbidboagaoifaaa
