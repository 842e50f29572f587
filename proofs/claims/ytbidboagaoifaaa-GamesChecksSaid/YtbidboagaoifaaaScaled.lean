/- Contract: scaled of package games. -/
import Derived.Test.YtbidboagaoifaaaPairLaw
import Derived.StillTailTactics
namespace Go.Proofs.Ytbidboagaoifaaa
open Go.RowKit

set_option maxHeartbeats 1600000 in
theorem scaled_no (a b D M : Int) (w : World) (_ : 0 ≤ M ∧ M ≤ 100) (ha : -9223372036854775808 ≤ a ∧ a ≤ 9223372036854775807) (hb : -9223372036854775808 ≤ b ∧ b ≤ 9223372036854775807) (h : scB M a b = false) :
    Calls Try.prog 71 #[.agg #[.int .i64 a, .int .i64 b], .int .i64 D, .int .i64 M] w fun e w' => e = .returned (.tuple #[.int .i64 0, .bool false]) ∧ Below w.heap.size w w' := by
  have HS := Lib.hid h
  clear h
  by_cases h1 : b < 1
  · go_enter Try.func71, Try.ntmps71
    go_wp2_with fail
    go_ret2
    exact ⟨rfl, (Below.refl _ _).alloc (Nat.le_refl _) _⟩
  · by_cases h2 : M < b
    · go_enter Try.func71, Try.ntmps71
      go_wp2_with fail
      go_ret2
      exact ⟨rfl, (Below.refl _ _).alloc (Nat.le_refl _) _⟩
    · by_cases h3 : 100000 < a
      · go_enter Try.func71, Try.ntmps71
        go_wp2_with fail
        go_ret2
        exact ⟨rfl, (Below.refl _ _).alloc (Nat.le_refl _) _⟩
      · by_cases h4 : a < -100000
        · go_enter Try.func71, Try.ntmps71
          go_wp2_with fail
          go_ret2
          exact ⟨rfl, (Below.refl _ _).alloc (Nat.le_refl _) _⟩
        · have hg : ((Int.gcd a b : Int) != 1) = true := by
            rw [bne_iff_ne]
            intro hg
            have := HS.out
            rw [scB_iff.2 ⟨by omega, by omega, by omega, by omega, by omega⟩] at this
            cases this
          go_enter Try.func71, Try.ntmps71
          go_wp2_with fail
          refine (ggcd_any a b _ (by omega) (by omega) (by omega) (by omega)).mono ?_
          rintro e w' ⟨rfl, n, rfl⟩
          go_wp2_with fail
          go_ret2
          exact ⟨rfl, below_drewN ((Below.refl _ _).alloc (Nat.le_refl _) _) _⟩

set_option maxHeartbeats 1600000 in
theorem scaled_yes (a b D M : Int) (w : World) (hM : 0 ≤ M ∧ M ≤ 24) (hD : 0 ≤ D ∧ D ≤ 5354228880) (h : scB M a b = true) :
    Calls Try.prog 71 #[.agg #[.int .i64 a, .int .i64 b], .int .i64 D, .int .i64 M] w fun e w' => e = .returned (.tuple #[.int .i64 (scN D (a, b)), .bool true]) ∧ Below w.heap.size w w' := by
  obtain ⟨h1, h2, h3, h4, hg⟩ := scB_iff.1 h
  have hg' : ((Int.gcd a b : Int) != 1) = false := by rw [hg]; rfl
  have hbd := scN_bd (D := D) (a := a) (b := b) (scB_iff.2 ⟨h1, by omega, h3, h4, hg⟩) hD.1
  have hk : Int.tdiv D b = D / b := Int.tdiv_eq_ediv_of_nonneg hD.1
  obtain ⟨k, hk2⟩ : ∃ k, k = D / b := ⟨_, rfl⟩
  have hsc : scN D (a, b) = a * k := by rw [hk2]; rfl
  rw [hsc] at hbd ⊢
  rw [← hk2] at hk hbd
  have e1 : IntKind.i64.wrap (a * k) = a * k := IntWalk.i64_in _ (by omega)
  have e2 : IntKind.i64.wrap k = k := IntWalk.i64_in _ (by omega)
  have HK2 := Lib.hid (And.intro hk2 hsc)
  clear hk2 hsc h hg
  go_enter Try.func71, Try.ntmps71
  go_wp2_with fail
  refine (ggcd_any a b _ (by omega) (by omega) (by omega) (by omega)).mono ?_
  rintro e w' ⟨rfl, n, rfl⟩
  go_wp2_with fail
  go_quiet (fail)
  go_wp2_with fail
  go_ret2
  exact ⟨rfl, below_drewN (below_drewN ((Below.refl _ _).alloc (Nat.le_refl _) _) _) _⟩
end Go.Proofs.Ytbidboagaoifaaa
