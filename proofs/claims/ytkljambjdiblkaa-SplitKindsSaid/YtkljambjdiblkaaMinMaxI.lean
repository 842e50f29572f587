/- Contracts of slices.Min and slices.Max over ints. -/
import Derived.Test.YtkljambjdiblkaaLib
namespace Go.Proofs.Ytkljambjdiblkaa
open Go.RowKit

set_option maxHeartbeats 400000 in
theorem min_any (A : Option Addr) (n cap : Nat) (xs : List Int) (w : World) (hl : xs.length = n) (hp : 0 < n) (hm : n ≤ 9223372036854775807) (h : Ints w A xs) :
    Calls Try.prog 86 #[.slice A n cap] w fun e w' => e = .returned (.int .i64 (lmin xs)) ∧ w = w' := by
  obtain ⟨ad, rfl, hb, hc⟩ := h.some_ (by omega)
  obtain ⟨x0, hx0⟩ : ∃ x, xs[0]? = some x := ⟨_, List.getElem?_eq_getElem (by omega)⟩
  have c0 : w.cell? ad = some (.int .i64 x0) := hc 0 x0 hx0
  have e0 : lmin (xs.take 1) = x0 := by rw [take_succ' hx0]; simp [lmin]
  have HE := Lib.hid e0
  have HC := Lib.hid hc
  have HL := Lib.hid hl
  have HX0 := Lib.hid hx0
  clear hc hl h hb e0 hx0
  go_enter Try.func86, Try.ntmps86
  go_wp2
  go_loop [3, 4] (fun m i => ∃ k : Nat, 1 ≤ k ∧ k ≤ n ∧ i = .int .i64 k ∧ m = .int .i64 (lmin (xs.take k))) (fun _ i => n - (intOf i).toNat)
  case atStart => exact ⟨1, by omega, by omega, rfl, by rw [HE.out]⟩
  case round =>
    obtain ⟨k, hk1, hk, rfl, rfl⟩ := hrel
    by_cases hlt : k < n
    · obtain ⟨x, hx⟩ : ∃ x, xs[k]? = some x := ⟨_, List.getElem?_eq_getElem (by rw [HL.out]; exact hlt)⟩
      have hcell := HC.out k x hx
      have HT := Lib.hid (lmin_take hx (by omega))
      have HX := Lib.hid hx
      clear hx
      go_wp2
      go_round
      case rel => exact ⟨k + 1, by omega, by omega, by go_num, val_int (by rw [HT.out]; split <;> omega)⟩
      case measure => simp [intOf]; omega
    · have HT : Hid (lmin (xs.take k) = lmin xs) := Lib.hid (by rw [List.take_of_length_le (by rw [HL.out]; omega)])
      go_wp2
      go_ret
      exact ⟨ret_int HT.out, rfl⟩

set_option maxHeartbeats 400000 in
theorem max_any (A : Option Addr) (n cap : Nat) (xs : List Int) (w : World) (hl : xs.length = n) (hp : 0 < n) (hm : n ≤ 9223372036854775807) (h : Ints w A xs) :
    Calls Try.prog 87 #[.slice A n cap] w fun e w' => e = .returned (.int .i64 (lmax xs)) ∧ w = w' := by
  obtain ⟨ad, rfl, hb, hc⟩ := h.some_ (by omega)
  obtain ⟨x0, hx0⟩ : ∃ x, xs[0]? = some x := ⟨_, List.getElem?_eq_getElem (by omega)⟩
  have c0 : w.cell? ad = some (.int .i64 x0) := hc 0 x0 hx0
  have e0 : lmax (xs.take 1) = x0 := by rw [take_succ' hx0]; simp [lmax]
  have HE := Lib.hid e0
  have HC := Lib.hid hc
  have HL := Lib.hid hl
  have HX0 := Lib.hid hx0
  clear hc hl h hb e0 hx0
  go_enter Try.func87, Try.ntmps87
  go_wp2
  go_loop [3, 4] (fun m i => ∃ k : Nat, 1 ≤ k ∧ k ≤ n ∧ i = .int .i64 k ∧ m = .int .i64 (lmax (xs.take k))) (fun _ i => n - (intOf i).toNat)
  case atStart => exact ⟨1, by omega, by omega, rfl, by rw [HE.out]⟩
  case round =>
    obtain ⟨k, hk1, hk, rfl, rfl⟩ := hrel
    by_cases hlt : k < n
    · obtain ⟨x, hx⟩ : ∃ x, xs[k]? = some x := ⟨_, List.getElem?_eq_getElem (by rw [HL.out]; exact hlt)⟩
      have hcell := HC.out k x hx
      have HT := Lib.hid (lmax_take hx (by omega))
      have HX := Lib.hid hx
      clear hx
      go_wp2
      go_round
      case rel => exact ⟨k + 1, by omega, by omega, by go_num, val_int (by rw [HT.out]; split <;> omega)⟩
      case measure => simp [intOf]; omega
    · have HT : Hid (lmax (xs.take k) = lmax xs) := Lib.hid (by rw [List.take_of_length_le (by rw [HL.out]; omega)])
      go_wp2
      go_ret
      exact ⟨ret_int HT.out, rfl⟩
end Go.Proofs.Ytkljambjdiblkaa
