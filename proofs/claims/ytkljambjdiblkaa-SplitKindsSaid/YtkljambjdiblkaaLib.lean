/- Contracts of the slice functions of Go's library that this seat's code calls: Index, Contains, Min, Max over ints. -/
import Derived.Test.YtkljambjdiblkaaProg
import Derived.Test.YtkljambjdiblkaaMem
namespace Go.Proofs.Ytkljambjdiblkaa
open Go.RowKit

set_option maxHeartbeats 400000 in
theorem index_any (A : Option Addr) (n cap : Nat) (xs : List Int) (y : Int) (w : World) (hl : xs.length = n) (hm : n ≤ 9223372036854775807) (h : Ints w A xs) :
    Calls Try.prog 73 #[.slice A n cap, .int .i64 y] w fun e w' => e = .returned (.int .i64 (idx xs y)) ∧ w = w' := by
  by_cases h0 : n = 0
  · subst h0
    obtain rfl : xs = [] := List.eq_nil_of_length_eq_zero hl
    go_enter Try.func73, Try.ntmps73
    go_wp2
    refine wp_loop_rounds 1 ?_
    rw [rounds_succ]
    go_wp2
    go_ret
    exact ⟨rfl, rfl⟩
  · obtain ⟨ad, rfl, hb, hc⟩ := h.some_ (by omega)
    have HC := Lib.hid hc
    have HL := Lib.hid hl
    clear hc hl h hb
    go_enter Try.func73, Try.ntmps73
    go_wp2
    go_loop [8] (fun i => ∃ k : Nat, k ≤ n ∧ i = .int .i64 k ∧ y ∉ xs.take k) (fun i => n - (intOf i).toNat)
    case atStart => exact ⟨0, Nat.zero_le _, rfl, by simp⟩
    case round =>
      obtain ⟨k, hk, rfl, hn⟩ := hrel
      have HN := Lib.hid hn
      clear hn
      by_cases hlt : k < n
      · obtain ⟨x, hx⟩ : ∃ x, xs[k]? = some x := ⟨_, List.getElem?_eq_getElem (by rw [HL.out]; exact hlt)⟩
        have hcell := HC.out k x hx
        have HX := Lib.hid hx
        clear hx
        by_cases he : y = x
        · subst he
          go_wp2
          go_ret
          exact ⟨ret_int (idx_hit HX.out HN.out).symm, rfl⟩
        · have hne : (y == x) = false := by simpa using he
          clear he
          go_wp2
          go_round
          case rel => exact ⟨k + 1, by omega, by go_num, nmem_take_succ HX.out HN.out (by simpa using hne)⟩
          case measure => simp [intOf]; omega
      · go_wp2
        go_ret
        exact ⟨ret_int (idx_miss (by have := HN.out; rwa [List.take_of_length_le (by rw [HL.out]; omega)] at this)).symm, rfl⟩

theorem contains_any (A : Option Addr) (n cap : Nat) (xs : List Int) (y : Int) (w : World) (hl : xs.length = n) (hm : n ≤ 9223372036854775807) (h : Ints w A xs) :
    Calls Try.prog 99 #[.slice A n cap, .int .i64 y] w fun e w' => e = .returned (.bool (has xs y)) ∧ w = w' := by
  rw [← idx_nonneg]
  go_enter Try.func99, Try.ntmps99
  go_wp2_with fail
  refine (index_any A n cap xs y _ hl hm h).mono ?_
  rintro e w' ⟨rfl, rfl⟩
  go_wp2_with fail
  go_ret
  exact ⟨rfl, rfl⟩
end Go.Proofs.Ytkljambjdiblkaa
