/- Contracts: the copies of the beginning of an argument that the statements of package corrodylaw01 make. -/
import Derived.Test.YtkljambjdiblkaaClone
namespace Go.Proofs.Ytkljambjdiblkaa
open Go.RowKit

set_option maxHeartbeats 400000 in
theorem list_any (A : Option Addr) (n cap : Nat) (xs : List Int) (w : World) (hl : xs.length = n) (hc : n ≤ cap) (hm : cap ≤ 9223372036854775807) (h : Ints w A xs) :
    Calls Try.prog 20 #[.slice A n cap] w fun e w' => ∃ A' c, e = .returned (.slice A' (min n 9) c) ∧ w'.ownsRow w.heap.size 3 1 (.slice A' (min n 9) c) (min n 9) ((xs.take 9).map (Value.int .i64)) ∧ Below w.heap.size w w' := by
  have h9 : min n 9 ≤ 9 := by omega
  have hk := h.take 9
  have hl' : (xs.take 9).length = min n 9 := by rw [List.length_take, hl]; omega
  have HK := Lib.hid hk
  have HL := Lib.hid hl'
  clear hk h hl hl'
  by_cases h0 : n ≤ 9
  · have e0 : min n 9 = n := by omega
    rw [e0]
    have HE := Lib.hid e0
    clear e0
    go_enter Try.func20, Try.ntmps20
    go_wp2_with fail
    refine (clone_any A n cap (xs.take 9) _ (by rw [HL.out, HE.out]) (by omega) HK.out).mono ?_
    rintro e w' ⟨A', c, rfl, hown, hb⟩
    have HO := Lib.hid hown
    have HB := Lib.hid hb
    clear hown hb
    go_wp2
    go_ret
    exact ⟨A', c, rfl, HO.out, HB.out⟩
  · have e0 : min n 9 = 9 := by omega
    rw [e0]
    have HE := Lib.hid e0
    clear e0
    go_enter Try.func20, Try.ntmps20
    go_wp2_with fail
    refine (clone_any A 9 cap (xs.take 9) _ (by rw [HL.out, HE.out]) (by omega) HK.out).mono ?_
    rintro e w' ⟨A', c, rfl, hown, hb⟩
    have HO := Lib.hid hown
    have HB := Lib.hid hb
    clear hown hb
    go_wp2
    go_ret
    exact ⟨A', c, rfl, HO.out, HB.out⟩
end Go.Proofs.Ytkljambjdiblkaa
