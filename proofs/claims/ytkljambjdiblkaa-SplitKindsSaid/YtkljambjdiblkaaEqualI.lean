/- Contract: slices.Equal of ints. -/
import Derived.Test.YtkljambjdiblkaaEqB
import Derived.Test.YtkljambjdiblkaaLib
namespace Go.Proofs.Ytkljambjdiblkaa
open Go.RowKit

set_option maxHeartbeats 800000 in
theorem equal_any (A A' : Option Addr) (n n' cap cap' : Nat) (ps qs : List Int) (w : World) (hl : ps.length = n) (hl' : qs.length = n') (hm : n ≤ 9223372036854775807) (h : Ints w A ps) (h' : Ints w A' qs) :
    Calls Try.prog 24 #[.slice A n cap, .slice A' n' cap'] w fun e w' => e = .returned (.bool (eqB ps qs)) ∧ ∃ m, w' = w.drewN m := by
  by_cases hnn : n = n'
  · subst hnn
    by_cases h0 : n = 0
    · subst h0
      obtain rfl := List.eq_nil_of_length_eq_zero hl
      obtain rfl := List.eq_nil_of_length_eq_zero hl'
      go_enter Try.func24, Try.ntmps24
      go_wp2
      refine wp_loop_rounds 1 ?_
      rw [rounds_succ]
      go_wp2
      go_ret
      exact ⟨rfl, 0, rfl⟩
    · obtain ⟨ad, rfl, _, hc⟩ := h.some_ (by omega)
      obtain ⟨ad', rfl, _, hc'⟩ := h'.some_ (by omega)
      have H := Lib.hid (And.intro hl (And.intro hl' (And.intro hc hc')))
      clear hl hl' hc hc' h h'
      go_enter Try.func24, Try.ntmps24
      go_wp2
      go_loopw [13] (fun iv wr => ∃ k : Nat, k ≤ n ∧ iv = .int .i64 k ∧ ps.take k = qs.take k ∧ ∃ m, wr = w.drewN m) (fun iv _ => n - (intOf iv).toNat)
      case atStart => exact ⟨0, Nat.zero_le _, rfl, rfl, 0, rfl⟩
      case round =>
        obtain ⟨k, hk, rfl, ht, m, rfl⟩ := hrel
        have HT := Lib.hid ht
        clear ht
        obtain ⟨hl, hl', hc, hc'⟩ := H.out
        by_cases hlt : k < n
        · obtain ⟨p, hp⟩ : ∃ p, ps[k]? = some p := ⟨_, List.getElem?_eq_getElem (by omega)⟩
          obtain ⟨q, hq⟩ : ∃ q, qs[k]? = some q := ⟨_, List.getElem?_eq_getElem (by omega)⟩
          have c1 := hc k p hp
          have c2 := hc' k q hq
          have HP := Lib.hid (And.intro hp hq)
          clear hp hq hc hc' hl hl'
          by_cases he : p = q
          · subst he
            go_wp2_with fail
            go_quiet (fail)
            go_wp2_with fail
            go_roundw
            case rel => exact ⟨k + 1, by omega, by go_num, take_eq_succ HP.out.1 HP.out.2 HT.out, by first | exact ⟨_, rfl⟩ | exact ⟨_, World.drewN_drewN _ _ _⟩⟩
            case measure => simp [intOf]; omega
          · have hne : (p != q) = true := by simpa using he
            have HNE := Lib.hid he
            clear he
            go_wp2_with fail
            go_quiet (fail)
            go_wp2_with fail
            go_ret
            exact ⟨ret_bool (eqB_at HP.out.1 HP.out.2 HNE.out).symm, by first | exact ⟨_, rfl⟩ | exact ⟨_, World.drewN_drewN _ _ _⟩⟩
        · obtain rfl : k = n := by omega
          have HF : Hid (eqB ps qs = true) := Lib.hid (eqB_all hl hl' HT.out)
          clear hl hl' hc hc'
          go_wp2
          go_ret
          exact ⟨ret_bool HF.out.symm, m, rfl⟩
  · have HF : Hid (eqB ps qs = false) := Lib.hid (eqB_len (by omega))
    have hne : ((n : Int) != (n' : Int)) = true := by rw [bne_iff_ne]; omega
    clear hl hl' h h'
    go_enter Try.func24, Try.ntmps24
    go_wp2
    go_ret
    exact ⟨ret_bool HF.out.symm, 0, rfl⟩
end Go.Proofs.Ytkljambjdiblkaa
