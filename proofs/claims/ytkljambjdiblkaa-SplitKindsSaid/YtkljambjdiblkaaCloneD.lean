/- Contract: slices.Clone of a division. -/
import Derived.Test.YtkljambjdiblkaaClone
namespace Go.Proofs.Ytkljambjdiblkaa
open Go.RowKit

set_option maxHeartbeats 400000 in
theorem cloneD_any (A : Option Addr) (n cap : Nat) (xs : List Int) (w : World) (hl : xs.length = n) (hm : n ≤ 1000000000) (h : Ints w A xs) :
    Calls Try.prog 53 #[.slice A n cap] w fun e w' => ∃ A' c, e = .returned (.slice A' n c) ∧ w'.ownsRow w.heap.size 3 1 (.slice A' n c) n (xs.map (Value.int .i64)) ∧ Below w.heap.size w w' := by
  have qT : ∀ (w : World) (a : Option Addr) (n c n' c' : Nat), (binOp .eql 64 (.slice a n c) (.slice none n' c')).run Try.prog w = .ok (.bool a.isNone) w := fun w a n c n' c' => Lib.run_eql_slice_nil w _ _ a n c n' c' Try.underlying64
  obtain ⟨i0, hi, hz0, hz1, hz2⟩ := info_parts info_int
  rcases A with _ | ad
  · have h0 : xs = [] := by
      cases xs with
      | nil => rfl
      | cons x l => obtain ⟨ad, e, _⟩ := h 0 (.int .i64 x) rfl; cases e
    subst h0
    obtain rfl : n = 0 := by simpa using hl.symm
    clear h hl
    go_enter Try.func53, Try.ntmps53
    go_wp2
    go_ret
    exact ⟨none, 0, rfl, World.ownsRow_nil _ _ _ _, Below.refl _ _⟩
  · have HL := Lib.hid hl
    have HC := Lib.hid (At.some2 h)
    clear hl h
    go_enter Try.func53, Try.ntmps53
    go_wp2_with (at_builtin; refine wpList_append_own _ rfl _ _ 64 rfl w.heap.size 3 i0 (.int .i64 0) 1 8 Try.underlying64 hi hz0 hz1 hz2 rfl (by decide) _ 0 [] rfl (World.ownsRow_made w #[] 0 (Nat.le_refl _) (by decide) rfl) ad n cap (xs.map (Value.int .i64)) rfl ?c1 ?c2 ?c3 ?c4 ?c5 ?c6 ?_)
    case c1 => simpa using HL.out
    case c2 => exact At.new HC.out
    case c3 => exact ints_one xs
    case c4 => unfold maxLen; omega
    case c5 => omega
    case c6 => go_size
    intro v' w1 hown hgrow _
    obtain ⟨A', c, rfl, _⟩ := own_form hown
    go_wp2
    go_ret
    refine ⟨A', c, by simp, by simpa using hown, ?_⟩
    exact (((Below.refl _ _).alloc (Nat.le_refl _) _)).grown hgrow (by go_size) (by intro k hk; simp [Value.ownBlock] at hk; omega)
end Go.Proofs.Ytkljambjdiblkaa
