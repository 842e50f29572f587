/- Contract: slices.Clone of ints. -/
import Derived.Test.YtkljambjdiblkaaLib
namespace Go.Proofs.Ytkljambjdiblkaa
open Go.RowKit

theorem info_int : (Try.prog.info? 3).map (fun i => (i.zero, i.size, i.bytes)) = some (some (.int .i64 0), 1, 8) := by kernel_rfl

theorem ints_one (xs : List Int) : ∀ u ∈ xs.map (Value.int .i64), u.oneCell' = true := ints_oneCell _ _

/-- A value that the call owns, as a slice. -/
theorem own_form {w : World} {base e size n : Nat} {v : Value} {xs : List Value} (h : w.ownsRow base e size v n xs) : ∃ A c, v = .slice A n c ∧ n ≤ c ∧ c ≤ 9223372036854775807 ∧ (A = none → n = 0 ∧ c = 0) := by
  rcases h.2 with ⟨rfl, rfl⟩ | ⟨g, cap, cur, rfl, _, _, h1, h2, _⟩
  · exact ⟨none, 0, rfl, by omega, by omega, fun _ => ⟨rfl, rfl⟩⟩
  · exact ⟨_, cap, rfl, h1, by unfold maxLen at h2; omega, fun h => by cases h⟩

set_option maxHeartbeats 400000 in
theorem clone_any (A : Option Addr) (n cap : Nat) (xs : List Int) (w : World) (hl : xs.length = n) (hm : n ≤ 1000000000) (h : Ints w A xs) :
    Calls Try.prog 54 #[.slice A n cap] w fun e w' => ∃ A' c, e = .returned (.slice A' n c) ∧ w'.ownsRow w.heap.size 3 1 (.slice A' n c) n (xs.map (Value.int .i64)) ∧ Below w.heap.size w w' := by
  have qT : ∀ (w : World) (a : Option Addr) (n c n' c' : Nat), (binOp .eql 23 (.slice a n c) (.slice none n' c')).run Try.prog w = .ok (.bool a.isNone) w := fun w a n c n' c' => Lib.run_eql_slice_nil w _ _ a n c n' c' Try.underlying23
  obtain ⟨i0, hi, hz0, hz1, hz2⟩ := info_parts info_int
  rcases A with _ | ad
  · have h0 : xs = [] := by
      cases xs with
      | nil => rfl
      | cons x l => obtain ⟨ad, e, _⟩ := h 0 (.int .i64 x) rfl; cases e
    subst h0
    obtain rfl : n = 0 := by simpa using hl.symm
    clear h hl
    go_enter Try.func54, Try.ntmps54
    go_wp2
    go_ret
    exact ⟨none, 0, rfl, World.ownsRow_nil _ _ _ _, Below.refl _ _⟩
  · have HL := Lib.hid hl
    have HC := Lib.hid (At.some2 h)
    clear hl h
    go_enter Try.func54, Try.ntmps54
    go_wp2_with (at_builtin; refine wpList_append_own _ rfl _ _ 23 rfl w.heap.size 3 i0 (.int .i64 0) 1 8 Try.underlying23 hi hz0 hz1 hz2 rfl (by decide) _ 0 [] rfl (World.ownsRow_made w #[] 0 (Nat.le_refl _) (by decide) rfl) ad n cap (xs.map (Value.int .i64)) rfl ?c1 ?c2 ?c3 ?c4 ?c5 ?c6 ?_)
    case c1 => simpa using HL.out
    case c2 => exact At.new HC.out
    case c3 => exact ints_one xs
    case c4 => unfold maxLen; omega
    case c5 => omega
    case c6 => go_size
    intro v' w1 hown hgrow _
    obtain ⟨A', c, rfl, _⟩ := own_form hown
    go_wp2
    go_ret
    refine ⟨A', c, by simp, by simpa using hown, ?_⟩
    exact (((Below.refl _ _).alloc (Nat.le_refl _) _)).grown hgrow (by go_size) (by intro k hk; simp [Value.ownBlock] at hk; omega)

theorem Ints.take {w : World} {A : Option Addr} {xs : List Int} (h : Ints w A xs) (k : Nat) : Ints w A (xs.take k) := by
  intro i v hv
  refine h i v ?_
  rw [List.map_take] at hv
  rw [List.getElem?_take] at hv
  split at hv
  · exact hv
  · cases hv
end Go.Proofs.Ytkljambjdiblkaa
