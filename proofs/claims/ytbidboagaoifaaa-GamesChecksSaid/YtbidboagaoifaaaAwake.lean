/- Contract: awake of package corrodylaw07: one player pays the cost. -/
import Derived.Test.YtbidboagaoifaaaEqual
import Derived.Test.YtbidboagaoifaaaList
namespace Go.Proofs.Ytbidboagaoifaaa
open Go.RowKit

theorem shap_05 : shapL [0, 5] 1 = [5] := by decide +kernel

set_option maxHeartbeats 800000 in
theorem awake_any (w : World) : Calls Try.prog 21 #[] w fun e w' => e = .returned (.bool true) ∧ Below w.heap.size w w' := by
  have hI : Ints (w.alloc (.cells #[.int .i64 0, .int .i64 5] 3)) (some ⟨w.heap.size, 0, none⟩) [0, 5] := Blk.ints (xs := [0, 5]) (Blk.new w 3 _ rfl)
  have HI := Lib.hid hI
  clear hI
  go_enter Try.func21, Try.ntmps21
  go_wp2_with fail
  refine (shapley_ok _ 2 2 [0, 5] _ rfl HI.out (by decide)).mono ?_
  rintro e w1 ⟨A', c', rfl, hown, hb⟩
  have hp : plr [0, 5] = 1 := by decide
  rw [hp] at hown ⊢
  rw [shap_05] at hown
  have H1 := Lib.hid (And.intro hown hb)
  clear hown hb hp
  go_wp2_with fail
  obtain ⟨hown, hb⟩ := H1.out
  have hF : Fracs w1 A' [5] := At.of_own hown
  have hG : Fracs (w1.alloc (.cells #[.int .i64 5, .int .i64 1] 31)) (some ⟨w1.heap.size, 0, none⟩) [5] := by
    have h := (Blk.new w1 31 #[.int .i64 5, .int .i64 1] rfl).at_
    exact h
  refine (equalF_any A' (some ⟨w1.heap.size, 0, none⟩) 1 1 c' 1 [5] [5] _ rfl rfl (by omega) (hF.below ((Below.refl _ _).alloc (by go_size) _)) hG).mono ?_
  rintro e w2 ⟨rfl, m, rfl⟩
  have e1 : eqB ([5] : List Rat) [5] = true := by decide +kernel
  rw [e1]
  have H2 := Lib.hid (((Below.refl _ _).alloc (Nat.le_refl _) (.cells #[.int .i64 0, .int .i64 5] 3)).trans (hb.mono (by simp)))
  have hz : w.heap.size ≤ w1.heap.size := H2.out.size
  clear hown hb hF hG
  go_wp2
  go_ret
  exact ⟨rfl, below_drewN (H2.out.alloc hz _) _⟩
end Go.Proofs.Ytbidboagaoifaaa
