/- Contracts: valid and players of package games. -/
import Derived.Test.YtbidboagaoifaaaMinMax
import Derived.Test.YtbidboagaoifaaaCosts
namespace Go.Proofs.Ytbidboagaoifaaa
open Go.RowKit

theorem has_len (n : Nat) : has [2, 4, 8, 16] (n : Int) = (decide (n = 2) || decide (n = 4) || decide (n = 8) || decide (n = 16)) := by
  unfold has
  rw [Bool.eq_iff_iff]
  simp
  omega

set_option maxHeartbeats 800000 in
theorem valid_any (A : Option Addr) (n cap : Nat) (xs : List Int) (w : World) (hl : xs.length = n) (hm : n ≤ 9223372036854775807) (h : Ints w A xs) :
    Calls Try.prog 56 #[.slice A n cap] w fun e w' => e = .returned (.bool (valC xs)) ∧ Below w.heap.size w w' := by
  have hI : Ints (w.alloc (.cells #[.int .i64 2, .int .i64 4, .int .i64 8, .int .i64 16] 3)) (some ⟨w.heap.size, 0, none⟩) [2, 4, 8, 16] := Blk.ints (xs := [2, 4, 8, 16]) (Blk.new w 3 _ rfl)
  have hI2 : Ints (w.alloc (.cells #[.int .i64 2, .int .i64 4, .int .i64 8, .int .i64 16] 3)) A xs := h.below ((Below.refl _ _).alloc (Nat.le_refl _) _)
  have HI := Lib.hid hI
  have HI2 := Lib.hid hI2
  have HL := Lib.hid hl
  clear hI hI2
  cases hh : has [2, 4, 8, 16] (n : Int)
  · have HH := Lib.hid hh
    have hv : valC xs = false := valC_len (by rw [has_len] at hh; simp at hh; omega)
    rw [hv]
    clear hh hv hl h
    go_enter Try.func56, Try.ntmps56
    go_wp2_with fail
    refine (contains_any _ 4 4 [2, 4, 8, 16] n _ rfl (by omega) HI.out).mono ?_
    rintro e w' ⟨rfl, rfl⟩
    rw [HH.out]
    go_wp2
    go_ret
    exact ⟨rfl, (Below.refl _ _).alloc (Nat.le_refl _) _⟩
  · have hn : n = 2 ∨ n = 4 ∨ n = 8 ∨ n = 16 := by rw [has_len] at hh; simp at hh; omega
    obtain ⟨x0, hx0⟩ : ∃ x, xs[0]? = some x := ⟨_, List.getElem?_eq_getElem (by omega)⟩
    obtain ⟨ad, rfl, hb, hc⟩ := h.some_ (by omega)
    have c0 : w.cell? ad = some (.int .i64 x0) := hc 0 x0 hx0
    have c0' : (w.alloc (.cells #[.int .i64 2, .int .i64 4, .int .i64 8, .int .i64 16] 3)).cell? ad = some (.int .i64 x0) := (World.cell?_alloc_lt _ _ _ (lt_of_cell c0)).trans c0
    have hpos : 0 < n := by omega
    have HN := Lib.hid hn
    have HH := Lib.hid hh
    have HX0 := Lib.hid hx0
    have hne : xs ≠ [] := by rintro rfl; simp at hl; omega
    have HNE := Lib.hid hne
    clear hn hh hx0 h hb hc hl hne c0
    cases h0 : (x0 == 0)
    · have HV := Lib.hid (valC_head HX0.out h0)
      rw [HV.out]
      go_enter Try.func56, Try.ntmps56
      go_wp2_with fail
      refine (contains_any _ 4 4 [2, 4, 8, 16] n _ rfl (by omega) HI.out).mono ?_
      rintro e w' ⟨rfl, rfl⟩
      rw [HH.out]
      go_wp2
      go_ret
      exact ⟨rfl, (Below.refl _ _).alloc (Nat.le_refl _) _⟩
    · by_cases h1 : 0 ≤ lmin xs
      · by_cases h2 : lmax xs ≤ 1000
        · have hv : valC xs = true := valC_ok (by rw [HL.out]; exact HN.out) HX0.out h0 (by
            rw [List.all_eq_true]
            intro x hx
            have a1 := (lmin_ge HNE.out 0).1 h1 x hx
            have a2 := (lmax_le HNE.out 1000).1 h2 x hx
            simp [inR, a1, a2])
          rw [hv]
          clear hv
          go_enter Try.func56, Try.ntmps56
          go_wp2_with fail
          refine (contains_any _ 4 4 [2, 4, 8, 16] n _ rfl (by omega) HI.out).mono ?_
          rintro e w' ⟨rfl, rfl⟩
          rw [HH.out]
          go_wp2_with fail
          refine (minC_any _ n cap xs _ HL.out hpos hm HI2.out).mono ?_
          rintro e w' ⟨rfl, rfl⟩
          go_wp2_with fail
          refine (maxC_any _ n cap xs _ HL.out hpos hm HI2.out).mono ?_
          rintro e w' ⟨rfl, rfl⟩
          go_wp2
          go_ret
          exact ⟨rfl, (Below.refl _ _).alloc (Nat.le_refl _) _⟩
        · have hv : valC xs = false := by
            rw [← Bool.not_eq_true, valC_iff]
            rintro ⟨_, _, ha⟩
            exact h2 ((lmax_le HNE.out 1000).2 fun x hx => (ha x hx).2)
          rw [hv]
          clear hv
          go_enter Try.func56, Try.ntmps56
          go_wp2_with fail
          refine (contains_any _ 4 4 [2, 4, 8, 16] n _ rfl (by omega) HI.out).mono ?_
          rintro e w' ⟨rfl, rfl⟩
          rw [HH.out]
          go_wp2_with fail
          refine (minC_any _ n cap xs _ HL.out hpos hm HI2.out).mono ?_
          rintro e w' ⟨rfl, rfl⟩
          go_wp2_with fail
          refine (maxC_any _ n cap xs _ HL.out hpos hm HI2.out).mono ?_
          rintro e w' ⟨rfl, rfl⟩
          go_wp2
          go_ret
          exact ⟨ret_bool (decide_eq_false (by omega)), (Below.refl _ _).alloc (Nat.le_refl _) _⟩
      · have hv : valC xs = false := by
          rw [← Bool.not_eq_true, valC_iff]
          rintro ⟨_, _, ha⟩
          exact h1 ((lmin_ge HNE.out 0).2 fun x hx => (ha x hx).1)
        rw [hv]
        clear hv
        go_enter Try.func56, Try.ntmps56
        go_wp2_with fail
        refine (contains_any _ 4 4 [2, 4, 8, 16] n _ rfl (by omega) HI.out).mono ?_
        rintro e w' ⟨rfl, rfl⟩
        rw [HH.out]
        go_wp2_with fail
        refine (minC_any _ n cap xs _ HL.out hpos hm HI2.out).mono ?_
        rintro e w' ⟨rfl, rfl⟩
        go_wp2
        go_ret
        exact ⟨rfl, (Below.refl _ _).alloc (Nat.le_refl _) _⟩

/-- players of costs of 2, 4, 8 or 16 numbers. -/
theorem players_any (A : Option Addr) (n k cap : Nat) (w : World) (h : n = 2 ∧ k = 1 ∨ n = 4 ∧ k = 2 ∨ n = 8 ∧ k = 3 ∨ n = 16 ∧ k = 4) :
    Calls Try.prog 57 #[.slice A n cap] w fun e w' => e = .returned (.int .i64 k) ∧ w = w' := by
  rcases h with ⟨rfl, rfl⟩ | ⟨rfl, rfl⟩ | ⟨rfl, rfl⟩ | ⟨rfl, rfl⟩
  all_goals
    go_enter Try.func57, Try.ntmps57
    go_wp2
    refine wp_loop_rounds 6 ?_
    repeat (rw [rounds_succ]; go_wp2)
    go_ret
    exact ⟨rfl, rfl⟩
end Go.Proofs.Ytbidboagaoifaaa
