/- GamesConcave returns true for every slice of costs: the walk. -/
import Derived.Test.YtbidboagaoifaaaAwake
import Derived.Test.YtbidboagaoifaaaConcave
import Derived.Test.YtbidboagaoifaaaPlayers
namespace Go.Proofs.Ytbidboagaoifaaa
open Go.RowKit

theorem take18 {xs : List Int} (h : xs.length ≤ 18) : xs.take 18 = xs := List.take_of_length_le h
theorem valC_take (xs : List Int) : valC (xs.take 18) = valC xs := by
  by_cases h : xs.length ≤ 18
  · rw [take18 h]
  · rw [valC_len (xs := xs) (by omega), valC_len (by rw [List.length_take]; omega)]

set_option maxHeartbeats 1600000 in
theorem law_concave (A : Option Addr) (n cap : Nat) (xs : List Int) (w : World) (hl : xs.length = n) (hc : n ≤ cap) (hm : cap ≤ 9223372036854775807) (h : Ints w A xs) :
    Calls Try.prog 4 #[.slice A n cap] w fun e w' => e = .returned (.bool true) ∧ Below w.heap.size w w' := by
  have H := Lib.hid (And.intro hl h)
  clear hl h
  go_enter Try.func4, Try.ntmps4
  go_wp2_with fail
  refine (list_any A n cap xs _ H.out.1 hc hm H.out.2).mono ?_
  rintro e w1 ⟨A1, c1, rfl, hown, hb⟩
  have hI : Ints w1 A1 (xs.take 18) := At.of_own hown
  have hlt : (xs.take 18).length = min n 18 := by rw [List.length_take, H.out.1]; omega
  have H1 := Lib.hid (And.intro hI (And.intro hb hlt))
  clear hown hb hI hlt
  go_wp2_with fail
  cases hv : valC xs
  · have hv' : valC (xs.take 18) = false := by rw [valC_take]; exact hv
    have HV := Lib.hid (And.intro hv hv')
    clear hv hv'
    refine (gconcave_bad A1 (min n 18) c1 (xs.take 18) _ H1.out.2.2 (by omega) H1.out.1 HV.out.2).mono ?_
    rintro e w2 ⟨rfl, hb2⟩
    have hbl : Below w.heap.size w w2 := H1.out.2.1.trans (hb2.mono H1.out.2.1.size)
    have HB := Lib.hid hbl
    clear hb2 hbl
    go_wp2_with fail
    refine (rplayers_any A n cap xs _ H.out.1 (by omega) (H.out.2.below HB.out)).mono ?_
    rintro e w' ⟨rfl, rfl⟩
    rw [plr_bad HV.out.1]
    go_wp2_with fail
    refine (awake_any _).mono ?_
    rintro e w3 ⟨rfl, hb3⟩
    have HB3 := Lib.hid (HB.out.trans (hb3.mono HB.out.size))
    clear hb3
    go_wp2
    go_ret
    exact ⟨rfl, HB3.out⟩
  · have hv' : valC (xs.take 18) = true := by rw [valC_take]; exact hv
    have hlen := (valC_iff.1 hv).1
    have hx : xs.take 18 = xs := take18 (by omega)
    have hn : min n 18 = n := by have := H.out.1; omega
    have hp := valC_pow hv
    have HV := Lib.hid (And.intro hv (And.intro hx (And.intro hn (And.intro hlen hp))))
    obtain ⟨ad1, rfl, _, hc1⟩ := H1.out.1.some_ (by rw [hx]; omega)
    obtain ⟨ad, hA, _, hc0⟩ := H.out.2.some_ (by omega)
    rw [hx] at hc1
    have HC := Lib.hid (And.intro hc1 (And.intro hA hc0))
    clear hv hv' hx hlen hc1 hc0 hA hp
    rw [hn]
    clear hn
    refine (gconcave_ok ad1 n c1 xs _ H.out.1 HV.out.1 HC.out.1).mono ?_
    rintro e w2 ⟨rfl, hb2⟩
    have hbl : Below w.heap.size w w2 := H1.out.2.1.trans (hb2.mono H1.out.2.1.size)
    have HB := Lib.hid hbl
    clear hb2 hbl
    unfold conc3
    go_wp2_with fail
    refine (rplayers_any A n cap xs _ H.out.1 (by omega) (H.out.2.below HB.out)).mono ?_
    rintro e w' ⟨rfl, rfl⟩
    have hne : (((plr xs : Nat) : Int) == 0) = false := by have := HV.out.2.2.2.2.2.1; simp; omega
    go_wp2_with fail
    clear hne
    rw [HC.out.2.1]
    refine (rconcave_ok ad n cap xs _ H.out.1 HV.out.1 (fun i x hi => (HB.out.cell (lt_of_cell (HC.out.2.2 i x hi))).trans (HC.out.2.2 i x hi))).mono ?_
    rintro e w3 ⟨rfl, hb3⟩
    have HB3 := Lib.hid (HB.out.trans (hb3.mono HB.out.size))
    clear hb3
    unfold conc3
    go_wp2_with fail
    refine (awake_any _).mono ?_
    rintro e w4 ⟨rfl, hb4⟩
    have HB4 := Lib.hid (HB3.out.trans (hb4.mono HB3.out.size))
    clear hb4
    go_wp2
    go_ret
    exact ⟨rfl, HB4.out⟩
end Go.Proofs.Ytbidboagaoifaaa
