/- GamesFair returns true for every two slices: not valid costs, and both cases joined. -/
import Derived.Test.YtbidboagaoifaaaLawFair
namespace Go.Proofs.Ytbidboagaoifaaa
open Go.RowKit

set_option maxRecDepth 100000 in
set_option maxHeartbeats 1600000 in
theorem fair_bad (A : Option Addr) (n cap : Nat) (dv : Value) (c : List Int) (w : World) (hl : c.length = n) (hcp : n ≤ cap) (hm : cap ≤ 9223372036854775807)
    (hv : valC c = false) (hc : Ints w A c) :
    Calls Try.prog 3 #[.slice A n cap, dv] w fun e w' => e = .returned (.bool true) ∧ Below w.heap.size w w' := by
  have H := Lib.hid (And.intro hl hc)
  have HV : Hid (valC c = false ∧ valC (c.take 18) = false) := Lib.hid ⟨hv, by rw [valC_take]; exact hv⟩
  clear hl hc hv
  go_enter Try.func3, Try.ntmps3
  go_wp2_with fail
  refine (list_any A n cap c _ H.out.1 hcp hm H.out.2).mono ?_
  rintro e w1 ⟨A1, c1, rfl, hown, hb⟩
  have hI : Ints w1 A1 (c.take 18) := At.of_own hown
  have hlt : (c.take 18).length = min n 18 := by rw [List.length_take, H.out.1]; omega
  have H1 := Lib.hid (And.intro hI (And.intro hb hlt))
  clear hown hb hI hlt
  go_wp2_with fail
  refine (shapley_bad A1 (min n 18) c1 (c.take 18) _ H1.out.2.2 (by omega) H1.out.1 HV.out.2).mono ?_
  rintro e w2 ⟨rfl, hb2⟩
  have HB := Lib.hid (H1.out.2.1.trans (hb2.mono H1.out.2.1.size))
  clear hb2
  go_wp2_with fail
  refine (rplayers_any A n cap c _ H.out.1 (by omega) (H.out.2.below HB.out)).mono ?_
  rintro e w' ⟨rfl, rfl⟩
  rw [plr_bad HV.out.1]
  go_wp2_with fail
  refine (awake_any _).mono ?_
  rintro e w3 ⟨rfl, hb3⟩
  have HB3 := Lib.hid (HB.out.trans (hb3.mono HB.out.size))
  clear hb3
  go_wp2
  go_ret
  exact ⟨rfl, HB3.out⟩

theorem law_fair (A : Option Addr) (n cap : Nat) (D : Option Addr) (m capd : Nat) (c d : List Int) (w : World) (hl : c.length = n) (hcp : n ≤ cap) (hm : cap ≤ 9223372036854775807) (hld : d.length = m) (hmd : m ≤ capd) (hcd : capd ≤ 9223372036854775807)
    (hc : Ints w A c) (hd : Ints w D d) :
    Calls Try.prog 3 #[.slice A n cap, .slice D m capd] w fun e w' => e = .returned (.bool true) ∧ Below w.heap.size w w' := by
  cases hv : valC c
  · exact fair_bad A n cap _ c w hl hcp hm hv hc
  · obtain ⟨ad, rfl, _, _⟩ := hc.some_ (by have := (valC_iff.1 hv).1; omega)
    exact fair_ok ad ad n cap D m capd c d w hl hcp hm hld hmd hcd hv hc hd
end Go.Proofs.Ytbidboagaoifaaa
