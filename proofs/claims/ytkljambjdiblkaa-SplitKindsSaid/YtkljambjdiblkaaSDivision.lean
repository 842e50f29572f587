/- Contract: division of package split. -/
import Derived.Test.YtkljambjdiblkaaSMat
namespace Go.Proofs.Ytkljambjdiblkaa
open Go.RowKit

/-- No person. -/
def badD (n : Nat) (x : Int) : Bool := decide (x < 0) || decide ((n : Int) ≤ x)
/-- A division of the goods. -/
def divV (V : List (List Int)) (d : List Int) : Bool := decide (d.length = (rowV V 0).length) && !d.any (badD V.length)

set_option maxHeartbeats 800000 in
theorem sdivision1_any (A : Option Addr) (x : Int) (Bv n cap : Nat) (w : World) (hv : w.cell? ⟨Bv, 0, none⟩ = some (.slice A n cap)) :
    Calls Try.prog 90 #[.int .i64 x, .pointer (some ⟨Bv, 0, none⟩)] w fun e w' => e = .returned (.bool (badD n x)) ∧ w = w' := by
  by_cases h : x < 0
  · have HB : Hid (badD n x = true) := Lib.hid (by unfold badD; rw [decide_eq_true h]; rfl)
    go_enter Try.func90, Try.ntmps90
    go_wp2_with fail
    go_ret
    exact ⟨ret_bool HB.out.symm, rfl⟩
  · have HB : Hid (badD n x = decide ((n : Int) ≤ x)) := Lib.hid (by unfold badD; rw [decide_eq_false h]; rfl)
    go_enter Try.func90, Try.ntmps90
    go_wp2_with fail
    go_ret
    exact ⟨ret_bool HB.out.symm, rfl⟩

/-- What IndexFunc leaves. -/
def AnyPostD (b : Bool) (w : World) (e : Ending) (w' : World) : Prop := ∃ r : Int, e = .returned (.int .i64 r) ∧ w = w' ∧ -1 ≤ r ∧ decide (0 ≤ r) = b
set_option maxHeartbeats 800000 in
theorem indexD_any (D A : Option Addr) (nd capd n cap Bv : Nat) (d : List Int) (w : World) (hv : w.cell? ⟨Bv, 0, none⟩ = some (.slice A n cap))
    (hl : d.length = nd) (hn : nd ≤ 9223372036854775807) (hD : Ints w D d) :
    Calls Try.prog 107 #[.slice D nd capd, .func (.func 90) #[] #[.pointer (some ⟨Bv, 0, none⟩)]] w (AnyPostD (d.any (badD n)) w) := by
  have H := Lib.hid (And.intro hl hD)
  clear hl hD
  go_enter Try.func107, Try.ntmps107
  go_wp2_with fail
  go_loop [8] (fun i => ∃ k : Nat, k ≤ nd ∧ i = .int .i64 k ∧ (d.take k).any (badD n) = false) (fun i => nd - (intOf i).toNat)
  case atStart => exact ⟨0, Nat.zero_le _, rfl, by simp⟩
  case round =>
    obtain ⟨k, hk, rfl, ha⟩ := hrel
    have HA := Lib.hid ha
    clear ha
    by_cases hlt : k < nd
    · obtain ⟨x, hx⟩ : ∃ x, d[k]? = some x := ⟨_, List.getElem?_eq_getElem (by have := H.out.1; omega)⟩
      obtain ⟨ad, rfl, hc⟩ := H.out.2 k (.int .i64 x) (by rw [List.getElem?_map, hx]; rfl)
      have HX := Lib.hid hx
      have l1 : (k : Int) < (nd : Int) := by omega
      clear hx
      go_wp2_with fail
      refine (sdivision1_any A x Bv n cap _ hv).mono ?_
      rintro e w' ⟨rfl, rfl⟩
      cases hb : badD n x
      · have HN : Hid ((d.take (k + 1)).any (badD n) = false) := Lib.hid (by rw [List.take_add_one, HX.out, List.any_append, HA.out]; simp [hb])
        clear hb
        go_wp2_with fail
        go_round
        case rel => exact ⟨k + 1, by omega, by go_num, HN.out⟩
        case measure => simp [intOf]; omega
      · have HN : Hid (d.any (badD n) = true) := Lib.hid (List.any_eq_true.2 ⟨x, List.mem_of_getElem? HX.out, hb⟩)
        clear hb
        go_wp2_with fail
        go_ret
        exact ⟨(k : Int), rfl, rfl, by omega, by rw [HN.out, decide_eq_true (by omega)]⟩
    · have HN : Hid (d.any (badD n) = false) := Lib.hid (by have h := HA.out; rwa [List.take_of_length_le (by rw [H.out.1]; omega)] at h)
      go_wp2_with fail
      go_ret
      exact ⟨-1, rfl, rfl, by omega, by rw [HN.out]; rfl⟩

theorem containsD_any (D A : Option Addr) (nd capd n cap Bv : Nat) (d : List Int) (w : World) (hv : w.cell? ⟨Bv, 0, none⟩ = some (.slice A n cap))
    (hl : d.length = nd) (hn : nd ≤ 9223372036854775807) (hD : Ints w D d) :
    Calls Try.prog 89 #[.slice D nd capd, .func (.func 90) #[] #[.pointer (some ⟨Bv, 0, none⟩)]] w fun e w' => e = .returned (.bool (d.any (badD n))) ∧ w = w' := by
  go_enter Try.func89, Try.ntmps89
  go_wp2_with fail
  refine (indexD_any D A nd capd n cap Bv d _ hv hl hn hD).mono ?_
  rintro e w' ⟨r, rfl, rfl, hr, hd⟩
  have HD := Lib.hid hd
  clear hd hv hl hD
  go_wp2_with fail
  go_ret
  exact ⟨ret_bool HD.out, rfl⟩

set_option maxHeartbeats 800000 in
theorem sdivision_any (A D : Option Addr) (n cap nd capd m : Nat) (V : List (List Int)) (d : List Int) (w : World) (hlV : V.length = n) (hn : 1 ≤ n ∧ n ≤ 1000) (hm : m = (rowV V 0).length) (hm7 : m ≤ 1000) (hV : Mat w A V)
    (hl : d.length = nd) (hnd : nd ≤ 9223372036854775807) (hD : Ints w D d) :
    Calls Try.prog 49 #[.slice A n cap, .slice D nd capd] w fun e w' => e = .returned (.bool (divV V d)) ∧ Below w.heap.size w w' := by
  have hp : ∀ o, (w.alloc (.cells #[o] 61)).cell? ⟨w.heap.size, 0, none⟩ = some o := fun o => (Blk.new w 61 #[o] rfl).at1.1
  have hbw : ∀ o, Below w.heap.size w (w.alloc o) := fun o => (Below.refl _ _).alloc (Nat.le_refl _) _
  obtain ⟨b, hb⟩ : ∃ b, b = divV V d := ⟨_, rfl⟩
  rw [← hb]
  have H := Lib.hid (And.intro hlV (And.intro hm (And.intro hV (And.intro hl (And.intro hD (And.intro hbw hb))))))
  have hp1 := hp (.slice A n cap)
  clear hlV hm hV hl hD hbw hb hp
  go_enter Try.func49, Try.ntmps49
  go_wp2_with fail
  refine (goods_any A n cap m V _ H.out.1 hn.1 hn.2 H.out.2.1 hm7 (H.out.2.2.1.below (H.out.2.2.2.2.2.1 _))).mono ?_
  rintro e w' ⟨rfl, rfl⟩
  by_cases he : nd = m
  · subst he
    have HB : Hid (b = !d.any (badD n)) := Lib.hid (by rw [H.out.2.2.2.2.2.2]; unfold divV; rw [H.out.2.2.2.1, ← H.out.2.1, decide_eq_true rfl, H.out.1]; rfl)
    go_wp2_with fail
    refine (containsD_any D A nd capd n cap w.heap.size d _ hp1 H.out.2.2.2.1 hnd (H.out.2.2.2.2.1.below (H.out.2.2.2.2.2.1 _))).mono ?_
    rintro e w' ⟨rfl, rfl⟩
    go_wp2_with fail
    go_ret
    exact ⟨ret_bool HB.out.symm, H.out.2.2.2.2.2.1 _⟩
  · have HB : Hid (b = false) := Lib.hid (by rw [H.out.2.2.2.2.2.2]; unfold divV; rw [H.out.2.2.2.1, ← H.out.2.1, decide_eq_false he]; rfl)
    have h1 : ((nd : Int) == (m : Int)) = false := by rw [beq_eq_false_iff_ne]; omega
    clear he
    go_wp2_with fail
    go_ret
    exact ⟨ret_bool HB.out.symm, H.out.2.2.2.2.2.1 _⟩
end Go.Proofs.Ytkljambjdiblkaa
