/- Contracts: Worth and own of the reference (package corrodyref01); turned from those of package split. -/
import Derived.Test.YtkljambjdiblkaaSMat
namespace Go.Proofs.Ytkljambjdiblkaa
open Go.RowKit

set_option maxHeartbeats 800000 in
theorem r1worth_any (A : Option Addr) (n cap : Nat) (D : Option Addr) (m capd i : Nat) (j : Int) (V : List (List Int)) (d : List Int) (w : World) (hl : V.length = n) (hn : n ≤ 1000) (hi : i < n) (hld : d.length = m) (hm : m ≤ 1000)
    (hr : (rowV V i).length = m) (hrb : ∀ x ∈ rowV V i, 0 ≤ x ∧ x ≤ 100) (hV : Mat w A V) (hD : Ints w D d) :
    Calls Try.prog 67 #[.slice A n cap, .slice D m capd, .int .i64 i, .int .i64 j] w fun e w' => e = .returned (.int .i64 (wor V d i j)) ∧ w = w' := by
  obtain ⟨ad, rfl, _, hc⟩ := hV.some_ (by omega)
  obtain ⟨A', c, h1, h2, h3, h4⟩ := hc i _ (List.getElem?_eq_getElem (by omega))
  have er : rowV V i = V[i]'(by omega) := rowV_get (List.getElem?_eq_getElem (by omega))
  rw [← er] at h1 h2 h4
  rw [hr] at h1 h2
  have hID := fun (hp : 0 < d.length) => hD.some_ hp
  have hIR := fun (hp : 0 < (rowV V i).length) => h4.some_ hp
  have hw : wor V d i j = worTo (rowV V i) d j m := by unfold wor; rw [hld]
  have H := Lib.hid (And.intro hld (And.intro hr (And.intro hrb (And.intro hID (And.intro hIR hw)))))
  have l1 : (i : Int) < (n : Int) := by omega
  have l2 : (0 : Int) ≤ (i : Int) := by omega
  clear hl hld hr hrb hV hD hc h4 er hID hIR hw
  go_enter Try.func67, Try.ntmps67
  go_wp2_with fail
  go_loop [9, 14] (fun s g => ∃ k : Nat, k ≤ m ∧ g = .int .i64 k ∧ s = .int .i64 (worTo (rowV V i) d j k)) (fun _ g => m - (intOf g).toNat)
  case atStart => exact ⟨0, Nat.zero_le _, rfl, rfl⟩
  case round =>
    obtain ⟨k, hk, rfl, rfl⟩ := hrel
    by_cases hlt : k < m
    · obtain ⟨hld, hr, hrb, hID, hIR, hw⟩ := H.out
      obtain ⟨bd, rfl, _, hcd⟩ := hID (by omega)
      obtain ⟨br, rfl, _, hcr⟩ := hIR (by omega)
      obtain ⟨y, hy⟩ : ∃ y, d[k]? = some y := ⟨_, List.getElem?_eq_getElem (by omega)⟩
      obtain ⟨x, hx⟩ : ∃ x, (rowV V i)[k]? = some x := ⟨_, List.getElem?_eq_getElem (by omega)⟩
      have c1 := hcd k y hy
      have c2 := hcr k x hx
      have hb := worTo_bd hrb d j k
      have hxb := hrb x (List.mem_of_getElem? hx)
      have hs : worTo (rowV V i) d j (k + 1) = worTo (rowV V i) d j k + if y = j then x else 0 := by
        rw [worTo, List.getD_eq_getElem?_getD, List.getD_eq_getElem?_getD, hy, hx]; rfl
      obtain ⟨s, hse⟩ : ∃ s, s = worTo (rowV V i) d j k := ⟨_, rfl⟩
      rw [← hse] at hb hs ⊢
      have HS := Lib.hid hs
      clear hld hr hrb hID hIR hw hcd hcr hy hx hs hse
      by_cases he : y = j
      · have hb2 : (y == j) = true := by simp [he]
        have HN : Hid (worTo (rowV V i) d j (k + 1) = s + x) := Lib.hid (by rw [HS.out, if_pos he])
        clear he
        go_wp2_with fail
        go_round
        case rel => exact ⟨k + 1, by omega, by go_num, by rw [HN.out]⟩
        case measure => simp [intOf]; omega
      · have hb2 : (y == j) = false := by simp [he]
        have HN : Hid (worTo (rowV V i) d j (k + 1) = s) := Lib.hid (by rw [HS.out, if_neg he]; omega)
        clear he
        go_wp2_with fail
        go_round
        case rel => exact ⟨k + 1, by omega, by go_num, by rw [HN.out]⟩
        case measure => simp [intOf]; omega
    · obtain rfl : m = k := by omega
      have HW := Lib.hid H.out.2.2.2.2.2
      go_wp2_with fail
      go_ret
      exact ⟨ret_int HW.out.symm, rfl⟩

set_option maxHeartbeats 800000 in
theorem r1own_any (A : Option Addr) (n cap : Nat) (D : Option Addr) (m capd : Nat) (V : List (List Int)) (d : List Int) (w : World) (hl : V.length = n) (hn : n ≤ 1000) (hld : d.length = m) (hm : m ≤ 1000)
    (hr : ∀ i, i < n → (rowV V i).length = m ∧ ∀ x ∈ rowV V i, 0 ≤ x ∧ x ≤ 100) (hV : Mat w A V) (hD : Ints w D d) :
    Calls Try.prog 81 #[.slice A n cap, .slice D m capd] w fun e w' => ∃ A' c, e = .returned (.slice A' n c) ∧ w'.ownsRow w.heap.size 3 1 (.slice A' n c) n ((ownV V d n).map (Value.int .i64)) ∧ Below w.heap.size w w' := by
  have H := Lib.hid (And.intro hl (And.intro hld (And.intro hr (And.intro hV hD))))
  clear hl hld hr hV hD
  go_enter Try.func81, Try.ntmps81
  go_wp2_with fail
  go_loopw [5, 9] (fun ov iv wr => ∃ (k : Nat) (B : Option Addr) (bc : Nat), k ≤ n ∧ iv = .int .i64 k ∧ ov = .slice B k bc ∧ wr.ownsRow w.heap.size 3 1 (.slice B k bc) k ((ownV V d k).map (Value.int .i64)) ∧ Below w.heap.size w wr) (fun _ iv _ => n - (intOf iv).toNat)
  case atStart => exact ⟨0, none, 0, Nat.zero_le _, rfl, rfl, World.ownsRow_nil _ _ _ _, Below.refl _ _⟩
  case round =>
    obtain ⟨k, B, bc, hk, rfl, rfl, hown, hbl⟩ := hrel
    have HR := Lib.hid (And.intro hown hbl)
    have hws := hbl.size
    clear hown hbl
    by_cases hlt : k < n
    · have HNEW : Hid ((ownV V d (k + 1)).map (Value.int .i64) = (ownV V d k).map (Value.int .i64) ++ [.int .i64 (wor V d k (k : Int))]) := Lib.hid (by rw [ownV_succ]; simp)
      go_wp2_with fail
      refine (r1worth_any A n cap D m capd k (k : Int) V d _ H.out.1 hn hlt H.out.2.1 hm (H.out.2.2.1 k hlt).1 (H.out.2.2.1 k hlt).2 (H.out.2.2.2.1.below HR.out.2) (H.out.2.2.2.2.below HR.out.2)).mono ?_
      rintro e w' ⟨rfl, rfl⟩
      generalize wor V d k (k : Int) = x at HNEW ⊢
      go_wp2_with (at_builtin; refine app1 sty_int rfl _ _ rfl w.heap.size B k bc _ #[.int .i64 x] rfl (by simp [Value.oneCell']) rfl HR.out.1 rfl (by omega) (by omega) ?_)
      intro A4 k4 w4 hown4 _ hbl4 hk41 hk42
      rw [← HNEW.out] at hown4
      have HR4 := Lib.hid (And.intro hown4 (HR.out.2.trans hbl4))
      clear hown4 hbl4
      go_wp2_with fail
      go_roundw
      case rel => exact ⟨k + 1, A4, k4, by omega, by go_num, rfl, HR4.out.1, HR4.out.2⟩
      case measure => simp [intOf]; omega
    · obtain rfl : n = k := by omega
      go_wp2_with fail
      go_ret
      exact ⟨B, bc, rfl, HR.out.1, HR.out.2⟩
end Go.Proofs.Ytkljambjdiblkaa
