/- Contract: valid of package split. -/
import Derived.Test.YtkljambjdiblkaaSMat
import Derived.Test.YtkljambjdiblkaaMinMaxI
namespace Go.Proofs.Ytkljambjdiblkaa
open Go.RowKit

/-- A row that is not valid. -/
def badR (m : Nat) (r : List Int) : Bool := !(decide (r.length = m) && r.all in100)
theorem badR_len {m : Nat} {r : List Int} (h : r.length ≠ m) : badR m r = true := by unfold badR; rw [decide_eq_false h]; rfl
theorem badR_in {m : Nat} {r : List Int} (h : r.length = m) (hm : 1 ≤ m) : badR m r = (decide (lmin r < 0) || decide (100 < lmax r)) := by
  have hne : r ≠ [] := by rintro rfl; simp at h; omega
  unfold badR
  rw [decide_eq_true h, Bool.true_and, Bool.eq_iff_iff]
  simp only [Bool.not_eq_true', Bool.or_eq_true, decide_eq_true_eq]
  rw [← Bool.not_eq_true, List.all_eq_true]
  have h1 := lmin_ge hne 0
  have h2 := lmax_le hne 100
  constructor
  · intro hn
    refine Decidable.byContradiction fun hc => hn fun x hx => ?_
    have a1 := h1.1 (by omega) x hx
    have a2 := h2.1 (by omega) x hx
    simp [in100, a1, a2]
  · intro hor hall
    have b1 := h1.2 fun x hx => by have := hall x hx; simp only [in100, Bool.and_eq_true, decide_eq_true_eq] at this; exact this.1
    have b2 := h2.2 fun x hx => by have := hall x hx; simp only [in100, Bool.and_eq_true, decide_eq_true_eq] at this; exact this.2
    omega

set_option maxHeartbeats 800000 in
theorem svalid1_any (R : Option Addr) (k capr Bv m : Nat) (A : Option Addr) (n cap : Nat) (r : List Int) (V : List (List Int)) (w : World) (hl : r.length = k) (hk : k ≤ 9223372036854775807) (hR : Ints w R r) (hv : w.cell? ⟨Bv, 0, none⟩ = some (.slice A n cap))
    (hlV : V.length = n) (hn : 1 ≤ n ∧ n ≤ 4) (hm : m = (rowV V 0).length) (hm7 : 1 ≤ m ∧ m ≤ 7) (hV : Mat w A V) :
    Calls Try.prog 85 #[.slice R k capr, .pointer (some ⟨Bv, 0, none⟩)] w fun e w' => e = .returned (.bool (badR m r)) ∧ w = w' := by
  obtain ⟨ad, rfl, _, hc⟩ := hV.some_ (by omega)
  obtain ⟨A', c, h1, hrest⟩ := hc 0 _ (List.getElem?_eq_getElem (by omega))
  clear hrest
  have e : (V[0]'(by omega)).length = m := by rw [hm, rowV_get (List.getElem?_eq_getElem (by omega))]
  rw [e] at h1
  have c0 : w.cell? ad = some (.slice A' m c) := h1
  have l1 : (0 : Int) < (n : Int) := by omega
  have H := Lib.hid (And.intro hl hR)
  obtain ⟨b, hb⟩ : ∃ b, b = badR m r := ⟨_, rfl⟩
  rw [← hb]
  have HBB := Lib.hid hb
  clear hl hm hV hc h1 e hR hlV hb
  by_cases hkm : k = m
  · subst hkm
    have HE : Hid (b = (decide (lmin r < 0) || decide (100 < lmax r))) := Lib.hid (by rw [HBB.out]; exact badR_in H.out.1 hm7.1)
    go_enter Try.func85, Try.ntmps85
    go_wp2_with fail
    refine (min_any R k capr r _ H.out.1 (by omega) hk H.out.2).mono ?_
    rintro e w' ⟨rfl, rfl⟩
    generalize lmin r = lo at *
    by_cases h1 : lo < 0
    · have HF : Hid (b = true) := Lib.hid (by rw [HE.out, decide_eq_true h1]; rfl)
      go_wp2_with fail
      go_ret
      exact ⟨ret_bool HF.out.symm, rfl⟩
    · go_wp2_with fail
      refine (max_any R k capr r _ H.out.1 (by omega) hk H.out.2).mono ?_
      rintro e w' ⟨rfl, rfl⟩
      go_wp2_with fail
      go_ret
      exact ⟨ret_bool HE.out.symm, rfl⟩
  · have HF : Hid (b = true) := Lib.hid (by rw [HBB.out]; exact badR_len (by rw [H.out.1]; exact hkm))
    have hne : ((k : Int) != (m : Int)) = true := by rw [bne_iff_ne]; omega
    clear hkm
    go_enter Try.func85, Try.ntmps85
    go_wp2_with fail
    go_ret
    exact ⟨ret_bool HF.out.symm, rfl⟩

/-- What IndexFunc leaves. -/
def AnyPost (b : Bool) (w : World) (e : Ending) (w' : World) : Prop := ∃ r : Int, e = .returned (.int .i64 r) ∧ w = w' ∧ -1 ≤ r ∧ decide (0 ≤ r) = b
set_option maxHeartbeats 800000 in
theorem indexV_any (A : Option Addr) (n cap Bv m : Nat) (V : List (List Int)) (w : World) (hv : w.cell? ⟨Bv, 0, none⟩ = some (.slice A n cap))
    (hlV : V.length = n) (hn : 1 ≤ n ∧ n ≤ 4) (hm : m = (rowV V 0).length) (hm7 : 1 ≤ m ∧ m ≤ 7) (hV : Mat w A V) :
    Calls Try.prog 106 #[.slice A n cap, .func (.func 85) #[] #[.pointer (some ⟨Bv, 0, none⟩)]] w (AnyPost (V.any (badR m)) w) := by
  obtain ⟨ad, rfl, _, hc⟩ := hV.some_ (by omega)
  have H := Lib.hid (And.intro hlV (And.intro hm (And.intro hV (And.intro hc hv))))
  clear hlV hm hV hc
  go_enter Try.func106, Try.ntmps106
  go_wp2_with fail
  go_loop [8] (fun i => ∃ k : Nat, k ≤ n ∧ i = .int .i64 k ∧ (V.take k).any (badR m) = false) (fun i => n - (intOf i).toNat)
  case atStart => exact ⟨0, Nat.zero_le _, rfl, by simp⟩
  case round =>
    obtain ⟨k, hk, rfl, ha⟩ := hrel
    have HA := Lib.hid ha
    clear ha
    by_cases hlt : k < n
    · obtain ⟨hlV, hm, hV, hc, hv'⟩ := H.out
      obtain ⟨r, hr⟩ : ∃ r, V[k]? = some r := ⟨_, List.getElem?_eq_getElem (by omega)⟩
      obtain ⟨R, cr, g1, g2, g3, g4⟩ := hc k r hr
      have HX := Lib.hid (And.intro hr g4)
      have l1 : (k : Int) < (n : Int) := by omega
      clear hlV hm hV hc hr g4 hv'
      go_wp2_with fail
      refine (svalid1_any R r.length cr Bv m (some ad) n cap r V _ rfl (by omega) HX.out.2 hv H.out.1 hn H.out.2.1 hm7 H.out.2.2.1).mono ?_
      rintro e w' ⟨rfl, rfl⟩
      cases hb : badR m r
      · have HN : Hid ((V.take (k + 1)).any (badR m) = false) := Lib.hid (by rw [List.take_add_one, HX.out.1, List.any_append, HA.out]; simp [hb])
        clear hb
        go_wp2_with fail
        go_round
        case rel => exact ⟨k + 1, by omega, by go_num, HN.out⟩
        case measure => simp [intOf]; omega
      · have HN : Hid (V.any (badR m) = true) := Lib.hid (List.any_eq_true.2 ⟨r, List.mem_of_getElem? HX.out.1, hb⟩)
        clear hb
        go_wp2_with fail
        go_ret
        exact ⟨(k : Int), rfl, rfl, by omega, by rw [HN.out, decide_eq_true (by omega)]⟩
    · have HN : Hid (V.any (badR m) = false) := Lib.hid (by have h := HA.out; rwa [List.take_of_length_le (by rw [H.out.1]; omega)] at h)
      go_wp2_with fail
      go_ret
      exact ⟨-1, rfl, rfl, by omega, by rw [HN.out]; rfl⟩

theorem containsV_any (A : Option Addr) (n cap Bv m : Nat) (V : List (List Int)) (w : World) (hv : w.cell? ⟨Bv, 0, none⟩ = some (.slice A n cap))
    (hlV : V.length = n) (hn : 1 ≤ n ∧ n ≤ 4) (hm : m = (rowV V 0).length) (hm7 : 1 ≤ m ∧ m ≤ 7) (hV : Mat w A V) :
    Calls Try.prog 84 #[.slice A n cap, .func (.func 85) #[] #[.pointer (some ⟨Bv, 0, none⟩)]] w fun e w' => e = .returned (.bool (V.any (badR m))) ∧ w = w' := by
  go_enter Try.func84, Try.ntmps84
  go_wp2_with fail
  refine (indexV_any A n cap Bv m V _ hv hlV hn hm hm7 hV).mono ?_
  rintro e w' ⟨r, rfl, rfl, hr, hd⟩
  have HD := Lib.hid hd
  clear hd hv hlV hm hV
  go_wp2_with fail
  go_ret
  exact ⟨ret_bool HD.out, rfl⟩

theorem valV_eq {V : List (List Int)} {m : Nat} (hn : 1 ≤ V.length ∧ V.length ≤ 4) (hm : m = (rowV V 0).length) (hm7 : 1 ≤ m ∧ m ≤ 7) : valV V = !V.any (badR m) := by
  unfold valV
  rw [← hm, decide_eq_true hn.1, decide_eq_true hn.2, decide_eq_true hm7.1, decide_eq_true hm7.2]
  simp only [Bool.true_and]
  unfold badR
  rw [List.any_eq_not_all_not]
  simp

set_option maxRecDepth 100000 in
set_option maxHeartbeats 1600000 in
theorem svalid_any (A : Option Addr) (n cap : Nat) (V : List (List Int)) (w : World) (hl : V.length = n) (hn : n ≤ 9223372036854775807) (hV : Mat w A V) :
    Calls Try.prog 48 #[.slice A n cap] w fun e w' => e = .returned (.bool (valV V)) ∧ Below w.heap.size w w' := by
  obtain ⟨b, hb⟩ : ∃ b, b = valV V := ⟨_, rfl⟩
  rw [← hb]
  have HBB := Lib.hid (And.intro hb hl)
  by_cases h1 : n < 1
  · have HF : Hid (b = false) := Lib.hid (by rw [hb]; unfold valV; rw [decide_eq_false (by omega)]; rfl)
    clear hb hl hV
    go_enter Try.func48, Try.ntmps48
    go_wp2_with fail
    go_ret
    exact ⟨ret_bool HF.out.symm, (Below.refl _ _).alloc (Nat.le_refl _) _⟩
  · by_cases h2 : 4 < n
    · have HF : Hid (b = false) := Lib.hid (by rw [hb]; unfold valV; rw [decide_eq_false (p := V.length ≤ 4) (by omega)]; simp)
      clear hb hl hV
      go_enter Try.func48, Try.ntmps48
      go_wp2_with fail
      go_ret
      exact ⟨ret_bool HF.out.symm, (Below.refl _ _).alloc (Nat.le_refl _) _⟩
    · obtain ⟨m, hm⟩ : ∃ m, m = (rowV V 0).length := ⟨_, rfl⟩
      obtain ⟨ad, rfl, had, hc⟩ := hV.some_ (by omega)
      obtain ⟨A', c, g1, g2, g3, g4⟩ := hc 0 _ (List.getElem?_eq_getElem (by omega))
      have e : (V[0]'(by omega)).length = m := by rw [hm, rowV_get (List.getElem?_eq_getElem (by omega))]
      rw [e] at g1 g2
      have c0 : ∀ o, (w.alloc o).cell? ad = some (.slice A' m c) := fun o => (World.cell?_alloc_lt _ _ _ (lt_of_cell g1)).trans g1
      have H := Lib.hid (And.intro hb (And.intro hl (And.intro hm hV)))
      have l1 : (0 : Int) < (n : Int) := by omega
      clear hb hl hm hV hc g1 g4 e
      by_cases h3 : m < 1
      · have HF : Hid (b = false) := Lib.hid (by rw [H.out.1]; unfold valV; rw [← H.out.2.2.1, decide_eq_false (p := 1 ≤ m) (by omega)]; simp)
        go_enter Try.func48, Try.ntmps48
        go_wp2_with fail
        go_ret
        exact ⟨ret_bool HF.out.symm, (Below.refl _ _).alloc (Nat.le_refl _) _⟩
      · by_cases h4 : 7 < m
        · have HF : Hid (b = false) := Lib.hid (by rw [H.out.1]; unfold valV; rw [← H.out.2.2.1, decide_eq_false (p := m ≤ 7) (by omega)]; simp)
          go_enter Try.func48, Try.ntmps48
          go_wp2_with fail
          go_ret
          exact ⟨ret_bool HF.out.symm, (Below.refl _ _).alloc (Nat.le_refl _) _⟩
        · have HF : Hid (b = !V.any (badR m)) := Lib.hid (by rw [H.out.1]; exact valV_eq (by rw [H.out.2.1]; omega) H.out.2.2.1 (by omega))
          have hp : ∀ o, (w.alloc (.cells #[o] 61)).cell? ⟨w.heap.size, 0, none⟩ = some o := fun o => (Blk.new w 61 #[o] rfl).at1.1
          have HP := Lib.hid hp
          clear hp
          go_enter Try.func48, Try.ntmps48
          go_wp2_with fail
          refine (containsV_any (some ad) n cap w.heap.size m V _ (HP.out _) H.out.2.1 (by omega) H.out.2.2.1 (by omega) (H.out.2.2.2.below ((Below.refl _ _).alloc (Nat.le_refl _) _))).mono ?_
          rintro e w' ⟨rfl, rfl⟩
          go_wp2_with fail
          go_ret
          exact ⟨ret_bool HF.out.symm, (Below.refl _ _).alloc (Nat.le_refl _) _⟩
end Go.Proofs.Ytkljambjdiblkaa
