/- Laws and contracts that the proof of SplitNames uses, part 2. -/
import Derived.Test.YtkljambjdiblkaaSplitNamesM1
import Derived.ChangeKeysEq
namespace Go.Proofs.Ytkljambjdiblkaa
open Go.RowKit

/- Contract: Better of the reference (package corrodyref01). -/

/-- What Better of the reference leaves, and that of the program: the first better division of the list. -/
def BetPost (o : Option (List Int)) (w : World) (e : Ending) (w' : World) : Prop :=
  (o = none ∧ e = .returned (.tuple #[.slice none 0 0, .int .i64 4]) ∧ Below w.heap.size w w') ∨
  ∃ a A c, o = some a ∧ e = .returned (.tuple #[.slice A a.length c, .int .i64 0]) ∧ a.length ≤ 7 ∧ Ints w' A a ∧ Below w.heap.size w w'

def better (V : List (List Int)) (d : List Int) (a : List Int) : Bool := bet (ownV V a V.length) (ownV V d V.length)

theorem find_take {α : Type} {p : α → Bool} {L : List α} {k : Nat} {x : α} (h : L[k]? = some x) (hn : (L.take k).find? p = none) (hx : p x = true) : L.find? p = some x := by
  have hk : k < L.length := (List.getElem?_eq_some_iff.1 h).1
  rw [← List.take_append_drop k L, List.find?_append, hn, List.drop_eq_getElem_cons hk]
  have : L[k] = x := by have := List.getElem?_eq_getElem hk; rw [h] at this; injection this with this; exact this.symm
  rw [this]
  simp [hx]
theorem find_on {α : Type} {p : α → Bool} {L : List α} {k : Nat} {x : α} (h : L[k]? = some x) (hn : (L.take k).find? p = none) (hx : p x = false) : (L.take (k + 1)).find? p = none := by
  rw [List.take_add_one, h, List.find?_append, hn]; simp [hx]

set_option maxRecDepth 100000 in
set_option maxHeartbeats 1600000 in
theorem r1better_any (A D : Option Addr) (n cap capd m : Nat) (V : List (List Int)) (d : List Int) (w : World) (hl : V.length = n) (hn : 1 ≤ n ∧ n ≤ 4) (hm : m = (rowV V 0).length) (hm7 : 1 ≤ m ∧ m ≤ 7) (hld : d.length = m)
    (hr : ∀ i, i < n → (rowV V i).length = m ∧ ∀ x ∈ rowV V i, 0 ≤ x ∧ x ≤ 100) (hV : Mat w A V) (hD : Ints w D d) :
    Calls Try.prog 23 #[.slice A n cap, .slice D m capd] w (BetPost ((divs n m).find? (better V d)) w) := by
  obtain ⟨ad, rfl, had, hc⟩ := hV.some_ (by omega)
  obtain ⟨A0, c0, g1, g2, g3, g4⟩ := hc 0 _ (List.getElem?_eq_getElem (by omega))
  have e : (V[0]'(by omega)).length = m := by rw [hm, rowV_get (List.getElem?_eq_getElem (by omega))]
  rw [e] at g1 g2
  have g1' : w.cell? ad = some (.slice A0 m c0) := g1
  have l0 : (0 : Int) < (n : Int) := by omega
  have hps := divs_small hn.2 hm7.2
  rw [← divs_length] at hps
  obtain ⟨L, hL⟩ : ∃ L, L = divs n m := ⟨_, rfl⟩
  have hmem : ∀ l ∈ L, l.length = m := fun l h => divs_mem (by rw [← hL]; exact h)
  rw [← hL] at hps ⊢
  have H := Lib.hid (And.intro hl (And.intro hld (And.intro hr (And.intro hV (And.intro hD (And.intro hL hmem))))))
  clear hl hm hld hr hV hD hc g1 g4 e hL hmem
  go_enter Try.func23, Try.ntmps23
  go_wp2_with fail
  refine (divisions_any n hn m _ hm7.2).mono ?_
  rw [← H.out.2.2.2.2.2.1]
  rintro e w4 ⟨A4, c4, vs4, rfl, hown4, hrows4, _, hbl4⟩
  obtain ⟨ql, hql⟩ : ∃ ql, ql = L.length := ⟨_, rfl⟩
  have hat4 : At w4 A4 vs4 := At.of_own hown4
  rw [← hql] at hps ⊢
  have H4 := Lib.hid (And.intro hat4 (And.intro hrows4 (And.intro hbl4 hql)))
  have hw4 := hbl4.size
  clear hown4 hrows4 hbl4 hat4 hql
  go_wp2_with fail
  go_loopw [16] (fun jv wr => ∃ j : Nat, j ≤ ql ∧ jv = .int .i64 j ∧ (L.take j).find? (better V d) = none ∧ Below w4.heap.size w4 wr) (fun jv _ => ql - (intOf jv).toNat)
  case atStart => exact ⟨0, Nat.zero_le _, rfl, by simp, Below.refl _ _⟩
  case round =>
    obtain ⟨j, hj, rfl, hf, hbl⟩ := hrel
    obtain ⟨wp, rfl⟩ : ∃ wp : World, wp = wr := ⟨_, rfl⟩
    have HR := Lib.hid (And.intro hf hbl)
    have hwp := hbl.size
    clear hf hbl
    by_cases hlj : j < ql
    · obtain ⟨os, hos⟩ : ∃ os, L[j]? = some os := ⟨_, List.getElem?_eq_getElem (by rw [← H4.out.2.2.2]; exact hlj)⟩
      have hosl := H.out.2.2.2.2.2.2 os (List.mem_of_getElem? hos)
      obtain ⟨v, hv, A', c', rfl, hc1, hc2, hI, _⟩ := H4.out.2.1.2 j os hos
      rw [hosl] at hv hc1
      obtain ⟨ad4, rfl, hcell⟩ := H4.out.1 j _ hv
      have hcell2 := (HR.out.2.cell (lt_of_cell hcell)).trans hcell
      have l1 : (j : Int) < (ql : Int) := by omega
      have HS := Lib.hid (And.intro (hI.below HR.out.2) (And.intro hos (And.intro hosl (H4.out.2.2.1.trans (HR.out.2.mono hw4)))))
      have hbet : better V d os = bet (ownV V os n) (ownV V d n) := by unfold better; rw [H.out.1]
      have HBE := Lib.hid hbet
      clear hI hos hosl hv hcell hbet
      go_wp2_with fail
      refine (isbetter_any (some ad) n cap A' D m c' capd V os d _ H.out.1 (by omega) HS.out.2.2.1 H.out.2.1 (by omega) H.out.2.2.1 (H.out.2.2.2.1.below HS.out.2.2.2) HS.out.1 (H.out.2.2.2.2.1.below HS.out.2.2.2)).mono ?_
      rw [← HBE.out]
      rintro e w6 ⟨rfl, hb6⟩
      have hw6 := hb6.size
      cases hb : better V d os
      · have H6 := Lib.hid (And.intro (find_on HS.out.2.1 HR.out.1 hb) (HR.out.2.trans (hb6.mono hwp)))
        clear hb6 hb
        go_wp2_with fail
        go_roundw
        case rel => exact ⟨j + 1, by omega, by go_num, H6.out.1, H6.out.2⟩
        case measure => simp [intOf]; omega
      · have H6 := Lib.hid (And.intro (find_take HS.out.2.1 HR.out.1 hb) (And.intro (HS.out.1.below hb6) (HS.out.2.2.2.trans (hb6.mono (by omega)))))
        clear hb6 hb
        go_wp2_with fail
        go_ret2
        exact .inr ⟨os, A', c', H6.out.1, by rw [HS.out.2.2.1]; rfl, by rw [HS.out.2.2.1]; exact hm7.2, H6.out.2.1, H6.out.2.2⟩
    · have HN : Hid (L.find? (better V d) = none) := Lib.hid (by have h := HR.out.1; rwa [List.take_of_length_le (by rw [← H4.out.2.2.2]; omega)] at h)
      have HB := Lib.hid (H4.out.2.2.1.trans (HR.out.2.mono hw4))
      go_wp2_with fail
      go_ret2
      exact .inl ⟨HN.out, rfl, HB.out⟩

/- Contracts of slices.Min and slices.Max over ints. -/

set_option maxHeartbeats 400000 in
theorem min_any (A : Option Addr) (n cap : Nat) (xs : List Int) (w : World) (hl : xs.length = n) (hp : 0 < n) (hm : n ≤ 9223372036854775807) (h : Ints w A xs) :
    Calls Try.prog 86 #[.slice A n cap] w fun e w' => e = .returned (.int .i64 (lmin xs)) ∧ w = w' := by
  obtain ⟨ad, rfl, hb, hc⟩ := h.some_ (by omega)
  obtain ⟨x0, hx0⟩ : ∃ x, xs[0]? = some x := ⟨_, List.getElem?_eq_getElem (by omega)⟩
  have c0 : w.cell? ad = some (.int .i64 x0) := hc 0 x0 hx0
  have e0 : lmin (xs.take 1) = x0 := by rw [take_succ' hx0]; simp [lmin]
  have HE := Lib.hid e0
  have HC := Lib.hid hc
  have HL := Lib.hid hl
  have HX0 := Lib.hid hx0
  clear hc hl h hb e0 hx0
  go_enter Try.func86, Try.ntmps86
  go_wp2
  go_loop [3, 4] (fun m i => ∃ k : Nat, 1 ≤ k ∧ k ≤ n ∧ i = .int .i64 k ∧ m = .int .i64 (lmin (xs.take k))) (fun _ i => n - (intOf i).toNat)
  case atStart => exact ⟨1, by omega, by omega, rfl, by rw [HE.out]⟩
  case round =>
    obtain ⟨k, hk1, hk, rfl, rfl⟩ := hrel
    by_cases hlt : k < n
    · obtain ⟨x, hx⟩ : ∃ x, xs[k]? = some x := ⟨_, List.getElem?_eq_getElem (by rw [HL.out]; exact hlt)⟩
      have hcell := HC.out k x hx
      have HT := Lib.hid (lmin_take hx (by omega))
      have HX := Lib.hid hx
      clear hx
      go_wp2
      go_round
      case rel => exact ⟨k + 1, by omega, by omega, by go_num, val_int (by rw [HT.out]; split <;> omega)⟩
      case measure => simp [intOf]; omega
    · have HT : Hid (lmin (xs.take k) = lmin xs) := Lib.hid (by rw [List.take_of_length_le (by rw [HL.out]; omega)])
      go_wp2
      go_ret
      exact ⟨ret_int HT.out, rfl⟩

set_option maxHeartbeats 400000 in
theorem max_any (A : Option Addr) (n cap : Nat) (xs : List Int) (w : World) (hl : xs.length = n) (hp : 0 < n) (hm : n ≤ 9223372036854775807) (h : Ints w A xs) :
    Calls Try.prog 87 #[.slice A n cap] w fun e w' => e = .returned (.int .i64 (lmax xs)) ∧ w = w' := by
  obtain ⟨ad, rfl, hb, hc⟩ := h.some_ (by omega)
  obtain ⟨x0, hx0⟩ : ∃ x, xs[0]? = some x := ⟨_, List.getElem?_eq_getElem (by omega)⟩
  have c0 : w.cell? ad = some (.int .i64 x0) := hc 0 x0 hx0
  have e0 : lmax (xs.take 1) = x0 := by rw [take_succ' hx0]; simp [lmax]
  have HE := Lib.hid e0
  have HC := Lib.hid hc
  have HL := Lib.hid hl
  have HX0 := Lib.hid hx0
  clear hc hl h hb e0 hx0
  go_enter Try.func87, Try.ntmps87
  go_wp2
  go_loop [3, 4] (fun m i => ∃ k : Nat, 1 ≤ k ∧ k ≤ n ∧ i = .int .i64 k ∧ m = .int .i64 (lmax (xs.take k))) (fun _ i => n - (intOf i).toNat)
  case atStart => exact ⟨1, by omega, by omega, rfl, by rw [HE.out]⟩
  case round =>
    obtain ⟨k, hk1, hk, rfl, rfl⟩ := hrel
    by_cases hlt : k < n
    · obtain ⟨x, hx⟩ : ∃ x, xs[k]? = some x := ⟨_, List.getElem?_eq_getElem (by rw [HL.out]; exact hlt)⟩
      have hcell := HC.out k x hx
      have HT := Lib.hid (lmax_take hx (by omega))
      have HX := Lib.hid hx
      clear hx
      go_wp2
      go_round
      case rel => exact ⟨k + 1, by omega, by omega, by go_num, val_int (by rw [HT.out]; split <;> omega)⟩
      case measure => simp [intOf]; omega
    · have HT : Hid (lmax (xs.take k) = lmax xs) := Lib.hid (by rw [List.take_of_length_le (by rw [HL.out]; omega)])
      go_wp2
      go_ret
      exact ⟨ret_int HT.out, rfl⟩

/- Contract: valid of package split. -/

/-- A row that is not valid. -/
def badR (m : Nat) (r : List Int) : Bool := !(decide (r.length = m) && r.all in100)
theorem badR_len {m : Nat} {r : List Int} (h : r.length ≠ m) : badR m r = true := by unfold badR; rw [decide_eq_false h]; rfl
theorem badR_in {m : Nat} {r : List Int} (h : r.length = m) (hm : 1 ≤ m) : badR m r = (decide (lmin r < 0) || decide (100 < lmax r)) := by
  have hne : r ≠ [] := by rintro rfl; simp at h; omega
  unfold badR
  rw [decide_eq_true h, Bool.true_and, Bool.eq_iff_iff]
  simp only [Bool.not_eq_true', Bool.or_eq_true, decide_eq_true_eq]
  rw [← Bool.not_eq_true, List.all_eq_true]
  have h1 := lmin_ge hne 0
  have h2 := lmax_le hne 100
  constructor
  · intro hn
    refine Decidable.byContradiction fun hc => hn fun x hx => ?_
    have a1 := h1.1 (by omega) x hx
    have a2 := h2.1 (by omega) x hx
    simp [in100, a1, a2]
  · intro hor hall
    have b1 := h1.2 fun x hx => by have := hall x hx; simp only [in100, Bool.and_eq_true, decide_eq_true_eq] at this; exact this.1
    have b2 := h2.2 fun x hx => by have := hall x hx; simp only [in100, Bool.and_eq_true, decide_eq_true_eq] at this; exact this.2
    omega

set_option maxHeartbeats 800000 in
theorem svalid1_any (R : Option Addr) (k capr Bv m : Nat) (A : Option Addr) (n cap : Nat) (r : List Int) (V : List (List Int)) (w : World) (hl : r.length = k) (hk : k ≤ 9223372036854775807) (hR : Ints w R r) (hv : w.cell? ⟨Bv, 0, none⟩ = some (.slice A n cap))
    (hlV : V.length = n) (hn : 1 ≤ n ∧ n ≤ 4) (hm : m = (rowV V 0).length) (hm7 : 1 ≤ m ∧ m ≤ 7) (hV : Mat w A V) :
    Calls Try.prog 85 #[.slice R k capr, .pointer (some ⟨Bv, 0, none⟩)] w fun e w' => e = .returned (.bool (badR m r)) ∧ w = w' := by
  obtain ⟨ad, rfl, _, hc⟩ := hV.some_ (by omega)
  obtain ⟨A', c, h1, hrest⟩ := hc 0 _ (List.getElem?_eq_getElem (by omega))
  clear hrest
  have e : (V[0]'(by omega)).length = m := by rw [hm, rowV_get (List.getElem?_eq_getElem (by omega))]
  rw [e] at h1
  have c0 : w.cell? ad = some (.slice A' m c) := h1
  have l1 : (0 : Int) < (n : Int) := by omega
  have H := Lib.hid (And.intro hl hR)
  obtain ⟨b, hb⟩ : ∃ b, b = badR m r := ⟨_, rfl⟩
  rw [← hb]
  have HBB := Lib.hid hb
  clear hl hm hV hc h1 e hR hlV hb
  by_cases hkm : k = m
  · subst hkm
    have HE : Hid (b = (decide (lmin r < 0) || decide (100 < lmax r))) := Lib.hid (by rw [HBB.out]; exact badR_in H.out.1 hm7.1)
    go_enter Try.func85, Try.ntmps85
    go_wp2_with fail
    refine (min_any R k capr r _ H.out.1 (by omega) hk H.out.2).mono ?_
    rintro e w' ⟨rfl, rfl⟩
    generalize lmin r = lo at *
    by_cases h1 : lo < 0
    · have HF : Hid (b = true) := Lib.hid (by rw [HE.out, decide_eq_true h1]; rfl)
      go_wp2_with fail
      go_ret
      exact ⟨ret_bool HF.out.symm, rfl⟩
    · go_wp2_with fail
      refine (max_any R k capr r _ H.out.1 (by omega) hk H.out.2).mono ?_
      rintro e w' ⟨rfl, rfl⟩
      go_wp2_with fail
      go_ret
      exact ⟨ret_bool HE.out.symm, rfl⟩
  · have HF : Hid (b = true) := Lib.hid (by rw [HBB.out]; exact badR_len (by rw [H.out.1]; exact hkm))
    have hne : ((k : Int) != (m : Int)) = true := by rw [bne_iff_ne]; omega
    clear hkm
    go_enter Try.func85, Try.ntmps85
    go_wp2_with fail
    go_ret
    exact ⟨ret_bool HF.out.symm, rfl⟩

/-- What IndexFunc leaves. -/
def AnyPost (b : Bool) (w : World) (e : Ending) (w' : World) : Prop := ∃ r : Int, e = .returned (.int .i64 r) ∧ w = w' ∧ -1 ≤ r ∧ decide (0 ≤ r) = b
set_option maxHeartbeats 800000 in
theorem indexV_any (A : Option Addr) (n cap Bv m : Nat) (V : List (List Int)) (w : World) (hv : w.cell? ⟨Bv, 0, none⟩ = some (.slice A n cap))
    (hlV : V.length = n) (hn : 1 ≤ n ∧ n ≤ 4) (hm : m = (rowV V 0).length) (hm7 : 1 ≤ m ∧ m ≤ 7) (hV : Mat w A V) :
    Calls Try.prog 106 #[.slice A n cap, .func (.func 85) #[] #[.pointer (some ⟨Bv, 0, none⟩)]] w (AnyPost (V.any (badR m)) w) := by
  obtain ⟨ad, rfl, _, hc⟩ := hV.some_ (by omega)
  have H := Lib.hid (And.intro hlV (And.intro hm (And.intro hV (And.intro hc hv))))
  clear hlV hm hV hc
  go_enter Try.func106, Try.ntmps106
  go_wp2_with fail
  go_loop [8] (fun i => ∃ k : Nat, k ≤ n ∧ i = .int .i64 k ∧ (V.take k).any (badR m) = false) (fun i => n - (intOf i).toNat)
  case atStart => exact ⟨0, Nat.zero_le _, rfl, by simp⟩
  case round =>
    obtain ⟨k, hk, rfl, ha⟩ := hrel
    have HA := Lib.hid ha
    clear ha
    by_cases hlt : k < n
    · obtain ⟨hlV, hm, hV, hc, hv'⟩ := H.out
      obtain ⟨r, hr⟩ : ∃ r, V[k]? = some r := ⟨_, List.getElem?_eq_getElem (by omega)⟩
      obtain ⟨R, cr, g1, g2, g3, g4⟩ := hc k r hr
      have HX := Lib.hid (And.intro hr g4)
      have l1 : (k : Int) < (n : Int) := by omega
      clear hlV hm hV hc hr g4 hv'
      go_wp2_with fail
      refine (svalid1_any R r.length cr Bv m (some ad) n cap r V _ rfl (by omega) HX.out.2 hv H.out.1 hn H.out.2.1 hm7 H.out.2.2.1).mono ?_
      rintro e w' ⟨rfl, rfl⟩
      cases hb : badR m r
      · have HN : Hid ((V.take (k + 1)).any (badR m) = false) := Lib.hid (by rw [List.take_add_one, HX.out.1, List.any_append, HA.out]; simp [hb])
        clear hb
        go_wp2_with fail
        go_round
        case rel => exact ⟨k + 1, by omega, by go_num, HN.out⟩
        case measure => simp [intOf]; omega
      · have HN : Hid (V.any (badR m) = true) := Lib.hid (List.any_eq_true.2 ⟨r, List.mem_of_getElem? HX.out.1, hb⟩)
        clear hb
        go_wp2_with fail
        go_ret
        exact ⟨(k : Int), rfl, rfl, by omega, by rw [HN.out, decide_eq_true (by omega)]⟩
    · have HN : Hid (V.any (badR m) = false) := Lib.hid (by have h := HA.out; rwa [List.take_of_length_le (by rw [H.out.1]; omega)] at h)
      go_wp2_with fail
      go_ret
      exact ⟨-1, rfl, rfl, by omega, by rw [HN.out]; rfl⟩

theorem containsV_any (A : Option Addr) (n cap Bv m : Nat) (V : List (List Int)) (w : World) (hv : w.cell? ⟨Bv, 0, none⟩ = some (.slice A n cap))
    (hlV : V.length = n) (hn : 1 ≤ n ∧ n ≤ 4) (hm : m = (rowV V 0).length) (hm7 : 1 ≤ m ∧ m ≤ 7) (hV : Mat w A V) :
    Calls Try.prog 84 #[.slice A n cap, .func (.func 85) #[] #[.pointer (some ⟨Bv, 0, none⟩)]] w fun e w' => e = .returned (.bool (V.any (badR m))) ∧ w = w' := by
  go_enter Try.func84, Try.ntmps84
  go_wp2_with fail
  refine (indexV_any A n cap Bv m V _ hv hlV hn hm hm7 hV).mono ?_
  rintro e w' ⟨r, rfl, rfl, hr, hd⟩
  have HD := Lib.hid hd
  clear hd hv hlV hm hV
  go_wp2_with fail
  go_ret
  exact ⟨ret_bool HD.out, rfl⟩

theorem valV_eq {V : List (List Int)} {m : Nat} (hn : 1 ≤ V.length ∧ V.length ≤ 4) (hm : m = (rowV V 0).length) (hm7 : 1 ≤ m ∧ m ≤ 7) : valV V = !V.any (badR m) := by
  unfold valV
  rw [← hm, decide_eq_true hn.1, decide_eq_true hn.2, decide_eq_true hm7.1, decide_eq_true hm7.2]
  simp only [Bool.true_and]
  unfold badR
  rw [List.any_eq_not_all_not]
  simp

set_option maxRecDepth 100000 in
set_option maxHeartbeats 1600000 in
theorem svalid_any (A : Option Addr) (n cap : Nat) (V : List (List Int)) (w : World) (hl : V.length = n) (hn : n ≤ 9223372036854775807) (hV : Mat w A V) :
    Calls Try.prog 48 #[.slice A n cap] w fun e w' => e = .returned (.bool (valV V)) ∧ Below w.heap.size w w' := by
  obtain ⟨b, hb⟩ : ∃ b, b = valV V := ⟨_, rfl⟩
  rw [← hb]
  have HBB := Lib.hid (And.intro hb hl)
  by_cases h1 : n < 1
  · have HF : Hid (b = false) := Lib.hid (by rw [hb]; unfold valV; rw [decide_eq_false (by omega)]; rfl)
    clear hb hl hV
    go_enter Try.func48, Try.ntmps48
    go_wp2_with fail
    go_ret
    exact ⟨ret_bool HF.out.symm, (Below.refl _ _).alloc (Nat.le_refl _) _⟩
  · by_cases h2 : 4 < n
    · have HF : Hid (b = false) := Lib.hid (by rw [hb]; unfold valV; rw [decide_eq_false (p := V.length ≤ 4) (by omega)]; simp)
      clear hb hl hV
      go_enter Try.func48, Try.ntmps48
      go_wp2_with fail
      go_ret
      exact ⟨ret_bool HF.out.symm, (Below.refl _ _).alloc (Nat.le_refl _) _⟩
    · obtain ⟨m, hm⟩ : ∃ m, m = (rowV V 0).length := ⟨_, rfl⟩
      obtain ⟨ad, rfl, had, hc⟩ := hV.some_ (by omega)
      obtain ⟨A', c, g1, g2, g3, g4⟩ := hc 0 _ (List.getElem?_eq_getElem (by omega))
      have e : (V[0]'(by omega)).length = m := by rw [hm, rowV_get (List.getElem?_eq_getElem (by omega))]
      rw [e] at g1 g2
      have c0 : ∀ o, (w.alloc o).cell? ad = some (.slice A' m c) := fun o => (World.cell?_alloc_lt _ _ _ (lt_of_cell g1)).trans g1
      have H := Lib.hid (And.intro hb (And.intro hl (And.intro hm hV)))
      have l1 : (0 : Int) < (n : Int) := by omega
      clear hb hl hm hV hc g1 g4 e
      by_cases h3 : m < 1
      · have HF : Hid (b = false) := Lib.hid (by rw [H.out.1]; unfold valV; rw [← H.out.2.2.1, decide_eq_false (p := 1 ≤ m) (by omega)]; simp)
        go_enter Try.func48, Try.ntmps48
        go_wp2_with fail
        go_ret
        exact ⟨ret_bool HF.out.symm, (Below.refl _ _).alloc (Nat.le_refl _) _⟩
      · by_cases h4 : 7 < m
        · have HF : Hid (b = false) := Lib.hid (by rw [H.out.1]; unfold valV; rw [← H.out.2.2.1, decide_eq_false (p := m ≤ 7) (by omega)]; simp)
          go_enter Try.func48, Try.ntmps48
          go_wp2_with fail
          go_ret
          exact ⟨ret_bool HF.out.symm, (Below.refl _ _).alloc (Nat.le_refl _) _⟩
        · have HF : Hid (b = !V.any (badR m)) := Lib.hid (by rw [H.out.1]; exact valV_eq (by rw [H.out.2.1]; omega) H.out.2.2.1 (by omega))
          have hp : ∀ o, (w.alloc (.cells #[o] 61)).cell? ⟨w.heap.size, 0, none⟩ = some o := fun o => (Blk.new w 61 #[o] rfl).at1.1
          have HP := Lib.hid hp
          clear hp
          go_enter Try.func48, Try.ntmps48
          go_wp2_with fail
          refine (containsV_any (some ad) n cap w.heap.size m V _ (HP.out _) H.out.2.1 (by omega) H.out.2.2.1 (by omega) (H.out.2.2.2.below ((Below.refl _ _).alloc (Nat.le_refl _) _))).mono ?_
          rintro e w' ⟨rfl, rfl⟩
          go_wp2_with fail
          go_ret
          exact ⟨ret_bool HF.out.symm, (Below.refl _ _).alloc (Nat.le_refl _) _⟩

/- Equality of lists, as a walk decides it. No program. -/

def eqB {α : Type} [DecidableEq α] (a b : List α) : Bool := decide (a = b)
theorem eqB_len {α : Type} [DecidableEq α] {a b : List α} (h : a.length ≠ b.length) : eqB a b = false := by
  unfold eqB; exact decide_eq_false fun e => h (by rw [e])
theorem eqB_at {α : Type} [DecidableEq α] {a b : List α} {k : Nat} {x y : α} (hx : a[k]? = some x) (hy : b[k]? = some y) (h : x ≠ y) : eqB a b = false := by
  unfold eqB; exact decide_eq_false fun e => h (by rw [e, hy] at hx; injection hx with hx; exact hx.symm)
theorem eqB_all {α : Type} [DecidableEq α] {a b : List α} {n : Nat} (ha : a.length = n) (hb : b.length = n) (h : a.take n = b.take n) : eqB a b = true := by
  unfold eqB; apply decide_eq_true
  rwa [List.take_of_length_le (by omega), List.take_of_length_le (by omega)] at h
theorem take_eq_succ {α : Type} {a b : List α} {k : Nat} {x : α} (hx : a[k]? = some x) (hy : b[k]? = some x) (h : a.take k = b.take k) : a.take (k + 1) = b.take (k + 1) := by
  rw [List.take_add_one, List.take_add_one, hx, hy, h]

/- Contract: slices.Equal of ints. -/

set_option maxHeartbeats 800000 in
theorem equal_any (A A' : Option Addr) (n n' cap cap' : Nat) (ps qs : List Int) (w : World) (hl : ps.length = n) (hl' : qs.length = n') (hm : n ≤ 9223372036854775807) (h : Ints w A ps) (h' : Ints w A' qs) :
    Calls Try.prog 24 #[.slice A n cap, .slice A' n' cap'] w fun e w' => e = .returned (.bool (eqB ps qs)) ∧ ∃ m, w' = w.drewN m := by
  by_cases hnn : n = n'
  · subst hnn
    by_cases h0 : n = 0
    · subst h0
      obtain rfl := List.eq_nil_of_length_eq_zero hl
      obtain rfl := List.eq_nil_of_length_eq_zero hl'
      go_enter Try.func24, Try.ntmps24
      go_wp2
      refine wp_loop_rounds 1 ?_
      rw [rounds_succ]
      go_wp2
      go_ret
      exact ⟨rfl, 0, rfl⟩
    · obtain ⟨ad, rfl, _, hc⟩ := h.some_ (by omega)
      obtain ⟨ad', rfl, _, hc'⟩ := h'.some_ (by omega)
      have H := Lib.hid (And.intro hl (And.intro hl' (And.intro hc hc')))
      clear hl hl' hc hc' h h'
      go_enter Try.func24, Try.ntmps24
      go_wp2
      go_loopw [13] (fun iv wr => ∃ k : Nat, k ≤ n ∧ iv = .int .i64 k ∧ ps.take k = qs.take k ∧ ∃ m, wr = w.drewN m) (fun iv _ => n - (intOf iv).toNat)
      case atStart => exact ⟨0, Nat.zero_le _, rfl, rfl, 0, rfl⟩
      case round =>
        obtain ⟨k, hk, rfl, ht, m, rfl⟩ := hrel
        have HT := Lib.hid ht
        clear ht
        obtain ⟨hl, hl', hc, hc'⟩ := H.out
        by_cases hlt : k < n
        · obtain ⟨p, hp⟩ : ∃ p, ps[k]? = some p := ⟨_, List.getElem?_eq_getElem (by omega)⟩
          obtain ⟨q, hq⟩ : ∃ q, qs[k]? = some q := ⟨_, List.getElem?_eq_getElem (by omega)⟩
          have c1 := hc k p hp
          have c2 := hc' k q hq
          have HP := Lib.hid (And.intro hp hq)
          clear hp hq hc hc' hl hl'
          by_cases he : p = q
          · subst he
            go_wp2_with fail
            go_quiet (fail)
            go_wp2_with fail
            go_roundw
            case rel => exact ⟨k + 1, by omega, by go_num, take_eq_succ HP.out.1 HP.out.2 HT.out, by first | exact ⟨_, rfl⟩ | exact ⟨_, World.drewN_drewN _ _ _⟩⟩
            case measure => simp [intOf]; omega
          · have hne : (p != q) = true := by simpa using he
            have HNE := Lib.hid he
            clear he
            go_wp2_with fail
            go_quiet (fail)
            go_wp2_with fail
            go_ret
            exact ⟨ret_bool (eqB_at HP.out.1 HP.out.2 HNE.out).symm, by first | exact ⟨_, rfl⟩ | exact ⟨_, World.drewN_drewN _ _ _⟩⟩
        · obtain rfl : k = n := by omega
          have HF : Hid (eqB ps qs = true) := Lib.hid (eqB_all hl hl' HT.out)
          clear hl hl' hc hc'
          go_wp2
          go_ret
          exact ⟨ret_bool HF.out.symm, m, rfl⟩
  · have HF : Hid (eqB ps qs = false) := Lib.hid (eqB_len (by omega))
    have hne : ((n : Int) != (n' : Int)) = true := by rw [bne_iff_ne]; omega
    clear hl hl' h h'
    go_enter Try.func24, Try.ntmps24
    go_wp2
    go_ret
    exact ⟨ret_bool HF.out.symm, 0, rfl⟩

/- Contract: Nash of package split. -/

/-- Which division Nash takes. -/
def nashB (V : List (List Int)) : Nat := bst (fun t => nashS V (dz V.length (rowV V 0).length t) V.length) (V.length ^ (rowV V 0).length)

theorem ent_nash1 : Ent 77 := ent_of Try.func77 (by kernel_rfl) (by kernel_rfl)

theorem valV_rows {V : List (List Int)} {m : Nat} (h : valV V = true) (hm : m = (rowV V 0).length) : ∀ i, i < V.length → (rowV V i).length = m ∧ ∀ x ∈ rowV V i, 0 ≤ x ∧ x ≤ 100 := by
  intro i hi
  obtain ⟨_, _, h3⟩ := valV_iff.1 h
  have e : rowV V i = V[i]'hi := rowV_get (List.getElem?_eq_getElem hi)
  rw [e, hm]
  exact h3 _ (List.getElem_mem hi)

/-- What Nash leaves. -/
def NashPost (V : List (List Int)) (w : World) (e : Ending) (w' : World) : Prop :=
  (valV V = false ∧ e = .returned (.tuple #[.slice none 0 0, .int .i64 0, .int .i64 2]) ∧ Below w.heap.size w w') ∨
  (valV V = true ∧ ∃ A c, e = .returned (.tuple #[.slice (some A) (rowV V 0).length c, .int .i64 (posP (ownV V (dz V.length (rowV V 0).length (nashB V)) V.length)), .int .i64 0]) ∧
    (rowV V 0).length ≤ c ∧ c ≤ 9223372036854775807 ∧ Ints w' (some A) (dz V.length (rowV V 0).length (nashB V)) ∧ Below w.heap.size w w')

set_option maxRecDepth 100000 in
set_option maxHeartbeats 1600000 in
theorem nash_any (A : Option Addr) (n cap : Nat) (V : List (List Int)) (w : World) (hl : V.length = n) (hn : n ≤ 9223372036854775807) (hV : Mat w A V) :
    Calls Try.prog 43 #[.slice A n cap] w (NashPost V w) := by
  have hp : ∀ o, Blk (w.alloc (.cells #[o] 61)) w.heap.size 61 #[o] := fun o => Blk.new w 61 #[o] rfl
  have hz1 : ∀ o, (w.alloc o).heap.size = w.heap.size + 1 := fun o => by simp
  have H := Lib.hid (And.intro hl (And.intro hV (And.intro hp hz1)))
  clear hV hp hz1
  go_enter Try.func43, Try.ntmps43
  go_wp2_with fail
  refine (svalid_any A n cap V _ H.out.1 hn (H.out.2.1.below ((Below.refl _ _).alloc (Nat.le_refl _) _))).mono ?_
  rintro e w1 ⟨rfl, hb1⟩
  obtain ⟨b, hb⟩ : ∃ b, b = valV V := ⟨_, rfl⟩
  rw [← hb]
  have hBlk : Blk w1 w.heap.size 61 #[.slice A n cap] := (H.out.2.2.1 _).below hb1 (by go_size)
  have hbl1 : Below w.heap.size w w1 := ((Below.refl w.heap.size w).alloc (Nat.le_refl _) _).trans (hb1.mono (by go_size))
  have hw1 := hb1.size
  have c1 := hBlk.at1.1
  have HB := Lib.hid (And.intro hb (And.intro hBlk hbl1))
  clear hb hb1 hBlk hbl1
  cases b
  · go_wp2_with fail
    go_ret3
    exact .inl ⟨HB.out.1.symm, rfl, HB.out.2.2⟩
  · have hv1 := valV_iff.1 HB.out.1.symm
    have hn4 : 1 ≤ n ∧ n ≤ 4 := by rw [← hl]; exact hv1.1
    obtain ⟨m, hm⟩ : ∃ m, m = (rowV V 0).length := ⟨_, rfl⟩
    have hm7 : 1 ≤ m ∧ m ≤ 7 := by rw [hm]; exact hv1.2.1
    have HR := Lib.hid (And.intro hm (valV_rows HB.out.1.symm hm))
    clear hv1 hm
    go_wp2_with fail
    refine (best_any A n cap m V 77 #[.pointer (some ⟨w.heap.size, 0, none⟩)] (fun t => nashS V (dz n m t) n) w1 ent_nash1 (fun t => by simp [nashS]) H.out.1 hn4 HR.out.1 hm7 (H.out.2.1.below HB.out.2.2) ?hs).mono ?_
    case hs =>
      intro t w' ht hb' hB
      have hw := hb'.size
      refine nash1_any A n cap (some ⟨w1.heap.size + 3, 0, none⟩) m m w.heap.size V (dz n m t) w' ?_ H.out.1 hn4.2 (dz_length _ _ _) hm7.2 (by rw [← H.out.1]; exact HR.out.2) ((H.out.2.1.below HB.out.2.2).below hb') (blk_ints hB)
      exact (HB.out.2.1.below hb' HB.out.2.1.lt).at1.1
    rintro e w2 ⟨A2, c2, Am, cm, rfl, g1, g2, g3, g4, g5, g6, g7⟩
    obtain ⟨ad, rfl, hc⟩ := g6 1 (.int .i64 (posP (ownV V (dz n m (bst (fun t => nashS V (dz n m t) n) (n ^ m))) n))) rfl
    have HF := Lib.hid (And.intro g3 g7)
    have hlen : (nashS V (dz n m (bst (fun t => nashS V (dz n m t) n) (n ^ m))) n).length = 2 := rfl
    rw [hlen] at g4 ⊢
    clear g3 g6 g7 hlen
    have hbb : nashB V = bst (fun t => nashS V (dz n m t) n) (n ^ m) := by unfold nashB; rw [H.out.1, ← HR.out.1]
    have HBB := Lib.hid hbb
    clear hbb
    generalize bst (fun t => nashS V (dz n m t) n) (n ^ m) = bb at *
    obtain ⟨pp, hpp⟩ : ∃ pp, pp = posP (ownV V (dz n m bb) n) := ⟨_, rfl⟩
    rw [← hpp] at hc
    have HPP := Lib.hid hpp
    clear hpp
    have hc3 : w2.cell? ⟨ad.block, ad.off + 1, none⟩ = some (.int .i64 pp) := hc
    go_wp2_with fail
    go_quiet (fail)
    go_wp2_with fail
    go_ret3
    refine .inr ⟨HB.out.1.symm, A2, c2, ?_, by rw [← HR.out.1]; exact g1, g2, ?_, HB.out.2.2.trans (below_drewN (HF.out.2.mono HB.out.2.2.size) _)⟩
    · rw [H.out.1, ← HR.out.1, HBB.out, ← HPP.out]; rfl
    · rw [H.out.1, ← HR.out.1, HBB.out]; exact HF.out.1

theorem nash_31 : nashB [[3, 1], [1, 3]] = 1 ∧ valV [[3, 1], [1, 3]] = true ∧ posP (ownV [[3, 1], [1, 3]] (dz 2 2 1) 2) = 9 ∧ dz 2 2 1 = [0, 1] := by decide +kernel

theorem mat_31 (w : World) : Mat (((w.alloc (.cells #[.int .i64 3, .int .i64 1] 3)).alloc (.cells #[.int .i64 1, .int .i64 3] 3)).alloc (.cells #[.slice (some ⟨w.heap.size, 0, none⟩) 2 2, .slice (some ⟨w.heap.size + 1, 0, none⟩) 2 2] 23)) (some ⟨w.heap.size + 1 + 1, 0, none⟩) [[3, 1], [1, 3]] := by
  have b1 : Blk (((w.alloc (.cells #[.int .i64 3, .int .i64 1] 3)).alloc (.cells #[.int .i64 1, .int .i64 3] 3)).alloc (.cells #[.slice (some ⟨w.heap.size, 0, none⟩) 2 2, .slice (some ⟨w.heap.size + 1, 0, none⟩) 2 2] 23)) w.heap.size 3 (arr [3, 1]) := ((Blk.new w 3 _ rfl).alloc _).alloc _
  have b2 : Blk (((w.alloc (.cells #[.int .i64 3, .int .i64 1] 3)).alloc (.cells #[.int .i64 1, .int .i64 3] 3)).alloc (.cells #[.slice (some ⟨w.heap.size, 0, none⟩) 2 2, .slice (some ⟨w.heap.size + 1, 0, none⟩) 2 2] 23)) (w.heap.size + 1) 3 (arr [1, 3]) := (Blk.new _ 3 _ (by simp)).alloc _
  have b3 : Blk (((w.alloc (.cells #[.int .i64 3, .int .i64 1] 3)).alloc (.cells #[.int .i64 1, .int .i64 3] 3)).alloc (.cells #[.slice (some ⟨w.heap.size, 0, none⟩) 2 2, .slice (some ⟨w.heap.size + 1, 0, none⟩) 2 2] 23)) (w.heap.size + 1 + 1) 23 #[.slice (some ⟨w.heap.size, 0, none⟩) 2 2, .slice (some ⟨w.heap.size + 1, 0, none⟩) 2 2] := Blk.new _ 23 _ (by simp)
  intro j r hj
  match j with
  | 0 => injection hj with hj; subst hj; exact ⟨_, _, 2, rfl, b3.at2.1, by simp, by omega, blk_ints b1⟩
  | 1 => injection hj with hj; subst hj; exact ⟨_, _, 2, rfl, b3.at2.2.1, by simp, by omega, blk_ints b2⟩
  | j + 2 => simp at hj

set_option maxHeartbeats 1600000 in
theorem awake_any (w : World) : Calls Try.prog 22 #[] w fun e w' => e = .returned (.bool true) ∧ Below w.heap.size w w' := by
  have HM := Lib.hid (mat_31 w)
  obtain ⟨n1, n2, n3, n4⟩ := nash_31
  go_enter Try.func22, Try.ntmps22
  go_wp2_with fail
  refine (nash_any _ 2 2 [[3, 1], [1, 3]] _ rfl (by omega) HM.out).mono ?_
  rintro e w1 (⟨h, _⟩ | ⟨_, A1, c1, rfl, hc1, hc2, hI, hb⟩)
  · rw [n2] at h; cases h
  have e1 : (rowV [[3, 1], [1, 3]] 0).length = 2 := rfl
  have e2 : ([[3, 1], [1, 3]] : List (List Int)).length = 2 := rfl
  rw [n1, e1, e2, n4] at hI
  rw [n1, e1, e2, n3]
  have H1 := Lib.hid (And.intro hI hb)
  clear hI hb n1 n2 n3 n4 e1 e2
  go_wp2_with fail
  have hG : Ints (w1.alloc (.cells #[.int .i64 0, .int .i64 1] 3)) (some ⟨w1.heap.size, 0, none⟩) [0, 1] := blk_ints (Blk.new w1 3 (arr [0, 1]) rfl)
  refine (equal_any (some A1) (some ⟨w1.heap.size, 0, none⟩) 2 2 c1 2 [0, 1] [0, 1] _ rfl rfl (by omega) (H1.out.1.below ((Below.refl _ _).alloc (by go_size) _)) hG).mono ?_
  rintro e w2 ⟨rfl, kd, rfl⟩
  have e1 : eqB ([0, 1] : List Int) [0, 1] = true := by decide
  rw [e1]
  have H2 := Lib.hid ((((((Below.refl w.heap.size w).alloc (Nat.le_refl _) _).alloc (by go_size) _).alloc (by go_size) _).trans (H1.out.2.mono (by go_size))).alloc (by have := H1.out.2.size; simp at this; omega) (.cells #[.int .i64 0, .int .i64 1] 3))
  clear hG
  go_wp2
  go_ret
  exact ⟨rfl, below_drewN H2.out _⟩

/- Contract: division of package split. -/

/-- No person. -/
def badD (n : Nat) (x : Int) : Bool := decide (x < 0) || decide ((n : Int) ≤ x)
/-- A division of the goods. -/
def divV (V : List (List Int)) (d : List Int) : Bool := decide (d.length = (rowV V 0).length) && !d.any (badD V.length)

set_option maxHeartbeats 800000 in
theorem sdivision1_any (A : Option Addr) (x : Int) (Bv n cap : Nat) (w : World) (hv : w.cell? ⟨Bv, 0, none⟩ = some (.slice A n cap)) :
    Calls Try.prog 90 #[.int .i64 x, .pointer (some ⟨Bv, 0, none⟩)] w fun e w' => e = .returned (.bool (badD n x)) ∧ w = w' := by
  by_cases h : x < 0
  · have HB : Hid (badD n x = true) := Lib.hid (by unfold badD; rw [decide_eq_true h]; rfl)
    go_enter Try.func90, Try.ntmps90
    go_wp2_with fail
    go_ret
    exact ⟨ret_bool HB.out.symm, rfl⟩
  · have HB : Hid (badD n x = decide ((n : Int) ≤ x)) := Lib.hid (by unfold badD; rw [decide_eq_false h]; rfl)
    go_enter Try.func90, Try.ntmps90
    go_wp2_with fail
    go_ret
    exact ⟨ret_bool HB.out.symm, rfl⟩

/-- What IndexFunc leaves. -/
def AnyPostD (b : Bool) (w : World) (e : Ending) (w' : World) : Prop := ∃ r : Int, e = .returned (.int .i64 r) ∧ w = w' ∧ -1 ≤ r ∧ decide (0 ≤ r) = b
set_option maxHeartbeats 800000 in
theorem indexD_any (D A : Option Addr) (nd capd n cap Bv : Nat) (d : List Int) (w : World) (hv : w.cell? ⟨Bv, 0, none⟩ = some (.slice A n cap))
    (hl : d.length = nd) (hn : nd ≤ 9223372036854775807) (hD : Ints w D d) :
    Calls Try.prog 107 #[.slice D nd capd, .func (.func 90) #[] #[.pointer (some ⟨Bv, 0, none⟩)]] w (AnyPostD (d.any (badD n)) w) := by
  have H := Lib.hid (And.intro hl hD)
  clear hl hD
  go_enter Try.func107, Try.ntmps107
  go_wp2_with fail
  go_loop [8] (fun i => ∃ k : Nat, k ≤ nd ∧ i = .int .i64 k ∧ (d.take k).any (badD n) = false) (fun i => nd - (intOf i).toNat)
  case atStart => exact ⟨0, Nat.zero_le _, rfl, by simp⟩
  case round =>
    obtain ⟨k, hk, rfl, ha⟩ := hrel
    have HA := Lib.hid ha
    clear ha
    by_cases hlt : k < nd
    · obtain ⟨x, hx⟩ : ∃ x, d[k]? = some x := ⟨_, List.getElem?_eq_getElem (by have := H.out.1; omega)⟩
      obtain ⟨ad, rfl, hc⟩ := H.out.2 k (.int .i64 x) (by rw [List.getElem?_map, hx]; rfl)
      have HX := Lib.hid hx
      have l1 : (k : Int) < (nd : Int) := by omega
      clear hx
      go_wp2_with fail
      refine (sdivision1_any A x Bv n cap _ hv).mono ?_
      rintro e w' ⟨rfl, rfl⟩
      cases hb : badD n x
      · have HN : Hid ((d.take (k + 1)).any (badD n) = false) := Lib.hid (by rw [List.take_add_one, HX.out, List.any_append, HA.out]; simp [hb])
        clear hb
        go_wp2_with fail
        go_round
        case rel => exact ⟨k + 1, by omega, by go_num, HN.out⟩
        case measure => simp [intOf]; omega
      · have HN : Hid (d.any (badD n) = true) := Lib.hid (List.any_eq_true.2 ⟨x, List.mem_of_getElem? HX.out, hb⟩)
        clear hb
        go_wp2_with fail
        go_ret
        exact ⟨(k : Int), rfl, rfl, by omega, by rw [HN.out, decide_eq_true (by omega)]⟩
    · have HN : Hid (d.any (badD n) = false) := Lib.hid (by have h := HA.out; rwa [List.take_of_length_le (by rw [H.out.1]; omega)] at h)
      go_wp2_with fail
      go_ret
      exact ⟨-1, rfl, rfl, by omega, by rw [HN.out]; rfl⟩

theorem containsD_any (D A : Option Addr) (nd capd n cap Bv : Nat) (d : List Int) (w : World) (hv : w.cell? ⟨Bv, 0, none⟩ = some (.slice A n cap))
    (hl : d.length = nd) (hn : nd ≤ 9223372036854775807) (hD : Ints w D d) :
    Calls Try.prog 89 #[.slice D nd capd, .func (.func 90) #[] #[.pointer (some ⟨Bv, 0, none⟩)]] w fun e w' => e = .returned (.bool (d.any (badD n))) ∧ w = w' := by
  go_enter Try.func89, Try.ntmps89
  go_wp2_with fail
  refine (indexD_any D A nd capd n cap Bv d _ hv hl hn hD).mono ?_
  rintro e w' ⟨r, rfl, rfl, hr, hd⟩
  have HD := Lib.hid hd
  clear hd hv hl hD
  go_wp2_with fail
  go_ret
  exact ⟨ret_bool HD.out, rfl⟩

set_option maxHeartbeats 800000 in
theorem sdivision_any (A D : Option Addr) (n cap nd capd m : Nat) (V : List (List Int)) (d : List Int) (w : World) (hlV : V.length = n) (hn : 1 ≤ n ∧ n ≤ 1000) (hm : m = (rowV V 0).length) (hm7 : m ≤ 1000) (hV : Mat w A V)
    (hl : d.length = nd) (hnd : nd ≤ 9223372036854775807) (hD : Ints w D d) :
    Calls Try.prog 49 #[.slice A n cap, .slice D nd capd] w fun e w' => e = .returned (.bool (divV V d)) ∧ Below w.heap.size w w' := by
  have hp : ∀ o, (w.alloc (.cells #[o] 61)).cell? ⟨w.heap.size, 0, none⟩ = some o := fun o => (Blk.new w 61 #[o] rfl).at1.1
  have hbw : ∀ o, Below w.heap.size w (w.alloc o) := fun o => (Below.refl _ _).alloc (Nat.le_refl _) _
  obtain ⟨b, hb⟩ : ∃ b, b = divV V d := ⟨_, rfl⟩
  rw [← hb]
  have H := Lib.hid (And.intro hlV (And.intro hm (And.intro hV (And.intro hl (And.intro hD (And.intro hbw hb))))))
  have hp1 := hp (.slice A n cap)
  clear hlV hm hV hl hD hbw hb hp
  go_enter Try.func49, Try.ntmps49
  go_wp2_with fail
  refine (goods_any A n cap m V _ H.out.1 hn.1 hn.2 H.out.2.1 hm7 (H.out.2.2.1.below (H.out.2.2.2.2.2.1 _))).mono ?_
  rintro e w' ⟨rfl, rfl⟩
  by_cases he : nd = m
  · subst he
    have HB : Hid (b = !d.any (badD n)) := Lib.hid (by rw [H.out.2.2.2.2.2.2]; unfold divV; rw [H.out.2.2.2.1, ← H.out.2.1, decide_eq_true rfl, H.out.1]; rfl)
    go_wp2_with fail
    refine (containsD_any D A nd capd n cap w.heap.size d _ hp1 H.out.2.2.2.1 hnd (H.out.2.2.2.2.1.below (H.out.2.2.2.2.2.1 _))).mono ?_
    rintro e w' ⟨rfl, rfl⟩
    go_wp2_with fail
    go_ret
    exact ⟨ret_bool HB.out.symm, H.out.2.2.2.2.2.1 _⟩
  · have HB : Hid (b = false) := Lib.hid (by rw [H.out.2.2.2.2.2.2]; unfold divV; rw [H.out.2.2.2.1, ← H.out.2.1, decide_eq_false he]; rfl)
    have h1 : ((nd : Int) == (m : Int)) = false := by rw [beq_eq_false_iff_ne]; omega
    clear he
    go_wp2_with fail
    go_ret
    exact ⟨ret_bool HB.out.symm, H.out.2.2.2.2.2.1 _⟩

/- Contract: Better of package split. -/

def binv (G : Nat) (w0 : World) (n m : Nat) (V : List (List Int)) (d : List Int) (wv : Value) (t : Nat) (w : World) : Prop :=
  Below G w0 w ∧ Blk w G 23 #[wv] ∧ Blk w (G + 1) 64 #[.slice none 0 0] ∧ ∀ s, s < t → better V d (dz n m s) = false
def bdone (G : Nat) (w0 : World) (n m : Nat) (V : List (List Int)) (d : List Int) (w : World) : Prop :=
  ∃ t A c, t < n ^ m ∧ (∀ s, s < t → better V d (dz n m s) = false) ∧ better V d (dz n m t) = true ∧ Blk w (G + 1) 64 #[.slice (some A) m c] ∧ m ≤ c ∧ c ≤ 9223372036854775807 ∧ Ints w (some A) (dz n m t) ∧ Below G w0 w
theorem binv_set {G : Nat} {w0 : World} {n m : Nat} {V : List (List Int)} {d : List Int} {wv : Value} {t : Nat} {w : World} (h : binv G w0 n m V d wv t w) (i : Nat) (v : Value) : binv G w0 n m V d wv t (w.setCell ⟨G + 2, i, none⟩ v) :=
  ⟨h.1.setCell (by show G ≤ G + 2; omega) _, h.2.1.far (by show G ≠ G + 2; omega) _, h.2.2.1.far (by show G + 1 ≠ G + 2; omega) _, h.2.2.2⟩

set_option maxRecDepth 100000 in
set_option maxHeartbeats 1600000 in
theorem sbetter1_any (G Bv n m cap cw : Nat) (A Aw : Option Addr) (V : List (List Int)) (d : List Int) (w0 : World) (t : Nat) (w : World) (ht : t < n ^ m)
    (hl : V.length = n) (hn : 1 ≤ n ∧ n ≤ 4) (hm7 : 1 ≤ m ∧ m ≤ 7) (hr : ∀ i, i < n → (rowV V i).length = m ∧ ∀ x ∈ rowV V i, 0 ≤ x ∧ x ≤ 100)
    (hG : w0.heap.size = G) (hv : w0.cell? ⟨Bv, 0, none⟩ = some (.slice A n cap)) (hV : Mat w0 A V) (hW : Ints w0 Aw (ownV V d n))
    (hinv : binv G w0 n m V d (.slice Aw n cw) t w) (hD : Blk w (G + 2) 3 (arr (dz n m t))) :
    Calls Try.prog 52 #[.slice (some ⟨G + 2, 0, none⟩) m m, .pointer (some ⟨Bv, 0, none⟩), .pointer (some ⟨G, 0, none⟩), .pointer (some ⟨G + 1, 0, none⟩)] w (EachPost (binv G w0 n m V d (.slice Aw n cw)) (bdone G w0 n m V d) n m t (G + 2)) := by
  have qT : ∀ (w : World) (a : Option Addr) (n c n' c' : Nat), (binOp .eql 64 (.slice a n c) (.slice none n' c')).run Try.prog w = .ok (.bool a.isNone) w := fun w a n c n' c' => Lib.run_eql_slice_nil w _ _ a n c n' c' Try.underlying64
  obtain ⟨hbl, h7, h8, hno⟩ := hinv
  obtain ⟨x, hx⟩ : ∃ x, x = ownV V (dz n m t) n := ⟨_, rfl⟩
  obtain ⟨y, hy⟩ : ∃ y, y = ownV V d n := ⟨_, rfl⟩
  have hbet : better V d (dz n m t) = (!lessAny x y && !decide (x = y)) := by
    unfold better
    rw [hl, ← hx, ← hy]
    exact bet_eq (by rw [hx, hy, ownV_length, ownV_length])
  have hvw := (hbl.cell (by rw [← hG]; exact lt_of_cell hv)).trans hv
  rw [← hy] at hW
  have hb0 : Below w0.heap.size w0 w := by rw [hG]; exact hbl
  have hDl := hD.lt
  have H := Lib.hid (And.intro hl (And.intro hr (And.intro (hV.below hb0) (And.intro (hW.below hb0) (And.intro hbl (And.intro h7 (And.intro h8 (And.intro hno (And.intro hD hbet)))))))))
  have HX := Lib.hid (And.intro hx (And.intro (show x.length = n by rw [hx, ownV_length]) (show y.length = n by rw [hy, ownV_length])))
  clear hl hr hv hV hW hbl h7 h8 hno hD hx hy hbet hb0
  go_enter Try.func52, Try.ntmps52
  go_wp2_with fail
  refine (own_any A n cap (some ⟨G + 2, 0, none⟩) m m V (dz n m t) _ H.out.1 (by omega) (dz_length _ _ _) (by omega) H.out.2.1 H.out.2.2.1 (blk_ints H.out.2.2.2.2.2.2.2.2.1)).mono ?_
  rintro e w1 ⟨A1, c1, rfl, hown1, hb1⟩
  have hI1 : Ints w1 A1 x := by rw [HX.out.1]; exact At.of_own hown1
  have hw1 := hb1.size
  have h71 := H.out.2.2.2.2.2.1.below hb1 (by omega)
  have h81 := H.out.2.2.2.2.2.2.1.below hb1 (by omega)
  have H1 := Lib.hid (And.intro hI1 (And.intro (H.out.2.2.2.1.below hb1) (And.intro (H.out.2.2.2.2.1.trans (hb1.mono (by omega))) (And.intro h71 (And.intro h81 (H.out.2.2.2.2.2.2.2.2.1.below hb1 (by omega)))))))
  obtain ⟨p7, q7⟩ := h71.at1
  obtain ⟨p8, q8⟩ := h81.at1
  clear hown1 hI1 hb1 h71 h81
  go_wp2_with fail
  go_loopw [7, 14] (fun bv iv wr => ∃ k nd : Nat, k ≤ n ∧ iv = .int .i64 k ∧ bv = .bool (lessAny (x.take k) (y.take k)) ∧ wr = w1.drewN nd) (fun _ iv _ => n - (intOf iv).toNat)
  case atStart => exact ⟨0, 0, Nat.zero_le _, rfl, rfl, rfl⟩
  case round =>
    obtain ⟨k, nd, hk, rfl, rfl, rfl⟩ := hrel
    have p7' : (w1.drewN nd).cell? ⟨G, 0, none⟩ = some (.slice Aw n cw) := p7
    by_cases hlt : k < n
    · obtain ⟨a, ha⟩ : ∃ a, x[k]? = some a := ⟨_, List.getElem?_eq_getElem (by have := HX.out.2.1; omega)⟩
      obtain ⟨b, hb⟩ : ∃ b, y[k]? = some b := ⟨_, List.getElem?_eq_getElem (by have := HX.out.2.2; omega)⟩
      obtain ⟨ax, rfl, hcx⟩ := H1.out.1 k (.int .i64 a) (by rw [List.getElem?_map, ha]; rfl)
      obtain ⟨ay, rfl, hcy⟩ := H1.out.2.1 k (.int .i64 b) (by rw [List.getElem?_map, hb]; rfl)
      have HT := Lib.hid (lessAny_take ha hb)
      have l1 : (k : Int) < (n : Int) := by omega
      clear ha hb
      generalize lessAny (x.take k) (y.take k) = le at *
      cases le
      · go_wp2_with fail
        go_quiet (fail)
        go_wp2_with fail
        go_roundw
        case rel => exact ⟨k + 1, _, by omega, by go_num, by rw [HT.out]; rfl, rfl⟩
        case measure => simp [intOf]; omega
      · go_wp2_with fail
        go_quiet (fail)
        go_wp2_with fail
        go_roundw
        case rel => exact ⟨k + 1, _, by omega, by go_num, by rw [HT.out]; rfl, rfl⟩
        case measure => simp [intOf]; omega
    · obtain rfl : k = n := by omega
      have hT : x.take k = x := List.take_of_length_le (by have := HX.out.2.1; omega)
      have hT2 : y.take k = y := List.take_of_length_le (by have := HX.out.2.2; omega)
      rw [hT, hT2]
      have HBE := Lib.hid H.out.2.2.2.2.2.2.2.2.2
      clear hT hT2
      have stay : ∀ nd', better V d (dz k m t) = false → binv G w0 k m V d (.slice Aw k cw) (t + 1) (w1.drewN nd') ∧ Blk (w1.drewN nd') (G + 2) 3 (arr (dz k m t)) := fun nd' hb =>
        ⟨⟨below_drewN H1.out.2.2.1 _, H1.out.2.2.2.1, H1.out.2.2.2.2.1, fun s hs => by
          rcases Nat.lt_succ_iff_lt_or_eq.1 hs with h | h
          · exact H.out.2.2.2.2.2.2.2.1 s h
          · rw [h]; exact hb⟩, H1.out.2.2.2.2.2⟩
      have STAY := Lib.hid stay
      clear stay
      have p8' : ∀ nd, (w1.drewN nd).cell? ⟨G + 1, 0, none⟩ = some (.slice none 0 0) := fun _ => p8
      generalize lessAny x y = le at *
      cases le
      · go_wp2_with fail
        refine (equal_any A1 Aw k k c1 cw x y (w1.drewN nd) HX.out.2.1 HX.out.2.2 (by omega) H1.out.1 H1.out.2.1).mono ?_
        rintro e w2 ⟨rfl, ne, rfl⟩
        have p8'' : ((w1.drewN nd).drewN ne).cell? ⟨G + 1, 0, none⟩ = some (.slice none 0 0) := p8
        have q8'' : ((w1.drewN nd).drewN ne).frozen? ⟨G + 1, 0, none⟩ = false := q8
        have HBE2 : Hid (better V d (dz k m t) = !eqB x y) := Lib.hid (by rw [HBE.out]; rfl)
        generalize eqB x y = ee at *
        cases ee
        · go_wp2_with fail
          refine (cloneD_any (some ⟨G + 2, 0, none⟩) m m (dz k m t) (w1.drewN (nd + ne)) (by rw [dz_length]) (by omega) (blk_ints (Blk.drewN H1.out.2.2.2.2.2 _))).mono ?_
          rintro e w3 ⟨A2, c2, rfl, hown2, hb2⟩
          have hI2 : Ints w3 A2 (dz k m t) := At.of_own hown2
          obtain ⟨g, rfl, hg, _⟩ := own_some hown2 (by omega)
          obtain ⟨_, _, he2, hc21, hc22, _⟩ := own_form hown2
          injection he2 with e4 _ e5
          subst e4
          subst e5
          have hg' : G + 2 < g := by have : w1.heap.size ≤ g := hg; omega
          have hb2' : Below w1.heap.size w1 w3 := (below_drewN (Below.refl w1.heap.size w1) (nd + ne)).trans hb2
          have g8 := H1.out.2.2.2.2.1.below hb2' (by omega)
          obtain ⟨r8, s8⟩ := g8.at1
          have H3 := Lib.hid (And.intro hI2 (And.intro hb2' g8))
          clear hown2 hI2 hb2 hb2' g8
          go_wp2_with fail
          go_ret
          refine .inr ⟨rfl, t, ⟨g, 0, none⟩, c2, ht, H.out.2.2.2.2.2.2.2.1, by rw [HBE2.out]; rfl, H3.out.2.2.set_ 0 _, hc21, hc22, ?_, ?_⟩
          · exact ints_far H3.out.1 (fun ad ha => by injection ha with ha; subst ha; show g ≠ G + 1; omega) _
          · exact (H1.out.2.2.1.trans (H3.out.2.1.mono (by omega))).setCell (by show G ≤ G + 1; omega) _
        · go_wp2_with fail
          go_ret
          refine .inl ⟨rfl, ?_⟩
          exact STAY.out (nd + ne) (by rw [HBE2.out]; rfl)
      · go_wp2_with fail
        go_ret
        exact .inl ⟨rfl, STAY.out _ (by rw [HBE.out]; rfl)⟩

theorem ent_better1 : Ent 52 := ent_of Try.func52 (by kernel_rfl) (by kernel_rfl)

theorem find_first {n m t : Nat} (hn : 0 < n) {p : List Int → Bool} (ht : t < n ^ m) (hno : ∀ s, s < t → p (dz n m s) = false) (hp : p (dz n m t) = true) : (divs n m).find? p = some (dz n m t) := by
  rw [divs_eq hn]
  refine find_take (k := t) (by simp [ht]) ?_ hp
  rw [List.find?_eq_none]
  intro x hx
  rw [← List.map_take, List.take_range] at hx
  obtain ⟨s, hs, rfl⟩ := List.mem_map.1 hx
  rw [hno s (by have := List.mem_range.1 hs; omega)]; simp
theorem find_not {n m : Nat} (hn : 0 < n) {p : List Int → Bool} (hno : ∀ s, s < n ^ m → p (dz n m s) = false) : (divs n m).find? p = none := by
  rw [divs_eq hn, List.find?_eq_none]
  intro x hx
  obtain ⟨s, hs, rfl⟩ := List.mem_map.1 hx
  rw [hno s (List.mem_range.1 hs)]; simp

/-- What Better of package split leaves. -/
def SBetPost (V : List (List Int)) (d : List Int) (w : World) (e : Ending) (w' : World) : Prop :=
  ((valV V && divV V d) = false ∧ e = .returned (.tuple #[.slice none 0 0, .int .i64 2]) ∧ Below w.heap.size w w') ∨
  ((valV V && divV V d) = true ∧ BetPost ((divs V.length (rowV V 0).length).find? (better V d)) w e w')

set_option maxRecDepth 100000 in
set_option maxHeartbeats 1600000 in
theorem sbetter_any (A D : Option Addr) (n cap nd capd : Nat) (V : List (List Int)) (d : List Int) (w : World) (hl : V.length = n) (hn : n ≤ 9223372036854775807) (hV : Mat w A V) (hld : d.length = nd) (hnd : nd ≤ 9223372036854775807) (hD : Ints w D d) :
    Calls Try.prog 18 #[.slice A n cap, .slice D nd capd] w (SBetPost V d w) := by
  have qT : ∀ (w : World) (a : Option Addr) (n c n' c' : Nat), (binOp .eql 64 (.slice a n c) (.slice none n' c')).run Try.prog w = .ok (.bool a.isNone) w := fun w a n c n' c' => Lib.run_eql_slice_nil w _ _ a n c n' c' Try.underlying64
  have hp : ∀ o, Blk (w.alloc (.cells #[o] 61)) w.heap.size 61 #[o] := fun o => Blk.new w 61 #[o] rfl
  have hz1 : ∀ o, (w.alloc o).heap.size = w.heap.size + 1 := fun o => by simp
  have hbw : ∀ o, Below w.heap.size w (w.alloc o) := fun o => (Below.refl _ _).alloc (Nat.le_refl _) _
  have H := Lib.hid (And.intro hl (And.intro hV (And.intro hld (And.intro hD (And.intro hp hbw)))))
  clear hl hV hld hD hp hz1 hbw
  go_enter Try.func18, Try.ntmps18
  go_wp2_with fail
  refine (svalid_any A n cap V _ H.out.1 hn (H.out.2.1.below (H.out.2.2.2.2.2 _))).mono ?_
  rintro e w1 ⟨rfl, hb1⟩
  have hBlk : Blk w1 w.heap.size 61 #[.slice A n cap] := (H.out.2.2.2.2.1 _).below hb1 (by go_size)
  have hbl1 : Below w.heap.size w w1 := (H.out.2.2.2.2.2 _).trans (hb1.mono (by go_size))
  have hw1 := hb1.size
  have c1 := hBlk.at1.1
  have H1 := Lib.hid (And.intro hBlk hbl1)
  clear hb1 hBlk hbl1
  cases hv : valV V
  · have HV := Lib.hid hv
    clear hv
    go_wp2_with fail
    go_ret2
    exact .inl ⟨by rw [HV.out]; rfl, rfl, H1.out.2⟩
  · have hv1 := valV_iff.1 hv
    have hn4 : 1 ≤ n ∧ n ≤ 4 := by rw [← H.out.1]; exact hv1.1
    obtain ⟨m, hm⟩ : ∃ m, m = (rowV V 0).length := ⟨_, rfl⟩
    have hm7 : 1 ≤ m ∧ m ≤ 7 := by rw [hm]; exact hv1.2.1
    have HV := Lib.hid (And.intro hv (And.intro hm (valV_rows hv hm)))
    clear hv hv1 hm
    go_wp2_with fail
    refine (sdivision_any A D n cap nd capd m V d w1 H.out.1 (by omega) HV.out.2.1 (by omega) (H.out.2.1.below H1.out.2) H.out.2.2.1 hnd (H.out.2.2.2.1.below H1.out.2)).mono ?_
    rintro e w2 ⟨rfl, hb2⟩
    have hw2 := hb2.size
    have hB2 := H1.out.1.below hb2 H1.out.1.lt
    have c2 := hB2.at1.1
    have H2 := Lib.hid (And.intro hB2 (H1.out.2.trans (hb2.mono (by have := H1.out.2.size; omega))))
    clear hb2 hB2
    cases hd : divV V d
    · have HD := Lib.hid hd
      clear hd
      go_wp2_with fail
      go_ret2
      exact .inl ⟨by rw [HD.out, Bool.and_false], rfl, H2.out.2⟩
    · have hdm : nd = m := by
        unfold divV at hd
        simp only [Bool.and_eq_true, decide_eq_true_eq] at hd
        rw [← H.out.2.2.1, hd.1, ← HV.out.2.1]
      subst hdm
      have HD := Lib.hid hd
      clear hd
      go_wp2_with fail
      refine (own_any A n cap D nd capd V d w2 H.out.1 (by omega) H.out.2.2.1 (by omega) (by rw [← H.out.1]; exact HV.out.2.2) (H.out.2.1.below H2.out.2) (H.out.2.2.2.1.below H2.out.2)).mono ?_
      rintro e w3 ⟨Aw, cw, rfl, hown3, hb3⟩
      have hI3 : Ints w3 Aw (ownV V d n) := At.of_own hown3
      have hw3 := hb3.size
      have hB3 := H2.out.1.below hb3 H2.out.1.lt
      have c3 := hB3.at1.1
      have c5 : ∀ o1 o2, ((w3.alloc o1).alloc o2).cell? ⟨w.heap.size, 0, none⟩ = some (.slice A n cap) := fun o1 o2 => ((hB3.alloc o1).alloc o2).at1.1
      have h03 : Below w.heap.size w w3 := H2.out.2.trans (hb3.mono (by have := H2.out.2.size; omega))
      have b7 : ∀ o1 o2, Blk ((w3.alloc (.cells #[o1] 23)).alloc (.cells #[o2] 64)) w3.heap.size 23 #[o1] := fun o1 o2 => (Blk.new _ _ _ rfl).alloc _
      have b8 : ∀ o1 o2, Blk ((w3.alloc (.cells #[o1] 23)).alloc (.cells #[o2] 64)) (w3.heap.size + 1) 64 #[o2] := fun o1 o2 => Blk.new _ _ _ (by simp)
      have b5 : ∀ o1 o2, Below w3.heap.size w3 ((w3.alloc (.cells #[o1] 23)).alloc (.cells #[o2] 64)) := fun o1 o2 => ((Below.refl _ _).alloc (Nat.le_refl _) _).alloc (by go_size) _
      have hz : ∀ o1 o2 : Obj, ((w3.alloc o1).alloc o2).heap.size = w3.heap.size + 2 := fun o1 o2 => by simp
      have H3 := Lib.hid (And.intro hI3 (And.intro hB3 (And.intro h03 (And.intro b7 (And.intro b8 (And.intro b5 hz))))))
      clear hown3 hI3 hb3 hB3 h03 b7 b8 b5 hz
      go_wp2_with fail
      refine (each_any 52 #[.pointer (some ⟨w.heap.size, 0, none⟩), .pointer (some ⟨w3.heap.size, 0, none⟩), .pointer (some ⟨w3.heap.size + 1, 0, none⟩)] A n cap nd V _ (binv w3.heap.size w3 n nd V d (.slice Aw n cw)) (bdone w3.heap.size w3 n nd V d) ent_better1 H.out.1 hn4 HV.out.2.1 hm7 ((H.out.2.1.below H3.out.2.2.1).below (H3.out.2.2.2.2.2.1 _ _)) ?hst ?hset ?hcall).mono ?_
      case hst =>
        exact ⟨(H3.out.2.2.2.2.2.1 _ _).alloc (by go_size) _, (H3.out.2.2.2.1 _ _).alloc _, (H3.out.2.2.2.2.1 _ _).alloc _, fun s hs => by omega⟩
      case hset =>
        intro t w' i v h
        rw [H3.out.2.2.2.2.2.2]
        exact binv_set h i v
      case hcall =>
        intro t w' ht hinv hB
        rw [H3.out.2.2.2.2.2.2] at hB ⊢
        exact sbetter1_any w3.heap.size w.heap.size n nd cap cw A Aw V d w3 t w' ht H.out.1 hn4 hm7 (by rw [← H.out.1]; exact HV.out.2.2) rfl c3 (H.out.2.1.below H3.out.2.2.1) H3.out.1 hinv hB
      rintro e w5 ⟨rfl, hi | hi⟩
      · obtain ⟨g1, g2, g3, g4⟩ := hi
        obtain ⟨p8, q8⟩ := g3.at1
        have HF := Lib.hid (And.intro (find_not (by omega) g4) (H3.out.2.2.1.trans (g1.mono H3.out.2.2.1.size)))
        clear g1 g2 g3 g4
        go_wp2_with fail
        go_ret2
        refine .inr ⟨by rw [HV.out.1, HD.out]; rfl, .inl ⟨?_, rfl, HF.out.2⟩⟩
        rw [H.out.1, ← HV.out.2.1]; exact HF.out.1
      · obtain ⟨t, A8, c8, g1, g2, g3, g4, g5, g6, g7, g8⟩ := hi
        obtain ⟨p8, q8⟩ := g4.at1
        have HF := Lib.hid (And.intro (find_first (by omega) g1 g2 g3) (And.intro g7 (H3.out.2.2.1.trans (g8.mono H3.out.2.2.1.size))))
        clear g1 g2 g3 g4 g7 g8
        go_wp2_with fail
        go_ret2
        refine .inr ⟨by rw [HV.out.1, HD.out]; rfl, .inr ⟨dz n nd t, some A8, c8, ?_, by rw [dz_length]; rfl, by rw [dz_length]; exact hm7.2, HF.out.2.1, HF.out.2.2⟩⟩
        rw [H.out.1, ← HV.out.2.1]; exact HF.out.1

/- Contracts: Valid and Division of the reference, divided of package corrodylaw01. -/

set_option maxHeartbeats 800000 in
theorem worths_any (A : Option Addr) (n cap : Nat) (r : List Int) (w : World) (hl : r.length = n) (hn : n ≤ 9223372036854775807) (hI : Ints w A r) :
    Calls Try.prog 59 #[.slice A n cap] w fun e w' => e = .returned (.bool (r.all in100)) ∧ w = w' := by
  have H := Lib.hid (And.intro hl hI)
  clear hl hI
  go_enter Try.func59, Try.ntmps59
  go_wp2_with fail
  go_loop [7] (fun i => ∃ k : Nat, k ≤ n ∧ i = .int .i64 k ∧ (r.take k).all in100 = true) (fun i => n - (intOf i).toNat)
  case atStart => exact ⟨0, Nat.zero_le _, rfl, by simp⟩
  case round =>
    obtain ⟨k, hk, rfl, ha⟩ := hrel
    have HA := Lib.hid ha
    clear ha
    by_cases hlt : k < n
    · obtain ⟨x, hx⟩ : ∃ x, r[k]? = some x := ⟨_, List.getElem?_eq_getElem (by have := H.out.1; omega)⟩
      obtain ⟨ad, rfl, hc⟩ := H.out.2 k (.int .i64 x) (by rw [List.getElem?_map, hx]; rfl)
      have HX := Lib.hid hx
      have l1 : (k : Int) < (n : Int) := by omega
      clear hx
      have hbad : in100 x = false → Hid (false = r.all in100) := fun h => Lib.hid (by
        symm
        rw [List.all_eq_false]
        exact ⟨x, List.mem_of_getElem? HX.out, by simp [h]⟩)
      by_cases h0 : x < 0
      · have HB := hbad (by simp [in100]; omega)
        clear hbad
        go_wp2_with fail
        go_ret
        exact ⟨ret_bool HB.out, rfl⟩
      · by_cases h1 : 100 < x
        · have HB := hbad (by simp [in100]; omega)
          clear hbad
          go_wp2_with fail
          go_ret
          exact ⟨ret_bool HB.out, rfl⟩
        · have HN : Hid ((r.take (k + 1)).all in100 = true) := Lib.hid (by rw [List.take_add_one, HX.out, List.all_append, HA.out]; simp [in100]; omega)
          clear hbad
          go_wp2_with fail
          go_round
          case rel => exact ⟨k + 1, by omega, by go_num, HN.out⟩
          case measure => simp [intOf]; omega
    · have HN : Hid (true = r.all in100) := Lib.hid (by have h := HA.out; rw [List.take_of_length_le (by rw [H.out.1]; omega)] at h; exact h.symm)
      go_wp2_with fail
      go_ret
      exact ⟨ret_bool HN.out, rfl⟩

/-- A row of m values. -/
def okR (m : Nat) (r : List Int) : Bool := decide (r.length = m) && decide (1 ≤ r.length) && decide (r.length ≤ 7) && r.all in100
theorem valV_okR {V : List (List Int)} {m : Nat} (h1 : 1 ≤ V.length) (h4 : V.length ≤ 4) (hm : m = (rowV V 0).length) : valV V = V.all (okR m) := by
  have h0 : rowV V 0 ∈ V := by
    rw [rowV_get (List.getElem?_eq_getElem (by omega : 0 < V.length))]; exact List.getElem_mem _
  rw [Bool.eq_iff_iff, valV_iff, List.all_eq_true, ← hm]
  simp only [okR, Bool.and_eq_true, decide_eq_true_eq, List.all_eq_true, in100]
  constructor
  · intro ⟨_, h2, h3⟩ r hr
    have := h3 r hr
    exact ⟨⟨⟨this.1, by omega⟩, by omega⟩, this.2⟩
  · intro h
    have hh := h _ h0
    refine ⟨⟨h1, h4⟩, by omega, fun r hr => ⟨(h r hr).1.1.1, (h r hr).2⟩⟩

set_option maxRecDepth 100000 in
set_option maxHeartbeats 1600000 in
theorem r1valid_any (A : Option Addr) (n cap : Nat) (V : List (List Int)) (w : World) (hl : V.length = n) (hn : n ≤ 9223372036854775807) (hV : Mat w A V) :
    Calls Try.prog 30 #[.slice A n cap] w fun e w' => e = .returned (.bool (valV V)) ∧ w = w' := by
  obtain ⟨b, hb⟩ : ∃ b, b = valV V := ⟨_, rfl⟩
  rw [← hb]
  by_cases h1 : n < 1
  · have HF : Hid (false = b) := Lib.hid (by rw [hb]; unfold valV; rw [decide_eq_false (p := 1 ≤ V.length) (by omega)]; rfl)
    clear hb hl hV
    go_enter Try.func30, Try.ntmps30
    go_wp2_with fail
    go_ret
    exact ⟨ret_bool HF.out, rfl⟩
  · by_cases h2 : 4 < n
    · have HF : Hid (false = b) := Lib.hid (by rw [hb]; unfold valV; rw [decide_eq_false (p := V.length ≤ 4) (by omega)]; simp)
      clear hb hl hV
      go_enter Try.func30, Try.ntmps30
      go_wp2_with fail
      go_ret
      exact ⟨ret_bool HF.out, rfl⟩
    · obtain ⟨m, hm⟩ : ∃ m, m = (rowV V 0).length := ⟨_, rfl⟩
      obtain ⟨ad, rfl, had, hc⟩ := hV.some_ (by omega)
      obtain ⟨A0, c0, g1, g2, g3, g4⟩ := hc 0 _ (List.getElem?_eq_getElem (by omega))
      have e : (V[0]'(by omega)).length = m := by rw [hm, rowV_get (List.getElem?_eq_getElem (by omega))]
      rw [e] at g1 g2
      have g1' : w.cell? ad = some (.slice A0 m c0) := g1
      have H := Lib.hid (And.intro (hb.trans (valV_okR (by omega) (by omega) hm)) (And.intro hl (And.intro hm hc)))
      clear hb hl hm hc g1 g4 e hV
      go_enter Try.func30, Try.ntmps30
      go_wp2_with fail
      go_loop [15] (fun i => ∃ k : Nat, k ≤ n ∧ i = .int .i64 k ∧ (V.take k).all (okR m) = true) (fun i => n - (intOf i).toNat)
      case atStart => exact ⟨0, Nat.zero_le _, rfl, by simp⟩
      case round =>
        obtain ⟨k, hk, rfl, ha⟩ := hrel
        have HA := Lib.hid ha
        clear ha
        by_cases hlt : k < n
        · obtain ⟨r, hr⟩ : ∃ r, V[k]? = some r := ⟨_, List.getElem?_eq_getElem (by have := H.out.2.1; omega)⟩
          obtain ⟨A', c, q1, q2, q3, q4⟩ := H.out.2.2.2 k r hr
          obtain ⟨rl, hrl⟩ : ∃ rl, rl = r.length := ⟨_, rfl⟩
          rw [← hrl] at q1 q2
          have HX := Lib.hid (And.intro hr (And.intro hrl q4))
          have l1 : (k : Int) < (n : Int) := by omega
          have l0 : (0 : Int) < (n : Int) := by omega
          clear hr hrl q4
          have hbad : okR m r = false → Hid (false = b) := fun h => Lib.hid (by
            rw [H.out.1]
            symm
            rw [List.all_eq_false]
            exact ⟨r, List.mem_of_getElem? HX.out.1, by simp [h]⟩)
          by_cases e1 : rl = m
          · subst e1
            by_cases e2 : rl < 1
            · have HB := hbad (by unfold okR; rw [← HX.out.2.1, decide_eq_false (p := 1 ≤ rl) (by omega)]; simp)
              clear hbad
              go_wp2_with fail
              go_ret
              exact ⟨ret_bool HB.out, rfl⟩
            · by_cases e3 : 7 < rl
              · have HB := hbad (by unfold okR; rw [← HX.out.2.1, decide_eq_false (p := rl ≤ 7) (by omega)]; simp)
                clear hbad
                go_wp2_with fail
                go_ret
                exact ⟨ret_bool HB.out, rfl⟩
              · go_wp2_with fail
                refine (worths_any A' rl c r _ HX.out.2.1.symm (by omega) HX.out.2.2).mono ?_
                rintro e w' ⟨rfl, rfl⟩
                cases hv : r.all in100
                · have HB := hbad (by unfold okR; rw [hv]; simp)
                  clear hbad hv
                  go_wp2_with fail
                  go_ret
                  exact ⟨ret_bool HB.out, rfl⟩
                · have HN : Hid ((V.take (k + 1)).all (okR rl) = true) := Lib.hid (by
                    rw [List.take_add_one, HX.out.1, List.all_append, HA.out]
                    simp only [Option.toList, List.all_cons, List.all_nil, okR, ← HX.out.2.1, hv]
                    rw [decide_eq_true trivial, decide_eq_true (p := 1 ≤ rl) (by omega), decide_eq_true (p := rl ≤ 7) (by omega)]; rfl)
                  clear hbad hv
                  go_wp2_with fail
                  go_round
                  case rel => exact ⟨k + 1, by omega, by go_num, HN.out⟩
                  case measure => simp [intOf]; omega
          · have HB := hbad (by unfold okR; rw [← HX.out.2.1, decide_eq_false e1]; rfl)
            have hne : ((rl : Int) != (m : Int)) = true := by rw [bne_iff_ne]; omega
            clear hbad e1
            go_wp2_with fail
            go_ret
            exact ⟨ret_bool HB.out, rfl⟩
        · have HN : Hid (true = b) := Lib.hid (by have h := HA.out; rw [List.take_of_length_le (by rw [H.out.2.1]; omega)] at h; rw [H.out.1]; exact h.symm)
          go_wp2_with fail
          go_ret
          exact ⟨ret_bool HN.out, rfl⟩

set_option maxHeartbeats 800000 in
theorem r1division_any (A D : Option Addr) (n cap nd capd m : Nat) (V : List (List Int)) (d : List Int) (w : World) (hlV : V.length = n) (hn : 1 ≤ n ∧ n ≤ 1000) (hm : m = (rowV V 0).length) (hm7 : m ≤ 1000) (hV : Mat w A V)
    (hl : d.length = nd) (hnd : nd ≤ 9223372036854775807) (hD : Ints w D d) :
    Calls Try.prog 41 #[.slice A n cap, .slice D nd capd] w fun e w' => e = .returned (.bool (divV V d)) ∧ w = w' := by
  obtain ⟨b, hb⟩ : ∃ b, b = divV V d := ⟨_, rfl⟩
  rw [← hb]
  obtain ⟨ad, rfl, had, hc⟩ := hV.some_ (by omega)
  obtain ⟨A0, c0, g1, g2, g3, g4⟩ := hc 0 _ (List.getElem?_eq_getElem (by omega))
  have e : (V[0]'(by omega)).length = m := by rw [hm, rowV_get (List.getElem?_eq_getElem (by omega))]
  rw [e] at g1 g2
  have g1' : w.cell? ad = some (.slice A0 m c0) := g1
  have l0 : (0 : Int) < (n : Int) := by omega
  have H := Lib.hid (And.intro hb (And.intro hlV (And.intro hm (And.intro hl hD))))
  clear hb hlV hm hc g1 g4 e hV hl hD
  go_enter Try.func41, Try.ntmps41
  go_wp2_with fail
  go_loop [9] (fun i => ∃ k : Nat, k ≤ nd ∧ i = .int .i64 k ∧ (d.take k).any (badD n) = false) (fun i => nd - (intOf i).toNat)
  case atStart => exact ⟨0, Nat.zero_le _, rfl, by simp⟩
  case round =>
    obtain ⟨k, hk, rfl, ha⟩ := hrel
    have HA := Lib.hid ha
    clear ha
    by_cases hlt : k < nd
    · obtain ⟨x, hx⟩ : ∃ x, d[k]? = some x := ⟨_, List.getElem?_eq_getElem (by have := H.out.2.2.2.1; omega)⟩
      obtain ⟨ax, rfl, hcx⟩ := H.out.2.2.2.2 k (.int .i64 x) (by rw [List.getElem?_map, hx]; rfl)
      have HX := Lib.hid hx
      have l1 : (k : Int) < (nd : Int) := by omega
      clear hx
      have hbad : badD n x = true → Hid (false = b) := fun h => Lib.hid (by
        have h2 : d.any (badD n) = true := List.any_eq_true.2 ⟨x, List.mem_of_getElem? HX.out, h⟩
        rw [H.out.1]; unfold divV; rw [H.out.2.1, h2]; simp)
      by_cases h0 : x < 0
      · have HB := hbad (by simp [badD]; omega)
        clear hbad
        go_wp2_with fail
        go_ret
        exact ⟨ret_bool HB.out, rfl⟩
      · by_cases h1 : (n : Int) ≤ x
        · have HB := hbad (by simp [badD]; omega)
          clear hbad
          go_wp2_with fail
          go_ret
          exact ⟨ret_bool HB.out, rfl⟩
        · have HN : Hid ((d.take (k + 1)).any (badD n) = false) := Lib.hid (by rw [List.take_add_one, HX.out, List.any_append, HA.out]; simp [badD]; omega)
          clear hbad
          go_wp2_with fail
          go_round
          case rel => exact ⟨k + 1, by omega, by go_num, HN.out⟩
          case measure => simp [intOf]; omega
    · have HN : Hid (b = decide (nd = m)) := Lib.hid (by
        have h := HA.out
        rw [List.take_of_length_le (by rw [H.out.2.2.2.1]; omega)] at h
        rw [H.out.1]; unfold divV; rw [H.out.2.1, h, H.out.2.2.2.1, ← H.out.2.2.1]; simp)
      by_cases he : nd = m
      · subst he
        go_wp2_with fail
        go_ret
        exact ⟨ret_bool (by rw [HN.out]; simp), rfl⟩
      · have h1 : ((nd : Int) == (m : Int)) = false := by rw [beq_eq_false_iff_ne]; omega
        have HN2 : Hid (false = b) := Lib.hid (by rw [HN.out, decide_eq_false he])
        clear he
        go_wp2_with fail
        go_ret
        exact ⟨ret_bool HN2.out, rfl⟩

set_option maxHeartbeats 800000 in
theorem divided_any (A D : Option Addr) (n cap nd capd : Nat) (V : List (List Int)) (d : List Int) (w : World) (hlV : V.length = n) (hn : n ≤ 9223372036854775807) (hV : Mat w A V)
    (hl : d.length = nd) (hnd : nd ≤ 9223372036854775807) (hD : Ints w D d) :
    Calls Try.prog 21 #[.slice A n cap, .slice D nd capd] w fun e w' => e = .returned (.bool (valV V && divV V d)) ∧ w = w' := by
  have H := Lib.hid (And.intro hlV (And.intro hV (And.intro hl hD)))
  clear hlV hV hl hD
  go_enter Try.func21, Try.ntmps21
  go_wp2_with fail
  refine (r1valid_any A n cap V _ H.out.1 hn H.out.2.1).mono ?_
  rintro e w' ⟨rfl, rfl⟩
  cases hv : valV V
  · have HV := Lib.hid hv
    clear hv
    go_wp2_with fail
    go_ret
    exact ⟨ret_bool (by rw [HV.out]; rfl), rfl⟩
  · have HV1 := Lib.hid hv
    have hh := valV_iff.1 hv
    have h1 : 1 ≤ n ∧ n ≤ 1000 := by have := H.out.1; omega
    have h2 : (rowV V 0).length ≤ 1000 := by omega
    have HV := Lib.hid h2
    clear hv hh h2
    go_wp2_with fail
    refine (r1division_any A D n cap nd capd _ V d _ H.out.1 h1 rfl HV.out H.out.2.1 H.out.2.2.1 hnd H.out.2.2.2).mono ?_
    rintro e w' ⟨rfl, rfl⟩
    go_wp2_with fail
    go_ret
    exact ⟨ret_bool (by rw [HV1.out]; rfl), rfl⟩

/- Contract: Few of package corrodylaw01. -/

/-- What Few returns. -/
def fewV (V : List (List Int)) : List (List Int) := (V.take 6).map (·.take 9)
theorem fewV_on {V : List (List Int)} {k : Nat} {r : List Int} (h : V[k]? = some r) (hk : k < 6) : fewV (V.take (k + 1)) = fewV (V.take k) ++ [r.take 9] := by
  have hkl : k < V.length := (List.getElem?_eq_some_iff.1 h).1
  unfold fewV
  rw [List.take_take, List.take_take, Nat.min_eq_right (by omega), Nat.min_eq_right (by omega), List.take_add_one, h]
  simp
theorem fewV_off {V : List (List Int)} {k : Nat} (hk : 6 ≤ k) : fewV (V.take (k + 1)) = fewV (V.take k) := by
  unfold fewV
  rw [List.take_take, List.take_take, Nat.min_eq_left (by omega), Nat.min_eq_left (by omega)]
theorem fewV_length (V : List (List Int)) : (fewV V).length = min 6 V.length := by simp [fewV]

set_option maxRecDepth 100000 in
set_option maxHeartbeats 1600000 in
theorem few_any (A : Option Addr) (n cap : Nat) (V : List (List Int)) (w : World) (hl : V.length = n) (hn : n ≤ 9223372036854775807) (hV : Mat w A V) :
    Calls Try.prog 19 #[.slice A n cap] w fun e w' => ∃ A' q c, e = .returned (.slice A' q c) ∧ q = (fewV V).length ∧ q ≤ 6 ∧ q ≤ c ∧ c ≤ 9223372036854775807 ∧ Mat w' A' (fewV V) ∧ Below w.heap.size w w' := by
  have H := Lib.hid (And.intro hl hV)
  clear hl hV
  go_enter Try.func19, Try.ntmps19
  go_wp2_with fail
  go_loopw [3, 8] (fun ov iv wr => ∃ (k : Nat) (B : Option Addr) (q bc : Nat) (vs : List Value), k ≤ n ∧ iv = .int .i64 k ∧ ov = .slice B q bc ∧ q = (fewV (V.take k)).length ∧ wr.ownsRow w.heap.size 23 1 (.slice B q bc) q vs ∧ Rows wr 0 vs (fewV (V.take k)) ∧ Below w.heap.size w wr) (fun _ iv _ => n - (intOf iv).toNat)
  case atStart => exact ⟨0, none, 0, 0, [], Nat.zero_le _, rfl, rfl, rfl, World.ownsRow_nil _ _ _ _, Rows.nil, Below.refl _ _⟩
  case round =>
    obtain ⟨k, B, q, bc, vs, hk, rfl, rfl, hq, hown, hrows, hbl⟩ := hrel
    obtain ⟨wo, rfl⟩ : ∃ wo : World, wo = wr := ⟨_, rfl⟩
    have hq6 : q ≤ 6 := by rw [hq, fewV_length]; omega
    have HR := Lib.hid (And.intro hown (And.intro hrows (And.intro hbl hq)))
    have hwsz := hbl.size
    clear hown hrows hbl hq
    by_cases hlt : k < n
    · obtain ⟨r, hr⟩ : ∃ r, V[k]? = some r := ⟨_, List.getElem?_eq_getElem (by have := H.out.1; omega)⟩
      obtain ⟨ad, A', c, rfl, hcell, hrc, hc2, hI⟩ := H.out.2 k r hr
      have hcell2 := (HR.out.2.2.1.cell (lt_of_cell hcell)).trans hcell
      obtain ⟨rl, hrl⟩ : ∃ rl, rl = r.length := ⟨_, rfl⟩
      rw [← hrl] at hcell2 hrc
      have HI := Lib.hid (And.intro (hI.below HR.out.2.2.1) (And.intro hrl hr))
      have l1 : (k : Int) < (n : Int) := by omega
      clear hr hcell hI hrl
      by_cases h6 : k < 6
      · go_wp2_with fail
        refine (list_any A' rl c r _ HI.out.2.1.symm hrc hc2 HI.out.1).mono ?_
        rintro e w2 ⟨A2, c2, rfl, hown2, hb2⟩
        have hb2' : Below wo.heap.size wo w2 := hb2
        have hw2 := hb2.size
        have H2 := Lib.hid (And.intro (own_below HR.out.1 hb2) (And.intro (HR.out.2.1.below hb2) (And.intro (Row1.of_own hown2 0) (And.intro hb2 (fewV_on HI.out.2.2 h6)))))
        clear hown2 hb2 hb2'
        go_wp2_with (at_builtin; refine app1 sty_intss rfl _ _ rfl w.heap.size B q bc _ #[.slice A2 (min rl 9) c2] rfl (by simp [Value.oneCell']) rfl H2.out.1 rfl (by omega) (by omega) ?_)
        intro A8 k8 w8 hown8 hg8 hbl8 hk81 hk82
        have hrows8 : Rows w8 0 (vs ++ [.slice A2 (min rl 9) c2]) (fewV (V.take (k + 1))) := by
          rw [H2.out.2.2.2.2]
          exact (H2.out.2.1.grown H2.out.1 (Nat.zero_le _) hg8).append (Rows.one_ (H2.out.2.2.1.grown H2.out.1 (Nat.zero_le _) hg8))
        have hlen8 : q + 1 = (fewV (V.take (k + 1))).length := by rw [H2.out.2.2.2.2, List.length_append, ← HR.out.2.2.2]; rfl
        have H8 := Lib.hid (And.intro hown8 (And.intro hrows8 (And.intro (HR.out.2.2.1.trans ((H2.out.2.2.2.1.mono hwsz).trans hbl8)) hlen8)))
        clear hown8 hg8 hbl8 hrows8 hlen8
        go_wp2_with fail
        go_roundw
        case rel => exact ⟨k + 1, A8, q + 1, k8, _, by omega, by go_num, by go_num, H8.out.2.2.2, H8.out.1, H8.out.2.1, H8.out.2.2.1⟩
        case measure => simp [intOf]; omega
      · have HE := Lib.hid (fewV_off (V := V) (k := k) (by omega))
        go_wp2_with fail
        go_roundw
        case rel => exact ⟨k + 1, B, q, bc, vs, by omega, by go_num, rfl, by rw [HE.out]; exact HR.out.2.2.2, HR.out.1, by rw [HE.out]; exact HR.out.2.1, HR.out.2.2.1⟩
        case measure => simp [intOf]; omega
    · obtain rfl : k = n := by omega
      go_wp2_with fail
      go_ret
      have hT : V.take k = V := List.take_of_length_le (by have := H.out.1; omega)
      obtain ⟨g1, g2, g3, g4⟩ := HR.out
      rw [hT] at g2 g4
      obtain ⟨A', c', he, h1, h2, _⟩ := own_form g1
      injection he with e1 e2 e3
      subst e1; subst e3
      exact ⟨B, q, bc, rfl, g4, hq6, h1, h2, Mat.of_rows (At.of_own g1) g2, g3⟩

/- The walk of SplitBetter: Better of package split against the reference. -/

theorem fewV_id {V : List (List Int)} (h : V.length ≤ 6) (h2 : ∀ r ∈ V, r.length ≤ 9) : fewV V = V := by
  unfold fewV
  rw [List.take_of_length_le h]
  conv => rhs; rw [← List.map_id V]
  apply List.map_congr_left
  intro r hr
  exact List.take_of_length_le (h2 r hr)
theorem rowV_mem {V : List (List Int)} (h : 0 < V.length) : rowV V 0 ∈ V := by
  rw [rowV_get (List.getElem?_eq_getElem h)]; exact List.getElem_mem _
theorem fewV_ok {V : List (List Int)} (h : valV V = true) : fewV V = V := by
  obtain ⟨h1, h2, h3⟩ := valV_iff.1 h
  exact fewV_id (by omega) fun r hr => by have := (h3 r hr).1; omega
/-- Few keeps what is valid, and what is not. -/
theorem valV_few (V : List (List Int)) : valV (fewV V) = valV V := by
  cases h : valV V
  · cases h' : valV (fewV V)
    · rfl
    · exfalso
      obtain ⟨h1, h2, h3⟩ := valV_iff.1 h'
      rw [fewV_length] at h1
      have hl : V.length ≤ 4 := by omega
      have e : fewV V = V.map (·.take 9) := by unfold fewV; rw [List.take_of_length_le (by omega)]
      have e0 : rowV (fewV V) 0 = (rowV V 0).take 9 := by
        rw [e]
        have hg : V[0]? = some (V[0]'(by omega)) := List.getElem?_eq_getElem (by omega)
        rw [rowV_get hg, rowV_get (r := (V[0]'(by omega)).take 9) (by rw [List.getElem?_map, hg]; rfl)]
      have hr : ∀ r ∈ V, r.length ≤ 9 := by
        intro r hr
        have := (h3 (r.take 9) (by rw [e]; exact List.mem_map.2 ⟨r, hr, rfl⟩)).1
        rw [List.length_take] at this
        omega
      rw [fewV_id (by omega) hr, h] at h'
      cases h'
  · rw [fewV_ok h]; exact h
theorem divV_few {V : List (List Int)} (d : List Int) (h : valV V = true) : divV V (d.take 9) = divV V d := by
  obtain ⟨h1, h2, h3⟩ := valV_iff.1 h
  by_cases hd : d.length ≤ 9
  · rw [List.take_of_length_le hd]
  · unfold divV
    rw [decide_eq_false (p := d.length = (rowV V 0).length) (by omega), decide_eq_false (p := (d.take 9).length = (rowV V 0).length) (by rw [List.length_take]; omega)]
    rfl
theorem divided_few (V : List (List Int)) (d : List Int) : (valV (fewV V) && divV (fewV V) (d.take 9)) = (valV V && divV V d) := by
  rw [valV_few]
  cases h : valV V
  · rfl
  · rw [fewV_ok h, divV_few d h]

set_option maxRecDepth 100000 in
set_option maxHeartbeats 1600000 in
theorem law_better (A : Option Addr) (n cap : Nat) (V : List (List Int)) (D : Option Addr) (nd capd : Nat) (d : List Int) (w : World)
    (hl : V.length = n) (hc : n ≤ cap) (hm : cap ≤ 9223372036854775807) (hV : Mat w A V) (_hx : ∀ r ∈ V, ∀ x ∈ r, -9223372036854775808 ≤ x ∧ x ≤ 9223372036854775807)
    (hld : d.length = nd) (hcd : nd ≤ capd) (hmd : capd ≤ 9223372036854775807) (hD : Ints w D d) (_hxd : ∀ x ∈ d, -9223372036854775808 ≤ x ∧ x ≤ 9223372036854775807) :
    Calls Try.prog 3 #[.slice A n cap, .slice D nd capd] w fun e w' => e = .returned (.bool true) ∧ Below w.heap.size w w' := by
  have H := Lib.hid (And.intro hl (And.intro hV (And.intro hld hD)))
  clear hl hV hld hD _hx _hxd
  go_enter Try.func3, Try.ntmps3
  go_wp2_with fail
  refine (few_any A n cap V _ H.out.1 (by omega) H.out.2.1).mono ?_
  rintro e w1 ⟨A1, q, c1, rfl, hq, hq6, hqc, hc1, hM, hb⟩
  have H1 := Lib.hid (And.intro hq (And.intro hM hb))
  clear hq hM hb
  go_wp2_with fail
  refine (list_any D nd capd d _ H.out.2.2.1 hcd hmd (H.out.2.2.2.below H1.out.2.2)).mono ?_
  rintro e w2 ⟨A2, c2, rfl, hown2, hb2⟩
  have hI2 : Ints w2 A2 (d.take 9) := At.of_own hown2
  obtain ⟨k2, hk2⟩ : ∃ k2, k2 = min nd 9 := ⟨_, rfl⟩
  have hk29 : k2 ≤ 9 := by omega
  have hlk : (d.take 9).length = k2 := by rw [List.length_take, H.out.2.2.1, hk2]; omega
  rw [← hk2]
  have H2 := Lib.hid (And.intro hI2 (And.intro (H1.out.2.1.below hb2) (And.intro (H1.out.2.2.trans (hb2.mono H1.out.2.2.size)) hlk)))
  clear hown2 hI2 hb2 hk2 hlk
  go_wp2_with fail
  refine (sbetter_any A1 A2 q c1 k2 c2 (fewV V) (d.take 9) w2 H1.out.1.symm (by omega) H2.out.2.1 H2.out.2.2.2 (by omega) H2.out.1).mono ?_
  rintro e w3 (⟨hbad, rfl, hb3⟩ | ⟨hok, hres⟩)
  · rw [divided_few] at hbad
    have H3 := Lib.hid (And.intro hbad (H2.out.2.2.1.trans (hb3.mono H2.out.2.2.1.size)))
    clear hbad hb3
    go_wp2_with fail
    refine (divided_any A D n cap nd capd V d w3 H.out.1 (by omega) (H.out.2.1.below H3.out.2) H.out.2.2.1 (by omega) (H.out.2.2.2.below H3.out.2)).mono ?_
    rintro e w4 ⟨rfl, rfl⟩
    rw [H3.out.1]
    go_wp2_with fail
    refine (awake_any w3).mono ?_
    rintro e w5 ⟨rfl, hb5⟩
    have H5 := Lib.hid (H3.out.2.trans (hb5.mono H3.out.2.size))
    clear hb5
    go_wp2_with fail
    go_ret
    exact ⟨rfl, H5.out⟩
  · rw [divided_few] at hok
    have hv : valV V = true := by simp only [Bool.and_eq_true] at hok; exact hok.1
    have hdv : divV V d = true := by simp only [Bool.and_eq_true] at hok; exact hok.2
    obtain ⟨v1, v2, v3⟩ := valV_iff.1 hv
    obtain ⟨m, hm⟩ : ∃ m, m = (rowV V 0).length := ⟨_, rfl⟩
    have hdl : d.length = m := by
      unfold divV at hdv
      simp only [Bool.and_eq_true, decide_eq_true_eq] at hdv
      rw [hm]; exact hdv.1
    have hdt : d.take 9 = d := List.take_of_length_le (by omega)
    rw [fewV_ok hv, hdt, ← hm] at hres
    have hndm : nd = m := by rw [← H.out.2.2.1, hdl]
    subst hndm
    obtain ⟨o, ho⟩ : ∃ o, o = (divs V.length nd).find? (better V d) := ⟨_, rfl⟩
    rw [← ho] at hres
    have hn4 : 1 ≤ n ∧ n ≤ 4 := by rw [← H.out.1]; exact v1
    have hm7 : 1 ≤ nd ∧ nd ≤ 7 := by rw [hm]; exact v2
    have ho2 : o = (divs n nd).find? (better V d) := by rw [ho, H.out.1]
    have HV := Lib.hid (And.intro hok (And.intro hm (And.intro (valV_rows hv hm) ho2)))
    clear hok hv hdv v1 v2 v3 hm hdl hdt ho ho2
    rcases hres with ⟨rfl, rfl, hb3⟩ | ⟨a, A3, c3, rfl, rfl, ha7, hI3, hb3⟩
    · have H3 := Lib.hid (H2.out.2.2.1.trans (hb3.mono H2.out.2.2.1.size))
      clear hb3
      go_wp2_with fail
      refine (divided_any A D n cap nd capd V d w3 H.out.1 (by omega) (H.out.2.1.below H3.out) H.out.2.2.1 (by omega) (H.out.2.2.2.below H3.out)).mono ?_
      rintro e w4 ⟨rfl, rfl⟩
      rw [HV.out.1]
      go_wp2_with fail
      refine (r1better_any A D n cap capd nd V d w3 H.out.1 hn4 HV.out.2.1 hm7 H.out.2.2.1 (by rw [← H.out.1]; exact HV.out.2.2.1) (H.out.2.1.below H3.out) (H.out.2.2.2.below H3.out)).mono ?_
      rw [← HV.out.2.2.2]
      rintro e w5 (⟨_, rfl, hb5⟩ | ⟨a', _, _, h, _⟩)
      · have H5 := Lib.hid (H3.out.trans (hb5.mono H3.out.size))
        clear hb5
        go_wp2_with fail
        refine (equal_any none none 0 0 0 0 [] [] w5 rfl rfl (by omega) Ints.nil Ints.nil).mono ?_
        rintro e w6 ⟨rfl, k6, rfl⟩
        have e1 : eqB ([] : List Int) [] = true := by decide
        rw [e1]
        go_wp2_with fail
        refine (awake_any _).mono ?_
        rintro e w7 ⟨rfl, hb7⟩
        have H7 := Lib.hid ((below_drewN H5.out k6).trans (hb7.mono (H5.out.size)))
        clear hb7
        go_wp2_with fail
        go_ret
        exact ⟨rfl, H7.out⟩
      · cases h
    · have H3 := Lib.hid (And.intro hI3 (H2.out.2.2.1.trans (hb3.mono H2.out.2.2.1.size)))
      clear hb3 hI3
      obtain ⟨ka, hka⟩ : ∃ ka, ka = a.length := ⟨_, rfl⟩
      rw [← hka] at ha7 ⊢
      have HKA := Lib.hid hka
      clear hka
      go_wp2_with fail
      refine (divided_any A D n cap nd capd V d w3 H.out.1 (by omega) (H.out.2.1.below H3.out.2) H.out.2.2.1 (by omega) (H.out.2.2.2.below H3.out.2)).mono ?_
      rintro e w4 ⟨rfl, rfl⟩
      rw [HV.out.1]
      go_wp2_with fail
      refine (r1better_any A D n cap capd nd V d w3 H.out.1 hn4 HV.out.2.1 hm7 H.out.2.2.1 (by rw [← H.out.1]; exact HV.out.2.2.1) (H.out.2.1.below H3.out.2) (H.out.2.2.2.below H3.out.2)).mono ?_
      rw [← HV.out.2.2.2]
      rintro e w5 (⟨h, _⟩ | ⟨a', A5, c5, h, rfl, ha5, hI5, hb5⟩)
      · cases h
      · injection h with h
        subst h
        rw [← HKA.out]
        have H5 := Lib.hid (And.intro (H3.out.1.below hb5) (And.intro hI5 (H3.out.2.trans (hb5.mono H3.out.2.size))))
        clear hb5 hI5 ha5
        go_wp2_with fail
        refine (equal_any A3 A5 ka ka c3 c5 a a w5 HKA.out.symm HKA.out.symm (by omega) H5.out.1 H5.out.2.1).mono ?_
        rintro e w6 ⟨rfl, k6, rfl⟩
        have e1 : eqB a a = true := by unfold eqB; exact decide_eq_true rfl
        rw [e1]
        go_wp2_with fail
        refine (awake_any _).mono ?_
        rintro e w7 ⟨rfl, hb7⟩
        have H7 := Lib.hid ((below_drewN H5.out.2.2 k6).trans (hb7.mono (H5.out.2.2.size)))
        clear hb7
        go_wp2_with fail
        go_ret
        exact ⟨rfl, H7.out⟩

/- Copies of values and of a division, at once. -/

/-- Values and a division that are valid. -/
theorem good_few {V : List (List Int)} {d : List Int} (h : (valV V && divV V d) = true) : valV V = true ∧ divV V d = true ∧ fewV V = V ∧ d.take 9 = d := by
  simp only [Bool.and_eq_true] at h
  obtain ⟨v1, v2, v3⟩ := valV_iff.1 h.1
  refine ⟨h.1, h.2, fewV_ok h.1, List.take_of_length_le ?_⟩
  have hd := h.2
  unfold divV at hd
  simp only [Bool.and_eq_true, decide_eq_true_eq] at hd
  omega
/-- Few, read plainly. -/
theorem few2_any (A : Option Addr) (n cap : Nat) (V : List (List Int)) (w : World) (hl : V.length = n) (hn : n ≤ 9223372036854775807) (hV : Mat w A V) :
    Calls Try.prog 19 #[.slice A n cap] w fun e w' => ∃ A' q c, e = .returned (.slice A' q c) ∧ (fewV V).length = q ∧ q ≤ 6 ∧ q ≤ c ∧ c ≤ 9223372036854775807 ∧ Mat w' A' (fewV V) ∧ Below w.heap.size w w' :=
  (few_any A n cap V w hl hn hV).mono fun _ _ ⟨A', q, c, h1, h2, h3⟩ => ⟨A', q, c, h1, h2.symm, h3⟩
theorem awake2_any (w0 w : World) (h : Below w0.heap.size w0 w) : Calls Try.prog 22 #[] w fun e w' => e = .returned (.bool true) ∧ Below w0.heap.size w0 w' := by
  refine (awake_any w).mono ?_
  rintro e w' ⟨rfl, hb⟩
  exact ⟨rfl, h.trans (hb.mono h.size)⟩

/- Envy and the kinds of fairness: plain Lean. -/

/-- i envies j. -/
def envB (V : List (List Int)) (d : List Int) (i j : Nat) : Bool := decide (wor V d i (i : Int) < wor V d i (j : Int))
def envRow (V : List (List Int)) (d : List Int) (i k : Nat) : List (Nat × Nat) := ((List.range k).filter fun j => envB V d i j).map fun j => (i, j)
def envTo (V : List (List Int)) (d : List Int) (n k : Nat) : List (Nat × Nat) := (List.range k).flatMap fun i => envRow V d i n
def envL (V : List (List Int)) (d : List Int) (n : Nat) : List (Nat × Nat) := envTo V d n n
theorem envRow_succ (V : List (List Int)) (d : List Int) (i k : Nat) : envRow V d i (k + 1) = envRow V d i k ++ if envB V d i k then [(i, k)] else [] := by
  unfold envRow
  rw [List.range_succ, List.filter_append, List.map_append]
  congr 1
  by_cases h : envB V d i k <;> simp [h]
theorem envTo_succ (V : List (List Int)) (d : List Int) (n k : Nat) : envTo V d n (k + 1) = envTo V d n k ++ envRow V d k n := by
  unfold envTo; rw [List.range_succ, List.flatMap_append]; simp
theorem envRow_length (V : List (List Int)) (d : List Int) (i k : Nat) : (envRow V d i k).length ≤ k := by
  unfold envRow; rw [List.length_map]
  exact Nat.le_trans (List.length_filter_le _ _) (by simp)
theorem envTo_length (V : List (List Int)) (d : List Int) (n k : Nat) : (envTo V d n k).length ≤ n * k := by
  induction k with
  | zero => simp [envTo]
  | succ k ih => rw [envTo_succ, List.length_append]; have := envRow_length V d k n; rw [Nat.mul_add]; omega
theorem mem_envL {V : List (List Int)} {d : List Int} {n : Nat} {p : Nat × Nat} : p ∈ envL V d n ↔ p.1 < n ∧ p.2 < n ∧ envB V d p.1 p.2 = true := by
  unfold envL envTo envRow
  simp only [List.mem_flatMap, List.mem_range, List.mem_map, List.mem_filter]
  constructor
  · rintro ⟨i, hi, j, ⟨hj, he⟩, rfl⟩; exact ⟨hi, hj, he⟩
  · rintro ⟨h1, h2, h3⟩; exact ⟨p.1, h1, p.2, ⟨h2, h3⟩, rfl⟩

/-- Without good g of j, i would not envy j. -/
def enough (V : List (List Int)) (d : List Int) (i j g : Nat) : Bool := decide (wor V d i (j : Int) - (rowV V i).getD g 0 ≤ wor V d i (i : Int))
def someE (V : List (List Int)) (d : List Int) (i j k : Nat) : Bool := (List.range k).any fun g => decide (d.getD g 0 = (j : Int)) && enough V d i j g
def eachE (V : List (List Int)) (d : List Int) (i j k : Nat) : Bool := (List.range k).all fun g => !decide (d.getD g 0 = (j : Int)) || enough V d i j g
def upTo (V : List (List Int)) (d : List Int) (i j : Nat) (any : Bool) (k : Nat) : Bool := if any then eachE V d i j k else someE V d i j k
def upB (V : List (List Int)) (d : List Int) (i j : Nat) (any : Bool) : Bool := upTo V d i j any d.length
theorem someE_succ (V : List (List Int)) (d : List Int) (i j k : Nat) : someE V d i j (k + 1) = (someE V d i j k || (decide (d.getD k 0 = (j : Int)) && enough V d i j k)) := by
  simp [someE, List.range_succ]
theorem eachE_succ (V : List (List Int)) (d : List Int) (i j k : Nat) : eachE V d i j (k + 1) = (eachE V d i j k && (!decide (d.getD k 0 = (j : Int)) || enough V d i j k)) := by
  simp [eachE, List.range_succ]
theorem upTo_zero (V : List (List Int)) (d : List Int) (i j : Nat) (any : Bool) : upTo V d i j any 0 = any := by cases any <;> simp [upTo, someE, eachE]
theorem upTo_other {V : List (List Int)} {d : List Int} {i j k : Nat} {any : Bool} (h : d.getD k 0 ≠ (j : Int)) : upTo V d i j any (k + 1) = upTo V d i j any k := by
  have e : decide (d.getD k 0 = (j : Int)) = false := decide_eq_false h
  cases any
  · show someE V d i j (k + 1) = someE V d i j k
    rw [someE_succ, e, Bool.false_and, Bool.or_false]
  · show eachE V d i j (k + 1) = eachE V d i j k
    rw [eachE_succ, e, Bool.not_false, Bool.true_or, Bool.and_true]
theorem upTo_same {V : List (List Int)} {d : List Int} {i j k : Nat} {any : Bool} (h : enough V d i j k = any) (h2 : upTo V d i j any k = any) : upTo V d i j any (k + 1) = any := by
  cases any
  · simp only [upTo, Bool.false_eq_true, if_false] at h2 ⊢; rw [someE_succ, h2, h]; simp
  · simp only [upTo, if_true] at h2 ⊢; rw [eachE_succ, h2, h]; simp
theorem upTo_diff {V : List (List Int)} {d : List Int} {i j k : Nat} {any : Bool} (hd : d.getD k 0 = (j : Int)) (hk : k < d.length) (h : enough V d i j k ≠ any) : upB V d i j any = enough V d i j k := by
  cases any
  · have he : enough V d i j k = true := by simpa using h
    rw [he]
    simp only [upB, upTo, Bool.false_eq_true, if_false, someE, List.any_eq_true]
    exact ⟨k, List.mem_range.2 hk, by rw [he, decide_eq_true hd]; rfl⟩
  · have he : enough V d i j k = false := by simpa using h
    rw [he]
    simp only [upB, upTo, if_true, eachE, List.all_eq_false]
    exact ⟨k, List.mem_range.2 hk, by rw [he, decide_eq_true hd]; simp⟩
theorem upB_some {V : List (List Int)} {d : List Int} {i j : Nat} : upB V d i j false = true ↔ ∃ g, g < d.length ∧ d.getD g 0 = (j : Int) ∧ wor V d i (j : Int) - (rowV V i).getD g 0 ≤ wor V d i (i : Int) := by
  simp only [upB, upTo, Bool.false_eq_true, if_false, someE, List.any_eq_true, List.mem_range, Bool.and_eq_true, decide_eq_true_eq, enough]
theorem upB_each {V : List (List Int)} {d : List Int} {i j : Nat} : upB V d i j true = true ↔ ∀ g, g < d.length → d.getD g 0 = (j : Int) → wor V d i (j : Int) - (rowV V i).getD g 0 ≤ wor V d i (i : Int) := by
  simp only [upB, upTo, if_true, eachE, List.all_eq_true, List.mem_range, Bool.or_eq_true, Bool.not_eq_true', decide_eq_false_iff_not, decide_eq_true_eq, enough]
  constructor
  · intro h g hg hd
    rcases h g hg with h1 | h1
    · exact absurd hd h1
    · exact h1
  · intro h g hg
    by_cases hd : d.getD g 0 = (j : Int)
    · exact .inr (h g hg hd)
    · exact .inl hd

/-- i has their part, with so much more. -/
def partB (V : List (List Int)) (d : List Int) (n i : Nat) (x : Int) : Bool := decide ((rowV V i).sum ≤ (wor V d i (i : Int) + x) * n)
/-- The greatest worth of a good of another person. -/
def mostTo (row d : List Int) (i : Nat) : Nat → Int
  | 0 => 0
  | g + 1 => if d.getD g 0 = (i : Int) then mostTo row d i g else max (mostTo row d i g) (row.getD g 0)
theorem mostTo_bd {row : List Int} (h : ∀ x ∈ row, 0 ≤ x ∧ x ≤ 100) (d : List Int) (i g : Nat) : 0 ≤ mostTo row d i g ∧ mostTo row d i g ≤ 100 := by
  induction g with
  | zero => simp [mostTo]
  | succ g ih =>
    have hb : 0 ≤ row.getD g 0 ∧ row.getD g 0 ≤ 100 := by
      rw [List.getD_eq_getElem?_getD]
      cases hx : row[g]? with
      | none => simp
      | some x => exact h x (List.mem_of_getElem? hx)
    simp only [mostTo]
    split <;> omega
/-- An envy is allowed in a kind. -/
def okE (V : List (List Int)) (d : List Int) (kind : Int) (i j : Nat) : Bool := (decide (kind = 1) && upB V d i j false) || (decide (kind = 2) && upB V d i j true)
def moreK (V : List (List Int)) (d : List Int) (kind : Int) (i : Nat) : Int := if kind = 4 then mostTo (rowV V i) d i d.length else 0
def fairB (V : List (List Int)) (d : List Int) (n : Nat) (kind : Int) : Bool :=
  if kind < 3 then (List.range n).all fun i => (List.range n).all fun j => !envB V d i j || okE V d kind i j
  else (List.range n).all fun i => partB V d n i (moreK V d kind i)
theorem fairB_low {V : List (List Int)} {d : List Int} {n : Nat} {kind : Int} (h : kind < 3) : fairB V d n kind = (envL V d n).all fun p => okE V d kind p.1 p.2 := by
  unfold fairB
  rw [if_pos h, Bool.eq_iff_iff]
  simp only [List.all_eq_true, List.mem_range, Bool.or_eq_true, Bool.not_eq_true']
  constructor
  · intro hh p hp
    obtain ⟨h1, h2, h3⟩ := mem_envL.1 hp
    rcases hh p.1 h1 p.2 h2 with h4 | h4
    · rw [h3] at h4; cases h4
    · exact h4
  · intro hh i hi j hj
    cases he : envB V d i j
    · exact .inl rfl
    · exact .inr (hh (i, j) (mem_envL.2 ⟨hi, hj, he⟩))
theorem fairB_high {V : List (List Int)} {d : List Int} {n : Nat} {kind : Int} (h : 3 ≤ kind) : fairB V d n kind = (List.range n).all fun i => partB V d n i (moreK V d kind i) := by
  unfold fairB; rw [if_neg (by omega)]

/- Which kind of fairness follows from which: plain Lean. -/

/-- The sum of f over the numbers below n. -/
def sumN (f : Nat → Int) : Nat → Int
  | 0 => 0
  | n + 1 => sumN f n + f n
theorem sumN_le {f : Nat → Int} {c : Int} (n : Nat) (h : ∀ j, j < n → f j ≤ c) : sumN f n ≤ c * n := by
  induction n with
  | zero => simp [sumN]
  | succ n ih =>
    have h1 := ih fun j hj => h j (by omega)
    have h2 := h n (by omega)
    simp only [sumN]
    rw [show ((n + 1 : Nat) : Int) = (n : Int) + 1 by omega, Int.mul_add, Int.mul_one]
    omega
theorem sumN_add (f g : Nat → Int) (n : Nat) : sumN (fun j => f j + g j) n = sumN f n + sumN g n := by
  induction n with
  | zero => rfl
  | succ n ih => simp only [sumN, ih]; omega
theorem sumN_one (x : Int) (p n : Nat) (h : p < n) : sumN (fun j => if (p : Int) = (j : Int) then x else 0) n = x := by
  have z : ∀ n, n ≤ p → sumN (fun j => if (p : Int) = (j : Int) then x else 0) n = 0 := by
    intro n
    induction n with
    | zero => intro _; rfl
    | succ n ih =>
      intro hn
      simp only [sumN]
      rw [ih (by omega), if_neg (by omega)]
      rfl
  induction n with
  | zero => omega
  | succ n ih =>
    simp only [sumN]
    by_cases e : p = n
    · subst e; rw [z p (Nat.le_refl _), if_pos rfl]; omega
    · rw [ih (by omega), if_neg (by omega)]; omega
theorem sumN_zero (n : Nat) : sumN (fun _ => 0) n = 0 := by
  induction n with
  | zero => rfl
  | succ n ih => simp only [sumN, ih]; rfl
theorem getD_in {d : List Int} {n : Nat} (hd : ∀ x ∈ d, 0 ≤ x ∧ x < (n : Int)) {g : Nat} (h : g < d.length) : ∃ p : Nat, d.getD g 0 = (p : Int) ∧ p < n := by
  have hb := hd (d.getD g 0) (by rw [List.getD_eq_getElem?_getD, List.getElem?_eq_getElem h]; exact List.getElem_mem h)
  exact ⟨(d.getD g 0).toNat, by omega, by omega⟩
/-- What everyone has is all. -/
theorem sum_worTo {row d : List Int} {n : Nat} (hd : ∀ x ∈ d, 0 ≤ x ∧ x < (n : Int)) (hl : d.length = row.length) (g : Nat) (hg : g ≤ row.length) : sumN (fun j => worTo row d (j : Int) g) n = (row.take g).sum := by
  induction g with
  | zero => simp only [worTo]; rw [sumN_zero]; rfl
  | succ g ih =>
    obtain ⟨p, hp, hpn⟩ := getD_in hd (show g < d.length by omega)
    simp only [worTo]
    rw [sumN_add, ih (by omega), hp, sumN_one _ p n hpn]
    have hx : row[g]? = some (row.getD g 0) := by rw [List.getD_eq_getElem?_getD, List.getElem?_eq_getElem (by omega)]; rfl
    rw [List.take_add_one, hx, List.sum_append]
    simp
theorem sum_wor {V : List (List Int)} {d : List Int} {n i : Nat} (hd : ∀ x ∈ d, 0 ≤ x ∧ x < (n : Int)) (hl : d.length = (rowV V i).length) : sumN (fun j => wor V d i (j : Int)) n = (rowV V i).sum := by
  have h := sum_worTo hd hl d.length (by omega)
  unfold wor
  rw [h, List.take_of_length_le (by omega)]
theorem worTo_mono {row d : List Int} {j : Int} (h : ∀ x ∈ row, 0 ≤ x ∧ x ≤ 100) (g k : Nat) (hgk : g ≤ k) : worTo row d j g ≤ worTo row d j k := by
  induction k with
  | zero => obtain rfl : g = 0 := by omega
            exact Int.le_refl _
  | succ k ih =>
    by_cases e : g = k + 1
    · subst e; exact Int.le_refl _
    · have h1 := ih (by omega)
      have hb : 0 ≤ row.getD k 0 := by
        rw [List.getD_eq_getElem?_getD]
        cases hx : row[k]? with
        | none => simp
        | some x => exact (h x (List.mem_of_getElem? hx)).1
      simp only [worTo]
      split <;> omega
/-- Who has something has a good. -/
theorem worTo_pos {row d : List Int} {j : Int} (g : Nat) (h : 0 < worTo row d j g) : ∃ k, k < g ∧ d.getD k 0 = j := by
  induction g with
  | zero => simp [worTo] at h
  | succ g ih =>
    simp only [worTo] at h
    by_cases e : d.getD g 0 = j
    · exact ⟨g, by omega, e⟩
    · rw [if_neg e] at h
      obtain ⟨k, hk, e'⟩ := ih (by omega)
      exact ⟨k, by omega, e'⟩
theorem mostTo_ge {row d : List Int} {i g k : Nat} (hk : k < g) (h : d.getD k 0 ≠ (i : Int)) : row.getD k 0 ≤ mostTo row d i g := by
  induction g with
  | zero => omega
  | succ g ih =>
    simp only [mostTo]
    by_cases e : k = g
    · subst e; rw [if_neg h]; omega
    · have := ih (by omega)
      split <;> omega

section
variable {V : List (List Int)} {d : List Int} {n m : Nat}

theorem fair0_iff : fairB V d n 0 = decide ((envL V d n).length = 0) := by
  rw [fairB_low (by omega)]
  cases h : envL V d n with
  | nil => rfl
  | cons p l => simp [okE]
theorem fair02 (h : fairB V d n 0 = true) : fairB V d n 2 = true := by
  rw [fair0_iff] at h
  have e : envL V d n = [] := List.eq_nil_of_length_eq_zero (of_decide_eq_true h)
  rw [fairB_low (by omega), e]
  rfl
theorem fair03 (hd : ∀ x ∈ d, 0 ≤ x ∧ x < (n : Int)) (hr : ∀ i, i < n → (rowV V i).length = m ∧ ∀ x ∈ rowV V i, 0 ≤ x ∧ x ≤ 100) (hl : d.length = m) (h : fairB V d n 0 = true) : fairB V d n 3 = true := by
  rw [fair0_iff] at h
  have e : envL V d n = [] := List.eq_nil_of_length_eq_zero (of_decide_eq_true h)
  rw [fairB_high (by omega), List.all_eq_true]
  intro i hi
  have hi := List.mem_range.1 hi
  unfold partB moreK
  rw [if_neg (by omega), decide_eq_true_eq, Int.add_zero, ← sum_wor (V := V) (i := i) hd (by rw [hl, (hr i hi).1])]
  refine sumN_le n fun j hj => ?_
  have hn : envB V d i j = false := by
    cases hb : envB V d i j
    · rfl
    · have : (i, j) ∈ envL V d n := mem_envL.2 ⟨hi, hj, hb⟩
      rw [e] at this; cases this
  unfold envB at hn
  have := of_decide_eq_false hn
  omega
theorem fair21 (hr : ∀ i, i < n → (rowV V i).length = m ∧ ∀ x ∈ rowV V i, 0 ≤ x ∧ x ≤ 100) (h : fairB V d n 2 = true) : fairB V d n 1 = true := by
  rw [fairB_low (by omega), List.all_eq_true] at h ⊢
  intro p hp
  have h2 := h p hp
  obtain ⟨h3, h4, h5⟩ := mem_envL.1 hp
  unfold okE at h2 ⊢
  simp only [show ((2 : Int) = 1) = False by simp, show ((1 : Int) = 2) = False by simp, decide_false, decide_true, Bool.false_and, Bool.true_and, Bool.false_or, Bool.or_false] at h2 ⊢
  rw [upB_some]
  have h6 := upB_each.1 h2
  unfold envB at h5
  have h7 := of_decide_eq_true h5
  have h8 := (worTo_bd (hr p.1 h3).2 d (p.1 : Int) d.length).1
  have h9 : 0 < worTo (rowV V p.1) d (p.2 : Int) d.length := by unfold wor at h7; omega
  obtain ⟨g, hg, e⟩ := worTo_pos d.length h9
  exact ⟨g, hg, e, h6 g hg e⟩
theorem fair14 (hd : ∀ x ∈ d, 0 ≤ x ∧ x < (n : Int)) (hr : ∀ i, i < n → (rowV V i).length = m ∧ ∀ x ∈ rowV V i, 0 ≤ x ∧ x ≤ 100) (hl : d.length = m) (h : fairB V d n 1 = true) : fairB V d n 4 = true := by
  rw [fairB_low (by omega), List.all_eq_true] at h
  rw [fairB_high (by omega), List.all_eq_true]
  intro i hi
  have hi := List.mem_range.1 hi
  unfold partB moreK
  rw [if_pos rfl, decide_eq_true_eq, ← sum_wor (V := V) (i := i) hd (by rw [hl, (hr i hi).1])]
  have hmb := mostTo_bd (hr i hi).2 d i d.length
  refine sumN_le n fun j hj => ?_
  cases hb : envB V d i j
  · unfold envB at hb
    have := of_decide_eq_false hb
    omega
  · have h2 := h (i, j) (mem_envL.2 ⟨hi, hj, hb⟩)
    unfold okE at h2
    simp only [show ((1 : Int) = 2) = False by simp, decide_false, decide_true, Bool.false_and, Bool.true_and, Bool.or_false] at h2
    obtain ⟨g, hg, e, h3⟩ := upB_some.1 h2
    have hij : j ≠ i := by
      rintro rfl
      unfold envB at hb
      have := of_decide_eq_true hb
      omega
    have := mostTo_ge (row := rowV V i) (i := i) hg (by rw [e]; omega)
    omega
theorem fair34 (hr : ∀ i, i < n → (rowV V i).length = m ∧ ∀ x ∈ rowV V i, 0 ≤ x ∧ x ≤ 100) (h : fairB V d n 3 = true) : fairB V d n 4 = true := by
  rw [fairB_high (by omega), List.all_eq_true] at h ⊢
  intro i hi
  have h1 := h i hi
  have hi := List.mem_range.1 hi
  unfold partB moreK at h1 ⊢
  rw [if_neg (by omega), decide_eq_true_eq, Int.add_zero] at h1
  rw [if_pos rfl, decide_eq_true_eq]
  have hmb := mostTo_bd (hr i hi).2 d i d.length
  have : wor V d i (i : Int) * (n : Int) ≤ (wor V d i (i : Int) + mostTo (rowV V i) d i d.length) * (n : Int) := Int.mul_le_mul_of_nonneg_right (by omega) (by omega)
  omega
end

/- The division by turns: plain Lean. -/

/-- The first good below k that is free and worth most; -1: none. -/
def bestTo (row d : List Int) : Nat → Int
  | 0 => -1
  | k + 1 => if d.getD k 0 < 0 ∧ (bestTo row d k < 0 ∨ row.getD (bestTo row d k).toNat 0 < row.getD k 0) then (k : Int) else bestTo row d k
theorem bestTo_bd (row d : List Int) (k : Nat) : -1 ≤ bestTo row d k ∧ bestTo row d k < k := by
  induction k with
  | zero => simp [bestTo]
  | succ k ih => simp only [bestTo]; split <;> omega
theorem bestTo_none {row d : List Int} {k : Nat} (h : bestTo row d k < 0) : ∀ g, g < k → 0 ≤ d.getD g 0 := by
  induction k with
  | zero => intro g hg; omega
  | succ k ih =>
    simp only [bestTo] at h
    intro g hg
    split at h
    · omega
    · rename_i hn
      by_cases e : g = k
      · subst e
        apply Classical.byContradiction
        intro h2
        exact hn ⟨by omega, .inl h⟩
      · exact ih h g (by omega)
theorem bestTo_some {row d : List Int} {k : Nat} (h : 0 ≤ bestTo row d k) : d.getD (bestTo row d k).toNat 0 < 0 ∧ ∀ g, g < k → d.getD g 0 < 0 → row.getD g 0 ≤ row.getD (bestTo row d k).toNat 0 := by
  induction k with
  | zero => simp [bestTo] at h
  | succ k ih =>
    simp only [bestTo] at h ⊢
    split
    · rename_i hc
      refine ⟨by rw [Int.toNat_natCast]; exact hc.1, fun g hg hf => ?_⟩
      rw [Int.toNat_natCast]
      by_cases e : g = k
      · subst e; exact Int.le_refl _
      · rcases hc.2 with h1 | h1
        · exact absurd hf (by have := bestTo_none h1 g (by omega); omega)
        · by_cases h0 : 0 ≤ bestTo row d k
          · have := (ih h0).2 g (by omega) hf; omega
          · exact absurd hf (by have := bestTo_none (row := row) (d := d) (k := k) (by omega) g (by omega); omega)
    · rename_i hc
      rw [if_neg hc] at h
      obtain ⟨h1, h2⟩ := ih h
      refine ⟨h1, fun g hg hf => ?_⟩
      by_cases e : g = k
      · subst e
        apply Classical.byContradiction
        intro h3
        exact hc ⟨hf, .inr (by omega)⟩
      · exact h2 g (by omega) hf

/-- What the people have after some turns. -/
def rndTo (V : List (List Int)) (n m : Nat) : Nat → List Int
  | 0 => List.replicate m (-1)
  | t + 1 => (rndTo V n m t).set (bestTo (rowV V (t % n)) (rndTo V n m t) m).toNat ((t % n : Nat) : Int)
theorem rndTo_length (V : List (List Int)) (n m t : Nat) : (rndTo V n m t).length = m := by
  induction t with
  | zero => simp [rndTo]
  | succ t ih => rw [rndTo, List.length_set, ih]
/-- How many goods are free. -/
def freeN (d : List Int) : Nat → Nat
  | 0 => 0
  | k + 1 => freeN d k + if d.getD k 0 < 0 then 1 else 0
theorem freeN_all (m k : Nat) (h : k ≤ m) : freeN (List.replicate m (-1)) k = k := by
  induction k with
  | zero => rfl
  | succ k ih =>
    simp only [freeN]
    rw [ih (by omega), List.getD_eq_getElem?_getD, List.getElem?_replicate_of_lt (by omega)]
    rfl
theorem freeN_pos {d : List Int} {k : Nat} (h : ∀ g, g < k → 0 ≤ d.getD g 0) : freeN d k = 0 := by
  induction k with
  | zero => rfl
  | succ k ih =>
    simp only [freeN]
    rw [ih fun g hg => h g (by omega), if_neg (by have := h k (by omega); omega)]
theorem freeN_set {d : List Int} {i : Nat} {y : Int} (hi : i < d.length) (h1 : d.getD i 0 < 0) (hy : 0 ≤ y) (k : Nat) (hk : i < k) : freeN (d.set i y) k + 1 = freeN d k := by
  have low : ∀ j, j ≤ i → freeN (d.set i y) j = freeN d j := by
    intro j
    induction j with
    | zero => intro _; rfl
    | succ j ih =>
      intro hj
      simp only [freeN]
      rw [ih (by omega), List.getD_eq_getElem?_getD, List.getElem?_set_ne (by omega), ← List.getD_eq_getElem?_getD]
  induction k with
  | zero => omega
  | succ k ih =>
    simp only [freeN]
    by_cases e : i = k
    · subst e
      rw [low i (Nat.le_refl _), List.getD_eq_getElem?_getD (l := d.set i y), List.getElem?_set_self hi]
      simp only [Option.getD_some]
      rw [if_neg (by omega), if_pos h1]
    · have := ih (by omega)
      rw [List.getD_eq_getElem?_getD (l := d.set i y), List.getElem?_set_ne (by omega), ← List.getD_eq_getElem?_getD]
      omega
/-- There is a free good as long as there are turns, and the turns free one each. -/
theorem rndTo_free (V : List (List Int)) {n m : Nat} (t : Nat) (ht : t ≤ m) : freeN (rndTo V n m t) m = m - t := by
  induction t with
  | zero => rw [rndTo, freeN_all m m (Nat.le_refl _)]; rfl
  | succ t ih =>
    have h := ih (by omega)
    have h0 : 0 ≤ bestTo (rowV V (t % n)) (rndTo V n m t) m := by
      apply Classical.byContradiction
      intro hn
      rw [freeN_pos (bestTo_none (row := rowV V (t % n)) (by omega))] at h
      omega
    have hb := (bestTo_bd (rowV V (t % n)) (rndTo V n m t) m).2
    have hs := bestTo_some h0
    have := freeN_set (d := rndTo V n m t) (i := (bestTo (rowV V (t % n)) (rndTo V n m t) m).toNat) (y := ((t % n : Nat) : Int)) (by rw [rndTo_length]; omega) hs.1 (by omega) m (by omega)
    rw [rndTo]
    omega
theorem rnd_best (V : List (List Int)) {n m t : Nat} (ht : t < m) : 0 ≤ bestTo (rowV V (t % n)) (rndTo V n m t) m := by
  apply Classical.byContradiction
  intro hn
  have h := rndTo_free V (n := n) (m := m) t (by omega)
  rw [freeN_pos (bestTo_none (row := rowV V (t % n)) (by omega))] at h
  omega
theorem freeN_zero {d : List Int} {k : Nat} (h : freeN d k = 0) : ∀ g, g < k → 0 ≤ d.getD g 0 := by
  induction k with
  | zero => intro g hg; omega
  | succ k ih =>
    simp only [freeN] at h
    intro g hg
    by_cases e : g = k
    · subst e
      apply Classical.byContradiction
      intro h2
      rw [if_pos (by omega)] at h
      omega
    · exact ih (by omega) g (by omega)
/-- Entries are people, or nobody yet. -/
theorem rndTo_mem (V : List (List Int)) {n m : Nat} (hn : 0 < n) (t : Nat) : ∀ x ∈ rndTo V n m t, x = -1 ∨ (0 ≤ x ∧ x < (n : Int)) := by
  induction t with
  | zero => intro x hx; exact .inl (List.eq_of_mem_replicate hx)
  | succ t ih =>
    intro x hx
    rcases List.mem_or_eq_of_mem_set hx with h | h
    · exact ih x h
    · have := Nat.mod_lt t hn
      exact .inr (by omega)
/-- The division by turns is one. -/
theorem rnd_division (V : List (List Int)) {n m : Nat} (hn : 0 < n) : ∀ x ∈ rndTo V n m m, 0 ≤ x ∧ x < (n : Int) := by
  intro x hx
  obtain ⟨g, hg, rfl⟩ := List.mem_iff_getElem.1 hx
  have h0 := freeN_zero (d := rndTo V n m m) (k := m) (by rw [rndTo_free V m (Nat.le_refl _)]; omega) g (by rwa [rndTo_length] at hg)
  rw [List.getD_eq_getElem?_getD, List.getElem?_eq_getElem hg] at h0
  rcases rndTo_mem V hn m _ (List.getElem_mem hg) with h | h
  · simp at h0; omega
  · exact h

/- Contract: Few of the laws' package, with rows that the caller may write. -/

/-- Rows of ints that the call owns, each in a later block than those before it. -/
def ORows (w : World) (base : Nat) (vs : List Value) (L : List (List Int)) : Prop :=
  vs.length = L.length ∧ (∀ (j : Nat) (os : List Int), L[j]? = some os → ∃ A c, vs[j]? = some (.slice A os.length c) ∧ w.ownsRow base 3 1 (.slice A os.length c) os.length (os.map (Value.int .i64))) ∧
  ∀ (i j : Nat) (a b : Addr) (n c n' c' : Nat), i < j → vs[i]? = some (.slice (some a) n c) → vs[j]? = some (.slice (some b) n' c') → a.block < b.block

theorem own_ne {w : World} {base base' n n' : Nat} {v v' : Value} {xs ys : List Value} (h : w.ownsRow base 3 1 v n xs) (h' : w.ownsRow base' 23 1 v' n' ys) (hs : v.ownBlock.isSome) : v.ownBlock ≠ v'.ownBlock := by
  intro he
  rcases h.2 with ⟨h0, _⟩ | ⟨g, cap, cur, hv, _, hg, _⟩
  · subst h0; cases hs
  · rcases h'.2 with ⟨h0, _⟩ | ⟨g', cap', cur', hv', _, hg', _⟩
    · subst h0; subst hv; cases he
    · subst hv; subst hv'
      injection he with he
      have : g = g' := he
      subst this
      rw [hg] at hg'
      injection hg' with h1
      injection h1 with _ h1 _
      exact absurd h1 (by decide)
theorem own_grown_ne {w w' : World} {base base' n n' : Nat} {v v' : Value} {xs ys : List Value} (h : w.ownsRow base 3 1 v n xs) (h' : w.ownsRow base' 23 1 v' n' ys) (hg : w.grownBy w' v'.ownBlock) : w'.ownsRow base 3 1 v n xs := by
  refine ⟨h.1, ?_⟩
  rcases h.2 with h0 | ⟨g, cap, cur, hv, a1, a2, a3⟩
  · exact .inl h0
  · refine .inr ⟨g, cap, cur, hv, a1, ?_, a3⟩
    have hne := own_ne h h' (by rw [hv]; rfl)
    rw [hv] at hne
    exact (hg.block g (lt_of_block a2) hne).trans a2
section
variable {w w' : World} {base : Nat} {vs : List Value} {L : List (List Int)}
theorem ORows.nil (w : World) (base : Nat) : ORows w base [] [] := ⟨rfl, fun j os h => by simp at h, fun i j a b n c n' c' _ h => by simp at h⟩
theorem ORows.below (h : ORows w base vs L) (hb : Below w.heap.size w w') : ORows w' base vs L :=
  ⟨h.1, fun j os hj => by obtain ⟨A, c, h1, h2⟩ := h.2.1 j os hj; exact ⟨A, c, h1, own_below h2 hb⟩, h.2.2⟩
theorem ORows.grown {base' n : Nat} {v' : Value} {xs : List Value} (h : ORows w base vs L) (hown : w.ownsRow base' 23 1 v' n xs) (hg : w.grownBy w' v'.ownBlock) : ORows w' base vs L :=
  ⟨h.1, fun j os hj => by obtain ⟨A, c, h1, h2⟩ := h.2.1 j os hj; exact ⟨A, c, h1, own_grown_ne h2 hown hg⟩, h.2.2⟩
theorem ORows.lt (h : ORows w base vs L) : ∀ (i : Nat) (a : Addr) (n c : Nat), vs[i]? = some (.slice (some a) n c) → a.block < w.heap.size := by
  intro i a n c hi
  have hil : i < L.length := by rw [← h.1]; exact (List.getElem?_eq_some_iff.1 hi).1
  obtain ⟨A, c', h1, h2⟩ := h.2.1 i _ (List.getElem?_eq_getElem hil)
  rw [h1] at hi
  injection hi with hi
  injection hi with e1 _ _
  subst e1
  rcases h2.2 with ⟨h0, _⟩ | ⟨g, cap, cur, hv, _, hg, _⟩
  · cases h0
  · injection hv with e1 _ _
    injection e1 with e1
    subst e1
    exact lt_of_block hg
theorem ORows.snoc {w2 : World} {b2 : Nat} {A : Option Addr} {c : Nat} {os : List Int} (h : ORows w2 base vs L) (hb : base ≤ b2) (hown : w2.ownsRow b2 3 1 (.slice A os.length c) os.length (os.map (Value.int .i64)))
    (hlt : ∀ (i : Nat) (a : Addr) (n c : Nat), vs[i]? = some (.slice (some a) n c) → a.block < b2) : ORows w2 base (vs ++ [.slice A os.length c]) (L ++ [os]) := by
  refine ⟨by simp [h.1], fun j r hj => ?_, fun i j a b n c1 n' c2 hij hi hj => ?_⟩
  · by_cases hl : j < L.length
    · rw [List.getElem?_append_left hl] at hj
      rw [List.getElem?_append_left (by rw [h.1]; exact hl)]
      exact h.2.1 j r hj
    · have hj' : j = L.length := by
        have := (List.getElem?_eq_some_iff.1 hj).1
        simp at this; omega
      subst hj'
      rw [List.getElem?_append_right (Nat.le_refl _)] at hj
      simp at hj
      subst hj
      refine ⟨A, c, by rw [List.getElem?_append_right (by rw [h.1]; exact Nat.le_refl _)]; simp [h.1], hown.1, ?_⟩
      rcases hown.2 with h0 | ⟨g, cap, cur, hv, a1, a2⟩
      · exact .inl h0
      · exact .inr ⟨g, cap, cur, hv, by omega, a2⟩
  · have hjl := (List.getElem?_eq_some_iff.1 hj).1
    simp at hjl
    rw [List.getElem?_append_left (by omega)] at hi
    by_cases hl : j < vs.length
    · rw [List.getElem?_append_left hl] at hj
      exact h.2.2 i j a b n c1 n' c2 hij hi hj
    · have : j = vs.length := by omega
      subst this
      rw [List.getElem?_append_right (Nat.le_refl _)] at hj
      simp at hj
      obtain ⟨e1, e2, e3⟩ := hj
      subst e1
      have h1 := hlt i a n c1 hi
      rcases hown.2 with ⟨h0, _⟩ | ⟨g, cap, cur, hv, a1, _⟩
      · cases h0
      · injection hv with e1 _ _
        injection e1 with e1
        subst e1
        show a.block < g
        omega
theorem ORows.rows (h : ORows w base vs L) : Rows w 0 vs L :=
  ⟨h.1, fun j os hj => by obtain ⟨A, c, h1, h2⟩ := h.2.1 j os hj; exact ⟨_, h1, Row1.of_own h2 0⟩⟩
/-- One row written anew. -/
theorem mat_row {A : Option Addr} {q c p cp gp : Nat} {os os' : List Int} (ho : w.ownsRow base 23 1 (.slice A q c) q vs) (hr : ORows w base vs L) (hp : L[p]? = some os) (hvp : vs[p]? = some (.slice (some ⟨gp, 0, none⟩) os.length cp)) (hk : Kept w.heap.size [gp] w w') (hI : Ints w' (some ⟨gp, 0, none⟩) os') (hl : os'.length = os.length) : Mat w' A (L.set p os') := by
  intro j r hj
  have hjl : j < L.length := by have := (List.getElem?_eq_some_iff.1 hj).1; simpa using this
  obtain ⟨A0, c0, hv0, hw0⟩ := hr.2.1 p os hp
  rw [hvp] at hv0
  injection hv0 with hv0
  injection hv0 with e1 _ e3
  subst e1; subst e3
  obtain ⟨A', c', hv, hown⟩ := hr.2.1 j _ (List.getElem?_eq_getElem hjl)
  obtain ⟨ad, hA, hc⟩ := At.of_own ho j _ hv
  subst hA
  have hne : ad.block ≠ gp := by
    have := own_ne hw0 ho rfl
    intro h
    apply this
    show some gp = some ad.block
    rw [h]
  have hc' : w'.cell? (ad.add j) = some (.slice A' (L[j]).length c') := by
    rw [hk.cell (by have := lt_of_cell hc; exact this) (by rw [add_block]; simpa using hne)]; exact hc
  obtain ⟨_, _, he, h1, h2, _⟩ := own_form hown
  injection he with e1 _ e3
  subst e1; subst e3
  by_cases e : p = j
  · subst e
    rw [List.getElem?_set_self hjl] at hj
    injection hj with hj
    subst hj
    have eL : L[p] = os := by rw [List.getElem?_eq_getElem hjl] at hp; injection hp
    rw [eL] at hc' h1 hv
    rw [hvp] at hv
    injection hv with hv
    injection hv with e1 _ e3
    subst e1; subst e3
    exact ⟨ad, _, _, rfl, by rw [hl]; exact hc', by rw [hl]; exact h1, h2, hI⟩
  · rw [List.getElem?_set_ne e, List.getElem?_eq_getElem hjl] at hj
    injection hj with hj
    subst hj
    refine ⟨ad, _, _, rfl, hc', h1, h2, ?_⟩
    have hIj : Ints w A' L[j] := At.of_own hown
    intro i v hiv
    obtain ⟨ad2, hA2, hc2⟩ := hIj i v hiv
    refine ⟨ad2, hA2, ?_⟩
    rw [hk.cell (lt_of_cell hc2) ?_]
    · exact hc2
    · rw [add_block]
      subst hA2
      have hb : ad2.block ≠ gp := by
        rcases Nat.lt_or_gt_of_ne e with h | h
        · have := hr.2.2 p j ⟨gp, 0, none⟩ ad2 _ _ _ _ h hvp hv
          have : gp < ad2.block := this
          omega
        · have := hr.2.2 j p ad2 ⟨gp, 0, none⟩ _ _ _ _ h hv hvp
          have : ad2.block < gp := this
          omega
      simpa using hb
end

set_option maxRecDepth 100000 in
set_option maxHeartbeats 1600000 in
theorem few3_any (A : Option Addr) (n cap : Nat) (V : List (List Int)) (w : World) (hl : V.length = n) (hn : n ≤ 9223372036854775807) (hV : Mat w A V) :
    Calls Try.prog 19 #[.slice A n cap] w fun e w' => ∃ A' q c vs, e = .returned (.slice A' q c) ∧ (fewV V).length = q ∧ q ≤ 6 ∧ q ≤ c ∧ c ≤ 9223372036854775807 ∧ w'.ownsRow w.heap.size 23 1 (.slice A' q c) q vs ∧ ORows w' w.heap.size vs (fewV V) ∧ Below w.heap.size w w' := by
  have H := Lib.hid (And.intro hl hV)
  clear hl hV
  go_enter Try.func19, Try.ntmps19
  go_wp2_with fail
  go_loopw [3, 8] (fun ov iv wr => ∃ (k : Nat) (B : Option Addr) (q bc : Nat) (vs : List Value), k ≤ n ∧ iv = .int .i64 k ∧ ov = .slice B q bc ∧ q = (fewV (V.take k)).length ∧ wr.ownsRow w.heap.size 23 1 (.slice B q bc) q vs ∧ ORows wr w.heap.size vs (fewV (V.take k)) ∧ Below w.heap.size w wr) (fun _ iv _ => n - (intOf iv).toNat)
  case atStart => exact ⟨0, none, 0, 0, [], Nat.zero_le _, rfl, rfl, rfl, World.ownsRow_nil _ _ _ _, ORows.nil _ _, Below.refl _ _⟩
  case round =>
    obtain ⟨k, B, q, bc, vs, hk, rfl, rfl, hq, hown, hrows, hbl⟩ := hrel
    obtain ⟨wo, rfl⟩ : ∃ wo : World, wo = wr := ⟨_, rfl⟩
    have hq6 : q ≤ 6 := by rw [hq, fewV_length]; omega
    have HR := Lib.hid (And.intro hown (And.intro hrows (And.intro hbl hq)))
    have hwsz := hbl.size
    clear hown hrows hbl hq
    by_cases hlt : k < n
    · obtain ⟨r, hr⟩ : ∃ r, V[k]? = some r := ⟨_, List.getElem?_eq_getElem (by have := H.out.1; omega)⟩
      obtain ⟨ad, A', c, rfl, hcell, hrc, hc2, hI⟩ := H.out.2 k r hr
      have hcell2 := (HR.out.2.2.1.cell (lt_of_cell hcell)).trans hcell
      obtain ⟨rl, hrl⟩ : ∃ rl, rl = r.length := ⟨_, rfl⟩
      rw [← hrl] at hcell2 hrc
      have HI := Lib.hid (And.intro (hI.below HR.out.2.2.1) (And.intro hrl hr))
      have l1 : (k : Int) < (n : Int) := by omega
      clear hr hcell hI hrl
      by_cases h6 : k < 6
      · go_wp2_with fail
        refine (list_any A' rl c r _ HI.out.2.1.symm hrc hc2 HI.out.1).mono ?_
        rintro e w2 ⟨A2, c2, rfl, hown2, hb2⟩
        have hb2' : Below wo.heap.size wo w2 := hb2
        have hw2 := hb2.size
        have hmin : min rl 9 = (r.take 9).length := by rw [List.length_take, HI.out.2.1]; omega
        have hown2' : w2.ownsRow wo.heap.size 3 1 (.slice A2 (r.take 9).length c2) (r.take 9).length ((r.take 9).map (Value.int .i64)) := by rw [← hmin]; exact hown2
        have hlo := HR.out.2.1.lt
        have H2 := Lib.hid (And.intro (own_below HR.out.1 hb2) (And.intro (HR.out.2.1.below hb2) (And.intro hown2' (And.intro hb2 (And.intro (fewV_on HI.out.2.2 h6) (And.intro hmin hlo))))))
        clear hown2 hown2' hb2 hb2' hmin hlo
        go_wp2_with (at_builtin; refine app1 sty_intss rfl _ _ rfl w.heap.size B q bc _ #[.slice A2 (min rl 9) c2] rfl (by simp [Value.oneCell']) rfl H2.out.1 rfl (by omega) (by omega) ?_)
        intro A8 k8 w8 hown8 hg8 hbl8 hk81 hk82
        have hrows8 : ORows w8 w.heap.size (vs ++ [.slice A2 (min rl 9) c2]) (fewV (V.take (k + 1))) := by
          rw [H2.out.2.2.2.2.1, H2.out.2.2.2.2.2.1]
          exact (H2.out.2.1.snoc hwsz H2.out.2.2.1 H2.out.2.2.2.2.2.2).grown H2.out.1 hg8
        have hlen8 : q + 1 = (fewV (V.take (k + 1))).length := by rw [H2.out.2.2.2.2.1, List.length_append, ← HR.out.2.2.2]; rfl
        have H8 := Lib.hid (And.intro hown8 (And.intro hrows8 (And.intro (HR.out.2.2.1.trans ((H2.out.2.2.2.1.mono hwsz).trans hbl8)) hlen8)))
        clear hown8 hg8 hbl8 hrows8 hlen8
        go_wp2_with fail
        go_roundw
        case rel => exact ⟨k + 1, A8, q + 1, k8, _, by omega, by go_num, by go_num, H8.out.2.2.2, H8.out.1, H8.out.2.1, H8.out.2.2.1⟩
        case measure => simp [intOf]; omega
      · have HE := Lib.hid (fewV_off (V := V) (k := k) (by omega))
        go_wp2_with fail
        go_roundw
        case rel => exact ⟨k + 1, B, q, bc, vs, by omega, by go_num, rfl, by rw [HE.out]; exact HR.out.2.2.2, HR.out.1, by rw [HE.out]; exact HR.out.2.1, HR.out.2.2.1⟩
        case measure => simp [intOf]; omega
    · obtain rfl : k = n := by omega
      go_wp2_with fail
      go_ret
      have hT : V.take k = V := List.take_of_length_le (by have := H.out.1; omega)
      obtain ⟨g1, g2, g3, g4⟩ := HR.out
      rw [hT] at g2 g4
      obtain ⟨A', c', he, h1, h2, _⟩ := own_form g1
      injection he with e1 e2 e3
      subst e1; subst e3
      exact ⟨B, q, bc, vs, rfl, g4.symm, hq6, h1, h2, g1, g2, g3⟩

/- Slices of pairs of ints: memory, append, and slices.Equal. -/

theorem info_pair : (Try.prog.info? 38).map (fun i => (i.zero, i.size, i.bytes)) = some (some (.agg #[.int .i64 0, .int .i64 0]), 2, 16) := by kernel_rfl
theorem sty_pair : STy 42 38 (.agg #[.int .i64 0, .int .i64 0]) 2 16 := ⟨Try.underlying42, info_pair, rfl, by decide, by decide⟩

/-- The cells of pairs. -/
def pcells (ps : List (Nat × Nat)) : List Value := ps.flatMap fun p => [.int .i64 (p.1 : Int), .int .i64 (p.2 : Int)]
theorem pcells_append (a b : List (Nat × Nat)) : pcells (a ++ b) = pcells a ++ pcells b := by simp [pcells]
theorem pcells_length (ps : List (Nat × Nat)) : (pcells ps).length = ps.length * 2 := by
  induction ps with
  | nil => rfl
  | cons p ps ih => simp [pcells] at ih ⊢; omega
theorem pcells_at (ps : List (Nat × Nat)) (k : Nat) (p : Nat × Nat) (h : ps[k]? = some p) : (pcells ps)[k * 2]? = some (.int .i64 (p.1 : Int)) ∧ (pcells ps)[k * 2 + 1]? = some (.int .i64 (p.2 : Int)) := by
  induction ps generalizing k with
  | nil => simp at h
  | cons q ps ih =>
    cases k with
    | zero => simp at h; subst h; simp [pcells]
    | succ k =>
      have := ih k (by simpa using h)
      have e1 : (k + 1) * 2 = k * 2 + 1 + 1 := by omega
      rw [e1]
      simpa [pcells] using this
/-- The slice at A reads as these pairs. -/
def Pairs (w : World) (A : Option Addr) (ps : List (Nat × Nat)) : Prop := At w A (pcells ps)
theorem Pairs.some_ {w : World} {A : Option Addr} {ps : List (Nat × Nat)} (h : Pairs w A ps) (hn : 0 < ps.length) : ∃ ad, A = some ad ∧ ad.block < w.heap.size ∧ ∀ i p, ps[i]? = some p → w.cell? (ad.add (i * 2)) = some (.int .i64 (p.1 : Int)) ∧ w.cell? ⟨(ad.add (i * 2)).block, (ad.add (i * 2)).off + 1, none⟩ = some (.int .i64 (p.2 : Int)) := by
  obtain ⟨ad, e, hb, hc⟩ := At.some_ h (by rw [pcells_length]; omega)
  refine ⟨ad, e, hb, fun i q hq => ?_⟩
  obtain ⟨h1, h2⟩ := pcells_at ps i q hq
  refine ⟨hc _ _ h1, ?_⟩
  have h3 := hc _ _ h2
  rw [← add_add] at h3
  exact h3
theorem Pairs.below {w w' : World} {A : Option Addr} {ps : List (Nat × Nat)} (h : Pairs w A ps) (hb : Below w.heap.size w w') : Pairs w' A ps := At.below h hb

theorem plain_int : Try.prog.plainKey 3 = true := by kernel_rfl
theorem cells_int : Try.prog.cellsOf 3 = 1 := by kernel_rfl
theorem eq_pair (a b c d : Int) (w : World) : (Op.equalIn 10000 38 (.agg #[.int .i64 a, .int .i64 b]) (.agg #[.int .i64 c, .int .i64 d])).run Try.prog w = .ok (decide (a = c) && decide (b = d)) w := by
  obtain ⟨i0, hi, _⟩ := info_parts info_int
  have h := run_equalIn_array (P := Try.prog) w 9999 (t := 38) (e := 3) (n := 2) #[.int .i64 a, .int .i64 b] #[.int .i64 c, .int .i64 d] Try.underlying38 hi
  rw [show (10000 : Nat) = 9999 + 1 from rfl, h, cells_int]
  have p0 : ∀ x y : Value, (part 3 #[x, y] (0 * 1)).run Try.prog w = .ok x w := fun x y => run_part_plain w plain_int rfl
  have p1 : ∀ x y : Value, (part 3 #[x, y] 1).run Try.prog w = .ok y w := fun x y => run_part_plain w plain_int rfl
  have q : ∀ x y : Int, (Op.equalIn 9999 3 (.int .i64 x) (.int .i64 y)).run Try.prog w = .ok (x == y) w := fun x y => run_equalIn_int w 9998 3 .i64 .i64 x y Try.underlying3
  show (Op.eqItems 9999 3 1 _ _ [0, 1]).run Try.prog w = _
  simp only [Op.eqItems, Sem.run_bind, p0, q, Result.andThen_ok]
  by_cases h1 : a = c
  · by_cases h2 : b = d
    · simp [h1, h2, p1, q, Sem.run_bind]
    · have : (b == d) = false := by simp [h2]
      simp [h1, h2, p1, q, Sem.run_bind, this]
  · have : (a == c) = false := by simp [h1]
    simp [h1, this]
theorem run_neq_pair (p q : Nat × Nat) (w : World) : (binOp .neq 38 (.agg #[.int .i64 (p.1 : Int), .int .i64 (p.2 : Int)]) (.agg #[.int .i64 (q.1 : Int), .int .i64 (q.2 : Int)])).run Try.prog w = .ok (.bool (decide (p ≠ q))) w := by
  have e0 : decide (p ≠ q) = !(decide ((p.1 : Int) = (q.1 : Int)) && decide ((p.2 : Int) = (q.2 : Int))) := by
    rw [Bool.eq_iff_iff]; simp only [ne_eq, Prod.ext_iff, decide_eq_true_eq, Bool.not_eq_true', Bool.and_eq_false_iff, decide_eq_false_iff_not]
    constructor
    · intro h
      by_cases h1 : p.1 = q.1
      · exact .inr fun h2 => h ⟨h1, by omega⟩
      · exact .inl fun h2 => h1 (by omega)
    · rintro (h | h) ⟨h1, h2⟩
      · exact h (by omega)
      · exact h (by omega)
  rw [e0]
  have h := eq_pair (p.1 : Int) p.2 q.1 q.2 w
  go_simp

set_option maxHeartbeats 800000 in
theorem equalP_any (A A' : Option Addr) (n n' cap cap' : Nat) (ps qs : List (Nat × Nat)) (w : World) (hl : ps.length = n) (hl' : qs.length = n') (hm : n ≤ 1000000) (h : Pairs w A ps) (h' : Pairs w A' qs) :
    Calls Try.prog 33 #[.slice A n cap, .slice A' n' cap'] w fun e w' => e = .returned (.bool (eqB ps qs)) ∧ ∃ m, w' = w.drewN m := by
  by_cases hnn : n = n'
  · subst hnn
    by_cases h0 : n = 0
    · subst h0
      obtain rfl := List.eq_nil_of_length_eq_zero hl
      obtain rfl := List.eq_nil_of_length_eq_zero hl'
      go_enter Try.func33, Try.ntmps33
      go_wp2
      refine wp_loop_rounds 1 ?_
      rw [rounds_succ]
      go_wp2
      go_ret
      exact ⟨rfl, 0, rfl⟩
    · obtain ⟨ad, rfl, _, hc⟩ := h.some_ (by omega)
      obtain ⟨ad', rfl, _, hc'⟩ := h'.some_ (by omega)
      have H := Lib.hid (And.intro hl (And.intro hl' (And.intro hc hc')))
      clear hl hl' hc hc' h h'
      go_enter Try.func33, Try.ntmps33
      go_wp2
      go_loopw [13] (fun iv wr => ∃ k : Nat, k ≤ n ∧ iv = .int .i64 k ∧ ps.take k = qs.take k ∧ ∃ m, wr = w.drewN m) (fun iv _ => n - (intOf iv).toNat)
      case atStart => exact ⟨0, Nat.zero_le _, rfl, rfl, 0, rfl⟩
      case round =>
        obtain ⟨k, hk, rfl, ht, m, rfl⟩ := hrel
        have HT := Lib.hid ht
        clear ht
        obtain ⟨hl, hl', hc, hc'⟩ := H.out
        by_cases hlt : k < n
        · obtain ⟨p, hp⟩ : ∃ p, ps[k]? = some p := ⟨_, List.getElem?_eq_getElem (by omega)⟩
          obtain ⟨q, hq⟩ : ∃ q, qs[k]? = some q := ⟨_, List.getElem?_eq_getElem (by omega)⟩
          obtain ⟨c1, c2⟩ := hc k p hp
          obtain ⟨c3, c4⟩ := hc' k q hq
          have HP := Lib.hid (And.intro hp hq)
          clear hp hq hc hc' hl hl'
          by_cases he : p = q
          · subst he
            have heq : ∀ w, (binOp .neq 38 (.agg #[.int .i64 (p.1 : Int), .int .i64 (p.2 : Int)]) (.agg #[.int .i64 (p.1 : Int), .int .i64 (p.2 : Int)])).run Try.prog w = .ok (.bool false) w := fun w => by
              rw [run_neq_pair]; simp
            go_wp2
            go_region
            all_goals go_wp2
            go_roundw
            case rel => exact ⟨k + 1, by omega, by go_num, take_eq_succ HP.out.1 HP.out.2 HT.out, m + 1, rfl⟩
            case measure => simp [intOf]; omega
          · have HNE := Lib.hid he
            have hne : ∀ w, (binOp .neq 38 (.agg #[.int .i64 (p.1 : Int), .int .i64 (p.2 : Int)]) (.agg #[.int .i64 (q.1 : Int), .int .i64 (q.2 : Int)])).run Try.prog w = .ok (.bool true) w := fun w => by
              rw [run_neq_pair]; simp [he]
            clear he
            go_wp2
            go_region
            all_goals go_wp2
            go_ret
            exact ⟨ret_bool (eqB_at HP.out.1 HP.out.2 HNE.out).symm, m + 1, rfl⟩
        · obtain rfl : k = n := by omega
          have HF : Hid (eqB ps qs = true) := Lib.hid (eqB_all hl hl' HT.out)
          clear hl hl' hc hc'
          go_wp2
          go_ret
          exact ⟨ret_bool HF.out.symm, m, rfl⟩
  · have HF : Hid (eqB ps qs = false) := Lib.hid (eqB_len (by omega))
    have hne : ((n : Int) != (n' : Int)) = true := by rw [bne_iff_ne]; omega
    clear hl hl' h h'
    go_enter Try.func33, Try.ntmps33
    go_wp2
    go_ret
    exact ⟨ret_bool HF.out.symm, 0, rfl⟩

/- Contracts: envies and envy of package split. -/

set_option maxHeartbeats 800000 in
theorem senvies_any (A : Option Addr) (n cap : Nat) (D : Option Addr) (m capd i j : Nat) (V : List (List Int)) (d : List Int) (w : World) (hl : V.length = n) (hn : n ≤ 1000) (hi : i < n) (hld : d.length = m) (hm : m ≤ 1000)
    (hr : (rowV V i).length = m) (hrb : ∀ x ∈ rowV V i, 0 ≤ x ∧ x ≤ 100) (hV : Mat w A V) (hD : Ints w D d) :
    Calls Try.prog 95 #[.slice A n cap, .slice D m capd, .int .i64 i, .int .i64 j] w fun e w' => e = .returned (.bool (envB V d i j)) ∧ w = w' := by
  have H := Lib.hid (And.intro hl (And.intro hld (And.intro hr (And.intro hrb (And.intro hV hD)))))
  clear hl hld hr hrb hV hD
  go_enter Try.func95, Try.ntmps95
  go_wp2_with fail
  refine (worth_any A n cap D m capd i (j : Int) V d _ H.out.1 hn hi H.out.2.1 hm H.out.2.2.1 H.out.2.2.2.1 H.out.2.2.2.2.1 H.out.2.2.2.2.2).mono ?_
  rintro e w' ⟨rfl, rfl⟩
  obtain ⟨a, ha⟩ : ∃ a, a = wor V d i (j : Int) := ⟨_, rfl⟩
  rw [← ha]
  have HA := Lib.hid ha
  clear ha
  go_wp2_with fail
  refine (worth_any A n cap D m capd i (i : Int) V d _ H.out.1 hn hi H.out.2.1 hm H.out.2.2.1 H.out.2.2.2.1 H.out.2.2.2.2.1 H.out.2.2.2.2.2).mono ?_
  rintro e w' ⟨rfl, rfl⟩
  obtain ⟨b, hb⟩ : ∃ b, b = wor V d i (i : Int) := ⟨_, rfl⟩
  rw [← hb]
  have HB : Hid (decide (b < a) = envB V d i j) := Lib.hid (by unfold envB; rw [HA.out, hb])
  clear hb
  go_wp2_with fail
  go_ret
  exact ⟨ret_bool HB.out, rfl⟩

/-- What envy leaves. -/
def SEnvyPost (ps : List (Nat × Nat)) (w : World) (e : Ending) (w' : World) : Prop :=
  ∃ A c, e = .returned (.slice A ps.length c) ∧ ps.length ≤ 1000 ∧ Pairs w' A ps ∧ Below w.heap.size w w'

set_option maxRecDepth 100000 in
set_option maxHeartbeats 1600000 in
theorem senvy_any (A : Option Addr) (n cap : Nat) (D : Option Addr) (m capd : Nat) (V : List (List Int)) (d : List Int) (w : World) (hl : V.length = n) (hn : n ≤ 10) (hld : d.length = m) (hm : m ≤ 1000)
    (hr : ∀ i, i < n → (rowV V i).length = m ∧ ∀ x ∈ rowV V i, 0 ≤ x ∧ x ≤ 100) (hV : Mat w A V) (hD : Ints w D d) :
    Calls Try.prog 64 #[.slice A n cap, .slice D m capd] w (SEnvyPost (envL V d n) w) := by
  have H := Lib.hid (And.intro hl (And.intro hld (And.intro hr (And.intro hV hD))))
  clear hl hld hr hV hD
  go_enter Try.func64, Try.ntmps64
  go_wp2_with fail
  go_loopw [5, 10] (fun ov iv wr => ∃ (i : Nat) (B : Option Addr) (q bc : Nat), i ≤ n ∧ iv = .int .i64 i ∧ ov = .slice B q bc ∧ q = (envTo V d n i).length ∧ wr.ownsRow w.heap.size 38 2 (.slice B q bc) q (pcells (envTo V d n i)) ∧ Below w.heap.size w wr) (fun _ iv _ => n - (intOf iv).toNat)
  case atStart => exact ⟨0, none, 0, 0, Nat.zero_le _, rfl, rfl, rfl, World.ownsRow_nil _ _ _ _, Below.refl _ _⟩
  case round =>
    obtain ⟨i, B, q, bc, hi, rfl, rfl, hq, hown, hbl⟩ := hrel
    obtain ⟨wo, rfl⟩ : ∃ wo : World, wo = wr := ⟨_, rfl⟩
    have HR := Lib.hid (And.intro hq (And.intro hown hbl))
    clear hq hown hbl
    by_cases hlt : i < n
    · have l1 : (i : Int) < (n : Int) := by omega
      go_wp2_with fail
      go_loopw [5, 15] (fun ov jv wr => ∃ (j : Nat) (B : Option Addr) (q bc : Nat), j ≤ n ∧ jv = .int .i64 j ∧ ov = .slice B q bc ∧ q = (envTo V d n i ++ envRow V d i j).length ∧ wr.ownsRow w.heap.size 38 2 (.slice B q bc) q (pcells (envTo V d n i ++ envRow V d i j)) ∧ Below w.heap.size w wr) (fun _ jv _ => n - (intOf jv).toNat)
      case atStart => exact ⟨0, B, q, bc, Nat.zero_le _, rfl, rfl, by rw [HR.out.1]; simp [envRow], by have := HR.out.2.1; simpa [envRow] using this, HR.out.2.2⟩
      case round =>
        obtain ⟨j, B1, q1, bc1, hj, rfl, rfl, hq1, hown1, hbl1⟩ := hrel
        have hq100 : q1 ≤ 200 := by
          rw [hq1, List.length_append]
          have h1 := envTo_length V d n i
          have h2 := envRow_length V d i j
          have h3 : n * i ≤ 10 * 10 := Nat.mul_le_mul (by omega) (by omega)
          omega
        have hwsz := hbl1.size
        have HJ := Lib.hid (And.intro hq1 (And.intro hown1 hbl1))
        clear hq1 hown1 hbl1
        by_cases hlj : j < n
        · have l2 : (j : Int) < (n : Int) := by omega
          go_wp2_with fail
          refine (senvies_any A n cap D m capd i j V d _ H.out.1 (by omega) hlt H.out.2.1 hm (H.out.2.2.1 i hlt).1 (H.out.2.2.1 i hlt).2 (H.out.2.2.2.1.below HJ.out.2.2) (H.out.2.2.2.2.below HJ.out.2.2)).mono ?_
          rintro e w' ⟨rfl, rfl⟩
          have hs := envRow_succ V d i j
          obtain ⟨b, hb⟩ : ∃ b, b = envB V d i j := ⟨_, rfl⟩
          rw [← hb] at hs ⊢
          have HS := Lib.hid hs
          clear hs hb
          cases b
          · go_wp2_with fail
            go_roundw
            case rel =>
              refine ⟨j + 1, B1, q1, bc1, by omega, by go_num, rfl, ?_, ?_, HJ.out.2.2⟩
              · rw [HS.out]; simpa using HJ.out.1
              · rw [HS.out]; simpa using HJ.out.2.1
            case measure => simp [intOf]; omega
          · have HNEW : Hid (pcells (envTo V d n i ++ envRow V d i (j + 1)) = pcells (envTo V d n i ++ envRow V d i j) ++ [.int .i64 (i : Int), .int .i64 (j : Int)] ∧ (envTo V d n i ++ envRow V d i (j + 1)).length = (envTo V d n i ++ envRow V d i j).length + 1) := Lib.hid (by
              rw [HS.out]
              simp only [if_true, ← List.append_assoc, pcells_append]
              exact ⟨rfl, by simp; omega⟩)
            go_wp2_with (at_builtin; refine app1 sty_pair rfl _ _ rfl w.heap.size B1 q1 bc1 _ #[.int .i64 (i : Int), .int .i64 (j : Int)] rfl (by simp [Value.oneCell']) rfl HJ.out.2.1 rfl (by omega) (by omega) ?_)
            intro A4 k4 w4 hown4 _ hbl4 hk41 hk42
            have hown4' : w4.ownsRow w.heap.size 38 2 (.slice A4 (q1 + 1) k4) (q1 + 1) (pcells (envTo V d n i ++ envRow V d i (j + 1))) := by rw [HNEW.out.1]; exact hown4
            have H4 := Lib.hid (And.intro hown4' (HJ.out.2.2.trans hbl4))
            clear hown4 hown4' hbl4
            go_wp2_with fail
            go_roundw
            case rel => exact ⟨j + 1, A4, q1 + 1, k4, by omega, by go_num, by go_num, by rw [HNEW.out.2, HJ.out.1], H4.out.1, H4.out.2⟩
            case measure => simp [intOf]; omega
        · obtain rfl : j = n := by omega
          go_wp2_with fail
          go_roundw
          case rel => exact ⟨i + 1, B1, q1, bc1, by omega, by go_num, rfl, by rw [envTo_succ]; exact HJ.out.1, by rw [envTo_succ]; exact HJ.out.2.1, HJ.out.2.2⟩
          case measure => simp [intOf]; omega
    · obtain rfl : i = n := by omega
      go_wp2_with fail
      go_ret
      refine ⟨B, bc, ?_, ?_, At.of_own HR.out.2.1, HR.out.2.2⟩
      · have h := HR.out.1; unfold envL; rw [← h]; rfl
      · have h1 := envTo_length V d i i
        have h3 : i * i ≤ 10 * 10 := Nat.mul_le_mul (by omega) (by omega)
        unfold envL; omega

/- Contracts: Envy, up and part of package split. -/

theorem sum_take' {l : List Int} {k : Nat} {x : Int} (h : l[k]? = some x) : (l.take (k + 1)).sum = (l.take k).sum + x := by
  rw [List.take_add_one, h, List.sum_append]; simp
theorem sum_bd' {l : List Int} (h : ∀ x ∈ l, 0 ≤ x ∧ x ≤ 100) : 0 ≤ l.sum ∧ l.sum ≤ 100 * l.length := by
  induction l with
  | nil => simp
  | cons y l ih =>
    have h1 := h y (List.mem_cons_self ..)
    have h2 := ih fun x hx => h x (List.mem_cons_of_mem _ hx)
    simp only [List.length_cons, List.sum_cons]
    omega
theorem wor_bd {V : List (List Int)} {d : List Int} {i m : Nat} {j : Int} (hrb : ∀ x ∈ rowV V i, 0 ≤ x ∧ x ≤ 100) (hld : d.length = m) : 0 ≤ wor V d i j ∧ wor V d i j ≤ 100 * m := by
  unfold wor; rw [hld]; exact worTo_bd hrb d j m

set_option maxHeartbeats 1600000 in
theorem sup_any (A : Option Addr) (n cap : Nat) (D : Option Addr) (m capd i j : Nat) (any : Bool) (V : List (List Int)) (d : List Int) (w : World) (hl : V.length = n) (hn : n ≤ 1000) (hi : i < n) (hld : d.length = m) (hm : m ≤ 1000)
    (hr : (rowV V i).length = m) (hrb : ∀ x ∈ rowV V i, 0 ≤ x ∧ x ≤ 100) (hV : Mat w A V) (hD : Ints w D d) :
    Calls Try.prog 93 #[.slice A n cap, .slice D m capd, .int .i64 i, .int .i64 j, .bool any] w fun e w' => e = .returned (.bool (upB V d i j any)) ∧ w = w' := by
  obtain ⟨ad, rfl, _, hc⟩ := hV.some_ (by omega)
  obtain ⟨A', c, h1, h2, h3, h4⟩ := hc i _ (List.getElem?_eq_getElem (by omega))
  have er : rowV V i = V[i]'(by omega) := rowV_get (List.getElem?_eq_getElem (by omega))
  rw [← er] at h1 h2 h4
  rw [hr] at h1 h2
  have b1 := wor_bd (V := V) (d := d) (i := i) (j := (j : Int)) hrb hld
  have b2 := wor_bd (V := V) (d := d) (i := i) (j := (i : Int)) hrb hld
  have hub : upB V d i j any = upTo V d i j any m := by unfold upB; rw [hld]
  have H := Lib.hid (And.intro hl (And.intro hld (And.intro hr (And.intro hrb (And.intro hV (And.intro hD (And.intro h4 hub)))))))
  have l1 : (i : Int) < (n : Int) := by omega
  clear hl hld hr hrb hV hD hc h4 er hub
  go_enter Try.func93, Try.ntmps93
  go_wp2_with fail
  refine (worth_any (some ad) n cap D m capd i (i : Int) V d _ H.out.1 hn hi H.out.2.1 hm H.out.2.2.1 H.out.2.2.2.1 H.out.2.2.2.2.1 H.out.2.2.2.2.2.1).mono ?_
  rintro e w' ⟨rfl, rfl⟩
  obtain ⟨o, ho⟩ : ∃ o, o = wor V d i (i : Int) := ⟨_, rfl⟩
  rw [← ho] at b2 ⊢
  have HO := Lib.hid ho
  clear ho
  go_wp2_with fail
  refine (worth_any (some ad) n cap D m capd i (j : Int) V d _ H.out.1 hn hi H.out.2.1 hm H.out.2.2.1 H.out.2.2.2.1 H.out.2.2.2.2.1 H.out.2.2.2.2.2.1).mono ?_
  rintro e w' ⟨rfl, rfl⟩
  obtain ⟨s, hs⟩ : ∃ s, s = wor V d i (j : Int) := ⟨_, rfl⟩
  rw [← hs] at b1 ⊢
  have HS := Lib.hid hs
  clear hs
  go_wp2_with fail
  go_loop [28] (fun gv => ∃ g : Nat, g ≤ m ∧ gv = .int .i64 g ∧ upTo V d i j any g = any) (fun gv => m - (intOf gv).toNat)
  case atStart => exact ⟨0, Nat.zero_le _, rfl, upTo_zero _ _ _ _ _⟩
  case round =>
    obtain ⟨g, hg, rfl, hup⟩ := hrel
    have HU := Lib.hid hup
    clear hup
    by_cases hlt : g < m
    · obtain ⟨y, hy⟩ : ∃ y, d[g]? = some y := ⟨_, List.getElem?_eq_getElem (by have := H.out.2.1; omega)⟩
      obtain ⟨x, hx⟩ : ∃ x, (rowV V i)[g]? = some x := ⟨_, List.getElem?_eq_getElem (by have := H.out.2.2.1; omega)⟩
      obtain ⟨dd, rfl, hcd⟩ := H.out.2.2.2.2.2.1 g (.int .i64 y) (by rw [List.getElem?_map, hy]; rfl)
      obtain ⟨rd, rfl, hcr⟩ := H.out.2.2.2.2.2.2.1 g (.int .i64 x) (by rw [List.getElem?_map, hx]; rfl)
      have hxb := H.out.2.2.2.1 x (List.mem_of_getElem? hx)
      have hdg : d.getD g 0 = y := by rw [List.getD_eq_getElem?_getD, hy]; rfl
      have hxg : (rowV V i).getD g 0 = x := by rw [List.getD_eq_getElem?_getD, hx]; rfl
      have hen : enough V d i j g = decide (s - x ≤ o) := by unfold enough; rw [hxg, ← HS.out, ← HO.out]
      have l2 : (g : Int) < (m : Int) := by omega
      have l3 : (0 : Int) ≤ (i : Int) := by omega
      by_cases he : y = (j : Int)
      · subst he
        have hbn : ((j : Int) != (j : Int)) = false := by simp
        have HD := Lib.hid (And.intro hdg (And.intro hen H.out.2.1))
        clear hy hx hdg hxg hen
        by_cases hle : s - x ≤ o
        · have HE : Hid (enough V d i j g = true) := Lib.hid (by rw [HD.out.2.1]; exact decide_eq_true hle)
          cases any
          · have HR : Hid (true = upB V d i j false) := Lib.hid (by rw [upTo_diff HD.out.1 (by rw [HD.out.2.2]; exact hlt) (by rw [HE.out]; simp), HE.out])
            go_wp2_with fail
            go_ret
            exact ⟨ret_bool HR.out, rfl⟩
          · have HN := Lib.hid (upTo_same HE.out HU.out)
            go_wp2_with fail
            go_round
            case rel => exact ⟨g + 1, by omega, by go_num, HN.out⟩
            case measure => simp [intOf]; omega
        · have HE : Hid (enough V d i j g = false) := Lib.hid (by rw [HD.out.2.1]; exact decide_eq_false hle)
          cases any
          · have HN := Lib.hid (upTo_same HE.out HU.out)
            go_wp2_with fail
            go_round
            case rel => exact ⟨g + 1, by omega, by go_num, HN.out⟩
            case measure => simp [intOf]; omega
          · have HR : Hid (false = upB V d i j true) := Lib.hid (by rw [upTo_diff HD.out.1 (by rw [HD.out.2.2]; exact hlt) (by rw [HE.out]; simp), HE.out])
            go_wp2_with fail
            go_ret
            exact ⟨ret_bool HR.out, rfl⟩
      · have hbn : (y != (j : Int)) = true := by rw [bne_iff_ne]; exact he
        have HN : Hid (upTo V d i j any (g + 1) = any) := Lib.hid (by rw [upTo_other (by rw [hdg]; exact he)]; exact HU.out)
        clear hy hx hdg hxg hen he
        go_wp2_with fail
        go_round
        case rel => exact ⟨g + 1, by omega, by go_num, HN.out⟩
        case measure => simp [intOf]; omega
    · obtain rfl : g = m := by omega
      have HR : Hid (any = upB V d i j any) := Lib.hid (by rw [H.out.2.2.2.2.2.2.2]; exact HU.out.symm)
      go_wp2_with fail
      go_ret
      exact ⟨ret_bool HR.out, rfl⟩

set_option maxHeartbeats 1600000 in
theorem spart_any (A : Option Addr) (n cap : Nat) (D : Option Addr) (m capd i : Nat) (x : Int) (V : List (List Int)) (d : List Int) (w : World) (hl : V.length = n) (hn : n ≤ 10) (hi : i < n) (hld : d.length = m) (hm : m ≤ 1000) (hx : 0 ≤ x ∧ x ≤ 100)
    (hr : (rowV V i).length = m) (hrb : ∀ x ∈ rowV V i, 0 ≤ x ∧ x ≤ 100) (hV : Mat w A V) (hD : Ints w D d) :
    Calls Try.prog 94 #[.slice A n cap, .slice D m capd, .int .i64 i, .int .i64 x] w fun e w' => e = .returned (.bool (partB V d n i x)) ∧ w = w' := by
  obtain ⟨ad, rfl, _, hc⟩ := hV.some_ (by omega)
  obtain ⟨A', c, h1, h2, h3, h4⟩ := hc i _ (List.getElem?_eq_getElem (by omega))
  have er : rowV V i = V[i]'(by omega) := rowV_get (List.getElem?_eq_getElem (by omega))
  rw [← er] at h1 h2 h4
  rw [hr] at h1 h2
  have b2 := wor_bd (V := V) (d := d) (i := i) (j := (i : Int)) hrb hld
  have H := Lib.hid (And.intro hl (And.intro hld (And.intro hr (And.intro hrb (And.intro hV (And.intro hD h4))))))
  have l1 : (i : Int) < (n : Int) := by omega
  clear hl hld hr hrb hV hD hc h4 er
  go_enter Try.func94, Try.ntmps94
  go_wp2_with fail
  go_loop [9, 17] (fun sv gv => ∃ g : Nat, g ≤ m ∧ gv = .int .i64 g ∧ sv = .int .i64 ((rowV V i).take g).sum) (fun _ gv => m - (intOf gv).toNat)
  case atStart => exact ⟨0, Nat.zero_le _, rfl, rfl⟩
  case round =>
    obtain ⟨g, hg, rfl, rfl⟩ := hrel
    by_cases hlt : g < m
    · obtain ⟨y, hy⟩ : ∃ y, (rowV V i)[g]? = some y := ⟨_, List.getElem?_eq_getElem (by have := H.out.2.2.1; omega)⟩
      obtain ⟨rd, rfl, hcr⟩ := H.out.2.2.2.2.2.2 g (.int .i64 y) (by rw [List.getElem?_map, hy]; rfl)
      have hyb := H.out.2.2.2.1 y (List.mem_of_getElem? hy)
      have HS := Lib.hid (sum_take' hy)
      have hsb := sum_bd' (l := (rowV V i).take g) fun x hx => H.out.2.2.2.1 x (List.mem_of_mem_take hx)
      have htl : ((rowV V i).take g).length ≤ 1000 := by rw [List.length_take]; omega
      have l2 : (g : Int) < (m : Int) := by omega
      generalize ((rowV V i).take g).sum = sv at HS hsb ⊢
      have hsv : 0 ≤ sv ∧ sv ≤ 100000 := by omega
      clear hy hsb htl
      go_wp2_with fail
      go_round
      case rel => exact ⟨g + 1, by omega, by go_num, by rw [HS.out]⟩
      case measure => simp [intOf]; omega
    · obtain rfl : g = m := by omega
      have hT : (rowV V i).take g = rowV V i := List.take_of_length_le (by rw [H.out.2.2.1]; omega)
      rw [hT]
      obtain ⟨all, hall⟩ : ∃ all, all = (rowV V i).sum := ⟨_, rfl⟩
      rw [← hall]
      have HALL := Lib.hid hall
      clear hT hall
      go_wp2_with fail
      refine (worth_any (some ad) n cap D g capd i (i : Int) V d _ H.out.1 (by omega) hi H.out.2.1 hm H.out.2.2.1 H.out.2.2.2.1 H.out.2.2.2.2.1 H.out.2.2.2.2.2.1).mono ?_
      rintro e w' ⟨rfl, rfl⟩
      obtain ⟨o, ho⟩ : ∃ o, o = wor V d i (i : Int) := ⟨_, rfl⟩
      rw [← ho] at b2 ⊢
      have HO := Lib.hid ho
      have hp : 0 ≤ (o + x) * (n : Int) ∧ (o + x) * (n : Int) ≤ 1001000 := by
        refine ⟨Int.mul_nonneg (by omega) (by omega), ?_⟩
        exact Int.le_trans (Int.mul_le_mul (show o + x ≤ 100100 by omega) (show (n : Int) ≤ 10 by omega) (by omega) (by omega)) (by omega)
      have HF : Hid (decide (all ≤ (o + x) * (n : Int)) = partB V d n i x) := Lib.hid (by unfold partB; rw [HALL.out, HO.out])
      clear ho
      go_wp2_with fail
      go_ret
      exact ⟨ret_bool HF.out, rfl⟩
end Go.Proofs.Ytkljambjdiblkaa
